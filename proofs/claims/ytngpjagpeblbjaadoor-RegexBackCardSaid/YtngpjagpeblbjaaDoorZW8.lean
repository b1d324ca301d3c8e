/-
  Walk of list of a set of places, of which only the first word is not 0.
-/
import Derived.Test.YtngpjagpeblbjaaDoorZW7
import Derived.Test.YtngpjagpeblbjaaDoorAA
import Derived.Deep.AppendLies
namespace Go.Proofs.YtngpjagpeblbjaaDoor
open Go.RowKit Go.Spy Go.Rx




def intC (p : Nat) : Value := .int .i64 p
/-- The slice value holds these numbers, and owns them. -/
def OwnI (w : World) (base : Nat) (v : Value) (l : List Nat) : Prop := w.ownsRow base 3 1 v l.length (l.map intC)

theorem Tryd.infoInt : (Tryd.prog.info? 3).map (fun i => (i.zero, i.size, i.bytes)) = some (some (.int .i64 0), 1, 8) := by kernel_rfl

/-- A number comes behind numbers, as the walk takes it. -/
theorem wpList_int {w0 : World} {base : Nat} {v : Value} {l : List Nat} (hown : Hid (OwnI w0 base v l)) (hb : base ≤ w0.heap.size) (hn : l.length + 1 ≤ 1000000000) (p : Nat) (H : Nat) (hH : w0.heap.size = H)
    {ops : Array Oper} {rest : List Oper} {o : Oper} {a : Act} {Q : Exit → Act → World → Prop} (hgd : o.guard = none) (s x : Operand)
    (ho : o.op = .call { callee := .builtin .append, args := #[s, x], argTypes := #[47, 47] }) (hs : a.eval s = v) (hx : a.eval x = .slice (some ⟨H, 0, none⟩) 1 1)
    (hK : ∀ (g cap : Nat) (v' : Value) (w4 : World), v' = .slice (some ⟨g, 0, none⟩) (l.length + 1) cap → Hid (OwnI w4 base v' (l ++ [p])) → Hid (w0.grownBy w4 v.ownBlock ∧ (v.ownBlock = some g ∨ w0.heap.size ≤ g)) →
      wpList Tryd.prog ops Q rest (a.put o.dst v') w4) :
    wpList Tryd.prog ops Q (o :: rest) a (w0.alloc (.cells #[.int .i64 p] 3)) := by
  subst hH
  obtain ⟨i0, hti, hz0, hz1, hz2⟩ := info_parts Tryd.infoInt
  refine wpList_append_lies _ hgd s x 47 ho base 3 i0 _ 1 8 Tryd.underlying47 hti hz0 hz1 hz2 rfl (by decide) v l.length (l.map intC) hs (hown.out.alloc _) ⟨w0.heap.size, 0, none⟩ 1 1 [intC p] hx rfl ?_ ?_ (by decide) (by unfold maxLen; omega) (by omega) (by simp; omega) _ rfl ?_
  · intro k u hu
    have hb := Blk.new w0 3 #[.int .i64 p]
    match k, hu with
    | 0, hu => exact hb.cell hu
  · intro u hu
    simp only [List.mem_cons, List.not_mem_nil, or_false] at hu
    subst hu; rfl
  · intro g cap w4 h1 h2 h3 h4
    refine hK g cap _ w4 rfl (hid ?_) (hid ⟨?_, ?_⟩)
    · unfold OwnI; rw [List.map_append, List.length_append]; exact h1
    · exact ⟨h2.os, h2.tape, h2.output, Nat.le_trans (by simp) h2.size, fun k hk hr => (h2.block k (by simp; omega) hr).trans (Below.heap_alloc _ _ _ hk)⟩
    · rcases h3 with e | e
      · exact .inl e
      · right; simp at e; omega

/-- What list has when it comes to a word. -/
def accB (m : Nat) : Nat → List Nat
  | 0 => []
  | _ + 1 => bitsL m
theorem accB_succ (m k : Nat) : accB m (k + 1) = accB m k ++ bitsL (plG m k) := by
  cases k with
  | zero => simp [accB, plG]
  | succ k => simp [accB, plG, bitsL_zero]
theorem accB_len {m : Nat} (hm : m < 18446744073709551616) (k : Nat) : (accB m k).length ≤ 64 := by
  cases k with
  | zero => exact Nat.zero_le _
  | succ k =>
    have h64 : 2 ^ 64 = 18446744073709551616 := by decide
    rw [← h64] at hm
    exact bitsL_len hm

theorem and_pred_u64 {x : Nat} (hx : x < 18446744073709551616) (hx0 : x ≠ 0) : bits BinOp.and IntKind.u64 (x : Int) ((x : Int) - 1) = ((x &&& (x - 1) : Nat) : Int) := by
  rw [show ((x : Int) - 1) = ((x - 1 : Nat) : Int) by omega]
  exact bits_and_u64_nat x (x - 1) hx (by omega)

def ListPost (w : World) (m : Nat) (e : Ending) (w' : World) : Prop := ∃ v, e = .returned v ∧ OwnI w' w.heap.size v (bitsL m) ∧ Ext w w'

set_option maxRecDepth 100000 in
set_option maxHeartbeats 1600000 in
theorem list_any (b off m : Nat) (w : World) (hm : m < 18446744073709551616) (hc : ∀ i, i < 16 → w.cell? ⟨b, off + i, none⟩ = some (.int .u64 (plG m i))) (hT : TabW w) :
    Calls Tryd.prog 27 #[.pointer (some ⟨b, off, none⟩)] w fun e w' => ListPost w m e w' := by
  have HC := hid hc
  have HT := hid hT
  clear hc hT
  go_enter Tryd.func27, Tryd.ntmps27
  go_wp2_with fail
  go_loopg [3, 7] 16 (fun g v i wr => ∃ k : Nat, k ≤ 16 ∧ g = 16 - k ∧ i = .int .i64 k ∧ Hid (OwnI wr w.heap.size v (accB m k)) ∧ Hid (Ext w wr))
  case atStart => exact ⟨0, by omega, rfl, rfl, hid (World.ownsRow_nil _ _ _ _), hid (Below.refl _ _)⟩
  case round =>
    obtain ⟨k, hk, rfl, rfl, HO, HE⟩ := hrel
    by_cases hlt : k < 16
    · have c1 : wr.cell? ⟨b, off + k, none⟩ = some (.int .u64 (plG m k)) := by
        have h2 := HC.out k hlt
        rw [← h2]
        exact HE.out.cell (p := ⟨b, off + k, none⟩) (block_lt_of_cell h2)
      go_wp2_with fail
      go_region
      go_wp2_with fail
      have HE1 : Hid (Ext w wr.drew) := hid ((HE.out).drew)
      have HO1 : Hid (OwnI wr.drew w.heap.size u3 (accB m k)) := HO
      clear c1 HE HO
      generalize World.drew _ = W1 at *
      have hpl := plG_lt (i := k) hm
      have hk0 : k = 0 ∨ plG m k = 0 := by
        by_cases h : k = 0
        · exact .inl h
        · right; unfold plG; rw [if_neg h]
      go_loopg [3, 5] (plG m k) (fun g v x wi => ∃ (y : Nat) (l : List Nat), y < 18446744073709551616 ∧ g = y ∧ x = .int .u64 y ∧ (k = 0 ∨ y = 0) ∧ Hid (l ++ bitsL y = accB m (k + 1)) ∧ Hid (OwnI wi w.heap.size v l) ∧ Hid (Ext w wi))
      case atStart => exact ⟨_, _, hpl, rfl, rfl, hk0, hid (accB_succ m k).symm, HO1, HE1⟩
      case round =>
        obtain ⟨y, l, hy, hg, rfl, hky, HL, HO, HE⟩ := hrel
        have HG := hid hg
        clear hg
        by_cases hy0 : y = 0
        · subst hy0
          have HL2 : Hid (l = accB m (k + 1)) := hid (by have := HL.out; rwa [bitsL_zero, List.append_nil] at this)
          go_wp2_with fail
          go_roundg (16 - (k+1))
          case measure => omega
          case rel => exact ⟨k+1, by omega, rfl, by go_num, hid (by rw [← HL2.out]; exact HO.out), HE⟩
        · obtain rfl : k = 0 := hky.resolve_right hy0
          have hq : ((y : Int) != 0) = true := by simp; omega
          have hand := and_pred_u64 hy hy0
          have hlen : l.length ≤ 64 := by
            have h1 := accB_len hm (0 + 1)
            rw [← HL.out, List.length_append] at h1
            omega
          have HT1 := hid (HT.out.ext HE.out)
          have hbs := HE.out.size
          have htz := tz_lt (n := 64) hy0 (by have h64 : 2 ^ 64 = 18446744073709551616 := by decide
                                              rw [h64]; exact hy)
          go_wp2_with (first | (go_at_call 47; refine (tz_any y hy hy0 _ HT1.out).mono ?_; rintro e w' ⟨rfl, rfl⟩) | (at_builtin; refine wpList_int HO hbs (by omega) (tz y) _ rfl rfl _ _ rfl rfl rfl ?_; rintro g' cap' v' w4 rfl H1 H2))
          have hlt2 := and_pred_lt hy0
          go_roundg (y &&& (y - 1))
          case measure => rw [HG.out]; exact hlt2
          case rel =>
            refine ⟨y &&& (y - 1), l ++ [tz y], by omega, rfl, rfl, .inl trivial, hid ?_, H1, hid (ext_grown HE.out H2.out.1 (fun i hi => (HO.out.lt i hi).1))⟩
            have := HL.out
            rw [bitsL_next hy0] at this
            rw [← this, List.append_assoc]; rfl
    · obtain rfl : k = 16 := by omega
      go_wp2_with fail
      go_ret
      exact ⟨_, rfl, HO.out, HE.out⟩

end Go.Proofs.YtngpjagpeblbjaaDoor
