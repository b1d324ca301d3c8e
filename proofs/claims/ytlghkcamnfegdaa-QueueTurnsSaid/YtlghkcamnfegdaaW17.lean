/-
  The queue seat: lists of things.
-/
import Derived.Test.YtlghkcamnfegdaaW16
namespace Go.Proofs.Ytlghkcamnfegdaa
open Go.RowKit Go.Spy Go.Heaped

/-- The value reads as these things. -/
def R (w : World) (v : Value) (ts : List (Int × Int)) : Prop := w.ownsRow 0 33 2 v ts.length (ts.flatMap pairC)
theorem R.ext {w w' : World} {v : Value} {ts : List (Int × Int)} (h : R w v ts) (e : Ext w w') : R w' v ts :=
  owns_chg (S := fun _ => False) h (Chg.of_ext e) (fun _ _ x => x)
theorem R.chg {S : Nat → Prop} {w w' : World} {v : Value} {ts : List (Int × Int)} (h : R w v ts) (e : Chg S w w') (hS : ∀ k cur, Blk w k 33 cur → ¬ S k) : R w' v ts :=
  owns_chg h e (fun k hk => by obtain ⟨cur, hb⟩ := own_type h hk; exact hS k cur hb)
theorem R.nil (w : World) : R w (.slice none 0 0) [] := World.ownsRow_nil w 0 33 2
theorem owns_R {w : World} {base n : Nat} {v : Value} {ts : List (Int × Int)} (h : w.ownsRow base 33 2 v n (ts.flatMap pairC)) : R w v ts := by
  have hn : n = ts.length := by
    have := h.1
    rw [flat_len pairC 2 pairC_len] at this
    omega
  subst hn
  refine ⟨h.1, ?_⟩
  rcases h.2 with h0 | ⟨g, cap, cur, rfl, hb, rest⟩
  · exact .inl h0
  · exact .inr ⟨g, cap, cur, rfl, Nat.zero_le _, rest⟩

theorem owns_len {w : World} {base n : Nat} {v : Value} {ts : List (Int × Int)} (h : w.ownsRow base 33 2 v n (ts.flatMap pairC)) : w.ownsRow base 33 2 v ts.length (ts.flatMap pairC) := by
  have hn : n = ts.length := by
    have := h.1
    rw [flat_len pairC 2 pairC_len] at this
    omega
  exact hn ▸ h

theorem pair_cells {w : World} {base g cap n : Nat} {d : List (Int × Int)} (h : w.ownsRow base 33 2 (.slice (some ⟨g, 0, none⟩) n cap) n (d.flatMap pairC)) {j : Nat} {x : Int × Int} (hx : d[j]? = some x) :
    w.cell? ⟨g, j * 2, none⟩ = some (.int .i64 x.1) ∧ w.cell? ⟨g, j * 2 + 1, none⟩ = some (.int .i64 x.2) := by
  rcases h.2 with ⟨h0, _⟩ | ⟨g', cap', cur, hv, hb, hg, hnc, hcm, hcs, ht⟩
  · simp at h0
  · simp only [Value.slice.injEq, Option.some.injEq, Addr.mk.injEq, and_true, true_and] at hv
    obtain ⟨rfl, rfl⟩ := hv
    have hn : n = d.length := by
      have := h.1
      rw [flat_len pairC 2 pairC_len] at this
      omega
    have key : ∀ k, k < 2 → w.cell? ⟨g, j * 2 + k, none⟩ = (pairC x)[k]? := by
      intro k hk
      have h1 := flat_get pairC 2 pairC_len d j k hk
      rw [hx, Option.bind_some, ← ht] at h1
      have hj : j < d.length := (List.getElem?_eq_some_iff.1 hx).1
      rw [List.getElem?_take, if_pos (by omega)] at h1
      simp [World.cell?, hg, ← h1]
    exact ⟨key 0 (by omega), key 1 (by omega)⟩

/-- The slice value reads as the numbers. -/
structure IntsV (w : World) (ao : Option Addr) (xs : List Int) : Prop where
  len : xs.length ≤ 9223372036854775807
  cells : 0 < xs.length → ∃ b off, ao = some ⟨b, off, none⟩ ∧ b < w.heap.size ∧ ∀ i (h : i < xs.length), w.cell? ⟨b, off + i, none⟩ = some (.int .i64 xs[i])
theorem IntsV.ext {w w' : World} {ao : Option Addr} {xs : List Int} (h : IntsV w ao xs) (e : Ext w w') : IntsV w' ao xs where
  len := h.len
  cells h0 := by
    obtain ⟨b, off, ha, hb, hc⟩ := h.cells h0
    exact ⟨b, off, ha, Nat.lt_of_lt_of_le hb e.size, fun i hi => (e.cell (p := ⟨b, off + i, none⟩) hb).trans (hc i hi)⟩
theorem IntsV.chg {S : Nat → Prop} {w w' : World} {ao : Option Addr} {xs : List Int} (h : IntsV w ao xs) (e : Chg S w w') (hS : ∀ b off, ao = some ⟨b, off, none⟩ → ¬ S b) : IntsV w' ao xs where
  len := h.len
  cells h0 := by
    obtain ⟨b, off, ha, hb, hc⟩ := h.cells h0
    exact ⟨b, off, ha, Nat.lt_of_lt_of_le hb e.size, fun i hi => (World.cell?_of_block (a := ⟨b, off + i, none⟩) (e.block b hb (hS b off ha))).trans (hc i hi)⟩

theorem ext_grown {w wr w4 : World} {row : Option Nat} (h : Ext w wr) (k : wr.grownBy w4 row) (hr : ∀ i, row = some i → w.heap.size ≤ i) : Ext w w4 :=
  ⟨k.os.trans h.os, k.tape.trans h.tape, k.output.trans h.output, Nat.le_trans h.size k.size, fun i hi => (k.block i (Nat.lt_of_lt_of_le hi h.size) (fun e => by have := hr i e.symm; omega)).trans (h.block i hi)⟩

def madeL (xs : List Int) (from' : Int) : List (Int × Int) := xs.mapIdx fun i x => (x, from' + i)
theorem madeL_len (xs : List Int) (a : Int) : (madeL xs a).length = xs.length := by simp [madeL]
theorem madeL_take (xs : List Int) (a : Int) (k : Nat) (h : k < xs.length) : madeL (xs.take (k + 1)) a = madeL (xs.take k) a ++ [(xs[k], a + k)] := by
  rw [List.take_succ_eq_append_getElem h]
  unfold madeL
  rw [List.mapIdx_append]
  simp
  omega

theorem Try.info33 : (Try.prog.info? 33).map (fun i => (i.zero, i.size, i.bytes)) = some (some (.agg #[.int .i64 0, .int .i64 0]), 2, 16) := by kernel_rfl

/-- A thing comes behind things, as the walk takes it. -/
theorem wpList_thing {w0 : World} {base n : Nat} {v : Value} {ts : List (Int × Int)} (hown : Hid (w0.ownsRow base 33 2 v n (ts.flatMap pairC))) (hb : base ≤ w0.heap.size) (hn : n + 1 ≤ 1000000000) (t : Int × Int) (H : Nat) (hH : w0.heap.size = H)
    {ops : Array Oper} {rest : List Oper} {o : Oper} {a : Act} {Q : Exit → Act → World → Prop} (hgd : o.guard = none) (s x : Operand)
    (ho : o.op = .call { callee := .builtin .append, args := #[s, x], argTypes := #[26, 26] }) (hs : a.eval s = v) (hx : a.eval x = .slice (some ⟨H, 0, none⟩) 1 1)
    (hK : ∀ (g cap : Nat) (v' : Value) (w4 : World), v' = .slice (some ⟨g, 0, none⟩) (n + 1) cap → Hid (w4.ownsRow base 33 2 v' (n + 1) ((ts ++ [t]).flatMap pairC)) → Hid (w0.grownBy w4 v.ownBlock ∧ (v.ownBlock = some g ∨ w0.heap.size ≤ g)) →
      wpList Try.prog ops Q rest (a.put o.dst v') w4) :
    wpList Try.prog ops Q (o :: rest) a (w0.alloc (.cells #[.int .i64 t.1, .int .i64 t.2] 33)) := by
  subst hH
  obtain ⟨i0, hti, hz0, hz1, hz2⟩ := info_parts Try.info33
  refine wpList_append_lies _ hgd s x 26 ho base 33 i0 _ 2 16 Try.underlying26 hti hz0 hz1 hz2 rfl (by decide) v n (ts.flatMap pairC) hs (hown.out.alloc _) ⟨w0.heap.size, 0, none⟩ 1 1 (pairC t) hx rfl ?_ ?_ (by decide) (by unfold maxLen; omega) (by omega) (by simp; omega) _ rfl ?_
  · intro k u hu
    have hb := Blk.new w0 33 #[.int .i64 t.1, .int .i64 t.2]
    match k, hu with
    | 0, hu => exact hb.cell hu
    | 1, hu => exact hb.cell hu
  · intro u hu
    simp [pairC] at hu
    rcases hu with rfl | rfl <;> rfl
  · intro g cap w4 h1 h2 h3 h4
    refine hK g cap _ w4 rfl (hid ?_) (hid ⟨?_, ?_⟩)
    · rw [List.flatMap_append]; simpa using h1
    · exact ⟨h2.os, h2.tape, h2.output, Nat.le_trans (by simp) h2.size, fun k hk hr => (h2.block k (by simp; omega) hr).trans (Below.heap_alloc _ _ _ hk)⟩
    · rcases h3 with e | e
      · exact .inl e
      · right; simp at e; omega

def MadePost (w : World) (ts : List (Int × Int)) (e : Ending) (w' : World) : Prop := ∃ v, e = .returned v ∧ w'.ownsRow w.heap.size 33 2 v ts.length (ts.flatMap pairC) ∧ Ext w w'
def MadeAt (w : World) (xs : List Int) (a : Int) (v i : Value) (wr : World) : Prop :=
  ∃ (k : Nat), i = .int .i64 k ∧ k ≤ xs.length ∧ wr.ownsRow w.heap.size 33 2 v k ((madeL (xs.take k) a).flatMap pairC) ∧ Ext w wr

set_option maxRecDepth 100000 in
set_option maxHeartbeats 800000 in
theorem made_any {w : World} {ao : Option Addr} {cap : Nat} {xs : List Int} (h : IntsV w ao xs) (a : Int) (h0 : 0 ≤ a) (ha : a ≤ 1000000) (hl : xs.length ≤ 1000000) :
    Calls Try.prog 10 #[.slice ao xs.length cap, .int .i64 a] w fun e w' => MadePost w (madeL xs a) e w' := by
  go_enter Try.func10, Try.ntmps10
  go_wp2_with fail
  go_loopw [5, 6] (fun v i wr => MadeAt w xs a v i wr) (fun _ i _ => xs.length - (intOf i).toNat)
  case atStart => exact ⟨0, rfl, Nat.zero_le _, by simpa [madeL] using World.ownsRow_nil _ _ 33 2, Below.refl _ _⟩
  case round =>
    obtain ⟨k, rfl, hk, hown, hE⟩ := hrel
    rcases Nat.lt_or_ge k xs.length with hlt | hge
    · obtain ⟨b, off, rfl, hb, hc⟩ := (h.ext hE).cells (by omega)
      have ck := hc k hlt
      clear hc
      obtain ⟨x, hx⟩ : ∃ x, x = xs[k] := ⟨_, rfl⟩
      rw [← hx] at ck
      have HX := hid hx
      clear hx
      have HO := hid hown
      clear hown
      have hbs := hE.size
      have hq : decide ((k : Int) < (xs.length : Int)) = true := decide_eq_true (by omega)
      go_wp2_with (at_builtin; refine wpList_thing HO hbs (by omega) (x, a + k) _ rfl rfl _ _ rfl rfl rfl ?_; rintro g' cap' v' w4 rfl H1 H2)
      refine ⟨⟨k + 1, by go_num, by omega, ?_, ext_grown hE H2.out.1 (fun i hi => (HO.out.lt i hi).1)⟩, by simp [intOf]; omega⟩
      rw [madeL_take _ _ _ hlt, ← HX.out]
      exact H1.out
    · obtain rfl : k = xs.length := by omega
      rw [List.take_length] at hown
      have HO := hid hown
      clear hown
      have hq : decide ((xs.length : Int) < (xs.length : Int)) = false := decide_eq_false (by omega)
      go_wp2_with fail
      go_ret
      exact ⟨_, rfl, owns_len HO.out, hE⟩
end Go.Proofs.Ytlghkcamnfegdaa
