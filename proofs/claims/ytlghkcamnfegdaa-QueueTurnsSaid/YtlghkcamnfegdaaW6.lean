/-
  The queue seat: two items change places.
-/
import Derived.Test.YtlghkcamnfegdaaW5
namespace Go.Proofs.Ytlghkcamnfegdaa
open Go.RowKit Go.Spy

/-- A queue whose blocks are S, and at most m exchanges are told. -/
def PileX (w : World) (base q bo F : Nat) (d : List It) (m : Nat) (put : Int) (S : Nat → Prop) : Prop :=
  ∃ vI vS sw, Pile w base q bo F vI vS d sw put ∧ sw.length ≤ m ∧ S = own q vI vS
/-- What a call makes of a queue whose blocks were S. -/
def Goes (S : Nat → Prop) (w w' : World) (base q bo F : Nat) (d : List It) (m : Nat) (put : Int) : Prop :=
  ∃ S', PileX w' base q bo F d m put S' ∧ Moved S S' w w'

theorem Try.info62 : (Try.prog.info? 62).map (fun i => (i.zero, i.size, i.bytes)) = some (some (.agg #[.int .i64 0, .int .i64 0, .int .u64 0]), 3, 24) := by kernel_rfl
theorem Try.info85 : (Try.prog.info? 85).map (fun i => (i.zero, i.size, i.bytes)) = some (some (.agg #[.int .i64 0, .int .i64 0]), 2, 16) := by kernel_rfl


/-- An exchange is told: append to the told ones, as the walk takes it; what the store behind it makes. -/
theorem wpList_told {F : Nat} {w2 : World} {base q bo : Nat} {vI vS : Value} {d : List It} {sw : List (Int × Int)} {put : Int} (HP : Hid (Pile w2 base q bo F vI vS d sw put)) (hm : sw.length + 1 ≤ 1000000000) (i j : Int)
    {ops : Array Oper} {rest : List Oper} {o : Oper} {a : Act} {Q : Exit → Act → World → Prop} (hgd : o.guard = none) (s x : Operand)
    (ho : o.op = .call { callee := .builtin .append, args := #[s, x], argTypes := #[65, 65] }) (hs : a.eval s = vS) (hx : a.eval x = .slice (some ⟨w2.heap.size, 0, none⟩) 1 1)
    (hK : ∀ (g n' cap : Nat) (v' : Value) (w4 : World), v' = .slice (some ⟨g, 0, none⟩) n' cap → w4.cell? ⟨q, 1, none⟩ = some vS → w4.frozen? ⟨q, 1, none⟩ = false →
      Hid (Pile (w4.setCell ⟨q, 1, none⟩ v') base q bo F vI v' d (sw ++ [(i, j)]) put ∧ Moved (own q vI vS) (own q vI v') w2 (w4.setCell ⟨q, 1, none⟩ v')) → wpList Try.prog ops Q rest (a.put o.dst v') w4) :
    wpList Try.prog ops Q (o :: rest) a (w2.alloc (.cells #[.int .i64 i, .int .i64 j] 85)) := by
  obtain ⟨i0, hti, hz0, hz1, hz2⟩ := info_parts Try.info85
  have h := HP.out
  have hw : Chg (fun _ => False) w2 (w2.alloc (.cells #[.int .i64 i, .int .i64 j] 85)) := (Chg.refl _ _).alloc _
  have hp := h.kept hw (fun _ _ x => x) (fun x => x)
  have hlt := h.blk.lt
  refine wpList_append_lies _ hgd s x 65 ho base 85 i0 _ 2 16 Try.underlying65 hti hz0 hz1 hz2 rfl (by decide) vS sw.length (sw.flatMap pairC) hs hp.swaps ⟨w2.heap.size, 0, none⟩ 1 1 (pairC (i, j)) hx rfl ?_ ?_ (by decide) (by unfold maxLen; omega) (by omega) (by have := h.hq; simp; omega) _ rfl ?_
  · intro k u hu
    have hb := Blk.new w2 85 #[.int .i64 i, .int .i64 j]
    match k, hu with
    | 0, hu => exact hb.cell hu
    | 1, hu => exact hb.cell hu
  · intro u hu
    simp [pairC] at hu
    rcases hu with rfl | rfl <;> rfl
  · intro g cap w4 hown hgr hat hlt4
    have c4 : Chg (fun k => vS.ownBlock = some k) w2 w4 := (hw.mono (fun _ _ x => x.elim)).grown hgr (fun k e => e)
    have hp4 : Blk w4 q 69 #[vI, vS, .func (.func 28) #[] #[.pointer (some ⟨bo, 0, none⟩)], .int .u64 put] := h.blk.chg c4 h.vS_q
    refine hK g _ cap _ w4 rfl (hp4.cell rfl) (hp4.frozen 1) (hid ?_)
    have c5 : Chg (own q vI vS) w2 (w4.setCell ⟨q, 1, none⟩ (.slice (some ⟨g, 0, none⟩) (sw.length + 1) cap)) := (c4.mono fun _ _ x => .inr (.inr x)).setCell (.inl rfl) _
    have hgq : g ≠ q := by
      rcases hat with e | e
      · rintro rfl; exact h.vS_q e
      · simp at e; omega
    refine ⟨⟨hp4.set 1 _, h.ord.chg c5 h.bo_free, ?_, ?_, h.hq⟩, ⟨c5, ?_⟩⟩
    · exact owns_setOther (owns_chg h.items c4 (fun k e => h.vI_vS e)) (p := ⟨q, 1, none⟩) h.vI_q _
    · have e1 : (sw ++ [(i, j)]).flatMap pairC = sw.flatMap pairC ++ pairC (i, j) := by simp
      rw [e1, List.length_append]
      exact owns_setOther hown (p := ⟨q, 1, none⟩) (by simpa [Value.ownBlock] using hgq) _
    · rintro k (e | e | e)
      · exact .inl (.inl e)
      · exact .inl (.inr (.inl e))
      · simp only [Value.ownBlock, Option.some.injEq] at e
        subst e
        rcases hat with e' | e'
        · exact .inl (.inr (.inr e'))
        · right; simp at e'; omega

set_option maxRecDepth 100000 in
set_option maxHeartbeats 1600000 in
theorem swap_any {F : Nat} {w : World} {base q bo : Nat} {d : List It} {m : Nat} {put : Int} {S : Nat → Prop} (h : PileX w base q bo F d m put S)
    (i j : Nat) (x y : It) (hi : d[i]? = some x) (hj : d[j]? = some y) (hm : m + 1 ≤ 1000000000) :
    Calls Try.prog 67 #[.pointer (some ⟨q, 0, none⟩), .int .i64 i, .int .i64 j] w fun e w' => e = .returned (.tuple #[]) ∧ Goes S w w' base q bo F ((d.set i y).set j x) (m + 1) put := by
  obtain ⟨vI, vS, sw, h, hsw, rfl⟩ := h
  have hil : i < d.length := (List.getElem?_eq_some_iff.1 hi).1
  have hjl : j < d.length := (List.getElem?_eq_some_iff.1 hj).1
  obtain ⟨ao, cap, rfl, hcap, hg⟩ := slice_form h.items
  obtain ⟨g, rfl⟩ := hg (by omega)
  obtain ⟨x0, x1, x2⟩ := item_cells h.items hi
  obtain ⟨y0, y1, y2⟩ := item_cells h.items hj
  have c0 : w.cell? ⟨q, 0, none⟩ = some (.slice (some ⟨g, 0, none⟩) d.length cap) := h.blk.cell rfl
  have fz : ∀ o, w.frozen? ⟨g, o, none⟩ = false := by
    obtain ⟨_, hb⟩ := own_type h.items (g := g) rfl
    exact hb.frozen
  have HP := hid h
  clear h
  by_cases hij : i = j
  · subst hij
    obtain rfl : x = y := by rw [hi] at hj; simpa using hj
    clear y0 y1 y2
    go_enter Try.func67, Try.ntmps67
    go_wp2_with fail
    go_region
    generalize hw2 : World.drew _ = w2
    obtain ⟨hP, hC⟩ := HP.out.swp hil hjl x x hw2.symm
    clear hw2 x0 x1 x2 c0 fz HP
    have c1 : w2.cell? ⟨q, 1, none⟩ = some vS := hP.blk.cell rfl
    have hlt := hP.blk.lt
    have HP2 := hid hP
    have HC := hid hC
    clear hP hC
    go_wp2_with (at_builtin; refine wpList_told HP2 (by omega) i i rfl _ _ rfl rfl rfl ?_; rintro g' n' cap' v' w4 rfl k1 k2 HG)
    go_end0
    refine ⟨rfl, own q _ _, ⟨_, _, _, HG.out.1, by simp; omega, rfl⟩, ?_⟩
    exact Moved.trans ⟨HC.out, fun _ x => .inl x⟩ HG.out.2
  · have n0 : ¬ (i * 3 = j * 3) := by omega
    go_enter Try.func67, Try.ntmps67
    go_wp2_with fail
    go_region
    generalize hw2 : World.drew _ = w2
    obtain ⟨hP, hC⟩ := HP.out.swp hil hjl x y hw2.symm
    clear hw2 x0 x1 x2 y0 y1 y2 c0 fz HP
    have c1 : w2.cell? ⟨q, 1, none⟩ = some vS := hP.blk.cell rfl
    have hlt := hP.blk.lt
    have HP2 := hid hP
    have HC := hid hC
    clear hP hC
    go_wp2_with (at_builtin; refine wpList_told HP2 (by omega) i j rfl _ _ rfl rfl rfl ?_; rintro g' n' cap' v' w4 rfl k1 k2 HG)
    go_end0
    refine ⟨rfl, own q _ _, ⟨_, _, _, HG.out.1, by simp; omega, rfl⟩, ?_⟩
    exact Moved.trans ⟨HC.out, fun _ x => .inl x⟩ HG.out.2
end Go.Proofs.Ytlghkcamnfegdaa
