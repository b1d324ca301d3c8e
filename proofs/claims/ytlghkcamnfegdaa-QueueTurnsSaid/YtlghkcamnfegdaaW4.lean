/-
  The queue seat: which of two items is ahead.
-/
import Derived.Test.YtlghkcamnfegdaaW3
import Derived.BigRegion
import Derived.BigQuiet
import Derived.Deep.QuietTactic
import Derived.Deep.RegionWith
import Derived.StillTailTactics
namespace Go.Proofs.Ytlghkcamnfegdaa
open Go.RowKit Go.Spy

theorem flat_get {α β : Type} (f : α → List β) (s : Nat) (hf : ∀ x, (f x).length = s) : ∀ (d : List α) (j k : Nat), k < s → (d.flatMap f)[j * s + k]? = (d[j]?).bind (fun x => (f x)[k]?)
  | [], j, k, hk => by simp
  | x :: d, 0, k, hk => by
    simp only [List.flatMap_cons, Nat.zero_mul, Nat.zero_add, List.getElem?_cons_zero, Option.bind_some]
    rw [List.getElem?_append_left (by rw [hf]; exact hk)]
  | x :: d, j + 1, k, hk => by
    simp only [List.flatMap_cons, List.getElem?_cons_succ]
    rw [List.getElem?_append_right (by rw [hf, Nat.succ_mul]; omega), ← flat_get f s hf d j k hk, hf]
    congr 1
    rw [Nat.succ_mul]; omega

theorem flat_len {α β : Type} (f : α → List β) (s : Nat) (hf : ∀ x, (f x).length = s) (d : List α) : (d.flatMap f).length = d.length * s := by
  induction d with
  | nil => simp
  | cons x d ih => simp [ih, hf, Nat.succ_mul, Nat.add_comm]

theorem itemC_len (x : It) : (itemC x).length = 3 := rfl
theorem pairC_len (x : Int × Int) : (pairC x).length = 2 := rfl

/-- The cells of the item at a place. -/
theorem item_cells {w : World} {base g cap n : Nat} {d : List It} (h : w.ownsRow base 62 3 (.slice (some ⟨g, 0, none⟩) n cap) n (d.flatMap itemC)) {j : Nat} {x : It} (hx : d[j]? = some x) :
    w.cell? ⟨g, j * 3, none⟩ = some (.int .i64 x.1) ∧ w.cell? ⟨g, j * 3 + 1, none⟩ = some (.int .i64 x.2.1) ∧ w.cell? ⟨g, j * 3 + 2, none⟩ = some (.int .u64 x.2.2) := by
  rcases h.2 with ⟨h0, _⟩ | ⟨g', cap', cur, hv, hb, hg, hnc, hcm, hcs, ht⟩
  · simp at h0
  · simp only [Value.slice.injEq, Option.some.injEq, Addr.mk.injEq, and_true, true_and] at hv
    obtain ⟨rfl, rfl⟩ := hv
    have hn : n = d.length := by
      have := h.1
      rw [flat_len itemC 3 itemC_len] at this
      omega
    have key : ∀ k, k < 3 → w.cell? ⟨g, j * 3 + k, none⟩ = (itemC x)[k]? := by
      intro k hk
      have h1 := flat_get itemC 3 itemC_len d j k hk
      rw [hx, Option.bind_some, ← ht] at h1
      have hj : j < d.length := (List.getElem?_eq_some_iff.1 hx).1
      rw [List.getElem?_take, if_pos (by omega)] at h1
      simp [World.cell?, hg, ← h1]
    exact ⟨key 0 (by omega), key 1 (by omega), key 2 (by omega)⟩

set_option maxHeartbeats 800000 in
set_option maxRecDepth 100000 in
theorem less_any {F : Nat} {f : Int → Int → Int} (O : OrdOk F f) {w : World} {base q bo : Nat} {vI vS : Value} {d : List It} {sw : List (Int × Int)} {put : Int} (h : Pile w base q bo F vI vS d sw put)
    (i j : Nat) (x y : It) (hi : d[i]? = some x) (hj : d[j]? = some y) :
    Calls Try.prog 64 #[.pointer (some ⟨q, 0, none⟩), .int .i64 i, .int .i64 j] w fun e w' => e = .returned (.bool (aheadB f x y)) ∧ Ext w w' := by
  have hil : i < d.length := (List.getElem?_eq_some_iff.1 hi).1
  have hjl : j < d.length := (List.getElem?_eq_some_iff.1 hj).1
  obtain ⟨ao, cap, rfl, hcap, hg⟩ := slice_form h.items
  obtain ⟨g, rfl⟩ := hg (by omega)
  obtain ⟨x0, x1, x2⟩ := item_cells h.items hi
  obtain ⟨y0, y1, y2⟩ := item_cells h.items hj
  have c0 : w.cell? ⟨q, 0, none⟩ = some (.slice (some ⟨g, 0, none⟩) d.length cap) := h.blk.cell rfl
  have c2 : w.cell? ⟨q, 2, none⟩ = some (.func (.func 28) #[] #[.pointer (some ⟨bo, 0, none⟩)]) := h.blk.cell rfl
  have ob : w.cell? ⟨bo, 0, none⟩ = some (.func (.func F) #[] #[]) := h.ord.cell rfl
  have ol := h.ord.lt
  clear h
  go_enter Try.func64, Try.ntmps64
  go_wp2_with fail
  go_still_tail 18, (by kernel_rfl)
  change wpList _ _ _ _ _ w.drew
  generalize hw2 : w.drew = w2
  have hA := O.ahead x y bo w2 (by rw [← hw2]; exact ob) (by rw [← hw2]; exact ol)
  have hE : Ext w w2 := by rw [← hw2]; exact (Below.refl _ _).drew
  clear hw2
  go_wp2_with (go_at_call 28; refine hA.mono ?_; rintro e w1 ⟨rfl, h1⟩)
  go_ret
  exact ⟨rfl, ext_trans hE h1⟩
end Go.Proofs.Ytlghkcamnfegdaa
