/-
  Small general lemmas on rows that a call owns (slices of structs). No program is named here.
-/
import Derived.Test.YtlghkcamnfegdaaL2
import Derived.Laws.OwnMore
namespace Go.Spy
open Go.RowKit

section
variable {w w' : World} {base size n cap g : Nat} {e : TypeId} {v : Value} {xs : List Value} {S : Nat → Prop}

theorem owns_chg (h : w.ownsRow base e size v n xs) (c : Chg S w w') (hS : ∀ k, v.ownBlock = some k → ¬ S k) : w'.ownsRow base e size v n xs := by
  refine ⟨h.1, ?_⟩
  rcases h.2 with h0 | ⟨g, cap, cur, rfl, hb, hg, rest⟩
  · exact .inl h0
  · exact .inr ⟨g, cap, cur, rfl, hb, (c.block g (Array.getElem?_eq_some_iff.1 hg).1 (hS g rfl)).trans hg, rest⟩

theorem owns_setOther (h : w.ownsRow base e size v n xs) {p : Addr} (hp : v.ownBlock ≠ some p.block) (u : Value) : (w.setCell p u).ownsRow base e size v n xs :=
  owns_chg (S := fun k => k = p.block) h (Chg.setCell (S := fun k => k = p.block) (Chg.refl _ w) (by rfl) u) (fun k hk e => hp (e ▸ hk))

theorem owns_drew (h : w.ownsRow base e size v n xs) : w.drew.ownsRow base e size v n xs := h

theorem owns_set (h : w.ownsRow base e size (.slice (some ⟨g, 0, none⟩) n cap) n xs) {j : Nat} (_hj : j < n * size) (u : Value) :
    (w.setCell ⟨g, j, none⟩ u).ownsRow base e size (.slice (some ⟨g, 0, none⟩) n cap) n (xs.set j u) := by
  refine ⟨by simpa using h.1, ?_⟩
  rcases h.2 with ⟨h0, _⟩ | ⟨g', cap', cur, hv, hb, hg, hnc, hcm, hcs, ht⟩
  · simp at h0
  · simp only [Value.slice.injEq, Option.some.injEq, Addr.mk.injEq, and_true, true_and] at hv
    obtain ⟨rfl, rfl⟩ := hv
    refine .inr ⟨g, cap, cur.setIfInBounds j u, rfl, hb, ?_, hnc, hcm, by simpa using hcs, ?_⟩
    · exact (show Blk w g e cur from hg).set j u
    · rw [Array.toList_setIfInBounds, List.take_set, ht]
end
end Go.Spy
