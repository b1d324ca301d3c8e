/-
  What the reference's First answers for two automata, told by what Within answers; the reference's Both of small automata.
-/
import Derived.Test.YtngpjagpeblbjaaGreatDoorC06
import Derived.Test.YtngpjagpeblbjaaGreatDoorC08
import Derived.Test.YtngpjagpeblbjaaGreatDoorC04
namespace Go.Proofs.YtngpjagpeblbjaaGreatDoor
open Go.RowKit Go.Spy Go.Heaped Go.Tour Go.Rx
theorem first2_some {A B : DA} (W : WellD nameOk A) {u : List Nat} (hu : ∀ c ∈ u, c < A.syms.length) (h1 : langD A u = true) (h2 : matchD B (wordsOf A.syms u) = false) (h3 : ∀ x, (∀ c ∈ x, c < A.syms.length) → langD A x = true → matchD B (wordsOf A.syms x) = false → sle u x) {w : World} {e : Ending} {w' : World} (h : FirstPost A (goS B) (finS B) w e w') :
 ∃ v, e = .returned (.tuple #[v, .bool true]) ∧ ReadR w' 1 strC v (wordsOf A.syms u) ∧ Ext w w' := by
 have key : finF A (finS B) (runL (goF A (goS B)) (0, 0) u) = true := by rw [fin_two W hu, h1, h2]; rfl
 obtain ⟨hx, ⟨v, x, rfl, hR, -, hx1, hx2, hx3⟩ | ⟨rfl, hno⟩⟩ := h
 ·rw [fin_two W hx1, Bool.and_eq_true, Bool.not_eq_true'] at hx2
  have e : u = x := sle_antisymm (h3 x hx1 hx2.1 hx2.2) (hx3 u hu key)
  subst e
  exact ⟨v, rfl, OwnR.read hR strC_size, hx⟩
 ·have := hno u hu
  rw [key] at this
  cases this
theorem first2_no {A B : DA} (W : WellD nameOk A) (h2 : ∀ x, (∀ c ∈ x, c < A.syms.length) → langD A x = true → matchD B (wordsOf A.syms x) = true) {w : World} {e : Ending} {w' : World} (h : FirstPost A (goS B) (finS B) w e w') :
 e = .returned (.tuple #[.slice none 0 0, .bool false]) ∧ Ext w w' := by
 obtain ⟨hx, ⟨v, x, rfl, hR, -, hx1, hx2, hx3⟩ | ⟨rfl, hno⟩⟩ := h
 ·rw [fin_two W hx1, Bool.and_eq_true, Bool.not_eq_true'] at hx2
  rw [h2 x hx1 hx2.1] at hx2
  cases hx2.2
 ·exact ⟨rfl, hx⟩
theorem rboth_small {w : World} {A B : DA} {aoS aoN aoF aoS2 aoN2 aoF2 : Option Addr} {n1 n2 n3 cS cN cF m1 m2 m3 cS2 cN2 cF2 : Nat} (hA : DfaW w (.agg #[.slice aoS n1 cS, .slice aoN n2 cN, .slice aoF n3 cF]) A) (hB : DfaW w (.agg #[.slice aoS2 m1 cS2, .slice aoN2 m2 cN2, .slice aoF2 m3 cF2]) B) (hcS : n1 ≤ cS) (sA : SmallD A.raw) (sB : SmallD B.raw) :
 Calls Tryz.prog 36 #[.agg #[.slice aoS n1 cS, .slice aoN n2 cN, .slice aoF n3 cF], .agg #[.slice aoS2 m1 cS2, .slice aoN2 m2 cN2, .slice aoF2 m3 cF2]] w (RBothPost A B w) :=
 rboth_any hA hB hcS fun i => by
  rw [tour_B hA.well hB.well, List.length_map]
  exact Nat.le_trans (tourP_small hA.well hB.well sA.n sB.n (bothSyms A B) i) (by decide)
theorem both_small {w : World} {A B : DA} {xA xB : Array Value} (hA : DfaW w (.agg xA) A) (hB : DfaW w (.agg xB) B) (sA : SmallD A.raw) (sB : SmallD B.raw) :
 Calls Tryz.prog 15 #[.agg xA, .agg xB] w fun e w' => ∃ aoS n1 cS aoN n2 cN aoF n3 cF i, e = .returned (.tuple #[.agg #[.slice aoS n1 cS, .slice aoN n2 cN, .slice aoF n3 cF], .int .i64 0]) ∧ (Full (succP A B (bothSyms A B)) zeroP i ∧ DfaW w' (.agg #[.slice aoS n1 cS, .slice aoN n2 cN, .slice aoF n3 cF]) (bothD A B i)) ∧ Ext w w' := by
 refine (both_in hA hB sA.n sB.n sA.s sB.s).mono ?_
 rintro e w' ⟨i, x, hf, rfl, hD, hx⟩
 obtain ⟨aoS, n1, cS, aoN, n2, cN, aoF, n3, cF, e⟩ := hD.open_
 subst e
 exact ⟨_, _, _, _, _, _, _, _, _, i, rfl, ⟨hf, hD⟩, hx⟩
end Go.Proofs.YtngpjagpeblbjaaGreatDoor
