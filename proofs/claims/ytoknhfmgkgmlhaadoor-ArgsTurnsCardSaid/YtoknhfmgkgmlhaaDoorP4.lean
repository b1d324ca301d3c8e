/-
  The plain law of ArgsTurns: the parts of a command's words may stand in any order, and the first one again is told as there already; no walk.
-/
import Derived.Test.YtoknhfmgkgmlhaaDoorP3
namespace Go.Proofs.YtoknhfmgkgmlhaaDoor
open Go.RowKit Go.Spy

def partsOf (c : Cmd) : List (List ByteArray) :=
  (if c.root.toList.isEmpty then [] else [[wRoot, c.root]]) ++ ((if c.view then [[wView]] else []) ++ (if c.quiet then [[wQuiet]] else []))

theorem pgo_nil (k : Nat) (c : Cmd) (sr sv sq : Bool) : pgo [] k c sr sv sq = (c, 0, 0) := by simp [pgo]

/-- The orders of at most three parts. -/
inductive Order3 : List (List ByteArray) → List (List ByteArray) → Prop where
  | nil : Order3 [] []
  | one (a : List ByteArray) : Order3 [a] [a]
  | ab (a b : List ByteArray) : Order3 [a, b] [a, b]
  | ba (a b : List ByteArray) : Order3 [a, b] [b, a]
  | abc (a b c : List ByteArray) : Order3 [a, b, c] [a, b, c]
  | acb (a b c : List ByteArray) : Order3 [a, b, c] [a, c, b]
  | bac (a b c : List ByteArray) : Order3 [a, b, c] [b, a, c]
  | bca (a b c : List ByteArray) : Order3 [a, b, c] [b, c, a]
  | cab (a b c : List ByteArray) : Order3 [a, b, c] [c, a, b]
  | cba (a b c : List ByteArray) : Order3 [a, b, c] [c, b, a]

theorem turns_parse {c : Cmd} (h : mayB c = true) {k : Nat} (h0 : 0 < k) (hk : k < 6) (hm : c.mode = (k : Int)) (L : List (List ByteArray)) (ho : Order3 (partsOf c) L) :
    parseL (modeWord k :: L.flatten) = (c, 0, 0) ∧ ∀ P, (partsOf c).head? = some P → parseL (modeWord k :: (L.flatten ++ P)) = (zeroC, 1 + L.flatten.length, 15) := by
  obtain ⟨k', _, _, _, hr, hv⟩ := may_parts h
  obtain ⟨m, r, v, q⟩ := c
  simp only at hm hr hv
  subst hm
  rw [parse_mode h0 hk]
  have e2 : ∀ P, parseL (modeWord k :: (L.flatten ++ P)) = pgo (L.flatten ++ P) 1 ⟨(k : Int), ⟨#[]⟩, false, false⟩ false false false := fun P => parse_mode h0 hk _
  simp only [e2]
  generalize hps : partsOf ⟨(k : Int), r, v, q⟩ = ps at ho
  have hve := e_empty
  rcases hr with rfl | hr
  · simp only [partsOf, hve, if_true, List.nil_append] at hps
    cases v <;> cases q <;> simp only [if_true, Bool.false_eq_true, if_false, List.nil_append, List.append_nil, List.cons_append] at hps <;> subst hps
    · cases ho
      simp [pgo_nil]
    · cases ho
      simp [pgo_nil, pgo_quiet_yes, pgo_quiet_seen]
    · have h5 := hv rfl
      rw [h5]
      cases ho
      simp [pgo_nil, pgo_view_yes, pgo_view_seen]
    · have h5 := hv rfl
      rw [h5]
      cases ho <;> simp [pgo_nil, pgo_view_yes, pgo_view_seen, pgo_quiet_yes]
  · simp only [partsOf, name_nonempty hr] at hps
    cases v <;> cases q <;> simp only [if_true, Bool.false_eq_true, if_false, List.nil_append, List.append_nil, List.cons_append] at hps <;> subst hps
    · cases ho
      simp [pgo_nil, pgo_root_yes, pgo_root_seen, hr]
    · cases ho <;> simp [pgo_nil, pgo_root_yes, pgo_root_seen, pgo_quiet_yes, hr]
    · have h5 := hv rfl
      rw [h5]
      cases ho <;> simp [pgo_nil, pgo_root_yes, pgo_root_seen, pgo_view_yes, hr]
    · have h5 := hv rfl
      rw [h5]
      cases ho <;> simp [pgo_nil, pgo_root_yes, pgo_root_seen, pgo_view_yes, pgo_quiet_yes, hr]
end Go.Proofs.YtoknhfmgkgmlhaaDoor
