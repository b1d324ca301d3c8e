/-
  The plain law of ArgsMore: a word that is none, behind some words of a command, is told at its place; no walk.
-/
import Derived.Test.YtoknhfmgkgmlhaaDoorP2
namespace Go.Proofs.YtoknhfmgkgmlhaaDoor
open Go.RowKit Go.Spy

def dash : ByteArray := ⟨#[45, 45]⟩
theorem dash1 : dash ≠ wRoot := by decide
theorem dash2 : dash ≠ wView := by decide
theorem dash3 : dash ≠ wQuiet := by decide

theorem parse_mode {k : Nat} (h0 : 0 < k) (hk : k < 6) (l2 : List ByteArray) : parseL (modeWord k :: l2) = pgo l2 1 ⟨(k : Int), ⟨#[]⟩, false, false⟩ false false false := by
  have hmk := modeOf_word h0 hk
  have hmz : modeOf (modeWord k) ≠ 0 := by omega
  simp only [parseL]
  rw [if_neg hmz, hmk]

theorem pgo_dash (l2 : List ByteArray) (j : Nat) (c : Cmd) (sr sv sq : Bool) : pgo (dash :: l2) j c sr sv sq = (zeroC, j, 12) := pgo_other _ _ _ _ _ _ dash1 dash2 dash3

theorem more_parse {c : Cmd} (h : mayB c = true) (j : Nat) (h1 : 1 ≤ j) (h2 : j ≤ (wordsOf c).length) (h3 : ∀ s, (wordsOf c)[j - 1]? = some s → s ≠ wRoot) :
    parseL ((wordsOf c).take j ++ [dash] ++ (wordsOf c).drop j) = (zeroC, j, 12) := by
  obtain ⟨k, h0, hk, hm, hr, hv⟩ := may_parts h
  obtain ⟨m, r, v, q⟩ := c
  simp only at hm hr hv
  subst hm
  obtain ⟨i, rfl⟩ : ∃ i, j = i + 1 := ⟨j - 1, by omega⟩
  simp only [wordsOf, Int.toNat_natCast, List.take_succ_cons, List.drop_succ_cons, List.cons_append, List.length_cons, Nat.add_sub_cancel] at h2 h3 ⊢
  rw [parse_mode h0 hk]
  have hve := e_empty
  rcases hr with rfl | hr
  · rw [hve] at h2 h3 ⊢
    cases v <;> cases q <;> simp only [if_true, List.nil_append, List.append_nil, Bool.false_eq_true, if_false, List.cons_append, List.length_cons, List.length_nil] at h2 h3 ⊢
    · obtain rfl : i = 0 := by omega
      simp [pgo_dash]
    · match i, h2 with
      | 0, _ => simp [pgo_dash]
      | 1, _ => simp [pgo_dash, pgo_quiet_yes]
    · match i, h2 with
      | 0, _ => simp [pgo_dash]
      | 1, _ => simp only [List.take_succ_cons, List.take_zero, List.cons_append, List.nil_append]; rw [pgo_view_yes _ _ _ _ _ (hv rfl), pgo_dash]
    · match i, h2 with
      | 0, _ => simp [pgo_dash]
      | 1, _ => simp only [List.take_succ_cons, List.take_zero, List.cons_append, List.nil_append]; rw [pgo_view_yes _ _ _ _ _ (hv rfl), pgo_dash]
      | 2, _ => simp only [List.take_succ_cons, List.take_zero, List.cons_append, List.nil_append]; rw [pgo_view_yes _ _ _ _ _ (hv rfl), pgo_quiet_yes, pgo_dash]
  · rw [name_nonempty hr] at h2 h3 ⊢
    cases v <;> cases q <;> simp only [if_true, List.nil_append, List.append_nil, Bool.false_eq_true, if_false, List.cons_append, List.length_cons, List.length_nil] at h2 h3 ⊢
    · match i, h2 with
      | 0, _ => simp [pgo_dash]
      | 1, _ => exact absurd rfl (h3 wRoot rfl)
      | 2, _ => simp only [List.take_succ_cons, List.take_zero, List.cons_append, List.nil_append]; rw [pgo_root_yes _ _ _ _ _ hr, pgo_dash]
    · match i, h2 with
      | 0, _ => simp [pgo_dash]
      | 1, _ => exact absurd rfl (h3 wRoot rfl)
      | 2, _ => simp only [List.take_succ_cons, List.take_zero, List.cons_append, List.nil_append]; rw [pgo_root_yes _ _ _ _ _ hr, pgo_dash]
      | 3, _ => simp only [List.take_succ_cons, List.take_zero, List.cons_append, List.nil_append]; rw [pgo_root_yes _ _ _ _ _ hr, pgo_quiet_yes, pgo_dash]
    · match i, h2 with
      | 0, _ => simp [pgo_dash]
      | 1, _ => exact absurd rfl (h3 wRoot rfl)
      | 2, _ => simp only [List.take_succ_cons, List.take_zero, List.cons_append, List.nil_append]; rw [pgo_root_yes _ _ _ _ _ hr, pgo_dash]
      | 3, _ => simp only [List.take_succ_cons, List.take_zero, List.cons_append, List.nil_append]; rw [pgo_root_yes _ _ _ _ _ hr, pgo_view_yes _ _ _ _ _ (hv rfl), pgo_dash]
    · match i, h2 with
      | 0, _ => simp [pgo_dash]
      | 1, _ => exact absurd rfl (h3 wRoot rfl)
      | 2, _ => simp only [List.take_succ_cons, List.take_zero, List.cons_append, List.nil_append]; rw [pgo_root_yes _ _ _ _ _ hr, pgo_dash]
      | 3, _ => simp only [List.take_succ_cons, List.take_zero, List.cons_append, List.nil_append]; rw [pgo_root_yes _ _ _ _ _ hr, pgo_view_yes _ _ _ _ _ (hv rfl), pgo_dash]
      | 4, _ => simp only [List.take_succ_cons, List.take_zero, List.cons_append, List.nil_append]; rw [pgo_root_yes _ _ _ _ _ hr, pgo_view_yes _ _ _ _ _ (hv rfl), pgo_quiet_yes, pgo_dash]
end Go.Proofs.YtoknhfmgkgmlhaaDoor
