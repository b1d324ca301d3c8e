/-
  The plain laws of ArgsBack and ArgsMore: Parse of Words is the command, how many words a command has, a word that is none is told; no walk.
-/
import Derived.Test.YtoknhfmgkgmlhaaDoorP1
namespace Go.Proofs.YtoknhfmgkgmlhaaDoor
open Go.RowKit Go.Spy

def b2 (b : Bool) : Nat := if b then 1 else 0

theorem e_empty : (⟨#[]⟩ : ByteArray).toList.isEmpty = true := by rw [show (⟨#[]⟩ : ByteArray).toList = [] from ByteArray.toList_mk []]; rfl
theorem empty_of {r : ByteArray} (h : r.toList.isEmpty = true) : r = ⟨#[]⟩ :=
  bytes_ext (by rw [show (⟨#[]⟩ : ByteArray).toList = [] from ByteArray.toList_mk []]; simpa using h)
theorem name_nonempty {r : ByteArray} (h : nameOk r = true) : r.toList.isEmpty = false := by
  cases hh : r.toList.isEmpty
  · rfl
  · rw [empty_of hh] at h; exact absurd h (by decide)

theorem Good.words {c : Cmd} {sr sv sq : Bool} (h : Good c sr sv sq) : (wordsOf c).length = 1 + 2 * b2 sr + b2 sv + b2 sq := by
  obtain ⟨h1, h2, h3, h4, h5, h6, h7⟩ := h
  have hr : c.root.toList.isEmpty = !sr := by
    cases sr
    · rw [h4 rfl]; exact e_empty
    · rw [name_nonempty (h3 rfl)]; rfl
  simp only [wordsOf, hr, h5, h7]
  cases sr <;> cases sv <;> cases sq <;> rfl

theorem pgo_words : ∀ (m : Nat) (l : List ByteArray) (k : Nat) (c : Cmd) (sr sv sq : Bool) (d : Cmd), l.length ≤ m → Good c sr sv sq → pgo l k c sr sv sq = (d, 0, 0) →
    ∃ sr' sv' sq', Good d sr' sv' sq' ∧ 2 * b2 sr' + b2 sv' + b2 sq' = 2 * b2 sr + b2 sv + b2 sq + l.length := by
  intro m
  induction m with
  | zero =>
    intro l k c sr sv sq d hm g h
    have : l = [] := List.eq_nil_of_length_eq_zero (by omega)
    subst this
    simp only [pgo, Prod.mk.injEq, and_true] at h
    subst h
    exact ⟨sr, sv, sq, g, by simp⟩
  | succ m ih =>
    intro l k c sr sv sq d hm g h
    rcases pgo_cases l k c sr sv sq with ⟨rfl, h2⟩ | ⟨n, hn, hl, h2⟩ | ⟨rest, rfl, h2⟩ | ⟨l', k', c', sr', sv', sq', hs⟩
    · rw [h2] at h
      simp only [Prod.mk.injEq, and_true] at h
      subst h
      exact ⟨sr, sv, sq, g, by simp⟩
    · rw [h2] at h
      simp only [Prod.mk.injEq] at h
      rcases hn with rfl | rfl
      · exact absurd h.2.2 (by decide)
      · exact absurd h.2.2 (by decide)
    · rw [h2] at h
      simp only [Prod.mk.injEq] at h
      exact absurd h.2.2 (by decide)
    · have hg := hs.good g
      rw [hs.go] at h
      cases hs with
      | root r rest k c sv sq hh =>
        obtain ⟨x, y, z, h3, h4⟩ := ih _ _ _ _ _ _ _ (by simp at hm; omega) hg h
        exact ⟨x, y, z, h3, by simp [b2] at h4 ⊢; omega⟩
      | view rest k c sr sq hh =>
        obtain ⟨x, y, z, h3, h4⟩ := ih _ _ _ _ _ _ _ (by simp at hm; omega) hg h
        exact ⟨x, y, z, h3, by simp [b2] at h4 ⊢; omega⟩
      | quiet rest k c sr sv =>
        obtain ⟨x, y, z, h3, h4⟩ := ih _ _ _ _ _ _ _ (by simp at hm; omega) hg h
        exact ⟨x, y, z, h3, by simp [b2] at h4 ⊢; omega⟩

theorem parse_len {l : List ByteArray} {d : Cmd} (h : parseL l = (d, 0, 0)) : (wordsOf d).length = l.length := by
  cases l with
  | nil => simp [parseL] at h
  | cons m rest =>
    by_cases hm : modeOf m = 0
    · simp [parseL, hm] at h
    · have e : parseL (m :: rest) = pgo rest 1 ⟨modeOf m, ⟨#[]⟩, false, false⟩ false false false := by simp [parseL, hm]
      rw [e] at h
      obtain ⟨x, y, z, h3, h4⟩ := pgo_words _ rest 1 _ _ _ _ d (Nat.le_refl _) (good_start hm) h
      rw [h3.words]
      simp [b2] at h4 ⊢
      omega

theorem modeOf_word {k : Nat} (h0 : 0 < k) (hk : k < 6) : modeOf (modeWord k) = (k : Int) := mode_hit _ k hk h0 rfl

/-- What a command that may be is. -/
theorem may_parts {c : Cmd} (h : mayB c = true) : ∃ k : Nat, 0 < k ∧ k < 6 ∧ c.mode = (k : Int) ∧ (c.root = ⟨#[]⟩ ∨ nameOk c.root = true) ∧ (c.view = true → c.mode = 5) := by
  simp only [mayB, Bool.and_eq_true, Bool.or_eq_true, decide_eq_true_eq, Bool.not_eq_true'] at h
  obtain ⟨⟨⟨h1, h2⟩, h3⟩, h4⟩ := h
  refine ⟨c.mode.toNat, by omega, by omega, by omega, ?_, fun hv => ?_⟩
  · rcases h3 with h3 | h3
    · exact .inl (empty_of h3)
    · exact .inr h3
  · rcases h4 with h4 | h4
    · rw [hv] at h4; cases h4
    · exact h4

theorem parse_words {c : Cmd} (h : mayB c = true) : parseL (wordsOf c) = (c, 0, 0) := by
  obtain ⟨k, h0, hk, hm, hr, hv⟩ := may_parts h
  obtain ⟨m, r, v, q⟩ := c
  simp only at hm hr hv
  subst hm
  have hmk := modeOf_word h0 hk
  have hmz : modeOf (modeWord k) ≠ 0 := by omega
  have e : ∀ l2, parseL (modeWord k :: l2) = pgo l2 1 ⟨(k : Int), ⟨#[]⟩, false, false⟩ false false false := fun l2 => by
    simp only [parseL]
    rw [if_neg hmz, hmk]
  simp only [wordsOf, Int.toNat_natCast]
  rw [e]
  have hve := e_empty
  rcases hr with rfl | hr
  · rw [hve]
    cases v <;> cases q <;> simp only [if_true, List.nil_append, List.append_nil, Bool.false_eq_true, if_false, List.cons_append]
    · simp [pgo]
    · rw [pgo_quiet_yes]; simp [pgo]
    · rw [pgo_view_yes _ _ _ _ _ (hv rfl)]; simp [pgo]
    · rw [pgo_view_yes _ _ _ _ _ (hv rfl), pgo_quiet_yes]; simp [pgo]
  · rw [name_nonempty hr]
    cases v <;> cases q <;> simp only [if_true, List.nil_append, List.append_nil, Bool.false_eq_true, if_false, List.cons_append]
    · rw [pgo_root_yes _ _ _ _ _ hr]; simp [pgo]
    · rw [pgo_root_yes _ _ _ _ _ hr, pgo_quiet_yes]; simp [pgo]
    · rw [pgo_root_yes _ _ _ _ _ hr, pgo_view_yes _ _ _ _ _ (hv rfl)]; simp [pgo]
    · rw [pgo_root_yes _ _ _ _ _ hr, pgo_view_yes _ _ _ _ _ (hv rfl), pgo_quiet_yes]; simp [pgo]
end Go.Proofs.YtoknhfmgkgmlhaaDoor
