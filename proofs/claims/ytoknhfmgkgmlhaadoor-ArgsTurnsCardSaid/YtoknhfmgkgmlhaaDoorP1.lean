/-
  The plain law on what words come to; no walk.
-/
import Derived.Test.YtoknhfmgkgmlhaaDoorW9
namespace Go.Proofs.YtoknhfmgkgmlhaaDoor
open Go.RowKit Go.Spy

/-- What is known of the command while words are gone through. -/
def Good (c : Cmd) (sr sv sq : Bool) : Prop :=
  1 ≤ c.mode ∧ c.mode ≤ 5 ∧ (sr = true → nameOk c.root = true) ∧ (sr = false → c.root = ⟨#[]⟩) ∧ (c.view = sv) ∧ (sv = true → c.mode = 5) ∧ c.quiet = sq

theorem Good.may {c : Cmd} {sr sv sq : Bool} (h : Good c sr sv sq) : mayB c = true := by
  obtain ⟨h1, h2, h3, h4, h5, h6, h7⟩ := h
  simp only [mayB, h1, h2, decide_true, Bool.true_and]
  have hr : (c.root.toList.isEmpty || nameOk c.root) = true := by
    cases sr
    · rw [h4 rfl, show (⟨#[]⟩ : ByteArray).toList = [] from ByteArray.toList_mk []]; rfl
    · rw [h3 rfl]; simp
  rw [hr]
  cases sv
  · rw [h5]; rfl
  · rw [h6 rfl]; simp

theorem Good.root {c : Cmd} {sr sv sq : Bool} {r : ByteArray} (h : Good c sr sv sq) (hr : nameOk r = true) : Good { c with root := r } true sv sq := by
  obtain ⟨h1, h2, h3, h4, h5, h6, h7⟩ := h
  exact ⟨h1, h2, fun _ => hr, (fun e => by cases e), h5, h6, h7⟩
theorem Good.vw {c : Cmd} {sr sv sq : Bool} (h : Good c sr sv sq) (h5 : c.mode = 5) : Good { c with view := true } sr true sq := by
  obtain ⟨h1, h2, h3, h4, _, h6, h7⟩ := h
  exact ⟨h1, h2, h3, h4, rfl, fun _ => h5, h7⟩
theorem Good.qt {c : Cmd} {sr sv sq : Bool} (h : Good c sr sv sq) : Good { c with quiet := true } sr sv true := by
  obtain ⟨h1, h2, h3, h4, h5, h6, h7⟩ := h
  exact ⟨h1, h2, h3, h4, h5, h6, rfl⟩

/-- One word, or two, gone through. -/
inductive Step : List ByteArray → Nat → Cmd → Bool → Bool → Bool → List ByteArray → Nat → Cmd → Bool → Bool → Bool → Prop where
  | root (r : ByteArray) (rest : List ByteArray) (k : Nat) (c : Cmd) (sv sq : Bool) (h : nameOk r = true) : Step (wRoot :: r :: rest) k c false sv sq rest (k + 2) { c with root := r } true sv sq
  | view (rest : List ByteArray) (k : Nat) (c : Cmd) (sr sq : Bool) (h : c.mode = 5) : Step (wView :: rest) k c sr false sq rest (k + 1) { c with view := true } sr true sq
  | quiet (rest : List ByteArray) (k : Nat) (c : Cmd) (sr sv : Bool) : Step (wQuiet :: rest) k c sr sv false rest (k + 1) { c with quiet := true } sr sv true

theorem Step.go {l l' : List ByteArray} {k k' : Nat} {c c' : Cmd} {sr sv sq sr' sv' sq' : Bool} (h : Step l k c sr sv sq l' k' c' sr' sv' sq') : pgo l k c sr sv sq = pgo l' k' c' sr' sv' sq' := by
  cases h with
  | root r rest k c sv sq h => exact pgo_root_yes _ _ _ _ _ h
  | view rest k c sr sq h => exact pgo_view_yes _ _ _ _ _ h
  | quiet rest k c sr sv => exact pgo_quiet_yes _ _ _ _ _
theorem Step.good {l l' : List ByteArray} {k k' : Nat} {c c' : Cmd} {sr sv sq sr' sv' sq' : Bool} (h : Step l k c sr sv sq l' k' c' sr' sv' sq') (g : Good c sr sv sq) : Good c' sr' sv' sq' := by
  cases h with
  | root r rest k c sv sq h => exact g.root h
  | view rest k c sr sq h => exact g.vw h
  | quiet rest k c sr sv => exact g.qt

/-- At the head of the rest: the end, an error, or a step. -/
theorem pgo_cases (l : List ByteArray) (k : Nat) (c : Cmd) (sr sv sq : Bool) :
    (l = [] ∧ pgo l k c sr sv sq = (c, 0, 0)) ∨
    (∃ n, (n = 12 ∨ n = 15) ∧ l ≠ [] ∧ pgo l k c sr sv sq = (zeroC, k, n)) ∨
    (∃ rest, l = wRoot :: rest ∧ pgo l k c sr sv sq = (zeroC, k + 1, 11)) ∨
    (∃ l' k' c' sr' sv' sq', Step l k c sr sv sq l' k' c' sr' sv' sq') := by
  cases l with
  | nil => exact .inl ⟨rfl, by simp [pgo]⟩
  | cons wd rest =>
    by_cases hr : wd = wRoot
    · subst hr
      cases sr
      · cases rest with
        | nil => exact .inr (.inr (.inl ⟨[], rfl, pgo_root_nil _ _ _ _⟩))
        | cons r rest =>
          cases hn : nameOk r
          · exact .inr (.inr (.inl ⟨_, rfl, pgo_root_no _ _ _ _ _ hn⟩))
          · exact .inr (.inr (.inr ⟨_, _, _, _, _, _, Step.root r rest k c sv sq hn⟩))
      · exact .inr (.inl ⟨15, .inr rfl, by simp, pgo_root_seen _ _ _ _ _⟩)
    · by_cases hv : wd = wView
      · subst hv
        cases sv
        · by_cases h5 : c.mode = 5
          · exact .inr (.inr (.inr ⟨_, _, _, _, _, _, Step.view rest k c sr sq h5⟩))
          · exact .inr (.inl ⟨12, .inl rfl, by simp, pgo_view_no _ _ _ _ _ h5⟩)
        · exact .inr (.inl ⟨15, .inr rfl, by simp, pgo_view_seen _ _ _ _ _⟩)
      · by_cases hq : wd = wQuiet
        · subst hq
          cases sq
          · exact .inr (.inr (.inr ⟨_, _, _, _, _, _, Step.quiet rest k c sr sv⟩))
          · exact .inr (.inl ⟨15, .inr rfl, by simp, pgo_quiet_seen _ _ _ _ _⟩)
        · exact .inr (.inl ⟨12, .inl rfl, by simp, pgo_other _ _ _ _ _ _ hr hv hq⟩)

/-- What the words come to. -/
def Told (l : List ByteArray) (k : Nat) (c : Cmd) (sr sv sq : Bool) (r : Cmd × Nat × Int) : Prop :=
  (∃ d, r = (d, 0, 0) ∧ mayB d = true) ∨
  (∃ j n, r = (zeroC, k + j, n) ∧ ((n = 12 ∨ n = 15) ∧ j < l.length ∧ (∃ d, pgo (l.take j) k c sr sv sq = (d, 0, 0) ∧ mayB d = true) ∨
      n = 11 ∧ 0 < j ∧ j ≤ l.length ∧ l[j - 1]? = some wRoot ∧ (∃ d, pgo (l.take (j - 1)) k c sr sv sq = (d, 0, 0) ∧ mayB d = true)))

theorem pgo_told : ∀ (m : Nat) (l : List ByteArray) (k : Nat) (c : Cmd) (sr sv sq : Bool), l.length ≤ m → Good c sr sv sq → Told l k c sr sv sq (pgo l k c sr sv sq) := by
  intro m
  induction m with
  | zero =>
    intro l k c sr sv sq hm g
    have : l = [] := List.eq_nil_of_length_eq_zero (by omega)
    subst this
    exact .inl ⟨c, by simp [pgo], g.may⟩
  | succ m ih =>
    intro l k c sr sv sq hm g
    rcases pgo_cases l k c sr sv sq with ⟨rfl, h⟩ | ⟨n, hn, hl, h⟩ | ⟨rest, rfl, h⟩ | ⟨l', k', c', sr', sv', sq', hs⟩
    · exact .inl ⟨c, h, g.may⟩
    · refine .inr ⟨0, n, h, .inl ⟨hn, ?_, c, by simp [pgo], g.may⟩⟩
      cases l with
      | nil => exact absurd rfl hl
      | cons _ _ => simp
    · exact .inr ⟨1, 11, h, .inr ⟨rfl, by omega, by simp, by simp, c, by simp [pgo], g.may⟩⟩
    · have hg := hs.good g
      rw [hs.go]
      -- the step's words
      have key : ∃ pre, l = pre ++ l' ∧ k' = k + pre.length ∧ 0 < pre.length ∧ ∀ l2, Step (pre ++ l2) k c sr sv sq l2 k' c' sr' sv' sq' := by
        cases hs with
        | root r _ _ _ _ _ h => exact ⟨[wRoot, r], rfl, rfl, by simp, fun l2 => Step.root r l2 _ _ _ _ h⟩
        | view _ _ _ _ _ h => exact ⟨[wView], rfl, rfl, by simp, fun l2 => Step.view l2 _ _ _ _ h⟩
        | quiet => exact ⟨[wQuiet], rfl, rfl, by simp, fun l2 => Step.quiet l2 _ _ _ _⟩
      obtain ⟨pre, rfl, rfl, hp, hst⟩ := key
      have ht := ih l' (k + pre.length) c' sr' sv' sq' (by simp at hm; omega) hg
      rcases ht with ⟨d, hd, hm'⟩ | ⟨j, n, hj, hh⟩
      · exact .inl ⟨d, hd, hm'⟩
      · have htake : ∀ i, (pre ++ l').take (pre.length + i) = pre ++ l'.take i := fun i => by
          rw [List.take_append, List.take_of_length_le (by omega)]; simp
        refine .inr ⟨pre.length + j, n, by rw [hj, Nat.add_assoc], ?_⟩
        rcases hh with ⟨hn, hlt, d, hd, hm'⟩ | ⟨hn, h0, hle, hr, d, hd, hm'⟩
        · refine .inl ⟨hn, by simp; omega, d, ?_, hm'⟩
          rw [htake, (hst _).go]; exact hd
        · refine .inr ⟨hn, by omega, by simp; omega, ?_, d, ?_, hm'⟩
          · rw [show pre.length + j - 1 = pre.length + (j - 1) by omega, List.getElem?_append_right (by omega)]
            simpa using hr
          · rw [show pre.length + j - 1 = pre.length + (j - 1) by omega, htake, (hst _).go]; exact hd

theorem modeOf_range (s : ByteArray) : 0 ≤ modeOf s ∧ modeOf s ≤ 5 := by
  unfold modeOf
  repeat' split
  all_goals omega
theorem good_start {m : ByteArray} (h : modeOf m ≠ 0) : Good ⟨modeOf m, ⟨#[]⟩, false, false⟩ false false false := by
  have := modeOf_range m
  exact ⟨by show 1 ≤ modeOf m; omega, this.2, (fun e => by cases e), fun _ => rfl, rfl, (fun e => by cases e), rfl⟩

/-- The law of ArgsMany, of the plain function. -/
theorem parse_told (l : List ByteArray) :
    (∃ d, parseL l = (d, 0, 0) ∧ mayB d = true) ∨ parseL l = (zeroC, 0, 12) ∨
    (∃ k n, parseL l = (zeroC, k, n) ∧ ((n = 12 ∨ n = 15) ∧ 0 < k ∧ k < l.length ∧ (∃ d, parseL (l.take k) = (d, 0, 0) ∧ mayB d = true) ∨
      n = 11 ∧ 1 < k ∧ k ≤ l.length ∧ l[k - 1]? = some wRoot ∧ (∃ d, parseL (l.take (k - 1)) = (d, 0, 0) ∧ mayB d = true))) := by
  cases l with
  | nil => exact .inr (.inl rfl)
  | cons m rest =>
    by_cases hm : modeOf m = 0
    · exact .inr (.inl (by simp [parseL, hm]))
    · have e : ∀ l2, parseL (m :: l2) = pgo l2 1 ⟨modeOf m, ⟨#[]⟩, false, false⟩ false false false := fun l2 => by simp [parseL, hm]
      rw [e]
      rcases pgo_told _ rest 1 _ false false false (Nat.le_refl _) (good_start hm) with ⟨d, hd, hm'⟩ | ⟨j, n, hj, hh⟩
      · exact .inl ⟨d, hd, hm'⟩
      · refine .inr (.inr ⟨1 + j, n, hj, ?_⟩)
        have htake : ∀ i, (m :: rest).take (1 + i) = m :: rest.take i := fun i => by rw [Nat.add_comm]; rfl
        rcases hh with ⟨hn, hlt, d, hd, hm'⟩ | ⟨hn, h0, hle, hr, d, hd, hm'⟩
        · exact .inl ⟨hn, by omega, by simp; omega, d, by rw [htake, e]; exact hd, hm'⟩
        · refine .inr ⟨hn, by omega, by simp; omega, ?_, d, ?_, hm'⟩
          · rw [show 1 + j - 1 = (j - 1) + 1 by omega]; simpa using hr
          · rw [show 1 + j - 1 = 1 + (j - 1) by omega, htake, e]; exact hd
end Go.Proofs.YtoknhfmgkgmlhaaDoor
