/-
  Plain law: the first one of a list by an order of ranks; lists sorted by taking the first one again and again. No program is named here.
-/
namespace Go.Picked

abbrev Th := Int × Int
def cmpI (a b : Int) : Int := if a < b then -1 else if b < a then 1 else 0
theorem cmpI_anti (a b : Int) : cmpI a b = - cmpI b a := by
  unfold cmpI
  split <;> split <;> (try split) <;> omega
theorem cmpI_neg {a b : Int} : cmpI a b < 0 ↔ a < b := by
  unfold cmpI
  split
  · simp [*]
  · split <;> simp [*]
theorem cmpI_nonpos {a b : Int} : cmpI a b ≤ 0 ↔ a ≤ b := by
  unfold cmpI
  split
  · constructor <;> intro <;> omega
  · split
    · constructor <;> intro <;> omega
    · constructor <;> intro <;> omega

/-- The thing at i is ahead of all before it, and not behind any from it on. -/
structure IsFirst (f : Int → Int → Int) (l : List Th) (i : Nat) (x : Th) : Prop where
  at_ : l[i]? = some x
  before : ∀ j y, j < i → l[j]? = some y → f x.1 y.1 < 0
  behind : ∀ j y, i ≤ j → l[j]? = some y → f x.1 y.1 ≤ 0

theorem IsFirst.unique {f : Int → Int → Int} (anti : ∀ a b, f a b = - f b a) {l : List Th} {i j : Nat} {x y : Th} (h : IsFirst f l i x) (k : IsFirst f l j y) : i = j ∧ x = y := by
  have : i = j := by
    rcases Nat.lt_trichotomy i j with c | c | c
    · have h1 := k.before i x c h.at_
      have h2 := h.behind j y (by omega) k.at_
      have := anti x.1 y.1
      omega
    · exact c
    · have h1 := h.before j y c k.at_
      have h2 := k.behind i x (by omega) h.at_
      have := anti x.1 y.1
      omega
  subst this
  have := h.at_.symm.trans k.at_
  exact ⟨rfl, by simpa using this⟩

/-- The list that comes when the first one is taken again and again. -/
inductive Sel (f : Int → Int → Int) : List Th → List Th → Prop
  | nil : Sel f [] []
  | cons {l : List Th} {i : Nat} {x : Th} {out : List Th} (h : IsFirst f l i x) (t : Sel f (l.eraseIdx i) out) : Sel f l (x :: out)

theorem Sel.unique {f : Int → Int → Int} (anti : ∀ a b, f a b = - f b a) {l a b : List Th} (h : Sel f l a) (k : Sel f l b) : a = b := by
  induction h generalizing b with
  | nil =>
    cases k with
    | nil => rfl
    | cons h' _ => have := h'.at_; simp at this
  | cons h t ih =>
    cases k with
    | nil => have := h.at_; simp at this
    | cons h' t' =>
      obtain ⟨rfl, rfl⟩ := h.unique anti h'
      rw [ih t']
theorem Sel.length {f : Int → Int → Int} {l a : List Th} (h : Sel f l a) : a.length = l.length := by
  induction h with
  | nil => rfl
  | @cons l i x out h t ih =>
    have hi : i < l.length := (List.getElem?_eq_some_iff.1 h.at_).1
    rw [List.length_cons, ih, List.length_eraseIdx, if_pos hi]
    omega

/-! ### by ranks: sorted, and as it stood within a rank -/
def Rise (l : List Th) : Prop := l.Pairwise (fun a b => a.1 ≤ b.1)
def ofRank (r : Int) (l : List Th) : List Th := l.filter (fun t => t.1 == r)

theorem ofRank_append (r : Int) (a b : List Th) : ofRank r (a ++ b) = ofRank r a ++ ofRank r b := by simp [ofRank]
theorem mem_erase {l : List Th} {i : Nat} {y : Th} (h : y ∈ l.eraseIdx i) : y ∈ l := List.mem_of_mem_eraseIdx h
theorem IsFirst.split {l : List Th} {i : Nat} {x : Th} (h : IsFirst cmpI l i x) : l = l.take i ++ x :: l.drop (i + 1) ∧ l.eraseIdx i = l.take i ++ l.drop (i + 1) ∧ (∀ y ∈ l.take i, x.1 < y.1) ∧ (∀ y ∈ l, x.1 ≤ y.1) := by
  obtain ⟨hi, hx⟩ := List.getElem?_eq_some_iff.1 h.at_
  have e1 : l = l.take i ++ x :: l.drop (i + 1) := by
    rw [← hx, List.getElem_cons_drop, List.take_append_drop]
  refine ⟨e1, List.eraseIdx_eq_take_drop_succ _ _, fun y hy => ?_, fun y hy => ?_⟩
  · obtain ⟨j, hj, rfl⟩ := List.getElem_of_mem hy
    have hj' : j < i := by simp at hj; omega
    have := h.before j _ hj' (List.getElem?_eq_getElem (by omega))
    rw [List.getElem_take]
    exact cmpI_neg.1 this
  · obtain ⟨j, hj, rfl⟩ := List.getElem_of_mem hy
    rcases Nat.lt_or_ge j i with c | c
    · have := h.before j _ c (List.getElem?_eq_getElem hj)
      have := cmpI_neg.1 this
      omega
    · exact cmpI_nonpos.1 (h.behind j _ c (List.getElem?_eq_getElem hj))

theorem Sel.perm {l a : List Th} (h : Sel cmpI l a) : a.Perm l := by
  induction h with
  | nil => exact List.Perm.refl _
  | @cons l i x out h t ih =>
    obtain ⟨e1, e2, _, _⟩ := h.split
    rw [e2] at ih
    conv => rhs; rw [e1]
    exact (ih.cons x).trans List.perm_middle.symm
theorem Sel.rise {l a : List Th} (h : Sel cmpI l a) : Rise a := by
  induction h with
  | nil => exact List.Pairwise.nil
  | @cons l i x out h t ih =>
    obtain ⟨e1, e2, _, e4⟩ := h.split
    exact List.Pairwise.cons (fun y hy => e4 y (mem_erase (t.perm.mem_iff.1 hy))) ih
theorem Sel.ofRank {l a : List Th} (h : Sel cmpI l a) (r : Int) : ofRank r a = ofRank r l := by
  induction h with
  | nil => rfl
  | @cons l i x out h t ih =>
    obtain ⟨e1, e2, e3, e4⟩ := h.split
    conv => rhs; rw [e1]
    rw [e2] at ih
    rw [ofRank_append] at ih
    rw [ofRank_append]
    by_cases hr : x.1 = r
    · have h0 : Picked.ofRank r (l.take i) = [] := by
        unfold Picked.ofRank
        rw [List.filter_eq_nil_iff]
        intro y hy
        have := e3 y hy
        simp; omega
      rw [h0, List.nil_append] at ih ⊢
      have e : ∀ m, Picked.ofRank r (x :: m) = x :: Picked.ofRank r m := fun m => by simp [Picked.ofRank, hr]
      rw [e, e, ih]
    · have e : ∀ m, Picked.ofRank r (x :: m) = Picked.ofRank r m := fun m => by simp [Picked.ofRank, hr]
      rw [e, e, ih]

theorem eq_of_ranks {a b : List Th} (ha : Rise a) (hb : Rise b) (h : ∀ r, ofRank r a = ofRank r b) : a = b := by
  induction a generalizing b with
  | nil =>
    cases b with
    | nil => rfl
    | cons y b => have := h y.1; simp [ofRank] at this
  | cons x a ih =>
    cases b with
    | nil => have := h x.1; simp [ofRank] at this
    | cons y b =>
      have hx : x.1 = y.1 := by
        have h1 := h x.1
        have h2 := h y.1
        have m1 : x ∈ ofRank x.1 (y :: b) := by rw [← h1]; simp [ofRank]
        have m2 : y ∈ ofRank y.1 (x :: a) := by rw [h2]; simp [ofRank]
        simp only [ofRank, List.mem_filter, List.mem_cons] at m1 m2
        have l1 : y.1 ≤ x.1 := by
          rcases m1.1 with e | e
          · rw [e]; exact Int.le_refl _
          · exact (List.pairwise_cons.1 hb).1 x e
        have l2 : x.1 ≤ y.1 := by
          rcases m2.1 with e | e
          · rw [e]; exact Int.le_refl _
          · exact (List.pairwise_cons.1 ha).1 y e
        omega
      have hxy : x = y := by
        have h1 := h x.1
        simp only [ofRank, List.filter_cons, hx, beq_self_eq_true, if_true] at h1
        exact (List.cons.inj h1).1
      subst hxy
      rw [ih (List.pairwise_cons.1 ha).2 (List.pairwise_cons.1 hb).2]
      intro r
      have h1 := h r
      simp only [ofRank, List.filter_cons] at h1
      split at h1
      · exact (List.cons.inj h1).2
      · exact h1
/-- To sort what is sorted with more is to sort all at once. -/
theorem Sel.parts {a b s all out : List Th} (h : Sel cmpI a s) (k : Sel cmpI (a ++ b) all) (m : Sel cmpI (s ++ b) out) : all = out :=
  eq_of_ranks k.rise m.rise (fun r => by rw [k.ofRank, m.ofRank, ofRank_append, ofRank_append, h.ofRank])
end Go.Picked
