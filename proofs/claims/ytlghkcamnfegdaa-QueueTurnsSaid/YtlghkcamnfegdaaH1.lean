/-
  Plain law: a heap in a list. No program is named here.
-/
namespace Go.Heaped

structure Ordered {α : Type} (lt : α → α → Bool) : Prop where
  asym : ∀ x y, lt x y = true → lt y x = false
  ntrans : ∀ x y z, lt y x = false → lt z y = false → lt z x = false

def par (i : Nat) : Nat := (i - 1) / 2
section
variable {α : Type} [Inhabited α] {lt : α → α → Bool}

abbrev g (d : List α) (i : Nat) : α := d.getD i default
/-- The items at i and j change places. -/
def swp (d : List α) (i j : Nat) : List α := (d.set i (g d j)).set j (g d i)

theorem swp_len (d : List α) (i j : Nat) : (swp d i j).length = d.length := by simp [swp]
theorem g_set (d : List α) (i k : Nat) (x : α) (hi : i < d.length) : g (d.set i x) k = if k = i then x else g d k := by
  unfold g
  rw [List.getD_eq_getElem?_getD, List.getD_eq_getElem?_getD, List.getElem?_set]
  by_cases h : i = k
  · subst h; simp [hi]
  · rw [if_neg h, if_neg (fun e => h e.symm)]
theorem g_swp (d : List α) (i j k : Nat) (hi : i < d.length) (hj : j < d.length) : g (swp d i j) k = if k = j then g d i else if k = i then g d j else g d k := by
  unfold swp
  rw [g_set _ _ _ _ (by simpa using hj), g_set _ _ _ _ hi]
theorem g_some {d : List α} {i : Nat} {x : α} (h : d[i]? = some x) : g d i = x := by simp [g, List.getD_eq_getElem?_getD, h]
theorem some_g {d : List α} {i : Nat} (h : i < d.length) : d[i]? = some (g d i) := by simp [g, List.getD_eq_getElem?_getD, h]
theorem swp_eq {d : List α} {i j : Nat} {x y : α} (hi : d[i]? = some x) (hj : d[j]? = some y) : swp d i j = (d.set i y).set j x := by
  rw [swp, g_some hi, g_some hj]

theorem set_perm_cons (d : List α) (i : Nat) (x : α) (hi : i < d.length) : (g d i :: d.set i x).Perm (x :: d) := by
  induction d generalizing i with
  | nil => simp at hi
  | cons a d ih =>
    cases i with
    | zero => simp [g, List.getD_eq_getElem?_getD]; exact List.Perm.swap _ _ _
    | succ i =>
      have h1 := ih i (by simpa using hi)
      have e : g (a :: d) (i + 1) = g d i := by simp [g, List.getD_eq_getElem?_getD]
      rw [e, List.set_cons_succ]
      exact (List.Perm.swap _ _ _).trans ((h1.cons a).trans (List.Perm.swap _ _ _))
theorem swp_perm (d : List α) (i j : Nat) (hi : i < d.length) (hj : j < d.length) : (swp d i j).Perm d := by
  have h1 := set_perm_cons d i (g d j) hi
  have h2 := set_perm_cons (d.set i (g d j)) j (g d i) (by simpa using hj)
  have e : g (d.set i (g d j)) j = g d j := by
    rw [g_set _ _ _ _ hi]
    split <;> rfl
  rw [e] at h2
  exact (List.Perm.cons_inv (h2.trans h1))

/-- Each of the first n is no further ahead than the one above it. -/
def Heap (lt : α → α → Bool) (d : List α) (n : Nat) : Prop := ∀ k, 0 < k → k < n → lt (g d k) (g d (par k)) = false
def UpHeap (lt : α → α → Bool) (d : List α) (n j : Nat) : Prop :=
  (∀ k, 0 < k → k < n → k ≠ j → lt (g d k) (g d (par k)) = false) ∧ (∀ k, 0 < k → k < n → par k = j → 0 < j → lt (g d k) (g d (par j)) = false)
def DownHeap (lt : α → α → Bool) (d : List α) (n i : Nat) : Prop :=
  (∀ k, 0 < k → k < n → par k ≠ i → lt (g d k) (g d (par k)) = false) ∧ (∀ k, 0 < k → k < n → par k = i → 0 < i → lt (g d k) (g d (par i)) = false)

theorem g_append_left (d e : List α) (k : Nat) (h : k < d.length) : g (d ++ e) k = g d k := by
  simp [g, List.getD_eq_getElem?_getD, List.getElem?_append_left h]
theorem up_start {d : List α} (x : α) (h : Heap lt d d.length) : UpHeap lt (d ++ [x]) (d ++ [x]).length d.length := by
  refine ⟨fun k h0 hk hne => ?_, fun k h0 hk hp _ => ?_⟩
  · have hk' : k < d.length := by simp at hk; omega
    rw [g_append_left _ _ _ hk', g_append_left _ _ _ (by unfold par; omega)]
    exact h k h0 hk'
  · simp at hk; unfold par at hp; omega
theorem up_end {d : List α} {n j : Nat} (h : UpHeap lt d n j) (hj : j = 0 ∨ lt (g d j) (g d (par j)) = false) : Heap lt d n := by
  intro k h0 hk
  by_cases e : k = j
  · subst e
    rcases hj with hj | hj
    · omega
    · exact hj
  · exact h.1 k h0 hk e
theorem up_step {d : List α} {j : Nat} (O : Ordered lt) (h : UpHeap lt d d.length j) (h0 : 0 < j) (hj : j < d.length) (hlt : lt (g d j) (g d (par j)) = true) :
    UpHeap lt (swp d (par j) j) (swp d (par j) j).length (par j) := by
  have hp : par j < j := by unfold par; omega
  have hG := fun k => g_swp d (par j) j k (by omega) hj
  rw [swp_len]
  refine ⟨fun k k0 hk hne => ?_, fun k k0 hk hpk hp0 => ?_⟩
  · by_cases e : k = j
    · subst e
      rw [hG, hG, if_pos rfl, if_neg (by omega), if_pos rfl]
      exact O.asym _ _ hlt
    · rw [hG k, if_neg e, if_neg hne, hG]
      by_cases e2 : par k = j
      · rw [if_pos e2]
        exact h.2 k k0 hk e2 h0
      · rw [if_neg e2]
        by_cases e3 : par k = par j
        · rw [if_pos e3]
          have h1 := h.1 k k0 hk e
          rw [e3] at h1
          exact O.ntrans _ _ _ (O.asym _ _ hlt) h1
        · rw [if_neg e3]
          exact h.1 k k0 hk e
  · have hpp : par (par j) < par j := by unfold par at *; omega
    have h1 := h.1 (par j) hp0 (by omega) (by omega)
    rw [hG (par (par j)), if_neg (by omega), if_neg (by omega)]
    by_cases e : k = j
    · subst e
      rw [hG, if_pos rfl]
      exact h1
    · have hk2 : k ≠ par j := by intro e2; rw [e2] at hpk; omega
      rw [hG, if_neg e, if_neg hk2]
      have h2 := h.1 k k0 hk e
      rw [hpk] at h2
      exact O.ntrans _ _ _ h1 h2

theorem down_start {d : List α} {n : Nat} (hn : d.length = n + 1) (h : Heap lt d d.length) : DownHeap lt (swp d 0 n) n 0 := by
  refine ⟨fun k k0 hk hp => ?_, fun k _ _ _ h0 => by omega⟩
  have : par k < k := by unfold par; omega
  rw [g_swp _ _ _ _ (by omega) (by omega), g_swp _ _ _ _ (by omega) (by omega), if_neg (by omega), if_neg (by omega), if_neg (by omega), if_neg hp]
  exact h k k0 (by omega)
theorem down_end {d : List α} {n i j : Nat} (O : Ordered lt) (h : DownHeap lt d n i) (hj : ∀ k, 0 < k → k < n → par k = i → lt (g d k) (g d j) = false) (hlt : n ≤ 2 * i + 1 ∨ lt (g d j) (g d i) = false) : Heap lt d n := by
  intro k k0 hk
  by_cases e : par k = i
  · rcases hlt with hlt | hlt
    · unfold par at e; omega
    · rw [e]; exact O.ntrans _ _ _ hlt (hj k k0 hk e)
  · exact h.1 k k0 hk e
theorem down_step {d : List α} {n i j : Nat} (O : Ordered lt) (h : DownHeap lt d n i) (hn : n ≤ d.length) (hjn : j < n) (hpj : par j = i) (h0 : 0 < j) (hj : ∀ k, 0 < k → k < n → par k = i → lt (g d k) (g d j) = false)
    (hlt : lt (g d j) (g d i) = true) : DownHeap lt (swp d i j) n j := by
  have hij : i < j := by unfold par at hpj; omega
  have hG := fun k => g_swp d i j k (by omega) (by omega)
  refine ⟨fun k k0 hk hp => ?_, fun k k0 hk hp _ => ?_⟩
  · have hpk : par k < k := by unfold par; omega
    rw [hG (par k), if_neg hp]
    by_cases e : par k = i
    · rw [if_pos e, hG]
      by_cases e2 : k = j
      · rw [if_pos e2]; exact O.asym _ _ hlt
      · rw [if_neg e2, if_neg (by omega)]
        exact hj k k0 hk e
    · rw [if_neg e, hG]
      by_cases e2 : k = j
      · subst e2; exact absurd hpj e
      · rw [if_neg e2]
        by_cases e3 : k = i
        · rw [if_pos e3]
          subst e3
          exact h.2 j h0 hjn hpj k0
        · rw [if_neg e3]
          exact h.1 k k0 hk e
  · have hpk : par k < k := by unfold par; omega
    rw [hpj, hG, hG, if_neg (by omega), if_neg (by omega), if_neg (by omega), if_pos rfl]
    have h1 := h.1 k k0 hk (by omega)
    rw [hp] at h1
    exact h1

theorem heap_min {d : List α} {n : Nat} (O : Ordered lt) (h : Heap lt d n) (irr : ∀ x, lt x x = false) : ∀ k, k < n → lt (g d k) (g d 0) = false := by
  intro k
  induction k using Nat.strongRecOn with
  | ind k ih =>
    intro hk
    by_cases k0 : k = 0
    · subst k0; exact irr _
    · exact O.ntrans _ _ _ (ih (par k) (by unfold par; omega) (by unfold par; omega)) (h k (by omega) hk)
end
end Go.Heaped
