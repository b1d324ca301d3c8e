/-
  Plain law: the words by which a tour comes to a state first are the least ones, shorter rows ahead of longer ones. No program is named here.
  Plain law: what a state matches; a tour whose states match unlike rows depends on what its first one matches alone. No program is named here.
-/
import Derived.Test.YtngpjagpeblbjaaGreatDoorZ14
namespace Go.Tour

/-! ### rows of numbers in order -/
def aheadL : List Nat → List Nat → Bool
  | a :: u, b :: v => if a = b then aheadL u v else decide (a < b)
  | _, _ => false
def slt (u v : List Nat) : Prop := u.length < v.length ∨ u.length = v.length ∧ aheadL u v = true
def sle (u v : List Nat) : Prop := u = v ∨ slt u v

theorem aheadL_irr : ∀ u, aheadL u u = false
  | [] => rfl
  | a :: u => by simp [aheadL, aheadL_irr u]
theorem aheadL_trans : ∀ {u v w : List Nat}, aheadL u v = true → aheadL v w = true → aheadL u w = true
  | [], _, _, h, _ => by simp [aheadL] at h
  | _ :: _, [], _, h, _ => by simp [aheadL] at h
  | _ :: _, _ :: _, [], _, h => by simp [aheadL] at h
  | a :: u, b :: v, c :: w, h, k => by
    simp only [aheadL] at h k ⊢
    by_cases e1 : a = b <;> by_cases e2 : b = c
    · subst e1; subst e2; simp at h k ⊢; exact aheadL_trans h k
    · subst e1; simp [e2] at k ⊢; exact k
    · subst e2; simp [e1] at h ⊢; exact h
    · simp [e1] at h; simp [e2] at k
      have : a ≠ c := by omega
      simp [this]; omega
theorem aheadL_total : ∀ {u v : List Nat}, u.length = v.length → aheadL u v = true ∨ u = v ∨ aheadL v u = true
  | [], [], _ => .inr (.inl rfl)
  | [], _ :: _, h => by simp at h
  | _ :: _, [], h => by simp at h
  | a :: u, b :: v, h => by
    simp only [List.length_cons, Nat.add_right_cancel_iff] at h
    by_cases e : a = b
    · subst e
      rcases aheadL_total h with x | x | x
      · exact .inl (by simp [aheadL, x])
      · exact .inr (.inl (by rw [x]))
      · exact .inr (.inr (by simp [aheadL, x]))
    · rcases Nat.lt_or_gt_of_ne e with x | x
      · exact .inl (by simp [aheadL, e, x])
      · exact .inr (.inr (by simp [aheadL, Ne.symm e, x]))
theorem aheadL_snoc : ∀ {u v : List Nat} (c d : Nat), u.length = v.length → aheadL u v = true → aheadL (u ++ [c]) (v ++ [d]) = true
  | [], _, _, _, _, h => by simp [aheadL] at h
  | _ :: _, [], _, _, _, h => by simp [aheadL] at h
  | a :: u, b :: v, c, d, hl, h => by
    simp only [List.length_cons, Nat.add_right_cancel_iff] at hl
    simp only [aheadL, List.cons_append] at h ⊢
    by_cases e : a = b
    · simp [e] at h ⊢; exact aheadL_snoc c d hl h
    · simp [e] at h ⊢; exact h
theorem aheadL_last : ∀ (u : List Nat) {c d : Nat}, c < d → aheadL (u ++ [c]) (u ++ [d]) = true
  | [], c, d, h => by simp [aheadL, Nat.ne_of_lt h, h]
  | a :: u, c, d, h => by simp [aheadL, aheadL_last u h]

theorem slt_trans {u v w : List Nat} (h : slt u v) (k : slt v w) : slt u w := by
  rcases h with h | ⟨h1, h2⟩ <;> rcases k with k | ⟨k1, k2⟩
  · exact .inl (by omega)
  · exact .inl (by omega)
  · exact .inl (by omega)
  · exact .inr ⟨by omega, aheadL_trans h2 k2⟩
theorem slt_irr (u : List Nat) : ¬ slt u u := by
  rintro (h | ⟨_, h⟩)
  · omega
  · rw [aheadL_irr] at h; cases h
theorem slt_snoc {u v : List Nat} (c d : Nat) (h : slt u v) : slt (u ++ [c]) (v ++ [d]) := by
  rcases h with h | ⟨h1, h2⟩
  · exact .inl (by simp; omega)
  · exact .inr ⟨by simp [h1], aheadL_snoc c d h1 h2⟩
theorem slt_last (u : List Nat) {c d : Nat} (h : c < d) : slt (u ++ [c]) (u ++ [d]) := .inr ⟨by simp, aheadL_last u h⟩
theorem sle_trans {u v w : List Nat} (h : sle u v) (k : sle v w) : sle u w := by
  rcases h with rfl | h
  · exact k
  · rcases k with rfl | k
    · exact .inr h
    · exact .inr (slt_trans h k)
theorem sle_antisymm {u v : List Nat} (h : sle u v) (k : sle v u) : u = v := by
  rcases h with h | h
  · exact h
  · rcases k with k | k
    · exact k.symm
    · exact absurd (slt_trans h k) (slt_irr u)
/-- As the laws say it. -/
theorem sle_iff {u v : List Nat} : sle u v ↔ u.length < v.length ∨ u.length = v.length ∧ aheadL v u = false := by
  constructor
  · rintro (rfl | h | ⟨h1, h2⟩)
    · exact .inr ⟨rfl, aheadL_irr u⟩
    · exact .inl h
    · refine .inr ⟨h1, ?_⟩
      cases h : aheadL v u with
      | false => rfl
      | true => have := aheadL_trans h2 h; rw [aheadL_irr] at this; cases this
  · rintro (h | ⟨h1, h2⟩)
    · exact .inr (.inl h)
    · rcases aheadL_total h1 with x | x | x
      · exact .inr (.inr ⟨h1, x⟩)
      · exact .inl x
      · rw [h2] at x; cases x

/-! ### states come to in order -/
def ltp (p q : Nat × Nat) : Prop := p.1 < q.1 ∨ p.1 = q.1 ∧ p.2 < q.2
section
variable {K : Type} [DecidableEq K]
/-- Where a state goes by each of m words. -/
def fan (δ : K → Nat → K) (m : Nat) (k : K) : List K := (List.range m).map (δ k)
omit [DecidableEq K] in
theorem fan_length (δ : K → Nat → K) (m : Nat) (k : K) : (fan δ m k).length = m := by simp [fan]
omit [DecidableEq K] in
theorem fan_get (δ : K → Nat → K) {m : Nat} (k : K) {j : Nat} (h : j < m) : (fan δ m k)[j]? = some (δ k j) := by simp [fan, h]
def runL (δ : K → Nat → K) (k : K) (u : List Nat) : K := u.foldl δ k
omit [DecidableEq K] in
theorem runL_snoc (δ : K → Nat → K) (k : K) (u : List Nat) (c : Nat) : runL δ k (u ++ [c]) = δ (runL δ k u) c := by simp [runL]

structure Bfs (δ : K → Nat → K) (m : Nat) (first : K) (keys : List K) (fr : List (Nat × Nat)) (b : Nat × Nat) : Prop where
  len : fr.length = keys.length
  zero : keys[0]? = some first
  step : ∀ n p, 0 < n → fr[n]? = some p → p.2 < m ∧ p.1 < n ∧ ltp p b ∧ ∃ k, keys[p.1]? = some k ∧ keys[n]? = some (δ k p.2)
  incr : ∀ n n' p p', 0 < n → n < n' → fr[n]? = some p → fr[n']? = some p' → ltp p p'
  come : ∀ r c k, c < m → ltp (r, c) b → keys[r]? = some k → ∃ t, keys[t]? = some (δ k c) ∧ (t = 0 ∨ ∃ p, fr[t]? = some p ∧ (p = (r, c) ∨ ltp p (r, c)))

section
variable {δ : K → Nat → K} {m : Nat} {first : K} {keys : List K} {fr : List (Nat × Nat)} {i j : Nat}
omit [DecidableEq K] in
theorem Bfs.at {b : Nat × Nat} (h : Bfs δ m first keys fr b) {n : Nat} (hn : n < keys.length) : ∃ p, fr[n]? = some p := ⟨_, List.getElem?_eq_getElem (by rw [h.len]; exact hn)⟩
theorem ltp_succ {p : Nat × Nat} {i j : Nat} : ltp p (i, j + 1) ↔ ltp p (i, j) ∨ p = (i, j) := by
  obtain ⟨a, b⟩ := p
  simp only [ltp, Prod.mk.injEq]
  omega
theorem Bfs.vis (h : Bfs δ m first keys fr (i, j)) {k : K} (hk : keys[i]? = some k) (hj : j < m) {g : List Nat} :
    Bfs δ m first (vis1 i ⟨keys, fr, g⟩ (δ k j) j).keys (vis1 i ⟨keys, fr, g⟩ (δ k j) j).from_ (i, j + 1) := by
  have hil := (List.getElem?_eq_some_iff.1 hk).1
  unfold vis1
  by_cases hm : δ k j ∈ keys
  · rw [if_pos hm]
    refine ⟨h.len, h.zero, fun n p h0 hp => ?_, h.incr, fun r c k' hc hl hk' => ?_⟩
    · obtain ⟨a, b, c, d⟩ := h.step n p h0 hp
      exact ⟨a, b, ltp_succ.2 (.inl c), d⟩
    · rcases ltp_succ.1 hl with hl | hl
      · exact h.come r c k' hc hl hk'
      · simp only [Prod.mk.injEq] at hl
        obtain ⟨rfl, rfl⟩ := hl
        obtain rfl : k' = k := by rw [hk] at hk'; simpa using hk'.symm
        obtain ⟨t, ht, hte⟩ := List.getElem_of_mem hm
        refine ⟨t, by rw [List.getElem?_eq_getElem ht, hte], ?_⟩
        rcases Nat.eq_zero_or_pos t with e | e
        · exact .inl e
        · obtain ⟨p, hp⟩ := h.at ht
          exact .inr ⟨_, hp, .inr (h.step t _ e hp).2.2.1⟩
  · rw [if_neg hm]
    simp only
    have hkl : ∀ {n : Nat} {x : K}, keys[n]? = some x → (keys ++ [δ k j])[n]? = some x := fun {n x} hx => by
      rw [List.getElem?_append_left (List.getElem?_eq_some_iff.1 hx).1]; exact hx
    have hfl : ∀ {n : Nat} {x : Nat × Nat}, (fr ++ [(i, j)])[n]? = some x → fr[n]? = some x ∨ n = keys.length ∧ x = (i, j) := fun {n x} hx => by
      rcases Nat.lt_or_ge n fr.length with e | e
      · rw [List.getElem?_append_left e] at hx; exact .inl hx
      · rw [List.getElem?_append_right e] at hx
        have h1 := (List.getElem?_eq_some_iff.1 hx).1
        simp only [List.length_singleton] at h1
        have h2 : n - fr.length = 0 := by omega
        rw [h2] at hx
        have := h.len
        exact .inr ⟨by omega, by simpa using hx.symm⟩
    refine ⟨by simp [h.len], hkl h.zero, fun n p h0 hp => ?_, fun n n' p p' h0 hn hp hp' => ?_, fun r c k' hc hl hk' => ?_⟩
    · rcases hfl hp with hp | ⟨rfl, rfl⟩
      · obtain ⟨a, b, c, k', d, e⟩ := h.step n p h0 hp
        exact ⟨a, b, ltp_succ.2 (.inl c), k', hkl d, hkl e⟩
      · exact ⟨hj, hil, ltp_succ.2 (.inr rfl), k, hkl hk, by rw [List.getElem?_append_right (Nat.le_refl _)]; simp⟩
    · have hl := h.len
      rcases hfl hp with hp | ⟨rfl, rfl⟩
      · rcases hfl hp' with hp' | ⟨rfl, rfl⟩
        · exact h.incr n n' p p' h0 hn hp hp'
        · exact (h.step n p h0 hp).2.2.1
      · rcases hfl hp' with hp' | ⟨rfl, rfl⟩
        · have := (List.getElem?_eq_some_iff.1 hp').1; omega
        · omega
    · have hr : r ≤ i := by simp only [ltp] at hl; omega
      have hk2 : keys[r]? = some k' := by rw [List.getElem?_append_left (by omega)] at hk'; exact hk'
      rcases ltp_succ.1 hl with hl | hl
      · obtain ⟨t, ht, hte⟩ := h.come r c k' hc hl hk2
        refine ⟨t, hkl ht, hte.imp id ?_⟩
        rintro ⟨p, hp, hpe⟩
        exact ⟨p, by rw [List.getElem?_append_left (List.getElem?_eq_some_iff.1 hp).1]; exact hp, hpe⟩
      · simp only [Prod.mk.injEq] at hl
        obtain ⟨rfl, rfl⟩ := hl
        obtain rfl : k' = k := by rw [hk] at hk2; simpa using hk2.symm
        refine ⟨keys.length, by rw [List.getElem?_append_right (Nat.le_refl _)]; simp, .inr ⟨(r, c), ?_, .inl rfl⟩⟩
        rw [List.getElem?_append_right (by rw [h.len]; exact Nat.le_refl _), h.len]; simp
theorem Bfs.visN (h : Bfs δ m first keys fr (i, 0)) {k : K} (hk : keys[i]? = some k) : ∀ j, j ≤ m → Bfs δ m first (visN i ⟨keys, fr, []⟩ (fan δ m k) j).keys (visN i ⟨keys, fr, []⟩ (fan δ m k) j).from_ (i, j)
  | 0, _ => h
  | j + 1, hj => by
    have ih := Bfs.visN h hk j (by omega)
    rw [visN_succ (fan_get δ k (show j < m by omega))]
    refine ih.vis ?_ (by omega)
    obtain ⟨t, ht⟩ := visN_pre i ⟨keys, fr, []⟩ (fan δ m k) j
    have ht : keys ++ t = (Tour.visN i ⟨keys, fr, []⟩ (fan δ m k) j).keys := ht
    rw [← ht, List.getElem?_append_left (List.getElem?_eq_some_iff.1 hk).1]; exact hk
omit [DecidableEq K] in
theorem Bfs.row (h : Bfs δ m first keys fr (i, m)) : Bfs δ m first keys fr (i + 1, 0) := by
  refine ⟨h.len, h.zero, fun n p h0 hp => ?_, h.incr, fun r c k' hc hl hk' => h.come r c k' hc (by simp only [ltp] at hl ⊢; omega) hk'⟩
  obtain ⟨a, b, c, d⟩ := h.step n p h0 hp
  exact ⟨a, b, by simp only [ltp] at c ⊢; omega, d⟩
theorem bfs_tour (δ : K → Nat → K) (m : Nat) (first : K) : ∀ i, i ≤ (tourN (fan δ m) first i).keys.length → Bfs δ m first (tourN (fan δ m) first i).keys (tourN (fan δ m) first i).from_ (i, 0)
  | 0, _ => ⟨rfl, rfl, fun n p h0 hp => by
      have := (List.getElem?_eq_some_iff.1 hp).1
      simp [tourN] at this; omega, fun n n' p p' h0 hn hp hp' => by
      have := (List.getElem?_eq_some_iff.1 hp').1
      simp [tourN] at this; omega, fun r c k hc hl => by simp [ltp] at hl⟩
  | i + 1, hi => by
    cases h : (tourN (fan δ m) first i).keys[i]? with
    | none =>
      have h0 := List.getElem?_eq_none_iff.1 h
      rw [tourN_stop h0] at hi; omega
    | some k =>
      have hl := (List.getElem?_eq_some_iff.1 h).1
      have ih := bfs_tour δ m first i (by omega)
      rw [tourN_succ h]
      have := (ih.visN h m (Nat.le_refl _)).row
      simp only [rowOf, fan_length]
      exact this
end

/-! ### the words of a state -/
def wordF (fr : List (Nat × Nat)) : Nat → Nat → List Nat
  | 0, _ => []
  | f + 1, n => if n = 0 then [] else match fr[n]? with
    | some p => wordF fr f p.1 ++ [p.2]
    | none => []
def word (fr : List (Nat × Nat)) (n : Nat) : List Nat := wordF fr n n
section
variable {δ : K → Nat → K} {m : Nat} {first : K} {keys : List K} {fr : List (Nat × Nat)} {b : Nat × Nat}
omit [DecidableEq K] in
theorem Bfs.wordF (h : Bfs δ m first keys fr b) : ∀ f n, n ≤ f → wordF fr f n = word fr n := by
  have key : ∀ n f g, n ≤ f → n ≤ g → Tour.wordF fr f n = Tour.wordF fr g n := by
    intro n
    induction n using Nat.strongRecOn with
    | _ n ih =>
      intro f g hf hg
      rcases Nat.eq_zero_or_pos n with rfl | h0
      · cases f <;> cases g <;> simp [Tour.wordF]
      · obtain ⟨f, rfl⟩ : ∃ f', f = f' + 1 := ⟨f - 1, by omega⟩
        obtain ⟨g, rfl⟩ : ∃ g', g = g' + 1 := ⟨g - 1, by omega⟩
        simp only [Tour.wordF, if_neg (show n ≠ 0 by omega)]
        cases hp : fr[n]? with
        | none => rfl
        | some p =>
          have := (h.step n p h0 hp).2.1
          simp only
          rw [ih p.1 this f g (by omega) (by omega)]
  intro f n hn
  exact key n f n hn (Nat.le_refl _)
theorem word_zero (fr : List (Nat × Nat)) : word fr 0 = [] := rfl
omit [DecidableEq K] in
theorem Bfs.word_pos (h : Bfs δ m first keys fr b) {n : Nat} {p : Nat × Nat} (h0 : 0 < n) (hp : fr[n]? = some p) : word fr n = word fr p.1 ++ [p.2] := by
  obtain ⟨n, rfl⟩ : ∃ n', n = n' + 1 := ⟨n - 1, by omega⟩
  have := (h.step _ p h0 hp).2.1
  show Tour.wordF fr (n + 1) (n + 1) = _
  simp only [Tour.wordF, hp]
  rw [h.wordF n p.1 (by omega)]
  simp
omit [DecidableEq K] in
theorem Bfs.word_run (h : Bfs δ m first keys fr b) : ∀ n, n < keys.length → keys[n]? = some (runL δ first (word fr n)) ∧ ∀ c ∈ word fr n, c < m := by
  intro n
  induction n using Nat.strongRecOn with
  | _ n ih =>
    intro hn
    rcases Nat.eq_zero_or_pos n with rfl | h0
    · exact ⟨h.zero, by simp [word_zero]⟩
    · obtain ⟨p, hp⟩ := h.at hn
      obtain ⟨a, c, _, k, d, e⟩ := h.step n _ h0 hp
      obtain ⟨i1, i2⟩ := ih _ c (by omega)
      rw [h.word_pos h0 hp, runL_snoc]
      rw [i1] at d
      simp only [Option.some.injEq] at d
      refine ⟨by rw [d]; exact e, fun x hx => ?_⟩
      rw [List.mem_append, List.mem_singleton] at hx
      rcases hx with hx | rfl
      · exact i2 x hx
      · exact a
omit [DecidableEq K] in
theorem Bfs.word_lt (h : Bfs δ m first keys fr b) : ∀ n n', n < n' → n' < keys.length → slt (word fr n) (word fr n') := by
  intro n n'
  induction n' using Nat.strongRecOn generalizing n with
  | _ n' ih =>
    intro hn hl
    obtain ⟨p', hp'⟩ := h.at hl
    have s' := h.step n' _ (by omega) hp'
    rw [h.word_pos (by omega) hp']
    rcases Nat.eq_zero_or_pos n with rfl | h0
    · exact .inl (by simp [word_zero])
    · obtain ⟨p, hp⟩ := h.at (n := n) (by omega)
      rw [h.word_pos h0 hp]
      rcases h.incr n n' _ _ h0 hn hp hp' with e | ⟨e1, e2⟩
      · exact slt_snoc _ _ (ih _ s'.2.1 _ e (by omega))
      · rw [e1]; exact slt_last _ e2
omit [DecidableEq K] in
theorem Bfs.word_le (h : Bfs δ m first keys fr b) {n n' : Nat} (hn : n ≤ n') (hl : n' < keys.length) : sle (word fr n) (word fr n') := by
  rcases Nat.lt_or_ge n n' with e | e
  · exact .inr (h.word_lt n n' e hl)
  · obtain rfl : n = n' := by omega
    exact .inl rfl
omit [DecidableEq K] in
theorem Bfs.least (h : Bfs δ m first keys fr (keys.length, 0)) (u : List Nat) (hu : ∀ c ∈ u, c < m) : ∃ t, keys[t]? = some (runL δ first u) ∧ sle (word fr t) u := by
  have key : ∀ (f : Nat) (u : List Nat), u.length = f → (∀ c ∈ u, c < m) → ∃ t, keys[t]? = some (runL δ first u) ∧ sle (word fr t) u := by
    intro f
    induction f with
    | zero =>
      intro u hl _
      obtain rfl : u = [] := List.eq_nil_of_length_eq_zero hl
      exact ⟨0, h.zero, .inl rfl⟩
    | succ f ih =>
      intro u hl hu
      have hne : u ≠ [] := by rintro rfl; simp at hl
      obtain ⟨u', c, rfl⟩ : ∃ u' c, u = u' ++ [c] := ⟨u.dropLast, u.getLast hne, (List.dropLast_concat_getLast hne).symm⟩
      obtain ⟨i, hi, hle⟩ := ih u' (by simp at hl; omega) (fun x hx => hu x (by simp [hx]))
      have hil := (List.getElem?_eq_some_iff.1 hi).1
      obtain ⟨t, ht, hte⟩ := h.come i c _ (hu c (by simp)) (.inl hil) hi
      refine ⟨t, by rw [runL_snoc]; exact ht, ?_⟩
      rcases hte with rfl | ⟨p, hp, hpe⟩
      · exact .inr (.inl (by simp [word_zero]))
      · rcases Nat.eq_zero_or_pos t with rfl | h0
        · exact .inr (.inl (by simp [word_zero]))
        · have hs := h.step t p h0 hp
          have h2 : sle (word fr p.1 ++ [p.2]) (word fr i ++ [c]) := by
            rcases hpe with rfl | e | ⟨e1, e2⟩
            · exact .inl rfl
            · exact .inr (slt_snoc _ _ (h.word_lt _ _ e hil))
            · simp only at e1 e2; rw [e1]; exact .inr (slt_last _ e2)
          rw [h.word_pos h0 hp]
          refine sle_trans h2 ?_
          rcases hle with e | e
          · rw [e]; exact .inl rfl
          · exact .inr (slt_snoc _ _ e)
  exact key u.length u rfl hu
end

/-! ### tours that end -/
theorem mem_length_le : ∀ {l u : List K}, l.Nodup → (∀ k ∈ l, k ∈ u) → l.length ≤ u.length
  | [], _, _, _ => by simp
  | a :: l, u, h, hm => by
    have ha : a ∈ u := hm a (by simp)
    have h1 := mem_length_le (l := l) (u := u.erase a) (List.nodup_cons.1 h).2 (fun k hk => by
      have hne : k ≠ a := fun e => (List.nodup_cons.1 h).1 (e ▸ hk)
      exact (List.mem_erase_of_ne hne).2 (hm k (by simp [hk])))
    rw [List.length_erase_of_mem ha] at h1
    have := List.length_pos_of_mem ha
    simp only [List.length_cons]
    omega
/-- All rows are done. -/
def Full (succ : K → List K) (first : K) (i : Nat) : Prop := (tourN succ first i).keys.length = i
section
variable {succ : K → List K} {first : K} {U : K → Prop}
theorem full_of_le {n : Nat} (h : (tourN succ first n).keys.length ≤ n) : Full succ first (tourN succ first n).keys.length ∧ tourN succ first (tourN succ first n).keys.length = tourN succ first n := by
  have h1 : (tourN succ first (tourN succ first n).keys.length).keys.length ≤ (tourN succ first n).keys.length := (tourN_pre succ first h).length_le
  have h2 := tourN_stay h1 h
  exact ⟨by unfold Full; rw [← h2], h2.symm⟩
theorem full_unique {i j : Nat} (hi : Full succ first i) (hj : Full succ first j) : i = j := by
  have key : ∀ i j, Full succ first i → Full succ first j → i ≤ j → i = j := by
    intro i j hi hj h
    have := tourN_stay (show (tourN succ first i).keys.length ≤ i by rw [hi]; exact Nat.le_refl _) h
    unfold Full at hj
    rw [this, hi] at hj
    exact hj
  rcases Nat.le_total i j with h | h
  · exact key i j hi hj h
  · exact (key j i hj hi h).symm
theorem tourN_le (hf : U first) (hc : ∀ k, U k → ∀ x ∈ succ k, U x) {u : List K} (hu : ∀ k, U k → k ∈ u) (i : Nat) : (tourN succ first i).keys.length ≤ u.length :=
  mem_length_le (tourN_nodup succ first i) fun k hk => hu k (tourN_univ hf hc i k hk)
theorem full_ex (hf : U first) (hc : ∀ k, U k → ∀ x ∈ succ k, U x) {u : List K} (hu : ∀ k, U k → k ∈ u) : ∃ i, i ≤ u.length ∧ Full succ first i :=
  ⟨_, tourN_le hf hc hu u.length, (full_of_le (tourN_le hf hc hu u.length)).1⟩
theorem full_keys {i n : Nat} (h : Full succ first i) : (tourN succ first n).keys <+: (tourN succ first i).keys := by
  rcases Nat.le_total n i with e | e
  · exact tourN_pre succ first e
  · rw [tourN_stay (by rw [h]; exact Nat.le_refl _) e]; exact List.prefix_refl _
theorem Full.bfs {δ : K → Nat → K} {m : Nat} {i : Nat} (h : Full (fan δ m) first i) : Bfs δ m first (tourN (fan δ m) first i).keys (tourN (fan δ m) first i).from_ ((tourN (fan δ m) first i).keys.length, 0) := by
  have := bfs_tour δ m first i (by rw [h]; exact Nat.le_refl _)
  unfold Full at h
  rw [h]
  exact this
end

/-- The first state of a full tour that has a property is come to by the least row of words that comes to one. -/
theorem full_least {δ : K → Nat → K} {m : Nat} {first : K} {i : Nat} (h : Full (fan δ m) first i) (P : K → Bool) {n : Nat} {k : K} (hk : (tourN (fan δ m) first i).keys[n]? = some k)
    (hn : ∀ j x, j < n → (tourN (fan δ m) first i).keys[j]? = some x → P x = false) :
    runL δ first (word (tourN (fan δ m) first i).from_ n) = k ∧ (∀ c ∈ word (tourN (fan δ m) first i).from_ n, c < m) ∧ ∀ u, (∀ c ∈ u, c < m) → P (runL δ first u) = true → sle (word (tourN (fan δ m) first i).from_ n) u := by
  have hb := h.bfs
  have hl := (List.getElem?_eq_some_iff.1 hk).1
  obtain ⟨r1, r2⟩ := hb.word_run n hl
  refine ⟨by rw [hk] at r1; simpa using r1.symm, r2, fun u hu hp => ?_⟩
  obtain ⟨t, ht, hle⟩ := hb.least u hu
  have htn : n ≤ t := by
    rcases Nat.lt_or_ge t n with e | e
    · have := hn t _ e ht; rw [hp] at this; cases this
    · exact e
  exact sle_trans (hb.word_le htn (List.getElem?_eq_some_iff.1 ht).1) hle
theorem full_none {δ : K → Nat → K} {m : Nat} {first : K} {i : Nat} (h : Full (fan δ m) first i) (P : K → Bool) (hn : ∀ x ∈ (tourN (fan δ m) first i).keys, P x = false) (u : List Nat) (hu : ∀ c ∈ u, c < m) : P (runL δ first u) = false := by
  obtain ⟨t, ht, _⟩ := h.bfs.least u hu
  exact hn _ (List.mem_of_getElem? ht)
/-- Two rows that are each the least one with a property are one. -/
theorem least_unique {P : List Nat → Prop} {u v : List Nat} (hu : P u) (hv : P v) (h1 : ∀ x, P x → sle u x) (h2 : ∀ x, P x → sle v x) : u = v := sle_antisymm (h1 v hv) (h2 u hu)
end
end Go.Tour
namespace Go.Tour

section
variable {K : Type}
/-- The rows of words (of m) that a state matches. -/
def lang (δ : K → Nat → K) (m : Nat) (f : K → Bool) (k : K) (u : List Nat) : Bool := decide (∀ c ∈ u, c < m) && f (runL δ k u)
theorem lang_nil (δ : K → Nat → K) (m : Nat) (f : K → Bool) (k : K) : lang δ m f k [] = f k := by simp [lang, runL]
theorem lang_cons (δ : K → Nat → K) (m : Nat) (f : K → Bool) (k : K) {c : Nat} (hc : c < m) (u : List Nat) : lang δ m f k (c :: u) = lang δ m f (δ k c) u := by
  simp [lang, runL, hc]
theorem lang_of {δ : K → Nat → K} {m : Nat} {f : K → Bool} {k : K} {u : List Nat} (h : ∀ c ∈ u, c < m) : lang δ m f k u = f (runL δ k u) := by
  unfold lang
  rw [decide_eq_true h]; rfl
end
section
variable {K : Type} [DecidableEq K]
def turnL (l : List Nat → Bool) (c : Nat) (u : List Nat) : Bool := l (c :: u)
theorem full_closed {succ : K → List K} {first : K} {i : Nat} (h : Full succ first i) {k : K} (hk : k ∈ (tourN succ first i).keys) : ∀ x ∈ succ k, x ∈ (tourN succ first i).keys := by
  obtain ⟨n, hn, rfl⟩ := List.getElem_of_mem hk
  have hle : i ≤ (tourN succ first i).keys.length := by rw [h]; exact Nat.le_refl _
  exact (tourN_next_at hle (by rw [h] at hn; exact hn) (List.getElem?_eq_getElem hn)).1
theorem full_next {succ : K → List K} {first : K} {i : Nat} (h : Full succ first i) : (tourN succ first i).next = (tourN succ first i).keys.map fun k => (succ k).map (tourN succ first i).keys.idxOf := by
  have hle : i ≤ (tourN succ first i).keys.length := by rw [h]; exact Nat.le_refl _
  have hl := tourN_next_len succ first i hle
  have hk : (tourN succ first i).keys.length = i := h
  apply List.ext_getElem?
  intro n
  rw [List.getElem?_map]
  rcases Nat.lt_or_ge n i with e | e
  · have h1 : (tourN succ first i).keys[n]? = some _ := List.getElem?_eq_getElem (by omega)
    rw [h1, (tourN_next_at hle e h1).2]; rfl
  · rw [List.getElem?_eq_none (by omega), List.getElem?_eq_none (by omega)]; rfl

open Classical in
theorem canon_tour {δ : K → Nat → K} {m : Nat} {f : K → Bool} {first : K} {i : Nat} (h : Full (fan δ m) first i)
    (hd : ∀ a b, a ∈ (tourN (fan δ m) first i).keys → b ∈ (tourN (fan δ m) first i).keys → lang δ m f a = lang δ m f b → a = b) (n : Nat) :
    tourN (fan turnL m) (lang δ m f first) n = ⟨(tourN (fan δ m) first n).keys.map (lang δ m f), (tourN (fan δ m) first n).next, (tourN (fan δ m) first n).from_⟩ := by
  refine tourN_map (U := fun k => k ∈ (tourN (fan δ m) first i).keys) ?_ (fun k hk => full_closed h hk) (fun a b ha hb e => hd a b ha hb e) ?_ n
  · exact List.mem_of_getElem? (tourN_first _ _ i)
  · intro k _
    simp only [fan, List.map_map]
    refine List.map_congr_left fun c hc => ?_
    have hc : c < m := by simpa using hc
    funext u
    simp only [turnL, Function.comp, lang_cons _ _ _ _ hc]
end

/-- Two tours, each of states that match unlike rows: if the first ones match the same, the rows of numbers are the same, and what is final. -/
theorem canon_eq {K L : Type} [DecidableEq K] [DecidableEq L] {δ : K → Nat → K} {ε : L → Nat → L} {m : Nat} {f : K → Bool} {g : L → Bool} {first : K} {second : L} {i j : Nat}
    (h : Full (fan δ m) first i) (k : Full (fan ε m) second j)
    (hd : ∀ a b, a ∈ (tourN (fan δ m) first i).keys → b ∈ (tourN (fan δ m) first i).keys → lang δ m f a = lang δ m f b → a = b)
    (kd : ∀ a b, a ∈ (tourN (fan ε m) second j).keys → b ∈ (tourN (fan ε m) second j).keys → lang ε m g a = lang ε m g b → a = b)
    (he : lang δ m f first = lang ε m g second) :
    i = j ∧ (tourN (fan δ m) first i).next = (tourN (fan ε m) second j).next ∧ (tourN (fan δ m) first i).keys.map f = (tourN (fan ε m) second j).keys.map g := by
  have h1 := canon_tour h hd
  have h2 := canon_tour k kd
  rw [he] at h1
  have hij : i = j := by
    have l1 : ∀ n, (tourN (fan δ m) first n).keys.length = (tourN (fan ε m) second n).keys.length := fun n => by
      have := (h1 n).symm.trans (h2 n)
      simp only [Tr.mk.injEq] at this
      have := congrArg List.length this.1
      simpa using this
    refine full_unique h ?_
    unfold Full
    rw [l1]; exact k
  subst hij
  have e := (h1 i).symm.trans (h2 i)
  simp only [Tr.mk.injEq] at e
  refine ⟨rfl, e.2.1, ?_⟩
  have e1 := congrArg (List.map fun l : List Nat → Bool => l []) e.1
  rw [List.map_map, List.map_map] at e1
  have c1 : ((fun l : List Nat → Bool => l []) ∘ lang δ m f) = f := by funext k; simp [lang_nil]
  have c2 : ((fun l : List Nat → Bool => l []) ∘ lang ε m g) = g := by funext k; simp [lang_nil]
  rw [c1, c2] at e1
  exact e1

/-! ### automata -/
variable {σ : Type}
structure DF (σ : Type) where
  syms : List σ
  next : List (List Nat)
  fin : List Bool
def stepD (d : DF σ) (s c : Nat) : Nat := ((d.next[s]?).getD [])[c]?.getD 0
def finD (d : DF σ) (s : Nat) : Bool := (d.fin[s]?).getD false
/-- An automaton that may be, but for what its words are. -/
structure OkD (d : DF σ) : Prop where
  pos : 0 < d.next.length
  fin : d.fin.length = d.next.length
  row : ∀ r ∈ d.next, r.length = d.syms.length
  goes : ∀ r ∈ d.next, ∀ s ∈ r, s < d.next.length
theorem OkD.step {d : DF σ} (h : OkD d) (s c : Nat) : stepD d s c < d.next.length := by
  unfold stepD
  cases e : d.next[s]? with
  | none => simpa using h.pos
  | some r =>
    simp only [Option.getD_some]
    cases e2 : r[c]? with
    | none => simpa using h.pos
    | some x => exact h.goes r (List.mem_of_getElem? e) x (List.mem_of_getElem? e2)
theorem OkD.get {d : DF σ} (h : OkD d) {s c : Nat} (hs : s < d.next.length) (hc : c < d.syms.length) : ∃ r, d.next[s]? = some r ∧ r.length = d.syms.length ∧ r[c]? = some (stepD d s c) := by
  have e : d.next[s]? = some d.next[s] := List.getElem?_eq_getElem hs
  have hl := h.row _ (List.getElem_mem hs)
  refine ⟨_, e, hl, ?_⟩
  unfold stepD
  rw [e, Option.getD_some, List.getElem?_eq_getElem (by omega)]
  rfl
theorem OkD.fan {d : DF σ} (h : OkD d) {s : Nat} (hs : s < d.next.length) : d.next[s]? = some (fan (stepD d) d.syms.length s) := by
  have e : d.next[s]? = some d.next[s] := List.getElem?_eq_getElem hs
  rw [e]
  congr 1
  have hl := h.row _ (List.getElem_mem hs)
  apply List.ext_getElem?
  intro c
  rcases Nat.lt_or_ge c d.syms.length with hc | hc
  · obtain ⟨r, h1, h2, h3⟩ := h.get hs hc
    rw [e] at h1
    simp only [Option.some.injEq] at h1
    rw [h1, h3, fan_get _ _ hc]
  · rw [List.getElem?_eq_none (by omega), List.getElem?_eq_none (by rw [fan_length]; omega)]
theorem OkD.finAt {d : DF σ} (h : OkD d) {s : Nat} (hs : s < d.next.length) : d.fin[s]? = some (finD d s) := by
  unfold finD
  rw [List.getElem?_eq_getElem (by rw [h.fin]; exact hs)]; rfl
theorem OkD.run {d : DF σ} (h : OkD d) : ∀ (u : List Nat) {s : Nat}, s < d.next.length → runL (stepD d) s u < d.next.length
  | [], _, hs => hs
  | c :: u, s, _ => h.run u (h.step s c)
def langD (d : DF σ) : List Nat → Bool := lang (stepD d) d.syms.length (finD d) 0

/-- A full tour as an automaton. -/
def tourD {K : Type} (syms : List σ) (t : Tr K) (f : K → Bool) : DF σ := ⟨syms, t.next, t.keys.map f⟩
section
variable {K : Type} [DecidableEq K] {δ : K → Nat → K} {syms : List σ} {f : K → Bool} {first : K} {i : Nat}
theorem tourD_ok (h : Full (fan δ syms.length) first i) : OkD (tourD syms (tourN (fan δ syms.length) first i) f) := by
  have hn := full_next h
  have hk : (tourN (fan δ syms.length) first i).keys.length = i := h
  have hl : (tourN (fan δ syms.length) first i).next.length = i := by rw [hn]; simpa using hk
  have hp := tourN_pos (fan δ syms.length) first i
  refine ⟨by show 0 < (tourN (fan δ syms.length) first i).next.length; omega, by simp [tourD, hk, hl], ?_, ?_⟩
  · intro r hr
    have hr : r ∈ (tourN (fan δ syms.length) first i).next := hr
    rw [hn] at hr
    simp only [List.mem_map] at hr
    obtain ⟨k, _, rfl⟩ := hr
    simp [fan, tourD]
  · intro r hr s hs
    have hr : r ∈ (tourN (fan δ syms.length) first i).next := hr
    rw [hn] at hr
    simp only [List.mem_map] at hr
    obtain ⟨k, hk', rfl⟩ := hr
    simp only [List.mem_map] at hs
    obtain ⟨x, hx, rfl⟩ := hs
    have := List.idxOf_lt_length_of_mem (full_closed h hk' x hx)
    show _ < (tourN (fan δ syms.length) first i).next.length
    omega
theorem tourD_step (h : Full (fan δ syms.length) first i) {s c : Nat} {k : K} (hk : (tourN (fan δ syms.length) first i).keys[s]? = some k) (hc : c < syms.length) :
    (tourN (fan δ syms.length) first i).keys[stepD (tourD syms (tourN (fan δ syms.length) first i) f) s c]? = some (δ k c) := by
  have hm : δ k c ∈ (tourN (fan δ syms.length) first i).keys := full_closed h (List.mem_of_getElem? hk) _ (by simp only [fan, List.mem_map, List.mem_range]; exact ⟨c, hc, rfl⟩)
  have e : stepD (tourD syms (tourN (fan δ syms.length) first i) f) s c = (tourN (fan δ syms.length) first i).keys.idxOf (δ k c) := by
    unfold stepD
    show (((tourN (fan δ syms.length) first i).next[s]?).getD [])[c]?.getD 0 = _
    rw [full_next h, List.getElem?_map, hk]
    simp [fan, hc]
  rw [e, List.getElem?_eq_getElem (List.idxOf_lt_length_of_mem hm), List.getElem_idxOf]
theorem tourD_run (h : Full (fan δ syms.length) first i) : ∀ (u : List Nat), (∀ c ∈ u, c < syms.length) → ∀ {s : Nat} {k : K}, (tourN (fan δ syms.length) first i).keys[s]? = some k →
    (tourN (fan δ syms.length) first i).keys[runL (stepD (tourD syms (tourN (fan δ syms.length) first i) f)) s u]? = some (runL δ k u)
  | [], _, _, _, hk => hk
  | c :: u, hu, _, _, hk => tourD_run h u (fun x hx => hu x (by simp [hx])) (tourD_step h hk (hu c (by simp)))
theorem tourD_lang (h : Full (fan δ syms.length) first i) : langD (tourD syms (tourN (fan δ syms.length) first i) f) = lang δ syms.length f first := by
  funext u
  show lang _ syms.length _ _ _ = _
  by_cases hu : ∀ c ∈ u, c < syms.length
  · rw [lang_of hu, lang_of hu]
    have := tourD_run (f := f) h u hu (tourN_first _ _ i)
    unfold finD
    simp only [tourD, List.getElem?_map] at this ⊢
    rw [this]; rfl
  · unfold lang
    rw [decide_eq_false hu]; rfl
end

/-! ### automata and rows of words -/
section
variable [DecidableEq σ]
def goS (d : DF σ) (s : Int) (x : σ) : Int := if 0 ≤ s ∧ x ∈ d.syms then (stepD d s.toNat (d.syms.idxOf x) : Nat) else -1
def finS (d : DF σ) (s : Int) : Bool := decide (0 ≤ s) && finD d s.toNat
def runS (d : DF σ) (s : Int) (l : List σ) : Int := l.foldl (goS d) s
def matchD (d : DF σ) (l : List σ) : Bool := finS d (runS d 0 l)
theorem goS_none {d : DF σ} {s : Int} (h : s < 0) (x : σ) : goS d s x = -1 := by unfold goS; rw [if_neg (by omega)]
theorem goS_out {d : DF σ} {x : σ} (h : x ∉ d.syms) (s : Int) : goS d s x = -1 := by unfold goS; rw [if_neg (by simp [h])]
theorem goS_in {d : DF σ} {x : σ} (h : x ∈ d.syms) (s : Nat) : goS d s x = (stepD d s (d.syms.idxOf x) : Nat) := by unfold goS; rw [if_pos ⟨by omega, h⟩]; simp
theorem goS_lt {d : DF σ} (h : OkD d) (s : Int) (x : σ) : -1 ≤ goS d s x ∧ goS d s x < d.next.length := by
  unfold goS
  split
  · have := h.step s.toNat (d.syms.idxOf x); omega
  · omega
theorem runS_none {d : DF σ} : ∀ (l : List σ) {s : Int}, s < 0 → runS d s l < 0
  | [], _, h => h
  | x :: l, s, h => by
    show runS d (goS d s x) l < 0
    rw [goS_none h]
    exact runS_none l (by omega)
theorem runS_out {d : DF σ} : ∀ {l : List σ} {s : Int}, (∃ x ∈ l, x ∉ d.syms) → runS d s l < 0
  | [], _, h => by simp at h
  | y :: l, s, ⟨x, hx, hn⟩ => by
    show runS d (goS d s y) l < 0
    by_cases e : y ∈ d.syms
    · refine runS_out ⟨x, ?_, hn⟩
      rcases List.mem_cons.1 hx with rfl | h
      · exact absurd e hn
      · exact h
    · rw [goS_out e]; exact runS_none l (by omega)
theorem runS_in {d : DF σ} : ∀ {l : List σ} (s : Nat), (∀ x ∈ l, x ∈ d.syms) → runS d s l = (runL (stepD d) s (l.map d.syms.idxOf) : Nat)
  | [], _, _ => rfl
  | y :: l, s, h => by
    show runS d (goS d s y) l = _
    rw [goS_in (h y (by simp))]
    exact runS_in _ (fun x hx => h x (by simp [hx]))
theorem matchD_in {d : DF σ} {l : List σ} (h : ∀ x ∈ l, x ∈ d.syms) : matchD d l = langD d (l.map d.syms.idxOf) := by
  unfold matchD langD
  rw [lang_of (fun c hc => by
    simp only [List.mem_map] at hc
    obtain ⟨x, hx, rfl⟩ := hc
    exact List.idxOf_lt_length_of_mem (h x hx))]
  rw [show (0 : Int) = ((0 : Nat) : Int) by rfl, runS_in 0 h]
  simp [finS]
theorem matchD_out {d : DF σ} {l : List σ} (h : ∃ x ∈ l, x ∉ d.syms) : matchD d l = false := by
  have := runS_out (s := 0) h
  unfold matchD finS
  rw [decide_eq_false (by omega)]; rfl
/-- The words of a row of numbers. -/
def wordsOf (syms : List σ) (u : List Nat) : List σ := u.filterMap fun c => syms[c]?
theorem idx_of_get {l : List σ} (hn : l.Nodup) {n : Nat} {x : σ} (h : l[n]? = some x) : l.idxOf x = n := by
  obtain ⟨h1, rfl⟩ := List.getElem?_eq_some_iff.1 h
  exact hn.idxOf_getElem n h1
omit [DecidableEq σ] in
theorem wordsOf_cons {syms : List σ} {c : Nat} (hc : c < syms.length) (u : List Nat) : wordsOf syms (c :: u) = syms[c] :: wordsOf syms u := by
  simp [wordsOf, hc]
omit [DecidableEq σ] in
theorem wordsOf_length {syms : List σ} : ∀ {u : List Nat}, (∀ c ∈ u, c < syms.length) → (wordsOf syms u).length = u.length
  | [], _ => rfl
  | c :: u, hu => by rw [wordsOf_cons (hu c (by simp))]; simp [wordsOf_length (u := u) (fun x hx => hu x (by simp [hx]))]
omit [DecidableEq σ] in
theorem wordsOf_snoc {syms : List σ} (u : List Nat) {c : Nat} (hc : c < syms.length) : wordsOf syms (u ++ [c]) = wordsOf syms u ++ [syms[c]] := by
  simp [wordsOf, List.filterMap_append, hc]
theorem wordsOf_idx {syms : List σ} (hn : syms.Nodup) : ∀ {u : List Nat}, (∀ c ∈ u, c < syms.length) → (wordsOf syms u).map syms.idxOf = u
  | [], _ => rfl
  | c :: u, hu => by
    have hc := hu c (by simp)
    rw [wordsOf_cons hc, List.map_cons, hn.idxOf_getElem c hc, wordsOf_idx hn (fun x hx => hu x (by simp [hx]))]
omit [DecidableEq σ] in
theorem wordsOf_mem {syms : List σ} {u : List Nat} : ∀ x ∈ wordsOf syms u, x ∈ syms := by
  intro x hx
  simp only [wordsOf, List.mem_filterMap] at hx
  obtain ⟨c, _, hc⟩ := hx
  exact List.mem_of_getElem? hc
theorem wordsOf_of {syms : List σ} : ∀ {l : List σ}, (∀ x ∈ l, x ∈ syms) → wordsOf syms (l.map syms.idxOf) = l
  | [], _ => rfl
  | x :: l, h => by
    have hx := List.idxOf_lt_length_of_mem (h x (by simp))
    rw [List.map_cons, wordsOf_cons hx, List.getElem_idxOf, wordsOf_of (fun y hy => h y (by simp [hy]))]
theorem match_words {d : DF σ} (hn : d.syms.Nodup) {u : List Nat} (hu : ∀ c ∈ u, c < d.syms.length) : matchD d (wordsOf d.syms u) = langD d u := by
  rw [matchD_in wordsOf_mem, wordsOf_idx hn hu]
end
end Go.Tour
