/-
  Plain law: the words by which a tour comes to a state first are the least ones, shorter rows ahead of longer ones. No program is named here.
  Plain law: what a state matches; a tour whose states match unlike rows depends on what its first one matches alone. No program is named here.
  Plain law: words in order; automata as a program holds them, and what is wrong with one.
  Automata in memory; a function value with bound arguments; slices.IndexFunc over numbers.
-/
import Derived.Test.YtngpjagpeblbjaaGreatDoorY14
import Derived.Sort.Walk0
import Derived.StillTailTactics
import Derived.Deep.QuietTactic
import Derived.BigQuiet
import Derived.BigRegion
import Derived.IntWalk
namespace Go.Tour

/-! ### rows of numbers in order -/
def aheadL : List Nat → List Nat → Bool
  | a :: u, b :: v => if a = b then aheadL u v else decide (a < b)
  | _, _ => false
def slt (u v : List Nat) : Prop := u.length < v.length ∨ u.length = v.length ∧ aheadL u v = true
def sle (u v : List Nat) : Prop := u = v ∨ slt u v

theorem aheadL_irr : ∀ u, aheadL u u = false
  | [] => rfl
  | a :: u => by simp [aheadL, aheadL_irr u]
theorem aheadL_trans : ∀ {u v w : List Nat}, aheadL u v = true → aheadL v w = true → aheadL u w = true
  | [], _, _, h, _ => by simp [aheadL] at h
  | _ :: _, [], _, h, _ => by simp [aheadL] at h
  | _ :: _, _ :: _, [], _, h => by simp [aheadL] at h
  | a :: u, b :: v, c :: w, h, k => by
    simp only [aheadL] at h k ⊢
    by_cases e1 : a = b <;> by_cases e2 : b = c
    · subst e1; subst e2; simp at h k ⊢; exact aheadL_trans h k
    · subst e1; simp [e2] at k ⊢; exact k
    · subst e2; simp [e1] at h ⊢; exact h
    · simp [e1] at h; simp [e2] at k
      have : a ≠ c := by omega
      simp [this]; omega
theorem aheadL_total : ∀ {u v : List Nat}, u.length = v.length → aheadL u v = true ∨ u = v ∨ aheadL v u = true
  | [], [], _ => .inr (.inl rfl)
  | [], _ :: _, h => by simp at h
  | _ :: _, [], h => by simp at h
  | a :: u, b :: v, h => by
    simp only [List.length_cons, Nat.add_right_cancel_iff] at h
    by_cases e : a = b
    · subst e
      rcases aheadL_total h with x | x | x
      · exact .inl (by simp [aheadL, x])
      · exact .inr (.inl (by rw [x]))
      · exact .inr (.inr (by simp [aheadL, x]))
    · rcases Nat.lt_or_gt_of_ne e with x | x
      · exact .inl (by simp [aheadL, e, x])
      · exact .inr (.inr (by simp [aheadL, Ne.symm e, x]))
theorem aheadL_snoc : ∀ {u v : List Nat} (c d : Nat), u.length = v.length → aheadL u v = true → aheadL (u ++ [c]) (v ++ [d]) = true
  | [], _, _, _, _, h => by simp [aheadL] at h
  | _ :: _, [], _, _, _, h => by simp [aheadL] at h
  | a :: u, b :: v, c, d, hl, h => by
    simp only [List.length_cons, Nat.add_right_cancel_iff] at hl
    simp only [aheadL, List.cons_append] at h ⊢
    by_cases e : a = b
    · simp [e] at h ⊢; exact aheadL_snoc c d hl h
    · simp [e] at h ⊢; exact h
theorem aheadL_last : ∀ (u : List Nat) {c d : Nat}, c < d → aheadL (u ++ [c]) (u ++ [d]) = true
  | [], c, d, h => by simp [aheadL, Nat.ne_of_lt h, h]
  | a :: u, c, d, h => by simp [aheadL, aheadL_last u h]

theorem slt_trans {u v w : List Nat} (h : slt u v) (k : slt v w) : slt u w := by
  rcases h with h | ⟨h1, h2⟩ <;> rcases k with k | ⟨k1, k2⟩
  · exact .inl (by omega)
  · exact .inl (by omega)
  · exact .inl (by omega)
  · exact .inr ⟨by omega, aheadL_trans h2 k2⟩
theorem slt_irr (u : List Nat) : ¬ slt u u := by
  rintro (h | ⟨_, h⟩)
  · omega
  · rw [aheadL_irr] at h; cases h
theorem slt_snoc {u v : List Nat} (c d : Nat) (h : slt u v) : slt (u ++ [c]) (v ++ [d]) := by
  rcases h with h | ⟨h1, h2⟩
  · exact .inl (by simp; omega)
  · exact .inr ⟨by simp [h1], aheadL_snoc c d h1 h2⟩
theorem slt_last (u : List Nat) {c d : Nat} (h : c < d) : slt (u ++ [c]) (u ++ [d]) := .inr ⟨by simp, aheadL_last u h⟩
theorem sle_trans {u v w : List Nat} (h : sle u v) (k : sle v w) : sle u w := by
  rcases h with rfl | h
  · exact k
  · rcases k with rfl | k
    · exact .inr h
    · exact .inr (slt_trans h k)
theorem sle_antisymm {u v : List Nat} (h : sle u v) (k : sle v u) : u = v := by
  rcases h with h | h
  · exact h
  · rcases k with k | k
    · exact k.symm
    · exact absurd (slt_trans h k) (slt_irr u)
/-- As the laws say it. -/
theorem sle_iff {u v : List Nat} : sle u v ↔ u.length < v.length ∨ u.length = v.length ∧ aheadL v u = false := by
  constructor
  · rintro (rfl | h | ⟨h1, h2⟩)
    · exact .inr ⟨rfl, aheadL_irr u⟩
    · exact .inl h
    · refine .inr ⟨h1, ?_⟩
      cases h : aheadL v u with
      | false => rfl
      | true => have := aheadL_trans h2 h; rw [aheadL_irr] at this; cases this
  · rintro (h | ⟨h1, h2⟩)
    · exact .inr (.inl h)
    · rcases aheadL_total h1 with x | x | x
      · exact .inr (.inr ⟨h1, x⟩)
      · exact .inl x
      · rw [h2] at x; cases x

/-! ### states come to in order -/
def ltp (p q : Nat × Nat) : Prop := p.1 < q.1 ∨ p.1 = q.1 ∧ p.2 < q.2
section
variable {K : Type} [DecidableEq K]
/-- Where a state goes by each of m words. -/
def fan (δ : K → Nat → K) (m : Nat) (k : K) : List K := (List.range m).map (δ k)
omit [DecidableEq K] in
theorem fan_length (δ : K → Nat → K) (m : Nat) (k : K) : (fan δ m k).length = m := by simp [fan]
omit [DecidableEq K] in
theorem fan_get (δ : K → Nat → K) {m : Nat} (k : K) {j : Nat} (h : j < m) : (fan δ m k)[j]? = some (δ k j) := by simp [fan, h]
def runL (δ : K → Nat → K) (k : K) (u : List Nat) : K := u.foldl δ k
omit [DecidableEq K] in
theorem runL_snoc (δ : K → Nat → K) (k : K) (u : List Nat) (c : Nat) : runL δ k (u ++ [c]) = δ (runL δ k u) c := by simp [runL]

structure Bfs (δ : K → Nat → K) (m : Nat) (first : K) (keys : List K) (fr : List (Nat × Nat)) (b : Nat × Nat) : Prop where
  len : fr.length = keys.length
  zero : keys[0]? = some first
  step : ∀ n p, 0 < n → fr[n]? = some p → p.2 < m ∧ p.1 < n ∧ ltp p b ∧ ∃ k, keys[p.1]? = some k ∧ keys[n]? = some (δ k p.2)
  incr : ∀ n n' p p', 0 < n → n < n' → fr[n]? = some p → fr[n']? = some p' → ltp p p'
  come : ∀ r c k, c < m → ltp (r, c) b → keys[r]? = some k → ∃ t, keys[t]? = some (δ k c) ∧ (t = 0 ∨ ∃ p, fr[t]? = some p ∧ (p = (r, c) ∨ ltp p (r, c)))

section
variable {δ : K → Nat → K} {m : Nat} {first : K} {keys : List K} {fr : List (Nat × Nat)} {i j : Nat}
omit [DecidableEq K] in
theorem Bfs.at {b : Nat × Nat} (h : Bfs δ m first keys fr b) {n : Nat} (hn : n < keys.length) : ∃ p, fr[n]? = some p := ⟨_, List.getElem?_eq_getElem (by rw [h.len]; exact hn)⟩
theorem ltp_succ {p : Nat × Nat} {i j : Nat} : ltp p (i, j + 1) ↔ ltp p (i, j) ∨ p = (i, j) := by
  obtain ⟨a, b⟩ := p
  simp only [ltp, Prod.mk.injEq]
  omega
theorem Bfs.vis (h : Bfs δ m first keys fr (i, j)) {k : K} (hk : keys[i]? = some k) (hj : j < m) {g : List Nat} :
    Bfs δ m first (vis1 i ⟨keys, fr, g⟩ (δ k j) j).keys (vis1 i ⟨keys, fr, g⟩ (δ k j) j).from_ (i, j + 1) := by
  have hil := (List.getElem?_eq_some_iff.1 hk).1
  unfold vis1
  by_cases hm : δ k j ∈ keys
  · rw [if_pos hm]
    refine ⟨h.len, h.zero, fun n p h0 hp => ?_, h.incr, fun r c k' hc hl hk' => ?_⟩
    · obtain ⟨a, b, c, d⟩ := h.step n p h0 hp
      exact ⟨a, b, ltp_succ.2 (.inl c), d⟩
    · rcases ltp_succ.1 hl with hl | hl
      · exact h.come r c k' hc hl hk'
      · simp only [Prod.mk.injEq] at hl
        obtain ⟨rfl, rfl⟩ := hl
        obtain rfl : k' = k := by rw [hk] at hk'; simpa using hk'.symm
        obtain ⟨t, ht, hte⟩ := List.getElem_of_mem hm
        refine ⟨t, by rw [List.getElem?_eq_getElem ht, hte], ?_⟩
        rcases Nat.eq_zero_or_pos t with e | e
        · exact .inl e
        · obtain ⟨p, hp⟩ := h.at ht
          exact .inr ⟨_, hp, .inr (h.step t _ e hp).2.2.1⟩
  · rw [if_neg hm]
    simp only
    have hkl : ∀ {n : Nat} {x : K}, keys[n]? = some x → (keys ++ [δ k j])[n]? = some x := fun {n x} hx => by
      rw [List.getElem?_append_left (List.getElem?_eq_some_iff.1 hx).1]; exact hx
    have hfl : ∀ {n : Nat} {x : Nat × Nat}, (fr ++ [(i, j)])[n]? = some x → fr[n]? = some x ∨ n = keys.length ∧ x = (i, j) := fun {n x} hx => by
      rcases Nat.lt_or_ge n fr.length with e | e
      · rw [List.getElem?_append_left e] at hx; exact .inl hx
      · rw [List.getElem?_append_right e] at hx
        have h1 := (List.getElem?_eq_some_iff.1 hx).1
        simp only [List.length_singleton] at h1
        have h2 : n - fr.length = 0 := by omega
        rw [h2] at hx
        have := h.len
        exact .inr ⟨by omega, by simpa using hx.symm⟩
    refine ⟨by simp [h.len], hkl h.zero, fun n p h0 hp => ?_, fun n n' p p' h0 hn hp hp' => ?_, fun r c k' hc hl hk' => ?_⟩
    · rcases hfl hp with hp | ⟨rfl, rfl⟩
      · obtain ⟨a, b, c, k', d, e⟩ := h.step n p h0 hp
        exact ⟨a, b, ltp_succ.2 (.inl c), k', hkl d, hkl e⟩
      · exact ⟨hj, hil, ltp_succ.2 (.inr rfl), k, hkl hk, by rw [List.getElem?_append_right (Nat.le_refl _)]; simp⟩
    · have hl := h.len
      rcases hfl hp with hp | ⟨rfl, rfl⟩
      · rcases hfl hp' with hp' | ⟨rfl, rfl⟩
        · exact h.incr n n' p p' h0 hn hp hp'
        · exact (h.step n p h0 hp).2.2.1
      · rcases hfl hp' with hp' | ⟨rfl, rfl⟩
        · have := (List.getElem?_eq_some_iff.1 hp').1; omega
        · omega
    · have hr : r ≤ i := by simp only [ltp] at hl; omega
      have hk2 : keys[r]? = some k' := by rw [List.getElem?_append_left (by omega)] at hk'; exact hk'
      rcases ltp_succ.1 hl with hl | hl
      · obtain ⟨t, ht, hte⟩ := h.come r c k' hc hl hk2
        refine ⟨t, hkl ht, hte.imp id ?_⟩
        rintro ⟨p, hp, hpe⟩
        exact ⟨p, by rw [List.getElem?_append_left (List.getElem?_eq_some_iff.1 hp).1]; exact hp, hpe⟩
      · simp only [Prod.mk.injEq] at hl
        obtain ⟨rfl, rfl⟩ := hl
        obtain rfl : k' = k := by rw [hk] at hk2; simpa using hk2.symm
        refine ⟨keys.length, by rw [List.getElem?_append_right (Nat.le_refl _)]; simp, .inr ⟨(r, c), ?_, .inl rfl⟩⟩
        rw [List.getElem?_append_right (by rw [h.len]; exact Nat.le_refl _), h.len]; simp
theorem Bfs.visN (h : Bfs δ m first keys fr (i, 0)) {k : K} (hk : keys[i]? = some k) : ∀ j, j ≤ m → Bfs δ m first (visN i ⟨keys, fr, []⟩ (fan δ m k) j).keys (visN i ⟨keys, fr, []⟩ (fan δ m k) j).from_ (i, j)
  | 0, _ => h
  | j + 1, hj => by
    have ih := Bfs.visN h hk j (by omega)
    rw [visN_succ (fan_get δ k (show j < m by omega))]
    refine ih.vis ?_ (by omega)
    obtain ⟨t, ht⟩ := visN_pre i ⟨keys, fr, []⟩ (fan δ m k) j
    have ht : keys ++ t = (Tour.visN i ⟨keys, fr, []⟩ (fan δ m k) j).keys := ht
    rw [← ht, List.getElem?_append_left (List.getElem?_eq_some_iff.1 hk).1]; exact hk
omit [DecidableEq K] in
theorem Bfs.row (h : Bfs δ m first keys fr (i, m)) : Bfs δ m first keys fr (i + 1, 0) := by
  refine ⟨h.len, h.zero, fun n p h0 hp => ?_, h.incr, fun r c k' hc hl hk' => h.come r c k' hc (by simp only [ltp] at hl ⊢; omega) hk'⟩
  obtain ⟨a, b, c, d⟩ := h.step n p h0 hp
  exact ⟨a, b, by simp only [ltp] at c ⊢; omega, d⟩
theorem bfs_tour (δ : K → Nat → K) (m : Nat) (first : K) : ∀ i, i ≤ (tourN (fan δ m) first i).keys.length → Bfs δ m first (tourN (fan δ m) first i).keys (tourN (fan δ m) first i).from_ (i, 0)
  | 0, _ => ⟨rfl, rfl, fun n p h0 hp => by
      have := (List.getElem?_eq_some_iff.1 hp).1
      simp [tourN] at this; omega, fun n n' p p' h0 hn hp hp' => by
      have := (List.getElem?_eq_some_iff.1 hp').1
      simp [tourN] at this; omega, fun r c k hc hl => by simp [ltp] at hl⟩
  | i + 1, hi => by
    cases h : (tourN (fan δ m) first i).keys[i]? with
    | none =>
      have h0 := List.getElem?_eq_none_iff.1 h
      rw [tourN_stop h0] at hi; omega
    | some k =>
      have hl := (List.getElem?_eq_some_iff.1 h).1
      have ih := bfs_tour δ m first i (by omega)
      rw [tourN_succ h]
      have := (ih.visN h m (Nat.le_refl _)).row
      simp only [rowOf, fan_length]
      exact this
end

/-! ### the words of a state -/
def wordF (fr : List (Nat × Nat)) : Nat → Nat → List Nat
  | 0, _ => []
  | f + 1, n => if n = 0 then [] else match fr[n]? with
    | some p => wordF fr f p.1 ++ [p.2]
    | none => []
def word (fr : List (Nat × Nat)) (n : Nat) : List Nat := wordF fr n n
section
variable {δ : K → Nat → K} {m : Nat} {first : K} {keys : List K} {fr : List (Nat × Nat)} {b : Nat × Nat}
omit [DecidableEq K] in
theorem Bfs.wordF (h : Bfs δ m first keys fr b) : ∀ f n, n ≤ f → wordF fr f n = word fr n := by
  have key : ∀ n f g, n ≤ f → n ≤ g → Tour.wordF fr f n = Tour.wordF fr g n := by
    intro n
    induction n using Nat.strongRecOn with
    | _ n ih =>
      intro f g hf hg
      rcases Nat.eq_zero_or_pos n with rfl | h0
      · cases f <;> cases g <;> simp [Tour.wordF]
      · obtain ⟨f, rfl⟩ : ∃ f', f = f' + 1 := ⟨f - 1, by omega⟩
        obtain ⟨g, rfl⟩ : ∃ g', g = g' + 1 := ⟨g - 1, by omega⟩
        simp only [Tour.wordF, if_neg (show n ≠ 0 by omega)]
        cases hp : fr[n]? with
        | none => rfl
        | some p =>
          have := (h.step n p h0 hp).2.1
          simp only
          rw [ih p.1 this f g (by omega) (by omega)]
  intro f n hn
  exact key n f n hn (Nat.le_refl _)
theorem word_zero (fr : List (Nat × Nat)) : word fr 0 = [] := rfl
omit [DecidableEq K] in
theorem Bfs.word_pos (h : Bfs δ m first keys fr b) {n : Nat} {p : Nat × Nat} (h0 : 0 < n) (hp : fr[n]? = some p) : word fr n = word fr p.1 ++ [p.2] := by
  obtain ⟨n, rfl⟩ : ∃ n', n = n' + 1 := ⟨n - 1, by omega⟩
  have := (h.step _ p h0 hp).2.1
  show Tour.wordF fr (n + 1) (n + 1) = _
  simp only [Tour.wordF, hp]
  rw [h.wordF n p.1 (by omega)]
  simp
omit [DecidableEq K] in
theorem Bfs.word_run (h : Bfs δ m first keys fr b) : ∀ n, n < keys.length → keys[n]? = some (runL δ first (word fr n)) ∧ ∀ c ∈ word fr n, c < m := by
  intro n
  induction n using Nat.strongRecOn with
  | _ n ih =>
    intro hn
    rcases Nat.eq_zero_or_pos n with rfl | h0
    · exact ⟨h.zero, by simp [word_zero]⟩
    · obtain ⟨p, hp⟩ := h.at hn
      obtain ⟨a, c, _, k, d, e⟩ := h.step n _ h0 hp
      obtain ⟨i1, i2⟩ := ih _ c (by omega)
      rw [h.word_pos h0 hp, runL_snoc]
      rw [i1] at d
      simp only [Option.some.injEq] at d
      refine ⟨by rw [d]; exact e, fun x hx => ?_⟩
      rw [List.mem_append, List.mem_singleton] at hx
      rcases hx with hx | rfl
      · exact i2 x hx
      · exact a
omit [DecidableEq K] in
theorem Bfs.word_lt (h : Bfs δ m first keys fr b) : ∀ n n', n < n' → n' < keys.length → slt (word fr n) (word fr n') := by
  intro n n'
  induction n' using Nat.strongRecOn generalizing n with
  | _ n' ih =>
    intro hn hl
    obtain ⟨p', hp'⟩ := h.at hl
    have s' := h.step n' _ (by omega) hp'
    rw [h.word_pos (by omega) hp']
    rcases Nat.eq_zero_or_pos n with rfl | h0
    · exact .inl (by simp [word_zero])
    · obtain ⟨p, hp⟩ := h.at (n := n) (by omega)
      rw [h.word_pos h0 hp]
      rcases h.incr n n' _ _ h0 hn hp hp' with e | ⟨e1, e2⟩
      · exact slt_snoc _ _ (ih _ s'.2.1 _ e (by omega))
      · rw [e1]; exact slt_last _ e2
omit [DecidableEq K] in
theorem Bfs.word_le (h : Bfs δ m first keys fr b) {n n' : Nat} (hn : n ≤ n') (hl : n' < keys.length) : sle (word fr n) (word fr n') := by
  rcases Nat.lt_or_ge n n' with e | e
  · exact .inr (h.word_lt n n' e hl)
  · obtain rfl : n = n' := by omega
    exact .inl rfl
omit [DecidableEq K] in
theorem Bfs.least (h : Bfs δ m first keys fr (keys.length, 0)) (u : List Nat) (hu : ∀ c ∈ u, c < m) : ∃ t, keys[t]? = some (runL δ first u) ∧ sle (word fr t) u := by
  have key : ∀ (f : Nat) (u : List Nat), u.length = f → (∀ c ∈ u, c < m) → ∃ t, keys[t]? = some (runL δ first u) ∧ sle (word fr t) u := by
    intro f
    induction f with
    | zero =>
      intro u hl _
      obtain rfl : u = [] := List.eq_nil_of_length_eq_zero hl
      exact ⟨0, h.zero, .inl rfl⟩
    | succ f ih =>
      intro u hl hu
      have hne : u ≠ [] := by rintro rfl; simp at hl
      obtain ⟨u', c, rfl⟩ : ∃ u' c, u = u' ++ [c] := ⟨u.dropLast, u.getLast hne, (List.dropLast_concat_getLast hne).symm⟩
      obtain ⟨i, hi, hle⟩ := ih u' (by simp at hl; omega) (fun x hx => hu x (by simp [hx]))
      have hil := (List.getElem?_eq_some_iff.1 hi).1
      obtain ⟨t, ht, hte⟩ := h.come i c _ (hu c (by simp)) (.inl hil) hi
      refine ⟨t, by rw [runL_snoc]; exact ht, ?_⟩
      rcases hte with rfl | ⟨p, hp, hpe⟩
      · exact .inr (.inl (by simp [word_zero]))
      · rcases Nat.eq_zero_or_pos t with rfl | h0
        · exact .inr (.inl (by simp [word_zero]))
        · have hs := h.step t p h0 hp
          have h2 : sle (word fr p.1 ++ [p.2]) (word fr i ++ [c]) := by
            rcases hpe with rfl | e | ⟨e1, e2⟩
            · exact .inl rfl
            · exact .inr (slt_snoc _ _ (h.word_lt _ _ e hil))
            · simp only at e1 e2; rw [e1]; exact .inr (slt_last _ e2)
          rw [h.word_pos h0 hp]
          refine sle_trans h2 ?_
          rcases hle with e | e
          · rw [e]; exact .inl rfl
          · exact .inr (slt_snoc _ _ e)
  exact key u.length u rfl hu
end

/-! ### tours that end -/
theorem mem_length_le : ∀ {l u : List K}, l.Nodup → (∀ k ∈ l, k ∈ u) → l.length ≤ u.length
  | [], _, _, _ => by simp
  | a :: l, u, h, hm => by
    have ha : a ∈ u := hm a (by simp)
    have h1 := mem_length_le (l := l) (u := u.erase a) (List.nodup_cons.1 h).2 (fun k hk => by
      have hne : k ≠ a := fun e => (List.nodup_cons.1 h).1 (e ▸ hk)
      exact (List.mem_erase_of_ne hne).2 (hm k (by simp [hk])))
    rw [List.length_erase_of_mem ha] at h1
    have := List.length_pos_of_mem ha
    simp only [List.length_cons]
    omega
/-- All rows are done. -/
def Full (succ : K → List K) (first : K) (i : Nat) : Prop := (tourN succ first i).keys.length = i
section
variable {succ : K → List K} {first : K} {U : K → Prop}
theorem full_unique {i j : Nat} (hi : Full succ first i) (hj : Full succ first j) : i = j := by
  have key : ∀ i j, Full succ first i → Full succ first j → i ≤ j → i = j := by
    intro i j hi hj h
    have := tourN_stay (show (tourN succ first i).keys.length ≤ i by rw [hi]; exact Nat.le_refl _) h
    unfold Full at hj
    rw [this, hi] at hj
    exact hj
  rcases Nat.le_total i j with h | h
  · exact key i j hi hj h
  · exact (key j i hj hi h).symm
theorem tourN_le (hf : U first) (hc : ∀ k, U k → ∀ x ∈ succ k, U x) {u : List K} (hu : ∀ k, U k → k ∈ u) (i : Nat) : (tourN succ first i).keys.length ≤ u.length :=
  mem_length_le (tourN_nodup succ first i) fun k hk => hu k (tourN_univ hf hc i k hk)
theorem full_keys {i n : Nat} (h : Full succ first i) : (tourN succ first n).keys <+: (tourN succ first i).keys := by
  rcases Nat.le_total n i with e | e
  · exact tourN_pre succ first e
  · rw [tourN_stay (by rw [h]; exact Nat.le_refl _) e]; exact List.prefix_refl _
theorem Full.bfs {δ : K → Nat → K} {m : Nat} {i : Nat} (h : Full (fan δ m) first i) : Bfs δ m first (tourN (fan δ m) first i).keys (tourN (fan δ m) first i).from_ ((tourN (fan δ m) first i).keys.length, 0) := by
  have := bfs_tour δ m first i (by rw [h]; exact Nat.le_refl _)
  unfold Full at h
  rw [h]
  exact this
end

/-- The first state of a full tour that has a property is come to by the least row of words that comes to one. -/
theorem full_least {δ : K → Nat → K} {m : Nat} {first : K} {i : Nat} (h : Full (fan δ m) first i) (P : K → Bool) {n : Nat} {k : K} (hk : (tourN (fan δ m) first i).keys[n]? = some k)
    (hn : ∀ j x, j < n → (tourN (fan δ m) first i).keys[j]? = some x → P x = false) :
    runL δ first (word (tourN (fan δ m) first i).from_ n) = k ∧ (∀ c ∈ word (tourN (fan δ m) first i).from_ n, c < m) ∧ ∀ u, (∀ c ∈ u, c < m) → P (runL δ first u) = true → sle (word (tourN (fan δ m) first i).from_ n) u := by
  have hb := h.bfs
  have hl := (List.getElem?_eq_some_iff.1 hk).1
  obtain ⟨r1, r2⟩ := hb.word_run n hl
  refine ⟨by rw [hk] at r1; simpa using r1.symm, r2, fun u hu hp => ?_⟩
  obtain ⟨t, ht, hle⟩ := hb.least u hu
  have htn : n ≤ t := by
    rcases Nat.lt_or_ge t n with e | e
    · have := hn t _ e ht; rw [hp] at this; cases this
    · exact e
  exact sle_trans (hb.word_le htn (List.getElem?_eq_some_iff.1 ht).1) hle
theorem full_none {δ : K → Nat → K} {m : Nat} {first : K} {i : Nat} (h : Full (fan δ m) first i) (P : K → Bool) (hn : ∀ x ∈ (tourN (fan δ m) first i).keys, P x = false) (u : List Nat) (hu : ∀ c ∈ u, c < m) : P (runL δ first u) = false := by
  obtain ⟨t, ht, _⟩ := h.bfs.least u hu
  exact hn _ (List.mem_of_getElem? ht)
/-- Two rows that are each the least one with a property are one. -/
theorem least_unique {P : List Nat → Prop} {u v : List Nat} (hu : P u) (hv : P v) (h1 : ∀ x, P x → sle u x) (h2 : ∀ x, P x → sle v x) : u = v := sle_antisymm (h1 v hv) (h2 u hu)
end
end Go.Tour
namespace Go.Tour

section
variable {K : Type}
/-- The rows of words (of m) that a state matches. -/
def lang (δ : K → Nat → K) (m : Nat) (f : K → Bool) (k : K) (u : List Nat) : Bool := decide (∀ c ∈ u, c < m) && f (runL δ k u)
theorem lang_of {δ : K → Nat → K} {m : Nat} {f : K → Bool} {k : K} {u : List Nat} (h : ∀ c ∈ u, c < m) : lang δ m f k u = f (runL δ k u) := by
  unfold lang
  rw [decide_eq_true h]; rfl
end
section
variable {K : Type} [DecidableEq K]
theorem full_closed {succ : K → List K} {first : K} {i : Nat} (h : Full succ first i) {k : K} (hk : k ∈ (tourN succ first i).keys) : ∀ x ∈ succ k, x ∈ (tourN succ first i).keys := by
  obtain ⟨n, hn, rfl⟩ := List.getElem_of_mem hk
  have hle : i ≤ (tourN succ first i).keys.length := by rw [h]; exact Nat.le_refl _
  exact (tourN_next_at hle (by rw [h] at hn; exact hn) (List.getElem?_eq_getElem hn)).1
theorem full_next {succ : K → List K} {first : K} {i : Nat} (h : Full succ first i) : (tourN succ first i).next = (tourN succ first i).keys.map fun k => (succ k).map (tourN succ first i).keys.idxOf := by
  have hle : i ≤ (tourN succ first i).keys.length := by rw [h]; exact Nat.le_refl _
  have hl := tourN_next_len succ first i hle
  have hk : (tourN succ first i).keys.length = i := h
  apply List.ext_getElem?
  intro n
  rw [List.getElem?_map]
  rcases Nat.lt_or_ge n i with e | e
  · have h1 : (tourN succ first i).keys[n]? = some _ := List.getElem?_eq_getElem (by omega)
    rw [h1, (tourN_next_at hle e h1).2]; rfl
  · rw [List.getElem?_eq_none (by omega), List.getElem?_eq_none (by omega)]; rfl

end

/-! ### automata -/
variable {σ : Type}
structure DF (σ : Type) where
  syms : List σ
  next : List (List Nat)
  fin : List Bool
def stepD (d : DF σ) (s c : Nat) : Nat := ((d.next[s]?).getD [])[c]?.getD 0
def finD (d : DF σ) (s : Nat) : Bool := (d.fin[s]?).getD false
/-- An automaton that may be, but for what its words are. -/
structure OkD (d : DF σ) : Prop where
  pos : 0 < d.next.length
  fin : d.fin.length = d.next.length
  row : ∀ r ∈ d.next, r.length = d.syms.length
  goes : ∀ r ∈ d.next, ∀ s ∈ r, s < d.next.length
theorem OkD.step {d : DF σ} (h : OkD d) (s c : Nat) : stepD d s c < d.next.length := by
  unfold stepD
  cases e : d.next[s]? with
  | none => simpa using h.pos
  | some r =>
    simp only [Option.getD_some]
    cases e2 : r[c]? with
    | none => simpa using h.pos
    | some x => exact h.goes r (List.mem_of_getElem? e) x (List.mem_of_getElem? e2)
theorem OkD.get {d : DF σ} (h : OkD d) {s c : Nat} (hs : s < d.next.length) (hc : c < d.syms.length) : ∃ r, d.next[s]? = some r ∧ r.length = d.syms.length ∧ r[c]? = some (stepD d s c) := by
  have e : d.next[s]? = some d.next[s] := List.getElem?_eq_getElem hs
  have hl := h.row _ (List.getElem_mem hs)
  refine ⟨_, e, hl, ?_⟩
  unfold stepD
  rw [e, Option.getD_some, List.getElem?_eq_getElem (by omega)]
  rfl
theorem OkD.fan {d : DF σ} (h : OkD d) {s : Nat} (hs : s < d.next.length) : d.next[s]? = some (fan (stepD d) d.syms.length s) := by
  have e : d.next[s]? = some d.next[s] := List.getElem?_eq_getElem hs
  rw [e]
  congr 1
  have hl := h.row _ (List.getElem_mem hs)
  apply List.ext_getElem?
  intro c
  rcases Nat.lt_or_ge c d.syms.length with hc | hc
  · obtain ⟨r, h1, h2, h3⟩ := h.get hs hc
    rw [e] at h1
    simp only [Option.some.injEq] at h1
    rw [h1, h3, fan_get _ _ hc]
  · rw [List.getElem?_eq_none (by omega), List.getElem?_eq_none (by rw [fan_length]; omega)]
theorem OkD.finAt {d : DF σ} (h : OkD d) {s : Nat} (hs : s < d.next.length) : d.fin[s]? = some (finD d s) := by
  unfold finD
  rw [List.getElem?_eq_getElem (by rw [h.fin]; exact hs)]; rfl
theorem OkD.run {d : DF σ} (h : OkD d) : ∀ (u : List Nat) {s : Nat}, s < d.next.length → runL (stepD d) s u < d.next.length
  | [], _, hs => hs
  | c :: u, s, _ => h.run u (h.step s c)
def langD (d : DF σ) : List Nat → Bool := lang (stepD d) d.syms.length (finD d) 0

/-- A full tour as an automaton. -/
def tourD {K : Type} (syms : List σ) (t : Tr K) (f : K → Bool) : DF σ := ⟨syms, t.next, t.keys.map f⟩
section
variable {K : Type} [DecidableEq K] {δ : K → Nat → K} {syms : List σ} {f : K → Bool} {first : K} {i : Nat}
theorem tourD_ok (h : Full (fan δ syms.length) first i) : OkD (tourD syms (tourN (fan δ syms.length) first i) f) := by
  have hn := full_next h
  have hk : (tourN (fan δ syms.length) first i).keys.length = i := h
  have hl : (tourN (fan δ syms.length) first i).next.length = i := by rw [hn]; simpa using hk
  have hp := tourN_pos (fan δ syms.length) first i
  refine ⟨by show 0 < (tourN (fan δ syms.length) first i).next.length; omega, by simp [tourD, hk, hl], ?_, ?_⟩
  · intro r hr
    have hr : r ∈ (tourN (fan δ syms.length) first i).next := hr
    rw [hn] at hr
    simp only [List.mem_map] at hr
    obtain ⟨k, _, rfl⟩ := hr
    simp [fan, tourD]
  · intro r hr s hs
    have hr : r ∈ (tourN (fan δ syms.length) first i).next := hr
    rw [hn] at hr
    simp only [List.mem_map] at hr
    obtain ⟨k, hk', rfl⟩ := hr
    simp only [List.mem_map] at hs
    obtain ⟨x, hx, rfl⟩ := hs
    have := List.idxOf_lt_length_of_mem (full_closed h hk' x hx)
    show _ < (tourN (fan δ syms.length) first i).next.length
    omega
end

/-! ### automata and rows of words -/
section
variable [DecidableEq σ]
def goS (d : DF σ) (s : Int) (x : σ) : Int := if 0 ≤ s ∧ x ∈ d.syms then (stepD d s.toNat (d.syms.idxOf x) : Nat) else -1
def finS (d : DF σ) (s : Int) : Bool := decide (0 ≤ s) && finD d s.toNat
def runS (d : DF σ) (s : Int) (l : List σ) : Int := l.foldl (goS d) s
def matchD (d : DF σ) (l : List σ) : Bool := finS d (runS d 0 l)
theorem goS_none {d : DF σ} {s : Int} (h : s < 0) (x : σ) : goS d s x = -1 := by unfold goS; rw [if_neg (by omega)]
theorem goS_out {d : DF σ} {x : σ} (h : x ∉ d.syms) (s : Int) : goS d s x = -1 := by unfold goS; rw [if_neg (by simp [h])]
theorem goS_in {d : DF σ} {x : σ} (h : x ∈ d.syms) (s : Nat) : goS d s x = (stepD d s (d.syms.idxOf x) : Nat) := by unfold goS; rw [if_pos ⟨by omega, h⟩]; simp
theorem goS_lt {d : DF σ} (h : OkD d) (s : Int) (x : σ) : -1 ≤ goS d s x ∧ goS d s x < d.next.length := by
  unfold goS
  split
  · have := h.step s.toNat (d.syms.idxOf x); omega
  · omega
theorem runS_none {d : DF σ} : ∀ (l : List σ) {s : Int}, s < 0 → runS d s l < 0
  | [], _, h => h
  | x :: l, s, h => by
    show runS d (goS d s x) l < 0
    rw [goS_none h]
    exact runS_none l (by omega)
theorem runS_out {d : DF σ} : ∀ {l : List σ} {s : Int}, (∃ x ∈ l, x ∉ d.syms) → runS d s l < 0
  | [], _, h => by simp at h
  | y :: l, s, ⟨x, hx, hn⟩ => by
    show runS d (goS d s y) l < 0
    by_cases e : y ∈ d.syms
    · refine runS_out ⟨x, ?_, hn⟩
      rcases List.mem_cons.1 hx with rfl | h
      · exact absurd e hn
      · exact h
    · rw [goS_out e]; exact runS_none l (by omega)
theorem runS_in {d : DF σ} : ∀ {l : List σ} (s : Nat), (∀ x ∈ l, x ∈ d.syms) → runS d s l = (runL (stepD d) s (l.map d.syms.idxOf) : Nat)
  | [], _, _ => rfl
  | y :: l, s, h => by
    show runS d (goS d s y) l = _
    rw [goS_in (h y (by simp))]
    exact runS_in _ (fun x hx => h x (by simp [hx]))
theorem matchD_in {d : DF σ} {l : List σ} (h : ∀ x ∈ l, x ∈ d.syms) : matchD d l = langD d (l.map d.syms.idxOf) := by
  unfold matchD langD
  rw [lang_of (fun c hc => by
    simp only [List.mem_map] at hc
    obtain ⟨x, hx, rfl⟩ := hc
    exact List.idxOf_lt_length_of_mem (h x hx))]
  rw [show (0 : Int) = ((0 : Nat) : Int) by rfl, runS_in 0 h]
  simp [finS]
theorem matchD_out {d : DF σ} {l : List σ} (h : ∃ x ∈ l, x ∉ d.syms) : matchD d l = false := by
  have := runS_out (s := 0) h
  unfold matchD finS
  rw [decide_eq_false (by omega)]; rfl
/-- The words of a row of numbers. -/
def wordsOf (syms : List σ) (u : List Nat) : List σ := u.filterMap fun c => syms[c]?
theorem idx_of_get {l : List σ} (hn : l.Nodup) {n : Nat} {x : σ} (h : l[n]? = some x) : l.idxOf x = n := by
  obtain ⟨h1, rfl⟩ := List.getElem?_eq_some_iff.1 h
  exact hn.idxOf_getElem n h1
omit [DecidableEq σ] in
theorem wordsOf_cons {syms : List σ} {c : Nat} (hc : c < syms.length) (u : List Nat) : wordsOf syms (c :: u) = syms[c] :: wordsOf syms u := by
  simp [wordsOf, hc]
omit [DecidableEq σ] in
theorem wordsOf_length {syms : List σ} : ∀ {u : List Nat}, (∀ c ∈ u, c < syms.length) → (wordsOf syms u).length = u.length
  | [], _ => rfl
  | c :: u, hu => by rw [wordsOf_cons (hu c (by simp))]; simp [wordsOf_length (u := u) (fun x hx => hu x (by simp [hx]))]
omit [DecidableEq σ] in
theorem wordsOf_snoc {syms : List σ} (u : List Nat) {c : Nat} (hc : c < syms.length) : wordsOf syms (u ++ [c]) = wordsOf syms u ++ [syms[c]] := by
  simp [wordsOf, List.filterMap_append, hc]
theorem wordsOf_idx {syms : List σ} (hn : syms.Nodup) : ∀ {u : List Nat}, (∀ c ∈ u, c < syms.length) → (wordsOf syms u).map syms.idxOf = u
  | [], _ => rfl
  | c :: u, hu => by
    have hc := hu c (by simp)
    rw [wordsOf_cons hc, List.map_cons, hn.idxOf_getElem c hc, wordsOf_idx hn (fun x hx => hu x (by simp [hx]))]
omit [DecidableEq σ] in
theorem wordsOf_mem {syms : List σ} {u : List Nat} : ∀ x ∈ wordsOf syms u, x ∈ syms := by
  intro x hx
  simp only [wordsOf, List.mem_filterMap] at hx
  obtain ⟨c, _, hc⟩ := hx
  exact List.mem_of_getElem? hc
theorem wordsOf_of {syms : List σ} : ∀ {l : List σ}, (∀ x ∈ l, x ∈ syms) → wordsOf syms (l.map syms.idxOf) = l
  | [], _ => rfl
  | x :: l, h => by
    have hx := List.idxOf_lt_length_of_mem (h x (by simp))
    rw [List.map_cons, wordsOf_cons hx, List.getElem_idxOf, wordsOf_of (fun y hy => h y (by simp [hy]))]
theorem match_words {d : DF σ} (hn : d.syms.Nodup) {u : List Nat} (hu : ∀ c ∈ u, c < d.syms.length) : matchD d (wordsOf d.syms u) = langD d u := by
  rw [matchD_in wordsOf_mem, wordsOf_idx hn hu]
end
end Go.Tour
namespace Go.Tour
open Go.Spy

/-! ### words in order -/
def ltB (a b : ByteArray) : Bool := Op.bytesLess a.toList b.toList
theorem ltB_iff {a b : ByteArray} : ltB a b = true ↔ a.toList < b.toList := by
  unfold ltB; rw [Go.Proofs.bytesLess_eq]; exact decide_eq_true_iff
theorem ltB_irr (a : ByteArray) : ltB a a = false := by
  cases h : ltB a a with
  | false => rfl
  | true => exact absurd (ltB_iff.1 h) (List.lt_irrefl _)
theorem ltB_trans {a b c : ByteArray} (h : ltB a b = true) (k : ltB b c = true) : ltB a c = true := ltB_iff.2 (List.lt_trans (ltB_iff.1 h) (ltB_iff.1 k))
theorem ltB_asymm {a b : ByteArray} (h : ltB a b = true) : ltB b a = false := by
  cases k : ltB b a with
  | false => rfl
  | true => have := ltB_trans h k; rw [ltB_irr] at this; cases this
theorem ltB_ne {a b : ByteArray} (h : ltB a b = true) : a ≠ b := by
  rintro rfl
  rw [ltB_irr] at h; cases h
def Rising (l : List ByteArray) : Prop := l.Pairwise fun a b => ltB a b = true
theorem Rising.nodup {l : List ByteArray} (h : Rising l) : l.Nodup := List.Pairwise.imp (fun h => ltB_ne h) h
theorem rising_ext : ∀ {l m : List ByteArray}, Rising l → Rising m → (∀ x, x ∈ l ↔ x ∈ m) → l = m
  | [], [], _, _, _ => rfl
  | [], y :: m, _, _, h => by have := (h y).2 (by simp); simp at this
  | x :: l, [], _, _, h => by have := (h x).1 (by simp); simp at this
  | x :: l, y :: m, hl, hm, h => by
    unfold Rising at hl hm
    rw [List.pairwise_cons] at hl hm
    have hxy : x = y := by
      rcases List.mem_cons.1 ((h x).1 (by simp)) with e | e
      · exact e
      · rcases List.mem_cons.1 ((h y).2 (by simp)) with e2 | e2
        · exact e2.symm
        · have := ltB_trans (hl.1 y e2) (hm.1 x e)
          rw [ltB_irr] at this; cases this
    subst hxy
    congr 1
    refine rising_ext hl.2 hm.2 fun z => ?_
    constructor
    · intro hz
      rcases List.mem_cons.1 ((h z).1 (by simp [hz])) with e | e
      · subst e; have := hl.1 z hz; rw [ltB_irr] at this; cases this
      · exact e
    · intro hz
      rcases List.mem_cons.1 ((h z).2 (by simp [hz])) with e | e
      · subst e; have := hm.1 z hz; rw [ltB_irr] at this; cases this
      · exact e
theorem Rising.get {l : List ByteArray} (h : Rising l) {i j : Nat} {x y : ByteArray} (hij : i < j) (hx : l[i]? = some x) (hy : l[j]? = some y) : ltB x y = true := by
  obtain ⟨h1, rfl⟩ := List.getElem?_eq_some_iff.1 hx
  obtain ⟨h2, rfl⟩ := List.getElem?_eq_some_iff.1 hy
  exact List.pairwise_iff_getElem.1 h i j h1 h2 hij
theorem Rising.lt_iff {l : List ByteArray} (h : Rising l) {i j : Nat} {x y : ByteArray} (hx : l[i]? = some x) (hy : l[j]? = some y) : ltB x y = true ↔ i < j := by
  constructor
  · intro hl
    rcases Nat.lt_trichotomy i j with e | e | e
    · exact e
    · subst e; rw [hx] at hy; cases hy; rw [ltB_irr] at hl; cases hl
    · have := ltB_asymm (h.get e hy hx); rw [this] at hl; cases hl
  · intro e; exact h.get e hx hy
/-- As it is looked at: each word is ahead of the next one. -/
def chainB (l : List ByteArray) : Bool := (List.range (l.length - 1)).all fun i => match l[i]?, l[i + 1]? with | some x, some y => ltB x y | _, _ => true
theorem chain_rising : ∀ {l : List ByteArray}, (∀ i x y, l[i]? = some x → l[i + 1]? = some y → ltB x y = true) → Rising l
  | [], _ => List.Pairwise.nil
  | [x], _ => by simp [Rising]
  | x :: y :: l, h => by
    have ih : Rising (y :: l) := chain_rising (fun i a b ha hb => h (i + 1) a b (by simpa using ha) (by simpa using hb))
    have hxy := h 0 x y rfl rfl
    refine List.pairwise_cons.2 ⟨fun z hz => ?_, ih⟩
    rcases List.mem_cons.1 hz with rfl | hz
    · exact hxy
    · exact ltB_trans hxy ((List.pairwise_cons.1 ih).1 z hz)
theorem chainB_iff {l : List ByteArray} : chainB l = true ↔ Rising l := by
  unfold chainB
  rw [List.all_eq_true]
  constructor
  · intro h
    refine chain_rising fun i x y hx hy => ?_
    have h1 := (List.getElem?_eq_some_iff.1 hy).1
    have := h i (List.mem_range.2 (by omega))
    rw [hx, hy] at this
    exact this
  · intro h i hi
    have hi := List.mem_range.1 hi
    rw [List.getElem?_eq_getElem (show i < l.length by omega), List.getElem?_eq_getElem (show i + 1 < l.length by omega)]
    exact h.get (show i < i + 1 by omega) (List.getElem?_eq_getElem _) (List.getElem?_eq_getElem _)

/-! ### automata as they are held -/
structure DR where
  syms : List ByteArray
  next : List (List Int)
  fin : List Bool
abbrev DA := DF ByteArray
def DF.raw (d : DA) : DR := ⟨d.syms, d.next.map (·.map Int.ofNat), d.fin⟩
def rowBad (m n : Nat) (r : List Int) : Bool := decide (r.length ≠ m) || r.any fun s => decide (s < 0) || decide ((n : Int) ≤ s)
def checkE (nameOk : ByteArray → Bool) (d : DR) : Nat :=
  if 256 < d.next.length ∨ 256 < d.fin.length then 17
  else if d.next.length = 0 ∨ d.fin.length ≠ d.next.length then 12
  else if d.next.any (rowBad d.syms.length d.next.length) = true then 12
  else if d.syms.any (fun s => !nameOk s) = true then 11
  else if chainB d.syms = false then 14
  else 0
/-- An automaton that may be. -/
structure WellD (nameOk : ByteArray → Bool) (d : DA) : Prop where
  ok : OkD d
  most : d.next.length ≤ 256
  names : ∀ s ∈ d.syms, nameOk s = true
  rising : Rising d.syms
theorem check_ok {nameOk : ByteArray → Bool} {d : DR} (h : checkE nameOk d = 0) : ∃ D : DA, d = D.raw ∧ WellD nameOk D := by
  unfold checkE at h
  split at h
  · cases h
  split at h
  · cases h
  split at h
  · cases h
  split at h
  · cases h
  split at h
  · cases h
  rename_i h1 h2 h3 h4 h5
  have hrow : ∀ r ∈ d.next, r.length = d.syms.length ∧ ∀ s ∈ r, 0 ≤ s ∧ s < d.next.length := by
    intro r hr
    have : rowBad d.syms.length d.next.length r = false := by
      cases e : rowBad d.syms.length d.next.length r with
      | false => rfl
      | true => exact absurd (List.any_eq_true.2 ⟨r, hr, e⟩) h3
    simp only [rowBad, Bool.or_eq_false_iff, decide_eq_false_iff_not, List.any_eq_false, Bool.or_eq_true, decide_eq_true_eq] at this
    refine ⟨by omega, fun s hs => ?_⟩
    have := this.2 s hs
    omega
  have hraw : ∀ r ∈ d.next, (r.map Int.toNat).map Int.ofNat = r := by
    intro r hr
    rw [List.map_map]
    conv => rhs; rw [← List.map_id r]
    refine List.map_congr_left fun s hs => ?_
    have := (hrow r hr).2 s hs
    show ((s.toNat : Nat) : Int) = s
    omega
  refine ⟨⟨d.syms, d.next.map (·.map Int.toNat), d.fin⟩, ?_, ?_⟩
  · obtain ⟨a, b, c⟩ := d
    simp only [DF.raw, DR.mk.injEq, true_and, and_true]
    rw [List.map_map]
    conv => lhs; rw [← List.map_id b]
    refine List.map_congr_left fun r hr => ?_
    exact (hraw r hr).symm
  · refine ⟨⟨by simp; omega, by simp; omega, ?_, ?_⟩, by simp; omega, fun s hs => ?_, chainB_iff.1 (by simpa using h5)⟩
    · intro r hr
      simp only [List.mem_map] at hr
      obtain ⟨r, hr, rfl⟩ := hr
      simp [(hrow r hr).1]
    · intro r hr s hs
      simp only [List.mem_map] at hr
      obtain ⟨r, hr, rfl⟩ := hr
      simp only [List.mem_map] at hs
      obtain ⟨s, hs, rfl⟩ := hs
      have := (hrow r hr).2 s hs
      simp only [List.length_map]
      omega
    · have := fun h => h4 (List.any_eq_true.2 ⟨s, hs, h⟩)
      simpa using this
theorem well_check {nameOk : ByteArray → Bool} {D : DA} (h : WellD nameOk D) : checkE nameOk D.raw = 0 := by
  have hp := h.ok.pos
  have hf := h.ok.fin
  have hm := h.most
  unfold checkE
  rw [if_neg (by simp [DF.raw]; omega), if_neg (by simp only [DF.raw, List.length_map, not_or, ne_eq, Decidable.not_not]; exact ⟨by omega, hf⟩), if_neg, if_neg, if_neg]
  · have := chainB_iff.2 h.rising
    simp only [DF.raw]; rw [this]; simp
  · simp only [DF.raw, List.any_eq_true, not_exists, not_and]
    intro s hs
    simp [h.names s hs]
  · simp only [DF.raw, List.any_eq_true, not_exists, not_and, List.mem_map]
    rintro _ ⟨r, hr, rfl⟩
    have h1 := h.ok.row r hr
    simp only [rowBad, List.length_map, h1, ne_eq, not_true_eq_false, decide_false, Bool.false_or, List.any_eq_true, List.mem_map, not_exists, not_and]
    rintro _ ⟨s, hs, rfl⟩
    have := h.ok.goes r hr s hs
    simp
    exact this
end Go.Tour
namespace Go.Spy
open Go.RowKit
theorem wpList_callb {P : Program} {ops : Array Oper} {rest : List Oper} {o : Oper} {a : Act} {w : World} {Q : Exit → Act → World → Prop} (hg : o.guard = none) (fo : Operand) (xs : Array Operand) (ts : Array TypeId)
    (ho : o.op = .call { callee := .value fo, args := xs, argTypes := ts }) {f : FuncId} {first caps : Array Value} (hE : Enters P f) (hf : a.eval fo = .func (.func f) first caps) {args : Array Value} (hx : xs.toList.map a.eval = args.toList) {Φ : Ending → World → Prop}
    (hc : Calls P f (first ++ args ++ caps) w Φ) (h : ∀ e w', Φ e w' → ∃ v, e = .returned v ∧ wpList P ops Q rest (a.put o.dst v) w') : wpList P ops Q (o :: rest) a w := by
  have hx : xs.map a.eval = args := Array.toList_inj.1 (by simpa using hx)
  refine wpList_plain hg fun K hK => ?_
  have hrun : (execOp a.eval o).run P w = .ok (.enter f (first ++ args ++ caps)) w := by
    simp only [execOp, ho, resolve, hf, hx, Deferred.ofValue, Sem.run_bind, Sem.run_pure, Result.andThen_ok, invoke]
    exact hE (first ++ args ++ caps) w
  unfold Oper.wp
  rw [hrun, Oper.upon_enter]
  refine hc.mono fun e w'' hh => ?_
  obtain ⟨v, rfl, hw⟩ := h e w'' hh
  exact hK _ _ hw
end Go.Spy
namespace Go.Proofs.YtngpjagpeblbjaaGreatDoor
open Go.RowKit Go.Spy Go.Heaped Go.Tour Go.Rx

def strC (b : ByteArray) : Array Value := #[.string b]
def intZ (z : Int) : Array Value := #[.int .i64 z]
def boolC (b : Bool) : Array Value := #[.bool b]
structure BndD (d : DR) : Prop where
  s : d.syms.length ≤ 1000
  n : d.next.length ≤ 1000
  f : d.fin.length ≤ 1000
  r : ∀ r ∈ d.next, r.length ≤ 1000
  b : ∀ s ∈ d.syms, s.size ≤ 1000000
structure DfaP (w : World) (vS vN vF : Value) (us : List Value) (d : DR) : Prop where
  syms : ReadR w 1 strC vS d.syms
  next : ReadR w 1 oneA vN us
  len : us.length = d.next.length
  rows : ∀ (i : Nat) (u : Value) (r : List Int), us[i]? = some u → d.next[i]? = some r → ReadR w 1 intZ u r
  fin : ReadR w 1 boolC vF d.fin
theorem DfaP.ext {w w' : World} {vS vN vF : Value} {us : List Value} {d : DR} (h : DfaP w vS vN vF us d) (e : Ext w w') : DfaP w' vS vN vF us d :=
  ⟨h.syms.ext e, h.next.ext e, h.len, fun i u r hu hr => (h.rows i u r hu hr).ext e, h.fin.ext e⟩
/-- An automaton's value. -/
def DfaV (w : World) (v : Value) (d : DR) : Prop := ∃ vS vN vF us, v = .agg #[vS, vN, vF] ∧ DfaP w vS vN vF us d
theorem DfaV.ext {w w' : World} {v : Value} {d : DR} (h : DfaV w v d) (e : Ext w w') : DfaV w' v d := by
  obtain ⟨vS, vN, vF, us, rfl, h⟩ := h
  exact ⟨vS, vN, vF, us, rfl, h.ext e⟩

section
variable {α : Type} {w : World} {f : α → Array Value} {l : List α}
/-- What one cell of a slice holds. -/
theorem ReadR.cell1 {g off n c : Nat} (h : ReadR w 1 f (.slice (some ⟨g, off, none⟩) n c) l) {j : Nat} {x : α} (hx : l[j]? = some x) : w.cell? ⟨g, off + j, none⟩ = (f x)[0]? := by
  have hn : n = l.length := by
    obtain ⟨ao, c', e, _⟩ := h
    simp only [Value.slice.injEq] at e
    exact e.2.1
  subst hn
  have h := h.cell hx (k := 0) (by decide)
  rwa [show off + (j * 1 + 0) = off + j by omega] at h
end
/-- A row of an automaton lies as a slice. -/
theorem DfaP.row {w : World} {vS vN vF : Value} {us : List Value} {d : DR} (h : DfaP w vS vN vF us d) {i : Nat} {r : List Int} (hr : d.next[i]? = some r) :
    ∃ ao c, us[i]? = some (.slice ao r.length c) ∧ ReadR w 1 intZ (.slice ao r.length c) r := by
  have hi := (List.getElem?_eq_some_iff.1 hr).1
  have hu : us[i]? = some (us[i]'(by rw [h.len]; exact hi)) := List.getElem?_eq_getElem _
  have hR := h.rows i _ r hu hr
  obtain ⟨ao, c, e, _⟩ := hR.form
  rw [e] at hu hR
  exact ⟨ao, c, hu, hR⟩

/-- The first of a list that has a property, or none. -/
def IdxPost {α : Type} (p : α → Bool) (l : List α) (w : World) (e : Ending) (w' : World) : Prop :=
  Ext w w' ∧ ((∃ n x, e = .returned (.int .i64 (n : Nat)) ∧ l[n]? = some x ∧ p x = true ∧ ∀ j y, j < n → l[j]? = some y → p y = false) ∨ (e = .returned (.int .i64 (-1)) ∧ ∀ x ∈ l, p x = false))

set_option maxRecDepth 100000 in
set_option maxHeartbeats 1000000 in
theorem indexfunc_any {w : World} {v : Value} {ns : List Int} (hV : ReadR w 1 intZ v ns) (hlen : ns.length ≤ 1000) {f : FuncId} {first caps : Array Value} (hE : Enters Tryz.prog f) (p : Int → Bool)
    (hf : ∀ k w', k ∈ ns → Ext w w' → Calls Tryz.prog f (first ++ #[.int .i64 k] ++ caps) w' fun e w'' => e = .returned (.bool (p k)) ∧ Ext w' w'') :
    Calls Tryz.prog 53 #[v, .func (.func f) first caps] w (IdxPost p ns w) := by
  obtain ⟨ao, cap, rfl, hc⟩ := hV.form
  have HV := hid hV
  have HC := hid hc
  have HF := hid hf
  have HEN := hid hE
  clear hc hV hf hE
  go_enter Tryz.func53, Tryz.ntmps53
  go_wp2_with fail
  go_loopg [8] ns.length (fun g u wr => ∃ k, g = ns.length - k ∧ k ≤ ns.length ∧ u = .int .i64 k ∧ Hid (∀ i y, i < k → ns[i]? = some y → p y = false) ∧ Hid (Ext w wr))
  case atStart => exact ⟨0, rfl, Nat.zero_le _, rfl, hid (fun i y h => by omega), hid (Below.refl _ w)⟩
  case round =>
    obtain ⟨k, rfl, hk, rfl, HN, HE⟩ := hrel
    by_cases hlt : k < ns.length
    · obtain ⟨b, off, rfl⟩ := HC.out (by omega)
      obtain ⟨q, hq⟩ : ∃ q, ns[k]? = some q := ⟨_, List.getElem?_eq_getElem hlt⟩
      have c1 : wr.cell? ⟨b, off + k, none⟩ = some (.int .i64 q) := (HV.out.ext HE.out).cell1 hq
      have HQ := hid hq
      clear hq
      go_wp2_with (with_reducible show wpList _ _ _ ((⟨some 16, _, _, _, _, _⟩ : Oper) :: _) _ _
                   go_loud (refine wpList_callb (args := #[.int .i64 q]) rfl (.tmp 11) #[.tmp 15] #[3] rfl HEN.out rfl rfl (HF.out q _ (List.mem_of_getElem? HQ.out) HE.out) ?_)
                   rintro e w2 ⟨rfl, hx⟩
                   refine ⟨_, rfl, ?_⟩
                   have HX := hid (HE.out.trans (hx.mono HE.out.size))
                   clear hx
                   cases hp : p q)
      · go_roundg (ns.length - (k + 1))
        case measure => omega
        case rel =>
          refine ⟨k + 1, rfl, by omega, by go_num, hid fun i y hi hr => ?_, HX⟩
          by_cases e : i = k
          · subst e; rw [HQ.out] at hr; cases hr; exact hp
          · exact HN.out i y (by omega) hr
      · go_ret
        exact ⟨HX.out, .inl ⟨k, q, rfl, HQ.out, hp, HN.out⟩⟩
    · go_wp2_with fail
      go_ret
      refine ⟨HE.out, .inr ⟨rfl, fun x hx => ?_⟩⟩
      obtain ⟨i, hi, rfl⟩ := List.getElem_of_mem hx
      exact HN.out i _ (by omega) (List.getElem?_eq_getElem hi)
end Go.Proofs.YtngpjagpeblbjaaGreatDoor
