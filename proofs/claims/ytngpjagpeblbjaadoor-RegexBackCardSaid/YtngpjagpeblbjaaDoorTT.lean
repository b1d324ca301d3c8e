/-
  Plain law: regular expressions as trees, the rows that they match, and the places of their words. No program is named here.
  Plain law: what a tree matches, by trying all ways to part the words, is what its places run. No program is named here.
  Plain law: nodes in a row, whose parts stand ahead of them, as trees. No program is named here.
  Plain law: what is known of each node, as masks of places, and which places stand behind a place. No program is named here.
  Plain law: the bits of a word, lowest first; matching by masks of places. No program is named here.
  Plain law: of which node each one is a part, as the program finds it; the way up from a place, step by step. No program is named here.
  Plain law: the texts of trees; what it is to read a text as nodes, as relations on what is still to be read; nodes put together. No program is named here.
  Plain law: the nodes of a tree, put together as reading puts them, are a regular expression, and their tree is that tree but for the places. No program is named here.
  Plain law: a tree has as many nodes as its row of nodes, and the same words. No program is named here.
-/
namespace Go.Rx

inductive RT (σ : Type) where
  | none | empty
  | sym (p : Nat) (s : σ)
  | cat (a b : RT σ)
  | alt (a b : RT σ)
  | star (a : RT σ)

section
variable {σ : Type}

def nullT : RT σ → Bool
  | .none => false
  | .empty => true
  | .sym _ _ => false
  | .cat a b => nullT a && nullT b
  | .alt a b => nullT a || nullT b
  | .star _ => true

def aliveT : RT σ → Bool
  | .none => false
  | .empty => true
  | .sym _ _ => true
  | .cat a b => aliveT a && aliveT b
  | .alt a b => aliveT a || aliveT b
  | .star _ => true

def startsT : RT σ → Nat → Bool
  | .none, _ => false
  | .empty, _ => false
  | .sym p _, q => p == q
  | .cat a b, q => startsT a q && aliveT b || nullT a && startsT b q
  | .alt a b, q => startsT a q || startsT b q
  | .star a, q => startsT a q

def endsT : RT σ → Nat → Bool
  | .none, _ => false
  | .empty, _ => false
  | .sym p _, q => p == q
  | .cat a b, q => aliveT a && endsT b q || endsT a q && nullT b
  | .alt a b, q => endsT a q || endsT b q
  | .star a, q => endsT a q

def pairsT : RT σ → Nat → Nat → Bool
  | .none, _, _ => false
  | .empty, _, _ => false
  | .sym _ _, _, _ => false
  | .cat a b, p, q => pairsT a p q && aliveT b || aliveT a && pairsT b p q || endsT a p && startsT b q
  | .alt a b, p, q => pairsT a p q || pairsT b p q
  | .star a, p, q => pairsT a p q || endsT a p && startsT a q

def posT : RT σ → List Nat
  | .none => []
  | .empty => []
  | .sym p _ => [p]
  | .cat a b => posT a ++ posT b
  | .alt a b => posT a ++ posT b
  | .star a => posT a

theorem alive_of_null {t : RT σ} (h : nullT t = true) : aliveT t = true := by
  induction t with
  | none => cases h
  | empty => rfl
  | sym _ _ => rfl
  | cat a b iha ihb => simp only [nullT, aliveT, Bool.and_eq_true] at h ⊢; exact ⟨iha h.1, ihb h.2⟩
  | alt a b iha ihb => simp only [nullT, aliveT, Bool.or_eq_true] at h ⊢; exact h.imp iha ihb
  | star _ _ => rfl

theorem alive_of_starts {t : RT σ} {p : Nat} (h : startsT t p = true) : aliveT t = true := by
  induction t with
  | none => cases h
  | empty => rfl
  | sym _ _ => rfl
  | cat a b iha ihb =>
    simp only [startsT, aliveT, Bool.or_eq_true, Bool.and_eq_true] at h ⊢
    rcases h with h | h
    · exact ⟨iha h.1, h.2⟩
    · exact ⟨alive_of_null h.1, ihb h.2⟩
  | alt a b iha ihb => simp only [startsT, aliveT, Bool.or_eq_true] at h ⊢; exact h.imp iha ihb
  | star _ _ => rfl

theorem alive_of_ends {t : RT σ} {p : Nat} (h : endsT t p = true) : aliveT t = true := by
  induction t with
  | none => cases h
  | empty => rfl
  | sym _ _ => rfl
  | cat a b iha ihb =>
    simp only [endsT, aliveT, Bool.or_eq_true, Bool.and_eq_true] at h ⊢
    rcases h with h | h
    · exact ⟨h.1, ihb h.2⟩
    · exact ⟨iha h.1, alive_of_null h.2⟩
  | alt a b iha ihb => simp only [endsT, aliveT, Bool.or_eq_true] at h ⊢; exact h.imp iha ihb
  | star _ _ => rfl

theorem alive_of_pairs {t : RT σ} {p q : Nat} (h : pairsT t p q = true) : aliveT t = true := by
  induction t with
  | none => cases h
  | empty => rfl
  | sym _ _ => rfl
  | cat a b iha ihb =>
    simp only [pairsT, aliveT, Bool.or_eq_true, Bool.and_eq_true] at h ⊢
    rcases h with (h | h) | h
    · exact ⟨iha h.1, h.2⟩
    · exact ⟨h.1, ihb h.2⟩
    · exact ⟨alive_of_ends h.1, alive_of_starts h.2⟩
  | alt a b iha ihb => simp only [pairsT, aliveT, Bool.or_eq_true] at h ⊢; exact h.imp iha ihb
  | star _ _ => rfl

theorem pos_of_starts {t : RT σ} {p : Nat} (h : startsT t p = true) : p ∈ posT t := by
  induction t with
  | none => cases h
  | empty => cases h
  | sym _ _ => simp only [startsT, beq_iff_eq] at h; simp [posT, h]
  | cat a b iha ihb =>
    simp only [startsT, posT, Bool.or_eq_true, Bool.and_eq_true, List.mem_append] at h ⊢
    exact h.imp (fun h => iha h.1) (fun h => ihb h.2)
  | alt a b iha ihb => simp only [startsT, posT, Bool.or_eq_true, List.mem_append] at h ⊢; exact h.imp iha ihb
  | star a ih => exact ih h

theorem pos_of_ends {t : RT σ} {p : Nat} (h : endsT t p = true) : p ∈ posT t := by
  induction t with
  | none => cases h
  | empty => cases h
  | sym _ _ => simp only [endsT, beq_iff_eq] at h; simp [posT, h]
  | cat a b iha ihb =>
    simp only [endsT, posT, Bool.or_eq_true, Bool.and_eq_true, List.mem_append] at h ⊢
    exact h.symm.imp (fun h => iha h.1) (fun h => ihb h.2)
  | alt a b iha ihb => simp only [endsT, posT, Bool.or_eq_true, List.mem_append] at h ⊢; exact h.imp iha ihb
  | star a ih => exact ih h

theorem pos_of_pairs {t : RT σ} {p q : Nat} (h : pairsT t p q = true) : p ∈ posT t ∧ q ∈ posT t := by
  induction t with
  | none => cases h
  | empty => cases h
  | sym _ _ => cases h
  | cat a b iha ihb =>
    simp only [pairsT, posT, Bool.or_eq_true, Bool.and_eq_true, List.mem_append] at h ⊢
    rcases h with (h | h) | h
    · exact ⟨.inl (iha h.1).1, .inl (iha h.1).2⟩
    · exact ⟨.inr (ihb h.2).1, .inr (ihb h.2).2⟩
    · exact ⟨.inl (pos_of_ends h.1), .inr (pos_of_starts h.2)⟩
  | alt a b iha ihb =>
    simp only [pairsT, posT, Bool.or_eq_true, List.mem_append] at h ⊢
    rcases h with h | h
    · exact ⟨.inl (iha h).1, .inl (iha h).2⟩
    · exact ⟨.inr (ihb h).1, .inr (ihb h).2⟩
  | star a ih =>
    simp only [pairsT, posT, Bool.or_eq_true, Bool.and_eq_true] at h ⊢
    rcases h with h | h
    · exact ih h
    · exact ⟨pos_of_ends h.1, pos_of_starts h.2⟩

/-! ## The rows of places that a tree matches. -/

inductive StarL {α : Type} (S : List α → Prop) : List α → Prop where
  | nil : StarL S []
  | app {x y : List α} : x ≠ [] → S x → StarL S y → StarL S (x ++ y)

def PL : RT σ → List Nat → Prop
  | .none, _ => False
  | .empty, l => l = []
  | .sym p _, l => l = [p]
  | .cat a b, l => ∃ x y, l = x ++ y ∧ PL a x ∧ PL b y
  | .alt a b, l => PL a l ∨ PL b l
  | .star a, l => StarL (PL a) l

def Run (R : Nat → Nat → Bool) (e : Nat → Bool) : Nat → List Nat → Prop
  | p, [] => e p = true
  | p, q :: l => R p q = true ∧ Run R e q l

def AccT (t : RT σ) : List Nat → Prop
  | [] => nullT t = true
  | p :: l => startsT t p = true ∧ Run (pairsT t) (endsT t) p l

/-- No place stands in two parts. -/
def Lin : RT σ → Prop
  | .cat a b => Lin a ∧ Lin b ∧ ∀ p, p ∈ posT a → p ∈ posT b → False
  | .alt a b => Lin a ∧ Lin b ∧ ∀ p, p ∈ posT a → p ∈ posT b → False
  | .star a => Lin a
  | _ => True

theorem run_alive {t : RT σ} {p : Nat} {l : List Nat} (h : Run (pairsT t) (endsT t) p l) : aliveT t = true := by
  cases l with
  | nil => exact alive_of_ends h
  | cons q l => exact alive_of_pairs h.1
theorem acc_alive {t : RT σ} {l : List Nat} (h : AccT t l) : aliveT t = true := by
  cases l with
  | nil => exact alive_of_null h
  | cons p l => exact alive_of_starts h.1

theorem run_alt_left {a b : RT σ} (hd : ∀ p, p ∈ posT a → p ∈ posT b → False) {p : Nat} {l : List Nat} (hp : p ∈ posT a) :
    Run (pairsT (.alt a b)) (endsT (.alt a b)) p l ↔ Run (pairsT a) (endsT a) p l := by
  induction l generalizing p with
  | nil =>
    simp only [Run, endsT, Bool.or_eq_true]
    exact ⟨fun h => h.elim id fun h => (hd p hp (pos_of_ends h)).elim, .inl⟩
  | cons q l ih =>
    simp only [Run, pairsT, Bool.or_eq_true]
    refine ⟨fun h => ?_, fun h => ⟨.inl h.1, (ih (pos_of_pairs h.1).2).2 h.2⟩⟩
    have h1 : pairsT a p q = true := h.1.elim id fun h => (hd p hp (pos_of_pairs h).1).elim
    exact ⟨h1, (ih (pos_of_pairs h1).2).1 h.2⟩
theorem run_alt_right {a b : RT σ} (hd : ∀ p, p ∈ posT a → p ∈ posT b → False) {p : Nat} {l : List Nat} (hp : p ∈ posT b) :
    Run (pairsT (.alt a b)) (endsT (.alt a b)) p l ↔ Run (pairsT b) (endsT b) p l := by
  induction l generalizing p with
  | nil =>
    simp only [Run, endsT, Bool.or_eq_true]
    exact ⟨fun h => h.elim (fun h => (hd p (pos_of_ends h) hp).elim) id, .inr⟩
  | cons q l ih =>
    simp only [Run, pairsT, Bool.or_eq_true]
    refine ⟨fun h => ?_, fun h => ⟨.inr h.1, (ih (pos_of_pairs h.1).2).2 h.2⟩⟩
    have h1 : pairsT b p q = true := h.1.elim (fun h => (hd p (pos_of_pairs h).1 hp).elim) id
    exact ⟨h1, (ih (pos_of_pairs h1).2).1 h.2⟩

theorem acc_alt {a b : RT σ} (hd : ∀ p, p ∈ posT a → p ∈ posT b → False) (l : List Nat) : AccT (.alt a b) l ↔ AccT a l ∨ AccT b l := by
  cases l with
  | nil => simp only [AccT, nullT, Bool.or_eq_true]
  | cons p l =>
    simp only [AccT]
    refine ⟨fun h => ?_, fun h => ?_⟩
    · rcases (Bool.or_eq_true _ _).mp (show (startsT a p || startsT b p) = true from h.1) with h1 | h1
      · exact .inl ⟨h1, (run_alt_left hd (pos_of_starts h1)).1 h.2⟩
      · exact .inr ⟨h1, (run_alt_right hd (pos_of_starts h1)).1 h.2⟩
    · rcases h with h | h
      · exact ⟨by simp [startsT, h.1], (run_alt_left hd (pos_of_starts h.1)).2 h.2⟩
      · exact ⟨by simp [startsT, h.1], (run_alt_right hd (pos_of_starts h.1)).2 h.2⟩

theorem run_cat_right {a b : RT σ} (ha : aliveT a = true) (hd : ∀ p, p ∈ posT a → p ∈ posT b → False) {p : Nat} {l : List Nat} (hp : p ∈ posT b) :
    Run (pairsT (.cat a b)) (endsT (.cat a b)) p l ↔ Run (pairsT b) (endsT b) p l := by
  induction l generalizing p with
  | nil =>
    simp only [Run, endsT, Bool.or_eq_true, Bool.and_eq_true]
    exact ⟨fun h => h.elim (fun h => h.2) fun h => (hd p (pos_of_ends h.1) hp).elim, fun h => .inl ⟨ha, h⟩⟩
  | cons q l ih =>
    simp only [Run, pairsT, Bool.or_eq_true, Bool.and_eq_true]
    refine ⟨fun h => ?_, fun h => ⟨.inl (.inr ⟨ha, h.1⟩), (ih (pos_of_pairs h.1).2).2 h.2⟩⟩
    have h1 : pairsT b p q = true := by
      rcases h.1 with (h | h) | h
      · exact (hd p (pos_of_pairs h.1).1 hp).elim
      · exact h.2
      · exact (hd p (pos_of_ends h.1) hp).elim
    exact ⟨h1, (ih (pos_of_pairs h1).2).1 h.2⟩

theorem run_cat_left {a b : RT σ} (ha : aliveT a = true) (hb : aliveT b = true) (hd : ∀ p, p ∈ posT a → p ∈ posT b → False) {p : Nat} {l : List Nat} (hp : p ∈ posT a) :
    Run (pairsT (.cat a b)) (endsT (.cat a b)) p l ↔ ∃ x y, l = x ++ y ∧ Run (pairsT a) (endsT a) p x ∧ AccT b y := by
  induction l generalizing p with
  | nil =>
    simp only [Run, endsT, Bool.or_eq_true, Bool.and_eq_true]
    refine ⟨fun h => ?_, fun h => ?_⟩
    · rcases h with h | h
      · exact (hd p hp (pos_of_ends h.2)).elim
      · exact ⟨[], [], rfl, h.1, h.2⟩
    · obtain ⟨x, y, hl, h1, h2⟩ := h
      obtain ⟨rfl, rfl⟩ := List.append_eq_nil_iff.mp hl.symm
      exact .inr ⟨h1, h2⟩
  | cons q l ih =>
    simp only [Run, pairsT, Bool.or_eq_true, Bool.and_eq_true]
    refine ⟨fun h => ?_, fun h => ?_⟩
    · rcases h.1 with (h1 | h1) | h1
      · obtain ⟨x, y, rfl, hx, hy⟩ := (ih (pos_of_pairs h1.1).2).1 h.2
        exact ⟨q :: x, y, rfl, ⟨h1.1, hx⟩, hy⟩
      · exact (hd p hp (pos_of_pairs h1.2).1).elim
      · exact ⟨[], q :: l, rfl, h1.1, h1.2, (run_cat_right ha hd (pos_of_starts h1.2)).1 h.2⟩
    · obtain ⟨x, y, hl, hx, hy⟩ := h
      cases x with
      | nil =>
        have hl' : q :: l = y := hl
        subst hl'
        exact ⟨.inr ⟨hx, hy.1⟩, (run_cat_right ha hd (pos_of_starts hy.1)).2 hy.2⟩
      | cons r x =>
        obtain ⟨rfl, rfl⟩ := List.cons.inj (show q :: l = r :: (x ++ y) from hl)
        exact ⟨.inl (.inl ⟨hx.1, hb⟩), (ih (pos_of_pairs hx.1).2).2 ⟨x, y, rfl, hx.2, hy⟩⟩

theorem acc_cat {a b : RT σ} (hd : ∀ p, p ∈ posT a → p ∈ posT b → False) (l : List Nat) : AccT (.cat a b) l ↔ ∃ x y, l = x ++ y ∧ AccT a x ∧ AccT b y := by
  by_cases ha : aliveT a = true
  · by_cases hb : aliveT b = true
    · cases l with
      | nil =>
        simp only [AccT, nullT, Bool.and_eq_true]
        refine ⟨fun h => ⟨[], [], rfl, h.1, h.2⟩, ?_⟩
        rintro ⟨x, y, hl, hx, hy⟩
        obtain ⟨rfl, rfl⟩ := List.append_eq_nil_iff.mp hl.symm
        exact ⟨hx, hy⟩
      | cons p l =>
        refine ⟨fun h => ?_, ?_⟩
        · have h1 := h.1
          simp only [startsT, Bool.or_eq_true, Bool.and_eq_true] at h1
          rcases h1 with h1 | h1
          · obtain ⟨x, y, rfl, hx, hy⟩ := (run_cat_left ha hb hd (pos_of_starts h1.1)).1 h.2
            exact ⟨p :: x, y, rfl, ⟨h1.1, hx⟩, hy⟩
          · exact ⟨[], p :: l, rfl, h1.1, h1.2, (run_cat_right ha hd (pos_of_starts h1.2)).1 h.2⟩
        · rintro ⟨x, y, hl, hx, hy⟩
          cases x with
          | nil =>
            have hl' : p :: l = y := hl
            subst hl'
            refine ⟨?_, (run_cat_right ha hd (pos_of_starts hy.1)).2 hy.2⟩
            simp only [startsT, Bool.or_eq_true, Bool.and_eq_true]
            exact .inr ⟨hx, hy.1⟩
          | cons r x =>
            obtain ⟨rfl, rfl⟩ := List.cons.inj (show p :: l = r :: (x ++ y) from hl)
            refine ⟨?_, (run_cat_left ha hb hd (pos_of_starts hx.1)).2 ⟨x, y, rfl, hx.2, hy⟩⟩
            simp only [startsT, Bool.or_eq_true, Bool.and_eq_true]
            exact .inl ⟨hx.1, hb⟩
    · refine ⟨fun h => ?_, ?_⟩
      · have := acc_alive h
        simp only [aliveT, Bool.and_eq_true] at this
        exact (hb this.2).elim
      · rintro ⟨x, y, -, -, hy⟩
        exact (hb (acc_alive hy)).elim
  · refine ⟨fun h => ?_, ?_⟩
    · have := acc_alive h
      simp only [aliveT, Bool.and_eq_true] at this
      exact (ha this.1).elim
    · rintro ⟨x, y, -, hx, -⟩
      exact (ha (acc_alive hx)).elim

theorem run_star {a : RT σ} {p : Nat} {l : List Nat} : Run (pairsT (.star a)) (endsT (.star a)) p l ↔ ∃ x y, l = x ++ y ∧ Run (pairsT a) (endsT a) p x ∧ StarL (AccT a) y := by
  refine ⟨fun h => ?_, ?_⟩
  · induction l generalizing p with
    | nil => exact ⟨[], [], rfl, h, .nil⟩
    | cons q l ih =>
      obtain ⟨x, y, rfl, hx, hy⟩ := ih h.2
      have h1 := h.1
      simp only [pairsT, Bool.or_eq_true, Bool.and_eq_true] at h1
      rcases h1 with h1 | h1
      · exact ⟨q :: x, y, rfl, ⟨h1, hx⟩, hy⟩
      · exact ⟨[], (q :: x) ++ y, rfl, h1.1, .app (by simp) ⟨h1.2, hx⟩ hy⟩
  · rintro ⟨x, y, rfl, hx, hy⟩
    induction hy generalizing p x with
    | nil =>
      rw [List.append_nil]
      induction x generalizing p with
      | nil => exact hx
      | cons q x ih => exact ⟨by simp [pairsT, hx.1], ih hx.2⟩
    | @app u v hu hS hv ih =>
      induction x generalizing p with
      | nil =>
        cases u with
        | nil => exact (hu rfl).elim
        | cons q u =>
          refine ⟨?_, ih _ hS.2⟩
          simp only [pairsT, Bool.or_eq_true, Bool.and_eq_true]
          exact .inr ⟨hx, hS.1⟩
      | cons q x ihx => exact ⟨by simp [pairsT, hx.1], ihx hx.2⟩

theorem acc_star {a : RT σ} (l : List Nat) : AccT (.star a) l ↔ StarL (AccT a) l := by
  cases l with
  | nil => exact ⟨fun _ => .nil, fun _ => rfl⟩
  | cons p l =>
    refine ⟨fun h => ?_, fun h => ?_⟩
    · obtain ⟨x, y, rfl, hx, hy⟩ := run_star.1 h.2
      exact .app (x := p :: x) (by simp) ⟨h.1, hx⟩ hy
    · generalize hm : p :: l = m at h
      cases h with
      | nil => cases hm
      | @app x y hx hS hy =>
        cases x with
        | nil => exact (hx rfl).elim
        | cons q x =>
          obtain ⟨rfl, rfl⟩ := List.cons.inj hm
          exact ⟨hS.1, run_star.2 ⟨x, y, rfl, hS.2, hy⟩⟩

theorem starL_congr {α : Type} {S S' : List α → Prop} (h : ∀ l, S l ↔ S' l) (l : List α) : StarL S l ↔ StarL S' l := by
  refine ⟨fun k => ?_, fun k => ?_⟩
  · induction k with
    | nil => exact .nil
    | app hx hS _ ih => exact .app hx ((h _).1 hS) ih
  · induction k with
    | nil => exact .nil
    | app hx hS _ ih => exact .app hx ((h _).2 hS) ih

theorem pl_iff_acc {t : RT σ} (hl : Lin t) (l : List Nat) : PL t l ↔ AccT t l := by
  induction t generalizing l with
  | none => cases l <;> simp [PL, AccT, nullT, startsT]
  | empty => cases l <;> simp [PL, AccT, nullT, startsT]
  | sym p s =>
    cases l with
    | nil => simp [PL, AccT, nullT]
    | cons q l =>
      cases l with
      | nil => simp only [PL, AccT, startsT, Run, endsT, beq_iff_eq, List.cons.injEq, and_true, and_self]; exact eq_comm
      | cons r l => simp [PL, AccT, Run, pairsT]
  | cat a b iha ihb =>
    rw [acc_cat hl.2.2]
    simp only [PL, iha hl.1, ihb hl.2.1]
  | alt a b iha ihb =>
    rw [acc_alt hl.2.2]
    simp only [PL, iha hl.1, ihb hl.2.1]
  | star a ih =>
    rw [acc_star]
    exact starL_congr (ih hl) l

end
end Go.Rx
namespace Go.Rx

section
variable {σ : Type} [DecidableEq σ]

def starB {α : Type} (f : List α → Bool) : List α → Bool
  | [] => true
  | x :: w => (List.range (w.length + 1)).any fun k => f (x :: w.take k) && starB f (w.drop k)
termination_by w => w.length
decreasing_by simp only [List.length_drop, List.length_cons]; omega

def matchT : RT σ → List σ → Bool
  | .none, _ => false
  | .empty, w => w.isEmpty
  | .sym _ s, w => decide (w = [s])
  | .cat a b, w => (List.range (w.length + 1)).any fun k => matchT a (w.take k) && matchT b (w.drop k)
  | .alt a b, w => matchT a w || matchT b w
  | .star a, w => starB (matchT a) w

/-- Which word stands at a place. -/
def Told (sy : Nat → σ) : RT σ → Prop
  | .none => True
  | .empty => True
  | .sym p s => sy p = s
  | .cat a b => Told sy a ∧ Told sy b
  | .alt a b => Told sy a ∧ Told sy b
  | .star a => Told sy a

theorem starB_iff {α : Type} (f : List α → Bool) (w : List α) : starB f w = true ↔ StarL (fun l => f l = true) w := by
  induction hn : w.length using Nat.strongRecOn generalizing w with
  | _ n ih =>
  subst hn
  cases w with
  | nil => simp only [starB, true_iff]; exact .nil
  | cons x w =>
    rw [starB]
    simp only [List.any_eq_true, List.mem_range, Bool.and_eq_true]
    refine ⟨?_, fun h => ?_⟩
    · rintro ⟨k, -, h1, h2⟩
      have hd := (ih (w.drop k).length (by simp only [List.length_drop, List.length_cons]; omega) _ rfl).1 h2
      have := StarL.app (x := x :: w.take k) (by simp) h1 hd
      rwa [List.cons_append, List.take_append_drop] at this
    · generalize hm : x :: w = m at h
      cases h with
      | nil => cases hm
      | @app u v hu hS hv =>
        cases u with
        | nil => exact (hu rfl).elim
        | cons y u =>
          obtain ⟨rfl, rfl⟩ := List.cons.inj (show x :: w = y :: (u ++ v) from hm)
          refine ⟨u.length, by simp only [List.length_append]; omega, by rw [List.take_left]; exact hS, ?_⟩
          rw [List.drop_left]
          exact (ih v.length (by simp only [List.length_cons, List.length_append]; omega) _ rfl).2 hv

theorem starL_map {α β : Type} (g : α → β) (S : List α → Prop) (S' : List β → Prop) (h : ∀ w, S' w ↔ ∃ l, S l ∧ l.map g = w) (w : List β) :
    StarL S' w ↔ ∃ l, StarL S l ∧ l.map g = w := by
  refine ⟨fun k => ?_, ?_⟩
  · induction k with
    | nil => exact ⟨[], .nil, rfl⟩
    | @app x y hx hS _ ih =>
      obtain ⟨l, hl, rfl⟩ := (h x).1 hS
      obtain ⟨m, hm, rfl⟩ := ih
      exact ⟨l ++ m, .app (fun e => hx (by rw [e]; rfl)) hl hm, List.map_append⟩
  · rintro ⟨l, hl, rfl⟩
    induction hl with
    | nil => exact .nil
    | @app x y hx hS _ ih =>
      rw [List.map_append]
      exact .app (fun e => hx (List.map_eq_nil_iff.mp e)) ((h _).2 ⟨x, hS, rfl⟩) ih

theorem matchT_iff_pl {sy : Nat → σ} {t : RT σ} (ht : Told sy t) (w : List σ) : matchT t w = true ↔ ∃ l, PL t l ∧ l.map sy = w := by
  induction t generalizing w with
  | none => simp [matchT, PL]
  | empty => simp only [matchT, PL, List.isEmpty_iff]; exact ⟨fun h => ⟨[], rfl, h.symm⟩, fun ⟨l, h, e⟩ => by subst h; exact e.symm⟩
  | sym p s =>
    simp only [matchT, PL, decide_eq_true_eq]
    exact ⟨fun h => ⟨[p], rfl, by rw [h]; simp only [List.map_cons, List.map_nil]; rw [show sy p = s from ht]⟩, fun ⟨l, h, e⟩ => by subst h; rw [← e]; simp only [List.map_cons, List.map_nil]; rw [show sy p = s from ht]⟩
  | cat a b iha ihb =>
    simp only [matchT, PL, List.any_eq_true, List.mem_range, Bool.and_eq_true]
    refine ⟨?_, ?_⟩
    · rintro ⟨k, hk, h1, h2⟩
      obtain ⟨x, hx, ex⟩ := (iha ht.1 _).1 h1
      obtain ⟨y, hy, ey⟩ := (ihb ht.2 _).1 h2
      exact ⟨x ++ y, ⟨x, y, rfl, hx, hy⟩, by rw [List.map_append, ex, ey, List.take_append_drop]⟩
    · rintro ⟨l, ⟨x, y, rfl, hx, hy⟩, rfl⟩
      refine ⟨x.length, by simp only [List.length_map, List.length_append]; omega, ?_, ?_⟩
      · rw [List.map_append, show x.length = (x.map sy).length from (List.length_map ..).symm, List.take_left]
        exact (iha ht.1 _).2 ⟨x, hx, rfl⟩
      · rw [List.map_append, show x.length = (x.map sy).length from (List.length_map ..).symm, List.drop_left]
        exact (ihb ht.2 _).2 ⟨y, hy, rfl⟩
  | alt a b iha ihb =>
    simp only [matchT, PL, Bool.or_eq_true, iha ht.1, ihb ht.2]
    refine ⟨?_, ?_⟩
    · rintro (⟨l, h, e⟩ | ⟨l, h, e⟩)
      · exact ⟨l, .inl h, e⟩
      · exact ⟨l, .inr h, e⟩
    · rintro ⟨l, h | h, e⟩
      · exact .inl ⟨l, h, e⟩
      · exact .inr ⟨l, h, e⟩
  | star a ih =>
    simp only [matchT, PL]
    rw [starB_iff]
    exact starL_map sy (PL a) _ (ih ht) w

theorem matchT_iff_acc {sy : Nat → σ} {t : RT σ} (ht : Told sy t) (hl : Lin t) (w : List σ) : matchT t w = true ↔ ∃ l, AccT t l ∧ l.map sy = w := by
  rw [matchT_iff_pl ht]
  simp only [pl_iff_acc hl]

theorem matchT_nil (t : RT σ) : matchT t [] = nullT t := by
  induction t with
  | none => rfl
  | empty => rfl
  | sym _ s => simp [matchT, nullT]
  | cat a b iha ihb => simp [matchT, nullT, iha, ihb, List.range_succ]
  | alt a b iha ihb => simp [matchT, nullT, iha, ihb]
  | star a _ => simp [matchT, nullT, starB]

/-- The shape of a tree: what it is but for where its words stand. -/
inductive Alike : RT σ → RT σ → Prop where
  | none : Alike .none .none
  | empty : Alike .empty .empty
  | sym (p q : Nat) (s : σ) : Alike (.sym p s) (.sym q s)
  | cat {a a' b b' : RT σ} : Alike a a' → Alike b b' → Alike (.cat a b) (.cat a' b')
  | alt {a a' b b' : RT σ} : Alike a a' → Alike b b' → Alike (.alt a b) (.alt a' b')
  | star {a a' : RT σ} : Alike a a' → Alike (.star a) (.star a')

theorem Alike.matches {t t' : RT σ} (h : Alike t t') : matchT t = matchT t' := by
  induction h with
  | none => rfl
  | empty => rfl
  | sym _ _ _ => rfl
  | cat _ _ iha ihb => funext w; simp only [matchT, iha, ihb]
  | alt _ _ iha ihb => funext w; simp only [matchT, iha, ihb]
  | star _ ih => funext w; simp only [matchT, ih]
omit [DecidableEq σ] in
theorem Alike.null {t t' : RT σ} (h : Alike t t') : nullT t = nullT t' := by
  induction h with
  | none => rfl
  | empty => rfl
  | sym _ _ _ => rfl
  | cat _ _ iha ihb => simp only [nullT, iha, ihb]
  | alt _ _ iha ihb => simp only [nullT, iha, ihb]
  | star _ ih => rfl

/-! ## The set of places to which words lead, as the program keeps it. -/

/-- The places that may be come to by a row of words, from a set of places on. -/
def comeT (t : RT σ) (sy : Nat → σ) (come : Nat → Prop) : List σ → Nat → Prop
  | [], q => come q
  | s :: w, q => comeT t sy (fun q => ∃ p, come p ∧ sy p = s ∧ pairsT t p q = true) w q

omit [DecidableEq σ] in
theorem comeT_iff (t : RT σ) (sy : Nat → σ) (w : List σ) (come : Nat → Prop) (last : σ) :
    (∃ q, comeT t sy come w q ∧ sy q = last ∧ endsT t q = true) ↔ ∃ p l, come p ∧ Run (pairsT t) (endsT t) p l ∧ (p :: l).map sy = w ++ [last] := by
  induction w generalizing come with
  | nil =>
    refine ⟨fun ⟨q, h, e, he⟩ => ⟨q, [], h, he, by simp [e]⟩, ?_⟩
    rintro ⟨p, l, h, hr, e⟩
    simp only [List.map_cons, List.nil_append, List.cons.injEq, List.map_eq_nil_iff] at e
    obtain ⟨e, rfl⟩ := e
    exact ⟨p, h, e, hr⟩
  | cons s w ih =>
    show (∃ q, comeT t sy (fun q => ∃ p, come p ∧ sy p = s ∧ pairsT t p q = true) w q ∧ sy q = last ∧ endsT t q = true) ↔ _
    rw [ih]
    refine ⟨?_, ?_⟩
    · rintro ⟨q, l, ⟨p, hp, e, hpq⟩, hr, he⟩
      exact ⟨p, q :: l, hp, ⟨hpq, hr⟩, by rw [List.map_cons, e, he]; rfl⟩
    · rintro ⟨p, l, hp, hr, he⟩
      cases l with
      | nil => simp at he
      | cons q l =>
        simp only [List.map_cons, List.cons_append, List.cons.injEq] at he
        exact ⟨q, l, ⟨p, hp, he.1, hr.1⟩, hr.2, by simpa using he.2⟩

theorem matchT_iff_come {sy : Nat → σ} {t : RT σ} (ht : Told sy t) (hl : Lin t) (w : List σ) (last : σ) :
    matchT t (w ++ [last]) = true ↔ ∃ q, comeT t sy (fun p => startsT t p = true) w q ∧ sy q = last ∧ endsT t q = true := by
  rw [matchT_iff_acc ht hl, comeT_iff]
  refine ⟨?_, ?_⟩
  · rintro ⟨l, ha, e⟩
    cases l with
    | nil => simp at e
    | cons p l => exact ⟨p, l, ha.1, ha.2, e⟩
  · rintro ⟨p, l, hp, hr, e⟩
    exact ⟨p :: l, ⟨hp, hr⟩, e⟩

end
end Go.Rx
namespace Go.Rx

structure Nd where
  op : Int
  sym : ByteArray
  a : Int
  b : Int

def nil8 : ByteArray := ⟨#[]⟩

def inR (i : Nat) (x : Int) : Bool := decide (0 ≤ x) && decide (x < i)

def okNode (i : Nat) (n : Nd) : Bool :=
  if n.op = 0 ∨ n.op = 1 then decide (n.sym = nil8) && decide (n.a = 0) && decide (n.b = 0)
  else if n.op = 2 then decide (n.a = 0) && decide (n.b = 0)
  else if n.op = 3 ∨ n.op = 4 then decide (n.sym = nil8) && inR i n.a && inR i n.b
  else if n.op = 5 then decide (n.sym = nil8) && inR i n.a && decide (n.b = 0)
  else false

def kids (n : Nd) : List Nat :=
  if n.op = 3 ∨ n.op = 4 then [n.a.toNat, n.b.toNat] else if n.op = 5 then [n.a.toNat] else []

def uses (l : List Nd) (j : Nat) : Nat := (l.flatMap kids).count j

structure Form (l : List Nd) : Prop where
  ne : l ≠ []
  ok : ∀ i n, l[i]? = some n → okNode i n = true
  one : ∀ j, j + 1 < l.length → uses l j = 1

/-- The tree of a node. -/
def tr (l : List Nd) (i : Nat) : RT ByteArray :=
  match l[i]? with
  | none => .none
  | some n =>
    if n.op = 1 then .empty
    else if n.op = 2 then .sym i n.sym
    else if _h : n.op = 3 ∧ n.a.toNat < i ∧ n.b.toNat < i then .cat (tr l n.a.toNat) (tr l n.b.toNat)
    else if _h : n.op = 4 ∧ n.a.toNat < i ∧ n.b.toNat < i then .alt (tr l n.a.toNat) (tr l n.b.toNat)
    else if _h : n.op = 5 ∧ n.a.toNat < i then .star (tr l n.a.toNat)
    else .none
termination_by i
decreasing_by all_goals omega

theorem inR_iff {i : Nat} {x : Int} : inR i x = true ↔ 0 ≤ x ∧ x < i := by simp [inR]

/-- What a node may be. -/
inductive Kind (i : Nat) (n : Nd) : Prop where
  | none (h : n.op = 0) (s : n.sym = nil8) (a : n.a = 0) (b : n.b = 0)
  | empty (h : n.op = 1) (s : n.sym = nil8) (a : n.a = 0) (b : n.b = 0)
  | sym (h : n.op = 2) (a : n.a = 0) (b : n.b = 0)
  | cat (h : n.op = 3) (s : n.sym = nil8) (x y : Nat) (a : n.a = x) (b : n.b = y) (hx : x < i) (hy : y < i)
  | alt (h : n.op = 4) (s : n.sym = nil8) (x y : Nat) (a : n.a = x) (b : n.b = y) (hx : x < i) (hy : y < i)
  | star (h : n.op = 5) (s : n.sym = nil8) (x : Nat) (a : n.a = x) (b : n.b = 0) (hx : x < i)

theorem kind_of_ok {i : Nat} {n : Nd} (h : okNode i n = true) : Kind i n := by
  unfold okNode at h
  split at h
  · rename_i ho
    simp only [Bool.and_eq_true, decide_eq_true_eq] at h
    rcases ho with ho | ho
    · exact .none ho h.1.1 h.1.2 h.2
    · exact .empty ho h.1.1 h.1.2 h.2
  · split at h
    · rename_i ho
      simp only [Bool.and_eq_true, decide_eq_true_eq] at h
      exact .sym ho h.1 h.2
    · split at h
      · rename_i ho
        simp only [Bool.and_eq_true, decide_eq_true_eq, inR_iff] at h
        rcases ho with ho | ho
        · exact .cat ho h.1.1 n.a.toNat n.b.toNat (by omega) (by omega) (by omega) (by omega)
        · exact .alt ho h.1.1 n.a.toNat n.b.toNat (by omega) (by omega) (by omega) (by omega)
      · split at h
        · rename_i ho
          simp only [Bool.and_eq_true, decide_eq_true_eq, inR_iff] at h
          exact .star ho h.1.1 n.a.toNat (by omega) h.2 (by omega)
        · cases h

theorem tr_none {l : List Nd} {i : Nat} {n : Nd} (hn : l[i]? = some n) (ho : n.op = 0) : tr l i = .none := by
  rw [tr, hn]; simp [ho]
theorem tr_empty {l : List Nd} {i : Nat} {n : Nd} (hn : l[i]? = some n) (ho : n.op = 1) : tr l i = .empty := by
  rw [tr, hn]; simp [ho]
theorem tr_sym {l : List Nd} {i : Nat} {n : Nd} (hn : l[i]? = some n) (ho : n.op = 2) : tr l i = .sym i n.sym := by
  rw [tr, hn]; simp [ho]
theorem tr_cat {l : List Nd} {i : Nat} {n : Nd} (hn : l[i]? = some n) (ho : n.op = 3) {x y : Nat} (ha : n.a = x) (hb : n.b = y) (hx : x < i) (hy : y < i) :
    tr l i = .cat (tr l x) (tr l y) := by
  rw [tr, hn]; simp [ho, ha, hb, hx, hy]
theorem tr_alt {l : List Nd} {i : Nat} {n : Nd} (hn : l[i]? = some n) (ho : n.op = 4) {x y : Nat} (ha : n.a = x) (hb : n.b = y) (hx : x < i) (hy : y < i) :
    tr l i = .alt (tr l x) (tr l y) := by
  rw [tr, hn]; simp [ho, ha, hb, hx, hy]
theorem tr_star {l : List Nd} {i : Nat} {n : Nd} (hn : l[i]? = some n) (ho : n.op = 5) {x : Nat} (ha : n.a = x) (hx : x < i) :
    tr l i = .star (tr l x) := by
  rw [tr, hn]; simp [ho, ha, hx]

theorem kids_cat {n : Nd} (ho : n.op = 3 ∨ n.op = 4) {x y : Nat} (ha : n.a = x) (hb : n.b = y) : kids n = [x, y] := by
  unfold kids; rw [if_pos ho, ha, hb]; rfl
theorem kids_star {n : Nd} (ho : n.op = 5) {x : Nat} (ha : n.a = x) : kids n = [x] := by
  unfold kids; rw [if_neg (by omega), if_pos ho, ha]; rfl
theorem kids_leaf {n : Nd} (ho : n.op = 0 ∨ n.op = 1 ∨ n.op = 2) : kids n = [] := by
  unfold kids; rw [if_neg (by omega), if_neg (by omega)]

theorem kids_lt {i : Nat} {n : Nd} (k : Kind i n) {j : Nat} (hj : j ∈ kids n) : j < i := by
  cases k with
  | none h => rw [kids_leaf (.inl h)] at hj; cases hj
  | empty h => rw [kids_leaf (.inr (.inl h))] at hj; cases hj
  | sym h => rw [kids_leaf (.inr (.inr h))] at hj; cases hj
  | cat h s x y a b hx hy =>
    rw [kids_cat (.inl h) a b] at hj
    simp only [List.mem_cons, List.not_mem_nil, or_false] at hj
    rcases hj with rfl | rfl <;> assumption
  | alt h s x y a b hx hy =>
    rw [kids_cat (.inr h) a b] at hj
    simp only [List.mem_cons, List.not_mem_nil, or_false] at hj
    rcases hj with rfl | rfl <;> assumption
  | star h s x a b hx =>
    rw [kids_star h a] at hj
    simp only [List.mem_cons, List.not_mem_nil, or_false] at hj
    subst hj; exact hx

section
variable {l : List Nd}

theorem Form.kind (F : Form l) {i : Nat} {n : Nd} (h : l[i]? = some n) : Kind i n := kind_of_ok (F.ok i n h)
theorem lt_of_some {i : Nat} {n : Nd} (h : l[i]? = some n) : i < l.length := (List.getElem?_eq_some_iff.1 h).1

theorem uses_two (F : Form l) {i i' : Nat} {n n' : Nd} (h : l[i]? = some n) (h' : l[i']? = some n') {j : Nat} (hj : j ∈ kids n) (hj' : j ∈ kids n') (hlt : i < i') : False := by
  have hl := lt_of_some h'
  have hjl : j + 1 < l.length := by have := kids_lt (F.kind h) hj; omega
  have h1 := F.one j hjl
  unfold uses at h1
  rw [← List.take_append_drop i' l, List.flatMap_append, List.count_append] at h1
  have ha : 0 < ((l.take i').flatMap kids).count j := by
    refine List.count_pos_iff.2 (List.mem_flatMap.2 ⟨n, ?_, hj⟩)
    exact List.mem_of_getElem? (i := i) (by rw [List.getElem?_take_of_lt hlt]; exact h)
  have hb : 0 < ((l.drop i').flatMap kids).count j := by
    refine List.count_pos_iff.2 (List.mem_flatMap.2 ⟨n', ?_, hj'⟩)
    exact List.mem_of_getElem? (i := 0) (by rw [List.getElem?_drop]; exact h')
  omega

theorem par_unique (F : Form l) {i i' : Nat} {n n' : Nd} (h : l[i]? = some n) (h' : l[i']? = some n') {j : Nat} (hj : j ∈ kids n) (hj' : j ∈ kids n') : i = i' := by
  rcases Nat.lt_trichotomy i i' with hlt | heq | hgt
  · exact (uses_two F h h' hj hj' hlt).elim
  · exact heq
  · exact (uses_two F h' h hj' hj hgt).elim

theorem kids_apart (F : Form l) {i : Nat} {n : Nd} (h : l[i]? = some n) {x y : Nat} (hk : kids n = [x, y]) : x ≠ y := by
  rintro rfl
  have hl := lt_of_some h
  have hx : x < i := kids_lt (F.kind h) (by rw [hk]; simp)
  have h1 := F.one x (by omega)
  unfold uses at h1
  obtain ⟨hi, rfl⟩ := List.getElem?_eq_some_iff.1 h
  rw [← List.take_append_drop i l, List.flatMap_append, List.count_append, List.drop_eq_getElem_cons hi, List.flatMap_cons, List.count_append, hk] at h1
  simp at h1
  omega

/-- A node is another one, or a part of it, or a part of that, and so on. -/
inductive In (l : List Nd) (i : Nat) : Nat → Prop where
  | refl : In l i i
  | step {k j : Nat} {n : Nd} : In l i k → l[k]? = some n → j ∈ kids n → In l i j

theorem In.le (F : Form l) {i j : Nat} (h : In l i j) : j ≤ i := by
  induction h with
  | refl => exact Nat.le_refl _
  | step _ hk hj ih => have := kids_lt (F.kind hk) hj; omega
theorem In.trans {i j k : Nat} (h : In l i j) (g : In l j k) : In l i k := by
  induction g with
  | refl => exact h
  | step _ hk hj ih => exact .step ih hk hj

theorem In.line (F : Form l) {a b j : Nat} (h : In l a j) (g : In l b j) : In l a b ∨ In l b a := by
  induction h with
  | refl => exact .inr g
  | @step k j n hk hn hj ih =>
    cases g with
    | refl => exact .inl (.step hk hn hj)
    | @step k' _ n' hk' hn' hj' =>
      obtain rfl := par_unique F hn hn' hj hj'
      exact ih hk'

theorem In.apart (F : Form l) {i : Nat} {n : Nd} (hn : l[i]? = some n) {x y p : Nat} (hx : x ∈ kids n) (hy : y ∈ kids n) (hxy : x ≠ y) (h : In l x p) (g : In l y p) : False := by
  have key : ∀ u v, u ∈ kids n → v ∈ kids n → u ≠ v → In l u v → False := by
    intro u v hu hv huv h
    cases h with
    | refl => exact huv rfl
    | @step k _ n' hk hn' hj' =>
      obtain rfl := par_unique F hn hn' hv hj'
      have h1 := hk.le F
      have h2 := kids_lt (F.kind hn) hu
      omega
  rcases h.line F g with h | h
  · exact key x y hx hy hxy h
  · exact key y x hy hx (Ne.symm hxy) h

theorem in_of_pos (F : Form l) {i p : Nat} (h : p ∈ posT (tr l i)) : In l i p := by
  induction i using Nat.strongRecOn with
  | _ i ih =>
  cases hn : l[i]? with
  | none => rw [tr, hn] at h; cases h
  | some n =>
    cases F.kind hn with
    | none ho => rw [tr_none hn ho] at h; cases h
    | empty ho => rw [tr_empty hn ho] at h; cases h
    | sym ho =>
      rw [tr_sym hn ho] at h
      simp only [posT, List.mem_cons, List.not_mem_nil, or_false] at h
      subst h; exact .refl
    | cat ho s x y a b hx hy =>
      rw [tr_cat hn ho a b hx hy] at h
      simp only [posT, List.mem_append] at h
      rcases h with h | h
      · exact In.trans (.step .refl hn (by rw [kids_cat (.inl ho) a b]; simp)) (ih x hx h)
      · exact In.trans (.step .refl hn (by rw [kids_cat (.inl ho) a b]; simp)) (ih y hy h)
    | alt ho s x y a b hx hy =>
      rw [tr_alt hn ho a b hx hy] at h
      simp only [posT, List.mem_append] at h
      rcases h with h | h
      · exact In.trans (.step .refl hn (by rw [kids_cat (.inr ho) a b]; simp)) (ih x hx h)
      · exact In.trans (.step .refl hn (by rw [kids_cat (.inr ho) a b]; simp)) (ih y hy h)
    | star ho s x a b hx =>
      rw [tr_star hn ho a hx] at h
      exact In.trans (.step .refl hn (by rw [kids_star ho a]; simp)) (ih x hx h)

theorem pos_apart (F : Form l) {i : Nat} {n : Nd} (hn : l[i]? = some n) {x y : Nat} (hk : kids n = [x, y]) (p : Nat) (h : p ∈ posT (tr l x)) (g : p ∈ posT (tr l y)) : False :=
  In.apart F hn (x := x) (y := y) (by rw [hk]; simp) (by rw [hk]; simp) (kids_apart F hn hk) (in_of_pos F h) (in_of_pos F g)

theorem tr_lin (F : Form l) (i : Nat) : Lin (tr l i) := by
  induction i using Nat.strongRecOn with
  | _ i ih =>
  cases hn : l[i]? with
  | none => rw [tr, hn]; trivial
  | some n =>
    cases F.kind hn with
    | none ho => rw [tr_none hn ho]; trivial
    | empty ho => rw [tr_empty hn ho]; trivial
    | sym ho => rw [tr_sym hn ho]; trivial
    | cat ho s x y a b hx hy =>
      rw [tr_cat hn ho a b hx hy]
      exact ⟨ih x hx, ih y hy, pos_apart F hn (kids_cat (.inl ho) a b)⟩
    | alt ho s x y a b hx hy =>
      rw [tr_alt hn ho a b hx hy]
      exact ⟨ih x hx, ih y hy, pos_apart F hn (kids_cat (.inr ho) a b)⟩
    | star ho s x a b hx => rw [tr_star hn ho a hx]; exact ih x hx

/-- The word of a node. -/
def symAt (l : List Nd) (i : Nat) : ByteArray := (l[i]?.map Nd.sym).getD nil8

theorem tr_told (F : Form l) (i : Nat) : Told (symAt l) (tr l i) := by
  induction i using Nat.strongRecOn with
  | _ i ih =>
  cases hn : l[i]? with
  | none => rw [tr, hn]; trivial
  | some n =>
    cases F.kind hn with
    | none ho => rw [tr_none hn ho]; trivial
    | empty ho => rw [tr_empty hn ho]; trivial
    | sym ho => rw [tr_sym hn ho]; simp [Told, symAt, hn]
    | cat ho s x y a b hx hy => rw [tr_cat hn ho a b hx hy]; exact ⟨ih x hx, ih y hy⟩
    | alt ho s x y a b hx hy => rw [tr_alt hn ho a b hx hy]; exact ⟨ih x hx, ih y hy⟩
    | star ho s x a b hx => rw [tr_star hn ho a hx]; exact ih x hx

end
end Go.Rx
namespace Go.Rx

structure Fact where
  void : Bool
  empty : Bool
  first : Nat
  last : Nat

def bothF (a b : Fact) : Fact :=
  if a.void || b.void then ⟨true, false, 0, 0⟩
  else ⟨false, a.empty && b.empty, if a.empty then a.first ||| b.first else a.first, if b.empty then b.last ||| a.last else b.last⟩
def eitherF (a b : Fact) : Fact := ⟨a.void && b.void, a.empty || b.empty, a.first ||| b.first, a.last ||| b.last⟩

def factT {σ : Type} : RT σ → Fact
  | .none => ⟨true, false, 0, 0⟩
  | .empty => ⟨false, true, 0, 0⟩
  | .sym p _ => ⟨false, false, 1 <<< p, 1 <<< p⟩
  | .cat a b => bothF (factT a) (factT b)
  | .alt a b => eitherF (factT a) (factT b)
  | .star a => ⟨false, true, (factT a).first, (factT a).last⟩

section
variable {σ : Type}

theorem fact_void (t : RT σ) : (factT t).void = !aliveT t := by
  induction t with
  | none => rfl
  | empty => rfl
  | sym _ _ => rfl
  | cat a b iha ihb =>
    simp only [factT, bothF, aliveT, iha, ihb]
    cases aliveT a <;> cases aliveT b <;> rfl
  | alt a b iha ihb => simp only [factT, eitherF, aliveT, iha, ihb, Bool.not_or]
  | star _ _ => rfl

theorem null_false {t : RT σ} (h : aliveT t = false) : nullT t = false := by
  cases hn : nullT t with
  | false => rfl
  | true => rw [alive_of_null hn] at h; cases h
theorem starts_false {t : RT σ} (h : aliveT t = false) (p : Nat) : startsT t p = false := by
  cases hn : startsT t p with
  | false => rfl
  | true => rw [alive_of_starts hn] at h; cases h
theorem ends_false {t : RT σ} (h : aliveT t = false) (p : Nat) : endsT t p = false := by
  cases hn : endsT t p with
  | false => rfl
  | true => rw [alive_of_ends hn] at h; cases h
theorem pairs_false {t : RT σ} (h : aliveT t = false) (p q : Nat) : pairsT t p q = false := by
  cases hn : pairsT t p q with
  | false => rfl
  | true => rw [alive_of_pairs hn] at h; cases h

theorem fact_empty (t : RT σ) : (factT t).empty = nullT t := by
  induction t with
  | none => rfl
  | empty => rfl
  | sym _ _ => rfl
  | cat a b iha ihb =>
    simp only [factT, bothF, nullT, fact_void]
    cases ha : aliveT a with
    | false => rw [null_false ha]; rfl
    | true =>
      cases hb : aliveT b with
      | false => rw [null_false hb]; simp
      | true => simp [iha, ihb]
  | alt a b iha ihb => simp only [factT, eitherF, nullT, iha, ihb]
  | star _ _ => rfl

theorem bit_one (p q : Nat) : (1 <<< p).testBit q = (p == q) := by
  rw [Nat.one_shiftLeft, Nat.testBit_two_pow]
  simp only [BEq.beq]

theorem fact_first (t : RT σ) (q : Nat) : (factT t).first.testBit q = startsT t q := by
  induction t with
  | none => simp [factT, startsT]
  | empty => simp [factT, startsT]
  | sym p _ => simp only [factT, startsT, bit_one]
  | cat a b iha ihb =>
    simp only [factT, bothF, startsT, fact_void, fact_empty]
    cases ha : aliveT a with
    | false => simp [null_false ha, starts_false ha]
    | true =>
      cases hb : aliveT b with
      | false => simp [starts_false hb]
      | true =>
        cases nullT a <;> simp [iha, ihb]
  | alt a b iha ihb => simp only [factT, eitherF, startsT, Nat.testBit_or, iha, ihb]
  | star a ih => simp only [factT, startsT, ih]

theorem fact_last (t : RT σ) (q : Nat) : (factT t).last.testBit q = endsT t q := by
  induction t with
  | none => simp [factT, endsT]
  | empty => simp [factT, endsT]
  | sym p _ => simp only [factT, endsT, bit_one]
  | cat a b iha ihb =>
    simp only [factT, bothF, endsT, fact_void, fact_empty]
    cases ha : aliveT a with
    | false => simp [ends_false ha]
    | true =>
      cases hb : aliveT b with
      | false => simp [null_false hb, ends_false hb]
      | true =>
        cases nullT b <;> simp [iha, ihb]
  | alt a b iha ihb => simp only [factT, eitherF, endsT, Nat.testBit_or, iha, ihb]
  | star a ih => simp only [factT, endsT, ih]

/-- Masks stay below a bound. -/
theorem or_lt {a b n : Nat} (ha : a < 2 ^ n) (hb : b < 2 ^ n) : a ||| b < 2 ^ n := Nat.or_lt_two_pow ha hb

theorem fact_lt {n : Nat} (t : RT σ) (h : ∀ p, p ∈ posT t → p < n) : (factT t).first < 2 ^ n ∧ (factT t).last < 2 ^ n := by
  have hz : 0 < 2 ^ n := Nat.two_pow_pos n
  induction t with
  | none => exact ⟨hz, hz⟩
  | empty => exact ⟨hz, hz⟩
  | sym p _ =>
    have := h p (by simp [posT])
    simp only [factT, Nat.one_shiftLeft]
    exact ⟨Nat.pow_lt_pow_right (by omega) this, Nat.pow_lt_pow_right (by omega) this⟩
  | cat a b iha ihb =>
    obtain ⟨a1, a2⟩ := iha fun p hp => h p (by simp [posT, hp])
    obtain ⟨b1, b2⟩ := ihb fun p hp => h p (by simp [posT, hp])
    simp only [factT, bothF]
    split
    · exact ⟨hz, hz⟩
    · refine ⟨?_, ?_⟩
      · show (if _ then _ else _) < _
        split
        · exact or_lt a1 b1
        · exact a1
      · show (if _ then _ else _) < _
        split
        · exact or_lt b2 a2
        · exact b2
  | alt a b iha ihb =>
    obtain ⟨a1, a2⟩ := iha fun p hp => h p (by simp [posT, hp])
    obtain ⟨b1, b2⟩ := ihb fun p hp => h p (by simp [posT, hp])
    exact ⟨or_lt a1 b1, or_lt a2 b2⟩
  | star a ih => exact ih h
end

section
variable {l : List Nd}

theorem pos_lt (F : Form l) {i p : Nat} (hi : i < l.length) (h : p ∈ posT (tr l i)) : p < l.length := by
  have := (in_of_pos F h).le F
  omega

/-! ## Climbing from a place to the root. -/

/-- What is known at a node on the way up: the places behind a place in what the node matches. -/
structure Climb (l : List Nd) (at_ part out : Nat) : Prop where
  inn : In l part at_
  lt : part < l.length
  out : ∀ q, out.testBit q = pairsT (tr l part) at_ q

/-- No place stands behind it: something on the way up matches nothing. -/
structure Dead (l : List Nd) (at_ part : Nat) : Prop where
  inn : In l part at_
  pairs : ∀ q, pairsT (tr l part) at_ q = false
  ends : endsT (tr l part) at_ = false

theorem Climb.start {at_ : Nat} {n : Nd} (hn : l[at_]? = some n) (ho : n.op = 2) : Climb l at_ at_ 0 :=
  ⟨.refl, lt_of_some hn, fun q => by rw [tr_sym hn ho, Nat.zero_testBit]; rfl⟩

theorem not_pos (F : Form l) {up : Nat} {n : Nd} (hn : l[up]? = some n) {x y at_ : Nat} (hk : kids n = [x, y] ∨ kids n = [y, x]) (hx : In l x at_) : at_ ∉ posT (tr l y) := by
  intro hp
  have hne : x ≠ y := by
    rcases hk with hk | hk
    · exact kids_apart F hn hk
    · exact (kids_apart F hn hk).symm
  refine In.apart F hn (x := x) (y := y) ?_ ?_ hne hx (in_of_pos F hp)
  · rcases hk with hk | hk <;> rw [hk] <;> simp
  · rcases hk with hk | hk <;> rw [hk] <;> simp

theorem pairs_out {t : RT ByteArray} {p : Nat} (h : p ∉ posT t) (q : Nat) : pairsT t p q = false := by
  cases hp : pairsT t p q with
  | false => rfl
  | true => exact (h (pos_of_pairs hp).1).elim
theorem ends_out {t : RT ByteArray} {p : Nat} (h : p ∉ posT t) : endsT t p = false := by
  cases hp : endsT t p with
  | false => rfl
  | true => exact (h (pos_of_ends hp)).elim

/-- One step up, over a node that matches something: to the left part of a Cat. -/
theorem Climb.cat_left (F : Form l) {at_ part out up : Nat} (C : Climb l at_ part out) {n : Nd} (hn : l[up]? = some n) (ho : n.op = 3) {y : Nat} (ha : n.a = part) (hb : n.b = y) (hy : y < up) (hp : part < up)
    (hv : aliveT (tr l up) = true) : Climb l at_ up (if endsT (tr l part) at_ then out ||| (factT (tr l y)).first else out) := by
  have hk := kids_cat (.inl ho) ha hb
  have hnp := not_pos F hn (.inl hk) C.inn
  rw [tr_cat hn ho ha hb hp hy] at hv
  simp only [aliveT, Bool.and_eq_true] at hv
  refine ⟨In.trans (.step .refl hn (by rw [hk]; simp)) C.inn, lt_of_some hn, fun q => ?_⟩
  rw [tr_cat hn ho ha hb hp hy]
  simp only [pairsT, hv.1, hv.2, pairs_out hnp, Bool.and_true, Bool.true_and, Bool.or_false]
  cases endsT (tr l part) at_ with
  | true => simp [C.out, fact_first]
  | false => simp [C.out]

theorem Climb.cat_right (F : Form l) {at_ part out up : Nat} (C : Climb l at_ part out) {n : Nd} (hn : l[up]? = some n) (ho : n.op = 3) {x : Nat} (ha : n.a = x) (hb : n.b = part) (hx : x < up) (hp : part < up)
    (hv : aliveT (tr l up) = true) : Climb l at_ up out := by
  have hk := kids_cat (.inl ho) ha hb
  have hnp := not_pos F hn (.inr hk) C.inn
  rw [tr_cat hn ho ha hb hx hp] at hv
  simp only [aliveT, Bool.and_eq_true] at hv
  refine ⟨In.trans (.step .refl hn (by rw [hk]; simp)) C.inn, lt_of_some hn, fun q => ?_⟩
  rw [tr_cat hn ho ha hb hx hp]
  simp only [pairsT, hv.1, hv.2, pairs_out hnp, ends_out hnp, Bool.and_true, Bool.true_and, Bool.or_false, Bool.false_or, Bool.false_and]
  exact C.out q

theorem Climb.alt (F : Form l) {at_ part out up : Nat} (C : Climb l at_ part out) {n : Nd} (hn : l[up]? = some n) (ho : n.op = 4) {x y : Nat} (ha : n.a = x) (hb : n.b = y) (hx : x < up) (hy : y < up)
    (hp : part = x ∨ part = y) : Climb l at_ up out := by
  have hk := kids_cat (.inr ho) ha hb
  rcases hp with rfl | rfl
  · have hnp := not_pos F hn (.inl hk) C.inn
    refine ⟨In.trans (.step .refl hn (by rw [hk]; simp)) C.inn, lt_of_some hn, fun q => ?_⟩
    rw [tr_alt hn ho ha hb hx hy]
    simp only [pairsT, pairs_out hnp, Bool.or_false]
    exact C.out q
  · have hnp := not_pos F hn (.inr hk) C.inn
    refine ⟨In.trans (.step .refl hn (by rw [hk]; simp)) C.inn, lt_of_some hn, fun q => ?_⟩
    rw [tr_alt hn ho ha hb hx hy]
    simp only [pairsT, pairs_out hnp, Bool.false_or]
    exact C.out q

theorem Climb.star {at_ part out up : Nat} (C : Climb l at_ part out) {n : Nd} (hn : l[up]? = some n) (ho : n.op = 5) (ha : n.a = part) (hp : part < up) :
    Climb l at_ up (if endsT (tr l part) at_ then out ||| (factT (tr l part)).first else out) := by
  have hk := kids_star ho ha
  refine ⟨In.trans (.step .refl hn (by rw [hk]; simp)) C.inn, lt_of_some hn, fun q => ?_⟩
  rw [tr_star hn ho ha hp]
  simp only [pairsT]
  cases endsT (tr l part) at_ with
  | true => simp [C.out, fact_first]
  | false => simp [C.out]

theorem Dead.up (F : Form l) {at_ part up : Nat} (D : Dead l at_ part) {n : Nd} (hn : l[up]? = some n) (hp : part ∈ kids n) : Dead l at_ up := by
  have hi : In l up at_ := In.trans (.step .refl hn hp) D.inn
  cases F.kind hn with
  | none h => rw [kids_leaf (.inl h)] at hp; cases hp
  | empty h => rw [kids_leaf (.inr (.inl h))] at hp; cases hp
  | sym h => rw [kids_leaf (.inr (.inr h))] at hp; cases hp
  | cat ho s x y ha hb hx hy =>
    have hk := kids_cat (.inl ho) ha hb
    rw [hk] at hp
    simp only [List.mem_cons, List.not_mem_nil, or_false] at hp
    rcases hp with rfl | rfl
    · have hnp := not_pos F hn (.inl hk) D.inn
      refine ⟨hi, fun q => ?_, ?_⟩
      · rw [tr_cat hn ho ha hb hx hy]; simp [pairsT, D.pairs, D.ends, pairs_out hnp]
      · rw [tr_cat hn ho ha hb hx hy]; simp [endsT, D.ends, ends_out hnp]
    · have hnp := not_pos F hn (.inr hk) D.inn
      refine ⟨hi, fun q => ?_, ?_⟩
      · rw [tr_cat hn ho ha hb hx hy]; simp [pairsT, D.pairs, pairs_out hnp, ends_out hnp]
      · rw [tr_cat hn ho ha hb hx hy]; simp [endsT, D.ends, ends_out hnp]
  | alt ho s x y ha hb hx hy =>
    have hk := kids_cat (.inr ho) ha hb
    rw [hk] at hp
    simp only [List.mem_cons, List.not_mem_nil, or_false] at hp
    rcases hp with rfl | rfl
    · have hnp := not_pos F hn (.inl hk) D.inn
      refine ⟨hi, fun q => ?_, ?_⟩
      · rw [tr_alt hn ho ha hb hx hy]; simp [pairsT, D.pairs, pairs_out hnp]
      · rw [tr_alt hn ho ha hb hx hy]; simp [endsT, D.ends, ends_out hnp]
    · have hnp := not_pos F hn (.inr hk) D.inn
      refine ⟨hi, fun q => ?_, ?_⟩
      · rw [tr_alt hn ho ha hb hx hy]; simp [pairsT, D.pairs, pairs_out hnp]
      · rw [tr_alt hn ho ha hb hx hy]; simp [endsT, D.ends, ends_out hnp]
  | star ho s x ha hb hx =>
    have hk := kids_star ho ha
    rw [hk] at hp
    simp only [List.mem_cons, List.not_mem_nil, or_false] at hp
    subst hp
    refine ⟨hi, fun q => ?_, ?_⟩
    · rw [tr_star hn ho ha hx]; simp [pairsT, D.pairs, D.ends]
    · rw [tr_star hn ho ha hx]; simp [endsT, D.ends]

theorem Dead.top (F : Form l) {at_ part : Nat} (D : Dead l at_ part) {root : Nat} (h : In l root part) : Dead l at_ root := by
  induction h with
  | refl => exact D
  | step _ hn hj ih => exact ih (D.up F hn hj)

theorem dead_of_void {at_ up : Nat} (hi : In l up at_) (hv : aliveT (tr l up) = false) : Dead l at_ up :=
  ⟨hi, fun q => pairs_false hv _ q, ends_false hv _⟩

/-- Each node is the last one, or a part of another one. -/
theorem parent (F : Form l) {j : Nat} (hj : j + 1 < l.length) : ∃ i n, l[i]? = some n ∧ j ∈ kids n ∧ j < i := by
  have h := F.one j hj
  have : 0 < (l.flatMap kids).count j := by unfold uses at h; omega
  obtain ⟨n, hn, hk⟩ := List.mem_flatMap.1 (List.count_pos_iff.1 this)
  obtain ⟨i, hi⟩ := List.getElem?_of_mem hn
  exact ⟨i, n, hi, hk, kids_lt (F.kind hi) hk⟩

theorem in_root (F : Form l) {j : Nat} (hj : j < l.length) : In l (l.length - 1) j := by
  induction hm : l.length - j using Nat.strongRecOn generalizing j with
  | _ m ih =>
  subst hm
  by_cases h : j + 1 < l.length
  · obtain ⟨i, n, hi, hk, hlt⟩ := parent F h
    exact .step (ih (l.length - i) (by omega) (lt_of_some hi) rfl) hi hk
  · have : l.length - 1 = j := by omega
    rw [this]; exact .refl

theorem root_top (F : Form l) {i : Nat} {n : Nd} (hn : l[i]? = some n) : l.length - 1 ∉ kids n := by
  intro h
  have h1 := kids_lt (F.kind hn) h
  have h2 := lt_of_some hn
  omega

end
end Go.Rx
namespace Go.Rx

/-- The lowest bit of a word that is not 0. -/
def tz (w : Nat) : Nat := if _h : w = 0 then 0 else if w % 2 = 1 then 0 else tz (w / 2) + 1
termination_by w
decreasing_by omega

theorem tz_odd {w : Nat} (h : w % 2 = 1) : tz w = 0 := by
  rw [tz, dif_neg (by omega), if_pos h]
theorem tz_even {w : Nat} (h0 : w ≠ 0) (h : w % 2 = 0) : tz w = tz (w / 2) + 1 := by
  rw [tz, dif_neg h0, if_neg (by omega)]

theorem low_bit {w : Nat} (h0 : w ≠ 0) (j : Nat) : (w.testBit j && !(w - 1).testBit j) = (j == tz w) := by
  induction w using Nat.strongRecOn generalizing j with
  | _ w ih =>
  rcases Nat.mod_two_eq_zero_or_one w with h | h
  · rw [tz_even h0 h]
    cases j with
    | zero => simp only [Nat.testBit_zero, h]; simp
    | succ j =>
      have hh := ih (w / 2) (by omega) (by omega) j
      rw [Nat.testBit_succ, Nat.testBit_succ, show (w - 1) / 2 = w / 2 - 1 by omega, hh]
      rw [Bool.eq_iff_iff]; simp only [beq_iff_eq, Nat.add_right_cancel_iff]
  · rw [tz_odd h]
    cases j with
    | zero => simp only [Nat.testBit_zero, h, show (w - 1) % 2 = 0 by omega]; simp
    | succ j =>
      rw [Nat.testBit_succ, Nat.testBit_succ, show (w - 1) / 2 = w / 2 by omega]
      simp

theorem tz_bit {w : Nat} (h0 : w ≠ 0) : w.testBit (tz w) = true := by
  have := low_bit h0 (tz w)
  simp only [BEq.rfl, Bool.and_eq_true] at this
  exact this.1

theorem drop_low {w : Nat} (h0 : w ≠ 0) (j : Nat) : (w &&& (w - 1)).testBit j = (w.testBit j && !(j == tz w)) := by
  rw [Nat.testBit_and, ← low_bit h0 j]
  cases w.testBit j <;> cases (w - 1).testBit j <;> rfl

theorem tz_lt {w n : Nat} (h0 : w ≠ 0) (h : w < 2 ^ n) : tz w < n := by
  rcases Nat.lt_or_ge (tz w) n with k | k
  · exact k
  · have := Nat.testBit_lt_two_pow (Nat.lt_of_lt_of_le h (Nat.pow_le_pow_right (by omega) k))
    rw [tz_bit h0] at this
    cases this

theorem low_alone {w : Nat} (h0 : w ≠ 0) (h : w < 2 ^ 64) : w &&& (2 ^ 64 - w) = 2 ^ tz w := by
  refine Nat.eq_of_testBit_eq fun j => ?_
  rw [Nat.testBit_and, show 2 ^ 64 - w = 2 ^ 64 - ((w - 1) + 1) by omega, Nat.testBit_two_pow_sub_succ (by omega), Nat.testBit_two_pow]
  have hl := low_bit h0 j
  by_cases hj : j < 64
  · simp only [hj, decide_true, Bool.true_and, hl]
    rw [Bool.eq_iff_iff]; simp only [beq_iff_eq, decide_eq_true_eq]; exact eq_comm
  · have := tz_lt h0 h
    simp only [hj, decide_false, Bool.false_and, Bool.and_false]
    rw [eq_comm, decide_eq_false_iff_not]; omega

theorem and_pred_lt {w : Nat} (h0 : w ≠ 0) : w &&& (w - 1) < w := by
  have := Nat.and_le_right (n := w) (m := w - 1)
  omega

/-- The bits of a word, lowest first. -/
def bitsL (w : Nat) : List Nat := if h : w = 0 then [] else tz w :: bitsL (w &&& (w - 1))
termination_by w
decreasing_by exact and_pred_lt h

theorem bitsL_zero : bitsL 0 = [] := by rw [bitsL]; rfl
theorem bitsL_next {w : Nat} (h0 : w ≠ 0) : bitsL w = tz w :: bitsL (w &&& (w - 1)) := by rw [bitsL, dif_neg h0]

theorem mem_bitsL (w j : Nat) : j ∈ bitsL w ↔ w.testBit j = true := by
  induction w using Nat.strongRecOn with
  | _ w ih =>
  by_cases h0 : w = 0
  · subst h0; simp [bitsL_zero]
  · rw [bitsL_next h0, List.mem_cons, ih _ (and_pred_lt h0), drop_low h0]
    simp only [Bool.and_eq_true, Bool.not_eq_true', beq_eq_false_iff_ne, ne_eq]
    refine ⟨?_, fun h => ?_⟩
    · rintro (rfl | h)
      · exact tz_bit h0
      · exact h.1
    · by_cases e : j = tz w
      · exact .inl e
      · exact .inr ⟨h, e⟩

theorem tz_le {w : Nat} (h0 : w ≠ 0) {j : Nat} (hj : w.testBit j = true) : tz w ≤ j := by
  induction w using Nat.strongRecOn generalizing j with
  | _ w ih =>
  rcases Nat.mod_two_eq_zero_or_one w with h | h
  · rw [tz_even h0 h]
    cases j with
    | zero => rw [Nat.testBit_zero, h] at hj; cases hj
    | succ j =>
      rw [Nat.testBit_succ] at hj
      have := ih (w / 2) (by omega) (by omega) hj
      omega
  · rw [tz_odd h]; omega

theorem bitsL_len_tz {w n : Nat} (h0 : w ≠ 0) (h : w < 2 ^ n) : (bitsL w).length + tz w ≤ n := by
  induction w using Nat.strongRecOn with
  | _ w ih =>
  have hl := tz_lt h0 h
  rw [bitsL_next h0, List.length_cons]
  by_cases h1 : w &&& (w - 1) = 0
  · rw [h1, bitsL_zero, List.length_nil]; omega
  · have hlt := and_pred_lt h0
    have hi := ih _ hlt h1 (by omega)
    have hb := tz_bit h1
    rw [drop_low h0] at hb
    simp only [Bool.and_eq_true, Bool.not_eq_true', beq_eq_false_iff_ne, ne_eq] at hb
    have := tz_le h0 hb.1
    omega

theorem bitsL_len {w n : Nat} (h : w < 2 ^ n) : (bitsL w).length ≤ n := by
  by_cases h0 : w = 0
  · subst h0; rw [bitsL_zero]; exact Nat.zero_le _
  · have := bitsL_len_tz h0 h; omega

/-- The mask of the places below a bound that are of a kind. -/
def maskOf : Nat → (Nat → Bool) → Nat
  | 0, _ => 0
  | n + 1, f => if f n then maskOf n f ||| 1 <<< n else maskOf n f

theorem bit_maskOf (n : Nat) (f : Nat → Bool) (q : Nat) : (maskOf n f).testBit q = (decide (q < n) && f q) := by
  induction n with
  | zero => simp [maskOf]
  | succ n ih =>
    have hs : (maskOf (n + 1) f).testBit q = ((decide (q < n) && f q) || (f n && (n == q))) := by
      rw [maskOf]
      cases f n with
      | true => simp only [if_true, Nat.testBit_or, ih, bit_one, Bool.true_and]
      | false => simp [ih]
    rw [hs]
    by_cases hq : n = q
    · subst hq; simp
    · have : decide (q < n + 1) = decide (q < n) := by rw [decide_eq_decide]; omega
      rw [this]; simp [hq]

/-- The places that may stand right behind a place. -/
def nextM (l : List Nd) (p : Nat) : Nat := maskOf l.length (pairsT (tr l (l.length - 1)) p)

theorem bit_nextM {l : List Nd} (F : Form l) (p q : Nat) : (nextM l p).testBit q = pairsT (tr l (l.length - 1)) p q := by
  rw [nextM, bit_maskOf]
  cases h : pairsT (tr l (l.length - 1)) p q with
  | false => simp
  | true =>
    have hl : l.length ≠ 0 := fun e => F.ne (List.length_eq_zero_iff.1 e)
    have := pos_lt F (i := l.length - 1) (by omega) (pos_of_pairs h).2
    simp [this]

theorem next_of_climb {l : List Nd} (F : Form l) {p out : Nat} (C : Climb l p (l.length - 1) out) : out = nextM l p :=
  Nat.eq_of_testBit_eq fun q => by rw [C.out, bit_nextM F]
theorem next_of_dead {l : List Nd} (F : Form l) {p : Nat} (D : Dead l p (l.length - 1)) : 0 = nextM l p :=
  Nat.eq_of_testBit_eq fun q => by rw [Nat.zero_testBit, bit_nextM F, D.pairs]
theorem next_of_none {l : List Nd} (F : Form l) {p : Nat} (h : ∀ n, l[p]? = some n → n.op ≠ 2) : 0 = nextM l p := by
  refine Nat.eq_of_testBit_eq fun q => ?_
  rw [Nat.zero_testBit, bit_nextM F, pairs_out]
  intro hp
  have key : ∀ i, p ∈ posT (tr l i) → ∃ n, l[p]? = some n ∧ n.op = 2 := by
    intro i
    induction i using Nat.strongRecOn with
    | _ i ih =>
    intro hp
    cases hn : l[i]? with
    | none => rw [tr, hn] at hp; cases hp
    | some n =>
      cases F.kind hn with
      | none ho => rw [tr_none hn ho] at hp; cases hp
      | empty ho => rw [tr_empty hn ho] at hp; cases hp
      | sym ho =>
        rw [tr_sym hn ho] at hp
        simp only [posT, List.mem_cons, List.not_mem_nil, or_false] at hp
        subst hp; exact ⟨n, hn, ho⟩
      | cat ho s x y a b hx hy =>
        rw [tr_cat hn ho a b hx hy] at hp
        simp only [posT, List.mem_append] at hp
        exact hp.elim (ih x hx) (ih y hy)
      | alt ho s x y a b hx hy =>
        rw [tr_alt hn ho a b hx hy] at hp
        simp only [posT, List.mem_append] at hp
        exact hp.elim (ih x hx) (ih y hy)
      | star ho s x a b hx => rw [tr_star hn ho a hx] at hp; exact ih x hx hp
  obtain ⟨n, hn, ho⟩ := key _ hp
  exact h n hn ho

theorem nextM_lt (l : List Nd) (p : Nat) : nextM l p < 2 ^ l.length := by
  refine Nat.lt_pow_two_of_testBit _ fun i hi => ?_
  rw [nextM, bit_maskOf]
  simp only [show ¬ i < l.length by omega, decide_false, Bool.false_and]

/-- One word more: the places that may stand behind it. -/
def stepM (l : List Nd) (w : ByteArray) (acc : Nat) : List Nat → Nat
  | [] => acc
  | p :: ps => stepM l w (if symAt l p = w then acc ||| nextM l p else acc) ps

theorem bit_stepM {l : List Nd} (F : Form l) (w : ByteArray) (ps : List Nat) (acc q : Nat) :
    (stepM l w acc ps).testBit q = true ↔ acc.testBit q = true ∨ ∃ p, p ∈ ps ∧ symAt l p = w ∧ pairsT (tr l (l.length - 1)) p q = true := by
  induction ps generalizing acc with
  | nil => simp [stepM]
  | cons p ps ih =>
    rw [stepM, ih]
    by_cases h : symAt l p = w
    · rw [if_pos h, Nat.testBit_or, bit_nextM F, Bool.or_eq_true]
      constructor
      · rintro ((h1 | h1) | ⟨r, hr, h2⟩)
        · exact .inl h1
        · exact .inr ⟨p, by simp, h, h1⟩
        · exact .inr ⟨r, by simp [hr], h2⟩
      · rintro (h1 | ⟨r, hr, h2⟩)
        · exact .inl (.inl h1)
        · rcases List.mem_cons.1 hr with rfl | hr
          · exact .inl (.inr h2.2)
          · exact .inr ⟨r, hr, h2⟩
    · rw [if_neg h]
      constructor
      · rintro (h1 | ⟨r, hr, h2⟩)
        · exact .inl h1
        · exact .inr ⟨r, by simp [hr], h2⟩
      · rintro (h1 | ⟨r, hr, h2⟩)
        · exact .inl h1
        · rcases List.mem_cons.1 hr with rfl | hr
          · exact (h h2.1).elim
          · exact .inr ⟨r, hr, h2⟩

def comeM (l : List Nd) : Nat → List ByteArray → Nat
  | m, [] => m
  | m, w :: ws => comeM l (stepM l w 0 (bitsL m)) ws

theorem bit_comeM {l : List Nd} (F : Form l) (ws : List ByteArray) (m : Nat) (c : Nat → Prop) (hc : ∀ p, m.testBit p = true ↔ c p) (q : Nat) :
    (comeM l m ws).testBit q = true ↔ comeT (tr l (l.length - 1)) (symAt l) c ws q := by
  induction ws generalizing m c with
  | nil => exact hc q
  | cons w ws ih =>
    rw [comeM]
    refine (ih _ _ fun p => ?_)
    rw [bit_stepM F]
    simp only [Nat.zero_testBit, Bool.false_eq_true, false_or, mem_bitsL, hc]

/-- Whether words match, as the program has it. -/
def lastM (l : List Nd) (m : Nat) (w : ByteArray) : Bool :=
  (bitsL m).any fun p => decide (symAt l p = w) && endsT (tr l (l.length - 1)) p

theorem match_of_masks {l : List Nd} (F : Form l) (ws : List ByteArray) (w : ByteArray) :
    lastM l (comeM l (factT (tr l (l.length - 1))).first ws) w = matchT (tr l (l.length - 1)) (ws ++ [w]) := by
  rw [Bool.eq_iff_iff, matchT_iff_come (tr_told F _) (tr_lin F _)]
  simp only [lastM, List.any_eq_true, mem_bitsL, Bool.and_eq_true, decide_eq_true_eq]
  simp only [bit_comeM F ws _ (fun p => startsT (tr l (l.length - 1)) p = true) (fun p => by rw [fact_first])]

theorem stepM_lt {l : List Nd} (w : ByteArray) (ps : List Nat) {acc n : Nat} (hn : l.length ≤ n) (h : acc < 2 ^ n) : stepM l w acc ps < 2 ^ n := by
  induction ps generalizing acc with
  | nil => exact h
  | cons p ps ih =>
    rw [stepM]
    refine ih ?_
    split
    · exact or_lt h (Nat.lt_of_lt_of_le (nextM_lt l p) (Nat.pow_le_pow_right (by omega) hn))
    · exact h

end Go.Rx
namespace Go.Rx

def kidsAt (l : List Nd) (i : Nat) : List Nat := (l[i]?.map kids).getD []
theorem kidsAt_of {l : List Nd} {i : Nat} {n : Nd} (h : l[i]? = some n) : kidsAt l i = kids n := by simp [kidsAt, h]

/-- What the program has as the one above a node, when k nodes have been looked at. -/
def up (l : List Nd) : Nat → Nat → Int
  | 0, j => if j + 1 = l.length then -1 else 0
  | k + 1, j => if j ∈ kidsAt l k then (k : Int) else up l k j

section
variable {l : List Nd}
theorem up_top (F : Form l) (k : Nat) : up l k (l.length - 1) = -1 := by
  induction k with
  | zero =>
    have : l.length ≠ 0 := fun e => F.ne (List.length_eq_zero_iff.1 e)
    rw [up, if_pos (by omega)]
  | succ k ih =>
    rw [up, if_neg, ih]
    intro h
    unfold kidsAt at h
    cases hn : l[k]? with
    | none => simp [hn] at h
    | some n => simp [hn] at h; exact root_top F hn h
theorem up_of (F : Form l) {i : Nat} {n : Nd} (hn : l[i]? = some n) {j : Nat} (hj : j ∈ kids n) (k : Nat) (hk : i < k) : up l k j = i := by
  induction k with
  | zero => omega
  | succ k ih =>
    rw [up]
    by_cases e : j ∈ kidsAt l k
    · rw [if_pos e]
      unfold kidsAt at e
      cases hm : l[k]? with
      | none => simp [hm] at e
      | some m => simp [hm] at e; rw [par_unique F hn hm hj e]
    · rw [if_neg e]
      refine ih ?_
      by_cases h : i = k
      · subst h; rw [kidsAt_of hn] at e; exact (e hj).elim
      · omega
/-- Above each node stands the one of which it is a part, or -1. -/
theorem up_cases (F : Form l) {j : Nat} (hj : j < l.length) : (j = l.length - 1 ∧ up l l.length j = -1) ∨ ∃ i n, l[i]? = some n ∧ j ∈ kids n ∧ j < i ∧ up l l.length j = i := by
  by_cases h : j + 1 < l.length
  · obtain ⟨i, n, hi, hk, hlt⟩ := parent F h
    exact .inr ⟨i, n, hi, hk, hlt, up_of F hi hk _ (lt_of_some hi)⟩
  · have e : j = l.length - 1 := by omega
    exact .inl ⟨e, by rw [e]; exact up_top F _⟩

/-- One step up, whatever the node is. -/
theorem climb_up (F : Form l) {at_ part out u : Nat} (C : Climb l at_ part out) {n : Nd} (hn : l[u]? = some n) (hk : part ∈ kids n) (hv : aliveT (tr l u) = true) :
    (endsT (tr l part) at_ = false → Climb l at_ u out) ∧
    (endsT (tr l part) at_ = true →
      (n.op = 3 → n.a = part → ∃ y : Nat, n.b = y ∧ y < u ∧ Climb l at_ u (out ||| (factT (tr l y)).first)) ∧
      (n.op = 3 → n.a ≠ part → Climb l at_ u out) ∧
      (n.op = 5 → Climb l at_ u (out ||| (factT (tr l part)).first)) ∧
      (n.op ≠ 3 → n.op ≠ 5 → Climb l at_ u out)) := by
  cases F.kind hn with
  | none h => rw [kids_leaf (.inl h)] at hk; cases hk
  | empty h => rw [kids_leaf (.inr (.inl h))] at hk; cases hk
  | sym h => rw [kids_leaf (.inr (.inr h))] at hk; cases hk
  | cat ho s x y ha hb hx hy =>
    have hkk := kids_cat (.inl ho) ha hb
    rw [hkk] at hk
    simp only [List.mem_cons, List.not_mem_nil, or_false] at hk
    have hne := kids_apart F hn hkk
    rcases hk with rfl | rfl
    · have h1 := C.cat_left F hn ho ha hb hy hx hv
      refine ⟨fun e => by rw [e] at h1; simpa using h1, fun e => ?_⟩
      rw [e] at h1
      exact ⟨fun _ _ => ⟨y, hb, hy, by simpa using h1⟩, fun _ h => (h ha).elim, fun h => by omega, fun h => (h ho).elim⟩
    · have h1 := C.cat_right F hn ho ha hb hx hy hv
      exact ⟨fun _ => h1, fun _ => ⟨fun _ h => by omega, fun _ _ => h1, fun h => by omega, fun h => (h ho).elim⟩⟩
  | alt ho s x y ha hb hx hy =>
    have hkk := kids_cat (.inr ho) ha hb
    rw [hkk] at hk
    simp only [List.mem_cons, List.not_mem_nil, or_false] at hk
    have h1 := C.alt F hn ho ha hb hx hy hk
    exact ⟨fun _ => h1, fun _ => ⟨fun h => by omega, fun h => by omega, fun h => by omega, fun _ _ => h1⟩⟩
  | star ho s x ha hb hx =>
    have hkk := kids_star ho ha
    rw [hkk] at hk
    simp only [List.mem_cons, List.not_mem_nil, or_false] at hk
    subst hk
    have h1 := C.star hn ho ha hx
    refine ⟨fun e => by rw [e] at h1; simpa using h1, fun e => ?_⟩
    rw [e] at h1
    exact ⟨fun h => by omega, fun h => by omega, fun _ => by simpa using h1, fun _ h => (h ho).elim⟩

theorem dead_next (F : Form l) {at_ u part : Nat} (hi : In l part at_) {n : Nd} (hn : l[u]? = some n) (hk : part ∈ kids n) (hv : aliveT (tr l u) = false) : 0 = nextM l at_ := by
  have hl := lt_of_some hn
  have hu : In l u at_ := In.trans (.step .refl hn hk) hi
  exact next_of_dead F ((dead_of_void hu hv).top F (in_root F hl))
end
end Go.Rx
namespace Go.Rx

def isBl (c : UInt8) : Bool := decide (c.toNat = 9) || decide (c.toNat = 10) || decide (c.toNat = 13) || decide (c.toNat = 32)
def isLe (c : Nat) : Bool := (decide (97 ≤ c) && decide (c ≤ 122)) || (decide (65 ≤ c) && decide (c ≤ 90)) || decide (c = 95)
def isIn (c : Nat) : Bool := isLe c || (decide (48 ≤ c) && decide (c ≤ 57)) || decide (c = 45) || decide (c = 46)
/-- A word. -/
def nmB (w : List UInt8) : Bool := decide (1 ≤ w.length) && decide (w.length ≤ 64) && (match w with | c :: _ => isLe c.toNat | [] => false) && w.all fun c => isIn c.toNat

/-- Behind blanks. -/
def sk (r : List UInt8) : List UInt8 := r.dropWhile isBl
theorem sk_nil : sk [] = [] := rfl
theorem sk_cons {c : UInt8} {r : List UInt8} (h : isBl c = false) : sk (c :: r) = c :: r := by simp [sk, h]
theorem sk_bl {c : UInt8} {r : List UInt8} (h : isBl c = true) : sk (c :: r) = sk r := by simp [sk, h]
theorem sk_head {c : UInt8} {r q : List UInt8} (h : sk r = c :: q) : isBl c = false := by
  induction r with
  | nil => cases h
  | cons d r ih =>
    cases hd : isBl d with
    | true => rw [sk_bl hd] at h; exact ih h
    | false => rw [sk_cons hd] at h; cases h; exact hd
theorem sk_sk (r : List UInt8) : sk (sk r) = sk r := by
  cases h : sk r with
  | nil => rfl
  | cons c q => exact sk_cons (sk_head h)
theorem sk_suffix (r : List UInt8) : sk r <:+ r := List.dropWhile_suffix _

/-! ### nodes put together -/
def mv (by_ : Nat) (n : Nd) : Nd :=
  if n.op = 3 ∨ n.op = 4 then { n with a := n.a + by_, b := n.b + by_ } else if n.op = 5 then { n with a := n.a + by_ } else n
def nd0 : Nd := ⟨0, nil8, 0, 0⟩
def nd1 : Nd := ⟨1, nil8, 0, 0⟩
def nd2 (s : ByteArray) : Nd := ⟨2, s, 0, 0⟩
def two (op : Int) (a b : List Nd) : List Nd := a ++ b.map (mv a.length) ++ [⟨op, nil8, (a.length : Int) - 1, ((a.length + b.length : Nat) : Int) - 1⟩]
def manyL (a : List Nd) : List Nd := a ++ [⟨5, nil8, (a.length : Int) - 1, 0⟩]
def foldN (op : Int) : List (List Nd) → List Nd
  | [] => []
  | l :: ls => ls.foldl (two op) l
theorem foldN_snoc (op : Int) (ls : List (List Nd)) (h : ls ≠ []) (x : List Nd) : foldN op (ls ++ [x]) = two op (foldN op ls) x := by
  cases ls with
  | nil => exact absurd rfl h
  | cons l ls => simp [foldN, List.foldl_append]
theorem two_len (op : Int) (a b : List Nd) : (two op a b).length = a.length + b.length + 1 := by simp [two]; omega
theorem manyL_len (a : List Nd) : (manyL a).length = a.length + 1 := by simp [manyL]

/-! ### reading -/
/-- A part of nodes stands at the head of what is to be read; behind it there is still the other. -/
abbrev Part := List UInt8 → List Nd → List UInt8 → Prop

/-- Parts, with a mark between each two. -/
inductive Parts (c : UInt8) (P : Part) : List UInt8 → List (List Nd) → List UInt8 → Prop where
  | last {r l q} : P r l q → (sk q).head? ≠ some c → Parts c P r [l] (sk q)
  | more {r l q q' ls r'} : P r l q → sk q = c :: q' → Parts c P q' ls r' → Parts c P r (l :: ls) r'
def RowOf (c : UInt8) (op : Int) (P : Part) : Part := fun r l r' => ∃ ls, Parts c P r ls r' ∧ l = foldN op ls ∧ l.length ≤ 1024

/-- The marks behind an atom. -/
inductive Marks : List Nd → List UInt8 → List Nd → List UInt8 → Prop where
  | done {l r} : (sk r).head? ≠ some 42 → (sk r).head? ≠ some 43 → (sk r).head? ≠ some 63 → Marks l r l (sk r)
  | star {l r q l' r'} : sk r = 42 :: q → l.length + 1 ≤ 1024 → Marks (manyL l) q l' r' → Marks l r l' r'
  | opt {l r q l' r'} : sk r = 63 :: q → l.length + 2 ≤ 1024 → Marks (two 4 l [nd1]) q l' r' → Marks l r l' r'
def ItemOf (P : Part) : Part := fun r l r' => ∃ l0 q, P r l0 q ∧ Marks l0 q l r'
def SeqOf (P : Part) : Part := RowOf 44 3 (ItemOf P)
def ExprOf (P : Part) : Part := RowOf 124 4 (SeqOf P)

/-- A word stands at the head. -/
def WordAt (r : List UInt8) (w : List UInt8) (r' : List UInt8) : Prop := r = w ++ r' ∧ nmB w = true ∧ ∀ c q, r' = c :: q → isIn c.toNat = false

def AtomD : Nat → Part
  | 0 => fun _ _ _ => False
  | n + 1 => fun r l r' =>
    (sk r = 33 :: r' ∧ l = [nd0]) ∨
    (∃ q, sk r = 40 :: q ∧ sk q = 41 :: r' ∧ l = [nd1]) ∨
    (∃ q q', sk r = 40 :: q ∧ (sk q).head? ≠ some 41 ∧ ExprOf (AtomD n) (sk q) l q' ∧ sk q' = 41 :: r') ∨
    (∃ w, WordAt (sk r) w r' ∧ l = [nd2 ⟨w.toArray⟩])

/-! ### texts -/
def isA : RT ByteArray → Bool | .alt _ _ => true | _ => false
def isC : RT ByteArray → Bool | .cat _ _ => true | _ => false
def par (b : Bool) (x : List UInt8) : List UInt8 := if b then 40 :: (x ++ [41]) else x
def txt : RT ByteArray → List UInt8
  | .none => [33]
  | .empty => [40, 41]
  | .sym _ s => s.data.toList
  | .cat a b => par (isA a) (txt a) ++ 44 :: par (isA b || isC b) (txt b)
  | .alt a b => txt a ++ 124 :: par (isA b) (txt b)
  | .star a => par (isA a || isC a) (txt a) ++ [42]

def sizeT : RT ByteArray → Nat
  | .none => 1
  | .empty => 1
  | .sym _ _ => 1
  | .cat a b => sizeT a + sizeT b + 1
  | .alt a b => sizeT a + sizeT b + 1
  | .star a => sizeT a + 1

/-- The nodes of a tree, as reading its text puts them. -/
def post : RT ByteArray → List Nd
  | .none => [nd0]
  | .empty => [nd1]
  | .sym _ s => [nd2 s]
  | .cat a b => two 3 (post a) (post b)
  | .alt a b => two 4 (post a) (post b)
  | .star a => manyL (post a)

/-- All words of a tree are words. -/
def okT : RT ByteArray → Prop
  | .none => True
  | .empty => True
  | .sym _ s => nmB s.data.toList = true
  | .cat a b => okT a ∧ okT b
  | .alt a b => okT a ∧ okT b
  | .star a => okT a

theorem post_len (t : RT ByteArray) : (post t).length = sizeT t := by
  induction t with
  | none => rfl
  | empty => rfl
  | sym _ _ => rfl
  | cat a b iha ihb => simp [post, sizeT, two_len, iha, ihb]
  | alt a b iha ihb => simp [post, sizeT, two_len, iha, ihb]
  | star a ih => simp [post, sizeT, manyL_len, ih]
theorem size_pos (t : RT ByteArray) : 0 < sizeT t := by cases t <;> simp [sizeT]

/-- The parts of a sequence, of an expression. -/
def partsS : RT ByteArray → List (List Nd)
  | .cat a b => partsS a ++ [post b]
  | t => [post t]
def partsE : RT ByteArray → List (List Nd)
  | .alt a b => partsE a ++ [post b]
  | t => [post t]
theorem partsS_ne (t : RT ByteArray) : partsS t ≠ [] := by cases t <;> simp [partsS]
theorem partsE_ne (t : RT ByteArray) : partsE t ≠ [] := by cases t <;> simp [partsE]
theorem fold_partsS (t : RT ByteArray) : foldN 3 (partsS t) = post t := by
  induction t with
  | cat a b iha _ => rw [partsS, foldN_snoc _ _ (partsS_ne a), iha]; rfl
  | _ => rfl
theorem fold_partsE (t : RT ByteArray) : foldN 4 (partsE t) = post t := by
  induction t with
  | alt a b iha _ => rw [partsE, foldN_snoc _ _ (partsE_ne a), iha]; rfl
  | _ => rfl

/-! ### the text of a tree is read as its nodes -/
/-- The bytes with which a tree's text may begin. -/
def headB (c : UInt8) : Bool := decide (c.toNat = 33) || decide (c.toNat = 40) || isLe c.toNat
theorem headB_le {c : UInt8} (h : isLe c.toNat = true) : headB c = true := by simp [headB, h]
theorem isBl_of_head {c : UInt8} (h : headB c = true) : isBl c = false := by
  simp only [headB, isLe, isBl, Bool.or_eq_true, Bool.and_eq_true, decide_eq_true_eq, Bool.or_eq_false_iff, decide_eq_false_iff_not] at h ⊢
  omega

theorem nm_head {w : List UInt8} (h : nmB w = true) : ∃ c q, w = c :: q ∧ isLe c.toNat = true := by
  cases w with
  | nil => simp [nmB] at h
  | cons c q => refine ⟨c, q, rfl, ?_⟩; simp only [nmB, Bool.and_eq_true] at h; exact h.1.2

theorem txt_head {t : RT ByteArray} (h : okT t) : ∃ c q, txt t = c :: q ∧ headB c = true := by
  induction t with
  | none => exact ⟨33, [], rfl, rfl⟩
  | empty => exact ⟨40, [41], rfl, rfl⟩
  | sym _ s => obtain ⟨c, q, e, hc⟩ := nm_head h; exact ⟨c, q, e, headB_le hc⟩
  | cat a b iha _ =>
    obtain ⟨c, q, e, hc⟩ := iha h.1
    rw [txt]
    cases isA a with
    | true => exact ⟨40, _, rfl, rfl⟩
    | false => exact ⟨c, q ++ _, by simp only [par, e]; rfl, hc⟩
  | alt a b iha _ =>
    obtain ⟨c, q, e, hc⟩ := iha h.1
    exact ⟨c, q ++ _, by rw [txt, e]; rfl, hc⟩
  | star a ih =>
    obtain ⟨c, q, e, hc⟩ := ih h
    rw [txt]
    cases isA a || isC a with
    | true => exact ⟨40, _, rfl, rfl⟩
    | false => exact ⟨c, q ++ [42], by simp only [par, e]; rfl, hc⟩

theorem sk_txt {t : RT ByteArray} (h : okT t) (r : List UInt8) : sk (txt t ++ r) = txt t ++ r := by
  obtain ⟨c, q, e, hc⟩ := txt_head h
  rw [e]; exact sk_cons (isBl_of_head hc)

/-- What may stand behind an item; behind an atom; behind a sequence. -/
def Fol (r : List UInt8) : Prop := ∀ c q, r = c :: q → c = 44 ∨ c = 124 ∨ c = 41
def FolS (r : List UInt8) : Prop := ∀ c q, r = c :: q → c = 44 ∨ c = 124 ∨ c = 41 ∨ c = 42
def FolE (r : List UInt8) : Prop := ∀ c q, r = c :: q → c = 124 ∨ c = 41
theorem Fol.s {r : List UInt8} (h : Fol r) : FolS r := fun c q e => by rcases h c q e with h | h | h <;> simp [h]
theorem FolE.i {r : List UInt8} (h : FolE r) : Fol r := fun c q e => .inr (h c q e)
theorem FolS.sk {r : List UInt8} (h : FolS r) : sk r = r := by
  cases r with
  | nil => rfl
  | cons c q => exact sk_cons (by rcases h c q rfl with rfl | rfl | rfl | rfl <;> rfl)
theorem Fol.done {r : List UInt8} (h : Fol r) (l : List Nd) : Marks l r l r := by
  have e := h.s.sk
  have := Marks.done (l := l) (r := r)
  rw [e] at this
  refine this ?_ ?_ ?_ <;>
  · cases r with
    | nil => simp
    | cons c q => rcases h c q rfl with rfl | rfl | rfl <;> simp
theorem FolE.head {r : List UInt8} (h : FolE r) : (Rx.sk r).head? ≠ some 44 := by
  rw [h.i.s.sk]
  cases r with
  | nil => simp
  | cons c q => rcases h c q rfl with rfl | rfl <;> simp
theorem FolS.word {r : List UInt8} (h : FolS r) : ∀ c q, r = c :: q → isIn c.toNat = false := fun c q e => by
  rcases h c q e with rfl | rfl | rfl | rfl <;> rfl

/-- Parts go on behind one, or end there. -/
def Tail (c : UInt8) (P : Part) (q : List UInt8) (ls : List (List Nd)) (r' : List UInt8) : Prop :=
  (ls = [] ∧ r' = sk q ∧ (sk q).head? ≠ some c) ∨ ∃ q', sk q = c :: q' ∧ Parts c P q' ls r'
theorem Tail.parts {c : UInt8} {P : Part} {r q r' : List UInt8} {l : List Nd} {ls : List (List Nd)} (h : Tail c P q ls r') (hp : P r l q) : Parts c P r (l :: ls) r' := by
  rcases h with ⟨rfl, rfl, h⟩ | ⟨q', h, k⟩
  · exact .last hp h
  · exact .more hp h k
theorem seq_of_item {P : Part} {r q : List UInt8} {l : List Nd} (h : ItemOf P r l q) (hq : FolE q) (hl : l.length ≤ 1024) : SeqOf P r l q := by
  have := Parts.last (c := 44) h hq.head
  rw [hq.i.s.sk] at this
  exact ⟨[l], this, rfl, hl⟩

structure Reads (t : RT ByteArray) : Prop where
  expr : ∀ n, sizeT t ≤ n → ∀ rest ls' r', FolE rest → Tail 124 (SeqOf (AtomD n)) rest ls' r' → Parts 124 (SeqOf (AtomD n)) (txt t ++ rest) (partsE t ++ ls') r'
  seq : isA t = false → ∀ n, sizeT t ≤ n → ∀ rest ls' r', Fol rest → Tail 44 (ItemOf (AtomD n)) rest ls' r' → Parts 44 (ItemOf (AtomD n)) (txt t ++ rest) (partsS t ++ ls') r'
  item : isA t = false → isC t = false → ∀ n, sizeT t ≤ n → ∀ rest l' r', FolS rest → Marks (post t) rest l' r' → ItemOf (AtomD n) (txt t ++ rest) l' r'

section
variable {t : RT ByteArray}
/-- The whole of a text, as an expression. -/
theorem Reads.whole (h : Reads t) (hs : sizeT t ≤ 1024) {n : Nat} (hn : sizeT t ≤ n) {rest : List UInt8} (hr : ∀ c q, rest = c :: q → c = 41) : ExprOf (AtomD n) (txt t ++ rest) (post t) rest := by
  have hf : FolE rest := fun c q e => .inr (hr c q e)
  refine ⟨partsE t, ?_, (fold_partsE t).symm, by rw [post_len]; exact hs⟩
  have := h.expr n hn rest [] rest hf (.inl ⟨rfl, hf.i.s.sk.symm, ?_⟩)
  · rwa [List.append_nil] at this
  · rw [hf.i.s.sk]
    cases rest with
    | nil => simp
    | cons c q => obtain rfl := hr c q rfl; simp
theorem seq_whole (ha : isA t = false) (hS : ∀ n, sizeT t ≤ n → ∀ rest ls' r', Fol rest → Tail 44 (ItemOf (AtomD n)) rest ls' r' → Parts 44 (ItemOf (AtomD n)) (txt t ++ rest) (partsS t ++ ls') r')
    (hs : sizeT t ≤ 1024) {n : Nat} (hn : sizeT t ≤ n) {rest : List UInt8} (hr : FolE rest) : SeqOf (AtomD n) (txt t ++ rest) (post t) rest := by
  refine ⟨partsS t, ?_, (fold_partsS t).symm, by rw [post_len]; exact hs⟩
  have := hS n hn rest [] rest hr.i (.inl ⟨rfl, hr.i.s.sk.symm, hr.head⟩)
  rwa [List.append_nil] at this
/-- In brackets it is an atom. -/
theorem Reads.atom (h : Reads t) (hok : okT t) (hs : sizeT t ≤ 1024) {n : Nat} (hn : sizeT t + 1 ≤ n) (rest : List UInt8) : AtomD n (par true (txt t) ++ rest) (post t) rest := by
  obtain ⟨m, rfl⟩ : ∃ m, n = m + 1 := ⟨n - 1, by omega⟩
  refine .inr (.inr (.inl ⟨txt t ++ 41 :: rest, 41 :: rest, ?_, ?_, ?_, sk_cons rfl⟩))
  · simp only [par, if_true, List.cons_append, List.append_assoc, List.nil_append]
    exact sk_cons rfl
  · rw [sk_txt hok]
    obtain ⟨c, q, e, hc⟩ := txt_head hok
    rw [e]
    simp only [List.cons_append, List.head?_cons, ne_eq, Option.some.injEq]
    rintro rfl
    cases hc
  · rw [sk_txt hok]
    exact h.whole hs (by omega) (fun c q e => by cases e; rfl)
theorem Reads.itemOf (h : Reads t) (hok : okT t) (hs : sizeT t ≤ 1024) {b : Bool} (hb : b = false → isA t = false ∧ isC t = false) {n : Nat} (hn : sizeT t + 1 ≤ n) {rest r' : List UInt8} (hf : FolS rest) {l : List Nd} (hm : Marks (post t) rest l r') : ItemOf (AtomD n) (par b (txt t) ++ rest) l r' := by
  cases b with
  | true => exact ⟨post t, rest, h.atom hok hs hn rest, hm⟩
  | false => exact h.item (hb rfl).1 (hb rfl).2 n (by omega) rest l r' hf hm

theorem reads_of_seq (hs : sizeT t ≤ 1024) (hA : isA t = false) (hS : ∀ n, sizeT t ≤ n → ∀ rest ls' r', Fol rest → Tail 44 (ItemOf (AtomD n)) rest ls' r' → Parts 44 (ItemOf (AtomD n)) (txt t ++ rest) (partsS t ++ ls') r')
    (hI : isA t = false → isC t = false → ∀ n, sizeT t ≤ n → ∀ rest l' r', FolS rest → Marks (post t) rest l' r' → ItemOf (AtomD n) (txt t ++ rest) l' r') : Reads t := by
  have hPE : partsE t = [post t] := by cases t <;> first | rfl | cases hA
  refine ⟨fun n hn rest ls' r' hf hT => ?_, fun _ => hS, hI⟩
  rw [hPE]
  exact hT.parts (seq_whole hA hS hs hn hf)
theorem reads_of_item (hs : sizeT t ≤ 1024) (hA : isA t = false) (hC : isC t = false) (hI : ∀ n, sizeT t ≤ n → ∀ rest l' r', FolS rest → Marks (post t) rest l' r' → ItemOf (AtomD n) (txt t ++ rest) l' r') : Reads t := by
  have hPS : partsS t = [post t] := by cases t <;> first | rfl | cases hC
  refine reads_of_seq hs hA (fun n hn rest ls' r' hf hT => ?_) (fun _ _ => hI)
  rw [hPS]
  exact hT.parts (hI n hn rest _ _ hf.s (hf.done _))
theorem reads_of_atom (hs : sizeT t ≤ 1024) (hA : isA t = false) (hC : isC t = false) (hI : ∀ n rest, FolS rest → AtomD (n + 1) (txt t ++ rest) (post t) rest) : Reads t := by
  refine reads_of_item hs hA hC fun n hn rest l' r' hf hm => ?_
  obtain ⟨m, rfl⟩ : ∃ m, n = m + 1 := ⟨n - 1, by have := size_pos t; omega⟩
  exact ⟨post t, rest, hI m rest hf, hm⟩
end

theorem reads {t : RT ByteArray} (hok : okT t) (hs : sizeT t ≤ 1024) : Reads t := by
  induction t with
  | none => exact reads_of_atom hs rfl rfl fun n rest _ => .inl ⟨sk_cons rfl, rfl⟩
  | empty => exact reads_of_atom hs rfl rfl fun n rest _ => .inr (.inl ⟨41 :: rest, sk_cons rfl, sk_cons rfl, rfl⟩)
  | sym p s =>
    refine reads_of_atom hs rfl rfl fun n rest hf => .inr (.inr (.inr ⟨s.data.toList, ⟨?_, hok, hf.word⟩, ?_⟩))
    · exact sk_txt (t := .sym p s) hok rest
    · simp [post]
  | cat a b iha ihb =>
    simp only [sizeT] at hs
    have Ra := iha hok.1 (by omega)
    have Rb := ihb hok.2 (by omega)
    refine reads_of_seq (by simp only [sizeT]; omega) rfl (fun n hn rest ls' r' hf hT => ?_) (fun _ h => by cases h)
    simp only [sizeT] at hn
    have hb : ItemOf (AtomD n) (par (isA b || isC b) (txt b) ++ rest) (post b) rest := Rb.itemOf hok.2 (by omega) (fun h => by simpa using h) (by omega) hf.s (hf.done _)
    have hT' : Tail 44 (ItemOf (AtomD n)) (44 :: (par (isA b || isC b) (txt b) ++ rest)) (post b :: ls') r' := .inr ⟨_, sk_cons rfl, hT.parts hb⟩
    have hf' : Fol (44 :: (par (isA b || isC b) (txt b) ++ rest)) := fun c q e => by cases e; exact .inl rfl
    simp only [txt, partsS, List.append_assoc, List.cons_append, List.nil_append]
    cases ha : isA a with
    | false => exact Ra.seq ha n (by omega) _ _ _ hf' hT'
    | true =>
      have hPS : partsS a = [post a] := by cases a <;> first | rfl | cases ha
      rw [hPS]
      exact hT'.parts (Ra.itemOf (b := true) hok.1 (by omega) (fun h => by cases h) (by omega) hf'.s (hf'.done _))
  | alt a b iha ihb =>
    simp only [sizeT] at hs
    have Ra := iha hok.1 (by omega)
    have Rb := ihb hok.2 (by omega)
    refine ⟨fun n hn rest ls' r' hf hT => ?_, fun h => (by cases h), fun h => (by cases h)⟩
    simp only [sizeT] at hn
    have hb : SeqOf (AtomD n) (par (isA b) (txt b) ++ rest) (post b) rest := by
      cases hB : isA b with
      | false => exact seq_whole hB (Rb.seq hB) (by omega) (by omega) hf
      | true => exact seq_of_item (Rb.itemOf (b := true) hok.2 (by omega) (fun h => by cases h) (by omega) hf.i.s (hf.i.done _)) hf (by rw [post_len]; omega)
    simp only [txt, partsE, List.append_assoc, List.cons_append, List.nil_append]
    exact Ra.expr n (by omega) _ _ _ (fun c q e => by cases e; exact .inl rfl) (.inr ⟨_, sk_cons rfl, hT.parts hb⟩)
  | star a ih =>
    simp only [sizeT] at hs
    have Ra := ih hok (by omega)
    refine reads_of_item (by simp only [sizeT]; omega) rfl rfl fun n hn rest l' r' hf hm => ?_
    simp only [sizeT] at hn
    simp only [txt, List.append_assoc, List.cons_append, List.nil_append]
    refine Ra.itemOf hok (by omega) (fun h => by simpa using h) hn (fun c q e => by cases e; simp) (.star (sk_cons rfl) (by rw [post_len]; omega) hm)

/-- A text is read as the nodes of its tree. -/
theorem reads_txt {t : RT ByteArray} (hok : okT t) (hs : sizeT t ≤ 1024) : ExprOf (AtomD 1024) (txt t) (post t) [] := by
  have := (reads hok hs).whole hs hs (rest := []) (fun c q e => by cases e)
  rwa [List.append_nil] at this

end Go.Rx
namespace Go.Rx

theorem Alike.refl : ∀ t : RT ByteArray, Alike t t
  | .none => .none
  | .empty => .empty
  | .sym p s => .sym p p s
  | .cat a b => .cat (Alike.refl a) (Alike.refl b)
  | .alt a b => .alt (Alike.refl a) (Alike.refl b)
  | .star a => .star (Alike.refl a)
theorem Alike.trans {t u v : RT ByteArray} (h : Alike t u) (k : Alike u v) : Alike t v := by
  induction h generalizing v with
  | none => exact k
  | empty => exact k
  | sym p q s => cases k with | sym _ q' _ => exact .sym p q' s
  | cat _ _ iha ihb => cases k with | cat a b => exact .cat (iha a) (ihb b)
  | alt _ _ iha ihb => cases k with | alt a b => exact .alt (iha a) (ihb b)
  | star _ ih => cases k with | star a => exact .star (ih a)
theorem Alike.symm {t u : RT ByteArray} (h : Alike t u) : Alike u t := by
  induction h with
  | none => exact .none
  | empty => exact .empty
  | sym p q s => exact .sym q p s
  | cat _ _ iha ihb => exact .cat iha ihb
  | alt _ _ iha ihb => exact .alt iha ihb
  | star _ ih => exact .star ih
theorem Alike.isA {t u : RT ByteArray} (h : Alike t u) : isA t = isA u := by cases h <;> rfl
theorem Alike.isC {t u : RT ByteArray} (h : Alike t u) : isC t = isC u := by cases h <;> rfl
theorem Alike.txt {t u : RT ByteArray} (h : Alike t u) : txt t = txt u := by
  induction h with
  | none => rfl
  | empty => rfl
  | sym p q s => rfl
  | cat ha hb iha ihb => simp only [Rx.txt, iha, ihb, ha.isA, hb.isA, hb.isC]
  | alt ha hb iha ihb => simp only [Rx.txt, iha, ihb, hb.isA]
  | star ha ih => simp only [Rx.txt, ih, ha.isA, ha.isC]
theorem Alike.post {t u : RT ByteArray} (h : Alike t u) : post t = post u := by
  induction h with
  | none => rfl
  | empty => rfl
  | sym p q s => rfl
  | cat _ _ iha ihb => simp only [Rx.post, iha, ihb]
  | alt _ _ iha ihb => simp only [Rx.post, iha, ihb]
  | star _ ih => simp only [Rx.post, ih]
theorem Alike.ok {t u : RT ByteArray} (h : Alike t u) : okT t → okT u := by
  induction h with
  | none => exact id
  | empty => exact id
  | sym p q s => exact id
  | cat _ _ iha ihb => exact fun h => ⟨iha h.1, ihb h.2⟩
  | alt _ _ iha ihb => exact fun h => ⟨iha h.1, ihb h.2⟩
  | star _ ih => exact ih

theorem txt_len {t : RT ByteArray} (h : okT t) : (txt t).length + 5 ≤ 70 * sizeT t := by
  have hp : ∀ (b : Bool) (x : List UInt8), (par b x).length ≤ x.length + 2 := fun b x => by cases b <;> simp [par]
  induction t with
  | none => simp [txt, sizeT]
  | empty => simp [txt, sizeT]
  | sym p s =>
    simp only [okT, nmB, Bool.and_eq_true, decide_eq_true_eq] at h
    simp only [txt, sizeT]; omega
  | cat a b iha ihb =>
    have := iha h.1; have := ihb h.2
    have h1 := hp (isA a) (txt a); have h2 := hp (isA b || isC b) (txt b)
    simp only [txt, sizeT, List.length_append, List.length_cons]; omega
  | alt a b iha ihb =>
    have := iha h.1; have := ihb h.2
    have h2 := hp (isA b) (txt b)
    simp only [txt, sizeT, List.length_append, List.length_cons]; omega
  | star a ih =>
    have := ih h
    have h2 := hp (isA a || isC a) (txt a)
    simp only [txt, sizeT, List.length_append, List.length_cons, List.length_nil]; omega

def okAll (l : List Nd) : Prop := ∀ i n, l[i]? = some n → okNode i n = true
theorem okAll.kind {l : List Nd} (h : okAll l) {i : Nat} {n : Nd} (hn : l[i]? = some n) : Kind i n := kind_of_ok (h i n hn)

theorem tr_append {a : List Nd} (h : okAll a) (suf : List Nd) {i : Nat} (hi : i < a.length) : tr (a ++ suf) i = tr a i := by
  induction i using Nat.strongRecOn with
  | _ i ih =>
  have hn : a[i]? = some a[i] := List.getElem?_eq_getElem hi
  have hn' : (a ++ suf)[i]? = some a[i] := by rw [List.getElem?_append_left hi]; exact hn
  cases h.kind hn with
  | none ho => rw [tr_none hn ho, tr_none hn' ho]
  | empty ho => rw [tr_empty hn ho, tr_empty hn' ho]
  | sym ho => rw [tr_sym hn ho, tr_sym hn' ho]
  | cat ho s x y a' b' hx hy => rw [tr_cat hn ho a' b' hx hy, tr_cat hn' ho a' b' hx hy, ih x hx (by omega), ih y hy (by omega)]
  | alt ho s x y a' b' hx hy => rw [tr_alt hn ho a' b' hx hy, tr_alt hn' ho a' b' hx hy, ih x hx (by omega), ih y hy (by omega)]
  | star ho s x a' b' hx => rw [tr_star hn ho a' hx, tr_star hn' ho a' hx, ih x hx (by omega)]

theorem mv_op (k : Nat) (n : Nd) : (mv k n).op = n.op := by unfold mv; split <;> (try split) <;> rfl
theorem mv_sym (k : Nat) (n : Nd) : (mv k n).sym = n.sym := by unfold mv; split <;> (try split) <;> rfl
theorem mv_leaf {k : Nat} {n : Nd} (h : n.op = 0 ∨ n.op = 1 ∨ n.op = 2) : mv k n = n := by unfold mv; rw [if_neg (by omega), if_neg (by omega)]
theorem mv_two {k : Nat} {n : Nd} (h : n.op = 3 ∨ n.op = 4) : mv k n = { n with a := n.a + k, b := n.b + k } := by unfold mv; rw [if_pos h]
theorem mv_star {k : Nat} {n : Nd} (h : n.op = 5) : mv k n = { n with a := n.a + k } := by unfold mv; rw [if_neg (by omega), if_pos h]

theorem tr_shift {m : List Nd} (h : okAll m) (pre suf : List Nd) {i : Nat} (hi : i < m.length) : Alike (tr (pre ++ m.map (mv pre.length) ++ suf) (pre.length + i)) (tr m i) := by
  induction i using Nat.strongRecOn with
  | _ i ih =>
  have hn : m[i]? = some m[i] := List.getElem?_eq_getElem hi
  have hn' : (pre ++ m.map (mv pre.length) ++ suf)[pre.length + i]? = some (mv pre.length m[i]) := by
    rw [List.getElem?_append_left (by simp; omega), List.getElem?_append_right (by omega), show pre.length + i - pre.length = i by omega, List.getElem?_map, hn]; rfl
  cases h.kind hn with
  | none ho => rw [tr_none hn ho, tr_none hn' (by rw [mv_op]; exact ho)]; exact .none
  | empty ho => rw [tr_empty hn ho, tr_empty hn' (by rw [mv_op]; exact ho)]; exact .empty
  | sym ho => rw [tr_sym hn ho, tr_sym hn' (by rw [mv_op]; exact ho), mv_sym]; exact .sym _ _ _
  | cat ho s x y a b hx hy =>
    rw [mv_two (.inl ho)] at hn'
    rw [tr_cat hn ho a b hx hy, tr_cat hn' ho (x := pre.length + x) (y := pre.length + y) (by simp only [a]; omega) (by simp only [b]; omega) (by omega) (by omega)]
    exact .cat (ih x hx (by omega)) (ih y hy (by omega))
  | alt ho s x y a b hx hy =>
    rw [mv_two (.inr ho)] at hn'
    rw [tr_alt hn ho a b hx hy, tr_alt hn' ho (x := pre.length + x) (y := pre.length + y) (by simp only [a]; omega) (by simp only [b]; omega) (by omega) (by omega)]
    exact .alt (ih x hx (by omega)) (ih y hy (by omega))
  | star ho s x a b hx =>
    rw [mv_star ho] at hn'
    rw [tr_star hn ho a hx, tr_star hn' ho (x := pre.length + x) (by simp only [a]; omega) (by omega)]
    exact .star (ih x hx (by omega))

theorem okNode_leaf {i : Nat} {n : Nd} (h : n.op = 0 ∨ n.op = 1) (s : n.sym = nil8) (a : n.a = 0) (b : n.b = 0) : okNode i n = true := by
  unfold okNode; rw [if_pos h]; simp [s, a, b]
theorem okNode_sym {i : Nat} {n : Nd} (h : n.op = 2) (a : n.a = 0) (b : n.b = 0) : okNode i n = true := by
  unfold okNode; rw [if_neg (by omega), if_pos h]; simp [a, b]
theorem okNode_two {i : Nat} {n : Nd} (h : n.op = 3 ∨ n.op = 4) (s : n.sym = nil8) (a0 : 0 ≤ n.a) (a1 : n.a < i) (b0 : 0 ≤ n.b) (b1 : n.b < i) : okNode i n = true := by
  unfold okNode; rw [if_neg (by omega), if_neg (by omega), if_pos h]; simp [s, inR, a0, a1, b0, b1]
theorem okNode_star {i : Nat} {n : Nd} (h : n.op = 5) (s : n.sym = nil8) (a0 : 0 ≤ n.a) (a1 : n.a < i) (b : n.b = 0) : okNode i n = true := by
  unfold okNode; rw [if_neg (by omega), if_neg (by omega), if_neg (by omega), if_pos h]; simp [s, inR, a0, a1, b]

theorem ok_mv {i k : Nat} {n : Nd} (h : okNode i n = true) : okNode (k + i) (mv k n) = true := by
  cases kind_of_ok h with
  | none ho s a b => rw [mv_leaf (.inl ho)]; exact okNode_leaf (.inl ho) s a b
  | empty ho s a b => rw [mv_leaf (.inr (.inl ho))]; exact okNode_leaf (.inr ho) s a b
  | sym ho a b => rw [mv_leaf (.inr (.inr ho))]; exact okNode_sym ho a b
  | cat ho s x y a b hx hy => rw [mv_two (.inl ho)]; exact okNode_two (.inl ho) s (by simp only; omega) (by simp only; omega) (by simp only; omega) (by simp only; omega)
  | alt ho s x y a b hx hy => rw [mv_two (.inr ho)]; exact okNode_two (.inr ho) s (by simp only; omega) (by simp only; omega) (by simp only; omega) (by simp only; omega)
  | star ho s x a b hx => rw [mv_star ho]; exact okNode_star ho s (by simp only; omega) (by simp only; omega) b

theorem two_get (op : Int) (a b : List Nd) (i : Nat) : (two op a b)[i]? = if i < a.length then a[i]? else if i < a.length + b.length then (b[i - a.length]?).map (mv a.length) else if i = a.length + b.length then some ⟨op, nil8, (a.length : Int) - 1, ((a.length + b.length : Nat) : Int) - 1⟩ else none := by
  unfold two
  by_cases h1 : i < a.length
  · rw [if_pos h1, List.append_assoc, List.getElem?_append_left h1]
  · rw [if_neg h1, List.append_assoc, List.getElem?_append_right (by omega)]
    by_cases h2 : i < a.length + b.length
    · rw [if_pos h2, List.getElem?_append_left (by simp; omega), List.getElem?_map]
    · rw [if_neg h2, List.getElem?_append_right (by simp; omega)]
      by_cases h3 : i = a.length + b.length
      · rw [if_pos h3, h3]; simp
      · rw [if_neg h3, List.getElem?_eq_none]; simp; omega
theorem many_get (a : List Nd) (i : Nat) : (manyL a)[i]? = if i < a.length then a[i]? else if i = a.length then some ⟨5, nil8, (a.length : Int) - 1, 0⟩ else none := by
  unfold manyL
  by_cases h1 : i < a.length
  · rw [if_pos h1, List.getElem?_append_left h1]
  · rw [if_neg h1, List.getElem?_append_right (by omega)]
    by_cases h3 : i = a.length
    · rw [if_pos h3, h3]; simp
    · rw [if_neg h3, List.getElem?_eq_none]; simp; omega

theorem okAll_two {op : Int} (ho : op = 3 ∨ op = 4) {a b : List Nd} (ha : okAll a) (hb : okAll b) (a0 : 0 < a.length) (b0 : 0 < b.length) : okAll (two op a b) := by
  intro i n hn
  rw [two_get] at hn
  split at hn
  · exact ha i n hn
  · split at hn
    · rename_i h1 h2
      cases hb' : b[i - a.length]? with
      | none => rw [hb'] at hn; cases hn
      | some m =>
        rw [hb'] at hn
        cases hn
        have := ok_mv (k := a.length) (hb _ _ hb')
        rwa [show a.length + (i - a.length) = i by omega] at this
    · split at hn
      · cases hn
        exact okNode_two ho rfl (by simp only; omega) (by simp only; omega) (by simp only; omega) (by simp only; omega)
      · cases hn
theorem okAll_many {a : List Nd} (ha : okAll a) (a0 : 0 < a.length) : okAll (manyL a) := by
  intro i n hn
  rw [many_get] at hn
  split at hn
  · exact ha i n hn
  · split at hn
    · cases hn; exact okNode_star rfl rfl (by simp only; omega) (by simp only; omega) rfl
    · cases hn
theorem okAll_one {n : Nd} (h : okNode 0 n = true) : okAll [n] := by
  intro i m hm
  match i with
  | 0 => cases hm; exact h
  | i + 1 => cases hm
theorem post_ok (t : RT ByteArray) : okAll (post t) := by
  induction t with
  | none => exact okAll_one (okNode_leaf (.inl rfl) rfl rfl rfl)
  | empty => exact okAll_one (okNode_leaf (.inr rfl) rfl rfl rfl)
  | sym p s => exact okAll_one (okNode_sym rfl rfl rfl)
  | cat a b iha ihb => exact okAll_two (.inl rfl) iha ihb (by rw [post_len]; exact size_pos a) (by rw [post_len]; exact size_pos b)
  | alt a b iha ihb => exact okAll_two (.inr rfl) iha ihb (by rw [post_len]; exact size_pos a) (by rw [post_len]; exact size_pos b)
  | star a ih => exact okAll_many ih (by rw [post_len]; exact size_pos a)

/-- The tree of the nodes of a tree. -/
theorem tr_post (t : RT ByteArray) : Alike (tr (post t) (sizeT t - 1)) t := by
  induction t with
  | none => rw [tr_none (n := nd0) (by rfl) rfl]; exact .none
  | empty => rw [tr_empty (n := nd1) (by rfl) rfl]; exact .empty
  | sym p s => rw [tr_sym (n := nd2 s) (by rfl) rfl]; exact .sym _ _ _
  | cat a b iha ihb =>
    have pa := size_pos a; have pb := size_pos b
    have h := two_get 3 (post a) (post b) (sizeT a + sizeT b)
    simp only [post_len] at h
    rw [if_neg (by omega), if_neg (by omega), if_pos trivial] at h
    have e := tr_cat h (i := sizeT a + sizeT b) rfl (x := sizeT a - 1) (y := sizeT a + (sizeT b - 1)) (by simp only; omega) (by simp only; omega) (by omega) (by omega)
    show Alike (tr (two 3 (post a) (post b)) (sizeT a + sizeT b + 1 - 1)) _
    rw [show sizeT a + sizeT b + 1 - 1 = sizeT a + sizeT b by omega, e]
    refine .cat ?_ ?_
    · unfold two
      rw [List.append_assoc, tr_append (post_ok a) _ (by rw [post_len]; omega)]
      exact iha
    · have := tr_shift (post_ok b) (post a) [⟨3, nil8, ((post a).length : Int) - 1, (((post a).length + (post b).length : Nat) : Int) - 1⟩] (i := sizeT b - 1) (by rw [post_len]; omega)
      rw [post_len a] at this
      unfold two
      rw [post_len a]
      exact this.trans ihb
  | alt a b iha ihb =>
    have pa := size_pos a; have pb := size_pos b
    have h := two_get 4 (post a) (post b) (sizeT a + sizeT b)
    simp only [post_len] at h
    rw [if_neg (by omega), if_neg (by omega), if_pos trivial] at h
    have e := tr_alt h (i := sizeT a + sizeT b) rfl (x := sizeT a - 1) (y := sizeT a + (sizeT b - 1)) (by simp only; omega) (by simp only; omega) (by omega) (by omega)
    show Alike (tr (two 4 (post a) (post b)) (sizeT a + sizeT b + 1 - 1)) _
    rw [show sizeT a + sizeT b + 1 - 1 = sizeT a + sizeT b by omega, e]
    refine .alt ?_ ?_
    · unfold two
      rw [List.append_assoc, tr_append (post_ok a) _ (by rw [post_len]; omega)]
      exact iha
    · have := tr_shift (post_ok b) (post a) [⟨4, nil8, ((post a).length : Int) - 1, (((post a).length + (post b).length : Nat) : Int) - 1⟩] (i := sizeT b - 1) (by rw [post_len]; omega)
      rw [post_len a] at this
      unfold two
      rw [post_len a]
      exact this.trans ihb
  | star a ih =>
    have pa := size_pos a
    have h := many_get (post a) (sizeT a)
    simp only [post_len] at h
    rw [if_neg (by omega), if_pos trivial] at h
    have e := tr_star h (i := sizeT a) rfl (x := sizeT a - 1) (by simp only; omega) (by omega)
    show Alike (tr (manyL (post a)) (sizeT a + 1 - 1)) _
    rw [show sizeT a + 1 - 1 = sizeT a by omega, e]
    refine .star ?_
    unfold manyL
    rw [tr_append (post_ok a) _ (by rw [post_len]; omega)]
    exact ih

/-! ### each node but the last one is a part once -/
theorem kids_mv {i k : Nat} {n : Nd} (h : okNode i n = true) : kids (mv k n) = (kids n).map (k + ·) := by
  cases kind_of_ok h with
  | none ho => rw [mv_leaf (.inl ho), kids_leaf (.inl ho)]; rfl
  | empty ho => rw [mv_leaf (.inr (.inl ho)), kids_leaf (.inr (.inl ho))]; rfl
  | sym ho => rw [mv_leaf (.inr (.inr ho)), kids_leaf (.inr (.inr ho))]; rfl
  | cat ho s x y a b hx hy => rw [mv_two (.inl ho), kids_cat (n := n) (.inl ho) a b]; exact kids_cat (n := { n with a := n.a + (k : Int), b := n.b + (k : Int) }) (x := k + x) (y := k + y) (.inl ho) (by show n.a + (k : Int) = ((k + x : Nat) : Int); omega) (by show n.b + (k : Int) = ((k + y : Nat) : Int); omega)
  | alt ho s x y a b hx hy => rw [mv_two (.inr ho), kids_cat (n := n) (.inr ho) a b]; exact kids_cat (n := { n with a := n.a + (k : Int), b := n.b + (k : Int) }) (x := k + x) (y := k + y) (.inr ho) (by show n.a + (k : Int) = ((k + x : Nat) : Int); omega) (by show n.b + (k : Int) = ((k + y : Nat) : Int); omega)
  | star ho s x a b hx => rw [mv_star ho, kids_star (n := n) ho a]; exact kids_star (n := { n with a := n.a + (k : Int) }) (x := k + x) ho (by show n.a + (k : Int) = ((k + x : Nat) : Int); omega)
theorem flat_congr {α β : Type} {f g : α → List β} {b : List α} (h : ∀ n, n ∈ b → f n = g n) : b.flatMap f = b.flatMap g := by
  induction b with
  | nil => rfl
  | cons x b ih => rw [List.flatMap_cons, List.flatMap_cons, h x (by simp), ih fun n hn => h n (by simp [hn])]
theorem kids_map {b : List Nd} (hb : okAll b) (k : Nat) : (b.map (mv k)).flatMap kids = (b.flatMap kids).map (k + ·) := by
  rw [List.flatMap_map, List.map_flatMap]
  refine flat_congr fun n hn => ?_
  obtain ⟨i, hi⟩ := List.getElem?_of_mem hn
  exact kids_mv (hb i n hi)
theorem kids_below {a : List Nd} (ha : okAll a) {k : Nat} (hk : k ∈ a.flatMap kids) : k + 1 < a.length := by
  obtain ⟨n, hn, hk⟩ := List.mem_flatMap.1 hk
  obtain ⟨i, hi⟩ := List.getElem?_of_mem hn
  have h1 := kids_lt (ha.kind hi) hk
  have h2 := lt_of_some hi
  omega
theorem uses_far {a : List Nd} (ha : okAll a) {j : Nat} (h : a.length ≤ j + 1) : uses a j = 0 := by
  unfold uses
  rw [List.count_eq_zero]
  intro hk
  have := kids_below ha hk
  omega
theorem count_shift (k j : Nat) (l : List Nat) : (l.map (k + ·)).count j = if k ≤ j then l.count (j - k) else 0 := by
  induction l with
  | nil => simp
  | cons x l ih =>
    simp only [List.map_cons, List.count_cons, ih]
    by_cases h : k ≤ j
    · rw [if_pos h, if_pos h]
      have : (k + x == j) = (x == j - k) := by rw [Bool.eq_iff_iff]; simp only [beq_iff_eq]; omega
      rw [this]
    · rw [if_neg h, if_neg h]
      have : (k + x == j) = false := by rw [beq_eq_false_iff_ne]; omega
      rw [this]; rfl

theorem form_two {op : Int} (ho : op = 3 ∨ op = 4) {a b : List Nd} (Fa : Form a) (Fb : Form b) : Form (two op a b) := by
  have a0 : 0 < a.length := List.length_pos_iff.2 Fa.ne
  have b0 : 0 < b.length := List.length_pos_iff.2 Fb.ne
  refine ⟨by simp [two], okAll_two ho Fa.ok Fb.ok a0 b0, fun j hj => ?_⟩
  rw [two_len] at hj
  have hk : kids ⟨op, nil8, (a.length : Int) - 1, ((a.length + b.length : Nat) : Int) - 1⟩ = [a.length - 1, a.length + b.length - 1] := kids_cat ho (by simp only; omega) (by simp only; omega)
  unfold uses two
  rw [List.flatMap_append, List.flatMap_append, kids_map Fb.ok, List.count_append, List.count_append, count_shift]
  simp only [List.flatMap_cons, List.flatMap_nil, List.append_nil, hk, List.count_cons, List.count_nil, Nat.zero_add, beq_iff_eq]
  rw [show List.count j (a.flatMap kids) = uses a j from rfl, show List.count (j - a.length) (b.flatMap kids) = uses b (j - a.length) from rfl]
  by_cases h1 : a.length ≤ j
  · rw [if_pos h1, uses_far Fa.ok (by omega)]
    by_cases h2 : j + 1 < a.length + b.length
    · rw [Fb.one _ (by omega), if_neg (by omega), if_neg (by omega)]
    · rw [uses_far Fb.ok (by omega), if_pos (by omega), if_neg (by omega)]
  · rw [if_neg h1]
    by_cases h2 : j + 1 < a.length
    · rw [Fa.one _ h2, if_neg (by omega), if_neg (by omega)]
    · rw [uses_far Fa.ok (by omega), if_neg (by omega), if_pos (by omega)]
theorem form_many {a : List Nd} (Fa : Form a) : Form (manyL a) := by
  have a0 : 0 < a.length := List.length_pos_iff.2 Fa.ne
  refine ⟨by simp [manyL], okAll_many Fa.ok a0, fun j hj => ?_⟩
  rw [manyL_len] at hj
  have hk : kids ⟨5, nil8, (a.length : Int) - 1, 0⟩ = [a.length - 1] := kids_star rfl (by simp only; omega)
  unfold uses manyL
  rw [List.flatMap_append, List.count_append]
  simp only [List.flatMap_cons, List.flatMap_nil, List.append_nil, hk, List.count_cons, List.count_nil, Nat.zero_add, beq_iff_eq]
  rw [show List.count j (a.flatMap kids) = uses a j from rfl]
  by_cases h2 : j + 1 < a.length
  · rw [Fa.one _ h2, if_neg (by omega)]
  · rw [uses_far Fa.ok (by omega), if_pos (by omega)]
theorem form_one {n : Nd} (h : okNode 0 n = true) : Form [n] := ⟨by simp, okAll_one h, fun j hj => by simp at hj⟩
theorem form_post (t : RT ByteArray) : Form (post t) := by
  induction t with
  | none => exact form_one (okNode_leaf (.inl rfl) rfl rfl rfl)
  | empty => exact form_one (okNode_leaf (.inr rfl) rfl rfl rfl)
  | sym p s => exact form_one (okNode_sym rfl rfl rfl)
  | cat a b iha ihb => exact form_two (.inl rfl) iha ihb
  | alt a b iha ihb => exact form_two (.inr rfl) iha ihb
  | star a ih => exact form_many ih

end Go.Rx
namespace Go.Rx

def ixF (l : List Nd) : Nat → Nat → List Nat
  | 0, _ => []
  | f + 1, i => match l[i]? with
    | none => []
    | some n => i :: (kids n).flatMap (ixF l f)

def symsT : RT ByteArray → List ByteArray
  | .none => []
  | .empty => []
  | .sym _ s => [s]
  | .cat a b => symsT a ++ symsT b
  | .alt a b => symsT a ++ symsT b
  | .star a => symsT a
theorem Alike.syms {t u : RT ByteArray} (h : Alike t u) : symsT t = symsT u := by
  induction h with
  | none => rfl
  | empty => rfl
  | sym p q s => rfl
  | cat _ _ iha ihb => simp only [symsT, iha, ihb]
  | alt _ _ iha ihb => simp only [symsT, iha, ihb]
  | star _ ih => simp only [symsT, ih]
theorem Alike.size {t u : RT ByteArray} (h : Alike t u) : sizeT t = sizeT u := by
  induction h with
  | none => rfl
  | empty => rfl
  | sym p q s => rfl
  | cat _ _ iha ihb => simp only [sizeT, iha, ihb]
  | alt _ _ iha ihb => simp only [sizeT, iha, ihb]
  | star _ ih => simp only [sizeT, ih]

def symN (n : Nd) : Option ByteArray := if n.op = 2 then some n.sym else none
/-- The words that stand in nodes. -/
def symsL (l : List Nd) : List ByteArray := l.filterMap symN

section
variable {l : List Nd}
theorem ixF_succ {f i : Nat} {n : Nd} (hn : l[i]? = some n) : ixF l (f + 1) i = i :: (kids n).flatMap (ixF l f) := by
  rw [ixF, hn]

theorem ix_self {f i : Nat} (hf : i < f) (hi : i < l.length) : i ∈ ixF l f i := by
  obtain ⟨g, rfl⟩ : ∃ g, f = g + 1 := ⟨f - 1, by omega⟩
  rw [ixF_succ (List.getElem?_eq_getElem hi)]; simp

theorem ix_in (F : Form l) {f i j : Nat} (h : j ∈ ixF l f i) : In l i j := by
  induction f generalizing i with
  | zero => cases h
  | succ f ih =>
    cases hn : l[i]? with
    | none => rw [ixF, hn] at h; cases h
    | some n =>
      rw [ixF_succ hn] at h
      rcases List.mem_cons.1 h with rfl | h
      · exact .refl
      · obtain ⟨k, hk, h⟩ := List.mem_flatMap.1 h
        exact In.trans (.step .refl hn hk) (ih h)

theorem ix_kid (F : Form l) {f i k j : Nat} {n : Nd} (hf : i < f) (h : k ∈ ixF l f i) (hn : l[k]? = some n) (hj : j ∈ kids n) : j ∈ ixF l f i := by
  induction f generalizing i with
  | zero => cases h
  | succ f ih =>
    cases hm : l[i]? with
    | none => rw [ixF, hm] at h; cases h
    | some m =>
      rw [ixF_succ hm] at h ⊢
      rcases List.mem_cons.1 h with e | h
      · subst e
        rw [hn] at hm
        cases hm
        have h1 := kids_lt (F.kind hn) hj
        have h2 := lt_of_some hn
        exact List.mem_cons_of_mem _ (List.mem_flatMap.2 ⟨j, hj, ix_self (by omega) (by omega)⟩)
      · obtain ⟨x, hx, h⟩ := List.mem_flatMap.1 h
        have h1 := kids_lt (F.kind hm) hx
        exact List.mem_cons_of_mem _ (List.mem_flatMap.2 ⟨x, hx, ih (by omega) h⟩)

theorem ix_mem (F : Form l) {f i j : Nat} (hf : i < f) (hi : i < l.length) : j ∈ ixF l f i ↔ In l i j := by
  refine ⟨ix_in F, fun h => ?_⟩
  induction h with
  | refl => exact ix_self hf hi
  | step _ hn hj ih => exact ix_kid F hf ih hn hj

theorem ix_nodup (F : Form l) {f i : Nat} : (ixF l f i).Nodup := by
  induction f generalizing i with
  | zero => exact List.nodup_nil
  | succ f ih =>
    cases hn : l[i]? with
    | none => rw [ixF, hn]; exact List.nodup_nil
    | some n =>
      rw [ixF_succ hn, List.nodup_cons]
      refine ⟨fun h => ?_, ?_⟩
      · obtain ⟨k, hk, h⟩ := List.mem_flatMap.1 h
        have h1 := (ix_in F h).le F
        have h2 := kids_lt (F.kind hn) hk
        omega
      · have two : ∀ x y, kids n = [x, y] → ((kids n).flatMap (ixF l f)).Nodup := fun x y e => by
          have hne := kids_apart F hn e
          rw [e]
          simp only [List.flatMap_cons, List.flatMap_nil, List.append_nil]
          rw [List.nodup_append]
          refine ⟨ih, ih, fun p hp q hq => ?_⟩
          rintro rfl
          exact In.apart F hn (x := x) (y := y) (by rw [e]; simp) (by rw [e]; simp) hne (ix_in F hp) (ix_in F hq)
        cases F.kind hn with
        | none ho => rw [kids_leaf (.inl ho)]; exact List.nodup_nil
        | empty ho => rw [kids_leaf (.inr (.inl ho))]; exact List.nodup_nil
        | sym ho => rw [kids_leaf (.inr (.inr ho))]; exact List.nodup_nil
        | cat ho s x y a b hx hy => exact two x y (kids_cat (.inl ho) a b)
        | alt ho s x y a b hx hy => exact two x y (kids_cat (.inr ho) a b)
        | star ho s x a b hx =>
          rw [kids_star ho a]
          simp only [List.flatMap_cons, List.flatMap_nil, List.append_nil]
          exact ih

theorem ix_root (F : Form l) : (ixF l l.length (l.length - 1)).Perm (List.range l.length) := by
  have h0 : 0 < l.length := List.length_pos_iff.2 F.ne
  rw [List.perm_ext_iff_of_nodup (ix_nodup F) List.nodup_range]
  intro j
  rw [ix_mem F (by omega) (by omega), List.mem_range]
  exact ⟨fun h => by have := h.le F; omega, fun h => in_root F h⟩

theorem size_ix (F : Form l) {f i : Nat} (hf : i < f) (hi : i < l.length) : sizeT (tr l i) = (ixF l f i).length := by
  induction f generalizing i with
  | zero => omega
  | succ f ih =>
    have hn : l[i]? = some l[i] := List.getElem?_eq_getElem hi
    rw [ixF_succ hn]
    cases F.kind hn with
    | none ho => rw [tr_none hn ho, kids_leaf (.inl ho)]; rfl
    | empty ho => rw [tr_empty hn ho, kids_leaf (.inr (.inl ho))]; rfl
    | sym ho => rw [tr_sym hn ho, kids_leaf (.inr (.inr ho))]; rfl
    | cat ho s x y a b hx hy => rw [tr_cat hn ho a b hx hy, kids_cat (.inl ho) a b]; simp [sizeT, ih (i := x) (by omega) (by omega), ih (i := y) (by omega) (by omega)]
    | alt ho s x y a b hx hy => rw [tr_alt hn ho a b hx hy, kids_cat (.inr ho) a b]; simp [sizeT, ih (i := x) (by omega) (by omega), ih (i := y) (by omega) (by omega)]
    | star ho s x a b hx => rw [tr_star hn ho a hx, kids_star ho a]; simp [sizeT, ih (i := x) (by omega) (by omega)]
/-- A tree has as many nodes as its row. -/
theorem size_root (F : Form l) : sizeT (tr l (l.length - 1)) = l.length := by
  have h0 : 0 < l.length := List.length_pos_iff.2 F.ne
  rw [size_ix F (f := l.length) (by omega) (by omega), (ix_root F).length_eq, List.length_range]

def symI (l : List Nd) (j : Nat) : Option ByteArray := (l[j]?).bind symN
theorem syms_ix (F : Form l) {f i : Nat} (hf : i < f) (hi : i < l.length) : symsT (tr l i) = (ixF l f i).filterMap (symI l) := by
  induction f generalizing i with
  | zero => omega
  | succ f ih =>
    have hn : l[i]? = some l[i] := List.getElem?_eq_getElem hi
    have hs : symI l i = symN l[i] := by simp [symI, hn]
    rw [ixF_succ hn, List.filterMap_cons, hs]
    cases F.kind hn with
    | none ho => rw [tr_none hn ho, kids_leaf (.inl ho), symN, if_neg (by omega)]; rfl
    | empty ho => rw [tr_empty hn ho, kids_leaf (.inr (.inl ho)), symN, if_neg (by omega)]; rfl
    | sym ho => rw [tr_sym hn ho, kids_leaf (.inr (.inr ho)), symN, if_pos ho]; rfl
    | cat ho s x y a b hx hy => rw [tr_cat hn ho a b hx hy, kids_cat (.inl ho) a b, symN, if_neg (by omega)]; simp [symsT, ih (i := x) (by omega) (by omega), ih (i := y) (by omega) (by omega)]
    | alt ho s x y a b hx hy => rw [tr_alt hn ho a b hx hy, kids_cat (.inr ho) a b, symN, if_neg (by omega)]; simp [symsT, ih (i := x) (by omega) (by omega), ih (i := y) (by omega) (by omega)]
    | star ho s x a b hx => rw [tr_star hn ho a hx, kids_star ho a, symN, if_neg (by omega)]; simp [symsT, ih (i := x) (by omega) (by omega)]
theorem range_syms (l : List Nd) : (List.range l.length).filterMap (symI l) = symsL l := by
  have h : (List.range l.length).map (fun j => l[j]?) = l.map some := by
    apply List.ext_getElem?
    intro i
    by_cases hi : i < l.length
    · simp [hi]
    · simp [hi]
  have h2 : (List.range l.length).filterMap (symI l) = ((List.range l.length).map (fun j => l[j]?)).filterMap (fun o => o.bind symN) := by rw [List.filterMap_map]; rfl
  rw [h2, h, List.filterMap_map]; rfl
/-- The words of a tree are those of its row, in another order. -/
theorem syms_root (F : Form l) : (symsT (tr l (l.length - 1))).Perm (symsL l) := by
  have h0 : 0 < l.length := List.length_pos_iff.2 F.ne
  rw [syms_ix F (f := l.length) (by omega) (by omega), ← range_syms]
  exact (ix_root F).filterMap _
end

theorem ok_of_names {l : List Nd} (F : Form l) (hN : ∀ (i : Nat) (n : Nd), l[i]? = some n → n.op = 2 → nmB n.sym.data.toList = true) (i : Nat) : okT (tr l i) := by
  induction i using Nat.strongRecOn with
  | _ i ih =>
  cases hn : l[i]? with
  | none => rw [tr, hn]; trivial
  | some n =>
    cases F.kind hn with
    | none ho => rw [tr_none hn ho]; trivial
    | empty ho => rw [tr_empty hn ho]; trivial
    | sym ho => rw [tr_sym hn ho]; exact hN i n hn ho
    | cat ho s x y a b hx hy => rw [tr_cat hn ho a b hx hy]; exact ⟨ih x hx, ih y hy⟩
    | alt ho s x y a b hx hy => rw [tr_alt hn ho a b hx hy]; exact ⟨ih x hx, ih y hy⟩
    | star ho s x a b hx => rw [tr_star hn ho a hx]; exact ih x hx

theorem mv_name {k : Nat} {n : Nd} (h : n.op = 2 → nmB n.sym.data.toList = true) : (mv k n).op = 2 → nmB (mv k n).sym.data.toList = true := by
  rw [mv_op, mv_sym]; exact h
theorem names_post {t : RT ByteArray} (h : okT t) : ∀ n, n ∈ post t → n.op = 2 → nmB n.sym.data.toList = true := by
  have two : ∀ (op : Int) (a b : List Nd), op ≠ 2 → (∀ n, n ∈ a → n.op = 2 → nmB n.sym.data.toList = true) → (∀ n, n ∈ b → n.op = 2 → nmB n.sym.data.toList = true) → ∀ n, n ∈ two op a b → n.op = 2 → nmB n.sym.data.toList = true := by
    intro op a b ho ha hb n hn h2
    simp only [two, List.mem_append, List.mem_map, List.mem_cons, List.not_mem_nil, or_false] at hn
    rcases hn with (hn | ⟨m, hm, rfl⟩) | rfl
    · exact ha n hn h2
    · exact mv_name (hb m hm) h2
    · exact absurd h2 ho
  induction t with
  | none => intro n hn h2; simp only [post, List.mem_cons, List.not_mem_nil, or_false] at hn; subst hn; cases h2
  | empty => intro n hn h2; simp only [post, List.mem_cons, List.not_mem_nil, or_false] at hn; subst hn; cases h2
  | sym p s => intro n hn h2; simp only [post, List.mem_cons, List.not_mem_nil, or_false] at hn; subst hn; exact h
  | cat a b iha ihb => exact two 3 _ _ (by decide) (iha h.1) (ihb h.2)
  | alt a b iha ihb => exact two 4 _ _ (by decide) (iha h.1) (ihb h.2)
  | star a ih =>
    intro n hn h2
    simp only [post, manyL, List.mem_append, List.mem_cons, List.not_mem_nil, or_false] at hn
    rcases hn with hn | rfl
    · exact ih h n hn h2
    · cases h2

end Go.Rx
