/-
  The queue seat: a queue as the list of what is in it, in the order in which it came; what each method answers.
-/
import Derived.Test.YtlghkcamnfegdaaW15
import Derived.Test.YtlghkcamnfegdaaH2
namespace Go.Proofs.Ytlghkcamnfegdaa
open Go.RowKit Go.Spy Go.Heaped

structure OrdFn (f : Int → Int → Int) : Prop where
  anti : ∀ a b, f a b = - f b a
  trans : ∀ a b c, f a b ≤ 0 → f b c ≤ 0 → f a c ≤ 0
theorem fn13 : OrdFn cmpI := ⟨Picked.cmpI_anti, fun _ _ _ h k => Picked.cmpI_nonpos.2 (Int.le_trans (Picked.cmpI_nonpos.1 h) (Picked.cmpI_nonpos.1 k))⟩
theorem fn17 : OrdFn (fun a b => cmpI b a) := ⟨fun _ _ => Picked.cmpI_anti _ _, fun _ _ _ h k => Picked.cmpI_nonpos.2 (Int.le_trans (Picked.cmpI_nonpos.1 k) (Picked.cmpI_nonpos.1 h))⟩

theorem ahead_false {f : Int → Int → Int} (N : OrdFn f) {x y : It} : aheadB f y x = false ↔ f x.1 y.1 ≤ 0 ∧ (f x.1 y.1 = 0 → x.2.2 ≤ y.2.2) := by
  have := N.anti x.1 y.1
  unfold aheadB
  simp only [Bool.or_eq_false_iff, decide_eq_false_iff_not, Bool.and_eq_false_imp, decide_eq_true_eq]
  constructor
  · rintro ⟨h1, h2⟩
    exact ⟨by omega, fun h => by have := h2 (by omega); omega⟩
  · rintro ⟨h1, h2⟩
    exact ⟨by omega, fun h => by have := h2 (by omega); omega⟩
theorem ordered {f : Int → Int → Int} (N : OrdFn f) : Ordered (aheadB f) where
  asym x y h := by
    rw [ahead_false N]
    have := N.anti x.1 y.1
    unfold aheadB at h
    simp only [Bool.or_eq_true, decide_eq_true_eq, Bool.and_eq_true] at h
    rcases h with h | ⟨h, k⟩
    · exact ⟨by omega, fun e => by omega⟩
    · exact ⟨by omega, fun _ => by omega⟩
  ntrans x y z h k := by
    rw [ahead_false N] at *
    have t := N.trans _ _ _ h.1 k.1
    refine ⟨t, fun e => ?_⟩
    have a1 := N.anti x.1 y.1
    have a2 := N.anti y.1 z.1
    have a3 := N.anti x.1 z.1
    have t2 := N.trans y.1 z.1 x.1 k.1 (by omega)
    have t3 := N.trans z.1 x.1 y.1 (by omega) h.1
    have := h.2 (by omega)
    have := k.2 (by omega)
    omega
theorem irref {f : Int → Int → Int} (N : OrdFn f) (x : It) : aheadB f x x = false := by
  rw [ahead_false N]
  have := N.anti x.1 x.1
  exact ⟨by omega, fun _ => Int.le_refl _⟩

def th (x : It) : Int × Int := (x.1, x.2.1)
/-- A queue in which are these things, in the order in which they came. -/
def QM (f : Int → Int → Int) (w : World) (base q bo F : Nat) (ts : List (Int × Int)) (put : Nat) (S : Nat → Prop) : Prop :=
  ∃ d m its, PileX w base q bo F d m put S ∧ Heap (aheadB f) d d.length ∧ d.Perm its ∧ its.map th = ts ∧ its.Pairwise (fun a b => a.2.2 < b.2.2) ∧ ∀ x ∈ its, x.2.2 < (put : Int)
def QGoes (f : Int → Int → Int) (S : Nat → Prop) (w w' : World) (base q bo F : Nat) (ts : List (Int × Int)) (put : Nat) : Prop := ∃ S', QM f w' base q bo F ts put S' ∧ Moved S S' w w'

section
variable {F : Nat} {f : Int → Int → Int} {w w' : World} {base q bo : Nat} {ts : List (Int × Int)} {put : Nat} {S : Nat → Prop}
theorem QM.ext (h : QM f w base q bo F ts put S) (e : Ext w w') : QM f w' base q bo F ts put S := by
  obtain ⟨d, m, its, h1, h2⟩ := h
  exact ⟨d, m, its, h1.ext e, h2⟩
theorem QM.lt (h : QM f w base q bo F ts put S) : ∀ k, S k → k < w.heap.size := by
  obtain ⟨d, m, its, ⟨vI, vS, sw, hp, _, rfl⟩, _⟩ := h
  rintro k (rfl | e | e)
  · exact hp.blk.lt
  · obtain ⟨_, hb⟩ := own_type hp.items e; exact hb.lt
  · obtain ⟨_, hb⟩ := own_type hp.swaps e; exact hb.lt
theorem QM.bo_lt (h : QM f w base q bo F ts put S) : bo < w.heap.size := by
  obtain ⟨d, m, its, ⟨vI, vS, sw, hp, _, rfl⟩, _⟩ := h
  exact hp.ord.lt
/-- A block of another type is none of a queue's. -/
theorem QM.not_type (h : QM f w base q bo F ts put S) {k : Nat} {t : TypeId} {cur : Array Value} (hb : Blk w k t cur) (h1 : t ≠ 69) (h2 : t ≠ 62) (h3 : t ≠ 85) : ¬ S k := by
  obtain ⟨d, m, its, ⟨vI, vS, sw, hp, _, rfl⟩, _⟩ := h
  rintro (rfl | e | e)
  · exact blk_ne hb hp.blk h1 rfl
  · obtain ⟨_, hc⟩ := own_type hp.items e; exact blk_ne hb hc h2 rfl
  · obtain ⟨_, hc⟩ := own_type hp.swaps e; exact blk_ne hb hc h3 rfl
theorem QM.kept (h : QM f w base q bo F ts put S) {S2 : Nat → Prop} (c : Chg S2 w w') (hS : ∀ k, S k → ¬ S2 k) (hb : ¬ S2 bo) : QM f w' base q bo F ts put S := by
  obtain ⟨d, m, its, ⟨vI, vS, sw, hp, hs, rfl⟩, h2⟩ := h
  exact ⟨d, m, its, ⟨vI, vS, sw, hp.kept c hS hb, hs, rfl⟩, h2⟩
theorem QM.new (h : Pile w base q bo F (.slice none 0 0) (.slice none 0 0) [] [] 0) : QM f w base q bo F [] 0 (fun k => k = q) := by
  refine ⟨[], 0, [], ⟨_, _, [], h, Nat.le_refl _, ?_⟩, fun k _ hk => by simp at hk, List.Perm.refl _, rfl, List.Pairwise.nil, by simp⟩
  funext k
  simp [own, Value.ownBlock]

theorem lenQ (h : QM f w base q bo F ts put S) :
    Calls Try.prog 20 #[.pointer (some ⟨q, 0, none⟩)] w fun e w' => e = .returned (.int .i64 ts.length) ∧ w' = w := by
  obtain ⟨d, m, its, h1, _, h3, rfl, _⟩ := h
  rw [List.length_map, ← h3.length_eq]
  exact len_at h1

/-- The root is the first one. -/
theorem root_first (N : OrdFn f) {d its : List It} (h2 : Heap (aheadB f) d d.length) (h3 : d.Perm its) (h5 : its.Pairwise (fun a b => a.2.2 < b.2.2)) (hn : 0 < d.length) :
    ∃ i, its[i]? = some (g d 0) ∧ Picked.IsFirst f (its.map th) i (th (g d 0)) := by
  have hm : g d 0 ∈ d := by
    have : d[0]? = some (g d 0) := some_g hn
    exact List.mem_of_getElem? this
  obtain ⟨i, hi, hx⟩ := List.getElem_of_mem (h3.mem_iff.1 hm)
  have hmin := heap_min (ordered N) h2 (irref N)
  have hall : ∀ y ∈ its, f (g d 0).1 y.1 ≤ 0 ∧ (f (g d 0).1 y.1 = 0 → (g d 0).2.2 ≤ y.2.2) := by
    intro y hy
    obtain ⟨k, hk, rfl⟩ := List.getElem_of_mem (h3.mem_iff.2 hy)
    have := hmin k hk
    rw [ahead_false N] at this
    have e : g d k = d[k] := g_some (List.getElem?_eq_getElem hk)
    rwa [e] at this
  refine ⟨i, by rw [List.getElem?_eq_getElem hi, hx], ⟨by rw [List.getElem?_map, List.getElem?_eq_getElem hi, hx]; rfl, fun j y hj hy => ?_, fun j y hj hy => ?_⟩⟩
  · rw [List.getElem?_map] at hy
    obtain ⟨z, hz, rfl⟩ := Option.map_eq_some_iff.1 hy
    obtain ⟨hjl, hz'⟩ := List.getElem?_eq_some_iff.1 hz
    have h1 := hall z (List.mem_of_getElem? hz)
    have h2 := List.pairwise_iff_getElem.1 h5 j i hjl hi hj
    rw [hz', hx] at h2
    show f (g d 0).1 z.1 < 0
    by_cases e : f (g d 0).1 z.1 = 0
    · have := h1.2 e; omega
    · have := h1.1; omega
  · rw [List.getElem?_map] at hy
    obtain ⟨z, hz, rfl⟩ := Option.map_eq_some_iff.1 hy
    exact (hall z (List.mem_of_getElem? hz)).1

theorem erase_perm {d d' its : List It} {x : It} {i : Nat} (h3 : d.Perm its) (hi : its[i]? = some x) (hp : (d' ++ [x]).Perm d) : d'.Perm (its.eraseIdx i) := by
  obtain ⟨hl, hx⟩ := List.getElem?_eq_some_iff.1 hi
  have e1 : its = its.take i ++ x :: its.drop (i + 1) := by
    rw [← hx, List.getElem_cons_drop, List.take_append_drop]
  have h1 := hp.trans h3
  rw [e1] at h1
  have h2 : (x :: d').Perm (x :: (its.take i ++ its.drop (i + 1))) := (List.perm_append_comm.trans h1).trans List.perm_middle
  rw [List.eraseIdx_eq_take_drop_succ]
  exact h2.cons_inv

theorem map_erase {α β : Type} (f : α → β) (l : List α) (i : Nat) : (l.eraseIdx i).map f = (l.map f).eraseIdx i := by
  rw [List.eraseIdx_eq_take_drop_succ, List.eraseIdx_eq_take_drop_succ, List.map_append, List.map_take, List.map_drop]

def PeekPost (f : Int → Int → Int) (ts : List (Int × Int)) (w : World) (e : Ending) (w' : World) : Prop :=
  ∃ i x, Picked.IsFirst f ts i x ∧ e = .returned (.tuple #[.agg #[.int .i64 x.1, .int .i64 x.2], .int .i64 0]) ∧ Ext w w'
def TakePost (f : Int → Int → Int) (S : Nat → Prop) (w : World) (base q bo F : Nat) (ts : List (Int × Int)) (put : Nat) (e : Ending) (w' : World) : Prop :=
  ∃ i x, Picked.IsFirst f ts i x ∧ e = .returned (.tuple #[.agg #[.int .i64 x.1, .int .i64 x.2], .int .i64 0]) ∧ QGoes f S w w' base q bo F (ts.eraseIdx i) put

theorem putQ (O : OrdOk F f) (N : OrdFn f) (h : QM f w base q bo F ts put S) (t : Int × Int) (hl : ts.length + 1 ≤ 1000000000) (hp : put ≤ 1000000000) :
    Calls Try.prog 18 #[.pointer (some ⟨q, 0, none⟩), thingV t] w fun e w' => e = .returned (.int .i64 0) ∧ QGoes f S w w' base q bo F (ts ++ [t]) (put + 1) := by
  obtain ⟨d, m, its, h1, h2, h3, rfl, h5, h6⟩ := h
  have hdl : d.length = its.length := h3.length_eq
  refine (put_any O (ordered N) h1 t h2 (by simp at hl; omega) (by omega) (by omega)).mono ?_
  rintro e w' ⟨rfl, d', p1, p2, S', hP, hM⟩
  refine ⟨rfl, S', ⟨d', d.length, its ++ [(t.1, t.2, (put : Int))], hP, p2, p1.trans (h3.append_right _), by simp [th], ?_, ?_⟩, hM⟩
  · rw [List.pairwise_append]
    exact ⟨h5, List.pairwise_singleton _ _, fun a ha b hb => by simp at hb; subst hb; exact h6 a ha⟩
  · intro x hx
    simp only [List.mem_append, List.mem_singleton] at hx
    rcases hx with hx | rfl
    · have := h6 x hx; omega
    · simp; omega
theorem takeQ (O : OrdOk F f) (N : OrdFn f) (h : QM f w base q bo F ts put S) (h0 : 0 < ts.length) (hl : ts.length + 1 ≤ 100000000) :
    Calls Try.prog 19 #[.pointer (some ⟨q, 0, none⟩)] w fun e w' => TakePost f S w base q bo F ts put e w' := by
  obtain ⟨d, m, its, h1, h2, h3, rfl, h5, h6⟩ := h
  have hdl : d.length = its.length := h3.length_eq
  rw [List.length_map] at h0 hl
  refine (take_some (n := d.length - 1) O (ordered N) (irref N) h1 (hid (by omega)) h2 (by omega)).mono ?_
  rintro e w' ⟨rfl, d', p1, p2, S', hP, hM⟩
  obtain ⟨i, hi, hF⟩ := root_first N h2 h3 h5 (by omega)
  refine ⟨i, th (g d 0), hF, rfl, S', ⟨d', _, its.eraseIdx i, hP, p2, erase_perm h3 hi p1, map_erase _ _ _, h5.sublist (List.eraseIdx_sublist _ _), fun x hx => h6 x (List.mem_of_mem_eraseIdx hx)⟩, hM⟩
theorem takeQ_none (h : QM f w base q bo F [] put S) :
    Calls Try.prog 19 #[.pointer (some ⟨q, 0, none⟩)] w fun e w' => e = .returned (.tuple #[.agg #[.int .i64 0, .int .i64 0], .int .i64 16]) ∧ Ext w w' := by
  obtain ⟨d, m, its, h1, h2, h3, h4, _⟩ := h
  have : its = [] := by simpa using h4
  subst this
  exact take_none h1 h3.eq_nil
theorem peekQ (N : OrdFn f) (h : QM f w base q bo F ts put S) (h0 : 0 < ts.length) :
    Calls Try.prog 22 #[.pointer (some ⟨q, 0, none⟩)] w fun e w' => PeekPost f ts w e w' := by
  obtain ⟨d, m, its, h1, h2, h3, rfl, h5, h6⟩ := h
  have hdl : d.length = its.length := h3.length_eq
  rw [List.length_map] at h0
  refine (peek_some h1 (by omega)).mono ?_
  rintro e w' ⟨rfl, hE⟩
  obtain ⟨i, hi, hF⟩ := root_first N h2 h3 h5 (by omega)
  exact ⟨i, th (g d 0), hF, rfl, hE⟩
theorem peekQ_none (h : QM f w base q bo F [] put S) :
    Calls Try.prog 22 #[.pointer (some ⟨q, 0, none⟩)] w fun e w' => e = .returned (.tuple #[.agg #[.int .i64 0, .int .i64 0], .int .i64 16]) ∧ Ext w w' := by
  obtain ⟨d, m, its, h1, h2, h3, h4, _⟩ := h
  have : its = [] := by simpa using h4
  subst this
  exact peek_none h1 h3.eq_nil
theorem newQ (F : Nat) (f : Int → Int → Int) (w : World) :
    Calls Try.prog 16 #[.func (.func F) #[] #[]] w fun e w' => e = .returned (.tuple #[.pointer (some ⟨w.heap.size + 1, 0, none⟩), .int .i64 0]) ∧ QM f w' w.heap.size (w.heap.size + 1) w.heap.size F [] 0 (fun k => k = w.heap.size + 1) ∧ Ext w w' :=
  (new_any F w).mono fun _ _ ⟨h1, h2, h3⟩ => ⟨h1, QM.new h2, h3⟩
end
end Go.Proofs.Ytlghkcamnfegdaa
