/-
  The queue seat: what becomes of a queue in memory where two items change places.
-/
import Derived.Test.YtlghkcamnfegdaaW4
import Derived.Deep.AppendLies
namespace Go.Proofs.Ytlghkcamnfegdaa
open Go.RowKit Go.Spy

theorem flat_set {α β : Type} (f : α → List β) (s : Nat) (hf : ∀ x, (f x).length = s) (d : List α) (j : Nat) (x : α) (l : List β) (hl : l.length = (d.flatMap f).length)
    (h1 : ∀ k, k < s → j < d.length → l[j * s + k]? = (f x)[k]?) (h2 : ∀ i k, k < s → i ≠ j → l[i * s + k]? = (d.flatMap f)[i * s + k]?) : l = (d.set j x).flatMap f := by
  rcases Nat.eq_zero_or_pos s with h0 | h0
  · have e1 : l.length = 0 := by rw [hl, flat_len f s hf, h0, Nat.mul_zero]
    have e2 : ((d.set j x).flatMap f).length = 0 := by rw [flat_len f s hf, h0, Nat.mul_zero]
    rw [List.eq_nil_of_length_eq_zero e1, List.eq_nil_of_length_eq_zero e2]
  · apply List.ext_getElem?
    intro n
    have hn : n = (n / s) * s + n % s := by rw [Nat.mul_comm]; exact (Nat.div_add_mod n s).symm
    have hk : n % s < s := Nat.mod_lt _ h0
    rw [hn]
    generalize n / s = i at *
    generalize n % s = k at *
    rw [flat_get f s hf _ _ _ hk]
    by_cases hi : i = j
    · subst hi
      by_cases hd : i < d.length
      · rw [h1 k hk hd]; simp [hd]
      · rw [List.getElem?_eq_none (by
          rw [hl, flat_len f s hf]
          have := Nat.mul_le_mul_right s (Nat.le_of_not_lt hd)
          omega)]
        simp [Nat.le_of_not_lt hd]
    · rw [h2 i k hk hi, flat_get f s hf _ _ _ hk, List.getElem?_set_ne (fun e => hi e.symm)]

/-- Three stores write one item. -/
theorem owns_put3 {w : World} {base g cap n : Nat} {d : List It} (h : w.ownsRow base 62 3 (.slice (some ⟨g, 0, none⟩) n cap) n (d.flatMap itemC)) {j : Nat} (hj : j < d.length) (x : It) :
    (((w.setCell ⟨g, j * 3, none⟩ (.int .i64 x.1)).setCell ⟨g, j * 3 + 1, none⟩ (.int .i64 x.2.1)).setCell ⟨g, j * 3 + 2, none⟩ (.int .u64 x.2.2)).ownsRow base 62 3 (.slice (some ⟨g, 0, none⟩) n cap) n ((d.set j x).flatMap itemC) := by
  have hn : n = d.length := by
    have := h.1
    rw [flat_len itemC 3 itemC_len] at this
    omega
  have h3 := owns_set (owns_set (owns_set h (j := j * 3) (by omega) (.int .i64 x.1)) (j := j * 3 + 1) (by omega) (.int .i64 x.2.1)) (j := j * 3 + 2) (by omega) (.int .u64 x.2.2)
  have hl := flat_len itemC 3 itemC_len d
  rw [← flat_set itemC 3 itemC_len d j x ((((d.flatMap itemC).set (j * 3) (.int .i64 x.1)).set (j * 3 + 1) (.int .i64 x.2.1)).set (j * 3 + 2) (.int .u64 x.2.2)) (by simp only [List.length_set]) (fun k hk _ => ?_) (fun i k hk hi => ?_)]
  · exact h3
  · have : k = 0 ∨ k = 1 ∨ k = 2 := by omega
    rcases this with rfl | rfl | rfl
    · rw [List.getElem?_set_ne (by omega), List.getElem?_set_ne (by omega), Nat.add_zero, List.getElem?_set_self (by omega)]; rfl
    · rw [List.getElem?_set_ne (by omega), List.getElem?_set_self (by simp only [List.length_set]; omega)]; rfl
    · rw [List.getElem?_set_self (by simp only [List.length_set]; omega)]; rfl
  · rw [List.getElem?_set_ne (by omega), List.getElem?_set_ne (by omega), List.getElem?_set_ne (by omega)]

/-- The blocks of S' are of S, or new; no other block than those of S has turned. -/
structure Moved (S S' : Nat → Prop) (w w' : World) : Prop where
  chg : Chg S w w'
  sub : ∀ k, S' k → S k ∨ w.heap.size ≤ k
theorem Moved.refl (S : Nat → Prop) (w : World) : Moved S S w w := ⟨Chg.refl S w, fun _ h => .inl h⟩
theorem Moved.trans {S S' S'' : Nat → Prop} {a b c : World} (h : Moved S S' a b) (k : Moved S' S'' b c) : Moved S S'' a c where
  chg := ⟨k.chg.os.trans h.chg.os, k.chg.tape.trans h.chg.tape, k.chg.output.trans h.chg.output, Nat.le_trans h.chg.size k.chg.size, fun i hi hs =>
    (k.chg.block i (Nat.lt_of_lt_of_le hi h.chg.size) (fun x => (h.sub i x).elim hs (fun y => by omega))).trans (h.chg.block i hi hs)⟩
  sub i hi := (k.sub i hi).elim (fun x => h.sub i x) (fun x => .inr (Nat.le_trans h.chg.size x))
theorem Moved.ext {S S' : Nat → Prop} {a b c : World} (h : Moved S S' a b) (k : Ext b c) : Moved S S' a c := ⟨h.chg.ext k, h.sub⟩

theorem own_type {w : World} {base size n : Nat} {e : TypeId} {v : Value} {xs : List Value} (h : w.ownsRow base e size v n xs) {g : Nat} (hg : v.ownBlock = some g) : ∃ cur, Blk w g e cur := by
  rcases h.2 with ⟨rfl, _⟩ | ⟨g', cap, cur, rfl, _, hb, _⟩
  · simp [Value.ownBlock] at hg
  · simp [Value.ownBlock] at hg
    subst hg
    exact ⟨cur, hb⟩
theorem blk_ne {w : World} {a b : Nat} {s t : TypeId} {xs ys : Array Value} (h : Blk w a s xs) (k : Blk w b t ys) (hst : s ≠ t) : a ≠ b := by
  rintro rfl
  have h' : w.heap[a]? = some (.cells xs s (0, 0)) := h
  have k' : w.heap[a]? = some (.cells ys t (0, 0)) := k
  rw [h'] at k'
  simp at k'
  exact hst k'.2

section
variable {F : Nat} {w : World} {base q bo : Nat} {vI vS : Value} {d : List It} {sw : List (Int × Int)} {put : Int}
theorem Pile.bo_free (h : Pile w base q bo F vI vS d sw put) : ¬ own q vI vS bo := by
  rintro (e | e | e)
  · exact blk_ne h.ord h.blk (by decide) e
  · obtain ⟨cur, hb⟩ := own_type h.items e
    exact blk_ne h.ord hb (by decide) rfl
  · obtain ⟨cur, hb⟩ := own_type h.swaps e
    exact blk_ne h.ord hb (by decide) rfl
theorem Pile.vI_q (h : Pile w base q bo F vI vS d sw put) : vI.ownBlock ≠ some q := fun e => by
  obtain ⟨cur, hb⟩ := own_type h.items e
  exact blk_ne h.blk hb (by decide) rfl
theorem Pile.vS_q (h : Pile w base q bo F vI vS d sw put) : vS.ownBlock ≠ some q := fun e => by
  obtain ⟨cur, hb⟩ := own_type h.swaps e
  exact blk_ne h.blk hb (by decide) rfl
theorem Pile.vI_vS (h : Pile w base q bo F vI vS d sw put) {g : Nat} (e : vI.ownBlock = some g) : vS.ownBlock ≠ some g := fun e' => by
  obtain ⟨_, hb⟩ := own_type h.items e
  obtain ⟨_, hc⟩ := own_type h.swaps e'
  exact blk_ne hb hc (by decide) rfl
/-- A queue stands where nothing of its own turns. -/
theorem Pile.kept (h : Pile w base q bo F vI vS d sw put) {S : Nat → Prop} {w' : World} (c : Chg S w w') (hS : ∀ k, own q vI vS k → ¬ S k) (hb : ¬ S bo) : Pile w' base q bo F vI vS d sw put where
  blk := h.blk.chg c (hS q (.inl rfl))
  ord := h.ord.chg c hb
  items := owns_chg h.items c (fun k e => hS k (.inr (.inl e)))
  swaps := owns_chg h.swaps c (fun k e => hS k (.inr (.inr e)))
  hq := h.hq
theorem Pile.ext (h : Pile w base q bo F vI vS d sw put) {w' : World} (c : Ext w w') : Pile w' base q bo F vI vS d sw put :=
  h.kept (S := fun _ => False) (Chg.of_ext c) (fun _ _ x => x) (fun x => x)

/-- Six stores: two items change places. -/
theorem Pile.swp {g cap : Nat} (h : Pile w base q bo F (.slice (some ⟨g, 0, none⟩) d.length cap) vS d sw put) {i j : Nat} (hi : i < d.length) (hj : j < d.length) (x y : It)
    {w2 : World} (hw : w2 = ((((((w.setCell ⟨g, i * 3, none⟩ (.int .i64 y.1)).setCell ⟨g, i * 3 + 1, none⟩ (.int .i64 y.2.1)).setCell ⟨g, i * 3 + 2, none⟩ (.int .u64 y.2.2)).setCell ⟨g, j * 3, none⟩ (.int .i64 x.1)).setCell ⟨g, j * 3 + 1, none⟩ (.int .i64 x.2.1)).setCell ⟨g, j * 3 + 2, none⟩ (.int .u64 x.2.2)).drew) :
    Pile w2 base q bo F (.slice (some ⟨g, 0, none⟩) d.length cap) vS ((d.set i y).set j x) sw put ∧ Chg (own q (.slice (some ⟨g, 0, none⟩) d.length cap) vS) w w2 := by
  have c : Chg (fun k => k = g) w w2 := by
    rw [hw]
    exact ((((((Chg.refl _ w).setCell (by rfl) _).setCell (by rfl) _).setCell (by rfl) _).setCell (by rfl) _).setCell (by rfl) _).setCell (by rfl) _ |>.drew
  have hi2 := owns_put3 h.items hi y
  have hj2 := owns_put3 hi2 (j := j) (by simpa using hj) x
  have hg : (Value.slice (some ⟨g, 0, none⟩) d.length cap).ownBlock = some g := rfl
  have hq : ¬ q = g := fun e => h.vI_q (by rw [hg, e])
  have hb : ¬ bo = g := fun e => h.bo_free (.inr (.inl (by rw [hg, e])))
  refine ⟨⟨h.blk.chg c hq, h.ord.chg c hb, ?_, owns_chg h.swaps c (fun k e x => h.vI_vS hg (x ▸ e)), h.hq⟩, c.mono fun k _ e => .inr (.inl (by rw [hg, e]))⟩
  rw [hw]
  simpa using owns_drew hj2
end
end Go.Proofs.Ytlghkcamnfegdaa
