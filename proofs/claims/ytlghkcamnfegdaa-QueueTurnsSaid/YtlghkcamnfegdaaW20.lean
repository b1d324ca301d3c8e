/-
  The queue seat: a list without one of its things.
-/
import Derived.Test.YtlghkcamnfegdaaW19
namespace Go.Proofs.Ytlghkcamnfegdaa
open Go.RowKit Go.Spy Go.Heaped

theorem flat_take {α β : Type} (f : α → List β) (s : Nat) (hf : ∀ x, (f x).length = s) (d : List α) (i : Nat) (hi : i ≤ d.length) : (d.take i).flatMap f = (d.flatMap f).take (i * s) := by
  have e : d.flatMap f = (d.take i).flatMap f ++ (d.drop i).flatMap f := by rw [← List.flatMap_append, List.take_append_drop]
  rw [e, List.take_left' (by rw [flat_len f s hf, List.length_take, Nat.min_eq_left hi])]
theorem flat_drop {α β : Type} (f : α → List β) (s : Nat) (hf : ∀ x, (f x).length = s) (d : List α) (i : Nat) (hi : i ≤ d.length) : (d.drop i).flatMap f = (d.flatMap f).drop (i * s) := by
  have e : d.flatMap f = (d.take i).flatMap f ++ (d.drop i).flatMap f := by rw [← List.flatMap_append, List.take_append_drop]
  rw [e, List.drop_left' (by rw [flat_len f s hf, List.length_take, Nat.min_eq_left hi])]

/-- Things come behind things, as the walk takes it. -/
theorem wpList_things {w0 : World} {base n : Nat} {v : Value} {ts : List (Int × Int)} (hown : Hid (w0.ownsRow base 33 2 v n (ts.flatMap pairC))) (hb : base ≤ w0.heap.size) (m : Nat) (hn : n + m ≤ 1000000000) (ad : Addr) (c : Nat) (ts2 : List (Int × Int)) (hm : Hid (ts2.length = m))
    (hnews : Hid (∀ j u, (ts2.flatMap pairC)[j]? = some u → w0.cell? (ad.add j) = some u))
    {ops : Array Oper} {rest : List Oper} {o : Oper} {a : Act} {Q : Exit → Act → World → Prop} (hgd : o.guard = none) (s x : Operand)
    (ho : o.op = .call { callee := .builtin .append, args := #[s, x], argTypes := #[26, 26] }) (hs : a.eval s = v) (hx : a.eval x = .slice (some ad) m c)
    (hK : ∀ (v' : Value) (w4 : World), Hid (w4.ownsRow base 33 2 v' (n + m) ((ts ++ ts2).flatMap pairC)) → Hid (w0.grownBy w4 v.ownBlock) →
      wpList Try.prog ops Q rest (a.put o.dst v') w4) :
    wpList Try.prog ops Q (o :: rest) a w0 := by
  obtain ⟨i0, hti, hz0, hz1, hz2⟩ := info_parts Try.info33
  refine wpList_append_own _ hgd s x 26 ho base 33 i0 _ 2 16 Try.underlying26 hti hz0 hz1 hz2 rfl (by decide) v n (ts.flatMap pairC) hs hown.out ad m c (ts2.flatMap pairC) hx ?_ hnews.out ?_ (by unfold maxLen; omega) (by omega) hb ?_
  · rw [flat_len pairC 2 pairC_len, hm.out]
  · intro u hu
    rw [List.mem_flatMap] at hu
    obtain ⟨p, _, hp⟩ := hu
    simp [pairC] at hp
    rcases hp with rfl | rfl <;> rfl
  · intro v' w4 h1 h2 _
    exact hK v' w4 (hid (by rw [List.flatMap_append]; exact h1)) (hid h2)

theorem add_lit0 (g k : Nat) (j : Nat) : (⟨g, k, none⟩ : Addr).add j = ⟨g, k + j, none⟩ := by unfold Addr.add; split <;> simp_all
theorem R.news_take {w : World} {g n cap : Nat} {ts : List (Int × Int)} (h : w.ownsRow 0 33 2 (.slice (some ⟨g, 0, none⟩) n cap) n (ts.flatMap pairC)) (i : Nat) (hi : i ≤ ts.length) :
    ∀ j u, ((ts.take i).flatMap pairC)[j]? = some u → w.cell? ((⟨g, 0, none⟩ : Addr).add j) = some u := by
  intro j u hu
  rw [flat_take pairC 2 pairC_len _ _ hi, List.getElem?_take] at hu
  split at hu
  · exact h.cells rfl j u hu
  · cases hu
theorem R.news_drop {w : World} {g n cap : Nat} {ts : List (Int × Int)} (h : w.ownsRow 0 33 2 (.slice (some ⟨g, 0, none⟩) n cap) n (ts.flatMap pairC)) (i : Nat) (hi : i ≤ ts.length) :
    ∀ j u, ((ts.drop i).flatMap pairC)[j]? = some u → w.cell? ((⟨g, i * 2, none⟩ : Addr).add j) = some u := by
  intro j u hu
  rw [flat_drop pairC 2 pairC_len _ _ hi, List.getElem?_drop] at hu
  have := h.cells rfl _ u hu
  rw [add_lit0] at this ⊢
  simpa using this

set_option maxRecDepth 100000 in
set_option maxHeartbeats 800000 in
theorem out_any {w : World} {u : Value} {ts : List (Int × Int)} (h1 : R w u ts) (hl : ts.length ≤ 1000000) (i : Nat) (hi : i < ts.length) :
    Calls Try.prog 23 #[u, .int .i64 i] w fun e w' => MadePost w (ts.eraseIdx i) e w' := by
  obtain ⟨ao, ca, rfl, hca, ha⟩ := slice_form h1
  obtain ⟨g1, rfl⟩ := ha (by omega)
  have N1 := hid (R.news_take h1 i (by omega))
  have L1 : Hid ((ts.take i).length = i) := hid (by simp; omega)
  have Z : Hid (w.ownsRow w.heap.size 33 2 (.slice none 0 0) 0 (([] : List (Int × Int)).flatMap pairC)) := hid (World.ownsRow_nil _ _ 33 2)
  go_enter Try.func23, Try.ntmps23
  by_cases hc : ca = i + 1
  · subst hc
    have hle : ts.length = i + 1 := by omega
    have hl0 : ts.length - (i + 1) = 0 := by omega
    have HL := hid hle
    clear hle
    have L2 : Hid (([] : List (Int × Int)).length = 0) := hid rfl
    go_wp2_with (first | (at_builtin; refine wpList_things Z (Nat.le_refl _) i (by omega) ⟨g1, 0, none⟩ (i + 1) (ts.take i) L1 N1 rfl (.tmp 6) (.tmp 9) rfl rfl rfl ?_; intro v' w4 H1 H2; rw [Nat.zero_add, List.nil_append] at H1; have hE : Ext w w4 := ext_grown (Below.refl _ _) H2.out (fun k hk => by cases hk); have hsz := hE.size; have N2 := hid (R.news_drop (h1.ext hE) (i + 1) (by omega))) | (at_builtin; refine wpList_things H1 hsz 0 (by omega) ⟨g1, 0, none⟩ 0 [] L2 (hid (fun j u hu => by simp at hu)) rfl (.tmp 11) (.tmp 15) rfl rfl rfl ?_; intro v2 w5 H3 H4))
    go_ret
    refine ⟨_, rfl, ?_, ext_grown hE H4.out (fun k hk => (H1.out.lt k hk).1)⟩
    have := H3.out
    rw [show ([] : List (Int × Int)) = ts.drop (i + 1) from (List.drop_of_length_le (by rw [HL.out]; exact Nat.le_refl _)).symm, ← List.eraseIdx_eq_take_drop_succ] at this
    exact owns_len this
  · have L2 : Hid ((ts.drop (i + 1)).length = ts.length - (i + 1)) := hid (by simp)
    go_wp2_with (first | (at_builtin; refine wpList_things Z (Nat.le_refl _) i (by omega) ⟨g1, 0, none⟩ ca (ts.take i) L1 N1 rfl (.tmp 6) (.tmp 9) rfl rfl rfl ?_; intro v' w4 H1 H2; rw [Nat.zero_add, List.nil_append] at H1; have hE : Ext w w4 := ext_grown (Below.refl _ _) H2.out (fun k hk => by cases hk); have hsz := hE.size; have N2 := hid (R.news_drop (h1.ext hE) (i + 1) (by omega))) | (at_builtin; refine wpList_things H1 hsz (ts.length - (i + 1)) (by omega) ⟨g1, (i + 1) * 2, none⟩ (ca - (i + 1)) (ts.drop (i + 1)) L2 N2 rfl (.tmp 11) (.tmp 15) rfl rfl rfl ?_; intro v2 w5 H3 H4))
    go_ret
    refine ⟨_, rfl, ?_, ext_grown hE H4.out (fun k hk => (H1.out.lt k hk).1)⟩
    have := H3.out
    rw [← List.eraseIdx_eq_take_drop_succ] at this
    exact owns_len this
end Go.Proofs.Ytlghkcamnfegdaa
