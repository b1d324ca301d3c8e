/-
  Walk of ArgsMore, for every command and every number.
-/
import Derived.Test.YtoknhfmgkgmlhaaDoorV3
import Derived.Test.YtoknhfmgkgmlhaaDoorP3
namespace Go.Proofs.YtoknhfmgkgmlhaaDoor
open Go.RowKit Go.Spy

theorem wpList_app {ops : Array Oper} {rest : List Oper} {o : Oper} {a : Act} {Q : Exit → Act → World → Prop} (hgd : o.guard = none) (s x : Operand)
    (ho : o.op = .call { callee := .builtin .append, args := #[s, x], argTypes := #[22, 22] })
    {w : World} {base : Nat} {v : Value} {ss : List ByteArray} (hown : w.ownsRow base 9 1 v ss.length (ss.map Value.string)) (hs : a.eval s = v)
    (ao : Addr) (m cap : Nat) (ts : List ByteArray) (hx : a.eval x = .slice (some ao) m cap) (hm : ts.length = m) (hc : ∀ i (h : i < ts.length), w.cell? (ao.add i) = some (.string ts[i]))
    (hl : ss.length + ts.length ≤ 1000) (hbase : base ≤ w.heap.size)
    (hK : ∀ v' w', w'.ownsRow base 9 1 v' (ss ++ ts).length ((ss ++ ts).map Value.string) → w.grownBy w' v.ownBlock → wpList Tryd.prog ops Q rest (a.put o.dst v') w') : wpList Tryd.prog ops Q (o :: rest) a w := by
  obtain ⟨i0, hi, hz0, hz1, hz2⟩ := info_parts info9
  subst hm
  refine wpList_append_own _ hgd s x 22 ho base 9 i0 (.string ⟨#[]⟩) 1 16 Tryd.underlying22 hi hz0 hz1 hz2 rfl (by decide) v ss.length (ss.map Value.string) hs hown ao ts.length cap (ts.map Value.string) hx (by simp) ?_ ?_ (by unfold maxLen; omega) (by omega) hbase ?_
  · intro j u hj
    have hjl : j < ts.length := by
      have := (List.getElem?_eq_some_iff.1 hj).1
      simpa using this
    rw [hc j hjl]
    simpa [hjl] using hj
  · intro u hu
    obtain ⟨_, _, rfl⟩ := List.mem_map.1 hu
    rfl
  · intro v' w' h1 h2 _
    exact hK v' w' (by simpa using h1) h2

theorem Cur.grown {w wi w' : World} {l : List (Nat × Array Value)} {row : Option Nat} (h : Cur w wi l) (hg : wi.grownBy w' row) (hr : ∀ k, row = some k → w.heap.size ≤ k ∧ ∀ p ∈ l, p.1 ≠ k) : Cur w w' l :=
  ⟨h.bel.grown hg h.bel.size (fun k hk => (hr k hk).1), fun p hp => (h.blk p hp).grown hg (fun e => (hr p.1 e.symm).2 p hp rfl)⟩
theorem StrsV.grown {w w' : World} {ao : Option Addr} {cap : Nat} {ss : List ByteArray} {row : Option Nat} (h : StrsV w ao cap ss) (hg : w.grownBy w' row) (hr : ∀ b off, ao = some ⟨b, off, none⟩ → row ≠ some b) : StrsV w' ao cap ss where
  len := h.len
  size := h.size
  cells h0 := by
    obtain ⟨b, off, ha, hb, hc⟩ := h.cells h0
    exact ⟨b, off, ha, Nat.lt_of_lt_of_le hb hg.size, fun i hi => (World.cell?_of_block (a := ⟨b, off + i, none⟩) (hg.block b hb (fun e => hr b off ha e.symm))).trans (hc i hi)⟩

set_option maxHeartbeats 1000000 in
theorem more_no (m : Int) (r : ByteArray) (v q : Bool) (n : Int) (w : World) (hM : ModesW w) (hr : r.size ≤ 9223372036854775807) (HM : Hid (mayB ⟨m, r, v, q⟩ = false)) :
    Calls Tryd.prog 6 #[.agg #[.int .i64 m, .string r, .bool v, .bool q], .int .i64 n] w fun e w' => e = .returned (.bool true) ∧ Ext w w' := by
  have HC := Cur.start w #[.int .i64 m, .string r, .bool v, .bool q]
  go_enter Tryd.func6, Tryd.ntmps6
  go_wp2_with (first
    | (go_at_call 11; (with_reducible refine (words_no_is hr (hM.ext HC.bel) HM.out).mono ?_); rintro e ww ⟨rfl, hx⟩; have HCn := HC.ext hx; clear HC; have HC := HCn; clear HCn)
    | (go_at_call 8; refine (awake_any _ (hM.ext HC.bel)).mono ?_; rintro e wz ⟨rfl, hy⟩; have HCn := HC.ext hy; clear HC; have HC := HCn; clear HCn))
  go_ret
  exact ⟨rfl, HC.bel⟩

set_option maxHeartbeats 1000000 in
theorem more_out (m : Int) (r : ByteArray) (v q : Bool) (n : Int) (w : World) (hM : ModesW w) (hr : r.size ≤ 100) (HM : Hid (mayB ⟨m, r, v, q⟩ = true)) (hn : n < 1 ∨ (wordsOf ⟨m, r, v, q⟩).length < n) :
    Calls Tryd.prog 6 #[.agg #[.int .i64 m, .string r, .bool v, .bool q], .int .i64 n] w fun e w' => e = .returned (.bool true) ∧ Ext w w' := by
  have HC := Cur.start w #[.int .i64 m, .string r, .bool v, .bool q]
  have hr' : r.size ≤ 9223372036854775807 := by omega
  by_cases h1 : n < 1
  all_goals
    obtain ⟨L, hL⟩ : ∃ L, L = (wordsOf ⟨m, r, v, q⟩).length := ⟨_, rfl⟩
    have HL := hid hL
    rw [← hL] at hn
    have hn2 : n < 1 ∨ (L : Int) < n := hn
    clear hL hn
    go_enter Tryd.func6, Tryd.ntmps6
    go_wp2_with (first
      | (go_at_call 11; (with_reducible refine (words_yes_is hr' (hM.ext HC.bel) HM.out).mono ?_); rintro e ww ⟨ao2, cap2, rfl, hcap2, hS2, hx⟩; rw [← HL.out] at *; have HCn := HC.ext hx; clear HC; have HC := HCn; clear HCn; have c1 : ww.cell? ⟨w.heap.size, 1, none⟩ = some (.string r) := HC.c (cs := #[.int .i64 m, .string r, .bool v, .bool q]) (by simp) rfl)
      | (go_at_call 8; refine (awake_any _ (hM.ext HC.bel)).mono ?_; rintro e wz ⟨rfl, hy⟩; have HCn := HC.ext hy; clear HC; have HC := HCn; clear HCn))
    go_ret
    exact ⟨rfl, HC.bel⟩

theorem drop_cells {w : World} {b off cap : Nat} {L : List ByteArray} (h : StrsV w (some ⟨b, off, none⟩) cap L) (n : Nat) {ao : Addr} (hao : n < L.length → ao = ⟨b, off + n, none⟩) (i : Nat) (hi : i < (L.drop n).length) :
    w.cell? (ao.add i) = some (.string (L.drop n)[i]) := by
  have hi' : n + i < L.length := by simp at hi; omega
  rw [hao (by omega), Addr.add_lit, Nat.add_assoc]
  obtain ⟨b3, off3, h1, h2, h3⟩ := h.cells (by omega)
  cases h1
  rw [h3 (n + i) hi']
  simp
theorem more_sizes {L : List ByteArray} (h : ∀ i (h : i < L.length), L[i].size ≤ 9223372036854775807) (n : Nat) (s : ByteArray) (hs : s ∈ L.take n ++ [dash] ++ L.drop n) : s.size ≤ 9223372036854775807 := by
  have hLs : ∀ s ∈ L, s.size ≤ 9223372036854775807 := fun s hs => by
    obtain ⟨i, hi, rfl⟩ := List.getElem_of_mem hs
    exact h i hi
  simp only [List.mem_append, List.mem_singleton] at hs
  rcases hs with (hs | rfl) | hs
  · exact hLs s (List.mem_of_mem_take hs)
  · decide
  · exact hLs s (List.mem_of_mem_drop hs)

theorem words_yes_L {m : Int} {r : ByteArray} {v q : Bool} {w : World} {L : List ByteArray} (HL : Hid (L = wordsOf ⟨m, r, v, q⟩)) (hr : r.size ≤ 9223372036854775807) (hM : ModesW w) (h : mayB ⟨m, r, v, q⟩ = true) :
    Calls Tryd.prog 11 #[.agg #[.int .i64 m, .string r, .bool v, .bool q]] w fun e w' => ∃ ao cap, e = .returned (.tuple #[.slice ao L.length cap, .int .i64 0]) ∧ L.length ≤ cap ∧ StrsV w' ao cap L ∧ Ext w w' := by
  have h0 := HL.out
  subst h0
  exact words_yes_is hr hM h

theorem root_lit : (wRoot.toList == [45, 114, 111, 111, 116]) = true := by rw [show wRoot.toList = [45, 114, 111, 111, 116] from ByteArray.toList_mk _]; rfl
theorem root_lit_no {s : ByteArray} (h : s ≠ wRoot) : (s.toList == [45, 114, 111, 111, 116]) = false := by
  rw [← show wRoot.toList = [45, 114, 111, 111, 116] from ByteArray.toList_mk _]; exact beqB_false h

set_option maxHeartbeats 1000000 in
theorem more_root (m : Int) (r : ByteArray) (v q : Bool) (j : Nat) (w : World) (hM : ModesW w) (hr : r.size ≤ 100) (HM : Hid (mayB ⟨m, r, v, q⟩ = true)) (L : List ByteArray) (HL : Hid (L = wordsOf ⟨m, r, v, q⟩)) (hj : j < L.length) (HJ : Hid (L[j] = wRoot)) :
    Calls Tryd.prog 6 #[.agg #[.int .i64 m, .string r, .bool v, .bool q], .int .i64 ((j : Int) + 1)] w fun e w' => e = .returned (.bool true) ∧ Ext w w' := by
  have HC := Cur.start w #[.int .i64 m, .string r, .bool v, .bool q]
  have hr' : r.size ≤ 9223372036854775807 := by omega
  have hrl := root_lit
  go_enter Tryd.func6, Tryd.ntmps6
  go_wp2_with (first
    | (go_at_call 11; (with_reducible refine (words_yes_L HL hr' (hM.ext HC.bel) HM.out).mono ?_); rintro e ww ⟨ao2, cap2, rfl, hcap2, hS2, hx⟩; have HCn := HC.ext hx; clear HC; have HC := HCn; clear HCn; have c1 : ww.cell? ⟨w.heap.size, 1, none⟩ = some (.string r) := HC.c (cs := #[.int .i64 m, .string r, .bool v, .bool q]) (by simp) rfl; obtain ⟨b2, off2, rfl, hb2, hcs2⟩ := hS2.cells (by omega); have hcj := hcs2 j hj; rw [HJ.out] at hcj; have hl2 := hS2.len; clear hcs2)
    | (go_at_call 8; refine (awake_any _ (hM.ext HC.bel)).mono ?_; rintro e wz ⟨rfl, hy⟩; have HCn := HC.ext hy; clear HC; have HC := HCn; clear HCn))
  go_ret
  exact ⟨rfl, HC.bel⟩

set_option maxHeartbeats 2000000 in
theorem more_main (m : Int) (r : ByteArray) (v q : Bool) (j : Nat) (w : World) (hM : ModesW w) (hr : r.size ≤ 100) (HM : Hid (mayB ⟨m, r, v, q⟩ = true)) (L : List ByteArray) (HL : Hid (L = wordsOf ⟨m, r, v, q⟩)) (hj : j < L.length) (hJ : L[j] ≠ wRoot) :
    Calls Tryd.prog 6 #[.agg #[.int .i64 m, .string r, .bool v, .bool q], .int .i64 ((j : Int) + 1)] w fun e w' => e = .returned (.bool true) ∧ Ext w w' := by
  have HC := Cur.start w #[.int .i64 m, .string r, .bool v, .bool q]
  have hr' : r.size ≤ 9223372036854775807 := by omega
  have HP : Hid (parseL (L.take (j + 1) ++ [dash] ++ L.drop (j + 1)) = (zeroC, j + 1, 12)) := by
    have h0 := HL.out
    subst h0
    exact more_parse HM.out (j + 1) (by omega) (by omega) (fun s hs => by simp only [Nat.add_sub_cancel] at hs; rw [List.getElem?_eq_getElem hj] at hs; cases hs; exact hJ)
  have hlen : L.length ≤ 6 := by rw [HL.out]; unfold wordsOf; split <;> split <;> split <;> simp
  obtain ⟨s, hs⟩ : ∃ s, s = L[j] := ⟨_, rfl⟩
  have HS := hid hs
  rw [← hs] at hJ
  have hrl := root_lit_no hJ
  clear hs hJ
  go_enter Tryd.func6, Tryd.ntmps6
  go_wp2_with (first
    | (go_at_call 11; (with_reducible refine (words_yes_L HL hr' (hM.ext HC.bel) HM.out).mono ?_); rintro e ww ⟨ao2, cap2, rfl, hcap2, hS2, hx⟩; have HCn := HC.ext hx; clear HC; have HC := HCn; clear HCn; have c1 : ww.cell? ⟨w.heap.size, 1, none⟩ = some (.string r) := HC.c (cs := #[.int .i64 m, .string r, .bool v, .bool q]) (by simp) rfl; obtain ⟨b2, off2, rfl, hb2, hcs2⟩ := hS2.cells (by omega); have hcj := hcs2 j hj; rw [← HS.out] at hcj; have hl2 := hS2.len; have HCS := hid hcs2; clear hcs2; have hjc : j + 1 ≤ cap2 := (by omega); have hw0 := (HC.blk _ (List.mem_singleton.2 rfl)).lt; rcases (show cap2 = j + 1 ∨ ¬ cap2 = j + 1 by omega) with rfl | hcn)
    | (at_builtin
       refine wpList_app (ss := []) rfl (.tmp 43) (.tmp 46) rfl (World.ownsRow_nil ww ww.heap.size 9 1) rfl ⟨b2, off2, none⟩ (j + 1) _ (L.take (j + 1)) rfl (by simp <;> omega) (fun i hi => by rw [Addr.add_lit]; simpa using HCS.out i (by simp at hi; omega)) (by simp <;> omega) (Nat.le_refl _) ?_
       intro v1 w1 hown1 hg1
       simp only [List.nil_append] at hown1
       have HC1 := HC.grown hg1 (fun k hk => by simp [Value.ownBlock] at hk)
       have hS3 := StrsV.grown hS2 hg1 (fun _ _ _ => by simp [Value.ownBlock])
       have HS3 := hid hS3.cells
       have hsz1 := hg1.size
       clear HC hS2 hcj c1)
    | (at_builtin
       refine wpList_app rfl (.tmp 48) (.tmp 49) rfl (hown1.alloc _) rfl ⟨w1.heap.size, 0, none⟩ 1 _ [dash] rfl rfl (fun i hi => by rw [Addr.add_lit, World.cell?_alloc_at _ _ _ _ (by simp)]; obtain rfl : i = 0 := (by simpa using hi); rfl) (by simp <;> omega) (by simp <;> omega) ?_
       intro v2 w2 hown2 hg2
       have hv1 : ∀ k, v1.ownBlock = some k → ww.heap.size ≤ k := fun k hk => (hown1.lt k hk).1
       have HC2 := (HC1.alloc _).grown hg2 (fun k hk => ⟨by have := hv1 k hk; omega, fun p hp => by simp at hp; subst hp; have := hv1 k hk; simp; omega⟩)
       have hS4 := StrsV.grown (StrsV.alloc hS3 _) hg2 (fun b' off' e h2 => by cases e; have := hv1 _ h2; omega)
       have hsz2 := hg2.size
       simp only [World.size_alloc] at hsz2
       have HOW := hid hown2
       have HS4 := hid hS4
       clear HC1 hS3 hown1 hg1 hg2 HS3 hown2 hS4)
    | (at_builtin
       refine wpList_app rfl (.tmp 51) (.tmp 54) rfl HOW.out rfl _ _ _ (L.drop (j + 1)) rfl (by simp <;> omega) (drop_cells HS4.out (j + 1) (fun h => by first | rfl | omega)) (by simp <;> omega) (by omega) ?_
       intro v3 w3 hown3 hg3
       have hv2 : ∀ k, v2.ownBlock = some k → ww.heap.size ≤ k := fun k hk => (HOW.out.lt k hk).1
       have HC3 := HC2.grown hg3 (fun k hk => ⟨by have := hv2 k hk; omega, fun p hp => by simp at hp; subst hp; have := hv2 k hk; simp <;> omega⟩)
       have hS5 := strs_of_owns hown3 (by simp <;> omega) (more_sizes HS4.out.size (j + 1))
       obtain ⟨ao3, cap3, hv3, _, hS6⟩ := hS5
       subst hv3
       clear HC2 hown3 hg3 HOW)
    | (go_at_call 9
       refine (parse_is hS6 (hM.ext HC3.bel) HP.out (by simp <;> omega)).mono ?_
       rintro e wp ⟨rfl, hy⟩
       have HC4 := HC3.ext hy
       have HC5 := HC4.alloc (.cells #[.int .i64 0, .string ⟨#[]⟩, .bool false, .bool false] 26)
       simp only [zeroC]
       clear hy hS6)
    | (go_at_call 8; refine (awake_any _ (hM.ext HC5.bel)).mono ?_; rintro e wz ⟨rfl, hz⟩; have HC6 := HC5.ext hz))
  all_goals go_ret
  all_goals exact ⟨rfl, HC6.bel⟩

theorem more_any (m : Int) (r : ByteArray) (v q : Bool) (n : Int) (w : World) (hM : ModesW w) (hr : r.size ≤ 9223372036854775807) (_hb : -9223372036854775808 ≤ n ∧ n ≤ 9223372036854775807) :
    Calls Tryd.prog 6 #[.agg #[.int .i64 m, .string r, .bool v, .bool q], .int .i64 n] w fun e w' => e = .returned (.bool true) ∧ Ext w w' := by
  cases hm : mayB ⟨m, r, v, q⟩
  · exact more_no m r v q n w hM hr hm
  · have hs := may_size hm
    simp only at hs
    by_cases hn : n < 1 ∨ ((wordsOf ⟨m, r, v, q⟩).length : Int) < n
    · exact more_out m r v q n w hM (by omega) hm hn
    · obtain ⟨j, rfl⟩ : ∃ j : Nat, n = (j : Int) + 1 := ⟨(n - 1).toNat, by omega⟩
      have hj : j < (wordsOf ⟨m, r, v, q⟩).length := by omega
      by_cases hJ : (wordsOf ⟨m, r, v, q⟩)[j] = wRoot
      · exact more_root m r v q j w hM (by omega) hm _ (hid rfl) hj hJ
      · exact more_main m r v q j w hM (by omega) hm _ (hid rfl) hj hJ
end Go.Proofs.YtoknhfmgkgmlhaaDoor
