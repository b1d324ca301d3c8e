/-
  Walk of Within.
  Walk of Both.
  Plain laws for the statements: Not and Within in words, rows ahead of rows.
-/
import Derived.Test.YtngpjagpeblbjaaGreatDoorY25
import Derived.Test.YtngpjagpeblbjaaGreatDoorY26
namespace Go.Proofs.YtngpjagpeblbjaaGreatDoor
open Go.RowKit Go.Spy Go.Heaped Go.Tour Go.Rx

def WithinPost (A B : DA) (w : World) (e : Ending) (w' : World) : Prop := Ext w w' ∧
  ((∃ v u, e = .returned (.tuple #[v, .bool false, .int .i64 0]) ∧ ReadR w' 1 strC v (wordsOf A.syms u) ∧ u.length ≤ 100000 ∧ (∀ c ∈ u, c < A.syms.length) ∧ langD A u = true ∧ matchD B (wordsOf A.syms u) = false ∧ ∀ x, (∀ c ∈ x, c < A.syms.length) → langD A x = true → matchD B (wordsOf A.syms x) = false → sle u x) ∨
   (e = .returned (.tuple #[.slice none 0 0, .bool true, .int .i64 0]) ∧ ∀ x, (∀ c ∈ x, c < A.syms.length) → langD A x = true → matchD B (wordsOf A.syms x) = true))
theorem passP {A B : DA} (WA : WellD nameOk A) (WB : WellD nameOk B) (u : List Nat) (hu : ∀ c ∈ u, c < A.syms.length) :
    (finS A (runL (goP A B A.syms) zeroP u).1.1 && !finS B (runL (goP A B A.syms) zeroP u).1.2) = (langD A u && !matchD B (wordsOf A.syms u)) := by
  rw [runP WA WB A.syms u zeroP hu, ← match_words WA.rising.nodup hu]
  rfl

set_option maxRecDepth 100000 in
set_option maxHeartbeats 2000000 in
theorem within_any {w : World} {xA xB : Array Value} {A B : DA} (hA : DfaW w (.agg xA) A) (hB : DfaW w (.agg xB) B) : Calls Tryz.prog 17 #[.agg xA, .agg xB] w (WithinPost A B w) := by
  have HA := hid hA
  have HB := hid hB
  have HC : Hid (∀ W, Ext w W → Calls Tryz.prog 44 #[.agg xA, .agg xB] W (ErrP 0 W)) := hid fun W e => by
    have h := checked_any (hA.at_.ext e) hA.bnd (hB.at_.ext e) hB.bnd
    rwa [show check2E A.raw B.raw = 0 by unfold check2E; rw [well_check hA.well, if_pos rfl, well_check hB.well]] at h
  obtain ⟨aoS, n1, cS, aoN, n2, cN, aoF, n3, cF, rfl⟩ := hA.open_
  obtain ⟨aoS2, m1, cS2, aoN2, m2, cN2, aoF2, m3, cF2, rfl⟩ := hB.open_
  have hSY : ReadR w 1 strC (.slice aoS n1 cS) A.syms := by
    obtain ⟨⟨vS, vN, vF, us, e, hP⟩, _, _⟩ := hA
    simp only [Value.agg.injEq, Array.mk.injEq, List.cons.injEq, and_true] at e
    obtain ⟨rfl, rfl, rfl⟩ := e
    exact hP.syms
  have HSY := hid hSY
  have HPA := hid (fun W (e : Ext w W) => pairs_any (hA.ext e) (hB.ext e) aoS n1 cS)
  clear hA hB hSY
  obtain ⟨xA, hxA⟩ : ∃ x, x = #[Value.slice aoS n1 cS, .slice aoN n2 cN, .slice aoF n3 cF] := ⟨_, rfl⟩
  obtain ⟨xB, hxB⟩ : ∃ x, x = #[Value.slice aoS2 m1 cS2, .slice aoN2 m2 cN2, .slice aoF2 m3 cF2] := ⟨_, rfl⟩
  obtain ⟨w1, hw1⟩ : ∃ u, u = (w.alloc (.cells #[Value.slice aoS n1 cS, .slice aoN n2 cN, .slice aoF n3 cF] 26)).alloc (.cells #[.slice aoS2 m1 cS2, .slice aoN2 m2 cN2, .slice aoF2 m3 cF2] 26) := ⟨_, rfl⟩
  have HX1 : Hid (Ext w w1) := hid (hw1 ▸ ((Below.refl _ _).alloc (Nat.le_refl _) _).alloc (by simp) _)
  have HBA : Hid (Blk w1 w.heap.size 26 #[Value.slice aoS n1 cS, .slice aoN n2 cN, .slice aoF n3 cF]) := hid (hw1 ▸ (Blk.new _ _ _).alloc _)
  have HBB : Hid (Blk w1 (w.heap.size + 1) 26 #[.slice aoS2 m1 cS2, .slice aoN2 m2 cN2, .slice aoF2 m3 cF2]) := hid (hw1 ▸ Blk.new' _ _ _ (by simp))
  have HW1 := hid hw1
  clear hxA hxB xA xB hw1
  go_enter Tryz.func17, Tryz.ntmps17
  go_wp2_with fail
  rw [← HW1.out]
  refine (HC.out w1 HX1.out).mono ?_
  rintro e w2 ⟨rfl, hx⟩
  have HX2 := hid (HX1.out.trans (hx.mono HX1.out.size))
  have hba := HBA.out.ext hx
  have hbb := HBB.out.ext hx
  have HBA2 := hid hba
  have HBB2 := hid hbb
  have a0 : w2.cell? ⟨w.heap.size, 0, none⟩ = some (.slice aoS n1 cS) := hba.cell (i := 0) rfl
  have a1 : w2.cell? ⟨w.heap.size, 1, none⟩ = some (.slice aoN n2 cN) := hba.cell (i := 1) rfl
  have a2 : w2.cell? ⟨w.heap.size, 2, none⟩ = some (.slice aoF n3 cF) := hba.cell (i := 2) rfl
  have b0 : w2.cell? ⟨w.heap.size + 1, 0, none⟩ = some (.slice aoS2 m1 cS2) := hbb.cell (i := 0) rfl
  have b1 : w2.cell? ⟨w.heap.size + 1, 1, none⟩ = some (.slice aoN2 m2 cN2) := hbb.cell (i := 1) rfl
  have b2 : w2.cell? ⟨w.heap.size + 1, 2, none⟩ = some (.slice aoF2 m3 cF2) := hbb.cell (i := 2) rfl
  have la := hba.lt
  have lb := hbb.lt
  clear hx hba hbb
  go_wp2_with fail
  refine (HPA.out w2 HX2.out).mono ?_
  rintro e w3 ⟨rfl, hx3, hp1, hp2, hp3⟩
  have HX3 := hid (HX2.out.trans (hx3.mono HX2.out.size))
  have HBA3 := hid (HBA2.out.ext hx3)
  have HBB3 := hid (HBB2.out.ext hx3)
  have HT := hid (tour_pp (w := w3) HA.out.well HB.out.well (syms := A.syms) HA.out.bnd.s 9223372036854775807 (by decide) (next_ok_pr hp3 (HSY.out.ext HX3.out) HA.out.bnd.s (HA.out.ext HX3.out) hp1 (HB.out.ext HX3.out) hp2))
  clear hx3 hp1 hp2 hp3 a0 a1 a2 b0 b1 b2
  go_wp2_with fail
  refine HT.out.mono ?_
  rintro e w4 ⟨hx4, ⟨i, vK, vN, vF, hfull, hi, rfl, hT⟩ | ⟨i, hi, _⟩⟩
  rotate_left
  · exfalso
    have := tourP_le HA.out.well HB.out.well A.syms i
    have h4 : (9223372036854775807 : Nat) < 66049 := by omega
    exact absurd h4 (by decide)
  clear hi
  obtain ⟨aoK, cK, rfl, hK⟩ := (OwnR.read hT.keys okP.size).form
  obtain ⟨us3, hn3, hu3, hr3⟩ := hT.next
  obtain ⟨aoM, cM, rfl, -⟩ := (OwnR.read hn3 (fun _ => rfl)).form
  obtain ⟨aoG, cG, rfl, -⟩ := (OwnR.read hT.from_ (fun _ => rfl)).form
  have HTK := hid (OwnR.read hT.keys okP.size)
  have HTF := hid (OwnR.read hT.from_ (fun _ => rfl))
  have HFULL := hid hfull
  have HX4 := hid (HX3.out.trans (hx4.mono HX3.out.size))
  have HBA4 := hid (HBA3.out.ext hx4)
  have HBB4 := hid (HBB3.out.ext hx4)
  clear hx4 hK hn3 hu3 hr3 hT hfull
  have hkl0 := tourP_le HA.out.well HB.out.well A.syms i
  have hfl0 := tourN_from_len (succP A B A.syms) zeroP i
  obtain ⟨kl, hkl⟩ : ∃ n, n = (tourN (succP A B A.syms) zeroP i).keys.length := ⟨_, rfl⟩
  obtain ⟨fl, hfl⟩ : ∃ n, n = (tourN (succP A B A.syms) zeroP i).from_.length := ⟨_, rfl⟩
  rw [← hkl] at HTK ⊢
  rw [← hfl] at HTF ⊢
  have hkl1 : kl ≤ 66049 := by omega
  have HKL := hid hkl
  have HFL := hid hfl
  have HKF : Hid (fl = kl) := hid (by omega)
  clear hkl hfl hkl0 hfl0
  have hlt4 := HBA4.out.lt
  have hlt5 := HBB4.out.lt
  have HU : Hid (∀ k ∈ (tourN (succP A B A.syms) zeroP i).keys, OkQ A B k) := hid (tourN_univ (U := OkQ A B) (zeroP_okQ HA.out.well HB.out.well) (succP_okQ HA.out.well HB.out.well A.syms) i)
  go_wp2_with fail
  obtain ⟨w5, hw5⟩ : ∃ u, u = w4.alloc (.cells #[.slice aoK kl cK, .slice aoM us3.length cM, .slice aoG fl cG] 80) := ⟨_, rfl⟩
  rw [← hw5]
  have e5 : Ext w4 w5 := hw5 ▸ (Below.refl _ _).alloc (Nat.le_refl _) _
  have HB5 : Hid (Blk w5 w4.heap.size 80 #[.slice aoK kl cK, .slice aoM us3.length cM, .slice aoG fl cG]) := hid (hw5 ▸ Blk.new _ _ _)
  have HE5 := hid e5
  have HX5 := hid (HX4.out.trans (e5.mono HX4.out.size))
  have HBA5 := hid (HBA4.out.ext e5)
  have HBB5 := hid (HBB4.out.ext e5)
  clear e5 hw5
  refine (indexfunc_pr (HTK.out.ext HE5.out) (by rw [← HKL.out]; omega) enters56 (fun p => finS A p.1.1 && !finS B p.1.2) (fun z w' hz e => ?_)).mono ?_
  · have hk := HU.out z hz
    exact within1_any ((HA.out.ext HX5.out).ext e) (HBA5.out.ext e) ((HB.out.ext HX5.out).ext e) (HBB5.out.ext e) z hk.1.1 hk.1.2
  rintro e w6 ⟨hx6, hidx⟩
  have HX6 := hid (HX5.out.trans (hx6.mono HX5.out.size))
  have HE6 := hid (HE5.out.trans (hx6.mono HE5.out.size))
  have HB6 := hid (HB5.out.ext hx6)
  have HBA6 := hid (HBA5.out.ext hx6)
  rcases hidx with ⟨n, q, rfl, hq, h2, h3⟩ | ⟨rfl, h1⟩
  · have hd : decide ((n : Int) < 0) = false := decide_eq_false (by omega)
    have HQ := hid hq
    have H2 := hid h2
    have H3 := hid h3
    have d0 : w6.cell? ⟨w4.heap.size, 0, none⟩ = some (.slice aoK kl cK) := HB6.out.cell rfl
    have d1 : w6.cell? ⟨w4.heap.size, 1, none⟩ = some (.slice aoM us3.length cM) := HB6.out.cell rfl
    have d2 : w6.cell? ⟨w4.heap.size, 2, none⟩ = some (.slice aoG fl cG) := HB6.out.cell rfl
    have d3 : w6.cell? ⟨w.heap.size, 0, none⟩ = some (.slice aoS n1 cS) := HBA6.out.cell rfl
    have hl6 := HBA6.out.lt
    have hl7 := HB6.out.lt
    have hnf : n < fl := by rw [HKF.out, HKL.out]; exact (List.getElem?_eq_some_iff.1 hq).1
    have HWD := hid (words_pr (vK := .slice aoK kl cK) (vN := .slice aoM us3.length cM) (HTF.out.ext HE6.out) (HSY.out.ext HX6.out) (by rw [← HFL.out]; have := HKF.out; omega) HA.out.bnd.s HFULL.out.bfs n (by rw [← HFL.out]; exact hnf))
    clear hx6 hq h2 h3
    go_wp2_with fail
    refine HWD.out.mono ?_
    rintro e w7 ⟨hx7, v, rfl, hO⟩
    have HX7 := hid (HX6.out.trans (hx7.mono HX6.out.size))
    have HO := hid hO
    clear hx7 hO
    go_wp2_with fail
    go_ret3
    obtain ⟨r1, r2, r3⟩ := full_least (δ := goP A B A.syms) (m := A.syms.length) HFULL.out (fun p => finS A p.1.1 && !finS B p.1.2) HQ.out (fun j y hj hy => H3.out j y hj hy)
    have h4 := passP HA.out.well HB.out.well _ r2
    have h5 := H2.out
    rw [← r1] at h5
    rw [h5] at h4
    have h6 := Bool.and_eq_true_iff.1 h4.symm
    refine ⟨HX7.out, .inl ⟨v, _, rfl, OwnR.read HO.out strC_size, by have h1 := wordF_len (tourN (succP A B A.syms) zeroP i).from_ n n; have h2 := HKF.out; unfold word; omega, r2, h6.1, by simpa using h6.2, fun x hx hl hm => r3 x hx ?_⟩⟩
    have h7 := passP HA.out.well HB.out.well x hx
    rw [hl, hm] at h7
    exact h7
  · have HN := hid h1
    clear hx6 h1
    go_wp2_with fail
    go_ret3
    refine ⟨HX6.out, .inr ⟨rfl, fun x hx hl => ?_⟩⟩
    have h7 := passP HA.out.well HB.out.well x hx
    rw [hl, full_none (δ := goP A B A.syms) (m := A.syms.length) HFULL.out (fun p => finS A p.1.1 && !finS B p.1.2) HN.out x hx] at h7
    simpa using h7.symm
end Go.Proofs.YtngpjagpeblbjaaGreatDoor
namespace Go.Proofs.YtngpjagpeblbjaaGreatDoor
open Go.RowKit Go.Spy Go.Heaped Go.Tour Go.Rx

def bothF (A B : DA) (p : Pr) : Bool := finS A p.1.1 && finS B p.1.2
end Go.Proofs.YtngpjagpeblbjaaGreatDoor
namespace Go.Proofs.YtngpjagpeblbjaaGreatDoor
open Go.RowKit Go.Spy Go.Heaped Go.Tour Go.Rx

theorem idx_lt {σ : Type} [DecidableEq σ] {l : List σ} {a : σ} (h : a ∈ l) : l.idxOf a < l.length := List.idxOf_lt_length_of_mem h
theorem aheadW_idx {syms : List ByteArray} (hr : Rising syms) : ∀ {u v : List Nat}, (∀ c ∈ u, c < syms.length) → (∀ c ∈ v, c < syms.length) → aheadW (wordsOf syms u) (wordsOf syms v) = aheadL u v
  | [], v, _, _ => by cases v <;> simp [wordsOf, aheadW, aheadL]
  | c :: u, [], hu, _ => by rw [wordsOf_cons (hu c (by simp))]; simp [wordsOf, aheadW, aheadL]
  | c :: u, d :: v, hu, hv => by
    have hc := hu c (by simp)
    have hd := hv d (by simp)
    rw [wordsOf_cons hc, wordsOf_cons hd]
    simp only [aheadW, aheadL]
    have ih := aheadW_idx hr (u := u) (v := v) (fun x hx => hu x (by simp [hx])) (fun x hx => hv x (by simp [hx]))
    by_cases e : c = d
    · subst e
      simp [ih]
    · have hne : syms[c] ≠ syms[d] := fun h => e (by
        have h1 := idx_of_get hr.nodup (List.getElem?_eq_getElem hc)
        have h2 := idx_of_get hr.nodup (List.getElem?_eq_getElem hd)
        rw [← h1, ← h2, h])
      rw [if_neg hne, if_neg e]
      by_cases h : c < d
      · rw [decide_eq_true h, (hr.lt_iff (List.getElem?_eq_getElem hc) (List.getElem?_eq_getElem hd)).2 h]
      · rw [decide_eq_false h, ← Bool.not_eq_true]
        exact fun h' => h ((hr.lt_iff (List.getElem?_eq_getElem hc) (List.getElem?_eq_getElem hd)).1 h')

section
variable {D : DA}
theorem finD_not (W : WellD nameOk D) {s : Nat} (hs : s < D.next.length) : finD (notD D) s = !finD D s := by
  unfold finD notD
  have h : s < D.fin.length := by rw [W.ok.fin]; exact hs
  simp [h]
theorem langD_not (W : WellD nameOk D) {u : List Nat} (hu : ∀ c ∈ u, c < D.syms.length) : langD (notD D) u = !langD D u := by
  unfold langD
  rw [lang_of hu, lang_of (f := finD (notD D)) (m := (notD D).syms.length) hu]
  exact finD_not W (W.ok.run u W.ok.pos)
theorem match_not (W : WellD nameOk D) {u : List Nat} (hu : ∀ c ∈ u, c < D.syms.length) : matchD (notD D) (wordsOf D.syms u) = !langD D u := by
  rw [← langD_not W hu]
  exact match_words (d := notD D) W.rising.nodup hu
/-- What is matched is words of its own. -/
theorem match_own (W : WellD nameOk D) {l : List ByteArray} (h : matchD D l = true) : ∃ x, l = wordsOf D.syms x ∧ (∀ c ∈ x, c < D.syms.length) ∧ langD D x = true := by
  have hin : ∀ a ∈ l, a ∈ D.syms := fun a ha => Classical.byContradiction fun hn => by
    rw [matchD_out ⟨a, ha, hn⟩] at h
    cases h
  refine ⟨_, (wordsOf_of hin).symm, fun c hc => ?_, by rw [← matchD_in hin]; exact h⟩
  obtain ⟨a, ha, rfl⟩ := List.mem_map.1 hc
  exact idx_lt (hin a ha)
theorem within_self (W : WellD nameOk D) {w : World} {e : Ending} {w' : World} (h : WithinPost D D w e w') : e = .returned (.tuple #[.slice none 0 0, .bool true, .int .i64 0]) ∧ Ext w w' := by
  obtain ⟨hx, ⟨v, u, rfl, _, _, hu, h1, h2, _⟩ | ⟨rfl, _⟩⟩ := h
  · rw [match_words W.rising.nodup hu, h1] at h2
    cases h2
  · exact ⟨rfl, hx⟩
/-- Within Not of it. -/
theorem within_not_some (W : WellD nameOk D) {u : List Nat} (hu : ∀ c ∈ u, c < D.syms.length) (h1 : langD D u = true) (h2 : ∀ x, (∀ c ∈ x, c < D.syms.length) → langD D x = true → sle u x) {w : World} {e : Ending} {w' : World} (h : WithinPost D (notD D) w e w') :
    ∃ v, e = .returned (.tuple #[v, .bool false, .int .i64 0]) ∧ ReadR w' 1 strC v (wordsOf D.syms u) ∧ Ext w w' := by
  obtain ⟨hx, ⟨v, u', rfl, hR, _, hu', k1, k2, k3⟩ | ⟨rfl, k⟩⟩ := h
  · have e : u = u' := least_unique (P := fun x => (∀ c ∈ x, c < D.syms.length) ∧ langD D x = true) ⟨hu, h1⟩ ⟨hu', k1⟩ (fun x hx => h2 x hx.1 hx.2) (fun x hx => k3 x hx.1 hx.2 (by rw [match_not W hx.1, hx.2]; rfl))
    subst e
    exact ⟨v, rfl, hR, hx⟩
  · have := k u hu h1
    rw [match_not W hu, h1] at this
    cases this
theorem within_not_none (h2 : ∀ x, langD D x = false) {w : World} {e : Ending} {w' : World} (h : WithinPost D (notD D) w e w') : e = .returned (.tuple #[.slice none 0 0, .bool true, .int .i64 0]) ∧ Ext w w' := by
  obtain ⟨hx, ⟨v, u', rfl, hR, _, hu', k1, k2, k3⟩ | ⟨rfl, k⟩⟩ := h
  · rw [h2] at k1; cases k1
  · exact ⟨rfl, hx⟩
theorem match_noneD (W : WellD nameOk D) (h2 : ∀ x, langD D x = false) (l : List ByteArray) : matchD D l = false := by
  rw [← Bool.not_eq_true]
  intro h
  obtain ⟨x, _, _, hx⟩ := match_own W h
  rw [h2] at hx; cases hx
/-- A row that is matched is not ahead of the least one. -/
theorem least_ahead (W : WellD nameOk D) {u : List Nat} (hu : ∀ c ∈ u, c < D.syms.length) (h2 : ∀ x, (∀ c ∈ x, c < D.syms.length) → langD D x = true → sle u x) {l : List ByteArray} (h : matchD D l = true) :
    (wordsOf D.syms u).length < l.length ∨ (wordsOf D.syms u).length = l.length ∧ aheadW l (wordsOf D.syms u) = false := by
  obtain ⟨x, rfl, hx, hl⟩ := match_own W h
  rw [aheadW_idx W.rising hx hu, wordsOf_length hu, wordsOf_length hx]
  exact sle_iff.1 (h2 x hx hl)
theorem words_mild (B : BndD D.raw) {u : List Nat} (hu : ∀ c ∈ u, c < D.syms.length) (h : u.length ≤ 100000) : MildS (wordsOf D.syms u) := mild_small (by rw [wordsOf_length hu]; exact h) fun s hs => B.b s (wordsOf_mem s hs)
end

theorem check8_any {w : World} {v : Value} {d : DR} (hD : DfaV w v d) (hB : BndD d) : Calls Tryz.prog 11 #[v] w (ErrP (checkE nameOk d) w) := by
  obtain ⟨vS, vN, vF, us, rfl, hP⟩ := hD
  exact dcheck_any hP hB
def TruePost (w : World) (e : Ending) (w' : World) : Prop := e = .returned (.bool true) ∧ Ext w w'
end Go.Proofs.YtngpjagpeblbjaaGreatDoor
