/-
  What calls answer, in the form in which the laws' walks take it.
-/
import Derived.Test.YtngpjagpeblbjaaGreatDoorI32
import Derived.Test.YtngpjagpeblbjaaGreatDoorI33
namespace Go.Proofs.YtngpjagpeblbjaaGreatDoor
open Go.RowKit Go.Spy Go.Heaped Go.Tour Go.Rx

theorem DfaV.symsR {w : World} {aoS aoN aoF : Option Addr} {n1 n2 n3 cS cN cF : Nat} {d : DR} (h : DfaV w (.agg #[.slice aoS n1 cS, .slice aoN n2 cN, .slice aoF n3 cF]) d) : ReadR w 1 strC (.slice aoS n1 cS) d.syms := by
  obtain ⟨vS, vN, vF, us, e, hP⟩ := h
  simp only [Value.agg.injEq, Array.mk.injEq, List.cons.injEq, and_true] at e
  obtain ⟨rfl, rfl, rfl⟩ := e
  exact hP.syms
section
variable {A B D : DA}
/-- What Within tells of automata of the same words. -/
def InsideL (A B : DA) : Prop := ∀ x, (∀ c ∈ x, c < A.syms.length) → langD A x = true → langD B x = true
theorem within_in (WA : WellD nameOk A) (WB : WellD nameOk B) (hs : A.syms = B.syms) {w : World} {e : Ending} {w' : World} (h : WithinPost A B w e w') :
    ∃ ao n c b, e = .returned (.tuple #[.slice ao n c, .bool b, .int .i64 0]) ∧ Ext w w' ∧ (b = true ↔ InsideL A B) := by
  obtain ⟨hx, ⟨v, u, rfl, hR, _, hu, h1, h2, _⟩ | ⟨rfl, h1⟩⟩ := h
  · obtain ⟨ao, c, rfl, _⟩ := hR.form
    refine ⟨ao, _, c, false, rfl, hx, ⟨fun h => (by cases h), fun h => ?_⟩⟩
    rw [within_same WA WB hs hu, h u hu h1] at h2
    cases h2
  · refine ⟨none, 0, 0, true, rfl, hx, ⟨fun _ x hx hl => ?_, fun _ => rfl⟩⟩
    have h2 := h1 x hx hl
    rwa [within_same WA WB hs hx] at h2
theorem least_em {w : World} {e : Ending} {w' : World} (h : LeastPost D w e w') :
    ∃ (ao : Option Addr) (n c : Nat) (g : Int), e = .returned (.tuple #[.slice ao n c, .int .i64 g]) ∧ Ext w w' ∧ ((g == 18) = true ↔ ∀ x, langD D x = false) := by
  obtain ⟨hx, ⟨v, u, rfl, hR, _, hu, h1, _⟩ | ⟨rfl, h1⟩⟩ := h
  · obtain ⟨ao, c, rfl, _⟩ := hR.form
    refine ⟨ao, _, c, 0, rfl, hx, ⟨fun h => (by cases h), fun h => ?_⟩⟩
    rw [h u] at h1; cases h1
  · exact ⟨none, 0, 0, 18, rfl, hx, ⟨fun _ => h1, fun _ => rfl⟩⟩
theorem inside_empty (WA : WellD nameOk A) (WB : WellD nameOk B) (hs : A.syms = B.syms) {i : Nat} (h : Full (succP A (notD B) (bothSyms A (notD B))) zeroP i) : (∀ x, langD (bothD A (notD B) i) x = false) ↔ InsideL A B := by
  have WN := notD_well WB
  have hsy : bothSyms A (notD B) = A.syms := bothSyms_same WA hs
  have key : ∀ x, (∀ c ∈ x, c < A.syms.length) → langD (bothD A (notD B) i) x = (langD A x && !langD B x) := fun x hx => by
    rw [both_lang WA WN h (by rw [hsy]; exact hx), hsy, match_words WA.rising.nodup hx]
    congr 1
    have h1 := match_not WB (u := x) (by rw [← hs]; exact hx)
    rw [← hs] at h1
    exact h1
  constructor
  · intro h1 x hx hl
    have h2 := key x hx
    rw [h1 x, hl] at h2
    simpa using h2.symm
  · intro h1 x
    by_cases hx : ∀ c ∈ x, c < A.syms.length
    · rw [key x hx]
      cases hl : langD A x with
      | false => rfl
      | true => rw [h1 x hx hl]; rfl
    · exact langD_out _ (by
        show ¬ ∀ c ∈ x, c < (bothSyms A (notD B)).length
        rw [hsy]; exact hx)
theorem small_same {X Y : DA} (hX : MinD A X) (hY : MinD B Y) (hs : A.syms = B.syms) : sameD X.raw Y.raw = true ↔ langD A = langD B := by
  rw [sameD_iff]
  constructor
  · intro h
    have e := raw_inj h
    rw [← hX.lang, ← hY.lang, e]
  · intro h
    rw [hX.unique hY hs h]
theorem inside_both (hs : A.syms = B.syms) : (InsideL A B ∧ InsideL B A) ↔ langD A = langD B := by
  constructor
  · rintro ⟨h1, h2⟩
    exact inside_eq hs h1 (fun x hx => h2 x (by rw [← hs]; exact hx))
  · intro h
    exact ⟨fun x _ hl => by rw [← h]; exact hl, fun x _ hl => by rw [h]; exact hl⟩
theorem lenD_of (W : OkD D) (hn : D.next.length ≤ 100000) (hs : D.syms.length ≤ 100000) (hb : ∀ s ∈ D.syms, s.size ≤ 1000000) : LenD D.raw := by
  have hf := W.fin
  refine ⟨mild_small hs hb, ?_, ?_, fun r hr => ?_⟩
  · show (D.next.map _).length ≤ _
    rw [List.length_map]; omega
  · show D.fin.length ≤ _
    omega
  · simp only [DF.raw, List.mem_map] at hr
    obtain ⟨r', h1, rfl⟩ := hr
    rw [List.length_map, W.row r' h1]
    omega
theorem okD_raw (W : OkD D) : D.raw.fin.length = D.raw.next.length := by
  show D.fin.length = (D.next.map _).length
  rw [List.length_map, W.fin]
theorem min_lenD {S : DA} (h : MinD D S) (W : WellD nameOk D) (B : BndD D.raw) : LenD S.raw :=
  lenD_of h.ok (by have := h.len; have := W.most; omega) (by rw [h.syms]; have : D.syms.length ≤ 1000 := B.s; omega) (by rw [h.syms]; exact B.b)
/-- The small ones. -/
theorem SmallD.len {d : DR} (h : SmallD d) : LenD d := ⟨mild_small (by have := h.2.2.2.2; omega) (fun s hs => by have := h.2.1 s hs; omega), by have := h.2.2.1; omega, by have := h.2.2.2.1; omega, fun r hr => by have := h.1 r hr; omega⟩
theorem SmallD.n {D : DA} (h : SmallD D.raw) : D.next.length ≤ 12 := by
  have := h.2.2.1
  simpa [DF.raw] using this
theorem SmallD.s {D : DA} (h : SmallD D.raw) : D.syms.length ≤ 6 := h.2.2.2.2
/-- Both of small ones, one of which is Not. -/
theorem both_in {w : World} {xA xB : Array Value} (hA : DfaW w (.agg xA) A) (hB : DfaW w (.agg xB) B) (nA : A.next.length ≤ 12) (nB : B.next.length ≤ 12) (sA : A.syms.length ≤ 6) (sB : B.syms.length ≤ 6) :
    Calls Tryz.prog 15 #[.agg xA, .agg xB] w fun e w' => ∃ i x, Full (succP A B (bothSyms A B)) zeroP i ∧ e = .returned (.tuple #[.agg x, .int .i64 0]) ∧ DfaW w' (.agg x) (bothD A B i) ∧ Ext w w' := by
  have hl := bothSyms_len (A := A) (B := B)
  refine (dboth_any hA hB (by omega)).mono ?_
  rintro e w' ⟨hx, ⟨i, v, hf, hi, rfl, hv⟩ | ⟨i, hi, _⟩⟩
  · have hv' := hv
    obtain ⟨vS, vN, vF, us, rfl, _⟩ := hv
    exact ⟨i, _, hf, rfl, ⟨hv', both_bnd hA.well hB.well hA.bnd hB.bnd (by omega) hf hi, both_well hA.well hB.well hf hi⟩, hx⟩
  · exfalso
    have := tourP_small hA.well hB.well nA nB (bothSyms A B) i
    omega
theorem not_in {w : World} {x : Array Value} (hA : DfaW w (.agg x) A) : Calls Tryz.prog 14 #[.agg x] w fun e w' => ∃ aoS n1 cS aoN n2 cN aoF n3 cF, e = .returned (.tuple #[.agg #[.slice aoS n1 cS, .slice aoN n2 cN, .slice aoF n3 cF], .int .i64 0]) ∧ DfaW w' (.agg #[.slice aoS n1 cS, .slice aoN n2 cN, .slice aoF n3 cF]) (notD A) ∧ Ext w w' := by
  refine (not_any hA).mono ?_
  rintro e w' ⟨v, rfl, hN, hx⟩
  have hv := hN.at_
  obtain ⟨vS, vN, vF, us, rfl, _⟩ := hv
  obtain ⟨aoS, n1, cS, aoN, n2, cN, aoF, n3, cF, h⟩ := hN.open_
  exact ⟨aoS, n1, cS, aoN, n2, cN, aoF, n3, cF, by rw [h], by rw [← h]; exact hN, hx⟩
theorem DfaV.open_ {w : World} {v : Value} {d : DR} (h : DfaV w v d) : ∃ aoS n1 cS aoN n2 cN aoF n3 cF, v = .agg #[.slice aoS n1 cS, .slice aoN n2 cN, .slice aoF n3 cF] := by
  obtain ⟨vS, vN, vF, us, rfl, hP⟩ := h
  obtain ⟨aoS, cS, rfl, -⟩ := hP.syms.form
  obtain ⟨aoN, cN, rfl, -⟩ := hP.next.form
  obtain ⟨aoF, cF, rfl, -⟩ := hP.fin.form
  exact ⟨_, _, _, _, _, _, _, _, _, rfl⟩
theorem small_in {w : World} {x : Array Value} (hA : DfaW w (.agg x) A) : Calls Tryz.prog 18 #[.agg x] w fun e w' => ∃ aoS n1 cS aoN n2 cN aoF n3 cF S, e = .returned (.tuple #[.agg #[.slice aoS n1 cS, .slice aoN n2 cN, .slice aoF n3 cF], .int .i64 0]) ∧ MinD A S ∧ DfaV w' (.agg #[.slice aoS n1 cS, .slice aoN n2 cN, .slice aoF n3 cF]) S.raw ∧ Ext w w' := by
  refine (dsmall_any hA).mono ?_
  rintro e w' ⟨hx, v, S, rfl, hm, hv⟩
  obtain ⟨aoS, n1, cS, aoN, n2, cN, aoF, n3, cF, rfl⟩ := hv.open_
  exact ⟨aoS, n1, cS, aoN, n2, cN, aoF, n3, cF, S, rfl, hm, hv, hx⟩
end
end Go.Proofs.YtngpjagpeblbjaaGreatDoor
