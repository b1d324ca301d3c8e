/-
  Walk of the law DfaInside.
-/
import Derived.Test.YtngpjagpeblbjaaGreatDoorI34
namespace Go.Proofs.YtngpjagpeblbjaaGreatDoor
open Go.RowKit Go.Spy Go.Heaped Go.Tour Go.Rx

/-- The two boxes of a law of two automata. -/
def OkBoth (da db : DR) : Prop := SmallD da ∧ SmallD db ∧ checkE nameOk da = 0 ∧ checkE nameOk db = 0 ∧ da.syms = db.syms

set_option maxRecDepth 100000 in
set_option maxHeartbeats 4000000 in
theorem inside_out {w : World} {va vb : Value} {da db : DR} (hA : DfaV w va da) (lA : LenD da) (hB : DfaV w vb db) (lB : LenD db) (hT : TabW w) (h : ¬ OkBoth da db) : Calls Tryz.prog 3 #[va, vb] w (TruePost w) := by
  have HA0 := hid hA
  have HB0 := hid hB
  have HT := hid hT
  have HN := hid h
  have HLA := hid lA
  have HLB := hid lB
  have HSY : Hid (∀ (W : World) (va vb : Value) (aoS aoN aoF aoS2 aoN2 aoF2 : Option Addr) (n1 n2 n3 m1 m2 m3 cS cN cF cS2 cN2 cF2 : Nat), DfaV W (.agg #[.slice aoS n1 cS, .slice aoN n2 cN, .slice aoF n3 cF]) da → DfaV W (.agg #[.slice aoS2 m1 cS2, .slice aoN2 m2 cN2, .slice aoF2 m3 cF2]) db →
      Calls Tryz.prog 12 #[.slice aoS n1 cS, .slice aoS2 m1 cS2] W fun e w' => e = .returned (.bool (decide (da.syms = db.syms))) ∧ Ext W w') := hid fun W va vb aoS aoN aoF aoS2 aoN2 aoF2 n1 n2 n3 m1 m2 m3 cS cN cF cS2 cN2 cF2 h1 h2 => texts_rd h1.symsR h2.symsR lA.s lB.s
  obtain ⟨vS, vN, vF, us, rfl, hP⟩ := hA
  obtain ⟨vS2, vN2, vF2, us2, rfl, hP2⟩ := hB
  obtain ⟨aoS, cS, rfl, -⟩ := hP.syms.form
  obtain ⟨aoN, cN, rfl, -⟩ := hP.next.form
  obtain ⟨aoF, cF, rfl, -⟩ := hP.fin.form
  obtain ⟨aoS2, cS2, rfl, -⟩ := hP2.syms.form
  obtain ⟨aoN2, cN2, rfl, -⟩ := hP2.next.form
  obtain ⟨aoF2, cF2, rfl, -⟩ := hP2.fin.form
  obtain ⟨n1, hn1⟩ : ∃ n, n = da.syms.length := ⟨_, rfl⟩
  obtain ⟨n2, hn2⟩ : ∃ n, n = us.length := ⟨_, rfl⟩
  obtain ⟨n3, hn3⟩ : ∃ n, n = da.fin.length := ⟨_, rfl⟩
  obtain ⟨m1, hm1⟩ : ∃ n, n = db.syms.length := ⟨_, rfl⟩
  obtain ⟨m2, hm2⟩ : ∃ n, n = us2.length := ⟨_, rfl⟩
  obtain ⟨m3, hm3⟩ : ∃ n, n = db.fin.length := ⟨_, rfl⟩
  rw [← hn1, ← hn2, ← hn3] at HA0 ⊢
  rw [← hm1, ← hm2, ← hm3] at HB0 ⊢
  clear hP hP2 hn1 hn2 hn3 hm1 hm2 hm3
  clear hT h lA lB
  obtain ⟨w1, hw1⟩ : ∃ u, u = w.alloc (.cells #[.slice aoS n1 cS, .slice aoN n2 cN, .slice aoF n3 cF] 26) := ⟨_, rfl⟩
  have ew1 : Ext w w1 := hw1 ▸ (Below.refl _ _).alloc (Nat.le_refl _) _
  have HBan : Hid (Blk w1 w.heap.size 26 #[.slice aoS n1 cS, .slice aoN n2 cN, .slice aoF n3 cF]) := hid (hw1 ▸ Blk.new _ _ _)
  have HWw1 := hid hw1
  have HE1 : Hid (Ext w w1) := hid (ew1)
  have HA1 := hid (HA0.out.ext (ew1))
  have HB1 := hid (HB0.out.ext (ew1))
  clear ew1 hw1
  obtain ⟨w2, hw2⟩ : ∃ u, u = w1.alloc (.cells #[.slice aoS2 m1 cS2, .slice aoN2 m2 cN2, .slice aoF2 m3 cF2] 26) := ⟨_, rfl⟩
  have ew2 : Ext w1 w2 := hw2 ▸ (Below.refl _ _).alloc (Nat.le_refl _) _
  have HBbn : Hid (Blk w2 (w.heap.size + 1) 26 #[.slice aoS2 m1 cS2, .slice aoN2 m2 cN2, .slice aoF2 m3 cF2]) := hid (by rw [hw2]; exact Blk.new' _ _ _ (by rw [HWw1.out]; simp))
  have HWw2 := hid hw2
  have HE2 : Hid (Ext w w2) := hid (HE1.out.trans ((ew2).mono HE1.out.size))
  have HBa2 := hid (HBan.out.ext (ew2))
  have HA2 := hid (HA1.out.ext (ew2))
  have HB2 := hid (HB1.out.ext (ew2))
  clear ew2 hw2
  go_enter Tryz.func3, Tryz.ntmps3
  go_wp2_with fail
  rw [← HWw1.out, ← HWw2.out]
  refine (small8_any HA2.out HLA.out).mono ?_
  rintro e w3 ⟨b, rfl, hb, hx⟩
  have HE3 : Hid (Ext w w3) := hid (HE2.out.trans ((hx).mono HE2.out.size))
  have HBa3 := hid (HBa2.out.ext (hx))
  have HBb3 := hid (HBbn.out.ext (hx))
  have HA3 := hid (HA2.out.ext (hx))
  have HB3 := hid (HB2.out.ext (hx))
  clear hx
  have HBB := hid hb
  clear hb
  cases b
  · have ca0 : w3.cell? ⟨w.heap.size, 0, none⟩ = some (.slice aoS n1 cS) := HBa3.out.cell (i := 0) rfl
    have ca1 : w3.cell? ⟨w.heap.size, 1, none⟩ = some (.slice aoN n2 cN) := HBa3.out.cell (i := 1) rfl
    have ca2 : w3.cell? ⟨w.heap.size, 2, none⟩ = some (.slice aoF n3 cF) := HBa3.out.cell (i := 2) rfl
    have la := HBa3.out.lt
    have cb0 : w3.cell? ⟨(w.heap.size + 1), 0, none⟩ = some (.slice aoS2 m1 cS2) := HBb3.out.cell (i := 0) rfl
    have cb1 : w3.cell? ⟨(w.heap.size + 1), 1, none⟩ = some (.slice aoN2 m2 cN2) := HBb3.out.cell (i := 1) rfl
    have cb2 : w3.cell? ⟨(w.heap.size + 1), 2, none⟩ = some (.slice aoF2 m3 cF2) := HBb3.out.cell (i := 2) rfl
    have lb := HBb3.out.lt
    go_wp2_with fail
    refine (awake8_any (HT.out.ext HE3.out)).mono ?_
    rintro e w4 ⟨rfl, hx⟩
    clear ca0 ca1 ca2 la cb0 cb1 cb2 lb
    have HE4 : Hid (Ext w w4) := hid (HE3.out.trans ((hx).mono HE3.out.size))
    have HBa4 := hid (HBa3.out.ext (hx))
    have HBb4 := hid (HBb3.out.ext (hx))
    have HA4 := hid (HA3.out.ext (hx))
    have HB4 := hid (HB3.out.ext (hx))
    clear hx
    have ca0 : w4.cell? ⟨w.heap.size, 0, none⟩ = some (.slice aoS n1 cS) := HBa4.out.cell (i := 0) rfl
    have ca1 : w4.cell? ⟨w.heap.size, 1, none⟩ = some (.slice aoN n2 cN) := HBa4.out.cell (i := 1) rfl
    have ca2 : w4.cell? ⟨w.heap.size, 2, none⟩ = some (.slice aoF n3 cF) := HBa4.out.cell (i := 2) rfl
    have la := HBa4.out.lt
    have cb0 : w4.cell? ⟨(w.heap.size + 1), 0, none⟩ = some (.slice aoS2 m1 cS2) := HBb4.out.cell (i := 0) rfl
    have cb1 : w4.cell? ⟨(w.heap.size + 1), 1, none⟩ = some (.slice aoN2 m2 cN2) := HBb4.out.cell (i := 1) rfl
    have cb2 : w4.cell? ⟨(w.heap.size + 1), 2, none⟩ = some (.slice aoF2 m3 cF2) := HBb4.out.cell (i := 2) rfl
    have lb := HBb4.out.lt
    go_wp2_with fail
    go_ret
    exact ⟨rfl, HE4.out⟩
  · have HS := hid (HBB.out.1 rfl)
    clear HBB
    have ca0 : w3.cell? ⟨w.heap.size, 0, none⟩ = some (.slice aoS n1 cS) := HBa3.out.cell (i := 0) rfl
    have ca1 : w3.cell? ⟨w.heap.size, 1, none⟩ = some (.slice aoN n2 cN) := HBa3.out.cell (i := 1) rfl
    have ca2 : w3.cell? ⟨w.heap.size, 2, none⟩ = some (.slice aoF n3 cF) := HBa3.out.cell (i := 2) rfl
    have la := HBa3.out.lt
    have cb0 : w3.cell? ⟨(w.heap.size + 1), 0, none⟩ = some (.slice aoS2 m1 cS2) := HBb3.out.cell (i := 0) rfl
    have cb1 : w3.cell? ⟨(w.heap.size + 1), 1, none⟩ = some (.slice aoN2 m2 cN2) := HBb3.out.cell (i := 1) rfl
    have cb2 : w3.cell? ⟨(w.heap.size + 1), 2, none⟩ = some (.slice aoF2 m3 cF2) := HBb3.out.cell (i := 2) rfl
    have lb := HBb3.out.lt
    go_wp2_with fail
    refine (small8_any HB3.out HLB.out).mono ?_
    rintro e w4 ⟨b, rfl, hb, hx⟩
    clear ca0 ca1 ca2 la cb0 cb1 cb2 lb
    have HE4 : Hid (Ext w w4) := hid (HE3.out.trans ((hx).mono HE3.out.size))
    have HBa4 := hid (HBa3.out.ext (hx))
    have HBb4 := hid (HBb3.out.ext (hx))
    have HA4 := hid (HA3.out.ext (hx))
    have HB4 := hid (HB3.out.ext (hx))
    clear hx
    have HBB := hid hb
    clear hb
    cases b
    · have ca0 : w4.cell? ⟨w.heap.size, 0, none⟩ = some (.slice aoS n1 cS) := HBa4.out.cell (i := 0) rfl
      have ca1 : w4.cell? ⟨w.heap.size, 1, none⟩ = some (.slice aoN n2 cN) := HBa4.out.cell (i := 1) rfl
      have ca2 : w4.cell? ⟨w.heap.size, 2, none⟩ = some (.slice aoF n3 cF) := HBa4.out.cell (i := 2) rfl
      have la := HBa4.out.lt
      have cb0 : w4.cell? ⟨(w.heap.size + 1), 0, none⟩ = some (.slice aoS2 m1 cS2) := HBb4.out.cell (i := 0) rfl
      have cb1 : w4.cell? ⟨(w.heap.size + 1), 1, none⟩ = some (.slice aoN2 m2 cN2) := HBb4.out.cell (i := 1) rfl
      have cb2 : w4.cell? ⟨(w.heap.size + 1), 2, none⟩ = some (.slice aoF2 m3 cF2) := HBb4.out.cell (i := 2) rfl
      have lb := HBb4.out.lt
      go_wp2_with fail
      refine (awake8_any (HT.out.ext HE4.out)).mono ?_
      rintro e w5 ⟨rfl, hx⟩
      clear ca0 ca1 ca2 la cb0 cb1 cb2 lb
      have HE5 : Hid (Ext w w5) := hid (HE4.out.trans ((hx).mono HE4.out.size))
      have HBa5 := hid (HBa4.out.ext (hx))
      have HBb5 := hid (HBb4.out.ext (hx))
      have HA5 := hid (HA4.out.ext (hx))
      have HB5 := hid (HB4.out.ext (hx))
      clear hx
      have ca0 : w5.cell? ⟨w.heap.size, 0, none⟩ = some (.slice aoS n1 cS) := HBa5.out.cell (i := 0) rfl
      have ca1 : w5.cell? ⟨w.heap.size, 1, none⟩ = some (.slice aoN n2 cN) := HBa5.out.cell (i := 1) rfl
      have ca2 : w5.cell? ⟨w.heap.size, 2, none⟩ = some (.slice aoF n3 cF) := HBa5.out.cell (i := 2) rfl
      have la := HBa5.out.lt
      have cb0 : w5.cell? ⟨(w.heap.size + 1), 0, none⟩ = some (.slice aoS2 m1 cS2) := HBb5.out.cell (i := 0) rfl
      have cb1 : w5.cell? ⟨(w.heap.size + 1), 1, none⟩ = some (.slice aoN2 m2 cN2) := HBb5.out.cell (i := 1) rfl
      have cb2 : w5.cell? ⟨(w.heap.size + 1), 2, none⟩ = some (.slice aoF2 m3 cF2) := HBb5.out.cell (i := 2) rfl
      have lb := HBb5.out.lt
      go_wp2_with fail
      go_ret
      exact ⟨rfl, HE5.out⟩
    · have HS2 := hid (HBB.out.1 rfl)
      clear HBB
      have ca0 : w4.cell? ⟨w.heap.size, 0, none⟩ = some (.slice aoS n1 cS) := HBa4.out.cell (i := 0) rfl
      have ca1 : w4.cell? ⟨w.heap.size, 1, none⟩ = some (.slice aoN n2 cN) := HBa4.out.cell (i := 1) rfl
      have ca2 : w4.cell? ⟨w.heap.size, 2, none⟩ = some (.slice aoF n3 cF) := HBa4.out.cell (i := 2) rfl
      have la := HBa4.out.lt
      have cb0 : w4.cell? ⟨(w.heap.size + 1), 0, none⟩ = some (.slice aoS2 m1 cS2) := HBb4.out.cell (i := 0) rfl
      have cb1 : w4.cell? ⟨(w.heap.size + 1), 1, none⟩ = some (.slice aoN2 m2 cN2) := HBb4.out.cell (i := 1) rfl
      have cb2 : w4.cell? ⟨(w.heap.size + 1), 2, none⟩ = some (.slice aoF2 m3 cF2) := HBb4.out.cell (i := 2) rfl
      have lb := HBb4.out.lt
      go_wp2_with fail
      obtain ⟨E, hE⟩ : ∃ E, E = checkE nameOk da := ⟨_, rfl⟩
      have HEE := hid hE
      have HC := hid (check8_any HA4.out HS.out.bnd)
      rw [← hE] at HC
      clear hE
      refine (HC.out).mono ?_
      rintro e w5 ⟨rfl, hx⟩
      clear ca0 ca1 ca2 la cb0 cb1 cb2 lb
      have HE5 : Hid (Ext w w5) := hid (HE4.out.trans ((hx).mono HE4.out.size))
      have HBa5 := hid (HBa4.out.ext (hx))
      have HBb5 := hid (HBb4.out.ext (hx))
      have HA5 := hid (HA4.out.ext (hx))
      have HB5 := hid (HB4.out.ext (hx))
      clear hx
      clear HC
      by_cases h0 : E = 0
      · have t0 : (((E : Nat) : Int) != 0) = false := by simp [h0]
        have H0 := hid h0
        clear h0
        have ca0 : w5.cell? ⟨w.heap.size, 0, none⟩ = some (.slice aoS n1 cS) := HBa5.out.cell (i := 0) rfl
        have ca1 : w5.cell? ⟨w.heap.size, 1, none⟩ = some (.slice aoN n2 cN) := HBa5.out.cell (i := 1) rfl
        have ca2 : w5.cell? ⟨w.heap.size, 2, none⟩ = some (.slice aoF n3 cF) := HBa5.out.cell (i := 2) rfl
        have la := HBa5.out.lt
        have cb0 : w5.cell? ⟨(w.heap.size + 1), 0, none⟩ = some (.slice aoS2 m1 cS2) := HBb5.out.cell (i := 0) rfl
        have cb1 : w5.cell? ⟨(w.heap.size + 1), 1, none⟩ = some (.slice aoN2 m2 cN2) := HBb5.out.cell (i := 1) rfl
        have cb2 : w5.cell? ⟨(w.heap.size + 1), 2, none⟩ = some (.slice aoF2 m3 cF2) := HBb5.out.cell (i := 2) rfl
        have lb := HBb5.out.lt
        go_wp2_with fail
        obtain ⟨E2, hE2⟩ : ∃ E, E = checkE nameOk db := ⟨_, rfl⟩
        have HEE2 := hid hE2
        have HC := hid (check8_any HB5.out HS2.out.bnd)
        rw [← hE2] at HC
        clear hE2
        refine (HC.out).mono ?_
        rintro e w6 ⟨rfl, hx⟩
        clear ca0 ca1 ca2 la cb0 cb1 cb2 lb
        have HE6 : Hid (Ext w w6) := hid (HE5.out.trans ((hx).mono HE5.out.size))
        have HBa6 := hid (HBa5.out.ext (hx))
        have HBb6 := hid (HBb5.out.ext (hx))
        have HA6 := hid (HA5.out.ext (hx))
        have HB6 := hid (HB5.out.ext (hx))
        clear hx
        clear HC
        by_cases h02 : E2 = 0
        · have t02 : (((E2 : Nat) : Int) != 0) = false := by simp [h02]
          have H02 := hid h02
          clear h02
          have ca0 : w6.cell? ⟨w.heap.size, 0, none⟩ = some (.slice aoS n1 cS) := HBa6.out.cell (i := 0) rfl
          have ca1 : w6.cell? ⟨w.heap.size, 1, none⟩ = some (.slice aoN n2 cN) := HBa6.out.cell (i := 1) rfl
          have ca2 : w6.cell? ⟨w.heap.size, 2, none⟩ = some (.slice aoF n3 cF) := HBa6.out.cell (i := 2) rfl
          have la := HBa6.out.lt
          have cb0 : w6.cell? ⟨(w.heap.size + 1), 0, none⟩ = some (.slice aoS2 m1 cS2) := HBb6.out.cell (i := 0) rfl
          have cb1 : w6.cell? ⟨(w.heap.size + 1), 1, none⟩ = some (.slice aoN2 m2 cN2) := HBb6.out.cell (i := 1) rfl
          have cb2 : w6.cell? ⟨(w.heap.size + 1), 2, none⟩ = some (.slice aoF2 m3 cF2) := HBb6.out.cell (i := 2) rfl
          have lb := HBb6.out.lt
          go_wp2_with fail
          have HC := hid (HSY.out _ (.int .i64 0) (.int .i64 0) _ _ _ _ _ _ _ _ _ _ _ _ _ _ _ _ _ _ HA6.out HB6.out)
          rw [show decide (da.syms = db.syms) = false from decide_eq_false fun hs => HN.out ⟨HS.out, HS2.out, by rw [← HEE.out]; exact H0.out, by rw [← HEE2.out]; exact H02.out, hs⟩] at HC
          refine (HC.out).mono ?_
          rintro e w7 ⟨rfl, hx⟩
          clear ca0 ca1 ca2 la cb0 cb1 cb2 lb
          have HE7 : Hid (Ext w w7) := hid (HE6.out.trans ((hx).mono HE6.out.size))
          have HBa7 := hid (HBa6.out.ext (hx))
          have HBb7 := hid (HBb6.out.ext (hx))
          have HA7 := hid (HA6.out.ext (hx))
          have HB7 := hid (HB6.out.ext (hx))
          clear hx
          have ca0 : w7.cell? ⟨w.heap.size, 0, none⟩ = some (.slice aoS n1 cS) := HBa7.out.cell (i := 0) rfl
          have ca1 : w7.cell? ⟨w.heap.size, 1, none⟩ = some (.slice aoN n2 cN) := HBa7.out.cell (i := 1) rfl
          have ca2 : w7.cell? ⟨w.heap.size, 2, none⟩ = some (.slice aoF n3 cF) := HBa7.out.cell (i := 2) rfl
          have la := HBa7.out.lt
          have cb0 : w7.cell? ⟨(w.heap.size + 1), 0, none⟩ = some (.slice aoS2 m1 cS2) := HBb7.out.cell (i := 0) rfl
          have cb1 : w7.cell? ⟨(w.heap.size + 1), 1, none⟩ = some (.slice aoN2 m2 cN2) := HBb7.out.cell (i := 1) rfl
          have cb2 : w7.cell? ⟨(w.heap.size + 1), 2, none⟩ = some (.slice aoF2 m3 cF2) := HBb7.out.cell (i := 2) rfl
          have lb := HBb7.out.lt
          go_wp2_with fail
          refine (awake8_any (HT.out.ext HE7.out)).mono ?_
          rintro e w8 ⟨rfl, hx⟩
          clear ca0 ca1 ca2 la cb0 cb1 cb2 lb
          have HE8 : Hid (Ext w w8) := hid (HE7.out.trans ((hx).mono HE7.out.size))
          have HBa8 := hid (HBa7.out.ext (hx))
          have HBb8 := hid (HBb7.out.ext (hx))
          have HA8 := hid (HA7.out.ext (hx))
          have HB8 := hid (HB7.out.ext (hx))
          clear hx
          have ca0 : w8.cell? ⟨w.heap.size, 0, none⟩ = some (.slice aoS n1 cS) := HBa8.out.cell (i := 0) rfl
          have ca1 : w8.cell? ⟨w.heap.size, 1, none⟩ = some (.slice aoN n2 cN) := HBa8.out.cell (i := 1) rfl
          have ca2 : w8.cell? ⟨w.heap.size, 2, none⟩ = some (.slice aoF n3 cF) := HBa8.out.cell (i := 2) rfl
          have la := HBa8.out.lt
          have cb0 : w8.cell? ⟨(w.heap.size + 1), 0, none⟩ = some (.slice aoS2 m1 cS2) := HBb8.out.cell (i := 0) rfl
          have cb1 : w8.cell? ⟨(w.heap.size + 1), 1, none⟩ = some (.slice aoN2 m2 cN2) := HBb8.out.cell (i := 1) rfl
          have cb2 : w8.cell? ⟨(w.heap.size + 1), 2, none⟩ = some (.slice aoF2 m3 cF2) := HBb8.out.cell (i := 2) rfl
          have lb := HBb8.out.lt
          go_wp2_with fail
          go_ret
          exact ⟨rfl, HE8.out⟩
        · have t02 : (((E2 : Nat) : Int) != 0) = true := by simp; omega
          clear h02
          have ca0 : w6.cell? ⟨w.heap.size, 0, none⟩ = some (.slice aoS n1 cS) := HBa6.out.cell (i := 0) rfl
          have ca1 : w6.cell? ⟨w.heap.size, 1, none⟩ = some (.slice aoN n2 cN) := HBa6.out.cell (i := 1) rfl
          have ca2 : w6.cell? ⟨w.heap.size, 2, none⟩ = some (.slice aoF n3 cF) := HBa6.out.cell (i := 2) rfl
          have la := HBa6.out.lt
          have cb0 : w6.cell? ⟨(w.heap.size + 1), 0, none⟩ = some (.slice aoS2 m1 cS2) := HBb6.out.cell (i := 0) rfl
          have cb1 : w6.cell? ⟨(w.heap.size + 1), 1, none⟩ = some (.slice aoN2 m2 cN2) := HBb6.out.cell (i := 1) rfl
          have cb2 : w6.cell? ⟨(w.heap.size + 1), 2, none⟩ = some (.slice aoF2 m3 cF2) := HBb6.out.cell (i := 2) rfl
          have lb := HBb6.out.lt
          go_wp2_with fail
          refine (awake8_any (HT.out.ext HE6.out)).mono ?_
          rintro e w7 ⟨rfl, hx⟩
          clear ca0 ca1 ca2 la cb0 cb1 cb2 lb
          have HE7 : Hid (Ext w w7) := hid (HE6.out.trans ((hx).mono HE6.out.size))
          have HBa7 := hid (HBa6.out.ext (hx))
          have HBb7 := hid (HBb6.out.ext (hx))
          have HA7 := hid (HA6.out.ext (hx))
          have HB7 := hid (HB6.out.ext (hx))
          clear hx
          have ca0 : w7.cell? ⟨w.heap.size, 0, none⟩ = some (.slice aoS n1 cS) := HBa7.out.cell (i := 0) rfl
          have ca1 : w7.cell? ⟨w.heap.size, 1, none⟩ = some (.slice aoN n2 cN) := HBa7.out.cell (i := 1) rfl
          have ca2 : w7.cell? ⟨w.heap.size, 2, none⟩ = some (.slice aoF n3 cF) := HBa7.out.cell (i := 2) rfl
          have la := HBa7.out.lt
          have cb0 : w7.cell? ⟨(w.heap.size + 1), 0, none⟩ = some (.slice aoS2 m1 cS2) := HBb7.out.cell (i := 0) rfl
          have cb1 : w7.cell? ⟨(w.heap.size + 1), 1, none⟩ = some (.slice aoN2 m2 cN2) := HBb7.out.cell (i := 1) rfl
          have cb2 : w7.cell? ⟨(w.heap.size + 1), 2, none⟩ = some (.slice aoF2 m3 cF2) := HBb7.out.cell (i := 2) rfl
          have lb := HBb7.out.lt
          go_wp2_with fail
          go_ret
          exact ⟨rfl, HE7.out⟩
      · have t0 : (((E : Nat) : Int) != 0) = true := by simp; omega
        clear h0
        have ca0 : w5.cell? ⟨w.heap.size, 0, none⟩ = some (.slice aoS n1 cS) := HBa5.out.cell (i := 0) rfl
        have ca1 : w5.cell? ⟨w.heap.size, 1, none⟩ = some (.slice aoN n2 cN) := HBa5.out.cell (i := 1) rfl
        have ca2 : w5.cell? ⟨w.heap.size, 2, none⟩ = some (.slice aoF n3 cF) := HBa5.out.cell (i := 2) rfl
        have la := HBa5.out.lt
        have cb0 : w5.cell? ⟨(w.heap.size + 1), 0, none⟩ = some (.slice aoS2 m1 cS2) := HBb5.out.cell (i := 0) rfl
        have cb1 : w5.cell? ⟨(w.heap.size + 1), 1, none⟩ = some (.slice aoN2 m2 cN2) := HBb5.out.cell (i := 1) rfl
        have cb2 : w5.cell? ⟨(w.heap.size + 1), 2, none⟩ = some (.slice aoF2 m3 cF2) := HBb5.out.cell (i := 2) rfl
        have lb := HBb5.out.lt
        go_wp2_with fail
        refine (awake8_any (HT.out.ext HE5.out)).mono ?_
        rintro e w6 ⟨rfl, hx⟩
        clear ca0 ca1 ca2 la cb0 cb1 cb2 lb
        have HE6 : Hid (Ext w w6) := hid (HE5.out.trans ((hx).mono HE5.out.size))
        have HBa6 := hid (HBa5.out.ext (hx))
        have HBb6 := hid (HBb5.out.ext (hx))
        have HA6 := hid (HA5.out.ext (hx))
        have HB6 := hid (HB5.out.ext (hx))
        clear hx
        have ca0 : w6.cell? ⟨w.heap.size, 0, none⟩ = some (.slice aoS n1 cS) := HBa6.out.cell (i := 0) rfl
        have ca1 : w6.cell? ⟨w.heap.size, 1, none⟩ = some (.slice aoN n2 cN) := HBa6.out.cell (i := 1) rfl
        have ca2 : w6.cell? ⟨w.heap.size, 2, none⟩ = some (.slice aoF n3 cF) := HBa6.out.cell (i := 2) rfl
        have la := HBa6.out.lt
        have cb0 : w6.cell? ⟨(w.heap.size + 1), 0, none⟩ = some (.slice aoS2 m1 cS2) := HBb6.out.cell (i := 0) rfl
        have cb1 : w6.cell? ⟨(w.heap.size + 1), 1, none⟩ = some (.slice aoN2 m2 cN2) := HBb6.out.cell (i := 1) rfl
        have cb2 : w6.cell? ⟨(w.heap.size + 1), 2, none⟩ = some (.slice aoF2 m3 cF2) := HBb6.out.cell (i := 2) rfl
        have lb := HBb6.out.lt
        go_wp2_with fail
        go_ret
        exact ⟨rfl, HE6.out⟩

set_option maxRecDepth 100000 in
set_option maxHeartbeats 4000000 in
theorem inside_on {w : World} {xA xB : Array Value} {A B : DA} (hA : DfaW w (.agg xA) A) (sA : SmallD A.raw) (hB : DfaW w (.agg xB) B) (sB : SmallD B.raw) (hs : A.syms = B.syms) (hT : TabW w) : Calls Tryz.prog 3 #[.agg xA, .agg xB] w (TruePost w) := by
  have HA0 := hid hA
  have HB0 := hid hB
  have HT := hid hT
  have HSA := hid sA
  have HSB := hid sB
  have HSY := hid hs
  obtain ⟨aoS, n1, cS, aoN, n2, cN, aoF, n3, cF, rfl⟩ := hA.open_
  obtain ⟨aoS2, m1, cS2, aoN2, m2, cN2, aoF2, m3, cF2, rfl⟩ := hB.open_
  clear hA hB sA sB hs hT
  obtain ⟨w1, hw1⟩ : ∃ u, u = w.alloc (.cells #[.slice aoS n1 cS, .slice aoN n2 cN, .slice aoF n3 cF] 26) := ⟨_, rfl⟩
  have ew1 : Ext w w1 := hw1 ▸ (Below.refl _ _).alloc (Nat.le_refl _) _
  have HBan : Hid (Blk w1 w.heap.size 26 #[.slice aoS n1 cS, .slice aoN n2 cN, .slice aoF n3 cF]) := hid (hw1 ▸ Blk.new _ _ _)
  have HWw1 := hid hw1
  have HE1 : Hid (Ext w w1) := hid (ew1)
  have HA1 := hid (HA0.out.ext (ew1))
  have HB1 := hid (HB0.out.ext (ew1))
  clear ew1 hw1
  obtain ⟨w2, hw2⟩ : ∃ u, u = w1.alloc (.cells #[.slice aoS2 m1 cS2, .slice aoN2 m2 cN2, .slice aoF2 m3 cF2] 26) := ⟨_, rfl⟩
  have ew2 : Ext w1 w2 := hw2 ▸ (Below.refl _ _).alloc (Nat.le_refl _) _
  have HBbn : Hid (Blk w2 (w.heap.size + 1) 26 #[.slice aoS2 m1 cS2, .slice aoN2 m2 cN2, .slice aoF2 m3 cF2]) := hid (by rw [hw2]; exact Blk.new' _ _ _ (by rw [HWw1.out]; simp))
  have HWw2 := hid hw2
  have HE2 : Hid (Ext w w2) := hid (HE1.out.trans ((ew2).mono HE1.out.size))
  have HBa2 := hid (HBan.out.ext (ew2))
  have HA2 := hid (HA1.out.ext (ew2))
  have HB2 := hid (HB1.out.ext (ew2))
  clear ew2 hw2
  go_enter Tryz.func3, Tryz.ntmps3
  go_wp2_with fail
  rw [← HWw1.out, ← HWw2.out]
  refine (small8_any HA2.out.at_ HSA.out.len).mono ?_
  rintro e w3 ⟨b, rfl, hb, hx⟩
  have HE3 : Hid (Ext w w3) := hid (HE2.out.trans ((hx).mono HE2.out.size))
  have HBa3 := hid (HBa2.out.ext (hx))
  have HBb3 := hid (HBbn.out.ext (hx))
  have HA3 := hid (HA2.out.ext (hx))
  have HB3 := hid (HB2.out.ext (hx))
  clear hx
  obtain rfl : b = true := hb.2 HSA.out
  clear hb
  have ca0 : w3.cell? ⟨w.heap.size, 0, none⟩ = some (.slice aoS n1 cS) := HBa3.out.cell (i := 0) rfl
  have ca1 : w3.cell? ⟨w.heap.size, 1, none⟩ = some (.slice aoN n2 cN) := HBa3.out.cell (i := 1) rfl
  have ca2 : w3.cell? ⟨w.heap.size, 2, none⟩ = some (.slice aoF n3 cF) := HBa3.out.cell (i := 2) rfl
  have la := HBa3.out.lt
  have cb0 : w3.cell? ⟨(w.heap.size + 1), 0, none⟩ = some (.slice aoS2 m1 cS2) := HBb3.out.cell (i := 0) rfl
  have cb1 : w3.cell? ⟨(w.heap.size + 1), 1, none⟩ = some (.slice aoN2 m2 cN2) := HBb3.out.cell (i := 1) rfl
  have cb2 : w3.cell? ⟨(w.heap.size + 1), 2, none⟩ = some (.slice aoF2 m3 cF2) := HBb3.out.cell (i := 2) rfl
  have lb := HBb3.out.lt
  go_wp2_with fail
  refine (small8_any HB3.out.at_ HSB.out.len).mono ?_
  rintro e w4 ⟨b, rfl, hb, hx⟩
  clear ca0 ca1 ca2 la cb0 cb1 cb2 lb
  have HE4 : Hid (Ext w w4) := hid (HE3.out.trans ((hx).mono HE3.out.size))
  have HBa4 := hid (HBa3.out.ext (hx))
  have HBb4 := hid (HBb3.out.ext (hx))
  have HA4 := hid (HA3.out.ext (hx))
  have HB4 := hid (HB3.out.ext (hx))
  clear hx
  obtain rfl : b = true := hb.2 HSB.out
  clear hb
  have ca0 : w4.cell? ⟨w.heap.size, 0, none⟩ = some (.slice aoS n1 cS) := HBa4.out.cell (i := 0) rfl
  have ca1 : w4.cell? ⟨w.heap.size, 1, none⟩ = some (.slice aoN n2 cN) := HBa4.out.cell (i := 1) rfl
  have ca2 : w4.cell? ⟨w.heap.size, 2, none⟩ = some (.slice aoF n3 cF) := HBa4.out.cell (i := 2) rfl
  have la := HBa4.out.lt
  have cb0 : w4.cell? ⟨(w.heap.size + 1), 0, none⟩ = some (.slice aoS2 m1 cS2) := HBb4.out.cell (i := 0) rfl
  have cb1 : w4.cell? ⟨(w.heap.size + 1), 1, none⟩ = some (.slice aoN2 m2 cN2) := HBb4.out.cell (i := 1) rfl
  have cb2 : w4.cell? ⟨(w.heap.size + 1), 2, none⟩ = some (.slice aoF2 m3 cF2) := HBb4.out.cell (i := 2) rfl
  have lb := HBb4.out.lt
  go_wp2_with fail
  have HC := hid (check8_any HA4.out.at_ HSA.out.bnd)
  rw [well_check HA0.out.well] at HC
  refine (HC.out).mono ?_
  rintro e w5 ⟨rfl, hx⟩
  clear ca0 ca1 ca2 la cb0 cb1 cb2 lb
  have HE5 : Hid (Ext w w5) := hid (HE4.out.trans ((hx).mono HE4.out.size))
  have HBa5 := hid (HBa4.out.ext (hx))
  have HBb5 := hid (HBb4.out.ext (hx))
  have HA5 := hid (HA4.out.ext (hx))
  have HB5 := hid (HB4.out.ext (hx))
  clear hx
  clear HC
  have ca0 : w5.cell? ⟨w.heap.size, 0, none⟩ = some (.slice aoS n1 cS) := HBa5.out.cell (i := 0) rfl
  have ca1 : w5.cell? ⟨w.heap.size, 1, none⟩ = some (.slice aoN n2 cN) := HBa5.out.cell (i := 1) rfl
  have ca2 : w5.cell? ⟨w.heap.size, 2, none⟩ = some (.slice aoF n3 cF) := HBa5.out.cell (i := 2) rfl
  have la := HBa5.out.lt
  have cb0 : w5.cell? ⟨(w.heap.size + 1), 0, none⟩ = some (.slice aoS2 m1 cS2) := HBb5.out.cell (i := 0) rfl
  have cb1 : w5.cell? ⟨(w.heap.size + 1), 1, none⟩ = some (.slice aoN2 m2 cN2) := HBb5.out.cell (i := 1) rfl
  have cb2 : w5.cell? ⟨(w.heap.size + 1), 2, none⟩ = some (.slice aoF2 m3 cF2) := HBb5.out.cell (i := 2) rfl
  have lb := HBb5.out.lt
  go_wp2_with fail
  have HC := hid (check8_any HB5.out.at_ HSB.out.bnd)
  rw [well_check HB0.out.well] at HC
  refine (HC.out).mono ?_
  rintro e w6 ⟨rfl, hx⟩
  clear ca0 ca1 ca2 la cb0 cb1 cb2 lb
  have HE6 : Hid (Ext w w6) := hid (HE5.out.trans ((hx).mono HE5.out.size))
  have HBa6 := hid (HBa5.out.ext (hx))
  have HBb6 := hid (HBb5.out.ext (hx))
  have HA6 := hid (HA5.out.ext (hx))
  have HB6 := hid (HB5.out.ext (hx))
  clear hx
  clear HC
  have ca0 : w6.cell? ⟨w.heap.size, 0, none⟩ = some (.slice aoS n1 cS) := HBa6.out.cell (i := 0) rfl
  have ca1 : w6.cell? ⟨w.heap.size, 1, none⟩ = some (.slice aoN n2 cN) := HBa6.out.cell (i := 1) rfl
  have ca2 : w6.cell? ⟨w.heap.size, 2, none⟩ = some (.slice aoF n3 cF) := HBa6.out.cell (i := 2) rfl
  have la := HBa6.out.lt
  have cb0 : w6.cell? ⟨(w.heap.size + 1), 0, none⟩ = some (.slice aoS2 m1 cS2) := HBb6.out.cell (i := 0) rfl
  have cb1 : w6.cell? ⟨(w.heap.size + 1), 1, none⟩ = some (.slice aoN2 m2 cN2) := HBb6.out.cell (i := 1) rfl
  have cb2 : w6.cell? ⟨(w.heap.size + 1), 2, none⟩ = some (.slice aoF2 m3 cF2) := HBb6.out.cell (i := 2) rfl
  have lb := HBb6.out.lt
  go_wp2_with fail
  have HC := hid (texts_rd HA6.out.at_.symsR HB6.out.at_.symsR HSA.out.len.s HSB.out.len.s)
  rw [show decide (A.raw.syms = B.raw.syms) = true from decide_eq_true HSY.out] at HC
  refine (HC.out).mono ?_
  rintro e w7 ⟨rfl, hx⟩
  clear ca0 ca1 ca2 la cb0 cb1 cb2 lb
  have HE7 : Hid (Ext w w7) := hid (HE6.out.trans ((hx).mono HE6.out.size))
  have HBa7 := hid (HBa6.out.ext (hx))
  have HBb7 := hid (HBb6.out.ext (hx))
  have HA7 := hid (HA6.out.ext (hx))
  have HB7 := hid (HB6.out.ext (hx))
  clear hx
  clear HC
  have ca0 : w7.cell? ⟨w.heap.size, 0, none⟩ = some (.slice aoS n1 cS) := HBa7.out.cell (i := 0) rfl
  have ca1 : w7.cell? ⟨w.heap.size, 1, none⟩ = some (.slice aoN n2 cN) := HBa7.out.cell (i := 1) rfl
  have ca2 : w7.cell? ⟨w.heap.size, 2, none⟩ = some (.slice aoF n3 cF) := HBa7.out.cell (i := 2) rfl
  have la := HBa7.out.lt
  have cb0 : w7.cell? ⟨(w.heap.size + 1), 0, none⟩ = some (.slice aoS2 m1 cS2) := HBb7.out.cell (i := 0) rfl
  have cb1 : w7.cell? ⟨(w.heap.size + 1), 1, none⟩ = some (.slice aoN2 m2 cN2) := HBb7.out.cell (i := 1) rfl
  have cb2 : w7.cell? ⟨(w.heap.size + 1), 2, none⟩ = some (.slice aoF2 m3 cF2) := HBb7.out.cell (i := 2) rfl
  have lb := HBb7.out.lt
  go_wp2_with fail
  refine (not_in HB7.out).mono ?_
  rintro e w8 ⟨aoSn, n1n, cSn, aoNn, n2n, cNn, aoFn, n3n, cFn, rfl, hN, hx⟩
  clear ca0 ca1 ca2 la cb0 cb1 cb2 lb
  have HE8 : Hid (Ext w w8) := hid (HE7.out.trans ((hx).mono HE7.out.size))
  have HBa8 := hid (HBa7.out.ext (hx))
  have HBb8 := hid (HBb7.out.ext (hx))
  have HA8 := hid (HA7.out.ext (hx))
  have HB8 := hid (HB7.out.ext (hx))
  have HN0 := hid hN
  clear hx hN
  have ca0 : w8.cell? ⟨w.heap.size, 0, none⟩ = some (.slice aoS n1 cS) := HBa8.out.cell (i := 0) rfl
  have ca1 : w8.cell? ⟨w.heap.size, 1, none⟩ = some (.slice aoN n2 cN) := HBa8.out.cell (i := 1) rfl
  have ca2 : w8.cell? ⟨w.heap.size, 2, none⟩ = some (.slice aoF n3 cF) := HBa8.out.cell (i := 2) rfl
  have la := HBa8.out.lt
  have cb0 : w8.cell? ⟨(w.heap.size + 1), 0, none⟩ = some (.slice aoS2 m1 cS2) := HBb8.out.cell (i := 0) rfl
  have cb1 : w8.cell? ⟨(w.heap.size + 1), 1, none⟩ = some (.slice aoN2 m2 cN2) := HBb8.out.cell (i := 1) rfl
  have cb2 : w8.cell? ⟨(w.heap.size + 1), 2, none⟩ = some (.slice aoF2 m3 cF2) := HBb8.out.cell (i := 2) rfl
  have lb := HBb8.out.lt
  go_wp2_with fail
  obtain ⟨w9, hw9⟩ : ∃ u, u = w8.alloc (.cells #[.slice aoSn n1n cSn, .slice aoNn n2n cNn, .slice aoFn n3n cFn] 26) := ⟨_, rfl⟩
  have ew9 : Ext w8 w9 := hw9 ▸ (Below.refl _ _).alloc (Nat.le_refl _) _
  have HBnn : Hid (Blk w9 w8.heap.size 26 #[.slice aoSn n1n cSn, .slice aoNn n2n cNn, .slice aoFn n3n cFn]) := hid (hw9 ▸ Blk.new _ _ _)
  have HWw9 := hid hw9
  clear ca0 ca1 ca2 la cb0 cb1 cb2 lb
  have HE9 : Hid (Ext w w9) := hid (HE8.out.trans ((ew9).mono HE8.out.size))
  have HBa9 := hid (HBa8.out.ext (ew9))
  have HBb9 := hid (HBb8.out.ext (ew9))
  have HA9 := hid (HA8.out.ext (ew9))
  have HB9 := hid (HB8.out.ext (ew9))
  have HN9 := hid (HN0.out.ext (ew9))
  clear ew9 hw9
  rw [← HWw9.out]
  have ca0 : w9.cell? ⟨w.heap.size, 0, none⟩ = some (.slice aoS n1 cS) := HBa9.out.cell (i := 0) rfl
  have ca1 : w9.cell? ⟨w.heap.size, 1, none⟩ = some (.slice aoN n2 cN) := HBa9.out.cell (i := 1) rfl
  have ca2 : w9.cell? ⟨w.heap.size, 2, none⟩ = some (.slice aoF n3 cF) := HBa9.out.cell (i := 2) rfl
  have la := HBa9.out.lt
  have cb0 : w9.cell? ⟨(w.heap.size + 1), 0, none⟩ = some (.slice aoS2 m1 cS2) := HBb9.out.cell (i := 0) rfl
  have cb1 : w9.cell? ⟨(w.heap.size + 1), 1, none⟩ = some (.slice aoN2 m2 cN2) := HBb9.out.cell (i := 1) rfl
  have cb2 : w9.cell? ⟨(w.heap.size + 1), 2, none⟩ = some (.slice aoF2 m3 cF2) := HBb9.out.cell (i := 2) rfl
  have lb := HBb9.out.lt
  have cn0 : w9.cell? ⟨w8.heap.size, 0, none⟩ = some (.slice aoSn n1n cSn) := HBnn.out.cell (i := 0) rfl
  have cn1 : w9.cell? ⟨w8.heap.size, 1, none⟩ = some (.slice aoNn n2n cNn) := HBnn.out.cell (i := 1) rfl
  have cn2 : w9.cell? ⟨w8.heap.size, 2, none⟩ = some (.slice aoFn n3n cFn) := HBnn.out.cell (i := 2) rfl
  have ln := HBnn.out.lt
  refine (both_in HA9.out HN9.out HSA.out.n HSB.out.n HSA.out.s HSB.out.s).mono ?_
  rintro e w10 ⟨i, xd, hf, rfl, hDD, hx⟩
  obtain ⟨aoSd, n1d, cSd, aoNd, n2d, cNd, aoFd, n3d, cFd, rfl⟩ := hDD.open_
  clear ca0 ca1 ca2 la cb0 cb1 cb2 lb cn0 cn1 cn2 ln
  have HE10 : Hid (Ext w w10) := hid (HE9.out.trans ((hx).mono HE9.out.size))
  have HBa10 := hid (HBa9.out.ext (hx))
  have HBb10 := hid (HBb9.out.ext (hx))
  have HBn10 := hid (HBnn.out.ext (hx))
  have HA10 := hid (HA9.out.ext (hx))
  have HB10 := hid (HB9.out.ext (hx))
  have HN10 := hid (HN9.out.ext (hx))
  have HDD0 := hid hDD
  have HF := hid hf
  clear hx hDD hf
  have ca0 : w10.cell? ⟨w.heap.size, 0, none⟩ = some (.slice aoS n1 cS) := HBa10.out.cell (i := 0) rfl
  have ca1 : w10.cell? ⟨w.heap.size, 1, none⟩ = some (.slice aoN n2 cN) := HBa10.out.cell (i := 1) rfl
  have ca2 : w10.cell? ⟨w.heap.size, 2, none⟩ = some (.slice aoF n3 cF) := HBa10.out.cell (i := 2) rfl
  have la := HBa10.out.lt
  have cb0 : w10.cell? ⟨(w.heap.size + 1), 0, none⟩ = some (.slice aoS2 m1 cS2) := HBb10.out.cell (i := 0) rfl
  have cb1 : w10.cell? ⟨(w.heap.size + 1), 1, none⟩ = some (.slice aoN2 m2 cN2) := HBb10.out.cell (i := 1) rfl
  have cb2 : w10.cell? ⟨(w.heap.size + 1), 2, none⟩ = some (.slice aoF2 m3 cF2) := HBb10.out.cell (i := 2) rfl
  have lb := HBb10.out.lt
  have cn0 : w10.cell? ⟨w8.heap.size, 0, none⟩ = some (.slice aoSn n1n cSn) := HBn10.out.cell (i := 0) rfl
  have cn1 : w10.cell? ⟨w8.heap.size, 1, none⟩ = some (.slice aoNn n2n cNn) := HBn10.out.cell (i := 1) rfl
  have cn2 : w10.cell? ⟨w8.heap.size, 2, none⟩ = some (.slice aoFn n3n cFn) := HBn10.out.cell (i := 2) rfl
  have ln := HBn10.out.lt
  go_wp2_with fail
  obtain ⟨w11, hw11⟩ : ∃ u, u = w10.alloc (.cells #[.slice aoSd n1d cSd, .slice aoNd n2d cNd, .slice aoFd n3d cFd] 26) := ⟨_, rfl⟩
  have ew11 : Ext w10 w11 := hw11 ▸ (Below.refl _ _).alloc (Nat.le_refl _) _
  have HBdn : Hid (Blk w11 w10.heap.size 26 #[.slice aoSd n1d cSd, .slice aoNd n2d cNd, .slice aoFd n3d cFd]) := hid (hw11 ▸ Blk.new _ _ _)
  have HWw11 := hid hw11
  clear ca0 ca1 ca2 la cb0 cb1 cb2 lb cn0 cn1 cn2 ln
  have HE11 : Hid (Ext w w11) := hid (HE10.out.trans ((ew11).mono HE10.out.size))
  have HBa11 := hid (HBa10.out.ext (ew11))
  have HBb11 := hid (HBb10.out.ext (ew11))
  have HBn11 := hid (HBn10.out.ext (ew11))
  have HA11 := hid (HA10.out.ext (ew11))
  have HB11 := hid (HB10.out.ext (ew11))
  have HN11 := hid (HN10.out.ext (ew11))
  have HDD11 := hid (HDD0.out.ext (ew11))
  clear ew11 hw11
  rw [← HWw11.out]
  have ca0 : w11.cell? ⟨w.heap.size, 0, none⟩ = some (.slice aoS n1 cS) := HBa11.out.cell (i := 0) rfl
  have ca1 : w11.cell? ⟨w.heap.size, 1, none⟩ = some (.slice aoN n2 cN) := HBa11.out.cell (i := 1) rfl
  have ca2 : w11.cell? ⟨w.heap.size, 2, none⟩ = some (.slice aoF n3 cF) := HBa11.out.cell (i := 2) rfl
  have la := HBa11.out.lt
  have cb0 : w11.cell? ⟨(w.heap.size + 1), 0, none⟩ = some (.slice aoS2 m1 cS2) := HBb11.out.cell (i := 0) rfl
  have cb1 : w11.cell? ⟨(w.heap.size + 1), 1, none⟩ = some (.slice aoN2 m2 cN2) := HBb11.out.cell (i := 1) rfl
  have cb2 : w11.cell? ⟨(w.heap.size + 1), 2, none⟩ = some (.slice aoF2 m3 cF2) := HBb11.out.cell (i := 2) rfl
  have lb := HBb11.out.lt
  have cn0 : w11.cell? ⟨w8.heap.size, 0, none⟩ = some (.slice aoSn n1n cSn) := HBn11.out.cell (i := 0) rfl
  have cn1 : w11.cell? ⟨w8.heap.size, 1, none⟩ = some (.slice aoNn n2n cNn) := HBn11.out.cell (i := 1) rfl
  have cn2 : w11.cell? ⟨w8.heap.size, 2, none⟩ = some (.slice aoFn n3n cFn) := HBn11.out.cell (i := 2) rfl
  have ln := HBn11.out.lt
  have cd0 : w11.cell? ⟨w10.heap.size, 0, none⟩ = some (.slice aoSd n1d cSd) := HBdn.out.cell (i := 0) rfl
  have cd1 : w11.cell? ⟨w10.heap.size, 1, none⟩ = some (.slice aoNd n2d cNd) := HBdn.out.cell (i := 1) rfl
  have cd2 : w11.cell? ⟨w10.heap.size, 2, none⟩ = some (.slice aoFd n3d cFd) := HBdn.out.cell (i := 2) rfl
  have ld := HBdn.out.lt
  refine (least_any HDD11.out).mono ?_
  intro e w12 hq
  obtain ⟨ao9, n9, c9, gz, rfl, hx, hgz⟩ := least_em hq
  clear hq
  clear ca0 ca1 ca2 la cb0 cb1 cb2 lb cn0 cn1 cn2 ln cd0 cd1 cd2 ld
  have HE12 : Hid (Ext w w12) := hid (HE11.out.trans ((hx).mono HE11.out.size))
  have HBa12 := hid (HBa11.out.ext (hx))
  have HBb12 := hid (HBb11.out.ext (hx))
  have HBn12 := hid (HBn11.out.ext (hx))
  have HBd12 := hid (HBdn.out.ext (hx))
  have HA12 := hid (HA11.out.ext (hx))
  have HB12 := hid (HB11.out.ext (hx))
  have HN12 := hid (HN11.out.ext (hx))
  have HDD12 := hid (HDD11.out.ext (hx))
  have HGZ := hid (hgz.trans (inside_empty HA0.out.well HB0.out.well HSY.out HF.out))
  clear hx hgz
  have ca0 : w12.cell? ⟨w.heap.size, 0, none⟩ = some (.slice aoS n1 cS) := HBa12.out.cell (i := 0) rfl
  have ca1 : w12.cell? ⟨w.heap.size, 1, none⟩ = some (.slice aoN n2 cN) := HBa12.out.cell (i := 1) rfl
  have ca2 : w12.cell? ⟨w.heap.size, 2, none⟩ = some (.slice aoF n3 cF) := HBa12.out.cell (i := 2) rfl
  have la := HBa12.out.lt
  have cb0 : w12.cell? ⟨(w.heap.size + 1), 0, none⟩ = some (.slice aoS2 m1 cS2) := HBb12.out.cell (i := 0) rfl
  have cb1 : w12.cell? ⟨(w.heap.size + 1), 1, none⟩ = some (.slice aoN2 m2 cN2) := HBb12.out.cell (i := 1) rfl
  have cb2 : w12.cell? ⟨(w.heap.size + 1), 2, none⟩ = some (.slice aoF2 m3 cF2) := HBb12.out.cell (i := 2) rfl
  have lb := HBb12.out.lt
  have cn0 : w12.cell? ⟨w8.heap.size, 0, none⟩ = some (.slice aoSn n1n cSn) := HBn12.out.cell (i := 0) rfl
  have cn1 : w12.cell? ⟨w8.heap.size, 1, none⟩ = some (.slice aoNn n2n cNn) := HBn12.out.cell (i := 1) rfl
  have cn2 : w12.cell? ⟨w8.heap.size, 2, none⟩ = some (.slice aoFn n3n cFn) := HBn12.out.cell (i := 2) rfl
  have ln := HBn12.out.lt
  have cd0 : w12.cell? ⟨w10.heap.size, 0, none⟩ = some (.slice aoSd n1d cSd) := HBd12.out.cell (i := 0) rfl
  have cd1 : w12.cell? ⟨w10.heap.size, 1, none⟩ = some (.slice aoNd n2d cNd) := HBd12.out.cell (i := 1) rfl
  have cd2 : w12.cell? ⟨w10.heap.size, 2, none⟩ = some (.slice aoFd n3d cFd) := HBd12.out.cell (i := 2) rfl
  have ld := HBd12.out.lt
  go_wp2_with fail
  refine (within_any HA12.out HB12.out).mono ?_
  intro e w13 hq
  obtain ⟨aoqb1, nqb1, cqb1, b1, rfl, hx, hb⟩ := within_in HA0.out.well HB0.out.well HSY.out hq
  clear hq
  clear ca0 ca1 ca2 la cb0 cb1 cb2 lb cn0 cn1 cn2 ln cd0 cd1 cd2 ld
  have HE13 : Hid (Ext w w13) := hid (HE12.out.trans ((hx).mono HE12.out.size))
  have HBa13 := hid (HBa12.out.ext (hx))
  have HBb13 := hid (HBb12.out.ext (hx))
  have HBn13 := hid (HBn12.out.ext (hx))
  have HBd13 := hid (HBd12.out.ext (hx))
  have HA13 := hid (HA12.out.ext (hx))
  have HB13 := hid (HB12.out.ext (hx))
  have HN13 := hid (HN12.out.ext (hx))
  have HDD13 := hid (HDD12.out.ext (hx))
  have HI1 := hid hb
  clear hx hb
  have ca0 : w13.cell? ⟨w.heap.size, 0, none⟩ = some (.slice aoS n1 cS) := HBa13.out.cell (i := 0) rfl
  have ca1 : w13.cell? ⟨w.heap.size, 1, none⟩ = some (.slice aoN n2 cN) := HBa13.out.cell (i := 1) rfl
  have ca2 : w13.cell? ⟨w.heap.size, 2, none⟩ = some (.slice aoF n3 cF) := HBa13.out.cell (i := 2) rfl
  have la := HBa13.out.lt
  have cb0 : w13.cell? ⟨(w.heap.size + 1), 0, none⟩ = some (.slice aoS2 m1 cS2) := HBb13.out.cell (i := 0) rfl
  have cb1 : w13.cell? ⟨(w.heap.size + 1), 1, none⟩ = some (.slice aoN2 m2 cN2) := HBb13.out.cell (i := 1) rfl
  have cb2 : w13.cell? ⟨(w.heap.size + 1), 2, none⟩ = some (.slice aoF2 m3 cF2) := HBb13.out.cell (i := 2) rfl
  have lb := HBb13.out.lt
  have cn0 : w13.cell? ⟨w8.heap.size, 0, none⟩ = some (.slice aoSn n1n cSn) := HBn13.out.cell (i := 0) rfl
  have cn1 : w13.cell? ⟨w8.heap.size, 1, none⟩ = some (.slice aoNn n2n cNn) := HBn13.out.cell (i := 1) rfl
  have cn2 : w13.cell? ⟨w8.heap.size, 2, none⟩ = some (.slice aoFn n3n cFn) := HBn13.out.cell (i := 2) rfl
  have ln := HBn13.out.lt
  have cd0 : w13.cell? ⟨w10.heap.size, 0, none⟩ = some (.slice aoSd n1d cSd) := HBd13.out.cell (i := 0) rfl
  have cd1 : w13.cell? ⟨w10.heap.size, 1, none⟩ = some (.slice aoNd n2d cNd) := HBd13.out.cell (i := 1) rfl
  have cd2 : w13.cell? ⟨w10.heap.size, 2, none⟩ = some (.slice aoFd n3d cFd) := HBd13.out.cell (i := 2) rfl
  have ld := HBd13.out.lt
  go_wp2_with fail
  refine (within_any HB13.out HA13.out).mono ?_
  intro e w14 hq
  obtain ⟨aoqb2, nqb2, cqb2, b2, rfl, hx, hb⟩ := within_in HB0.out.well HA0.out.well HSY.out.symm hq
  clear hq
  clear ca0 ca1 ca2 la cb0 cb1 cb2 lb cn0 cn1 cn2 ln cd0 cd1 cd2 ld
  have HE14 : Hid (Ext w w14) := hid (HE13.out.trans ((hx).mono HE13.out.size))
  have HBa14 := hid (HBa13.out.ext (hx))
  have HBb14 := hid (HBb13.out.ext (hx))
  have HBn14 := hid (HBn13.out.ext (hx))
  have HBd14 := hid (HBd13.out.ext (hx))
  have HA14 := hid (HA13.out.ext (hx))
  have HB14 := hid (HB13.out.ext (hx))
  have HN14 := hid (HN13.out.ext (hx))
  have HDD14 := hid (HDD13.out.ext (hx))
  have HI2 := hid hb
  clear hx hb
  have ca0 : w14.cell? ⟨w.heap.size, 0, none⟩ = some (.slice aoS n1 cS) := HBa14.out.cell (i := 0) rfl
  have ca1 : w14.cell? ⟨w.heap.size, 1, none⟩ = some (.slice aoN n2 cN) := HBa14.out.cell (i := 1) rfl
  have ca2 : w14.cell? ⟨w.heap.size, 2, none⟩ = some (.slice aoF n3 cF) := HBa14.out.cell (i := 2) rfl
  have la := HBa14.out.lt
  have cb0 : w14.cell? ⟨(w.heap.size + 1), 0, none⟩ = some (.slice aoS2 m1 cS2) := HBb14.out.cell (i := 0) rfl
  have cb1 : w14.cell? ⟨(w.heap.size + 1), 1, none⟩ = some (.slice aoN2 m2 cN2) := HBb14.out.cell (i := 1) rfl
  have cb2 : w14.cell? ⟨(w.heap.size + 1), 2, none⟩ = some (.slice aoF2 m3 cF2) := HBb14.out.cell (i := 2) rfl
  have lb := HBb14.out.lt
  have cn0 : w14.cell? ⟨w8.heap.size, 0, none⟩ = some (.slice aoSn n1n cSn) := HBn14.out.cell (i := 0) rfl
  have cn1 : w14.cell? ⟨w8.heap.size, 1, none⟩ = some (.slice aoNn n2n cNn) := HBn14.out.cell (i := 1) rfl
  have cn2 : w14.cell? ⟨w8.heap.size, 2, none⟩ = some (.slice aoFn n3n cFn) := HBn14.out.cell (i := 2) rfl
  have ln := HBn14.out.lt
  have cd0 : w14.cell? ⟨w10.heap.size, 0, none⟩ = some (.slice aoSd n1d cSd) := HBd14.out.cell (i := 0) rfl
  have cd1 : w14.cell? ⟨w10.heap.size, 1, none⟩ = some (.slice aoNd n2d cNd) := HBd14.out.cell (i := 1) rfl
  have cd2 : w14.cell? ⟨w10.heap.size, 2, none⟩ = some (.slice aoFd n3d cFd) := HBd14.out.cell (i := 2) rfl
  have ld := HBd14.out.lt
  go_wp2_with fail
  refine (small_in HA14.out).mono ?_
  rintro e w15 ⟨aoSx, n1x, cSx, aoNx, n2x, cNx, aoFx, n3x, cFx, X, rfl, hmX, hX, hx⟩
  clear ca0 ca1 ca2 la cb0 cb1 cb2 lb cn0 cn1 cn2 ln cd0 cd1 cd2 ld
  have HE15 : Hid (Ext w w15) := hid (HE14.out.trans ((hx).mono HE14.out.size))
  have HBa15 := hid (HBa14.out.ext (hx))
  have HBb15 := hid (HBb14.out.ext (hx))
  have HBn15 := hid (HBn14.out.ext (hx))
  have HBd15 := hid (HBd14.out.ext (hx))
  have HA15 := hid (HA14.out.ext (hx))
  have HB15 := hid (HB14.out.ext (hx))
  have HN15 := hid (HN14.out.ext (hx))
  have HDD15 := hid (HDD14.out.ext (hx))
  have HX0 := hid hX
  clear hx hX
  have ca0 : w15.cell? ⟨w.heap.size, 0, none⟩ = some (.slice aoS n1 cS) := HBa15.out.cell (i := 0) rfl
  have ca1 : w15.cell? ⟨w.heap.size, 1, none⟩ = some (.slice aoN n2 cN) := HBa15.out.cell (i := 1) rfl
  have ca2 : w15.cell? ⟨w.heap.size, 2, none⟩ = some (.slice aoF n3 cF) := HBa15.out.cell (i := 2) rfl
  have la := HBa15.out.lt
  have cb0 : w15.cell? ⟨(w.heap.size + 1), 0, none⟩ = some (.slice aoS2 m1 cS2) := HBb15.out.cell (i := 0) rfl
  have cb1 : w15.cell? ⟨(w.heap.size + 1), 1, none⟩ = some (.slice aoN2 m2 cN2) := HBb15.out.cell (i := 1) rfl
  have cb2 : w15.cell? ⟨(w.heap.size + 1), 2, none⟩ = some (.slice aoF2 m3 cF2) := HBb15.out.cell (i := 2) rfl
  have lb := HBb15.out.lt
  have cn0 : w15.cell? ⟨w8.heap.size, 0, none⟩ = some (.slice aoSn n1n cSn) := HBn15.out.cell (i := 0) rfl
  have cn1 : w15.cell? ⟨w8.heap.size, 1, none⟩ = some (.slice aoNn n2n cNn) := HBn15.out.cell (i := 1) rfl
  have cn2 : w15.cell? ⟨w8.heap.size, 2, none⟩ = some (.slice aoFn n3n cFn) := HBn15.out.cell (i := 2) rfl
  have ln := HBn15.out.lt
  have cd0 : w15.cell? ⟨w10.heap.size, 0, none⟩ = some (.slice aoSd n1d cSd) := HBd15.out.cell (i := 0) rfl
  have cd1 : w15.cell? ⟨w10.heap.size, 1, none⟩ = some (.slice aoNd n2d cNd) := HBd15.out.cell (i := 1) rfl
  have cd2 : w15.cell? ⟨w10.heap.size, 2, none⟩ = some (.slice aoFd n3d cFd) := HBd15.out.cell (i := 2) rfl
  have ld := HBd15.out.lt
  go_wp2_with fail
  obtain ⟨w16, hw16⟩ : ∃ u, u = w15.alloc (.cells #[.slice aoSx n1x cSx, .slice aoNx n2x cNx, .slice aoFx n3x cFx] 26) := ⟨_, rfl⟩
  have ew16 : Ext w15 w16 := hw16 ▸ (Below.refl _ _).alloc (Nat.le_refl _) _
  have HBxn : Hid (Blk w16 w15.heap.size 26 #[.slice aoSx n1x cSx, .slice aoNx n2x cNx, .slice aoFx n3x cFx]) := hid (hw16 ▸ Blk.new _ _ _)
  have HWw16 := hid hw16
  clear ca0 ca1 ca2 la cb0 cb1 cb2 lb cn0 cn1 cn2 ln cd0 cd1 cd2 ld
  have HE16 : Hid (Ext w w16) := hid (HE15.out.trans ((ew16).mono HE15.out.size))
  have HBa16 := hid (HBa15.out.ext (ew16))
  have HBb16 := hid (HBb15.out.ext (ew16))
  have HBn16 := hid (HBn15.out.ext (ew16))
  have HBd16 := hid (HBd15.out.ext (ew16))
  have HA16 := hid (HA15.out.ext (ew16))
  have HB16 := hid (HB15.out.ext (ew16))
  have HN16 := hid (HN15.out.ext (ew16))
  have HDD16 := hid (HDD15.out.ext (ew16))
  have HX16 := hid (HX0.out.ext (ew16))
  clear ew16 hw16
  rw [← HWw16.out]
  have ca0 : w16.cell? ⟨w.heap.size, 0, none⟩ = some (.slice aoS n1 cS) := HBa16.out.cell (i := 0) rfl
  have ca1 : w16.cell? ⟨w.heap.size, 1, none⟩ = some (.slice aoN n2 cN) := HBa16.out.cell (i := 1) rfl
  have ca2 : w16.cell? ⟨w.heap.size, 2, none⟩ = some (.slice aoF n3 cF) := HBa16.out.cell (i := 2) rfl
  have la := HBa16.out.lt
  have cb0 : w16.cell? ⟨(w.heap.size + 1), 0, none⟩ = some (.slice aoS2 m1 cS2) := HBb16.out.cell (i := 0) rfl
  have cb1 : w16.cell? ⟨(w.heap.size + 1), 1, none⟩ = some (.slice aoN2 m2 cN2) := HBb16.out.cell (i := 1) rfl
  have cb2 : w16.cell? ⟨(w.heap.size + 1), 2, none⟩ = some (.slice aoF2 m3 cF2) := HBb16.out.cell (i := 2) rfl
  have lb := HBb16.out.lt
  have cn0 : w16.cell? ⟨w8.heap.size, 0, none⟩ = some (.slice aoSn n1n cSn) := HBn16.out.cell (i := 0) rfl
  have cn1 : w16.cell? ⟨w8.heap.size, 1, none⟩ = some (.slice aoNn n2n cNn) := HBn16.out.cell (i := 1) rfl
  have cn2 : w16.cell? ⟨w8.heap.size, 2, none⟩ = some (.slice aoFn n3n cFn) := HBn16.out.cell (i := 2) rfl
  have ln := HBn16.out.lt
  have cd0 : w16.cell? ⟨w10.heap.size, 0, none⟩ = some (.slice aoSd n1d cSd) := HBd16.out.cell (i := 0) rfl
  have cd1 : w16.cell? ⟨w10.heap.size, 1, none⟩ = some (.slice aoNd n2d cNd) := HBd16.out.cell (i := 1) rfl
  have cd2 : w16.cell? ⟨w10.heap.size, 2, none⟩ = some (.slice aoFd n3d cFd) := HBd16.out.cell (i := 2) rfl
  have ld := HBd16.out.lt
  have cx0 : w16.cell? ⟨w15.heap.size, 0, none⟩ = some (.slice aoSx n1x cSx) := HBxn.out.cell (i := 0) rfl
  have cx1 : w16.cell? ⟨w15.heap.size, 1, none⟩ = some (.slice aoNx n2x cNx) := HBxn.out.cell (i := 1) rfl
  have cx2 : w16.cell? ⟨w15.heap.size, 2, none⟩ = some (.slice aoFx n3x cFx) := HBxn.out.cell (i := 2) rfl
  have lx := HBxn.out.lt
  have HMX := hid hmX
  clear hmX
  refine (small_in HB16.out).mono ?_
  rintro e w17 ⟨aoSy, n1y, cSy, aoNy, n2y, cNy, aoFy, n3y, cFy, Y, rfl, hmY, hY, hx⟩
  clear ca0 ca1 ca2 la cb0 cb1 cb2 lb cn0 cn1 cn2 ln cd0 cd1 cd2 ld cx0 cx1 cx2 lx
  have HE17 : Hid (Ext w w17) := hid (HE16.out.trans ((hx).mono HE16.out.size))
  have HBa17 := hid (HBa16.out.ext (hx))
  have HBb17 := hid (HBb16.out.ext (hx))
  have HBn17 := hid (HBn16.out.ext (hx))
  have HBd17 := hid (HBd16.out.ext (hx))
  have HBx17 := hid (HBxn.out.ext (hx))
  have HA17 := hid (HA16.out.ext (hx))
  have HB17 := hid (HB16.out.ext (hx))
  have HN17 := hid (HN16.out.ext (hx))
  have HDD17 := hid (HDD16.out.ext (hx))
  have HX17 := hid (HX16.out.ext (hx))
  have HY0 := hid hY
  have HMY := hid hmY
  clear hx hY hmY
  have tg : (gz == 18) = b1 := by
    rw [Bool.eq_iff_iff]
    exact HGZ.out.trans HI1.out.symm
  have HSM : Hid (sameD X.raw Y.raw = (b1 && b2)) := hid (by
    rw [Bool.eq_iff_iff, small_same HMX.out HMY.out HSY.out, Bool.and_eq_true, ← inside_both HSY.out, HI1.out, HI2.out])
  have HLX := hid (min_lenD HMX.out HA0.out.well HA0.out.bnd)
  have HLY := hid (min_lenD HMY.out HB0.out.well HB0.out.bnd)
  cases b1 <;> cases b2
  · have tg2 : (gz == (18 : Int)) = false := tg
    simp only [Bool.and_true, Bool.and_false, Bool.true_and, Bool.false_and] at HSM
    have ca0 : w17.cell? ⟨w.heap.size, 0, none⟩ = some (.slice aoS n1 cS) := HBa17.out.cell (i := 0) rfl
    have ca1 : w17.cell? ⟨w.heap.size, 1, none⟩ = some (.slice aoN n2 cN) := HBa17.out.cell (i := 1) rfl
    have ca2 : w17.cell? ⟨w.heap.size, 2, none⟩ = some (.slice aoF n3 cF) := HBa17.out.cell (i := 2) rfl
    have la := HBa17.out.lt
    have cb0 : w17.cell? ⟨(w.heap.size + 1), 0, none⟩ = some (.slice aoS2 m1 cS2) := HBb17.out.cell (i := 0) rfl
    have cb1 : w17.cell? ⟨(w.heap.size + 1), 1, none⟩ = some (.slice aoN2 m2 cN2) := HBb17.out.cell (i := 1) rfl
    have cb2 : w17.cell? ⟨(w.heap.size + 1), 2, none⟩ = some (.slice aoF2 m3 cF2) := HBb17.out.cell (i := 2) rfl
    have lb := HBb17.out.lt
    have cn0 : w17.cell? ⟨w8.heap.size, 0, none⟩ = some (.slice aoSn n1n cSn) := HBn17.out.cell (i := 0) rfl
    have cn1 : w17.cell? ⟨w8.heap.size, 1, none⟩ = some (.slice aoNn n2n cNn) := HBn17.out.cell (i := 1) rfl
    have cn2 : w17.cell? ⟨w8.heap.size, 2, none⟩ = some (.slice aoFn n3n cFn) := HBn17.out.cell (i := 2) rfl
    have ln := HBn17.out.lt
    have cd0 : w17.cell? ⟨w10.heap.size, 0, none⟩ = some (.slice aoSd n1d cSd) := HBd17.out.cell (i := 0) rfl
    have cd1 : w17.cell? ⟨w10.heap.size, 1, none⟩ = some (.slice aoNd n2d cNd) := HBd17.out.cell (i := 1) rfl
    have cd2 : w17.cell? ⟨w10.heap.size, 2, none⟩ = some (.slice aoFd n3d cFd) := HBd17.out.cell (i := 2) rfl
    have ld := HBd17.out.lt
    have cx0 : w17.cell? ⟨w15.heap.size, 0, none⟩ = some (.slice aoSx n1x cSx) := HBx17.out.cell (i := 0) rfl
    have cx1 : w17.cell? ⟨w15.heap.size, 1, none⟩ = some (.slice aoNx n2x cNx) := HBx17.out.cell (i := 1) rfl
    have cx2 : w17.cell? ⟨w15.heap.size, 2, none⟩ = some (.slice aoFx n3x cFx) := HBx17.out.cell (i := 2) rfl
    have lx := HBx17.out.lt
    go_wp2_with fail
    obtain ⟨w18, hw18⟩ : ∃ u, u = w17.alloc (.cells #[.slice aoSy n1y cSy, .slice aoNy n2y cNy, .slice aoFy n3y cFy] 26) := ⟨_, rfl⟩
    have ew18 : Ext w17 w18 := hw18 ▸ (Below.refl _ _).alloc (Nat.le_refl _) _
    have HByn : Hid (Blk w18 w17.heap.size 26 #[.slice aoSy n1y cSy, .slice aoNy n2y cNy, .slice aoFy n3y cFy]) := hid (hw18 ▸ Blk.new _ _ _)
    have HWw18 := hid hw18
    clear ca0 ca1 ca2 la cb0 cb1 cb2 lb cn0 cn1 cn2 ln cd0 cd1 cd2 ld cx0 cx1 cx2 lx
    have HE18 : Hid (Ext w w18) := hid (HE17.out.trans ((ew18).mono HE17.out.size))
    have HBa18 := hid (HBa17.out.ext (ew18))
    have HBb18 := hid (HBb17.out.ext (ew18))
    have HBn18 := hid (HBn17.out.ext (ew18))
    have HBd18 := hid (HBd17.out.ext (ew18))
    have HBx18 := hid (HBx17.out.ext (ew18))
    have HA18 := hid (HA17.out.ext (ew18))
    have HB18 := hid (HB17.out.ext (ew18))
    have HN18 := hid (HN17.out.ext (ew18))
    have HDD18 := hid (HDD17.out.ext (ew18))
    have HX18 := hid (HX17.out.ext (ew18))
    have HY18 := hid (HY0.out.ext (ew18))
    clear ew18 hw18
    rw [← HWw18.out]
    have ca0 : w18.cell? ⟨w.heap.size, 0, none⟩ = some (.slice aoS n1 cS) := HBa18.out.cell (i := 0) rfl
    have ca1 : w18.cell? ⟨w.heap.size, 1, none⟩ = some (.slice aoN n2 cN) := HBa18.out.cell (i := 1) rfl
    have ca2 : w18.cell? ⟨w.heap.size, 2, none⟩ = some (.slice aoF n3 cF) := HBa18.out.cell (i := 2) rfl
    have la := HBa18.out.lt
    have cb0 : w18.cell? ⟨(w.heap.size + 1), 0, none⟩ = some (.slice aoS2 m1 cS2) := HBb18.out.cell (i := 0) rfl
    have cb1 : w18.cell? ⟨(w.heap.size + 1), 1, none⟩ = some (.slice aoN2 m2 cN2) := HBb18.out.cell (i := 1) rfl
    have cb2 : w18.cell? ⟨(w.heap.size + 1), 2, none⟩ = some (.slice aoF2 m3 cF2) := HBb18.out.cell (i := 2) rfl
    have lb := HBb18.out.lt
    have cn0 : w18.cell? ⟨w8.heap.size, 0, none⟩ = some (.slice aoSn n1n cSn) := HBn18.out.cell (i := 0) rfl
    have cn1 : w18.cell? ⟨w8.heap.size, 1, none⟩ = some (.slice aoNn n2n cNn) := HBn18.out.cell (i := 1) rfl
    have cn2 : w18.cell? ⟨w8.heap.size, 2, none⟩ = some (.slice aoFn n3n cFn) := HBn18.out.cell (i := 2) rfl
    have ln := HBn18.out.lt
    have cd0 : w18.cell? ⟨w10.heap.size, 0, none⟩ = some (.slice aoSd n1d cSd) := HBd18.out.cell (i := 0) rfl
    have cd1 : w18.cell? ⟨w10.heap.size, 1, none⟩ = some (.slice aoNd n2d cNd) := HBd18.out.cell (i := 1) rfl
    have cd2 : w18.cell? ⟨w10.heap.size, 2, none⟩ = some (.slice aoFd n3d cFd) := HBd18.out.cell (i := 2) rfl
    have ld := HBd18.out.lt
    have cx0 : w18.cell? ⟨w15.heap.size, 0, none⟩ = some (.slice aoSx n1x cSx) := HBx18.out.cell (i := 0) rfl
    have cx1 : w18.cell? ⟨w15.heap.size, 1, none⟩ = some (.slice aoNx n2x cNx) := HBx18.out.cell (i := 1) rfl
    have cx2 : w18.cell? ⟨w15.heap.size, 2, none⟩ = some (.slice aoFx n3x cFx) := HBx18.out.cell (i := 2) rfl
    have lx := HBx18.out.lt
    have cy0 : w18.cell? ⟨w17.heap.size, 0, none⟩ = some (.slice aoSy n1y cSy) := HByn.out.cell (i := 0) rfl
    have cy1 : w18.cell? ⟨w17.heap.size, 1, none⟩ = some (.slice aoNy n2y cNy) := HByn.out.cell (i := 1) rfl
    have cy2 : w18.cell? ⟨w17.heap.size, 2, none⟩ = some (.slice aoFy n3y cFy) := HByn.out.cell (i := 2) rfl
    have ly := HByn.out.lt
    clear tg tg2
    go_upto_region 12 with fail
    have hS0 : Ext w18 w18.drew := (Below.refl _ _).drew
    refine wp_region_heldL (fun w' => Ext w18 w') (by kernel_rfl) ?_
    refine wpAnyH_takeK 0 13 #[true, false, false, false, false, false, false, false, false, false, false, false, false, false] rfl (by kernel_rfl) rfl (.bool false) (fun _ _ _ h => h) (Or.inl ⟨rfl, fun w' hS => ?_⟩) hS0 ?_
    · go_simp <;> with_reducible rfl
    refine wpAnyH_takeK 1 12 #[true, true, false, false, false, false, false, false, false, false, false, false, false, false] rfl (by kernel_rfl) rfl (.bool false) (fun _ _ _ h => h) (Or.inl ⟨rfl, fun w' hS => ?_⟩) hS0 ?_
    · go_simp <;> with_reducible rfl
    refine wpAnyH_takeK 2 11 #[true, true, true, false, false, false, false, false, false, false, false, false, false, false] rfl (by kernel_rfl) rfl undef (fun _ _ _ h => h) (Or.inr ⟨by go_simp, rfl⟩) hS0 ?_
    refine wpAnyH_takeK 3 10 #[true, true, true, true, false, false, false, false, false, false, false, false, false, false] rfl (by kernel_rfl) rfl (.bool false) (fun _ _ _ h => h) (Or.inl ⟨rfl, fun w' hS => ?_⟩) hS0 ?_
    · go_simp <;> with_reducible rfl
    refine wpAnyH_takeK 4 9 #[true, true, true, true, true, false, false, false, false, false, false, false, false, false] rfl (by kernel_rfl) rfl (.agg #[.slice aoSx n1x cSx, .slice aoNx n2x cNx, .slice aoFx n3x cFx]) (fun _ _ _ h => h) (Or.inl ⟨rfl, fun w' hS => ?_⟩) hS0 ?_
    · (have d0 : w'.cell? ⟨w15.heap.size, 0, none⟩ = some (.slice aoSx n1x cSx) := (HBx18.out.ext hS).cell (i := 0) rfl ; have d1 : w'.cell? ⟨w15.heap.size, 1, none⟩ = some (.slice aoNx n2x cNx) := (HBx18.out.ext hS).cell (i := 1) rfl ; have d2 : w'.cell? ⟨w15.heap.size, 2, none⟩ = some (.slice aoFx n3x cFx) := (HBx18.out.ext hS).cell (i := 2) rfl; go_simp <;> with_reducible rfl)
    refine wpAnyH_takeK 6 8 #[true, true, true, true, true, false, true, false, false, false, false, false, false, false] rfl (by kernel_rfl) rfl (.agg #[.slice aoSy n1y cSy, .slice aoNy n2y cNy, .slice aoFy n3y cFy]) (fun _ _ _ h => h) (Or.inl ⟨rfl, fun w' hS => ?_⟩) hS0 ?_
    · (have d0 : w'.cell? ⟨w17.heap.size, 0, none⟩ = some (.slice aoSy n1y cSy) := (HByn.out.ext hS).cell (i := 0) rfl ; have d1 : w'.cell? ⟨w17.heap.size, 1, none⟩ = some (.slice aoNy n2y cNy) := (HByn.out.ext hS).cell (i := 1) rfl ; have d2 : w'.cell? ⟨w17.heap.size, 2, none⟩ = some (.slice aoFy n3y cFy) := (HByn.out.ext hS).cell (i := 2) rfl; go_simp <;> with_reducible rfl)
    refine wpAnyH_one 5 7 #[true, true, true, true, true, true, true, false, false, false, false, false, false, false] rfl (by kernel_rfl) rfl ?_
    go_wp2_with fail
    refine (plain8_any _ aoSx aoNx aoFx n1x n2x n3x cSx cNx cFx).mono ?_
    rintro e wp ⟨rfl, hx⟩
    have hSwp : Ext w18 wp := hS0.trans (hx.mono hS0.size)
    clear hx
    go_wp2_with fail
    refine ⟨hSwp, ?_⟩
    refine wpAnyH_one 7 6 #[true, true, true, true, true, true, true, true, false, false, false, false, false, false] rfl (by kernel_rfl) rfl ?_
    go_wp2_with fail
    refine (plain8_any _ aoSy aoNy aoFy n1y n2y n3y cSy cNy cFy).mono ?_
    rintro e wq ⟨rfl, hx⟩
    have hSwq : Ext w18 wq := hSwp.trans (hx.mono hSwp.size)
    clear hx
    go_wp2_with fail
    refine ⟨hSwq, ?_⟩
    have HSC := hid (same_any (HX18.out.ext hSwq) (HY18.out.ext hSwq) HLX.out HLY.out (okD_raw HMX.out.ok) (okD_raw HMY.out.ok))
    rw [HSM.out] at HSC
    refine wpAnyH_one 8 5 #[true, true, true, true, true, true, true, true, true, false, false, false, false, false] rfl (by kernel_rfl) rfl ?_
    go_wp2_with fail
    refine (HSC.out).mono ?_
    rintro e ws ⟨rfl, hx⟩
    have hSws : Ext w18 ws := hSwq.trans (hx.mono hSwq.size)
    clear hx
    go_wp2_with fail
    refine ⟨hSws, ?_⟩
    refine wpAnyH_one 9 4 #[true, true, true, true, true, true, true, true, true, true, false, false, false, false] rfl (by kernel_rfl) rfl ?_
    go_wp2_with fail
    refine ⟨hSws, ?_⟩
    refine wpAnyH_one 10 3 #[true, true, true, true, true, true, true, true, true, true, true, false, false, false] rfl (by kernel_rfl) rfl ?_
    go_wp2_with fail
    refine ⟨hSws, ?_⟩
    refine wpAnyH_one 11 2 #[true, true, true, true, true, true, true, true, true, true, true, true, false, false] rfl (by kernel_rfl) rfl ?_
    go_wp2_with fail
    refine (awake8_any (HT.out.ext (HE18.out.trans (hSws.mono HE18.out.size)))).mono ?_
    rintro e wt ⟨rfl, hx⟩
    have hSwt : Ext w18 wt := hSws.trans (hx.mono hSws.size)
    clear hx
    go_wp2_with fail
    refine ⟨hSwt, ?_⟩
    refine wpAnyH_one 12 1 #[true, true, true, true, true, true, true, true, true, true, true, true, true, false] rfl (by kernel_rfl) rfl ?_
    go_wp2_with fail
    refine ⟨hSwt, ?_⟩
    refine wpAnyH_one 13 0 #[true, true, true, true, true, true, true, true, true, true, true, true, true, true] rfl (by kernel_rfl) rfl ?_
    go_wp2_with fail
    refine ⟨hSwt, ?_⟩
    refine wpAnyH_end (P := Tryz.prog) (by kernel_rfl) ?_
    go_wp2_with fail
    go_ret
    exact ⟨rfl, HE18.out.trans (hSwt.mono HE18.out.size)⟩
  · have tg2 : (gz == (18 : Int)) = false := tg
    simp only [Bool.and_true, Bool.and_false, Bool.true_and, Bool.false_and] at HSM
    have ca0 : w17.cell? ⟨w.heap.size, 0, none⟩ = some (.slice aoS n1 cS) := HBa17.out.cell (i := 0) rfl
    have ca1 : w17.cell? ⟨w.heap.size, 1, none⟩ = some (.slice aoN n2 cN) := HBa17.out.cell (i := 1) rfl
    have ca2 : w17.cell? ⟨w.heap.size, 2, none⟩ = some (.slice aoF n3 cF) := HBa17.out.cell (i := 2) rfl
    have la := HBa17.out.lt
    have cb0 : w17.cell? ⟨(w.heap.size + 1), 0, none⟩ = some (.slice aoS2 m1 cS2) := HBb17.out.cell (i := 0) rfl
    have cb1 : w17.cell? ⟨(w.heap.size + 1), 1, none⟩ = some (.slice aoN2 m2 cN2) := HBb17.out.cell (i := 1) rfl
    have cb2 : w17.cell? ⟨(w.heap.size + 1), 2, none⟩ = some (.slice aoF2 m3 cF2) := HBb17.out.cell (i := 2) rfl
    have lb := HBb17.out.lt
    have cn0 : w17.cell? ⟨w8.heap.size, 0, none⟩ = some (.slice aoSn n1n cSn) := HBn17.out.cell (i := 0) rfl
    have cn1 : w17.cell? ⟨w8.heap.size, 1, none⟩ = some (.slice aoNn n2n cNn) := HBn17.out.cell (i := 1) rfl
    have cn2 : w17.cell? ⟨w8.heap.size, 2, none⟩ = some (.slice aoFn n3n cFn) := HBn17.out.cell (i := 2) rfl
    have ln := HBn17.out.lt
    have cd0 : w17.cell? ⟨w10.heap.size, 0, none⟩ = some (.slice aoSd n1d cSd) := HBd17.out.cell (i := 0) rfl
    have cd1 : w17.cell? ⟨w10.heap.size, 1, none⟩ = some (.slice aoNd n2d cNd) := HBd17.out.cell (i := 1) rfl
    have cd2 : w17.cell? ⟨w10.heap.size, 2, none⟩ = some (.slice aoFd n3d cFd) := HBd17.out.cell (i := 2) rfl
    have ld := HBd17.out.lt
    have cx0 : w17.cell? ⟨w15.heap.size, 0, none⟩ = some (.slice aoSx n1x cSx) := HBx17.out.cell (i := 0) rfl
    have cx1 : w17.cell? ⟨w15.heap.size, 1, none⟩ = some (.slice aoNx n2x cNx) := HBx17.out.cell (i := 1) rfl
    have cx2 : w17.cell? ⟨w15.heap.size, 2, none⟩ = some (.slice aoFx n3x cFx) := HBx17.out.cell (i := 2) rfl
    have lx := HBx17.out.lt
    go_wp2_with fail
    obtain ⟨w18, hw18⟩ : ∃ u, u = w17.alloc (.cells #[.slice aoSy n1y cSy, .slice aoNy n2y cNy, .slice aoFy n3y cFy] 26) := ⟨_, rfl⟩
    have ew18 : Ext w17 w18 := hw18 ▸ (Below.refl _ _).alloc (Nat.le_refl _) _
    have HByn : Hid (Blk w18 w17.heap.size 26 #[.slice aoSy n1y cSy, .slice aoNy n2y cNy, .slice aoFy n3y cFy]) := hid (hw18 ▸ Blk.new _ _ _)
    have HWw18 := hid hw18
    clear ca0 ca1 ca2 la cb0 cb1 cb2 lb cn0 cn1 cn2 ln cd0 cd1 cd2 ld cx0 cx1 cx2 lx
    have HE18 : Hid (Ext w w18) := hid (HE17.out.trans ((ew18).mono HE17.out.size))
    have HBa18 := hid (HBa17.out.ext (ew18))
    have HBb18 := hid (HBb17.out.ext (ew18))
    have HBn18 := hid (HBn17.out.ext (ew18))
    have HBd18 := hid (HBd17.out.ext (ew18))
    have HBx18 := hid (HBx17.out.ext (ew18))
    have HA18 := hid (HA17.out.ext (ew18))
    have HB18 := hid (HB17.out.ext (ew18))
    have HN18 := hid (HN17.out.ext (ew18))
    have HDD18 := hid (HDD17.out.ext (ew18))
    have HX18 := hid (HX17.out.ext (ew18))
    have HY18 := hid (HY0.out.ext (ew18))
    clear ew18 hw18
    rw [← HWw18.out]
    have ca0 : w18.cell? ⟨w.heap.size, 0, none⟩ = some (.slice aoS n1 cS) := HBa18.out.cell (i := 0) rfl
    have ca1 : w18.cell? ⟨w.heap.size, 1, none⟩ = some (.slice aoN n2 cN) := HBa18.out.cell (i := 1) rfl
    have ca2 : w18.cell? ⟨w.heap.size, 2, none⟩ = some (.slice aoF n3 cF) := HBa18.out.cell (i := 2) rfl
    have la := HBa18.out.lt
    have cb0 : w18.cell? ⟨(w.heap.size + 1), 0, none⟩ = some (.slice aoS2 m1 cS2) := HBb18.out.cell (i := 0) rfl
    have cb1 : w18.cell? ⟨(w.heap.size + 1), 1, none⟩ = some (.slice aoN2 m2 cN2) := HBb18.out.cell (i := 1) rfl
    have cb2 : w18.cell? ⟨(w.heap.size + 1), 2, none⟩ = some (.slice aoF2 m3 cF2) := HBb18.out.cell (i := 2) rfl
    have lb := HBb18.out.lt
    have cn0 : w18.cell? ⟨w8.heap.size, 0, none⟩ = some (.slice aoSn n1n cSn) := HBn18.out.cell (i := 0) rfl
    have cn1 : w18.cell? ⟨w8.heap.size, 1, none⟩ = some (.slice aoNn n2n cNn) := HBn18.out.cell (i := 1) rfl
    have cn2 : w18.cell? ⟨w8.heap.size, 2, none⟩ = some (.slice aoFn n3n cFn) := HBn18.out.cell (i := 2) rfl
    have ln := HBn18.out.lt
    have cd0 : w18.cell? ⟨w10.heap.size, 0, none⟩ = some (.slice aoSd n1d cSd) := HBd18.out.cell (i := 0) rfl
    have cd1 : w18.cell? ⟨w10.heap.size, 1, none⟩ = some (.slice aoNd n2d cNd) := HBd18.out.cell (i := 1) rfl
    have cd2 : w18.cell? ⟨w10.heap.size, 2, none⟩ = some (.slice aoFd n3d cFd) := HBd18.out.cell (i := 2) rfl
    have ld := HBd18.out.lt
    have cx0 : w18.cell? ⟨w15.heap.size, 0, none⟩ = some (.slice aoSx n1x cSx) := HBx18.out.cell (i := 0) rfl
    have cx1 : w18.cell? ⟨w15.heap.size, 1, none⟩ = some (.slice aoNx n2x cNx) := HBx18.out.cell (i := 1) rfl
    have cx2 : w18.cell? ⟨w15.heap.size, 2, none⟩ = some (.slice aoFx n3x cFx) := HBx18.out.cell (i := 2) rfl
    have lx := HBx18.out.lt
    have cy0 : w18.cell? ⟨w17.heap.size, 0, none⟩ = some (.slice aoSy n1y cSy) := HByn.out.cell (i := 0) rfl
    have cy1 : w18.cell? ⟨w17.heap.size, 1, none⟩ = some (.slice aoNy n2y cNy) := HByn.out.cell (i := 1) rfl
    have cy2 : w18.cell? ⟨w17.heap.size, 2, none⟩ = some (.slice aoFy n3y cFy) := HByn.out.cell (i := 2) rfl
    have ly := HByn.out.lt
    clear tg tg2
    go_upto_region 12 with fail
    have hS0 : Ext w18 w18.drew := (Below.refl _ _).drew
    refine wp_region_heldL (fun w' => Ext w18 w') (by kernel_rfl) ?_
    refine wpAnyH_takeK 0 13 #[true, false, false, false, false, false, false, false, false, false, false, false, false, false] rfl (by kernel_rfl) rfl (.bool false) (fun _ _ _ h => h) (Or.inl ⟨rfl, fun w' hS => ?_⟩) hS0 ?_
    · go_simp <;> with_reducible rfl
    refine wpAnyH_takeK 1 12 #[true, true, false, false, false, false, false, false, false, false, false, false, false, false] rfl (by kernel_rfl) rfl (.bool false) (fun _ _ _ h => h) (Or.inl ⟨rfl, fun w' hS => ?_⟩) hS0 ?_
    · go_simp <;> with_reducible rfl
    refine wpAnyH_takeK 2 11 #[true, true, true, false, false, false, false, false, false, false, false, false, false, false] rfl (by kernel_rfl) rfl undef (fun _ _ _ h => h) (Or.inr ⟨by go_simp, rfl⟩) hS0 ?_
    refine wpAnyH_takeK 3 10 #[true, true, true, true, false, false, false, false, false, false, false, false, false, false] rfl (by kernel_rfl) rfl (.bool false) (fun _ _ _ h => h) (Or.inl ⟨rfl, fun w' hS => ?_⟩) hS0 ?_
    · go_simp <;> with_reducible rfl
    refine wpAnyH_takeK 4 9 #[true, true, true, true, true, false, false, false, false, false, false, false, false, false] rfl (by kernel_rfl) rfl (.agg #[.slice aoSx n1x cSx, .slice aoNx n2x cNx, .slice aoFx n3x cFx]) (fun _ _ _ h => h) (Or.inl ⟨rfl, fun w' hS => ?_⟩) hS0 ?_
    · (have d0 : w'.cell? ⟨w15.heap.size, 0, none⟩ = some (.slice aoSx n1x cSx) := (HBx18.out.ext hS).cell (i := 0) rfl ; have d1 : w'.cell? ⟨w15.heap.size, 1, none⟩ = some (.slice aoNx n2x cNx) := (HBx18.out.ext hS).cell (i := 1) rfl ; have d2 : w'.cell? ⟨w15.heap.size, 2, none⟩ = some (.slice aoFx n3x cFx) := (HBx18.out.ext hS).cell (i := 2) rfl; go_simp <;> with_reducible rfl)
    refine wpAnyH_takeK 6 8 #[true, true, true, true, true, false, true, false, false, false, false, false, false, false] rfl (by kernel_rfl) rfl (.agg #[.slice aoSy n1y cSy, .slice aoNy n2y cNy, .slice aoFy n3y cFy]) (fun _ _ _ h => h) (Or.inl ⟨rfl, fun w' hS => ?_⟩) hS0 ?_
    · (have d0 : w'.cell? ⟨w17.heap.size, 0, none⟩ = some (.slice aoSy n1y cSy) := (HByn.out.ext hS).cell (i := 0) rfl ; have d1 : w'.cell? ⟨w17.heap.size, 1, none⟩ = some (.slice aoNy n2y cNy) := (HByn.out.ext hS).cell (i := 1) rfl ; have d2 : w'.cell? ⟨w17.heap.size, 2, none⟩ = some (.slice aoFy n3y cFy) := (HByn.out.ext hS).cell (i := 2) rfl; go_simp <;> with_reducible rfl)
    refine wpAnyH_one 5 7 #[true, true, true, true, true, true, true, false, false, false, false, false, false, false] rfl (by kernel_rfl) rfl ?_
    go_wp2_with fail
    refine (plain8_any _ aoSx aoNx aoFx n1x n2x n3x cSx cNx cFx).mono ?_
    rintro e wp ⟨rfl, hx⟩
    have hSwp : Ext w18 wp := hS0.trans (hx.mono hS0.size)
    clear hx
    go_wp2_with fail
    refine ⟨hSwp, ?_⟩
    refine wpAnyH_one 7 6 #[true, true, true, true, true, true, true, true, false, false, false, false, false, false] rfl (by kernel_rfl) rfl ?_
    go_wp2_with fail
    refine (plain8_any _ aoSy aoNy aoFy n1y n2y n3y cSy cNy cFy).mono ?_
    rintro e wq ⟨rfl, hx⟩
    have hSwq : Ext w18 wq := hSwp.trans (hx.mono hSwp.size)
    clear hx
    go_wp2_with fail
    refine ⟨hSwq, ?_⟩
    have HSC := hid (same_any (HX18.out.ext hSwq) (HY18.out.ext hSwq) HLX.out HLY.out (okD_raw HMX.out.ok) (okD_raw HMY.out.ok))
    rw [HSM.out] at HSC
    refine wpAnyH_one 8 5 #[true, true, true, true, true, true, true, true, true, false, false, false, false, false] rfl (by kernel_rfl) rfl ?_
    go_wp2_with fail
    refine (HSC.out).mono ?_
    rintro e ws ⟨rfl, hx⟩
    have hSws : Ext w18 ws := hSwq.trans (hx.mono hSwq.size)
    clear hx
    go_wp2_with fail
    refine ⟨hSws, ?_⟩
    refine wpAnyH_one 9 4 #[true, true, true, true, true, true, true, true, true, true, false, false, false, false] rfl (by kernel_rfl) rfl ?_
    go_wp2_with fail
    refine ⟨hSws, ?_⟩
    refine wpAnyH_one 10 3 #[true, true, true, true, true, true, true, true, true, true, true, false, false, false] rfl (by kernel_rfl) rfl ?_
    go_wp2_with fail
    refine ⟨hSws, ?_⟩
    refine wpAnyH_one 11 2 #[true, true, true, true, true, true, true, true, true, true, true, true, false, false] rfl (by kernel_rfl) rfl ?_
    go_wp2_with fail
    refine (awake8_any (HT.out.ext (HE18.out.trans (hSws.mono HE18.out.size)))).mono ?_
    rintro e wt ⟨rfl, hx⟩
    have hSwt : Ext w18 wt := hSws.trans (hx.mono hSws.size)
    clear hx
    go_wp2_with fail
    refine ⟨hSwt, ?_⟩
    refine wpAnyH_one 12 1 #[true, true, true, true, true, true, true, true, true, true, true, true, true, false] rfl (by kernel_rfl) rfl ?_
    go_wp2_with fail
    refine ⟨hSwt, ?_⟩
    refine wpAnyH_one 13 0 #[true, true, true, true, true, true, true, true, true, true, true, true, true, true] rfl (by kernel_rfl) rfl ?_
    go_wp2_with fail
    refine ⟨hSwt, ?_⟩
    refine wpAnyH_end (P := Tryz.prog) (by kernel_rfl) ?_
    go_wp2_with fail
    go_ret
    exact ⟨rfl, HE18.out.trans (hSwt.mono HE18.out.size)⟩
  · have tg2 : (gz == (18 : Int)) = true := tg
    simp only [Bool.and_true, Bool.and_false, Bool.true_and, Bool.false_and] at HSM
    have ca0 : w17.cell? ⟨w.heap.size, 0, none⟩ = some (.slice aoS n1 cS) := HBa17.out.cell (i := 0) rfl
    have ca1 : w17.cell? ⟨w.heap.size, 1, none⟩ = some (.slice aoN n2 cN) := HBa17.out.cell (i := 1) rfl
    have ca2 : w17.cell? ⟨w.heap.size, 2, none⟩ = some (.slice aoF n3 cF) := HBa17.out.cell (i := 2) rfl
    have la := HBa17.out.lt
    have cb0 : w17.cell? ⟨(w.heap.size + 1), 0, none⟩ = some (.slice aoS2 m1 cS2) := HBb17.out.cell (i := 0) rfl
    have cb1 : w17.cell? ⟨(w.heap.size + 1), 1, none⟩ = some (.slice aoN2 m2 cN2) := HBb17.out.cell (i := 1) rfl
    have cb2 : w17.cell? ⟨(w.heap.size + 1), 2, none⟩ = some (.slice aoF2 m3 cF2) := HBb17.out.cell (i := 2) rfl
    have lb := HBb17.out.lt
    have cn0 : w17.cell? ⟨w8.heap.size, 0, none⟩ = some (.slice aoSn n1n cSn) := HBn17.out.cell (i := 0) rfl
    have cn1 : w17.cell? ⟨w8.heap.size, 1, none⟩ = some (.slice aoNn n2n cNn) := HBn17.out.cell (i := 1) rfl
    have cn2 : w17.cell? ⟨w8.heap.size, 2, none⟩ = some (.slice aoFn n3n cFn) := HBn17.out.cell (i := 2) rfl
    have ln := HBn17.out.lt
    have cd0 : w17.cell? ⟨w10.heap.size, 0, none⟩ = some (.slice aoSd n1d cSd) := HBd17.out.cell (i := 0) rfl
    have cd1 : w17.cell? ⟨w10.heap.size, 1, none⟩ = some (.slice aoNd n2d cNd) := HBd17.out.cell (i := 1) rfl
    have cd2 : w17.cell? ⟨w10.heap.size, 2, none⟩ = some (.slice aoFd n3d cFd) := HBd17.out.cell (i := 2) rfl
    have ld := HBd17.out.lt
    have cx0 : w17.cell? ⟨w15.heap.size, 0, none⟩ = some (.slice aoSx n1x cSx) := HBx17.out.cell (i := 0) rfl
    have cx1 : w17.cell? ⟨w15.heap.size, 1, none⟩ = some (.slice aoNx n2x cNx) := HBx17.out.cell (i := 1) rfl
    have cx2 : w17.cell? ⟨w15.heap.size, 2, none⟩ = some (.slice aoFx n3x cFx) := HBx17.out.cell (i := 2) rfl
    have lx := HBx17.out.lt
    go_wp2_with fail
    obtain ⟨w18, hw18⟩ : ∃ u, u = w17.alloc (.cells #[.slice aoSy n1y cSy, .slice aoNy n2y cNy, .slice aoFy n3y cFy] 26) := ⟨_, rfl⟩
    have ew18 : Ext w17 w18 := hw18 ▸ (Below.refl _ _).alloc (Nat.le_refl _) _
    have HByn : Hid (Blk w18 w17.heap.size 26 #[.slice aoSy n1y cSy, .slice aoNy n2y cNy, .slice aoFy n3y cFy]) := hid (hw18 ▸ Blk.new _ _ _)
    have HWw18 := hid hw18
    clear ca0 ca1 ca2 la cb0 cb1 cb2 lb cn0 cn1 cn2 ln cd0 cd1 cd2 ld cx0 cx1 cx2 lx
    have HE18 : Hid (Ext w w18) := hid (HE17.out.trans ((ew18).mono HE17.out.size))
    have HBa18 := hid (HBa17.out.ext (ew18))
    have HBb18 := hid (HBb17.out.ext (ew18))
    have HBn18 := hid (HBn17.out.ext (ew18))
    have HBd18 := hid (HBd17.out.ext (ew18))
    have HBx18 := hid (HBx17.out.ext (ew18))
    have HA18 := hid (HA17.out.ext (ew18))
    have HB18 := hid (HB17.out.ext (ew18))
    have HN18 := hid (HN17.out.ext (ew18))
    have HDD18 := hid (HDD17.out.ext (ew18))
    have HX18 := hid (HX17.out.ext (ew18))
    have HY18 := hid (HY0.out.ext (ew18))
    clear ew18 hw18
    rw [← HWw18.out]
    have ca0 : w18.cell? ⟨w.heap.size, 0, none⟩ = some (.slice aoS n1 cS) := HBa18.out.cell (i := 0) rfl
    have ca1 : w18.cell? ⟨w.heap.size, 1, none⟩ = some (.slice aoN n2 cN) := HBa18.out.cell (i := 1) rfl
    have ca2 : w18.cell? ⟨w.heap.size, 2, none⟩ = some (.slice aoF n3 cF) := HBa18.out.cell (i := 2) rfl
    have la := HBa18.out.lt
    have cb0 : w18.cell? ⟨(w.heap.size + 1), 0, none⟩ = some (.slice aoS2 m1 cS2) := HBb18.out.cell (i := 0) rfl
    have cb1 : w18.cell? ⟨(w.heap.size + 1), 1, none⟩ = some (.slice aoN2 m2 cN2) := HBb18.out.cell (i := 1) rfl
    have cb2 : w18.cell? ⟨(w.heap.size + 1), 2, none⟩ = some (.slice aoF2 m3 cF2) := HBb18.out.cell (i := 2) rfl
    have lb := HBb18.out.lt
    have cn0 : w18.cell? ⟨w8.heap.size, 0, none⟩ = some (.slice aoSn n1n cSn) := HBn18.out.cell (i := 0) rfl
    have cn1 : w18.cell? ⟨w8.heap.size, 1, none⟩ = some (.slice aoNn n2n cNn) := HBn18.out.cell (i := 1) rfl
    have cn2 : w18.cell? ⟨w8.heap.size, 2, none⟩ = some (.slice aoFn n3n cFn) := HBn18.out.cell (i := 2) rfl
    have ln := HBn18.out.lt
    have cd0 : w18.cell? ⟨w10.heap.size, 0, none⟩ = some (.slice aoSd n1d cSd) := HBd18.out.cell (i := 0) rfl
    have cd1 : w18.cell? ⟨w10.heap.size, 1, none⟩ = some (.slice aoNd n2d cNd) := HBd18.out.cell (i := 1) rfl
    have cd2 : w18.cell? ⟨w10.heap.size, 2, none⟩ = some (.slice aoFd n3d cFd) := HBd18.out.cell (i := 2) rfl
    have ld := HBd18.out.lt
    have cx0 : w18.cell? ⟨w15.heap.size, 0, none⟩ = some (.slice aoSx n1x cSx) := HBx18.out.cell (i := 0) rfl
    have cx1 : w18.cell? ⟨w15.heap.size, 1, none⟩ = some (.slice aoNx n2x cNx) := HBx18.out.cell (i := 1) rfl
    have cx2 : w18.cell? ⟨w15.heap.size, 2, none⟩ = some (.slice aoFx n3x cFx) := HBx18.out.cell (i := 2) rfl
    have lx := HBx18.out.lt
    have cy0 : w18.cell? ⟨w17.heap.size, 0, none⟩ = some (.slice aoSy n1y cSy) := HByn.out.cell (i := 0) rfl
    have cy1 : w18.cell? ⟨w17.heap.size, 1, none⟩ = some (.slice aoNy n2y cNy) := HByn.out.cell (i := 1) rfl
    have cy2 : w18.cell? ⟨w17.heap.size, 2, none⟩ = some (.slice aoFy n3y cFy) := HByn.out.cell (i := 2) rfl
    have ly := HByn.out.lt
    clear tg tg2
    go_upto_region 12 with fail
    have hS0 : Ext w18 w18.drew := (Below.refl _ _).drew
    refine wp_region_heldL (fun w' => Ext w18 w') (by kernel_rfl) ?_
    refine wpAnyH_takeK 0 13 #[true, false, false, false, false, false, false, false, false, false, false, false, false, false] rfl (by kernel_rfl) rfl (.bool true) (fun _ _ _ h => h) (Or.inl ⟨rfl, fun w' hS => ?_⟩) hS0 ?_
    · go_simp <;> with_reducible rfl
    refine wpAnyH_takeK 1 12 #[true, true, false, false, false, false, false, false, false, false, false, false, false, false] rfl (by kernel_rfl) rfl (.bool true) (fun _ _ _ h => h) (Or.inl ⟨rfl, fun w' hS => ?_⟩) hS0 ?_
    · go_simp <;> with_reducible rfl
    refine wpAnyH_takeK 2 11 #[true, true, true, false, false, false, false, false, false, false, false, false, false, false] rfl (by kernel_rfl) rfl (.bool false) (fun _ _ _ h => h) (Or.inl ⟨by go_simp, fun w' hS => ?_⟩) hS0 ?_
    · go_simp <;> with_reducible rfl
    refine wpAnyH_takeK 3 10 #[true, true, true, true, false, false, false, false, false, false, false, false, false, false] rfl (by kernel_rfl) rfl (.bool false) (fun _ _ _ h => h) (Or.inl ⟨rfl, fun w' hS => ?_⟩) hS0 ?_
    · go_simp <;> with_reducible rfl
    refine wpAnyH_takeK 4 9 #[true, true, true, true, true, false, false, false, false, false, false, false, false, false] rfl (by kernel_rfl) rfl (.agg #[.slice aoSx n1x cSx, .slice aoNx n2x cNx, .slice aoFx n3x cFx]) (fun _ _ _ h => h) (Or.inl ⟨rfl, fun w' hS => ?_⟩) hS0 ?_
    · (have d0 : w'.cell? ⟨w15.heap.size, 0, none⟩ = some (.slice aoSx n1x cSx) := (HBx18.out.ext hS).cell (i := 0) rfl ; have d1 : w'.cell? ⟨w15.heap.size, 1, none⟩ = some (.slice aoNx n2x cNx) := (HBx18.out.ext hS).cell (i := 1) rfl ; have d2 : w'.cell? ⟨w15.heap.size, 2, none⟩ = some (.slice aoFx n3x cFx) := (HBx18.out.ext hS).cell (i := 2) rfl; go_simp <;> with_reducible rfl)
    refine wpAnyH_takeK 6 8 #[true, true, true, true, true, false, true, false, false, false, false, false, false, false] rfl (by kernel_rfl) rfl (.agg #[.slice aoSy n1y cSy, .slice aoNy n2y cNy, .slice aoFy n3y cFy]) (fun _ _ _ h => h) (Or.inl ⟨rfl, fun w' hS => ?_⟩) hS0 ?_
    · (have d0 : w'.cell? ⟨w17.heap.size, 0, none⟩ = some (.slice aoSy n1y cSy) := (HByn.out.ext hS).cell (i := 0) rfl ; have d1 : w'.cell? ⟨w17.heap.size, 1, none⟩ = some (.slice aoNy n2y cNy) := (HByn.out.ext hS).cell (i := 1) rfl ; have d2 : w'.cell? ⟨w17.heap.size, 2, none⟩ = some (.slice aoFy n3y cFy) := (HByn.out.ext hS).cell (i := 2) rfl; go_simp <;> with_reducible rfl)
    refine wpAnyH_one 5 7 #[true, true, true, true, true, true, true, false, false, false, false, false, false, false] rfl (by kernel_rfl) rfl ?_
    go_wp2_with fail
    refine (plain8_any _ aoSx aoNx aoFx n1x n2x n3x cSx cNx cFx).mono ?_
    rintro e wp ⟨rfl, hx⟩
    have hSwp : Ext w18 wp := hS0.trans (hx.mono hS0.size)
    clear hx
    go_wp2_with fail
    refine ⟨hSwp, ?_⟩
    refine wpAnyH_one 7 6 #[true, true, true, true, true, true, true, true, false, false, false, false, false, false] rfl (by kernel_rfl) rfl ?_
    go_wp2_with fail
    refine (plain8_any _ aoSy aoNy aoFy n1y n2y n3y cSy cNy cFy).mono ?_
    rintro e wq ⟨rfl, hx⟩
    have hSwq : Ext w18 wq := hSwp.trans (hx.mono hSwp.size)
    clear hx
    go_wp2_with fail
    refine ⟨hSwq, ?_⟩
    have HSC := hid (same_any (HX18.out.ext hSwq) (HY18.out.ext hSwq) HLX.out HLY.out (okD_raw HMX.out.ok) (okD_raw HMY.out.ok))
    rw [HSM.out] at HSC
    refine wpAnyH_one 8 5 #[true, true, true, true, true, true, true, true, true, false, false, false, false, false] rfl (by kernel_rfl) rfl ?_
    go_wp2_with fail
    refine (HSC.out).mono ?_
    rintro e ws ⟨rfl, hx⟩
    have hSws : Ext w18 ws := hSwq.trans (hx.mono hSwq.size)
    clear hx
    go_wp2_with fail
    refine ⟨hSws, ?_⟩
    refine wpAnyH_one 9 4 #[true, true, true, true, true, true, true, true, true, true, false, false, false, false] rfl (by kernel_rfl) rfl ?_
    go_wp2_with fail
    refine ⟨hSws, ?_⟩
    refine wpAnyH_one 10 3 #[true, true, true, true, true, true, true, true, true, true, true, false, false, false] rfl (by kernel_rfl) rfl ?_
    go_wp2_with fail
    refine ⟨hSws, ?_⟩
    refine wpAnyH_one 11 2 #[true, true, true, true, true, true, true, true, true, true, true, true, false, false] rfl (by kernel_rfl) rfl ?_
    go_wp2_with fail
    refine (awake8_any (HT.out.ext (HE18.out.trans (hSws.mono HE18.out.size)))).mono ?_
    rintro e wt ⟨rfl, hx⟩
    have hSwt : Ext w18 wt := hSws.trans (hx.mono hSws.size)
    clear hx
    go_wp2_with fail
    refine ⟨hSwt, ?_⟩
    refine wpAnyH_one 12 1 #[true, true, true, true, true, true, true, true, true, true, true, true, true, false] rfl (by kernel_rfl) rfl ?_
    go_wp2_with fail
    refine ⟨hSwt, ?_⟩
    refine wpAnyH_one 13 0 #[true, true, true, true, true, true, true, true, true, true, true, true, true, true] rfl (by kernel_rfl) rfl ?_
    go_wp2_with fail
    refine ⟨hSwt, ?_⟩
    refine wpAnyH_end (P := Tryz.prog) (by kernel_rfl) ?_
    go_wp2_with fail
    go_ret
    exact ⟨rfl, HE18.out.trans (hSwt.mono HE18.out.size)⟩
  · have tg2 : (gz == (18 : Int)) = true := tg
    simp only [Bool.and_true, Bool.and_false, Bool.true_and, Bool.false_and] at HSM
    have ca0 : w17.cell? ⟨w.heap.size, 0, none⟩ = some (.slice aoS n1 cS) := HBa17.out.cell (i := 0) rfl
    have ca1 : w17.cell? ⟨w.heap.size, 1, none⟩ = some (.slice aoN n2 cN) := HBa17.out.cell (i := 1) rfl
    have ca2 : w17.cell? ⟨w.heap.size, 2, none⟩ = some (.slice aoF n3 cF) := HBa17.out.cell (i := 2) rfl
    have la := HBa17.out.lt
    have cb0 : w17.cell? ⟨(w.heap.size + 1), 0, none⟩ = some (.slice aoS2 m1 cS2) := HBb17.out.cell (i := 0) rfl
    have cb1 : w17.cell? ⟨(w.heap.size + 1), 1, none⟩ = some (.slice aoN2 m2 cN2) := HBb17.out.cell (i := 1) rfl
    have cb2 : w17.cell? ⟨(w.heap.size + 1), 2, none⟩ = some (.slice aoF2 m3 cF2) := HBb17.out.cell (i := 2) rfl
    have lb := HBb17.out.lt
    have cn0 : w17.cell? ⟨w8.heap.size, 0, none⟩ = some (.slice aoSn n1n cSn) := HBn17.out.cell (i := 0) rfl
    have cn1 : w17.cell? ⟨w8.heap.size, 1, none⟩ = some (.slice aoNn n2n cNn) := HBn17.out.cell (i := 1) rfl
    have cn2 : w17.cell? ⟨w8.heap.size, 2, none⟩ = some (.slice aoFn n3n cFn) := HBn17.out.cell (i := 2) rfl
    have ln := HBn17.out.lt
    have cd0 : w17.cell? ⟨w10.heap.size, 0, none⟩ = some (.slice aoSd n1d cSd) := HBd17.out.cell (i := 0) rfl
    have cd1 : w17.cell? ⟨w10.heap.size, 1, none⟩ = some (.slice aoNd n2d cNd) := HBd17.out.cell (i := 1) rfl
    have cd2 : w17.cell? ⟨w10.heap.size, 2, none⟩ = some (.slice aoFd n3d cFd) := HBd17.out.cell (i := 2) rfl
    have ld := HBd17.out.lt
    have cx0 : w17.cell? ⟨w15.heap.size, 0, none⟩ = some (.slice aoSx n1x cSx) := HBx17.out.cell (i := 0) rfl
    have cx1 : w17.cell? ⟨w15.heap.size, 1, none⟩ = some (.slice aoNx n2x cNx) := HBx17.out.cell (i := 1) rfl
    have cx2 : w17.cell? ⟨w15.heap.size, 2, none⟩ = some (.slice aoFx n3x cFx) := HBx17.out.cell (i := 2) rfl
    have lx := HBx17.out.lt
    go_wp2_with fail
    obtain ⟨w18, hw18⟩ : ∃ u, u = w17.alloc (.cells #[.slice aoSy n1y cSy, .slice aoNy n2y cNy, .slice aoFy n3y cFy] 26) := ⟨_, rfl⟩
    have ew18 : Ext w17 w18 := hw18 ▸ (Below.refl _ _).alloc (Nat.le_refl _) _
    have HByn : Hid (Blk w18 w17.heap.size 26 #[.slice aoSy n1y cSy, .slice aoNy n2y cNy, .slice aoFy n3y cFy]) := hid (hw18 ▸ Blk.new _ _ _)
    have HWw18 := hid hw18
    clear ca0 ca1 ca2 la cb0 cb1 cb2 lb cn0 cn1 cn2 ln cd0 cd1 cd2 ld cx0 cx1 cx2 lx
    have HE18 : Hid (Ext w w18) := hid (HE17.out.trans ((ew18).mono HE17.out.size))
    have HBa18 := hid (HBa17.out.ext (ew18))
    have HBb18 := hid (HBb17.out.ext (ew18))
    have HBn18 := hid (HBn17.out.ext (ew18))
    have HBd18 := hid (HBd17.out.ext (ew18))
    have HBx18 := hid (HBx17.out.ext (ew18))
    have HA18 := hid (HA17.out.ext (ew18))
    have HB18 := hid (HB17.out.ext (ew18))
    have HN18 := hid (HN17.out.ext (ew18))
    have HDD18 := hid (HDD17.out.ext (ew18))
    have HX18 := hid (HX17.out.ext (ew18))
    have HY18 := hid (HY0.out.ext (ew18))
    clear ew18 hw18
    rw [← HWw18.out]
    have ca0 : w18.cell? ⟨w.heap.size, 0, none⟩ = some (.slice aoS n1 cS) := HBa18.out.cell (i := 0) rfl
    have ca1 : w18.cell? ⟨w.heap.size, 1, none⟩ = some (.slice aoN n2 cN) := HBa18.out.cell (i := 1) rfl
    have ca2 : w18.cell? ⟨w.heap.size, 2, none⟩ = some (.slice aoF n3 cF) := HBa18.out.cell (i := 2) rfl
    have la := HBa18.out.lt
    have cb0 : w18.cell? ⟨(w.heap.size + 1), 0, none⟩ = some (.slice aoS2 m1 cS2) := HBb18.out.cell (i := 0) rfl
    have cb1 : w18.cell? ⟨(w.heap.size + 1), 1, none⟩ = some (.slice aoN2 m2 cN2) := HBb18.out.cell (i := 1) rfl
    have cb2 : w18.cell? ⟨(w.heap.size + 1), 2, none⟩ = some (.slice aoF2 m3 cF2) := HBb18.out.cell (i := 2) rfl
    have lb := HBb18.out.lt
    have cn0 : w18.cell? ⟨w8.heap.size, 0, none⟩ = some (.slice aoSn n1n cSn) := HBn18.out.cell (i := 0) rfl
    have cn1 : w18.cell? ⟨w8.heap.size, 1, none⟩ = some (.slice aoNn n2n cNn) := HBn18.out.cell (i := 1) rfl
    have cn2 : w18.cell? ⟨w8.heap.size, 2, none⟩ = some (.slice aoFn n3n cFn) := HBn18.out.cell (i := 2) rfl
    have ln := HBn18.out.lt
    have cd0 : w18.cell? ⟨w10.heap.size, 0, none⟩ = some (.slice aoSd n1d cSd) := HBd18.out.cell (i := 0) rfl
    have cd1 : w18.cell? ⟨w10.heap.size, 1, none⟩ = some (.slice aoNd n2d cNd) := HBd18.out.cell (i := 1) rfl
    have cd2 : w18.cell? ⟨w10.heap.size, 2, none⟩ = some (.slice aoFd n3d cFd) := HBd18.out.cell (i := 2) rfl
    have ld := HBd18.out.lt
    have cx0 : w18.cell? ⟨w15.heap.size, 0, none⟩ = some (.slice aoSx n1x cSx) := HBx18.out.cell (i := 0) rfl
    have cx1 : w18.cell? ⟨w15.heap.size, 1, none⟩ = some (.slice aoNx n2x cNx) := HBx18.out.cell (i := 1) rfl
    have cx2 : w18.cell? ⟨w15.heap.size, 2, none⟩ = some (.slice aoFx n3x cFx) := HBx18.out.cell (i := 2) rfl
    have lx := HBx18.out.lt
    have cy0 : w18.cell? ⟨w17.heap.size, 0, none⟩ = some (.slice aoSy n1y cSy) := HByn.out.cell (i := 0) rfl
    have cy1 : w18.cell? ⟨w17.heap.size, 1, none⟩ = some (.slice aoNy n2y cNy) := HByn.out.cell (i := 1) rfl
    have cy2 : w18.cell? ⟨w17.heap.size, 2, none⟩ = some (.slice aoFy n3y cFy) := HByn.out.cell (i := 2) rfl
    have ly := HByn.out.lt
    clear tg tg2
    go_upto_region 12 with fail
    have hS0 : Ext w18 w18.drew := (Below.refl _ _).drew
    refine wp_region_heldL (fun w' => Ext w18 w') (by kernel_rfl) ?_
    refine wpAnyH_takeK 0 13 #[true, false, false, false, false, false, false, false, false, false, false, false, false, false] rfl (by kernel_rfl) rfl (.bool true) (fun _ _ _ h => h) (Or.inl ⟨rfl, fun w' hS => ?_⟩) hS0 ?_
    · go_simp <;> with_reducible rfl
    refine wpAnyH_takeK 1 12 #[true, true, false, false, false, false, false, false, false, false, false, false, false, false] rfl (by kernel_rfl) rfl (.bool true) (fun _ _ _ h => h) (Or.inl ⟨rfl, fun w' hS => ?_⟩) hS0 ?_
    · go_simp <;> with_reducible rfl
    refine wpAnyH_takeK 2 11 #[true, true, true, false, false, false, false, false, false, false, false, false, false, false] rfl (by kernel_rfl) rfl (.bool true) (fun _ _ _ h => h) (Or.inl ⟨by go_simp, fun w' hS => ?_⟩) hS0 ?_
    · go_simp <;> with_reducible rfl
    refine wpAnyH_takeK 3 10 #[true, true, true, true, false, false, false, false, false, false, false, false, false, false] rfl (by kernel_rfl) rfl (.bool true) (fun _ _ _ h => h) (Or.inl ⟨rfl, fun w' hS => ?_⟩) hS0 ?_
    · go_simp <;> with_reducible rfl
    refine wpAnyH_takeK 4 9 #[true, true, true, true, true, false, false, false, false, false, false, false, false, false] rfl (by kernel_rfl) rfl (.agg #[.slice aoSx n1x cSx, .slice aoNx n2x cNx, .slice aoFx n3x cFx]) (fun _ _ _ h => h) (Or.inl ⟨rfl, fun w' hS => ?_⟩) hS0 ?_
    · (have d0 : w'.cell? ⟨w15.heap.size, 0, none⟩ = some (.slice aoSx n1x cSx) := (HBx18.out.ext hS).cell (i := 0) rfl ; have d1 : w'.cell? ⟨w15.heap.size, 1, none⟩ = some (.slice aoNx n2x cNx) := (HBx18.out.ext hS).cell (i := 1) rfl ; have d2 : w'.cell? ⟨w15.heap.size, 2, none⟩ = some (.slice aoFx n3x cFx) := (HBx18.out.ext hS).cell (i := 2) rfl; go_simp <;> with_reducible rfl)
    refine wpAnyH_takeK 6 8 #[true, true, true, true, true, false, true, false, false, false, false, false, false, false] rfl (by kernel_rfl) rfl (.agg #[.slice aoSy n1y cSy, .slice aoNy n2y cNy, .slice aoFy n3y cFy]) (fun _ _ _ h => h) (Or.inl ⟨rfl, fun w' hS => ?_⟩) hS0 ?_
    · (have d0 : w'.cell? ⟨w17.heap.size, 0, none⟩ = some (.slice aoSy n1y cSy) := (HByn.out.ext hS).cell (i := 0) rfl ; have d1 : w'.cell? ⟨w17.heap.size, 1, none⟩ = some (.slice aoNy n2y cNy) := (HByn.out.ext hS).cell (i := 1) rfl ; have d2 : w'.cell? ⟨w17.heap.size, 2, none⟩ = some (.slice aoFy n3y cFy) := (HByn.out.ext hS).cell (i := 2) rfl; go_simp <;> with_reducible rfl)
    refine wpAnyH_one 5 7 #[true, true, true, true, true, true, true, false, false, false, false, false, false, false] rfl (by kernel_rfl) rfl ?_
    go_wp2_with fail
    refine (plain8_any _ aoSx aoNx aoFx n1x n2x n3x cSx cNx cFx).mono ?_
    rintro e wp ⟨rfl, hx⟩
    have hSwp : Ext w18 wp := hS0.trans (hx.mono hS0.size)
    clear hx
    go_wp2_with fail
    refine ⟨hSwp, ?_⟩
    refine wpAnyH_one 7 6 #[true, true, true, true, true, true, true, true, false, false, false, false, false, false] rfl (by kernel_rfl) rfl ?_
    go_wp2_with fail
    refine (plain8_any _ aoSy aoNy aoFy n1y n2y n3y cSy cNy cFy).mono ?_
    rintro e wq ⟨rfl, hx⟩
    have hSwq : Ext w18 wq := hSwp.trans (hx.mono hSwp.size)
    clear hx
    go_wp2_with fail
    refine ⟨hSwq, ?_⟩
    have HSC := hid (same_any (HX18.out.ext hSwq) (HY18.out.ext hSwq) HLX.out HLY.out (okD_raw HMX.out.ok) (okD_raw HMY.out.ok))
    rw [HSM.out] at HSC
    refine wpAnyH_one 8 5 #[true, true, true, true, true, true, true, true, true, false, false, false, false, false] rfl (by kernel_rfl) rfl ?_
    go_wp2_with fail
    refine (HSC.out).mono ?_
    rintro e ws ⟨rfl, hx⟩
    have hSws : Ext w18 ws := hSwq.trans (hx.mono hSwq.size)
    clear hx
    go_wp2_with fail
    refine ⟨hSws, ?_⟩
    refine wpAnyH_one 9 4 #[true, true, true, true, true, true, true, true, true, true, false, false, false, false] rfl (by kernel_rfl) rfl ?_
    go_wp2_with fail
    refine ⟨hSws, ?_⟩
    refine wpAnyH_one 10 3 #[true, true, true, true, true, true, true, true, true, true, true, false, false, false] rfl (by kernel_rfl) rfl ?_
    go_wp2_with fail
    refine ⟨hSws, ?_⟩
    refine wpAnyH_one 11 2 #[true, true, true, true, true, true, true, true, true, true, true, true, false, false] rfl (by kernel_rfl) rfl ?_
    go_wp2_with fail
    refine (awake8_any (HT.out.ext (HE18.out.trans (hSws.mono HE18.out.size)))).mono ?_
    rintro e wt ⟨rfl, hx⟩
    have hSwt : Ext w18 wt := hSws.trans (hx.mono hSws.size)
    clear hx
    go_wp2_with fail
    refine ⟨hSwt, ?_⟩
    refine wpAnyH_one 12 1 #[true, true, true, true, true, true, true, true, true, true, true, true, true, false] rfl (by kernel_rfl) rfl ?_
    go_wp2_with fail
    refine ⟨hSwt, ?_⟩
    refine wpAnyH_one 13 0 #[true, true, true, true, true, true, true, true, true, true, true, true, true, true] rfl (by kernel_rfl) rfl ?_
    go_wp2_with fail
    refine ⟨hSwt, ?_⟩
    refine wpAnyH_end (P := Tryz.prog) (by kernel_rfl) ?_
    go_wp2_with fail
    go_ret
    exact ⟨rfl, HE18.out.trans (hSwt.mono HE18.out.size)⟩
end Go.Proofs.YtngpjagpeblbjaaGreatDoor
