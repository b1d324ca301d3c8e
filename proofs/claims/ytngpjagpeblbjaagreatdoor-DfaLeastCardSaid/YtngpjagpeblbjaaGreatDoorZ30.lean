/-
  Walk of the law DfaLeast.
  What the laid table gives, and how an argument that is a regular expression, or a row of words, is opened.
-/
import Derived.Test.YtngpjagpeblbjaaGreatDoorZ29
import Derived.Test.YtngpjagpeblbjaaGreatDoorZ25
import Derived.Test.YtngpjagpeblbjaaGreatDoorZ04
import Derived.Test.YtngpjagpeblbjaaGreatDoorZ05
import Derived.Test.YtngpjagpeblbjaaGreatDoorRows
import Derived.ProofKit
import Derived.LaidMore
import Derived.OpenShut
import Derived.Stop.Joined
import Derived.Lib.SmallJoins
import Derived.Deep.SlicePairs
namespace Go.Proofs.YtngpjagpeblbjaaGreatDoor
open Go.RowKit Go.Spy Go.Heaped Go.Tour Go.Rx

set_option maxRecDepth 100000 in
set_option maxHeartbeats 4000000 in
theorem least8_out {w : World} {v : Value} {d : DR} (hD : DfaV w v d) (hL : LenD d) (aw : Option Addr) (lw cw : Nat) (hlw : lw ≤ 140737488351232) (hT : TabW w) (h : ¬ (SmallD d ∧ checkE nameOk d = 0 ∧ lw ≤ 10)) : Calls Tryz.prog 8 #[v, .slice aw lw cw] w (TruePost w) := by
  have HD0 := hid hD
  have HT := hid hT
  have HN := hid h
  have HL := hid hL
  obtain ⟨vS, vN, vF, us, rfl, hP⟩ := hD
  obtain ⟨aoS, cS, rfl, -⟩ := hP.syms.form
  obtain ⟨aoN, cN, rfl, -⟩ := hP.next.form
  obtain ⟨aoF, cF, rfl, -⟩ := hP.fin.form
  obtain ⟨n1, hn1⟩ : ∃ n, n = d.syms.length := ⟨_, rfl⟩
  obtain ⟨n2, hn2⟩ : ∃ n, n = us.length := ⟨_, rfl⟩
  obtain ⟨n3, hn3⟩ : ∃ n, n = d.fin.length := ⟨_, rfl⟩
  rw [← hn1, ← hn2, ← hn3] at HD0 ⊢
  clear hP hT h hL hn1 hn2 hn3
  obtain ⟨w1, hw1⟩ : ∃ u, u = w.alloc (.cells #[.slice aoS n1 cS, .slice aoN n2 cN, .slice aoF n3 cF] 26) := ⟨_, rfl⟩
  have ew1 : Ext w w1 := hw1 ▸ (Below.refl _ _).alloc (Nat.le_refl _) _
  have HBan : Hid (Blk w1 w.heap.size 26 #[.slice aoS n1 cS, .slice aoN n2 cN, .slice aoF n3 cF]) := hid (hw1 ▸ Blk.new _ _ _)
  have HWw1 := hid hw1
  have HE1 : Hid (Ext w w1) := hid (ew1)
  have HD1 := hid (HD0.out.ext (ew1))
  clear ew1 hw1
  go_enter Tryz.func8, Tryz.ntmps8
  go_wp2_with fail
  rw [← HWw1.out]
  refine (small8_any HD1.out HL.out).mono ?_
  rintro e w2 ⟨b, rfl, hb, hx⟩
  have HE2 : Hid (Ext w w2) := hid (HE1.out.trans ((hx).mono HE1.out.size))
  have HBa2 := hid (HBan.out.ext (hx))
  have HD2 := hid (HD1.out.ext (hx))
  clear hx
  have HBB := hid hb
  clear hb
  cases b
  · have ca0 : w2.cell? ⟨w.heap.size, 0, none⟩ = some (.slice aoS n1 cS) := HBa2.out.cell (i := 0) rfl
    have ca1 : w2.cell? ⟨w.heap.size, 1, none⟩ = some (.slice aoN n2 cN) := HBa2.out.cell (i := 1) rfl
    have ca2 : w2.cell? ⟨w.heap.size, 2, none⟩ = some (.slice aoF n3 cF) := HBa2.out.cell (i := 2) rfl
    have la := HBa2.out.lt
    go_wp2_with fail
    refine (awake8_any (HT.out.ext HE2.out)).mono ?_
    rintro e w3 ⟨rfl, hx⟩
    clear ca0 ca1 ca2 la
    have HE3 : Hid (Ext w w3) := hid (HE2.out.trans ((hx).mono HE2.out.size))
    have HBa3 := hid (HBa2.out.ext (hx))
    have HD3 := hid (HD2.out.ext (hx))
    clear hx
    have ca0 : w3.cell? ⟨w.heap.size, 0, none⟩ = some (.slice aoS n1 cS) := HBa3.out.cell (i := 0) rfl
    have ca1 : w3.cell? ⟨w.heap.size, 1, none⟩ = some (.slice aoN n2 cN) := HBa3.out.cell (i := 1) rfl
    have ca2 : w3.cell? ⟨w.heap.size, 2, none⟩ = some (.slice aoF n3 cF) := HBa3.out.cell (i := 2) rfl
    have la := HBa3.out.lt
    go_wp2_with fail
    go_ret
    exact ⟨rfl, HE3.out⟩
  · have ca0 : w2.cell? ⟨w.heap.size, 0, none⟩ = some (.slice aoS n1 cS) := HBa2.out.cell (i := 0) rfl
    have ca1 : w2.cell? ⟨w.heap.size, 1, none⟩ = some (.slice aoN n2 cN) := HBa2.out.cell (i := 1) rfl
    have ca2 : w2.cell? ⟨w.heap.size, 2, none⟩ = some (.slice aoF n3 cF) := HBa2.out.cell (i := 2) rfl
    have la := HBa2.out.lt
    go_wp2_with fail
    have HS := hid (HBB.out.1 (by first | exact rfl | trivial))
    obtain ⟨E, hE⟩ : ∃ E, E = checkE nameOk d := ⟨_, rfl⟩
    have HEE := hid hE
    have HC := hid (check8_any HD2.out HS.out.bnd)
    rw [← hE] at HC
    clear hE
    refine (HC.out).mono ?_
    rintro e w3 ⟨rfl, hx⟩
    clear ca0 ca1 ca2 la
    have HE3 : Hid (Ext w w3) := hid (HE2.out.trans ((hx).mono HE2.out.size))
    have HBa3 := hid (HBa2.out.ext (hx))
    have HD3 := hid (HD2.out.ext (hx))
    clear hx
    by_cases h0 : E = 0
    · have t0 : (((E : Nat) : Int) != 0) = false := by simp [h0]
      have hw : 10 < lw := Nat.lt_of_not_le fun hle => HN.out ⟨HS.out, by rw [← HEE.out]; exact h0, hle⟩
      have hw1 : decide (10 < lw) = true := decide_eq_true hw
      have hw2 : decide ((10 : Int) < (lw : Int)) = true := decide_eq_true (by omega)
      clear h0
      have ca0 : w3.cell? ⟨w.heap.size, 0, none⟩ = some (.slice aoS n1 cS) := HBa3.out.cell (i := 0) rfl
      have ca1 : w3.cell? ⟨w.heap.size, 1, none⟩ = some (.slice aoN n2 cN) := HBa3.out.cell (i := 1) rfl
      have ca2 : w3.cell? ⟨w.heap.size, 2, none⟩ = some (.slice aoF n3 cF) := HBa3.out.cell (i := 2) rfl
      have la := HBa3.out.lt
      go_wp2_with fail
      refine (awake8_any (HT.out.ext HE3.out)).mono ?_
      rintro e w4 ⟨rfl, hx⟩
      clear ca0 ca1 ca2 la
      have HE4 : Hid (Ext w w4) := hid (HE3.out.trans ((hx).mono HE3.out.size))
      have HBa4 := hid (HBa3.out.ext (hx))
      have HD4 := hid (HD3.out.ext (hx))
      clear hx
      have ca0 : w4.cell? ⟨w.heap.size, 0, none⟩ = some (.slice aoS n1 cS) := HBa4.out.cell (i := 0) rfl
      have ca1 : w4.cell? ⟨w.heap.size, 1, none⟩ = some (.slice aoN n2 cN) := HBa4.out.cell (i := 1) rfl
      have ca2 : w4.cell? ⟨w.heap.size, 2, none⟩ = some (.slice aoF n3 cF) := HBa4.out.cell (i := 2) rfl
      have la := HBa4.out.lt
      go_wp2_with fail
      go_ret
      exact ⟨rfl, HE4.out⟩
    · have t0 : (((E : Nat) : Int) != 0) = true := by simp; omega
      clear h0
      have ca0 : w3.cell? ⟨w.heap.size, 0, none⟩ = some (.slice aoS n1 cS) := HBa3.out.cell (i := 0) rfl
      have ca1 : w3.cell? ⟨w.heap.size, 1, none⟩ = some (.slice aoN n2 cN) := HBa3.out.cell (i := 1) rfl
      have ca2 : w3.cell? ⟨w.heap.size, 2, none⟩ = some (.slice aoF n3 cF) := HBa3.out.cell (i := 2) rfl
      have la := HBa3.out.lt
      go_wp2_with fail
      refine (awake8_any (HT.out.ext HE3.out)).mono ?_
      rintro e w4 ⟨rfl, hx⟩
      clear ca0 ca1 ca2 la
      have HE4 : Hid (Ext w w4) := hid (HE3.out.trans ((hx).mono HE3.out.size))
      have HBa4 := hid (HBa3.out.ext (hx))
      have HD4 := hid (HD3.out.ext (hx))
      clear hx
      have ca0 : w4.cell? ⟨w.heap.size, 0, none⟩ = some (.slice aoS n1 cS) := HBa4.out.cell (i := 0) rfl
      have ca1 : w4.cell? ⟨w.heap.size, 1, none⟩ = some (.slice aoN n2 cN) := HBa4.out.cell (i := 1) rfl
      have ca2 : w4.cell? ⟨w.heap.size, 2, none⟩ = some (.slice aoF n3 cF) := HBa4.out.cell (i := 2) rfl
      have la := HBa4.out.lt
      go_wp2_with fail
      go_ret
      exact ⟨rfl, HE4.out⟩

set_option maxRecDepth 100000 in
set_option maxHeartbeats 4000000 in
theorem least8_in {w : World} {v vw : Value} {D : DA} {ws : List ByteArray} (hD : DfaW w v D) (hS : SmallD D.raw) (hW : ReadR w 1 strC vw ws) (hM : MildS ws) (h10 : ws.length ≤ 10) (hT : TabW w) : Calls Tryz.prog 8 #[v, vw] w (TruePost w) := by
  have HD0 := hid hD
  have HT := hid hT
  have HS := hid hS
  have HW0 := hid hW
  have HM := hid hM
  have HWL := hid hD.well
  have HBN := hid hD.bnd
  have HL : Hid (LenD D.raw) := hid ⟨mild_small (by have := hS.2.2.2.2; omega) (fun s hs => by have := hS.2.1 s hs; omega), by have := hS.2.2.1; omega, by have := hS.2.2.2.1; omega, fun r hr => by have := hS.1 r hr; omega⟩
  have hv := hD.at_
  obtain ⟨vS, vN, vF, us, rfl, -⟩ := hv
  obtain ⟨aoS, n1, cS, aoN, n2, cN, aoF, n3, cF, hxx⟩ := hD.open_
  rw [hxx] at HD0 ⊢
  obtain ⟨aw, cw, rfl, -⟩ := hW.form
  obtain ⟨lw, hlw⟩ : ∃ n, n = ws.length := ⟨_, rfl⟩
  rw [← hlw] at HW0 h10 ⊢
  have HLW := hid hlw
  have hw1 : decide (10 < lw) = false := decide_eq_false (by omega)
  have hw2 : decide ((10 : Int) < (lw : Int)) = false := decide_eq_false (by omega)
  clear hD hS hW hM hT hxx hlw
  obtain ⟨w1, hw1⟩ : ∃ u, u = w.alloc (.cells #[.slice aoS n1 cS, .slice aoN n2 cN, .slice aoF n3 cF] 26) := ⟨_, rfl⟩
  have ew1 : Ext w w1 := hw1 ▸ (Below.refl _ _).alloc (Nat.le_refl _) _
  have HBan : Hid (Blk w1 w.heap.size 26 #[.slice aoS n1 cS, .slice aoN n2 cN, .slice aoF n3 cF]) := hid (hw1 ▸ Blk.new _ _ _)
  have HWw1 := hid hw1
  have HE1 : Hid (Ext w w1) := hid (ew1)
  have HD1 := hid (HD0.out.ext (ew1))
  have HW1 := hid (HW0.out.ext (ew1))
  clear ew1 hw1
  go_enter Tryz.func8, Tryz.ntmps8
  go_wp2_with fail
  rw [← HWw1.out]
  refine (small8_any HD1.out.at_ HL.out).mono ?_
  rintro e w2 ⟨b, rfl, hb, hx⟩
  have HE2 : Hid (Ext w w2) := hid (HE1.out.trans ((hx).mono HE1.out.size))
  have HBa2 := hid (HBan.out.ext (hx))
  have HD2 := hid (HD1.out.ext (hx))
  have HW2 := hid (HW1.out.ext (hx))
  clear hx
  obtain rfl : b = true := hb.2 HS.out
  clear hb
  have ca0 : w2.cell? ⟨w.heap.size, 0, none⟩ = some (.slice aoS n1 cS) := HBa2.out.cell (i := 0) rfl
  have ca1 : w2.cell? ⟨w.heap.size, 1, none⟩ = some (.slice aoN n2 cN) := HBa2.out.cell (i := 1) rfl
  have ca2 : w2.cell? ⟨w.heap.size, 2, none⟩ = some (.slice aoF n3 cF) := HBa2.out.cell (i := 2) rfl
  have la := HBa2.out.lt
  go_wp2_with fail
  have HC := hid (check8_any HD2.out.at_ HS.out.bnd)
  rw [well_check HWL.out] at HC
  refine (HC.out).mono ?_
  rintro e w3 ⟨rfl, hx⟩
  clear ca0 ca1 ca2 la
  have HE3 : Hid (Ext w w3) := hid (HE2.out.trans ((hx).mono HE2.out.size))
  have HBa3 := hid (HBa2.out.ext (hx))
  have HD3 := hid (HD2.out.ext (hx))
  have HW3 := hid (HW2.out.ext (hx))
  clear hx
  have ca0 : w3.cell? ⟨w.heap.size, 0, none⟩ = some (.slice aoS n1 cS) := HBa3.out.cell (i := 0) rfl
  have ca1 : w3.cell? ⟨w.heap.size, 1, none⟩ = some (.slice aoN n2 cN) := HBa3.out.cell (i := 1) rfl
  have ca2 : w3.cell? ⟨w.heap.size, 2, none⟩ = some (.slice aoF n3 cF) := HBa3.out.cell (i := 2) rfl
  have la := HBa3.out.lt
  go_wp2_with fail
  clear HC
  refine (least_any HD3.out).mono ?_
  rintro e w4 ⟨hx, ⟨v5, u, rfl, hR, hul, hu1, hu2, hu3⟩ | ⟨rfl, hno⟩⟩
  · clear ca0 ca1 ca2 la
    have HE4 : Hid (Ext w w4) := hid (HE3.out.trans ((hx).mono HE3.out.size))
    have HBa4 := hid (HBa3.out.ext (hx))
    have HD4 := hid (HD3.out.ext (hx))
    have HW4 := hid (HW3.out.ext (hx))
    clear hx
    have HU1 := hid hu1
    have HU2 := hid hu2
    have HU3 := hid hu3
    obtain ⟨ao5, c5, rfl, -⟩ := hR.form
    have HR0 := hid hR
    obtain ⟨l5, hl5⟩ : ∃ n, n = (wordsOf D.syms u).length := ⟨_, rfl⟩
    rw [← hl5] at HR0 ⊢
    have HL5 := hid hl5
    have hl51000 : l5 ≤ 1000 := by rw [hl5, wordsOf_length hu1]; exact hul
    have HMU : Hid (MildS (wordsOf D.syms u)) := hid (words_mild HBN.out hu1 (by omega))
    clear hu1 hu2 hu3 hR hl5 hul
    have ca0 : w4.cell? ⟨w.heap.size, 0, none⟩ = some (.slice aoS n1 cS) := HBa4.out.cell (i := 0) rfl
    have ca1 : w4.cell? ⟨w.heap.size, 1, none⟩ = some (.slice aoN n2 cN) := HBa4.out.cell (i := 1) rfl
    have ca2 : w4.cell? ⟨w.heap.size, 2, none⟩ = some (.slice aoF n3 cF) := HBa4.out.cell (i := 2) rfl
    have la := HBa4.out.lt
    go_wp2_with fail
    refine (not_any HD4.out).mono ?_
    rintro e w5 ⟨v6, rfl, hN, hx⟩
    have hv6 := hN.at_
    obtain ⟨xS, xN, xF, xu, rfl, -⟩ := hv6
    obtain ⟨aoS2, m1, cS2, aoN2, m2, cN2, aoF2, m3, cF2, hxx⟩ := hN.open_
    rw [hxx] at hN ⊢
    clear ca0 ca1 ca2 la
    have HE5 : Hid (Ext w w5) := hid (HE4.out.trans ((hx).mono HE4.out.size))
    have HBa5 := hid (HBa4.out.ext (hx))
    have HD5 := hid (HD4.out.ext (hx))
    have HW5 := hid (HW4.out.ext (hx))
    have HR5 := hid (HR0.out.ext (hx))
    have HN0 := hid hN
    clear hx hxx hN
    have ca0 : w5.cell? ⟨w.heap.size, 0, none⟩ = some (.slice aoS n1 cS) := HBa5.out.cell (i := 0) rfl
    have ca1 : w5.cell? ⟨w.heap.size, 1, none⟩ = some (.slice aoN n2 cN) := HBa5.out.cell (i := 1) rfl
    have ca2 : w5.cell? ⟨w.heap.size, 2, none⟩ = some (.slice aoF n3 cF) := HBa5.out.cell (i := 2) rfl
    have la := HBa5.out.lt
    go_wp2_with fail
    obtain ⟨w6, hw6⟩ : ∃ u, u = w5.alloc (.cells #[.slice aoS2 m1 cS2, .slice aoN2 m2 cN2, .slice aoF2 m3 cF2] 26) := ⟨_, rfl⟩
    have ew6 : Ext w5 w6 := hw6 ▸ (Below.refl _ _).alloc (Nat.le_refl _) _
    have HBnn : Hid (Blk w6 w5.heap.size 26 #[.slice aoS2 m1 cS2, .slice aoN2 m2 cN2, .slice aoF2 m3 cF2]) := hid (hw6 ▸ Blk.new _ _ _)
    have HWw6 := hid hw6
    clear ca0 ca1 ca2 la
    have HE6 : Hid (Ext w w6) := hid (HE5.out.trans ((ew6).mono HE5.out.size))
    have HBa6 := hid (HBa5.out.ext (ew6))
    have HD6 := hid (HD5.out.ext (ew6))
    have HW6 := hid (HW5.out.ext (ew6))
    have HR6 := hid (HR5.out.ext (ew6))
    have HN6 := hid (HN0.out.ext (ew6))
    clear ew6 hw6
    rw [← HWw6.out]
    refine (within_any HD6.out HD6.out).mono ?_
    intro e w7 hq
    obtain ⟨rfl, hx⟩ := within_self HWL.out hq
    clear hq
    have HE7 : Hid (Ext w w7) := hid (HE6.out.trans ((hx).mono HE6.out.size))
    have HBa7 := hid (HBa6.out.ext (hx))
    have HBn7 := hid (HBnn.out.ext (hx))
    have HD7 := hid (HD6.out.ext (hx))
    have HW7 := hid (HW6.out.ext (hx))
    have HR7 := hid (HR6.out.ext (hx))
    have HN7 := hid (HN6.out.ext (hx))
    clear hx
    have ca0 : w7.cell? ⟨w.heap.size, 0, none⟩ = some (.slice aoS n1 cS) := HBa7.out.cell (i := 0) rfl
    have ca1 : w7.cell? ⟨w.heap.size, 1, none⟩ = some (.slice aoN n2 cN) := HBa7.out.cell (i := 1) rfl
    have ca2 : w7.cell? ⟨w.heap.size, 2, none⟩ = some (.slice aoF n3 cF) := HBa7.out.cell (i := 2) rfl
    have la := HBa7.out.lt
    have cn0 : w7.cell? ⟨w5.heap.size, 0, none⟩ = some (.slice aoS2 m1 cS2) := HBn7.out.cell (i := 0) rfl
    have cn1 : w7.cell? ⟨w5.heap.size, 1, none⟩ = some (.slice aoN2 m2 cN2) := HBn7.out.cell (i := 1) rfl
    have cn2 : w7.cell? ⟨w5.heap.size, 2, none⟩ = some (.slice aoF2 m3 cF2) := HBn7.out.cell (i := 2) rfl
    have ln := HBn7.out.lt
    go_wp2_with fail
    refine (within_any HD7.out HN7.out).mono ?_
    intro e w8 hq
    obtain ⟨v7, rfl, hR7, hx⟩ := within_not_some HWL.out HU1.out HU2.out HU3.out hq
    clear hq
    obtain ⟨ao7, c7, rfl, -⟩ := hR7.form
    have HS0 := hid hR7
    rw [← HL5.out] at HS0 ⊢
    clear hR7
    clear ca0 ca1 ca2 la cn0 cn1 cn2 ln
    have HE8 : Hid (Ext w w8) := hid (HE7.out.trans ((hx).mono HE7.out.size))
    have HBa8 := hid (HBa7.out.ext (hx))
    have HBn8 := hid (HBn7.out.ext (hx))
    have HD8 := hid (HD7.out.ext (hx))
    have HW8 := hid (HW7.out.ext (hx))
    have HR8 := hid (HR7.out.ext (hx))
    have HN8 := hid (HN7.out.ext (hx))
    clear hx
    have ca0 : w8.cell? ⟨w.heap.size, 0, none⟩ = some (.slice aoS n1 cS) := HBa8.out.cell (i := 0) rfl
    have ca1 : w8.cell? ⟨w.heap.size, 1, none⟩ = some (.slice aoN n2 cN) := HBa8.out.cell (i := 1) rfl
    have ca2 : w8.cell? ⟨w.heap.size, 2, none⟩ = some (.slice aoF n3 cF) := HBa8.out.cell (i := 2) rfl
    have la := HBa8.out.lt
    have cn0 : w8.cell? ⟨w5.heap.size, 0, none⟩ = some (.slice aoS2 m1 cS2) := HBn8.out.cell (i := 0) rfl
    have cn1 : w8.cell? ⟨w5.heap.size, 1, none⟩ = some (.slice aoN2 m2 cN2) := HBn8.out.cell (i := 1) rfl
    have cn2 : w8.cell? ⟨w5.heap.size, 2, none⟩ = some (.slice aoF2 m3 cF2) := HBn8.out.cell (i := 2) rfl
    have ln := HBn8.out.lt
    go_wp2_with fail
    have hmw : matchD D (wordsOf D.syms u) = true := by rw [match_words HWL.out.rising.nodup HU1.out]; exact HU2.out
    have HMT := hid (dmatch_any HD8.out (l := wordsOf D.syms u) HR8.out (by rw [← HL5.out]; exact hl51000))
    rw [hmw] at HMT
    clear hmw
    refine (HMT.out).mono ?_
    rintro e w9 ⟨rfl, hx⟩
    clear ca0 ca1 ca2 la cn0 cn1 cn2 ln
    have HE9 : Hid (Ext w w9) := hid (HE8.out.trans ((hx).mono HE8.out.size))
    have HBa9 := hid (HBa8.out.ext (hx))
    have HBn9 := hid (HBn8.out.ext (hx))
    have HD9 := hid (HD8.out.ext (hx))
    have HW9 := hid (HW8.out.ext (hx))
    have HR9 := hid (HR8.out.ext (hx))
    have HN9 := hid (HN8.out.ext (hx))
    have HS79 := hid (HS0.out.ext (hx))
    clear hx
    have ca0 : w9.cell? ⟨w.heap.size, 0, none⟩ = some (.slice aoS n1 cS) := HBa9.out.cell (i := 0) rfl
    have ca1 : w9.cell? ⟨w.heap.size, 1, none⟩ = some (.slice aoN n2 cN) := HBa9.out.cell (i := 1) rfl
    have ca2 : w9.cell? ⟨w.heap.size, 2, none⟩ = some (.slice aoF n3 cF) := HBa9.out.cell (i := 2) rfl
    have la := HBa9.out.lt
    have cn0 : w9.cell? ⟨w5.heap.size, 0, none⟩ = some (.slice aoS2 m1 cS2) := HBn9.out.cell (i := 0) rfl
    have cn1 : w9.cell? ⟨w5.heap.size, 1, none⟩ = some (.slice aoN2 m2 cN2) := HBn9.out.cell (i := 1) rfl
    have cn2 : w9.cell? ⟨w5.heap.size, 2, none⟩ = some (.slice aoF2 m3 cF2) := HBn9.out.cell (i := 2) rfl
    have ln := HBn9.out.lt
    go_wp2_with fail
    have HTX := hid (texts_rd (us := wordsOf D.syms u) (vs := wordsOf D.syms u) (v1 := .slice ao5 l5 c5) (v2 := .slice ao7 l5 c7) HR9.out HS79.out HMU.out HMU.out)
    rw [decide_eq_true rfl] at HTX
    refine (HTX.out).mono ?_
    rintro e w10 ⟨rfl, hx⟩
    clear ca0 ca1 ca2 la cn0 cn1 cn2 ln
    have HE10 : Hid (Ext w w10) := hid (HE9.out.trans ((hx).mono HE9.out.size))
    have HBa10 := hid (HBa9.out.ext (hx))
    have HBn10 := hid (HBn9.out.ext (hx))
    have HD10 := hid (HD9.out.ext (hx))
    have HW10 := hid (HW9.out.ext (hx))
    have HR10 := hid (HR9.out.ext (hx))
    have HN10 := hid (HN9.out.ext (hx))
    have HS710 := hid (HS79.out.ext (hx))
    clear hx
    have ca0 : w10.cell? ⟨w.heap.size, 0, none⟩ = some (.slice aoS n1 cS) := HBa10.out.cell (i := 0) rfl
    have ca1 : w10.cell? ⟨w.heap.size, 1, none⟩ = some (.slice aoN n2 cN) := HBa10.out.cell (i := 1) rfl
    have ca2 : w10.cell? ⟨w.heap.size, 2, none⟩ = some (.slice aoF n3 cF) := HBa10.out.cell (i := 2) rfl
    have la := HBa10.out.lt
    have cn0 : w10.cell? ⟨w5.heap.size, 0, none⟩ = some (.slice aoS2 m1 cS2) := HBn10.out.cell (i := 0) rfl
    have cn1 : w10.cell? ⟨w5.heap.size, 1, none⟩ = some (.slice aoN2 m2 cN2) := HBn10.out.cell (i := 1) rfl
    have cn2 : w10.cell? ⟨w5.heap.size, 2, none⟩ = some (.slice aoF2 m3 cF2) := HBn10.out.cell (i := 2) rfl
    have ln := HBn10.out.lt
    go_wp2_with fail
    have HMX := hid (dmatch_any HD10.out (l := ws) HW10.out (by rw [← HLW.out]; omega))
    obtain ⟨mt, hmt⟩ : ∃ b, b = matchD D ws := ⟨_, rfl⟩
    rw [← hmt] at HMX
    have HMB := hid hmt
    clear hmt
    refine (HMX.out).mono ?_
    rintro e w11 ⟨rfl, hx⟩
    clear ca0 ca1 ca2 la cn0 cn1 cn2 ln
    have HE11 : Hid (Ext w w11) := hid (HE10.out.trans ((hx).mono HE10.out.size))
    have HBa11 := hid (HBa10.out.ext (hx))
    have HBn11 := hid (HBn10.out.ext (hx))
    have HD11 := hid (HD10.out.ext (hx))
    have HW11 := hid (HW10.out.ext (hx))
    have HR11 := hid (HR10.out.ext (hx))
    have HN11 := hid (HN10.out.ext (hx))
    have HS711 := hid (HS710.out.ext (hx))
    clear hx
    cases mt
    · have ca0 : w11.cell? ⟨w.heap.size, 0, none⟩ = some (.slice aoS n1 cS) := HBa11.out.cell (i := 0) rfl
      have ca1 : w11.cell? ⟨w.heap.size, 1, none⟩ = some (.slice aoN n2 cN) := HBa11.out.cell (i := 1) rfl
      have ca2 : w11.cell? ⟨w.heap.size, 2, none⟩ = some (.slice aoF n3 cF) := HBa11.out.cell (i := 2) rfl
      have la := HBa11.out.lt
      have cn0 : w11.cell? ⟨w5.heap.size, 0, none⟩ = some (.slice aoS2 m1 cS2) := HBn11.out.cell (i := 0) rfl
      have cn1 : w11.cell? ⟨w5.heap.size, 1, none⟩ = some (.slice aoN2 m2 cN2) := HBn11.out.cell (i := 1) rfl
      have cn2 : w11.cell? ⟨w5.heap.size, 2, none⟩ = some (.slice aoF2 m3 cF2) := HBn11.out.cell (i := 2) rfl
      have ln := HBn11.out.lt
      go_wp2_with fail
      refine (awake8_any (HT.out.ext HE11.out)).mono ?_
      rintro e w12 ⟨rfl, hx⟩
      clear ca0 ca1 ca2 la cn0 cn1 cn2 ln
      have HE12 : Hid (Ext w w12) := hid (HE11.out.trans ((hx).mono HE11.out.size))
      have HBa12 := hid (HBa11.out.ext (hx))
      have HBn12 := hid (HBn11.out.ext (hx))
      have HD12 := hid (HD11.out.ext (hx))
      have HW12 := hid (HW11.out.ext (hx))
      have HR12 := hid (HR11.out.ext (hx))
      have HN12 := hid (HN11.out.ext (hx))
      have HS712 := hid (HS711.out.ext (hx))
      clear hx
      have ca0 : w12.cell? ⟨w.heap.size, 0, none⟩ = some (.slice aoS n1 cS) := HBa12.out.cell (i := 0) rfl
      have ca1 : w12.cell? ⟨w.heap.size, 1, none⟩ = some (.slice aoN n2 cN) := HBa12.out.cell (i := 1) rfl
      have ca2 : w12.cell? ⟨w.heap.size, 2, none⟩ = some (.slice aoF n3 cF) := HBa12.out.cell (i := 2) rfl
      have la := HBa12.out.lt
      have cn0 : w12.cell? ⟨w5.heap.size, 0, none⟩ = some (.slice aoS2 m1 cS2) := HBn12.out.cell (i := 0) rfl
      have cn1 : w12.cell? ⟨w5.heap.size, 1, none⟩ = some (.slice aoN2 m2 cN2) := HBn12.out.cell (i := 1) rfl
      have cn2 : w12.cell? ⟨w5.heap.size, 2, none⟩ = some (.slice aoF2 m3 cF2) := HBn12.out.cell (i := 2) rfl
      have ln := HBn12.out.lt
      go_wp2_with fail
      go_ret
      exact ⟨rfl, HE12.out⟩
    · have hah := least_ahead HWL.out HU1.out HU3.out HMB.out.symm
      rw [← HL5.out, ← HLW.out] at hah
      have HAH := hid hah
      by_cases hgt : l5 < lw
      · have q1 : decide (l5 < lw) = true := decide_eq_true hgt
        have q2 : decide ((l5 : Int) < (lw : Int)) = true := decide_eq_true (by omega)
        clear hah hgt
        have ca0 : w11.cell? ⟨w.heap.size, 0, none⟩ = some (.slice aoS n1 cS) := HBa11.out.cell (i := 0) rfl
        have ca1 : w11.cell? ⟨w.heap.size, 1, none⟩ = some (.slice aoN n2 cN) := HBa11.out.cell (i := 1) rfl
        have ca2 : w11.cell? ⟨w.heap.size, 2, none⟩ = some (.slice aoF n3 cF) := HBa11.out.cell (i := 2) rfl
        have la := HBa11.out.lt
        have cn0 : w11.cell? ⟨w5.heap.size, 0, none⟩ = some (.slice aoS2 m1 cS2) := HBn11.out.cell (i := 0) rfl
        have cn1 : w11.cell? ⟨w5.heap.size, 1, none⟩ = some (.slice aoN2 m2 cN2) := HBn11.out.cell (i := 1) rfl
        have cn2 : w11.cell? ⟨w5.heap.size, 2, none⟩ = some (.slice aoF2 m3 cF2) := HBn11.out.cell (i := 2) rfl
        have ln := HBn11.out.lt
        go_wp2_with fail
        refine (awake8_any (HT.out.ext HE11.out)).mono ?_
        rintro e w12 ⟨rfl, hx⟩
        clear ca0 ca1 ca2 la cn0 cn1 cn2 ln
        have HE12 : Hid (Ext w w12) := hid (HE11.out.trans ((hx).mono HE11.out.size))
        have HBa12 := hid (HBa11.out.ext (hx))
        have HBn12 := hid (HBn11.out.ext (hx))
        have HD12 := hid (HD11.out.ext (hx))
        have HW12 := hid (HW11.out.ext (hx))
        have HR12 := hid (HR11.out.ext (hx))
        have HN12 := hid (HN11.out.ext (hx))
        have HS712 := hid (HS711.out.ext (hx))
        clear hx
        have ca0 : w12.cell? ⟨w.heap.size, 0, none⟩ = some (.slice aoS n1 cS) := HBa12.out.cell (i := 0) rfl
        have ca1 : w12.cell? ⟨w.heap.size, 1, none⟩ = some (.slice aoN n2 cN) := HBa12.out.cell (i := 1) rfl
        have ca2 : w12.cell? ⟨w.heap.size, 2, none⟩ = some (.slice aoF n3 cF) := HBa12.out.cell (i := 2) rfl
        have la := HBa12.out.lt
        have cn0 : w12.cell? ⟨w5.heap.size, 0, none⟩ = some (.slice aoS2 m1 cS2) := HBn12.out.cell (i := 0) rfl
        have cn1 : w12.cell? ⟨w5.heap.size, 1, none⟩ = some (.slice aoN2 m2 cN2) := HBn12.out.cell (i := 1) rfl
        have cn2 : w12.cell? ⟨w5.heap.size, 2, none⟩ = some (.slice aoF2 m3 cF2) := HBn12.out.cell (i := 2) rfl
        have ln := HBn12.out.lt
        go_wp2_with fail
        go_ret
        exact ⟨rfl, HE12.out⟩
      · have q1 : decide (l5 < lw) = false := decide_eq_false hgt
        have q2 : decide ((l5 : Int) < (lw : Int)) = false := decide_eq_false (by omega)
        have heq : l5 = lw := by omega
        have q3 : ((lw : Int) == (l5 : Int)) = true := by simp [heq]
        have q4 : (lw == l5) = true := by simp [heq]
        have HAW : Hid (aheadW ws (wordsOf D.syms u) = false) := hid (by rcases HAH.out with h | h
                                                                         · omega
                                                                         · exact h.2)
        clear hah hgt heq
        have ca0 : w11.cell? ⟨w.heap.size, 0, none⟩ = some (.slice aoS n1 cS) := HBa11.out.cell (i := 0) rfl
        have ca1 : w11.cell? ⟨w.heap.size, 1, none⟩ = some (.slice aoN n2 cN) := HBa11.out.cell (i := 1) rfl
        have ca2 : w11.cell? ⟨w.heap.size, 2, none⟩ = some (.slice aoF n3 cF) := HBa11.out.cell (i := 2) rfl
        have la := HBa11.out.lt
        have cn0 : w11.cell? ⟨w5.heap.size, 0, none⟩ = some (.slice aoS2 m1 cS2) := HBn11.out.cell (i := 0) rfl
        have cn1 : w11.cell? ⟨w5.heap.size, 1, none⟩ = some (.slice aoN2 m2 cN2) := HBn11.out.cell (i := 1) rfl
        have cn2 : w11.cell? ⟨w5.heap.size, 2, none⟩ = some (.slice aoF2 m3 cF2) := HBn11.out.cell (i := 2) rfl
        have ln := HBn11.out.lt
        go_wp2_with fail
        have HAC := hid (aheadW_any (v1 := .slice aw lw cw) (v2 := .slice ao5 l5 c5) HW11.out HR11.out HM.out HMU.out)
        rw [HAW.out] at HAC
        refine (HAC.out).mono ?_
        rintro e w12 ⟨rfl, hx⟩
        clear ca0 ca1 ca2 la cn0 cn1 cn2 ln
        have HE12 : Hid (Ext w w12) := hid (HE11.out.trans ((hx).mono HE11.out.size))
        have HBa12 := hid (HBa11.out.ext (hx))
        have HBn12 := hid (HBn11.out.ext (hx))
        have HD12 := hid (HD11.out.ext (hx))
        have HW12 := hid (HW11.out.ext (hx))
        have HR12 := hid (HR11.out.ext (hx))
        have HN12 := hid (HN11.out.ext (hx))
        have HS712 := hid (HS711.out.ext (hx))
        clear hx
        have ca0 : w12.cell? ⟨w.heap.size, 0, none⟩ = some (.slice aoS n1 cS) := HBa12.out.cell (i := 0) rfl
        have ca1 : w12.cell? ⟨w.heap.size, 1, none⟩ = some (.slice aoN n2 cN) := HBa12.out.cell (i := 1) rfl
        have ca2 : w12.cell? ⟨w.heap.size, 2, none⟩ = some (.slice aoF n3 cF) := HBa12.out.cell (i := 2) rfl
        have la := HBa12.out.lt
        have cn0 : w12.cell? ⟨w5.heap.size, 0, none⟩ = some (.slice aoS2 m1 cS2) := HBn12.out.cell (i := 0) rfl
        have cn1 : w12.cell? ⟨w5.heap.size, 1, none⟩ = some (.slice aoN2 m2 cN2) := HBn12.out.cell (i := 1) rfl
        have cn2 : w12.cell? ⟨w5.heap.size, 2, none⟩ = some (.slice aoF2 m3 cF2) := HBn12.out.cell (i := 2) rfl
        have ln := HBn12.out.lt
        go_wp2_with fail
        refine (awake8_any (HT.out.ext HE12.out)).mono ?_
        rintro e w13 ⟨rfl, hx⟩
        clear ca0 ca1 ca2 la cn0 cn1 cn2 ln
        have HE13 : Hid (Ext w w13) := hid (HE12.out.trans ((hx).mono HE12.out.size))
        have HBa13 := hid (HBa12.out.ext (hx))
        have HBn13 := hid (HBn12.out.ext (hx))
        have HD13 := hid (HD12.out.ext (hx))
        have HW13 := hid (HW12.out.ext (hx))
        have HR13 := hid (HR12.out.ext (hx))
        have HN13 := hid (HN12.out.ext (hx))
        have HS713 := hid (HS712.out.ext (hx))
        clear hx
        have ca0 : w13.cell? ⟨w.heap.size, 0, none⟩ = some (.slice aoS n1 cS) := HBa13.out.cell (i := 0) rfl
        have ca1 : w13.cell? ⟨w.heap.size, 1, none⟩ = some (.slice aoN n2 cN) := HBa13.out.cell (i := 1) rfl
        have ca2 : w13.cell? ⟨w.heap.size, 2, none⟩ = some (.slice aoF n3 cF) := HBa13.out.cell (i := 2) rfl
        have la := HBa13.out.lt
        have cn0 : w13.cell? ⟨w5.heap.size, 0, none⟩ = some (.slice aoS2 m1 cS2) := HBn13.out.cell (i := 0) rfl
        have cn1 : w13.cell? ⟨w5.heap.size, 1, none⟩ = some (.slice aoN2 m2 cN2) := HBn13.out.cell (i := 1) rfl
        have cn2 : w13.cell? ⟨w5.heap.size, 2, none⟩ = some (.slice aoF2 m3 cF2) := HBn13.out.cell (i := 2) rfl
        have ln := HBn13.out.lt
        go_wp2_with fail
        go_ret
        exact ⟨rfl, HE13.out⟩
  · clear ca0 ca1 ca2 la
    have HE4 : Hid (Ext w w4) := hid (HE3.out.trans ((hx).mono HE3.out.size))
    have HBa4 := hid (HBa3.out.ext (hx))
    have HD4 := hid (HD3.out.ext (hx))
    have HW4 := hid (HW3.out.ext (hx))
    clear hx
    have HNO := hid hno
    clear hno
    have ca0 : w4.cell? ⟨w.heap.size, 0, none⟩ = some (.slice aoS n1 cS) := HBa4.out.cell (i := 0) rfl
    have ca1 : w4.cell? ⟨w.heap.size, 1, none⟩ = some (.slice aoN n2 cN) := HBa4.out.cell (i := 1) rfl
    have ca2 : w4.cell? ⟨w.heap.size, 2, none⟩ = some (.slice aoF n3 cF) := HBa4.out.cell (i := 2) rfl
    have la := HBa4.out.lt
    go_wp2_with fail
    refine (not_any HD4.out).mono ?_
    rintro e w5 ⟨v6, rfl, hN, hx⟩
    have hv6 := hN.at_
    obtain ⟨xS, xN, xF, xu, rfl, -⟩ := hv6
    obtain ⟨aoS2, m1, cS2, aoN2, m2, cN2, aoF2, m3, cF2, hxx⟩ := hN.open_
    rw [hxx] at hN ⊢
    clear ca0 ca1 ca2 la
    have HE5 : Hid (Ext w w5) := hid (HE4.out.trans ((hx).mono HE4.out.size))
    have HBa5 := hid (HBa4.out.ext (hx))
    have HD5 := hid (HD4.out.ext (hx))
    have HW5 := hid (HW4.out.ext (hx))
    have HN0 := hid hN
    clear hx hxx hN
    have ca0 : w5.cell? ⟨w.heap.size, 0, none⟩ = some (.slice aoS n1 cS) := HBa5.out.cell (i := 0) rfl
    have ca1 : w5.cell? ⟨w.heap.size, 1, none⟩ = some (.slice aoN n2 cN) := HBa5.out.cell (i := 1) rfl
    have ca2 : w5.cell? ⟨w.heap.size, 2, none⟩ = some (.slice aoF n3 cF) := HBa5.out.cell (i := 2) rfl
    have la := HBa5.out.lt
    go_wp2_with fail
    obtain ⟨w6, hw6⟩ : ∃ u, u = w5.alloc (.cells #[.slice aoS2 m1 cS2, .slice aoN2 m2 cN2, .slice aoF2 m3 cF2] 26) := ⟨_, rfl⟩
    have ew6 : Ext w5 w6 := hw6 ▸ (Below.refl _ _).alloc (Nat.le_refl _) _
    have HBnn : Hid (Blk w6 w5.heap.size 26 #[.slice aoS2 m1 cS2, .slice aoN2 m2 cN2, .slice aoF2 m3 cF2]) := hid (hw6 ▸ Blk.new _ _ _)
    have HWw6 := hid hw6
    clear ca0 ca1 ca2 la
    have HE6 : Hid (Ext w w6) := hid (HE5.out.trans ((ew6).mono HE5.out.size))
    have HBa6 := hid (HBa5.out.ext (ew6))
    have HD6 := hid (HD5.out.ext (ew6))
    have HW6 := hid (HW5.out.ext (ew6))
    have HN6 := hid (HN0.out.ext (ew6))
    clear ew6 hw6
    rw [← HWw6.out]
    refine (within_any HD6.out HD6.out).mono ?_
    intro e w7 hq
    obtain ⟨rfl, hx⟩ := within_self HWL.out hq
    clear hq
    have HE7 : Hid (Ext w w7) := hid (HE6.out.trans ((hx).mono HE6.out.size))
    have HBa7 := hid (HBa6.out.ext (hx))
    have HBn7 := hid (HBnn.out.ext (hx))
    have HD7 := hid (HD6.out.ext (hx))
    have HW7 := hid (HW6.out.ext (hx))
    have HN7 := hid (HN6.out.ext (hx))
    clear hx
    have ca0 : w7.cell? ⟨w.heap.size, 0, none⟩ = some (.slice aoS n1 cS) := HBa7.out.cell (i := 0) rfl
    have ca1 : w7.cell? ⟨w.heap.size, 1, none⟩ = some (.slice aoN n2 cN) := HBa7.out.cell (i := 1) rfl
    have ca2 : w7.cell? ⟨w.heap.size, 2, none⟩ = some (.slice aoF n3 cF) := HBa7.out.cell (i := 2) rfl
    have la := HBa7.out.lt
    have cn0 : w7.cell? ⟨w5.heap.size, 0, none⟩ = some (.slice aoS2 m1 cS2) := HBn7.out.cell (i := 0) rfl
    have cn1 : w7.cell? ⟨w5.heap.size, 1, none⟩ = some (.slice aoN2 m2 cN2) := HBn7.out.cell (i := 1) rfl
    have cn2 : w7.cell? ⟨w5.heap.size, 2, none⟩ = some (.slice aoF2 m3 cF2) := HBn7.out.cell (i := 2) rfl
    have ln := HBn7.out.lt
    go_wp2_with fail
    refine (within_any HD7.out HN7.out).mono ?_
    intro e w8 hq
    obtain ⟨rfl, hx⟩ := within_not_none HNO.out hq
    clear hq
    clear ca0 ca1 ca2 la cn0 cn1 cn2 ln
    have HE8 : Hid (Ext w w8) := hid (HE7.out.trans ((hx).mono HE7.out.size))
    have HBa8 := hid (HBa7.out.ext (hx))
    have HBn8 := hid (HBn7.out.ext (hx))
    have HD8 := hid (HD7.out.ext (hx))
    have HW8 := hid (HW7.out.ext (hx))
    have HN8 := hid (HN7.out.ext (hx))
    clear hx
    have ca0 : w8.cell? ⟨w.heap.size, 0, none⟩ = some (.slice aoS n1 cS) := HBa8.out.cell (i := 0) rfl
    have ca1 : w8.cell? ⟨w.heap.size, 1, none⟩ = some (.slice aoN n2 cN) := HBa8.out.cell (i := 1) rfl
    have ca2 : w8.cell? ⟨w.heap.size, 2, none⟩ = some (.slice aoF n3 cF) := HBa8.out.cell (i := 2) rfl
    have la := HBa8.out.lt
    have cn0 : w8.cell? ⟨w5.heap.size, 0, none⟩ = some (.slice aoS2 m1 cS2) := HBn8.out.cell (i := 0) rfl
    have cn1 : w8.cell? ⟨w5.heap.size, 1, none⟩ = some (.slice aoN2 m2 cN2) := HBn8.out.cell (i := 1) rfl
    have cn2 : w8.cell? ⟨w5.heap.size, 2, none⟩ = some (.slice aoF2 m3 cF2) := HBn8.out.cell (i := 2) rfl
    have ln := HBn8.out.lt
    go_wp2_with fail
    have HMT := hid (dmatch_any HD8.out (l := ws) HW8.out (by rw [← HLW.out]; omega))
    rw [match_noneD HWL.out HNO.out ws] at HMT
    refine (HMT.out).mono ?_
    rintro e w9 ⟨rfl, hx⟩
    clear ca0 ca1 ca2 la cn0 cn1 cn2 ln
    have HE9 : Hid (Ext w w9) := hid (HE8.out.trans ((hx).mono HE8.out.size))
    have HBa9 := hid (HBa8.out.ext (hx))
    have HBn9 := hid (HBn8.out.ext (hx))
    have HD9 := hid (HD8.out.ext (hx))
    have HW9 := hid (HW8.out.ext (hx))
    have HN9 := hid (HN8.out.ext (hx))
    clear hx
    have ca0 : w9.cell? ⟨w.heap.size, 0, none⟩ = some (.slice aoS n1 cS) := HBa9.out.cell (i := 0) rfl
    have ca1 : w9.cell? ⟨w.heap.size, 1, none⟩ = some (.slice aoN n2 cN) := HBa9.out.cell (i := 1) rfl
    have ca2 : w9.cell? ⟨w.heap.size, 2, none⟩ = some (.slice aoF n3 cF) := HBa9.out.cell (i := 2) rfl
    have la := HBa9.out.lt
    have cn0 : w9.cell? ⟨w5.heap.size, 0, none⟩ = some (.slice aoS2 m1 cS2) := HBn9.out.cell (i := 0) rfl
    have cn1 : w9.cell? ⟨w5.heap.size, 1, none⟩ = some (.slice aoN2 m2 cN2) := HBn9.out.cell (i := 1) rfl
    have cn2 : w9.cell? ⟨w5.heap.size, 2, none⟩ = some (.slice aoF2 m3 cF2) := HBn9.out.cell (i := 2) rfl
    have ln := HBn9.out.lt
    go_wp2_with fail
    refine (awake8_any (HT.out.ext HE9.out)).mono ?_
    rintro e w10 ⟨rfl, hx⟩
    clear ca0 ca1 ca2 la cn0 cn1 cn2 ln
    have HE10 : Hid (Ext w w10) := hid (HE9.out.trans ((hx).mono HE9.out.size))
    have HBa10 := hid (HBa9.out.ext (hx))
    have HBn10 := hid (HBn9.out.ext (hx))
    have HD10 := hid (HD9.out.ext (hx))
    have HW10 := hid (HW9.out.ext (hx))
    have HN10 := hid (HN9.out.ext (hx))
    clear hx
    have ca0 : w10.cell? ⟨w.heap.size, 0, none⟩ = some (.slice aoS n1 cS) := HBa10.out.cell (i := 0) rfl
    have ca1 : w10.cell? ⟨w.heap.size, 1, none⟩ = some (.slice aoN n2 cN) := HBa10.out.cell (i := 1) rfl
    have ca2 : w10.cell? ⟨w.heap.size, 2, none⟩ = some (.slice aoF n3 cF) := HBa10.out.cell (i := 2) rfl
    have la := HBa10.out.lt
    have cn0 : w10.cell? ⟨w5.heap.size, 0, none⟩ = some (.slice aoS2 m1 cS2) := HBn10.out.cell (i := 0) rfl
    have cn1 : w10.cell? ⟨w5.heap.size, 1, none⟩ = some (.slice aoN2 m2 cN2) := HBn10.out.cell (i := 1) rfl
    have cn2 : w10.cell? ⟨w5.heap.size, 2, none⟩ = some (.slice aoF2 m3 cF2) := HBn10.out.cell (i := 2) rfl
    have ln := HBn10.out.lt
    go_wp2_with fail
    go_ret
    exact ⟨rfl, HE10.out⟩
end Go.Proofs.YtngpjagpeblbjaaGreatDoor
namespace Go.Proofs.YtngpjagpeblbjaaGreatDoor
open Go.ChangeShapes Go.WideShapes Go.ChangeAt Go.WideMaps Go.WideElems Go.RowKit Go.Spy Go.Rx

def laidR {H : Type} : List (String × DataW H) := [("math/bits.deBruijn64tab", Rows.laid_math_bits_deBruijn64tab)]

theorem ownZ : ownKnob Tryz.prog.godebug = none := by kernel_rfl
theorem gTab : Tryz.prog.globalNamed "math/bits.deBruijn64tab" = some 0 := by kernel_rfl
theorem tTab : (Tryz.prog.globals[(0 : Nat)]?).map (·.type) = some 206 := by kernel_rfl

theorem door_met (os : Os) (args : Array Value) : laidMetH Tryz.prog laidR ((World.doorLaid Tryz.prog 400 os).forCall (fun _ _ => 0) ⟨#[], args, []⟩).memory :=
  laidMetH_of_parts3 (fuel := 8) (laidMet_of_run' 8 (by kernel_rfl) (by kernel_rfl)) (by kernel_rfl) (by kernel_rfl)

theorem block_of_cell {w : World} {b o : Nat} {v : Value} (h : w.cell? ⟨b, o, none⟩ = some v) : ∃ vs t ls, w.heap[b]? = some (.cells vs t ls) ∧ vs[o]? = some v := by
  simp only [World.cell?] at h
  split at h
  · exact ⟨_, _, _, by assumption, by simpa using h⟩
  · cases h

theorem cu8 : Tryz.prog.cellsOf 5 = 1 := by kernel_rfl
theorem laid_list {H : Type} : (Rows.laid_math_bits_deBruijn64tab : DataW H) = .agg (Lib.deBruijn64tab.map fun (k : Nat) => .lit (.int .u8 (k : Int))) := by kernel_rfl

theorem tab_of_laid {W : World} (h : laidMetH Tryz.prog laidR W) : TabW W := by
  rw [MakeChecks.laidMetH_plain _ _ _ (by kernel_rfl)] at h
  obtain ⟨ps, ⟨g0, t0, cs0, f0, p0, q0, hg0, ht0, hv0, hd0, _⟩, _⟩ := h
  obtain rfl := Option.some.inj (gTab.symm.trans hg0)
  obtain rfl := Option.some.inj (tTab.symm.trans ht0)
  obtain ⟨xs, m1, rfl, hx1, hlen, hn3, hel⟩ := DataW.trod_array Tryz.underlying206 hd0
  simp only [Prod.mk.injEq] at hx1
  have hmap : xs.map (·.1) = Lib.deBruijn64tab.map fun (k : Nat) => (.lit (.int .u8 (k : Int)) : DataW _) := by
    have := hx1.1
    rw [laid_list] at this
    simp only [DataW.agg.injEq] at this
    exact this.symm
  have key : ∀ i, i < 64 → W.cell? ⟨0, i, none⟩ = some (.int .u8 (Lib.deBruijn64tab.getD i 0)) := by
    intro i hi
    obtain ⟨x, hx⟩ : ∃ x, xs[i]? = some x := ⟨xs[i], List.getElem?_eq_getElem (by omega)⟩
    have h1 := hel i hi
    rw [hx, cu8, Nat.mul_one] at h1
    obtain ⟨z, e1, e2, _⟩ := DataW.trod_int Tryz.underlying5 h1
    have hc : cs0.toList[i]? = some (.int .u8 z) := by
      have := congrArg List.head? e1
      simpa [List.head?_take, List.head?_drop] using this
    have hd : (xs.map (·.1))[i]? = some (.lit (.int .u8 z)) := by rw [List.getElem?_map, hx, e2]; rfl
    rw [hmap, List.getElem?_map] at hd
    have hl64 : Lib.deBruijn64tab.length = 64 := rfl
    have hz : z = (Lib.deBruijn64tab.getD i 0 : Nat) := by
      rw [List.getElem?_eq_getElem (by omega)] at hd
      simp only [Option.map_some, Option.some.injEq, DataW.lit.injEq, Lit.int.injEq, true_and] at hd
      rw [← hd, List.getD_eq_getElem?_getD, List.getElem?_eq_getElem (by omega)]; rfl
    subst hz
    have := World.var?_cell hg0 hv0 i
    rw [this]
    simpa using hc
  obtain ⟨vs, t, ls, hb, _⟩ := block_of_cell (key 0 (by omega))
  refine ⟨vs, t, ls, hb, fun j hj => ?_⟩
  obtain ⟨vs', t', ls', hb', hv⟩ := block_of_cell (key j hj)
  rw [hb] at hb'
  cases hb'
  exact hv

theorem spot_none {W : World} {a : Addr} {v : Value} (h : W.cell? a = some v) : a = ⟨a.block, a.off, none⟩ := by
  obtain ⟨b, o, s⟩ := a
  cases s with
  | none => rfl
  | some s =>
    simp only [World.cell?] at h
    split at h
    · simp at h
    · cases h

theorem laidOut : laidOutB Tryz.prog = true := by kernel_rfl
theorem cstr : Tryz.prog.cellsOf 9 = 1 := by kernel_rfl
theorem bytesStr : Tryz.prog.bytesOf 9 = 16 := by kernel_rfl

set_option maxRecDepth 100000 in
/-- A []string that came in. -/
theorem strs_arg {H : Type} {enc : TypeId × Value → H} {W : World} {base : Nat} {v : Value} {d : DataW H} {p : List MemPlace} (hv : Value.okWide Tryz.prog W .any base 22 v)
    (h : DataW.Trod enc Tryz.prog W 0 (fun _ => true) true 22 v d p) {ts : List TypeId} {ds : List (DataW H)} (hsz : (DataW.weightsEach Tryz.prog ts ds).all (· ≤ reachBytes) = true) {j : Nat} (ht : ts[j]? = some 22) (hd : ds[j]? = some d) :
    ∃ a len cap ss, v = .slice a (List.length ss) cap ∧ List.length ss = len ∧ ss.length ≤ cap ∧ StrsV W a cap ss := by
  obtain ⟨a0, len, cap, rfl⟩ := okWide_slice Tryz.underlying22 hv
  obtain ⟨fuel, hf⟩ := h
  rcases open_strings Tryz.underlying22 Tryz.underlying9 cstr hf with ⟨hcs, hx⟩ | ⟨a, len', cap', ss, hcs, _, hl, hm, hz, hx, hcell, hws⟩
  · simp [Value.cells] at hcs
    obtain ⟨rfl, rfl, rfl⟩ := hcs
    exact ⟨none, 0, 0, [], rfl, rfl, by simp, ⟨by simp, fun i hi => by simp at hi, fun h => by simp at h⟩⟩
  · simp [Value.cells] at hcs
    obtain ⟨rfl, rfl, rfl⟩ := hcs
    simp only [Prod.mk.injEq] at hx
    obtain ⟨rfl, rfl⟩ := hx
    simp only [if_true] at hz
    have hreach := sized_slice hsz (j := j) (t := 22) (e := 9) ht hd Tryz.underlying22
    rw [bytesStr] at hreach
    simp only [strs, List.length_map, List.length_take, List.length_drop, reachBytes] at hreach
    have htl : (ss.take len).length = len := by simp; omega
    refine ⟨some a, len, cap, ss.take len, by rw [htl], htl, by omega, ⟨by omega, fun i hi => ?_, fun h0 => ?_⟩⟩
    · have := hws _ (List.mem_of_mem_take (List.getElem_mem hi)); unfold maxLen at this; omega
    · have hc0 := hcell 0 (by omega)
      have ha : a.add 0 = a := by simp [Addr.add]
      rw [ha] at hc0
      have hsp := spot_none hc0
      refine ⟨a.block, a.off, by rw [← hsp], World.block_lt_of_cell? W a hc0, fun i hi => ?_⟩
      have hi' : i < len := by omega
      have hci := hcell i (by omega)
      rw [hsp, Addr.add_lit] at hci
      rw [hci]
      simp [List.getD, show i < ss.length by omega]

end Go.Proofs.YtngpjagpeblbjaaGreatDoor
