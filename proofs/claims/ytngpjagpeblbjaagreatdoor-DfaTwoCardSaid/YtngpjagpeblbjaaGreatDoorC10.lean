/-
  Walk of the law DfaTwo.
-/
import Derived.StillTailTactics
import Derived.Deep.QuietTactic
import Derived.BigQuiet
import Derived.BigRegion
import Derived.Outline
import Derived.WalkSpells
import Derived.Lib.TrailingZeros
import Derived.Deep.Draws
import Derived.Laws.ResultCell
import Derived.Laws.CopyRow
import Derived.Laws.OwnMore
import Derived.WalkKit
import Derived.WalkLawsBesides
import Derived.Deep.LoopGhost
import Derived.Deep.DeepCutAuto
import Derived.Deep.CutBlock
import Derived.Deep.OwnRows
import Derived.Deep.AppendLies
import Derived.OwnWalk
import Derived.Test.YtngpjagpeblbjaaGreatDoorC09
import Derived.Test.YtngpjagpeblbjaaGreatDoorC03
import Derived.Test.YtngpjagpeblbjaaGreatDoorC01
namespace Go.Proofs.YtngpjagpeblbjaaGreatDoor
open Go.RowKit Go.Spy Go.Heaped Go.Tour Go.Rx
set_option maxRecDepth 100000 in
set_option maxHeartbeats 4000000 in
theorem two_out {w : World} {va vb : Value} {da db : DR} (hD : DfaV w va da) (hL : LenD da) (hE : DfaV w vb db) (hM : LenD db) (hT : TabW w) (h : ¬ (SmallD da ∧ SmallD db)) : Calls Tryz.prog 7 #[va, vb] w (TruePost w) := by
 have HD0 := hid hD
 have HG0 := hid hE
 have HT := hid hT
 have HN := hid h
 have HL := hid hL
 have HM := hid hM
 obtain ⟨vS, vN, vF, us, rfl, hP⟩ := hD
 obtain ⟨aoS, cS, rfl, -⟩ := hP.syms.form
 obtain ⟨aoN, cN, rfl, -⟩ := hP.next.form
 obtain ⟨aoF, cF, rfl, -⟩ := hP.fin.form
 obtain ⟨n1, hn1⟩ : ∃ n, n = da.syms.length := ⟨_, rfl⟩
 obtain ⟨n2, hn2⟩ : ∃ n, n = us.length := ⟨_, rfl⟩
 obtain ⟨n3, hn3⟩ : ∃ n, n = da.fin.length := ⟨_, rfl⟩
 rw [← hn1, ← hn2, ← hn3] at HD0 ⊢
 obtain ⟨vS2, vN2, vF2, us2, rfl, hP2⟩ := hE
 obtain ⟨aoS2, cS2, rfl, -⟩ := hP2.syms.form
 obtain ⟨aoN2, cN2, rfl, -⟩ := hP2.next.form
 obtain ⟨aoF2, cF2, rfl, -⟩ := hP2.fin.form
 obtain ⟨m1, hm1⟩ : ∃ n, n = db.syms.length := ⟨_, rfl⟩
 obtain ⟨m2, hm2⟩ : ∃ n, n = us2.length := ⟨_, rfl⟩
 obtain ⟨m3, hm3⟩ : ∃ n, n = db.fin.length := ⟨_, rfl⟩
 rw [← hm1, ← hm2, ← hm3] at HG0 ⊢
 clear hP hP2 hn1 hn2 hn3 hm1 hm2 hm3
 clear hT h hL hM
 obtain ⟨w1, hw1⟩ : ∃ u, u = w.alloc (.cells #[.slice aoS n1 cS, .slice aoN n2 cN, .slice aoF n3 cF] 26) := ⟨_, rfl⟩
 have ew1 : Ext w w1 := hw1 ▸ (Below.refl _ _).alloc (Nat.le_refl _) _
 have HBan : Hid (Blk w1 w.heap.size 26 #[.slice aoS n1 cS, .slice aoN n2 cN, .slice aoF n3 cF]) := hid (hw1 ▸ Blk.new _ _ _)
 have HWw1 := hid hw1
 have HE1 : Hid (Ext w w1) := hid (ew1)
 have HD1 := hid (HD0.out.ext (ew1))
 have HG1 := hid (HG0.out.ext (ew1))
 clear ew1 hw1
 obtain ⟨w2, hw2⟩ : ∃ u, u = w1.alloc (.cells #[.slice aoS2 m1 cS2, .slice aoN2 m2 cN2, .slice aoF2 m3 cF2] 26) := ⟨_, rfl⟩
 have ew2 : Ext w1 w2 := hw2 ▸ (Below.refl _ _).alloc (Nat.le_refl _) _
 have HBbn : Hid (Blk w2 (w.heap.size + 1) 26 #[.slice aoS2 m1 cS2, .slice aoN2 m2 cN2, .slice aoF2 m3 cF2]) := hid (by rw [hw2]; exact Blk.new' _ _ _ (by rw [HWw1.out]; simp))
 have HWw2 := hid hw2
 have HE2 : Hid (Ext w w2) := hid (HE1.out.trans ((ew2).mono HE1.out.size))
 have HBa2 := hid (HBan.out.ext (ew2))
 have HD2 := hid (HD1.out.ext (ew2))
 have HG2 := hid (HG1.out.ext (ew2))
 clear ew2 hw2
 go_enter Tryz.func7, Tryz.ntmps7
 go_wp2_with fail
 rw [← HWw1.out, ← HWw2.out]
 refine (small8_any HD2.out HL.out).mono ?_
 rintro e w3 ⟨b, rfl, hb, hx⟩
 have HE3 : Hid (Ext w w3) := hid (HE2.out.trans ((hx).mono HE2.out.size))
 have HBa3 := hid (HBa2.out.ext (hx))
 have HBb3 := hid (HBbn.out.ext (hx))
 have HD3 := hid (HD2.out.ext (hx))
 have HG3 := hid (HG2.out.ext (hx))
 clear hx
 have HBB := hid hb
 clear hb
 cases b
 ·have ca0 : w3.cell? ⟨w.heap.size, 0, none⟩ = some (.slice aoS n1 cS) := HBa3.out.cell (i := 0) rfl
  have ca1 : w3.cell? ⟨w.heap.size, 1, none⟩ = some (.slice aoN n2 cN) := HBa3.out.cell (i := 1) rfl
  have ca2 : w3.cell? ⟨w.heap.size, 2, none⟩ = some (.slice aoF n3 cF) := HBa3.out.cell (i := 2) rfl
  have la := HBa3.out.lt
  have cb0 : w3.cell? ⟨(w.heap.size + 1), 0, none⟩ = some (.slice aoS2 m1 cS2) := HBb3.out.cell (i := 0) rfl
  have cb1 : w3.cell? ⟨(w.heap.size + 1), 1, none⟩ = some (.slice aoN2 m2 cN2) := HBb3.out.cell (i := 1) rfl
  have cb2 : w3.cell? ⟨(w.heap.size + 1), 2, none⟩ = some (.slice aoF2 m3 cF2) := HBb3.out.cell (i := 2) rfl
  have lb := HBb3.out.lt
  go_wp2_with fail
  refine (awake8_any (HT.out.ext HE3.out)).mono ?_
  rintro e w4 ⟨rfl, hx⟩
  clear ca0 ca1 ca2 la cb0 cb1 cb2 lb
  have HE4 : Hid (Ext w w4) := hid (HE3.out.trans ((hx).mono HE3.out.size))
  have HBa4 := hid (HBa3.out.ext (hx))
  have HBb4 := hid (HBb3.out.ext (hx))
  have HD4 := hid (HD3.out.ext (hx))
  have HG4 := hid (HG3.out.ext (hx))
  clear hx
  have ca0 : w4.cell? ⟨w.heap.size, 0, none⟩ = some (.slice aoS n1 cS) := HBa4.out.cell (i := 0) rfl
  have ca1 : w4.cell? ⟨w.heap.size, 1, none⟩ = some (.slice aoN n2 cN) := HBa4.out.cell (i := 1) rfl
  have ca2 : w4.cell? ⟨w.heap.size, 2, none⟩ = some (.slice aoF n3 cF) := HBa4.out.cell (i := 2) rfl
  have la := HBa4.out.lt
  have cb0 : w4.cell? ⟨(w.heap.size + 1), 0, none⟩ = some (.slice aoS2 m1 cS2) := HBb4.out.cell (i := 0) rfl
  have cb1 : w4.cell? ⟨(w.heap.size + 1), 1, none⟩ = some (.slice aoN2 m2 cN2) := HBb4.out.cell (i := 1) rfl
  have cb2 : w4.cell? ⟨(w.heap.size + 1), 2, none⟩ = some (.slice aoF2 m3 cF2) := HBb4.out.cell (i := 2) rfl
  have lb := HBb4.out.lt
  go_wp2_with fail
  go_ret
  exact ⟨rfl, HE4.out⟩
 ·have HS := hid (HBB.out.1 (by first | exact rfl | trivial))
  have ca0 : w3.cell? ⟨w.heap.size, 0, none⟩ = some (.slice aoS n1 cS) := HBa3.out.cell (i := 0) rfl
  have ca1 : w3.cell? ⟨w.heap.size, 1, none⟩ = some (.slice aoN n2 cN) := HBa3.out.cell (i := 1) rfl
  have ca2 : w3.cell? ⟨w.heap.size, 2, none⟩ = some (.slice aoF n3 cF) := HBa3.out.cell (i := 2) rfl
  have la := HBa3.out.lt
  have cb0 : w3.cell? ⟨(w.heap.size + 1), 0, none⟩ = some (.slice aoS2 m1 cS2) := HBb3.out.cell (i := 0) rfl
  have cb1 : w3.cell? ⟨(w.heap.size + 1), 1, none⟩ = some (.slice aoN2 m2 cN2) := HBb3.out.cell (i := 1) rfl
  have cb2 : w3.cell? ⟨(w.heap.size + 1), 2, none⟩ = some (.slice aoF2 m3 cF2) := HBb3.out.cell (i := 2) rfl
  have lb := HBb3.out.lt
  go_wp2_with fail
  refine (small8_any HG3.out HM.out).mono ?_
  rintro e w4 ⟨b, rfl, hb, hx⟩
  clear ca0 ca1 ca2 la cb0 cb1 cb2 lb
  have HE4 : Hid (Ext w w4) := hid (HE3.out.trans ((hx).mono HE3.out.size))
  have HBa4 := hid (HBa3.out.ext (hx))
  have HBb4 := hid (HBb3.out.ext (hx))
  have HD4 := hid (HD3.out.ext (hx))
  have HG4 := hid (HG3.out.ext (hx))
  clear hx
  have HB2 := hid hb
  clear hb
  cases b
  ·have ca0 : w4.cell? ⟨w.heap.size, 0, none⟩ = some (.slice aoS n1 cS) := HBa4.out.cell (i := 0) rfl
   have ca1 : w4.cell? ⟨w.heap.size, 1, none⟩ = some (.slice aoN n2 cN) := HBa4.out.cell (i := 1) rfl
   have ca2 : w4.cell? ⟨w.heap.size, 2, none⟩ = some (.slice aoF n3 cF) := HBa4.out.cell (i := 2) rfl
   have la := HBa4.out.lt
   have cb0 : w4.cell? ⟨(w.heap.size + 1), 0, none⟩ = some (.slice aoS2 m1 cS2) := HBb4.out.cell (i := 0) rfl
   have cb1 : w4.cell? ⟨(w.heap.size + 1), 1, none⟩ = some (.slice aoN2 m2 cN2) := HBb4.out.cell (i := 1) rfl
   have cb2 : w4.cell? ⟨(w.heap.size + 1), 2, none⟩ = some (.slice aoF2 m3 cF2) := HBb4.out.cell (i := 2) rfl
   have lb := HBb4.out.lt
   go_wp2_with fail
   refine (awake8_any (HT.out.ext HE4.out)).mono ?_
   rintro e w5 ⟨rfl, hx⟩
   clear ca0 ca1 ca2 la cb0 cb1 cb2 lb
   have HE5 : Hid (Ext w w5) := hid (HE4.out.trans ((hx).mono HE4.out.size))
   have HBa5 := hid (HBa4.out.ext (hx))
   have HBb5 := hid (HBb4.out.ext (hx))
   have HD5 := hid (HD4.out.ext (hx))
   have HG5 := hid (HG4.out.ext (hx))
   clear hx
   have ca0 : w5.cell? ⟨w.heap.size, 0, none⟩ = some (.slice aoS n1 cS) := HBa5.out.cell (i := 0) rfl
   have ca1 : w5.cell? ⟨w.heap.size, 1, none⟩ = some (.slice aoN n2 cN) := HBa5.out.cell (i := 1) rfl
   have ca2 : w5.cell? ⟨w.heap.size, 2, none⟩ = some (.slice aoF n3 cF) := HBa5.out.cell (i := 2) rfl
   have la := HBa5.out.lt
   have cb0 : w5.cell? ⟨(w.heap.size + 1), 0, none⟩ = some (.slice aoS2 m1 cS2) := HBb5.out.cell (i := 0) rfl
   have cb1 : w5.cell? ⟨(w.heap.size + 1), 1, none⟩ = some (.slice aoN2 m2 cN2) := HBb5.out.cell (i := 1) rfl
   have cb2 : w5.cell? ⟨(w.heap.size + 1), 2, none⟩ = some (.slice aoF2 m3 cF2) := HBb5.out.cell (i := 2) rfl
   have lb := HBb5.out.lt
   go_wp2_with fail
   go_ret
   exact ⟨rfl, HE5.out⟩
  ·exact absurd ⟨HS.out, HB2.out.1 (by first | exact rfl | trivial)⟩ HN.out
set_option maxRecDepth 100000 in
set_option maxHeartbeats 4000000 in
theorem two_bad {w : World} {va vb : Value} {da db : DR} (hD : DfaV w va da) (hL : LenD da) (hE : DfaV w vb db) (hM : LenD db) (hT : TabW w) (hS : SmallD da) (hS2 : SmallD db) (hE2 : check2E da db ≠ 0) : Calls Tryz.prog 7 #[va, vb] w (TruePost w) := by
 have HD0 := hid hD
 have HG0 := hid hE
 have HT := hid hT
 have HL := hid hL
 have HM := hid hM
 have HS := hid hS
 have HS2 := hid hS2
 have HEE := hid hE2
 obtain ⟨vS, vN, vF, us, rfl, hP⟩ := hD
 obtain ⟨aoS, cS, rfl, -⟩ := hP.syms.form
 obtain ⟨aoN, cN, rfl, -⟩ := hP.next.form
 obtain ⟨aoF, cF, rfl, -⟩ := hP.fin.form
 obtain ⟨n1, hn1⟩ : ∃ n, n = da.syms.length := ⟨_, rfl⟩
 obtain ⟨n2, hn2⟩ : ∃ n, n = us.length := ⟨_, rfl⟩
 obtain ⟨n3, hn3⟩ : ∃ n, n = da.fin.length := ⟨_, rfl⟩
 rw [← hn1, ← hn2, ← hn3] at HD0 ⊢
 obtain ⟨vS2, vN2, vF2, us2, rfl, hP2⟩ := hE
 obtain ⟨aoS2, cS2, rfl, -⟩ := hP2.syms.form
 obtain ⟨aoN2, cN2, rfl, -⟩ := hP2.next.form
 obtain ⟨aoF2, cF2, rfl, -⟩ := hP2.fin.form
 obtain ⟨m1, hm1⟩ : ∃ n, n = db.syms.length := ⟨_, rfl⟩
 obtain ⟨m2, hm2⟩ : ∃ n, n = us2.length := ⟨_, rfl⟩
 obtain ⟨m3, hm3⟩ : ∃ n, n = db.fin.length := ⟨_, rfl⟩
 rw [← hm1, ← hm2, ← hm3] at HG0 ⊢
 clear hP hP2 hn1 hn2 hn3 hm1 hm2 hm3
 obtain ⟨E, hE0⟩ : ∃ E, E = check2E da db := ⟨_, rfl⟩
 have HEQ := hid hE0
 rw [← hE0] at hE2
 have t0 : (((E : Nat) : Int) != 0) = true := by simp; omega
 have t2 : (((E : Nat) : Int) == (E : Nat)) = true := by simp
 have t3 : (((E : Nat) : Int) == 0) = false := by simp; omega
 clear hT hL hM hS hS2 hE0 hE2
 obtain ⟨w1, hw1⟩ : ∃ u, u = w.alloc (.cells #[.slice aoS n1 cS, .slice aoN n2 cN, .slice aoF n3 cF] 26) := ⟨_, rfl⟩
 have ew1 : Ext w w1 := hw1 ▸ (Below.refl _ _).alloc (Nat.le_refl _) _
 have HBan : Hid (Blk w1 w.heap.size 26 #[.slice aoS n1 cS, .slice aoN n2 cN, .slice aoF n3 cF]) := hid (hw1 ▸ Blk.new _ _ _)
 have HWw1 := hid hw1
 have HE1 : Hid (Ext w w1) := hid (ew1)
 have HD1 := hid (HD0.out.ext (ew1))
 have HG1 := hid (HG0.out.ext (ew1))
 clear ew1 hw1
 obtain ⟨w2, hw2⟩ : ∃ u, u = w1.alloc (.cells #[.slice aoS2 m1 cS2, .slice aoN2 m2 cN2, .slice aoF2 m3 cF2] 26) := ⟨_, rfl⟩
 have ew2 : Ext w1 w2 := hw2 ▸ (Below.refl _ _).alloc (Nat.le_refl _) _
 have HBbn : Hid (Blk w2 (w.heap.size + 1) 26 #[.slice aoS2 m1 cS2, .slice aoN2 m2 cN2, .slice aoF2 m3 cF2]) := hid (by rw [hw2]; exact Blk.new' _ _ _ (by rw [HWw1.out]; simp))
 have HWw2 := hid hw2
 have HE2 : Hid (Ext w w2) := hid (HE1.out.trans ((ew2).mono HE1.out.size))
 have HBa2 := hid (HBan.out.ext (ew2))
 have HD2 := hid (HD1.out.ext (ew2))
 have HG2 := hid (HG1.out.ext (ew2))
 clear ew2 hw2
 go_enter Tryz.func7, Tryz.ntmps7
 go_wp2_with fail
 rw [← HWw1.out, ← HWw2.out]
 refine (small8_any HD2.out HL.out).mono ?_
 rintro e w3 ⟨b, rfl, hb, hx⟩
 have HE3 : Hid (Ext w w3) := hid (HE2.out.trans ((hx).mono HE2.out.size))
 have HBa3 := hid (HBa2.out.ext (hx))
 have HBb3 := hid (HBbn.out.ext (hx))
 have HD3 := hid (HD2.out.ext (hx))
 have HG3 := hid (HG2.out.ext (hx))
 clear hx
 obtain rfl : b = true := hb.2 HS.out
 clear hb
 have ca0 : w3.cell? ⟨w.heap.size, 0, none⟩ = some (.slice aoS n1 cS) := HBa3.out.cell (i := 0) rfl
 have ca1 : w3.cell? ⟨w.heap.size, 1, none⟩ = some (.slice aoN n2 cN) := HBa3.out.cell (i := 1) rfl
 have ca2 : w3.cell? ⟨w.heap.size, 2, none⟩ = some (.slice aoF n3 cF) := HBa3.out.cell (i := 2) rfl
 have la := HBa3.out.lt
 have cb0 : w3.cell? ⟨(w.heap.size + 1), 0, none⟩ = some (.slice aoS2 m1 cS2) := HBb3.out.cell (i := 0) rfl
 have cb1 : w3.cell? ⟨(w.heap.size + 1), 1, none⟩ = some (.slice aoN2 m2 cN2) := HBb3.out.cell (i := 1) rfl
 have cb2 : w3.cell? ⟨(w.heap.size + 1), 2, none⟩ = some (.slice aoF2 m3 cF2) := HBb3.out.cell (i := 2) rfl
 have lb := HBb3.out.lt
 go_wp2_with fail
 refine (small8_any HG3.out HM.out).mono ?_
 rintro e w4 ⟨b, rfl, hb, hx⟩
 clear ca0 ca1 ca2 la cb0 cb1 cb2 lb
 have HE4 : Hid (Ext w w4) := hid (HE3.out.trans ((hx).mono HE3.out.size))
 have HBa4 := hid (HBa3.out.ext (hx))
 have HBb4 := hid (HBb3.out.ext (hx))
 have HD4 := hid (HD3.out.ext (hx))
 have HG4 := hid (HG3.out.ext (hx))
 clear hx
 obtain rfl : b = true := hb.2 HS2.out
 clear hb
 have ca0 : w4.cell? ⟨w.heap.size, 0, none⟩ = some (.slice aoS n1 cS) := HBa4.out.cell (i := 0) rfl
 have ca1 : w4.cell? ⟨w.heap.size, 1, none⟩ = some (.slice aoN n2 cN) := HBa4.out.cell (i := 1) rfl
 have ca2 : w4.cell? ⟨w.heap.size, 2, none⟩ = some (.slice aoF n3 cF) := HBa4.out.cell (i := 2) rfl
 have la := HBa4.out.lt
 have cb0 : w4.cell? ⟨(w.heap.size + 1), 0, none⟩ = some (.slice aoS2 m1 cS2) := HBb4.out.cell (i := 0) rfl
 have cb1 : w4.cell? ⟨(w.heap.size + 1), 1, none⟩ = some (.slice aoN2 m2 cN2) := HBb4.out.cell (i := 1) rfl
 have cb2 : w4.cell? ⟨(w.heap.size + 1), 2, none⟩ = some (.slice aoF2 m3 cF2) := HBb4.out.cell (i := 2) rfl
 have lb := HBb4.out.lt
 go_wp2_with fail
 refine (plain8_any _ _ _ _ _ _ _ _ _ _).mono ?_
 rintro e w5 ⟨rfl, hx⟩
 clear ca0 ca1 ca2 la cb0 cb1 cb2 lb
 have HE5 : Hid (Ext w w5) := hid (HE4.out.trans ((hx).mono HE4.out.size))
 have HBa5 := hid (HBa4.out.ext (hx))
 have HBb5 := hid (HBb4.out.ext (hx))
 have HD5 := hid (HD4.out.ext (hx))
 have HG5 := hid (HG4.out.ext (hx))
 clear hx
 have ca0 : w5.cell? ⟨w.heap.size, 0, none⟩ = some (.slice aoS n1 cS) := HBa5.out.cell (i := 0) rfl
 have ca1 : w5.cell? ⟨w.heap.size, 1, none⟩ = some (.slice aoN n2 cN) := HBa5.out.cell (i := 1) rfl
 have ca2 : w5.cell? ⟨w.heap.size, 2, none⟩ = some (.slice aoF n3 cF) := HBa5.out.cell (i := 2) rfl
 have la := HBa5.out.lt
 have cb0 : w5.cell? ⟨(w.heap.size + 1), 0, none⟩ = some (.slice aoS2 m1 cS2) := HBb5.out.cell (i := 0) rfl
 have cb1 : w5.cell? ⟨(w.heap.size + 1), 1, none⟩ = some (.slice aoN2 m2 cN2) := HBb5.out.cell (i := 1) rfl
 have cb2 : w5.cell? ⟨(w.heap.size + 1), 2, none⟩ = some (.slice aoF2 m3 cF2) := HBb5.out.cell (i := 2) rfl
 have lb := HBb5.out.lt
 go_wp2_with fail
 obtain ⟨w6, hw6⟩ : ∃ u, u = w5.alloc (.cells #[.slice aoS n1 cS, .slice aoN n2 cN, .slice aoF n3 cF] 40) := ⟨_, rfl⟩
 have ew6 : Ext w5 w6 := hw6 ▸ (Below.refl _ _).alloc (Nat.le_refl _) _
 have HBxn : Hid (Blk w6 w5.heap.size 40 #[.slice aoS n1 cS, .slice aoN n2 cN, .slice aoF n3 cF]) := hid (hw6 ▸ Blk.new _ _ _)
 have HWw6 := hid hw6
 clear ca0 ca1 ca2 la cb0 cb1 cb2 lb
 have HE6 : Hid (Ext w w6) := hid (HE5.out.trans ((ew6).mono HE5.out.size))
 have HBa6 := hid (HBa5.out.ext (ew6))
 have HBb6 := hid (HBb5.out.ext (ew6))
 have HD6 := hid (HD5.out.ext (ew6))
 have HG6 := hid (HG5.out.ext (ew6))
 clear ew6 hw6
 rw [← HWw6.out]
 refine (plain8_any _ _ _ _ _ _ _ _ _ _).mono ?_
 rintro e w7 ⟨rfl, hx⟩
 have HE7 : Hid (Ext w w7) := hid (HE6.out.trans ((hx).mono HE6.out.size))
 have HBa7 := hid (HBa6.out.ext (hx))
 have HBb7 := hid (HBb6.out.ext (hx))
 have HBx7 := hid (HBxn.out.ext (hx))
 have HD7 := hid (HD6.out.ext (hx))
 have HG7 := hid (HG6.out.ext (hx))
 clear hx
 have ca0 : w7.cell? ⟨w.heap.size, 0, none⟩ = some (.slice aoS n1 cS) := HBa7.out.cell (i := 0) rfl
 have ca1 : w7.cell? ⟨w.heap.size, 1, none⟩ = some (.slice aoN n2 cN) := HBa7.out.cell (i := 1) rfl
 have ca2 : w7.cell? ⟨w.heap.size, 2, none⟩ = some (.slice aoF n3 cF) := HBa7.out.cell (i := 2) rfl
 have la := HBa7.out.lt
 have cb0 : w7.cell? ⟨(w.heap.size + 1), 0, none⟩ = some (.slice aoS2 m1 cS2) := HBb7.out.cell (i := 0) rfl
 have cb1 : w7.cell? ⟨(w.heap.size + 1), 1, none⟩ = some (.slice aoN2 m2 cN2) := HBb7.out.cell (i := 1) rfl
 have cb2 : w7.cell? ⟨(w.heap.size + 1), 2, none⟩ = some (.slice aoF2 m3 cF2) := HBb7.out.cell (i := 2) rfl
 have lb := HBb7.out.lt
 have cx0 : w7.cell? ⟨w5.heap.size, 0, none⟩ = some (.slice aoS n1 cS) := HBx7.out.cell (i := 0) rfl
 have cx1 : w7.cell? ⟨w5.heap.size, 1, none⟩ = some (.slice aoN n2 cN) := HBx7.out.cell (i := 1) rfl
 have cx2 : w7.cell? ⟨w5.heap.size, 2, none⟩ = some (.slice aoF n3 cF) := HBx7.out.cell (i := 2) rfl
 have lx := HBx7.out.lt
 go_wp2_with fail
 obtain ⟨w8, hw8⟩ : ∃ u, u = w7.alloc (.cells #[.slice aoS2 m1 cS2, .slice aoN2 m2 cN2, .slice aoF2 m3 cF2] 40) := ⟨_, rfl⟩
 have ew8 : Ext w7 w8 := hw8 ▸ (Below.refl _ _).alloc (Nat.le_refl _) _
 have HByn : Hid (Blk w8 w7.heap.size 40 #[.slice aoS2 m1 cS2, .slice aoN2 m2 cN2, .slice aoF2 m3 cF2]) := hid (hw8 ▸ Blk.new _ _ _)
 have HWw8 := hid hw8
 clear ca0 ca1 ca2 la cb0 cb1 cb2 lb cx0 cx1 cx2 lx
 have HE8 : Hid (Ext w w8) := hid (HE7.out.trans ((ew8).mono HE7.out.size))
 have HBa8 := hid (HBa7.out.ext (ew8))
 have HBb8 := hid (HBb7.out.ext (ew8))
 have HBx8 := hid (HBx7.out.ext (ew8))
 have HD8 := hid (HD7.out.ext (ew8))
 have HG8 := hid (HG7.out.ext (ew8))
 clear ew8 hw8
 rw [← HWw8.out]
 have HC := hid (rcheck8_any HD8.out HS.out.bnd)
 by_cases h0 : checkE nameOk da = 0
 ·have HQ : Hid (E = checkE nameOk db) := hid (by rw [HEQ.out]; unfold check2E; rw [if_pos h0])
  rw [h0] at HC
  clear h0
  refine (HC.out).mono ?_
  rintro e w9 ⟨rfl, hx⟩
  have HE9 : Hid (Ext w w9) := hid (HE8.out.trans ((hx).mono HE8.out.size))
  have HBa9 := hid (HBa8.out.ext (hx))
  have HBb9 := hid (HBb8.out.ext (hx))
  have HBx9 := hid (HBx8.out.ext (hx))
  have HBy9 := hid (HByn.out.ext (hx))
  have HD9 := hid (HD8.out.ext (hx))
  have HG9 := hid (HG8.out.ext (hx))
  clear hx
  clear HC
  have ca0 : w9.cell? ⟨w.heap.size, 0, none⟩ = some (.slice aoS n1 cS) := HBa9.out.cell (i := 0) rfl
  have ca1 : w9.cell? ⟨w.heap.size, 1, none⟩ = some (.slice aoN n2 cN) := HBa9.out.cell (i := 1) rfl
  have ca2 : w9.cell? ⟨w.heap.size, 2, none⟩ = some (.slice aoF n3 cF) := HBa9.out.cell (i := 2) rfl
  have la := HBa9.out.lt
  have cb0 : w9.cell? ⟨(w.heap.size + 1), 0, none⟩ = some (.slice aoS2 m1 cS2) := HBb9.out.cell (i := 0) rfl
  have cb1 : w9.cell? ⟨(w.heap.size + 1), 1, none⟩ = some (.slice aoN2 m2 cN2) := HBb9.out.cell (i := 1) rfl
  have cb2 : w9.cell? ⟨(w.heap.size + 1), 2, none⟩ = some (.slice aoF2 m3 cF2) := HBb9.out.cell (i := 2) rfl
  have lb := HBb9.out.lt
  have cx0 : w9.cell? ⟨w5.heap.size, 0, none⟩ = some (.slice aoS n1 cS) := HBx9.out.cell (i := 0) rfl
  have cx1 : w9.cell? ⟨w5.heap.size, 1, none⟩ = some (.slice aoN n2 cN) := HBx9.out.cell (i := 1) rfl
  have cx2 : w9.cell? ⟨w5.heap.size, 2, none⟩ = some (.slice aoF n3 cF) := HBx9.out.cell (i := 2) rfl
  have lx := HBx9.out.lt
  have cy0 : w9.cell? ⟨w7.heap.size, 0, none⟩ = some (.slice aoS2 m1 cS2) := HBy9.out.cell (i := 0) rfl
  have cy1 : w9.cell? ⟨w7.heap.size, 1, none⟩ = some (.slice aoN2 m2 cN2) := HBy9.out.cell (i := 1) rfl
  have cy2 : w9.cell? ⟨w7.heap.size, 2, none⟩ = some (.slice aoF2 m3 cF2) := HBy9.out.cell (i := 2) rfl
  have ly := HBy9.out.lt
  go_wp2_with fail
  have HC := hid (rcheck8_any HG9.out HS2.out.bnd)
  rw [← HQ.out] at HC
  refine (HC.out).mono ?_
  rintro e w10 ⟨rfl, hx⟩
  clear ca0 ca1 ca2 la cb0 cb1 cb2 lb cx0 cx1 cx2 lx cy0 cy1 cy2 ly
  have HE10 : Hid (Ext w w10) := hid (HE9.out.trans ((hx).mono HE9.out.size))
  have HBa10 := hid (HBa9.out.ext (hx))
  have HBb10 := hid (HBb9.out.ext (hx))
  have HBx10 := hid (HBx9.out.ext (hx))
  have HBy10 := hid (HBy9.out.ext (hx))
  have HD10 := hid (HD9.out.ext (hx))
  have HG10 := hid (HG9.out.ext (hx))
  clear hx
  clear HC
  have ca0 : w10.cell? ⟨w.heap.size, 0, none⟩ = some (.slice aoS n1 cS) := HBa10.out.cell (i := 0) rfl
  have ca1 : w10.cell? ⟨w.heap.size, 1, none⟩ = some (.slice aoN n2 cN) := HBa10.out.cell (i := 1) rfl
  have ca2 : w10.cell? ⟨w.heap.size, 2, none⟩ = some (.slice aoF n3 cF) := HBa10.out.cell (i := 2) rfl
  have la := HBa10.out.lt
  have cb0 : w10.cell? ⟨(w.heap.size + 1), 0, none⟩ = some (.slice aoS2 m1 cS2) := HBb10.out.cell (i := 0) rfl
  have cb1 : w10.cell? ⟨(w.heap.size + 1), 1, none⟩ = some (.slice aoN2 m2 cN2) := HBb10.out.cell (i := 1) rfl
  have cb2 : w10.cell? ⟨(w.heap.size + 1), 2, none⟩ = some (.slice aoF2 m3 cF2) := HBb10.out.cell (i := 2) rfl
  have lb := HBb10.out.lt
  have cx0 : w10.cell? ⟨w5.heap.size, 0, none⟩ = some (.slice aoS n1 cS) := HBx10.out.cell (i := 0) rfl
  have cx1 : w10.cell? ⟨w5.heap.size, 1, none⟩ = some (.slice aoN n2 cN) := HBx10.out.cell (i := 1) rfl
  have cx2 : w10.cell? ⟨w5.heap.size, 2, none⟩ = some (.slice aoF n3 cF) := HBx10.out.cell (i := 2) rfl
  have lx := HBx10.out.lt
  have cy0 : w10.cell? ⟨w7.heap.size, 0, none⟩ = some (.slice aoS2 m1 cS2) := HBy10.out.cell (i := 0) rfl
  have cy1 : w10.cell? ⟨w7.heap.size, 1, none⟩ = some (.slice aoN2 m2 cN2) := HBy10.out.cell (i := 1) rfl
  have cy2 : w10.cell? ⟨w7.heap.size, 2, none⟩ = some (.slice aoF2 m3 cF2) := HBy10.out.cell (i := 2) rfl
  have ly := HBy10.out.lt
  go_wp2_with fail
  have HC := hid (both_bad HD10.out HS.out.bnd HG10.out HS2.out.bnd HEE.out)
  rw [← HEQ.out] at HC
  refine (HC.out).mono ?_
  rintro e w11 ⟨rfl, hx⟩
  clear ca0 ca1 ca2 la cb0 cb1 cb2 lb cx0 cx1 cx2 lx cy0 cy1 cy2 ly
  have HE11 : Hid (Ext w w11) := hid (HE10.out.trans ((hx).mono HE10.out.size))
  have HBa11 := hid (HBa10.out.ext (hx))
  have HBb11 := hid (HBb10.out.ext (hx))
  have HBx11 := hid (HBx10.out.ext (hx))
  have HBy11 := hid (HBy10.out.ext (hx))
  have HD11 := hid (HD10.out.ext (hx))
  have HG11 := hid (HG10.out.ext (hx))
  clear hx
  clear HC
  have ca0 : w11.cell? ⟨w.heap.size, 0, none⟩ = some (.slice aoS n1 cS) := HBa11.out.cell (i := 0) rfl
  have ca1 : w11.cell? ⟨w.heap.size, 1, none⟩ = some (.slice aoN n2 cN) := HBa11.out.cell (i := 1) rfl
  have ca2 : w11.cell? ⟨w.heap.size, 2, none⟩ = some (.slice aoF n3 cF) := HBa11.out.cell (i := 2) rfl
  have la := HBa11.out.lt
  have cb0 : w11.cell? ⟨(w.heap.size + 1), 0, none⟩ = some (.slice aoS2 m1 cS2) := HBb11.out.cell (i := 0) rfl
  have cb1 : w11.cell? ⟨(w.heap.size + 1), 1, none⟩ = some (.slice aoN2 m2 cN2) := HBb11.out.cell (i := 1) rfl
  have cb2 : w11.cell? ⟨(w.heap.size + 1), 2, none⟩ = some (.slice aoF2 m3 cF2) := HBb11.out.cell (i := 2) rfl
  have lb := HBb11.out.lt
  have cx0 : w11.cell? ⟨w5.heap.size, 0, none⟩ = some (.slice aoS n1 cS) := HBx11.out.cell (i := 0) rfl
  have cx1 : w11.cell? ⟨w5.heap.size, 1, none⟩ = some (.slice aoN n2 cN) := HBx11.out.cell (i := 1) rfl
  have cx2 : w11.cell? ⟨w5.heap.size, 2, none⟩ = some (.slice aoF n3 cF) := HBx11.out.cell (i := 2) rfl
  have lx := HBx11.out.lt
  have cy0 : w11.cell? ⟨w7.heap.size, 0, none⟩ = some (.slice aoS2 m1 cS2) := HBy11.out.cell (i := 0) rfl
  have cy1 : w11.cell? ⟨w7.heap.size, 1, none⟩ = some (.slice aoN2 m2 cN2) := HBy11.out.cell (i := 1) rfl
  have cy2 : w11.cell? ⟨w7.heap.size, 2, none⟩ = some (.slice aoF2 m3 cF2) := HBy11.out.cell (i := 2) rfl
  have ly := HBy11.out.lt
  go_wp2_with fail
  obtain ⟨w12, hw12⟩ : ∃ u, u = w11.alloc (.cells #[.slice none 0 0, .slice none 0 0, .slice none 0 0] 26) := ⟨_, rfl⟩
  have ew12 : Ext w11 w12 := hw12 ▸ (Below.refl _ _).alloc (Nat.le_refl _) _
  have HBdn : Hid (Blk w12 w11.heap.size 26 #[.slice none 0 0, .slice none 0 0, .slice none 0 0]) := hid (hw12 ▸ Blk.new _ _ _)
  have HWw12 := hid hw12
  clear ca0 ca1 ca2 la cb0 cb1 cb2 lb cx0 cx1 cx2 lx cy0 cy1 cy2 ly
  have HE12 : Hid (Ext w w12) := hid (HE11.out.trans ((ew12).mono HE11.out.size))
  have HBa12 := hid (HBa11.out.ext (ew12))
  have HBb12 := hid (HBb11.out.ext (ew12))
  have HBx12 := hid (HBx11.out.ext (ew12))
  have HBy12 := hid (HBy11.out.ext (ew12))
  have HD12 := hid (HD11.out.ext (ew12))
  have HG12 := hid (HG11.out.ext (ew12))
  clear ew12 hw12
  rw [← HWw12.out]
  have HC := hid (within_bad HD12.out HS.out.bnd HG12.out HS2.out.bnd HEE.out)
  rw [← HEQ.out] at HC
  refine (HC.out).mono ?_
  rintro e w13 ⟨rfl, hx⟩
  have HE13 : Hid (Ext w w13) := hid (HE12.out.trans ((hx).mono HE12.out.size))
  have HBa13 := hid (HBa12.out.ext (hx))
  have HBb13 := hid (HBb12.out.ext (hx))
  have HBx13 := hid (HBx12.out.ext (hx))
  have HBy13 := hid (HBy12.out.ext (hx))
  have HBd13 := hid (HBdn.out.ext (hx))
  have HD13 := hid (HD12.out.ext (hx))
  have HG13 := hid (HG12.out.ext (hx))
  clear hx
  clear HC
  have ca0 : w13.cell? ⟨w.heap.size, 0, none⟩ = some (.slice aoS n1 cS) := HBa13.out.cell (i := 0) rfl
  have ca1 : w13.cell? ⟨w.heap.size, 1, none⟩ = some (.slice aoN n2 cN) := HBa13.out.cell (i := 1) rfl
  have ca2 : w13.cell? ⟨w.heap.size, 2, none⟩ = some (.slice aoF n3 cF) := HBa13.out.cell (i := 2) rfl
  have la := HBa13.out.lt
  have cb0 : w13.cell? ⟨(w.heap.size + 1), 0, none⟩ = some (.slice aoS2 m1 cS2) := HBb13.out.cell (i := 0) rfl
  have cb1 : w13.cell? ⟨(w.heap.size + 1), 1, none⟩ = some (.slice aoN2 m2 cN2) := HBb13.out.cell (i := 1) rfl
  have cb2 : w13.cell? ⟨(w.heap.size + 1), 2, none⟩ = some (.slice aoF2 m3 cF2) := HBb13.out.cell (i := 2) rfl
  have lb := HBb13.out.lt
  have cx0 : w13.cell? ⟨w5.heap.size, 0, none⟩ = some (.slice aoS n1 cS) := HBx13.out.cell (i := 0) rfl
  have cx1 : w13.cell? ⟨w5.heap.size, 1, none⟩ = some (.slice aoN n2 cN) := HBx13.out.cell (i := 1) rfl
  have cx2 : w13.cell? ⟨w5.heap.size, 2, none⟩ = some (.slice aoF n3 cF) := HBx13.out.cell (i := 2) rfl
  have lx := HBx13.out.lt
  have cy0 : w13.cell? ⟨w7.heap.size, 0, none⟩ = some (.slice aoS2 m1 cS2) := HBy13.out.cell (i := 0) rfl
  have cy1 : w13.cell? ⟨w7.heap.size, 1, none⟩ = some (.slice aoN2 m2 cN2) := HBy13.out.cell (i := 1) rfl
  have cy2 : w13.cell? ⟨w7.heap.size, 2, none⟩ = some (.slice aoF2 m3 cF2) := HBy13.out.cell (i := 2) rfl
  have ly := HBy13.out.lt
  have cd0 : w13.cell? ⟨w11.heap.size, 0, none⟩ = some (.slice none 0 0) := HBd13.out.cell (i := 0) rfl
  have cd1 : w13.cell? ⟨w11.heap.size, 1, none⟩ = some (.slice none 0 0) := HBd13.out.cell (i := 1) rfl
  have cd2 : w13.cell? ⟨w11.heap.size, 2, none⟩ = some (.slice none 0 0) := HBd13.out.cell (i := 2) rfl
  have ld := HBd13.out.lt
  go_wp2_with fail
  refine (none_nil _).mono ?_
  rintro e w14 ⟨rfl, hx⟩
  clear ca0 ca1 ca2 la cb0 cb1 cb2 lb cx0 cx1 cx2 lx cy0 cy1 cy2 ly cd0 cd1 cd2 ld
  have HE14 : Hid (Ext w w14) := hid (HE13.out.trans ((hx).mono HE13.out.size))
  have HBa14 := hid (HBa13.out.ext (hx))
  have HBb14 := hid (HBb13.out.ext (hx))
  have HBx14 := hid (HBx13.out.ext (hx))
  have HBy14 := hid (HBy13.out.ext (hx))
  have HBd14 := hid (HBd13.out.ext (hx))
  have HD14 := hid (HD13.out.ext (hx))
  have HG14 := hid (HG13.out.ext (hx))
  clear hx
  have ca0 : w14.cell? ⟨w.heap.size, 0, none⟩ = some (.slice aoS n1 cS) := HBa14.out.cell (i := 0) rfl
  have ca1 : w14.cell? ⟨w.heap.size, 1, none⟩ = some (.slice aoN n2 cN) := HBa14.out.cell (i := 1) rfl
  have ca2 : w14.cell? ⟨w.heap.size, 2, none⟩ = some (.slice aoF n3 cF) := HBa14.out.cell (i := 2) rfl
  have la := HBa14.out.lt
  have cb0 : w14.cell? ⟨(w.heap.size + 1), 0, none⟩ = some (.slice aoS2 m1 cS2) := HBb14.out.cell (i := 0) rfl
  have cb1 : w14.cell? ⟨(w.heap.size + 1), 1, none⟩ = some (.slice aoN2 m2 cN2) := HBb14.out.cell (i := 1) rfl
  have cb2 : w14.cell? ⟨(w.heap.size + 1), 2, none⟩ = some (.slice aoF2 m3 cF2) := HBb14.out.cell (i := 2) rfl
  have lb := HBb14.out.lt
  have cx0 : w14.cell? ⟨w5.heap.size, 0, none⟩ = some (.slice aoS n1 cS) := HBx14.out.cell (i := 0) rfl
  have cx1 : w14.cell? ⟨w5.heap.size, 1, none⟩ = some (.slice aoN n2 cN) := HBx14.out.cell (i := 1) rfl
  have cx2 : w14.cell? ⟨w5.heap.size, 2, none⟩ = some (.slice aoF n3 cF) := HBx14.out.cell (i := 2) rfl
  have lx := HBx14.out.lt
  have cy0 : w14.cell? ⟨w7.heap.size, 0, none⟩ = some (.slice aoS2 m1 cS2) := HBy14.out.cell (i := 0) rfl
  have cy1 : w14.cell? ⟨w7.heap.size, 1, none⟩ = some (.slice aoN2 m2 cN2) := HBy14.out.cell (i := 1) rfl
  have cy2 : w14.cell? ⟨w7.heap.size, 2, none⟩ = some (.slice aoF2 m3 cF2) := HBy14.out.cell (i := 2) rfl
  have ly := HBy14.out.lt
  have cd0 : w14.cell? ⟨w11.heap.size, 0, none⟩ = some (.slice none 0 0) := HBd14.out.cell (i := 0) rfl
  have cd1 : w14.cell? ⟨w11.heap.size, 1, none⟩ = some (.slice none 0 0) := HBd14.out.cell (i := 1) rfl
  have cd2 : w14.cell? ⟨w11.heap.size, 2, none⟩ = some (.slice none 0 0) := HBd14.out.cell (i := 2) rfl
  have ld := HBd14.out.lt
  go_wp2_with fail
  refine (awake8_any (HT.out.ext HE14.out)).mono ?_
  rintro e w15 ⟨rfl, hx⟩
  clear ca0 ca1 ca2 la cb0 cb1 cb2 lb cx0 cx1 cx2 lx cy0 cy1 cy2 ly cd0 cd1 cd2 ld
  have HE15 : Hid (Ext w w15) := hid (HE14.out.trans ((hx).mono HE14.out.size))
  have HBa15 := hid (HBa14.out.ext (hx))
  have HBb15 := hid (HBb14.out.ext (hx))
  have HBx15 := hid (HBx14.out.ext (hx))
  have HBy15 := hid (HBy14.out.ext (hx))
  have HBd15 := hid (HBd14.out.ext (hx))
  have HD15 := hid (HD14.out.ext (hx))
  have HG15 := hid (HG14.out.ext (hx))
  clear hx
  have ca0 : w15.cell? ⟨w.heap.size, 0, none⟩ = some (.slice aoS n1 cS) := HBa15.out.cell (i := 0) rfl
  have ca1 : w15.cell? ⟨w.heap.size, 1, none⟩ = some (.slice aoN n2 cN) := HBa15.out.cell (i := 1) rfl
  have ca2 : w15.cell? ⟨w.heap.size, 2, none⟩ = some (.slice aoF n3 cF) := HBa15.out.cell (i := 2) rfl
  have la := HBa15.out.lt
  have cb0 : w15.cell? ⟨(w.heap.size + 1), 0, none⟩ = some (.slice aoS2 m1 cS2) := HBb15.out.cell (i := 0) rfl
  have cb1 : w15.cell? ⟨(w.heap.size + 1), 1, none⟩ = some (.slice aoN2 m2 cN2) := HBb15.out.cell (i := 1) rfl
  have cb2 : w15.cell? ⟨(w.heap.size + 1), 2, none⟩ = some (.slice aoF2 m3 cF2) := HBb15.out.cell (i := 2) rfl
  have lb := HBb15.out.lt
  have cx0 : w15.cell? ⟨w5.heap.size, 0, none⟩ = some (.slice aoS n1 cS) := HBx15.out.cell (i := 0) rfl
  have cx1 : w15.cell? ⟨w5.heap.size, 1, none⟩ = some (.slice aoN n2 cN) := HBx15.out.cell (i := 1) rfl
  have cx2 : w15.cell? ⟨w5.heap.size, 2, none⟩ = some (.slice aoF n3 cF) := HBx15.out.cell (i := 2) rfl
  have lx := HBx15.out.lt
  have cy0 : w15.cell? ⟨w7.heap.size, 0, none⟩ = some (.slice aoS2 m1 cS2) := HBy15.out.cell (i := 0) rfl
  have cy1 : w15.cell? ⟨w7.heap.size, 1, none⟩ = some (.slice aoN2 m2 cN2) := HBy15.out.cell (i := 1) rfl
  have cy2 : w15.cell? ⟨w7.heap.size, 2, none⟩ = some (.slice aoF2 m3 cF2) := HBy15.out.cell (i := 2) rfl
  have ly := HBy15.out.lt
  have cd0 : w15.cell? ⟨w11.heap.size, 0, none⟩ = some (.slice none 0 0) := HBd15.out.cell (i := 0) rfl
  have cd1 : w15.cell? ⟨w11.heap.size, 1, none⟩ = some (.slice none 0 0) := HBd15.out.cell (i := 1) rfl
  have cd2 : w15.cell? ⟨w11.heap.size, 2, none⟩ = some (.slice none 0 0) := HBd15.out.cell (i := 2) rfl
  have ld := HBd15.out.lt
  go_wp2_with fail
  go_ret
  exact ⟨rfl, HE15.out⟩
 ·have HQ : Hid (E = checkE nameOk da) := hid (by rw [HEQ.out]; unfold check2E; rw [if_neg h0])
  rw [← HQ.out] at HC
  clear h0
  refine (HC.out).mono ?_
  rintro e w9 ⟨rfl, hx⟩
  have HE9 : Hid (Ext w w9) := hid (HE8.out.trans ((hx).mono HE8.out.size))
  have HBa9 := hid (HBa8.out.ext (hx))
  have HBb9 := hid (HBb8.out.ext (hx))
  have HBx9 := hid (HBx8.out.ext (hx))
  have HBy9 := hid (HByn.out.ext (hx))
  have HD9 := hid (HD8.out.ext (hx))
  have HG9 := hid (HG8.out.ext (hx))
  clear hx
  clear HC
  have ca0 : w9.cell? ⟨w.heap.size, 0, none⟩ = some (.slice aoS n1 cS) := HBa9.out.cell (i := 0) rfl
  have ca1 : w9.cell? ⟨w.heap.size, 1, none⟩ = some (.slice aoN n2 cN) := HBa9.out.cell (i := 1) rfl
  have ca2 : w9.cell? ⟨w.heap.size, 2, none⟩ = some (.slice aoF n3 cF) := HBa9.out.cell (i := 2) rfl
  have la := HBa9.out.lt
  have cb0 : w9.cell? ⟨(w.heap.size + 1), 0, none⟩ = some (.slice aoS2 m1 cS2) := HBb9.out.cell (i := 0) rfl
  have cb1 : w9.cell? ⟨(w.heap.size + 1), 1, none⟩ = some (.slice aoN2 m2 cN2) := HBb9.out.cell (i := 1) rfl
  have cb2 : w9.cell? ⟨(w.heap.size + 1), 2, none⟩ = some (.slice aoF2 m3 cF2) := HBb9.out.cell (i := 2) rfl
  have lb := HBb9.out.lt
  have cx0 : w9.cell? ⟨w5.heap.size, 0, none⟩ = some (.slice aoS n1 cS) := HBx9.out.cell (i := 0) rfl
  have cx1 : w9.cell? ⟨w5.heap.size, 1, none⟩ = some (.slice aoN n2 cN) := HBx9.out.cell (i := 1) rfl
  have cx2 : w9.cell? ⟨w5.heap.size, 2, none⟩ = some (.slice aoF n3 cF) := HBx9.out.cell (i := 2) rfl
  have lx := HBx9.out.lt
  have cy0 : w9.cell? ⟨w7.heap.size, 0, none⟩ = some (.slice aoS2 m1 cS2) := HBy9.out.cell (i := 0) rfl
  have cy1 : w9.cell? ⟨w7.heap.size, 1, none⟩ = some (.slice aoN2 m2 cN2) := HBy9.out.cell (i := 1) rfl
  have cy2 : w9.cell? ⟨w7.heap.size, 2, none⟩ = some (.slice aoF2 m3 cF2) := HBy9.out.cell (i := 2) rfl
  have ly := HBy9.out.lt
  go_wp2_with fail
  have HC := hid (both_bad HD9.out HS.out.bnd HG9.out HS2.out.bnd HEE.out)
  rw [← HEQ.out] at HC
  refine (HC.out).mono ?_
  rintro e w10 ⟨rfl, hx⟩
  clear ca0 ca1 ca2 la cb0 cb1 cb2 lb cx0 cx1 cx2 lx cy0 cy1 cy2 ly
  have HE10 : Hid (Ext w w10) := hid (HE9.out.trans ((hx).mono HE9.out.size))
  have HBa10 := hid (HBa9.out.ext (hx))
  have HBb10 := hid (HBb9.out.ext (hx))
  have HBx10 := hid (HBx9.out.ext (hx))
  have HBy10 := hid (HBy9.out.ext (hx))
  have HD10 := hid (HD9.out.ext (hx))
  have HG10 := hid (HG9.out.ext (hx))
  clear hx
  clear HC
  have ca0 : w10.cell? ⟨w.heap.size, 0, none⟩ = some (.slice aoS n1 cS) := HBa10.out.cell (i := 0) rfl
  have ca1 : w10.cell? ⟨w.heap.size, 1, none⟩ = some (.slice aoN n2 cN) := HBa10.out.cell (i := 1) rfl
  have ca2 : w10.cell? ⟨w.heap.size, 2, none⟩ = some (.slice aoF n3 cF) := HBa10.out.cell (i := 2) rfl
  have la := HBa10.out.lt
  have cb0 : w10.cell? ⟨(w.heap.size + 1), 0, none⟩ = some (.slice aoS2 m1 cS2) := HBb10.out.cell (i := 0) rfl
  have cb1 : w10.cell? ⟨(w.heap.size + 1), 1, none⟩ = some (.slice aoN2 m2 cN2) := HBb10.out.cell (i := 1) rfl
  have cb2 : w10.cell? ⟨(w.heap.size + 1), 2, none⟩ = some (.slice aoF2 m3 cF2) := HBb10.out.cell (i := 2) rfl
  have lb := HBb10.out.lt
  have cx0 : w10.cell? ⟨w5.heap.size, 0, none⟩ = some (.slice aoS n1 cS) := HBx10.out.cell (i := 0) rfl
  have cx1 : w10.cell? ⟨w5.heap.size, 1, none⟩ = some (.slice aoN n2 cN) := HBx10.out.cell (i := 1) rfl
  have cx2 : w10.cell? ⟨w5.heap.size, 2, none⟩ = some (.slice aoF n3 cF) := HBx10.out.cell (i := 2) rfl
  have lx := HBx10.out.lt
  have cy0 : w10.cell? ⟨w7.heap.size, 0, none⟩ = some (.slice aoS2 m1 cS2) := HBy10.out.cell (i := 0) rfl
  have cy1 : w10.cell? ⟨w7.heap.size, 1, none⟩ = some (.slice aoN2 m2 cN2) := HBy10.out.cell (i := 1) rfl
  have cy2 : w10.cell? ⟨w7.heap.size, 2, none⟩ = some (.slice aoF2 m3 cF2) := HBy10.out.cell (i := 2) rfl
  have ly := HBy10.out.lt
  go_wp2_with fail
  obtain ⟨w11, hw11⟩ : ∃ u, u = w10.alloc (.cells #[.slice none 0 0, .slice none 0 0, .slice none 0 0] 26) := ⟨_, rfl⟩
  have ew11 : Ext w10 w11 := hw11 ▸ (Below.refl _ _).alloc (Nat.le_refl _) _
  have HBdn : Hid (Blk w11 w10.heap.size 26 #[.slice none 0 0, .slice none 0 0, .slice none 0 0]) := hid (hw11 ▸ Blk.new _ _ _)
  have HWw11 := hid hw11
  clear ca0 ca1 ca2 la cb0 cb1 cb2 lb cx0 cx1 cx2 lx cy0 cy1 cy2 ly
  have HE11 : Hid (Ext w w11) := hid (HE10.out.trans ((ew11).mono HE10.out.size))
  have HBa11 := hid (HBa10.out.ext (ew11))
  have HBb11 := hid (HBb10.out.ext (ew11))
  have HBx11 := hid (HBx10.out.ext (ew11))
  have HBy11 := hid (HBy10.out.ext (ew11))
  have HD11 := hid (HD10.out.ext (ew11))
  have HG11 := hid (HG10.out.ext (ew11))
  clear ew11 hw11
  rw [← HWw11.out]
  have HC := hid (within_bad HD11.out HS.out.bnd HG11.out HS2.out.bnd HEE.out)
  rw [← HEQ.out] at HC
  refine (HC.out).mono ?_
  rintro e w12 ⟨rfl, hx⟩
  have HE12 : Hid (Ext w w12) := hid (HE11.out.trans ((hx).mono HE11.out.size))
  have HBa12 := hid (HBa11.out.ext (hx))
  have HBb12 := hid (HBb11.out.ext (hx))
  have HBx12 := hid (HBx11.out.ext (hx))
  have HBy12 := hid (HBy11.out.ext (hx))
  have HBd12 := hid (HBdn.out.ext (hx))
  have HD12 := hid (HD11.out.ext (hx))
  have HG12 := hid (HG11.out.ext (hx))
  clear hx
  clear HC
  have ca0 : w12.cell? ⟨w.heap.size, 0, none⟩ = some (.slice aoS n1 cS) := HBa12.out.cell (i := 0) rfl
  have ca1 : w12.cell? ⟨w.heap.size, 1, none⟩ = some (.slice aoN n2 cN) := HBa12.out.cell (i := 1) rfl
  have ca2 : w12.cell? ⟨w.heap.size, 2, none⟩ = some (.slice aoF n3 cF) := HBa12.out.cell (i := 2) rfl
  have la := HBa12.out.lt
  have cb0 : w12.cell? ⟨(w.heap.size + 1), 0, none⟩ = some (.slice aoS2 m1 cS2) := HBb12.out.cell (i := 0) rfl
  have cb1 : w12.cell? ⟨(w.heap.size + 1), 1, none⟩ = some (.slice aoN2 m2 cN2) := HBb12.out.cell (i := 1) rfl
  have cb2 : w12.cell? ⟨(w.heap.size + 1), 2, none⟩ = some (.slice aoF2 m3 cF2) := HBb12.out.cell (i := 2) rfl
  have lb := HBb12.out.lt
  have cx0 : w12.cell? ⟨w5.heap.size, 0, none⟩ = some (.slice aoS n1 cS) := HBx12.out.cell (i := 0) rfl
  have cx1 : w12.cell? ⟨w5.heap.size, 1, none⟩ = some (.slice aoN n2 cN) := HBx12.out.cell (i := 1) rfl
  have cx2 : w12.cell? ⟨w5.heap.size, 2, none⟩ = some (.slice aoF n3 cF) := HBx12.out.cell (i := 2) rfl
  have lx := HBx12.out.lt
  have cy0 : w12.cell? ⟨w7.heap.size, 0, none⟩ = some (.slice aoS2 m1 cS2) := HBy12.out.cell (i := 0) rfl
  have cy1 : w12.cell? ⟨w7.heap.size, 1, none⟩ = some (.slice aoN2 m2 cN2) := HBy12.out.cell (i := 1) rfl
  have cy2 : w12.cell? ⟨w7.heap.size, 2, none⟩ = some (.slice aoF2 m3 cF2) := HBy12.out.cell (i := 2) rfl
  have ly := HBy12.out.lt
  have cd0 : w12.cell? ⟨w10.heap.size, 0, none⟩ = some (.slice none 0 0) := HBd12.out.cell (i := 0) rfl
  have cd1 : w12.cell? ⟨w10.heap.size, 1, none⟩ = some (.slice none 0 0) := HBd12.out.cell (i := 1) rfl
  have cd2 : w12.cell? ⟨w10.heap.size, 2, none⟩ = some (.slice none 0 0) := HBd12.out.cell (i := 2) rfl
  have ld := HBd12.out.lt
  go_wp2_with fail
  refine (none_nil _).mono ?_
  rintro e w13 ⟨rfl, hx⟩
  clear ca0 ca1 ca2 la cb0 cb1 cb2 lb cx0 cx1 cx2 lx cy0 cy1 cy2 ly cd0 cd1 cd2 ld
  have HE13 : Hid (Ext w w13) := hid (HE12.out.trans ((hx).mono HE12.out.size))
  have HBa13 := hid (HBa12.out.ext (hx))
  have HBb13 := hid (HBb12.out.ext (hx))
  have HBx13 := hid (HBx12.out.ext (hx))
  have HBy13 := hid (HBy12.out.ext (hx))
  have HBd13 := hid (HBd12.out.ext (hx))
  have HD13 := hid (HD12.out.ext (hx))
  have HG13 := hid (HG12.out.ext (hx))
  clear hx
  have ca0 : w13.cell? ⟨w.heap.size, 0, none⟩ = some (.slice aoS n1 cS) := HBa13.out.cell (i := 0) rfl
  have ca1 : w13.cell? ⟨w.heap.size, 1, none⟩ = some (.slice aoN n2 cN) := HBa13.out.cell (i := 1) rfl
  have ca2 : w13.cell? ⟨w.heap.size, 2, none⟩ = some (.slice aoF n3 cF) := HBa13.out.cell (i := 2) rfl
  have la := HBa13.out.lt
  have cb0 : w13.cell? ⟨(w.heap.size + 1), 0, none⟩ = some (.slice aoS2 m1 cS2) := HBb13.out.cell (i := 0) rfl
  have cb1 : w13.cell? ⟨(w.heap.size + 1), 1, none⟩ = some (.slice aoN2 m2 cN2) := HBb13.out.cell (i := 1) rfl
  have cb2 : w13.cell? ⟨(w.heap.size + 1), 2, none⟩ = some (.slice aoF2 m3 cF2) := HBb13.out.cell (i := 2) rfl
  have lb := HBb13.out.lt
  have cx0 : w13.cell? ⟨w5.heap.size, 0, none⟩ = some (.slice aoS n1 cS) := HBx13.out.cell (i := 0) rfl
  have cx1 : w13.cell? ⟨w5.heap.size, 1, none⟩ = some (.slice aoN n2 cN) := HBx13.out.cell (i := 1) rfl
  have cx2 : w13.cell? ⟨w5.heap.size, 2, none⟩ = some (.slice aoF n3 cF) := HBx13.out.cell (i := 2) rfl
  have lx := HBx13.out.lt
  have cy0 : w13.cell? ⟨w7.heap.size, 0, none⟩ = some (.slice aoS2 m1 cS2) := HBy13.out.cell (i := 0) rfl
  have cy1 : w13.cell? ⟨w7.heap.size, 1, none⟩ = some (.slice aoN2 m2 cN2) := HBy13.out.cell (i := 1) rfl
  have cy2 : w13.cell? ⟨w7.heap.size, 2, none⟩ = some (.slice aoF2 m3 cF2) := HBy13.out.cell (i := 2) rfl
  have ly := HBy13.out.lt
  have cd0 : w13.cell? ⟨w10.heap.size, 0, none⟩ = some (.slice none 0 0) := HBd13.out.cell (i := 0) rfl
  have cd1 : w13.cell? ⟨w10.heap.size, 1, none⟩ = some (.slice none 0 0) := HBd13.out.cell (i := 1) rfl
  have cd2 : w13.cell? ⟨w10.heap.size, 2, none⟩ = some (.slice none 0 0) := HBd13.out.cell (i := 2) rfl
  have ld := HBd13.out.lt
  go_wp2_with fail
  refine (awake8_any (HT.out.ext HE13.out)).mono ?_
  rintro e w14 ⟨rfl, hx⟩
  clear ca0 ca1 ca2 la cb0 cb1 cb2 lb cx0 cx1 cx2 lx cy0 cy1 cy2 ly cd0 cd1 cd2 ld
  have HE14 : Hid (Ext w w14) := hid (HE13.out.trans ((hx).mono HE13.out.size))
  have HBa14 := hid (HBa13.out.ext (hx))
  have HBb14 := hid (HBb13.out.ext (hx))
  have HBx14 := hid (HBx13.out.ext (hx))
  have HBy14 := hid (HBy13.out.ext (hx))
  have HBd14 := hid (HBd13.out.ext (hx))
  have HD14 := hid (HD13.out.ext (hx))
  have HG14 := hid (HG13.out.ext (hx))
  clear hx
  have ca0 : w14.cell? ⟨w.heap.size, 0, none⟩ = some (.slice aoS n1 cS) := HBa14.out.cell (i := 0) rfl
  have ca1 : w14.cell? ⟨w.heap.size, 1, none⟩ = some (.slice aoN n2 cN) := HBa14.out.cell (i := 1) rfl
  have ca2 : w14.cell? ⟨w.heap.size, 2, none⟩ = some (.slice aoF n3 cF) := HBa14.out.cell (i := 2) rfl
  have la := HBa14.out.lt
  have cb0 : w14.cell? ⟨(w.heap.size + 1), 0, none⟩ = some (.slice aoS2 m1 cS2) := HBb14.out.cell (i := 0) rfl
  have cb1 : w14.cell? ⟨(w.heap.size + 1), 1, none⟩ = some (.slice aoN2 m2 cN2) := HBb14.out.cell (i := 1) rfl
  have cb2 : w14.cell? ⟨(w.heap.size + 1), 2, none⟩ = some (.slice aoF2 m3 cF2) := HBb14.out.cell (i := 2) rfl
  have lb := HBb14.out.lt
  have cx0 : w14.cell? ⟨w5.heap.size, 0, none⟩ = some (.slice aoS n1 cS) := HBx14.out.cell (i := 0) rfl
  have cx1 : w14.cell? ⟨w5.heap.size, 1, none⟩ = some (.slice aoN n2 cN) := HBx14.out.cell (i := 1) rfl
  have cx2 : w14.cell? ⟨w5.heap.size, 2, none⟩ = some (.slice aoF n3 cF) := HBx14.out.cell (i := 2) rfl
  have lx := HBx14.out.lt
  have cy0 : w14.cell? ⟨w7.heap.size, 0, none⟩ = some (.slice aoS2 m1 cS2) := HBy14.out.cell (i := 0) rfl
  have cy1 : w14.cell? ⟨w7.heap.size, 1, none⟩ = some (.slice aoN2 m2 cN2) := HBy14.out.cell (i := 1) rfl
  have cy2 : w14.cell? ⟨w7.heap.size, 2, none⟩ = some (.slice aoF2 m3 cF2) := HBy14.out.cell (i := 2) rfl
  have ly := HBy14.out.lt
  have cd0 : w14.cell? ⟨w10.heap.size, 0, none⟩ = some (.slice none 0 0) := HBd14.out.cell (i := 0) rfl
  have cd1 : w14.cell? ⟨w10.heap.size, 1, none⟩ = some (.slice none 0 0) := HBd14.out.cell (i := 1) rfl
  have cd2 : w14.cell? ⟨w10.heap.size, 2, none⟩ = some (.slice none 0 0) := HBd14.out.cell (i := 2) rfl
  have ld := HBd14.out.lt
  go_wp2_with fail
  go_ret
  exact ⟨rfl, HE14.out⟩
set_option maxRecDepth 100000 in
set_option maxHeartbeats 8000000 in
theorem two_in {w : World} {aoS aoN aoF aoS2 aoN2 aoF2 : Option Addr} {n1 n2 n3 cS cN cF m1 m2 m3 cS2 cN2 cF2 : Nat} {D E : DA} (hD : DfaW w (.agg #[.slice aoS n1 cS, .slice aoN n2 cN, .slice aoF n3 cF]) D) (hE : DfaW w (.agg #[.slice aoS2 m1 cS2, .slice aoN2 m2 cN2, .slice aoF2 m3 cF2]) E) (hS : SmallD D.raw) (hS2 : SmallD E.raw) (hcS : n1 ≤ cS) (hT : TabW w) : Calls Tryz.prog 7 #[.agg #[.slice aoS n1 cS, .slice aoN n2 cN, .slice aoF n3 cF], .agg #[.slice aoS2 m1 cS2, .slice aoN2 m2 cN2, .slice aoF2 m3 cF2]] w (TruePost w) := by
 have HD0 := hid hD
 have HG0 := hid hE
 have HT := hid hT
 have HS := hid hS
 have HS2 := hid hS2
 have HWD := hid hD.well
 have HWE := hid hE.well
 have HBN := hid hD.bnd
 have HL := hid hS.len
 have HM := hid hS2.len
 have HCS := hid hcS
 clear hD hE hS hS2 hT hcS
 obtain ⟨w1, hw1⟩ : ∃ u, u = w.alloc (.cells #[.slice aoS n1 cS, .slice aoN n2 cN, .slice aoF n3 cF] 26) := ⟨_, rfl⟩
 have ew1 : Ext w w1 := hw1 ▸ (Below.refl _ _).alloc (Nat.le_refl _) _
 have HBan : Hid (Blk w1 w.heap.size 26 #[.slice aoS n1 cS, .slice aoN n2 cN, .slice aoF n3 cF]) := hid (hw1 ▸ Blk.new _ _ _)
 have HWw1 := hid hw1
 have HE1 : Hid (Ext w w1) := hid (ew1)
 have HD1 := hid (HD0.out.ext (ew1))
 have HG1 := hid (HG0.out.ext (ew1))
 clear ew1 hw1
 obtain ⟨w2, hw2⟩ : ∃ u, u = w1.alloc (.cells #[.slice aoS2 m1 cS2, .slice aoN2 m2 cN2, .slice aoF2 m3 cF2] 26) := ⟨_, rfl⟩
 have ew2 : Ext w1 w2 := hw2 ▸ (Below.refl _ _).alloc (Nat.le_refl _) _
 have HBbn : Hid (Blk w2 (w.heap.size + 1) 26 #[.slice aoS2 m1 cS2, .slice aoN2 m2 cN2, .slice aoF2 m3 cF2]) := hid (by rw [hw2]; exact Blk.new' _ _ _ (by rw [HWw1.out]; simp))
 have HWw2 := hid hw2
 have HE2 : Hid (Ext w w2) := hid (HE1.out.trans ((ew2).mono HE1.out.size))
 have HBa2 := hid (HBan.out.ext (ew2))
 have HD2 := hid (HD1.out.ext (ew2))
 have HG2 := hid (HG1.out.ext (ew2))
 clear ew2 hw2
 go_enter Tryz.func7, Tryz.ntmps7
 go_wp2_with fail
 rw [← HWw1.out, ← HWw2.out]
 refine (small8_any HD2.out.at_ HL.out).mono ?_
 rintro e w3 ⟨b, rfl, hb, hx⟩
 have HE3 : Hid (Ext w w3) := hid (HE2.out.trans ((hx).mono HE2.out.size))
 have HBa3 := hid (HBa2.out.ext (hx))
 have HBb3 := hid (HBbn.out.ext (hx))
 have HD3 := hid (HD2.out.ext (hx))
 have HG3 := hid (HG2.out.ext (hx))
 clear hx
 obtain rfl : b = true := hb.2 HS.out
 clear hb
 have ca0 : w3.cell? ⟨w.heap.size, 0, none⟩ = some (.slice aoS n1 cS) := HBa3.out.cell (i := 0) rfl
 have ca1 : w3.cell? ⟨w.heap.size, 1, none⟩ = some (.slice aoN n2 cN) := HBa3.out.cell (i := 1) rfl
 have ca2 : w3.cell? ⟨w.heap.size, 2, none⟩ = some (.slice aoF n3 cF) := HBa3.out.cell (i := 2) rfl
 have la := HBa3.out.lt
 have cb0 : w3.cell? ⟨(w.heap.size + 1), 0, none⟩ = some (.slice aoS2 m1 cS2) := HBb3.out.cell (i := 0) rfl
 have cb1 : w3.cell? ⟨(w.heap.size + 1), 1, none⟩ = some (.slice aoN2 m2 cN2) := HBb3.out.cell (i := 1) rfl
 have cb2 : w3.cell? ⟨(w.heap.size + 1), 2, none⟩ = some (.slice aoF2 m3 cF2) := HBb3.out.cell (i := 2) rfl
 have lb := HBb3.out.lt
 go_wp2_with fail
 refine (small8_any HG3.out.at_ HM.out).mono ?_
 rintro e w4 ⟨b, rfl, hb, hx⟩
 clear ca0 ca1 ca2 la cb0 cb1 cb2 lb
 have HE4 : Hid (Ext w w4) := hid (HE3.out.trans ((hx).mono HE3.out.size))
 have HBa4 := hid (HBa3.out.ext (hx))
 have HBb4 := hid (HBb3.out.ext (hx))
 have HD4 := hid (HD3.out.ext (hx))
 have HG4 := hid (HG3.out.ext (hx))
 clear hx
 obtain rfl : b = true := hb.2 HS2.out
 clear hb
 have ca0 : w4.cell? ⟨w.heap.size, 0, none⟩ = some (.slice aoS n1 cS) := HBa4.out.cell (i := 0) rfl
 have ca1 : w4.cell? ⟨w.heap.size, 1, none⟩ = some (.slice aoN n2 cN) := HBa4.out.cell (i := 1) rfl
 have ca2 : w4.cell? ⟨w.heap.size, 2, none⟩ = some (.slice aoF n3 cF) := HBa4.out.cell (i := 2) rfl
 have la := HBa4.out.lt
 have cb0 : w4.cell? ⟨(w.heap.size + 1), 0, none⟩ = some (.slice aoS2 m1 cS2) := HBb4.out.cell (i := 0) rfl
 have cb1 : w4.cell? ⟨(w.heap.size + 1), 1, none⟩ = some (.slice aoN2 m2 cN2) := HBb4.out.cell (i := 1) rfl
 have cb2 : w4.cell? ⟨(w.heap.size + 1), 2, none⟩ = some (.slice aoF2 m3 cF2) := HBb4.out.cell (i := 2) rfl
 have lb := HBb4.out.lt
 go_wp2_with fail
 refine (plain8_any _ _ _ _ _ _ _ _ _ _).mono ?_
 rintro e w5 ⟨rfl, hx⟩
 clear ca0 ca1 ca2 la cb0 cb1 cb2 lb
 have HE5 : Hid (Ext w w5) := hid (HE4.out.trans ((hx).mono HE4.out.size))
 have HBa5 := hid (HBa4.out.ext (hx))
 have HBb5 := hid (HBb4.out.ext (hx))
 have HD5 := hid (HD4.out.ext (hx))
 have HG5 := hid (HG4.out.ext (hx))
 clear hx
 have ca0 : w5.cell? ⟨w.heap.size, 0, none⟩ = some (.slice aoS n1 cS) := HBa5.out.cell (i := 0) rfl
 have ca1 : w5.cell? ⟨w.heap.size, 1, none⟩ = some (.slice aoN n2 cN) := HBa5.out.cell (i := 1) rfl
 have ca2 : w5.cell? ⟨w.heap.size, 2, none⟩ = some (.slice aoF n3 cF) := HBa5.out.cell (i := 2) rfl
 have la := HBa5.out.lt
 have cb0 : w5.cell? ⟨(w.heap.size + 1), 0, none⟩ = some (.slice aoS2 m1 cS2) := HBb5.out.cell (i := 0) rfl
 have cb1 : w5.cell? ⟨(w.heap.size + 1), 1, none⟩ = some (.slice aoN2 m2 cN2) := HBb5.out.cell (i := 1) rfl
 have cb2 : w5.cell? ⟨(w.heap.size + 1), 2, none⟩ = some (.slice aoF2 m3 cF2) := HBb5.out.cell (i := 2) rfl
 have lb := HBb5.out.lt
 go_wp2_with fail
 obtain ⟨w6, hw6⟩ : ∃ u, u = w5.alloc (.cells #[.slice aoS n1 cS, .slice aoN n2 cN, .slice aoF n3 cF] 40) := ⟨_, rfl⟩
 have ew6 : Ext w5 w6 := hw6 ▸ (Below.refl _ _).alloc (Nat.le_refl _) _
 have HBxn : Hid (Blk w6 w5.heap.size 40 #[.slice aoS n1 cS, .slice aoN n2 cN, .slice aoF n3 cF]) := hid (hw6 ▸ Blk.new _ _ _)
 have HWw6 := hid hw6
 clear ca0 ca1 ca2 la cb0 cb1 cb2 lb
 have HE6 : Hid (Ext w w6) := hid (HE5.out.trans ((ew6).mono HE5.out.size))
 have HBa6 := hid (HBa5.out.ext (ew6))
 have HBb6 := hid (HBb5.out.ext (ew6))
 have HD6 := hid (HD5.out.ext (ew6))
 have HG6 := hid (HG5.out.ext (ew6))
 clear ew6 hw6
 rw [← HWw6.out]
 refine (plain8_any _ _ _ _ _ _ _ _ _ _).mono ?_
 rintro e w7 ⟨rfl, hx⟩
 have HE7 : Hid (Ext w w7) := hid (HE6.out.trans ((hx).mono HE6.out.size))
 have HBa7 := hid (HBa6.out.ext (hx))
 have HBb7 := hid (HBb6.out.ext (hx))
 have HBx7 := hid (HBxn.out.ext (hx))
 have HD7 := hid (HD6.out.ext (hx))
 have HG7 := hid (HG6.out.ext (hx))
 clear hx
 have ca0 : w7.cell? ⟨w.heap.size, 0, none⟩ = some (.slice aoS n1 cS) := HBa7.out.cell (i := 0) rfl
 have ca1 : w7.cell? ⟨w.heap.size, 1, none⟩ = some (.slice aoN n2 cN) := HBa7.out.cell (i := 1) rfl
 have ca2 : w7.cell? ⟨w.heap.size, 2, none⟩ = some (.slice aoF n3 cF) := HBa7.out.cell (i := 2) rfl
 have la := HBa7.out.lt
 have cb0 : w7.cell? ⟨(w.heap.size + 1), 0, none⟩ = some (.slice aoS2 m1 cS2) := HBb7.out.cell (i := 0) rfl
 have cb1 : w7.cell? ⟨(w.heap.size + 1), 1, none⟩ = some (.slice aoN2 m2 cN2) := HBb7.out.cell (i := 1) rfl
 have cb2 : w7.cell? ⟨(w.heap.size + 1), 2, none⟩ = some (.slice aoF2 m3 cF2) := HBb7.out.cell (i := 2) rfl
 have lb := HBb7.out.lt
 have cx0 : w7.cell? ⟨w5.heap.size, 0, none⟩ = some (.slice aoS n1 cS) := HBx7.out.cell (i := 0) rfl
 have cx1 : w7.cell? ⟨w5.heap.size, 1, none⟩ = some (.slice aoN n2 cN) := HBx7.out.cell (i := 1) rfl
 have cx2 : w7.cell? ⟨w5.heap.size, 2, none⟩ = some (.slice aoF n3 cF) := HBx7.out.cell (i := 2) rfl
 have lx := HBx7.out.lt
 go_wp2_with fail
 obtain ⟨w8, hw8⟩ : ∃ u, u = w7.alloc (.cells #[.slice aoS2 m1 cS2, .slice aoN2 m2 cN2, .slice aoF2 m3 cF2] 40) := ⟨_, rfl⟩
 have ew8 : Ext w7 w8 := hw8 ▸ (Below.refl _ _).alloc (Nat.le_refl _) _
 have HByn : Hid (Blk w8 w7.heap.size 40 #[.slice aoS2 m1 cS2, .slice aoN2 m2 cN2, .slice aoF2 m3 cF2]) := hid (hw8 ▸ Blk.new _ _ _)
 have HWw8 := hid hw8
 clear ca0 ca1 ca2 la cb0 cb1 cb2 lb cx0 cx1 cx2 lx
 have HE8 : Hid (Ext w w8) := hid (HE7.out.trans ((ew8).mono HE7.out.size))
 have HBa8 := hid (HBa7.out.ext (ew8))
 have HBb8 := hid (HBb7.out.ext (ew8))
 have HBx8 := hid (HBx7.out.ext (ew8))
 have HD8 := hid (HD7.out.ext (ew8))
 have HG8 := hid (HG7.out.ext (ew8))
 clear ew8 hw8
 rw [← HWw8.out]
 have HC := hid (rcheck8_any HD8.out.at_ HS.out.bnd)
 rw [well_check HWD.out] at HC
 refine (HC.out).mono ?_
 rintro e w9 ⟨rfl, hx⟩
 have HE9 : Hid (Ext w w9) := hid (HE8.out.trans ((hx).mono HE8.out.size))
 have HBa9 := hid (HBa8.out.ext (hx))
 have HBb9 := hid (HBb8.out.ext (hx))
 have HBx9 := hid (HBx8.out.ext (hx))
 have HBy9 := hid (HByn.out.ext (hx))
 have HD9 := hid (HD8.out.ext (hx))
 have HG9 := hid (HG8.out.ext (hx))
 clear hx
 clear HC
 have ca0 : w9.cell? ⟨w.heap.size, 0, none⟩ = some (.slice aoS n1 cS) := HBa9.out.cell (i := 0) rfl
 have ca1 : w9.cell? ⟨w.heap.size, 1, none⟩ = some (.slice aoN n2 cN) := HBa9.out.cell (i := 1) rfl
 have ca2 : w9.cell? ⟨w.heap.size, 2, none⟩ = some (.slice aoF n3 cF) := HBa9.out.cell (i := 2) rfl
 have la := HBa9.out.lt
 have cb0 : w9.cell? ⟨(w.heap.size + 1), 0, none⟩ = some (.slice aoS2 m1 cS2) := HBb9.out.cell (i := 0) rfl
 have cb1 : w9.cell? ⟨(w.heap.size + 1), 1, none⟩ = some (.slice aoN2 m2 cN2) := HBb9.out.cell (i := 1) rfl
 have cb2 : w9.cell? ⟨(w.heap.size + 1), 2, none⟩ = some (.slice aoF2 m3 cF2) := HBb9.out.cell (i := 2) rfl
 have lb := HBb9.out.lt
 have cx0 : w9.cell? ⟨w5.heap.size, 0, none⟩ = some (.slice aoS n1 cS) := HBx9.out.cell (i := 0) rfl
 have cx1 : w9.cell? ⟨w5.heap.size, 1, none⟩ = some (.slice aoN n2 cN) := HBx9.out.cell (i := 1) rfl
 have cx2 : w9.cell? ⟨w5.heap.size, 2, none⟩ = some (.slice aoF n3 cF) := HBx9.out.cell (i := 2) rfl
 have lx := HBx9.out.lt
 have cy0 : w9.cell? ⟨w7.heap.size, 0, none⟩ = some (.slice aoS2 m1 cS2) := HBy9.out.cell (i := 0) rfl
 have cy1 : w9.cell? ⟨w7.heap.size, 1, none⟩ = some (.slice aoN2 m2 cN2) := HBy9.out.cell (i := 1) rfl
 have cy2 : w9.cell? ⟨w7.heap.size, 2, none⟩ = some (.slice aoF2 m3 cF2) := HBy9.out.cell (i := 2) rfl
 have ly := HBy9.out.lt
 go_wp2_with fail
 have HC := hid (rcheck8_any HG9.out.at_ HS2.out.bnd)
 rw [well_check HWE.out] at HC
 refine (HC.out).mono ?_
 rintro e w10 ⟨rfl, hx⟩
 clear ca0 ca1 ca2 la cb0 cb1 cb2 lb cx0 cx1 cx2 lx cy0 cy1 cy2 ly
 have HE10 : Hid (Ext w w10) := hid (HE9.out.trans ((hx).mono HE9.out.size))
 have HBa10 := hid (HBa9.out.ext (hx))
 have HBb10 := hid (HBb9.out.ext (hx))
 have HBx10 := hid (HBx9.out.ext (hx))
 have HBy10 := hid (HBy9.out.ext (hx))
 have HD10 := hid (HD9.out.ext (hx))
 have HG10 := hid (HG9.out.ext (hx))
 clear hx
 clear HC
 have ca0 : w10.cell? ⟨w.heap.size, 0, none⟩ = some (.slice aoS n1 cS) := HBa10.out.cell (i := 0) rfl
 have ca1 : w10.cell? ⟨w.heap.size, 1, none⟩ = some (.slice aoN n2 cN) := HBa10.out.cell (i := 1) rfl
 have ca2 : w10.cell? ⟨w.heap.size, 2, none⟩ = some (.slice aoF n3 cF) := HBa10.out.cell (i := 2) rfl
 have la := HBa10.out.lt
 have cb0 : w10.cell? ⟨(w.heap.size + 1), 0, none⟩ = some (.slice aoS2 m1 cS2) := HBb10.out.cell (i := 0) rfl
 have cb1 : w10.cell? ⟨(w.heap.size + 1), 1, none⟩ = some (.slice aoN2 m2 cN2) := HBb10.out.cell (i := 1) rfl
 have cb2 : w10.cell? ⟨(w.heap.size + 1), 2, none⟩ = some (.slice aoF2 m3 cF2) := HBb10.out.cell (i := 2) rfl
 have lb := HBb10.out.lt
 have cx0 : w10.cell? ⟨w5.heap.size, 0, none⟩ = some (.slice aoS n1 cS) := HBx10.out.cell (i := 0) rfl
 have cx1 : w10.cell? ⟨w5.heap.size, 1, none⟩ = some (.slice aoN n2 cN) := HBx10.out.cell (i := 1) rfl
 have cx2 : w10.cell? ⟨w5.heap.size, 2, none⟩ = some (.slice aoF n3 cF) := HBx10.out.cell (i := 2) rfl
 have lx := HBx10.out.lt
 have cy0 : w10.cell? ⟨w7.heap.size, 0, none⟩ = some (.slice aoS2 m1 cS2) := HBy10.out.cell (i := 0) rfl
 have cy1 : w10.cell? ⟨w7.heap.size, 1, none⟩ = some (.slice aoN2 m2 cN2) := HBy10.out.cell (i := 1) rfl
 have cy2 : w10.cell? ⟨w7.heap.size, 2, none⟩ = some (.slice aoF2 m3 cF2) := HBy10.out.cell (i := 2) rfl
 have ly := HBy10.out.lt
 go_wp2_with fail
 refine (both_small HD10.out HG10.out HS.out HS2.out).mono ?_
 rintro e w11 ⟨aoSd, n1d, cSd, aoNd, n2d, cNd, aoFd, n3d, cFd, i, rfl, ⟨hf, hN⟩, hx⟩
 clear ca0 ca1 ca2 la cb0 cb1 cb2 lb cx0 cx1 cx2 lx cy0 cy1 cy2 ly
 have HE11 : Hid (Ext w w11) := hid (HE10.out.trans ((hx).mono HE10.out.size))
 have HBa11 := hid (HBa10.out.ext (hx))
 have HBb11 := hid (HBb10.out.ext (hx))
 have HBx11 := hid (HBx10.out.ext (hx))
 have HBy11 := hid (HBy10.out.ext (hx))
 have HD11 := hid (HD10.out.ext (hx))
 have HG11 := hid (HG10.out.ext (hx))
 have HN0 := hid hN
 clear hx hN
 have HF := hid hf
 clear hf
 have ca0 : w11.cell? ⟨w.heap.size, 0, none⟩ = some (.slice aoS n1 cS) := HBa11.out.cell (i := 0) rfl
 have ca1 : w11.cell? ⟨w.heap.size, 1, none⟩ = some (.slice aoN n2 cN) := HBa11.out.cell (i := 1) rfl
 have ca2 : w11.cell? ⟨w.heap.size, 2, none⟩ = some (.slice aoF n3 cF) := HBa11.out.cell (i := 2) rfl
 have la := HBa11.out.lt
 have cb0 : w11.cell? ⟨(w.heap.size + 1), 0, none⟩ = some (.slice aoS2 m1 cS2) := HBb11.out.cell (i := 0) rfl
 have cb1 : w11.cell? ⟨(w.heap.size + 1), 1, none⟩ = some (.slice aoN2 m2 cN2) := HBb11.out.cell (i := 1) rfl
 have cb2 : w11.cell? ⟨(w.heap.size + 1), 2, none⟩ = some (.slice aoF2 m3 cF2) := HBb11.out.cell (i := 2) rfl
 have lb := HBb11.out.lt
 have cx0 : w11.cell? ⟨w5.heap.size, 0, none⟩ = some (.slice aoS n1 cS) := HBx11.out.cell (i := 0) rfl
 have cx1 : w11.cell? ⟨w5.heap.size, 1, none⟩ = some (.slice aoN n2 cN) := HBx11.out.cell (i := 1) rfl
 have cx2 : w11.cell? ⟨w5.heap.size, 2, none⟩ = some (.slice aoF n3 cF) := HBx11.out.cell (i := 2) rfl
 have lx := HBx11.out.lt
 have cy0 : w11.cell? ⟨w7.heap.size, 0, none⟩ = some (.slice aoS2 m1 cS2) := HBy11.out.cell (i := 0) rfl
 have cy1 : w11.cell? ⟨w7.heap.size, 1, none⟩ = some (.slice aoN2 m2 cN2) := HBy11.out.cell (i := 1) rfl
 have cy2 : w11.cell? ⟨w7.heap.size, 2, none⟩ = some (.slice aoF2 m3 cF2) := HBy11.out.cell (i := 2) rfl
 have ly := HBy11.out.lt
 go_wp2_with fail
 obtain ⟨w12, hw12⟩ : ∃ u, u = w11.alloc (.cells #[.slice aoSd n1d cSd, .slice aoNd n2d cNd, .slice aoFd n3d cFd] 26) := ⟨_, rfl⟩
 have ew12 : Ext w11 w12 := hw12 ▸ (Below.refl _ _).alloc (Nat.le_refl _) _
 have HBdn : Hid (Blk w12 w11.heap.size 26 #[.slice aoSd n1d cSd, .slice aoNd n2d cNd, .slice aoFd n3d cFd]) := hid (hw12 ▸ Blk.new _ _ _)
 have HWw12 := hid hw12
 clear ca0 ca1 ca2 la cb0 cb1 cb2 lb cx0 cx1 cx2 lx cy0 cy1 cy2 ly
 have HE12 : Hid (Ext w w12) := hid (HE11.out.trans ((ew12).mono HE11.out.size))
 have HBa12 := hid (HBa11.out.ext (ew12))
 have HBb12 := hid (HBb11.out.ext (ew12))
 have HBx12 := hid (HBx11.out.ext (ew12))
 have HBy12 := hid (HBy11.out.ext (ew12))
 have HD12 := hid (HD11.out.ext (ew12))
 have HG12 := hid (HG11.out.ext (ew12))
 have HN12 := hid (HN0.out.ext (ew12))
 clear ew12 hw12
 rw [← HWw12.out]
 have ca0 : w12.cell? ⟨w.heap.size, 0, none⟩ = some (.slice aoS n1 cS) := HBa12.out.cell (i := 0) rfl
 have ca1 : w12.cell? ⟨w.heap.size, 1, none⟩ = some (.slice aoN n2 cN) := HBa12.out.cell (i := 1) rfl
 have ca2 : w12.cell? ⟨w.heap.size, 2, none⟩ = some (.slice aoF n3 cF) := HBa12.out.cell (i := 2) rfl
 have la := HBa12.out.lt
 have cb0 : w12.cell? ⟨(w.heap.size + 1), 0, none⟩ = some (.slice aoS2 m1 cS2) := HBb12.out.cell (i := 0) rfl
 have cb1 : w12.cell? ⟨(w.heap.size + 1), 1, none⟩ = some (.slice aoN2 m2 cN2) := HBb12.out.cell (i := 1) rfl
 have cb2 : w12.cell? ⟨(w.heap.size + 1), 2, none⟩ = some (.slice aoF2 m3 cF2) := HBb12.out.cell (i := 2) rfl
 have lb := HBb12.out.lt
 have cx0 : w12.cell? ⟨w5.heap.size, 0, none⟩ = some (.slice aoS n1 cS) := HBx12.out.cell (i := 0) rfl
 have cx1 : w12.cell? ⟨w5.heap.size, 1, none⟩ = some (.slice aoN n2 cN) := HBx12.out.cell (i := 1) rfl
 have cx2 : w12.cell? ⟨w5.heap.size, 2, none⟩ = some (.slice aoF n3 cF) := HBx12.out.cell (i := 2) rfl
 have lx := HBx12.out.lt
 have cy0 : w12.cell? ⟨w7.heap.size, 0, none⟩ = some (.slice aoS2 m1 cS2) := HBy12.out.cell (i := 0) rfl
 have cy1 : w12.cell? ⟨w7.heap.size, 1, none⟩ = some (.slice aoN2 m2 cN2) := HBy12.out.cell (i := 1) rfl
 have cy2 : w12.cell? ⟨w7.heap.size, 2, none⟩ = some (.slice aoF2 m3 cF2) := HBy12.out.cell (i := 2) rfl
 have ly := HBy12.out.lt
 have cd0 : w12.cell? ⟨w11.heap.size, 0, none⟩ = some (.slice aoSd n1d cSd) := HBdn.out.cell (i := 0) rfl
 have cd1 : w12.cell? ⟨w11.heap.size, 1, none⟩ = some (.slice aoNd n2d cNd) := HBdn.out.cell (i := 1) rfl
 have cd2 : w12.cell? ⟨w11.heap.size, 2, none⟩ = some (.slice aoFd n3d cFd) := HBdn.out.cell (i := 2) rfl
 have ld := HBdn.out.lt
 go_wp2_with fail
 refine (within_any HD12.out HG12.out).mono ?_
 rintro e w13 ⟨hx, ⟨v5, u, rfl, hR, hul, hu1, hu2, hu3, hu4⟩ | ⟨rfl, hno⟩⟩
 ·clear ca0 ca1 ca2 la cb0 cb1 cb2 lb cx0 cx1 cx2 lx cy0 cy1 cy2 ly cd0 cd1 cd2 ld
  have HE13 : Hid (Ext w w13) := hid (HE12.out.trans ((hx).mono HE12.out.size))
  have HBa13 := hid (HBa12.out.ext (hx))
  have HBb13 := hid (HBb12.out.ext (hx))
  have HBx13 := hid (HBx12.out.ext (hx))
  have HBy13 := hid (HBy12.out.ext (hx))
  have HBd13 := hid (HBdn.out.ext (hx))
  have HD13 := hid (HD12.out.ext (hx))
  have HG13 := hid (HG12.out.ext (hx))
  have HN13 := hid (HN12.out.ext (hx))
  clear hx
  have HU1 := hid hu1
  have HU2 := hid hu2
  have HU3 := hid hu3
  have HU4 := hid hu4
  obtain ⟨ao5, c5, rfl, -⟩ := (OwnR.read hR strC_size).form
  have HR0 := hid (OwnR.read hR strC_size)
  obtain ⟨l5, hl5⟩ : ∃ n, n = (wordsOf D.syms u).length := ⟨_, rfl⟩
  rw [← hl5] at HR0 ⊢
  have HL5 := hid hl5
  have HMU : Hid (MildS (wordsOf D.syms u)) := hid (words_mild HBN.out hu1 hul)
  clear hu1 hu2 hu3 hu4 hR hl5 hul
  have ca0 : w13.cell? ⟨w.heap.size, 0, none⟩ = some (.slice aoS n1 cS) := HBa13.out.cell (i := 0) rfl
  have ca1 : w13.cell? ⟨w.heap.size, 1, none⟩ = some (.slice aoN n2 cN) := HBa13.out.cell (i := 1) rfl
  have ca2 : w13.cell? ⟨w.heap.size, 2, none⟩ = some (.slice aoF n3 cF) := HBa13.out.cell (i := 2) rfl
  have la := HBa13.out.lt
  have cb0 : w13.cell? ⟨(w.heap.size + 1), 0, none⟩ = some (.slice aoS2 m1 cS2) := HBb13.out.cell (i := 0) rfl
  have cb1 : w13.cell? ⟨(w.heap.size + 1), 1, none⟩ = some (.slice aoN2 m2 cN2) := HBb13.out.cell (i := 1) rfl
  have cb2 : w13.cell? ⟨(w.heap.size + 1), 2, none⟩ = some (.slice aoF2 m3 cF2) := HBb13.out.cell (i := 2) rfl
  have lb := HBb13.out.lt
  have cx0 : w13.cell? ⟨w5.heap.size, 0, none⟩ = some (.slice aoS n1 cS) := HBx13.out.cell (i := 0) rfl
  have cx1 : w13.cell? ⟨w5.heap.size, 1, none⟩ = some (.slice aoN n2 cN) := HBx13.out.cell (i := 1) rfl
  have cx2 : w13.cell? ⟨w5.heap.size, 2, none⟩ = some (.slice aoF n3 cF) := HBx13.out.cell (i := 2) rfl
  have lx := HBx13.out.lt
  have cy0 : w13.cell? ⟨w7.heap.size, 0, none⟩ = some (.slice aoS2 m1 cS2) := HBy13.out.cell (i := 0) rfl
  have cy1 : w13.cell? ⟨w7.heap.size, 1, none⟩ = some (.slice aoN2 m2 cN2) := HBy13.out.cell (i := 1) rfl
  have cy2 : w13.cell? ⟨w7.heap.size, 2, none⟩ = some (.slice aoF2 m3 cF2) := HBy13.out.cell (i := 2) rfl
  have ly := HBy13.out.lt
  have cd0 : w13.cell? ⟨w11.heap.size, 0, none⟩ = some (.slice aoSd n1d cSd) := HBd13.out.cell (i := 0) rfl
  have cd1 : w13.cell? ⟨w11.heap.size, 1, none⟩ = some (.slice aoNd n2d cNd) := HBd13.out.cell (i := 1) rfl
  have cd2 : w13.cell? ⟨w11.heap.size, 2, none⟩ = some (.slice aoFd n3d cFd) := HBd13.out.cell (i := 2) rfl
  have ld := HBd13.out.lt
  go_wp2_with fail
  refine (rboth_small HD13.out HG13.out HCS.out HS.out HS2.out).mono ?_
  rintro e w14 ⟨hx, i2, aoSq, n1q, cSq, aoNq, n2q, cNq, aoFq, n3q, cFq, hf2, rfl, hv2⟩
  clear ca0 ca1 ca2 la cb0 cb1 cb2 lb cx0 cx1 cx2 lx cy0 cy1 cy2 ly cd0 cd1 cd2 ld
  have HE14 : Hid (Ext w w14) := hid (HE13.out.trans ((hx).mono HE13.out.size))
  have HBa14 := hid (HBa13.out.ext (hx))
  have HBb14 := hid (HBb13.out.ext (hx))
  have HBx14 := hid (HBx13.out.ext (hx))
  have HBy14 := hid (HBy13.out.ext (hx))
  have HBd14 := hid (HBd13.out.ext (hx))
  have HD14 := hid (HD13.out.ext (hx))
  have HG14 := hid (HG13.out.ext (hx))
  have HN14 := hid (HN13.out.ext (hx))
  have HR14 := hid (HR0.out.ext (hx))
  obtain rfl : i = i2 := full_unique HF.out hf2
  have HV0 := hid hv2
  clear hx hf2 hv2
  have ca0 : w14.cell? ⟨w.heap.size, 0, none⟩ = some (.slice aoS n1 cS) := HBa14.out.cell (i := 0) rfl
  have ca1 : w14.cell? ⟨w.heap.size, 1, none⟩ = some (.slice aoN n2 cN) := HBa14.out.cell (i := 1) rfl
  have ca2 : w14.cell? ⟨w.heap.size, 2, none⟩ = some (.slice aoF n3 cF) := HBa14.out.cell (i := 2) rfl
  have la := HBa14.out.lt
  have cb0 : w14.cell? ⟨(w.heap.size + 1), 0, none⟩ = some (.slice aoS2 m1 cS2) := HBb14.out.cell (i := 0) rfl
  have cb1 : w14.cell? ⟨(w.heap.size + 1), 1, none⟩ = some (.slice aoN2 m2 cN2) := HBb14.out.cell (i := 1) rfl
  have cb2 : w14.cell? ⟨(w.heap.size + 1), 2, none⟩ = some (.slice aoF2 m3 cF2) := HBb14.out.cell (i := 2) rfl
  have lb := HBb14.out.lt
  have cx0 : w14.cell? ⟨w5.heap.size, 0, none⟩ = some (.slice aoS n1 cS) := HBx14.out.cell (i := 0) rfl
  have cx1 : w14.cell? ⟨w5.heap.size, 1, none⟩ = some (.slice aoN n2 cN) := HBx14.out.cell (i := 1) rfl
  have cx2 : w14.cell? ⟨w5.heap.size, 2, none⟩ = some (.slice aoF n3 cF) := HBx14.out.cell (i := 2) rfl
  have lx := HBx14.out.lt
  have cy0 : w14.cell? ⟨w7.heap.size, 0, none⟩ = some (.slice aoS2 m1 cS2) := HBy14.out.cell (i := 0) rfl
  have cy1 : w14.cell? ⟨w7.heap.size, 1, none⟩ = some (.slice aoN2 m2 cN2) := HBy14.out.cell (i := 1) rfl
  have cy2 : w14.cell? ⟨w7.heap.size, 2, none⟩ = some (.slice aoF2 m3 cF2) := HBy14.out.cell (i := 2) rfl
  have ly := HBy14.out.lt
  have cd0 : w14.cell? ⟨w11.heap.size, 0, none⟩ = some (.slice aoSd n1d cSd) := HBd14.out.cell (i := 0) rfl
  have cd1 : w14.cell? ⟨w11.heap.size, 1, none⟩ = some (.slice aoNd n2d cNd) := HBd14.out.cell (i := 1) rfl
  have cd2 : w14.cell? ⟨w11.heap.size, 2, none⟩ = some (.slice aoFd n3d cFd) := HBd14.out.cell (i := 2) rfl
  have ld := HBd14.out.lt
  go_wp2_with fail
  obtain ⟨w15, hw15⟩ : ∃ u, u = w14.alloc (.cells #[.slice aoSq n1q cSq, .slice aoNq n2q cNq, .slice aoFq n3q cFq] 40) := ⟨_, rfl⟩
  have ew15 : Ext w14 w15 := hw15 ▸ (Below.refl _ _).alloc (Nat.le_refl _) _
  have HBqn : Hid (Blk w15 w14.heap.size 40 #[.slice aoSq n1q cSq, .slice aoNq n2q cNq, .slice aoFq n3q cFq]) := hid (hw15 ▸ Blk.new _ _ _)
  have HWw15 := hid hw15
  clear ca0 ca1 ca2 la cb0 cb1 cb2 lb cx0 cx1 cx2 lx cy0 cy1 cy2 ly cd0 cd1 cd2 ld
  have HE15 : Hid (Ext w w15) := hid (HE14.out.trans ((ew15).mono HE14.out.size))
  have HBa15 := hid (HBa14.out.ext (ew15))
  have HBb15 := hid (HBb14.out.ext (ew15))
  have HBx15 := hid (HBx14.out.ext (ew15))
  have HBy15 := hid (HBy14.out.ext (ew15))
  have HBd15 := hid (HBd14.out.ext (ew15))
  have HD15 := hid (HD14.out.ext (ew15))
  have HG15 := hid (HG14.out.ext (ew15))
  have HN15 := hid (HN14.out.ext (ew15))
  have HR15 := hid (HR14.out.ext (ew15))
  have HV15 := hid (HV0.out.ext (ew15))
  clear ew15 hw15
  rw [← HWw15.out]
  have ca0 : w15.cell? ⟨w.heap.size, 0, none⟩ = some (.slice aoS n1 cS) := HBa15.out.cell (i := 0) rfl
  have ca1 : w15.cell? ⟨w.heap.size, 1, none⟩ = some (.slice aoN n2 cN) := HBa15.out.cell (i := 1) rfl
  have ca2 : w15.cell? ⟨w.heap.size, 2, none⟩ = some (.slice aoF n3 cF) := HBa15.out.cell (i := 2) rfl
  have la := HBa15.out.lt
  have cb0 : w15.cell? ⟨(w.heap.size + 1), 0, none⟩ = some (.slice aoS2 m1 cS2) := HBb15.out.cell (i := 0) rfl
  have cb1 : w15.cell? ⟨(w.heap.size + 1), 1, none⟩ = some (.slice aoN2 m2 cN2) := HBb15.out.cell (i := 1) rfl
  have cb2 : w15.cell? ⟨(w.heap.size + 1), 2, none⟩ = some (.slice aoF2 m3 cF2) := HBb15.out.cell (i := 2) rfl
  have lb := HBb15.out.lt
  have cx0 : w15.cell? ⟨w5.heap.size, 0, none⟩ = some (.slice aoS n1 cS) := HBx15.out.cell (i := 0) rfl
  have cx1 : w15.cell? ⟨w5.heap.size, 1, none⟩ = some (.slice aoN n2 cN) := HBx15.out.cell (i := 1) rfl
  have cx2 : w15.cell? ⟨w5.heap.size, 2, none⟩ = some (.slice aoF n3 cF) := HBx15.out.cell (i := 2) rfl
  have lx := HBx15.out.lt
  have cy0 : w15.cell? ⟨w7.heap.size, 0, none⟩ = some (.slice aoS2 m1 cS2) := HBy15.out.cell (i := 0) rfl
  have cy1 : w15.cell? ⟨w7.heap.size, 1, none⟩ = some (.slice aoN2 m2 cN2) := HBy15.out.cell (i := 1) rfl
  have cy2 : w15.cell? ⟨w7.heap.size, 2, none⟩ = some (.slice aoF2 m3 cF2) := HBy15.out.cell (i := 2) rfl
  have ly := HBy15.out.lt
  have cd0 : w15.cell? ⟨w11.heap.size, 0, none⟩ = some (.slice aoSd n1d cSd) := HBd15.out.cell (i := 0) rfl
  have cd1 : w15.cell? ⟨w11.heap.size, 1, none⟩ = some (.slice aoNd n2d cNd) := HBd15.out.cell (i := 1) rfl
  have cd2 : w15.cell? ⟨w11.heap.size, 2, none⟩ = some (.slice aoFd n3d cFd) := HBd15.out.cell (i := 2) rfl
  have ld := HBd15.out.lt
  have cq0 : w15.cell? ⟨w14.heap.size, 0, none⟩ = some (.slice aoSq n1q cSq) := HBqn.out.cell (i := 0) rfl
  have cq1 : w15.cell? ⟨w14.heap.size, 1, none⟩ = some (.slice aoNq n2q cNq) := HBqn.out.cell (i := 1) rfl
  have cq2 : w15.cell? ⟨w14.heap.size, 2, none⟩ = some (.slice aoFq n3q cFq) := HBqn.out.cell (i := 2) rfl
  have lq := HBqn.out.lt
  have ca0 : w15.cell? ⟨w.heap.size, 0, none⟩ = some (.slice aoS n1 cS) := HBa15.out.cell (i := 0) rfl
  have ca1 : w15.cell? ⟨w.heap.size, 1, none⟩ = some (.slice aoN n2 cN) := HBa15.out.cell (i := 1) rfl
  have ca2 : w15.cell? ⟨w.heap.size, 2, none⟩ = some (.slice aoF n3 cF) := HBa15.out.cell (i := 2) rfl
  have la := HBa15.out.lt
  have cb0 : w15.cell? ⟨(w.heap.size + 1), 0, none⟩ = some (.slice aoS2 m1 cS2) := HBb15.out.cell (i := 0) rfl
  have cb1 : w15.cell? ⟨(w.heap.size + 1), 1, none⟩ = some (.slice aoN2 m2 cN2) := HBb15.out.cell (i := 1) rfl
  have cb2 : w15.cell? ⟨(w.heap.size + 1), 2, none⟩ = some (.slice aoF2 m3 cF2) := HBb15.out.cell (i := 2) rfl
  have lb := HBb15.out.lt
  have cx0 : w15.cell? ⟨w5.heap.size, 0, none⟩ = some (.slice aoS n1 cS) := HBx15.out.cell (i := 0) rfl
  have cx1 : w15.cell? ⟨w5.heap.size, 1, none⟩ = some (.slice aoN n2 cN) := HBx15.out.cell (i := 1) rfl
  have cx2 : w15.cell? ⟨w5.heap.size, 2, none⟩ = some (.slice aoF n3 cF) := HBx15.out.cell (i := 2) rfl
  have lx := HBx15.out.lt
  have cy0 : w15.cell? ⟨w7.heap.size, 0, none⟩ = some (.slice aoS2 m1 cS2) := HBy15.out.cell (i := 0) rfl
  have cy1 : w15.cell? ⟨w7.heap.size, 1, none⟩ = some (.slice aoN2 m2 cN2) := HBy15.out.cell (i := 1) rfl
  have cy2 : w15.cell? ⟨w7.heap.size, 2, none⟩ = some (.slice aoF2 m3 cF2) := HBy15.out.cell (i := 2) rfl
  have ly := HBy15.out.lt
  have cd0 : w15.cell? ⟨w11.heap.size, 0, none⟩ = some (.slice aoSd n1d cSd) := HBd15.out.cell (i := 0) rfl
  have cd1 : w15.cell? ⟨w11.heap.size, 1, none⟩ = some (.slice aoNd n2d cNd) := HBd15.out.cell (i := 1) rfl
  have cd2 : w15.cell? ⟨w11.heap.size, 2, none⟩ = some (.slice aoFd n3d cFd) := HBd15.out.cell (i := 2) rfl
  have ld := HBd15.out.lt
  have cq0 : w15.cell? ⟨w14.heap.size, 0, none⟩ = some (.slice aoSq n1q cSq) := HBqn.out.cell (i := 0) rfl
  have cq1 : w15.cell? ⟨w14.heap.size, 1, none⟩ = some (.slice aoNq n2q cNq) := HBqn.out.cell (i := 1) rfl
  have cq2 : w15.cell? ⟨w14.heap.size, 2, none⟩ = some (.slice aoFq n3q cFq) := HBqn.out.cell (i := 2) rfl
  have lq := HBqn.out.lt
  go_upto_region 13 with fail
  go_cut [107] from 81 to 107 (fun u wx => u = .bool false ∧ Hid (Ext w15 wx))
  case first =>
   have hS0 : Ext w15 w15.drew := (Below.refl _ _).drew
   refine wp_region_heldL (fun w' => Ext w15 w') (by kernel_rfl) ?_
   refine wpAnyH_takeN 0 26 (mk 27 1) rfl (by kernel_rfl) rfl (.bool true) (fun _ _ _ h => h) (Or.inl ⟨rfl, fun w' hS => ?_⟩) hS0 (by simp only [Act.put, List.setIfInBounds_toArray, List.set_cons_succ, List.set_cons_zero]; rfl) ?_
   ·go_simp <;> with_reducible rfl
   refine wpAnyH_takeN 1 25 (mk 27 3) rfl (by kernel_rfl) rfl (.int .i64 0) (fun _ _ _ h => h) (Or.inl ⟨rfl, fun w' hS => ?_⟩) hS0 (by simp only [Act.put, List.setIfInBounds_toArray, List.set_cons_succ, List.set_cons_zero]; rfl) ?_
   ·go_simp <;> with_reducible rfl
   refine wpAnyH_takeN 2 24 (mk 27 7) rfl (by kernel_rfl) rfl (.bool true) (fun _ _ _ h => h) (Or.inl ⟨rfl, fun w' hS => ?_⟩) hS0 (by simp only [Act.put, List.setIfInBounds_toArray, List.set_cons_succ, List.set_cons_zero]; rfl) ?_
   ·go_simp <;> with_reducible rfl
   refine wpAnyH_takeN 3 23 (mk 27 15) rfl (by kernel_rfl) rfl (.bool false) (fun _ _ _ h => h) (Or.inl ⟨rfl, fun w' hS => ?_⟩) hS0 (by simp only [Act.put, List.setIfInBounds_toArray, List.set_cons_succ, List.set_cons_zero]; rfl) ?_
   ·go_simp <;> with_reducible rfl
   refine wpAnyH_takeN 4 22 (mk 27 31) rfl (by kernel_rfl) rfl (.bool false) (fun _ _ _ h => h) (Or.inl ⟨rfl, fun w' hS => ?_⟩) hS0 (by simp only [Act.put, List.setIfInBounds_toArray, List.set_cons_succ, List.set_cons_zero]; rfl) ?_
   ·go_simp <;> with_reducible rfl
   refine wpAnyH_takeN 5 21 (mk 27 63) rfl (by kernel_rfl) rfl (.bool true) (fun _ _ _ h => h) (Or.inl ⟨by go_simp, fun w' hS => ?_⟩) hS0 (by simp only [Act.put, List.setIfInBounds_toArray, List.set_cons_succ, List.set_cons_zero]; rfl) ?_
   ·go_simp <;> with_reducible rfl
   refine wpAnyH_takeN 6 20 (mk 27 127) rfl (by kernel_rfl) rfl (.bool true) (fun _ _ _ h => h) (Or.inl ⟨by go_simp, fun w' hS => ?_⟩) hS0 (by simp only [Act.put, List.setIfInBounds_toArray, List.set_cons_succ, List.set_cons_zero]; rfl) ?_
   ·go_simp <;> with_reducible rfl
   refine wpAnyH_takeN 7 19 (mk 27 255) rfl (by kernel_rfl) rfl (.agg #[.slice aoSd n1d cSd, .slice aoNd n2d cNd, .slice aoFd n3d cFd]) (fun _ _ _ h => h) (Or.inl ⟨by go_simp, fun w' hS => ?_⟩) hS0 (by simp only [Act.put, List.setIfInBounds_toArray, List.set_cons_succ, List.set_cons_zero]; rfl) ?_
   ·have d0 : w'.cell? ⟨w11.heap.size, 0, none⟩ = some (.slice aoSd n1d cSd) := (HBd15.out.ext hS).cell (i := 0) rfl
    have d1 : w'.cell? ⟨w11.heap.size, 1, none⟩ = some (.slice aoNd n2d cNd) := (HBd15.out.ext hS).cell (i := 1) rfl
    have d2 : w'.cell? ⟨w11.heap.size, 2, none⟩ = some (.slice aoFd n3d cFd) := (HBd15.out.ext hS).cell (i := 2) rfl
    go_simp <;> with_reducible rfl
   refine wpAnyH_takeN 9 18 (mk 27 767) rfl (by kernel_rfl) rfl (.agg #[.slice aoSq n1q cSq, .slice aoNq n2q cNq, .slice aoFq n3q cFq]) (fun _ _ _ h => h) (Or.inl ⟨by go_simp, fun w' hS => ?_⟩) hS0 (by simp only [Act.put, List.setIfInBounds_toArray, List.set_cons_succ, List.set_cons_zero]; rfl) ?_
   ·have d0 : w'.cell? ⟨w14.heap.size, 0, none⟩ = some (.slice aoSq n1q cSq) := (HBqn.out.ext hS).cell (i := 0) rfl
    have d1 : w'.cell? ⟨w14.heap.size, 1, none⟩ = some (.slice aoNq n2q cNq) := (HBqn.out.ext hS).cell (i := 1) rfl
    have d2 : w'.cell? ⟨w14.heap.size, 2, none⟩ = some (.slice aoFq n3q cFq) := (HBqn.out.ext hS).cell (i := 2) rfl
    go_simp <;> with_reducible rfl
   refine wpAnyH_one 8 17 (mk 27 1023) rfl (by kernel_rfl) rfl ?_
   go_wp2_with fail
   refine (plain8_any _ _ _ _ _ _ _ _ _ _).mono ?_
   rintro e wa ⟨rfl, hx⟩
   have hSwa : Ext w15 wa := hS0.trans (hx.mono hS0.size)
   clear hx
   go_wp2_with fail
   refine ⟨hSwa, ?_⟩
   have HSM : Hid (Calls Tryz.prog 19 #[.agg #[.slice aoSd n1d cSd, .slice aoNd n2d cNd, .slice aoFd n3d cFd], .agg #[.slice aoSq n1q cSq, .slice aoNq n2q cNq, .slice aoFq n3q cFq]] wa fun e w' => e = .returned (.bool true) ∧ Ext wa w') := hid (by
    have hN := HN15.out.ext hSwa
    have W2 := hN.well
    have hLN : LenD (bothD D E i).raw := lenD_of W2.ok (by have := W2.most; omega) (by have : (bothD D E i).syms.length ≤ 1000 := hN.bnd.s; omega) hN.bnd.b
    have h := same_any hN.at_ (HV15.out.ext hSwa) hLN hLN (okD_raw W2.ok) (okD_raw W2.ok)
    rw [sameD_iff.2 rfl] at h
    exact h)
   refine wpAnyH_one 10 16 (mk 27 2047) rfl (by kernel_rfl) rfl ?_
   go_wp2_with fail
   refine (HSM.out).mono ?_
   rintro e wb ⟨rfl, hx⟩
   have hSwb : Ext w15 wb := hSwa.trans (hx.mono hSwa.size)
   clear hx
   go_wp2_with fail
   refine ⟨hSwb, ?_⟩
   refine wpAnyH_one 11 15 (mk 27 4095) rfl (by kernel_rfl) rfl ?_
   go_wp2_with fail
   refine ⟨hSwb, ?_⟩
   refine wpAnyH_one 12 14 (mk 27 8191) rfl (by kernel_rfl) rfl ?_
   go_wp2_with fail
   refine ⟨hSwb, ?_⟩
   refine wpAnyH_one 13 13 (mk 27 16383) rfl (by kernel_rfl) rfl ?_
   go_wp2_with fail
   refine ⟨hSwb, ?_⟩
   refine wpAnyH_one 14 12 (mk 27 32767) rfl (by kernel_rfl) rfl ?_
   go_wp2_with fail
   refine ⟨hSwb, ?_⟩
   refine wpAnyH_one 15 11 (mk 27 65535) rfl (by kernel_rfl) rfl ?_
   go_wp2_with fail
   refine ⟨hSwb, ?_⟩
   refine wpAnyH_one 16 10 (mk 27 131071) rfl (by kernel_rfl) rfl ?_
   go_wp2_with fail
   refine ⟨hSwb, ?_⟩
   refine wpAnyH_one 17 9 (mk 27 262143) rfl (by kernel_rfl) rfl ?_
   go_wp2_with fail
   refine ⟨hSwb, ?_⟩
   refine wpAnyH_takeN 18 8 (mk 27 524287) rfl (by kernel_rfl) rfl undef (fun _ _ _ h => h) (Or.inr ⟨by first | (go_simp; done) | (go_simp; intro h; cases h), rfl⟩) hSwb (by simp only [Act.put, List.setIfInBounds_toArray, List.set_cons_succ, List.set_cons_zero]; rfl) ?_
   refine wpAnyH_takeN 19 7 (mk 27 1048575) rfl (by kernel_rfl) rfl undef (fun _ _ _ h => h) (Or.inr ⟨by first | (go_simp; done) | (go_simp; intro h; cases h), rfl⟩) hSwb (by simp only [Act.put, List.setIfInBounds_toArray, List.set_cons_succ, List.set_cons_zero]; rfl) ?_
   refine wpAnyH_takeN 20 6 (mk 27 2097151) rfl (by kernel_rfl) rfl undef (fun _ _ _ h => h) (Or.inr ⟨by first | (go_simp; done) | (go_simp; intro h; cases h), rfl⟩) hSwb (by simp only [Act.put, List.setIfInBounds_toArray, List.set_cons_succ, List.set_cons_zero]; rfl) ?_
   refine wpAnyH_takeN 21 5 (mk 27 4194303) rfl (by kernel_rfl) rfl undef (fun _ _ _ h => h) (Or.inr ⟨by first | (go_simp; done) | (go_simp; intro h; cases h), rfl⟩) hSwb (by simp only [Act.put, List.setIfInBounds_toArray, List.set_cons_succ, List.set_cons_zero]; rfl) ?_
   refine wpAnyH_takeN 22 4 (mk 27 8388607) rfl (by kernel_rfl) rfl undef (fun _ _ _ h => h) (Or.inr ⟨by first | (go_simp; done) | (go_simp; intro h; cases h), rfl⟩) hSwb (by simp only [Act.put, List.setIfInBounds_toArray, List.set_cons_succ, List.set_cons_zero]; rfl) ?_
   refine wpAnyH_takeN 23 3 (mk 27 16777215) rfl (by kernel_rfl) rfl undef (fun _ _ _ h => h) (Or.inr ⟨by first | (go_simp; done) | (go_simp; intro h; cases h), rfl⟩) hSwb (by simp only [Act.put, List.setIfInBounds_toArray, List.set_cons_succ, List.set_cons_zero]; rfl) ?_
   refine wpAnyH_takeN 24 2 (mk 27 33554431) rfl (by kernel_rfl) rfl undef (fun _ _ _ h => h) (Or.inr ⟨by first | (go_simp; done) | (go_simp; intro h; cases h), rfl⟩) hSwb (by simp only [Act.put, List.setIfInBounds_toArray, List.set_cons_succ, List.set_cons_zero]; rfl) ?_
   refine wpAnyH_takeN 25 1 (mk 27 67108863) rfl (by kernel_rfl) rfl (.bool false) (fun _ _ _ h => h) (Or.inl ⟨by go_simp, fun w' hS => ?_⟩) hSwb (by simp only [Act.put, List.setIfInBounds_toArray, List.set_cons_succ, List.set_cons_zero]; rfl) ?_
   ·go_simp <;> with_reducible rfl
   refine wpAnyH_takeN 26 0 (mk 27 134217727) rfl (by kernel_rfl) rfl (.bool false) (fun _ _ _ h => h) (Or.inl ⟨rfl, fun w' hS => ?_⟩) hSwb (by simp only [Act.put, List.setIfInBounds_toArray, List.set_cons_succ, List.set_cons_zero]; rfl) ?_
   ·go_simp <;> with_reducible rfl
   refine wpAnyH_end (P := Tryz.prog) (by kernel_rfl) ?_
   go_wp2_with fail
   go_meet
   exact ⟨rfl, hid hSwb⟩
  case rest =>
   obtain ⟨rfl, HXc⟩ := hcut
   obtain ⟨wcc, hwc⟩ : ∃ x, x = wc := ⟨_, rfl⟩
   subst hwc
   clear ca0 ca1 ca2 la cb0 cb1 cb2 lb cx0 cx1 cx2 lx cy0 cy1 cy2 ly cd0 cd1 cd2 ld cq0 cq1 cq2 lq
   have HE16 : Hid (Ext w wcc) := hid (HE15.out.trans ((HXc.out).mono HE15.out.size))
   have HBa16 := hid (HBa15.out.ext (HXc.out))
   have HBb16 := hid (HBb15.out.ext (HXc.out))
   have HBx16 := hid (HBx15.out.ext (HXc.out))
   have HBy16 := hid (HBy15.out.ext (HXc.out))
   have HBd16 := hid (HBd15.out.ext (HXc.out))
   have HBq16 := hid (HBqn.out.ext (HXc.out))
   have HD16 := hid (HD15.out.ext (HXc.out))
   have HG16 := hid (HG15.out.ext (HXc.out))
   have HN16 := hid (HN15.out.ext (HXc.out))
   have HR16 := hid (HR15.out.ext (HXc.out))
   have HV16 := hid (HV15.out.ext (HXc.out))
   have ca0 : wcc.cell? ⟨w.heap.size, 0, none⟩ = some (.slice aoS n1 cS) := HBa16.out.cell (i := 0) rfl
   have ca1 : wcc.cell? ⟨w.heap.size, 1, none⟩ = some (.slice aoN n2 cN) := HBa16.out.cell (i := 1) rfl
   have ca2 : wcc.cell? ⟨w.heap.size, 2, none⟩ = some (.slice aoF n3 cF) := HBa16.out.cell (i := 2) rfl
   have la := HBa16.out.lt
   have cb0 : wcc.cell? ⟨(w.heap.size + 1), 0, none⟩ = some (.slice aoS2 m1 cS2) := HBb16.out.cell (i := 0) rfl
   have cb1 : wcc.cell? ⟨(w.heap.size + 1), 1, none⟩ = some (.slice aoN2 m2 cN2) := HBb16.out.cell (i := 1) rfl
   have cb2 : wcc.cell? ⟨(w.heap.size + 1), 2, none⟩ = some (.slice aoF2 m3 cF2) := HBb16.out.cell (i := 2) rfl
   have lb := HBb16.out.lt
   have cx0 : wcc.cell? ⟨w5.heap.size, 0, none⟩ = some (.slice aoS n1 cS) := HBx16.out.cell (i := 0) rfl
   have cx1 : wcc.cell? ⟨w5.heap.size, 1, none⟩ = some (.slice aoN n2 cN) := HBx16.out.cell (i := 1) rfl
   have cx2 : wcc.cell? ⟨w5.heap.size, 2, none⟩ = some (.slice aoF n3 cF) := HBx16.out.cell (i := 2) rfl
   have lx := HBx16.out.lt
   have cy0 : wcc.cell? ⟨w7.heap.size, 0, none⟩ = some (.slice aoS2 m1 cS2) := HBy16.out.cell (i := 0) rfl
   have cy1 : wcc.cell? ⟨w7.heap.size, 1, none⟩ = some (.slice aoN2 m2 cN2) := HBy16.out.cell (i := 1) rfl
   have cy2 : wcc.cell? ⟨w7.heap.size, 2, none⟩ = some (.slice aoF2 m3 cF2) := HBy16.out.cell (i := 2) rfl
   have ly := HBy16.out.lt
   have cd0 : wcc.cell? ⟨w11.heap.size, 0, none⟩ = some (.slice aoSd n1d cSd) := HBd16.out.cell (i := 0) rfl
   have cd1 : wcc.cell? ⟨w11.heap.size, 1, none⟩ = some (.slice aoNd n2d cNd) := HBd16.out.cell (i := 1) rfl
   have cd2 : wcc.cell? ⟨w11.heap.size, 2, none⟩ = some (.slice aoFd n3d cFd) := HBd16.out.cell (i := 2) rfl
   have ld := HBd16.out.lt
   have cq0 : wcc.cell? ⟨w14.heap.size, 0, none⟩ = some (.slice aoSq n1q cSq) := HBq16.out.cell (i := 0) rfl
   have cq1 : wcc.cell? ⟨w14.heap.size, 1, none⟩ = some (.slice aoNq n2q cNq) := HBq16.out.cell (i := 1) rfl
   have cq2 : wcc.cell? ⟨w14.heap.size, 2, none⟩ = some (.slice aoFq n3q cFq) := HBq16.out.cell (i := 2) rfl
   have lq := HBq16.out.lt
   go_wp2_with fail
   refine (rfirst_any HD16.out (side_dfa HG16.out)).mono ?_
   intro e w16 hq
   obtain ⟨v7, rfl, hR7, hx⟩ := first2_some HWD.out HU1.out HU2.out HU3.out HU4.out hq
   clear hq
   obtain ⟨ao7, c7, rfl, -⟩ := hR7.form
   have HS0 := hid hR7
   rw [← HL5.out] at HS0 ⊢
   clear hR7
   clear ca0 ca1 ca2 la cb0 cb1 cb2 lb cx0 cx1 cx2 lx cy0 cy1 cy2 ly cd0 cd1 cd2 ld cq0 cq1 cq2 lq
   have HE17 : Hid (Ext w w16) := hid (HE16.out.trans ((hx).mono HE16.out.size))
   have HBa17 := hid (HBa16.out.ext (hx))
   have HBb17 := hid (HBb16.out.ext (hx))
   have HBx17 := hid (HBx16.out.ext (hx))
   have HBy17 := hid (HBy16.out.ext (hx))
   have HBd17 := hid (HBd16.out.ext (hx))
   have HBq17 := hid (HBq16.out.ext (hx))
   have HD17 := hid (HD16.out.ext (hx))
   have HG17 := hid (HG16.out.ext (hx))
   have HN17 := hid (HN16.out.ext (hx))
   have HR17 := hid (HR16.out.ext (hx))
   have HV17 := hid (HV16.out.ext (hx))
   clear hx
   have ca0 : w16.cell? ⟨w.heap.size, 0, none⟩ = some (.slice aoS n1 cS) := HBa17.out.cell (i := 0) rfl
   have ca1 : w16.cell? ⟨w.heap.size, 1, none⟩ = some (.slice aoN n2 cN) := HBa17.out.cell (i := 1) rfl
   have ca2 : w16.cell? ⟨w.heap.size, 2, none⟩ = some (.slice aoF n3 cF) := HBa17.out.cell (i := 2) rfl
   have la := HBa17.out.lt
   have cb0 : w16.cell? ⟨(w.heap.size + 1), 0, none⟩ = some (.slice aoS2 m1 cS2) := HBb17.out.cell (i := 0) rfl
   have cb1 : w16.cell? ⟨(w.heap.size + 1), 1, none⟩ = some (.slice aoN2 m2 cN2) := HBb17.out.cell (i := 1) rfl
   have cb2 : w16.cell? ⟨(w.heap.size + 1), 2, none⟩ = some (.slice aoF2 m3 cF2) := HBb17.out.cell (i := 2) rfl
   have lb := HBb17.out.lt
   have cx0 : w16.cell? ⟨w5.heap.size, 0, none⟩ = some (.slice aoS n1 cS) := HBx17.out.cell (i := 0) rfl
   have cx1 : w16.cell? ⟨w5.heap.size, 1, none⟩ = some (.slice aoN n2 cN) := HBx17.out.cell (i := 1) rfl
   have cx2 : w16.cell? ⟨w5.heap.size, 2, none⟩ = some (.slice aoF n3 cF) := HBx17.out.cell (i := 2) rfl
   have lx := HBx17.out.lt
   have cy0 : w16.cell? ⟨w7.heap.size, 0, none⟩ = some (.slice aoS2 m1 cS2) := HBy17.out.cell (i := 0) rfl
   have cy1 : w16.cell? ⟨w7.heap.size, 1, none⟩ = some (.slice aoN2 m2 cN2) := HBy17.out.cell (i := 1) rfl
   have cy2 : w16.cell? ⟨w7.heap.size, 2, none⟩ = some (.slice aoF2 m3 cF2) := HBy17.out.cell (i := 2) rfl
   have ly := HBy17.out.lt
   have cd0 : w16.cell? ⟨w11.heap.size, 0, none⟩ = some (.slice aoSd n1d cSd) := HBd17.out.cell (i := 0) rfl
   have cd1 : w16.cell? ⟨w11.heap.size, 1, none⟩ = some (.slice aoNd n2d cNd) := HBd17.out.cell (i := 1) rfl
   have cd2 : w16.cell? ⟨w11.heap.size, 2, none⟩ = some (.slice aoFd n3d cFd) := HBd17.out.cell (i := 2) rfl
   have ld := HBd17.out.lt
   have cq0 : w16.cell? ⟨w14.heap.size, 0, none⟩ = some (.slice aoSq n1q cSq) := HBq17.out.cell (i := 0) rfl
   have cq1 : w16.cell? ⟨w14.heap.size, 1, none⟩ = some (.slice aoNq n2q cNq) := HBq17.out.cell (i := 1) rfl
   have cq2 : w16.cell? ⟨w14.heap.size, 2, none⟩ = some (.slice aoFq n3q cFq) := HBq17.out.cell (i := 2) rfl
   have lq := HBq17.out.lt
   go_wp2_with fail
   have HTX := hid (texts_rd (us := wordsOf D.syms u) (vs := wordsOf D.syms u) (v1 := .slice ao5 l5 c5) (v2 := .slice ao7 l5 c7) HR17.out HS0.out HMU.out HMU.out)
   rw [decide_eq_true rfl] at HTX
   refine (HTX.out).mono ?_
   rintro e w17 ⟨rfl, hx⟩
   clear ca0 ca1 ca2 la cb0 cb1 cb2 lb cx0 cx1 cx2 lx cy0 cy1 cy2 ly cd0 cd1 cd2 ld cq0 cq1 cq2 lq
   have HE18 : Hid (Ext w w17) := hid (HE17.out.trans ((hx).mono HE17.out.size))
   have HBa18 := hid (HBa17.out.ext (hx))
   have HBb18 := hid (HBb17.out.ext (hx))
   have HBx18 := hid (HBx17.out.ext (hx))
   have HBy18 := hid (HBy17.out.ext (hx))
   have HBd18 := hid (HBd17.out.ext (hx))
   have HBq18 := hid (HBq17.out.ext (hx))
   have HD18 := hid (HD17.out.ext (hx))
   have HG18 := hid (HG17.out.ext (hx))
   have HN18 := hid (HN17.out.ext (hx))
   have HR18 := hid (HR17.out.ext (hx))
   have HV18 := hid (HV17.out.ext (hx))
   have HS718 := hid (HS0.out.ext (hx))
   clear hx
   have ca0 : w17.cell? ⟨w.heap.size, 0, none⟩ = some (.slice aoS n1 cS) := HBa18.out.cell (i := 0) rfl
   have ca1 : w17.cell? ⟨w.heap.size, 1, none⟩ = some (.slice aoN n2 cN) := HBa18.out.cell (i := 1) rfl
   have ca2 : w17.cell? ⟨w.heap.size, 2, none⟩ = some (.slice aoF n3 cF) := HBa18.out.cell (i := 2) rfl
   have la := HBa18.out.lt
   have cb0 : w17.cell? ⟨(w.heap.size + 1), 0, none⟩ = some (.slice aoS2 m1 cS2) := HBb18.out.cell (i := 0) rfl
   have cb1 : w17.cell? ⟨(w.heap.size + 1), 1, none⟩ = some (.slice aoN2 m2 cN2) := HBb18.out.cell (i := 1) rfl
   have cb2 : w17.cell? ⟨(w.heap.size + 1), 2, none⟩ = some (.slice aoF2 m3 cF2) := HBb18.out.cell (i := 2) rfl
   have lb := HBb18.out.lt
   have cx0 : w17.cell? ⟨w5.heap.size, 0, none⟩ = some (.slice aoS n1 cS) := HBx18.out.cell (i := 0) rfl
   have cx1 : w17.cell? ⟨w5.heap.size, 1, none⟩ = some (.slice aoN n2 cN) := HBx18.out.cell (i := 1) rfl
   have cx2 : w17.cell? ⟨w5.heap.size, 2, none⟩ = some (.slice aoF n3 cF) := HBx18.out.cell (i := 2) rfl
   have lx := HBx18.out.lt
   have cy0 : w17.cell? ⟨w7.heap.size, 0, none⟩ = some (.slice aoS2 m1 cS2) := HBy18.out.cell (i := 0) rfl
   have cy1 : w17.cell? ⟨w7.heap.size, 1, none⟩ = some (.slice aoN2 m2 cN2) := HBy18.out.cell (i := 1) rfl
   have cy2 : w17.cell? ⟨w7.heap.size, 2, none⟩ = some (.slice aoF2 m3 cF2) := HBy18.out.cell (i := 2) rfl
   have ly := HBy18.out.lt
   have cd0 : w17.cell? ⟨w11.heap.size, 0, none⟩ = some (.slice aoSd n1d cSd) := HBd18.out.cell (i := 0) rfl
   have cd1 : w17.cell? ⟨w11.heap.size, 1, none⟩ = some (.slice aoNd n2d cNd) := HBd18.out.cell (i := 1) rfl
   have cd2 : w17.cell? ⟨w11.heap.size, 2, none⟩ = some (.slice aoFd n3d cFd) := HBd18.out.cell (i := 2) rfl
   have ld := HBd18.out.lt
   have cq0 : w17.cell? ⟨w14.heap.size, 0, none⟩ = some (.slice aoSq n1q cSq) := HBq18.out.cell (i := 0) rfl
   have cq1 : w17.cell? ⟨w14.heap.size, 1, none⟩ = some (.slice aoNq n2q cNq) := HBq18.out.cell (i := 1) rfl
   have cq2 : w17.cell? ⟨w14.heap.size, 2, none⟩ = some (.slice aoFq n3q cFq) := HBq18.out.cell (i := 2) rfl
   have lq := HBq18.out.lt
   go_wp2_with fail
   refine (awake8_any (HT.out.ext HE18.out)).mono ?_
   rintro e w18 ⟨rfl, hx⟩
   clear ca0 ca1 ca2 la cb0 cb1 cb2 lb cx0 cx1 cx2 lx cy0 cy1 cy2 ly cd0 cd1 cd2 ld cq0 cq1 cq2 lq
   have HE19 : Hid (Ext w w18) := hid (HE18.out.trans ((hx).mono HE18.out.size))
   have HBa19 := hid (HBa18.out.ext (hx))
   have HBb19 := hid (HBb18.out.ext (hx))
   have HBx19 := hid (HBx18.out.ext (hx))
   have HBy19 := hid (HBy18.out.ext (hx))
   have HBd19 := hid (HBd18.out.ext (hx))
   have HBq19 := hid (HBq18.out.ext (hx))
   have HD19 := hid (HD18.out.ext (hx))
   have HG19 := hid (HG18.out.ext (hx))
   have HN19 := hid (HN18.out.ext (hx))
   have HR19 := hid (HR18.out.ext (hx))
   have HV19 := hid (HV18.out.ext (hx))
   have HS719 := hid (HS718.out.ext (hx))
   clear hx
   have ca0 : w18.cell? ⟨w.heap.size, 0, none⟩ = some (.slice aoS n1 cS) := HBa19.out.cell (i := 0) rfl
   have ca1 : w18.cell? ⟨w.heap.size, 1, none⟩ = some (.slice aoN n2 cN) := HBa19.out.cell (i := 1) rfl
   have ca2 : w18.cell? ⟨w.heap.size, 2, none⟩ = some (.slice aoF n3 cF) := HBa19.out.cell (i := 2) rfl
   have la := HBa19.out.lt
   have cb0 : w18.cell? ⟨(w.heap.size + 1), 0, none⟩ = some (.slice aoS2 m1 cS2) := HBb19.out.cell (i := 0) rfl
   have cb1 : w18.cell? ⟨(w.heap.size + 1), 1, none⟩ = some (.slice aoN2 m2 cN2) := HBb19.out.cell (i := 1) rfl
   have cb2 : w18.cell? ⟨(w.heap.size + 1), 2, none⟩ = some (.slice aoF2 m3 cF2) := HBb19.out.cell (i := 2) rfl
   have lb := HBb19.out.lt
   have cx0 : w18.cell? ⟨w5.heap.size, 0, none⟩ = some (.slice aoS n1 cS) := HBx19.out.cell (i := 0) rfl
   have cx1 : w18.cell? ⟨w5.heap.size, 1, none⟩ = some (.slice aoN n2 cN) := HBx19.out.cell (i := 1) rfl
   have cx2 : w18.cell? ⟨w5.heap.size, 2, none⟩ = some (.slice aoF n3 cF) := HBx19.out.cell (i := 2) rfl
   have lx := HBx19.out.lt
   have cy0 : w18.cell? ⟨w7.heap.size, 0, none⟩ = some (.slice aoS2 m1 cS2) := HBy19.out.cell (i := 0) rfl
   have cy1 : w18.cell? ⟨w7.heap.size, 1, none⟩ = some (.slice aoN2 m2 cN2) := HBy19.out.cell (i := 1) rfl
   have cy2 : w18.cell? ⟨w7.heap.size, 2, none⟩ = some (.slice aoF2 m3 cF2) := HBy19.out.cell (i := 2) rfl
   have ly := HBy19.out.lt
   have cd0 : w18.cell? ⟨w11.heap.size, 0, none⟩ = some (.slice aoSd n1d cSd) := HBd19.out.cell (i := 0) rfl
   have cd1 : w18.cell? ⟨w11.heap.size, 1, none⟩ = some (.slice aoNd n2d cNd) := HBd19.out.cell (i := 1) rfl
   have cd2 : w18.cell? ⟨w11.heap.size, 2, none⟩ = some (.slice aoFd n3d cFd) := HBd19.out.cell (i := 2) rfl
   have ld := HBd19.out.lt
   have cq0 : w18.cell? ⟨w14.heap.size, 0, none⟩ = some (.slice aoSq n1q cSq) := HBq19.out.cell (i := 0) rfl
   have cq1 : w18.cell? ⟨w14.heap.size, 1, none⟩ = some (.slice aoNq n2q cNq) := HBq19.out.cell (i := 1) rfl
   have cq2 : w18.cell? ⟨w14.heap.size, 2, none⟩ = some (.slice aoFq n3q cFq) := HBq19.out.cell (i := 2) rfl
   have lq := HBq19.out.lt
   go_wp2_with fail
   go_ret
   exact ⟨rfl, HE19.out⟩
 ·clear ca0 ca1 ca2 la cb0 cb1 cb2 lb cx0 cx1 cx2 lx cy0 cy1 cy2 ly cd0 cd1 cd2 ld
  have HE13 : Hid (Ext w w13) := hid (HE12.out.trans ((hx).mono HE12.out.size))
  have HBa13 := hid (HBa12.out.ext (hx))
  have HBb13 := hid (HBb12.out.ext (hx))
  have HBx13 := hid (HBx12.out.ext (hx))
  have HBy13 := hid (HBy12.out.ext (hx))
  have HBd13 := hid (HBdn.out.ext (hx))
  have HD13 := hid (HD12.out.ext (hx))
  have HG13 := hid (HG12.out.ext (hx))
  have HN13 := hid (HN12.out.ext (hx))
  clear hx
  have HNO := hid hno
  clear hno
  have ca0 : w13.cell? ⟨w.heap.size, 0, none⟩ = some (.slice aoS n1 cS) := HBa13.out.cell (i := 0) rfl
  have ca1 : w13.cell? ⟨w.heap.size, 1, none⟩ = some (.slice aoN n2 cN) := HBa13.out.cell (i := 1) rfl
  have ca2 : w13.cell? ⟨w.heap.size, 2, none⟩ = some (.slice aoF n3 cF) := HBa13.out.cell (i := 2) rfl
  have la := HBa13.out.lt
  have cb0 : w13.cell? ⟨(w.heap.size + 1), 0, none⟩ = some (.slice aoS2 m1 cS2) := HBb13.out.cell (i := 0) rfl
  have cb1 : w13.cell? ⟨(w.heap.size + 1), 1, none⟩ = some (.slice aoN2 m2 cN2) := HBb13.out.cell (i := 1) rfl
  have cb2 : w13.cell? ⟨(w.heap.size + 1), 2, none⟩ = some (.slice aoF2 m3 cF2) := HBb13.out.cell (i := 2) rfl
  have lb := HBb13.out.lt
  have cx0 : w13.cell? ⟨w5.heap.size, 0, none⟩ = some (.slice aoS n1 cS) := HBx13.out.cell (i := 0) rfl
  have cx1 : w13.cell? ⟨w5.heap.size, 1, none⟩ = some (.slice aoN n2 cN) := HBx13.out.cell (i := 1) rfl
  have cx2 : w13.cell? ⟨w5.heap.size, 2, none⟩ = some (.slice aoF n3 cF) := HBx13.out.cell (i := 2) rfl
  have lx := HBx13.out.lt
  have cy0 : w13.cell? ⟨w7.heap.size, 0, none⟩ = some (.slice aoS2 m1 cS2) := HBy13.out.cell (i := 0) rfl
  have cy1 : w13.cell? ⟨w7.heap.size, 1, none⟩ = some (.slice aoN2 m2 cN2) := HBy13.out.cell (i := 1) rfl
  have cy2 : w13.cell? ⟨w7.heap.size, 2, none⟩ = some (.slice aoF2 m3 cF2) := HBy13.out.cell (i := 2) rfl
  have ly := HBy13.out.lt
  have cd0 : w13.cell? ⟨w11.heap.size, 0, none⟩ = some (.slice aoSd n1d cSd) := HBd13.out.cell (i := 0) rfl
  have cd1 : w13.cell? ⟨w11.heap.size, 1, none⟩ = some (.slice aoNd n2d cNd) := HBd13.out.cell (i := 1) rfl
  have cd2 : w13.cell? ⟨w11.heap.size, 2, none⟩ = some (.slice aoFd n3d cFd) := HBd13.out.cell (i := 2) rfl
  have ld := HBd13.out.lt
  go_wp2_with fail
  refine (rboth_small HD13.out HG13.out HCS.out HS.out HS2.out).mono ?_
  rintro e w14 ⟨hx, i2, aoSq, n1q, cSq, aoNq, n2q, cNq, aoFq, n3q, cFq, hf2, rfl, hv2⟩
  clear ca0 ca1 ca2 la cb0 cb1 cb2 lb cx0 cx1 cx2 lx cy0 cy1 cy2 ly cd0 cd1 cd2 ld
  have HE14 : Hid (Ext w w14) := hid (HE13.out.trans ((hx).mono HE13.out.size))
  have HBa14 := hid (HBa13.out.ext (hx))
  have HBb14 := hid (HBb13.out.ext (hx))
  have HBx14 := hid (HBx13.out.ext (hx))
  have HBy14 := hid (HBy13.out.ext (hx))
  have HBd14 := hid (HBd13.out.ext (hx))
  have HD14 := hid (HD13.out.ext (hx))
  have HG14 := hid (HG13.out.ext (hx))
  have HN14 := hid (HN13.out.ext (hx))
  obtain rfl : i = i2 := full_unique HF.out hf2
  have HV0 := hid hv2
  clear hx hf2 hv2
  have ca0 : w14.cell? ⟨w.heap.size, 0, none⟩ = some (.slice aoS n1 cS) := HBa14.out.cell (i := 0) rfl
  have ca1 : w14.cell? ⟨w.heap.size, 1, none⟩ = some (.slice aoN n2 cN) := HBa14.out.cell (i := 1) rfl
  have ca2 : w14.cell? ⟨w.heap.size, 2, none⟩ = some (.slice aoF n3 cF) := HBa14.out.cell (i := 2) rfl
  have la := HBa14.out.lt
  have cb0 : w14.cell? ⟨(w.heap.size + 1), 0, none⟩ = some (.slice aoS2 m1 cS2) := HBb14.out.cell (i := 0) rfl
  have cb1 : w14.cell? ⟨(w.heap.size + 1), 1, none⟩ = some (.slice aoN2 m2 cN2) := HBb14.out.cell (i := 1) rfl
  have cb2 : w14.cell? ⟨(w.heap.size + 1), 2, none⟩ = some (.slice aoF2 m3 cF2) := HBb14.out.cell (i := 2) rfl
  have lb := HBb14.out.lt
  have cx0 : w14.cell? ⟨w5.heap.size, 0, none⟩ = some (.slice aoS n1 cS) := HBx14.out.cell (i := 0) rfl
  have cx1 : w14.cell? ⟨w5.heap.size, 1, none⟩ = some (.slice aoN n2 cN) := HBx14.out.cell (i := 1) rfl
  have cx2 : w14.cell? ⟨w5.heap.size, 2, none⟩ = some (.slice aoF n3 cF) := HBx14.out.cell (i := 2) rfl
  have lx := HBx14.out.lt
  have cy0 : w14.cell? ⟨w7.heap.size, 0, none⟩ = some (.slice aoS2 m1 cS2) := HBy14.out.cell (i := 0) rfl
  have cy1 : w14.cell? ⟨w7.heap.size, 1, none⟩ = some (.slice aoN2 m2 cN2) := HBy14.out.cell (i := 1) rfl
  have cy2 : w14.cell? ⟨w7.heap.size, 2, none⟩ = some (.slice aoF2 m3 cF2) := HBy14.out.cell (i := 2) rfl
  have ly := HBy14.out.lt
  have cd0 : w14.cell? ⟨w11.heap.size, 0, none⟩ = some (.slice aoSd n1d cSd) := HBd14.out.cell (i := 0) rfl
  have cd1 : w14.cell? ⟨w11.heap.size, 1, none⟩ = some (.slice aoNd n2d cNd) := HBd14.out.cell (i := 1) rfl
  have cd2 : w14.cell? ⟨w11.heap.size, 2, none⟩ = some (.slice aoFd n3d cFd) := HBd14.out.cell (i := 2) rfl
  have ld := HBd14.out.lt
  go_wp2_with fail
  obtain ⟨w15, hw15⟩ : ∃ u, u = w14.alloc (.cells #[.slice aoSq n1q cSq, .slice aoNq n2q cNq, .slice aoFq n3q cFq] 40) := ⟨_, rfl⟩
  have ew15 : Ext w14 w15 := hw15 ▸ (Below.refl _ _).alloc (Nat.le_refl _) _
  have HBqn : Hid (Blk w15 w14.heap.size 40 #[.slice aoSq n1q cSq, .slice aoNq n2q cNq, .slice aoFq n3q cFq]) := hid (hw15 ▸ Blk.new _ _ _)
  have HWw15 := hid hw15
  clear ca0 ca1 ca2 la cb0 cb1 cb2 lb cx0 cx1 cx2 lx cy0 cy1 cy2 ly cd0 cd1 cd2 ld
  have HE15 : Hid (Ext w w15) := hid (HE14.out.trans ((ew15).mono HE14.out.size))
  have HBa15 := hid (HBa14.out.ext (ew15))
  have HBb15 := hid (HBb14.out.ext (ew15))
  have HBx15 := hid (HBx14.out.ext (ew15))
  have HBy15 := hid (HBy14.out.ext (ew15))
  have HBd15 := hid (HBd14.out.ext (ew15))
  have HD15 := hid (HD14.out.ext (ew15))
  have HG15 := hid (HG14.out.ext (ew15))
  have HN15 := hid (HN14.out.ext (ew15))
  have HV15 := hid (HV0.out.ext (ew15))
  clear ew15 hw15
  rw [← HWw15.out]
  have ca0 : w15.cell? ⟨w.heap.size, 0, none⟩ = some (.slice aoS n1 cS) := HBa15.out.cell (i := 0) rfl
  have ca1 : w15.cell? ⟨w.heap.size, 1, none⟩ = some (.slice aoN n2 cN) := HBa15.out.cell (i := 1) rfl
  have ca2 : w15.cell? ⟨w.heap.size, 2, none⟩ = some (.slice aoF n3 cF) := HBa15.out.cell (i := 2) rfl
  have la := HBa15.out.lt
  have cb0 : w15.cell? ⟨(w.heap.size + 1), 0, none⟩ = some (.slice aoS2 m1 cS2) := HBb15.out.cell (i := 0) rfl
  have cb1 : w15.cell? ⟨(w.heap.size + 1), 1, none⟩ = some (.slice aoN2 m2 cN2) := HBb15.out.cell (i := 1) rfl
  have cb2 : w15.cell? ⟨(w.heap.size + 1), 2, none⟩ = some (.slice aoF2 m3 cF2) := HBb15.out.cell (i := 2) rfl
  have lb := HBb15.out.lt
  have cx0 : w15.cell? ⟨w5.heap.size, 0, none⟩ = some (.slice aoS n1 cS) := HBx15.out.cell (i := 0) rfl
  have cx1 : w15.cell? ⟨w5.heap.size, 1, none⟩ = some (.slice aoN n2 cN) := HBx15.out.cell (i := 1) rfl
  have cx2 : w15.cell? ⟨w5.heap.size, 2, none⟩ = some (.slice aoF n3 cF) := HBx15.out.cell (i := 2) rfl
  have lx := HBx15.out.lt
  have cy0 : w15.cell? ⟨w7.heap.size, 0, none⟩ = some (.slice aoS2 m1 cS2) := HBy15.out.cell (i := 0) rfl
  have cy1 : w15.cell? ⟨w7.heap.size, 1, none⟩ = some (.slice aoN2 m2 cN2) := HBy15.out.cell (i := 1) rfl
  have cy2 : w15.cell? ⟨w7.heap.size, 2, none⟩ = some (.slice aoF2 m3 cF2) := HBy15.out.cell (i := 2) rfl
  have ly := HBy15.out.lt
  have cd0 : w15.cell? ⟨w11.heap.size, 0, none⟩ = some (.slice aoSd n1d cSd) := HBd15.out.cell (i := 0) rfl
  have cd1 : w15.cell? ⟨w11.heap.size, 1, none⟩ = some (.slice aoNd n2d cNd) := HBd15.out.cell (i := 1) rfl
  have cd2 : w15.cell? ⟨w11.heap.size, 2, none⟩ = some (.slice aoFd n3d cFd) := HBd15.out.cell (i := 2) rfl
  have ld := HBd15.out.lt
  have cq0 : w15.cell? ⟨w14.heap.size, 0, none⟩ = some (.slice aoSq n1q cSq) := HBqn.out.cell (i := 0) rfl
  have cq1 : w15.cell? ⟨w14.heap.size, 1, none⟩ = some (.slice aoNq n2q cNq) := HBqn.out.cell (i := 1) rfl
  have cq2 : w15.cell? ⟨w14.heap.size, 2, none⟩ = some (.slice aoFq n3q cFq) := HBqn.out.cell (i := 2) rfl
  have lq := HBqn.out.lt
  have ca0 : w15.cell? ⟨w.heap.size, 0, none⟩ = some (.slice aoS n1 cS) := HBa15.out.cell (i := 0) rfl
  have ca1 : w15.cell? ⟨w.heap.size, 1, none⟩ = some (.slice aoN n2 cN) := HBa15.out.cell (i := 1) rfl
  have ca2 : w15.cell? ⟨w.heap.size, 2, none⟩ = some (.slice aoF n3 cF) := HBa15.out.cell (i := 2) rfl
  have la := HBa15.out.lt
  have cb0 : w15.cell? ⟨(w.heap.size + 1), 0, none⟩ = some (.slice aoS2 m1 cS2) := HBb15.out.cell (i := 0) rfl
  have cb1 : w15.cell? ⟨(w.heap.size + 1), 1, none⟩ = some (.slice aoN2 m2 cN2) := HBb15.out.cell (i := 1) rfl
  have cb2 : w15.cell? ⟨(w.heap.size + 1), 2, none⟩ = some (.slice aoF2 m3 cF2) := HBb15.out.cell (i := 2) rfl
  have lb := HBb15.out.lt
  have cx0 : w15.cell? ⟨w5.heap.size, 0, none⟩ = some (.slice aoS n1 cS) := HBx15.out.cell (i := 0) rfl
  have cx1 : w15.cell? ⟨w5.heap.size, 1, none⟩ = some (.slice aoN n2 cN) := HBx15.out.cell (i := 1) rfl
  have cx2 : w15.cell? ⟨w5.heap.size, 2, none⟩ = some (.slice aoF n3 cF) := HBx15.out.cell (i := 2) rfl
  have lx := HBx15.out.lt
  have cy0 : w15.cell? ⟨w7.heap.size, 0, none⟩ = some (.slice aoS2 m1 cS2) := HBy15.out.cell (i := 0) rfl
  have cy1 : w15.cell? ⟨w7.heap.size, 1, none⟩ = some (.slice aoN2 m2 cN2) := HBy15.out.cell (i := 1) rfl
  have cy2 : w15.cell? ⟨w7.heap.size, 2, none⟩ = some (.slice aoF2 m3 cF2) := HBy15.out.cell (i := 2) rfl
  have ly := HBy15.out.lt
  have cd0 : w15.cell? ⟨w11.heap.size, 0, none⟩ = some (.slice aoSd n1d cSd) := HBd15.out.cell (i := 0) rfl
  have cd1 : w15.cell? ⟨w11.heap.size, 1, none⟩ = some (.slice aoNd n2d cNd) := HBd15.out.cell (i := 1) rfl
  have cd2 : w15.cell? ⟨w11.heap.size, 2, none⟩ = some (.slice aoFd n3d cFd) := HBd15.out.cell (i := 2) rfl
  have ld := HBd15.out.lt
  have cq0 : w15.cell? ⟨w14.heap.size, 0, none⟩ = some (.slice aoSq n1q cSq) := HBqn.out.cell (i := 0) rfl
  have cq1 : w15.cell? ⟨w14.heap.size, 1, none⟩ = some (.slice aoNq n2q cNq) := HBqn.out.cell (i := 1) rfl
  have cq2 : w15.cell? ⟨w14.heap.size, 2, none⟩ = some (.slice aoFq n3q cFq) := HBqn.out.cell (i := 2) rfl
  have lq := HBqn.out.lt
  go_upto_region 13 with fail
  go_cut [107] from 81 to 107 (fun u wx => u = .bool false ∧ Hid (Ext w15 wx))
  case first =>
   have hS0 : Ext w15 w15.drew := (Below.refl _ _).drew
   refine wp_region_heldL (fun w' => Ext w15 w') (by kernel_rfl) ?_
   refine wpAnyH_takeN 0 26 (mk 27 1) rfl (by kernel_rfl) rfl (.bool true) (fun _ _ _ h => h) (Or.inl ⟨rfl, fun w' hS => ?_⟩) hS0 (by simp only [Act.put, List.setIfInBounds_toArray, List.set_cons_succ, List.set_cons_zero]; rfl) ?_
   ·go_simp <;> with_reducible rfl
   refine wpAnyH_takeN 1 25 (mk 27 3) rfl (by kernel_rfl) rfl (.int .i64 0) (fun _ _ _ h => h) (Or.inl ⟨rfl, fun w' hS => ?_⟩) hS0 (by simp only [Act.put, List.setIfInBounds_toArray, List.set_cons_succ, List.set_cons_zero]; rfl) ?_
   ·go_simp <;> with_reducible rfl
   refine wpAnyH_takeN 2 24 (mk 27 7) rfl (by kernel_rfl) rfl (.bool true) (fun _ _ _ h => h) (Or.inl ⟨rfl, fun w' hS => ?_⟩) hS0 (by simp only [Act.put, List.setIfInBounds_toArray, List.set_cons_succ, List.set_cons_zero]; rfl) ?_
   ·go_simp <;> with_reducible rfl
   refine wpAnyH_takeN 3 23 (mk 27 15) rfl (by kernel_rfl) rfl (.bool false) (fun _ _ _ h => h) (Or.inl ⟨rfl, fun w' hS => ?_⟩) hS0 (by simp only [Act.put, List.setIfInBounds_toArray, List.set_cons_succ, List.set_cons_zero]; rfl) ?_
   ·go_simp <;> with_reducible rfl
   refine wpAnyH_takeN 4 22 (mk 27 31) rfl (by kernel_rfl) rfl (.bool false) (fun _ _ _ h => h) (Or.inl ⟨rfl, fun w' hS => ?_⟩) hS0 (by simp only [Act.put, List.setIfInBounds_toArray, List.set_cons_succ, List.set_cons_zero]; rfl) ?_
   ·go_simp <;> with_reducible rfl
   refine wpAnyH_takeN 5 21 (mk 27 63) rfl (by kernel_rfl) rfl (.bool true) (fun _ _ _ h => h) (Or.inl ⟨by go_simp, fun w' hS => ?_⟩) hS0 (by simp only [Act.put, List.setIfInBounds_toArray, List.set_cons_succ, List.set_cons_zero]; rfl) ?_
   ·go_simp <;> with_reducible rfl
   refine wpAnyH_takeN 6 20 (mk 27 127) rfl (by kernel_rfl) rfl (.bool true) (fun _ _ _ h => h) (Or.inl ⟨by go_simp, fun w' hS => ?_⟩) hS0 (by simp only [Act.put, List.setIfInBounds_toArray, List.set_cons_succ, List.set_cons_zero]; rfl) ?_
   ·go_simp <;> with_reducible rfl
   refine wpAnyH_takeN 7 19 (mk 27 255) rfl (by kernel_rfl) rfl (.agg #[.slice aoSd n1d cSd, .slice aoNd n2d cNd, .slice aoFd n3d cFd]) (fun _ _ _ h => h) (Or.inl ⟨by go_simp, fun w' hS => ?_⟩) hS0 (by simp only [Act.put, List.setIfInBounds_toArray, List.set_cons_succ, List.set_cons_zero]; rfl) ?_
   ·have d0 : w'.cell? ⟨w11.heap.size, 0, none⟩ = some (.slice aoSd n1d cSd) := (HBd15.out.ext hS).cell (i := 0) rfl
    have d1 : w'.cell? ⟨w11.heap.size, 1, none⟩ = some (.slice aoNd n2d cNd) := (HBd15.out.ext hS).cell (i := 1) rfl
    have d2 : w'.cell? ⟨w11.heap.size, 2, none⟩ = some (.slice aoFd n3d cFd) := (HBd15.out.ext hS).cell (i := 2) rfl
    go_simp <;> with_reducible rfl
   refine wpAnyH_takeN 9 18 (mk 27 767) rfl (by kernel_rfl) rfl (.agg #[.slice aoSq n1q cSq, .slice aoNq n2q cNq, .slice aoFq n3q cFq]) (fun _ _ _ h => h) (Or.inl ⟨by go_simp, fun w' hS => ?_⟩) hS0 (by simp only [Act.put, List.setIfInBounds_toArray, List.set_cons_succ, List.set_cons_zero]; rfl) ?_
   ·have d0 : w'.cell? ⟨w14.heap.size, 0, none⟩ = some (.slice aoSq n1q cSq) := (HBqn.out.ext hS).cell (i := 0) rfl
    have d1 : w'.cell? ⟨w14.heap.size, 1, none⟩ = some (.slice aoNq n2q cNq) := (HBqn.out.ext hS).cell (i := 1) rfl
    have d2 : w'.cell? ⟨w14.heap.size, 2, none⟩ = some (.slice aoFq n3q cFq) := (HBqn.out.ext hS).cell (i := 2) rfl
    go_simp <;> with_reducible rfl
   refine wpAnyH_one 8 17 (mk 27 1023) rfl (by kernel_rfl) rfl ?_
   go_wp2_with fail
   refine (plain8_any _ _ _ _ _ _ _ _ _ _).mono ?_
   rintro e wa ⟨rfl, hx⟩
   have hSwa : Ext w15 wa := hS0.trans (hx.mono hS0.size)
   clear hx
   go_wp2_with fail
   refine ⟨hSwa, ?_⟩
   have HSM : Hid (Calls Tryz.prog 19 #[.agg #[.slice aoSd n1d cSd, .slice aoNd n2d cNd, .slice aoFd n3d cFd], .agg #[.slice aoSq n1q cSq, .slice aoNq n2q cNq, .slice aoFq n3q cFq]] wa fun e w' => e = .returned (.bool true) ∧ Ext wa w') := hid (by
    have hN := HN15.out.ext hSwa
    have W2 := hN.well
    have hLN : LenD (bothD D E i).raw := lenD_of W2.ok (by have := W2.most; omega) (by have : (bothD D E i).syms.length ≤ 1000 := hN.bnd.s; omega) hN.bnd.b
    have h := same_any hN.at_ (HV15.out.ext hSwa) hLN hLN (okD_raw W2.ok) (okD_raw W2.ok)
    rw [sameD_iff.2 rfl] at h
    exact h)
   refine wpAnyH_one 10 16 (mk 27 2047) rfl (by kernel_rfl) rfl ?_
   go_wp2_with fail
   refine (HSM.out).mono ?_
   rintro e wb ⟨rfl, hx⟩
   have hSwb : Ext w15 wb := hSwa.trans (hx.mono hSwa.size)
   clear hx
   go_wp2_with fail
   refine ⟨hSwb, ?_⟩
   refine wpAnyH_one 11 15 (mk 27 4095) rfl (by kernel_rfl) rfl ?_
   go_wp2_with fail
   refine ⟨hSwb, ?_⟩
   refine wpAnyH_one 12 14 (mk 27 8191) rfl (by kernel_rfl) rfl ?_
   go_wp2_with fail
   refine ⟨hSwb, ?_⟩
   refine wpAnyH_one 13 13 (mk 27 16383) rfl (by kernel_rfl) rfl ?_
   go_wp2_with fail
   refine ⟨hSwb, ?_⟩
   refine wpAnyH_one 14 12 (mk 27 32767) rfl (by kernel_rfl) rfl ?_
   go_wp2_with fail
   refine ⟨hSwb, ?_⟩
   refine wpAnyH_one 15 11 (mk 27 65535) rfl (by kernel_rfl) rfl ?_
   go_wp2_with fail
   refine ⟨hSwb, ?_⟩
   refine wpAnyH_one 16 10 (mk 27 131071) rfl (by kernel_rfl) rfl ?_
   go_wp2_with fail
   refine ⟨hSwb, ?_⟩
   refine wpAnyH_one 17 9 (mk 27 262143) rfl (by kernel_rfl) rfl ?_
   go_wp2_with fail
   refine ⟨hSwb, ?_⟩
   refine wpAnyH_takeN 18 8 (mk 27 524287) rfl (by kernel_rfl) rfl undef (fun _ _ _ h => h) (Or.inr ⟨by first | (go_simp; done) | (go_simp; intro h; cases h), rfl⟩) hSwb (by simp only [Act.put, List.setIfInBounds_toArray, List.set_cons_succ, List.set_cons_zero]; rfl) ?_
   refine wpAnyH_takeN 19 7 (mk 27 1048575) rfl (by kernel_rfl) rfl undef (fun _ _ _ h => h) (Or.inr ⟨by first | (go_simp; done) | (go_simp; intro h; cases h), rfl⟩) hSwb (by simp only [Act.put, List.setIfInBounds_toArray, List.set_cons_succ, List.set_cons_zero]; rfl) ?_
   refine wpAnyH_takeN 20 6 (mk 27 2097151) rfl (by kernel_rfl) rfl undef (fun _ _ _ h => h) (Or.inr ⟨by first | (go_simp; done) | (go_simp; intro h; cases h), rfl⟩) hSwb (by simp only [Act.put, List.setIfInBounds_toArray, List.set_cons_succ, List.set_cons_zero]; rfl) ?_
   refine wpAnyH_takeN 21 5 (mk 27 4194303) rfl (by kernel_rfl) rfl undef (fun _ _ _ h => h) (Or.inr ⟨by first | (go_simp; done) | (go_simp; intro h; cases h), rfl⟩) hSwb (by simp only [Act.put, List.setIfInBounds_toArray, List.set_cons_succ, List.set_cons_zero]; rfl) ?_
   refine wpAnyH_takeN 22 4 (mk 27 8388607) rfl (by kernel_rfl) rfl undef (fun _ _ _ h => h) (Or.inr ⟨by first | (go_simp; done) | (go_simp; intro h; cases h), rfl⟩) hSwb (by simp only [Act.put, List.setIfInBounds_toArray, List.set_cons_succ, List.set_cons_zero]; rfl) ?_
   refine wpAnyH_takeN 23 3 (mk 27 16777215) rfl (by kernel_rfl) rfl undef (fun _ _ _ h => h) (Or.inr ⟨by first | (go_simp; done) | (go_simp; intro h; cases h), rfl⟩) hSwb (by simp only [Act.put, List.setIfInBounds_toArray, List.set_cons_succ, List.set_cons_zero]; rfl) ?_
   refine wpAnyH_takeN 24 2 (mk 27 33554431) rfl (by kernel_rfl) rfl undef (fun _ _ _ h => h) (Or.inr ⟨by first | (go_simp; done) | (go_simp; intro h; cases h), rfl⟩) hSwb (by simp only [Act.put, List.setIfInBounds_toArray, List.set_cons_succ, List.set_cons_zero]; rfl) ?_
   refine wpAnyH_takeN 25 1 (mk 27 67108863) rfl (by kernel_rfl) rfl (.bool false) (fun _ _ _ h => h) (Or.inl ⟨by go_simp, fun w' hS => ?_⟩) hSwb (by simp only [Act.put, List.setIfInBounds_toArray, List.set_cons_succ, List.set_cons_zero]; rfl) ?_
   ·go_simp <;> with_reducible rfl
   refine wpAnyH_takeN 26 0 (mk 27 134217727) rfl (by kernel_rfl) rfl (.bool false) (fun _ _ _ h => h) (Or.inl ⟨rfl, fun w' hS => ?_⟩) hSwb (by simp only [Act.put, List.setIfInBounds_toArray, List.set_cons_succ, List.set_cons_zero]; rfl) ?_
   ·go_simp <;> with_reducible rfl
   refine wpAnyH_end (P := Tryz.prog) (by kernel_rfl) ?_
   go_wp2_with fail
   go_meet
   exact ⟨rfl, hid hSwb⟩
  case rest =>
   obtain ⟨rfl, HXc⟩ := hcut
   obtain ⟨wcc, hwc⟩ : ∃ x, x = wc := ⟨_, rfl⟩
   subst hwc
   clear ca0 ca1 ca2 la cb0 cb1 cb2 lb cx0 cx1 cx2 lx cy0 cy1 cy2 ly cd0 cd1 cd2 ld cq0 cq1 cq2 lq
   have HE16 : Hid (Ext w wcc) := hid (HE15.out.trans ((HXc.out).mono HE15.out.size))
   have HBa16 := hid (HBa15.out.ext (HXc.out))
   have HBb16 := hid (HBb15.out.ext (HXc.out))
   have HBx16 := hid (HBx15.out.ext (HXc.out))
   have HBy16 := hid (HBy15.out.ext (HXc.out))
   have HBd16 := hid (HBd15.out.ext (HXc.out))
   have HBq16 := hid (HBqn.out.ext (HXc.out))
   have HD16 := hid (HD15.out.ext (HXc.out))
   have HG16 := hid (HG15.out.ext (HXc.out))
   have HN16 := hid (HN15.out.ext (HXc.out))
   have HV16 := hid (HV15.out.ext (HXc.out))
   have ca0 : wcc.cell? ⟨w.heap.size, 0, none⟩ = some (.slice aoS n1 cS) := HBa16.out.cell (i := 0) rfl
   have ca1 : wcc.cell? ⟨w.heap.size, 1, none⟩ = some (.slice aoN n2 cN) := HBa16.out.cell (i := 1) rfl
   have ca2 : wcc.cell? ⟨w.heap.size, 2, none⟩ = some (.slice aoF n3 cF) := HBa16.out.cell (i := 2) rfl
   have la := HBa16.out.lt
   have cb0 : wcc.cell? ⟨(w.heap.size + 1), 0, none⟩ = some (.slice aoS2 m1 cS2) := HBb16.out.cell (i := 0) rfl
   have cb1 : wcc.cell? ⟨(w.heap.size + 1), 1, none⟩ = some (.slice aoN2 m2 cN2) := HBb16.out.cell (i := 1) rfl
   have cb2 : wcc.cell? ⟨(w.heap.size + 1), 2, none⟩ = some (.slice aoF2 m3 cF2) := HBb16.out.cell (i := 2) rfl
   have lb := HBb16.out.lt
   have cx0 : wcc.cell? ⟨w5.heap.size, 0, none⟩ = some (.slice aoS n1 cS) := HBx16.out.cell (i := 0) rfl
   have cx1 : wcc.cell? ⟨w5.heap.size, 1, none⟩ = some (.slice aoN n2 cN) := HBx16.out.cell (i := 1) rfl
   have cx2 : wcc.cell? ⟨w5.heap.size, 2, none⟩ = some (.slice aoF n3 cF) := HBx16.out.cell (i := 2) rfl
   have lx := HBx16.out.lt
   have cy0 : wcc.cell? ⟨w7.heap.size, 0, none⟩ = some (.slice aoS2 m1 cS2) := HBy16.out.cell (i := 0) rfl
   have cy1 : wcc.cell? ⟨w7.heap.size, 1, none⟩ = some (.slice aoN2 m2 cN2) := HBy16.out.cell (i := 1) rfl
   have cy2 : wcc.cell? ⟨w7.heap.size, 2, none⟩ = some (.slice aoF2 m3 cF2) := HBy16.out.cell (i := 2) rfl
   have ly := HBy16.out.lt
   have cd0 : wcc.cell? ⟨w11.heap.size, 0, none⟩ = some (.slice aoSd n1d cSd) := HBd16.out.cell (i := 0) rfl
   have cd1 : wcc.cell? ⟨w11.heap.size, 1, none⟩ = some (.slice aoNd n2d cNd) := HBd16.out.cell (i := 1) rfl
   have cd2 : wcc.cell? ⟨w11.heap.size, 2, none⟩ = some (.slice aoFd n3d cFd) := HBd16.out.cell (i := 2) rfl
   have ld := HBd16.out.lt
   have cq0 : wcc.cell? ⟨w14.heap.size, 0, none⟩ = some (.slice aoSq n1q cSq) := HBq16.out.cell (i := 0) rfl
   have cq1 : wcc.cell? ⟨w14.heap.size, 1, none⟩ = some (.slice aoNq n2q cNq) := HBq16.out.cell (i := 1) rfl
   have cq2 : wcc.cell? ⟨w14.heap.size, 2, none⟩ = some (.slice aoFq n3q cFq) := HBq16.out.cell (i := 2) rfl
   have lq := HBq16.out.lt
   go_wp2_with fail
   refine (rfirst_any HD16.out (side_dfa HG16.out)).mono ?_
   intro e w16 hq
   obtain ⟨rfl, hx⟩ := first2_no HWD.out HNO.out hq
   clear hq
   clear ca0 ca1 ca2 la cb0 cb1 cb2 lb cx0 cx1 cx2 lx cy0 cy1 cy2 ly cd0 cd1 cd2 ld cq0 cq1 cq2 lq
   have HE17 : Hid (Ext w w16) := hid (HE16.out.trans ((hx).mono HE16.out.size))
   have HBa17 := hid (HBa16.out.ext (hx))
   have HBb17 := hid (HBb16.out.ext (hx))
   have HBx17 := hid (HBx16.out.ext (hx))
   have HBy17 := hid (HBy16.out.ext (hx))
   have HBd17 := hid (HBd16.out.ext (hx))
   have HBq17 := hid (HBq16.out.ext (hx))
   have HD17 := hid (HD16.out.ext (hx))
   have HG17 := hid (HG16.out.ext (hx))
   have HN17 := hid (HN16.out.ext (hx))
   have HV17 := hid (HV16.out.ext (hx))
   clear hx
   have ca0 : w16.cell? ⟨w.heap.size, 0, none⟩ = some (.slice aoS n1 cS) := HBa17.out.cell (i := 0) rfl
   have ca1 : w16.cell? ⟨w.heap.size, 1, none⟩ = some (.slice aoN n2 cN) := HBa17.out.cell (i := 1) rfl
   have ca2 : w16.cell? ⟨w.heap.size, 2, none⟩ = some (.slice aoF n3 cF) := HBa17.out.cell (i := 2) rfl
   have la := HBa17.out.lt
   have cb0 : w16.cell? ⟨(w.heap.size + 1), 0, none⟩ = some (.slice aoS2 m1 cS2) := HBb17.out.cell (i := 0) rfl
   have cb1 : w16.cell? ⟨(w.heap.size + 1), 1, none⟩ = some (.slice aoN2 m2 cN2) := HBb17.out.cell (i := 1) rfl
   have cb2 : w16.cell? ⟨(w.heap.size + 1), 2, none⟩ = some (.slice aoF2 m3 cF2) := HBb17.out.cell (i := 2) rfl
   have lb := HBb17.out.lt
   have cx0 : w16.cell? ⟨w5.heap.size, 0, none⟩ = some (.slice aoS n1 cS) := HBx17.out.cell (i := 0) rfl
   have cx1 : w16.cell? ⟨w5.heap.size, 1, none⟩ = some (.slice aoN n2 cN) := HBx17.out.cell (i := 1) rfl
   have cx2 : w16.cell? ⟨w5.heap.size, 2, none⟩ = some (.slice aoF n3 cF) := HBx17.out.cell (i := 2) rfl
   have lx := HBx17.out.lt
   have cy0 : w16.cell? ⟨w7.heap.size, 0, none⟩ = some (.slice aoS2 m1 cS2) := HBy17.out.cell (i := 0) rfl
   have cy1 : w16.cell? ⟨w7.heap.size, 1, none⟩ = some (.slice aoN2 m2 cN2) := HBy17.out.cell (i := 1) rfl
   have cy2 : w16.cell? ⟨w7.heap.size, 2, none⟩ = some (.slice aoF2 m3 cF2) := HBy17.out.cell (i := 2) rfl
   have ly := HBy17.out.lt
   have cd0 : w16.cell? ⟨w11.heap.size, 0, none⟩ = some (.slice aoSd n1d cSd) := HBd17.out.cell (i := 0) rfl
   have cd1 : w16.cell? ⟨w11.heap.size, 1, none⟩ = some (.slice aoNd n2d cNd) := HBd17.out.cell (i := 1) rfl
   have cd2 : w16.cell? ⟨w11.heap.size, 2, none⟩ = some (.slice aoFd n3d cFd) := HBd17.out.cell (i := 2) rfl
   have ld := HBd17.out.lt
   have cq0 : w16.cell? ⟨w14.heap.size, 0, none⟩ = some (.slice aoSq n1q cSq) := HBq17.out.cell (i := 0) rfl
   have cq1 : w16.cell? ⟨w14.heap.size, 1, none⟩ = some (.slice aoNq n2q cNq) := HBq17.out.cell (i := 1) rfl
   have cq2 : w16.cell? ⟨w14.heap.size, 2, none⟩ = some (.slice aoFq n3q cFq) := HBq17.out.cell (i := 2) rfl
   have lq := HBq17.out.lt
   go_wp2_with fail
   have HTX := hid (texts_rd (us := []) (vs := []) (v1 := .slice none 0 0) (v2 := .slice none 0 0) (w := w16) (OwnR.read (OwnR.nil _ 0 9 _ _) strC_size) (OwnR.read (OwnR.nil _ 0 9 _ _) strC_size) mild_nil mild_nil)
   rw [decide_eq_true rfl] at HTX
   refine (HTX.out).mono ?_
   rintro e w17 ⟨rfl, hx⟩
   clear ca0 ca1 ca2 la cb0 cb1 cb2 lb cx0 cx1 cx2 lx cy0 cy1 cy2 ly cd0 cd1 cd2 ld cq0 cq1 cq2 lq
   have HE18 : Hid (Ext w w17) := hid (HE17.out.trans ((hx).mono HE17.out.size))
   have HBa18 := hid (HBa17.out.ext (hx))
   have HBb18 := hid (HBb17.out.ext (hx))
   have HBx18 := hid (HBx17.out.ext (hx))
   have HBy18 := hid (HBy17.out.ext (hx))
   have HBd18 := hid (HBd17.out.ext (hx))
   have HBq18 := hid (HBq17.out.ext (hx))
   have HD18 := hid (HD17.out.ext (hx))
   have HG18 := hid (HG17.out.ext (hx))
   have HN18 := hid (HN17.out.ext (hx))
   have HV18 := hid (HV17.out.ext (hx))
   clear hx
   have ca0 : w17.cell? ⟨w.heap.size, 0, none⟩ = some (.slice aoS n1 cS) := HBa18.out.cell (i := 0) rfl
   have ca1 : w17.cell? ⟨w.heap.size, 1, none⟩ = some (.slice aoN n2 cN) := HBa18.out.cell (i := 1) rfl
   have ca2 : w17.cell? ⟨w.heap.size, 2, none⟩ = some (.slice aoF n3 cF) := HBa18.out.cell (i := 2) rfl
   have la := HBa18.out.lt
   have cb0 : w17.cell? ⟨(w.heap.size + 1), 0, none⟩ = some (.slice aoS2 m1 cS2) := HBb18.out.cell (i := 0) rfl
   have cb1 : w17.cell? ⟨(w.heap.size + 1), 1, none⟩ = some (.slice aoN2 m2 cN2) := HBb18.out.cell (i := 1) rfl
   have cb2 : w17.cell? ⟨(w.heap.size + 1), 2, none⟩ = some (.slice aoF2 m3 cF2) := HBb18.out.cell (i := 2) rfl
   have lb := HBb18.out.lt
   have cx0 : w17.cell? ⟨w5.heap.size, 0, none⟩ = some (.slice aoS n1 cS) := HBx18.out.cell (i := 0) rfl
   have cx1 : w17.cell? ⟨w5.heap.size, 1, none⟩ = some (.slice aoN n2 cN) := HBx18.out.cell (i := 1) rfl
   have cx2 : w17.cell? ⟨w5.heap.size, 2, none⟩ = some (.slice aoF n3 cF) := HBx18.out.cell (i := 2) rfl
   have lx := HBx18.out.lt
   have cy0 : w17.cell? ⟨w7.heap.size, 0, none⟩ = some (.slice aoS2 m1 cS2) := HBy18.out.cell (i := 0) rfl
   have cy1 : w17.cell? ⟨w7.heap.size, 1, none⟩ = some (.slice aoN2 m2 cN2) := HBy18.out.cell (i := 1) rfl
   have cy2 : w17.cell? ⟨w7.heap.size, 2, none⟩ = some (.slice aoF2 m3 cF2) := HBy18.out.cell (i := 2) rfl
   have ly := HBy18.out.lt
   have cd0 : w17.cell? ⟨w11.heap.size, 0, none⟩ = some (.slice aoSd n1d cSd) := HBd18.out.cell (i := 0) rfl
   have cd1 : w17.cell? ⟨w11.heap.size, 1, none⟩ = some (.slice aoNd n2d cNd) := HBd18.out.cell (i := 1) rfl
   have cd2 : w17.cell? ⟨w11.heap.size, 2, none⟩ = some (.slice aoFd n3d cFd) := HBd18.out.cell (i := 2) rfl
   have ld := HBd18.out.lt
   have cq0 : w17.cell? ⟨w14.heap.size, 0, none⟩ = some (.slice aoSq n1q cSq) := HBq18.out.cell (i := 0) rfl
   have cq1 : w17.cell? ⟨w14.heap.size, 1, none⟩ = some (.slice aoNq n2q cNq) := HBq18.out.cell (i := 1) rfl
   have cq2 : w17.cell? ⟨w14.heap.size, 2, none⟩ = some (.slice aoFq n3q cFq) := HBq18.out.cell (i := 2) rfl
   have lq := HBq18.out.lt
   go_wp2_with fail
   refine (awake8_any (HT.out.ext HE18.out)).mono ?_
   rintro e w18 ⟨rfl, hx⟩
   clear ca0 ca1 ca2 la cb0 cb1 cb2 lb cx0 cx1 cx2 lx cy0 cy1 cy2 ly cd0 cd1 cd2 ld cq0 cq1 cq2 lq
   have HE19 : Hid (Ext w w18) := hid (HE18.out.trans ((hx).mono HE18.out.size))
   have HBa19 := hid (HBa18.out.ext (hx))
   have HBb19 := hid (HBb18.out.ext (hx))
   have HBx19 := hid (HBx18.out.ext (hx))
   have HBy19 := hid (HBy18.out.ext (hx))
   have HBd19 := hid (HBd18.out.ext (hx))
   have HBq19 := hid (HBq18.out.ext (hx))
   have HD19 := hid (HD18.out.ext (hx))
   have HG19 := hid (HG18.out.ext (hx))
   have HN19 := hid (HN18.out.ext (hx))
   have HV19 := hid (HV18.out.ext (hx))
   clear hx
   have ca0 : w18.cell? ⟨w.heap.size, 0, none⟩ = some (.slice aoS n1 cS) := HBa19.out.cell (i := 0) rfl
   have ca1 : w18.cell? ⟨w.heap.size, 1, none⟩ = some (.slice aoN n2 cN) := HBa19.out.cell (i := 1) rfl
   have ca2 : w18.cell? ⟨w.heap.size, 2, none⟩ = some (.slice aoF n3 cF) := HBa19.out.cell (i := 2) rfl
   have la := HBa19.out.lt
   have cb0 : w18.cell? ⟨(w.heap.size + 1), 0, none⟩ = some (.slice aoS2 m1 cS2) := HBb19.out.cell (i := 0) rfl
   have cb1 : w18.cell? ⟨(w.heap.size + 1), 1, none⟩ = some (.slice aoN2 m2 cN2) := HBb19.out.cell (i := 1) rfl
   have cb2 : w18.cell? ⟨(w.heap.size + 1), 2, none⟩ = some (.slice aoF2 m3 cF2) := HBb19.out.cell (i := 2) rfl
   have lb := HBb19.out.lt
   have cx0 : w18.cell? ⟨w5.heap.size, 0, none⟩ = some (.slice aoS n1 cS) := HBx19.out.cell (i := 0) rfl
   have cx1 : w18.cell? ⟨w5.heap.size, 1, none⟩ = some (.slice aoN n2 cN) := HBx19.out.cell (i := 1) rfl
   have cx2 : w18.cell? ⟨w5.heap.size, 2, none⟩ = some (.slice aoF n3 cF) := HBx19.out.cell (i := 2) rfl
   have lx := HBx19.out.lt
   have cy0 : w18.cell? ⟨w7.heap.size, 0, none⟩ = some (.slice aoS2 m1 cS2) := HBy19.out.cell (i := 0) rfl
   have cy1 : w18.cell? ⟨w7.heap.size, 1, none⟩ = some (.slice aoN2 m2 cN2) := HBy19.out.cell (i := 1) rfl
   have cy2 : w18.cell? ⟨w7.heap.size, 2, none⟩ = some (.slice aoF2 m3 cF2) := HBy19.out.cell (i := 2) rfl
   have ly := HBy19.out.lt
   have cd0 : w18.cell? ⟨w11.heap.size, 0, none⟩ = some (.slice aoSd n1d cSd) := HBd19.out.cell (i := 0) rfl
   have cd1 : w18.cell? ⟨w11.heap.size, 1, none⟩ = some (.slice aoNd n2d cNd) := HBd19.out.cell (i := 1) rfl
   have cd2 : w18.cell? ⟨w11.heap.size, 2, none⟩ = some (.slice aoFd n3d cFd) := HBd19.out.cell (i := 2) rfl
   have ld := HBd19.out.lt
   have cq0 : w18.cell? ⟨w14.heap.size, 0, none⟩ = some (.slice aoSq n1q cSq) := HBq19.out.cell (i := 0) rfl
   have cq1 : w18.cell? ⟨w14.heap.size, 1, none⟩ = some (.slice aoNq n2q cNq) := HBq19.out.cell (i := 1) rfl
   have cq2 : w18.cell? ⟨w14.heap.size, 2, none⟩ = some (.slice aoFq n3q cFq) := HBq19.out.cell (i := 2) rfl
   have lq := HBq19.out.lt
   go_wp2_with fail
   go_ret
   exact ⟨rfl, HE19.out⟩
end Go.Proofs.YtngpjagpeblbjaaGreatDoor
