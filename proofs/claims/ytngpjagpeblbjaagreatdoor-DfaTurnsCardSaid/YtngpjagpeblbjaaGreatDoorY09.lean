/-
  Walk of the law DfaTurns.
-/
import Derived.StillTailTactics
import Derived.Deep.QuietTactic
import Derived.BigQuiet
import Derived.BigRegion
import Derived.Outline
import Derived.WalkSpells
import Derived.Lib.TrailingZeros
import Derived.Deep.Draws
import Derived.Laws.ResultCell
import Derived.Laws.CopyRow
import Derived.Laws.OwnMore
import Derived.Deep.CutBlock
import Derived.Deep.OwnRows
import Derived.Deep.AppendLies
import Derived.Test.YtngpjagpeblbjaaGreatDoorY08
import Derived.Test.YtngpjagpeblbjaaGreatDoorY02
import Derived.Test.YtngpjagpeblbjaaGreatDoorY01
namespace Go.Proofs.YtngpjagpeblbjaaGreatDoor
open Go.RowKit Go.Spy Go.Heaped Go.Tour Go.Rx
set_option maxRecDepth 100000 in
set_option maxHeartbeats 4000000 in
theorem turns_out {w : World} {v : Value} {d : DR} (hD : DfaV w v d) (hL : LenD d) (hT : TabW w) (h : ¬ SmallD d) : Calls Tryz.prog 9 #[v] w (TruePost w) := by
 have HD0 := hid hD
 have HT := hid hT
 have HN := hid h
 have HL := hid hL
 obtain ⟨vS, vN, vF, us, rfl, hP⟩ := hD
 obtain ⟨aoS, cS, rfl, -⟩ := hP.syms.form
 obtain ⟨aoN, cN, rfl, -⟩ := hP.next.form
 obtain ⟨aoF, cF, rfl, -⟩ := hP.fin.form
 obtain ⟨n1, hn1⟩ : ∃ n, n = d.syms.length := ⟨_, rfl⟩
 obtain ⟨n2, hn2⟩ : ∃ n, n = us.length := ⟨_, rfl⟩
 obtain ⟨n3, hn3⟩ : ∃ n, n = d.fin.length := ⟨_, rfl⟩
 rw [← hn1, ← hn2, ← hn3] at HD0 ⊢
 clear hP hT h hL hn1 hn2 hn3
 obtain ⟨w1, hw1⟩ : ∃ u, u = w.alloc (.cells #[.slice aoS n1 cS, .slice aoN n2 cN, .slice aoF n3 cF] 26) := ⟨_, rfl⟩
 have ew1 : Ext w w1 := hw1 ▸ (Below.refl _ _).alloc (Nat.le_refl _) _
 have HBan : Hid (Blk w1 w.heap.size 26 #[.slice aoS n1 cS, .slice aoN n2 cN, .slice aoF n3 cF]) := hid (hw1 ▸ Blk.new _ _ _)
 have HWw1 := hid hw1
 have HE1 : Hid (Ext w w1) := hid (ew1)
 have HD1 := hid (HD0.out.ext (ew1))
 clear ew1 hw1
 go_enter Tryz.func9, Tryz.ntmps9
 go_wp2_with fail
 rw [← HWw1.out]
 refine (small8_any HD1.out HL.out).mono ?_
 rintro e w2 ⟨b, rfl, hb, hx⟩
 have HE2 : Hid (Ext w w2) := hid (HE1.out.trans ((hx).mono HE1.out.size))
 have HBa2 := hid (HBan.out.ext (hx))
 have HD2 := hid (HD1.out.ext (hx))
 clear hx
 have HBB := hid hb
 clear hb
 cases b
 ·have ca0 : w2.cell? ⟨w.heap.size, 0, none⟩ = some (.slice aoS n1 cS) := HBa2.out.cell (i := 0) rfl
  have ca1 : w2.cell? ⟨w.heap.size, 1, none⟩ = some (.slice aoN n2 cN) := HBa2.out.cell (i := 1) rfl
  have ca2 : w2.cell? ⟨w.heap.size, 2, none⟩ = some (.slice aoF n3 cF) := HBa2.out.cell (i := 2) rfl
  have la := HBa2.out.lt
  go_wp2_with fail
  refine (awake8_any (HT.out.ext HE2.out)).mono ?_
  rintro e w3 ⟨rfl, hx⟩
  clear ca0 ca1 ca2 la
  have HE3 : Hid (Ext w w3) := hid (HE2.out.trans ((hx).mono HE2.out.size))
  have HBa3 := hid (HBa2.out.ext (hx))
  have HD3 := hid (HD2.out.ext (hx))
  clear hx
  have ca0 : w3.cell? ⟨w.heap.size, 0, none⟩ = some (.slice aoS n1 cS) := HBa3.out.cell (i := 0) rfl
  have ca1 : w3.cell? ⟨w.heap.size, 1, none⟩ = some (.slice aoN n2 cN) := HBa3.out.cell (i := 1) rfl
  have ca2 : w3.cell? ⟨w.heap.size, 2, none⟩ = some (.slice aoF n3 cF) := HBa3.out.cell (i := 2) rfl
  have la := HBa3.out.lt
  go_wp2_with fail
  go_ret
  exact ⟨rfl, HE3.out⟩
 ·exact absurd (HBB.out.1 (by first | exact rfl | trivial)) HN.out
set_option maxRecDepth 100000 in
set_option maxHeartbeats 4000000 in
theorem turns_bad {w : World} {v : Value} {d : DR} (hD : DfaV w v d) (hL : LenD d) (hT : TabW w) (hS : SmallD d) (hE : checkE nameOk d ≠ 0) : Calls Tryz.prog 9 #[v] w (TruePost w) := by
 have HD0 := hid hD
 have HT := hid hT
 have HS := hid hS
 have HL := hid hL
 have HEE := hid hE
 obtain ⟨vS, vN, vF, us, rfl, hP⟩ := hD
 obtain ⟨aoS, cS, rfl, -⟩ := hP.syms.form
 obtain ⟨aoN, cN, rfl, -⟩ := hP.next.form
 obtain ⟨aoF, cF, rfl, -⟩ := hP.fin.form
 obtain ⟨n1, hn1⟩ : ∃ n, n = d.syms.length := ⟨_, rfl⟩
 obtain ⟨n2, hn2⟩ : ∃ n, n = us.length := ⟨_, rfl⟩
 obtain ⟨n3, hn3⟩ : ∃ n, n = d.fin.length := ⟨_, rfl⟩
 rw [← hn1, ← hn2, ← hn3] at HD0 ⊢
 obtain ⟨E, hE0⟩ : ∃ E, E = checkE nameOk d := ⟨_, rfl⟩
 have HE0 := hid hE0
 rw [← hE0] at hE
 have t0 : (((E : Nat) : Int) != 0) = true := by simp; omega
 have t2 : (((E : Nat) : Int) == (E : Nat)) = true := by simp
 clear hP hT hS hL hn1 hn2 hn3 hE0 hE
 obtain ⟨w1, hw1⟩ : ∃ u, u = w.alloc (.cells #[.slice aoS n1 cS, .slice aoN n2 cN, .slice aoF n3 cF] 26) := ⟨_, rfl⟩
 have ew1 : Ext w w1 := hw1 ▸ (Below.refl _ _).alloc (Nat.le_refl _) _
 have HBan : Hid (Blk w1 w.heap.size 26 #[.slice aoS n1 cS, .slice aoN n2 cN, .slice aoF n3 cF]) := hid (hw1 ▸ Blk.new _ _ _)
 have HWw1 := hid hw1
 have HE1 : Hid (Ext w w1) := hid (ew1)
 have HD1 := hid (HD0.out.ext (ew1))
 clear ew1 hw1
 go_enter Tryz.func9, Tryz.ntmps9
 go_wp2_with fail
 rw [← HWw1.out]
 refine (small8_any HD1.out HL.out).mono ?_
 rintro e w2 ⟨b, rfl, hb, hx⟩
 have HE2 : Hid (Ext w w2) := hid (HE1.out.trans ((hx).mono HE1.out.size))
 have HBa2 := hid (HBan.out.ext (hx))
 have HD2 := hid (HD1.out.ext (hx))
 clear hx
 obtain rfl : b = true := hb.2 HS.out
 clear hb
 have ca0 : w2.cell? ⟨w.heap.size, 0, none⟩ = some (.slice aoS n1 cS) := HBa2.out.cell (i := 0) rfl
 have ca1 : w2.cell? ⟨w.heap.size, 1, none⟩ = some (.slice aoN n2 cN) := HBa2.out.cell (i := 1) rfl
 have ca2 : w2.cell? ⟨w.heap.size, 2, none⟩ = some (.slice aoF n3 cF) := HBa2.out.cell (i := 2) rfl
 have la := HBa2.out.lt
 go_wp2_with fail
 refine (plain8_any _ _ _ _ _ _ _ _ _ _).mono ?_
 rintro e w3 ⟨rfl, hx⟩
 clear ca0 ca1 ca2 la
 have HE3 : Hid (Ext w w3) := hid (HE2.out.trans ((hx).mono HE2.out.size))
 have HBa3 := hid (HBa2.out.ext (hx))
 have HD3 := hid (HD2.out.ext (hx))
 clear hx
 have ca0 : w3.cell? ⟨w.heap.size, 0, none⟩ = some (.slice aoS n1 cS) := HBa3.out.cell (i := 0) rfl
 have ca1 : w3.cell? ⟨w.heap.size, 1, none⟩ = some (.slice aoN n2 cN) := HBa3.out.cell (i := 1) rfl
 have ca2 : w3.cell? ⟨w.heap.size, 2, none⟩ = some (.slice aoF n3 cF) := HBa3.out.cell (i := 2) rfl
 have la := HBa3.out.lt
 go_wp2_with fail
 obtain ⟨w4, hw4⟩ : ∃ u, u = w3.alloc (.cells #[.slice aoS n1 cS, .slice aoN n2 cN, .slice aoF n3 cF] 40) := ⟨_, rfl⟩
 have ew4 : Ext w3 w4 := hw4 ▸ (Below.refl _ _).alloc (Nat.le_refl _) _
 have HBxn : Hid (Blk w4 w3.heap.size 40 #[.slice aoS n1 cS, .slice aoN n2 cN, .slice aoF n3 cF]) := hid (hw4 ▸ Blk.new _ _ _)
 have HWw4 := hid hw4
 clear ca0 ca1 ca2 la
 have HE4 : Hid (Ext w w4) := hid (HE3.out.trans ((ew4).mono HE3.out.size))
 have HBa4 := hid (HBa3.out.ext (ew4))
 have HD4 := hid (HD3.out.ext (ew4))
 clear ew4 hw4
 rw [← HWw4.out]
 have HC := hid (rcheck8_any HD4.out HS.out.bnd)
 rw [← HE0.out] at HC
 refine (HC.out).mono ?_
 rintro e w5 ⟨rfl, hx⟩
 have HE5 : Hid (Ext w w5) := hid (HE4.out.trans ((hx).mono HE4.out.size))
 have HBa5 := hid (HBa4.out.ext (hx))
 have HBx5 := hid (HBxn.out.ext (hx))
 have HD5 := hid (HD4.out.ext (hx))
 clear hx
 clear HC
 have ca0 : w5.cell? ⟨w.heap.size, 0, none⟩ = some (.slice aoS n1 cS) := HBa5.out.cell (i := 0) rfl
 have ca1 : w5.cell? ⟨w.heap.size, 1, none⟩ = some (.slice aoN n2 cN) := HBa5.out.cell (i := 1) rfl
 have ca2 : w5.cell? ⟨w.heap.size, 2, none⟩ = some (.slice aoF n3 cF) := HBa5.out.cell (i := 2) rfl
 have la := HBa5.out.lt
 have cx0 : w5.cell? ⟨w3.heap.size, 0, none⟩ = some (.slice aoS n1 cS) := HBx5.out.cell (i := 0) rfl
 have cx1 : w5.cell? ⟨w3.heap.size, 1, none⟩ = some (.slice aoN n2 cN) := HBx5.out.cell (i := 1) rfl
 have cx2 : w5.cell? ⟨w3.heap.size, 2, none⟩ = some (.slice aoF n3 cF) := HBx5.out.cell (i := 2) rfl
 have lx := HBx5.out.lt
 go_wp2_with fail
 have HC := hid (not_bad HD5.out HS.out.bnd HEE.out)
 rw [← HE0.out] at HC
 refine (HC.out).mono ?_
 rintro e w6 ⟨rfl, hx⟩
 clear ca0 ca1 ca2 la cx0 cx1 cx2 lx
 have HE6 : Hid (Ext w w6) := hid (HE5.out.trans ((hx).mono HE5.out.size))
 have HBa6 := hid (HBa5.out.ext (hx))
 have HBx6 := hid (HBx5.out.ext (hx))
 have HD6 := hid (HD5.out.ext (hx))
 clear hx
 clear HC
 have ca0 : w6.cell? ⟨w.heap.size, 0, none⟩ = some (.slice aoS n1 cS) := HBa6.out.cell (i := 0) rfl
 have ca1 : w6.cell? ⟨w.heap.size, 1, none⟩ = some (.slice aoN n2 cN) := HBa6.out.cell (i := 1) rfl
 have ca2 : w6.cell? ⟨w.heap.size, 2, none⟩ = some (.slice aoF n3 cF) := HBa6.out.cell (i := 2) rfl
 have la := HBa6.out.lt
 have cx0 : w6.cell? ⟨w3.heap.size, 0, none⟩ = some (.slice aoS n1 cS) := HBx6.out.cell (i := 0) rfl
 have cx1 : w6.cell? ⟨w3.heap.size, 1, none⟩ = some (.slice aoN n2 cN) := HBx6.out.cell (i := 1) rfl
 have cx2 : w6.cell? ⟨w3.heap.size, 2, none⟩ = some (.slice aoF n3 cF) := HBx6.out.cell (i := 2) rfl
 have lx := HBx6.out.lt
 go_wp2_with fail
 obtain ⟨w7, hw7⟩ : ∃ u, u = w6.alloc (.cells #[.slice none 0 0, .slice none 0 0, .slice none 0 0] 26) := ⟨_, rfl⟩
 have ew7 : Ext w6 w7 := hw7 ▸ (Below.refl _ _).alloc (Nat.le_refl _) _
 have HBnn : Hid (Blk w7 w6.heap.size 26 #[.slice none 0 0, .slice none 0 0, .slice none 0 0]) := hid (hw7 ▸ Blk.new _ _ _)
 have HWw7 := hid hw7
 clear ca0 ca1 ca2 la cx0 cx1 cx2 lx
 have HE7 : Hid (Ext w w7) := hid (HE6.out.trans ((ew7).mono HE6.out.size))
 have HBa7 := hid (HBa6.out.ext (ew7))
 have HBx7 := hid (HBx6.out.ext (ew7))
 have HD7 := hid (HD6.out.ext (ew7))
 clear ew7 hw7
 rw [← HWw7.out]
 have HC := hid (dsmall_bad HD7.out HS.out.bnd HEE.out)
 rw [← HE0.out] at HC
 refine (HC.out).mono ?_
 rintro e w8 ⟨rfl, hx⟩
 have HE8 : Hid (Ext w w8) := hid (HE7.out.trans ((hx).mono HE7.out.size))
 have HBa8 := hid (HBa7.out.ext (hx))
 have HBx8 := hid (HBx7.out.ext (hx))
 have HBn8 := hid (HBnn.out.ext (hx))
 have HD8 := hid (HD7.out.ext (hx))
 clear hx
 clear HC
 have ca0 : w8.cell? ⟨w.heap.size, 0, none⟩ = some (.slice aoS n1 cS) := HBa8.out.cell (i := 0) rfl
 have ca1 : w8.cell? ⟨w.heap.size, 1, none⟩ = some (.slice aoN n2 cN) := HBa8.out.cell (i := 1) rfl
 have ca2 : w8.cell? ⟨w.heap.size, 2, none⟩ = some (.slice aoF n3 cF) := HBa8.out.cell (i := 2) rfl
 have la := HBa8.out.lt
 have cx0 : w8.cell? ⟨w3.heap.size, 0, none⟩ = some (.slice aoS n1 cS) := HBx8.out.cell (i := 0) rfl
 have cx1 : w8.cell? ⟨w3.heap.size, 1, none⟩ = some (.slice aoN n2 cN) := HBx8.out.cell (i := 1) rfl
 have cx2 : w8.cell? ⟨w3.heap.size, 2, none⟩ = some (.slice aoF n3 cF) := HBx8.out.cell (i := 2) rfl
 have lx := HBx8.out.lt
 have cn0 : w8.cell? ⟨w6.heap.size, 0, none⟩ = some (.slice none 0 0) := HBn8.out.cell (i := 0) rfl
 have cn1 : w8.cell? ⟨w6.heap.size, 1, none⟩ = some (.slice none 0 0) := HBn8.out.cell (i := 1) rfl
 have cn2 : w8.cell? ⟨w6.heap.size, 2, none⟩ = some (.slice none 0 0) := HBn8.out.cell (i := 2) rfl
 have ln := HBn8.out.lt
 go_wp2_with fail
 obtain ⟨w9, hw9⟩ : ∃ u, u = w8.alloc (.cells #[.slice none 0 0, .slice none 0 0, .slice none 0 0] 26) := ⟨_, rfl⟩
 have ew9 : Ext w8 w9 := hw9 ▸ (Below.refl _ _).alloc (Nat.le_refl _) _
 have HBsn : Hid (Blk w9 w8.heap.size 26 #[.slice none 0 0, .slice none 0 0, .slice none 0 0]) := hid (hw9 ▸ Blk.new _ _ _)
 have HWw9 := hid hw9
 clear ca0 ca1 ca2 la cx0 cx1 cx2 lx cn0 cn1 cn2 ln
 have HE9 : Hid (Ext w w9) := hid (HE8.out.trans ((ew9).mono HE8.out.size))
 have HBa9 := hid (HBa8.out.ext (ew9))
 have HBx9 := hid (HBx8.out.ext (ew9))
 have HBn9 := hid (HBn8.out.ext (ew9))
 have HD9 := hid (HD8.out.ext (ew9))
 clear ew9 hw9
 rw [← HWw9.out]
 have ca0 : w9.cell? ⟨w.heap.size, 0, none⟩ = some (.slice aoS n1 cS) := HBa9.out.cell (i := 0) rfl
 have ca1 : w9.cell? ⟨w.heap.size, 1, none⟩ = some (.slice aoN n2 cN) := HBa9.out.cell (i := 1) rfl
 have ca2 : w9.cell? ⟨w.heap.size, 2, none⟩ = some (.slice aoF n3 cF) := HBa9.out.cell (i := 2) rfl
 have la := HBa9.out.lt
 have cx0 : w9.cell? ⟨w3.heap.size, 0, none⟩ = some (.slice aoS n1 cS) := HBx9.out.cell (i := 0) rfl
 have cx1 : w9.cell? ⟨w3.heap.size, 1, none⟩ = some (.slice aoN n2 cN) := HBx9.out.cell (i := 1) rfl
 have cx2 : w9.cell? ⟨w3.heap.size, 2, none⟩ = some (.slice aoF n3 cF) := HBx9.out.cell (i := 2) rfl
 have lx := HBx9.out.lt
 have cn0 : w9.cell? ⟨w6.heap.size, 0, none⟩ = some (.slice none 0 0) := HBn9.out.cell (i := 0) rfl
 have cn1 : w9.cell? ⟨w6.heap.size, 1, none⟩ = some (.slice none 0 0) := HBn9.out.cell (i := 1) rfl
 have cn2 : w9.cell? ⟨w6.heap.size, 2, none⟩ = some (.slice none 0 0) := HBn9.out.cell (i := 2) rfl
 have ln := HBn9.out.lt
 have cs0 : w9.cell? ⟨w8.heap.size, 0, none⟩ = some (.slice none 0 0) := HBsn.out.cell (i := 0) rfl
 have cs1 : w9.cell? ⟨w8.heap.size, 1, none⟩ = some (.slice none 0 0) := HBsn.out.cell (i := 1) rfl
 have cs2 : w9.cell? ⟨w8.heap.size, 2, none⟩ = some (.slice none 0 0) := HBsn.out.cell (i := 2) rfl
 have ls := HBsn.out.lt
 go_wp2_with fail
 refine (none_nil _).mono ?_
 rintro e w10 ⟨rfl, hx⟩
 clear ca0 ca1 ca2 la cx0 cx1 cx2 lx cn0 cn1 cn2 ln cs0 cs1 cs2 ls
 have HE10 : Hid (Ext w w10) := hid (HE9.out.trans ((hx).mono HE9.out.size))
 have HBa10 := hid (HBa9.out.ext (hx))
 have HBx10 := hid (HBx9.out.ext (hx))
 have HBn10 := hid (HBn9.out.ext (hx))
 have HBs10 := hid (HBsn.out.ext (hx))
 have HD10 := hid (HD9.out.ext (hx))
 clear hx
 have ca0 : w10.cell? ⟨w.heap.size, 0, none⟩ = some (.slice aoS n1 cS) := HBa10.out.cell (i := 0) rfl
 have ca1 : w10.cell? ⟨w.heap.size, 1, none⟩ = some (.slice aoN n2 cN) := HBa10.out.cell (i := 1) rfl
 have ca2 : w10.cell? ⟨w.heap.size, 2, none⟩ = some (.slice aoF n3 cF) := HBa10.out.cell (i := 2) rfl
 have la := HBa10.out.lt
 have cx0 : w10.cell? ⟨w3.heap.size, 0, none⟩ = some (.slice aoS n1 cS) := HBx10.out.cell (i := 0) rfl
 have cx1 : w10.cell? ⟨w3.heap.size, 1, none⟩ = some (.slice aoN n2 cN) := HBx10.out.cell (i := 1) rfl
 have cx2 : w10.cell? ⟨w3.heap.size, 2, none⟩ = some (.slice aoF n3 cF) := HBx10.out.cell (i := 2) rfl
 have lx := HBx10.out.lt
 have cn0 : w10.cell? ⟨w6.heap.size, 0, none⟩ = some (.slice none 0 0) := HBn10.out.cell (i := 0) rfl
 have cn1 : w10.cell? ⟨w6.heap.size, 1, none⟩ = some (.slice none 0 0) := HBn10.out.cell (i := 1) rfl
 have cn2 : w10.cell? ⟨w6.heap.size, 2, none⟩ = some (.slice none 0 0) := HBn10.out.cell (i := 2) rfl
 have ln := HBn10.out.lt
 have cs0 : w10.cell? ⟨w8.heap.size, 0, none⟩ = some (.slice none 0 0) := HBs10.out.cell (i := 0) rfl
 have cs1 : w10.cell? ⟨w8.heap.size, 1, none⟩ = some (.slice none 0 0) := HBs10.out.cell (i := 1) rfl
 have cs2 : w10.cell? ⟨w8.heap.size, 2, none⟩ = some (.slice none 0 0) := HBs10.out.cell (i := 2) rfl
 have ls := HBs10.out.lt
 go_wp2_with fail
 refine (none_nil _).mono ?_
 rintro e w11 ⟨rfl, hx⟩
 clear ca0 ca1 ca2 la cx0 cx1 cx2 lx cn0 cn1 cn2 ln cs0 cs1 cs2 ls
 have HE11 : Hid (Ext w w11) := hid (HE10.out.trans ((hx).mono HE10.out.size))
 have HBa11 := hid (HBa10.out.ext (hx))
 have HBx11 := hid (HBx10.out.ext (hx))
 have HBn11 := hid (HBn10.out.ext (hx))
 have HBs11 := hid (HBs10.out.ext (hx))
 have HD11 := hid (HD10.out.ext (hx))
 clear hx
 have ca0 : w11.cell? ⟨w.heap.size, 0, none⟩ = some (.slice aoS n1 cS) := HBa11.out.cell (i := 0) rfl
 have ca1 : w11.cell? ⟨w.heap.size, 1, none⟩ = some (.slice aoN n2 cN) := HBa11.out.cell (i := 1) rfl
 have ca2 : w11.cell? ⟨w.heap.size, 2, none⟩ = some (.slice aoF n3 cF) := HBa11.out.cell (i := 2) rfl
 have la := HBa11.out.lt
 have cx0 : w11.cell? ⟨w3.heap.size, 0, none⟩ = some (.slice aoS n1 cS) := HBx11.out.cell (i := 0) rfl
 have cx1 : w11.cell? ⟨w3.heap.size, 1, none⟩ = some (.slice aoN n2 cN) := HBx11.out.cell (i := 1) rfl
 have cx2 : w11.cell? ⟨w3.heap.size, 2, none⟩ = some (.slice aoF n3 cF) := HBx11.out.cell (i := 2) rfl
 have lx := HBx11.out.lt
 have cn0 : w11.cell? ⟨w6.heap.size, 0, none⟩ = some (.slice none 0 0) := HBn11.out.cell (i := 0) rfl
 have cn1 : w11.cell? ⟨w6.heap.size, 1, none⟩ = some (.slice none 0 0) := HBn11.out.cell (i := 1) rfl
 have cn2 : w11.cell? ⟨w6.heap.size, 2, none⟩ = some (.slice none 0 0) := HBn11.out.cell (i := 2) rfl
 have ln := HBn11.out.lt
 have cs0 : w11.cell? ⟨w8.heap.size, 0, none⟩ = some (.slice none 0 0) := HBs11.out.cell (i := 0) rfl
 have cs1 : w11.cell? ⟨w8.heap.size, 1, none⟩ = some (.slice none 0 0) := HBs11.out.cell (i := 1) rfl
 have cs2 : w11.cell? ⟨w8.heap.size, 2, none⟩ = some (.slice none 0 0) := HBs11.out.cell (i := 2) rfl
 have ls := HBs11.out.lt
 go_wp2_with fail
 refine (awake8_any (HT.out.ext HE11.out)).mono ?_
 rintro e w12 ⟨rfl, hx⟩
 clear ca0 ca1 ca2 la cx0 cx1 cx2 lx cn0 cn1 cn2 ln cs0 cs1 cs2 ls
 have HE12 : Hid (Ext w w12) := hid (HE11.out.trans ((hx).mono HE11.out.size))
 have HBa12 := hid (HBa11.out.ext (hx))
 have HBx12 := hid (HBx11.out.ext (hx))
 have HBn12 := hid (HBn11.out.ext (hx))
 have HBs12 := hid (HBs11.out.ext (hx))
 have HD12 := hid (HD11.out.ext (hx))
 clear hx
 have ca0 : w12.cell? ⟨w.heap.size, 0, none⟩ = some (.slice aoS n1 cS) := HBa12.out.cell (i := 0) rfl
 have ca1 : w12.cell? ⟨w.heap.size, 1, none⟩ = some (.slice aoN n2 cN) := HBa12.out.cell (i := 1) rfl
 have ca2 : w12.cell? ⟨w.heap.size, 2, none⟩ = some (.slice aoF n3 cF) := HBa12.out.cell (i := 2) rfl
 have la := HBa12.out.lt
 have cx0 : w12.cell? ⟨w3.heap.size, 0, none⟩ = some (.slice aoS n1 cS) := HBx12.out.cell (i := 0) rfl
 have cx1 : w12.cell? ⟨w3.heap.size, 1, none⟩ = some (.slice aoN n2 cN) := HBx12.out.cell (i := 1) rfl
 have cx2 : w12.cell? ⟨w3.heap.size, 2, none⟩ = some (.slice aoF n3 cF) := HBx12.out.cell (i := 2) rfl
 have lx := HBx12.out.lt
 have cn0 : w12.cell? ⟨w6.heap.size, 0, none⟩ = some (.slice none 0 0) := HBn12.out.cell (i := 0) rfl
 have cn1 : w12.cell? ⟨w6.heap.size, 1, none⟩ = some (.slice none 0 0) := HBn12.out.cell (i := 1) rfl
 have cn2 : w12.cell? ⟨w6.heap.size, 2, none⟩ = some (.slice none 0 0) := HBn12.out.cell (i := 2) rfl
 have ln := HBn12.out.lt
 have cs0 : w12.cell? ⟨w8.heap.size, 0, none⟩ = some (.slice none 0 0) := HBs12.out.cell (i := 0) rfl
 have cs1 : w12.cell? ⟨w8.heap.size, 1, none⟩ = some (.slice none 0 0) := HBs12.out.cell (i := 1) rfl
 have cs2 : w12.cell? ⟨w8.heap.size, 2, none⟩ = some (.slice none 0 0) := HBs12.out.cell (i := 2) rfl
 have ls := HBs12.out.lt
 go_wp2_with fail
 go_ret
 exact ⟨rfl, HE12.out⟩
set_option maxRecDepth 100000 in
set_option maxHeartbeats 8000000 in
theorem turns_in {w : World} {v : Value} {D : DA} (hD : DfaW w v D) (hS : SmallD D.raw) (hT : TabW w) : Calls Tryz.prog 9 #[v] w (TruePost w) := by
 have HD0 := hid hD
 have HT := hid hT
 have HS := hid hS
 have HWL := hid hD.well
 have HBN := hid hD.bnd
 have HL : Hid (LenD D.raw) := hid hS.len
 have hv := hD.at_
 obtain ⟨vS, vN, vF, us, rfl, -⟩ := hv
 obtain ⟨aoS, n1, cS, aoN, n2, cN, aoF, n3, cF, hxx⟩ := hD.open_
 rw [hxx] at HD0 ⊢
 have HLN := hid HD0.out.lens
 have hn3 : n3 ≤ 256 := by rw [HLN.out.2.2]; exact HWL.out.most
 clear hD hS hT hxx
 obtain ⟨w1, hw1⟩ : ∃ u, u = w.alloc (.cells #[.slice aoS n1 cS, .slice aoN n2 cN, .slice aoF n3 cF] 26) := ⟨_, rfl⟩
 have ew1 : Ext w w1 := hw1 ▸ (Below.refl _ _).alloc (Nat.le_refl _) _
 have HBan : Hid (Blk w1 w.heap.size 26 #[.slice aoS n1 cS, .slice aoN n2 cN, .slice aoF n3 cF]) := hid (hw1 ▸ Blk.new _ _ _)
 have HWw1 := hid hw1
 have HE1 : Hid (Ext w w1) := hid (ew1)
 have HD1 := hid (HD0.out.ext (ew1))
 clear ew1 hw1
 go_enter Tryz.func9, Tryz.ntmps9
 go_wp2_with fail
 rw [← HWw1.out]
 refine (small8_any HD1.out.at_ HL.out).mono ?_
 rintro e w2 ⟨b, rfl, hb, hx⟩
 have HE2 : Hid (Ext w w2) := hid (HE1.out.trans ((hx).mono HE1.out.size))
 have HBa2 := hid (HBan.out.ext (hx))
 have HD2 := hid (HD1.out.ext (hx))
 clear hx
 obtain rfl : b = true := hb.2 HS.out
 clear hb
 have ca0 : w2.cell? ⟨w.heap.size, 0, none⟩ = some (.slice aoS n1 cS) := HBa2.out.cell (i := 0) rfl
 have ca1 : w2.cell? ⟨w.heap.size, 1, none⟩ = some (.slice aoN n2 cN) := HBa2.out.cell (i := 1) rfl
 have ca2 : w2.cell? ⟨w.heap.size, 2, none⟩ = some (.slice aoF n3 cF) := HBa2.out.cell (i := 2) rfl
 have la := HBa2.out.lt
 go_wp2_with fail
 refine (plain8_any _ _ _ _ _ _ _ _ _ _).mono ?_
 rintro e w3 ⟨rfl, hx⟩
 clear ca0 ca1 ca2 la
 have HE3 : Hid (Ext w w3) := hid (HE2.out.trans ((hx).mono HE2.out.size))
 have HBa3 := hid (HBa2.out.ext (hx))
 have HD3 := hid (HD2.out.ext (hx))
 clear hx
 have ca0 : w3.cell? ⟨w.heap.size, 0, none⟩ = some (.slice aoS n1 cS) := HBa3.out.cell (i := 0) rfl
 have ca1 : w3.cell? ⟨w.heap.size, 1, none⟩ = some (.slice aoN n2 cN) := HBa3.out.cell (i := 1) rfl
 have ca2 : w3.cell? ⟨w.heap.size, 2, none⟩ = some (.slice aoF n3 cF) := HBa3.out.cell (i := 2) rfl
 have la := HBa3.out.lt
 go_wp2_with fail
 obtain ⟨w4, hw4⟩ : ∃ u, u = w3.alloc (.cells #[.slice aoS n1 cS, .slice aoN n2 cN, .slice aoF n3 cF] 40) := ⟨_, rfl⟩
 have ew4 : Ext w3 w4 := hw4 ▸ (Below.refl _ _).alloc (Nat.le_refl _) _
 have HBxn : Hid (Blk w4 w3.heap.size 40 #[.slice aoS n1 cS, .slice aoN n2 cN, .slice aoF n3 cF]) := hid (hw4 ▸ Blk.new _ _ _)
 have HWw4 := hid hw4
 clear ca0 ca1 ca2 la
 have HE4 : Hid (Ext w w4) := hid (HE3.out.trans ((ew4).mono HE3.out.size))
 have HBa4 := hid (HBa3.out.ext (ew4))
 have HD4 := hid (HD3.out.ext (ew4))
 clear ew4 hw4
 rw [← HWw4.out]
 have HC := hid (rcheck8_any HD4.out.at_ HS.out.bnd)
 rw [well_check HWL.out] at HC
 refine (HC.out).mono ?_
 rintro e w5 ⟨rfl, hx⟩
 have HE5 : Hid (Ext w w5) := hid (HE4.out.trans ((hx).mono HE4.out.size))
 have HBa5 := hid (HBa4.out.ext (hx))
 have HBx5 := hid (HBxn.out.ext (hx))
 have HD5 := hid (HD4.out.ext (hx))
 clear hx
 clear HC
 have ca0 : w5.cell? ⟨w.heap.size, 0, none⟩ = some (.slice aoS n1 cS) := HBa5.out.cell (i := 0) rfl
 have ca1 : w5.cell? ⟨w.heap.size, 1, none⟩ = some (.slice aoN n2 cN) := HBa5.out.cell (i := 1) rfl
 have ca2 : w5.cell? ⟨w.heap.size, 2, none⟩ = some (.slice aoF n3 cF) := HBa5.out.cell (i := 2) rfl
 have la := HBa5.out.lt
 have cx0 : w5.cell? ⟨w3.heap.size, 0, none⟩ = some (.slice aoS n1 cS) := HBx5.out.cell (i := 0) rfl
 have cx1 : w5.cell? ⟨w3.heap.size, 1, none⟩ = some (.slice aoN n2 cN) := HBx5.out.cell (i := 1) rfl
 have cx2 : w5.cell? ⟨w3.heap.size, 2, none⟩ = some (.slice aoF n3 cF) := HBx5.out.cell (i := 2) rfl
 have lx := HBx5.out.lt
 go_wp2_with fail
 refine (not_in8 HD5.out).mono ?_
 rintro e w6 ⟨aoSn, n1n, cSn, aoNn, n2n, cNn, aoFn, n3n, cFn, rfl, hN, hx⟩
 clear ca0 ca1 ca2 la cx0 cx1 cx2 lx
 have HE6 : Hid (Ext w w6) := hid (HE5.out.trans ((hx).mono HE5.out.size))
 have HBa6 := hid (HBa5.out.ext (hx))
 have HBx6 := hid (HBx5.out.ext (hx))
 have HD6 := hid (HD5.out.ext (hx))
 have HN0 := hid hN
 clear hx hN
 have ca0 : w6.cell? ⟨w.heap.size, 0, none⟩ = some (.slice aoS n1 cS) := HBa6.out.cell (i := 0) rfl
 have ca1 : w6.cell? ⟨w.heap.size, 1, none⟩ = some (.slice aoN n2 cN) := HBa6.out.cell (i := 1) rfl
 have ca2 : w6.cell? ⟨w.heap.size, 2, none⟩ = some (.slice aoF n3 cF) := HBa6.out.cell (i := 2) rfl
 have la := HBa6.out.lt
 have cx0 : w6.cell? ⟨w3.heap.size, 0, none⟩ = some (.slice aoS n1 cS) := HBx6.out.cell (i := 0) rfl
 have cx1 : w6.cell? ⟨w3.heap.size, 1, none⟩ = some (.slice aoN n2 cN) := HBx6.out.cell (i := 1) rfl
 have cx2 : w6.cell? ⟨w3.heap.size, 2, none⟩ = some (.slice aoF n3 cF) := HBx6.out.cell (i := 2) rfl
 have lx := HBx6.out.lt
 go_wp2_with fail
 obtain ⟨w7, hw7⟩ : ∃ u, u = w6.alloc (.cells #[.slice aoSn n1n cSn, .slice aoNn n2n cNn, .slice aoFn n3n cFn] 26) := ⟨_, rfl⟩
 have ew7 : Ext w6 w7 := hw7 ▸ (Below.refl _ _).alloc (Nat.le_refl _) _
 have HBnn : Hid (Blk w7 w6.heap.size 26 #[.slice aoSn n1n cSn, .slice aoNn n2n cNn, .slice aoFn n3n cFn]) := hid (hw7 ▸ Blk.new _ _ _)
 have HWw7 := hid hw7
 clear ca0 ca1 ca2 la cx0 cx1 cx2 lx
 have HE7 : Hid (Ext w w7) := hid (HE6.out.trans ((ew7).mono HE6.out.size))
 have HBa7 := hid (HBa6.out.ext (ew7))
 have HBx7 := hid (HBx6.out.ext (ew7))
 have HD7 := hid (HD6.out.ext (ew7))
 have HN7 := hid (HN0.out.ext (ew7))
 clear ew7 hw7
 rw [← HWw7.out]
 have ca0 : w7.cell? ⟨w.heap.size, 0, none⟩ = some (.slice aoS n1 cS) := HBa7.out.cell (i := 0) rfl
 have ca1 : w7.cell? ⟨w.heap.size, 1, none⟩ = some (.slice aoN n2 cN) := HBa7.out.cell (i := 1) rfl
 have ca2 : w7.cell? ⟨w.heap.size, 2, none⟩ = some (.slice aoF n3 cF) := HBa7.out.cell (i := 2) rfl
 have la := HBa7.out.lt
 have cx0 : w7.cell? ⟨w3.heap.size, 0, none⟩ = some (.slice aoS n1 cS) := HBx7.out.cell (i := 0) rfl
 have cx1 : w7.cell? ⟨w3.heap.size, 1, none⟩ = some (.slice aoN n2 cN) := HBx7.out.cell (i := 1) rfl
 have cx2 : w7.cell? ⟨w3.heap.size, 2, none⟩ = some (.slice aoF n3 cF) := HBx7.out.cell (i := 2) rfl
 have lx := HBx7.out.lt
 have cn0 : w7.cell? ⟨w6.heap.size, 0, none⟩ = some (.slice aoSn n1n cSn) := HBnn.out.cell (i := 0) rfl
 have cn1 : w7.cell? ⟨w6.heap.size, 1, none⟩ = some (.slice aoNn n2n cNn) := HBnn.out.cell (i := 1) rfl
 have cn2 : w7.cell? ⟨w6.heap.size, 2, none⟩ = some (.slice aoFn n3n cFn) := HBnn.out.cell (i := 2) rfl
 have ln := HBnn.out.lt
 refine (small_gen HD7.out).mono ?_
 rintro e w8 ⟨aoSs, n1s, cSs, aoNs, n2s, cNs, aoFs, n3s, cFs, Y, rfl, hmx, hmX, hX, hx⟩
 clear ca0 ca1 ca2 la cx0 cx1 cx2 lx cn0 cn1 cn2 ln
 have HE8 : Hid (Ext w w8) := hid (HE7.out.trans ((hx).mono HE7.out.size))
 have HBa8 := hid (HBa7.out.ext (hx))
 have HBx8 := hid (HBx7.out.ext (hx))
 have HBn8 := hid (HBnn.out.ext (hx))
 have HD8 := hid (HD7.out.ext (hx))
 have HN8 := hid (HN7.out.ext (hx))
 have HX0 := hid hX
 clear hx hX
 have HMX := hid hmX
 clear hmX hmx
 have ca0 : w8.cell? ⟨w.heap.size, 0, none⟩ = some (.slice aoS n1 cS) := HBa8.out.cell (i := 0) rfl
 have ca1 : w8.cell? ⟨w.heap.size, 1, none⟩ = some (.slice aoN n2 cN) := HBa8.out.cell (i := 1) rfl
 have ca2 : w8.cell? ⟨w.heap.size, 2, none⟩ = some (.slice aoF n3 cF) := HBa8.out.cell (i := 2) rfl
 have la := HBa8.out.lt
 have cx0 : w8.cell? ⟨w3.heap.size, 0, none⟩ = some (.slice aoS n1 cS) := HBx8.out.cell (i := 0) rfl
 have cx1 : w8.cell? ⟨w3.heap.size, 1, none⟩ = some (.slice aoN n2 cN) := HBx8.out.cell (i := 1) rfl
 have cx2 : w8.cell? ⟨w3.heap.size, 2, none⟩ = some (.slice aoF n3 cF) := HBx8.out.cell (i := 2) rfl
 have lx := HBx8.out.lt
 have cn0 : w8.cell? ⟨w6.heap.size, 0, none⟩ = some (.slice aoSn n1n cSn) := HBn8.out.cell (i := 0) rfl
 have cn1 : w8.cell? ⟨w6.heap.size, 1, none⟩ = some (.slice aoNn n2n cNn) := HBn8.out.cell (i := 1) rfl
 have cn2 : w8.cell? ⟨w6.heap.size, 2, none⟩ = some (.slice aoFn n3n cFn) := HBn8.out.cell (i := 2) rfl
 have ln := HBn8.out.lt
 go_wp2_with fail
 obtain ⟨w9, hw9⟩ : ∃ u, u = w8.alloc (.cells #[.slice aoSs n1s cSs, .slice aoNs n2s cNs, .slice aoFs n3s cFs] 26) := ⟨_, rfl⟩
 have ew9 : Ext w8 w9 := hw9 ▸ (Below.refl _ _).alloc (Nat.le_refl _) _
 have HBsn : Hid (Blk w9 w8.heap.size 26 #[.slice aoSs n1s cSs, .slice aoNs n2s cNs, .slice aoFs n3s cFs]) := hid (hw9 ▸ Blk.new _ _ _)
 have HWw9 := hid hw9
 clear ca0 ca1 ca2 la cx0 cx1 cx2 lx cn0 cn1 cn2 ln
 have HE9 : Hid (Ext w w9) := hid (HE8.out.trans ((ew9).mono HE8.out.size))
 have HBa9 := hid (HBa8.out.ext (ew9))
 have HBx9 := hid (HBx8.out.ext (ew9))
 have HBn9 := hid (HBn8.out.ext (ew9))
 have HD9 := hid (HD8.out.ext (ew9))
 have HN9 := hid (HN8.out.ext (ew9))
 have HX9 := hid (HX0.out.ext (ew9))
 clear ew9 hw9
 rw [← HWw9.out]
 have ca0 : w9.cell? ⟨w.heap.size, 0, none⟩ = some (.slice aoS n1 cS) := HBa9.out.cell (i := 0) rfl
 have ca1 : w9.cell? ⟨w.heap.size, 1, none⟩ = some (.slice aoN n2 cN) := HBa9.out.cell (i := 1) rfl
 have ca2 : w9.cell? ⟨w.heap.size, 2, none⟩ = some (.slice aoF n3 cF) := HBa9.out.cell (i := 2) rfl
 have la := HBa9.out.lt
 have cx0 : w9.cell? ⟨w3.heap.size, 0, none⟩ = some (.slice aoS n1 cS) := HBx9.out.cell (i := 0) rfl
 have cx1 : w9.cell? ⟨w3.heap.size, 1, none⟩ = some (.slice aoN n2 cN) := HBx9.out.cell (i := 1) rfl
 have cx2 : w9.cell? ⟨w3.heap.size, 2, none⟩ = some (.slice aoF n3 cF) := HBx9.out.cell (i := 2) rfl
 have lx := HBx9.out.lt
 have cn0 : w9.cell? ⟨w6.heap.size, 0, none⟩ = some (.slice aoSn n1n cSn) := HBn9.out.cell (i := 0) rfl
 have cn1 : w9.cell? ⟨w6.heap.size, 1, none⟩ = some (.slice aoNn n2n cNn) := HBn9.out.cell (i := 1) rfl
 have cn2 : w9.cell? ⟨w6.heap.size, 2, none⟩ = some (.slice aoFn n3n cFn) := HBn9.out.cell (i := 2) rfl
 have ln := HBn9.out.lt
 have cs0 : w9.cell? ⟨w8.heap.size, 0, none⟩ = some (.slice aoSs n1s cSs) := HBsn.out.cell (i := 0) rfl
 have cs1 : w9.cell? ⟨w8.heap.size, 1, none⟩ = some (.slice aoNs n2s cNs) := HBsn.out.cell (i := 1) rfl
 have cs2 : w9.cell? ⟨w8.heap.size, 2, none⟩ = some (.slice aoFs n3s cFs) := HBsn.out.cell (i := 2) rfl
 have ls := HBsn.out.lt
 go_wp2_with fail
 go_loopg [9, 10] n3 (fun g v u wr => ∃ (i : Nat) (fs : List Bool), g = n3 - i ∧ i ≤ n3 ∧ u = .int .i64 i ∧ Hid (fs = (D.fin.take i).map (!·)) ∧ Hid (Ext w9 wr ∧ OwnR wr w9.heap.size 4 1 boolC v fs))
 case atStart => exact ⟨0, [], rfl, Nat.zero_le _, rfl, hid rfl, hid ⟨Below.refl _ _, OwnR.nil _ _ _ _ _⟩⟩
 case round =>
  clear ca0 ca1 ca2 la cx0 cx1 cx2 lx cn0 cn1 cn2 ln cs0 cs1 cs2 ls
  obtain ⟨i, fs, rfl, hi, rfl, HFS, HO⟩ := hrel
  obtain ⟨ao9, c9, rfl, -⟩ := (OwnR.read HO.out.2 (fun _ => rfl)).form
  have hfl : fs.length = i := by
   rw [HFS.out, List.length_map, List.length_take, HWL.out.ok.fin, ← HLN.out.2.2]; omega
  rw [hfl] at HO ⊢
  have HFL := hid hfl
  clear hfl
  have x2 : wr.cell? ⟨w3.heap.size, 2, none⟩ = some (.slice aoF n3 cF) := (HBx9.out.ext HO.out.1).cell (i := 2) rfl
  have lx := (HBx9.out.ext HO.out.1).lt
  by_cases hlt : i < n3
  ·have q1 : decide (i < n3) = true := decide_eq_true hlt
   have q2 : decide ((i : Int) < (n3 : Int)) = true := decide_eq_true (by omega)
   obtain ⟨gF, oF, rfl, c3⟩ := (HD9.out.ext HO.out.1).finN (s := i) (by rw [HLN.out.2.1, ← HLN.out.2.2]; exact hlt)
   obtain ⟨b, hb⟩ : ∃ b, b = finD D i := ⟨_, rfl⟩
   rw [← hb] at c3
   have HBB := hid hb
   have i1 : (i : Int) < (n3 : Int) := by omega
   have i2 : (0 : Int) ≤ (i : Int) := by omega
   have hsz : w9.heap.size ≤ wr.heap.size := HO.out.1.size
   have hln : fs.length + 1 ≤ 1000000000 := by rw [HFL.out]; omega
   have HOW := hid HO.out.2
   clear hb
   go_wp2_with (with_reducible refine onOp 65 ?_
                go_loud (refine wpList_append_R elem_bool (fun _ => rfl) ones_bool HOW hsz hln (!b) _ rfl wr.heap.size rfl rfl _ _ rfl rfl rfl ?_)
                rintro g6 c6 v6 w6 rfl G1 G2)
   go_roundg (n3 - (i + 1))
   case measure => omega
   case rel =>
    refine ⟨i + 1, fs ++ [!b], rfl, by omega, by go_num, hid ?_, hid ⟨ext_grown HO.out.1 G2.out.1 (fun i hi => (HOW.out.lt i hi).1), G1.out⟩⟩
    rw [takeMap_snoc (!·) (HWL.out.ok.finAt (by rw [← HLN.out.2.2]; exact hlt)), ← HFS.out, HBB.out]
  ·obtain rfl : n3 = i := by omega
   have q1 : decide (n3 < n3) = false := decide_eq_false (by omega)
   have q2 : decide ((n3 : Int) < (n3 : Int)) = false := decide_eq_false (by omega)
   have HFS2 : Hid (fs = (notD D).fin) := hid (by
    show fs = D.fin.map (!·)
    rw [HFS.out, List.take_of_length_le]
    rw [HWL.out.ok.fin, ← HLN.out.2.2]
    exact Nat.le_refl _)
   obtain ⟨wl, hwl⟩ : ∃ x, x = wr := ⟨_, rfl⟩
   subst hwl
   have HFO : Hid (ReadR wl 1 boolC (.slice ao9 n3 c9) fs) := hid (by
    have h := OwnR.read HO.out.2 (fun _ => rfl)
    exact h)
   have HE10 : Hid (Ext w wl) := hid (HE9.out.trans ((HO.out.1).mono HE9.out.size))
   have HBa10 := hid (HBa9.out.ext (HO.out.1))
   have HBx10 := hid (HBx9.out.ext (HO.out.1))
   have HBn10 := hid (HBn9.out.ext (HO.out.1))
   have HBs10 := hid (HBsn.out.ext (HO.out.1))
   have HD10 := hid (HD9.out.ext (HO.out.1))
   have HN10 := hid (HN9.out.ext (HO.out.1))
   have HX10 := hid (HX9.out.ext (HO.out.1))
   go_upto_region 14 with fail
   have hS0 : Ext wl wl.drew := (Below.refl _ _).drew
   refine wp_region_heldL (fun w' => Ext wl w') (by kernel_rfl) ?_
   refine wpAnyH_takeN 0 27 (mk 28 1) rfl (by kernel_rfl) rfl (.int .i64 0) (fun _ _ _ h => h) (Or.inl ⟨rfl, fun w' hS => ?_⟩) hS0 (by simp only [Act.put, List.setIfInBounds_toArray, List.set_cons_succ, List.set_cons_zero]; rfl) ?_
   ·go_simp <;> with_reducible rfl
   refine wpAnyH_takeN 1 26 (mk 28 3) rfl (by kernel_rfl) rfl (.bool true) (fun _ _ _ h => h) (Or.inl ⟨rfl, fun w' hS => ?_⟩) hS0 (by simp only [Act.put, List.setIfInBounds_toArray, List.set_cons_succ, List.set_cons_zero]; rfl) ?_
   ·go_simp <;> with_reducible rfl
   refine wpAnyH_takeN 2 25 (mk 28 7) rfl (by kernel_rfl) rfl (.bool true) (fun _ _ _ h => h) (Or.inl ⟨rfl, fun w' hS => ?_⟩) hS0 (by simp only [Act.put, List.setIfInBounds_toArray, List.set_cons_succ, List.set_cons_zero]; rfl) ?_
   ·go_simp <;> with_reducible rfl
   refine wpAnyH_takeN 3 24 (mk 28 15) rfl (by kernel_rfl) rfl (.int .i64 0) (fun _ _ _ h => h) (Or.inl ⟨by go_simp, fun w' hS => ?_⟩) hS0 (by simp only [Act.put, List.setIfInBounds_toArray, List.set_cons_succ, List.set_cons_zero]; rfl) ?_
   ·go_simp <;> with_reducible rfl
   refine wpAnyH_takeN 4 23 (mk 28 31) rfl (by kernel_rfl) rfl (.bool true) (fun _ _ _ h => h) (Or.inl ⟨by go_simp, fun w' hS => ?_⟩) hS0 (by simp only [Act.put, List.setIfInBounds_toArray, List.set_cons_succ, List.set_cons_zero]; rfl) ?_
   ·go_simp <;> with_reducible rfl
   refine wpAnyH_takeN 5 22 (mk 28 63) rfl (by kernel_rfl) rfl (.bool true) (fun _ _ _ h => h) (Or.inl ⟨rfl, fun w' hS => ?_⟩) hS0 (by simp only [Act.put, List.setIfInBounds_toArray, List.set_cons_succ, List.set_cons_zero]; rfl) ?_
   ·go_simp <;> with_reducible rfl
   refine wpAnyH_takeN 6 21 (mk 28 127) rfl (by kernel_rfl) rfl (.bool true) (fun _ _ _ h => h) (Or.inl ⟨rfl, fun w' hS => ?_⟩) hS0 (by simp only [Act.put, List.setIfInBounds_toArray, List.set_cons_succ, List.set_cons_zero]; rfl) ?_
   ·go_simp <;> with_reducible rfl
   refine wpAnyH_takeN 7 20 (mk 28 255) rfl (by kernel_rfl) rfl (.agg #[.slice aoSn n1n cSn, .slice aoNn n2n cNn, .slice aoFn n3n cFn]) (fun _ _ _ h => h) (Or.inl ⟨by go_simp, fun w' hS => ?_⟩) hS0 (by simp only [Act.put, List.setIfInBounds_toArray, List.set_cons_succ, List.set_cons_zero]; rfl) ?_
   ·have d0 : w'.cell? ⟨w6.heap.size, 0, none⟩ = some (.slice aoSn n1n cSn) := (HBn10.out.ext hS).cell (i := 0) rfl
    have d1 : w'.cell? ⟨w6.heap.size, 1, none⟩ = some (.slice aoNn n2n cNn) := (HBn10.out.ext hS).cell (i := 1) rfl
    have d2 : w'.cell? ⟨w6.heap.size, 2, none⟩ = some (.slice aoFn n3n cFn) := (HBn10.out.ext hS).cell (i := 2) rfl
    go_simp <;> with_reducible rfl
   refine wpAnyH_takeN 9 19 (mk 28 767) rfl (by kernel_rfl) rfl (.pointer (some ⟨w3.heap.size, 0, none⟩)) (fun _ _ _ h => h) (Or.inl ⟨by go_simp, fun w' hS => ?_⟩) hS0 (by simp only [Act.put, List.setIfInBounds_toArray, List.set_cons_succ, List.set_cons_zero]; rfl) ?_
   ·go_simp <;> with_reducible rfl
   refine wpAnyH_takeN 10 18 (mk 28 1791) rfl (by kernel_rfl) rfl (.slice aoS n1 cS) (fun _ _ _ h => h) (Or.inl ⟨by go_simp, fun w' hS => ?_⟩) hS0 (by simp only [Act.put, List.setIfInBounds_toArray, List.set_cons_succ, List.set_cons_zero]; rfl) ?_
   ·have d0 : w'.cell? ⟨w3.heap.size, 0, none⟩ = some (.slice aoS n1 cS) := (HBx10.out.ext hS).cell (i := 0) rfl
    have d1 : w'.cell? ⟨w3.heap.size, 1, none⟩ = some (.slice aoN n2 cN) := (HBx10.out.ext hS).cell (i := 1) rfl
    have d2 : w'.cell? ⟨w3.heap.size, 2, none⟩ = some (.slice aoF n3 cF) := (HBx10.out.ext hS).cell (i := 2) rfl
    go_simp <;> with_reducible rfl
   refine wpAnyH_takeN 11 17 (mk 28 3839) rfl (by kernel_rfl) rfl (.pointer (some ⟨w3.heap.size, 1, none⟩)) (fun _ _ _ h => h) (Or.inl ⟨by go_simp, fun w' hS => ?_⟩) hS0 (by simp only [Act.put, List.setIfInBounds_toArray, List.set_cons_succ, List.set_cons_zero]; rfl) ?_
   ·go_simp <;> with_reducible rfl
   refine wpAnyH_takeN 12 16 (mk 28 7935) rfl (by kernel_rfl) rfl (.slice aoN n2 cN) (fun _ _ _ h => h) (Or.inl ⟨by go_simp, fun w' hS => ?_⟩) hS0 (by simp only [Act.put, List.setIfInBounds_toArray, List.set_cons_succ, List.set_cons_zero]; rfl) ?_
   ·have d0 : w'.cell? ⟨w3.heap.size, 0, none⟩ = some (.slice aoS n1 cS) := (HBx10.out.ext hS).cell (i := 0) rfl
    have d1 : w'.cell? ⟨w3.heap.size, 1, none⟩ = some (.slice aoN n2 cN) := (HBx10.out.ext hS).cell (i := 1) rfl
    have d2 : w'.cell? ⟨w3.heap.size, 2, none⟩ = some (.slice aoF n3 cF) := (HBx10.out.ext hS).cell (i := 2) rfl
    go_simp <;> with_reducible rfl
   refine wpAnyH_takeN 13 15 (mk 28 16127) rfl (by kernel_rfl) rfl (.slice ao9 n3 c9) (fun _ _ _ h => h) (Or.inl ⟨by go_simp, fun w' hS => ?_⟩) hS0 (by simp only [Act.put, List.setIfInBounds_toArray, List.set_cons_succ, List.set_cons_zero]; rfl) ?_
   ·go_simp <;> with_reducible rfl
   refine wpAnyH_takeN 14 14 (mk 28 32511) rfl (by kernel_rfl) rfl (.agg #[.slice aoS n1 cS, .slice aoN n2 cN, .slice ao9 n3 c9]) (fun _ _ _ h => h) (Or.inl ⟨by go_simp, fun w' hS => ?_⟩) hS0 (by simp only [Act.put, List.setIfInBounds_toArray, List.set_cons_succ, List.set_cons_zero]; rfl) ?_
   ·go_simp <;> with_reducible rfl
   refine wpAnyH_one 8 13 (mk 28 32767) rfl (by kernel_rfl) rfl ?_
   go_wp2_with fail
   refine (plain8_any _ _ _ _ _ _ _ _ _ _).mono ?_
   rintro e wa ⟨rfl, hx⟩
   have hSwa : Ext wl wa := hS0.trans (hx.mono hS0.size)
   clear hx
   go_wp2_with fail
   refine ⟨hSwa, ?_⟩
   have HSM : Hid (Calls Tryz.prog 19 #[.agg #[.slice aoSn n1n cSn, .slice aoNn n2n cNn, .slice aoFn n3n cFn], .agg #[.slice aoS n1 cS, .slice aoN n2 cN, .slice ao9 n3 c9]] wa fun e w' => e = .returned (.bool true) ∧ Ext wa w') := hid (by
    have hN := HN10.out.ext hSwa
    obtain ⟨us1, hP1⟩ := (HD10.out.ext hSwa).partsR
    have hV : DfaV wa (.agg #[.slice aoS n1 cS, .slice aoN n2 cN, .slice ao9 n3 c9]) (notD D).raw := ⟨_, _, _, us1, rfl, hP1.syms, hP1.next, hP1.len, hP1.rows, by
     have h := HFO.out.ext hSwa
     rw [HFS2.out] at h
     exact h⟩
    have W2 := hN.well
    have hLN : LenD (notD D).raw := lenD_of W2.ok (by have := W2.most; omega) (by have := hN.bnd.s; have : (notD D).syms.length ≤ 1000 := hN.bnd.s; omega) hN.bnd.b
    have h := same_any hN.at_ hV hLN hLN (okD_raw W2.ok) (okD_raw W2.ok)
    rw [sameD_iff.2 rfl] at h
    exact h)
   refine wpAnyH_one 15 12 (mk 28 65535) rfl (by kernel_rfl) rfl ?_
   go_wp2_with fail
   refine (HSM.out).mono ?_
   rintro e wb ⟨rfl, hx⟩
   have hSwb : Ext wl wb := hSwa.trans (hx.mono hSwa.size)
   clear hx
   go_wp2_with fail
   refine ⟨hSwb, ?_⟩
   refine wpAnyH_one 16 11 (mk 28 131071) rfl (by kernel_rfl) rfl ?_
   go_wp2_with fail
   refine ⟨hSwb, ?_⟩
   refine wpAnyH_one 17 10 (mk 28 262143) rfl (by kernel_rfl) rfl ?_
   go_wp2_with fail
   refine ⟨hSwb, ?_⟩
   refine wpAnyH_takeN 18 9 (mk 28 524287) rfl (by kernel_rfl) rfl (.agg #[.slice aoSs n1s cSs, .slice aoNs n2s cNs, .slice aoFs n3s cFs]) (fun _ _ _ h => h) (Or.inl ⟨by go_simp, fun w' hS => ?_⟩) hSwb (by simp only [Act.put, List.setIfInBounds_toArray, List.set_cons_succ, List.set_cons_zero]; rfl) ?_
   ·have d0 : w'.cell? ⟨w8.heap.size, 0, none⟩ = some (.slice aoSs n1s cSs) := (HBs10.out.ext hS).cell (i := 0) rfl
    have d1 : w'.cell? ⟨w8.heap.size, 1, none⟩ = some (.slice aoNs n2s cNs) := (HBs10.out.ext hS).cell (i := 1) rfl
    have d2 : w'.cell? ⟨w8.heap.size, 2, none⟩ = some (.slice aoFs n3s cFs) := (HBs10.out.ext hS).cell (i := 2) rfl
    go_simp <;> with_reducible rfl
   refine wpAnyH_takeN 20 8 (mk 28 1572863) rfl (by kernel_rfl) rfl (.agg #[.slice aoS n1 cS, .slice aoN n2 cN, .slice aoF n3 cF]) (fun _ _ _ h => h) (Or.inl ⟨by go_simp, fun w' hS => ?_⟩) hSwb (by simp only [Act.put, List.setIfInBounds_toArray, List.set_cons_succ, List.set_cons_zero]; rfl) ?_
   ·have d0 : w'.cell? ⟨w3.heap.size, 0, none⟩ = some (.slice aoS n1 cS) := (HBx10.out.ext hS).cell (i := 0) rfl
    have d1 : w'.cell? ⟨w3.heap.size, 1, none⟩ = some (.slice aoN n2 cN) := (HBx10.out.ext hS).cell (i := 1) rfl
    have d2 : w'.cell? ⟨w3.heap.size, 2, none⟩ = some (.slice aoF n3 cF) := (HBx10.out.ext hS).cell (i := 2) rfl
    go_simp <;> with_reducible rfl
   refine wpAnyH_one 19 7 (mk 28 2097151) rfl (by kernel_rfl) rfl ?_
   go_wp2_with fail
   refine (plain8_any _ _ _ _ _ _ _ _ _ _).mono ?_
   rintro e wc ⟨rfl, hx⟩
   have hSwc : Ext wl wc := hSwb.trans (hx.mono hSwb.size)
   clear hx
   go_wp2_with fail
   refine ⟨hSwc, ?_⟩
   refine wpAnyH_one 21 6 (mk 28 4194303) rfl (by kernel_rfl) rfl ?_
   go_wp2_with fail
   refine (rsmall_any (HD10.out.ext hSwc)).mono ?_
   rintro e wd ⟨hx, v21, Y2, rfl, hm2, hv2⟩
   have hSwd : Ext wl wd := hSwc.trans (hx.mono hSwc.size)
   clear hx
   have HM2 := hid hm2
   obtain ⟨aoSq, n1q, cSq, aoNq, n2q, cNq, aoFq, n3q, cFq, rfl⟩ := hv2.open_
   have HV2 := hid hv2
   clear hm2 hv2
   go_wp2_with fail
   refine ⟨hSwd, ?_⟩
   have HSM2 : Hid (Calls Tryz.prog 19 #[.agg #[.slice aoSs n1s cSs, .slice aoNs n2s cNs, .slice aoFs n3s cFs], .agg #[.slice aoSq n1q cSq, .slice aoNq n2q cNq, .slice aoFq n3q cFq]] wd fun e w' => e = .returned (.bool true) ∧ Ext wd w') := hid (by
    have hY : Y2 = Y := HM2.out.unique HMX.out rfl rfl
    have hv2 := HV2.out
    rw [hY] at hv2
    have hLY := min_lenD HMX.out HWL.out HBN.out
    have h := same_any (HX10.out.ext hSwd).at_ hv2 hLY hLY (okD_raw HMX.out.ok) (okD_raw HMX.out.ok)
    rw [sameD_iff.2 rfl] at h
    exact h)
   refine wpAnyH_one 22 5 (mk 28 8388607) rfl (by kernel_rfl) rfl ?_
   go_wp2_with fail
   refine (HSM2.out).mono ?_
   rintro e we ⟨rfl, hx⟩
   have hSwe : Ext wl we := hSwd.trans (hx.mono hSwd.size)
   clear hx
   go_wp2_with fail
   refine ⟨hSwe, ?_⟩
   refine wpAnyH_one 23 4 (mk 28 16777215) rfl (by kernel_rfl) rfl ?_
   go_wp2_with fail
   refine ⟨hSwe, ?_⟩
   refine wpAnyH_one 24 3 (mk 28 33554431) rfl (by kernel_rfl) rfl ?_
   go_wp2_with fail
   refine ⟨hSwe, ?_⟩
   refine wpAnyH_one 25 2 (mk 28 67108863) rfl (by kernel_rfl) rfl ?_
   go_wp2_with fail
   refine (awake8_any (HT.out.ext (HE10.out.trans (hSwe.mono HE10.out.size)))).mono ?_
   rintro e wf ⟨rfl, hx⟩
   have hSwf : Ext wl wf := hSwe.trans (hx.mono hSwe.size)
   clear hx
   go_wp2_with fail
   refine ⟨hSwf, ?_⟩
   refine wpAnyH_one 26 1 (mk 28 134217727) rfl (by kernel_rfl) rfl ?_
   go_wp2_with fail
   refine ⟨hSwf, ?_⟩
   refine wpAnyH_one 27 0 (mk 28 268435455) rfl (by kernel_rfl) rfl ?_
   go_wp2_with fail
   refine ⟨hSwf, ?_⟩
   refine wpAnyH_end (P := Tryz.prog) (by kernel_rfl) ?_
   go_wp2_with fail
   go_ret
   exact ⟨rfl, HE10.out.trans (hSwf.mono HE10.out.size)⟩
end Go.Proofs.YtngpjagpeblbjaaGreatDoor
