/-
  Walk of the law DfaRuns.
  What the laid table gives, and how an argument that is a regular expression, or a row of words, is opened.
  How an argument that is an automaton is opened.
  Memory of the reference's alike: the table of rows of Bools, the list of least states; cells of an automaton.
-/
import Derived.StillTailTactics
import Derived.Deep.Cut
import Derived.Recover
import Derived.Deep.RegionLaw
import Derived.Deep.AppendLies
import Derived.BigRegion
import Derived.BigQuiet
import Derived.Deep.QuietTactic
import Derived.Deep.RegionWith
import Derived.Test.YtngpjagpeblbjaaGreatDoorRows
import Derived.WalkKit
import Derived.WalkSpells
import Derived.WalkLawsBesides
import Derived.Deep.LoopGhost
import Derived.Deep.DeepCutAuto
import Derived.Laws.OwnMore
import Derived.DeepKeys5
import Derived.OwnWalk
import Derived.Deep.Draws
import Derived.Laws.ResultCell
import Derived.Laws.CopyRow
import Derived.Lib.TrailingZeros
import Derived.Outline
import Derived.Deep.CutBlock
import Derived.Deep.OwnRows
import Derived.StillTail
import Derived.StillTactics
import Derived.OrdersHeld
import Derived.Sort.OwnSorted
import Derived.Sort.Grow
import Derived.Lib.OwnBridge
import Derived.Shelf.Sort.Plain
import Derived.Shelf.Slices.Turned
import Derived.Ground.Names2Prog
import Derived.Shelf.Slices.ReverseS
import Derived.Shelf.Slices.Clone
import Derived.Shelf.Slices.CompactS
import Derived.Shelf.Slices.SearchI
import Derived.Shelf.Slices.Cells
import Derived.Shelf.Slices.In.SortNone
import Derived.Test.YtngpjagpeblbjaaGreatDoorProg
import Derived.Lib.SlicesCompact
import Derived.Lib.RowBridge
import Derived.Test.YtngpjagpeblbjaaGreatDoorU01
import Derived.Test.YtngpjagpeblbjaaGreatDoorU03
import Derived.ProofKit
import Derived.LaidMore
import Derived.OpenShut
import Derived.Stop.Joined
import Derived.Lib.SmallJoins
import Derived.Deep.SlicePairs
import Derived.Deep.Matrix
import Derived.Deep.Grids
import Derived.Deep.Strs
import Derived.Test.YtngpjagpeblbjaaGreatDoorU02
namespace Go.Proofs.YtngpjagpeblbjaaGreatDoor
open Go.RowKit Go.Spy Go.Heaped Go.Tour Go.Rx
set_option maxRecDepth 100000 in
set_option maxHeartbeats 4000000 in
theorem runs_out {w : World} {v : Value} {d : DR} (hD : DfaV w v d) (hL : LenD d) (aw : Option Addr) (lw cw : Nat) (hlw : lw ≤ 140737488351232) (hT : TabW w) (h : ¬ (SmallD d ∧ lw ≤ 10)) : Calls Tryz.prog 6 #[v, .slice aw lw cw] w (TruePost w) := by
 have HD0 := hid hD
 have HT := hid hT
 have HN := hid h
 have HL := hid hL
 obtain ⟨vS, vN, vF, us, rfl, hP⟩ := hD
 obtain ⟨aoS, cS, rfl, -⟩ := hP.syms.form
 obtain ⟨aoN, cN, rfl, -⟩ := hP.next.form
 obtain ⟨aoF, cF, rfl, -⟩ := hP.fin.form
 obtain ⟨n1, hn1⟩ : ∃ n, n = d.syms.length := ⟨_, rfl⟩
 obtain ⟨n2, hn2⟩ : ∃ n, n = us.length := ⟨_, rfl⟩
 obtain ⟨n3, hn3⟩ : ∃ n, n = d.fin.length := ⟨_, rfl⟩
 rw [← hn1, ← hn2, ← hn3] at HD0 ⊢
 clear hP hT h hL hn1 hn2 hn3
 obtain ⟨w1, hw1⟩ : ∃ u, u = w.alloc (.cells #[.slice aoS n1 cS, .slice aoN n2 cN, .slice aoF n3 cF] 26) := ⟨_, rfl⟩
 have ew1 : Ext w w1 := hw1 ▸ (Below.refl _ _).alloc (Nat.le_refl _) _
 have HBan : Hid (Blk w1 w.heap.size 26 #[.slice aoS n1 cS, .slice aoN n2 cN, .slice aoF n3 cF]) := hid (hw1 ▸ Blk.new _ _ _)
 have HWw1 := hid hw1
 have HE1 : Hid (Ext w w1) := hid (ew1)
 have HD1 := hid (HD0.out.ext (ew1))
 clear ew1 hw1
 go_enter Tryz.func6, Tryz.ntmps6
 go_wp2_with fail
 rw [← HWw1.out]
 refine (small8_any HD1.out HL.out).mono ?_
 rintro e w2 ⟨b, rfl, hb, hx⟩
 have HE2 : Hid (Ext w w2) := hid (HE1.out.trans ((hx).mono HE1.out.size))
 have HBa2 := hid (HBan.out.ext (hx))
 have HD2 := hid (HD1.out.ext (hx))
 clear hx
 have HBB := hid hb
 clear hb
 cases b
 ·have ca0 : w2.cell? ⟨w.heap.size, 0, none⟩ = some (.slice aoS n1 cS) := HBa2.out.cell (i := 0) rfl
  have ca1 : w2.cell? ⟨w.heap.size, 1, none⟩ = some (.slice aoN n2 cN) := HBa2.out.cell (i := 1) rfl
  have ca2 : w2.cell? ⟨w.heap.size, 2, none⟩ = some (.slice aoF n3 cF) := HBa2.out.cell (i := 2) rfl
  have la := HBa2.out.lt
  go_wp2_with fail
  refine (awake8_any (HT.out.ext HE2.out)).mono ?_
  rintro e w3 ⟨rfl, hx⟩
  clear ca0 ca1 ca2 la
  have HE3 : Hid (Ext w w3) := hid (HE2.out.trans ((hx).mono HE2.out.size))
  have HBa3 := hid (HBa2.out.ext (hx))
  have HD3 := hid (HD2.out.ext (hx))
  clear hx
  have ca0 : w3.cell? ⟨w.heap.size, 0, none⟩ = some (.slice aoS n1 cS) := HBa3.out.cell (i := 0) rfl
  have ca1 : w3.cell? ⟨w.heap.size, 1, none⟩ = some (.slice aoN n2 cN) := HBa3.out.cell (i := 1) rfl
  have ca2 : w3.cell? ⟨w.heap.size, 2, none⟩ = some (.slice aoF n3 cF) := HBa3.out.cell (i := 2) rfl
  have la := HBa3.out.lt
  go_wp2_with fail
  go_ret
  exact ⟨rfl, HE3.out⟩
 ·have HS := hid (HBB.out.1 (by first | exact rfl | trivial))
  have hw : 10 < lw := Nat.lt_of_not_le fun hle => HN.out ⟨HS.out, hle⟩
  have hw1 : decide (10 < lw) = true := decide_eq_true hw
  have hw2 : decide ((10 : Int) < (lw : Int)) = true := decide_eq_true (by omega)
  have ca0 : w2.cell? ⟨w.heap.size, 0, none⟩ = some (.slice aoS n1 cS) := HBa2.out.cell (i := 0) rfl
  have ca1 : w2.cell? ⟨w.heap.size, 1, none⟩ = some (.slice aoN n2 cN) := HBa2.out.cell (i := 1) rfl
  have ca2 : w2.cell? ⟨w.heap.size, 2, none⟩ = some (.slice aoF n3 cF) := HBa2.out.cell (i := 2) rfl
  have la := HBa2.out.lt
  go_wp2_with fail
  refine (awake8_any (HT.out.ext HE2.out)).mono ?_
  rintro e w3 ⟨rfl, hx⟩
  clear ca0 ca1 ca2 la
  have HE3 : Hid (Ext w w3) := hid (HE2.out.trans ((hx).mono HE2.out.size))
  have HBa3 := hid (HBa2.out.ext (hx))
  have HD3 := hid (HD2.out.ext (hx))
  clear hx
  have ca0 : w3.cell? ⟨w.heap.size, 0, none⟩ = some (.slice aoS n1 cS) := HBa3.out.cell (i := 0) rfl
  have ca1 : w3.cell? ⟨w.heap.size, 1, none⟩ = some (.slice aoN n2 cN) := HBa3.out.cell (i := 1) rfl
  have ca2 : w3.cell? ⟨w.heap.size, 2, none⟩ = some (.slice aoF n3 cF) := HBa3.out.cell (i := 2) rfl
  have la := HBa3.out.lt
  go_wp2_with fail
  go_ret
  exact ⟨rfl, HE3.out⟩
set_option maxRecDepth 100000 in
set_option maxHeartbeats 4000000 in
theorem runs_bad {w : World} {v : Value} {d : DR} (hD : DfaV w v d) (hL : LenD d) (aw : Option Addr) (lw cw : Nat) (hlw : lw ≤ 140737488351232) (hT : TabW w) (hS : SmallD d) (h10 : lw ≤ 10) (hE : checkE nameOk d ≠ 0) : Calls Tryz.prog 6 #[v, .slice aw lw cw] w (TruePost w) := by
 have HD0 := hid hD
 have HT := hid hT
 have HS := hid hS
 have HL := hid hL
 have HEE := hid hE
 obtain ⟨vS, vN, vF, us, rfl, hP⟩ := hD
 obtain ⟨aoS, cS, rfl, -⟩ := hP.syms.form
 obtain ⟨aoN, cN, rfl, -⟩ := hP.next.form
 obtain ⟨aoF, cF, rfl, -⟩ := hP.fin.form
 obtain ⟨n1, hn1⟩ : ∃ n, n = d.syms.length := ⟨_, rfl⟩
 obtain ⟨n2, hn2⟩ : ∃ n, n = us.length := ⟨_, rfl⟩
 obtain ⟨n3, hn3⟩ : ∃ n, n = d.fin.length := ⟨_, rfl⟩
 rw [← hn1, ← hn2, ← hn3] at HD0 ⊢
 obtain ⟨E, hE0⟩ : ∃ E, E = checkE nameOk d := ⟨_, rfl⟩
 have HE0 := hid hE0
 rw [← hE0] at hE
 have hw1 : decide (10 < lw) = false := decide_eq_false (by omega)
 have hw2 : decide ((10 : Int) < (lw : Int)) = false := decide_eq_false (by omega)
 have t0 : (((E : Nat) : Int) != 0) = true := by simp; omega
 have t1 : (((E : Nat) : Int) != (E : Nat)) = false := by simp
 have t2 : (((E : Nat) : Int) == (E : Nat)) = true := by simp
 clear hP hT hS hL hn1 hn2 hn3 hE0 hE
 obtain ⟨w1, hw1⟩ : ∃ u, u = w.alloc (.cells #[.slice aoS n1 cS, .slice aoN n2 cN, .slice aoF n3 cF] 26) := ⟨_, rfl⟩
 have ew1 : Ext w w1 := hw1 ▸ (Below.refl _ _).alloc (Nat.le_refl _) _
 have HBan : Hid (Blk w1 w.heap.size 26 #[.slice aoS n1 cS, .slice aoN n2 cN, .slice aoF n3 cF]) := hid (hw1 ▸ Blk.new _ _ _)
 have HWw1 := hid hw1
 have HE1 : Hid (Ext w w1) := hid (ew1)
 have HD1 := hid (HD0.out.ext (ew1))
 clear ew1 hw1
 go_enter Tryz.func6, Tryz.ntmps6
 go_wp2_with fail
 rw [← HWw1.out]
 refine (small8_any HD1.out HL.out).mono ?_
 rintro e w2 ⟨b, rfl, hb, hx⟩
 have HE2 : Hid (Ext w w2) := hid (HE1.out.trans ((hx).mono HE1.out.size))
 have HBa2 := hid (HBan.out.ext (hx))
 have HD2 := hid (HD1.out.ext (hx))
 clear hx
 obtain rfl : b = true := hb.2 HS.out
 clear hb
 have ca0 : w2.cell? ⟨w.heap.size, 0, none⟩ = some (.slice aoS n1 cS) := HBa2.out.cell (i := 0) rfl
 have ca1 : w2.cell? ⟨w.heap.size, 1, none⟩ = some (.slice aoN n2 cN) := HBa2.out.cell (i := 1) rfl
 have ca2 : w2.cell? ⟨w.heap.size, 2, none⟩ = some (.slice aoF n3 cF) := HBa2.out.cell (i := 2) rfl
 have la := HBa2.out.lt
 go_wp2_with fail
 refine (plain8_any _ _ _ _ _ _ _ _ _ _).mono ?_
 rintro e w3 ⟨rfl, hx⟩
 clear ca0 ca1 ca2 la
 have HE3 : Hid (Ext w w3) := hid (HE2.out.trans ((hx).mono HE2.out.size))
 have HBa3 := hid (HBa2.out.ext (hx))
 have HD3 := hid (HD2.out.ext (hx))
 clear hx
 have ca0 : w3.cell? ⟨w.heap.size, 0, none⟩ = some (.slice aoS n1 cS) := HBa3.out.cell (i := 0) rfl
 have ca1 : w3.cell? ⟨w.heap.size, 1, none⟩ = some (.slice aoN n2 cN) := HBa3.out.cell (i := 1) rfl
 have ca2 : w3.cell? ⟨w.heap.size, 2, none⟩ = some (.slice aoF n3 cF) := HBa3.out.cell (i := 2) rfl
 have la := HBa3.out.lt
 go_wp2_with fail
 obtain ⟨w4, hw4⟩ : ∃ u, u = w3.alloc (.cells #[.slice aoS n1 cS, .slice aoN n2 cN, .slice aoF n3 cF] 40) := ⟨_, rfl⟩
 have ew4 : Ext w3 w4 := hw4 ▸ (Below.refl _ _).alloc (Nat.le_refl _) _
 have HBxn : Hid (Blk w4 w3.heap.size 40 #[.slice aoS n1 cS, .slice aoN n2 cN, .slice aoF n3 cF]) := hid (hw4 ▸ Blk.new _ _ _)
 have HWw4 := hid hw4
 clear ca0 ca1 ca2 la
 have HE4 : Hid (Ext w w4) := hid (HE3.out.trans ((ew4).mono HE3.out.size))
 have HBa4 := hid (HBa3.out.ext (ew4))
 have HD4 := hid (HD3.out.ext (ew4))
 clear ew4 hw4
 rw [← HWw4.out]
 have HC := hid (rcheck8_any HD4.out HS.out.bnd)
 rw [← HE0.out] at HC
 refine (HC.out).mono ?_
 rintro e w5 ⟨rfl, hx⟩
 have HE5 : Hid (Ext w w5) := hid (HE4.out.trans ((hx).mono HE4.out.size))
 have HBa5 := hid (HBa4.out.ext (hx))
 have HBx5 := hid (HBxn.out.ext (hx))
 have HD5 := hid (HD4.out.ext (hx))
 clear hx
 clear HC
 have ca0 : w5.cell? ⟨w.heap.size, 0, none⟩ = some (.slice aoS n1 cS) := HBa5.out.cell (i := 0) rfl
 have ca1 : w5.cell? ⟨w.heap.size, 1, none⟩ = some (.slice aoN n2 cN) := HBa5.out.cell (i := 1) rfl
 have ca2 : w5.cell? ⟨w.heap.size, 2, none⟩ = some (.slice aoF n3 cF) := HBa5.out.cell (i := 2) rfl
 have la := HBa5.out.lt
 have cx0 : w5.cell? ⟨w3.heap.size, 0, none⟩ = some (.slice aoS n1 cS) := HBx5.out.cell (i := 0) rfl
 have cx1 : w5.cell? ⟨w3.heap.size, 1, none⟩ = some (.slice aoN n2 cN) := HBx5.out.cell (i := 1) rfl
 have cx2 : w5.cell? ⟨w3.heap.size, 2, none⟩ = some (.slice aoF n3 cF) := HBx5.out.cell (i := 2) rfl
 have lx := HBx5.out.lt
 go_wp2_with fail
 have HC := hid (least_bad HD5.out HS.out.bnd HEE.out)
 rw [← HE0.out] at HC
 refine (HC.out).mono ?_
 rintro e w6 ⟨rfl, hx⟩
 clear ca0 ca1 ca2 la cx0 cx1 cx2 lx
 have HE6 : Hid (Ext w w6) := hid (HE5.out.trans ((hx).mono HE5.out.size))
 have HBa6 := hid (HBa5.out.ext (hx))
 have HBx6 := hid (HBx5.out.ext (hx))
 have HD6 := hid (HD5.out.ext (hx))
 clear hx
 clear HC
 have ca0 : w6.cell? ⟨w.heap.size, 0, none⟩ = some (.slice aoS n1 cS) := HBa6.out.cell (i := 0) rfl
 have ca1 : w6.cell? ⟨w.heap.size, 1, none⟩ = some (.slice aoN n2 cN) := HBa6.out.cell (i := 1) rfl
 have ca2 : w6.cell? ⟨w.heap.size, 2, none⟩ = some (.slice aoF n3 cF) := HBa6.out.cell (i := 2) rfl
 have la := HBa6.out.lt
 have cx0 : w6.cell? ⟨w3.heap.size, 0, none⟩ = some (.slice aoS n1 cS) := HBx6.out.cell (i := 0) rfl
 have cx1 : w6.cell? ⟨w3.heap.size, 1, none⟩ = some (.slice aoN n2 cN) := HBx6.out.cell (i := 1) rfl
 have cx2 : w6.cell? ⟨w3.heap.size, 2, none⟩ = some (.slice aoF n3 cF) := HBx6.out.cell (i := 2) rfl
 have lx := HBx6.out.lt
 go_wp2_with fail
 have HC := hid (check8_any HD6.out HS.out.bnd)
 rw [← HE0.out] at HC
 refine (HC.out).mono ?_
 rintro e w7 ⟨rfl, hx⟩
 clear ca0 ca1 ca2 la cx0 cx1 cx2 lx
 have HE7 : Hid (Ext w w7) := hid (HE6.out.trans ((hx).mono HE6.out.size))
 have HBa7 := hid (HBa6.out.ext (hx))
 have HBx7 := hid (HBx6.out.ext (hx))
 have HD7 := hid (HD6.out.ext (hx))
 clear hx
 clear HC
 have ca0 : w7.cell? ⟨w.heap.size, 0, none⟩ = some (.slice aoS n1 cS) := HBa7.out.cell (i := 0) rfl
 have ca1 : w7.cell? ⟨w.heap.size, 1, none⟩ = some (.slice aoN n2 cN) := HBa7.out.cell (i := 1) rfl
 have ca2 : w7.cell? ⟨w.heap.size, 2, none⟩ = some (.slice aoF n3 cF) := HBa7.out.cell (i := 2) rfl
 have la := HBa7.out.lt
 have cx0 : w7.cell? ⟨w3.heap.size, 0, none⟩ = some (.slice aoS n1 cS) := HBx7.out.cell (i := 0) rfl
 have cx1 : w7.cell? ⟨w3.heap.size, 1, none⟩ = some (.slice aoN n2 cN) := HBx7.out.cell (i := 1) rfl
 have cx2 : w7.cell? ⟨w3.heap.size, 2, none⟩ = some (.slice aoF n3 cF) := HBx7.out.cell (i := 2) rfl
 have lx := HBx7.out.lt
 go_wp2_with fail
 refine (match_bad HD7.out HS.out.bnd HEE.out _).mono ?_
 rintro e w8 ⟨rfl, hx⟩
 clear ca0 ca1 ca2 la cx0 cx1 cx2 lx
 have HE8 : Hid (Ext w w8) := hid (HE7.out.trans ((hx).mono HE7.out.size))
 have HBa8 := hid (HBa7.out.ext (hx))
 have HBx8 := hid (HBx7.out.ext (hx))
 have HD8 := hid (HD7.out.ext (hx))
 clear hx
 have ca0 : w8.cell? ⟨w.heap.size, 0, none⟩ = some (.slice aoS n1 cS) := HBa8.out.cell (i := 0) rfl
 have ca1 : w8.cell? ⟨w.heap.size, 1, none⟩ = some (.slice aoN n2 cN) := HBa8.out.cell (i := 1) rfl
 have ca2 : w8.cell? ⟨w.heap.size, 2, none⟩ = some (.slice aoF n3 cF) := HBa8.out.cell (i := 2) rfl
 have la := HBa8.out.lt
 have cx0 : w8.cell? ⟨w3.heap.size, 0, none⟩ = some (.slice aoS n1 cS) := HBx8.out.cell (i := 0) rfl
 have cx1 : w8.cell? ⟨w3.heap.size, 1, none⟩ = some (.slice aoN n2 cN) := HBx8.out.cell (i := 1) rfl
 have cx2 : w8.cell? ⟨w3.heap.size, 2, none⟩ = some (.slice aoF n3 cF) := HBx8.out.cell (i := 2) rfl
 have lx := HBx8.out.lt
 go_wp2_with fail
 refine (awake8_any (HT.out.ext HE8.out)).mono ?_
 rintro e w9 ⟨rfl, hx⟩
 clear ca0 ca1 ca2 la cx0 cx1 cx2 lx
 have HE9 : Hid (Ext w w9) := hid (HE8.out.trans ((hx).mono HE8.out.size))
 have HBa9 := hid (HBa8.out.ext (hx))
 have HBx9 := hid (HBx8.out.ext (hx))
 have HD9 := hid (HD8.out.ext (hx))
 clear hx
 have ca0 : w9.cell? ⟨w.heap.size, 0, none⟩ = some (.slice aoS n1 cS) := HBa9.out.cell (i := 0) rfl
 have ca1 : w9.cell? ⟨w.heap.size, 1, none⟩ = some (.slice aoN n2 cN) := HBa9.out.cell (i := 1) rfl
 have ca2 : w9.cell? ⟨w.heap.size, 2, none⟩ = some (.slice aoF n3 cF) := HBa9.out.cell (i := 2) rfl
 have la := HBa9.out.lt
 have cx0 : w9.cell? ⟨w3.heap.size, 0, none⟩ = some (.slice aoS n1 cS) := HBx9.out.cell (i := 0) rfl
 have cx1 : w9.cell? ⟨w3.heap.size, 1, none⟩ = some (.slice aoN n2 cN) := HBx9.out.cell (i := 1) rfl
 have cx2 : w9.cell? ⟨w3.heap.size, 2, none⟩ = some (.slice aoF n3 cF) := HBx9.out.cell (i := 2) rfl
 have lx := HBx9.out.lt
 go_wp2_with fail
 go_ret
 exact ⟨rfl, HE9.out⟩
set_option maxRecDepth 100000 in
set_option maxHeartbeats 4000000 in
theorem runs_in {w : World} {v vw : Value} {D : DA} {ws : List ByteArray} (hD : DfaW w v D) (hS : SmallD D.raw) (hW : ReadR w 1 strC vw ws) (h10 : ws.length ≤ 10) (hT : TabW w) : Calls Tryz.prog 6 #[v, vw] w (TruePost w) := by
 have HD0 := hid hD
 have HT := hid hT
 have HS := hid hS
 have HW0 := hid hW
 have HWL := hid hD.well
 have HBN := hid hD.bnd
 have HL : Hid (LenD D.raw) := hid hS.len
 have hv := hD.at_
 obtain ⟨vS, vN, vF, us, rfl, -⟩ := hv
 obtain ⟨aoS, n1, cS, aoN, n2, cN, aoF, n3, cF, hxx⟩ := hD.open_
 rw [hxx] at HD0 ⊢
 obtain ⟨aw, cw, rfl, -⟩ := hW.form
 obtain ⟨lw, hlw⟩ : ∃ n, n = ws.length := ⟨_, rfl⟩
 rw [← hlw] at HW0 h10 ⊢
 have HLW := hid hlw
 have hw1 : decide (10 < lw) = false := decide_eq_false (by omega)
 have hw2 : decide ((10 : Int) < (lw : Int)) = false := decide_eq_false (by omega)
 clear hD hS hW hT hxx hlw
 obtain ⟨w1, hw1⟩ : ∃ u, u = w.alloc (.cells #[.slice aoS n1 cS, .slice aoN n2 cN, .slice aoF n3 cF] 26) := ⟨_, rfl⟩
 have ew1 : Ext w w1 := hw1 ▸ (Below.refl _ _).alloc (Nat.le_refl _) _
 have HBan : Hid (Blk w1 w.heap.size 26 #[.slice aoS n1 cS, .slice aoN n2 cN, .slice aoF n3 cF]) := hid (hw1 ▸ Blk.new _ _ _)
 have HWw1 := hid hw1
 have HE1 : Hid (Ext w w1) := hid (ew1)
 have HD1 := hid (HD0.out.ext (ew1))
 have HW1 := hid (HW0.out.ext (ew1))
 clear ew1 hw1
 go_enter Tryz.func6, Tryz.ntmps6
 go_wp2_with fail
 rw [← HWw1.out]
 refine (small8_any HD1.out.at_ HL.out).mono ?_
 rintro e w2 ⟨b, rfl, hb, hx⟩
 have HE2 : Hid (Ext w w2) := hid (HE1.out.trans ((hx).mono HE1.out.size))
 have HBa2 := hid (HBan.out.ext (hx))
 have HD2 := hid (HD1.out.ext (hx))
 have HW2 := hid (HW1.out.ext (hx))
 clear hx
 obtain rfl : b = true := hb.2 HS.out
 clear hb
 have ca0 : w2.cell? ⟨w.heap.size, 0, none⟩ = some (.slice aoS n1 cS) := HBa2.out.cell (i := 0) rfl
 have ca1 : w2.cell? ⟨w.heap.size, 1, none⟩ = some (.slice aoN n2 cN) := HBa2.out.cell (i := 1) rfl
 have ca2 : w2.cell? ⟨w.heap.size, 2, none⟩ = some (.slice aoF n3 cF) := HBa2.out.cell (i := 2) rfl
 have la := HBa2.out.lt
 go_wp2_with fail
 refine (plain8_any _ _ _ _ _ _ _ _ _ _).mono ?_
 rintro e w3 ⟨rfl, hx⟩
 clear ca0 ca1 ca2 la
 have HE3 : Hid (Ext w w3) := hid (HE2.out.trans ((hx).mono HE2.out.size))
 have HBa3 := hid (HBa2.out.ext (hx))
 have HD3 := hid (HD2.out.ext (hx))
 have HW3 := hid (HW2.out.ext (hx))
 clear hx
 have ca0 : w3.cell? ⟨w.heap.size, 0, none⟩ = some (.slice aoS n1 cS) := HBa3.out.cell (i := 0) rfl
 have ca1 : w3.cell? ⟨w.heap.size, 1, none⟩ = some (.slice aoN n2 cN) := HBa3.out.cell (i := 1) rfl
 have ca2 : w3.cell? ⟨w.heap.size, 2, none⟩ = some (.slice aoF n3 cF) := HBa3.out.cell (i := 2) rfl
 have la := HBa3.out.lt
 go_wp2_with fail
 obtain ⟨w4, hw4⟩ : ∃ u, u = w3.alloc (.cells #[.slice aoS n1 cS, .slice aoN n2 cN, .slice aoF n3 cF] 40) := ⟨_, rfl⟩
 have ew4 : Ext w3 w4 := hw4 ▸ (Below.refl _ _).alloc (Nat.le_refl _) _
 have HBxn : Hid (Blk w4 w3.heap.size 40 #[.slice aoS n1 cS, .slice aoN n2 cN, .slice aoF n3 cF]) := hid (hw4 ▸ Blk.new _ _ _)
 have HWw4 := hid hw4
 clear ca0 ca1 ca2 la
 have HE4 : Hid (Ext w w4) := hid (HE3.out.trans ((ew4).mono HE3.out.size))
 have HBa4 := hid (HBa3.out.ext (ew4))
 have HD4 := hid (HD3.out.ext (ew4))
 have HW4 := hid (HW3.out.ext (ew4))
 clear ew4 hw4
 rw [← HWw4.out]
 have HC := hid (rcheck8_any HD4.out.at_ HS.out.bnd)
 rw [well_check HWL.out] at HC
 refine (HC.out).mono ?_
 rintro e w5 ⟨rfl, hx⟩
 have HE5 : Hid (Ext w w5) := hid (HE4.out.trans ((hx).mono HE4.out.size))
 have HBa5 := hid (HBa4.out.ext (hx))
 have HBx5 := hid (HBxn.out.ext (hx))
 have HD5 := hid (HD4.out.ext (hx))
 have HW5 := hid (HW4.out.ext (hx))
 clear hx
 clear HC
 have ca0 : w5.cell? ⟨w.heap.size, 0, none⟩ = some (.slice aoS n1 cS) := HBa5.out.cell (i := 0) rfl
 have ca1 : w5.cell? ⟨w.heap.size, 1, none⟩ = some (.slice aoN n2 cN) := HBa5.out.cell (i := 1) rfl
 have ca2 : w5.cell? ⟨w.heap.size, 2, none⟩ = some (.slice aoF n3 cF) := HBa5.out.cell (i := 2) rfl
 have la := HBa5.out.lt
 have cx0 : w5.cell? ⟨w3.heap.size, 0, none⟩ = some (.slice aoS n1 cS) := HBx5.out.cell (i := 0) rfl
 have cx1 : w5.cell? ⟨w3.heap.size, 1, none⟩ = some (.slice aoN n2 cN) := HBx5.out.cell (i := 1) rfl
 have cx2 : w5.cell? ⟨w3.heap.size, 2, none⟩ = some (.slice aoF n3 cF) := HBx5.out.cell (i := 2) rfl
 have lx := HBx5.out.lt
 go_wp2_with fail
 refine (least_any HD5.out).mono ?_
 rintro e w6 ⟨hx, ⟨v5, u, rfl, hR, hul, hu1, hu2, hu3⟩ | ⟨rfl, hno⟩⟩
 ·clear ca0 ca1 ca2 la cx0 cx1 cx2 lx
  have HE6 : Hid (Ext w w6) := hid (HE5.out.trans ((hx).mono HE5.out.size))
  have HBa6 := hid (HBa5.out.ext (hx))
  have HBx6 := hid (HBx5.out.ext (hx))
  have HD6 := hid (HD5.out.ext (hx))
  have HW6 := hid (HW5.out.ext (hx))
  clear hx
  have HU1 := hid hu1
  have HU2 := hid hu2
  have HU3 := hid hu3
  obtain ⟨ao5, c5, rfl, -⟩ := hR.form
  have HR0 := hid hR
  obtain ⟨l5, hl5⟩ : ∃ n, n = (wordsOf D.syms u).length := ⟨_, rfl⟩
  rw [← hl5] at HR0 ⊢
  have HL5 := hid hl5
  have hl51000 : l5 ≤ 1000 := by rw [hl5, wordsOf_length hu1]; exact hul
  have HMU : Hid (MildS (wordsOf D.syms u)) := hid (words_mild HBN.out hu1 (by omega))
  clear hu1 hu2 hu3 hR hl5 hul
  have ca0 : w6.cell? ⟨w.heap.size, 0, none⟩ = some (.slice aoS n1 cS) := HBa6.out.cell (i := 0) rfl
  have ca1 : w6.cell? ⟨w.heap.size, 1, none⟩ = some (.slice aoN n2 cN) := HBa6.out.cell (i := 1) rfl
  have ca2 : w6.cell? ⟨w.heap.size, 2, none⟩ = some (.slice aoF n3 cF) := HBa6.out.cell (i := 2) rfl
  have la := HBa6.out.lt
  have cx0 : w6.cell? ⟨w3.heap.size, 0, none⟩ = some (.slice aoS n1 cS) := HBx6.out.cell (i := 0) rfl
  have cx1 : w6.cell? ⟨w3.heap.size, 1, none⟩ = some (.slice aoN n2 cN) := HBx6.out.cell (i := 1) rfl
  have cx2 : w6.cell? ⟨w3.heap.size, 2, none⟩ = some (.slice aoF n3 cF) := HBx6.out.cell (i := 2) rfl
  have lx := HBx6.out.lt
  go_wp2_with fail
  have HC := hid (check8_any HD6.out.at_ HS.out.bnd)
  rw [well_check HWL.out] at HC
  refine (HC.out).mono ?_
  rintro e w7 ⟨rfl, hx⟩
  clear ca0 ca1 ca2 la cx0 cx1 cx2 lx
  have HE7 : Hid (Ext w w7) := hid (HE6.out.trans ((hx).mono HE6.out.size))
  have HBa7 := hid (HBa6.out.ext (hx))
  have HBx7 := hid (HBx6.out.ext (hx))
  have HD7 := hid (HD6.out.ext (hx))
  have HW7 := hid (HW6.out.ext (hx))
  have HR7 := hid (HR0.out.ext (hx))
  clear hx
  clear HC
  have ca0 : w7.cell? ⟨w.heap.size, 0, none⟩ = some (.slice aoS n1 cS) := HBa7.out.cell (i := 0) rfl
  have ca1 : w7.cell? ⟨w.heap.size, 1, none⟩ = some (.slice aoN n2 cN) := HBa7.out.cell (i := 1) rfl
  have ca2 : w7.cell? ⟨w.heap.size, 2, none⟩ = some (.slice aoF n3 cF) := HBa7.out.cell (i := 2) rfl
  have la := HBa7.out.lt
  have cx0 : w7.cell? ⟨w3.heap.size, 0, none⟩ = some (.slice aoS n1 cS) := HBx7.out.cell (i := 0) rfl
  have cx1 : w7.cell? ⟨w3.heap.size, 1, none⟩ = some (.slice aoN n2 cN) := HBx7.out.cell (i := 1) rfl
  have cx2 : w7.cell? ⟨w3.heap.size, 2, none⟩ = some (.slice aoF n3 cF) := HBx7.out.cell (i := 2) rfl
  have lx := HBx7.out.lt
  go_wp2_with fail
  refine (rfirst_any HD7.out (side_nil _ _ 0 none)).mono ?_
  intro e w8 hq
  obtain ⟨v7, rfl, hR7, hx⟩ := first_some HWL.out HU1.out HU2.out HU3.out hq
  clear hq
  obtain ⟨ao7, c7, rfl, -⟩ := hR7.form
  have HS0 := hid hR7
  rw [← HL5.out] at HS0 ⊢
  clear hR7
  clear ca0 ca1 ca2 la cx0 cx1 cx2 lx
  have HE8 : Hid (Ext w w8) := hid (HE7.out.trans ((hx).mono HE7.out.size))
  have HBa8 := hid (HBa7.out.ext (hx))
  have HBx8 := hid (HBx7.out.ext (hx))
  have HD8 := hid (HD7.out.ext (hx))
  have HW8 := hid (HW7.out.ext (hx))
  have HR8 := hid (HR7.out.ext (hx))
  clear hx
  have ca0 : w8.cell? ⟨w.heap.size, 0, none⟩ = some (.slice aoS n1 cS) := HBa8.out.cell (i := 0) rfl
  have ca1 : w8.cell? ⟨w.heap.size, 1, none⟩ = some (.slice aoN n2 cN) := HBa8.out.cell (i := 1) rfl
  have ca2 : w8.cell? ⟨w.heap.size, 2, none⟩ = some (.slice aoF n3 cF) := HBa8.out.cell (i := 2) rfl
  have la := HBa8.out.lt
  have cx0 : w8.cell? ⟨w3.heap.size, 0, none⟩ = some (.slice aoS n1 cS) := HBx8.out.cell (i := 0) rfl
  have cx1 : w8.cell? ⟨w3.heap.size, 1, none⟩ = some (.slice aoN n2 cN) := HBx8.out.cell (i := 1) rfl
  have cx2 : w8.cell? ⟨w3.heap.size, 2, none⟩ = some (.slice aoF n3 cF) := HBx8.out.cell (i := 2) rfl
  have lx := HBx8.out.lt
  go_wp2_with fail
  have HTX := hid (texts_rd (us := wordsOf D.syms u) (vs := wordsOf D.syms u) (v1 := .slice ao5 l5 c5) (v2 := .slice ao7 l5 c7) HR8.out HS0.out HMU.out HMU.out)
  rw [decide_eq_true rfl] at HTX
  refine (HTX.out).mono ?_
  rintro e w9 ⟨rfl, hx⟩
  clear ca0 ca1 ca2 la cx0 cx1 cx2 lx
  have HE9 : Hid (Ext w w9) := hid (HE8.out.trans ((hx).mono HE8.out.size))
  have HBa9 := hid (HBa8.out.ext (hx))
  have HBx9 := hid (HBx8.out.ext (hx))
  have HD9 := hid (HD8.out.ext (hx))
  have HW9 := hid (HW8.out.ext (hx))
  have HR9 := hid (HR8.out.ext (hx))
  have HS79 := hid (HS0.out.ext (hx))
  clear hx
  have ca0 : w9.cell? ⟨w.heap.size, 0, none⟩ = some (.slice aoS n1 cS) := HBa9.out.cell (i := 0) rfl
  have ca1 : w9.cell? ⟨w.heap.size, 1, none⟩ = some (.slice aoN n2 cN) := HBa9.out.cell (i := 1) rfl
  have ca2 : w9.cell? ⟨w.heap.size, 2, none⟩ = some (.slice aoF n3 cF) := HBa9.out.cell (i := 2) rfl
  have la := HBa9.out.lt
  have cx0 : w9.cell? ⟨w3.heap.size, 0, none⟩ = some (.slice aoS n1 cS) := HBx9.out.cell (i := 0) rfl
  have cx1 : w9.cell? ⟨w3.heap.size, 1, none⟩ = some (.slice aoN n2 cN) := HBx9.out.cell (i := 1) rfl
  have cx2 : w9.cell? ⟨w3.heap.size, 2, none⟩ = some (.slice aoF n3 cF) := HBx9.out.cell (i := 2) rfl
  have lx := HBx9.out.lt
  go_upto_region 13 with fail
  obtain ⟨mt, hmt⟩ : ∃ b, b = matchD D ws := ⟨_, rfl⟩
  have HMT := hid hmt
  clear hmt
  have HM1 : Hid (∀ W, Ext w9 W → Calls Tryz.prog 26 #[.agg #[.slice aoS n1 cS, .slice aoN n2 cN, .slice aoF n3 cF], .slice aw lw cw] W fun e w' => e = .returned (.bool mt) ∧ Ext W w') := hid fun W hW => by
   have h := dmatch_any (HD9.out.ext hW) (l := ws) (HW9.out.ext hW) (by rw [← HLW.out]; omega)
   rw [← HMT.out] at h
   exact h
  have HM2 : Hid (∀ W, Ext w9 W → Calls Tryz.prog 35 #[.agg #[.slice aoS n1 cS, .slice aoN n2 cN, .slice aoF n3 cF], .slice aw lw cw] W fun e w' => e = .returned (.bool mt) ∧ Ext W w') := hid fun W hW => by
   have h := rmatch_any (HD9.out.ext hW) (l := ws) (HW9.out.ext hW) (by rw [← HLW.out]; omega)
   rw [← HMT.out] at h
   exact h
  have hS0 : Ext w9 w9.drew := (Below.refl _ _).drew
  have tmm : (mt == mt) = true := by simp
  refine wp_region_heldL (fun w' => Ext w9 w') (by kernel_rfl) ?_
  refine wpAnyH_takeN 0 10 (mk 11 1) rfl (by kernel_rfl) rfl (.agg #[.slice aoS n1 cS, .slice aoN n2 cN, .slice aoF n3 cF]) (fun _ _ _ h => h) (Or.inl ⟨rfl, fun w' hS => ?_⟩) hS0 (by simp only [Act.put, List.setIfInBounds_toArray, List.set_cons_succ, List.set_cons_zero]; rfl) ?_
  ·have d0 : w'.cell? ⟨w.heap.size, 0, none⟩ = some (.slice aoS n1 cS) := (HBa9.out.ext hS).cell (i := 0) rfl
   have d1 : w'.cell? ⟨w.heap.size, 1, none⟩ = some (.slice aoN n2 cN) := (HBa9.out.ext hS).cell (i := 1) rfl
   have d2 : w'.cell? ⟨w.heap.size, 2, none⟩ = some (.slice aoF n3 cF) := (HBa9.out.ext hS).cell (i := 2) rfl
   go_simp <;> with_reducible rfl
  refine wpAnyH_takeN 1 9 (mk 11 3) rfl (by kernel_rfl) rfl (.slice aw lw cw) (fun _ _ _ h => h) (Or.inl ⟨rfl, fun w' hS => ?_⟩) hS0 (by simp only [Act.put, List.setIfInBounds_toArray, List.set_cons_succ, List.set_cons_zero]; rfl) ?_
  ·go_simp <;> with_reducible rfl
  refine wpAnyH_takeN 3 8 (mk 11 11) rfl (by kernel_rfl) rfl (.agg #[.slice aoS n1 cS, .slice aoN n2 cN, .slice aoF n3 cF]) (fun _ _ _ h => h) (Or.inl ⟨rfl, fun w' hS => ?_⟩) hS0 (by simp only [Act.put, List.setIfInBounds_toArray, List.set_cons_succ, List.set_cons_zero]; rfl) ?_
  ·have d0 : w'.cell? ⟨w3.heap.size, 0, none⟩ = some (.slice aoS n1 cS) := (HBx9.out.ext hS).cell (i := 0) rfl
   have d1 : w'.cell? ⟨w3.heap.size, 1, none⟩ = some (.slice aoN n2 cN) := (HBx9.out.ext hS).cell (i := 1) rfl
   have d2 : w'.cell? ⟨w3.heap.size, 2, none⟩ = some (.slice aoF n3 cF) := (HBx9.out.ext hS).cell (i := 2) rfl
   go_simp <;> with_reducible rfl
  refine wpAnyH_takeN 4 7 (mk 11 27) rfl (by kernel_rfl) rfl (.slice aw lw cw) (fun _ _ _ h => h) (Or.inl ⟨rfl, fun w' hS => ?_⟩) hS0 (by simp only [Act.put, List.setIfInBounds_toArray, List.set_cons_succ, List.set_cons_zero]; rfl) ?_
  ·go_simp <;> with_reducible rfl
  refine wpAnyH_one 2 6 (mk 11 31) rfl (by kernel_rfl) rfl ?_
  go_wp2_with fail
  refine (HM1.out _ hS0).mono ?_
  rintro e wb ⟨rfl, hx⟩
  have hSwb : Ext w9 wb := hS0.trans (hx.mono hS0.size)
  clear hx
  go_wp2_with fail
  refine ⟨hSwb, ?_⟩
  refine wpAnyH_one 5 5 (mk 11 63) rfl (by kernel_rfl) rfl ?_
  go_wp2_with fail
  refine (HM2.out _ hSwb).mono ?_
  rintro e wc ⟨rfl, hx⟩
  have hSwc : Ext w9 wc := hSwb.trans (hx.mono hSwb.size)
  clear hx
  go_wp2_with fail
  refine ⟨hSwc, ?_⟩
  refine wpAnyH_one 6 4 (mk 11 127) rfl (by kernel_rfl) rfl ?_
  go_wp2_with fail
  refine ⟨hSwc, ?_⟩
  refine wpAnyH_one 7 3 (mk 11 255) rfl (by kernel_rfl) rfl ?_
  go_wp2_with fail
  refine ⟨hSwc, ?_⟩
  refine wpAnyH_one 8 2 (mk 11 511) rfl (by kernel_rfl) rfl ?_
  go_wp2_with fail
  refine (awake8_any (HT.out.ext (HE9.out.trans (hSwc.mono HE9.out.size)))).mono ?_
  rintro e wa ⟨rfl, hx⟩
  have hSa : Ext w9 wa := hSwc.trans (hx.mono hSwc.size)
  clear hx
  go_wp2_with fail
  refine ⟨hSa, ?_⟩
  refine wpAnyH_one 9 1 (mk 11 1023) rfl (by kernel_rfl) rfl ?_
  go_wp2_with fail
  refine ⟨hSa, ?_⟩
  refine wpAnyH_one 10 0 (mk 11 2047) rfl (by kernel_rfl) rfl ?_
  go_wp2_with fail
  refine ⟨hSa, ?_⟩
  refine wpAnyH_end (P := Tryz.prog) (by kernel_rfl) ?_
  go_wp2_with fail
  go_ret
  exact ⟨rfl, HE9.out.trans (hSa.mono HE9.out.size)⟩
 ·clear ca0 ca1 ca2 la cx0 cx1 cx2 lx
  have HE6 : Hid (Ext w w6) := hid (HE5.out.trans ((hx).mono HE5.out.size))
  have HBa6 := hid (HBa5.out.ext (hx))
  have HBx6 := hid (HBx5.out.ext (hx))
  have HD6 := hid (HD5.out.ext (hx))
  have HW6 := hid (HW5.out.ext (hx))
  clear hx
  have HNO := hid hno
  clear hno
  have ca0 : w6.cell? ⟨w.heap.size, 0, none⟩ = some (.slice aoS n1 cS) := HBa6.out.cell (i := 0) rfl
  have ca1 : w6.cell? ⟨w.heap.size, 1, none⟩ = some (.slice aoN n2 cN) := HBa6.out.cell (i := 1) rfl
  have ca2 : w6.cell? ⟨w.heap.size, 2, none⟩ = some (.slice aoF n3 cF) := HBa6.out.cell (i := 2) rfl
  have la := HBa6.out.lt
  have cx0 : w6.cell? ⟨w3.heap.size, 0, none⟩ = some (.slice aoS n1 cS) := HBx6.out.cell (i := 0) rfl
  have cx1 : w6.cell? ⟨w3.heap.size, 1, none⟩ = some (.slice aoN n2 cN) := HBx6.out.cell (i := 1) rfl
  have cx2 : w6.cell? ⟨w3.heap.size, 2, none⟩ = some (.slice aoF n3 cF) := HBx6.out.cell (i := 2) rfl
  have lx := HBx6.out.lt
  go_wp2_with fail
  have HC := hid (check8_any HD6.out.at_ HS.out.bnd)
  rw [well_check HWL.out] at HC
  refine (HC.out).mono ?_
  rintro e w7 ⟨rfl, hx⟩
  clear ca0 ca1 ca2 la cx0 cx1 cx2 lx
  have HE7 : Hid (Ext w w7) := hid (HE6.out.trans ((hx).mono HE6.out.size))
  have HBa7 := hid (HBa6.out.ext (hx))
  have HBx7 := hid (HBx6.out.ext (hx))
  have HD7 := hid (HD6.out.ext (hx))
  have HW7 := hid (HW6.out.ext (hx))
  clear hx
  clear HC
  have ca0 : w7.cell? ⟨w.heap.size, 0, none⟩ = some (.slice aoS n1 cS) := HBa7.out.cell (i := 0) rfl
  have ca1 : w7.cell? ⟨w.heap.size, 1, none⟩ = some (.slice aoN n2 cN) := HBa7.out.cell (i := 1) rfl
  have ca2 : w7.cell? ⟨w.heap.size, 2, none⟩ = some (.slice aoF n3 cF) := HBa7.out.cell (i := 2) rfl
  have la := HBa7.out.lt
  have cx0 : w7.cell? ⟨w3.heap.size, 0, none⟩ = some (.slice aoS n1 cS) := HBx7.out.cell (i := 0) rfl
  have cx1 : w7.cell? ⟨w3.heap.size, 1, none⟩ = some (.slice aoN n2 cN) := HBx7.out.cell (i := 1) rfl
  have cx2 : w7.cell? ⟨w3.heap.size, 2, none⟩ = some (.slice aoF n3 cF) := HBx7.out.cell (i := 2) rfl
  have lx := HBx7.out.lt
  go_wp2_with fail
  refine (rfirst_any HD7.out (side_nil _ _ 0 none)).mono ?_
  intro e w8 hq
  obtain ⟨rfl, hx⟩ := first_no HWL.out HNO.out hq
  clear hq
  clear ca0 ca1 ca2 la cx0 cx1 cx2 lx
  have HE8 : Hid (Ext w w8) := hid (HE7.out.trans ((hx).mono HE7.out.size))
  have HBa8 := hid (HBa7.out.ext (hx))
  have HBx8 := hid (HBx7.out.ext (hx))
  have HD8 := hid (HD7.out.ext (hx))
  have HW8 := hid (HW7.out.ext (hx))
  clear hx
  have ca0 : w8.cell? ⟨w.heap.size, 0, none⟩ = some (.slice aoS n1 cS) := HBa8.out.cell (i := 0) rfl
  have ca1 : w8.cell? ⟨w.heap.size, 1, none⟩ = some (.slice aoN n2 cN) := HBa8.out.cell (i := 1) rfl
  have ca2 : w8.cell? ⟨w.heap.size, 2, none⟩ = some (.slice aoF n3 cF) := HBa8.out.cell (i := 2) rfl
  have la := HBa8.out.lt
  have cx0 : w8.cell? ⟨w3.heap.size, 0, none⟩ = some (.slice aoS n1 cS) := HBx8.out.cell (i := 0) rfl
  have cx1 : w8.cell? ⟨w3.heap.size, 1, none⟩ = some (.slice aoN n2 cN) := HBx8.out.cell (i := 1) rfl
  have cx2 : w8.cell? ⟨w3.heap.size, 2, none⟩ = some (.slice aoF n3 cF) := HBx8.out.cell (i := 2) rfl
  have lx := HBx8.out.lt
  go_wp2_with fail
  have HTX := hid (texts_rd (us := []) (vs := []) (v1 := .slice none 0 0) (v2 := .slice none 0 0) (w := w8) (OwnR.read (OwnR.nil _ 0 9 _ _) strC_size) (OwnR.read (OwnR.nil _ 0 9 _ _) strC_size) mild_nil mild_nil)
  rw [decide_eq_true rfl] at HTX
  refine (HTX.out).mono ?_
  rintro e w9 ⟨rfl, hx⟩
  clear ca0 ca1 ca2 la cx0 cx1 cx2 lx
  have HE9 : Hid (Ext w w9) := hid (HE8.out.trans ((hx).mono HE8.out.size))
  have HBa9 := hid (HBa8.out.ext (hx))
  have HBx9 := hid (HBx8.out.ext (hx))
  have HD9 := hid (HD8.out.ext (hx))
  have HW9 := hid (HW8.out.ext (hx))
  clear hx
  have ca0 : w9.cell? ⟨w.heap.size, 0, none⟩ = some (.slice aoS n1 cS) := HBa9.out.cell (i := 0) rfl
  have ca1 : w9.cell? ⟨w.heap.size, 1, none⟩ = some (.slice aoN n2 cN) := HBa9.out.cell (i := 1) rfl
  have ca2 : w9.cell? ⟨w.heap.size, 2, none⟩ = some (.slice aoF n3 cF) := HBa9.out.cell (i := 2) rfl
  have la := HBa9.out.lt
  have cx0 : w9.cell? ⟨w3.heap.size, 0, none⟩ = some (.slice aoS n1 cS) := HBx9.out.cell (i := 0) rfl
  have cx1 : w9.cell? ⟨w3.heap.size, 1, none⟩ = some (.slice aoN n2 cN) := HBx9.out.cell (i := 1) rfl
  have cx2 : w9.cell? ⟨w3.heap.size, 2, none⟩ = some (.slice aoF n3 cF) := HBx9.out.cell (i := 2) rfl
  have lx := HBx9.out.lt
  go_upto_region 13 with fail
  obtain ⟨mt, hmt⟩ : ∃ b, b = matchD D ws := ⟨_, rfl⟩
  have HMT := hid hmt
  clear hmt
  have HM1 : Hid (∀ W, Ext w9 W → Calls Tryz.prog 26 #[.agg #[.slice aoS n1 cS, .slice aoN n2 cN, .slice aoF n3 cF], .slice aw lw cw] W fun e w' => e = .returned (.bool mt) ∧ Ext W w') := hid fun W hW => by
   have h := dmatch_any (HD9.out.ext hW) (l := ws) (HW9.out.ext hW) (by rw [← HLW.out]; omega)
   rw [← HMT.out] at h
   exact h
  have HM2 : Hid (∀ W, Ext w9 W → Calls Tryz.prog 35 #[.agg #[.slice aoS n1 cS, .slice aoN n2 cN, .slice aoF n3 cF], .slice aw lw cw] W fun e w' => e = .returned (.bool mt) ∧ Ext W w') := hid fun W hW => by
   have h := rmatch_any (HD9.out.ext hW) (l := ws) (HW9.out.ext hW) (by rw [← HLW.out]; omega)
   rw [← HMT.out] at h
   exact h
  have hS0 : Ext w9 w9.drew := (Below.refl _ _).drew
  have tmm : (mt == mt) = true := by simp
  refine wp_region_heldL (fun w' => Ext w9 w') (by kernel_rfl) ?_
  refine wpAnyH_takeN 0 10 (mk 11 1) rfl (by kernel_rfl) rfl (.agg #[.slice aoS n1 cS, .slice aoN n2 cN, .slice aoF n3 cF]) (fun _ _ _ h => h) (Or.inl ⟨rfl, fun w' hS => ?_⟩) hS0 (by simp only [Act.put, List.setIfInBounds_toArray, List.set_cons_succ, List.set_cons_zero]; rfl) ?_
  ·have d0 : w'.cell? ⟨w.heap.size, 0, none⟩ = some (.slice aoS n1 cS) := (HBa9.out.ext hS).cell (i := 0) rfl
   have d1 : w'.cell? ⟨w.heap.size, 1, none⟩ = some (.slice aoN n2 cN) := (HBa9.out.ext hS).cell (i := 1) rfl
   have d2 : w'.cell? ⟨w.heap.size, 2, none⟩ = some (.slice aoF n3 cF) := (HBa9.out.ext hS).cell (i := 2) rfl
   go_simp <;> with_reducible rfl
  refine wpAnyH_takeN 1 9 (mk 11 3) rfl (by kernel_rfl) rfl (.slice aw lw cw) (fun _ _ _ h => h) (Or.inl ⟨rfl, fun w' hS => ?_⟩) hS0 (by simp only [Act.put, List.setIfInBounds_toArray, List.set_cons_succ, List.set_cons_zero]; rfl) ?_
  ·go_simp <;> with_reducible rfl
  refine wpAnyH_takeN 3 8 (mk 11 11) rfl (by kernel_rfl) rfl (.agg #[.slice aoS n1 cS, .slice aoN n2 cN, .slice aoF n3 cF]) (fun _ _ _ h => h) (Or.inl ⟨rfl, fun w' hS => ?_⟩) hS0 (by simp only [Act.put, List.setIfInBounds_toArray, List.set_cons_succ, List.set_cons_zero]; rfl) ?_
  ·have d0 : w'.cell? ⟨w3.heap.size, 0, none⟩ = some (.slice aoS n1 cS) := (HBx9.out.ext hS).cell (i := 0) rfl
   have d1 : w'.cell? ⟨w3.heap.size, 1, none⟩ = some (.slice aoN n2 cN) := (HBx9.out.ext hS).cell (i := 1) rfl
   have d2 : w'.cell? ⟨w3.heap.size, 2, none⟩ = some (.slice aoF n3 cF) := (HBx9.out.ext hS).cell (i := 2) rfl
   go_simp <;> with_reducible rfl
  refine wpAnyH_takeN 4 7 (mk 11 27) rfl (by kernel_rfl) rfl (.slice aw lw cw) (fun _ _ _ h => h) (Or.inl ⟨rfl, fun w' hS => ?_⟩) hS0 (by simp only [Act.put, List.setIfInBounds_toArray, List.set_cons_succ, List.set_cons_zero]; rfl) ?_
  ·go_simp <;> with_reducible rfl
  refine wpAnyH_one 2 6 (mk 11 31) rfl (by kernel_rfl) rfl ?_
  go_wp2_with fail
  refine (HM1.out _ hS0).mono ?_
  rintro e wb ⟨rfl, hx⟩
  have hSwb : Ext w9 wb := hS0.trans (hx.mono hS0.size)
  clear hx
  go_wp2_with fail
  refine ⟨hSwb, ?_⟩
  refine wpAnyH_one 5 5 (mk 11 63) rfl (by kernel_rfl) rfl ?_
  go_wp2_with fail
  refine (HM2.out _ hSwb).mono ?_
  rintro e wc ⟨rfl, hx⟩
  have hSwc : Ext w9 wc := hSwb.trans (hx.mono hSwb.size)
  clear hx
  go_wp2_with fail
  refine ⟨hSwc, ?_⟩
  refine wpAnyH_one 6 4 (mk 11 127) rfl (by kernel_rfl) rfl ?_
  go_wp2_with fail
  refine ⟨hSwc, ?_⟩
  refine wpAnyH_one 7 3 (mk 11 255) rfl (by kernel_rfl) rfl ?_
  go_wp2_with fail
  refine ⟨hSwc, ?_⟩
  refine wpAnyH_one 8 2 (mk 11 511) rfl (by kernel_rfl) rfl ?_
  go_wp2_with fail
  refine (awake8_any (HT.out.ext (HE9.out.trans (hSwc.mono HE9.out.size)))).mono ?_
  rintro e wa ⟨rfl, hx⟩
  have hSa : Ext w9 wa := hSwc.trans (hx.mono hSwc.size)
  clear hx
  go_wp2_with fail
  refine ⟨hSa, ?_⟩
  refine wpAnyH_one 9 1 (mk 11 1023) rfl (by kernel_rfl) rfl ?_
  go_wp2_with fail
  refine ⟨hSa, ?_⟩
  refine wpAnyH_one 10 0 (mk 11 2047) rfl (by kernel_rfl) rfl ?_
  go_wp2_with fail
  refine ⟨hSa, ?_⟩
  refine wpAnyH_end (P := Tryz.prog) (by kernel_rfl) ?_
  go_wp2_with fail
  go_ret
  exact ⟨rfl, HE9.out.trans (hSa.mono HE9.out.size)⟩
end Go.Proofs.YtngpjagpeblbjaaGreatDoor
namespace Go.Proofs.YtngpjagpeblbjaaGreatDoor
open Go.ChangeShapes Go.WideShapes Go.ChangeAt Go.WideMaps Go.WideElems Go.RowKit Go.Spy Go.Rx
theorem cstr : Tryz.prog.cellsOf 9 = 1 := by kernel_rfl
theorem bytesStr : Tryz.prog.bytesOf 9 = 16 := by kernel_rfl
set_option maxRecDepth 100000 in
theorem strs_arg {H : Type} {enc : TypeId × Value → H} {W : World} {base : Nat} {v : Value} {d : DataW H} {p : List MemPlace} (hv : Value.okWide Tryz.prog W .any base 22 v)
 (h : DataW.Trod enc Tryz.prog W 0 (fun _ => true) true 22 v d p) {ts : List TypeId} {ds : List (DataW H)} (hsz : (DataW.weightsEach Tryz.prog ts ds).all (· ≤ reachBytes) = true) {j : Nat} (ht : ts[j]? = some 22) (hd : ds[j]? = some d) :
 ∃ a len cap ss, v = .slice a (List.length ss) cap ∧ List.length ss = len ∧ ss.length ≤ cap ∧ StrsV W a cap ss := by
 obtain ⟨a0, len, cap, rfl⟩ := okWide_slice Tryz.underlying22 hv
 obtain ⟨fuel, hf⟩ := h
 rcases open_strings Tryz.underlying22 Tryz.underlying9 cstr hf with ⟨hcs, hx⟩ | ⟨a, len', cap', ss, hcs, _, hl, hm, hz, hx, hcell, hws⟩
 ·simp [Value.cells] at hcs
  obtain ⟨rfl, rfl, rfl⟩ := hcs
  exact ⟨none, 0, 0, [], rfl, rfl, by simp, ⟨by simp, fun i hi => by simp at hi, fun h => by simp at h⟩⟩
 ·simp [Value.cells] at hcs
  obtain ⟨rfl, rfl, rfl⟩ := hcs
  simp only [Prod.mk.injEq] at hx
  obtain ⟨rfl, rfl⟩ := hx
  simp only [if_true] at hz
  have hreach := sized_slice hsz (j := j) (t := 22) (e := 9) ht hd Tryz.underlying22
  rw [bytesStr] at hreach
  simp only [strs, List.length_map, List.length_take, List.length_drop, reachBytes] at hreach
  have htl : (ss.take len).length = len := by simp; omega
  refine ⟨some a, len, cap, ss.take len, by rw [htl], htl, by omega, ⟨by omega, fun i hi => ?_, fun h0 => ?_⟩⟩
  ·have := hws _ (List.mem_of_mem_take (List.getElem_mem hi)); unfold maxLen at this; omega
  ·have hc0 := hcell 0 (by omega)
   have ha : a.add 0 = a := by simp [Addr.add]
   rw [ha] at hc0
   have hsp := spot_none hc0
   refine ⟨a.block, a.off, by rw [← hsp], World.block_lt_of_cell? W a hc0, fun i hi => ?_⟩
   have hi' : i < len := by omega
   have hci := hcell i (by omega)
   rw [hsp, Addr.add_lit] at hci
   rw [hci]
   simp [List.getD, show i < ss.length by omega]
end Go.Proofs.YtngpjagpeblbjaaGreatDoor
namespace Go.Proofs.YtngpjagpeblbjaaGreatDoor
open Go.ChangeShapes Go.WideShapes Go.ChangeAt Go.WideMaps Go.WideElems Go.RowKit Go.Spy Go.Heaped Go.Tour Go.Rx
theorem c46 : Tryz.prog.cellsOf 46 = 1 := by kernel_rfl
theorem c24 : Tryz.prog.cellsOf 24 = 1 := by kernel_rfl
theorem c23 : Tryz.prog.cellsOf 23 = 1 := by kernel_rfl
theorem c22 : Tryz.prog.cellsOf 22 = 1 := by kernel_rfl
theorem c26 : Tryz.prog.cellsOf 26 = 3 := by kernel_rfl
theorem b46 : Tryz.prog.bytesOf 46 = 24 := by kernel_rfl
open Go.Joins Go.Deep in
set_option maxRecDepth 100000 in
set_option maxHeartbeats 1000000 in
theorem dfa_arg {H : Type} {enc : TypeId × Value → H} {W : World} {base : Nat} {v : Value} {d : DataW H} {p : List MemPlace} (hv : Value.okWide Tryz.prog W .any base 26 v)
 (h : DataW.Trod enc Tryz.prog W 0 (fun _ => true) true 26 v d p) {ts : List TypeId} {ds : List (DataW H)} (hsz : (DataW.weightsEach Tryz.prog ts ds).all (· ≤ reachBytes) = true) {j : Nat} (ht : ts[j]? = some 26) (hd : ds[j]? = some d) :
 ∃ D : DR, DfaV W v D ∧ LenD D := by
 obtain ⟨cs, rfl, hcz⟩ := okWide_struct Tryz.underlying26 hv
 obtain ⟨v0, v1, v2, rfl⟩ : ∃ v0 v1 v2, cs = #[v0, v1, v2] := by
  obtain ⟨l⟩ := cs
  match l, (hcz.trans c26) with
  | [v0, v1, v2], _ => exact ⟨v0, v1, v2, rfl⟩
 obtain ⟨fuel, hf⟩ := h
 obtain ⟨y0, y1, y2, n, hx, _, h0, h1, h2⟩ := trod_struct3 Tryz.underlying26 hf
 simp only [Prod.mk.injEq] at hx
 obtain ⟨rfl, rfl⟩ := hx
 simp only [c22, c23, c24] at h0 h1 h2
 have h0 : DataW.trod enc Tryz.prog W 0 (fun _ => true) true n 22 [v0] = some y0 := by simpa [Value.cells] using h0
 have h1 : DataW.trod enc Tryz.prog W 0 (fun _ => true) true n 23 [v1] = some y1 := by simpa [Value.cells] using h1
 have h2 : DataW.trod enc Tryz.prog W 0 (fun _ => true) true n 24 [v2] = some y2 := by simpa [Value.cells] using h2
 have hsz2 : (DataW.weightsEach Tryz.prog [22, 23, 24] [y0.1, y1.1, y2.1]).all (· ≤ reachBytes) = true := List.all_eq_true.2 fun n hn =>
  List.all_eq_true.1 hsz n (DataW.weights_mem_each ht hd n (by simpa [DataW.weights, Tryz.underlying26] using hn))
 obtain ⟨d0, p0⟩ := y0
 obtain ⟨d1, p1⟩ := y1
 obtain ⟨d2, p2⟩ := y2
 simp only at hsz2
 have hS : ∃ ss : List ByteArray, ReadR W 1 strC v0 ss ∧ MildS ss := by
  rcases open_strings Tryz.underlying22 Tryz.underlying9 c9 h0 with ⟨hcs, _⟩ | ⟨a, len, cap, ss, hcs, _, hl, hm, hz, hx, hcell, hws⟩
  ·simp only [List.cons.injEq, and_true] at hcs
   subst hcs
   exact ⟨[], read_none, ⟨by simp, fun s hs => by cases hs⟩⟩
  ·simp only [List.cons.injEq, and_true] at hcs
   simp only [Prod.mk.injEq] at hx
   obtain ⟨rfl, rfl⟩ := hx
   subst hcs
   simp only [if_true] at hz
   have hreach := sized_slice hsz2 (j := 0) (t := 22) (e := 9) rfl rfl Tryz.underlying22
   rw [b9] at hreach
   simp only [strs, List.length_map, List.length_take, List.length_drop, reachBytes] at hreach
   have htl : (ss.take len).length = len := by simp; omega
   refine ⟨ss.take len, ?_, ⟨by rw [htl]; omega, fun s hs => ?_⟩⟩
   ·have h := read_of_add (W := W) (f := strC) (a := a) (l := ss.take len) (c := cap) (fun i x hx => by
     have hi : i < len := by rw [← htl]; exact (List.getElem?_eq_some_iff.1 hx).1
     refine ⟨.string x, rfl, ?_⟩
     rw [hcell i (by omega)]
     rw [List.getElem?_take_of_lt hi] at hx
     rw [List.getD_eq_getElem?_getD, hx]; rfl)
    rwa [htl] at h
   ·have := hws s (List.mem_of_mem_take hs)
    unfold maxLen at this
    omega
 have hF : ∃ bs : List Bool, ReadR W 1 boolC v2 bs ∧ bs.length ≤ 140737488351232 := by
  rcases open_bools Tryz.underlying24 Tryz.underlying4 c4 h2 with ⟨hcs, _⟩ | ⟨a, len, cap, B, hcs, _, hl, hm, hx, hcell⟩
  ·simp only [List.cons.injEq, and_true] at hcs
   subst hcs
   exact ⟨[], read_none, by simp⟩
  ·simp only [List.cons.injEq, and_true] at hcs
   subst hcs
   simp only [Prod.mk.injEq] at hx
   obtain ⟨rfl, rfl⟩ := hx
   have hreach : len * 1 ≤ reachBytes := by
    have h := List.all_eq_true.1 hsz2
    have h3 := h _ (DataW.weights_mem_each (j := 2) rfl rfl ((len + (cap - len)) * Tryz.prog.bytesOf 4) (by simp [boolRow, DataW.weights, Tryz.underlying24]))
    rw [b4] at h3
    simp only [decide_eq_true_eq] at h3
    omega
   simp only [reachBytes] at hreach
   have hlen : ((List.range len).map B).length = len := by simp
   refine ⟨(List.range len).map B, ?_, by rw [hlen]; omega⟩
   have h := read_of_add (W := W) (f := boolC) (a := a) (l := (List.range len).map B) (c := cap) (fun i x hx => by
    have hi : i < len := by rw [← hlen]; exact (List.getElem?_eq_some_iff.1 hx).1
    refine ⟨.bool x, rfl, ?_⟩
    rw [hcell i (by omega)]
    rw [List.getElem?_map, List.getElem?_range hi] at hx
    simp only [Option.map_some, Option.some.injEq] at hx
    rw [hx])
   rwa [hlen] at h
 have hN : ∃ (us : List Value) (rs : List (List Int)), ReadR W 1 oneA v1 us ∧ us.length = rs.length ∧ rs.length ≤ 140737488351232 ∧ (∀ r ∈ rs, r.length ≤ 9223372036854775807) ∧ ∀ (i : Nat) (u : Value) (r : List Int), us[i]? = some u → rs[i]? = some r → ReadR W 1 intZ u r := by
  rcases open_int_rows Tryz.underlying23 Tryz.underlying46 Tryz.underlying3 c46 c3 h1 with ⟨hcs, _⟩ | ⟨a, len, cap, A, L, C, Z, hcs, _, hl, hm, hx, hrow⟩
  ·simp only [List.cons.injEq, and_true] at hcs
   subst hcs
   exact ⟨[], [], read_none, rfl, by simp, by simp, by simp⟩
  ·simp only [List.cons.injEq, and_true] at hcs
   subst hcs
   simp only [Prod.mk.injEq] at hx
   obtain ⟨rfl, rfl⟩ := hx
   have hreach := sized_slice hsz2 (j := 1) (t := 23) (e := 46) rfl rfl Tryz.underlying23
   rw [b46] at hreach
   simp only [List.length_map, List.length_range, reachBytes] at hreach
   have hlen : ((List.range len).map fun r => Value.slice (A r) (L r) (C r)).length = len := by simp
   refine ⟨(List.range len).map fun r => .slice (A r) (L r) (C r), (List.range len).map fun r => (Z r).take (L r), ?_, by simp, by simp; omega, fun r hr => ?_, fun i u r hu hr => ?_⟩
   ·have h := read_of_add (W := W) (f := oneA) (a := a) (l := (List.range len).map fun r => Value.slice (A r) (L r) (C r)) (c := cap) (fun i x hx => by
     have hi : i < len := by rw [← hlen]; exact (List.getElem?_eq_some_iff.1 hx).1
     rw [List.getElem?_map, List.getElem?_range hi] at hx
     simp only [Option.map_some, Option.some.injEq] at hx
     subst hx
     exact ⟨_, rfl, (hrow i (by omega)).1⟩)
    rwa [hlen] at h
   ·simp only [List.mem_map, List.mem_range] at hr
    obtain ⟨i, hi, rfl⟩ := hr
    obtain ⟨_, h2, h3, h4, _, _, _⟩ := hrow i (by omega)
    unfold maxLen at h3
    simp; omega
   ·have hi : i < len := by rw [← hlen]; exact (List.getElem?_eq_some_iff.1 hu).1
    rw [List.getElem?_map, List.getElem?_range hi] at hu hr
    simp only [Option.map_some, Option.some.injEq] at hu hr
    subst hu hr
    obtain ⟨h1, h2, h3, h4, h5, h6, h7⟩ := hrow i (by omega)
    have htl : ((Z i).take (L i)).length = L i := by simp; omega
    cases hA : A i with
    | none =>
      have := h6 hA
      have h0 : L i = 0 := by omega
      refine ⟨none, C i, by rw [htl], .inl (by rw [htl]; exact h0)⟩
    | some a' =>
      obtain ⟨_, h8⟩ := h7 a' hA
      have h := read_of_add (W := W) (f := intZ) (a := a') (l := (Z i).take (L i)) (c := C i) (fun j x hx => by
       have hj : j < L i := by rw [← htl]; exact (List.getElem?_eq_some_iff.1 hx).1
       refine ⟨.int .i64 x, rfl, ?_⟩
       rw [h8 j (by omega)]
       rw [List.getElem?_take_of_lt hj] at hx
       rw [List.getD_eq_getElem?_getD, hx]; rfl)
      rwa [htl] at h
 obtain ⟨ss, hs1, hs2⟩ := hS
 obtain ⟨bs, hb1, hb2⟩ := hF
 obtain ⟨us, rs, hr1, hr2, hr3, hr4, hr5⟩ := hN
 exact ⟨⟨ss, rs, bs⟩, ⟨v0, v1, v2, us, rfl, hs1, hr1, hr2, hr5, hb1⟩, hs2, hr3, hb2, hr4⟩
end Go.Proofs.YtngpjagpeblbjaaGreatDoor
namespace Go.Proofs.YtngpjagpeblbjaaGreatDoor
open Go.RowKit Go.Spy Go.Heaped Go.Tour Go.Rx
def boolRow (r : List Bool) : Array Value := (r.map Value.bool).toArray
section
variable {w wr wy : World} {bT n : Nat} {gs : List Nat} {T : List (List Bool)}
end
section
variable {w : World} {aoS aoN aoF : Option Addr} {n1 n2 n3 cS cN cF : Nat} {A : DA}
end
end Go.Proofs.YtngpjagpeblbjaaGreatDoor
