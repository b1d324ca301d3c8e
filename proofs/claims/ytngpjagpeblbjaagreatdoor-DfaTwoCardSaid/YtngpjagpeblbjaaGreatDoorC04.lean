/-
  Walk of Both.
  Plain laws for the statements: Not and Within in words, rows ahead of rows.
  Plain law of Both: what it matches, and that it is an automaton that may be.
  What calls answer, in the form in which the laws' walks take it.
  Walks of the reference's find, Step and Match.
  Walks of the reference's same (of lists) and number.
  Plain law of the reference's First: pairs of states as lists of two numbers, gone through in order.
-/
import Derived.Test.YtngpjagpeblbjaaGreatDoorC03
import Derived.StillTailTactics
import Derived.Deep.QuietTactic
import Derived.BigQuiet
import Derived.BigRegion
import Derived.Outline
import Derived.WalkSpells
import Derived.Lib.TrailingZeros
import Derived.Deep.Draws
import Derived.Laws.ResultCell
import Derived.Laws.CopyRow
import Derived.Laws.OwnMore
import Derived.WalkKit
import Derived.WalkLawsBesides
import Derived.Deep.LoopGhost
import Derived.Deep.DeepCutAuto
import Derived.Deep.CutBlock
import Derived.Deep.OwnRows
import Derived.Deep.AppendLies
import Derived.OwnWalk
import Derived.Test.YtngpjagpeblbjaaGreatDoorC01
import Derived.IntWalk
import Derived.Sort.OwnSorted
import Derived.Sort.Grow
import Derived.Lib.OwnBridge
import Derived.Deep.RegionLaw
import Derived.StillTail
import Derived.StillTactics
import Derived.OrdersHeld
import Derived.Shelf.Sort.Plain
import Derived.Shelf.Slices.Turned
import Derived.Ground.Names2Prog
import Derived.Shelf.Slices.ReverseS
import Derived.Shelf.Slices.Clone
import Derived.Shelf.Slices.CompactS
import Derived.Shelf.Slices.SearchI
import Derived.Shelf.Slices.Cells
import Derived.Shelf.Slices.In.SortNone
import Derived.Test.YtngpjagpeblbjaaGreatDoorProg
import Derived.Deep.Cut
import Derived.Lib.SlicesCompact
import Derived.Lib.RowBridge
namespace Go.Proofs.YtngpjagpeblbjaaGreatDoor
open Go.RowKit Go.Spy Go.Heaped Go.Tour Go.Rx
def bothSyms (A B : DA) : List ByteArray := sortW (A.syms ++ B.syms)
def BothPost (A B : DA) (w : World) (e : Ending) (w' : World) : Prop := Ext w w' ∧
 ((∃ i v, Full (succP A B (bothSyms A B)) zeroP i ∧ i ≤ 256 ∧ e = .returned (.tuple #[v, .int .i64 0]) ∧ DfaV w' v (tourD (bothSyms A B) (tourN (succP A B (bothSyms A B)) zeroP i) (bothF A B)).raw) ∨
  (∃ i, 256 < (tourN (succP A B (bothSyms A B)) zeroP i).keys.length ∧ e = .returned (.tuple #[nilD, .int .i64 17])))
set_option maxRecDepth 100000 in
set_option maxHeartbeats 1000000 in
theorem both_bad {w : World} {va vb : Value} {da db : DR} (hA : DfaV w va da) (hBA : BndD da) (hB : DfaV w vb db) (hBB : BndD db) (h : check2E da db ≠ 0) :
 Calls Tryz.prog 15 #[va, vb] w (MakeBad (check2E da db : Nat) w) := by
 have HC : Hid (∀ W, Ext w W → Calls Tryz.prog 44 #[va, vb] W (ErrP (check2E da db) W)) := hid fun W e => checked_any (hA.ext e) hBA (hB.ext e) hBB
 obtain ⟨vS, vN, vF, us, rfl, hP⟩ := hA
 obtain ⟨vS2, vN2, vF2, us2, rfl, hP2⟩ := hB
 obtain ⟨aoS, cS, rfl, hS⟩ := hP.syms.form
 obtain ⟨aoN, cN, rfl, hN⟩ := hP.next.form
 obtain ⟨aoF, cF, rfl, hF⟩ := hP.fin.form
 obtain ⟨aoS2, cS2, rfl, hS2⟩ := hP2.syms.form
 obtain ⟨aoN2, cN2, rfl, hN2⟩ := hP2.next.form
 obtain ⟨aoF2, cF2, rfl, hF2⟩ := hP2.fin.form
 obtain ⟨E, hE⟩ : ∃ E, E = check2E da db := ⟨_, rfl⟩
 rw [← hE] at HC h ⊢
 obtain ⟨n1, hn1⟩ : ∃ n, n = da.syms.length := ⟨_, rfl⟩
 obtain ⟨n2, hn2⟩ : ∃ n, n = us.length := ⟨_, rfl⟩
 obtain ⟨n3, hn3⟩ : ∃ n, n = da.fin.length := ⟨_, rfl⟩
 obtain ⟨m1, hm1⟩ : ∃ n, n = db.syms.length := ⟨_, rfl⟩
 obtain ⟨m2, hm2⟩ : ∃ n, n = us2.length := ⟨_, rfl⟩
 obtain ⟨m3, hm3⟩ : ∃ n, n = db.fin.length := ⟨_, rfl⟩
 rw [← hn1, ← hn2, ← hn3, ← hm1, ← hm2, ← hm3] at HC ⊢
 have d0 : (((E : Nat) : Int) != 0) = true := by simp; omega
 obtain ⟨w1, hw1⟩ : ∃ u, u = ((w.alloc (.cells #[Value.slice aoS n1 cS, .slice aoN n2 cN, .slice aoF n3 cF] 26)).alloc (.cells #[.slice aoS2 m1 cS2, .slice aoN2 m2 cN2, .slice aoF2 m3 cF2] 26)).alloc (.cells #[.slice none 0 0, .slice none 0 0, .slice none 0 0] 26) := ⟨_, rfl⟩
 have HX : Hid (Ext w w1) := hid (hw1 ▸ (((Below.refl _ _).alloc (Nat.le_refl _) _).alloc (by simp) _).alloc (by simp; omega) _)
 have HR : Hid (Blk w1 (w.heap.size + 2) 26 #[.slice none 0 0, .slice none 0 0, .slice none 0 0]) := hid (hw1 ▸ Blk.new' _ _ _ (by simp))
 have HW1 := hid hw1
 clear hP hP2 hE hS hN hF hS2 hN2 hF2 hn1 hn2 hn3 hm1 hm2 hm3 hBA hBB hw1
 go_enter Tryz.func15, Tryz.ntmps15
 go_wp2_with fail
 rw [← HW1.out]
 refine (HC.out _ HX.out).mono ?_
 rintro e w2 ⟨rfl, hx⟩
 have HX2 := hid (HX.out.trans (hx.mono HX.out.size))
 have hS2 := HR.out.ext hx
 have HS2 := hid hS2
 have r0 : w2.cell? ⟨w.heap.size + 2, 0, none⟩ = some (.slice none 0 0) := hS2.cell (i := 0) rfl
 have r1 : w2.cell? ⟨w.heap.size + 2, 1, none⟩ = some (.slice none 0 0) := hS2.cell (i := 1) rfl
 have r2 : w2.cell? ⟨w.heap.size + 2, 2, none⟩ = some (.slice none 0 0) := hS2.cell (i := 2) rfl
 have rf := hS2.frozen
 have rl := hS2.lt
 clear hx hS2
 go_wp2_with fail
 refine bodyPost_ret (v := .tuple #[nilD, .int .i64 E]) (results_cell_agg_tmp Tryz.results15 _ _ (w.heap.size + 2) 26 #[.slice none 0 0, .slice none 0 0, .slice none 0 0] _ _ rfl rfl (blk3 HS2.out _ _ _) Tryz.underlying26 rfl (by kernel_rfl)) rfl ?_
 exact ⟨rfl, ext3 HX2.out (by omega) _ _ _⟩
set_option maxRecDepth 100000 in
set_option maxHeartbeats 2000000 in
theorem dboth_any {w : World} {xA xB : Array Value} {A B : DA} (hA : DfaW w (.agg xA) A) (hB : DfaW w (.agg xB) B) (hbs : (bothSyms A B).length ≤ 1000) : Calls Tryz.prog 15 #[.agg xA, .agg xB] w (BothPost A B w) := by
 have HA := hid hA
 have HB := hid hB
 have HC : Hid (∀ W, Ext w W → Calls Tryz.prog 44 #[.agg xA, .agg xB] W (ErrP 0 W)) := hid fun W e => by
  have h := checked_any (hA.at_.ext e) hA.bnd (hB.at_.ext e) hB.bnd
  rwa [show check2E A.raw B.raw = 0 by unfold check2E; rw [well_check hA.well, if_pos rfl, well_check hB.well]] at h
 obtain ⟨aoS, n1, cS, aoN, n2, cN, aoF, n3, cF, rfl⟩ := hA.open_
 obtain ⟨aoS2, m1, cS2, aoN2, m2, cN2, aoF2, m3, cF2, rfl⟩ := hB.open_
 have hSY : ReadR w 1 strC (.slice aoS n1 cS) A.syms := by
  obtain ⟨⟨vS, vN, vF, us, e, hP⟩, _, _⟩ := hA
  simp only [Value.agg.injEq, Array.mk.injEq, List.cons.injEq, and_true] at e
  obtain ⟨rfl, rfl, rfl⟩ := e
  exact hP.syms
 have hSZ : ReadR w 1 strC (.slice aoS2 m1 cS2) B.syms := by
  obtain ⟨⟨vS, vN, vF, us, e, hP⟩, _, _⟩ := hB
  simp only [Value.agg.injEq, Array.mk.injEq, List.cons.injEq, and_true] at e
  obtain ⟨rfl, rfl, rfl⟩ := e
  exact hP.syms
 have HUN := hid (fun W (e : Ext w W) => union_any (hSY.ext e) (hSZ.ext e) hA.bnd.s hB.bnd.s)
 have HPA := hid (fun W (e : Ext w W) ao n c => pairs_any (hA.ext e) (hB.ext e) ao n c)
 clear hA hB hSY hSZ
 obtain ⟨syms, hsy⟩ : ∃ s, s = bothSyms A B := ⟨_, rfl⟩
 have HUN2 : Hid (∀ W, Ext w W → Calls Tryz.prog 45 #[.slice aoS n1 cS, .slice aoS2 m1 cS2] W (CatPost syms W)) := hid fun W e => by rw [hsy]; exact HUN.out W e
 rw [← hsy] at hbs
 have HSY := hid hsy
 clear hsy HUN
 obtain ⟨m, hm⟩ : ∃ m, m = syms.length := ⟨_, rfl⟩
 have HM := hid hm
 have hm1000 : m ≤ 1000 := by omega
 clear hm hbs
 obtain ⟨w1, hw1⟩ : ∃ u, u = ((w.alloc (.cells #[Value.slice aoS n1 cS, .slice aoN n2 cN, .slice aoF n3 cF] 26)).alloc (.cells #[.slice aoS2 m1 cS2, .slice aoN2 m2 cN2, .slice aoF2 m3 cF2] 26)).alloc (.cells #[.slice none 0 0, .slice none 0 0, .slice none 0 0] 26) := ⟨_, rfl⟩
 have HX1 : Hid (Ext w w1) := hid (hw1 ▸ (((Below.refl _ _).alloc (Nat.le_refl _) _).alloc (by simp) _).alloc (by simp; omega) _)
 have HBA : Hid (Blk w1 w.heap.size 26 #[Value.slice aoS n1 cS, .slice aoN n2 cN, .slice aoF n3 cF]) := hid (hw1 ▸ ((Blk.new _ _ _).alloc _).alloc _)
 have HBB : Hid (Blk w1 (w.heap.size + 1) 26 #[.slice aoS2 m1 cS2, .slice aoN2 m2 cN2, .slice aoF2 m3 cF2]) := hid (hw1 ▸ (Blk.new' _ _ _ (by simp)).alloc _)
 have HR : Hid (Blk w1 (w.heap.size + 2) 26 #[.slice none 0 0, .slice none 0 0, .slice none 0 0]) := hid (hw1 ▸ Blk.new' _ _ _ (by simp))
 have HW1 := hid hw1
 clear hw1
 go_enter Tryz.func15, Tryz.ntmps15
 go_wp2_with fail
 rw [← HW1.out]
 refine (HC.out w1 HX1.out).mono ?_
 rintro e w2 ⟨rfl, hx⟩
 have HX2 := hid (HX1.out.trans (hx.mono HX1.out.size))
 have hba := HBA.out.ext hx
 have hbb := HBB.out.ext hx
 have HBA2 := hid hba
 have HBB2 := hid hbb
 have HR2 := hid (HR.out.ext hx)
 have a0 : w2.cell? ⟨w.heap.size, 0, none⟩ = some (.slice aoS n1 cS) := hba.cell (i := 0) rfl
 have b0 : w2.cell? ⟨w.heap.size + 1, 0, none⟩ = some (.slice aoS2 m1 cS2) := hbb.cell (i := 0) rfl
 have la := hba.lt
 have lb := hbb.lt
 clear hx hba hbb
 go_wp2_with fail
 refine (HUN2.out w2 HX2.out).mono ?_
 rintro e w3 ⟨hx3, v, rfl, hO⟩
 obtain ⟨aoU, cU, rfl, -⟩ := (OwnR.read hO strC_size).form
 rw [← HM.out]
 have HX3 := hid (HX2.out.trans (hx3.mono HX2.out.size))
 have HRD3 : Hid (ReadR w3 1 strC (.slice aoU m cU) syms) := hid (by have := OwnR.read hO strC_size; rwa [← HM.out] at this)
 have hba := HBA2.out.ext hx3
 have hbb := HBB2.out.ext hx3
 have HBA3 := hid hba
 have HBB3 := hid hbb
 have HR3 := hid (HR2.out.ext hx3)
 have a0 : w3.cell? ⟨w.heap.size, 0, none⟩ = some (.slice aoS n1 cS) := hba.cell (i := 0) rfl
 have a1 : w3.cell? ⟨w.heap.size, 1, none⟩ = some (.slice aoN n2 cN) := hba.cell (i := 1) rfl
 have a2 : w3.cell? ⟨w.heap.size, 2, none⟩ = some (.slice aoF n3 cF) := hba.cell (i := 2) rfl
 have b0 : w3.cell? ⟨w.heap.size + 1, 0, none⟩ = some (.slice aoS2 m1 cS2) := hbb.cell (i := 0) rfl
 have b1 : w3.cell? ⟨w.heap.size + 1, 1, none⟩ = some (.slice aoN2 m2 cN2) := hbb.cell (i := 1) rfl
 have b2 : w3.cell? ⟨w.heap.size + 1, 2, none⟩ = some (.slice aoF2 m3 cF2) := hbb.cell (i := 2) rfl
 have la := hba.lt
 have lb := hbb.lt
 clear hx3 hba hbb hO
 go_wp2_with fail
 refine (HPA.out w3 HX3.out aoU m cU).mono ?_
 rintro e w4 ⟨rfl, hx4, hp1, hp2, hp3⟩
 have HX4 := hid (HX3.out.trans (hx4.mono HX3.out.size))
 have HBA4 := hid (HBA3.out.ext hx4)
 have HBB4 := hid (HBB3.out.ext hx4)
 have HR4 := hid (HR3.out.ext hx4)
 have HRD4 := hid (HRD3.out.ext hx4)
 have HT := hid (tour_pp (w := w4) HA.out.well HB.out.well (syms := syms) (by rw [← HM.out]; exact hm1000) 256 (by decide) (next_ok_pr hp3 HRD4.out (by rw [← HM.out]; exact hm1000) (HA.out.ext HX4.out) hp1 (HB.out.ext HX4.out) hp2))
 clear hx4 hp1 hp2 hp3 a0 a1 a2 b0 b1 b2
 go_wp2_with fail
 refine HT.out.mono ?_
 rintro e w5 ⟨hx5, h5⟩
 have HX5 := hid (HX4.out.trans (hx5.mono HX4.out.size))
 have HBA5 := hid (HBA4.out.ext hx5)
 have HBB5 := hid (HBB4.out.ext hx5)
 have HR5 := hid (HR4.out.ext hx5)
 have HRD5 := hid (HRD4.out.ext hx5)
 have HLT4 : Hid (w.heap.size + 2 < w4.heap.size) := hid HR4.out.lt
 clear hx5
 have hlt4 := HBA5.out.lt
 have hlt5 := HBB5.out.lt
 have hlt6 := HR5.out.lt
 rcases h5 with ⟨i, vK, vN, vF, hfull, hi, rfl, hT⟩ | ⟨i, hi, rfl⟩
 ·obtain ⟨hK, ⟨us3, hn3, hu3, hr3⟩, hFr⟩ := hT
  obtain ⟨aoK, cK, rfl, -⟩ := (OwnR.read hK okP.size).form
  obtain ⟨aoM, cM, rfl, -⟩ := (OwnR.read hn3 (fun _ => rfl)).form
  obtain ⟨aoG, cG, rfl, -⟩ := (OwnR.read hFr (fun _ => rfl)).form
  have HK := hid hK
  have HNX := hid hn3
  have HLEN := hid hu3
  have HROWS := hid hr3
  have HFR := hid hFr
  have HFULL := hid hfull
  have HI := hid hi
  obtain ⟨ks, hks⟩ : ∃ x, x = (tourN (succP A B syms) zeroP i).keys := ⟨_, rfl⟩
  obtain ⟨fr, hfr⟩ : ∃ x, x = (tourN (succP A B syms) zeroP i).from_ := ⟨_, rfl⟩
  obtain ⟨rows, hrw⟩ : ∃ x, x = (tourN (succP A B syms) zeroP i).next := ⟨_, rfl⟩
  have HKI : Hid (ks.length = i) := hid (hks ▸ hfull)
  have HU : Hid (∀ k ∈ ks, OkQ A B k) := hid (hks ▸ tourN_univ (U := OkQ A B) (zeroP_okQ HA.out.well HB.out.well) (succP_okQ HA.out.well HB.out.well syms) i)
  rw [← hks] at HK ⊢
  rw [← hfr] at HFR ⊢
  rw [← hrw] at HROWS HLEN
  have HKS := hid hks
  have HRW := hid hrw
  obtain ⟨kl, hkl⟩ : ∃ n, n = ks.length := ⟨_, rfl⟩
  obtain ⟨nl, hnl⟩ : ∃ n, n = us3.length := ⟨_, rfl⟩
  obtain ⟨fl, hfl⟩ : ∃ n, n = fr.length := ⟨_, rfl⟩
  rw [← hkl] at HK ⊢
  rw [← hnl] at HNX ⊢
  rw [← hfl] at HFR ⊢
  have HKL := hid hkl
  clear hK hn3 hu3 hr3 hFr hfull hi hks hfr hrw hkl hnl hfl
  obtain ⟨w6, hw6⟩ : ∃ u, u = w5.alloc (.cells #[.slice aoK kl cK, .slice aoM nl cM, .slice aoG fl cG] 80) := ⟨_, rfl⟩
  have e6 : Ext w5 w6 := hw6 ▸ (Below.refl _ _).alloc (Nat.le_refl _) _
  have HE6 := hid e6
  have hb6 : Blk w6 w5.heap.size 80 #[.slice aoK kl cK, .slice aoM nl cM, .slice aoG fl cG] := hw6 ▸ Blk.new _ _ _
  have HW6 := hid hw6
  have HX6 := hid (HX5.out.trans (e6.mono HX5.out.size))
  have HBA6 := hid (HBA5.out.ext e6)
  have HBB6 := hid (HBB5.out.ext e6)
  have HR6 := hid (HR5.out.ext e6)
  have hlt7 := hb6.lt
  clear hw6 e6 hb6
  have hAU := auto_pr (w := w6) (f := 49) (bs := #[]) (caps := #[.pointer (some ⟨w.heap.size, 0, none⟩), .pointer (some ⟨w.heap.size + 1, 0, none⟩)])
   (OwnR.read (HK.out.ext HE6.out) okP.size) (OwnR.read (HNX.out.ext HE6.out) (fun _ => rfl)) (OwnR.read (HFR.out.ext HE6.out) (fun _ => rfl)) (HRD5.out.ext HE6.out) (by have := HKI.out; have := HI.out; omega) (by rw [← HM.out]; exact hm1000) enters49 (bothF A B)
   (fun k w' hk hx => both1_any ((HA.out.ext HX6.out).ext hx) (HBA6.out.ext hx) ((HB.out.ext HX6.out).ext hx) (HBB6.out.ext hx) k (HU.out k hk).1.1 (HU.out k hk).1.2)
  have HAU := hid hAU
  clear hAU
  go_wp2_with fail
  rw [← HW6.out]
  refine HAU.out.mono ?_
  rintro e w7 ⟨hx7, vS7, vF7, rfl, hS7, hF7⟩
  obtain ⟨aoC, cC, rfl, -⟩ := (OwnR.read hS7 strC_size).form
  obtain ⟨aoE, cE, rfl, -⟩ := (OwnR.read hF7 (fun _ => rfl)).form
  have HS7 := hid hS7
  have HF7 := hid hF7
  have HX7 := hid (HX6.out.trans (hx7.mono HX6.out.size))
  have HX67 := hid hx7
  have HR7 := hid (HR6.out.ext hx7)
  obtain ⟨fnl, hfnl⟩ : ∃ n, n = (ks.map (bothF A B)).length := ⟨_, rfl⟩
  rw [← hfnl] at HF7 ⊢
  rw [← HM.out] at HS7 ⊢
  clear hS7 hF7 hx7 hfnl HAU
  have r0 : w7.cell? ⟨w.heap.size + 2, 0, none⟩ = some (.slice none 0 0) := HR7.out.cell (i := 0) rfl
  have r1 : w7.cell? ⟨w.heap.size + 2, 1, none⟩ = some (.slice none 0 0) := HR7.out.cell (i := 1) rfl
  have r2 : w7.cell? ⟨w.heap.size + 2, 2, none⟩ = some (.slice none 0 0) := HR7.out.cell (i := 2) rfl
  have rf := HR7.out.frozen
  have rl := HR7.out.lt
  go_wp2_with fail
  refine bodyPost_ret (v := .tuple #[.agg #[.slice aoC m cC, .slice aoM nl cM, .slice aoE fnl cE], .int .i64 0]) (results_cell_agg_tmp Tryz.results15 _ _ (w.heap.size + 2) 26 #[.slice aoC m cC, .slice aoM nl cM, .slice aoE fnl cE] _ _ rfl rfl (blk3 HR7.out _ _ _) Tryz.underlying26 rfl (by kernel_rfl)) rfl ?_
  refine ⟨ext3 HX7.out (by omega) _ _ _, .inl ⟨i, _, ?_, HI.out, rfl, _, _, _, us3, rfl, ?_⟩⟩
  ·rw [← HSY.out]; exact HFULL.out
  ·have hP := auto_dfa (rows := rows) HX67.out HS7.out HF7.out (HNX.out.ext HE6.out) HLEN.out (fun i u r hu hr => ⟨(HROWS.out i u r hu hr).1.ext HE6.out, (HROWS.out i u r hu hr).2⟩) HLT4.out (by omega) (chg3 w7 (w.heap.size + 2) (.slice aoC m cC) (.slice aoM nl cM) (.slice aoE fnl cE))
   rw [HRW.out, HKS.out] at hP
   rw [← HSY.out]
   exact hP
 ·have HI := hid hi
  clear hi
  have r0 : w5.cell? ⟨w.heap.size + 2, 0, none⟩ = some (.slice none 0 0) := HR5.out.cell (i := 0) rfl
  have r1 : w5.cell? ⟨w.heap.size + 2, 1, none⟩ = some (.slice none 0 0) := HR5.out.cell (i := 1) rfl
  have r2 : w5.cell? ⟨w.heap.size + 2, 2, none⟩ = some (.slice none 0 0) := HR5.out.cell (i := 2) rfl
  have rf := HR5.out.frozen
  have rl := HR5.out.lt
  go_wp2_with fail
  refine bodyPost_ret (v := .tuple #[nilD, .int .i64 17]) (results_cell_agg_tmp Tryz.results15 _ _ (w.heap.size + 2) 26 #[.slice none 0 0, .slice none 0 0, .slice none 0 0] _ _ rfl rfl ((blk3 HR5.out _ _ _).alloc _) Tryz.underlying26 rfl (by kernel_rfl)) rfl ?_
  exact ⟨(ext3 HX5.out (by omega) _ _ _).alloc (by have := (ext3 HX5.out (show w.heap.size ≤ w.heap.size + 2 by omega) (.slice none 0 0) (.slice none 0 0) (.slice none 0 0)).size; exact this) _, .inr ⟨i, by rw [← HSY.out]; exact HI.out, rfl⟩⟩
end Go.Proofs.YtngpjagpeblbjaaGreatDoor
namespace Go.Proofs.YtngpjagpeblbjaaGreatDoor
open Go.RowKit Go.Spy Go.Heaped Go.Tour Go.Rx
theorem idx_lt {σ : Type} [DecidableEq σ] {l : List σ} {a : σ} (h : a ∈ l) : l.idxOf a < l.length := List.idxOf_lt_length_of_mem h
section
variable {D : DA}
theorem words_mild (B : BndD D.raw) {u : List Nat} (hu : ∀ c ∈ u, c < D.syms.length) (h : u.length ≤ 100000) : MildS (wordsOf D.syms u) := mild_small (by rw [wordsOf_length hu]; exact h) fun s hs => B.b s (wordsOf_mem s hs)
end
end Go.Proofs.YtngpjagpeblbjaaGreatDoor
namespace Go.Proofs.YtngpjagpeblbjaaGreatDoor
open Go.RowKit Go.Spy Go.Heaped Go.Tour Go.Rx
section
variable {A B : DA}
def bothD (A B : DA) (i : Nat) : DA := tourD (bothSyms A B) (tourN (succP A B (bothSyms A B)) zeroP i) (bothF A B)
theorem bothSyms_mem {x : ByteArray} : x ∈ bothSyms A B ↔ x ∈ A.syms ∨ x ∈ B.syms := by
 unfold bothSyms
 rw [sortW_mem, List.mem_append]
theorem bothSyms_len : (bothSyms A B).length ≤ A.syms.length + B.syms.length := by
 have := sortW_len (A.syms ++ B.syms)
 rw [List.length_append] at this
 exact this
theorem both_well (WA : WellD nameOk A) (WB : WellD nameOk B) {i : Nat} (h : Full (succP A B (bothSyms A B)) zeroP i) (hi : i ≤ 256) : WellD nameOk (bothD A B i) := by
 refine ⟨tourD_ok h, ?_, fun s hs => ?_, sortW_rising _⟩
 ·have := tourN_next_len (succP A B (bothSyms A B)) zeroP i (Nat.le_of_eq h.symm)
  show (tourN (succP A B (bothSyms A B)) zeroP i).next.length ≤ 256
  omega
 ·rcases bothSyms_mem.1 hs with h' | h'
  ·exact WA.names s h'
  ·exact WB.names s h'
theorem raw_bnd {D : DA} (W : WellD nameOk D) (hs : D.syms.length ≤ 1000) (hb : ∀ s ∈ D.syms, s.size ≤ 1000000) : BndD D.raw := by
 have := W.most
 have := W.ok.fin
 refine ⟨hs, by simp [DF.raw]; omega, by show D.fin.length ≤ 1000; omega, fun r hr => ?_, hb⟩
 simp only [DF.raw, List.mem_map] at hr
 obtain ⟨r', h1, rfl⟩ := hr
 rw [List.length_map, W.ok.row r' h1]
 exact hs
theorem both_bnd (WA : WellD nameOk A) (WB : WellD nameOk B) (BA : BndD A.raw) (BB : BndD B.raw) (hs : A.syms.length + B.syms.length ≤ 1000) {i : Nat} (h : Full (succP A B (bothSyms A B)) zeroP i) (hi : i ≤ 256) : BndD (bothD A B i).raw :=
 raw_bnd (both_well WA WB h hi) (Nat.le_trans bothSyms_len hs) fun s hs => by
  rcases bothSyms_mem.1 hs with h' | h'
  ·exact BA.b s h'
  ·exact BB.b s h'
theorem tourP_le2 (WA : WellD nameOk A) (WB : WellD nameOk B) (syms : List ByteArray) (i : Nat) : (tourN (succP A B syms) zeroP i).keys.length ≤ (A.next.length + 1) * (B.next.length + 1) := by
 have h := tourN_le (U := OkQ A B) (succ := succP A B syms) (first := zeroP) (zeroP_okQ WA WB) (succP_okQ WA WB syms) (u := allP A B) (allP_mem WA WB) i
 rwa [allP_len] at h
theorem tourP_small (WA : WellD nameOk A) (WB : WellD nameOk B) (hA : A.next.length ≤ 12) (hB : B.next.length ≤ 12) (syms : List ByteArray) (i : Nat) : (tourN (succP A B syms) zeroP i).keys.length ≤ 169 :=
 by
 have h1 : A.next.length + 1 ≤ 13 := by omega
 have h2 : B.next.length + 1 ≤ 13 := by omega
 exact Nat.le_trans (tourP_le2 WA WB syms i) (Nat.mul_le_mul h1 h2)
end
end Go.Proofs.YtngpjagpeblbjaaGreatDoor
namespace Go.Proofs.YtngpjagpeblbjaaGreatDoor
open Go.RowKit Go.Spy Go.Heaped Go.Tour Go.Rx
section
variable {A B D : DA}
theorem lenD_of (W : OkD D) (hn : D.next.length ≤ 100000) (hs : D.syms.length ≤ 100000) (hb : ∀ s ∈ D.syms, s.size ≤ 1000000) : LenD D.raw := by
 have hf := W.fin
 refine ⟨mild_small hs hb, ?_, ?_, fun r hr => ?_⟩
 ·show (D.next.map _).length ≤ _
  rw [List.length_map]; omega
 ·show D.fin.length ≤ _
  omega
 ·simp only [DF.raw, List.mem_map] at hr
  obtain ⟨r', h1, rfl⟩ := hr
  rw [List.length_map, W.row r' h1]
  omega
theorem okD_raw (W : OkD D) : D.raw.fin.length = D.raw.next.length := by
 show D.fin.length = (D.next.map _).length
 rw [List.length_map, W.fin]
theorem SmallD.len {d : DR} (h : SmallD d) : LenD d := ⟨mild_small (by have := h.2.2.2.2; omega) (fun s hs => by have := h.2.1 s hs; omega), by have := h.2.2.1; omega, by have := h.2.2.2.1; omega, fun r hr => by have := h.1 r hr; omega⟩
theorem SmallD.n {D : DA} (h : SmallD D.raw) : D.next.length ≤ 12 := by
 have := h.2.2.1
 simpa [DF.raw] using this
theorem SmallD.s {D : DA} (h : SmallD D.raw) : D.syms.length ≤ 6 := h.2.2.2.2
theorem both_in {w : World} {xA xB : Array Value} (hA : DfaW w (.agg xA) A) (hB : DfaW w (.agg xB) B) (nA : A.next.length ≤ 12) (nB : B.next.length ≤ 12) (sA : A.syms.length ≤ 6) (sB : B.syms.length ≤ 6) :
 Calls Tryz.prog 15 #[.agg xA, .agg xB] w fun e w' => ∃ i x, Full (succP A B (bothSyms A B)) zeroP i ∧ e = .returned (.tuple #[.agg x, .int .i64 0]) ∧ DfaW w' (.agg x) (bothD A B i) ∧ Ext w w' := by
 have hl := bothSyms_len (A := A) (B := B)
 refine (dboth_any hA hB (by omega)).mono ?_
 rintro e w' ⟨hx, ⟨i, v, hf, hi, rfl, hv⟩ | ⟨i, hi, _⟩⟩
 ·have hv' := hv
  obtain ⟨vS, vN, vF, us, rfl, _⟩ := hv
  exact ⟨i, _, hf, rfl, ⟨hv', both_bnd hA.well hB.well hA.bnd hB.bnd (by omega) hf hi, both_well hA.well hB.well hf hi⟩, hx⟩
 ·exfalso
  have := tourP_small hA.well hB.well nA nB (bothSyms A B) i
  omega
theorem DfaV.open_ {w : World} {v : Value} {d : DR} (h : DfaV w v d) : ∃ aoS n1 cS aoN n2 cN aoF n3 cF, v = .agg #[.slice aoS n1 cS, .slice aoN n2 cN, .slice aoF n3 cF] := by
 obtain ⟨vS, vN, vF, us, rfl, hP⟩ := h
 obtain ⟨aoS, cS, rfl, -⟩ := hP.syms.form
 obtain ⟨aoN, cN, rfl, -⟩ := hP.next.form
 obtain ⟨aoF, cF, rfl, -⟩ := hP.fin.form
 exact ⟨_, _, _, _, _, _, _, _, _, rfl⟩
end
end Go.Proofs.YtngpjagpeblbjaaGreatDoor
namespace Go.Proofs.YtngpjagpeblbjaaGreatDoor
open Go.RowKit Go.Spy Go.Heaped Go.Tour Go.Rx
def findI {σ : Type} [DecidableEq σ] (l : List σ) (x : σ) : Int := if x ∈ l then (l.idxOf x : Nat) else -1
theorem findI_get {σ : Type} [DecidableEq σ] {l : List σ} (hn : l.Nodup) {x : σ} {k : Nat} (h : l[k]? = some x) : (k : Int) = findI l x := by
 unfold findI
 rw [if_pos (List.mem_of_getElem? h), idx_of_get hn h]
theorem findI_in {σ : Type} [DecidableEq σ] {l : List σ} {x : σ} (h : x ∈ l) : findI l x = (l.idxOf x : Nat) := if_pos h
theorem findI_out {σ : Type} [DecidableEq σ] {l : List σ} {x : σ} (h : x ∉ l) : findI l x = -1 := if_neg h
set_option maxRecDepth 100000 in
set_option maxHeartbeats 1000000 in
theorem find_any {w : World} {v : Value} {l : List ByteArray} (hV : ReadR w 1 strC v l) (hlen : l.length ≤ 1000) (hn : l.Nodup) (x : ByteArray) : Calls Tryz.prog 123 #[v, .string x] w fun e w' => e = .returned (.int .i64 (findI l x)) ∧ w = w' := by
 obtain ⟨ao, cap, rfl, hc⟩ := hV.form
 obtain ⟨n, hnl⟩ : ∃ n, n = l.length := ⟨_, rfl⟩
 have HV := hid hV
 rw [← hnl] at hc hlen HV ⊢
 have HC := hid hc
 have HN := hid hnl
 have HND := hid hn
 clear hV hc hnl hn
 go_enter Tryz.func123, Tryz.ntmps123
 go_wp2_with fail
 go_loopg [5] n (fun g u wr => ∃ k, g = n - k ∧ k ≤ n ∧ u = .int .i64 k ∧ wr = w ∧ Hid (∀ (j : Nat) (s : ByteArray), j < k → l[j]? = some s → s ≠ x))
 case atStart => exact ⟨0, rfl, Nat.zero_le _, rfl, rfl, hid (fun j s h => absurd h (Nat.not_lt_zero j))⟩
 case round =>
  obtain ⟨k, rfl, hk, rfl, rfl, HA⟩ := hrel
  by_cases hlt : k < n
  ·obtain ⟨g, o, rfl⟩ := HC.out (by omega)
   obtain ⟨s, hs⟩ : ∃ s, l[k]? = some s := ⟨_, List.getElem?_eq_getElem (by rw [← HN.out]; exact hlt)⟩
   have c1 : wr.cell? ⟨g, o + k, none⟩ = some (.string s) := by
    have h := HV.out
    rw [HN.out] at h
    exact h.cell1 hs
   have HS := hid hs
   clear hs
   by_cases e : s = x
   ·have t : (s.toList == x.toList) = true := beqB_true e
    have HE := hid e
    clear e
    go_wp2_with fail
    go_ret
    refine ⟨ret_int ?_, rfl⟩
    have h := HS.out
    rw [HE.out] at h
    exact findI_get HND.out h
   ·have t : (s.toList == x.toList) = false := beqB_false e
    have HE := hid e
    clear e
    go_wp2_with fail
    go_roundg (n - (k + 1))
    case measure => omega
    case rel =>
     refine ⟨k + 1, rfl, by omega, by go_num, rfl, hid fun j s' hj hs' => ?_⟩
     by_cases e : j = k
     ·subst e
      rw [HS.out] at hs'
      cases hs'; exact HE.out
     ·exact HA.out j s' (by omega) hs'
  ·go_wp2_with fail
   go_ret
   refine ⟨ret_int ?_, rfl⟩
   refine (findI_out fun h => ?_).symm
   obtain ⟨j, hj⟩ := List.getElem?_of_mem h
   exact HA.out j x (by have := (List.getElem?_eq_some_iff.1 hj).1; rw [← HN.out] at this; omega) hj rfl
set_option maxRecDepth 100000 in
set_option maxHeartbeats 1000000 in
theorem step_any {w : World} {x : Array Value} {D : DA} (hD : DfaW w (.agg x) D) (s : Int) (hs : s < D.next.length) (a : ByteArray) : Calls Tryz.prog 94 #[.agg x, .int .i64 s, .string a] w fun e w' => e = .returned (.int .i64 (goS D s a)) ∧ Ext w w' := by
 have W := hD.well
 have hB := hD.bnd
 obtain ⟨⟨vS, vN, vF, us, hxe, hP⟩, _, _⟩ := hD
 simp only [Value.agg.injEq] at hxe
 subst hxe
 obtain ⟨aoS, cS, rfl, -⟩ := hP.syms.form
 obtain ⟨aoN, cN, rfl, hgN⟩ := hP.next.form
 obtain ⟨aoF, cF, rfl, -⟩ := hP.fin.form
 obtain ⟨w1, hw1⟩ : ∃ u, u = w.alloc (.cells #[.slice aoS D.raw.syms.length cS, .slice aoN us.length cN, .slice aoF D.raw.fin.length cF] 40) := ⟨_, rfl⟩
 have e1 : Ext w w1 := hw1 ▸ (Below.refl _ _).alloc (Nat.le_refl _) _
 have hb1 : Blk w1 w.heap.size 40 #[.slice aoS D.raw.syms.length cS, .slice aoN us.length cN, .slice aoF D.raw.fin.length cF] := hw1 ▸ Blk.new _ _ _
 have HF := hid (find_any (hP.syms.ext e1) hB.s W.rising.nodup a)
 have hlen : us.length = D.next.length := by rw [hP.len]; simp [DF.raw]
 have hbn := W.most
 have HCN := hid (fun (h0 : 0 ≤ s) => (hP.ext e1).cellN W (s := s.toNat) (by omega))
 have HNX := hid fun (i : Nat) (u : Value) (h : us[i]? = some u) => (hP.next.ext e1)
 have HPN := hid (hP.next.ext e1)
 obtain ⟨n1, hn1⟩ : ∃ n, n = D.raw.syms.length := ⟨_, rfl⟩
 obtain ⟨n2, hn2⟩ : ∃ n, n = us.length := ⟨_, rfl⟩
 obtain ⟨n3, hn3⟩ : ∃ n, n = D.raw.fin.length := ⟨_, rfl⟩
 have HN1 : Hid (n1 = D.syms.length) := hid hn1
 have HN2 := hid hn2
 have c0 : w1.cell? ⟨w.heap.size, 0, none⟩ = some (.slice aoS n1 cS) := by rw [hn1]; exact hb1.cell (i := 0) rfl
 have c1 : w1.cell? ⟨w.heap.size, 1, none⟩ = some (.slice aoN n2 cN) := by rw [hn2]; exact hb1.cell (i := 1) rfl
 rw [← hn1] at HF
 have hn2s : s < n2 := by rw [hn2, hlen]; exact hs
 have hn2b : n2 ≤ 1000 := by rw [hn2, hlen]; omega
 have hn1b : n1 ≤ 1000 := by rw [hn1]; exact hB.s
 rw [← hn1, ← hn2, ← hn3] at hw1 ⊢
 have lb := hb1.lt
 have HX := hid e1
 have HW1 := hid hw1
 have HNL := hid hgN
 clear hP hB W e1 hb1 hw1 hgN hn1 hn2 hn3 hs hlen hbn
 go_enter Tryz.func94, Tryz.ntmps94
 go_wp2_with fail
 rw [← HW1.out]
 refine HF.out.mono ?_
 rintro e w2 ⟨rfl, rfl⟩
 by_cases h0 : s < 0
 ·have t0 : decide (s < 0) = true := decide_eq_true h0
  go_wp2_with fail
  go_ret
  exact ⟨ret_int (goS_none h0 a).symm, HX.out⟩
 ·have t0 : decide (s < 0) = false := decide_eq_false h0
  by_cases hm : a ∈ D.syms
  ·obtain ⟨ao, c, hu, hcell⟩ := HCN.out (by omega)
   obtain ⟨k, hk⟩ : ∃ k, k = @List.idxOf _ instBEqOfDecidableEq a D.syms := ⟨_, rfl⟩
   have hkn : k < n1 := by rw [HN1.out, hk]; exact idx_lt hm
   obtain ⟨g, off, rfl, hc⟩ := hcell k (by rw [← HN1.out]; exact hkn)
   obtain ⟨gN, oN, rfl⟩ := HNL.out (by rw [← HN2.out]; omega)
   have hf : findI D.raw.syms a = (k : Int) := by
    rw [hk]; exact findI_in hm
   obtain ⟨q, hq⟩ : ∃ q : Nat, s = q := ⟨s.toNat, by omega⟩
   subst hq
   have c3 : w1.cell? ⟨gN, oN + q, none⟩ = some (.slice (some ⟨g, off, none⟩) n1 c) := by
    have h := HPN.out
    have h2 := h.cell1 hu
    rw [← HN1.out] at h2
    simpa [oneA, slV] using h2
   have c4 : w1.cell? ⟨g, off + k, none⟩ = some (.int .i64 (stepD D q k : Nat)) := by simpa using hc
   have t1 : decide ((k : Int) < 0) = false := decide_eq_false (by omega)
   have HR : Hid (goS D (q : Int) a = (stepD D q k : Nat)) := hid (by rw [goS_in hm, hk])
   rw [hf]
   clear hf hc hu hk
   go_wp2_with fail
   go_ret
   exact ⟨ret_int HR.out.symm, HX.out⟩
  ·have hf : findI D.raw.syms a = -1 := by
    exact findI_out hm
   rw [hf]
   clear hf
   go_wp2_with fail
   go_ret
   exact ⟨ret_int (goS_out hm s).symm, HX.out⟩
end Go.Proofs.YtngpjagpeblbjaaGreatDoor
namespace Go.Proofs.YtngpjagpeblbjaaGreatDoor
open Go.RowKit Go.Spy Go.Heaped Go.Tour Go.Rx
set_option maxRecDepth 100000 in
set_option maxHeartbeats 1000000 in
theorem isame_any {w : World} {v1 v2 : Value} {us vs : List Int} (h1 : ReadR w 1 intZ v1 us) (h2 : ReadR w 1 intZ v2 vs) (hl : us.length ≤ 1000000000) : Calls Tryz.prog 118 #[v1, v2] w fun e w' => e = .returned (.bool (decide (us = vs))) ∧ Ext w w' := by
 obtain ⟨a1, c1, rfl, s1⟩ := h1.form
 obtain ⟨a2, c2, rfl, s2⟩ := h2.form
 obtain ⟨n, hn⟩ : ∃ n, n = us.length := ⟨_, rfl⟩
 obtain ⟨m, hm⟩ : ∃ n, n = vs.length := ⟨_, rfl⟩
 have H1 := hid h1
 have H2 := hid h2
 rw [← hn] at H1 s1 hl ⊢
 rw [← hm] at H2 s2 ⊢
 have HS1 := hid s1
 have HS2 := hid s2
 have HN := hid hn
 have HM := hid hm
 clear h1 h2 s1 s2 hn hm
 by_cases hnm : n = m
 rotate_left
 ·have t : ((n : Int) != (m : Int)) = true := by simp; omega
  have HNM := hid hnm
  clear hnm
  go_enter Tryz.func118, Tryz.ntmps118
  go_wp2_with fail
  go_ret
  refine ⟨ret_bool ?_, Below.refl _ _⟩
  symm
  refine decide_eq_false ?_
  rintro rfl
  exact HNM.out (HN.out.trans HM.out.symm)
 ·have HNM := hid hnm
  have t : ((n : Int) != (m : Int)) = false := by simp [hnm]
  clear hnm
  go_enter Tryz.func118, Tryz.ntmps118
  go_wp2_with fail
  go_loopg [5] n (fun g u wr => ∃ k, g = n - k ∧ k ≤ n ∧ u = .int .i64 k ∧ Hid (Ext w wr) ∧ Hid (∀ (i : Nat) (y z : Int), i < k → us[i]? = some y → vs[i]? = some z → y = z))
  case atStart => exact ⟨0, rfl, Nat.zero_le _, rfl, hid (Below.refl _ _), hid (fun j r s h => absurd h (Nat.not_lt_zero j))⟩
  case round =>
   obtain ⟨k, rfl, hk, rfl, HE, HA⟩ := hrel
   by_cases hlt : k < n
   ·have hlt2 : k < m := by rw [← HNM.out]; exact hlt
    obtain ⟨g1, o1, rfl⟩ := HS1.out (by omega)
    obtain ⟨g2, o2, rfl⟩ := HS2.out (by omega)
    obtain ⟨y, hy⟩ : ∃ y, us[k]? = some y := ⟨_, List.getElem?_eq_getElem (by rw [← HN.out]; exact hlt)⟩
    obtain ⟨z, hz⟩ : ∃ y, vs[k]? = some y := ⟨_, List.getElem?_eq_getElem (by rw [← HM.out]; exact hlt2)⟩
    have c5 : wr.cell? ⟨g1, o1 + k, none⟩ = some (.int .i64 y) := by
     have h := H1.out.ext HE.out
     rw [HN.out] at h
     exact h.cell1 hy
    have c6 : wr.cell? ⟨g2, o2 + k, none⟩ = some (.int .i64 z) := by
     have h := H2.out.ext HE.out
     rw [HM.out] at h
     exact h.cell1 hz
    have HY := hid hy
    have HZ := hid hz
    have i3 : (0 : Int) ≤ (k : Int) := by omega
    have i4 : (k : Int) < (n : Int) := by omega
    have i5 : (k : Int) < (m : Int) := by omega
    clear hy hz
    by_cases hyz : y = z
    ·have t : (y != z) = false := by simp [hyz]
     have HYZ := hid hyz
     clear hyz
     go_wp2_with fail
     go_quiet (fail)
     go_wp2_with fail
     go_roundg (n - (k + 1))
     case measure => omega
     case rel =>
      refine ⟨k + 1, rfl, by omega, by go_num, hid (ext_drewN HE.out _), hid fun i y' z' hi hy' hz' => ?_⟩
      by_cases e : i = k
      ·subst e
       rw [HY.out] at hy'; rw [HZ.out] at hz'
       cases hy'; cases hz'; exact HYZ.out
      ·exact HA.out i y' z' (by omega) hy' hz'
    ·have t : (y != z) = true := by simp [hyz]
     have HYZ := hid hyz
     clear hyz
     go_wp2_with fail
     go_quiet (fail)
     go_wp2_with fail
     go_ret
     refine ⟨ret_bool ?_, ext_drewN HE.out _⟩
     symm
     refine decide_eq_false ?_
     rintro rfl
     have := HY.out.symm.trans HZ.out
     cases this
     exact HYZ.out rfl
   ·obtain rfl : k = n := by omega
    have HRSE : Hid (us = vs) := hid (list_ext_at (by rw [← HN.out, ← HM.out]; exact HNM.out) fun i a b hi h1 h2 => HA.out i a b (by rw [HN.out]; exact hi) h1 h2)
    go_wp2_with fail
    go_ret
    refine ⟨ret_bool ?_, HE.out⟩
    exact (decide_eq_true HRSE.out).symm
def idxK {K : Type} [DecidableEq K] (l : List K) (x : K) : Nat := l.idxOf x
def KeysR (w : World) (us : List Value) (keys : List (List Int)) : Prop := us.length = keys.length ∧ ∀ (i : Nat) (u : Value) (x : List Int), us[i]? = some u → keys[i]? = some x → ReadR w 1 intZ u x
def Old (w : World) (v v' : Value) : Prop := ∀ g, v'.ownBlock = some g → v.ownBlock = some g ∨ w.heap.size ≤ g
def NumberPost (base : Nat) (v vx : Value) (us : List Value) (keys : List (List Int)) (x : List Int) (w : World) (e : Ending) (w' : World) : Prop :=
 (x ∈ keys ∧ e = .returned (.tuple #[.int .i64 (idxK keys x : Nat), v]) ∧ Ext w w') ∨
 (x ∉ keys ∧ ∃ v', e = .returned (.tuple #[.int .i64 (keys.length : Nat), v']) ∧ OwnR w' base 46 1 oneA v' (us ++ [vx]) ∧ Chg (fun k => v.ownBlock = some k) w w' ∧ Old w v v')
set_option maxRecDepth 100000 in
set_option maxHeartbeats 1000000 in
theorem number_any {w : World} {base : Nat} {v vx : Value} {us : List Value} {keys : List (List Int)} {x : List Int} (hO : OwnR w base 46 1 oneA v us) (hb : base ≤ w.heap.size) (hK : KeysR w us keys) (hN : keys.Nodup) (hx : ReadR w 1 intZ vx x) (hl : us.length ≤ 1000000) (hks : ∀ y ∈ keys, y.length ≤ 1000) :
 Calls Tryz.prog 91 #[v, vx] w (NumberPost base v vx us keys x w) := by
 obtain ⟨ao, c, rfl, hc⟩ := (OwnR.read hO (fun _ => rfl)).form
 obtain ⟨ax, cx, rfl, -⟩ := hx.form
 obtain ⟨m, hm⟩ : ∃ n, n = x.length := ⟨_, rfl⟩
 rw [← hm] at hx ⊢
 clear hm
 obtain ⟨n, hn⟩ : ∃ n, n = us.length := ⟨_, rfl⟩
 have HO := hid hO
 rw [← hn] at HO hl hc ⊢
 have HC := hid hc
 have HN := hid hn
 have HK := hid hK
 have HND := hid hN
 have HX := hid hx
 have HKS := hid hks
 clear hO hK hN hx hn hc hks
 go_enter Tryz.func91, Tryz.ntmps91
 go_wp2_with fail
 go_loopg [6] n (fun g u wr => ∃ k, g = n - k ∧ k ≤ n ∧ u = .int .i64 k ∧ Hid (Ext w wr) ∧ Hid (∀ (i : Nat) (y : List Int), i < k → keys[i]? = some y → y ≠ x))
 case atStart => exact ⟨0, rfl, Nat.zero_le _, rfl, hid (Below.refl _ _), hid (fun j s h => absurd h (Nat.not_lt_zero j))⟩
 case round =>
  obtain ⟨k, rfl, hk, rfl, HE, HA⟩ := hrel
  by_cases hlt : k < n
  ·obtain ⟨g, o, rfl⟩ := HC.out (by omega)
   obtain ⟨u, hu⟩ : ∃ s, us[k]? = some s := ⟨_, List.getElem?_eq_getElem (by rw [← HN.out]; exact hlt)⟩
   obtain ⟨y, hy⟩ : ∃ s, keys[k]? = some s := ⟨_, List.getElem?_eq_getElem (by rw [← HK.out.1, ← HN.out]; exact hlt)⟩
   have hru := (HK.out.2 k u y hu hy).ext HE.out
   obtain ⟨ao2, c2, rfl, -⟩ := hru.form
   obtain ⟨m2, hm2⟩ : ∃ n, n = y.length := ⟨_, rfl⟩
   rw [← hm2] at hu hru
   have c1 : wr.cell? ⟨g, o + k, none⟩ = some (.slice ao2 m2 c2) := by
    have h := (OwnR.read HO.out (fun _ => rfl)).ext HE.out
    rw [HN.out] at h
    exact h.cell1 hu
   have hyl := HKS.out y (List.mem_of_getElem? hy)
   have HC1 := hid (isame_any hru (HX.out.ext HE.out) (by omega))
   have HY := hid hy
   clear hu hru hyl hy hm2
   obtain ⟨b, hb⟩ : ∃ b, b = decide (y = x) := ⟨_, rfl⟩
   rw [← hb] at HC1
   have HBB := hid hb
   clear hb
   go_wp2_with fail
   refine HC1.out.mono ?_
   rintro e w2 ⟨rfl, hx2⟩
   have HX2 := hid (HE.out.trans (hx2.mono HE.out.size))
   clear hx2 c1 HC1
   cases b with
   | true =>
     have HYX : Hid (y = x) := hid (of_decide_eq_true HBB.out.symm)
     go_wp2_with fail
     go_ret2
     refine .inl ⟨?_, ?_, HX2.out⟩
     ·have h := HY.out
      rw [HYX.out] at h
      exact List.mem_of_getElem? h
     ·have h := HY.out
      rw [HYX.out] at h
      have e : idxK keys x = k := idx_of_get HND.out h
      rw [e]
      rfl
   | false =>
     go_wp2_with fail
     go_roundg (n - (k + 1))
     case measure => omega
     case rel =>
      refine ⟨k + 1, rfl, by omega, by go_num, HX2, hid fun i y' hi hy' => ?_⟩
      by_cases e : i = k
      ·subst e
       rw [HY.out] at hy'
       cases hy'
       exact of_decide_eq_false HBB.out.symm
      ·exact HA.out i y' (by omega) hy'
  ·obtain rfl : k = n := by omega
   have HNO : Hid (x ∉ keys) := hid fun h => by
    obtain ⟨i, hi⟩ := List.getElem?_of_mem h
    exact HA.out i x (by have := (List.getElem?_eq_some_iff.1 hi).1; rw [HN.out, HK.out.1]; exact this) hi rfl
   have HO1 := hid (HO.out.ext HE.out)
   have hsz : base ≤ wr.heap.size := Nat.le_trans hb HE.out.size
   have hln : us.length + 1 ≤ 1000000000 := by rw [← HN.out]; omega
   go_wp2_with (with_reducible refine onOp 26 ?_
                go_loud (refine wpList_append_R elem_row (fun _ => rfl) ones_row HO1 hsz hln (.slice ax m cx) _ rfl wr.heap.size rfl rfl _ _ rfl rfl rfl ?_)
                rintro g' cap' v' w4 rfl G1 G2)
   go_ret2
   refine .inr ⟨HNO.out, _, ?_, G1.out, ?_, fun q hq => ?_⟩
   ·rw [← HK.out.1, ← HN.out]
    rfl
   ·have h0 : Chg (fun q => Value.ownBlock (.slice ao k c) = some q) w wr := (Chg.of_ext HE.out).mono (S := fun _ => False) (fun _ _ h => False.elim h)
    exact h0.grown G2.out.1 (fun k e => e)
   ·obtain rfl : g' = q := by cases hq; rfl
    rcases G2.out.2 with h | h
    ·exact .inl h
    ·exact .inr (Nat.le_trans HE.out.size h)
end Go.Proofs.YtngpjagpeblbjaaGreatDoor
namespace Go.Tour
variable {K : Type} [DecidableEq K] {δ : K → Nat → K} {m : Nat} {first : K} {keys keys' : List K} {fr fr' : List (Nat × Nat)} {b b' : Nat × Nat}
omit [DecidableEq K] in
theorem Bfs.word_app (h : Bfs δ m first keys fr b) (h' : Bfs δ m first keys' fr' b') (hp : fr <+: fr') : ∀ n, n < fr.length → word fr' n = word fr n := by
 intro n
 induction n using Nat.strongRecOn with
 | ind n ih =>
   intro hn
   by_cases h0 : n = 0
   ·subst h0; rw [word_zero, word_zero]
   ·obtain ⟨p, hpn⟩ : ∃ p, fr[n]? = some p := ⟨_, List.getElem?_eq_getElem hn⟩
    have hpn' : fr'[n]? = some p := by
     obtain ⟨t, rfl⟩ := hp
     rw [List.getElem?_append_left hn]; exact hpn
    have hst := h.step n p (by omega) hpn
    rw [h'.word_pos (by omega) hpn', h.word_pos (by omega) hpn, ih p.1 hst.2.1 (by omega)]
omit [DecidableEq K] in
theorem Bfs.word_len (h : Bfs δ m first keys fr b) : ∀ n, n < fr.length → (word fr n).length ≤ n := by
 intro n
 induction n using Nat.strongRecOn with
 | ind n ih =>
   intro hn
   by_cases h0 : n = 0
   ·subst h0; rw [word_zero]; simp
   ·obtain ⟨p, hpn⟩ : ∃ p, fr[n]? = some p := ⟨_, List.getElem?_eq_getElem hn⟩
    have hst := h.step n p (by omega) hpn
    rw [h.word_pos (by omega) hpn, List.length_append, List.length_singleton]
    have := ih p.1 hst.2.1 (by omega)
    have := hst.2.1
    omega
theorem vis1_from (r : Nat) (s : St K) (k : K) (j : Nat) : s.from_ <+: (vis1 r s k j).from_ := by
 unfold vis1
 split
 ·exact List.prefix_refl _
 ·exact List.prefix_append _ _
theorem visN_from (r : Nat) (s : St K) (l : List K) : ∀ j, s.from_ <+: (visN r s l j).from_
 | 0 => List.prefix_refl _
 | j + 1 => by
   unfold visN
   split
   ·exact (visN_from r s l j).trans (vis1_from _ _ _ _)
   ·exact visN_from r s l j
theorem tourN_from_pre (succ : K → List K) (first : K) {i j : Nat} (h : i ≤ j) : (tourN succ first i).from_ <+: (tourN succ first j).from_ := by
 induction j with
 | zero => obtain rfl : i = 0 := by omega
           exact List.prefix_refl _
 | succ n ih =>
   by_cases e : i = n + 1
   ·subst e; exact List.prefix_refl _
   ·refine (ih (by omega)).trans ?_
    cases h : (tourN succ first n).keys[n]? with
    | none => rw [tourN_stop (List.getElem?_eq_none_iff.1 h)]; exact List.prefix_refl _
    | some k => rw [tourN_succ h]; exact visN_from n ⟨(tourN succ first n).keys, (tourN succ first n).from_, []⟩ (succ k) _
end Go.Tour
namespace Go.Proofs.YtngpjagpeblbjaaGreatDoor
open Go.RowKit Go.Spy Go.Heaped Go.Tour Go.Rx
abbrev PI := Int × Int
def lstP (p : PI) : List Int := [p.1, p.2]
theorem lstP_inj {p q : PI} (h : lstP p = lstP q) : p = q := by
 obtain ⟨a, b⟩ := p
 obtain ⟨c, d⟩ := q
 simp only [lstP, List.cons.injEq, and_true] at h
 rw [h.1, h.2]
theorem lstP_mem {p : PI} {l : List PI} : lstP p ∈ l.map lstP ↔ p ∈ l := by
 rw [List.mem_map]
 constructor
 ·rintro ⟨q, hq, e⟩
  rw [← lstP_inj e]; exact hq
 ·intro h; exact ⟨p, h, rfl⟩
theorem lstP_idx (l : List PI) (p : PI) : idxK (l.map lstP) (lstP p) = idxK l p :=
 idxOf_map_on (φ := lstP) l p fun _ _ e => lstP_inj e
structure SideOk (qs : Int → ByteArray → Int) (m : Nat) : Prop where
 pos : 0 < m
 le : m ≤ 256
 go : ∀ (q : Int) (x : ByteArray), -1 ≤ q → q < m → -1 ≤ qs q x ∧ qs q x < m
section
variable {A B : DA} {qs : Int → ByteArray → Int} {ot : Int → Bool} {m : Nat}
def goF (A : DA) (qs : Int → ByteArray → Int) (p : PI) (c : Nat) : PI := (goS A p.1 (symAt A.syms c), qs p.2 (symAt A.syms c))
abbrev succF (A : DA) (qs : Int → ByteArray → Int) : PI → List PI := fan (goF A qs) A.syms.length
def finF (A : DA) (ot : Int → Bool) (p : PI) : Bool := finS A p.1 && !ot p.2
def okF (A : DA) (m : Nat) (p : PI) : Prop := 0 ≤ p.1 ∧ p.1 < A.next.length ∧ -1 ≤ p.2 ∧ p.2 < m
theorem goF_ok (W : WellD nameOk A) (S : SideOk qs m) {p : PI} (h : okF A m p) {c : Nat} (hc : c < A.syms.length) : okF A m (goF A qs p c) := by
 obtain ⟨h1, h2, h3, h4⟩ := h
 have hg := S.go p.2 (symAt A.syms c) h3 h4
 have hb := (goS_bnd W p.1 (symAt A.syms c)).2
 refine ⟨?_, hb, hg.1, hg.2⟩
 show 0 ≤ goS A p.1 (symAt A.syms c)
 unfold goS
 rw [if_pos ⟨h1, by rw [symAt_some hc]; exact List.getElem_mem hc⟩]
 omega
theorem zero_okF (W : WellD nameOk A) (S : SideOk qs m) : okF A m (0, 0) := by
 have h1 := W.ok.pos
 have h2 := S.pos
 exact ⟨by decide, by show (0 : Int) < _; omega, by decide, by show (0 : Int) < _; omega⟩
theorem succF_ok (W : WellD nameOk A) (S : SideOk qs m) : ∀ k, okF A m k → ∀ x ∈ succF A qs k, okF A m x := fun k hk x hx => by
 simp only [fan, List.mem_map, List.mem_range] at hx
 obtain ⟨c, hc, rfl⟩ := hx
 exact goF_ok W S hk hc
def allF (A : DA) (m : Nat) : List PI := (List.range A.next.length).flatMap fun (i : Nat) => (List.range (m + 1)).map fun (j : Nat) => ((i : Int), (j : Int) - 1)
theorem allF_mem (p : PI) (h : okF A m p) : p ∈ allF A m := by
 obtain ⟨h1, h2, h3, h4⟩ := h
 refine List.mem_flatMap.2 ⟨p.1.toNat, List.mem_range.2 (by omega), List.mem_map.2 ⟨(p.2 + 1).toNat, List.mem_range.2 (by omega), ?_⟩⟩
 have e1 : ((p.1.toNat : Nat) : Int) = p.1 := by omega
 have e2 : (((p.2 + 1).toNat : Nat) : Int) - 1 = p.2 := by omega
 rw [e1, e2]
theorem tourF_le (W : WellD nameOk A) (S : SideOk qs m) (i : Nat) : (tourN (succF A qs) (0, 0) i).keys.length ≤ 66049 := by
 have h := tourN_le (U := okF A m) (succ := succF A qs) (first := (0, 0)) (zero_okF W S) (succF_ok W S) (u := allF A m) allF_mem i
 have hl : (allF A m).length = A.next.length * (m + 1) := by simp only [allF, List.length_flatMap, List.length_map, List.length_range, List.map_const', List.sum_replicate_nat]
 rw [hl] at h
 refine Nat.le_trans h ?_
 have h1 := W.most
 have h2 := S.le
 exact Nat.le_trans (Nat.mul_le_mul h1 (show m + 1 ≤ 257 by omega)) (by decide)
theorem runF : ∀ (u : List Nat) (p : PI), (∀ c ∈ u, c < A.syms.length) → runL (goF A qs) p u = (runS A p.1 (wordsOf A.syms u), (wordsOf A.syms u).foldl qs p.2)
 | [], p, _ => by simp [runL, runS, wordsOf]
 | c :: u, p, h => by
   have hc : c < A.syms.length := h c (by simp)
   have ih := runF u (goF A qs p c) (fun d hd => h d (by simp [hd]))
   rw [wordsOf_cons hc]
   simp only [runL, List.foldl_cons] at ih ⊢
   rw [ih]
   simp only [goF, symAt_some hc, runS, List.foldl_cons]
def FirstPost (A : DA) (qs : Int → ByteArray → Int) (ot : Int → Bool) (w : World) (e : Ending) (w' : World) : Prop := Ext w w' ∧
 ((∃ v u, e = .returned (.tuple #[v, .bool true]) ∧ OwnR w' w.heap.size 9 1 strC v (wordsOf A.syms u) ∧ u.length ≤ 100000 ∧ (∀ c ∈ u, c < A.syms.length) ∧ finF A ot (runL (goF A qs) (0, 0) u) = true ∧ ∀ x, (∀ c ∈ x, c < A.syms.length) → finF A ot (runL (goF A qs) (0, 0) x) = true → sle u x) ∨
  (e = .returned (.tuple #[.slice none 0 0, .bool false]) ∧ ∀ x, (∀ c ∈ x, c < A.syms.length) → finF A ot (runL (goF A qs) (0, 0) x) = false))
theorem first_found (W : WellD nameOk A) (S : SideOk qs m) {i : Nat} {k : PI} (hk : (tourN (succF A qs) (0, 0) i).keys[i]? = some k) (hf : finF A ot k = true) (hn : ∀ n p, n < i → (tourN (succF A qs) (0, 0) i).keys[n]? = some p → finF A ot p = false) :
 (word (tourN (succF A qs) (0, 0) i).from_ i).length ≤ 100000 ∧ (∀ c ∈ word (tourN (succF A qs) (0, 0) i).from_ i, c < A.syms.length) ∧ finF A ot (runL (goF A qs) (0, 0) (word (tourN (succF A qs) (0, 0) i).from_ i)) = true ∧
   ∀ x, (∀ c ∈ x, c < A.syms.length) → finF A ot (runL (goF A qs) (0, 0) x) = true → sle (word (tourN (succF A qs) (0, 0) i).from_ i) x := by
 have hil : i < (tourN (succF A qs) (0, 0) i).keys.length := (List.getElem?_eq_some_iff.1 hk).1
 have hb := bfs_tour (goF A qs) A.syms.length (0, 0) i (Nat.le_of_lt hil)
 obtain ⟨j, hj, hF⟩ := full_ex (U := okF A m) (succ := succF A qs) (first := (0, 0)) (zero_okF W S) (succF_ok W S) (u := allF A m) allF_mem
 have hpre := full_keys (n := i) hF
 have hij : i ≤ j := by
  have h1 := hpre.length_le
  have h2 : (tourN (succF A qs) (0, 0) j).keys.length = j := hF
  omega
 have hkj : (tourN (succF A qs) (0, 0) j).keys[i]? = some k := by
  obtain ⟨t, ht⟩ := hpre
  rw [← ht, List.getElem?_append_left hil]; exact hk
 have hr := hb.word_run i hil
 have hlw : (word (tourN (succF A qs) (0, 0) i).from_ i).length ≤ 100000 := by
  have h1 := hb.word_len i (by rw [hb.len]; exact hil)
  have h2 := tourF_le W S (A := A) i
  exact Nat.le_trans h1 (Nat.le_trans (Nat.le_of_lt hil) (Nat.le_trans h2 (by decide)))
 refine ⟨hlw, hr.2, ?_, ?_⟩
 ·have e : k = runL (goF A qs) (0, 0) (word (tourN (succF A qs) (0, 0) i).from_ i) := Option.some.inj (hk.symm.trans hr.1)
  rw [← e]; exact hf
 ·intro x hx hfx
  have hbj := hF.bfs
  have e : word (tourN (succF A qs) (0, 0) j).from_ i = word (tourN (succF A qs) (0, 0) i).from_ i := hb.word_app hbj (tourN_from_pre _ _ hij) i (by rw [hb.len]; exact hil)
  rw [← e]
  have h1 := full_least hF (finF A ot) hkj (fun n p hn' hp => hn n p hn' (by
   obtain ⟨t, ht⟩ := hpre
   rw [← ht, List.getElem?_append_left (by omega)] at hp
   exact hp))
  exact h1.2.2 x hx hfx
theorem first_none {i : Nat} (hF : Full (succF A qs) (0, 0) i) (hn : ∀ n p, n < i → (tourN (succF A qs) (0, 0) i).keys[n]? = some p → finF A ot p = false) :
 ∀ x, (∀ c ∈ x, c < A.syms.length) → finF A ot (runL (goF A qs) (0, 0) x) = false := by
 intro x hx
 refine full_none hF (finF A ot) (fun p hp => ?_) x hx
 obtain ⟨n, hn'⟩ := List.getElem?_of_mem hp
 exact hn n p (Nat.lt_of_lt_of_eq (List.getElem?_eq_some_iff.1 hn').1 hF) hn'
end
end Go.Proofs.YtngpjagpeblbjaaGreatDoor
