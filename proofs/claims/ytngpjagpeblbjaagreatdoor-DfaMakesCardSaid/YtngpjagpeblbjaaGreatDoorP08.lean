/-
  Walk of plan: what is known of all nodes.
  Walk of Nullable where there is a plan.
  Walk of the closures of Match: follow, which keeps what it has found in a map.
  Walk of slices.IndexFunc and slices.ContainsFunc, handed the closure ends.
  Walk of slices.ContainsFunc; numbers that are owned lie where a value says.
  Walk of Match: one word or more.
  Walk of the reader's blanks: what is still to be read.
  Walk of the reader's mark.
  Walk of the reader's word.
  Walks of moved, many and keep.
-/
import Derived.Deep.RegionLaw
import Derived.Outline
import Derived.Test.YtngpjagpeblbjaaGreatDoorP07
import Derived.StillTailTactics
import Derived.Deep.QuietTactic
import Derived.BigQuiet
import Derived.BigRegion
import Derived.WalkSpells
import Derived.Test.YtngpjagpeblbjaaGreatDoorP04
import Derived.Test.YtngpjagpeblbjaaGreatDoorP01
import Derived.Test.YtngpjagpeblbjaaGreatDoorP03
import Derived.Test.YtngpjagpeblbjaaGreatDoorP06
namespace Go.Proofs.YtngpjagpeblbjaaGreatDoor
open Go.RowKit Go.Spy Go.Rx
def PlanPost (l : List Nd) (ao : Option Addr) (cap : Nat) (w : World) (e : Ending) (w' : World) : Prop :=
 ∃ bF bA, e = .returned (.tuple #[.agg (planC ao l.length cap bF bA), .bool true]) ∧ PlanW w' ao l bF bA ∧ Ext w w' ∧ w.heap.size ≤ bF ∧ w.heap.size ≤ bA
theorem info_factM : (Tryz.prog.info? 131).map (fun i => (i.zero, i.size, i.bytes)) = some (some (.agg (factV ⟨false, false, 0, 0⟩)), 34, 264) := by kernel_rfl
theorem madeF (n : Nat) : madeCells (Value.agg (factV ⟨false, false, 0, 0⟩)).cells (n * 34) = rowV factV (List.replicate n ⟨false, false, 0, 0⟩) := by
 apply Array.ext_getElem?
 intro i
 have hsz : (Value.agg (factV ⟨false, false, 0, 0⟩)).cells.size = 34 := factV_size _
 by_cases hi : i < n * 34
 ·have hq : i / 34 < n := Nat.div_lt_of_lt_mul (by omega)
  have hr : i % 34 < 34 := Nat.mod_lt _ (by omega)
  have he : i = (i / 34) * 34 + i % 34 := by omega
  have h1 := rowV_get (f := factV) (s := 34) factV_size (xs := List.replicate n ⟨false, false, 0, 0⟩) (k := i / 34) (j := i % 34) (x := ⟨false, false, 0, 0⟩) (by simp [hq]) hr
  rw [← he] at h1
  rw [h1]
  simp only [madeCells, Array.getElem?_map, Array.getElem?_range, hi, if_true, Option.map_some, hsz]
  show some ((factV ⟨false, false, 0, 0⟩)[i % 34]!) = _
  rw [getElem!_pos _ _ (by rw [factV_size]; exact hr)]
  exact (Array.getElem?_eq_getElem _).symm
 ·rw [Array.getElem?_eq_none (by rw [size_madeCells]; omega), Array.getElem?_eq_none (by rw [rowV_size factV_size]; simp; omega)]
theorem madeA (l : List Nd) (h0 : 0 < l.length) : (madeCells (Value.int .i64 0).cells (l.length * 1)).setIfInBounds (l.length - 1) (.int .i64 (-1)) = aboveV l 0 := by
 apply Array.ext_getElem?
 intro j
 by_cases hj : j < l.length
 ·rw [aboveV_get hj, up]
  by_cases e : l.length - 1 = j
  ·subst e
   rw [Array.getElem?_setIfInBounds_self, if_pos (by rw [size_madeCells]; omega), if_pos (by omega)]
  ·rw [Array.getElem?_setIfInBounds_ne e, if_neg (by omega)]
   simp [madeCells, hj, Value.cells, Nat.mod_one]
 ·rw [Array.getElem?_eq_none (by simp [size_madeCells]; omega), Array.getElem?_eq_none (by rw [aboveV_size]; omega)]
def MadeP (l : List Nd) (ao : Option Addr) (cap : Nat) (w1 : World) (v : Value) (wx : World) : Prop :=
 ∃ bP bF bA, v = .pointer (some ⟨bP, 0, none⟩) ∧ Blk wx bP 126 (planC ao l.length cap bF bA) ∧ Blk wx bF 131 (rowV factV (List.replicate l.length ⟨false, false, 0, 0⟩)) ∧ Blk wx bA 3 (madeCells (Value.int .i64 0).cells (l.length * 1)) ∧ Ext w1 wx ∧ w1.heap.size ≤ bP ∧ w1.heap.size ≤ bF ∧ w1.heap.size ≤ bA
set_option maxRecDepth 100000 in
set_option maxHeartbeats 2000000 in
theorem plan_any {l : List Nd} (F : Rx.Form l) {w : World} {ao : Option Addr} (hV : NodesV w ao l) (hN : NamesOk l) (cap : Nat) (hl : l.length ≤ 64) :
 Calls Tryz.prog 81 #[.agg #[.slice ao l.length cap]] w (PlanPost l ao cap w) := by
 have h0 : 0 < l.length := List.length_pos_iff.2 F.ne
 have HV := hid hV
 have HN := hid hN
 have HF := hid F
 clear hV hN F
 go_enter Tryz.func81, Tryz.ntmps81
 go_wp2_with fail
 have hE0 : Ext w ((w.alloc (.cells #[.slice ao l.length cap] 45)).alloc (.cells #[.slice none 0 0, .slice none 0 0, .slice none 0 0] 126)) := ((Below.refl _ w).alloc (Nat.le_refl _) _).alloc (by simp) _
 refine (check_any (HV.out.ext hE0) cap).mono ?_
 rintro e w1 ⟨c, rfl, hC, hx⟩
 have hc0 : c = 0 := (checkC_zero hC).2 ⟨by omega, HF.out, HN.out⟩
 subst hc0
 have x0 : w1.cell? ⟨w.heap.size, 0, none⟩ = some (.slice ao l.length cap) := (((Blk.new w _ _).alloc _).ext hx).cell (i := 0) rfl
 have HBr : Hid (Blk w1 w.heap.size 45 #[.slice ao l.length cap]) := hid (((Blk.new w _ _).alloc _).ext hx)
 have HBr2 : Hid (Blk w1 (w.heap.size + 1) 126 #[.slice none 0 0, .slice none 0 0, .slice none 0 0]) := hid ((Blk.new' (w.alloc _) _ _ (by simp)).ext hx)
 have HE1 : Hid (Ext w w1) := hid (hE0.trans (hx.mono (by simp; omega)))
 have hsz1 : w.heap.size + 1 < w1.heap.size := HBr2.out.lt
 clear hC hx hE0
 obtain ⟨MF, HMF⟩ : ∃ M, Hid (M = madeCells (Value.agg (factV ⟨false, false, 0, 0⟩)).cells (l.length * 34)) := ⟨_, hid rfl⟩
 obtain ⟨MA, HMA⟩ : ∃ M, Hid (M = madeCells (Value.int .i64 0).cells (l.length * 1)) := ⟨_, hid rfl⟩
 have hm1 : ∀ w', (Instr.makeSlice 124 (.int .i64 (l.length : Int)) (.int .i64 (l.length : Int))).run Tryz.prog w' = .ok (.slice (some ⟨w'.heap.size, 0, none⟩) l.length l.length) (w'.alloc (.cells MF 131)) := fun w' => by
  rw [HMF.out]; exact run_make_R _ _ _ 34 264 Tryz.underlying124 info_factM _ (by omega) (by omega) w'
 have hm2 : ∀ w', (Instr.makeSlice 46 (.int .i64 (l.length : Int)) (.int .i64 (l.length : Int))).run Tryz.prog w' = .ok (.slice (some ⟨w'.heap.size, 0, none⟩) l.length l.length) (w'.alloc (.cells MA 3)) := fun w' => by
  rw [HMA.out]; exact run_make_R _ _ _ 1 8 Tryz.underlying46 Tryz.infoInt _ (by omega) (by omega) w'
 have z0 : w.heap.size < w1.heap.size := by omega
 have z1 : w.heap.size < w1.heap.size + 1 := by omega
 have z2 : w.heap.size < w1.heap.size + 1 + 1 := by omega
 have z3 : w.heap.size < w1.heap.size + 1 + 1 + 1 := by omega
 go_upto_region 4 with fail
 go_cut [5] (fun v wx => MadeP l ao cap w1 v wx)
 case first =>
  go_region
  all_goals
   go_wp2_with fail
   go_meet
   first
    | (refine ⟨_, w1.heap.size, w1.heap.size + 1, rfl, ?_, ?_, ?_, ?_, ?_, ?_, ?_⟩ <;> (first | omega | (rw [← madeF, ← HMF.out]; (first | exact ((Blk.new w1 _ MF).alloc _).alloc _ | exact (Blk.new' (w1.alloc _) _ MF (by simp)).alloc _ | exact Blk.new' ((w1.alloc _).alloc _) _ MF (by simp))) | (rw [← HMA.out]; (first | exact ((Blk.new w1 _ MA).alloc _).alloc _ | exact (Blk.new' (w1.alloc _) _ MA (by simp)).alloc _ | exact Blk.new' ((w1.alloc _).alloc _) _ MA (by simp))) | exact ((((Below.refl _ w1).alloc (Nat.le_refl _) _).alloc (by simp) _).alloc (by simp; omega) _).drew | (unfold planC; (first | exact ((Blk.new w1 _ _).alloc _).alloc _ | exact (Blk.new' (w1.alloc _) _ _ (by simp)).alloc _ | exact Blk.new' ((w1.alloc _).alloc _) _ _ (by simp)))))
    | (refine ⟨_, w1.heap.size, w1.heap.size + 1 + 1, rfl, ?_, ?_, ?_, ?_, ?_, ?_, ?_⟩ <;> (first | omega | (rw [← madeF, ← HMF.out]; (first | exact ((Blk.new w1 _ MF).alloc _).alloc _ | exact (Blk.new' (w1.alloc _) _ MF (by simp)).alloc _ | exact Blk.new' ((w1.alloc _).alloc _) _ MF (by simp))) | (rw [← HMA.out]; (first | exact ((Blk.new w1 _ MA).alloc _).alloc _ | exact (Blk.new' (w1.alloc _) _ MA (by simp)).alloc _ | exact Blk.new' ((w1.alloc _).alloc _) _ MA (by simp))) | exact ((((Below.refl _ w1).alloc (Nat.le_refl _) _).alloc (by simp) _).alloc (by simp; omega) _).drew | (unfold planC; (first | exact ((Blk.new w1 _ _).alloc _).alloc _ | exact (Blk.new' (w1.alloc _) _ _ (by simp)).alloc _ | exact Blk.new' ((w1.alloc _).alloc _) _ _ (by simp)))))
    | (refine ⟨_, w1.heap.size + 1, w1.heap.size, rfl, ?_, ?_, ?_, ?_, ?_, ?_, ?_⟩ <;> (first | omega | (rw [← madeF, ← HMF.out]; (first | exact ((Blk.new w1 _ MF).alloc _).alloc _ | exact (Blk.new' (w1.alloc _) _ MF (by simp)).alloc _ | exact Blk.new' ((w1.alloc _).alloc _) _ MF (by simp))) | (rw [← HMA.out]; (first | exact ((Blk.new w1 _ MA).alloc _).alloc _ | exact (Blk.new' (w1.alloc _) _ MA (by simp)).alloc _ | exact Blk.new' ((w1.alloc _).alloc _) _ MA (by simp))) | exact ((((Below.refl _ w1).alloc (Nat.le_refl _) _).alloc (by simp) _).alloc (by simp; omega) _).drew | (unfold planC; (first | exact ((Blk.new w1 _ _).alloc _).alloc _ | exact (Blk.new' (w1.alloc _) _ _ (by simp)).alloc _ | exact Blk.new' ((w1.alloc _).alloc _) _ _ (by simp)))))
    | (refine ⟨_, w1.heap.size + 1, w1.heap.size + 1 + 1, rfl, ?_, ?_, ?_, ?_, ?_, ?_, ?_⟩ <;> (first | omega | (rw [← madeF, ← HMF.out]; (first | exact ((Blk.new w1 _ MF).alloc _).alloc _ | exact (Blk.new' (w1.alloc _) _ MF (by simp)).alloc _ | exact Blk.new' ((w1.alloc _).alloc _) _ MF (by simp))) | (rw [← HMA.out]; (first | exact ((Blk.new w1 _ MA).alloc _).alloc _ | exact (Blk.new' (w1.alloc _) _ MA (by simp)).alloc _ | exact Blk.new' ((w1.alloc _).alloc _) _ MA (by simp))) | exact ((((Below.refl _ w1).alloc (Nat.le_refl _) _).alloc (by simp) _).alloc (by simp; omega) _).drew | (unfold planC; (first | exact ((Blk.new w1 _ _).alloc _).alloc _ | exact (Blk.new' (w1.alloc _) _ _ (by simp)).alloc _ | exact Blk.new' ((w1.alloc _).alloc _) _ _ (by simp)))))
    | (refine ⟨_, w1.heap.size + 1 + 1, w1.heap.size, rfl, ?_, ?_, ?_, ?_, ?_, ?_, ?_⟩ <;> (first | omega | (rw [← madeF, ← HMF.out]; (first | exact ((Blk.new w1 _ MF).alloc _).alloc _ | exact (Blk.new' (w1.alloc _) _ MF (by simp)).alloc _ | exact Blk.new' ((w1.alloc _).alloc _) _ MF (by simp))) | (rw [← HMA.out]; (first | exact ((Blk.new w1 _ MA).alloc _).alloc _ | exact (Blk.new' (w1.alloc _) _ MA (by simp)).alloc _ | exact Blk.new' ((w1.alloc _).alloc _) _ MA (by simp))) | exact ((((Below.refl _ w1).alloc (Nat.le_refl _) _).alloc (by simp) _).alloc (by simp; omega) _).drew | (unfold planC; (first | exact ((Blk.new w1 _ _).alloc _).alloc _ | exact (Blk.new' (w1.alloc _) _ _ (by simp)).alloc _ | exact Blk.new' ((w1.alloc _).alloc _) _ _ (by simp)))))
    | (refine ⟨_, w1.heap.size + 1 + 1, w1.heap.size + 1, rfl, ?_, ?_, ?_, ?_, ?_, ?_, ?_⟩ <;> (first | omega | (rw [← madeF, ← HMF.out]; (first | exact ((Blk.new w1 _ MF).alloc _).alloc _ | exact (Blk.new' (w1.alloc _) _ MF (by simp)).alloc _ | exact Blk.new' ((w1.alloc _).alloc _) _ MF (by simp))) | (rw [← HMA.out]; (first | exact ((Blk.new w1 _ MA).alloc _).alloc _ | exact (Blk.new' (w1.alloc _) _ MA (by simp)).alloc _ | exact Blk.new' ((w1.alloc _).alloc _) _ MA (by simp))) | exact ((((Below.refl _ w1).alloc (Nat.le_refl _) _).alloc (by simp) _).alloc (by simp; omega) _).drew | (unfold planC; (first | exact ((Blk.new w1 _ _).alloc _).alloc _ | exact (Blk.new' (w1.alloc _) _ _ (by simp)).alloc _ | exact Blk.new' ((w1.alloc _).alloc _) _ _ (by simp)))))
 case rest =>
  obtain ⟨bP, bF, bA, rfl, hP, hF, hA, hX, l1, l2, l3⟩ := hcut
  have a0 := hA.cell (i := l.length - 1) (v := .int .i64 0) (by rw [Array.getElem?_eq_some_iff]; exact ⟨by rw [size_madeCells]; omega, by simp [madeCells, Value.cells, Nat.mod_one]⟩)
  have af := hA.frozen (l.length - 1)
  have p2 : wc.cell? ⟨bP, 2, none⟩ = some (.slice (some ⟨bA, 0, none⟩) l.length l.length) := hP.cell (i := 2) rfl
  have n1 : bP ≠ bF := blk_ne hP hF (by decide)
  have n2 : bP ≠ bA := blk_ne hP hA (by decide)
  have n3 : bF ≠ bA := blk_ne hF hA (by decide)
  have HPb := hid hP
  have HFb := hid hF
  have HAb := hid hA
  have HXb := hid hX
  have y0 := hX.cell (p := ⟨w.heap.size, 0, none⟩) z0
  rw [x0] at y0
  have hn1 : (0 : Int) ≤ (l.length : Int) - 1 := by omega
  clear hP hF hA hX hm1 hm2
  go_wp2_with fail
  have N1 := hid n1
  have N2 := hid n2
  have N3 := hid n3
  clear n1 n2 n3
  go_loopg [29] l.length (fun g v wr => ∃ k, g = l.length - k ∧ k ≤ l.length ∧ v = .int .i64 k ∧ Hid (∃ fs, TellW wr l ao cap w.heap.size bP bF bA fs k) ∧ Hid (Ext w wr) ∧ Hid (Blk wr (w.heap.size + 1) 126 #[.slice none 0 0, .slice none 0 0, .slice none 0 0]))
  case atStart =>
   have hc : Chg (· = bA) wc (wc.setCell ⟨bA, l.length - 1, none⟩ (.int .i64 (-1))) := (Chg.refl (· = bA) wc).setCell (p := ⟨bA, l.length - 1, none⟩) rfl _
   refine ⟨0, rfl, Nat.zero_le _, rfl, hid ⟨List.replicate l.length ⟨false, false, 0, 0⟩, ?_⟩, hid ?_, hid ?_⟩
   ·refine ⟨(((HV.out.ext HE1.out).ext HXb.out).chg hc (fun b off e => ?_)), ((HBr.out.ext HXb.out).chg hc (by show ¬ _ = _; omega)), HPb.out.chg hc N2.out, HFb.out.chg hc N3.out, ?_, by simp, fun j h => absurd h (Nat.not_lt_zero j)⟩
    ·obtain ⟨b', off', e', hb', _⟩ := HV.out.cells h0
     rw [e] at e'
     cases e'
     show ¬ _ = _
     omega
    ·rw [← madeA l h0]
     exact HAb.out.set _ _
   ·exact ((Chg.of_ext (S := (· = bA)) (HE1.out.trans (HXb.out.mono HE1.out.size))).trans hc).below (Nat.le_refl _) (fun k hk => by omega)
   ·exact (HBr2.out.ext HXb.out).chg hc (by show ¬ _ = _; omega)
  case round =>
   obtain ⟨k, rfl, hk, rfl, HTl, HEk, HB2⟩ := hrel
   by_cases hlt : k < l.length
   ·obtain ⟨fs, hT⟩ := HTl.out
    have p1 := hT.pbox.cell (i := 1) rfl
    have r0 := hT.rbox.cell (i := 0) rfl
    have HT := hid hT
    have sF := hT.facts.lt
    have sP := hT.pbox.lt
    have hlf := hT.len
    have szk : k * 34 + 34 ≤ (rowV factV fs).size := by rw [rowV_size factV_size, hlf]; have := Nat.mul_le_mul_right 34 hlt; omega
    have HLF := hid hlf
    clear hT hlf
    go_upto_region 10 with fail
    refine wp_region_heldL (fun w' => w'.cell? ⟨bP, 1, none⟩ = some (.slice (some ⟨bF, 0, none⟩) l.length l.length)) (by kernel_rfl) ?_
    refine wpAnyH_takeK 0 7 (mk 8 1) rfl (by kernel_rfl) rfl (.pointer (some ⟨bP, 1, none⟩)) (fun _ _ _ h => h) (Or.inl ⟨rfl, fun w' hS => ?_⟩) p1 ?_
    ·go_simp <;> with_reducible rfl
    refine wpAnyH_takeK 1 6 (mk 8 3) rfl (by kernel_rfl) rfl (.slice (some ⟨bF, 0, none⟩) l.length l.length) (fun _ _ _ h => h) (Or.inl ⟨rfl, fun w' hS => ?_⟩) p1 ?_
    ·go_simp <;> with_reducible rfl
    refine wpAnyH_takeK 2 5 (mk 8 7) rfl (by kernel_rfl) rfl (.int .i64 k) (fun _ _ _ h => h) (Or.inl ⟨rfl, fun w' hS => ?_⟩) p1 ?_
    ·go_simp <;> with_reducible rfl
    refine wpAnyH_takeK 3 4 (mk 8 15) rfl (by kernel_rfl) rfl (.func (.func 114) #[] #[.pointer (some ⟨w.heap.size, 0, none⟩), .pointer (some ⟨bP, 0, none⟩)]) (fun _ _ _ h => h) (Or.inl ⟨rfl, fun w' hS => ?_⟩) p1 ?_
    ·go_simp <;> with_reducible rfl
    refine wpAnyH_takeK 4 3 (mk 8 31) rfl (by kernel_rfl) rfl (.int .i64 k) (fun _ _ _ h => h) (Or.inl ⟨rfl, fun w' hS => ?_⟩) p1 ?_
    ·go_simp <;> with_reducible rfl
    refine wpAnyH_one 5 2 (mk 8 63) rfl (by kernel_rfl) rfl ?_
    go_wp2_with fail
    have hTn : TellW wr.drew l ao cap w.heap.size bP bF bA fs k := ⟨HT.out.nodes.ext (Below.refl _ wr).drew, HT.out.rbox.drew, HT.out.pbox.drew, HT.out.facts.drew, HT.out.above.drew, HT.out.len, HT.out.known⟩
    refine (tell_any hTn hlt HF.out hl).mono ?_
    rintro e w2 ⟨C, rfl, hC, hA2, hc2⟩
    have q1 : w2.cell? ⟨bP, 1, none⟩ = some (.slice (some ⟨bF, 0, none⟩) l.length l.length) := (HT.out.pbox.drew.chg hc2 N2.out).cell (i := 1) rfl
    have HFb2 := hid ((HT.out.facts.drew).chg hc2 N3.out)
    have HA2 := hid hA2
    have HC := hid hC
    have HC2 := hid (((Chg.refl (· = bA) wr).drew).trans hc2)
    have sC : C.size = 34 := by rw [hC, factV_size]
    have hkL : k ≤ l.length := by omega
    have hN1k : l.length ≤ 9223372036854775807 := by omega
    clear hA2 hC hc2 hTn
    go_wp2_with fail
    refine ⟨q1, ?_⟩
    refine wpAnyH_one 6 1 (mk 8 127) rfl (by kernel_rfl) rfl ?_
    go_wp2_with fail
    refine ⟨q1, ?_⟩
    refine wpAnyH_one 7 0 (mk 8 255) rfl (by kernel_rfl) rfl ?_
    go_wp2_with (with_reducible refine wpList_store_agg rfl 131 (.tmp 38) (.tmp 37) rfl bF (k * 34) C rfl rfl 131 (rowV factV fs) (HFb2.out) (by rw [sC]; exact info_fact) (by rw [sC]; exact szk) (by rw [HC.out]; exact ones_factV _) ?_; intro w3 H3 hs3)
    have C3 : Hid (Chg (fun b => b = bF ∨ b = bA) wr w3) := hid ((HC2.out.mono fun _ _ e => .inr e).trans (H3.out.2.mono fun _ _ e => .inl e))
    have HPz : Hid (Blk w3 bP 126 (planC ao l.length cap bF bA)) := hid (HT.out.pbox.chg C3.out (by have := N1.out; have := N2.out; show ¬ (_ ∨ _); omega))
    refine ⟨HPz.out.cell (i := 1) rfl, ?_⟩
    refine wpAnyH_end (P := Tryz.prog) (by kernel_rfl) ?_
    go_wp2_with fail
    go_roundg (l.length - (k + 1))
    case measure => omega
    case rel =>
    refine ⟨k + 1, rfl, hlt, by go_num, hid ⟨fs.set k (factT (tr l k)), ?_⟩, hid (HEk.out.trans (C3.out.below HEk.out.size (fun b e => by rcases e with e | e <;> omega))), hid (HB2.out.chg C3.out (by show ¬ (_ ∨ _); omega))⟩
    refine ⟨HT.out.nodes.chg C3.out (fun b off e => ?_), HT.out.rbox.chg C3.out (by show ¬ (_ ∨ _); omega), HPz.out, ?_, HA2.out.chg H3.out.2 (by have := N3.out; show ¬ _ = _; omega), by rw [List.length_set]; exact HLF.out, fun j hj => ?_⟩
    ·obtain ⟨b', off', e', hb', _⟩ := HV.out.cells h0
     rw [e] at e'
     cases e'
     show ¬ (_ ∨ _)
     omega
    ·have h3 := H3.out.1
     rw [HC.out, rowV_splice factV_size (by rw [HLF.out]; exact hlt)] at h3
     exact h3
    ·by_cases e : j = k
     ·subst e; rw [List.getElem?_set_self (by rw [HLF.out]; exact hlt)]
     ·rw [List.getElem?_set_ne (fun h => e h.symm)]; exact HT.out.known j (by omega)
   ·obtain rfl : k = l.length := by omega
    obtain ⟨fs, hT⟩ := HTl.out
    have p0 := hT.pbox.cell (i := 0) rfl
    have p1 := hT.pbox.cell (i := 1) rfl
    have p2 := hT.pbox.cell (i := 2) rfl
    have sR := HB2.out.lt
    have HT := hid hT
    clear hT
    have hI : (Tryz.prog.info? 126).map (·.size) = some (planC ao l.length cap bF bA).size := by kernel_rfl
    have hO : Ones (planC ao l.length cap bF bA) := by
     refine ones_mk fun j v h => ?_
     match j with
     | 0 => cases h; rfl
     | 1 => cases h; rfl
     | 2 => cases h; rfl
     | n + 3 => cases h
    have HIO := hid (And.intro hI hO)
    clear hI hO
    go_wp2_with (refine wpList_store_agg rfl 126 (.tmp 2) (.tmp 40) rfl (w.heap.size + 1) 0 (planC ao l.length cap bF bA) rfl rfl 126 _ (HB2.out) HIO.out.1 (Nat.le_refl 3) HIO.out.2 ?_; intro w4 H4 hs4)
    obtain ⟨h3, c3⟩ := H4.out
    have hz : (#[Value.slice none 0 0, Value.slice none 0 0, Value.slice none 0 0] : Array Value).size = (planC ao l.length cap bF bA).size := rfl
    rw [splice_all hz] at h3
    have hfs : fs = factsOf l := by
     apply List.ext_getElem?
     intro j
     by_cases hj : j < l.length
     ·rw [HT.out.known j hj, factsOf_get hj]
     ·rw [List.getElem?_eq_none (by rw [HT.out.len]; omega), List.getElem?_eq_none (by rw [factsOf_len]; omega)]
    refine bodyPost_ret (v := .tuple #[.agg (planC ao l.length cap bF bA), .bool true]) (results_cell_agg_tmp Tryz.results81 _ w4 (w.heap.size + 1) _ (planC ao l.length cap bF bA) _ _ rfl rfl h3 Tryz.underlying126 rfl HIO.out.1) rfl ⟨bF, bA, rfl, ?_, ?_, by omega, by omega⟩
    ·refine ⟨HV.out.ext ?_, ?_, HT.out.above.chg c3 (by show ¬ _ = _; omega)⟩
     ·exact HEk.out.trans (c3.below HEk.out.size (fun b e => by omega))
     ·rw [← hfs]; exact HT.out.facts.chg c3 (by show ¬ _ = _; omega)
    ·exact HEk.out.trans (c3.below HEk.out.size (fun b e => by omega))
end Go.Proofs.YtngpjagpeblbjaaGreatDoor
namespace Go.Proofs.YtngpjagpeblbjaaGreatDoor
open Go.RowKit Go.Spy Go.Rx
set_option maxRecDepth 100000 in
theorem nullable_any {l : List Nd} (F : Rx.Form l) {w : World} {ao : Option Addr} (hV : NodesV w ao l) (hN : NamesOk l) (cap : Nat) (hl : l.length ≤ 64) :
 Calls Tryz.prog 76 #[.agg #[.slice ao l.length cap]] w fun e w' => e = .returned (.bool (nullT (tr l (l.length - 1)))) ∧ Ext w w' := by
 have h0 : 0 < l.length := List.length_pos_iff.2 F.ne
 have HV := hid hV
 have HN := hid hN
 have HF := hid F
 clear hV hN F
 go_enter Tryz.func76, Tryz.ntmps76
 go_wp2_with fail
 have hE0 : Ext w (w.alloc (.cells #[.slice ao l.length cap] 45)) := (Below.refl _ w).alloc (Nat.le_refl _) _
 refine (plan_any HF.out (HV.out.ext hE0) HN.out cap hl).mono ?_
 rintro e w1 ⟨bF, bA, rfl, hP, hx, lF, lA⟩
 unfold planC
 have HX := hid (hE0.trans (hx.mono (by simp)))
 have HP := hid hP
 have sx := hx.size
 clear hx hE0 hP
 go_wp2_with fail
 have hE1 : Ext w ((w1.alloc (.cells #[.slice ao l.length cap, .slice (some ⟨bF, 0, none⟩) l.length l.length, .slice (some ⟨bA, 0, none⟩) l.length l.length] 126))) := HX.out.alloc HX.out.size _
 refine (root_any _ ao l.length cap bF bA h0 (by omega)).mono ?_
 rintro e w2 ⟨rfl, hx2⟩
 have HP2 : Hid (PlanW w2 ao l bF bA ) := hid (HP.out.ext (((Below.refl _ w1).alloc (Nat.le_refl _) _).trans (hx2.mono (by simp))))
 have f1 : w2.cell? ⟨bF, (l.length - 1) * 34 + 1, none⟩ = some (.bool (nullT (tr l (l.length - 1)))) := by rw [HP2.out.fact (i := l.length - 1) (j := 1) (by omega) (by decide), factV_empty, fact_empty]
 have HX2 := hid (hE1.trans (hx2.mono (by have := HX.out.size; simp; omega)))
 clear hx2 hE1
 go_wp2_with fail
 go_ret
 exact ⟨rfl, HX2.out⟩
end Go.Proofs.YtngpjagpeblbjaaGreatDoor
namespace Go.Spy
open Go.RowKit
theorem wpList_lookupB {κ : Type} [DecidableEq κ] {P : Program} {w : World} {ops : Array Oper} {rest : List Oper} {o : Oper} {a : Act} {Q : Exit → Act → World → Prop}
 (hg : o.guard = none) (m x : Operand) (t : TypeId) (hop : o.op = Op.lookup t m x true)
 (kt et : TypeId) (enc : κ → Value) (K : KeyOk P kt enc) (ht : P.underlying t = some (.map kt et)) (b : Nat) (l : List (κ × Value)) (hm : a.eval m = .map (some b)) (h : MapB w b enc l)
 (z : Value) (hz : ∀ w : World, (zeroValue et).run P w = .ok z w) (k : κ) (hx : a.eval x = enc k) (r : Option Value) (hr : alook l k = r)
 (hK : wpList P ops Q rest (a.put o.dst (.tuple #[r.getD z, .bool r.isSome])) w) : wpList P ops Q (o :: rest) a w := by
 subst hr
 refine wpList_plain hg fun K' hK' => ?_
 have hrun := h.lookup_ok K ht (hz w) k
 unfold Oper.wp
 simp only [execOp, hop, hm, hx, Sem.run_bind, hrun, Result.andThen_ok, Sem.run_pure]
 exact hK' _ _ hK
end Go.Spy
namespace Go.Proofs.YtngpjagpeblbjaaGreatDoor
open Go.RowKit Go.Spy Go.Rx
end Go.Proofs.YtngpjagpeblbjaaGreatDoor
namespace Go.Proofs.YtngpjagpeblbjaaGreatDoor
open Go.RowKit Go.Spy Go.Rx
structure NatsV (w : World) (v : Value) (l : List Nat) : Prop where
 out : ∃ ao cap, v = .slice ao l.length cap ∧ (0 < l.length → ∃ b off, ao = some ⟨b, off, none⟩ ∧ b < w.heap.size ∧ ∀ (i k : Nat), l[i]? = some k → w.cell? ⟨b, off + i, none⟩ = some (.int .i64 k))
end Go.Proofs.YtngpjagpeblbjaaGreatDoor
namespace Go.Proofs.YtngpjagpeblbjaaGreatDoor
open Go.RowKit Go.Spy Go.Rx
theorem nats_of_owns {w : World} {base : Nat} {v : Value} {l : List Nat} (h : OwnI w base v l) : NatsV w v l := by
 have h : w.ownsRow base 3 1 v l.length (l.map intC) := h
 rcases h.2 with ⟨rfl, h0⟩ | ⟨g, cap, cur, rfl, hg, hh, hnc, hcm, hcs, ht⟩
 ·exact ⟨none, 0, by rw [h0], fun h1 => by omega⟩
 ·refine ⟨_, cap, rfl, fun _ => ⟨g, 0, rfl, (Array.getElem?_eq_some_iff.1 hh).1, fun i k hi => ?_⟩⟩
  have hil : i < l.length := (List.getElem?_eq_some_iff.1 hi).1
  have h1 : (cur.toList.take (l.length * 1))[i]? = (l.map intC)[i]? := by rw [ht]
  have h2 : cur[i]? = some (.int .i64 k) := by
   rw [List.getElem?_take, if_pos (by omega), List.getElem?_map, hi] at h1
   simpa [intC] using h1
  simp [World.cell?, hh, h2]
end Go.Proofs.YtngpjagpeblbjaaGreatDoor
namespace Go.Rx
end Go.Rx
namespace Go.Spy
open Go.RowKit
theorem chg_own2 {S S' : Nat → Prop} {w a c : World} (h : Chg S w a) (k : Chg S' a c) (hS : ∀ i, S' i → w.heap.size ≤ i) : Chg S w c :=
 ⟨k.os.trans h.os, k.tape.trans h.tape, k.output.trans h.output, Nat.le_trans h.size k.size, fun i hi hs => (k.block i (Nat.lt_of_lt_of_le hi h.size) (fun e => by have := hS i e; omega)).trans (h.block i hi hs)⟩
theorem blk_map_ne {κ : Type} {w : World} {b b' : Nat} {t : TypeId} {vs : Array Value} {enc : κ → Value} {ls : List (κ × Value)} (h : Blk w b t vs) (hM : MapB w b' enc ls) : b ≠ b' := by
 rintro rfl
 obtain ⟨es, clock, hb, _⟩ := hM
 have h' : w.heap[b]? = some (.cells vs t (0, 0)) := h
 rw [h'] at hb
 cases hb
end Go.Spy
namespace Go.Proofs.YtngpjagpeblbjaaGreatDoor
open Go.RowKit Go.Spy Go.Rx
end Go.Proofs.YtngpjagpeblbjaaGreatDoor
namespace Go.Proofs.YtngpjagpeblbjaaGreatDoor
open Go.RowKit Go.Spy Go.Rx
theorem isBl_eq (c : UInt8) : isBlank c.toNat = isBl c := rfl
theorem isIn_eq (c : Nat) : isPart c = isIn c := rfl
theorem nm_eq (s : ByteArray) : nameOk s = nmB s.data.toList := by
 obtain ⟨⟨l⟩⟩ := s
 rfl
def rdV (s : ByteArray) (j : Nat) : Array Value := #[.string s, .int .i64 j, .bool false, .bool false]
def At (s : ByteArray) (j : Nat) (r : List UInt8) : Prop := s.data.toList.drop j = r ∧ j ≤ s.size
def RdW (w : World) (b : Nat) (s : ByteArray) (r : List UInt8) : Prop := ∃ j, Blk w b 154 (rdV s j) ∧ At s j r
section
variable {s : ByteArray} {j : Nat} {r : List UInt8} {c : UInt8}
theorem At.nil (h : At s j []) : j = s.size := by
 have h1 := List.drop_eq_nil_iff.1 h.1
 have h2 := h.2
 simp at h1
 omega
theorem At.lt (h : At s j (c :: r)) : j < s.size := by
 rcases Nat.lt_or_ge j s.size with k | k
 ·exact k
 ·have := List.drop_eq_nil_iff (l := s.data.toList) (i := j) |>.2 (by simpa using k)
  rw [h.1] at this; cases this
theorem At.get (h : At s j (c :: r)) : s[j]'h.lt = c := by
 have h1 : (s.data.toList.drop j)[0]? = some c := by rw [h.1]; rfl
 rw [List.getElem?_drop, Nat.add_zero] at h1
 have h2 := List.getElem?_eq_some_iff.1 h1
 exact h2.2
theorem At.next (h : At s j (c :: r)) : At s (j + 1) r := by
 refine ⟨?_, h.lt⟩
 rw [← List.tail_drop, h.1]; rfl
theorem At.len (h : At s j r) : j + r.length = s.size := by
 have h1 := h.2
 rw [← h.1, List.length_drop]
 simp; omega
theorem ext_list (s : ByteArray) (a b : Nat) : (s.extract a b).data.toList = (s.data.toList.drop a).take (b - a) := by
 simp [ByteArray.data_extract, List.extract_eq_take_drop]
theorem At.one (h : At s j (c :: r)) : (s.extract j (j + 1)).data.toList = [c] := by
 rw [ext_list, h.1, show j + 1 - j = 1 by omega]; rfl
theorem At.oneBlank (h : At s j (c :: r)) : allBlank (s.extract j (j + 1)) = isBl c := by
 unfold allBlank
 rw [h.one]; simp [isBl_eq]
end
set_option maxRecDepth 100000 in
set_option maxHeartbeats 1000000 in
theorem blanks_any {w : World} {b : Nat} {s : ByteArray} {r : List UInt8} (h : RdW w b s r) (hs : s.size ≤ 1000000) :
 Calls Tryz.prog 100 #[.pointer (some ⟨b, 0, none⟩)] w fun e w' => e = .returned (.tuple #[]) ∧ RdW w' b s (sk r) ∧ Chg (· = b) w w' := by
 have HR := hid h
 clear h
 go_enter Tryz.func100, Tryz.ntmps100
 go_wp2_with fail
 go_loopg [] r.length (fun g wr => ∃ q, g = q.length ∧ Hid (RdW wr b s q) ∧ Hid (sk q = sk r) ∧ Hid (Chg (· = b) w wr))
 case atStart => exact ⟨r, rfl, HR, hid rfl, hid (Chg.refl _ w)⟩
 case round =>
  obtain ⟨q, rfl, HQ, HS, HC⟩ := hrel
  obtain ⟨j, hB, hA⟩ := HQ.out
  have c0 : wr.cell? ⟨b, 0, none⟩ = some (.string s) := hB.cell (i := 0) rfl
  have c1 : wr.cell? ⟨b, 1, none⟩ = some (.int .i64 j) := hB.cell (i := 1) rfl
  have f1 := hB.frozen 1
  have HB := hid hB
  have HA := hid hA
  clear hB
  cases q with
  | nil =>
    have e := hA.nil
    have hd : decide (j < s.size) = false := decide_eq_false (by omega)
    have HE := hid e
    clear hA e
    go_wp2_with fail
    go_quiet (fail)
    go_wp2_with fail
    go_end0
    exact ⟨rfl, ⟨j, Blk.drewN HB.out _, by rw [← HS.out]; exact HA.out⟩, Chg.drewN HC.out _⟩
  | cons c q =>
    have hlt := hA.lt
    have hd : decide (j < s.size) = true := decide_eq_true hlt
    have hw : IntKind.i64.wrap ((j : Int) + 1) = ((j + 1 : Nat) : Int) := by rw [IntKind.wrap_i64]; omega
    have g1 : (0 : Int) ≤ (j : Int) := by omega
    have g2 : (j : Int) ≤ (j : Int) + 1 := by omega
    have g3 : (j : Int) + 1 ≤ (s.size : Int) := by omega
    have g4 : ((j : Int) + 1).toNat = j + 1 := by omega
    have ho := hA.oneBlank
    have hsz : (s.extract j (j + 1)).size ≤ maxLen := by
     have h1 : (s.extract j (j + 1)).size = 1 := by simp; omega
     rw [h1]; decide
    clear hA
    cases hb : isBl c with
    | true =>
      rw [hb] at ho
      have HO := hid ho
      have hsk := sk_bl (r := q) hb
      have HK := hid hsk
      clear ho hb hsk
      go_wp2_with fail
      go_still_tail 25, (by kernel_rfl)
      change wpList _ _ _ _ _ wr.drew
      go_wp2_with (go_at_call 127; refine (Blank_any _ _ hsz).mono ?_; rintro e w2 ⟨rfl, hx⟩; rw [HO.out]; have B2 := (Blk.drew HB.out).ext hx; have q0 : w2.cell? ⟨b, 0, none⟩ = some (.string s) := B2.cell (i := 0) rfl; have q1 : w2.cell? ⟨b, 1, none⟩ = some (.int .i64 j) := B2.cell (i := 1) rfl; have q2 := B2.frozen 1; have H2 := hid B2; have X2 := hid ((Chg.drew HC.out).ext hx); clear B2 hx)
      go_roundg q.length
      case measure => simp
      case rel => exact ⟨q, rfl, hid ⟨j + 1, H2.out.set 1 _, HA.out.next⟩, hid (by rw [← HK.out]; exact HS.out), hid (Chg.setCell (p := ⟨b, 1, none⟩) X2.out rfl _)⟩
    | false =>
      rw [hb] at ho
      have HO := hid ho
      have hsk := sk_cons (r := q) hb
      have HK := hid hsk
      clear ho hb hsk
      go_wp2_with fail
      go_still_tail 25, (by kernel_rfl)
      change wpList _ _ _ _ _ wr.drew
      go_wp2_with (go_at_call 127; refine (Blank_any _ _ hsz).mono ?_; rintro e w2 ⟨rfl, hx⟩; rw [HO.out]; have H2 := hid ((Blk.drew HB.out).ext hx); have X2 := hid ((Chg.drew HC.out).ext hx); clear hx)
      go_end0
      exact ⟨rfl, ⟨j, H2.out, by rw [← HS.out, HK.out]; exact HA.out⟩, X2.out⟩
end Go.Proofs.YtngpjagpeblbjaaGreatDoor
namespace Go.Proofs.YtngpjagpeblbjaaGreatDoor
open Go.RowKit Go.Spy Go.Rx
set_option maxRecDepth 100000 in
set_option maxHeartbeats 1000000 in
theorem mark_yes {w : World} {b : Nat} {s : ByteArray} {r q : List UInt8} {c : UInt8} (h : RdW w b s r) (hs : s.size ≤ 1000000) (ci : Int) (hc : ci = (c.toNat : Int)) (hq : sk r = c :: q) :
 Calls Tryz.prog 149 #[.pointer (some ⟨b, 0, none⟩), .int .u8 ci] w fun e w' => e = .returned (.bool true) ∧ RdW w' b s q ∧ Chg (· = b) w w' := by
 have HR := hid h
 have HQ := hid hq
 have HC := hid hc
 clear h hq hc
 go_enter Tryz.func149, Tryz.ntmps149
 go_wp2_with fail
 refine (blanks_any HR.out hs).mono ?_
 rintro e w1 ⟨rfl, hR, hx⟩
 rw [HQ.out] at hR
 obtain ⟨j, hB, hA⟩ := hR
 have c0 : w1.cell? ⟨b, 0, none⟩ = some (.string s) := hB.cell (i := 0) rfl
 have c1 : w1.cell? ⟨b, 1, none⟩ = some (.int .i64 j) := hB.cell (i := 1) rfl
 have f1 := hB.frozen 1
 have hlt := hA.lt
 have hg := hA.get
 have hne : ((j : Int) == (s.size : Int)) = false := beq_eq_false_iff_ne.2 (by omega)
 have hne2 : (((s[j]'hlt).toNat : Int) != ci) = false := by rw [hg, HC.out]; simp
 have g1 : (0 : Int) ≤ (j : Int) := by omega
 have g2 : (j : Int) < (s.size : Int) := by omega
 have HA := hid hA
 have HB := hid hB
 have HX := hid hx
 clear hA hB hx hg
 go_wp2_with fail
 go_quiet (fail)
 go_wp2_with fail
 go_ret
 exact ⟨rfl, ⟨j + 1, (Blk.drewN HB.out _).set 1 _, HA.out.next⟩, Chg.setCell (p := ⟨b, 1, none⟩) (Chg.drewN HX.out _) rfl _⟩
set_option maxRecDepth 100000 in
set_option maxHeartbeats 1000000 in
theorem mark_no {w : World} {b : Nat} {s : ByteArray} {r : List UInt8} {c : UInt8} (h : RdW w b s r) (hs : s.size ≤ 1000000) (ci : Int) (hc : ci = (c.toNat : Int)) (hq : (sk r).head? ≠ some c) :
 Calls Tryz.prog 149 #[.pointer (some ⟨b, 0, none⟩), .int .u8 ci] w fun e w' => e = .returned (.bool false) ∧ RdW w' b s (sk r) ∧ Chg (· = b) w w' := by
 have HR := hid h
 have HC := hid hc
 obtain ⟨p, hp⟩ : ∃ p, sk r = p := ⟨_, rfl⟩
 rw [hp] at hq
 have HP := hid hp
 clear h hc hp
 cases p with
 | nil =>
   clear hq
   go_enter Tryz.func149, Tryz.ntmps149
   go_wp2_with fail
   refine (blanks_any HR.out hs).mono ?_
   rintro e w1 ⟨rfl, hR, hx⟩
   have HR2 := hid hR
   rw [HP.out] at hR
   obtain ⟨j, hB, hA⟩ := hR
   have c0 : w1.cell? ⟨b, 0, none⟩ = some (.string s) := hB.cell (i := 0) rfl
   have c1 : w1.cell? ⟨b, 1, none⟩ = some (.int .i64 j) := hB.cell (i := 1) rfl
   have he := hA.nil
   have hne : ((j : Int) == (s.size : Int)) = true := by simp [he]
   have HX := hid hx
   clear hA hB hx he
   go_wp2_with fail
   go_quiet (fail)
   go_wp2_with fail
   go_ret
   obtain ⟨j, hB, hA⟩ := HR2.out
   exact ⟨rfl, ⟨j, hB.drewN _, hA⟩, Chg.drewN HX.out _⟩
 | cons d p =>
   have hdc : d ≠ c := by simpa using hq
   clear hq
   go_enter Tryz.func149, Tryz.ntmps149
   go_wp2_with fail
   refine (blanks_any HR.out hs).mono ?_
   rintro e w1 ⟨rfl, hR, hx⟩
   have HR2 := hid hR
   rw [HP.out] at hR
   obtain ⟨j, hB, hA⟩ := hR
   have c0 : w1.cell? ⟨b, 0, none⟩ = some (.string s) := hB.cell (i := 0) rfl
   have c1 : w1.cell? ⟨b, 1, none⟩ = some (.int .i64 j) := hB.cell (i := 1) rfl
   have hlt := hA.lt
   have hg := hA.get
   have hne : ((j : Int) == (s.size : Int)) = false := beq_eq_false_iff_ne.2 (by omega)
   have hne2 : (((s[j]'hlt).toNat : Int) != ci) = true := by
    rw [hg, HC.out, bne_iff_ne]
    intro e
    exact hdc (UInt8.toNat_inj.1 (by omega))
   have g1 : (0 : Int) ≤ (j : Int) := by omega
   have g2 : (j : Int) < (s.size : Int) := by omega
   have HX := hid hx
   clear hA hB hx hg hdc
   go_wp2_with fail
   go_quiet (fail)
   go_wp2_with fail
   go_ret
   obtain ⟨j, hB, hA⟩ := HR2.out
   exact ⟨rfl, ⟨j, hB.drewN _, hA⟩, Chg.drewN HX.out _⟩
end Go.Proofs.YtngpjagpeblbjaaGreatDoor
namespace Go.Proofs.YtngpjagpeblbjaaGreatDoor
open Go.RowKit Go.Spy Go.Rx
def inL (c : UInt8) : Bool := isIn c.toNat
theorem word_rest {r w r' : List UInt8} (h : WordAt r w r') : r.dropWhile inL = r' := by
 obtain ⟨rfl, hn, hr⟩ := h
 simp only [nmB, Bool.and_eq_true] at hn
 have hall := hn.2
 clear hn
 induction w with
 | nil =>
   cases r' with
   | nil => rfl
   | cons c q => have := hr c q rfl; simp [inL, this]
 | cons c w ih =>
   simp only [List.all_cons, Bool.and_eq_true] at hall
   rw [List.cons_append, List.dropWhile_cons_of_pos (show inL c = true from hall.1)]
   exact ih hall.2
theorem word_first {s : ByteArray} {j : Nat} {c : UInt8} {r : List UInt8} (h : At s j (c :: r)) (hc : isLe c.toNat = true) : nameOk (s.extract j (j + 1)) = true := by
 rw [nm_eq, h.one]
 have : isIn c.toNat = true := by simp [isIn, hc]
 simp [nmB, hc, this]
theorem word_bytes {s : ByteArray} {j i : Nat} {r w r' : List UInt8} (h : At s j r) (hw : WordAt r w r') (k : At s i r') : s.extract j i = ⟨w.toArray⟩ := by
 apply bytes_ext
 have e1 := h.len
 have e2 := k.len
 obtain ⟨rfl, _, _⟩ := hw
 rw [List.length_append] at e1
 obtain ⟨⟨l⟩⟩ := s
 have hh : (ByteArray.extract ⟨⟨l⟩⟩ j i).data.toList = w := by
  rw [ext_list, h.1, show i - j = w.length by omega, List.take_left]
 have : ∀ x : ByteArray, x.toList = x.data.toList := fun x => by obtain ⟨⟨y⟩⟩ := x; exact ByteArray.toList_mk _
 rw [this, this, hh]
theorem inner_is {c : Nat} {v : Bool} (h : isPart c = v) (w : World) :
 Calls Tryz.prog 168 #[.int .u8 c] w fun e w' => e = .returned (.bool v) ∧ w' = w :=
 (inner_any c w).mono fun _ _ ⟨h1, h2⟩ => ⟨by rw [h1, h], h2.symm⟩
set_option maxRecDepth 100000 in
set_option maxHeartbeats 1600000 in
theorem word_any {w : World} {b : Nat} {s : ByteArray} {r wd r' : List UInt8} (h : RdW w b s r) (hs : s.size ≤ 1000000) (hw : WordAt r wd r') :
 Calls Tryz.prog 167 #[.pointer (some ⟨b, 0, none⟩)] w fun e w' => e = .returned (.string ⟨wd.toArray⟩) ∧ RdW w' b s r' ∧ Chg (· = b) w w' := by
 have HW := hid hw
 obtain ⟨c, q, rfl, hc⟩ := nm_head hw.2.1
 obtain ⟨j, hB, hA⟩ := h
 have e0 : r = c :: (q ++ r') := hw.1
 have hA0 := hA
 rw [e0] at hA
 have HD := hid (word_rest hw)
 have c0 : w.cell? ⟨b, 0, none⟩ = some (.string s) := hB.cell (i := 0) rfl
 have c1 : w.cell? ⟨b, 1, none⟩ = some (.int .i64 j) := hB.cell (i := 1) rfl
 have hlt := hA.lt
 have hne : ((j : Int) == (s.size : Int)) = false := beq_eq_false_iff_ne.2 (by omega)
 have g1 : (0 : Int) ≤ (j : Int) := by omega
 have g2 : (j : Int) ≤ (j : Int) + 1 := by omega
 have g3 : (j : Int) + 1 ≤ (s.size : Int) := by omega
 have g4 : ((j : Int) + 1).toNat = j + 1 := by omega
 have HN := hid (word_first hA hc)
 have hsz : (s.extract j (j + 1)).size ≤ maxLen := by
  have h1 : (s.extract j (j + 1)).size = 1 := by simp; omega
  rw [h1]; decide
 have HA := hid hA0
 have HB := hid hB
 clear hA hA0 hB hw e0 hc
 go_enter Tryz.func167, Tryz.ntmps167
 go_wp2_with (go_at_call 40; refine (is_any _ _ hsz).mono ?_; rintro e w1 ⟨rfl, hx⟩; rw [HN.out]; have HX := hid hx; clear hx)
 have HB1 := hid (Blk.ext HB.out HX.out)
 have HC1 := hid (Chg.of_ext (S := (· = b)) HX.out)
 clear HX c0 c1 hne g2 g3 g4 hsz hlt
 go_loopg [] r.length (fun g wr => ∃ p, g = p.length ∧ Hid (RdW wr b s p) ∧ Hid (p.dropWhile inL = r') ∧ Hid (Chg (· = b) w wr))
 case atStart => exact ⟨r, rfl, hid ⟨j, HB1.out, HA.out⟩, HD, HC1⟩
 case round =>
  obtain ⟨p, rfl, HQ, HS, HC⟩ := hrel
  obtain ⟨i, hB, hA⟩ := HQ.out
  have c0 : wr.cell? ⟨b, 0, none⟩ = some (.string s) := hB.cell (i := 0) rfl
  have c1 : wr.cell? ⟨b, 1, none⟩ = some (.int .i64 i) := hB.cell (i := 1) rfl
  have f1 := hB.frozen 1
  have HB := hid hB
  have HAi := hid hA
  clear hB
  cases p with
  | nil =>
    have hd : decide (i < s.size) = false := decide_eq_false (by have := hA.nil; omega)
    have HK : Hid (r' = []) := hid (by rw [← HS.out]; rfl)
    have HZ := hid (word_bytes HA.out HW.out (by rw [HK.out]; exact HAi.out))
    have g4 : (j : Int) ≤ (i : Int) := by have := hA.nil; have := HA.out.len; omega
    have g5 : (i : Int) ≤ (s.size : Int) := by have := hA.nil; omega
    clear hA
    go_wp2_with fail
    go_quiet (fail)
    go_wp2_with fail
    go_quiet (fail)
    go_wp2_with fail
    go_ret
    exact ⟨ret_str HZ.out, ⟨i, Blk.drewN (Blk.drewN HB.out _) _, by rw [HK.out]; exact HAi.out⟩, Chg.drewN (Chg.drewN HC.out _) _⟩
  | cons d p =>
    have hlt := hA.lt
    have hd : decide (i < s.size) = true := decide_eq_true hlt
    have hv : isPart (s[i]'hlt).toNat = isIn d.toNat := by rw [hA.get, isIn_eq]
    have g2 : (0 : Int) ≤ (i : Int) := by omega
    have g3 : (i : Int) < (s.size : Int) := by omega
    clear hA
    cases hb : isIn d.toNat with
    | true =>
      rw [hb] at hv
      have HI := hid hv
      have HK : Hid ((d :: p).dropWhile inL = p.dropWhile inL) := hid (List.dropWhile_cons_of_pos hb)
      clear hv hb
      go_wp2_with fail
      go_quiet ((go_at_call 168; exact Calls.quiet_of_same (inner_is HI.out _)))
      go_wp2_with fail
      go_roundg p.length
      case measure => simp
      case rel => exact ⟨p, rfl, hid ⟨i + 1, (Blk.drewN HB.out _).set 1 _, HAi.out.next⟩, hid (by rw [← HK.out]; exact HS.out), hid (Chg.setCell (p := ⟨b, 1, none⟩) (Chg.drewN HC.out _) rfl _)⟩
    | false =>
      rw [hb] at hv
      have HI := hid hv
      have HK : Hid (r' = d :: p) := hid (by rw [← HS.out]; exact List.dropWhile_cons_of_neg (by rw [show inL d = false from hb]; decide))
      clear hv hb
      have HZ := hid (word_bytes HA.out HW.out (by rw [HK.out]; exact HAi.out))
      have hlen := HA.out.len
      have hlen2 := HAi.out.len
      have hlen3 := congrArg List.length HW.out.1
      rw [HK.out] at hlen3
      simp only [List.length_append, List.length_cons] at hlen3 hlen2
      have g4 : (j : Int) ≤ (i : Int) := by omega
      have g5 : (i : Int) ≤ (s.size : Int) := by omega
      clear hlen hlen2 hlen3
      go_wp2_with fail
      go_quiet ((go_at_call 168; exact Calls.quiet_of_same (inner_is HI.out _)))
      go_wp2_with fail
      go_quiet (fail)
      go_wp2_with fail
      go_ret
      exact ⟨ret_str HZ.out, ⟨i, Blk.drewN (Blk.drewN HB.out _) _, by rw [HK.out]; exact HAi.out⟩, Chg.drewN (Chg.drewN HC.out _) _⟩
end Go.Proofs.YtngpjagpeblbjaaGreatDoor
namespace Go.Proofs.YtngpjagpeblbjaaGreatDoor
open Go.RowKit Go.Spy Go.Rx
theorem elem_nd : ElemOk Tryz.prog 43 100 4 40 where
 under := Tryz.underlying43
 info := by
  obtain ⟨i, h1, h2, h3, h4⟩ := info_parts (P := Tryz.prog) (e := 100) (z := .agg #[.int .i64 0, .string ⟨#[]⟩, .int .i64 0, .int .i64 0]) (size := 4) (bytes := 40) (by kernel_rfl)
  exact ⟨i, _, h1, h2, h3, h4, rfl⟩
 pos := by decide
 small := by decide
abbrev OwnN (w : World) (base : Nat) (v : Value) (l : List Nd) : Prop := OwnR w base 100 4 ndV v l
def NearN (n : Nd) : Prop := -1000000 ≤ n.a ∧ n.a ≤ 1000000 ∧ -1000000 ≤ n.b ∧ n.b ≤ 1000000
def MovedPost (n : Nd) (k : Nat) (w : World) (e : Ending) (w' : World) : Prop := e = .returned (.agg #[.int .i64 (mv k n).op, .string (mv k n).sym, .int .i64 (mv k n).a, .int .i64 (mv k n).b]) ∧ Ext w w'
set_option maxRecDepth 100000 in
set_option maxHeartbeats 1000000 in
theorem moved_any (n : Nd) (k : Nat) (hk : k ≤ 1000000) (hn : NearN n) (w : World) :
 Calls Tryz.prog 162 #[.agg #[.int .i64 n.op, .string n.sym, .int .i64 n.a, .int .i64 n.b], .int .i64 k] w (MovedPost n k w) := by
 obtain ⟨op, sym, a, b⟩ := n
 obtain ⟨h1, h2, h3, h4⟩ := hn
 dsimp only at h1 h2 h3 h4 ⊢
 have e1 : mv k ⟨op, sym, a, b⟩ = if op = 3 ∨ op = 4 then ⟨op, sym, a + k, b + k⟩ else if op = 5 then ⟨op, sym, a + k, b⟩ else ⟨op, sym, a, b⟩ := rfl
 have s0 : w.heap.size < w.heap.size + 1 := by omega
 have fin : ∀ (e : Ending) (w' : World), e = .returned (.agg (ndV (mv k ⟨op, sym, a, b⟩))) → Ext w w' → MovedPost ⟨op, sym, a, b⟩ k w e w' := fun _ _ h h' => ⟨h, h'⟩
 have FIN := hid fin
 clear fin
 by_cases c3 : op = 3
 ·subst c3
  rw [if_pos (.inl rfl)] at e1
  have E1 := hid e1
  clear e1
  go_enter Tryz.func162, Tryz.ntmps162
  go_wp2
  refine bodyPost_ret (v := .agg #[.int .i64 3, .string sym, .int .i64 (a + k), .int .i64 (b + k)]) (by simp [results, Tryz.results162, go_sem]) rfl (FIN.out _ _ (by rw [E1.out]; rfl) ?_)
  exact ((Below.refl _ w).alloc (Nat.le_refl _) _).alloc (by simp) _
 ·by_cases c4 : op = 4
  ·subst c4
   rw [if_pos (.inr rfl)] at e1
   have E1 := hid e1
   clear e1 c3
   go_enter Tryz.func162, Tryz.ntmps162
   go_wp2
   refine bodyPost_ret (v := .agg #[.int .i64 4, .string sym, .int .i64 (a + k), .int .i64 (b + k)]) (by simp [results, Tryz.results162, go_sem]) rfl (FIN.out _ _ (by rw [E1.out]; rfl) ?_)
   exact ((Below.refl _ w).alloc (Nat.le_refl _) _).alloc (by simp) _
  ·rw [if_neg (by omega)] at e1
   have d3 : (op == 3) = false := beq_eq_false_iff_ne.2 c3
   have d4 : (op == 4) = false := beq_eq_false_iff_ne.2 c4
   by_cases c5 : op = 5
   ·subst c5
    rw [if_pos rfl] at e1
    have E1 := hid e1
    clear e1 c3 c4 d3 d4
    go_enter Tryz.func162, Tryz.ntmps162
    go_wp2
    refine bodyPost_ret (v := .agg #[.int .i64 5, .string sym, .int .i64 (a + k), .int .i64 b]) (by simp [results, Tryz.results162, go_sem]) rfl (FIN.out _ _ (by rw [E1.out]; rfl) ?_)
    exact ((Below.refl _ w).alloc (Nat.le_refl _) _).alloc (by simp) _
   ·rw [if_neg c5] at e1
    have d5 : (op == 5) = false := beq_eq_false_iff_ne.2 c5
    have E1 := hid e1
    clear e1 c3 c4 c5
    go_enter Tryz.func162, Tryz.ntmps162
    go_wp2
    refine bodyPost_ret (v := .agg #[.int .i64 op, .string sym, .int .i64 a, .int .i64 b]) (by simp [results, Tryz.results162, go_sem]) rfl (FIN.out _ _ (by rw [E1.out]; rfl) ?_)
    exact ((Below.refl _ w).alloc (Nat.le_refl _) _).alloc (by simp) _
def OwnPost (base : Nat) (l : List Nd) (S : Nat → Prop) (w : World) (e : Ending) (w' : World) : Prop := ∃ v, e = .returned v ∧ OwnN w' base v l ∧ Chg S w w'
set_option maxRecDepth 100000 in
set_option maxHeartbeats 1000000 in
theorem many_any {w : World} {base : Nat} {v : Value} {l : List Nd} (h : OwnN w base v l) (hb : base ≤ w.heap.size) (hl : l.length ≤ 1000000) :
 Calls Tryz.prog 164 #[v] w (OwnPost base (manyL l) (fun k => v.ownBlock = some k) w) := by
 obtain ⟨ao, c, rfl, hlc, _⟩ := OwnR.cells h ndV_size
 have HO := hid h
 have hw : IntKind.i64.wrap ((l.length : Int) - 1) = (l.length : Int) - 1 := by rw [IntKind.wrap_i64]; omega
 clear h
 go_enter Tryz.func164, Tryz.ntmps164
 go_wp2_with (first | (at_builtin; go_must (refine wpList_append_R elem_nd ndV_size ones_ndV HO hb (by omega) ⟨5, nil8, (l.length : Int) - 1, 0⟩ _ rfl w.heap.size rfl rfl _ _ rfl rfl rfl ?_); rintro g' cap' v' w4 rfl H1 H2))
 go_ret
 exact ⟨_, rfl, H1.out, (Chg.refl _ w).grown H2.out.1 (fun k e => e)⟩
set_option maxRecDepth 100000 in
theorem keep_any {w : World} {b : Nat} {s : ByteArray} {r : List UInt8} {ao : Option Addr} {n c : Nat} (h : RdW w b s r) (hn : n ≤ 1024) :
 Calls Tryz.prog 150 #[.pointer (some ⟨b, 0, none⟩), .slice ao n c, .bool true] w fun e w' => e = .returned (.slice ao n c) ∧ w = w' := by
 obtain ⟨j, hB, hA⟩ := h
 have c3 : w.cell? ⟨b, 3, none⟩ = some (.bool false) := hB.cell (i := 3) rfl
 have hd : decide ((1024 : Int) < (n : Int)) = false := decide_eq_false (by omega)
 clear hB hA
 go_enter Tryz.func150, Tryz.ntmps150
 go_wp2
 go_ret
 exact ⟨rfl, rfl⟩
end Go.Proofs.YtngpjagpeblbjaaGreatDoor
