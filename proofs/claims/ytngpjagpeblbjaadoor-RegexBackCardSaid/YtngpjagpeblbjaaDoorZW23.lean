/-
  Walk of plan: what is known of all nodes.
-/
import Derived.Test.YtngpjagpeblbjaaDoorZW22
import Derived.Deep.RegionLaw
import Derived.Outline
namespace Go.Proofs.YtngpjagpeblbjaaDoor
open Go.RowKit Go.Spy Go.Rx

def PlanPost (l : List Nd) (ao : Option Addr) (cap : Nat) (w : World) (e : Ending) (w' : World) : Prop :=
  ∃ bF bA, e = .returned (.tuple #[.agg (planC ao l.length cap bF bA), .bool true]) ∧ PlanW w' ao l bF bA ∧ Ext w w' ∧ w.heap.size ≤ bF ∧ w.heap.size ≤ bA

theorem info_factM : (Tryd.prog.info? 60).map (fun i => (i.zero, i.size, i.bytes)) = some (some (.agg (factV ⟨false, false, 0, 0⟩)), 34, 264) := by kernel_rfl

theorem madeF (n : Nat) : madeCells (Value.agg (factV ⟨false, false, 0, 0⟩)).cells (n * 34) = rowV factV (List.replicate n ⟨false, false, 0, 0⟩) := by
  apply Array.ext_getElem?
  intro i
  have hsz : (Value.agg (factV ⟨false, false, 0, 0⟩)).cells.size = 34 := factV_size _
  by_cases hi : i < n * 34
  · have hq : i / 34 < n := Nat.div_lt_of_lt_mul (by omega)
    have hr : i % 34 < 34 := Nat.mod_lt _ (by omega)
    have he : i = (i / 34) * 34 + i % 34 := by omega
    have h1 := rowV_get (f := factV) (s := 34) factV_size (xs := List.replicate n ⟨false, false, 0, 0⟩) (k := i / 34) (j := i % 34) (x := ⟨false, false, 0, 0⟩) (by simp [hq]) hr
    rw [← he] at h1
    rw [h1]
    simp only [madeCells, Array.getElem?_map, Array.getElem?_range, hi, if_true, Option.map_some, hsz]
    show some ((factV ⟨false, false, 0, 0⟩)[i % 34]!) = _
    rw [getElem!_pos _ _ (by rw [factV_size]; exact hr)]
    exact (Array.getElem?_eq_getElem _).symm
  · rw [Array.getElem?_eq_none (by rw [size_madeCells]; omega), Array.getElem?_eq_none (by rw [rowV_size factV_size]; simp; omega)]
theorem madeA (l : List Nd) (h0 : 0 < l.length) : (madeCells (Value.int .i64 0).cells (l.length * 1)).setIfInBounds (l.length - 1) (.int .i64 (-1)) = aboveV l 0 := by
  apply Array.ext_getElem?
  intro j
  by_cases hj : j < l.length
  · rw [aboveV_get hj, up]
    by_cases e : l.length - 1 = j
    · subst e
      rw [Array.getElem?_setIfInBounds_self, if_pos (by rw [size_madeCells]; omega), if_pos (by omega)]
    · rw [Array.getElem?_setIfInBounds_ne e, if_neg (by omega)]
      simp [madeCells, hj, Value.cells, Nat.mod_one]
  · rw [Array.getElem?_eq_none (by simp [size_madeCells]; omega), Array.getElem?_eq_none (by rw [aboveV_size]; omega)]

def MadeP (l : List Nd) (ao : Option Addr) (cap : Nat) (w1 : World) (v : Value) (wx : World) : Prop :=
  ∃ bP bF bA, v = .pointer (some ⟨bP, 0, none⟩) ∧ Blk wx bP 53 (planC ao l.length cap bF bA) ∧ Blk wx bF 60 (rowV factV (List.replicate l.length ⟨false, false, 0, 0⟩)) ∧ Blk wx bA 3 (madeCells (Value.int .i64 0).cells (l.length * 1)) ∧ Ext w1 wx ∧ w1.heap.size ≤ bP ∧ w1.heap.size ≤ bF ∧ w1.heap.size ≤ bA

set_option maxRecDepth 100000 in
set_option maxHeartbeats 2000000 in
theorem plan_any {l : List Nd} (F : Rx.Form l) {w : World} {ao : Option Addr} (hV : NodesV w ao l) (hN : NamesOk l) (cap : Nat) (hl : l.length ≤ 64) :
    Calls Tryd.prog 23 #[.agg #[.slice ao l.length cap]] w (PlanPost l ao cap w) := by
  have h0 : 0 < l.length := List.length_pos_iff.2 F.ne
  have HV := hid hV
  have HN := hid hN
  have HF := hid F
  clear hV hN F
  go_enter Tryd.func23, Tryd.ntmps23
  go_wp2_with fail
  have hE0 : Ext w ((w.alloc (.cells #[.slice ao l.length cap] 24)).alloc (.cells #[.slice none 0 0, .slice none 0 0, .slice none 0 0] 53)) := ((Below.refl _ w).alloc (Nat.le_refl _) _).alloc (by simp) _
  refine (check_any (HV.out.ext hE0) cap).mono ?_
  rintro e w1 ⟨c, rfl, hC, hx⟩
  have hc0 : c = 0 := (checkC_zero hC).2 ⟨by omega, HF.out, HN.out⟩
  subst hc0
  have x0 : w1.cell? ⟨w.heap.size, 0, none⟩ = some (.slice ao l.length cap) := (((Blk.new w _ _).alloc _).ext hx).cell (i := 0) rfl
  have HBr : Hid (Blk w1 w.heap.size 24 #[.slice ao l.length cap]) := hid (((Blk.new w _ _).alloc _).ext hx)
  have HBr2 : Hid (Blk w1 (w.heap.size + 1) 53 #[.slice none 0 0, .slice none 0 0, .slice none 0 0]) := hid ((Blk.new' (w.alloc _) _ _ (by simp)).ext hx)
  have HE1 : Hid (Ext w w1) := hid (hE0.trans (hx.mono (by simp; omega)))
  have hsz1 : w.heap.size + 1 < w1.heap.size := HBr2.out.lt
  clear hC hx hE0
  obtain ⟨MF, HMF⟩ : ∃ M, Hid (M = madeCells (Value.agg (factV ⟨false, false, 0, 0⟩)).cells (l.length * 34)) := ⟨_, hid rfl⟩
  obtain ⟨MA, HMA⟩ : ∃ M, Hid (M = madeCells (Value.int .i64 0).cells (l.length * 1)) := ⟨_, hid rfl⟩
  have hm1 : ∀ w', (Instr.makeSlice 51 (.int .i64 (l.length : Int)) (.int .i64 (l.length : Int))).run Tryd.prog w' = .ok (.slice (some ⟨w'.heap.size, 0, none⟩) l.length l.length) (w'.alloc (.cells MF 60)) := fun w' => by
    rw [HMF.out]; exact run_make_R _ _ _ 34 264 Tryd.underlying51 info_factM _ (by omega) (by omega) w'
  have hm2 : ∀ w', (Instr.makeSlice 47 (.int .i64 (l.length : Int)) (.int .i64 (l.length : Int))).run Tryd.prog w' = .ok (.slice (some ⟨w'.heap.size, 0, none⟩) l.length l.length) (w'.alloc (.cells MA 3)) := fun w' => by
    rw [HMA.out]; exact run_make_R _ _ _ 1 8 Tryd.underlying47 Tryd.infoInt _ (by omega) (by omega) w'
  have z0 : w.heap.size < w1.heap.size := by omega
  have z1 : w.heap.size < w1.heap.size + 1 := by omega
  have z2 : w.heap.size < w1.heap.size + 1 + 1 := by omega
  have z3 : w.heap.size < w1.heap.size + 1 + 1 + 1 := by omega
  go_upto_region 4 with fail
  go_cut [5] (fun v wx => MadeP l ao cap w1 v wx)
  case first =>
    go_region
    all_goals
      go_wp2_with fail
      go_meet
      first
        | (refine ⟨_, w1.heap.size, w1.heap.size + 1, rfl, ?_, ?_, ?_, ?_, ?_, ?_, ?_⟩ <;> (first | omega | (rw [← madeF, ← HMF.out]; (first | exact ((Blk.new w1 _ MF).alloc _).alloc _ | exact (Blk.new' (w1.alloc _) _ MF (by simp)).alloc _ | exact Blk.new' ((w1.alloc _).alloc _) _ MF (by simp))) | (rw [← HMA.out]; (first | exact ((Blk.new w1 _ MA).alloc _).alloc _ | exact (Blk.new' (w1.alloc _) _ MA (by simp)).alloc _ | exact Blk.new' ((w1.alloc _).alloc _) _ MA (by simp))) | exact ((((Below.refl _ w1).alloc (Nat.le_refl _) _).alloc (by simp) _).alloc (by simp; omega) _).drew | (unfold planC; (first | exact ((Blk.new w1 _ _).alloc _).alloc _ | exact (Blk.new' (w1.alloc _) _ _ (by simp)).alloc _ | exact Blk.new' ((w1.alloc _).alloc _) _ _ (by simp)))))
        | (refine ⟨_, w1.heap.size, w1.heap.size + 1 + 1, rfl, ?_, ?_, ?_, ?_, ?_, ?_, ?_⟩ <;> (first | omega | (rw [← madeF, ← HMF.out]; (first | exact ((Blk.new w1 _ MF).alloc _).alloc _ | exact (Blk.new' (w1.alloc _) _ MF (by simp)).alloc _ | exact Blk.new' ((w1.alloc _).alloc _) _ MF (by simp))) | (rw [← HMA.out]; (first | exact ((Blk.new w1 _ MA).alloc _).alloc _ | exact (Blk.new' (w1.alloc _) _ MA (by simp)).alloc _ | exact Blk.new' ((w1.alloc _).alloc _) _ MA (by simp))) | exact ((((Below.refl _ w1).alloc (Nat.le_refl _) _).alloc (by simp) _).alloc (by simp; omega) _).drew | (unfold planC; (first | exact ((Blk.new w1 _ _).alloc _).alloc _ | exact (Blk.new' (w1.alloc _) _ _ (by simp)).alloc _ | exact Blk.new' ((w1.alloc _).alloc _) _ _ (by simp)))))
        | (refine ⟨_, w1.heap.size + 1, w1.heap.size, rfl, ?_, ?_, ?_, ?_, ?_, ?_, ?_⟩ <;> (first | omega | (rw [← madeF, ← HMF.out]; (first | exact ((Blk.new w1 _ MF).alloc _).alloc _ | exact (Blk.new' (w1.alloc _) _ MF (by simp)).alloc _ | exact Blk.new' ((w1.alloc _).alloc _) _ MF (by simp))) | (rw [← HMA.out]; (first | exact ((Blk.new w1 _ MA).alloc _).alloc _ | exact (Blk.new' (w1.alloc _) _ MA (by simp)).alloc _ | exact Blk.new' ((w1.alloc _).alloc _) _ MA (by simp))) | exact ((((Below.refl _ w1).alloc (Nat.le_refl _) _).alloc (by simp) _).alloc (by simp; omega) _).drew | (unfold planC; (first | exact ((Blk.new w1 _ _).alloc _).alloc _ | exact (Blk.new' (w1.alloc _) _ _ (by simp)).alloc _ | exact Blk.new' ((w1.alloc _).alloc _) _ _ (by simp)))))
        | (refine ⟨_, w1.heap.size + 1, w1.heap.size + 1 + 1, rfl, ?_, ?_, ?_, ?_, ?_, ?_, ?_⟩ <;> (first | omega | (rw [← madeF, ← HMF.out]; (first | exact ((Blk.new w1 _ MF).alloc _).alloc _ | exact (Blk.new' (w1.alloc _) _ MF (by simp)).alloc _ | exact Blk.new' ((w1.alloc _).alloc _) _ MF (by simp))) | (rw [← HMA.out]; (first | exact ((Blk.new w1 _ MA).alloc _).alloc _ | exact (Blk.new' (w1.alloc _) _ MA (by simp)).alloc _ | exact Blk.new' ((w1.alloc _).alloc _) _ MA (by simp))) | exact ((((Below.refl _ w1).alloc (Nat.le_refl _) _).alloc (by simp) _).alloc (by simp; omega) _).drew | (unfold planC; (first | exact ((Blk.new w1 _ _).alloc _).alloc _ | exact (Blk.new' (w1.alloc _) _ _ (by simp)).alloc _ | exact Blk.new' ((w1.alloc _).alloc _) _ _ (by simp)))))
        | (refine ⟨_, w1.heap.size + 1 + 1, w1.heap.size, rfl, ?_, ?_, ?_, ?_, ?_, ?_, ?_⟩ <;> (first | omega | (rw [← madeF, ← HMF.out]; (first | exact ((Blk.new w1 _ MF).alloc _).alloc _ | exact (Blk.new' (w1.alloc _) _ MF (by simp)).alloc _ | exact Blk.new' ((w1.alloc _).alloc _) _ MF (by simp))) | (rw [← HMA.out]; (first | exact ((Blk.new w1 _ MA).alloc _).alloc _ | exact (Blk.new' (w1.alloc _) _ MA (by simp)).alloc _ | exact Blk.new' ((w1.alloc _).alloc _) _ MA (by simp))) | exact ((((Below.refl _ w1).alloc (Nat.le_refl _) _).alloc (by simp) _).alloc (by simp; omega) _).drew | (unfold planC; (first | exact ((Blk.new w1 _ _).alloc _).alloc _ | exact (Blk.new' (w1.alloc _) _ _ (by simp)).alloc _ | exact Blk.new' ((w1.alloc _).alloc _) _ _ (by simp)))))
        | (refine ⟨_, w1.heap.size + 1 + 1, w1.heap.size + 1, rfl, ?_, ?_, ?_, ?_, ?_, ?_, ?_⟩ <;> (first | omega | (rw [← madeF, ← HMF.out]; (first | exact ((Blk.new w1 _ MF).alloc _).alloc _ | exact (Blk.new' (w1.alloc _) _ MF (by simp)).alloc _ | exact Blk.new' ((w1.alloc _).alloc _) _ MF (by simp))) | (rw [← HMA.out]; (first | exact ((Blk.new w1 _ MA).alloc _).alloc _ | exact (Blk.new' (w1.alloc _) _ MA (by simp)).alloc _ | exact Blk.new' ((w1.alloc _).alloc _) _ MA (by simp))) | exact ((((Below.refl _ w1).alloc (Nat.le_refl _) _).alloc (by simp) _).alloc (by simp; omega) _).drew | (unfold planC; (first | exact ((Blk.new w1 _ _).alloc _).alloc _ | exact (Blk.new' (w1.alloc _) _ _ (by simp)).alloc _ | exact Blk.new' ((w1.alloc _).alloc _) _ _ (by simp)))))
  case rest =>
    obtain ⟨bP, bF, bA, rfl, hP, hF, hA, hX, l1, l2, l3⟩ := hcut
    have a0 := hA.cell (i := l.length - 1) (v := .int .i64 0) (by rw [Array.getElem?_eq_some_iff]; exact ⟨by rw [size_madeCells]; omega, by simp [madeCells, Value.cells, Nat.mod_one]⟩)
    have af := hA.frozen (l.length - 1)
    have p2 : wc.cell? ⟨bP, 2, none⟩ = some (.slice (some ⟨bA, 0, none⟩) l.length l.length) := hP.cell (i := 2) rfl
    have n1 : bP ≠ bF := blk_ne hP hF (by decide)
    have n2 : bP ≠ bA := blk_ne hP hA (by decide)
    have n3 : bF ≠ bA := blk_ne hF hA (by decide)
    have HPb := hid hP
    have HFb := hid hF
    have HAb := hid hA
    have HXb := hid hX
    have y0 := hX.cell (p := ⟨w.heap.size, 0, none⟩) z0
    rw [x0] at y0
    have hn1 : (0 : Int) ≤ (l.length : Int) - 1 := by omega
    clear hP hF hA hX hm1 hm2
    go_wp2_with fail
    have N1 := hid n1
    have N2 := hid n2
    have N3 := hid n3
    clear n1 n2 n3
    go_loopg [29] l.length (fun g v wr => ∃ k, g = l.length - k ∧ k ≤ l.length ∧ v = .int .i64 k ∧ Hid (∃ fs, TellW wr l ao cap w.heap.size bP bF bA fs k) ∧ Hid (Ext w wr) ∧ Hid (Blk wr (w.heap.size + 1) 53 #[.slice none 0 0, .slice none 0 0, .slice none 0 0]))
    case atStart =>
      have hc : Chg (· = bA) wc (wc.setCell ⟨bA, l.length - 1, none⟩ (.int .i64 (-1))) := (Chg.refl (· = bA) wc).setCell (p := ⟨bA, l.length - 1, none⟩) rfl _
      refine ⟨0, rfl, Nat.zero_le _, rfl, hid ⟨List.replicate l.length ⟨false, false, 0, 0⟩, ?_⟩, hid ?_, hid ?_⟩
      · refine ⟨(((HV.out.ext HE1.out).ext HXb.out).chg hc (fun b off e => ?_)), ((HBr.out.ext HXb.out).chg hc (by show ¬ _ = _; omega)), HPb.out.chg hc N2.out, HFb.out.chg hc N3.out, ?_, by simp, fun j h => absurd h (Nat.not_lt_zero j)⟩
        · obtain ⟨b', off', e', hb', _⟩ := HV.out.cells h0
          rw [e] at e'
          cases e'
          show ¬ _ = _
          omega
        · rw [← madeA l h0]
          exact HAb.out.set _ _
      · exact ((Chg.of_ext (S := (· = bA)) (HE1.out.trans (HXb.out.mono HE1.out.size))).trans hc).below (Nat.le_refl _) (fun k hk => by omega)
      · exact (HBr2.out.ext HXb.out).chg hc (by show ¬ _ = _; omega)
    case round =>
      obtain ⟨k, rfl, hk, rfl, HTl, HEk, HB2⟩ := hrel
      by_cases hlt : k < l.length
      · obtain ⟨fs, hT⟩ := HTl.out
        have p1 := hT.pbox.cell (i := 1) rfl
        have r0 := hT.rbox.cell (i := 0) rfl
        have HT := hid hT
        have sF := hT.facts.lt
        have sP := hT.pbox.lt
        have hlf := hT.len
        have szk : k * 34 + 34 ≤ (rowV factV fs).size := by rw [rowV_size factV_size, hlf]; have := Nat.mul_le_mul_right 34 hlt; omega
        have HLF := hid hlf
        clear hT hlf
        go_upto_region 10 with fail
        refine wp_region_heldL (fun w' => w'.cell? ⟨bP, 1, none⟩ = some (.slice (some ⟨bF, 0, none⟩) l.length l.length)) (by kernel_rfl) ?_
        refine wpAnyH_takeK 0 7 #[true, false, false, false, false, false, false, false] rfl (by kernel_rfl) rfl (.pointer (some ⟨bP, 1, none⟩)) (fun _ _ _ h => h) (Or.inl ⟨rfl, fun w' hS => ?_⟩) p1 ?_
        · go_simp <;> with_reducible rfl
        refine wpAnyH_takeK 1 6 #[true, true, false, false, false, false, false, false] rfl (by kernel_rfl) rfl (.slice (some ⟨bF, 0, none⟩) l.length l.length) (fun _ _ _ h => h) (Or.inl ⟨rfl, fun w' hS => ?_⟩) p1 ?_
        · go_simp <;> with_reducible rfl
        refine wpAnyH_takeK 2 5 #[true, true, true, false, false, false, false, false] rfl (by kernel_rfl) rfl (.int .i64 k) (fun _ _ _ h => h) (Or.inl ⟨rfl, fun w' hS => ?_⟩) p1 ?_
        · go_simp <;> with_reducible rfl
        refine wpAnyH_takeK 3 4 #[true, true, true, true, false, false, false, false] rfl (by kernel_rfl) rfl (.func (.func 43) #[] #[.pointer (some ⟨w.heap.size, 0, none⟩), .pointer (some ⟨bP, 0, none⟩)]) (fun _ _ _ h => h) (Or.inl ⟨rfl, fun w' hS => ?_⟩) p1 ?_
        · go_simp <;> with_reducible rfl
        refine wpAnyH_takeK 4 3 #[true, true, true, true, true, false, false, false] rfl (by kernel_rfl) rfl (.int .i64 k) (fun _ _ _ h => h) (Or.inl ⟨rfl, fun w' hS => ?_⟩) p1 ?_
        · go_simp <;> with_reducible rfl
        refine wpAnyH_one 5 2 #[true, true, true, true, true, true, false, false] rfl (by kernel_rfl) rfl ?_
        go_wp2_with fail
        have hTn : TellW wr.drew l ao cap w.heap.size bP bF bA fs k := ⟨HT.out.nodes.ext (Below.refl _ wr).drew, HT.out.rbox.drew, HT.out.pbox.drew, HT.out.facts.drew, HT.out.above.drew, HT.out.len, HT.out.known⟩
        refine (tell_any hTn hlt HF.out hl).mono ?_
        rintro e w2 ⟨C, rfl, hC, hA2, hc2⟩
        have q1 : w2.cell? ⟨bP, 1, none⟩ = some (.slice (some ⟨bF, 0, none⟩) l.length l.length) := (HT.out.pbox.drew.chg hc2 N2.out).cell (i := 1) rfl
        have HFb2 := hid ((HT.out.facts.drew).chg hc2 N3.out)
        have HA2 := hid hA2
        have HC := hid hC
        have HC2 := hid (((Chg.refl (· = bA) wr).drew).trans hc2)
        have sC : C.size = 34 := by rw [hC, factV_size]
        have hkL : k ≤ l.length := by omega
        have hN1k : l.length ≤ 9223372036854775807 := by omega
        clear hA2 hC hc2 hTn
        go_wp2_with fail
        refine ⟨q1, ?_⟩
        refine wpAnyH_one 6 1 #[true, true, true, true, true, true, true, false] rfl (by kernel_rfl) rfl ?_
        go_wp2_with fail
        refine ⟨q1, ?_⟩
        refine wpAnyH_one 7 0 #[true, true, true, true, true, true, true, true] rfl (by kernel_rfl) rfl ?_
        go_wp2_with (with_reducible refine wpList_store_agg rfl 60 (.tmp 38) (.tmp 37) rfl bF (k * 34) C rfl rfl 60 (rowV factV fs) (HFb2.out) (by rw [sC]; exact info_fact) (by rw [sC]; exact szk) (by rw [HC.out]; exact ones_factV _) ?_; intro w3 H3 hs3)
        have C3 : Hid (Chg (fun b => b = bF ∨ b = bA) wr w3) := hid ((HC2.out.mono fun _ _ e => .inr e).trans (H3.out.2.mono fun _ _ e => .inl e))
        have HPz : Hid (Blk w3 bP 53 (planC ao l.length cap bF bA)) := hid (HT.out.pbox.chg C3.out (by have := N1.out; have := N2.out; show ¬ (_ ∨ _); omega))
        refine ⟨HPz.out.cell (i := 1) rfl, ?_⟩
        refine wpAnyH_end (P := Tryd.prog) (by kernel_rfl) ?_
        go_wp2_with fail
        go_roundg (l.length - (k + 1))
        case measure => omega
        case rel =>
        refine ⟨k + 1, rfl, hlt, by go_num, hid ⟨fs.set k (factT (tr l k)), ?_⟩, hid (HEk.out.trans (C3.out.below HEk.out.size (fun b e => by rcases e with e | e <;> omega))), hid (HB2.out.chg C3.out (by show ¬ (_ ∨ _); omega))⟩
        refine ⟨HT.out.nodes.chg C3.out (fun b off e => ?_), HT.out.rbox.chg C3.out (by show ¬ (_ ∨ _); omega), HPz.out, ?_, HA2.out.chg H3.out.2 (by have := N3.out; show ¬ _ = _; omega), by rw [List.length_set]; exact HLF.out, fun j hj => ?_⟩
        · obtain ⟨b', off', e', hb', _⟩ := HV.out.cells h0
          rw [e] at e'
          cases e'
          show ¬ (_ ∨ _)
          omega
        · have h3 := H3.out.1
          rw [HC.out, rowV_splice factV_size (by rw [HLF.out]; exact hlt)] at h3
          exact h3
        · by_cases e : j = k
          · subst e; rw [List.getElem?_set_self (by rw [HLF.out]; exact hlt)]
          · rw [List.getElem?_set_ne (fun h => e h.symm)]; exact HT.out.known j (by omega)
      · obtain rfl : k = l.length := by omega
        obtain ⟨fs, hT⟩ := HTl.out
        have p0 := hT.pbox.cell (i := 0) rfl
        have p1 := hT.pbox.cell (i := 1) rfl
        have p2 := hT.pbox.cell (i := 2) rfl
        have sR := HB2.out.lt
        have HT := hid hT
        clear hT
        have hI : (Tryd.prog.info? 53).map (·.size) = some (planC ao l.length cap bF bA).size := by kernel_rfl
        have hO : Ones (planC ao l.length cap bF bA) := by
          refine ones_mk fun j v h => ?_
          match j with
          | 0 => cases h; rfl
          | 1 => cases h; rfl
          | 2 => cases h; rfl
          | n + 3 => cases h
        have HIO := hid (And.intro hI hO)
        clear hI hO
        go_wp2_with (refine wpList_store_agg rfl 53 (.tmp 2) (.tmp 40) rfl (w.heap.size + 1) 0 (planC ao l.length cap bF bA) rfl rfl 53 _ (HB2.out) HIO.out.1 (Nat.le_refl 3) HIO.out.2 ?_; intro w4 H4 hs4)
        obtain ⟨h3, c3⟩ := H4.out
        have hz : (#[Value.slice none 0 0, Value.slice none 0 0, Value.slice none 0 0] : Array Value).size = (planC ao l.length cap bF bA).size := rfl
        rw [splice_all hz] at h3
        have hfs : fs = factsOf l := by
          apply List.ext_getElem?
          intro j
          by_cases hj : j < l.length
          · rw [HT.out.known j hj, factsOf_get hj]
          · rw [List.getElem?_eq_none (by rw [HT.out.len]; omega), List.getElem?_eq_none (by rw [factsOf_len]; omega)]
        refine bodyPost_ret (v := .tuple #[.agg (planC ao l.length cap bF bA), .bool true]) (results_cell_agg_tmp Tryd.results23 _ w4 (w.heap.size + 1) _ (planC ao l.length cap bF bA) _ _ rfl rfl h3 Tryd.underlying53 rfl HIO.out.1) rfl ⟨bF, bA, rfl, ?_, ?_, by omega, by omega⟩
        · refine ⟨HV.out.ext ?_, ?_, HT.out.above.chg c3 (by show ¬ _ = _; omega)⟩
          · exact HEk.out.trans (c3.below HEk.out.size (fun b e => by omega))
          · rw [← hfs]; exact HT.out.facts.chg c3 (by show ¬ _ = _; omega)
        · exact HEk.out.trans (c3.below HEk.out.size (fun b e => by omega))

end Go.Proofs.YtngpjagpeblbjaaDoor
