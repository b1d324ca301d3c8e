/-
  Walk of both: what is known of two nodes one behind the other. The walks by case were printed by genboth.py.
-/
import Derived.Test.YtngpjagpeblbjaaDoorZW9
namespace Go.Proofs.YtngpjagpeblbjaaDoor
open Go.RowKit Go.Spy Go.Rx

set_option maxRecDepth 100000 in
set_option maxHeartbeats 400000 in
theorem both_void (A B : Array Value) (fv fe gv ge : Bool) (ff fl gf gl : Nat) (w : World) (hA : A = factV ⟨fv, fe, ff, fl⟩) (hB : B = factV ⟨gv, ge, gf, gl⟩) (hv : fv = true ∨ fv = false ∧ gv = true) :
    Calls Tryd.prog 45 #[.agg A, .agg B] w (FactPost w ⟨true, false, 0, 0⟩) := by
  rcases hv with rfl | ⟨rfl, rfl⟩
  all_goals
    have sA : A.size = 34 := by rw [hA, factV_size]
    have sB : B.size = 34 := by rw [hB, factV_size]
    have a0 : A[0]'(by omega) = .bool _ := get_of (by rw [hA, factV_void])
    have a1 : A[1]'(by omega) = .bool _ := get_of (by rw [hA, factV_empty])
    have b0 : B[0]'(by omega) = .bool _ := get_of (by rw [hB, factV_void])
    have b1 : B[1]'(by omega) = .bool _ := get_of (by rw [hB, factV_empty])
    have HA := hid hA
    have HB := hid hB
    clear hA hB
    go_enter Tryd.func45, Tryd.ntmps45
    go_wp2_with (first
      | (with_reducible refine wpList_alloc_aggN rfl 60 rfl _ zero_fact ?_; intro Z HZ; have sZ : Z.size = 34 := by rw [HZ.out, factV_size])
      | (refine wpList_build_agg rfl 60 #[(0, .const (.bool true))] rfl [(0, .bool true)] ?_ (factV ⟨true, false, 0, 0⟩) ?_ ?_
         · rfl
         · exact built_void
         intro C HC)
      | (with_reducible refine wpList_store_last rfl 60 (.tmp 4) (.tmp 12) rfl _ C rfl rfl _ _ (by simp) (by rw [HC.out, factV_size]; exact info_fact) (by rw [HC.out, factV_size]; exact sZ) (by rw [HC.out]; exact ones_factV _) ?_))
    have hb : Blk (((w.alloc (.cells A 60)).alloc (.cells B 60)).alloc (.cells C 60)) (w.heap.size + 1 + 1) 60 C := Blk.new' _ _ C (by simp)
    refine bodyPost_ret (v := .agg C) (results_cell_agg Tryd.results45 _ _ (w.heap.size + 1 + 1) _ C _ rfl hb Tryd.underlying60 rfl (by rw [HC.out, factV_size]; exact info_fact)) rfl ⟨C, rfl, HC.out, ?_⟩
    exact (((Below.refl _ _).alloc (Nat.le_refl _) _).alloc (by simp) _).alloc (by simp; omega) _

set_option maxRecDepth 100000 in
set_option maxHeartbeats 400000 in
theorem both_tt (A B : Array Value) (ff fl gf gl : Nat) (w : World) (hA : A = factV ⟨false, true, ff, fl⟩) (hB : B = factV ⟨false, true, gf, gl⟩) (f1 : ff < 18446744073709551616) (f2 : fl < 18446744073709551616) (g1 : gf < 18446744073709551616) (g2 : gl < 18446744073709551616) :
    Calls Tryd.prog 45 #[.agg A, .agg B] w (FactPost w ⟨false, true, ff ||| gf, gl ||| fl⟩) := by
  have sA : A.size = 34 := by rw [hA, factV_size]
  have sB : B.size = 34 := by rw [hB, factV_size]
  have a0 : A[0]'(by omega) = .bool false := get_of (by rw [hA, factV_void])
  have a1 : A[1]'(by omega) = .bool true := get_of (by rw [hA, factV_empty])
  have b0 : B[0]'(by omega) = .bool false := get_of (by rw [hB, factV_void])
  have b1 : B[1]'(by omega) = .bool true := get_of (by rw [hB, factV_empty])
  have HA := hid hA
  have HB := hid hB
  clear hA hB
  go_enter Tryd.func45, Tryd.ntmps45
  go_wp2_with (first
    | (with_reducible refine wpList_alloc_aggN rfl 60 rfl _ zero_fact ?_; intro Z HZ; have sZ : Z.size = 34 := by rw [HZ.out, factV_size])
    | (with_reducible refine wpList_load_agg rfl 58 (.tmp 19) rfl w.heap.size 2 rfl 60 A _ 16 (((Blk.new w 60 A).alloc _).alloc _) Tryd.underlying58 rfl info_set (by omega) ?_; intro C1 HC1)
    | (with_reducible refine wpList_load_agg rfl 58 (.tmp 21) rfl _ 18 rfl 60 B _ 16 ((Blk.new' (w.alloc _) 60 B (by simp)).alloc _) Tryd.underlying58 rfl info_set (by omega) ?_; intro C2 HC2)
    | (refine wpList_build_agg rfl 60 #[(1, .tmp 18), (2, .tmp 20), (3, .tmp 22)] rfl [(1, .bool true), (2, .agg C1), (3, .agg C2)] ?_ (factV ⟨false, true, ff, gl⟩) ?_ ?_
       · rfl
       · rw [show C1 = setV ff by rw [HC1.out, HA.out, factV_ext_first], show C2 = setV gl by rw [HC2.out, HB.out, factV_ext_last]]
         exact built_both _ _ _
       intro C HC)
    | (with_reducible refine wpList_store_last rfl 60 (.tmp 5) (.tmp 23) rfl _ C rfl rfl _ _ rfl (by rw [HC.out, factV_size]; exact info_fact) (by rw [HC.out, factV_size]; exact sZ) (by rw [HC.out]; exact ones_factV _) ?_))
  have HAk : Hid (∀ Y : Array Value, Blk (((((w.alloc (.cells A 60)).alloc (.cells B 60))).alloc (.cells Y 60)).alloc (.cells C 60)) w.heap.size 60 A) := hid fun Y => (((Blk.new w _ A).alloc _).alloc _).alloc _
  have HBk : Hid (∀ Y : Array Value, Blk (((((w.alloc (.cells A 60)).alloc (.cells B 60))).alloc (.cells Y 60)).alloc (.cells C 60)) (w.heap.size + 1) 60 B) := hid fun Y => ((Blk.new' (w.alloc _) _ B (by simp)).alloc _).alloc _
  have HCk : Hid (∀ Y : Array Value, Blk (((((w.alloc (.cells A 60)).alloc (.cells B 60))).alloc (.cells Y 60)).alloc (.cells C 60)) (w.heap.size + 1 + 1 + 1) 60 C) := hid fun Y => Blk.new' _ _ C (by simp)
  refine (join_any (w.heap.size + 1 + 1 + 1) 2 ff (w.heap.size + 1) 2 gf 60 C _ f1 g1 (by omega) (HCk.out _) (fun i hi => by rw [HC.out]; exact factV_first _ hi) (fun i hi => (HBk.out _).cell (by rw [HB.out]; exact factV_first _ hi))).mono ?_
  rintro e w1 ⟨rfl, k1, k2⟩
  rw [HC.out, factV_put_first] at k1
  have K1 := hid k1
  have K2 := hid k2
  have a1k : Hid (Blk w1 w.heap.size 60 A) := hid ((HAk.out _).chg k2 (by show ¬ _ = _; omega))
  have b1c : w1.cell? ⟨w.heap.size + 1, 1, none⟩ = some (.bool true) := ((HBk.out _).chg k2 (by show ¬ _ = _; omega)).cell (by rw [HB.out, factV_empty])
  clear k1 k2
  go_wp2_with fail
  refine (join_any (w.heap.size + 1 + 1 + 1) 18 gl w.heap.size 18 fl 60 (factV ⟨false, true, ff ||| gf, gl⟩) _ g2 f2 (by omega) K1.out (fun i hi => factV_last _ hi) (fun i hi => a1k.out.cell (by rw [HA.out]; exact factV_last _ hi))).mono ?_
  rintro e w2 ⟨rfl, k3, k4⟩
  rw [factV_put_last] at k3
  have KC : Chg (· = w.heap.size + 1 + 1 + 1) _ w2 := K2.out.trans k4
  obtain ⟨D, HD⟩ : ∃ D, Hid (D = factV ⟨false, true, ff ||| gf, gl ||| fl⟩) := ⟨_, rfl⟩
  have K3 : Hid (Blk w2 (w.heap.size + 1 + 1 + 1) 60 D) := hid (by rw [HD.out]; exact k3)
  have sD : D.size = 34 := by rw [HD.out, factV_size]
  have KE : Hid (Ext w w2) := hid (Chg.below ((((((Chg.refl (· = w.heap.size + 1 + 1 + 1) w).alloc _).alloc _).alloc _).alloc _).trans KC) (Nat.le_refl _) (fun k hk => by omega))
  obtain ⟨Y, sY, kY⟩ : ∃ Y : Array Value, Y.size = 34 ∧ Blk w2 (w.heap.size + 1 + 1) 60 Y := ⟨_, (by assumption), ((Blk.new' _ _ _ (by simp)).alloc _).chg KC (by show ¬ _ = _; omega)⟩
  have KY := hid kY
  clear k3 KC kY
  go_wp2_with (first
    | (with_reducible refine wpList_load_agg rfl 60 (.tmp 5) rfl _ 0 rfl 60 D _ 34 K3.out Tryd.underlying60 rfl info_fact (by omega) ?_; intro E HE; have sE : E.size = 34 := by (rw [HE.out, ext_all D 34 sD]; exact sD))
    | (with_reducible refine wpList_store_agg rfl 60 (.tmp 4) (.tmp 34) rfl _ 0 E rfl rfl 60 Y KY.out (by rw [sE]; exact info_fact) (by omega) (by rw [HE.out, ext_all D 34 sD, HD.out]; exact ones_factV _) ?_; intro w3 H3 hs3))
  obtain ⟨h3, c3⟩ := H3.out
  rw [splice_all (by omega)] at h3
  exact bodyPost_ret (v := .agg E) (results_cell_agg Tryd.results45 _ w3 _ _ E _ rfl h3 Tryd.underlying60 rfl (by rw [sE]; exact info_fact)) rfl ⟨E, rfl, by rw [HE.out, ext_all D 34 sD, HD.out],
    ((Chg.of_ext (S := (· = w.heap.size + 1 + 1)) KE.out).trans c3).below (Nat.le_refl _) (fun k hk => by omega)⟩

set_option maxRecDepth 100000 in
set_option maxHeartbeats 400000 in
theorem both_tf (A B : Array Value) (ff fl gf gl : Nat) (w : World) (hA : A = factV ⟨false, true, ff, fl⟩) (hB : B = factV ⟨false, false, gf, gl⟩) (f1 : ff < 18446744073709551616) (f2 : fl < 18446744073709551616) (g1 : gf < 18446744073709551616) (g2 : gl < 18446744073709551616) :
    Calls Tryd.prog 45 #[.agg A, .agg B] w (FactPost w ⟨false, false, ff ||| gf, gl⟩) := by
  have sA : A.size = 34 := by rw [hA, factV_size]
  have sB : B.size = 34 := by rw [hB, factV_size]
  have a0 : A[0]'(by omega) = .bool false := get_of (by rw [hA, factV_void])
  have a1 : A[1]'(by omega) = .bool true := get_of (by rw [hA, factV_empty])
  have b0 : B[0]'(by omega) = .bool false := get_of (by rw [hB, factV_void])
  have b1 : B[1]'(by omega) = .bool false := get_of (by rw [hB, factV_empty])
  have HA := hid hA
  have HB := hid hB
  clear hA hB
  go_enter Tryd.func45, Tryd.ntmps45
  go_wp2_with (first
    | (with_reducible refine wpList_alloc_aggN rfl 60 rfl _ zero_fact ?_; intro Z HZ; have sZ : Z.size = 34 := by rw [HZ.out, factV_size])
    | (with_reducible refine wpList_load_agg rfl 58 (.tmp 19) rfl w.heap.size 2 rfl 60 A _ 16 (((Blk.new w 60 A).alloc _).alloc _) Tryd.underlying58 rfl info_set (by omega) ?_; intro C1 HC1)
    | (with_reducible refine wpList_load_agg rfl 58 (.tmp 21) rfl _ 18 rfl 60 B _ 16 ((Blk.new' (w.alloc _) 60 B (by simp)).alloc _) Tryd.underlying58 rfl info_set (by omega) ?_; intro C2 HC2)
    | (refine wpList_build_agg rfl 60 #[(1, .tmp 18), (2, .tmp 20), (3, .tmp 22)] rfl [(1, .bool false), (2, .agg C1), (3, .agg C2)] ?_ (factV ⟨false, false, ff, gl⟩) ?_ ?_
       · rfl
       · rw [show C1 = setV ff by rw [HC1.out, HA.out, factV_ext_first], show C2 = setV gl by rw [HC2.out, HB.out, factV_ext_last]]
         exact built_both _ _ _
       intro C HC)
    | (with_reducible refine wpList_store_last rfl 60 (.tmp 5) (.tmp 23) rfl _ C rfl rfl _ _ rfl (by rw [HC.out, factV_size]; exact info_fact) (by rw [HC.out, factV_size]; exact sZ) (by rw [HC.out]; exact ones_factV _) ?_))
  have HAk : Hid (∀ Y : Array Value, Blk (((((w.alloc (.cells A 60)).alloc (.cells B 60))).alloc (.cells Y 60)).alloc (.cells C 60)) w.heap.size 60 A) := hid fun Y => (((Blk.new w _ A).alloc _).alloc _).alloc _
  have HBk : Hid (∀ Y : Array Value, Blk (((((w.alloc (.cells A 60)).alloc (.cells B 60))).alloc (.cells Y 60)).alloc (.cells C 60)) (w.heap.size + 1) 60 B) := hid fun Y => ((Blk.new' (w.alloc _) _ B (by simp)).alloc _).alloc _
  have HCk : Hid (∀ Y : Array Value, Blk (((((w.alloc (.cells A 60)).alloc (.cells B 60))).alloc (.cells Y 60)).alloc (.cells C 60)) (w.heap.size + 1 + 1 + 1) 60 C) := hid fun Y => Blk.new' _ _ C (by simp)
  refine (join_any (w.heap.size + 1 + 1 + 1) 2 ff (w.heap.size + 1) 2 gf 60 C _ f1 g1 (by omega) (HCk.out _) (fun i hi => by rw [HC.out]; exact factV_first _ hi) (fun i hi => (HBk.out _).cell (by rw [HB.out]; exact factV_first _ hi))).mono ?_
  rintro e w1 ⟨rfl, k1, k2⟩
  rw [HC.out, factV_put_first] at k1
  have K1 := hid k1
  have K2 := hid k2
  have b1c : w1.cell? ⟨w.heap.size + 1, 1, none⟩ = some (.bool false) := ((HBk.out _).chg k2 (by show ¬ _ = _; omega)).cell (by rw [HB.out, factV_empty])
  clear k1 k2
  obtain ⟨w2, rfl⟩ : ∃ w2, w1 = w2 := ⟨_, rfl⟩
  have k3 := K1.out
  have KC : Chg (· = w.heap.size + 1 + 1 + 1) _ w1 := K2.out
  obtain ⟨D, HD⟩ : ∃ D, Hid (D = factV ⟨false, false, ff ||| gf, gl⟩) := ⟨_, rfl⟩
  have K3 : Hid (Blk w1 (w.heap.size + 1 + 1 + 1) 60 D) := hid (by rw [HD.out]; exact k3)
  have sD : D.size = 34 := by rw [HD.out, factV_size]
  have KE : Hid (Ext w w1) := hid (Chg.below ((((((Chg.refl (· = w.heap.size + 1 + 1 + 1) w).alloc _).alloc _).alloc _).alloc _).trans KC) (Nat.le_refl _) (fun k hk => by omega))
  obtain ⟨Y, sY, kY⟩ : ∃ Y : Array Value, Y.size = 34 ∧ Blk w1 (w.heap.size + 1 + 1) 60 Y := ⟨_, (by assumption), ((Blk.new' _ _ _ (by simp)).alloc _).chg KC (by show ¬ _ = _; omega)⟩
  have KY := hid kY
  clear k3 KC kY
  go_wp2_with (first
    | (with_reducible refine wpList_load_agg rfl 60 (.tmp 5) rfl _ 0 rfl 60 D _ 34 K3.out Tryd.underlying60 rfl info_fact (by omega) ?_; intro E HE; have sE : E.size = 34 := by (rw [HE.out, ext_all D 34 sD]; exact sD))
    | (with_reducible refine wpList_store_agg rfl 60 (.tmp 4) (.tmp 34) rfl _ 0 E rfl rfl 60 Y KY.out (by rw [sE]; exact info_fact) (by omega) (by rw [HE.out, ext_all D 34 sD, HD.out]; exact ones_factV _) ?_; intro w3 H3 hs3))
  obtain ⟨h3, c3⟩ := H3.out
  rw [splice_all (by omega)] at h3
  exact bodyPost_ret (v := .agg E) (results_cell_agg Tryd.results45 _ w3 _ _ E _ rfl h3 Tryd.underlying60 rfl (by rw [sE]; exact info_fact)) rfl ⟨E, rfl, by rw [HE.out, ext_all D 34 sD, HD.out],
    ((Chg.of_ext (S := (· = w.heap.size + 1 + 1)) KE.out).trans c3).below (Nat.le_refl _) (fun k hk => by omega)⟩

set_option maxRecDepth 100000 in
set_option maxHeartbeats 400000 in
theorem both_ft (A B : Array Value) (ff fl gf gl : Nat) (w : World) (hA : A = factV ⟨false, false, ff, fl⟩) (hB : B = factV ⟨false, true, gf, gl⟩) (f1 : ff < 18446744073709551616) (f2 : fl < 18446744073709551616) (g1 : gf < 18446744073709551616) (g2 : gl < 18446744073709551616) :
    Calls Tryd.prog 45 #[.agg A, .agg B] w (FactPost w ⟨false, false, ff, gl ||| fl⟩) := by
  have sA : A.size = 34 := by rw [hA, factV_size]
  have sB : B.size = 34 := by rw [hB, factV_size]
  have a0 : A[0]'(by omega) = .bool false := get_of (by rw [hA, factV_void])
  have a1 : A[1]'(by omega) = .bool false := get_of (by rw [hA, factV_empty])
  have b0 : B[0]'(by omega) = .bool false := get_of (by rw [hB, factV_void])
  have b1 : B[1]'(by omega) = .bool true := get_of (by rw [hB, factV_empty])
  have HA := hid hA
  have HB := hid hB
  clear hA hB
  go_enter Tryd.func45, Tryd.ntmps45
  go_wp2_with (first
    | (with_reducible refine wpList_alloc_aggN rfl 60 rfl _ zero_fact ?_; intro Z HZ; have sZ : Z.size = 34 := by rw [HZ.out, factV_size])
    | (with_reducible refine wpList_load_agg rfl 58 (.tmp 19) rfl w.heap.size 2 rfl 60 A _ 16 (((Blk.new w 60 A).alloc _).alloc _) Tryd.underlying58 rfl info_set (by omega) ?_; intro C1 HC1)
    | (with_reducible refine wpList_load_agg rfl 58 (.tmp 21) rfl _ 18 rfl 60 B _ 16 ((Blk.new' (w.alloc _) 60 B (by simp)).alloc _) Tryd.underlying58 rfl info_set (by omega) ?_; intro C2 HC2)
    | (refine wpList_build_agg rfl 60 #[(1, .tmp 18), (2, .tmp 20), (3, .tmp 22)] rfl [(1, .bool false), (2, .agg C1), (3, .agg C2)] ?_ (factV ⟨false, false, ff, gl⟩) ?_ ?_
       · rfl
       · rw [show C1 = setV ff by rw [HC1.out, HA.out, factV_ext_first], show C2 = setV gl by rw [HC2.out, HB.out, factV_ext_last]]
         exact built_both _ _ _
       intro C HC)
    | (with_reducible refine wpList_store_last rfl 60 (.tmp 5) (.tmp 23) rfl _ C rfl rfl _ _ rfl (by rw [HC.out, factV_size]; exact info_fact) (by rw [HC.out, factV_size]; exact sZ) (by rw [HC.out]; exact ones_factV _) ?_))
  have HAk : Hid (∀ Y : Array Value, Blk (((((w.alloc (.cells A 60)).alloc (.cells B 60))).alloc (.cells Y 60)).alloc (.cells C 60)) w.heap.size 60 A) := hid fun Y => (((Blk.new w _ A).alloc _).alloc _).alloc _
  have HBk : Hid (∀ Y : Array Value, Blk (((((w.alloc (.cells A 60)).alloc (.cells B 60))).alloc (.cells Y 60)).alloc (.cells C 60)) (w.heap.size + 1) 60 B) := hid fun Y => ((Blk.new' (w.alloc _) _ B (by simp)).alloc _).alloc _
  have HCk : Hid (∀ Y : Array Value, Blk (((((w.alloc (.cells A 60)).alloc (.cells B 60))).alloc (.cells Y 60)).alloc (.cells C 60)) (w.heap.size + 1 + 1 + 1) 60 C) := hid fun Y => Blk.new' _ _ C (by simp)
  refine (join_any (w.heap.size + 1 + 1 + 1) 18 gl w.heap.size 18 fl 60 C _ g2 f2 (by omega) (HCk.out _) (fun i hi => by rw [HC.out]; exact factV_last _ hi) (fun i hi => (HAk.out _).cell (by rw [HA.out]; exact factV_last _ hi))).mono ?_
  rintro e w2 ⟨rfl, k3, k4⟩
  rw [HC.out, factV_put_last] at k3
  have KC : Chg (· = w.heap.size + 1 + 1 + 1) _ w2 := k4
  obtain ⟨D, HD⟩ : ∃ D, Hid (D = factV ⟨false, false, ff, gl ||| fl⟩) := ⟨_, rfl⟩
  have K3 : Hid (Blk w2 (w.heap.size + 1 + 1 + 1) 60 D) := hid (by rw [HD.out]; exact k3)
  have sD : D.size = 34 := by rw [HD.out, factV_size]
  have KE : Hid (Ext w w2) := hid (Chg.below ((((((Chg.refl (· = w.heap.size + 1 + 1 + 1) w).alloc _).alloc _).alloc _).alloc _).trans KC) (Nat.le_refl _) (fun k hk => by omega))
  obtain ⟨Y, sY, kY⟩ : ∃ Y : Array Value, Y.size = 34 ∧ Blk w2 (w.heap.size + 1 + 1) 60 Y := ⟨_, (by assumption), ((Blk.new' _ _ _ (by simp)).alloc _).chg KC (by show ¬ _ = _; omega)⟩
  have KY := hid kY
  clear k3 KC kY
  go_wp2_with (first
    | (with_reducible refine wpList_load_agg rfl 60 (.tmp 5) rfl _ 0 rfl 60 D _ 34 K3.out Tryd.underlying60 rfl info_fact (by omega) ?_; intro E HE; have sE : E.size = 34 := by (rw [HE.out, ext_all D 34 sD]; exact sD))
    | (with_reducible refine wpList_store_agg rfl 60 (.tmp 4) (.tmp 34) rfl _ 0 E rfl rfl 60 Y KY.out (by rw [sE]; exact info_fact) (by omega) (by rw [HE.out, ext_all D 34 sD, HD.out]; exact ones_factV _) ?_; intro w3 H3 hs3))
  obtain ⟨h3, c3⟩ := H3.out
  rw [splice_all (by omega)] at h3
  exact bodyPost_ret (v := .agg E) (results_cell_agg Tryd.results45 _ w3 _ _ E _ rfl h3 Tryd.underlying60 rfl (by rw [sE]; exact info_fact)) rfl ⟨E, rfl, by rw [HE.out, ext_all D 34 sD, HD.out],
    ((Chg.of_ext (S := (· = w.heap.size + 1 + 1)) KE.out).trans c3).below (Nat.le_refl _) (fun k hk => by omega)⟩

set_option maxRecDepth 100000 in
set_option maxHeartbeats 400000 in
theorem both_ff (A B : Array Value) (ff fl gf gl : Nat) (w : World) (hA : A = factV ⟨false, false, ff, fl⟩) (hB : B = factV ⟨false, false, gf, gl⟩) (f1 : ff < 18446744073709551616) (f2 : fl < 18446744073709551616) (g1 : gf < 18446744073709551616) (g2 : gl < 18446744073709551616) :
    Calls Tryd.prog 45 #[.agg A, .agg B] w (FactPost w ⟨false, false, ff, gl⟩) := by
  have sA : A.size = 34 := by rw [hA, factV_size]
  have sB : B.size = 34 := by rw [hB, factV_size]
  have a0 : A[0]'(by omega) = .bool false := get_of (by rw [hA, factV_void])
  have a1 : A[1]'(by omega) = .bool false := get_of (by rw [hA, factV_empty])
  have b0 : B[0]'(by omega) = .bool false := get_of (by rw [hB, factV_void])
  have b1 : B[1]'(by omega) = .bool false := get_of (by rw [hB, factV_empty])
  have HA := hid hA
  have HB := hid hB
  clear hA hB
  go_enter Tryd.func45, Tryd.ntmps45
  go_wp2_with (first
    | (with_reducible refine wpList_alloc_aggN rfl 60 rfl _ zero_fact ?_; intro Z HZ; have sZ : Z.size = 34 := by rw [HZ.out, factV_size])
    | (with_reducible refine wpList_load_agg rfl 58 (.tmp 19) rfl w.heap.size 2 rfl 60 A _ 16 (((Blk.new w 60 A).alloc _).alloc _) Tryd.underlying58 rfl info_set (by omega) ?_; intro C1 HC1)
    | (with_reducible refine wpList_load_agg rfl 58 (.tmp 21) rfl _ 18 rfl 60 B _ 16 ((Blk.new' (w.alloc _) 60 B (by simp)).alloc _) Tryd.underlying58 rfl info_set (by omega) ?_; intro C2 HC2)
    | (refine wpList_build_agg rfl 60 #[(1, .tmp 18), (2, .tmp 20), (3, .tmp 22)] rfl [(1, .bool false), (2, .agg C1), (3, .agg C2)] ?_ (factV ⟨false, false, ff, gl⟩) ?_ ?_
       · rfl
       · rw [show C1 = setV ff by rw [HC1.out, HA.out, factV_ext_first], show C2 = setV gl by rw [HC2.out, HB.out, factV_ext_last]]
         exact built_both _ _ _
       intro C HC)
    | (with_reducible refine wpList_store_last rfl 60 (.tmp 5) (.tmp 23) rfl _ C rfl rfl _ _ rfl (by rw [HC.out, factV_size]; exact info_fact) (by rw [HC.out, factV_size]; exact sZ) (by rw [HC.out]; exact ones_factV _) ?_)
    | (with_reducible refine wpList_load_agg rfl 60 (.tmp 5) rfl _ 0 rfl 60 C _ 34 (Blk.new' _ _ C (by simp)) Tryd.underlying60 rfl info_fact (by rw [HC.out, factV_size]; omega) ?_; intro E HE; have sE : E.size = 34 := by (rw [HE.out, ext_all C 34 (by rw [HC.out, factV_size]), HC.out, factV_size]))
    | (with_reducible refine wpList_store_agg rfl 60 (.tmp 4) (.tmp 34) rfl _ 0 E rfl rfl 60 _ ((Blk.new' ((w.alloc (.cells A 60)).alloc (.cells B 60)) 60 _ (by simp)).alloc _) (by rw [sE]; exact info_fact) (by omega) (by rw [HE.out, ext_all C 34 (by rw [HC.out, factV_size]), HC.out]; exact ones_factV _) ?_; intro w3 H3 hs3))
  obtain ⟨h3, c3⟩ := H3.out
  rw [splice_all (by omega)] at h3
  have KE : ∀ Y : Array Value, Ext w (((((w.alloc (.cells A 60)).alloc (.cells B 60))).alloc (.cells Y 60)).alloc (.cells C 60)) := fun Y => ((((Below.refl w.heap.size w).alloc (Nat.le_refl _) (.cells A 60)).alloc (by simp) (.cells B 60)).alloc (by simp; omega) (.cells _ 60)).alloc (by simp; omega) (.cells C 60)
  exact bodyPost_ret (v := .agg E) (results_cell_agg Tryd.results45 _ w3 _ _ E _ rfl h3 Tryd.underlying60 rfl (by rw [sE]; exact info_fact)) rfl ⟨E, rfl, by rw [HE.out, ext_all C 34 (by rw [HC.out, factV_size]), HC.out],
    ((Chg.of_ext (S := (· = w.heap.size + 1 + 1)) (KE _)).trans c3).below (Nat.le_refl _) (fun k hk => by omega)⟩

theorem both_any (A B : Array Value) (F G : Fact) (w : World) (hA : A = factV F) (hB : B = factV G) (f1 : F.first < 18446744073709551616) (f2 : F.last < 18446744073709551616) (g1 : G.first < 18446744073709551616) (g2 : G.last < 18446744073709551616) :
    Calls Tryd.prog 45 #[.agg A, .agg B] w (FactPost w (bothF F G)) := by
  obtain ⟨fv, fe, ff, fl⟩ := F
  obtain ⟨gv, ge, gf, gl⟩ := G
  cases fv with
  | true => exact both_void A B true fe gv ge ff fl gf gl w hA hB (.inl rfl)
  | false =>
    cases gv with
    | true => exact both_void A B false fe true ge ff fl gf gl w hA hB (.inr ⟨rfl, rfl⟩)
    | false =>
      cases fe <;> cases ge
      · exact both_ff A B ff fl gf gl w hA hB f1 f2 g1 g2
      · exact both_ft A B ff fl gf gl w hA hB f1 f2 g1 g2
      · exact both_tf A B ff fl gf gl w hA hB f1 f2 g1 g2
      · exact both_tt A B ff fl gf gl w hA hB f1 f2 g1 g2

end Go.Proofs.YtngpjagpeblbjaaDoor
