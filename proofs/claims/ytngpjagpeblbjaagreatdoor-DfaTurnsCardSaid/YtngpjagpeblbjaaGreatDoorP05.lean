/-
  Walk of both: what is known of two nodes one behind the other. The walks by case were printed by genboth.py.
  The data of a plan in memory; walk of root.
  Walk of next: the places that may stand right behind a place.
  Walk of part, the closure of formed.
-/
import Derived.Test.YtngpjagpeblbjaaGreatDoorP04
import Derived.BigQuiet
import Derived.Deep.QuietTactic
import Derived.Deep.OwnRows
namespace Go.Proofs.YtngpjagpeblbjaaGreatDoor
open Go.RowKit Go.Spy Go.Rx
set_option maxRecDepth 100000 in
set_option maxHeartbeats 400000 in
theorem both_void (A B : Array Value) (fv fe gv ge : Bool) (ff fl gf gl : Nat) (w : World) (hA : A = factV ⟨fv, fe, ff, fl⟩) (hB : B = factV ⟨gv, ge, gf, gl⟩) (hv : fv = true ∨ fv = false ∧ gv = true) :
 Calls Tryz.prog 116 #[.agg A, .agg B] w (FactPost w ⟨true, false, 0, 0⟩) := by
 rcases hv with rfl | ⟨rfl, rfl⟩
 all_goals
  have sA : A.size = 34 := by rw [hA, factV_size]
  have sB : B.size = 34 := by rw [hB, factV_size]
  have a0 : A[0]'(by omega) = .bool _ := get_of (by rw [hA, factV_void])
  have a1 : A[1]'(by omega) = .bool _ := get_of (by rw [hA, factV_empty])
  have b0 : B[0]'(by omega) = .bool _ := get_of (by rw [hB, factV_void])
  have b1 : B[1]'(by omega) = .bool _ := get_of (by rw [hB, factV_empty])
  have HA := hid hA
  have HB := hid hB
  clear hA hB
  go_enter Tryz.func116, Tryz.ntmps116
  go_wp2_with (first
   | (with_reducible refine wpList_alloc_aggN rfl 131 rfl _ zero_fact ?_; intro Z HZ; have sZ : Z.size = 34 := by rw [HZ.out, factV_size])
   | (refine wpList_build_agg rfl 131 #[(0, .const (.bool true))] rfl [(0, .bool true)] ?_ (factV ⟨true, false, 0, 0⟩) ?_ ?_
      ·rfl
      ·exact built_void
      intro C HC)
   | (with_reducible refine wpList_store_last rfl 131 (.tmp 4) (.tmp 12) rfl _ C rfl rfl _ _ (by simp) (by rw [HC.out, factV_size]; exact info_fact) (by rw [HC.out, factV_size]; exact sZ) (by rw [HC.out]; exact ones_factV _) ?_))
  have hb : Blk (((w.alloc (.cells A 131)).alloc (.cells B 131)).alloc (.cells C 131)) (w.heap.size + 1 + 1) 131 C := Blk.new' _ _ C (by simp)
  refine bodyPost_ret (v := .agg C) (results_cell_agg Tryz.results116 _ _ (w.heap.size + 1 + 1) _ C _ rfl hb Tryz.underlying131 rfl (by rw [HC.out, factV_size]; exact info_fact)) rfl ⟨C, rfl, HC.out, ?_⟩
  exact (((Below.refl _ _).alloc (Nat.le_refl _) _).alloc (by simp) _).alloc (by simp; omega) _
set_option maxRecDepth 100000 in
set_option maxHeartbeats 400000 in
theorem both_tt (A B : Array Value) (ff fl gf gl : Nat) (w : World) (hA : A = factV ⟨false, true, ff, fl⟩) (hB : B = factV ⟨false, true, gf, gl⟩) (f1 : ff < 18446744073709551616) (f2 : fl < 18446744073709551616) (g1 : gf < 18446744073709551616) (g2 : gl < 18446744073709551616) :
 Calls Tryz.prog 116 #[.agg A, .agg B] w (FactPost w ⟨false, true, ff ||| gf, gl ||| fl⟩) := by
 have sA : A.size = 34 := by rw [hA, factV_size]
 have sB : B.size = 34 := by rw [hB, factV_size]
 have a0 : A[0]'(by omega) = .bool false := get_of (by rw [hA, factV_void])
 have a1 : A[1]'(by omega) = .bool true := get_of (by rw [hA, factV_empty])
 have b0 : B[0]'(by omega) = .bool false := get_of (by rw [hB, factV_void])
 have b1 : B[1]'(by omega) = .bool true := get_of (by rw [hB, factV_empty])
 have HA := hid hA
 have HB := hid hB
 clear hA hB
 go_enter Tryz.func116, Tryz.ntmps116
 go_wp2_with (first
  | (with_reducible refine wpList_alloc_aggN rfl 131 rfl _ zero_fact ?_; intro Z HZ; have sZ : Z.size = 34 := by rw [HZ.out, factV_size])
  | (with_reducible refine wpList_load_agg rfl 129 (.tmp 19) rfl w.heap.size 2 rfl 131 A _ 16 (((Blk.new w 131 A).alloc _).alloc _) Tryz.underlying129 rfl info_set (by omega) ?_; intro C1 HC1)
  | (with_reducible refine wpList_load_agg rfl 129 (.tmp 21) rfl _ 18 rfl 131 B _ 16 ((Blk.new' (w.alloc _) 131 B (by simp)).alloc _) Tryz.underlying129 rfl info_set (by omega) ?_; intro C2 HC2)
  | (refine wpList_build_agg rfl 131 #[(1, .tmp 18), (2, .tmp 20), (3, .tmp 22)] rfl [(1, .bool true), (2, .agg C1), (3, .agg C2)] ?_ (factV ⟨false, true, ff, gl⟩) ?_ ?_
     ·rfl
     ·rw [show C1 = setV ff by rw [HC1.out, HA.out, factV_ext_first], show C2 = setV gl by rw [HC2.out, HB.out, factV_ext_last]]
      exact built_both _ _ _
     intro C HC)
  | (with_reducible refine wpList_store_last rfl 131 (.tmp 5) (.tmp 23) rfl _ C rfl rfl _ _ rfl (by rw [HC.out, factV_size]; exact info_fact) (by rw [HC.out, factV_size]; exact sZ) (by rw [HC.out]; exact ones_factV _) ?_))
 have HAk : Hid (∀ Y : Array Value, Blk (((((w.alloc (.cells A 131)).alloc (.cells B 131))).alloc (.cells Y 131)).alloc (.cells C 131)) w.heap.size 131 A) := hid fun Y => (((Blk.new w _ A).alloc _).alloc _).alloc _
 have HBk : Hid (∀ Y : Array Value, Blk (((((w.alloc (.cells A 131)).alloc (.cells B 131))).alloc (.cells Y 131)).alloc (.cells C 131)) (w.heap.size + 1) 131 B) := hid fun Y => ((Blk.new' (w.alloc _) _ B (by simp)).alloc _).alloc _
 have HCk : Hid (∀ Y : Array Value, Blk (((((w.alloc (.cells A 131)).alloc (.cells B 131))).alloc (.cells Y 131)).alloc (.cells C 131)) (w.heap.size + 1 + 1 + 1) 131 C) := hid fun Y => Blk.new' _ _ C (by simp)
 refine (join_any (w.heap.size + 1 + 1 + 1) 2 ff (w.heap.size + 1) 2 gf 131 C _ f1 g1 (by omega) (HCk.out _) (fun i hi => by rw [HC.out]; exact factV_first _ hi) (fun i hi => (HBk.out _).cell (by rw [HB.out]; exact factV_first _ hi))).mono ?_
 rintro e w1 ⟨rfl, k1, k2⟩
 rw [HC.out, factV_put_first] at k1
 have K1 := hid k1
 have K2 := hid k2
 have a1k : Hid (Blk w1 w.heap.size 131 A) := hid ((HAk.out _).chg k2 (by show ¬ _ = _; omega))
 have b1c : w1.cell? ⟨w.heap.size + 1, 1, none⟩ = some (.bool true) := ((HBk.out _).chg k2 (by show ¬ _ = _; omega)).cell (by rw [HB.out, factV_empty])
 clear k1 k2
 go_wp2_with fail
 refine (join_any (w.heap.size + 1 + 1 + 1) 18 gl w.heap.size 18 fl 131 (factV ⟨false, true, ff ||| gf, gl⟩) _ g2 f2 (by omega) K1.out (fun i hi => factV_last _ hi) (fun i hi => a1k.out.cell (by rw [HA.out]; exact factV_last _ hi))).mono ?_
 rintro e w2 ⟨rfl, k3, k4⟩
 rw [factV_put_last] at k3
 have KC : Chg (· = w.heap.size + 1 + 1 + 1) _ w2 := K2.out.trans k4
 obtain ⟨D, HD⟩ : ∃ D, Hid (D = factV ⟨false, true, ff ||| gf, gl ||| fl⟩) := ⟨_, rfl⟩
 have K3 : Hid (Blk w2 (w.heap.size + 1 + 1 + 1) 131 D) := hid (by rw [HD.out]; exact k3)
 have sD : D.size = 34 := by rw [HD.out, factV_size]
 have KE : Hid (Ext w w2) := hid (Chg.below ((((((Chg.refl (· = w.heap.size + 1 + 1 + 1) w).alloc _).alloc _).alloc _).alloc _).trans KC) (Nat.le_refl _) (fun k hk => by omega))
 obtain ⟨Y, sY, kY⟩ : ∃ Y : Array Value, Y.size = 34 ∧ Blk w2 (w.heap.size + 1 + 1) 131 Y := ⟨_, (by assumption), ((Blk.new' _ _ _ (by simp)).alloc _).chg KC (by show ¬ _ = _; omega)⟩
 have KY := hid kY
 clear k3 KC kY
 go_wp2_with (first
  | (with_reducible refine wpList_load_agg rfl 131 (.tmp 5) rfl _ 0 rfl 131 D _ 34 K3.out Tryz.underlying131 rfl info_fact (by omega) ?_; intro E HE; have sE : E.size = 34 := by (rw [HE.out, ext_all D 34 sD]; exact sD))
  | (with_reducible refine wpList_store_agg rfl 131 (.tmp 4) (.tmp 34) rfl _ 0 E rfl rfl 131 Y KY.out (by rw [sE]; exact info_fact) (by omega) (by rw [HE.out, ext_all D 34 sD, HD.out]; exact ones_factV _) ?_; intro w3 H3 hs3))
 obtain ⟨h3, c3⟩ := H3.out
 rw [splice_all (by omega)] at h3
 exact bodyPost_ret (v := .agg E) (results_cell_agg Tryz.results116 _ w3 _ _ E _ rfl h3 Tryz.underlying131 rfl (by rw [sE]; exact info_fact)) rfl ⟨E, rfl, by rw [HE.out, ext_all D 34 sD, HD.out],
  ((Chg.of_ext (S := (· = w.heap.size + 1 + 1)) KE.out).trans c3).below (Nat.le_refl _) (fun k hk => by omega)⟩
set_option maxRecDepth 100000 in
set_option maxHeartbeats 400000 in
theorem both_tf (A B : Array Value) (ff fl gf gl : Nat) (w : World) (hA : A = factV ⟨false, true, ff, fl⟩) (hB : B = factV ⟨false, false, gf, gl⟩) (f1 : ff < 18446744073709551616) (_f2 : fl < 18446744073709551616) (g1 : gf < 18446744073709551616) (_g2 : gl < 18446744073709551616) :
 Calls Tryz.prog 116 #[.agg A, .agg B] w (FactPost w ⟨false, false, ff ||| gf, gl⟩) := by
 have sA : A.size = 34 := by rw [hA, factV_size]
 have sB : B.size = 34 := by rw [hB, factV_size]
 have a0 : A[0]'(by omega) = .bool false := get_of (by rw [hA, factV_void])
 have a1 : A[1]'(by omega) = .bool true := get_of (by rw [hA, factV_empty])
 have b0 : B[0]'(by omega) = .bool false := get_of (by rw [hB, factV_void])
 have b1 : B[1]'(by omega) = .bool false := get_of (by rw [hB, factV_empty])
 have HA := hid hA
 have HB := hid hB
 clear hA hB
 go_enter Tryz.func116, Tryz.ntmps116
 go_wp2_with (first
  | (with_reducible refine wpList_alloc_aggN rfl 131 rfl _ zero_fact ?_; intro Z HZ; have sZ : Z.size = 34 := by rw [HZ.out, factV_size])
  | (with_reducible refine wpList_load_agg rfl 129 (.tmp 19) rfl w.heap.size 2 rfl 131 A _ 16 (((Blk.new w 131 A).alloc _).alloc _) Tryz.underlying129 rfl info_set (by omega) ?_; intro C1 HC1)
  | (with_reducible refine wpList_load_agg rfl 129 (.tmp 21) rfl _ 18 rfl 131 B _ 16 ((Blk.new' (w.alloc _) 131 B (by simp)).alloc _) Tryz.underlying129 rfl info_set (by omega) ?_; intro C2 HC2)
  | (refine wpList_build_agg rfl 131 #[(1, .tmp 18), (2, .tmp 20), (3, .tmp 22)] rfl [(1, .bool false), (2, .agg C1), (3, .agg C2)] ?_ (factV ⟨false, false, ff, gl⟩) ?_ ?_
     ·rfl
     ·rw [show C1 = setV ff by rw [HC1.out, HA.out, factV_ext_first], show C2 = setV gl by rw [HC2.out, HB.out, factV_ext_last]]
      exact built_both _ _ _
     intro C HC)
  | (with_reducible refine wpList_store_last rfl 131 (.tmp 5) (.tmp 23) rfl _ C rfl rfl _ _ rfl (by rw [HC.out, factV_size]; exact info_fact) (by rw [HC.out, factV_size]; exact sZ) (by rw [HC.out]; exact ones_factV _) ?_))
 have HAk : Hid (∀ Y : Array Value, Blk (((((w.alloc (.cells A 131)).alloc (.cells B 131))).alloc (.cells Y 131)).alloc (.cells C 131)) w.heap.size 131 A) := hid fun Y => (((Blk.new w _ A).alloc _).alloc _).alloc _
 have HBk : Hid (∀ Y : Array Value, Blk (((((w.alloc (.cells A 131)).alloc (.cells B 131))).alloc (.cells Y 131)).alloc (.cells C 131)) (w.heap.size + 1) 131 B) := hid fun Y => ((Blk.new' (w.alloc _) _ B (by simp)).alloc _).alloc _
 have HCk : Hid (∀ Y : Array Value, Blk (((((w.alloc (.cells A 131)).alloc (.cells B 131))).alloc (.cells Y 131)).alloc (.cells C 131)) (w.heap.size + 1 + 1 + 1) 131 C) := hid fun Y => Blk.new' _ _ C (by simp)
 refine (join_any (w.heap.size + 1 + 1 + 1) 2 ff (w.heap.size + 1) 2 gf 131 C _ f1 g1 (by omega) (HCk.out _) (fun i hi => by rw [HC.out]; exact factV_first _ hi) (fun i hi => (HBk.out _).cell (by rw [HB.out]; exact factV_first _ hi))).mono ?_
 rintro e w1 ⟨rfl, k1, k2⟩
 rw [HC.out, factV_put_first] at k1
 have K1 := hid k1
 have K2 := hid k2
 have b1c : w1.cell? ⟨w.heap.size + 1, 1, none⟩ = some (.bool false) := ((HBk.out _).chg k2 (by show ¬ _ = _; omega)).cell (by rw [HB.out, factV_empty])
 clear k1 k2
 obtain ⟨w2, rfl⟩ : ∃ w2, w1 = w2 := ⟨_, rfl⟩
 have k3 := K1.out
 have KC : Chg (· = w.heap.size + 1 + 1 + 1) _ w1 := K2.out
 obtain ⟨D, HD⟩ : ∃ D, Hid (D = factV ⟨false, false, ff ||| gf, gl⟩) := ⟨_, rfl⟩
 have K3 : Hid (Blk w1 (w.heap.size + 1 + 1 + 1) 131 D) := hid (by rw [HD.out]; exact k3)
 have sD : D.size = 34 := by rw [HD.out, factV_size]
 have KE : Hid (Ext w w1) := hid (Chg.below ((((((Chg.refl (· = w.heap.size + 1 + 1 + 1) w).alloc _).alloc _).alloc _).alloc _).trans KC) (Nat.le_refl _) (fun k hk => by omega))
 obtain ⟨Y, sY, kY⟩ : ∃ Y : Array Value, Y.size = 34 ∧ Blk w1 (w.heap.size + 1 + 1) 131 Y := ⟨_, (by assumption), ((Blk.new' _ _ _ (by simp)).alloc _).chg KC (by show ¬ _ = _; omega)⟩
 have KY := hid kY
 clear k3 KC kY
 go_wp2_with (first
  | (with_reducible refine wpList_load_agg rfl 131 (.tmp 5) rfl _ 0 rfl 131 D _ 34 K3.out Tryz.underlying131 rfl info_fact (by omega) ?_; intro E HE; have sE : E.size = 34 := by (rw [HE.out, ext_all D 34 sD]; exact sD))
  | (with_reducible refine wpList_store_agg rfl 131 (.tmp 4) (.tmp 34) rfl _ 0 E rfl rfl 131 Y KY.out (by rw [sE]; exact info_fact) (by omega) (by rw [HE.out, ext_all D 34 sD, HD.out]; exact ones_factV _) ?_; intro w3 H3 hs3))
 obtain ⟨h3, c3⟩ := H3.out
 rw [splice_all (by omega)] at h3
 exact bodyPost_ret (v := .agg E) (results_cell_agg Tryz.results116 _ w3 _ _ E _ rfl h3 Tryz.underlying131 rfl (by rw [sE]; exact info_fact)) rfl ⟨E, rfl, by rw [HE.out, ext_all D 34 sD, HD.out],
  ((Chg.of_ext (S := (· = w.heap.size + 1 + 1)) KE.out).trans c3).below (Nat.le_refl _) (fun k hk => by omega)⟩
set_option maxRecDepth 100000 in
set_option maxHeartbeats 400000 in
theorem both_ft (A B : Array Value) (ff fl gf gl : Nat) (w : World) (hA : A = factV ⟨false, false, ff, fl⟩) (hB : B = factV ⟨false, true, gf, gl⟩) (_f1 : ff < 18446744073709551616) (f2 : fl < 18446744073709551616) (_g1 : gf < 18446744073709551616) (g2 : gl < 18446744073709551616) :
 Calls Tryz.prog 116 #[.agg A, .agg B] w (FactPost w ⟨false, false, ff, gl ||| fl⟩) := by
 have sA : A.size = 34 := by rw [hA, factV_size]
 have sB : B.size = 34 := by rw [hB, factV_size]
 have a0 : A[0]'(by omega) = .bool false := get_of (by rw [hA, factV_void])
 have a1 : A[1]'(by omega) = .bool false := get_of (by rw [hA, factV_empty])
 have b0 : B[0]'(by omega) = .bool false := get_of (by rw [hB, factV_void])
 have b1 : B[1]'(by omega) = .bool true := get_of (by rw [hB, factV_empty])
 have HA := hid hA
 have HB := hid hB
 clear hA hB
 go_enter Tryz.func116, Tryz.ntmps116
 go_wp2_with (first
  | (with_reducible refine wpList_alloc_aggN rfl 131 rfl _ zero_fact ?_; intro Z HZ; have sZ : Z.size = 34 := by rw [HZ.out, factV_size])
  | (with_reducible refine wpList_load_agg rfl 129 (.tmp 19) rfl w.heap.size 2 rfl 131 A _ 16 (((Blk.new w 131 A).alloc _).alloc _) Tryz.underlying129 rfl info_set (by omega) ?_; intro C1 HC1)
  | (with_reducible refine wpList_load_agg rfl 129 (.tmp 21) rfl _ 18 rfl 131 B _ 16 ((Blk.new' (w.alloc _) 131 B (by simp)).alloc _) Tryz.underlying129 rfl info_set (by omega) ?_; intro C2 HC2)
  | (refine wpList_build_agg rfl 131 #[(1, .tmp 18), (2, .tmp 20), (3, .tmp 22)] rfl [(1, .bool false), (2, .agg C1), (3, .agg C2)] ?_ (factV ⟨false, false, ff, gl⟩) ?_ ?_
     ·rfl
     ·rw [show C1 = setV ff by rw [HC1.out, HA.out, factV_ext_first], show C2 = setV gl by rw [HC2.out, HB.out, factV_ext_last]]
      exact built_both _ _ _
     intro C HC)
  | (with_reducible refine wpList_store_last rfl 131 (.tmp 5) (.tmp 23) rfl _ C rfl rfl _ _ rfl (by rw [HC.out, factV_size]; exact info_fact) (by rw [HC.out, factV_size]; exact sZ) (by rw [HC.out]; exact ones_factV _) ?_))
 have HAk : Hid (∀ Y : Array Value, Blk (((((w.alloc (.cells A 131)).alloc (.cells B 131))).alloc (.cells Y 131)).alloc (.cells C 131)) w.heap.size 131 A) := hid fun Y => (((Blk.new w _ A).alloc _).alloc _).alloc _
 have HBk : Hid (∀ Y : Array Value, Blk (((((w.alloc (.cells A 131)).alloc (.cells B 131))).alloc (.cells Y 131)).alloc (.cells C 131)) (w.heap.size + 1) 131 B) := hid fun Y => ((Blk.new' (w.alloc _) _ B (by simp)).alloc _).alloc _
 have HCk : Hid (∀ Y : Array Value, Blk (((((w.alloc (.cells A 131)).alloc (.cells B 131))).alloc (.cells Y 131)).alloc (.cells C 131)) (w.heap.size + 1 + 1 + 1) 131 C) := hid fun Y => Blk.new' _ _ C (by simp)
 refine (join_any (w.heap.size + 1 + 1 + 1) 18 gl w.heap.size 18 fl 131 C _ g2 f2 (by omega) (HCk.out _) (fun i hi => by rw [HC.out]; exact factV_last _ hi) (fun i hi => (HAk.out _).cell (by rw [HA.out]; exact factV_last _ hi))).mono ?_
 rintro e w2 ⟨rfl, k3, k4⟩
 rw [HC.out, factV_put_last] at k3
 have KC : Chg (· = w.heap.size + 1 + 1 + 1) _ w2 := k4
 obtain ⟨D, HD⟩ : ∃ D, Hid (D = factV ⟨false, false, ff, gl ||| fl⟩) := ⟨_, rfl⟩
 have K3 : Hid (Blk w2 (w.heap.size + 1 + 1 + 1) 131 D) := hid (by rw [HD.out]; exact k3)
 have sD : D.size = 34 := by rw [HD.out, factV_size]
 have KE : Hid (Ext w w2) := hid (Chg.below ((((((Chg.refl (· = w.heap.size + 1 + 1 + 1) w).alloc _).alloc _).alloc _).alloc _).trans KC) (Nat.le_refl _) (fun k hk => by omega))
 obtain ⟨Y, sY, kY⟩ : ∃ Y : Array Value, Y.size = 34 ∧ Blk w2 (w.heap.size + 1 + 1) 131 Y := ⟨_, (by assumption), ((Blk.new' _ _ _ (by simp)).alloc _).chg KC (by show ¬ _ = _; omega)⟩
 have KY := hid kY
 clear k3 KC kY
 go_wp2_with (first
  | (with_reducible refine wpList_load_agg rfl 131 (.tmp 5) rfl _ 0 rfl 131 D _ 34 K3.out Tryz.underlying131 rfl info_fact (by omega) ?_; intro E HE; have sE : E.size = 34 := by (rw [HE.out, ext_all D 34 sD]; exact sD))
  | (with_reducible refine wpList_store_agg rfl 131 (.tmp 4) (.tmp 34) rfl _ 0 E rfl rfl 131 Y KY.out (by rw [sE]; exact info_fact) (by omega) (by rw [HE.out, ext_all D 34 sD, HD.out]; exact ones_factV _) ?_; intro w3 H3 hs3))
 obtain ⟨h3, c3⟩ := H3.out
 rw [splice_all (by omega)] at h3
 exact bodyPost_ret (v := .agg E) (results_cell_agg Tryz.results116 _ w3 _ _ E _ rfl h3 Tryz.underlying131 rfl (by rw [sE]; exact info_fact)) rfl ⟨E, rfl, by rw [HE.out, ext_all D 34 sD, HD.out],
  ((Chg.of_ext (S := (· = w.heap.size + 1 + 1)) KE.out).trans c3).below (Nat.le_refl _) (fun k hk => by omega)⟩
set_option maxRecDepth 100000 in
set_option maxHeartbeats 400000 in
theorem both_ff (A B : Array Value) (ff fl gf gl : Nat) (w : World) (hA : A = factV ⟨false, false, ff, fl⟩) (hB : B = factV ⟨false, false, gf, gl⟩) (_f1 : ff < 18446744073709551616) (_f2 : fl < 18446744073709551616) (_g1 : gf < 18446744073709551616) (_g2 : gl < 18446744073709551616) :
 Calls Tryz.prog 116 #[.agg A, .agg B] w (FactPost w ⟨false, false, ff, gl⟩) := by
 have sA : A.size = 34 := by rw [hA, factV_size]
 have sB : B.size = 34 := by rw [hB, factV_size]
 have a0 : A[0]'(by omega) = .bool false := get_of (by rw [hA, factV_void])
 have a1 : A[1]'(by omega) = .bool false := get_of (by rw [hA, factV_empty])
 have b0 : B[0]'(by omega) = .bool false := get_of (by rw [hB, factV_void])
 have b1 : B[1]'(by omega) = .bool false := get_of (by rw [hB, factV_empty])
 have HA := hid hA
 have HB := hid hB
 clear hA hB
 go_enter Tryz.func116, Tryz.ntmps116
 go_wp2_with (first
  | (with_reducible refine wpList_alloc_aggN rfl 131 rfl _ zero_fact ?_; intro Z HZ; have sZ : Z.size = 34 := by rw [HZ.out, factV_size])
  | (with_reducible refine wpList_load_agg rfl 129 (.tmp 19) rfl w.heap.size 2 rfl 131 A _ 16 (((Blk.new w 131 A).alloc _).alloc _) Tryz.underlying129 rfl info_set (by omega) ?_; intro C1 HC1)
  | (with_reducible refine wpList_load_agg rfl 129 (.tmp 21) rfl _ 18 rfl 131 B _ 16 ((Blk.new' (w.alloc _) 131 B (by simp)).alloc _) Tryz.underlying129 rfl info_set (by omega) ?_; intro C2 HC2)
  | (refine wpList_build_agg rfl 131 #[(1, .tmp 18), (2, .tmp 20), (3, .tmp 22)] rfl [(1, .bool false), (2, .agg C1), (3, .agg C2)] ?_ (factV ⟨false, false, ff, gl⟩) ?_ ?_
     ·rfl
     ·rw [show C1 = setV ff by rw [HC1.out, HA.out, factV_ext_first], show C2 = setV gl by rw [HC2.out, HB.out, factV_ext_last]]
      exact built_both _ _ _
     intro C HC)
  | (with_reducible refine wpList_store_last rfl 131 (.tmp 5) (.tmp 23) rfl _ C rfl rfl _ _ rfl (by rw [HC.out, factV_size]; exact info_fact) (by rw [HC.out, factV_size]; exact sZ) (by rw [HC.out]; exact ones_factV _) ?_)
  | (with_reducible refine wpList_load_agg rfl 131 (.tmp 5) rfl _ 0 rfl 131 C _ 34 (Blk.new' _ _ C (by simp)) Tryz.underlying131 rfl info_fact (by rw [HC.out, factV_size]; omega) ?_; intro E HE; have sE : E.size = 34 := by (rw [HE.out, ext_all C 34 (by rw [HC.out, factV_size]), HC.out, factV_size]))
  | (with_reducible refine wpList_store_agg rfl 131 (.tmp 4) (.tmp 34) rfl _ 0 E rfl rfl 131 _ ((Blk.new' ((w.alloc (.cells A 131)).alloc (.cells B 131)) 131 _ (by simp)).alloc _) (by rw [sE]; exact info_fact) (by omega) (by rw [HE.out, ext_all C 34 (by rw [HC.out, factV_size]), HC.out]; exact ones_factV _) ?_; intro w3 H3 hs3))
 obtain ⟨h3, c3⟩ := H3.out
 rw [splice_all (by omega)] at h3
 have KE : ∀ Y : Array Value, Ext w (((((w.alloc (.cells A 131)).alloc (.cells B 131))).alloc (.cells Y 131)).alloc (.cells C 131)) := fun Y => ((((Below.refl w.heap.size w).alloc (Nat.le_refl _) (.cells A 131)).alloc (by simp) (.cells B 131)).alloc (by simp; omega) (.cells _ 131)).alloc (by simp; omega) (.cells C 131)
 exact bodyPost_ret (v := .agg E) (results_cell_agg Tryz.results116 _ w3 _ _ E _ rfl h3 Tryz.underlying131 rfl (by rw [sE]; exact info_fact)) rfl ⟨E, rfl, by rw [HE.out, ext_all C 34 (by rw [HC.out, factV_size]), HC.out],
  ((Chg.of_ext (S := (· = w.heap.size + 1 + 1)) (KE _)).trans c3).below (Nat.le_refl _) (fun k hk => by omega)⟩
theorem both_any (A B : Array Value) (F G : Fact) (w : World) (hA : A = factV F) (hB : B = factV G) (f1 : F.first < 18446744073709551616) (f2 : F.last < 18446744073709551616) (g1 : G.first < 18446744073709551616) (g2 : G.last < 18446744073709551616) :
 Calls Tryz.prog 116 #[.agg A, .agg B] w (FactPost w (bothF F G)) := by
 obtain ⟨fv, fe, ff, fl⟩ := F
 obtain ⟨gv, ge, gf, gl⟩ := G
 cases fv with
 | true => exact both_void A B true fe gv ge ff fl gf gl w hA hB (.inl rfl)
 | false =>
   cases gv with
   | true => exact both_void A B false fe true ge ff fl gf gl w hA hB (.inr ⟨rfl, rfl⟩)
   | false =>
     cases fe <;> cases ge
     ·exact both_ff A B ff fl gf gl w hA hB f1 f2 g1 g2
     ·exact both_ft A B ff fl gf gl w hA hB f1 f2 g1 g2
     ·exact both_tf A B ff fl gf gl w hA hB f1 f2 g1 g2
     ·exact both_tt A B ff fl gf gl w hA hB f1 f2 g1 g2
end Go.Proofs.YtngpjagpeblbjaaGreatDoor
namespace Go.Proofs.YtngpjagpeblbjaaGreatDoor
open Go.RowKit Go.Spy Go.Rx
structure NodesV (w : World) (ao : Option Addr) (l : List Nd) : Prop where
 len : l.length ≤ 4398046511104
 size : ∀ (i : Nat) (n : Nd), l[i]? = some n → n.sym.size ≤ 9223372036854775807
 cells : 0 < l.length → ∃ b off, ao = some ⟨b, off, none⟩ ∧ b < w.heap.size ∧ ∀ (i : Nat) (n : Nd), l[i]? = some n →
  w.cell? ⟨b, off + i * 4, none⟩ = some (.int .i64 n.op) ∧ w.cell? ⟨b, off + i * 4 + 1, none⟩ = some (.string n.sym) ∧ w.cell? ⟨b, off + i * 4 + 2, none⟩ = some (.int .i64 n.a) ∧ w.cell? ⟨b, off + i * 4 + 3, none⟩ = some (.int .i64 n.b)
section
variable {w w' : World} {ao : Option Addr} {l : List Nd}
theorem NodesV.chg (h : NodesV w ao l) {S : Nat → Prop} (e : Chg S w w') (hS : ∀ b off, ao = some ⟨b, off, none⟩ → ¬ S b) : NodesV w' ao l where
 len := h.len
 size := h.size
 cells h0 := by
  obtain ⟨b, off, ha, hb, hc⟩ := h.cells h0
  refine ⟨b, off, ha, Nat.lt_of_lt_of_le hb e.size, fun i n hn => ?_⟩
  have k : ∀ o, w'.cell? ⟨b, o, none⟩ = w.cell? ⟨b, o, none⟩ := fun o => cell_of_chg (a := ⟨b, o, none⟩) e hb (hS b off ha)
  simp only [k]
  exact hc i n hn
theorem NodesV.ext (h : NodesV w ao l) (e : Ext w w') : NodesV w' ao l where
 len := h.len
 size := h.size
 cells h0 := by
  obtain ⟨b, off, ha, hb, hc⟩ := h.cells h0
  refine ⟨b, off, ha, Nat.lt_of_lt_of_le hb e.size, fun i n hn => ?_⟩
  have k : ∀ o, w'.cell? ⟨b, o, none⟩ = w.cell? ⟨b, o, none⟩ := fun o => e.cell (p := ⟨b, o, none⟩) hb
  simp only [k]
  exact hc i n hn
end
def factsOf (l : List Nd) : List Fact := (List.range l.length).map fun i => factT (tr l i)
def aboveV (l : List Nd) (k : Nat) : Array Value := ((List.range l.length).map fun j => Value.int .i64 (up l k j)).toArray
theorem factsOf_get {l : List Nd} {i : Nat} (h : i < l.length) : (factsOf l)[i]? = some (factT (tr l i)) := by simp [factsOf, h]
theorem factsOf_len (l : List Nd) : (factsOf l).length = l.length := by simp [factsOf]
theorem aboveV_get {l : List Nd} {k j : Nat} (h : j < l.length) : (aboveV l k)[j]? = some (.int .i64 (up l k j)) := by simp [aboveV, h]
theorem aboveV_size (l : List Nd) (k : Nat) : (aboveV l k).size = l.length := by simp [aboveV]
structure PlanW (w : World) (ao : Option Addr) (l : List Nd) (bF bA : Nat) : Prop where
 nodes : NodesV w ao l
 facts : Blk w bF 131 (rowV factV (factsOf l))
 above : Blk w bA 3 (aboveV l l.length)
def planC (ao : Option Addr) (n cap bF bA : Nat) : Array Value := #[.slice ao n cap, .slice (some ⟨bF, 0, none⟩) n n, .slice (some ⟨bA, 0, none⟩) n n]
theorem PlanW.ext {w w' : World} {ao : Option Addr} {l : List Nd} {bF bA : Nat} (h : PlanW w ao l bF bA) (e : Ext w w') : PlanW w' ao l bF bA := ⟨h.nodes.ext e, h.facts.ext e, h.above.ext e⟩
theorem PlanW.fact {w : World} {ao : Option Addr} {l : List Nd} {bF bA : Nat} (h : PlanW w ao l bF bA) {i j : Nat} (hi : i < l.length) (hj : j < 34) : w.cell? ⟨bF, i * 34 + j, none⟩ = (factV (factT (tr l i)))[j]? := by
 have h1 := rowV_get (f := factV) (s := 34) factV_size (factsOf_get hi) hj
 cases h2 : (factV (factT (tr l i)))[j]? with
 | none => have := Array.getElem?_eq_none_iff.1 h2; rw [factV_size] at this; omega
 | some v => rw [h2] at h1; exact h.facts.cell h1
theorem root_any (w : World) (ao : Option Addr) (n cap bF bA : Nat) (hn : 0 < n) (hN : n ≤ 1024) :
 Calls Tryz.prog 82 #[.agg (planC ao n cap bF bA)] w fun e w' => e = .returned (.pointer (some ⟨bF, (n - 1) * 34, none⟩)) ∧ Ext w w' := by
 unfold planC
 go_enter Tryz.func82, Tryz.ntmps82
 go_wp2
 go_ret
 exact ⟨by simp, (Below.refl _ _).alloc (Nat.le_refl _) _⟩
end Go.Proofs.YtngpjagpeblbjaaGreatDoor
namespace Go.Proofs.YtngpjagpeblbjaaGreatDoor
open Go.RowKit Go.Spy Go.Rx
theorem fact64 {l : List Nd} (F : Rx.Form l) (h : l.length ≤ 64) {i : Nat} (hi : i < l.length) : (factT (tr l i)).first < 18446744073709551616 ∧ (factT (tr l i)).last < 18446744073709551616 := by
 have h64 : 2 ^ 64 = 18446744073709551616 := by decide
 rw [← h64]
 exact fact_lt (n := 64) _ fun p hp => Nat.lt_of_lt_of_le (pos_lt F hi hp) h
theorem or64 {a b : Nat} (ha : a < 18446744073709551616) (hb : b < 18446744073709551616) : a ||| b < 18446744073709551616 := by
 have h64 : 2 ^ 64 = 18446744073709551616 := by decide
 rw [← h64] at *
 exact or_lt ha hb
def SetPost (w : World) (m : Nat) (e : Ending) (w' : World) : Prop := ∃ C, e = .returned (.agg C) ∧ C = setV m ∧ Ext w w'
theorem built_set : Tryz.prog.built 129 [] = some (setV 0) := by kernel_rfl
set_option maxRecDepth 100000 in
set_option maxHeartbeats 1000000 in
theorem next_none {l : List Nd} {w : World} {b off bF bA : Nat} (_hP : PlanW w (some ⟨b, off, none⟩) l bF bA) (cap : Nat) (at_ : Nat) (n : Nd) (hn : l[at_]? = some n) (ho : n.op ≠ 2) (_hl : l.length ≤ 64) (hb : b < w.heap.size)
 (hc : w.cell? ⟨b, off + at_ * 4, none⟩ = some (.int .i64 n.op)) :
 Calls Tryz.prog 84 #[.agg (planC (some ⟨b, off, none⟩) l.length cap bF bA), .int .i64 at_] w (SetPost w 0) := by
 have hat : at_ < l.length := lt_of_some hn
 have ho' : (n.op != 2) = true := by simp [ho]
 have hb1 : b < w.heap.size + 1 := by omega
 have hb2 : b < w.heap.size + 1 + 1 := by omega
 have h0 : decide ((at_ : Int) < 0) = false := by simp
 have h1 : decide (l.length ≤ at_) = false := by simp; omega
 clear _hP hn ho
 unfold planC
 go_enter Tryz.func84, Tryz.ntmps84
 go_wp2_with (first
  | (with_reducible refine wpList_alloc_aggN rfl 129 rfl _ zero_set ?_; intro Z HZ; have sZ : Z.size = 16 := by rw [HZ.out, setV_size])
  | (with_reducible refine wpList_load_agg rfl 129 (.tmp 5) rfl _ 0 rfl 129 Z _ 16 (Blk.new' _ _ Z (by simp)) Tryz.underlying129 rfl info_set (by omega) ?_; intro E HE; have sE : E.size = 16 := by (rw [HE.out, ext_all Z 16 sZ]; exact sZ))
  | (with_reducible refine wpList_store_agg rfl 129 (.tmp 4) (.tmp 27) rfl _ 0 E rfl rfl 129 _ ((Blk.new' (w.alloc _) 129 _ (by simp)).alloc _) (by rw [sE]; exact info_set) (by omega) (by rw [HE.out, ext_all Z 16 sZ, HZ.out]; exact ones_setV _) ?_; intro w3 H3 hs3))
 obtain ⟨h3, c3⟩ := H3.out
 rw [splice_all (by omega)] at h3
 have KE : ∀ (Y : Array Value), Ext w (((w.alloc (.cells #[.slice (some ⟨b, off, none⟩) l.length cap, .slice (some ⟨bF, 0, none⟩) l.length l.length, .slice (some ⟨bA, 0, none⟩) l.length l.length] 126)).alloc (.cells Y 129)).alloc (.cells Z 129)) := fun Y => (((Below.refl w.heap.size w).alloc (Nat.le_refl _) _).alloc (by simp) _).alloc (by simp; omega) _
 exact bodyPost_ret (v := .agg E) (results_cell_agg Tryz.results84 _ w3 _ _ E _ rfl h3 Tryz.underlying129 rfl (by rw [sE]; exact info_set)) rfl ⟨E, rfl, by rw [HE.out, ext_all Z 16 sZ, HZ.out],
  ((Chg.of_ext (S := (· = w.heap.size + 1)) (KE _)).trans c3).below (Nat.le_refl _) (fun k hk => by omega)⟩
def NextRel (l : List Nd) (w : World) (n0 at_ : Nat) (pc : Array Value) (g : Nat) (v6 v7 : Value) (wr : World) : Prop :=
 ∃ part out : Nat, part < l.length ∧ g = l.length - part ∧ v6 = .int .i64 part ∧ v7 = .int .i64 (up l l.length part) ∧ Climb l at_ part out ∧ out < 18446744073709551616 ∧
   Blk wr (n0 + 1 + 1) 129 (setV out) ∧ Blk wr (n0 + 1) 129 (setV 0) ∧ Blk wr n0 126 pc ∧ Ext w wr
set_option maxRecDepth 100000 in
set_option maxHeartbeats 1000000 in
theorem next_sym {l : List Nd} (F : Rx.Form l) {w : World} {b off bF bA : Nat} (hP : PlanW w (some ⟨b, off, none⟩) l bF bA) (cap : Nat) (at_ : Nat) (n : Nd) (hn : l[at_]? = some n) (ho : n.op = 2) (hl : l.length ≤ 64) (hb : b < w.heap.size)
 (hc : ∀ (i : Nat) (n : Nd), l[i]? = some n → w.cell? ⟨b, off + i * 4, none⟩ = some (.int .i64 n.op) ∧ w.cell? ⟨b, off + i * 4 + 1, none⟩ = some (.string n.sym) ∧ w.cell? ⟨b, off + i * 4 + 2, none⟩ = some (.int .i64 n.a) ∧ w.cell? ⟨b, off + i * 4 + 3, none⟩ = some (.int .i64 n.b)) :
 Calls Tryz.prog 84 #[.agg (planC (some ⟨b, off, none⟩) l.length cap bF bA), .int .i64 at_] w (SetPost w (nextM l at_)) := by
 have hat : at_ < l.length := lt_of_some hn
 have ho' : (n.op != 2) = false := by simp [ho]
 have hc0 := (hc at_ n hn).1
 have hb1 : b < w.heap.size + 1 := by omega
 have hb2 : b < w.heap.size + 1 + 1 := by omega
 have h0 : decide ((at_ : Int) < 0) = false := by simp
 have h1 : decide (l.length ≤ at_) = false := by simp; omega
 have hA0 := hP.above.lt
 have hA1 : bA < w.heap.size + 1 := by omega
 have hA2 : bA < w.heap.size + 1 + 1 := by omega
 have hA : w.cell? ⟨bA, at_, none⟩ = some (.int .i64 (up l l.length at_)) := hP.above.cell (aboveV_get hat)
 have HC := hid hc
 have HP := hid hP
 have C0 := hid (Climb.start hn ho)
 clear hP hn ho hc
 unfold planC
 go_enter Tryz.func84, Tryz.ntmps84
 go_wp2_with (first
  | (with_reducible refine wpList_alloc_aggD rfl 129 rfl 4 rfl _ zero_set ?_; intro Y HY)
  | (with_reducible refine wpList_alloc_aggD rfl 129 rfl 5 rfl _ zero_set ?_; intro Z HZ; have sZ : Z.size = 16 := by rw [HZ.out, setV_size]))
 go_quiet (fail)
 go_wp2_with fail
 have B0 : ∀ (Y : Array Value), Blk (((w.alloc (.cells #[.slice (some ⟨b, off, none⟩) l.length cap, .slice (some ⟨bF, 0, none⟩) l.length l.length, .slice (some ⟨bA, 0, none⟩) l.length l.length] 126)).alloc (.cells Y 129)).alloc (.cells Z 129)) w.heap.size 126 #[.slice (some ⟨b, off, none⟩) l.length cap, .slice (some ⟨bF, 0, none⟩) l.length l.length, .slice (some ⟨bA, 0, none⟩) l.length l.length] := fun Y => ((Blk.new w _ _).alloc _).alloc _
 go_loopg [6, 7] (l.length - at_) (fun g v6 v7 wr => NextRel l w w.heap.size at_ #[.slice (some ⟨b, off, none⟩) l.length cap, .slice (some ⟨bF, 0, none⟩) l.length l.length, .slice (some ⟨bA, 0, none⟩) l.length l.length] g v6 v7 wr)
 case atStart =>
  have KE : ∀ (Y : Array Value), Ext w (((w.alloc (.cells #[.slice (some ⟨b, off, none⟩) l.length cap, .slice (some ⟨bF, 0, none⟩) l.length l.length, .slice (some ⟨bA, 0, none⟩) l.length l.length] 126)).alloc (.cells Y 129)).alloc (.cells Z 129)) := fun Y => (((Below.refl w.heap.size w).alloc (Nat.le_refl _) _).alloc (by simp) _).alloc (by simp; omega) _
  exact ⟨at_, 0, hat, rfl, rfl, rfl, C0.out, by omega, by rw [← HZ.out]; exact (Blk.new' ((w.alloc _).alloc (.cells Y 129)) _ Z (by simp)).drewN _, by rw [← HY.out]; exact ((Blk.new' (w.alloc _) _ Y (by simp)).alloc _).drewN _, (B0 Y).drewN _, ext_drewN (KE Y) _⟩
 case round =>
  obtain ⟨part, out, hpart, rfl, rfl, h7, hCl, hout, hB2, hB1, hB0, hE⟩ := hrel
  have p0 := hB0.cell (i := 0) rfl
  have p1 := hB0.cell (i := 1) rfl
  have p2 := hB0.cell (i := 2) rfl
  have hs2 := hB2.lt
  obtain ⟨D, HD, hBD⟩ : ∃ D, Hid (D = setV out) ∧ Blk wr (w.heap.size + 1 + 1) 129 D := ⟨_, rfl, hB2⟩
  obtain ⟨D0, HD0, hBD0⟩ : ∃ D, Hid (D = setV 0) ∧ Blk wr (w.heap.size + 1) 129 D := ⟨_, rfl, hB1⟩
  have sD : D.size = 16 := by rw [HD.out, setV_size]
  have sD0 : D0.size = 16 := by rw [HD0.out, setV_size]
  have BD := hid hBD
  have BD0 := hid hBD0
  have CL := hid hCl
  have HE := hid hE
  have PW := hid (HP.out.ext hE)
  rcases up_cases F hpart with ⟨hp, hup⟩ | ⟨i, nd, hnd, hk, hlt, hup⟩
  ·rw [hup] at h7
   subst h7
   have HF : Hid (out = nextM l at_) := hid (next_of_climb F (hp ▸ hCl))
   clear hp hup hBD hBD0 hCl hE hB2 hB1 hB0
   go_wp2_with (first
    | (with_reducible refine wpList_load_agg rfl 129 (.tmp 5) rfl _ 0 rfl 129 D _ 16 BD.out Tryz.underlying129 rfl info_set (by omega) ?_; intro E HE1; have sE : E.size = 16 := by (rw [HE1.out, ext_all D 16 sD]; exact sD))
    | (with_reducible refine wpList_store_agg rfl 129 (.tmp 4) (.tmp 91) rfl _ 0 E rfl rfl 129 D0 BD0.out (by rw [sE]; exact info_set) (by omega) (by rw [HE1.out, ext_all D 16 sD, HD.out]; exact ones_setV _) ?_; intro w3 H3 hs3))
   obtain ⟨h3, c3⟩ := H3.out
   rw [splice_all (by omega)] at h3
   exact bodyPost_ret (v := .agg E) (results_cell_agg Tryz.results84 _ w3 _ _ E _ rfl h3 Tryz.underlying129 rfl (by rw [sE]; exact info_set)) rfl ⟨E, rfl, by rw [HE1.out, ext_all D 16 sD, HD.out, HF.out],
    ((Chg.of_ext (S := (· = w.heap.size + 1)) HE.out).trans c3).below (Nat.le_refl _) (fun k hk => by omega)⟩
  ·rw [hup] at h7
   subst h7
   obtain ⟨q0, q1, q2, q3⟩ := HC.out i nd hnd
   have hi : i < l.length := lt_of_some hnd
   have e0 : wr.cell? ⟨b, off + i * 4, none⟩ = some (.int .i64 nd.op) := (hE.cell (p := ⟨b, off + i * 4, none⟩) hb).trans q0
   have e1 : wr.cell? ⟨b, off + i * 4 + 1, none⟩ = some (.string nd.sym) := (hE.cell (p := ⟨b, off + i * 4 + 1, none⟩) hb).trans q1
   have e2 : wr.cell? ⟨b, off + i * 4 + 2, none⟩ = some (.int .i64 nd.a) := (hE.cell (p := ⟨b, off + i * 4 + 2, none⟩) hb).trans q2
   have e3 : wr.cell? ⟨b, off + i * 4 + 3, none⟩ = some (.int .i64 nd.b) := (hE.cell (p := ⟨b, off + i * 4 + 3, none⟩) hb).trans q3
   have hbr : b < wr.heap.size := Nat.lt_of_lt_of_le hb hE.size
   have hbF : bF < wr.heap.size := PW.out.facts.lt
   have hbF2 : bF < w.heap.size := HP.out.facts.lt
   have hbA : bA < wr.heap.size := PW.out.above.lt
   have hs1 : w.heap.size + 1 < wr.heap.size := by omega
   have hs0 : w.heap.size < wr.heap.size := by omega
   have a0 : wr.cell? ⟨bA, i, none⟩ = some (.int .i64 (up l l.length i)) := PW.out.above.cell (aboveV_get hi)
   have v0 : wr.cell? ⟨bF, i * 34, none⟩ = some (.bool (!aliveT (tr l i))) := by
    have := PW.out.fact (i := i) (j := 0) hi (by omega)
    rwa [factV_void, fact_void] at this
   have HND := hid hnd
   have HB0 := hid hB0
   clear q0 q1 q2 q3 hup hBD hBD0 hE hB2 hB1 hB0 hnd HC
   cases hv : aliveT (tr l i) with
   | false =>
     rw [hv] at v0
     have HF : Hid (0 = nextM l at_) := hid (dead_next F hCl.inn HND.out hk hv)
     clear hv hk hCl
     go_wp2_with (first
      | (refine wpList_build_agg rfl 129 #[] rfl [] ?_ (setV 0) ?_ ?_
         ·rfl
         ·exact built_set
         intro C HC)
      | (with_reducible refine wpList_store_agg rfl 129 (.tmp 4) (.tmp 54) rfl _ 0 C rfl rfl 129 D0 (Blk.alloc BD0.out _) (by rw [HC.out, setV_size]; exact info_set) (by rw [HC.out, setV_size]; omega) (by rw [HC.out]; exact ones_setV _) ?_; intro w3 H3 hs3))
     obtain ⟨h3, c3⟩ := H3.out
     rw [splice_all (by rw [HC.out, setV_size]; omega)] at h3
     refine bodyPost_ret (v := .agg C) (results_cell_agg Tryz.results84 _ w3 _ _ C _ rfl h3 Tryz.underlying129 rfl (by rw [HC.out, setV_size]; exact info_set)) rfl ⟨C, rfl, by rw [HC.out, HF.out], ?_⟩
     exact (((Chg.of_ext (S := (· = w.heap.size + 1)) HE.out).alloc _).trans c3).below (Nat.le_refl _) (fun k hk => by omega)
   | true =>
     rw [hv] at v0
     obtain ⟨f1, f2⟩ := fact64 F hl hpart
     have hlast := PW.out.fact (i := part) (j := 18) hpart (by omega)
     rw [factV_last _ (i := 0) (by omega)] at hlast
     have hbit := fact_last (tr l part) at_
     have HU := hid (climb_up F CL.out HND.out hk hv)
     have HB1 : ∀ v, endsT (tr l part) at_ = v → Hid (∀ w' : World, Ext wr w' → Calls Tryz.prog 88 #[.pointer (some ⟨bF, part * 34 + 18, none⟩), .int .i64 at_] w' fun e w'' => e = .returned (.bool v) ∧ w' = w'') := fun v hv' => hid fun w' ex => by
      rw [← hv', ← hbit]
      exact has_any bF (part * 34 + 18) _ at_ w' f2 (by omega) ((ex.cell (p := ⟨bF, part * 34 + 18, none⟩) hbF).trans hlast)
     clear hbit hlast hv hCl
     cases he : endsT (tr l part) at_ with
     | false =>
       have HB := HB1 _ he
       have HE1 := hid he
       clear HB1 he hk
       go_wp2_with (first | (go_at_call 88; refine (HB.out _ ((Below.refl _ _).alloc (Nat.le_refl _) _)).mono ?_; rintro e w' ⟨rfl, rfl⟩))
       go_quiet (fail)
       go_wp2_with fail
       go_roundg (l.length - i)
       case measure => omega
       case rel => exact ⟨i, out, hi, rfl, rfl, rfl, HU.out.1 HE1.out, hout, by rw [← HD.out]; exact (BD.out.alloc _).drewN _, by rw [← HD0.out]; exact (BD0.out.alloc _).drewN _, (HB0.out.alloc _).drewN _, ext_drewN (HE.out.alloc HE.out.size _) _⟩
     | true =>
       have HB := HB1 _ he
       have HV := hid (HU.out.2 he)
       clear HB1 he hk HU
       by_cases ho3 : nd.op = 3
       ·have t3 : (nd.op == 3) = true := by simp [ho3]
        have t5 : (nd.op == 5) = false := by simp [ho3]
        by_cases hap : nd.a = part
        ·obtain ⟨y, hy, hyi, hCy⟩ := HV.out.1 ho3 hap
         have ta : (nd.a == (part : Int)) = true := by simp [hap]
         rw [hy] at e3
         have hyl : y < l.length := by omega
         obtain ⟨g1, g2⟩ := fact64 F hl hyl
         have HCy := hid hCy
         clear ho3 hap hy hCy HV
         go_wp2_with (first | (go_at_call 88; refine (HB.out _ ((Below.refl _ _).alloc (Nat.le_refl _) _)).mono ?_; rintro e w' ⟨rfl, rfl⟩))
         refine (join_any (w.heap.size + 1 + 1) 0 out bF (y * 34 + 2) (factT (tr l y)).first 129 D _ hout g1 (by omega) (BD.out.alloc _) (fun j hj => by rw [HD.out, Nat.zero_add]; exact setV_get hj) (fun j hj => by
          have h2 := PW.out.fact (i := y) (j := 2 + j) hyl (by omega)
          rw [factV_first _ hj, ← Nat.add_assoc] at h2
          exact (((Below.refl _ _).alloc (Nat.le_refl _) _).cell (p := ⟨bF, y * 34 + 2 + j, none⟩) hbF).trans h2)).mono ?_
         rintro e w2 ⟨rfl, k1, kc⟩
         rw [HD.out, setV_put] at k1
         have k2 : ∀ (b' o : Nat), b' < wr.heap.size → b' ≠ w.heap.size + 1 + 1 → w2.cell? ⟨b', o, none⟩ = wr.cell? ⟨b', o, none⟩ := fun b' o g1 g2 =>
          (cell_of_chg (a := ⟨b', o, none⟩) kc (by simp; omega) g2).trans (((Below.refl _ _).alloc (Nat.le_refl _) _).cell (p := ⟨b', o, none⟩) g1)
         have m0 := (k2 w.heap.size 0 hs0 (by omega)).trans p0
         have m1 := (k2 w.heap.size 1 hs0 (by omega)).trans p1
         have m2 := (k2 w.heap.size 2 hs0 (by omega)).trans p2
         have ma := (k2 bA i hbA (by omega)).trans a0
         have K1 := hid k1
         have KC := hid kc
         clear k1 kc k2
         go_wp2_with fail
         go_quiet (fail)
         go_wp2_with fail
         go_roundg (l.length - i)
         case measure => omega
         case rel => exact ⟨i, _, hi, rfl, rfl, rfl, HCy.out, or64 hout g1, K1.out.drewN _, by rw [← HD0.out]; exact ((BD0.out.alloc _).chg KC.out (by show ¬ _ = _; omega)).drewN _, ((HB0.out.alloc _).chg KC.out (by show ¬ _ = _; omega)).drewN _,
          ext_drewN ((((Chg.of_ext (S := (· = w.heap.size + 1 + 1)) HE.out).alloc _).trans KC.out).below (Nat.le_refl _) (fun k hk => by omega)) _⟩
        ·have ta : (nd.a == (part : Int)) = false := by simp [hap]
         have HCy := hid (HV.out.2.1 ho3 hap)
         clear ho3 hap HV
         go_wp2_with (first | (go_at_call 88; refine (HB.out _ ((Below.refl _ _).alloc (Nat.le_refl _) _)).mono ?_; rintro e w' ⟨rfl, rfl⟩))
         go_quiet (fail)
         go_wp2_with fail
         go_roundg (l.length - i)
         case measure => omega
         case rel => exact ⟨i, out, hi, rfl, rfl, rfl, HCy.out, hout, by rw [← HD.out]; exact (BD.out.alloc _).drewN _, by rw [← HD0.out]; exact (BD0.out.alloc _).drewN _, (HB0.out.alloc _).drewN _, ext_drewN (HE.out.alloc HE.out.size _) _⟩
       ·have t3 : (nd.op == 3) = false := by simp [ho3]
        by_cases ho5 : nd.op = 5
        ·have t5 : (nd.op == 5) = true := by simp [ho5]
         have HCy := hid (HV.out.2.2.1 ho5)
         clear ho3 ho5 HV
         go_wp2_with (first | (go_at_call 88; refine (HB.out _ ((Below.refl _ _).alloc (Nat.le_refl _) _)).mono ?_; rintro e w' ⟨rfl, rfl⟩))
         refine (join_any (w.heap.size + 1 + 1) 0 out bF (part * 34 + 2) (factT (tr l part)).first 129 D _ hout f1 (by omega) (BD.out.alloc _) (fun j hj => by rw [HD.out, Nat.zero_add]; exact setV_get hj) (fun j hj => by
          have h2 := PW.out.fact (i := part) (j := 2 + j) hpart (by omega)
          rw [factV_first _ hj, ← Nat.add_assoc] at h2
          exact (((Below.refl _ _).alloc (Nat.le_refl _) _).cell (p := ⟨bF, part * 34 + 2 + j, none⟩) hbF).trans h2)).mono ?_
         rintro e w2 ⟨rfl, k1, kc⟩
         rw [HD.out, setV_put] at k1
         have k2 : ∀ (b' o : Nat), b' < wr.heap.size → b' ≠ w.heap.size + 1 + 1 → w2.cell? ⟨b', o, none⟩ = wr.cell? ⟨b', o, none⟩ := fun b' o g1 g2 =>
          (cell_of_chg (a := ⟨b', o, none⟩) kc (by simp; omega) g2).trans (((Below.refl _ _).alloc (Nat.le_refl _) _).cell (p := ⟨b', o, none⟩) g1)
         have m0 := (k2 w.heap.size 0 hs0 (by omega)).trans p0
         have m1 := (k2 w.heap.size 1 hs0 (by omega)).trans p1
         have m2 := (k2 w.heap.size 2 hs0 (by omega)).trans p2
         have ma := (k2 bA i hbA (by omega)).trans a0
         have K1 := hid k1
         have KC := hid kc
         clear k1 kc k2
         go_wp2_with fail
         go_quiet (fail)
         go_wp2_with fail
         go_roundg (l.length - i)
         case measure => omega
         case rel => exact ⟨i, _, hi, rfl, rfl, rfl, HCy.out, or64 hout f1, K1.out.drewN _, by rw [← HD0.out]; exact ((BD0.out.alloc _).chg KC.out (by show ¬ _ = _; omega)).drewN _, ((HB0.out.alloc _).chg KC.out (by show ¬ _ = _; omega)).drewN _,
          ext_drewN ((((Chg.of_ext (S := (· = w.heap.size + 1 + 1)) HE.out).alloc _).trans KC.out).below (Nat.le_refl _) (fun k hk => by omega)) _⟩
        ·have t5 : (nd.op == 5) = false := by simp [ho5]
         have HCy := hid (HV.out.2.2.2 ho3 ho5)
         clear ho3 ho5 HV
         go_wp2_with (first | (go_at_call 88; refine (HB.out _ ((Below.refl _ _).alloc (Nat.le_refl _) _)).mono ?_; rintro e w' ⟨rfl, rfl⟩))
         go_quiet (fail)
         go_wp2_with fail
         go_roundg (l.length - i)
         case measure => omega
         case rel => exact ⟨i, out, hi, rfl, rfl, rfl, HCy.out, hout, by rw [← HD.out]; exact (BD.out.alloc _).drewN _, by rw [← HD0.out]; exact (BD0.out.alloc _).drewN _, (HB0.out.alloc _).drewN _, ext_drewN (HE.out.alloc HE.out.size _) _⟩
theorem next_any {l : List Nd} (F : Rx.Form l) {w : World} {ao : Option Addr} {bF bA : Nat} (hP : PlanW w ao l bF bA) (cap : Nat) (at_ : Nat) (hat : at_ < l.length) (hl : l.length ≤ 64) :
 Calls Tryz.prog 84 #[.agg (planC ao l.length cap bF bA), .int .i64 at_] w (SetPost w (nextM l at_)) := by
 obtain ⟨b, off, rfl, hb, hc⟩ := hP.nodes.cells (by omega)
 have hn : l[at_]? = some l[at_] := List.getElem?_eq_getElem hat
 by_cases ho : l[at_].op = 2
 ·exact next_sym F hP cap at_ _ hn ho hl hb hc
 ·have := next_none hP cap at_ _ hn ho hl hb (hc _ _ hn).1
  rwa [next_of_none F (p := at_) (fun n h => by rw [hn] at h; cases h; exact ho)] at this
end Go.Proofs.YtngpjagpeblbjaaGreatDoor
namespace Go.Proofs.YtngpjagpeblbjaaGreatDoor
open Go.RowKit Go.Spy Go.Rx
set_option maxHeartbeats 400000 in
theorem part_no (at_ : Int) (bi i : Nat) (pu : Value) (w : World) (hi : w.cell? ⟨bi, 0, none⟩ = some (.int .i64 i)) (h : inR i at_ = false) :
 Calls Tryz.prog 136 #[.int .i64 at_, .pointer (some ⟨bi, 0, none⟩), pu] w fun e w' => e = .returned (.bool false) ∧ w = w' := by
 have hh : at_ < 0 ∨ (0 ≤ at_ ∧ (i : Int) ≤ at_) := by
  rcases Int.lt_or_le at_ 0 with h1 | h1
  ·exact .inl h1
  ·refine .inr ⟨h1, ?_⟩
   simp [inR, h1] at h; exact h
 clear h
 rcases hh with h | ⟨h1, h2⟩
 ·have t : decide (at_ < 0) = true := by simp [h]
  go_enter Tryz.func136, Tryz.ntmps136
  go_wp2
  go_ret
  exact ⟨rfl, rfl⟩
 ·have t : decide (at_ < 0) = false := by simp; omega
  have t2 : decide ((i : Int) ≤ at_) = true := by simp [h2]
  go_enter Tryz.func136, Tryz.ntmps136
  go_wp2
  go_ret
  exact ⟨rfl, rfl⟩
set_option maxHeartbeats 400000 in
theorem part_yes (a bi i bu bU n c : Nat) (t : TypeId) (vs : Array Value) (w : World) (hi : w.cell? ⟨bi, 0, none⟩ = some (.int .i64 i)) (hu : w.cell? ⟨bu, 0, none⟩ = some (.slice (some ⟨bU, 0, none⟩) n n))
 (ha : a < i) (hn : i ≤ n) (_hN : n ≤ 1024) (hB : Blk w bU t vs) (hc : vs[a]? = some (.int .i64 c)) (hC : c ≤ 1000000) :
 Calls Tryz.prog 136 #[.int .i64 a, .pointer (some ⟨bi, 0, none⟩), .pointer (some ⟨bu, 0, none⟩)] w fun e w' =>
  e = .returned (.bool true) ∧ Blk w' bU t (vs.setIfInBounds a (.int .i64 (c + 1 : Nat))) ∧ Chg (· = bU) w w' := by
 have t1 : decide ((a : Int) < 0) = false := by simp
 have t2 : decide (i ≤ a) = false := by simp; omega
 have han : a < n := by omega
 have k1 := hB.cell hc
 have k2 := hB.frozen a
 have HB := hid hB
 clear hB hc
 go_enter Tryz.func136, Tryz.ntmps136
 go_wp2
 go_ret
 exact ⟨rfl, HB.out.set a _, Chg.setCell (S := (· = bU)) (Chg.refl _ w) rfl _⟩
theorem part_yes' (at_ : Int) (a : Nat) (hat : at_ = a) (bi i bu bU n c : Nat) (t : TypeId) (vs : Array Value) (w : World) (hi : w.cell? ⟨bi, 0, none⟩ = some (.int .i64 i)) (hu : w.cell? ⟨bu, 0, none⟩ = some (.slice (some ⟨bU, 0, none⟩) n n))
 (ha : a < i) (hn : i ≤ n) (hN : n ≤ 1024) (hB : Blk w bU t vs) (hc : vs[a]? = some (.int .i64 c)) (hC : c ≤ 1000000) :
 Calls Tryz.prog 136 #[.int .i64 at_, .pointer (some ⟨bi, 0, none⟩), .pointer (some ⟨bu, 0, none⟩)] w fun e w' =>
  e = .returned (.bool true) ∧ Blk w' bU t (vs.setIfInBounds a (.int .i64 (c + 1 : Nat))) ∧ Chg (· = bU) w w' := by
 subst hat
 exact part_yes a bi i bu bU n c t vs w hi hu ha hn hN hB hc hC
end Go.Proofs.YtngpjagpeblbjaaGreatDoor
