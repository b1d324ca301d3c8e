/-
  Sets of places and facts as rows of cells; walk of either: what is known of one of two nodes.
-/
import Derived.Test.YtngpjagpeblbjaaDoorZW8
import Derived.Test.YtngpjagpeblbjaaDoorAA
import Derived.Test.YtngpjagpeblbjaaDoorTT
namespace Go.Proofs.YtngpjagpeblbjaaDoor
open Go.RowKit Go.Spy Go.Rx

/-- The cells of a set of places, of which only the first word is not 0. -/
def setV (m : Nat) : Array Value := ((List.range 16).map fun i => Value.int .u64 (plG m i)).toArray
/-- The cells of a fact. -/
def factV (F : Fact) : Array Value := #[.bool F.void, .bool F.empty] ++ setV F.first ++ setV F.last

theorem setV_size (m : Nat) : (setV m).size = 16 := by simp [setV]
theorem setV_get {m i : Nat} (hi : i < 16) : (setV m)[i]? = some (.int .u64 (plG m i)) := by simp [setV, hi]
theorem factV_size (F : Fact) : (factV F).size = 34 := by simp [factV, setV_size]
theorem factV_void (F : Fact) : (factV F)[0]? = some (.bool F.void) := by kernel_rfl
theorem factV_empty (F : Fact) : (factV F)[1]? = some (.bool F.empty) := by kernel_rfl
theorem factV_first (F : Fact) {i : Nat} (hi : i < 16) : (factV F)[2 + i]? = some (.int .u64 (plG F.first i)) := by
  unfold factV
  rw [Array.getElem?_append_left (by simp [setV_size]; omega), Array.getElem?_append_right (by simp)]
  simpa using setV_get hi
theorem factV_last (F : Fact) {i : Nat} (hi : i < 16) : (factV F)[18 + i]? = some (.int .u64 (plG F.last i)) := by
  unfold factV
  rw [Array.getElem?_append_right (by simp [setV_size])]
  have : 18 + i - (#[Value.bool F.void, Value.bool F.empty] ++ setV F.first).size = i := by simp [setV_size]
  rw [this]
  exact setV_get hi
theorem ones_setV (m : Nat) : Ones (setV m) := ones_mk fun i v h => by
  have hi : i < 16 := by have := (Array.getElem?_eq_some_iff.1 h).1; rwa [setV_size] at this
  rw [setV_get hi] at h; cases h; rfl
theorem ones_factV (F : Fact) : Ones (factV F) := by
  intro v hv
  simp only [factV, Array.mem_append] at hv
  rcases hv with (hv | hv) | hv
  · simp at hv; rcases hv with rfl | rfl <;> rfl
  · exact ones_setV _ v hv
  · exact ones_setV _ v hv
theorem factV_ext_first (F : Fact) : (factV F).extract 2 (2 + 16) = setV F.first := by
  apply Array.ext_getElem?
  intro i
  by_cases hi : i < 16
  · rw [Array.getElem?_extract_of_lt (by rw [factV_size]; omega), setV_get hi, ← factV_first F hi]; exact (Array.getElem?_eq_getElem _).symm
  · rw [Array.getElem?_eq_none (by simp; omega), Array.getElem?_eq_none (by rw [setV_size]; omega)]
theorem factV_ext_last (F : Fact) : (factV F).extract 18 (18 + 16) = setV F.last := by
  apply Array.ext_getElem?
  intro i
  by_cases hi : i < 16
  · rw [Array.getElem?_extract_of_lt (by rw [factV_size]; omega), setV_get hi, ← factV_last F hi]; exact (Array.getElem?_eq_getElem _).symm
  · rw [Array.getElem?_eq_none (by simp [factV_size]; omega), Array.getElem?_eq_none (by rw [setV_size]; omega)]
theorem ext_all (A : Array Value) (n : Nat) (h : A.size = n) : A.extract 0 (0 + n) = A := by subst h; simp
theorem setV_put (m m' : Nat) : (setV m).setIfInBounds 0 (.int .u64 (m' : Nat)) = setV m' := by kernel_rfl
theorem factV_put_first (F : Fact) (m : Nat) : (factV F).setIfInBounds 2 (.int .u64 (m : Nat)) = factV { F with first := m } := by kernel_rfl
theorem factV_put_last (F : Fact) (m : Nat) : (factV F).setIfInBounds 18 (.int .u64 (m : Nat)) = factV { F with last := m } := by kernel_rfl

theorem info_fact : (Tryd.prog.info? 60).map (·.size) = some 34 := by kernel_rfl
theorem zero_fact : (Tryd.prog.info? 60).map (·.zero) = some (some (.agg (factV ⟨false, false, 0, 0⟩))) := by kernel_rfl
theorem info_set : (Tryd.prog.info? 58).map (·.size) = some 16 := by kernel_rfl
theorem zero_set : (Tryd.prog.info? 58).map (·.zero) = some (some (.agg (setV 0))) := by kernel_rfl
theorem built_both (e : Bool) (m n : Nat) : Tryd.prog.built 60 [(1, .bool e), (2, .agg (setV m)), (3, .agg (setV n))] = some (factV ⟨false, e, m, n⟩) := by kernel_rfl
theorem built_void : Tryd.prog.built 60 [(0, .bool true)] = some (factV ⟨true, false, 0, 0⟩) := by kernel_rfl
theorem built_either (v e : Bool) (m n : Nat) : Tryd.prog.built 60 [(0, .bool v), (1, .bool e), (2, .agg (setV m)), (3, .agg (setV n))] = some (factV ⟨v, e, m, n⟩) := by kernel_rfl




def FactPost (w : World) (F : Fact) (e : Ending) (w' : World) : Prop := ∃ C, e = .returned (.agg C) ∧ C = factV F ∧ Ext w w'

set_option maxRecDepth 100000 in
set_option maxHeartbeats 400000 in
theorem either_any (A B : Array Value) (fv fe gv ge : Bool) (ff fl gf gl : Nat) (w : World) (hA : A = factV ⟨fv, fe, ff, fl⟩) (hB : B = factV ⟨gv, ge, gf, gl⟩) (f1 : ff < 18446744073709551616) (f2 : fl < 18446744073709551616) (g1 : gf < 18446744073709551616) (g2 : gl < 18446744073709551616) :
    Calls Tryd.prog 46 #[.agg A, .agg B] w (FactPost w ⟨fv && gv, fe || ge, ff ||| gf, fl ||| gl⟩) := by
  have sA : A.size = 34 := by rw [hA, factV_size]
  have sB : B.size = 34 := by rw [hB, factV_size]
  have a0 : A[0]'(by omega) = .bool fv := get_of (by rw [hA, factV_void])
  have a1 : A[1]'(by omega) = .bool fe := get_of (by rw [hA, factV_empty])
  have b0 : B[0]'(by omega) = .bool gv := get_of (by rw [hB, factV_void])
  have b1 : B[1]'(by omega) = .bool ge := get_of (by rw [hB, factV_empty])
  have HA := hid hA
  have HB := hid hB
  clear hA hB
  obtain ⟨vv, Hvv⟩ : ∃ v, Hid (v = (fv && gv)) := ⟨_, rfl⟩
  obtain ⟨ee, Hee⟩ : ∃ v, Hid (v = (fe || ge)) := ⟨_, rfl⟩
  cases fv <;> cases fe
  all_goals
    go_enter Tryd.func46, Tryd.ntmps46
    go_wp2_with (first
        | (with_reducible refine wpList_alloc_aggN rfl 60 rfl _ zero_fact ?_; intro Z HZ; have sZ : Z.size = 34 := by rw [HZ.out, factV_size])
        | (with_reducible refine wpList_load_agg rfl 58 (.tmp 18) rfl w.heap.size 2 rfl 60 A _ 16 (((Blk.new w 60 A).alloc _).alloc _) Tryd.underlying58 rfl info_set (by omega) ?_; intro C1 HC1)
        | (with_reducible refine wpList_load_agg rfl 58 (.tmp 20) rfl w.heap.size 18 rfl 60 A _ 16 (((Blk.new w 60 A).alloc _).alloc _) Tryd.underlying58 rfl info_set (by omega) ?_; intro C2 HC2)
        | (refine wpList_build_agg rfl 60 #[(0, .tmp 11), (1, .tmp 17), (2, .tmp 19), (3, .tmp 21)] rfl [(0, .bool (vv)), (1, .bool (ee)), (2, .agg C1), (3, .agg C2)] ?_ (factV ⟨vv, ee, ff, fl⟩) ?_ ?_
           · rw [Hvv.out, Hee.out]; rfl
           · rw [show C1 = setV ff by rw [HC1.out, HA.out, factV_ext_first], show C2 = setV fl by rw [HC2.out, HA.out, factV_ext_last]]
             exact built_either _ _ _ _
           intro C HC)
        | (with_reducible refine wpList_store_last rfl 60 (.tmp 5) (.tmp 22) rfl _ C rfl rfl _ _ rfl (by rw [HC.out, factV_size]; exact info_fact) (by rw [HC.out, HZ.out, factV_size, factV_size]) (by rw [HC.out]; exact ones_factV _) ?_))
    have HBk : Hid (∀ Y : Array Value, Blk (((((w.alloc (.cells A 60)).alloc (.cells B 60))).alloc (.cells Y 60)).alloc (.cells C 60)) (w.heap.size + 1) 60 B) := hid fun Y => ((Blk.new' (w.alloc _) _ B (by simp)).alloc _).alloc _
    have HCk : Hid (∀ Y : Array Value, Blk (((((w.alloc (.cells A 60)).alloc (.cells B 60))).alloc (.cells Y 60)).alloc (.cells C 60)) (w.heap.size + 1 + 1 + 1) 60 C) := hid fun Y => Blk.new' _ _ C (by simp)
    refine (join_any (w.heap.size + 1 + 1 + 1) 2 ff (w.heap.size + 1) 2 gf 60 C _ f1 g1 (by omega) (HCk.out _) (fun i hi => by rw [HC.out]; exact factV_first _ hi) (fun i hi => (HBk.out _).cell (by rw [HB.out]; exact factV_first _ hi))).mono ?_
    rintro e w1 ⟨rfl, k1, k2⟩
    have K1 := hid k1
    have K2 := hid k2
    clear k1 k2
    go_wp2_with fail
    have b1k : Blk w1 (w.heap.size + 1) 60 B := (HBk.out _).chg K2.out (by show ¬ _ = _; omega)
    refine (join_any (w.heap.size + 1 + 1 + 1) 18 fl (w.heap.size + 1) 18 gl 60 (factV ⟨vv, ee, ff ||| gf, fl⟩) _ f2 g2 (by omega) (by have := K1.out; rwa [HC.out, factV_put_first] at this) (fun i hi => factV_last _ hi) (fun i hi => b1k.cell (by rw [HB.out]; exact factV_last _ hi))).mono ?_
    rintro e w2 ⟨rfl, k3, k4⟩
    rw [factV_put_last] at k3
    obtain ⟨D, HD⟩ : ∃ D, Hid (D = factV ⟨vv, ee, ff ||| gf, fl ||| gl⟩) := ⟨_, rfl⟩
    have K3 : Hid (Blk w2 (w.heap.size + 1 + 1 + 1) 60 D) := hid (by rw [HD.out]; exact k3)
    have sD : D.size = 34 := by rw [HD.out, factV_size]
    have KC : Chg (· = w.heap.size + 1 + 1 + 1) _ w2 := K2.out.trans k4
    have KE : Hid (Ext w w2) := hid (Chg.below ((((((Chg.refl (· = w.heap.size + 1 + 1 + 1) w).alloc _).alloc _).alloc _).alloc _).trans KC) (Nat.le_refl _) (fun k hk => by omega))
    obtain ⟨Y, sY, kY⟩ : ∃ Y : Array Value, Y.size = 34 ∧ Blk w2 (w.heap.size + 1 + 1) 60 Y := ⟨_, (by assumption), ((Blk.new' _ _ _ (by simp)).alloc _).chg KC (by show ¬ _ = _; omega)⟩
    have KY := hid kY
    clear k3 k4 KC kY b1k
    go_wp2_with (first
      | (with_reducible refine wpList_load_agg rfl 60 (.tmp 5) rfl _ 0 rfl 60 D _ 34 K3.out Tryd.underlying60 rfl info_fact (by omega) ?_; intro E HE; have sE : E.size = 34 := by (rw [HE.out, ext_all D 34 sD]; exact sD))
      | (with_reducible refine wpList_store_agg rfl 60 (.tmp 4) (.tmp 29) rfl _ 0 E rfl rfl 60 Y KY.out (by rw [sE]; exact info_fact) (by omega) (by rw [HE.out, ext_all D 34 sD, HD.out]; exact ones_factV _) ?_; intro w3 H3 hs3))
    obtain ⟨h3, c3⟩ := H3.out
    rw [splice_all (by omega)] at h3
    exact bodyPost_ret (v := .agg E) (results_cell_agg Tryd.results46 _ w3 _ _ E _ rfl h3 Tryd.underlying60 rfl (by rw [sE]; exact info_fact)) rfl ⟨E, rfl, by rw [HE.out, ext_all D 34 sD, HD.out, Hvv.out, Hee.out],
      ((Chg.of_ext (S := (· = w.heap.size + 1 + 1)) KE.out).trans c3).below (Nat.le_refl _) (fun k hk => by omega)⟩

end Go.Proofs.YtngpjagpeblbjaaDoor
