/-
  Walk of plan where there is none, of Nullable, and of what Match and Symbols answer where there is no plan.
-/
import Derived.Test.YtngpjagpeblbjaaDoorZW23
namespace Go.Proofs.YtngpjagpeblbjaaDoor
open Go.RowKit Go.Spy Go.Rx

theorem ones_nil3 : Ones #[.slice none 0 0, .slice none 0 0, .slice none 0 0] := by
  refine ones_mk fun j v h => ?_
  match j with
  | 0 => cases h; rfl
  | 1 => cases h; rfl
  | 2 => cases h; rfl
  | n + 3 => cases h

set_option maxRecDepth 100000 in
set_option maxHeartbeats 1000000 in
theorem plan_none {l : List Nd} {w : World} {ao : Option Addr} (hV : NodesV w ao l) (cap : Nat) (hno : ¬ (l.length ≤ 1024 ∧ Rx.Form l ∧ NamesOk l)) :
    Calls Tryd.prog 23 #[.agg #[.slice ao l.length cap]] w fun e w' => e = .returned (.tuple #[.agg #[.slice none 0 0, .slice none 0 0, .slice none 0 0], .bool false]) ∧ Ext w w' := by
  have HV := hid hV
  have HNO := hid hno
  clear hV hno
  go_enter Tryd.func23, Tryd.ntmps23
  go_wp2_with fail
  have hE0 : Ext w ((w.alloc (.cells #[.slice ao l.length cap] 24)).alloc (.cells #[.slice none 0 0, .slice none 0 0, .slice none 0 0] 53)) := ((Below.refl _ w).alloc (Nat.le_refl _) _).alloc (by simp) _
  refine (check_any (HV.out.ext hE0) cap).mono ?_
  rintro e w1 ⟨c, rfl, hC, hx⟩
  have hc0 : c ≠ 0 := fun h => HNO.out ((checkC_zero hC).1 h)
  have t1 : (c == 0) = false := by simpa using hc0
  have HBr2 : Blk w1 (w.heap.size + 1) 53 #[.slice none 0 0, .slice none 0 0, .slice none 0 0] := (Blk.new' (w.alloc _) _ _ (by simp)).ext hx
  have b0 := HBr2.cell (i := 0) rfl
  have b1 := HBr2.cell (i := 1) rfl
  have b2 := HBr2.cell (i := 2) rfl
  have sR := HBr2.lt
  have HB := hid HBr2
  have HE1 : Hid (Ext w w1) := hid (hE0.trans (hx.mono (by simp; omega)))
  have hI : (Tryd.prog.info? 53).map (·.size) = some (#[.slice none 0 0, .slice none 0 0, .slice none 0 0] : Array Value).size := by kernel_rfl
  have HI := hid hI
  clear hC hx hE0 HBr2 hc0 hI
  go_wp2_with (refine wpList_store_agg rfl 53 (.tmp 2) (.tmp 11) rfl (w.heap.size + 1) 0 #[.slice none 0 0, .slice none 0 0, .slice none 0 0] rfl rfl 53 _ (HB.out) HI.out (Nat.le_refl 3) ones_nil3 ?_; intro w4 H4 hs4)
  obtain ⟨h3, c3⟩ := H4.out
  have hz : (#[Value.slice none 0 0, Value.slice none 0 0, Value.slice none 0 0] : Array Value).size = (#[Value.slice none 0 0, Value.slice none 0 0, Value.slice none 0 0] : Array Value).size := rfl
  rw [splice_all hz] at h3
  exact bodyPost_ret (v := .tuple #[.agg #[.slice none 0 0, .slice none 0 0, .slice none 0 0], .bool false]) (results_cell_agg_tmp Tryd.results23 _ w4 (w.heap.size + 1) _ #[.slice none 0 0, .slice none 0 0, .slice none 0 0] _ _ rfl rfl h3 Tryd.underlying53 rfl HI.out) rfl ⟨rfl, HE1.out.trans (c3.below HE1.out.size (fun b e => by omega))⟩

set_option maxRecDepth 100000 in
theorem nullable_none {l : List Nd} {w : World} {ao : Option Addr} (hV : NodesV w ao l) (cap : Nat) (hno : ¬ (l.length ≤ 1024 ∧ Rx.Form l ∧ NamesOk l)) :
    Calls Tryd.prog 11 #[.agg #[.slice ao l.length cap]] w fun e w' => e = .returned (.bool false) ∧ Ext w w' := by
  have HV := hid hV
  have HNO := hid hno
  clear hV hno
  go_enter Tryd.func11, Tryd.ntmps11
  go_wp2_with fail
  have hE0 : Ext w (w.alloc (.cells #[.slice ao l.length cap] 24)) := (Below.refl _ w).alloc (Nat.le_refl _) _
  refine (plan_none (HV.out.ext hE0) cap HNO.out).mono ?_
  rintro e w1 ⟨rfl, hx⟩
  have HX := hid (hE0.trans (hx.mono (by simp)))
  have sx := hx.size
  clear hx hE0
  go_wp2_with fail
  go_ret
  exact ⟨rfl, HX.out.alloc HX.out.size _⟩

set_option maxRecDepth 100000 in
theorem match_none {l : List Nd} {w : World} {ao : Option Addr} (hV : NodesV w ao l) (cap : Nat) (hno : ¬ (l.length ≤ 1024 ∧ Rx.Form l ∧ NamesOk l)) (wo : Option Addr) (n wcap : Nat) :
    Calls Tryd.prog 10 #[.agg #[.slice ao l.length cap], .slice wo n wcap] w fun e w' => e = .returned (.bool false) ∧ Ext w w' := by
  have HV := hid hV
  have HNO := hid hno
  clear hV hno
  go_enter Tryd.func10, Tryd.ntmps10
  go_wp2_with fail
  have hE0 : Ext w ((w.alloc (.cells #[.slice ao l.length cap] 24)).alloc (.cells #[.slice wo n wcap] 25)) := ((Below.refl _ w).alloc (Nat.le_refl _) _).alloc (by simp) _
  refine (plan_none (HV.out.ext hE0) cap HNO.out).mono ?_
  rintro e w1 ⟨rfl, hx⟩
  have HX := hid (hE0.trans (hx.mono (by simp; omega)))
  have sx := hx.size
  clear hx hE0
  go_wp2_with fail
  go_ret
  exact ⟨rfl, HX.out.alloc HX.out.size _⟩

set_option maxRecDepth 100000 in
theorem symbols_none {l : List Nd} {w : World} {ao : Option Addr} (hV : NodesV w ao l) (cap : Nat) (hno : ¬ (l.length ≤ 1024 ∧ Rx.Form l ∧ NamesOk l)) :
    Calls Tryd.prog 12 #[.agg #[.slice ao l.length cap]] w fun e w' => e = .returned (.slice none 0 0) ∧ Ext w w' := by
  have HV := hid hV
  have HNO := hid hno
  clear hV hno
  go_enter Tryd.func12, Tryd.ntmps12
  go_wp2_with fail
  have hE0 : Ext w (w.alloc (.cells #[.slice ao l.length cap] 24)) := (Below.refl _ w).alloc (Nat.le_refl _) _
  refine (check_any (HV.out.ext hE0) cap).mono ?_
  rintro e w1 ⟨c, rfl, hC, hx⟩
  have hc0 : c ≠ 0 := fun h => HNO.out ((checkC_zero hC).1 h)
  have t1 : (c == 0) = false := by simpa using hc0
  have HX := hid (hE0.trans (hx.mono (by simp)))
  have sx := hx.size
  clear hx hE0 hC hc0
  go_wp2_with fail
  go_ret
  exact ⟨rfl, HX.out⟩

end Go.Proofs.YtngpjagpeblbjaaDoor
