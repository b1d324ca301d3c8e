/-
  Walk of Nullable where there is a plan.
-/
import Derived.Test.YtngpjagpeblbjaaDoorZW24
namespace Go.Proofs.YtngpjagpeblbjaaDoor
open Go.RowKit Go.Spy Go.Rx

set_option maxRecDepth 100000 in
theorem nullable_any {l : List Nd} (F : Rx.Form l) {w : World} {ao : Option Addr} (hV : NodesV w ao l) (hN : NamesOk l) (cap : Nat) (hl : l.length ≤ 64) :
    Calls Tryd.prog 11 #[.agg #[.slice ao l.length cap]] w fun e w' => e = .returned (.bool (nullT (tr l (l.length - 1)))) ∧ Ext w w' := by
  have h0 : 0 < l.length := List.length_pos_iff.2 F.ne
  have HV := hid hV
  have HN := hid hN
  have HF := hid F
  clear hV hN F
  go_enter Tryd.func11, Tryd.ntmps11
  go_wp2_with fail
  have hE0 : Ext w (w.alloc (.cells #[.slice ao l.length cap] 24)) := (Below.refl _ w).alloc (Nat.le_refl _) _
  refine (plan_any HF.out (HV.out.ext hE0) HN.out cap hl).mono ?_
  rintro e w1 ⟨bF, bA, rfl, hP, hx, lF, lA⟩
  unfold planC
  have HX := hid (hE0.trans (hx.mono (by simp)))
  have HP := hid hP
  have sx := hx.size
  clear hx hE0 hP
  go_wp2_with fail
  have hE1 : Ext w ((w1.alloc (.cells #[.slice ao l.length cap, .slice (some ⟨bF, 0, none⟩) l.length l.length, .slice (some ⟨bA, 0, none⟩) l.length l.length] 53))) := HX.out.alloc HX.out.size _
  refine (root_any _ ao l.length cap bF bA h0 (by omega)).mono ?_
  rintro e w2 ⟨rfl, hx2⟩
  have HP2 : Hid (PlanW w2 ao l bF bA ) := hid (HP.out.ext (((Below.refl _ w1).alloc (Nat.le_refl _) _).trans (hx2.mono (by simp))))
  have f1 : w2.cell? ⟨bF, (l.length - 1) * 34 + 1, none⟩ = some (.bool (nullT (tr l (l.length - 1)))) := by rw [HP2.out.fact (i := l.length - 1) (j := 1) (by omega) (by decide), factV_empty, fact_empty]
  have HX2 := hid (hE1.trans (hx2.mono (by have := HX.out.size; simp; omega)))
  clear hx2 hE1
  go_wp2_with fail
  go_ret
  exact ⟨rfl, HX2.out⟩

end Go.Proofs.YtngpjagpeblbjaaDoor
