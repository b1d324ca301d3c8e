/-
  QueueParts: whatever three lists of ranks come in, the law answers true and its arguments read behind the call as before; no condition.
-/
import Derived.Test.YtlghkcamnfegdaaN2
import Derived.Test.YtlghkcamnfegdaaG1
namespace Go.Proofs.Ytlghkcamnfegdaa
open Go.ChangeShapes Go.WideShapes Go.ChangeAt Go.RowKit Go.Spy

set_option maxRecDepth 100000 in
theorem parts_lifted (os : Os) (started : os.Started) (H : Type) (enc : TypeId × Value → H) :
    ReturnsInHanded {} Try.checked os 4 .any (Rows.queuePartsSpec.pre6 enc Try.prog Try.f4 Rows.queuePartsRow.domain false) (Rows.queuePartsSpec.post enc Try.prog Try.f4 false true false false) := by
  refine returnsInHanded_of_change (C := Try.checked) ownKnob_none started (by kernel_rfl) Try.func4
    (ChangeSpec.witness6 (enc := enc) (C := Try.checked) false ⟨#[], #[.slice none 0 0, .slice none 0 0, .slice none 0 0], []⟩ 8 (by kernel_rfl) (by kernel_rfl) (by kernel_rfl) (by kernel_rfl)) ?_
  intro W base args ds gs before hval0 hW hcnd _
  have hval : ∀ (j : Nat) t v, Try.f4.params[j]? = some t → args[j]? = some v → Value.okWide Try.prog W .any base t v := hval0
  have hW' := hW
  obtain ⟨p, q, hA0, hV, rfl, hfz, hnd⟩ := hW
  have hA : DataW.TrodAll enc Try.prog W 0 (fun _ => true) true Try.f4.params.toList args.toList ds p := hA0
  rw [Try.params4] at hA hval
  obtain ⟨v0, v1, v2, d0, d1, d2, p0, p1, p2, rfl, rfl, rfl, h0, h1, h2⟩ := trodAll_three hA
  obtain ⟨rfl, rfl⟩ := trodVars_none hV
  clear hA0 hval0
  simp only [List.append_nil] at hW'
  have hlt : ∀ x ∈ p0 ++ p1 ++ p2, x.block < W.heap.size := fun x hx => by simpa using hW'.lt x hx
  obtain ⟨a0, c0, xs, rfl, hX⟩ := ints_arg (hval 0 25 v0 rfl rfl) h0
  obtain ⟨a1, c1, ys, rfl, hY⟩ := ints_arg (hval 1 25 v1 rfl rfl) h1
  obtain ⟨a2, c2, zs, rfl, hZ⟩ := ints_arg (hval 2 25 v2 rfl rfl) h2
  have hC : Calls Try.prog 4 #[.slice a0 xs.length c0, .slice a1 ys.length c1, .slice a2 zs.length c2] W fun e w' => e = .returned (.bool true) ∧ Ext W w' := by
    by_cases hs : 40 < xs.length ∨ 40 < ys.length ∨ 40 < zs.length
    · exact parts_long hs
    · exact parts_any hX hY hZ (by omega) (by omega) (by omega)
  refine hC.mono fun e W' ⟨he, hx⟩ => ?_
  subst he
  exact ⟨_, rfl, _, _, _, [], p0 ++ (p1 ++ p2), [], hW', trodAll_mk1 (shut_bool Try.underlying4 true),
    trodAll_mk3 (Below.trod laidOut (by kernel_rfl) (of_decide_eq_true (by kernel_rfl)) h0 hx (fun x hx => hlt x (by simp [hx]))) (Below.trod laidOut (by kernel_rfl) (of_decide_eq_true (by kernel_rfl)) h1 hx (fun x hx => hlt x (by simp [hx]))) (Below.trod laidOut (by kernel_rfl) (of_decide_eq_true (by kernel_rfl)) h2 hx (fun x hx => hlt x (by simp [hx]))),
    rfl, hx.frame _, fun h => by cases h⟩

/-- The statement. -/
theorem parts_holds : Rows.QueuePartsSaid :=
  OpenClaim.holds_of_wide 4 Try.f4 rfl rfl rfl rfl rfl rfl rfl ⟨rfl, rfl, rfl, rfl, rfl⟩ rfl rfl rfl rfl rfl (by kernel_rfl) Try.func4 (by kernel_rfl)
    (of_decide_eq_true (by kernel_rfl)) (by unfold Func.isWrapper; first | (rw [if_pos (by decide +kernel)]; kernel_rfl) | (rw [if_neg (by decide +kernel)]; exact ⟨rfl, rfl⟩))
    (fun os started H enc _ => parts_lifted os started H enc)
#print axioms parts_holds
end Go.Proofs.Ytlghkcamnfegdaa
