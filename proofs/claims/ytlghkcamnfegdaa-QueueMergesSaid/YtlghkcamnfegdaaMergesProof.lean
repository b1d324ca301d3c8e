/-
  QueueMerges: whatever lists of ranks come in, the law answers true and its argument reads behind the call as before; no condition.
-/
import Derived.Test.YtlghkcamnfegdaaN3
import Derived.Test.YtlghkcamnfegdaaG1
import Derived.Deep.Matrix
namespace Go.Proofs.Ytlghkcamnfegdaa
open Go.ChangeShapes Go.WideShapes Go.ChangeAt Go.RowKit Go.Spy Go.Deep

theorem cells25 : Try.prog.cellsOf 25 = 1 := by kernel_rfl

/-- A [][]int that came in. -/
theorem rows_arg {H : Type} {enc : TypeId × Value → H} {W : World} {base : Nat} {v : Value} {d : DataW H} {p : List MemPlace} (hv : Value.okWide Try.prog W .any base 22 v)
    (h : DataW.Trod enc Try.prog W 0 (fun _ => true) true 22 v d p) : ∃ a cap xss, v = .slice a (List.length xss) cap ∧ IntRowsV W a xss := by
  obtain ⟨a0, len, cap, rfl⟩ := okWide_slice Try.underlying22 hv
  obtain ⟨fuel, hf⟩ := h
  rcases open_int_rows Try.underlying22 Try.underlying25 Try.underlying3 cells25 cells3 hf with ⟨hcs, _⟩ | ⟨a, len', cap', A, L, C, Z, hcs, _, hl, hm, hx, hrow⟩
  · simp [Value.cells] at hcs
    obtain ⟨rfl, rfl, rfl⟩ := hcs
    exact ⟨none, 0, [], rfl, ⟨by simp, fun h => by simp at h⟩⟩
  · simp [Value.cells] at hcs
    obtain ⟨rfl, rfl, rfl⟩ := hcs
    unfold maxLen at hm
    have hlen : ((List.range len).map fun r => (Z r).take (L r)).length = len := by simp
    refine ⟨some a, cap, (List.range len).map fun r => (Z r).take (L r), by rw [hlen], ⟨by omega, fun h0 => ?_⟩⟩
    have hl0 : 0 < len := by omega
    have hc0 := (hrow 0 (by omega)).1
    have ha : a.add 0 = a := by simp [Addr.add]
    rw [ha] at hc0
    have hsp := spot_none hc0
    refine ⟨a.block, a.off, by rw [← hsp], World.block_lt_of_cell? W a hc0, fun i hi => ?_⟩
    have hi' : i < len := by omega
    obtain ⟨h1, h2, h3, h4, h5, h6, h7⟩ := hrow i (by omega)
    unfold maxLen at h3
    have hget : ((List.range len).map fun r => (Z r).take (L r))[i] = (Z i).take (L i) := by simp
    have htl : ((Z i).take (L i)).length = L i := by simp; omega
    rw [hget]
    refine ⟨A i, C i, ?_, ⟨by omega, fun h0 => ?_⟩⟩
    · rw [htl]
      rw [hsp, add_lit0] at h1
      exact h1
    · rw [htl] at h0
      cases hA : A i with
      | none => have := h6 hA; omega
      | some a' =>
        obtain ⟨_, h8⟩ := h7 a' hA
        have hc0' := h8 0 (by omega)
        have ha' : a'.add 0 = a' := by simp [Addr.add]
        rw [ha'] at hc0'
        have hsp' := spot_none hc0'
        refine ⟨a'.block, a'.off, by rw [← hsp'], World.block_lt_of_cell? W a' hc0', fun j hj => ?_⟩
        rw [htl] at hj
        have hc := h8 j (by omega)
        rw [hsp', add_lit0] at hc
        rw [hc, getD_get (by omega)]
        simp

set_option maxRecDepth 100000 in
theorem merges_lifted (os : Os) (started : os.Started) (H : Type) (enc : TypeId × Value → H) :
    ReturnsInHanded {} Try.checked os 3 .any (Rows.queueMergesSpec.pre6 enc Try.prog Try.f3 Rows.queueMergesRow.domain false) (Rows.queueMergesSpec.post enc Try.prog Try.f3 false true false false) := by
  refine returnsInHanded_of_change (C := Try.checked) ownKnob_none started (by kernel_rfl) Try.func3
    (ChangeSpec.witness6 (enc := enc) (C := Try.checked) false ⟨#[], #[.slice none 0 0], []⟩ 8 (by kernel_rfl) (by kernel_rfl) (by kernel_rfl) (by kernel_rfl)) ?_
  intro W base args ds gs before hval0 hW hcnd _
  have hval : ∀ (j : Nat) t v, Try.f3.params[j]? = some t → args[j]? = some v → Value.okWide Try.prog W .any base t v := hval0
  have hW' := hW
  obtain ⟨p, q, hA0, hV, rfl, hfz, hnd⟩ := hW
  have hA : DataW.TrodAll enc Try.prog W 0 (fun _ => true) true Try.f3.params.toList args.toList ds p := hA0
  rw [Try.params3] at hA hval
  obtain ⟨v0, d0, rfl, rfl, h0⟩ := trodAll_one hA
  obtain ⟨rfl, rfl⟩ := trodVars_none hV
  clear hA0 hval0
  simp only [List.append_nil] at hW'
  have hlt : ∀ x ∈ p, x.block < W.heap.size := fun x hx => by simpa using hW'.lt x hx
  obtain ⟨a0, c0, xss, rfl, hX⟩ := rows_arg (hval 0 22 v0 rfl rfl) h0
  refine (merges_any hX).mono fun e W' ⟨he, hx⟩ => ?_
  subst he
  exact ⟨_, rfl, _, _, _, [], p, [], hW', trodAll_mk1 (shut_bool Try.underlying4 true), trodAll_mk1 (Below.trod laidOut (by kernel_rfl) (of_decide_eq_true (by kernel_rfl)) h0 hx hlt), rfl, hx.frame _, fun h => by cases h⟩

/-- The statement. -/
theorem merges_holds : Rows.QueueMergesSaid :=
  OpenClaim.holds_of_wide 3 Try.f3 rfl rfl rfl rfl rfl rfl rfl ⟨rfl, rfl, rfl, rfl, rfl⟩ rfl rfl rfl rfl rfl (by kernel_rfl) Try.func3 (by kernel_rfl)
    (of_decide_eq_true (by kernel_rfl)) (by unfold Func.isWrapper; first | (rw [if_pos (by decide +kernel)]; kernel_rfl) | (rw [if_neg (by decide +kernel)]; exact ⟨rfl, rfl⟩))
    (fun os started H enc _ => merges_lifted os started H enc)
#print axioms merges_holds
end Go.Proofs.Ytlghkcamnfegdaa
