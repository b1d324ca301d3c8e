/-
  QueuePlays: whatever calls come in, the law answers true and its argument reads behind the call as before; no condition.
-/
import Derived.Test.YtlghkcamnfegdaaN5
import Derived.Test.YtlghkcamnfegdaaG1
import Derived.Deep.SlicePairs
namespace Go.Proofs.Ytlghkcamnfegdaa
open Go.ChangeShapes Go.WideShapes Go.ChangeAt Go.RowKit Go.Spy Go.Deep

theorem cells49 : Try.prog.cellsOf 49 = 2 := by kernel_rfl

/-- A []Op that came in. -/
theorem ops_arg {H : Type} {enc : TypeId × Value → H} {W : World} {base : Nat} {v : Value} {d : DataW H} {p : List MemPlace} (hv : Value.okWide Try.prog W .any base 47 v)
    (h : DataW.Trod enc Try.prog W 0 (fun _ => true) true 47 v d p) : ∃ a cap xs, v = .slice a (List.length xs) cap ∧ OpsV W a xs := by
  obtain ⟨a0, len, cap, rfl⟩ := okWide_slice Try.underlying47 hv
  obtain ⟨fuel, hf⟩ := h
  rcases open_slice_pairs Try.underlying47 Try.underlying49 cells49 rfl rfl cells3 cells3 hf with ⟨hcs, _⟩ | ⟨a, len', cap', m, n, V0, V1, D0, D1, P0, P1, hcs, _, hl, hm, hmm, hx, hcell⟩
  · simp [Value.cells] at hcs
    obtain ⟨rfl, rfl, rfl⟩ := hcs
    exact ⟨none, 0, [], rfl, ⟨by simp, fun h => by simp at h⟩⟩
  · simp [Value.cells] at hcs
    obtain ⟨rfl, rfl, rfl⟩ := hcs
    simp only [if_true] at hmm
    subst hmm
    unfold maxLen at hm
    have each : ∀ i, i < m → ∃ z : Int × Int, V0 i = .int .i64 z.1 ∧ V1 i = .int .i64 z.2 := by
      intro i hi
      obtain ⟨_, _, h2, h3⟩ := hcell i hi
      obtain ⟨x0, e0, _⟩ := DataW.trod_int Try.underlying3 h2
      obtain ⟨x1, e1, _⟩ := DataW.trod_int Try.underlying3 h3
      simp at e0 e1
      exact ⟨(x0, x1), e0, e1⟩
    obtain ⟨q, hq⟩ := choose_lt each
    refine ⟨some a, m, (List.range len).map q, by simp, ⟨by simp; omega, fun h0 => ?_⟩⟩
    have hl0 : 0 < len := by simpa using h0
    have hc0 := (hcell 0 (by omega)).1
    have ha : a.add (0 * 2) = a := by simp [Addr.add]
    rw [ha] at hc0
    have hsp := spot_none hc0
    refine ⟨a.block, a.off, by rw [← hsp], World.block_lt_of_cell? W a hc0, fun i hi => ?_⟩
    have hi' : i < len := by simpa using hi
    obtain ⟨h4, h5, _, _⟩ := hcell i (by omega)
    obtain ⟨e0, e1⟩ := hq i (by omega)
    rw [hsp, add_lit0, e0] at h4
    rw [hsp, add_lit0, e1] at h5
    simp only [List.getElem_map, List.getElem_range]
    exact ⟨h4, h5⟩

set_option maxRecDepth 100000 in
theorem plays_lifted (os : Os) (started : os.Started) (H : Type) (enc : TypeId × Value → H) :
    ReturnsInHanded {} Try.checked os 6 .any (Rows.queuePlaysSpec.pre6 enc Try.prog Try.f6 Rows.queuePlaysRow.domain false) (Rows.queuePlaysSpec.post enc Try.prog Try.f6 false true false false) := by
  refine returnsInHanded_of_change (C := Try.checked) ownKnob_none started (by kernel_rfl) Try.func6
    (ChangeSpec.witness6 (enc := enc) (C := Try.checked) false ⟨#[], #[.slice none 0 0], []⟩ 8 (by kernel_rfl) (by kernel_rfl) (by kernel_rfl) (by kernel_rfl)) ?_
  intro W base args ds gs before hval0 hW hcnd _
  have hval : ∀ (j : Nat) t v, Try.f6.params[j]? = some t → args[j]? = some v → Value.okWide Try.prog W .any base t v := hval0
  have hW' := hW
  obtain ⟨p, q, hA0, hV, rfl, hfz, hnd⟩ := hW
  have hA : DataW.TrodAll enc Try.prog W 0 (fun _ => true) true Try.f6.params.toList args.toList ds p := hA0
  rw [Try.params6] at hA hval
  obtain ⟨v0, d0, rfl, rfl, h0⟩ := trodAll_one hA
  obtain ⟨rfl, rfl⟩ := trodVars_none hV
  clear hA0 hval0
  simp only [List.append_nil] at hW'
  have hlt : ∀ x ∈ p, x.block < W.heap.size := fun x hx => by simpa using hW'.lt x hx
  obtain ⟨a0, c0, xs, rfl, hX⟩ := ops_arg (hval 0 47 v0 rfl rfl) h0
  have hC : Calls Try.prog 6 #[.slice a0 xs.length c0] W fun e w' => e = .returned (.bool true) ∧ Ext W w' := by
    by_cases hs : 100 < xs.length
    · exact plays_long hs
    · exact plays_any hX (by omega)
  refine hC.mono fun e W' ⟨he, hx⟩ => ?_
  subst he
  exact ⟨_, rfl, _, _, _, [], p, [], hW', trodAll_mk1 (shut_bool Try.underlying4 true), trodAll_mk1 (Below.trod laidOut (by kernel_rfl) (of_decide_eq_true (by kernel_rfl)) h0 hx hlt), rfl, hx.frame _, fun h => by cases h⟩

/-- The statement. -/
theorem plays_holds : Rows.QueuePlaysSaid :=
  OpenClaim.holds_of_wide 6 Try.f6 rfl rfl rfl rfl rfl rfl rfl ⟨rfl, rfl, rfl, rfl, rfl⟩ rfl rfl rfl rfl rfl (by kernel_rfl) Try.func6 (by kernel_rfl)
    (of_decide_eq_true (by kernel_rfl)) (by unfold Func.isWrapper; first | (rw [if_pos (by decide +kernel)]; kernel_rfl) | (rw [if_neg (by decide +kernel)]; exact ⟨rfl, rfl⟩))
    (fun os started H enc _ => plays_lifted os started H enc)
#print axioms plays_holds
end Go.Proofs.Ytlghkcamnfegdaa
