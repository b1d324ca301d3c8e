/-
  DfaRuns: whatever automaton and words come in, the law answers true and its arguments read behind the call as before; condition: the table of de Bruijn is laid 
-/
import Derived.Test.YtngpjagpeblbjaaGreatDoorCards
import Derived.Test.YtngpjagpeblbjaaGreatDoorTie
import Derived.SevenTiedAt
import Derived.Test.YtngpjagpeblbjaaGreatDoorU04
namespace Go.Proofs.YtngpjagpeblbjaaGreatDoor
open Go.ChangeShapes Go.WideShapes Go.ChangeAt Go.WideMaps Go.WideElems Go.RowKit Go.Spy Go.Heaped Go.Tour Go.Rx
theorem runs_any {w : World} {v : Value} {d : DR} {aw : Option Addr} {cw : Nat} {ws : List ByteArray} (hD : DfaV w v d) (hL : LenD d) (hW : StrsV w aw cw ws) (hT : TabW w) : Calls Tryz.prog 6 #[v, .slice aw ws.length cw] w (TruePost w) := by
 by_cases h : SmallD d ∧ ws.length ≤ 10
 ·by_cases hE : checkE nameOk d = 0
  ·obtain ⟨D, rfl, W⟩ := check_ok hE
   exact runs_in ⟨hD, h.1.bnd, W⟩ h.1 (read_of_strs hW) h.2 hT
  ·exact runs_bad hD hL aw ws.length cw hW.len hT h.1 h.2 hE
 ·exact runs_out hD hL aw ws.length cw hW.len hT h
set_option maxRecDepth 100000 in
theorem runs_lifted (os : Os) (started : os.Started) (H : Type) (enc : TypeId × Value → H) :
 ReturnsInHanded {} Tryz.checked os 6 .any (fun w args => (Rows.dfaRunsSpec.pre enc Tryz.prog Tryz.f6 [] false w args ∧ laidMetH Tryz.prog laidR w) ∧ sizedMet enc Tryz.prog Tryz.f6 (OpenSpec.ofChange Rows.dfaRunsSpec) false w args)
  (Rows.dfaRunsSpec.post enc Tryz.prog Tryz.f6 false true false false) := by
 refine returnsInHanded_of_change_and (C := Tryz.checked) (X := fun w _ => laidMetH Tryz.prog laidR w) (fun _ _ _ hh h => h.of_heap hh) ownZ started (by kernel_rfl) Tryz.func6
  (ChangeSpec.witness_shaped (enc := enc) (C := Tryz.checked) (os := os) (X := fun w _ => laidMetH Tryz.prog laidR w) false (World.doorLaid Tryz.prog 400 os) #[.agg #[.slice none 0 0, .slice none 0 0, .slice none 0 0], .slice none 0 0] 8 rfl (World.shaped_of_RefB (by kernel_rfl) (by kernel_rfl)) (by kernel_rfl) (by kernel_rfl) (by kernel_rfl) (door_met os _)) ?_
 intro W base args ds gs before hval0 hW hcnd hsz hL _
 have hval : ∀ (j : Nat) t v, Tryz.f6.params[j]? = some t → args[j]? = some v → Value.okWide Tryz.prog W .any base t v := hval0
 have hW' := hW
 obtain ⟨p, q, hA0, hV, rfl, hfz, hnd⟩ := hW
 have hA : DataW.TrodAll enc Tryz.prog W 0 (fun _ => true) true Tryz.f6.params.toList args.toList ds p := hA0
 rw [Tryz.params6] at hA hval hsz
 obtain ⟨v0, v1, d0, d1, p0, p1, rfl, rfl, rfl, h0, h1⟩ := trodAll_two hA
 obtain ⟨rfl, rfl⟩ := trodVars_none hV
 have hM := tab_of_laid hL
 clear hA0 hval0
 simp only [List.append_nil] at hW'
 have hlt : ∀ x ∈ p0 ++ p1, x.block < W.heap.size := fun x hx => by simpa using hW'.lt x hx
 obtain ⟨D0, hD0, hL0⟩ := dfa_arg (hval 0 26 v0 rfl rfl) h0 hsz (j := 0) rfl rfl
 obtain ⟨a1, len1, cap1, ss1, rfl, _, hcap1, hS1⟩ := strs_arg (hval 1 22 v1 rfl rfl) h1 hsz (j := 1) rfl rfl
 refine (runs_any hD0 hL0 hS1 hM).mono fun e W' ⟨he, hx⟩ => ?_
 subst he
 exact ⟨_, rfl, _, _, _, [], p0 ++ p1, [], hW', trodAll_mk1 (shut_bool Tryz.underlying4 true), trodAll_mk2 (Below.trod laidOut (by kernel_rfl) (of_decide_eq_true (by kernel_rfl)) h0 hx (fun x hx => hlt x (by simp [hx]))) (Below.trod laidOut (by kernel_rfl) (of_decide_eq_true (by kernel_rfl)) h1 hx (fun x hx => hlt x (by simp [hx]))), rfl, hx.frame _, fun h => by cases h⟩
theorem runs_row : Rows.DfaRunsSaid :=
 OpenClaim.holds_of_wide 6 Tryz.f6 rfl rfl rfl rfl rfl rfl rfl ⟨rfl, rfl, rfl, rfl, rfl⟩ rfl rfl rfl rfl rfl (by kernel_rfl) Tryz.func6 (by kernel_rfl)
  (of_decide_eq_true (by kernel_rfl)) (by unfold Func.isWrapper; first | (rw [if_pos (by decide +kernel)]; kernel_rfl) | (rw [if_neg (by decide +kernel)]; exact ⟨rfl, rfl⟩))
  (fun os started H enc _ => runs_lifted os started H enc)
theorem runs_holds : Rows.DfaRunsCardSaid :=
 Claim7.holds_tied_plain_at .later [] [.data] true (true, "aaeb6ccd1883032e798772c213d358978cc132bb231f5bc5129d5b0c3f7c4502") true
  runs_row (fun _ h => by cases h) (by kernel_rfl) (fun _ h => by cases h) dfaRuns_row_tie rfl ⟨rfl, rfl⟩ (by kernel_rfl) rfl
  (fun f fn hf hfn => by
    obtain rfl : f = 6 := Option.some.inj ((show Tryz.prog.funcNamed "spyglass/spyglasslaw08.DfaRuns" = some 6 by kernel_rfl).symm.trans hf) |>.symm
    obtain rfl : fn = Tryz.f6 := (Option.some.inj (Tryz.func6.symm.trans hfn)).symm
    exact ⟨by kernel_rfl, fun j t ht => by
     rw [Tryz.params6] at ht
     have hm : t ∈ [26, 22] := by simpa using Array.mem_of_getElem? ht
     have hall : ([26, 22].all fun u => !Tryz.prog.wantsStandIn u) = true := by kernel_rfl
     exact (show Tryz.prog.wantsStandIn t = false by simpa using List.all_eq_true.1 hall t hm)⟩)
  (by kernel_rfl)
#print axioms runs_holds
end Go.Proofs.YtngpjagpeblbjaaGreatDoor
