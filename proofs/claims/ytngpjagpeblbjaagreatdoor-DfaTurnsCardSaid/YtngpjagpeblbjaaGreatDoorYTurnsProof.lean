/-
  DfaTurns: whatever automaton comes in, the law answers true and its arguments read behind the call as before; condition: the table of de Bruijn is laid as the c
-/
import Derived.Test.YtngpjagpeblbjaaGreatDoorCards
import Derived.Test.YtngpjagpeblbjaaGreatDoorTie
import Derived.SevenTiedAt
import Derived.Test.YtngpjagpeblbjaaGreatDoorY09
import Derived.Test.YtngpjagpeblbjaaGreatDoorY10
namespace Go.Proofs.YtngpjagpeblbjaaGreatDoor
open Go.ChangeShapes Go.WideShapes Go.ChangeAt Go.WideMaps Go.WideElems Go.RowKit Go.Spy Go.Heaped Go.Tour Go.Rx
theorem turns_any {w : World} {v : Value} {d : DR} (hD : DfaV w v d) (hL : LenD d) (hT : TabW w) : Calls Tryz.prog 9 #[v] w (TruePost w) := by
 by_cases h : SmallD d
 ·by_cases hE : checkE nameOk d = 0
  ·obtain ⟨D, rfl, W⟩ := check_ok hE
   exact turns_in ⟨hD, h.bnd, W⟩ h hT
  ·exact turns_bad hD hL hT h hE
 ·exact turns_out hD hL hT h
set_option maxRecDepth 100000 in
theorem turns_lifted (os : Os) (started : os.Started) (H : Type) (enc : TypeId × Value → H) :
 ReturnsInHanded {} Tryz.checked os 9 .any (fun w args => (Rows.dfaTurnsSpec.pre enc Tryz.prog Tryz.f9 [] false w args ∧ laidMetH Tryz.prog laidR w) ∧ sizedMet enc Tryz.prog Tryz.f9 (OpenSpec.ofChange Rows.dfaTurnsSpec) false w args)
  (Rows.dfaTurnsSpec.post enc Tryz.prog Tryz.f9 false true false false) := by
 refine returnsInHanded_of_change_and (C := Tryz.checked) (X := fun w _ => laidMetH Tryz.prog laidR w) (fun _ _ _ hh h => h.of_heap hh) ownZ started (by kernel_rfl) Tryz.func9
  (ChangeSpec.witness_shaped (enc := enc) (C := Tryz.checked) (os := os) (X := fun w _ => laidMetH Tryz.prog laidR w) false (World.doorLaid Tryz.prog 400 os) #[.agg #[.slice none 0 0, .slice none 0 0, .slice none 0 0]] 8 rfl (World.shaped_of_RefB (by kernel_rfl) (by kernel_rfl)) (by kernel_rfl) (by kernel_rfl) (by kernel_rfl) (door_met os _)) ?_
 intro W base args ds gs before hval0 hW hcnd hsz hL _
 have hval : ∀ (j : Nat) t v, Tryz.f9.params[j]? = some t → args[j]? = some v → Value.okWide Tryz.prog W .any base t v := hval0
 have hW' := hW
 obtain ⟨p, q, hA0, hV, rfl, hfz, hnd⟩ := hW
 have hA : DataW.TrodAll enc Tryz.prog W 0 (fun _ => true) true Tryz.f9.params.toList args.toList ds p := hA0
 rw [Tryz.params9] at hA hval hsz
 obtain ⟨v0, d0, rfl, rfl, h0⟩ := trodAll_one hA
 obtain ⟨rfl, rfl⟩ := trodVars_none hV
 have hM := tab_of_laid hL
 clear hA0 hval0
 simp only [List.append_nil] at hW'
 have hlt : ∀ x ∈ p, x.block < W.heap.size := fun x hx => by simpa using hW'.lt x hx
 obtain ⟨D0, hD0, hL0⟩ := dfa_arg (hval 0 26 v0 rfl rfl) h0 hsz (j := 0) rfl rfl
 refine (turns_any hD0 hL0 hM).mono fun e W' ⟨he, hx⟩ => ?_
 subst he
 exact ⟨_, rfl, _, _, _, [], p, [], hW', trodAll_mk1 (shut_bool Tryz.underlying4 true), trodAll_mk1 (Below.trod laidOut (by kernel_rfl) (of_decide_eq_true (by kernel_rfl)) h0 hx hlt), rfl, hx.frame _, fun h => by cases h⟩
theorem turns_row : Rows.DfaTurnsSaid :=
 OpenClaim.holds_of_wide 9 Tryz.f9 rfl rfl rfl rfl rfl rfl rfl ⟨rfl, rfl, rfl, rfl, rfl⟩ rfl rfl rfl rfl rfl (by kernel_rfl) Tryz.func9 (by kernel_rfl)
  (of_decide_eq_true (by kernel_rfl)) (by unfold Func.isWrapper; first | (rw [if_pos (by decide +kernel)]; kernel_rfl) | (rw [if_neg (by decide +kernel)]; exact ⟨rfl, rfl⟩))
  (fun os started H enc _ => turns_lifted os started H enc)
theorem turns_holds : Rows.DfaTurnsCardSaid :=
 Claim7.holds_tied_plain_at .later [] [.data] true (true, "aaeb6ccd1883032e798772c213d358978cc132bb231f5bc5129d5b0c3f7c4502") true
  turns_row (fun _ h => by cases h) (by kernel_rfl) (fun _ h => by cases h) dfaTurns_row_tie rfl ⟨rfl, rfl⟩ (by kernel_rfl) rfl
  (fun f fn hf hfn => by
    obtain rfl : f = 9 := Option.some.inj ((show Tryz.prog.funcNamed "spyglass/spyglasslaw08.DfaTurns" = some 9 by kernel_rfl).symm.trans hf) |>.symm
    obtain rfl : fn = Tryz.f9 := (Option.some.inj (Tryz.func9.symm.trans hfn)).symm
    exact ⟨by kernel_rfl, fun j t ht => by
     rw [Tryz.params9] at ht
     have hm : t ∈ [26] := by simpa using Array.mem_of_getElem? ht
     have hall : ([26].all fun u => !Tryz.prog.wantsStandIn u) = true := by kernel_rfl
     exact (show Tryz.prog.wantsStandIn t = false by simpa using List.all_eq_true.1 hall t hm)⟩)
  (by kernel_rfl)
#print axioms turns_holds
end Go.Proofs.YtngpjagpeblbjaaGreatDoor
