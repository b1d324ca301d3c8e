/-
  DfaTwo: whatever two automata come in, the law answers true and its arguments read behind the call as before; condition: the table of de Bruijn is laid as the c
-/
import Derived.Test.YtngpjagpeblbjaaGreatDoorCards
import Derived.Test.YtngpjagpeblbjaaGreatDoorTie
import Derived.SevenTiedAt
import Derived.Test.YtngpjagpeblbjaaGreatDoorC10
import Derived.Test.YtngpjagpeblbjaaGreatDoorC11
namespace Go.Proofs.YtngpjagpeblbjaaGreatDoor
open Go.ChangeShapes Go.WideShapes Go.ChangeAt Go.WideMaps Go.WideElems Go.RowKit Go.Spy Go.Heaped Go.Tour Go.Rx
theorem two_any {w : World} {va vb : Value} {da db : DR} (hD : DfaV w va da) (lA : LenD da) (hC : CapS va) (hE : DfaV w vb db) (lB : LenD db) (hT : TabW w) : Calls Tryz.prog 7 #[va, vb] w (TruePost w) := by
 by_cases h : SmallD da ∧ SmallD db
 ·by_cases h2 : check2E da db = 0
  ·have h3 : checkE nameOk da = 0 ∧ checkE nameOk db = 0 := by
    unfold check2E at h2
    split at h2
    ·exact ⟨‹_›, h2⟩
    ·exact absurd h2 ‹_›
   obtain ⟨A, rfl, WA⟩ := check_ok h3.1
   obtain ⟨B, rfl, WB⟩ := check_ok h3.2
   obtain ⟨_, _, _, _, _, _, _, _, _, rfl⟩ := hD.open_
   obtain ⟨_, _, _, _, _, _, _, _, _, rfl⟩ := hE.open_
   exact two_in ⟨hD, h.1.bnd, WA⟩ ⟨hE, h.2.bnd, WB⟩ h.1 h.2 (hC _ _ _ _ _ rfl) hT
  ·exact two_bad hD lA hE lB hT h.1 h.2 h2
 ·exact two_out hD lA hE lB hT h
set_option maxRecDepth 100000 in
theorem two_lifted (os : Os) (started : os.Started) (H : Type) (enc : TypeId × Value → H) :
 ReturnsInHanded {} Tryz.checked os 7 .any (fun w args => (Rows.dfaTwoSpec.pre enc Tryz.prog Tryz.f7 [] false w args ∧ laidMetH Tryz.prog laidR w) ∧ sizedMet enc Tryz.prog Tryz.f7 (OpenSpec.ofChange Rows.dfaTwoSpec) false w args)
  (Rows.dfaTwoSpec.post enc Tryz.prog Tryz.f7 false true false false) := by
 refine returnsInHanded_of_change_and (C := Tryz.checked) (X := fun w _ => laidMetH Tryz.prog laidR w) (fun _ _ _ hh h => h.of_heap hh) ownZ started (by kernel_rfl) Tryz.func7
  (ChangeSpec.witness_shaped (enc := enc) (C := Tryz.checked) (os := os) (X := fun w _ => laidMetH Tryz.prog laidR w) false (World.doorLaid Tryz.prog 400 os) #[.agg #[.slice none 0 0, .slice none 0 0, .slice none 0 0], .agg #[.slice none 0 0, .slice none 0 0, .slice none 0 0]] 8 rfl (World.shaped_of_RefB (by kernel_rfl) (by kernel_rfl)) (by kernel_rfl) (by kernel_rfl) (by kernel_rfl) (door_met os _)) ?_
 intro W base args ds gs before hval0 hW hcnd hsz hL _
 have hval : ∀ (j : Nat) t v, Tryz.f7.params[j]? = some t → args[j]? = some v → Value.okWide Tryz.prog W .any base t v := hval0
 have hW' := hW
 obtain ⟨p, q, hA0, hV, rfl, hfz, hnd⟩ := hW
 have hA : DataW.TrodAll enc Tryz.prog W 0 (fun _ => true) true Tryz.f7.params.toList args.toList ds p := hA0
 rw [Tryz.params7] at hA hval hsz
 obtain ⟨v0, v1, d0, d1, p0, p1, rfl, rfl, rfl, h0, h1⟩ := trodAll_two hA
 obtain ⟨rfl, rfl⟩ := trodVars_none hV
 have hM := tab_of_laid hL
 clear hA0 hval0
 simp only [List.append_nil] at hW'
 have hlt : ∀ x ∈ p0 ++ p1, x.block < W.heap.size := fun x hx => by simpa using hW'.lt x hx
 obtain ⟨D0, hD0, hL0⟩ := dfa_arg (hval 0 26 v0 rfl rfl) h0 hsz (j := 0) rfl rfl
 have hC0 := dfa_cap (hval 0 26 v0 rfl rfl) h0
 obtain ⟨D1, hD1, hL1⟩ := dfa_arg (hval 1 26 v1 rfl rfl) h1 hsz (j := 1) rfl rfl
 refine (two_any hD0 hL0 hC0 hD1 hL1 hM).mono fun e W' ⟨he, hx⟩ => ?_
 subst he
 exact ⟨_, rfl, _, _, _, [], p0 ++ p1, [], hW', trodAll_mk1 (shut_bool Tryz.underlying4 true), trodAll_mk2 (Below.trod laidOut (by kernel_rfl) (of_decide_eq_true (by kernel_rfl)) h0 hx (fun x hx => hlt x (by simp [hx]))) (Below.trod laidOut (by kernel_rfl) (of_decide_eq_true (by kernel_rfl)) h1 hx (fun x hx => hlt x (by simp [hx]))), rfl, hx.frame _, fun h => by cases h⟩
theorem two_row : Rows.DfaTwoSaid :=
 OpenClaim.holds_of_wide 7 Tryz.f7 rfl rfl rfl rfl rfl rfl rfl ⟨rfl, rfl, rfl, rfl, rfl⟩ rfl rfl rfl rfl rfl (by kernel_rfl) Tryz.func7 (by kernel_rfl)
  (of_decide_eq_true (by kernel_rfl)) (by unfold Func.isWrapper; first | (rw [if_pos (by decide +kernel)]; kernel_rfl) | (rw [if_neg (by decide +kernel)]; exact ⟨rfl, rfl⟩))
  (fun os started H enc _ => two_lifted os started H enc)
theorem two_holds : Rows.DfaTwoCardSaid :=
 Claim7.holds_tied_plain_at .later [] [.data] true (true, "aaeb6ccd1883032e798772c213d358978cc132bb231f5bc5129d5b0c3f7c4502") true
  two_row (fun _ h => by cases h) (by kernel_rfl) (fun _ h => by cases h) dfaTwo_row_tie rfl ⟨rfl, rfl⟩ (by kernel_rfl) rfl
  (fun f fn hf hfn => by
    obtain rfl : f = 7 := Option.some.inj ((show Tryz.prog.funcNamed "spyglass/spyglasslaw08.DfaTwo" = some 7 by kernel_rfl).symm.trans hf) |>.symm
    obtain rfl : fn = Tryz.f7 := (Option.some.inj (Tryz.func7.symm.trans hfn)).symm
    exact ⟨by kernel_rfl, fun j t ht => by
     rw [Tryz.params7] at ht
     have hm : t ∈ [26] := by simpa using Array.mem_of_getElem? ht
     have hall : ([26].all fun u => !Tryz.prog.wantsStandIn u) = true := by kernel_rfl
     exact (show Tryz.prog.wantsStandIn t = false by simpa using List.all_eq_true.1 hall t hm)⟩)
  (by kernel_rfl)
#print axioms two_holds
end Go.Proofs.YtngpjagpeblbjaaGreatDoor
