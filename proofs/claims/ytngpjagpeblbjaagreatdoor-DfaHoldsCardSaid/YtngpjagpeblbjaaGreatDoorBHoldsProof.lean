/-
  DfaHolds: whatever two expressions and numbers come in, the law answers true and its arguments read behind the call as before; condition: the table of de Bruijn
-/
import Derived.Test.YtngpjagpeblbjaaGreatDoorCards
import Derived.Test.YtngpjagpeblbjaaGreatDoorTie
import Derived.SevenTiedAt
import Derived.Test.YtngpjagpeblbjaaGreatDoorB11
import Derived.Test.YtngpjagpeblbjaaGreatDoorB12
namespace Go.Proofs.YtngpjagpeblbjaaGreatDoor
open Go.ChangeShapes Go.WideShapes Go.ChangeAt Go.WideMaps Go.WideElems Go.RowKit Go.Spy Go.Heaped Go.Tour Go.Rx
theorem holds_any {w : World} {l m : List Nd} {aoL aoM : Option Addr} {capL capM : Nat} (hL : NodesV w aoL l) (hM : NodesV w aoM m) {ai : Option Addr} {ni ci : Nat} {is : List Int} (hI : ReadR w 1 intZ (.slice ai ni ci) is) (hni : ni ≤ 9223372036854775807) (hT : TabW w) : Calls Tryz.prog 4 #[.agg #[.slice aoL l.length capL], .agg #[.slice aoM m.length capM], .slice ai ni ci] w (TruePost w) := by
 by_cases h : SmallL l ∧ SmallL m ∧ ni ≤ 8
 ·exact holds_in hL hM hI hT h.1 h.2.1 h.2.2
 ·exact holds_out hL hM ai ni ci hni hT h
set_option maxRecDepth 100000 in
theorem holds_lifted (os : Os) (started : os.Started) (H : Type) (enc : TypeId × Value → H) :
 ReturnsInHanded {} Tryz.checked os 4 .any (fun w args => (Rows.dfaHoldsSpec.pre enc Tryz.prog Tryz.f4 [] false w args ∧ laidMetH Tryz.prog laidR w) ∧ sizedMet enc Tryz.prog Tryz.f4 (OpenSpec.ofChange Rows.dfaHoldsSpec) false w args)
  (Rows.dfaHoldsSpec.post enc Tryz.prog Tryz.f4 false true false false) := by
 refine returnsInHanded_of_change_and (C := Tryz.checked) (X := fun w _ => laidMetH Tryz.prog laidR w) (fun _ _ _ hh h => h.of_heap hh) ownZ started (by kernel_rfl) Tryz.func4
  (ChangeSpec.witness_shaped (enc := enc) (C := Tryz.checked) (os := os) (X := fun w _ => laidMetH Tryz.prog laidR w) false (World.doorLaid Tryz.prog 400 os) #[.agg #[.slice none 0 0], .agg #[.slice none 0 0], .slice none 0 0] 8 rfl (World.shaped_of_RefB (by kernel_rfl) (by kernel_rfl)) (by kernel_rfl) (by kernel_rfl) (by kernel_rfl) (door_met os _)) ?_
 intro W base args ds gs before hval0 hW hcnd hsz hL _
 have hval : ∀ (j : Nat) t v, Tryz.f4.params[j]? = some t → args[j]? = some v → Value.okWide Tryz.prog W .any base t v := hval0
 have hW' := hW
 obtain ⟨p, q, hA0, hV, rfl, hfz, hnd⟩ := hW
 have hA : DataW.TrodAll enc Tryz.prog W 0 (fun _ => true) true Tryz.f4.params.toList args.toList ds p := hA0
 rw [Tryz.params4] at hA hval hsz
 obtain ⟨v0, v1, v2, d0, d1, d2, p0, p1, p2, rfl, rfl, rfl, h0, h1, h2⟩ := trodAll_three hA
 obtain ⟨rfl, rfl⟩ := trodVars_none hV
 have hM := tab_of_laid hL
 clear hA0 hval0
 simp only [List.append_nil] at hW'
 have hlt : ∀ x ∈ p0 ++ p1 ++ p2, x.block < W.heap.size := fun x hx => by simpa using hW'.lt x hx
 obtain ⟨a0, c0, l0, rfl, hN0⟩ := regex_arg (hval 0 45 v0 rfl rfl) h0 hsz (j := 0) rfl rfl
 obtain ⟨a1, c1, l1, rfl, hN1⟩ := regex_arg (hval 1 45 v1 rfl rfl) h1 hsz (j := 1) rfl rfl
 obtain ⟨a2, n2, c2, xs2, rfl, hn2, hS2⟩ := ints_arg (hval 2 46 v2 rfl rfl) h2
 refine (holds_any hN0 hN1 hS2 hn2 hM).mono fun e W' ⟨he, hx⟩ => ?_
 subst he
 have hmk := trodAll_mk3 (Below.trod laidOut (by kernel_rfl) (of_decide_eq_true (by kernel_rfl)) h0 hx (fun x hx => hlt x (by simp [hx]))) (Below.trod laidOut (by kernel_rfl) (of_decide_eq_true (by kernel_rfl)) h1 hx (fun x hx => hlt x (by simp [hx]))) (Below.trod laidOut (by kernel_rfl) (of_decide_eq_true (by kernel_rfl)) h2 hx (fun x hx => hlt x (by simp [hx])))
 rw [← List.append_assoc] at hmk
 exact ⟨_, rfl, _, _, _, [], p0 ++ p1 ++ p2, [], hW', trodAll_mk1 (shut_bool Tryz.underlying4 true), hmk , rfl, hx.frame _, fun h => by cases h⟩
theorem holds_row : Rows.DfaHoldsSaid :=
 OpenClaim.holds_of_wide 4 Tryz.f4 rfl rfl rfl rfl rfl rfl rfl ⟨rfl, rfl, rfl, rfl, rfl⟩ rfl rfl rfl rfl rfl (by kernel_rfl) Tryz.func4 (by kernel_rfl)
  (of_decide_eq_true (by kernel_rfl)) (by unfold Func.isWrapper; first | (rw [if_pos (by decide +kernel)]; kernel_rfl) | (rw [if_neg (by decide +kernel)]; exact ⟨rfl, rfl⟩))
  (fun os started H enc _ => holds_lifted os started H enc)
theorem holds_holds : Rows.DfaHoldsCardSaid :=
 Claim7.holds_tied_plain_at .later [] [.data] true (true, "aaeb6ccd1883032e798772c213d358978cc132bb231f5bc5129d5b0c3f7c4502") true
  holds_row (fun _ h => by cases h) (by kernel_rfl) (fun _ h => by cases h) dfaHolds_row_tie rfl ⟨rfl, rfl⟩ (by kernel_rfl) rfl
  (fun f fn hf hfn => by
    obtain rfl : f = 4 := Option.some.inj ((show Tryz.prog.funcNamed "spyglass/spyglasslaw08.DfaHolds" = some 4 by kernel_rfl).symm.trans hf) |>.symm
    obtain rfl : fn = Tryz.f4 := (Option.some.inj (Tryz.func4.symm.trans hfn)).symm
    exact ⟨by kernel_rfl, fun j t ht => by
     rw [Tryz.params4] at ht
     have hm : t ∈ [45, 46] := by simpa using Array.mem_of_getElem? ht
     have hall : ([45, 46].all fun u => !Tryz.prog.wantsStandIn u) = true := by kernel_rfl
     exact (show Tryz.prog.wantsStandIn t = false by simpa using List.all_eq_true.1 hall t hm)⟩)
  (by kernel_rfl)
#print axioms holds_holds
end Go.Proofs.YtngpjagpeblbjaaGreatDoor
