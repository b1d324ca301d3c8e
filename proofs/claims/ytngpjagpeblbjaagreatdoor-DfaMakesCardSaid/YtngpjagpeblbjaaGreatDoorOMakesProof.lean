/-
  DfaMakes: whatever expression and words come in, the law answers true and its arguments read behind the call as before; condition: the table of de Bruijn is lai
-/
import Derived.Test.YtngpjagpeblbjaaGreatDoorCards
import Derived.Test.YtngpjagpeblbjaaGreatDoorTie
import Derived.SevenTiedAt
import Derived.Deep.Matrix
import Derived.Deep.Grids
import Derived.Deep.Strs
import Derived.Test.YtngpjagpeblbjaaGreatDoorO08
import Derived.Test.YtngpjagpeblbjaaGreatDoorO02
import Derived.Test.YtngpjagpeblbjaaGreatDoorO01
namespace Go.Proofs.YtngpjagpeblbjaaGreatDoor
open Go.ChangeShapes Go.WideShapes Go.ChangeAt Go.WideMaps Go.WideElems Go.RowKit Go.Spy Go.Heaped Go.Tour Go.Rx
theorem makes_any {w : World} {l : List Nd} {aoL : Option Addr} {capL : Nat} (hL : NodesV w aoL l) {aw : Option Addr} {cw : Nat} {more : List ByteArray} (hM : StrsV w aw cw more) (hT : TabW w) : Calls Tryz.prog 5 #[.agg #[.slice aoL l.length capL], .slice aw more.length cw] w (TruePost w) := by
 by_cases h : SmallL l ∧ more.length ≤ 4
 ·by_cases hok : OkL l
  ·by_cases hall : ∀ x ∈ more, nameOk x = true
   ·exact makes_good hL hM hT h.1 h.2 hok hall
   ·refine makes_badw hL hM hT h.1 h.2 hok (Classical.byContradiction fun hn => hall fun x hx => ?_)
    cases hb : nameOk x with
    | true => rfl
    | false => exact absurd ⟨x, hx, hb⟩ hn
  ·obtain ⟨c, hc, h0⟩ := checkC_bad hok
   exact makes_ill hL hM hT h.1 h.2 hc h0
 ·exact makes_out hL hM hT h
set_option maxRecDepth 100000 in
theorem makes_lifted (os : Os) (started : os.Started) (H : Type) (enc : TypeId × Value → H) :
 ReturnsInHanded {} Tryz.checked os 5 .any (fun w args => (Rows.dfaMakesSpec.pre enc Tryz.prog Tryz.f5 [] false w args ∧ laidMetH Tryz.prog laidR w) ∧ sizedMet enc Tryz.prog Tryz.f5 (OpenSpec.ofChange Rows.dfaMakesSpec) false w args)
  (Rows.dfaMakesSpec.post enc Tryz.prog Tryz.f5 false true false false) := by
 refine returnsInHanded_of_change_and (C := Tryz.checked) (X := fun w _ => laidMetH Tryz.prog laidR w) (fun _ _ _ hh h => h.of_heap hh) ownZ started (by kernel_rfl) Tryz.func5
  (ChangeSpec.witness_shaped (enc := enc) (C := Tryz.checked) (os := os) (X := fun w _ => laidMetH Tryz.prog laidR w) false (World.doorLaid Tryz.prog 400 os) #[.agg #[.slice none 0 0], .slice none 0 0] 8 rfl (World.shaped_of_RefB (by kernel_rfl) (by kernel_rfl)) (by kernel_rfl) (by kernel_rfl) (by kernel_rfl) (door_met os _)) ?_
 intro W base args ds gs before hval0 hW hcnd hsz hL _
 have hval : ∀ (j : Nat) t v, Tryz.f5.params[j]? = some t → args[j]? = some v → Value.okWide Tryz.prog W .any base t v := hval0
 have hW' := hW
 obtain ⟨p, q, hA0, hV, rfl, hfz, hnd⟩ := hW
 have hA : DataW.TrodAll enc Tryz.prog W 0 (fun _ => true) true Tryz.f5.params.toList args.toList ds p := hA0
 rw [Tryz.params5] at hA hval hsz
 obtain ⟨v0, v1, d0, d1, p0, p1, rfl, rfl, rfl, h0, h1⟩ := trodAll_two hA
 obtain ⟨rfl, rfl⟩ := trodVars_none hV
 have hM := tab_of_laid hL
 clear hA0 hval0
 simp only [List.append_nil] at hW'
 have hlt : ∀ x ∈ p0 ++ p1, x.block < W.heap.size := fun x hx => by simpa using hW'.lt x hx
 obtain ⟨a0, c0, l0, rfl, hN0⟩ := regex_arg (hval 0 45 v0 rfl rfl) h0 hsz (j := 0) rfl rfl
 obtain ⟨a1, len1, cap1, ss1, rfl, _, hcap1, hS1⟩ := strs_arg (hval 1 22 v1 rfl rfl) h1 hsz (j := 1) rfl rfl
 refine (makes_any hN0 hS1 hM).mono fun e W' ⟨he, hx⟩ => ?_
 subst he
 exact ⟨_, rfl, _, _, _, [], p0 ++ p1, [], hW', trodAll_mk1 (shut_bool Tryz.underlying4 true), trodAll_mk2 (Below.trod laidOut (by kernel_rfl) (of_decide_eq_true (by kernel_rfl)) h0 hx (fun x hx => hlt x (by simp [hx]))) (Below.trod laidOut (by kernel_rfl) (of_decide_eq_true (by kernel_rfl)) h1 hx (fun x hx => hlt x (by simp [hx]))), rfl, hx.frame _, fun h => by cases h⟩
theorem makes_row : Rows.DfaMakesSaid :=
 OpenClaim.holds_of_wide 5 Tryz.f5 rfl rfl rfl rfl rfl rfl rfl ⟨rfl, rfl, rfl, rfl, rfl⟩ rfl rfl rfl rfl rfl (by kernel_rfl) Tryz.func5 (by kernel_rfl)
  (of_decide_eq_true (by kernel_rfl)) (by unfold Func.isWrapper; first | (rw [if_pos (by decide +kernel)]; kernel_rfl) | (rw [if_neg (by decide +kernel)]; exact ⟨rfl, rfl⟩))
  (fun os started H enc _ => makes_lifted os started H enc)
theorem makes_holds : Rows.DfaMakesCardSaid :=
 Claim7.holds_tied_plain_at .later [] [.data] true (true, "aaeb6ccd1883032e798772c213d358978cc132bb231f5bc5129d5b0c3f7c4502") true
  makes_row (fun _ h => by cases h) (by kernel_rfl) (fun _ h => by cases h) dfaMakes_row_tie rfl ⟨rfl, rfl⟩ (by kernel_rfl) rfl
  (fun f fn hf hfn => by
    obtain rfl : f = 5 := Option.some.inj ((show Tryz.prog.funcNamed "spyglass/spyglasslaw08.DfaMakes" = some 5 by kernel_rfl).symm.trans hf) |>.symm
    obtain rfl : fn = Tryz.f5 := (Option.some.inj (Tryz.func5.symm.trans hfn)).symm
    exact ⟨by kernel_rfl, fun j t ht => by
     rw [Tryz.params5] at ht
     have hm : t ∈ [45, 22] := by simpa using Array.mem_of_getElem? ht
     have hall : ([45, 22].all fun u => !Tryz.prog.wantsStandIn u) = true := by kernel_rfl
     exact (show Tryz.prog.wantsStandIn t = false by simpa using List.all_eq_true.1 hall t hm)⟩)
  (by kernel_rfl)
#print axioms makes_holds
end Go.Proofs.YtngpjagpeblbjaaGreatDoor
