/-
  NARROWER THAN 'FOR EVERY INPUT', by the rows' own cells (each row's printed sentence says how): ArgsMany: laid · ArgsBack: laid · ArgsTurns: laid · ArgsMore: laid.
  DERIVED. THE GIVEN ROWS OF THIS SEAT. 4 by the template 'for every input the law returns true; each argument reads behind the call as it read before'; 0 by the template 'total and deterministic' (their statements: YtoknhfmgkgmlhaaDoorTotals.lean).
  GIVEN WITH THE SEED: the statements are not yours to turn. If you find one false, say at which input.
  Laid BY PROGRAM, IN A SANDBOX (cutbox-rows.mjs): the forced cells as the released guide's own fill.sh prints them over the translation a250243de4e274dd… (all of the seat's roots in one cut). By AI agents, Wed Nov 11 2026. No macro, syntax, notation, axiom, sorry.
-/
import Derived.Test.YtoknhfmgkgmlhaaDoorChecked
import GoSem.Claim
import GoSem.ClaimJoined
import GoSem.ClaimMapViews
import Derived.JoinedTies
import Derived.KernelRfl
namespace Go.Proofs.YtoknhfmgkgmlhaaDoor
/- THE CELL 'sum', in the pinned program and in every row, IS THE sha256 OF THE DUMP (.gsa) THAT YtoknhfmgkgmlhaaDoorProg.lean LOADS. Nothing in Lean hashes anything: it is a label: what it is worth is what the hold of that sum in a sandbox is worth. -/
noncomputable def Tryd.pinned : Pinned := { name := "ytoknhfmgkgmlhaadoor", sum := "a250243de4e274ddaf11aa85adcd3d3ef4a69536a0ed3d5dc66e6cf3899dcef7", checked := Tryd.checked }
namespace Rows
def none {H : Type} : Left H := { results := [], args := [] }

/- WHAT THE LISTED PACKAGE-LEVEL VARIABLES READ AS WHEN THE CALL BEGINS. Each datum BY PROGRAM (the guide's laid-datum.mjs) off the statement by which the dump's own 'gosem.cut.vars' lays the variable. In a bare row this is a premise. The card (YtoknhfmgkgmlhaaDoorCards.lean) ties it to the program's text. -/
def laid_spyglass_args_modes {H : Type} : DataW H := .agg [.lit (.string []), .lit (.string [103, 101, 116]), .lit (.string [112, 117, 116]), .lit (.string [99, 114, 101, 97, 116, 101]), .lit (.string [99, 104, 101, 99, 107]), .lit (.string [118, 97, 108, 105, 100, 97, 116, 101])]

/-- 'spyglasslaw20.ArgsMany': WHATEVER THE INPUT: true; the input reads as it did. -/
def argsManySpec : ChangeSpec := { name := "argsMany", fn := fun _ => fun
  | [d] => { results := [.lit (.bool true)], args := [d] }
  | _ => none }
def argsManyRow : OpenClaim := { program := "ytoknhfmgkgmlhaadoor", sum := "a250243de4e274ddaf11aa85adcd3d3ef4a69536a0ed3d5dc66e6cf3899dcef7", func := "spyglass/spyglasslaw20.ArgsMany", spec := "argsMany", unfollowed := true, recurses := true, named := ["spyglass/args.modes"], apart := false, laid := [("spyglass/args.modes", laid_spyglass_args_modes)] }
def ArgsManySaid : Prop := argsManyRow.holds Tryd.pinned (OpenSpec.ofChange argsManySpec)

/-- ITS FALSE NEIGHBOUR: 'it returns false'. Refute it at one input. -/
def argsManyWrong : ChangeSpec := { name := "argsMany", fn := fun _ => fun
  | [d] => { results := [.lit (.bool false)], args := [d] }
  | _ => none }
def ArgsManyWrongFalsely : Prop := argsManyRow.holds Tryd.pinned (OpenSpec.ofChange argsManyWrong)

/-- 'spyglasslaw20.ArgsBack': WHATEVER THE INPUT: true; the input reads as it did. -/
def argsBackSpec : ChangeSpec := { name := "argsBack", fn := fun _ => fun
  | [d1, d2] => { results := [.lit (.bool true)], args := [d1, d2] }
  | _ => none }
def argsBackRow : OpenClaim := { program := "ytoknhfmgkgmlhaadoor", sum := "a250243de4e274ddaf11aa85adcd3d3ef4a69536a0ed3d5dc66e6cf3899dcef7", func := "spyglass/spyglasslaw20.ArgsBack", spec := "argsBack", unfollowed := true, recurses := true, named := ["spyglass/args.modes"], apart := false, laid := [("spyglass/args.modes", laid_spyglass_args_modes)] }
def ArgsBackSaid : Prop := argsBackRow.holds Tryd.pinned (OpenSpec.ofChange argsBackSpec)

/-- ITS FALSE NEIGHBOUR: 'it returns false'. Refute it at one input. -/
def argsBackWrong : ChangeSpec := { name := "argsBack", fn := fun _ => fun
  | [d1, d2] => { results := [.lit (.bool false)], args := [d1, d2] }
  | _ => none }
def ArgsBackWrongFalsely : Prop := argsBackRow.holds Tryd.pinned (OpenSpec.ofChange argsBackWrong)

/-- 'spyglasslaw20.ArgsTurns': WHATEVER THE INPUT: true; the input reads as it did. -/
def argsTurnsSpec : ChangeSpec := { name := "argsTurns", fn := fun _ => fun
  | [d1, d2] => { results := [.lit (.bool true)], args := [d1, d2] }
  | _ => none }
def argsTurnsRow : OpenClaim := { program := "ytoknhfmgkgmlhaadoor", sum := "a250243de4e274ddaf11aa85adcd3d3ef4a69536a0ed3d5dc66e6cf3899dcef7", func := "spyglass/spyglasslaw20.ArgsTurns", spec := "argsTurns", unfollowed := true, recurses := true, named := ["spyglass/args.modes"], apart := false, laid := [("spyglass/args.modes", laid_spyglass_args_modes)] }
def ArgsTurnsSaid : Prop := argsTurnsRow.holds Tryd.pinned (OpenSpec.ofChange argsTurnsSpec)

/-- ITS FALSE NEIGHBOUR: 'it returns false'. Refute it at one input. -/
def argsTurnsWrong : ChangeSpec := { name := "argsTurns", fn := fun _ => fun
  | [d1, d2] => { results := [.lit (.bool false)], args := [d1, d2] }
  | _ => none }
def ArgsTurnsWrongFalsely : Prop := argsTurnsRow.holds Tryd.pinned (OpenSpec.ofChange argsTurnsWrong)

/-- 'spyglasslaw20.ArgsMore': WHATEVER THE INPUT: true; the input reads as it did. -/
def argsMoreSpec : ChangeSpec := { name := "argsMore", fn := fun _ => fun
  | [d1, d2] => { results := [.lit (.bool true)], args := [d1, d2] }
  | _ => none }
def argsMoreRow : OpenClaim := { program := "ytoknhfmgkgmlhaadoor", sum := "a250243de4e274ddaf11aa85adcd3d3ef4a69536a0ed3d5dc66e6cf3899dcef7", func := "spyglass/spyglasslaw20.ArgsMore", spec := "argsMore", unfollowed := true, recurses := true, named := ["spyglass/args.modes"], apart := false, laid := [("spyglass/args.modes", laid_spyglass_args_modes)] }
def ArgsMoreSaid : Prop := argsMoreRow.holds Tryd.pinned (OpenSpec.ofChange argsMoreSpec)

/-- ITS FALSE NEIGHBOUR: 'it returns false'. Refute it at one input. -/
def argsMoreWrong : ChangeSpec := { name := "argsMore", fn := fun _ => fun
  | [d1, d2] => { results := [.lit (.bool false)], args := [d1, d2] }
  | _ => none }
def ArgsMoreWrongFalsely : Prop := argsMoreRow.holds Tryd.pinned (OpenSpec.ofChange argsMoreWrong)

/- THE SECOND FORM. 'bulk': how many values and letters a reading holds, each counted each time it is reached (what is shared counts as often as it is met; a slice's spare places count too). A statement '..UptoSaid' is the law's where the arguments, and the package variables that the reading takes, are together of bulk at most 1048576: NARROWER than '..Said'. Prove '..Said' where nothing that the law and all that it calls make is longer than what came in: it says more and counts as full. Else prove '..UptoSaid'. A law counts once. -/
mutual
def uptoBulk {H : Type} : DataW H → Nat
  | .lit (.string bytes) => bytes.length + 1
  | .lit _ => 1
  | .nil => 1
  | .ptr d => uptoBulk d + 1
  | .slice elems spare => uptoBulkAll elems + uptoBulkAll spare + 1
  | .agg parts => uptoBulkAll parts + 1
  | .iface _ d => uptoBulk d + 1
  | .map entries => uptoBulkEntries entries + 1
  | .held _ => 1
def uptoBulkAll {H : Type} : List (DataW H) → Nat
  | [] => 0
  | d :: r => uptoBulk d + uptoBulkAll r
def uptoBulkEntries {H : Type} : List (Lit × DataW H) → Nat
  | [] => 0
  | x :: r => uptoBulkEntry x + uptoBulkEntries r
def uptoBulkEntry {H : Type} : Lit × DataW H → Nat
  | (.string bytes, d) => bytes.length + uptoBulk d + 1
  | (_, d) => uptoBulk d + 1
 end
def uptoSmall : (H : Type) → List (DataW H) → Bool := fun _ ds => decide (uptoBulkAll ds ≤ 1048576)
def OpenSpec.upto (s : _root_.Go.ChangeSpec) : _root_.Go.OpenSpec := { _root_.Go.OpenSpec.ofChange s with cond := some uptoSmall }

/-- 'spyglasslaw20.ArgsMany', WHERE WHAT IT READS IS OF BULK AT MOST 1048576: true; the input reads as it did. -/
def argsManyUptoRow : OpenClaim := { program := "ytoknhfmgkgmlhaadoor", sum := "a250243de4e274ddaf11aa85adcd3d3ef4a69536a0ed3d5dc66e6cf3899dcef7", func := "spyglass/spyglasslaw20.ArgsMany", spec := "argsMany", unfollowed := true, recurses := true, named := ["spyglass/args.modes"], apart := false, laid := [("spyglass/args.modes", laid_spyglass_args_modes)], narrowed := true }
def ArgsManyUptoSaid : Prop := argsManyUptoRow.holds Tryd.pinned (OpenSpec.upto argsManySpec)

/-- 'spyglasslaw20.ArgsBack', WHERE WHAT IT READS IS OF BULK AT MOST 1048576: true; the input reads as it did. -/
def argsBackUptoRow : OpenClaim := { program := "ytoknhfmgkgmlhaadoor", sum := "a250243de4e274ddaf11aa85adcd3d3ef4a69536a0ed3d5dc66e6cf3899dcef7", func := "spyglass/spyglasslaw20.ArgsBack", spec := "argsBack", unfollowed := true, recurses := true, named := ["spyglass/args.modes"], apart := false, laid := [("spyglass/args.modes", laid_spyglass_args_modes)], narrowed := true }
def ArgsBackUptoSaid : Prop := argsBackUptoRow.holds Tryd.pinned (OpenSpec.upto argsBackSpec)

/-- 'spyglasslaw20.ArgsTurns', WHERE WHAT IT READS IS OF BULK AT MOST 1048576: true; the input reads as it did. -/
def argsTurnsUptoRow : OpenClaim := { program := "ytoknhfmgkgmlhaadoor", sum := "a250243de4e274ddaf11aa85adcd3d3ef4a69536a0ed3d5dc66e6cf3899dcef7", func := "spyglass/spyglasslaw20.ArgsTurns", spec := "argsTurns", unfollowed := true, recurses := true, named := ["spyglass/args.modes"], apart := false, laid := [("spyglass/args.modes", laid_spyglass_args_modes)], narrowed := true }
def ArgsTurnsUptoSaid : Prop := argsTurnsUptoRow.holds Tryd.pinned (OpenSpec.upto argsTurnsSpec)

/-- 'spyglasslaw20.ArgsMore', WHERE WHAT IT READS IS OF BULK AT MOST 1048576: true; the input reads as it did. -/
def argsMoreUptoRow : OpenClaim := { program := "ytoknhfmgkgmlhaadoor", sum := "a250243de4e274ddaf11aa85adcd3d3ef4a69536a0ed3d5dc66e6cf3899dcef7", func := "spyglass/spyglasslaw20.ArgsMore", spec := "argsMore", unfollowed := true, recurses := true, named := ["spyglass/args.modes"], apart := false, laid := [("spyglass/args.modes", laid_spyglass_args_modes)], narrowed := true }
def ArgsMoreUptoSaid : Prop := argsMoreUptoRow.holds Tryd.pinned (OpenSpec.upto argsMoreSpec)

end Rows
end Go.Proofs.YtoknhfmgkgmlhaaDoor
