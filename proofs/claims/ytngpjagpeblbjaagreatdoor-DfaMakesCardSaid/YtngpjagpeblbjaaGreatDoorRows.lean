/-
  NARROWER THAN 'FOR EVERY INPUT', by the rows' own cells (each row's printed sentence says how): DfaInside: laid · DfaHolds: laid · DfaMakes: laid · DfaRuns: laid · DfaTwo: laid · DfaLeast: laid · DfaTurns: laid.
  DERIVED. THE GIVEN ROWS OF THIS SEAT. 7 by the template 'for every input the law returns true; each argument reads behind the call as it read before'; 0 by the template 'total and deterministic' (their statements: YtngpjagpeblbjaaGreatDoorTotals.lean).
  GIVEN WITH THE SEED: the statements are not yours to turn. If you find one false, say at which input.
  Laid BY PROGRAM, IN A SANDBOX (cutbox-rows.mjs): the forced cells as the released guide's own fill.sh prints them over the translation ea4df02844ddcacf… (all of the seat's roots in one cut). By AI agents, Wed Nov 11 2026. No macro, syntax, notation, axiom, sorry.
-/
import Derived.Test.YtngpjagpeblbjaaGreatDoorChecked
import GoSem.Claim
import GoSem.ClaimJoined
import GoSem.ClaimMapViews
import Derived.JoinedTies
import Derived.KernelRfl
namespace Go.Proofs.YtngpjagpeblbjaaGreatDoor
/- THE CELL 'sum', in the pinned program and in every row, IS THE sha256 OF THE DUMP (.gsa) THAT YtngpjagpeblbjaaGreatDoorProg.lean LOADS. Nothing in Lean hashes anything: it is a label: what it is worth is what the hold of that sum in a sandbox is worth. -/
noncomputable def Tryz.pinned : Pinned := { name := "ytngpjagpeblbjaagreatdoor", sum := "ea4df02844ddcacfe91bb08a523d441a52070817833dbdc72326675625a9bf81", checked := Tryz.checked }
namespace Rows
def none {H : Type} : Left H := { results := [], args := [] }

/- WHAT THE LISTED PACKAGE-LEVEL VARIABLES READ AS WHEN THE CALL BEGINS. Each datum BY PROGRAM (the guide's laid-datum.mjs) off the statement by which the dump's own 'gosem.cut.vars' lays the variable. In a bare row this is a premise. The card (YtngpjagpeblbjaaGreatDoorCards.lean) ties it to the program's text. -/
def laid_math_bits_deBruijn64tab {H : Type} : DataW H := .agg [.lit (.int .u8 0), .lit (.int .u8 1), .lit (.int .u8 56), .lit (.int .u8 2), .lit (.int .u8 57), .lit (.int .u8 49), .lit (.int .u8 28), .lit (.int .u8 3), .lit (.int .u8 61), .lit (.int .u8 58), .lit (.int .u8 42), .lit (.int .u8 50), .lit (.int .u8 38), .lit (.int .u8 29), .lit (.int .u8 17), .lit (.int .u8 4), .lit (.int .u8 62), .lit (.int .u8 47), .lit (.int .u8 59), .lit (.int .u8 36), .lit (.int .u8 45), .lit (.int .u8 43), .lit (.int .u8 51), .lit (.int .u8 22), .lit (.int .u8 53), .lit (.int .u8 39), .lit (.int .u8 33), .lit (.int .u8 30), .lit (.int .u8 24), .lit (.int .u8 18), .lit (.int .u8 12), .lit (.int .u8 5), .lit (.int .u8 63), .lit (.int .u8 55), .lit (.int .u8 48), .lit (.int .u8 27), .lit (.int .u8 60), .lit (.int .u8 41), .lit (.int .u8 37), .lit (.int .u8 16), .lit (.int .u8 46), .lit (.int .u8 35), .lit (.int .u8 44), .lit (.int .u8 21), .lit (.int .u8 52), .lit (.int .u8 32), .lit (.int .u8 23), .lit (.int .u8 11), .lit (.int .u8 54), .lit (.int .u8 26), .lit (.int .u8 40), .lit (.int .u8 15), .lit (.int .u8 34), .lit (.int .u8 20), .lit (.int .u8 31), .lit (.int .u8 10), .lit (.int .u8 25), .lit (.int .u8 14), .lit (.int .u8 19), .lit (.int .u8 9), .lit (.int .u8 13), .lit (.int .u8 8), .lit (.int .u8 7), .lit (.int .u8 6)]

/-- 'spyglasslaw08.DfaInside': WHATEVER THE INPUT: true; the input reads as it did. -/
def dfaInsideSpec : ChangeSpec := { name := "dfaInside", fn := fun _ => fun
  | [d1, d2] => { results := [.lit (.bool true)], args := [d1, d2] }
  | _ => none }
def dfaInsideRow : OpenClaim := { program := "ytngpjagpeblbjaagreatdoor", sum := "ea4df02844ddcacfe91bb08a523d441a52070817833dbdc72326675625a9bf81", func := "spyglass/spyglasslaw08.DfaInside", spec := "dfaInside", unfollowed := true, recurses := true, named := ["math/bits.deBruijn64tab"], plainKeys := false, apart := false, laid := [("math/bits.deBruijn64tab", laid_math_bits_deBruijn64tab)] }
def DfaInsideSaid : Prop := dfaInsideRow.holds Tryz.pinned (OpenSpec.ofChange dfaInsideSpec)

/-- ITS FALSE NEIGHBOUR: 'it returns false'. Refute it at one input. -/
def dfaInsideWrong : ChangeSpec := { name := "dfaInside", fn := fun _ => fun
  | [d1, d2] => { results := [.lit (.bool false)], args := [d1, d2] }
  | _ => none }
def DfaInsideWrongFalsely : Prop := dfaInsideRow.holds Tryz.pinned (OpenSpec.ofChange dfaInsideWrong)

/-- 'spyglasslaw08.DfaHolds': WHATEVER THE INPUT: true; the input reads as it did. -/
def dfaHoldsSpec : ChangeSpec := { name := "dfaHolds", fn := fun _ => fun
  | [d1, d2, d3] => { results := [.lit (.bool true)], args := [d1, d2, d3] }
  | _ => none }
def dfaHoldsRow : OpenClaim := { program := "ytngpjagpeblbjaagreatdoor", sum := "ea4df02844ddcacfe91bb08a523d441a52070817833dbdc72326675625a9bf81", func := "spyglass/spyglasslaw08.DfaHolds", spec := "dfaHolds", unfollowed := true, recurses := true, named := ["math/bits.deBruijn64tab"], plainKeys := false, apart := false, laid := [("math/bits.deBruijn64tab", laid_math_bits_deBruijn64tab)] }
def DfaHoldsSaid : Prop := dfaHoldsRow.holds Tryz.pinned (OpenSpec.ofChange dfaHoldsSpec)

/-- ITS FALSE NEIGHBOUR: 'it returns false'. Refute it at one input. -/
def dfaHoldsWrong : ChangeSpec := { name := "dfaHolds", fn := fun _ => fun
  | [d1, d2, d3] => { results := [.lit (.bool false)], args := [d1, d2, d3] }
  | _ => none }
def DfaHoldsWrongFalsely : Prop := dfaHoldsRow.holds Tryz.pinned (OpenSpec.ofChange dfaHoldsWrong)

/-- 'spyglasslaw08.DfaMakes': WHATEVER THE INPUT: true; the input reads as it did. -/
def dfaMakesSpec : ChangeSpec := { name := "dfaMakes", fn := fun _ => fun
  | [d1, d2] => { results := [.lit (.bool true)], args := [d1, d2] }
  | _ => none }
def dfaMakesRow : OpenClaim := { program := "ytngpjagpeblbjaagreatdoor", sum := "ea4df02844ddcacfe91bb08a523d441a52070817833dbdc72326675625a9bf81", func := "spyglass/spyglasslaw08.DfaMakes", spec := "dfaMakes", unfollowed := true, recurses := true, named := ["math/bits.deBruijn64tab"], plainKeys := false, apart := false, laid := [("math/bits.deBruijn64tab", laid_math_bits_deBruijn64tab)] }
def DfaMakesSaid : Prop := dfaMakesRow.holds Tryz.pinned (OpenSpec.ofChange dfaMakesSpec)

/-- ITS FALSE NEIGHBOUR: 'it returns false'. Refute it at one input. -/
def dfaMakesWrong : ChangeSpec := { name := "dfaMakes", fn := fun _ => fun
  | [d1, d2] => { results := [.lit (.bool false)], args := [d1, d2] }
  | _ => none }
def DfaMakesWrongFalsely : Prop := dfaMakesRow.holds Tryz.pinned (OpenSpec.ofChange dfaMakesWrong)

/-- 'spyglasslaw08.DfaRuns': WHATEVER THE INPUT: true; the input reads as it did. -/
def dfaRunsSpec : ChangeSpec := { name := "dfaRuns", fn := fun _ => fun
  | [d1, d2] => { results := [.lit (.bool true)], args := [d1, d2] }
  | _ => none }
def dfaRunsRow : OpenClaim := { program := "ytngpjagpeblbjaagreatdoor", sum := "ea4df02844ddcacfe91bb08a523d441a52070817833dbdc72326675625a9bf81", func := "spyglass/spyglasslaw08.DfaRuns", spec := "dfaRuns", unfollowed := true, recurses := true, named := ["math/bits.deBruijn64tab"], plainKeys := false, apart := false, laid := [("math/bits.deBruijn64tab", laid_math_bits_deBruijn64tab)] }
def DfaRunsSaid : Prop := dfaRunsRow.holds Tryz.pinned (OpenSpec.ofChange dfaRunsSpec)

/-- ITS FALSE NEIGHBOUR: 'it returns false'. Refute it at one input. -/
def dfaRunsWrong : ChangeSpec := { name := "dfaRuns", fn := fun _ => fun
  | [d1, d2] => { results := [.lit (.bool false)], args := [d1, d2] }
  | _ => none }
def DfaRunsWrongFalsely : Prop := dfaRunsRow.holds Tryz.pinned (OpenSpec.ofChange dfaRunsWrong)

/-- 'spyglasslaw08.DfaTwo': WHATEVER THE INPUT: true; the input reads as it did. -/
def dfaTwoSpec : ChangeSpec := { name := "dfaTwo", fn := fun _ => fun
  | [d1, d2] => { results := [.lit (.bool true)], args := [d1, d2] }
  | _ => none }
def dfaTwoRow : OpenClaim := { program := "ytngpjagpeblbjaagreatdoor", sum := "ea4df02844ddcacfe91bb08a523d441a52070817833dbdc72326675625a9bf81", func := "spyglass/spyglasslaw08.DfaTwo", spec := "dfaTwo", unfollowed := true, recurses := true, named := ["math/bits.deBruijn64tab"], plainKeys := false, apart := false, laid := [("math/bits.deBruijn64tab", laid_math_bits_deBruijn64tab)] }
def DfaTwoSaid : Prop := dfaTwoRow.holds Tryz.pinned (OpenSpec.ofChange dfaTwoSpec)

/-- ITS FALSE NEIGHBOUR: 'it returns false'. Refute it at one input. -/
def dfaTwoWrong : ChangeSpec := { name := "dfaTwo", fn := fun _ => fun
  | [d1, d2] => { results := [.lit (.bool false)], args := [d1, d2] }
  | _ => none }
def DfaTwoWrongFalsely : Prop := dfaTwoRow.holds Tryz.pinned (OpenSpec.ofChange dfaTwoWrong)

/-- 'spyglasslaw08.DfaLeast': WHATEVER THE INPUT: true; the input reads as it did. -/
def dfaLeastSpec : ChangeSpec := { name := "dfaLeast", fn := fun _ => fun
  | [d1, d2] => { results := [.lit (.bool true)], args := [d1, d2] }
  | _ => none }
def dfaLeastRow : OpenClaim := { program := "ytngpjagpeblbjaagreatdoor", sum := "ea4df02844ddcacfe91bb08a523d441a52070817833dbdc72326675625a9bf81", func := "spyglass/spyglasslaw08.DfaLeast", spec := "dfaLeast", unfollowed := true, recurses := true, named := ["math/bits.deBruijn64tab"], plainKeys := false, apart := false, laid := [("math/bits.deBruijn64tab", laid_math_bits_deBruijn64tab)] }
def DfaLeastSaid : Prop := dfaLeastRow.holds Tryz.pinned (OpenSpec.ofChange dfaLeastSpec)

/-- ITS FALSE NEIGHBOUR: 'it returns false'. Refute it at one input. -/
def dfaLeastWrong : ChangeSpec := { name := "dfaLeast", fn := fun _ => fun
  | [d1, d2] => { results := [.lit (.bool false)], args := [d1, d2] }
  | _ => none }
def DfaLeastWrongFalsely : Prop := dfaLeastRow.holds Tryz.pinned (OpenSpec.ofChange dfaLeastWrong)

/-- 'spyglasslaw08.DfaTurns': WHATEVER THE INPUT: true; the input reads as it did. -/
def dfaTurnsSpec : ChangeSpec := { name := "dfaTurns", fn := fun _ => fun
  | [d] => { results := [.lit (.bool true)], args := [d] }
  | _ => none }
def dfaTurnsRow : OpenClaim := { program := "ytngpjagpeblbjaagreatdoor", sum := "ea4df02844ddcacfe91bb08a523d441a52070817833dbdc72326675625a9bf81", func := "spyglass/spyglasslaw08.DfaTurns", spec := "dfaTurns", unfollowed := true, recurses := true, named := ["math/bits.deBruijn64tab"], plainKeys := false, apart := false, laid := [("math/bits.deBruijn64tab", laid_math_bits_deBruijn64tab)] }
def DfaTurnsSaid : Prop := dfaTurnsRow.holds Tryz.pinned (OpenSpec.ofChange dfaTurnsSpec)

/-- ITS FALSE NEIGHBOUR: 'it returns false'. Refute it at one input. -/
def dfaTurnsWrong : ChangeSpec := { name := "dfaTurns", fn := fun _ => fun
  | [d] => { results := [.lit (.bool false)], args := [d] }
  | _ => none }
def DfaTurnsWrongFalsely : Prop := dfaTurnsRow.holds Tryz.pinned (OpenSpec.ofChange dfaTurnsWrong)

/- THE SECOND FORM. 'bulk': how many values and letters a reading holds, each counted each time it is reached (what is shared counts as often as it is met; a slice's spare places count too). A statement '..UptoSaid' is the law's where the arguments, and the package variables that the reading takes, are together of bulk at most 1048576: NARROWER than '..Said'. Prove '..Said' where nothing that the law and all that it calls make is longer than what came in: it says more and counts as full. Else prove '..UptoSaid'. A law counts once. -/
mutual
def uptoBulk {H : Type} : DataW H → Nat
  | .lit (.string bytes) => bytes.length + 1
  | .lit _ => 1
  | .nil => 1
  | .ptr d => uptoBulk d + 1
  | .slice elems spare => uptoBulkAll elems + uptoBulkAll spare + 1
  | .agg parts => uptoBulkAll parts + 1
  | .iface _ d => uptoBulk d + 1
  | .map entries => uptoBulkEntries entries + 1
  | .held _ => 1
def uptoBulkAll {H : Type} : List (DataW H) → Nat
  | [] => 0
  | d :: r => uptoBulk d + uptoBulkAll r
def uptoBulkEntries {H : Type} : List (Lit × DataW H) → Nat
  | [] => 0
  | x :: r => uptoBulkEntry x + uptoBulkEntries r
def uptoBulkEntry {H : Type} : Lit × DataW H → Nat
  | (.string bytes, d) => bytes.length + uptoBulk d + 1
  | (_, d) => uptoBulk d + 1
 end
def uptoSmall : (H : Type) → List (DataW H) → Bool := fun _ ds => decide (uptoBulkAll ds ≤ 1048576)
def OpenSpec.upto (s : _root_.Go.ChangeSpec) : _root_.Go.OpenSpec := { _root_.Go.OpenSpec.ofChange s with cond := some uptoSmall }

/-- 'spyglasslaw08.DfaInside', WHERE WHAT IT READS IS OF BULK AT MOST 1048576: true; the input reads as it did. -/
def dfaInsideUptoRow : OpenClaim := { program := "ytngpjagpeblbjaagreatdoor", sum := "ea4df02844ddcacfe91bb08a523d441a52070817833dbdc72326675625a9bf81", func := "spyglass/spyglasslaw08.DfaInside", spec := "dfaInside", unfollowed := true, recurses := true, named := ["math/bits.deBruijn64tab"], plainKeys := false, apart := false, laid := [("math/bits.deBruijn64tab", laid_math_bits_deBruijn64tab)], narrowed := true }
def DfaInsideUptoSaid : Prop := dfaInsideUptoRow.holds Tryz.pinned (OpenSpec.upto dfaInsideSpec)

/-- 'spyglasslaw08.DfaHolds', WHERE WHAT IT READS IS OF BULK AT MOST 1048576: true; the input reads as it did. -/
def dfaHoldsUptoRow : OpenClaim := { program := "ytngpjagpeblbjaagreatdoor", sum := "ea4df02844ddcacfe91bb08a523d441a52070817833dbdc72326675625a9bf81", func := "spyglass/spyglasslaw08.DfaHolds", spec := "dfaHolds", unfollowed := true, recurses := true, named := ["math/bits.deBruijn64tab"], plainKeys := false, apart := false, laid := [("math/bits.deBruijn64tab", laid_math_bits_deBruijn64tab)], narrowed := true }
def DfaHoldsUptoSaid : Prop := dfaHoldsUptoRow.holds Tryz.pinned (OpenSpec.upto dfaHoldsSpec)

/-- 'spyglasslaw08.DfaMakes', WHERE WHAT IT READS IS OF BULK AT MOST 1048576: true; the input reads as it did. -/
def dfaMakesUptoRow : OpenClaim := { program := "ytngpjagpeblbjaagreatdoor", sum := "ea4df02844ddcacfe91bb08a523d441a52070817833dbdc72326675625a9bf81", func := "spyglass/spyglasslaw08.DfaMakes", spec := "dfaMakes", unfollowed := true, recurses := true, named := ["math/bits.deBruijn64tab"], plainKeys := false, apart := false, laid := [("math/bits.deBruijn64tab", laid_math_bits_deBruijn64tab)], narrowed := true }
def DfaMakesUptoSaid : Prop := dfaMakesUptoRow.holds Tryz.pinned (OpenSpec.upto dfaMakesSpec)

/-- 'spyglasslaw08.DfaRuns', WHERE WHAT IT READS IS OF BULK AT MOST 1048576: true; the input reads as it did. -/
def dfaRunsUptoRow : OpenClaim := { program := "ytngpjagpeblbjaagreatdoor", sum := "ea4df02844ddcacfe91bb08a523d441a52070817833dbdc72326675625a9bf81", func := "spyglass/spyglasslaw08.DfaRuns", spec := "dfaRuns", unfollowed := true, recurses := true, named := ["math/bits.deBruijn64tab"], plainKeys := false, apart := false, laid := [("math/bits.deBruijn64tab", laid_math_bits_deBruijn64tab)], narrowed := true }
def DfaRunsUptoSaid : Prop := dfaRunsUptoRow.holds Tryz.pinned (OpenSpec.upto dfaRunsSpec)

/-- 'spyglasslaw08.DfaTwo', WHERE WHAT IT READS IS OF BULK AT MOST 1048576: true; the input reads as it did. -/
def dfaTwoUptoRow : OpenClaim := { program := "ytngpjagpeblbjaagreatdoor", sum := "ea4df02844ddcacfe91bb08a523d441a52070817833dbdc72326675625a9bf81", func := "spyglass/spyglasslaw08.DfaTwo", spec := "dfaTwo", unfollowed := true, recurses := true, named := ["math/bits.deBruijn64tab"], plainKeys := false, apart := false, laid := [("math/bits.deBruijn64tab", laid_math_bits_deBruijn64tab)], narrowed := true }
def DfaTwoUptoSaid : Prop := dfaTwoUptoRow.holds Tryz.pinned (OpenSpec.upto dfaTwoSpec)

/-- 'spyglasslaw08.DfaLeast', WHERE WHAT IT READS IS OF BULK AT MOST 1048576: true; the input reads as it did. -/
def dfaLeastUptoRow : OpenClaim := { program := "ytngpjagpeblbjaagreatdoor", sum := "ea4df02844ddcacfe91bb08a523d441a52070817833dbdc72326675625a9bf81", func := "spyglass/spyglasslaw08.DfaLeast", spec := "dfaLeast", unfollowed := true, recurses := true, named := ["math/bits.deBruijn64tab"], plainKeys := false, apart := false, laid := [("math/bits.deBruijn64tab", laid_math_bits_deBruijn64tab)], narrowed := true }
def DfaLeastUptoSaid : Prop := dfaLeastUptoRow.holds Tryz.pinned (OpenSpec.upto dfaLeastSpec)

/-- 'spyglasslaw08.DfaTurns', WHERE WHAT IT READS IS OF BULK AT MOST 1048576: true; the input reads as it did. -/
def dfaTurnsUptoRow : OpenClaim := { program := "ytngpjagpeblbjaagreatdoor", sum := "ea4df02844ddcacfe91bb08a523d441a52070817833dbdc72326675625a9bf81", func := "spyglass/spyglasslaw08.DfaTurns", spec := "dfaTurns", unfollowed := true, recurses := true, named := ["math/bits.deBruijn64tab"], plainKeys := false, apart := false, laid := [("math/bits.deBruijn64tab", laid_math_bits_deBruijn64tab)], narrowed := true }
def DfaTurnsUptoSaid : Prop := dfaTurnsUptoRow.holds Tryz.pinned (OpenSpec.upto dfaTurnsSpec)

end Rows
end Go.Proofs.YtngpjagpeblbjaaGreatDoor
