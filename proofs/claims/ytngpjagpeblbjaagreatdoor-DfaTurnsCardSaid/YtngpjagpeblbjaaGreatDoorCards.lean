/-
  DERIVED. GIVEN WITH THE SEED: THE CARDS: each row of YtngpjagpeblbjaaGreatDoorRows.lean that lists a variable, with what it lists TIED to the program's text (the seventh form; the later family's looks); each row that meets fmt, with fmt's text TOLD by the authors' own Lean function (tested against real Go, not proved from fmt's source: count such statements apart). THE CARD IS WHAT COUNTS. Prove the row's statement (the work); the ties are given (YtngpjagpeblbjaaGreatDoorTie.lean); close each card by the builder's one call (the guide's Derived/Test/ToyasCard.lean, 'card_holds'). Laid BY PROGRAM, IN A SANDBOX (cutbox-door.mjs). By AI agents, Wed Nov 11 2026. No macro, syntax, notation, axiom, sorry.
-/
import Derived.Test.YtngpjagpeblbjaaGreatDoorRows
import GoSem.ClaimSeven
namespace Go.Proofs.YtngpjagpeblbjaaGreatDoor
namespace Rows

/-- THE TIED CARD OF 'spyglasslaw08.DfaInside'. -/
def dfaInsideCard : Claim7 := { stood := { row := dfaInsideRow, standIns := [], harness := (true, "aaeb6ccd1883032e798772c213d358978cc132bb231f5bc5129d5b0c3f7c4502"), looks := true }, kinds := [], alts := [], laidByText := true, laidKinds := [.data], laidTests := true, laidLooks := .later }
def DfaInsideCardSaid : Prop := Claim7.holds Tryz.pinned (.plain (OpenSpec.ofChange dfaInsideSpec)) dfaInsideCard

/-- THE TIED CARD OF 'spyglasslaw08.DfaHolds'. -/
def dfaHoldsCard : Claim7 := { stood := { row := dfaHoldsRow, standIns := [], harness := (true, "aaeb6ccd1883032e798772c213d358978cc132bb231f5bc5129d5b0c3f7c4502"), looks := true }, kinds := [], alts := [], laidByText := true, laidKinds := [.data], laidTests := true, laidLooks := .later }
def DfaHoldsCardSaid : Prop := Claim7.holds Tryz.pinned (.plain (OpenSpec.ofChange dfaHoldsSpec)) dfaHoldsCard

/-- THE TIED CARD OF 'spyglasslaw08.DfaMakes'. -/
def dfaMakesCard : Claim7 := { stood := { row := dfaMakesRow, standIns := [], harness := (true, "aaeb6ccd1883032e798772c213d358978cc132bb231f5bc5129d5b0c3f7c4502"), looks := true }, kinds := [], alts := [], laidByText := true, laidKinds := [.data], laidTests := true, laidLooks := .later }
def DfaMakesCardSaid : Prop := Claim7.holds Tryz.pinned (.plain (OpenSpec.ofChange dfaMakesSpec)) dfaMakesCard

/-- THE TIED CARD OF 'spyglasslaw08.DfaRuns'. -/
def dfaRunsCard : Claim7 := { stood := { row := dfaRunsRow, standIns := [], harness := (true, "aaeb6ccd1883032e798772c213d358978cc132bb231f5bc5129d5b0c3f7c4502"), looks := true }, kinds := [], alts := [], laidByText := true, laidKinds := [.data], laidTests := true, laidLooks := .later }
def DfaRunsCardSaid : Prop := Claim7.holds Tryz.pinned (.plain (OpenSpec.ofChange dfaRunsSpec)) dfaRunsCard

/-- THE TIED CARD OF 'spyglasslaw08.DfaTwo'. -/
def dfaTwoCard : Claim7 := { stood := { row := dfaTwoRow, standIns := [], harness := (true, "aaeb6ccd1883032e798772c213d358978cc132bb231f5bc5129d5b0c3f7c4502"), looks := true }, kinds := [], alts := [], laidByText := true, laidKinds := [.data], laidTests := true, laidLooks := .later }
def DfaTwoCardSaid : Prop := Claim7.holds Tryz.pinned (.plain (OpenSpec.ofChange dfaTwoSpec)) dfaTwoCard

/-- THE TIED CARD OF 'spyglasslaw08.DfaLeast'. -/
def dfaLeastCard : Claim7 := { stood := { row := dfaLeastRow, standIns := [], harness := (true, "aaeb6ccd1883032e798772c213d358978cc132bb231f5bc5129d5b0c3f7c4502"), looks := true }, kinds := [], alts := [], laidByText := true, laidKinds := [.data], laidTests := true, laidLooks := .later }
def DfaLeastCardSaid : Prop := Claim7.holds Tryz.pinned (.plain (OpenSpec.ofChange dfaLeastSpec)) dfaLeastCard

/-- THE TIED CARD OF 'spyglasslaw08.DfaTurns'. -/
def dfaTurnsCard : Claim7 := { stood := { row := dfaTurnsRow, standIns := [], harness := (true, "aaeb6ccd1883032e798772c213d358978cc132bb231f5bc5129d5b0c3f7c4502"), looks := true }, kinds := [], alts := [], laidByText := true, laidKinds := [.data], laidTests := true, laidLooks := .later }
def DfaTurnsCardSaid : Prop := Claim7.holds Tryz.pinned (.plain (OpenSpec.ofChange dfaTurnsSpec)) dfaTurnsCard

/-- THE SECOND FORM's CARD OF 'spyglasslaw08.DfaInside'. -/
def dfaInsideUptoCard : Claim7 := { stood := { row := dfaInsideUptoRow, standIns := [], harness := (true, "aaeb6ccd1883032e798772c213d358978cc132bb231f5bc5129d5b0c3f7c4502"), looks := true }, kinds := [], alts := [], laidByText := true, laidKinds := [.data], laidTests := true, laidLooks := .later }
def DfaInsideUptoCardSaid : Prop := Claim7.holds Tryz.pinned (.plain (OpenSpec.upto dfaInsideSpec)) dfaInsideUptoCard

/-- THE SECOND FORM's CARD OF 'spyglasslaw08.DfaHolds'. -/
def dfaHoldsUptoCard : Claim7 := { stood := { row := dfaHoldsUptoRow, standIns := [], harness := (true, "aaeb6ccd1883032e798772c213d358978cc132bb231f5bc5129d5b0c3f7c4502"), looks := true }, kinds := [], alts := [], laidByText := true, laidKinds := [.data], laidTests := true, laidLooks := .later }
def DfaHoldsUptoCardSaid : Prop := Claim7.holds Tryz.pinned (.plain (OpenSpec.upto dfaHoldsSpec)) dfaHoldsUptoCard

/-- THE SECOND FORM's CARD OF 'spyglasslaw08.DfaMakes'. -/
def dfaMakesUptoCard : Claim7 := { stood := { row := dfaMakesUptoRow, standIns := [], harness := (true, "aaeb6ccd1883032e798772c213d358978cc132bb231f5bc5129d5b0c3f7c4502"), looks := true }, kinds := [], alts := [], laidByText := true, laidKinds := [.data], laidTests := true, laidLooks := .later }
def DfaMakesUptoCardSaid : Prop := Claim7.holds Tryz.pinned (.plain (OpenSpec.upto dfaMakesSpec)) dfaMakesUptoCard

/-- THE SECOND FORM's CARD OF 'spyglasslaw08.DfaRuns'. -/
def dfaRunsUptoCard : Claim7 := { stood := { row := dfaRunsUptoRow, standIns := [], harness := (true, "aaeb6ccd1883032e798772c213d358978cc132bb231f5bc5129d5b0c3f7c4502"), looks := true }, kinds := [], alts := [], laidByText := true, laidKinds := [.data], laidTests := true, laidLooks := .later }
def DfaRunsUptoCardSaid : Prop := Claim7.holds Tryz.pinned (.plain (OpenSpec.upto dfaRunsSpec)) dfaRunsUptoCard

/-- THE SECOND FORM's CARD OF 'spyglasslaw08.DfaTwo'. -/
def dfaTwoUptoCard : Claim7 := { stood := { row := dfaTwoUptoRow, standIns := [], harness := (true, "aaeb6ccd1883032e798772c213d358978cc132bb231f5bc5129d5b0c3f7c4502"), looks := true }, kinds := [], alts := [], laidByText := true, laidKinds := [.data], laidTests := true, laidLooks := .later }
def DfaTwoUptoCardSaid : Prop := Claim7.holds Tryz.pinned (.plain (OpenSpec.upto dfaTwoSpec)) dfaTwoUptoCard

/-- THE SECOND FORM's CARD OF 'spyglasslaw08.DfaLeast'. -/
def dfaLeastUptoCard : Claim7 := { stood := { row := dfaLeastUptoRow, standIns := [], harness := (true, "aaeb6ccd1883032e798772c213d358978cc132bb231f5bc5129d5b0c3f7c4502"), looks := true }, kinds := [], alts := [], laidByText := true, laidKinds := [.data], laidTests := true, laidLooks := .later }
def DfaLeastUptoCardSaid : Prop := Claim7.holds Tryz.pinned (.plain (OpenSpec.upto dfaLeastSpec)) dfaLeastUptoCard

/-- THE SECOND FORM's CARD OF 'spyglasslaw08.DfaTurns'. -/
def dfaTurnsUptoCard : Claim7 := { stood := { row := dfaTurnsUptoRow, standIns := [], harness := (true, "aaeb6ccd1883032e798772c213d358978cc132bb231f5bc5129d5b0c3f7c4502"), looks := true }, kinds := [], alts := [], laidByText := true, laidKinds := [.data], laidTests := true, laidLooks := .later }
def DfaTurnsUptoCardSaid : Prop := Claim7.holds Tryz.pinned (.plain (OpenSpec.upto dfaTurnsSpec)) dfaTurnsUptoCard
end Rows
end Go.Proofs.YtngpjagpeblbjaaGreatDoor
