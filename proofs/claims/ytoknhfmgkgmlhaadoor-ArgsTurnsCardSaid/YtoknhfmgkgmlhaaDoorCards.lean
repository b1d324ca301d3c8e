/-
  DERIVED. GIVEN WITH THE SEED: THE CARDS: each row of YtoknhfmgkgmlhaaDoorRows.lean that lists a variable, with what it lists TIED to the program's text (the seventh form; the later family's looks); each row that meets fmt, with fmt's text TOLD by the authors' own Lean function (tested against real Go, not proved from fmt's source: count such statements apart). THE CARD IS WHAT COUNTS. Prove the row's statement (the work); the ties are given (YtoknhfmgkgmlhaaDoorTie.lean); close each card by the builder's one call (the guide's Derived/Test/ToyasCard.lean, 'card_holds'). Laid BY PROGRAM, IN A SANDBOX (cutbox-door.mjs). By AI agents, Wed Nov 11 2026. No macro, syntax, notation, axiom, sorry.
-/
import Derived.Test.YtoknhfmgkgmlhaaDoorRows
import GoSem.ClaimSeven
namespace Go.Proofs.YtoknhfmgkgmlhaaDoor
namespace Rows

/-- THE TIED CARD OF 'spyglasslaw20.ArgsMany'. -/
def argsManyCard : Claim7 := { stood := { row := argsManyRow, standIns := [], harness := (true, "643cf950bbb31a7f81ed621e41e2be1c58c3e3be005360c5bdd61e5bbe60923e"), looks := false }, kinds := [], alts := [], laidByText := true, laidKinds := [.data], laidTests := true, laidLooks := .later }
def ArgsManyCardSaid : Prop := Claim7.holds Tryd.pinned (.plain (OpenSpec.ofChange argsManySpec)) argsManyCard

/-- THE TIED CARD OF 'spyglasslaw20.ArgsBack'. -/
def argsBackCard : Claim7 := { stood := { row := argsBackRow, standIns := [], harness := (true, "643cf950bbb31a7f81ed621e41e2be1c58c3e3be005360c5bdd61e5bbe60923e"), looks := false }, kinds := [], alts := [], laidByText := true, laidKinds := [.data], laidTests := true, laidLooks := .later }
def ArgsBackCardSaid : Prop := Claim7.holds Tryd.pinned (.plain (OpenSpec.ofChange argsBackSpec)) argsBackCard

/-- THE TIED CARD OF 'spyglasslaw20.ArgsTurns'. -/
def argsTurnsCard : Claim7 := { stood := { row := argsTurnsRow, standIns := [], harness := (true, "643cf950bbb31a7f81ed621e41e2be1c58c3e3be005360c5bdd61e5bbe60923e"), looks := false }, kinds := [], alts := [], laidByText := true, laidKinds := [.data], laidTests := true, laidLooks := .later }
def ArgsTurnsCardSaid : Prop := Claim7.holds Tryd.pinned (.plain (OpenSpec.ofChange argsTurnsSpec)) argsTurnsCard

/-- THE TIED CARD OF 'spyglasslaw20.ArgsMore'. -/
def argsMoreCard : Claim7 := { stood := { row := argsMoreRow, standIns := [], harness := (true, "643cf950bbb31a7f81ed621e41e2be1c58c3e3be005360c5bdd61e5bbe60923e"), looks := false }, kinds := [], alts := [], laidByText := true, laidKinds := [.data], laidTests := true, laidLooks := .later }
def ArgsMoreCardSaid : Prop := Claim7.holds Tryd.pinned (.plain (OpenSpec.ofChange argsMoreSpec)) argsMoreCard

/-- THE SECOND FORM's CARD OF 'spyglasslaw20.ArgsMany'. -/
def argsManyUptoCard : Claim7 := { stood := { row := argsManyUptoRow, standIns := [], harness := (true, "643cf950bbb31a7f81ed621e41e2be1c58c3e3be005360c5bdd61e5bbe60923e"), looks := false }, kinds := [], alts := [], laidByText := true, laidKinds := [.data], laidTests := true, laidLooks := .later }
def ArgsManyUptoCardSaid : Prop := Claim7.holds Tryd.pinned (.plain (OpenSpec.upto argsManySpec)) argsManyUptoCard

/-- THE SECOND FORM's CARD OF 'spyglasslaw20.ArgsBack'. -/
def argsBackUptoCard : Claim7 := { stood := { row := argsBackUptoRow, standIns := [], harness := (true, "643cf950bbb31a7f81ed621e41e2be1c58c3e3be005360c5bdd61e5bbe60923e"), looks := false }, kinds := [], alts := [], laidByText := true, laidKinds := [.data], laidTests := true, laidLooks := .later }
def ArgsBackUptoCardSaid : Prop := Claim7.holds Tryd.pinned (.plain (OpenSpec.upto argsBackSpec)) argsBackUptoCard

/-- THE SECOND FORM's CARD OF 'spyglasslaw20.ArgsTurns'. -/
def argsTurnsUptoCard : Claim7 := { stood := { row := argsTurnsUptoRow, standIns := [], harness := (true, "643cf950bbb31a7f81ed621e41e2be1c58c3e3be005360c5bdd61e5bbe60923e"), looks := false }, kinds := [], alts := [], laidByText := true, laidKinds := [.data], laidTests := true, laidLooks := .later }
def ArgsTurnsUptoCardSaid : Prop := Claim7.holds Tryd.pinned (.plain (OpenSpec.upto argsTurnsSpec)) argsTurnsUptoCard

/-- THE SECOND FORM's CARD OF 'spyglasslaw20.ArgsMore'. -/
def argsMoreUptoCard : Claim7 := { stood := { row := argsMoreUptoRow, standIns := [], harness := (true, "643cf950bbb31a7f81ed621e41e2be1c58c3e3be005360c5bdd61e5bbe60923e"), looks := false }, kinds := [], alts := [], laidByText := true, laidKinds := [.data], laidTests := true, laidLooks := .later }
def ArgsMoreUptoCardSaid : Prop := Claim7.holds Tryd.pinned (.plain (OpenSpec.upto argsMoreSpec)) argsMoreUptoCard
end Rows
end Go.Proofs.YtoknhfmgkgmlhaaDoor
