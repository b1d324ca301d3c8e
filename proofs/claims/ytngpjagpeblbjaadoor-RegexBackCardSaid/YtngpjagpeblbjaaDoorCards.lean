/-
  DERIVED. GIVEN WITH THE SEED: THE CARDS: each row of YtngpjagpeblbjaaDoorRows.lean that lists a variable, with what it lists TIED to the program's text (the seventh form; the later family's looks); each row that meets fmt, with fmt's text TOLD by the authors' own Lean function (tested against real Go, not proved from fmt's source: count such statements apart). THE CARD IS WHAT COUNTS. Prove the row's statement (the work); the ties are given (YtngpjagpeblbjaaDoorTie.lean); close each card by the builder's one call (the guide's Derived/Test/ToyasCard.lean, 'card_holds'). Laid BY PROGRAM, IN A SANDBOX (cutbox-door.mjs). By AI agents, Wed Nov 11 2026. No macro, syntax, notation, axiom, sorry.
-/
import Derived.Test.YtngpjagpeblbjaaDoorRows
import GoSem.ClaimSeven
namespace Go.Proofs.YtngpjagpeblbjaaDoor
namespace Rows

/-- THE TIED CARD OF 'spyglasslaw07.RegexMatches'. -/
def regexMatchesCard : Claim7 := { stood := { row := regexMatchesRow, standIns := [], harness := (true, "a2f5d2679e45ca017a1ab40aec1691e74b7898f78c11523d581660894eb364d7"), looks := false }, kinds := [], alts := [], laidByText := true, laidKinds := [.data], laidTests := true, laidLooks := .later }
def RegexMatchesCardSaid : Prop := Claim7.holds Tryd.pinned (.plain (OpenSpec.ofChange regexMatchesSpec)) regexMatchesCard

/-- THE TIED CARD OF 'spyglasslaw07.RegexBack'. -/
def regexBackCard : Claim7 := { stood := { row := regexBackRow, standIns := [], harness := (true, "a2f5d2679e45ca017a1ab40aec1691e74b7898f78c11523d581660894eb364d7"), looks := false }, kinds := [], alts := [], laidByText := true, laidKinds := [.data], laidTests := true, laidLooks := .later }
def RegexBackCardSaid : Prop := Claim7.holds Tryd.pinned (.plain (OpenSpec.ofChange regexBackSpec)) regexBackCard

/-- THE SECOND FORM's CARD OF 'spyglasslaw07.RegexMatches'. -/
def regexMatchesUptoCard : Claim7 := { stood := { row := regexMatchesUptoRow, standIns := [], harness := (true, "a2f5d2679e45ca017a1ab40aec1691e74b7898f78c11523d581660894eb364d7"), looks := false }, kinds := [], alts := [], laidByText := true, laidKinds := [.data], laidTests := true, laidLooks := .later }
def RegexMatchesUptoCardSaid : Prop := Claim7.holds Tryd.pinned (.plain (OpenSpec.upto regexMatchesSpec)) regexMatchesUptoCard

/-- THE SECOND FORM's CARD OF 'spyglasslaw07.RegexBack'. -/
def regexBackUptoCard : Claim7 := { stood := { row := regexBackUptoRow, standIns := [], harness := (true, "a2f5d2679e45ca017a1ab40aec1691e74b7898f78c11523d581660894eb364d7"), looks := false }, kinds := [], alts := [], laidByText := true, laidKinds := [.data], laidTests := true, laidLooks := .later }
def RegexBackUptoCardSaid : Prop := Claim7.holds Tryd.pinned (.plain (OpenSpec.upto regexBackSpec)) regexBackUptoCard
end Rows
end Go.Proofs.YtngpjagpeblbjaaDoor
