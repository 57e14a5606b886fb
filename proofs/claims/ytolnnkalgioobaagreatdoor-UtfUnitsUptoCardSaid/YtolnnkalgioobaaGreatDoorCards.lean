/-
  DERIVED. GIVEN WITH THE SEED: THE CARDS: each row of YtolnnkalgioobaaGreatDoorRows.lean that lists a variable, with what it lists TIED to the program's text (the seventh form; the later family's looks); each row that meets fmt, with fmt's text TOLD by the authors' own Lean function (tested against real Go, not proved from fmt's source: count such statements apart). THE CARD IS WHAT COUNTS. Prove the row's statement (the work); the ties are given (YtolnnkalgioobaaGreatDoorTie.lean); close each card by the builder's one call (the guide's Derived/Test/ToyasCard.lean, 'card_holds'). Laid BY PROGRAM, IN A SANDBOX (cutbox-door.mjs). By AI agents, Wed Nov 11 2026. No macro, syntax, notation, axiom, sorry.
-/
import Derived.Test.YtolnnkalgioobaaGreatDoorRows
import GoSem.ClaimSeven
namespace Go.Proofs.YtolnnkalgioobaaGreatDoor
namespace Rows

/-- THE TIED CARD OF 'cruciblelaw09.UtfRunes'. -/
def utfRunesCard : Claim7 := { stood := { row := utfRunesRow, standIns := [], harness := (true, "844c27af27873f429d16b210b034021455ad457a61025375e59659d595bba3cc"), looks := false }, kinds := [], alts := [], laidByText := true, laidKinds := [.data, .data, .data], laidTests := true, laidLooks := .later }
def UtfRunesCardSaid : Prop := Claim7.holds Tryz.pinned (.plain (OpenSpec.ofChange utfRunesSpec)) utfRunesCard

/-- THE TIED CARD OF 'cruciblelaw09.UtfUnits'. -/
def utfUnitsCard : Claim7 := { stood := { row := utfUnitsRow, standIns := [], harness := (true, "844c27af27873f429d16b210b034021455ad457a61025375e59659d595bba3cc"), looks := false }, kinds := [], alts := [], laidByText := true, laidKinds := [.data, .data, .data], laidTests := true, laidLooks := .later }
def UtfUnitsCardSaid : Prop := Claim7.holds Tryz.pinned (.plain (OpenSpec.ofChange utfUnitsSpec)) utfUnitsCard

/-- THE SECOND FORM's CARD OF 'cruciblelaw09.UtfRunes'. -/
def utfRunesUptoCard : Claim7 := { stood := { row := utfRunesUptoRow, standIns := [], harness := (true, "844c27af27873f429d16b210b034021455ad457a61025375e59659d595bba3cc"), looks := false }, kinds := [], alts := [], laidByText := true, laidKinds := [.data, .data, .data], laidTests := true, laidLooks := .later }
def UtfRunesUptoCardSaid : Prop := Claim7.holds Tryz.pinned (.plain (OpenSpec.upto utfRunesSpec)) utfRunesUptoCard

/-- THE SECOND FORM's CARD OF 'cruciblelaw09.UtfUnits'. -/
def utfUnitsUptoCard : Claim7 := { stood := { row := utfUnitsUptoRow, standIns := [], harness := (true, "844c27af27873f429d16b210b034021455ad457a61025375e59659d595bba3cc"), looks := false }, kinds := [], alts := [], laidByText := true, laidKinds := [.data, .data, .data], laidTests := true, laidLooks := .later }
def UtfUnitsUptoCardSaid : Prop := Claim7.holds Tryz.pinned (.plain (OpenSpec.upto utfUnitsSpec)) utfUnitsUptoCard
end Rows
end Go.Proofs.YtolnnkalgioobaaGreatDoor
