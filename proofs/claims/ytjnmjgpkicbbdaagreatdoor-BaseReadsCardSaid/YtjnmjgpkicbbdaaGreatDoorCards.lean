/-
  DERIVED. GIVEN WITH THE SEED: THE CARDS: each row of YtjnmjgpkicbbdaaGreatDoorRows.lean that lists a variable, with what it lists TIED to the program's text (the seventh form; the later family's looks); each row that meets fmt, with fmt's text TOLD by the authors' own Lean function (tested against real Go, not proved from fmt's source: count such statements apart). THE CARD IS WHAT COUNTS. Prove the row's statement (the work); the ties are given (YtjnmjgpkicbbdaaGreatDoorTie.lean); close each card by the builder's one call (the guide's Derived/Test/ToyasCard.lean, 'card_holds'). Laid BY PROGRAM, IN A SANDBOX (cutbox-door.mjs). By AI agents, Wed Nov 11 2026. No macro, syntax, notation, axiom, sorry.
-/
import Derived.Test.YtjnmjgpkicbbdaaGreatDoorRows
import GoSem.ClaimSeven
namespace Go.Proofs.YtjnmjgpkicbbdaaGreatDoor
namespace Rows

/-- THE TIED CARD OF 'cruciblelaw11.BaseReads'. -/
def baseReadsCard : Claim7 := { stood := { row := baseReadsRow, standIns := [], harness := (true, "a2389981dfee3dc4f4c6ac22570eb2ed00c612d875d586c24402cee3e560ac26"), looks := false }, kinds := [], alts := [], laidByText := true, laidKinds := [.data, .data, .data], laidTests := true, laidLooks := .later }
def BaseReadsCardSaid : Prop := Claim7.holds Tryz.pinned (.plain (OpenSpec.ofChange baseReadsSpec)) baseReadsCard

/-- THE SECOND FORM's CARD OF 'cruciblelaw11.BaseReads'. -/
def baseReadsUptoCard : Claim7 := { stood := { row := baseReadsUptoRow, standIns := [], harness := (true, "a2389981dfee3dc4f4c6ac22570eb2ed00c612d875d586c24402cee3e560ac26"), looks := false }, kinds := [], alts := [], laidByText := true, laidKinds := [.data, .data, .data], laidTests := true, laidLooks := .later }
def BaseReadsUptoCardSaid : Prop := Claim7.holds Tryz.pinned (.plain (OpenSpec.upto baseReadsSpec)) baseReadsUptoCard
end Rows
end Go.Proofs.YtjnmjgpkicbbdaaGreatDoor
