/-
  DERIVED. GIVEN WITH THE SEED: THE CARDS: each row of YtbnckhlfmjoikaaDoorRows.lean that lists a variable, with what it lists TIED to the program's text (the seventh form; the later family's looks); each row that meets fmt, with fmt's text TOLD by the authors' own Lean function (tested against real Go, not proved from fmt's source: count such statements apart). THE CARD IS WHAT COUNTS. Prove the row's statement (the work); the ties are given (YtbnckhlfmjoikaaDoorTie.lean); close each card by the builder's one call (the guide's Derived/Test/ToyasCard.lean, 'card_holds'). Laid BY PROGRAM, IN A SANDBOX (cutbox-door.mjs). By AI agents, Wed Nov 11 2026. No macro, syntax, notation, axiom, sorry.
-/
import Derived.Test.YtbnckhlfmjoikaaDoorRows
import GoSem.ClaimSeven
namespace Go.Proofs.YtbnckhlfmjoikaaDoor
namespace Rows

/-- THE TIED CARD OF 'cruciblelaw19.HeadFloats'. -/
def headFloatsCard : Claim7 := { stood := { row := headFloatsRow, standIns := [], harness := (true, "fe8a45e6f02a8ce9b85cb74b7ecbc479113b4793fe1e95ff98aab285bd98e4ff"), looks := true }, kinds := [], alts := [], laidByText := true, laidKinds := [.widerDeep], laidTests := true, laidLooks := .later }
def HeadFloatsCardSaid : Prop := Claim7.holds Tryd.pinned (.plain (OpenSpec.ofChange headFloatsSpec)) headFloatsCard

/-- THE TIED CARD OF 'cruciblelaw19.HeadWrites'. -/
def headWritesCard : Claim7 := { stood := { row := headWritesRow, standIns := [], harness := (true, "fe8a45e6f02a8ce9b85cb74b7ecbc479113b4793fe1e95ff98aab285bd98e4ff"), looks := true }, kinds := [], alts := [], laidByText := true, laidKinds := [.widerDeep], laidTests := true, laidLooks := .later }
def HeadWritesCardSaid : Prop := Claim7.holds Tryd.pinned (.plain (OpenSpec.ofChange headWritesSpec)) headWritesCard

/-- THE TIED CARD OF 'cruciblelaw19.HeadReads'. -/
def headReadsCard : Claim7 := { stood := { row := headReadsRow, standIns := [], harness := (true, "fe8a45e6f02a8ce9b85cb74b7ecbc479113b4793fe1e95ff98aab285bd98e4ff"), looks := true }, kinds := [], alts := [], laidByText := true, laidKinds := [.handle, .sentinel, .sentinel, .sentinel, .sentinel, .sentinel, .sentinel, .sentinel, .sentinel, .sentinel, .sentinel, .sentinel, .widerDeep], laidTests := true, laidLooks := .later }
def HeadReadsCardSaid : Prop := Claim7.holds Tryd.pinned (.plain (OpenSpec.ofChange headReadsSpec)) headReadsCard

/-- THE TIED CARD OF 'cruciblelaw19.HeadBack'. -/
def headBackCard : Claim7 := { stood := { row := headBackRow, standIns := [], harness := (true, "fe8a45e6f02a8ce9b85cb74b7ecbc479113b4793fe1e95ff98aab285bd98e4ff"), looks := true }, kinds := [], alts := [], laidByText := true, laidKinds := [.handle, .sentinel, .sentinel, .sentinel, .sentinel, .sentinel, .sentinel, .sentinel, .sentinel, .sentinel, .sentinel, .sentinel, .widerDeep], laidTests := true, laidLooks := .later }
def HeadBackCardSaid : Prop := Claim7.holds Tryd.pinned (.plain (OpenSpec.ofChange headBackSpec)) headBackCard

/-- THE TIED CARD OF 'cruciblelaw19.HeadShortest'. -/
def headShortestCard : Claim7 := { stood := { row := headShortestRow, standIns := [], harness := (true, "fe8a45e6f02a8ce9b85cb74b7ecbc479113b4793fe1e95ff98aab285bd98e4ff"), looks := true }, kinds := [], alts := [], laidByText := true, laidKinds := [.handle, .sentinel, .sentinel, .sentinel, .sentinel, .sentinel, .sentinel, .sentinel, .sentinel, .sentinel, .sentinel, .sentinel, .widerDeep], laidTests := true, laidLooks := .later }
def HeadShortestCardSaid : Prop := Claim7.holds Tryd.pinned (.plain (OpenSpec.ofChange headShortestSpec)) headShortestCard

/-- THE TIED CARD OF 'cruciblelaw19.HeadWithin'. -/
def headWithinCard : Claim7 := { stood := { row := headWithinRow, standIns := [], harness := (true, "fe8a45e6f02a8ce9b85cb74b7ecbc479113b4793fe1e95ff98aab285bd98e4ff"), looks := true }, kinds := [], alts := [], laidByText := true, laidKinds := [.handle, .sentinel, .sentinel, .sentinel, .sentinel, .sentinel, .sentinel, .sentinel, .sentinel, .sentinel, .sentinel, .sentinel, .widerDeep], laidTests := true, laidLooks := .later }
def HeadWithinCardSaid : Prop := Claim7.holds Tryd.pinned (.plain (OpenSpec.ofChange headWithinSpec)) headWithinCard

/-- THE TIED CARD OF 'cruciblelaw19.HeadFloatBack'. -/
def headFloatBackCard : Claim7 := { stood := { row := headFloatBackRow, standIns := [], harness := (true, "fe8a45e6f02a8ce9b85cb74b7ecbc479113b4793fe1e95ff98aab285bd98e4ff"), looks := true }, kinds := [], alts := [], laidByText := true, laidKinds := [.handle, .sentinel, .sentinel, .sentinel, .sentinel, .sentinel, .sentinel, .sentinel, .sentinel, .sentinel, .sentinel, .sentinel, .widerDeep], laidTests := true, laidLooks := .later }
def HeadFloatBackCardSaid : Prop := Claim7.holds Tryd.pinned (.plain (OpenSpec.ofChange headFloatBackSpec)) headFloatBackCard

/-- THE SECOND FORM's CARD OF 'cruciblelaw19.HeadFloats'. -/
def headFloatsUptoCard : Claim7 := { stood := { row := headFloatsUptoRow, standIns := [], harness := (true, "fe8a45e6f02a8ce9b85cb74b7ecbc479113b4793fe1e95ff98aab285bd98e4ff"), looks := true }, kinds := [], alts := [], laidByText := true, laidKinds := [.widerDeep], laidTests := true, laidLooks := .later }
def HeadFloatsUptoCardSaid : Prop := Claim7.holds Tryd.pinned (.plain (OpenSpec.upto headFloatsSpec)) headFloatsUptoCard

/-- THE SECOND FORM's CARD OF 'cruciblelaw19.HeadWrites'. -/
def headWritesUptoCard : Claim7 := { stood := { row := headWritesUptoRow, standIns := [], harness := (true, "fe8a45e6f02a8ce9b85cb74b7ecbc479113b4793fe1e95ff98aab285bd98e4ff"), looks := true }, kinds := [], alts := [], laidByText := true, laidKinds := [.widerDeep], laidTests := true, laidLooks := .later }
def HeadWritesUptoCardSaid : Prop := Claim7.holds Tryd.pinned (.plain (OpenSpec.upto headWritesSpec)) headWritesUptoCard

/-- THE SECOND FORM's CARD OF 'cruciblelaw19.HeadReads'. -/
def headReadsUptoCard : Claim7 := { stood := { row := headReadsUptoRow, standIns := [], harness := (true, "fe8a45e6f02a8ce9b85cb74b7ecbc479113b4793fe1e95ff98aab285bd98e4ff"), looks := true }, kinds := [], alts := [], laidByText := true, laidKinds := [.handle, .sentinel, .sentinel, .sentinel, .sentinel, .sentinel, .sentinel, .sentinel, .sentinel, .sentinel, .sentinel, .sentinel, .widerDeep], laidTests := true, laidLooks := .later }
def HeadReadsUptoCardSaid : Prop := Claim7.holds Tryd.pinned (.plain (OpenSpec.upto headReadsSpec)) headReadsUptoCard

/-- THE SECOND FORM's CARD OF 'cruciblelaw19.HeadBack'. -/
def headBackUptoCard : Claim7 := { stood := { row := headBackUptoRow, standIns := [], harness := (true, "fe8a45e6f02a8ce9b85cb74b7ecbc479113b4793fe1e95ff98aab285bd98e4ff"), looks := true }, kinds := [], alts := [], laidByText := true, laidKinds := [.handle, .sentinel, .sentinel, .sentinel, .sentinel, .sentinel, .sentinel, .sentinel, .sentinel, .sentinel, .sentinel, .sentinel, .widerDeep], laidTests := true, laidLooks := .later }
def HeadBackUptoCardSaid : Prop := Claim7.holds Tryd.pinned (.plain (OpenSpec.upto headBackSpec)) headBackUptoCard

/-- THE SECOND FORM's CARD OF 'cruciblelaw19.HeadShortest'. -/
def headShortestUptoCard : Claim7 := { stood := { row := headShortestUptoRow, standIns := [], harness := (true, "fe8a45e6f02a8ce9b85cb74b7ecbc479113b4793fe1e95ff98aab285bd98e4ff"), looks := true }, kinds := [], alts := [], laidByText := true, laidKinds := [.handle, .sentinel, .sentinel, .sentinel, .sentinel, .sentinel, .sentinel, .sentinel, .sentinel, .sentinel, .sentinel, .sentinel, .widerDeep], laidTests := true, laidLooks := .later }
def HeadShortestUptoCardSaid : Prop := Claim7.holds Tryd.pinned (.plain (OpenSpec.upto headShortestSpec)) headShortestUptoCard

/-- THE SECOND FORM's CARD OF 'cruciblelaw19.HeadWithin'. -/
def headWithinUptoCard : Claim7 := { stood := { row := headWithinUptoRow, standIns := [], harness := (true, "fe8a45e6f02a8ce9b85cb74b7ecbc479113b4793fe1e95ff98aab285bd98e4ff"), looks := true }, kinds := [], alts := [], laidByText := true, laidKinds := [.handle, .sentinel, .sentinel, .sentinel, .sentinel, .sentinel, .sentinel, .sentinel, .sentinel, .sentinel, .sentinel, .sentinel, .widerDeep], laidTests := true, laidLooks := .later }
def HeadWithinUptoCardSaid : Prop := Claim7.holds Tryd.pinned (.plain (OpenSpec.upto headWithinSpec)) headWithinUptoCard

/-- THE SECOND FORM's CARD OF 'cruciblelaw19.HeadFloatBack'. -/
def headFloatBackUptoCard : Claim7 := { stood := { row := headFloatBackUptoRow, standIns := [], harness := (true, "fe8a45e6f02a8ce9b85cb74b7ecbc479113b4793fe1e95ff98aab285bd98e4ff"), looks := true }, kinds := [], alts := [], laidByText := true, laidKinds := [.handle, .sentinel, .sentinel, .sentinel, .sentinel, .sentinel, .sentinel, .sentinel, .sentinel, .sentinel, .sentinel, .sentinel, .widerDeep], laidTests := true, laidLooks := .later }
def HeadFloatBackUptoCardSaid : Prop := Claim7.holds Tryd.pinned (.plain (OpenSpec.upto headFloatBackSpec)) headFloatBackUptoCard
end Rows
end Go.Proofs.YtbnckhlfmjoikaaDoor
