/-
  DERIVED. GIVEN WITH THE SEED: THE CARDS: each row of YtfjgjhicinaolaaDoorRows.lean that lists a variable, with what it lists TIED to the program's text (the seventh form; the later family's looks); each row that meets fmt, with fmt's text TOLD by the authors' own Lean function (tested against real Go, not proved from fmt's source: count such statements apart). THE CARD IS WHAT COUNTS. Prove the row's statement (the work); the ties are given (YtfjgjhicinaolaaDoorTie.lean); close each card by the builder's one call (the guide's Derived/Test/ToyasCard.lean, 'card_holds'). Laid BY PROGRAM, IN A SANDBOX (cutbox-door.mjs). By AI agents, Wed Nov 11 2026. No macro, syntax, notation, axiom, sorry.
-/
import Derived.Test.YtfjgjhicinaolaaDoorRows
import GoSem.ClaimSeven
namespace Go.Proofs.YtfjgjhicinaolaaDoor
namespace Rows

/-- THE TIED CARD OF 'cruciblelaw13.FaultTells'. -/
def faultTellsCard : Claim7 := { stood := { row := faultTellsRow, standIns := [], harness := (true, "f4a47638b927be1e18362eff58a6c2120bb84babb30847a91438474c79eff1a5"), looks := true }, kinds := [], alts := [], laidByText := true, laidKinds := [.data, .handle, .sentinel, .sentinel, .sentinel, .sentinel, .sentinel, .sentinel, .sentinel, .sentinel, .sentinel, .sentinel, .sentinel, .sentinel, .pinned], laidTests := true, laidLooks := .later }
def FaultTellsCardSaid : Prop := Claim7.holds Tryd.pinned (.plain (OpenSpec.ofChange faultTellsSpec)) faultTellsCard

/-- THE TIED CARD OF 'cruciblelaw13.FaultMakes'. -/
def faultMakesCard : Claim7 := { stood := { row := faultMakesRow, standIns := [], harness := (true, "f4a47638b927be1e18362eff58a6c2120bb84babb30847a91438474c79eff1a5"), looks := true }, kinds := [], alts := [], laidByText := true, laidKinds := [.data, .handle, .sentinel, .sentinel, .sentinel, .sentinel, .sentinel, .sentinel, .sentinel, .sentinel, .sentinel, .sentinel, .sentinel, .sentinel, .pinned], laidTests := true, laidLooks := .later }
def FaultMakesCardSaid : Prop := Claim7.holds Tryd.pinned (.plain (OpenSpec.ofChange faultMakesSpec)) faultMakesCard

/-- THE TIED CARD OF 'cruciblelaw13.FaultMoves'. -/
def faultMovesCard : Claim7 := { stood := { row := faultMovesRow, standIns := [], harness := (true, "f4a47638b927be1e18362eff58a6c2120bb84babb30847a91438474c79eff1a5"), looks := true }, kinds := [], alts := [], laidByText := true, laidKinds := [.data, .handle, .sentinel, .sentinel, .sentinel, .sentinel, .sentinel, .sentinel, .sentinel, .sentinel, .sentinel, .sentinel, .sentinel, .sentinel, .pinned], laidTests := true, laidLooks := .later }
def FaultMovesCardSaid : Prop := Claim7.holds Tryd.pinned (.plain (OpenSpec.ofChange faultMovesSpec)) faultMovesCard

/-- THE TIED CARD OF 'cruciblelaw13.FaultShifts'. -/
def faultShiftsCard : Claim7 := { stood := { row := faultShiftsRow, standIns := [], harness := (true, "f4a47638b927be1e18362eff58a6c2120bb84babb30847a91438474c79eff1a5"), looks := true }, kinds := [], alts := [], laidByText := true, laidKinds := [.data, .handle, .sentinel, .sentinel, .sentinel, .sentinel, .sentinel, .sentinel, .sentinel, .sentinel, .sentinel, .sentinel, .sentinel, .sentinel, .pinned], laidTests := true, laidLooks := .later }
def FaultShiftsCardSaid : Prop := Claim7.holds Tryd.pinned (.plain (OpenSpec.ofChange faultShiftsSpec)) faultShiftsCard

/-- THE TIED CARD OF 'cruciblelaw13.FaultSteps'. -/
def faultStepsCard : Claim7 := { stood := { row := faultStepsRow, standIns := [], harness := (true, "f4a47638b927be1e18362eff58a6c2120bb84babb30847a91438474c79eff1a5"), looks := true }, kinds := [], alts := [], laidByText := true, laidKinds := [.data, .handle, .sentinel, .sentinel, .sentinel, .sentinel, .sentinel, .sentinel, .sentinel, .sentinel, .sentinel, .sentinel, .sentinel, .sentinel, .pinned], laidTests := true, laidLooks := .later }
def FaultStepsCardSaid : Prop := Claim7.holds Tryd.pinned (.plain (OpenSpec.ofChange faultStepsSpec)) faultStepsCard

/-- THE TIED CARD OF 'cruciblelaw13.FaultFirst'. -/
def faultFirstCard : Claim7 := { stood := { row := faultFirstRow, standIns := [], harness := (true, "f4a47638b927be1e18362eff58a6c2120bb84babb30847a91438474c79eff1a5"), looks := true }, kinds := [], alts := [], laidByText := true, laidKinds := [.data, .handle, .sentinel, .sentinel, .sentinel, .sentinel, .sentinel, .sentinel, .sentinel, .sentinel, .sentinel, .sentinel, .sentinel, .sentinel, .pinned], laidTests := true, laidLooks := .later }
def FaultFirstCardSaid : Prop := Claim7.holds Tryd.pinned (.plain (OpenSpec.ofChange faultFirstSpec)) faultFirstCard

/-- THE SECOND FORM's CARD OF 'cruciblelaw13.FaultTells'. -/
def faultTellsUptoCard : Claim7 := { stood := { row := faultTellsUptoRow, standIns := [], harness := (true, "f4a47638b927be1e18362eff58a6c2120bb84babb30847a91438474c79eff1a5"), looks := true }, kinds := [], alts := [], laidByText := true, laidKinds := [.data, .handle, .sentinel, .sentinel, .sentinel, .sentinel, .sentinel, .sentinel, .sentinel, .sentinel, .sentinel, .sentinel, .sentinel, .sentinel, .pinned], laidTests := true, laidLooks := .later }
def FaultTellsUptoCardSaid : Prop := Claim7.holds Tryd.pinned (.plain (OpenSpec.upto faultTellsSpec)) faultTellsUptoCard

/-- THE SECOND FORM's CARD OF 'cruciblelaw13.FaultMakes'. -/
def faultMakesUptoCard : Claim7 := { stood := { row := faultMakesUptoRow, standIns := [], harness := (true, "f4a47638b927be1e18362eff58a6c2120bb84babb30847a91438474c79eff1a5"), looks := true }, kinds := [], alts := [], laidByText := true, laidKinds := [.data, .handle, .sentinel, .sentinel, .sentinel, .sentinel, .sentinel, .sentinel, .sentinel, .sentinel, .sentinel, .sentinel, .sentinel, .sentinel, .pinned], laidTests := true, laidLooks := .later }
def FaultMakesUptoCardSaid : Prop := Claim7.holds Tryd.pinned (.plain (OpenSpec.upto faultMakesSpec)) faultMakesUptoCard

/-- THE SECOND FORM's CARD OF 'cruciblelaw13.FaultMoves'. -/
def faultMovesUptoCard : Claim7 := { stood := { row := faultMovesUptoRow, standIns := [], harness := (true, "f4a47638b927be1e18362eff58a6c2120bb84babb30847a91438474c79eff1a5"), looks := true }, kinds := [], alts := [], laidByText := true, laidKinds := [.data, .handle, .sentinel, .sentinel, .sentinel, .sentinel, .sentinel, .sentinel, .sentinel, .sentinel, .sentinel, .sentinel, .sentinel, .sentinel, .pinned], laidTests := true, laidLooks := .later }
def FaultMovesUptoCardSaid : Prop := Claim7.holds Tryd.pinned (.plain (OpenSpec.upto faultMovesSpec)) faultMovesUptoCard

/-- THE SECOND FORM's CARD OF 'cruciblelaw13.FaultShifts'. -/
def faultShiftsUptoCard : Claim7 := { stood := { row := faultShiftsUptoRow, standIns := [], harness := (true, "f4a47638b927be1e18362eff58a6c2120bb84babb30847a91438474c79eff1a5"), looks := true }, kinds := [], alts := [], laidByText := true, laidKinds := [.data, .handle, .sentinel, .sentinel, .sentinel, .sentinel, .sentinel, .sentinel, .sentinel, .sentinel, .sentinel, .sentinel, .sentinel, .sentinel, .pinned], laidTests := true, laidLooks := .later }
def FaultShiftsUptoCardSaid : Prop := Claim7.holds Tryd.pinned (.plain (OpenSpec.upto faultShiftsSpec)) faultShiftsUptoCard

/-- THE SECOND FORM's CARD OF 'cruciblelaw13.FaultSteps'. -/
def faultStepsUptoCard : Claim7 := { stood := { row := faultStepsUptoRow, standIns := [], harness := (true, "f4a47638b927be1e18362eff58a6c2120bb84babb30847a91438474c79eff1a5"), looks := true }, kinds := [], alts := [], laidByText := true, laidKinds := [.data, .handle, .sentinel, .sentinel, .sentinel, .sentinel, .sentinel, .sentinel, .sentinel, .sentinel, .sentinel, .sentinel, .sentinel, .sentinel, .pinned], laidTests := true, laidLooks := .later }
def FaultStepsUptoCardSaid : Prop := Claim7.holds Tryd.pinned (.plain (OpenSpec.upto faultStepsSpec)) faultStepsUptoCard

/-- THE SECOND FORM's CARD OF 'cruciblelaw13.FaultFirst'. -/
def faultFirstUptoCard : Claim7 := { stood := { row := faultFirstUptoRow, standIns := [], harness := (true, "f4a47638b927be1e18362eff58a6c2120bb84babb30847a91438474c79eff1a5"), looks := true }, kinds := [], alts := [], laidByText := true, laidKinds := [.data, .handle, .sentinel, .sentinel, .sentinel, .sentinel, .sentinel, .sentinel, .sentinel, .sentinel, .sentinel, .sentinel, .sentinel, .sentinel, .pinned], laidTests := true, laidLooks := .later }
def FaultFirstUptoCardSaid : Prop := Claim7.holds Tryd.pinned (.plain (OpenSpec.upto faultFirstSpec)) faultFirstUptoCard
end Rows
end Go.Proofs.YtfjgjhicinaolaaDoor
