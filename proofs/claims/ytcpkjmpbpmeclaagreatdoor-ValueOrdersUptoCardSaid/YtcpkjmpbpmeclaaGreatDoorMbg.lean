/- The start that meets the rows' list. -/
import Derived.Test.YtcpkjmpbpmeclaaGreatDoorMbc
import Derived.Test.YtcpkjmpbpmeclaaGreatDoorMbf
import Derived.Shelf.Vars
import Derived.LaidMore
import Derived.Stop.Joined
import Derived.Lay
namespace Go.Proofs.YtcpkjmpbpmeclaaGreatDoor
open Go.ChangeShapes Go.WideShapes Go.RowKit
set_option maxRecDepth 100000
set_option linter.unusedVariables false
set_option linter.unusedSimpArgs false

theorem tabs_fact {W : World} (h : laidMetH Tryz.prog Rows.valueTotalUptoRow.laid W) (hsh : W.ShapedOpen Tryz.prog) : ∃ a, Tabs a W := tabs_of_laid h
/-- A start that meets the list. -/
noncomputable def startW (os : Os) : World := (World.doorLaid Tryz.prog 600 os).layVars Tryz.prog [("math/bits.deBruijn32tab", Rows.laid_math_bits_deBruijn32tab), ("math/bits.deBruijn64tab", Rows.laid_math_bits_deBruijn64tab), ("internal/strconv.uint64pow10", Rows.laid_internal_strconv_uint64pow10)]
theorem startW_os (os : Os) : (startW os).os = os := (World.layVars_os _ _ _).trans rfl
theorem door_met (os : Os) (args : Array Value) : laidMetH Tryz.prog Rows.valueTotalUptoRow.laid ((startW os).forCall (fun _ _ => 0) ⟨#[], args, []⟩).memory :=
 laidMetH_of_parts3 (fuel := 9) (laidMet_of_run' 9 (by kernel_rfl) (by kernel_rfl)) (by kernel_rfl) (by kernel_rfl)
end Go.Proofs.YtcpkjmpbpmeclaaGreatDoor
