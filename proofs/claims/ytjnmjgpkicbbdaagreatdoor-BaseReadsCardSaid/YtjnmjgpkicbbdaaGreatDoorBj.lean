/- BaseReads: the world of the witness, and the walk as the frame asks for it. -/
import Derived.Test.YtjnmjgpkicbbdaaGreatDoorRows
import Derived.Test.YtjnmjgpkicbbdaaGreatDoorBi
import Derived.LaidMore
import Derived.Stop.Joined
import Derived.SevenTiedAt
import Derived.Lay
import Derived.Shelf.Vars
namespace Go.Proofs.YtjnmjgpkicbbdaaGreatDoor
open Go.ChangeShapes Go.WideShapes Go.RowKit
set_option maxRecDepth 100000
theorem reads_fact {W : World} (_ : laidMetH Tryz.prog Rows.baseReadsRow.laid W) (_ : W.ShapedOpen Tryz.prog) : True := trivial
theorem readsW (s t : ByteArray) (w : World) (_ : True) (hs : s.size ≤ 140737488351232) (ht : t.size ≤ 140737488351232) : Calls Tryz.prog 3 #[.string s, .string t] w fun e w' => e = .returned (.bool true) ∧ Below w.heap.size w w' :=
  readsWalk s t w (by omega) (by omega)
noncomputable def startW (os : Os) : World := (World.doorLaid Tryz.prog 600 os).layVars Tryz.prog [("math/bits.deBruijn32tab", Rows.laid_math_bits_deBruijn32tab), ("math/bits.deBruijn64tab", Rows.laid_math_bits_deBruijn64tab), ("internal/strconv.uint64pow10", Rows.laid_internal_strconv_uint64pow10)]
theorem startW_os (os : Os) : (startW os).os = os := (World.layVars_os _ _ _).trans rfl
theorem door_met (os : Os) (args : Array Value) : laidMetH Tryz.prog Rows.baseReadsRow.laid ((startW os).forCall (fun _ _ => 0) ⟨#[], args, []⟩).memory :=
  laidMetH_of_parts3 (fuel := 9) (laidMet_of_run' 9 (by kernel_rfl) (by kernel_rfl)) (by kernel_rfl) (by kernel_rfl)
end Go.Proofs.YtjnmjgpkicbbdaaGreatDoor
