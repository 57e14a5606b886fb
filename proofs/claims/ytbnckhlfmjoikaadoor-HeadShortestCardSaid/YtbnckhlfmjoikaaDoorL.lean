import Derived.Test.YtbnckhlfmjoikaaDoorRows
import Derived.Test.YtbnckhlfmjoikaaDoorE
import Derived.ProofKit
import Derived.LaidMore
import Derived.Lib.LaidTab
import Derived.Stop.Joined
namespace Go.Proofs.YtbnckhlfmjoikaaDoor
open Go.ChangeShapes Go.WideShapes Go.ChangeAt Go.RowKit
set_option maxRecDepth 100000

theorem gSizes : Tryd.prog.globalNamed "crucible/head.sizes" = some 0 := by kernel_rfl
theorem tSizes : (Tryd.prog.globals[0]?).map (·.type) = some 50 := by kernel_rfl
def sizesL : List Int := [1, 2, 4, 8, 9, 9, 9, 0]

theorem sizes_of_var {W : World} (hv : W.var? Tryd.prog "crucible/head.sizes" = some (sizesL.map fun z => Value.int .i64 z).toArray) : Sizes W := by
  have h := World.var?_cell gSizes hv
  constructor
  · simpa [sizesL] using h 0
  · simpa [sizesL] using h 1
  · simpa [sizesL] using h 2
  · simpa [sizesL] using h 3
  · simpa [sizesL] using h 4
  · simpa [sizesL] using h 5
  · simpa [sizesL] using h 6
  · simpa [sizesL] using h 7

theorem sizes_of_laid {W : World} (h : laidMetH Tryd.prog Rows.headFloatsRow.laid W) : Sizes W := by
  rw [MakeChecks.laidMetH_plain _ _ _ (by kernel_rfl)] at h
  obtain ⟨ps, ⟨g0, t0, cs0, f0, p0, q0, hg0, ht0, hv0, hd0, _, _⟩, _, _⟩ := h
  obtain rfl := Option.some.inj (gSizes.symm.trans hg0)
  obtain rfl := Option.some.inj (tSizes.symm.trans ht0)
  have e := Lib.cells_of_tab (zs := sizesL) Tryd.underlying50 Tryd.underlying3 (by kernel_rfl) (by kernel_rfl) hd0
  refine sizes_of_var (hv0.trans ?_)
  rw [← e]

theorem hfWalk (n x : Int) (w : World) (hS : Sizes w) (_ : -9223372036854775808 ≤ n) (_ : n ≤ 9223372036854775807) (h0 : 0 ≤ x) (h1 : x ≤ 18446744073709551615) :
    Calls Tryd.prog 3 #[.int .i64 n, .int .u64 x] w fun e w' => e = .returned (.bool true) ∧ Below w.heap.size w w' := headFloats_any n x w hS h0 h1
end Go.Proofs.YtbnckhlfmjoikaaDoor
