/- What the rows' list gives. -/
import Derived.Test.YtcpkjmpbpmeclaaGreatDoorMar
import Derived.Test.YtcpkjmpbpmeclaaGreatDoorMat
import Derived.Lib.LaidU8
namespace Go.Proofs.YtcpkjmpbpmeclaaGreatDoor
open Go.RowKit Go.ChangeShapes Go.WideShapes
set_option maxRecDepth 100000
set_option linter.unusedVariables false
set_option linter.unusedSimpArgs false
set_option linter.unnecessarySimpa false

theorem plain_of {W : World} {n : String} {d : DataW Unit} (hd : d.handleName?.isNone = true) (h : laidMetH Tryz.prog [(n, d)] W) : laidMet Tryz.prog [(n, d)] W := by
 have := (laidMetH_iff.1 h).1
 rwa [show (([(n, d)] : List (String × DataW Unit)).filter fun x => x.2.handleName?.isNone) = [(n, d)] by simp [hd]] at this
theorem pow_of_laid {W : World} (h : laidMetH Tryz.prog Rows.valueTotalUptoRow.laid W) : Pow W :=
 Lib.tabIs_of_head (g := 13) (t := 317) (e := 24) (n := 20) (rest := []) (by kernel_rfl) (by kernel_rfl) Tryz.underlying317 Tryz.underlying24 (by kernel_rfl) (by kernel_rfl)
  (plain_of (n := "internal/strconv.uint64pow10") (d := Lib.tabData .u64 Lib.pow10Tab) rfl (h.filter fun x => x.1 == "internal/strconv.uint64pow10"))
theorem bruijn_of_laid {W : World} (h : laidMetH Tryz.prog Rows.valueTotalUptoRow.laid W) : Bruijn W := by
 have h1 : Lib.TabIs Tryz.prog W "math/bits.deBruijn64tab" .u8 (Lib.deBruijn64tab.map fun x : Nat => (x : Int)) :=
  Lib.tabIs_of_head (g := 14) (t := 320) (e := 5) (n := 64) (rest := []) (by kernel_rfl) (by kernel_rfl) Tryz.underlying320 Tryz.underlying5 (by kernel_rfl) (by kernel_rfl)
   (plain_of (n := "math/bits.deBruijn64tab") (d := Lib.tabData .u8 (Lib.deBruijn64tab.map fun x : Nat => (x : Int))) rfl (h.filter fun x => x.1 == "math/bits.deBruijn64tab"))
 intro j hj
 rw [h1.cell (g := 14) (by kernel_rfl) j (by simpa using hj)]
 congr 2
 simp only [List.getD_eq_getElem?_getD, List.getElem?_map, List.getElem?_eq_getElem hj, Option.map_some, Option.getD_some]
theorem shapes_of_laid {W : World} (h : laidMetH Tryz.prog Rows.valueTotalUptoRow.laid W) : Shapes W := by
 have h1 := plain_of (n := "crucible/ieee.shapes") (d := Rows.laid_crucible_ieee_shapes) rfl (h.filter fun x => x.1 == "crucible/ieee.shapes")
 obtain ⟨g, t, cs, fuel, p, hg, ht, hv, hd⟩ := Lib.laidMet.reads h1 (List.mem_singleton.2 rfl)
 obtain rfl := Option.some.inj ((show Tryz.prog.globalNamed "crucible/ieee.shapes" = some 12 by kernel_rfl).symm.trans hg)
 obtain rfl := Option.some.inj ((show (Tryz.prog.globals[12]?).map (·.type) = some 300 by kernel_rfl).symm.trans ht)
 obtain ⟨f2, d2, q2, e2, h2⟩ := Lib.array_elem Tryz.underlying300 hd 2 (by decide)
 have hc3 : Tryz.prog.cellsOf 274 = 3 := by kernel_rfl
 rw [hc3] at h2
 have e3 : d2 = .agg ([52, -1074, 11].map fun z => .lit (.int .i64 z)) := (Option.some.inj e2).symm
 subst e3
 have h4 := Lib.ints_of_struct (k := .i64) (zs := [52, -1074, 11]) Tryz.underlying274 (fun i f hf => by
  have hi : i < 3 := (Array.getElem?_eq_some_iff.1 hf).1
  have hc : i = 0 ∨ i = 1 ∨ i = 2 := by omega
  rcases hc with rfl | rfl | rfl <;> (injection hf with hf; subst hf; exact ⟨by kernel_rfl, rfl, by kernel_rfl⟩)) (by kernel_rfl) h2
 have hcell : ∀ i, i < 3 → W.cell? ⟨12, 6 + i, none⟩ = (([52, -1074, 11] : List Int).map fun z => Value.int .i64 z)[i]? := fun i hi => by
  rw [← h4, World.var?_cell (by kernel_rfl) hv, List.getElem?_take, if_pos hi, List.getElem?_drop]
  simp
 exact ⟨hcell 0 (by decide), hcell 1 (by decide), hcell 2 (by decide)⟩
theorem tabs_of_laid {W : World} (h : laidMetH Tryz.prog Rows.valueTotalUptoRow.laid W) : ∃ a, Tabs a W := by
 obtain ⟨a, hE⟩ := errs_of_laid h
 exact ⟨a, ⟨hE, shapes_of_laid h, bruijn_of_laid h, pow_of_laid h⟩⟩
end Go.Proofs.YtcpkjmpbpmeclaaGreatDoor
