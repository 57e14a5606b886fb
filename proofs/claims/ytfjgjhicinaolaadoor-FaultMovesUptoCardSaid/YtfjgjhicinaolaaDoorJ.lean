/- What the rows' list and the world's shape give. -/
import Derived.Test.YtfjgjhicinaolaaDoorI
import Derived.Shelf.Vars
import Derived.LaidMore
import Derived.Stop.Joined
import Derived.Lay
namespace Go.Proofs.YtfjgjhicinaolaaDoor
open Go.ChangeShapes Go.WideShapes Go.RowKit
set_option maxRecDepth 100000
set_option linter.unusedVariables false
set_option linter.unusedSimpArgs false

theorem textO_ne : ((List.range 12).all fun k => textE k != [97, 110, 111, 116, 104, 101, 114, 32, 101, 114, 114, 111, 114]) = true := by kernel_rfl
theorem seat_of_laid {W : World} (h : laidMetH Tryd.prog Rows.faultMakesRow.laid W) (hsh : W.ShapedOpen Tryd.prog) : ∃ a oa, Seat a oa W := by
  obtain ⟨a, hE⟩ := errs_of_laid h
  obtain ⟨oa, s, q1, q2, q3, c, t, q4⟩ := one_sent (n := "crucible/fault.errOther") (g := 12) (text := [97, 110, 111, 116, 104, 101, 114, 32, 101, 114, 114, 111, 114]) (by kernel_rfl) (by kernel_rfl) (h.filter fun x => x.1 == "crucible/fault.errOther")
  refine ⟨a, oa, hE, q1, ?_, ?_⟩
  · simp only [Holds]
    refine ⟨⟨c, t, q4⟩, fun k h0 h1 e => ?_⟩
    subst e
    obtain ⟨s', r1, r2⟩ := hE.t k h0 h1
    rw [q2] at r1
    have := Option.some.inj r1
    injection this with hs
    subst hs
    have hk := List.all_eq_true.1 textO_ne k (List.mem_range.2 (by omega))
    simp only [bne_iff_ne, ne_eq] at hk
    exact hk (r2.symm.trans q3)
  · exact Go.Proofs.cell_of_shapedOpen_int (g := 13) (t := 3) (zero := #[.int .i64 0]) (k := .i64) hsh (of_decide_eq_true (by kernel_rfl)) (by kernel_rfl) rfl (by kernel_rfl) (by kernel_rfl) Tryd.underlying3
/-- A start that meets the list. -/
noncomputable def startW (os : Os) : World := (World.doorLaid Tryd.prog 600 os).layVars Tryd.prog [("unicode/utf8.first", Rows.laid_unicode_utf8_first)]
theorem startW_os (os : Os) : (startW os).os = os := (World.layVars_os _ _ _).trans rfl
theorem door_met (os : Os) (args : Array Value) : laidMetH Tryd.prog Rows.faultMakesRow.laid ((startW os).forCall (fun _ _ => 0) ⟨#[], args, []⟩).memory :=
  laidMetH_of_parts3 (fuel := 9) (laidMet_of_run' 9 (by kernel_rfl) (by kernel_rfl)) (by kernel_rfl) (by kernel_rfl)
end Go.Proofs.YtfjgjhicinaolaaDoor
