/- The sentinels of api and errors.errorType as the rows lay them. -/
import Derived.Test.YtcpkjmpbpmeclaaGreatDoorRows
import Derived.ChangeSame
import Derived.ChangeVars
import Derived.JoinedOf
import Derived.RowKit
import Derived.RowKitTokens
import Derived.LaidLaws
import Derived.LaidHandle
import Derived.LaidSub
import Derived.MakeChecks
import Derived.Below
import Derived.Stop.Joined
import Derived.Stop.ErrReads
namespace Go.Proofs.YtcpkjmpbpmeclaaGreatDoor
open Go.ChangeShapes Go.WideShapes Go.RowKit
set_option maxRecDepth 100000
set_option linter.unusedVariables false
set_option linter.unusedSimpArgs false

def gE (k : Nat) : Nat := [0, 0, 2, 3, 4, 1, 5, 6, 7, 8, 9, 10].getD k 0
def textE (k : Nat) : List UInt8 := [[], [97, 110, 32, 97, 114, 103, 117, 109, 101, 110, 116, 32, 116, 104, 97, 116, 32, 109, 97, 121, 32, 110, 111, 116, 32, 98, 101], [97, 110, 32, 111, 98, 106, 101, 99, 116, 32, 116, 104, 97, 116, 32, 105, 115, 32, 110, 111, 116, 32, 116, 104, 101, 114, 101], [110, 111, 32, 100, 111, 99, 117, 109, 101, 110, 116, 32, 111, 102, 32, 105, 116, 115, 32, 102, 111, 114, 109, 97, 116], [97, 32, 118, 97, 108, 117, 101, 32, 116, 104, 97, 116, 32, 116, 104, 101, 32, 102, 111, 114, 109, 97, 116, 32, 104, 97, 115, 32, 110, 111, 116], [97, 32, 108, 105, 109, 105, 116], [110, 111, 32, 115, 117, 99, 104, 32, 116, 104, 105, 110, 103], [116, 111, 111, 32, 109, 97, 110, 121, 32, 115, 101, 115, 115, 105, 111, 110, 115], [110, 111, 32, 115, 117, 99, 104, 32, 115, 101, 115, 115, 105, 111, 110], [97, 110, 111, 116, 104, 101, 114, 32, 107, 101, 121], [115, 116, 111, 112, 112, 101, 100], [110, 111, 32, 115, 99, 114, 105, 112, 116]].getD k []
structure Errs (a : Nat → Addr) (w : World) : Prop where
 g : ∀ k, 1 ≤ k → k ≤ 11 → w.cell? ⟨gE k, 0, none⟩ = some (.iface 330 (.pointer (some (a k))))
 b : ∀ k, 1 ≤ k → k ≤ 11 → ∃ c t, w.heap[(a k).block]? = some (.cells c t (0, 0))
 ne : ∀ j k, 1 ≤ j → j ≤ 11 → 1 ≤ k → k ≤ 11 → j ≠ k → a j ≠ a k
 h : w.cell? ⟨11, 0, none⟩ = some (.iface 260 (.agg #[.pointer (some ⟨16, 36, none⟩)]))
 t : ∀ k, 1 ≤ k → k ≤ 11 → ∃ s, w.cell? (a k) = some (.string s) ∧ s.data.toList = textE k
theorem Errs.below {a : Nat → Addr} {w w1 : World} (h : Errs a w) (hb : Below w.heap.size w w1) : Errs a w1 := by
 refine ⟨fun k h0 h1 => ?_, fun k h0 h1 => ?_, h.ne, ?_, fun k h0 h1 => ?_⟩
 ·exact (hb.cell (World.block_lt_of_cell? w _ (h.g k h0 h1))).trans (h.g k h0 h1)
 ·obtain ⟨c, t, e⟩ := h.b k h0 h1
  have hl : (a k).block < w.heap.size := by
   rcases Nat.lt_or_ge (a k).block w.heap.size with h' | h'
   ·exact h'
   ·simp [Array.getElem?_eq_none h'] at e
  exact ⟨c, t, (hb.block _ hl).trans e⟩
 ·exact (hb.cell (World.block_lt_of_cell? w _ h.h)).trans h.h
 ·obtain ⟨s, e1, e2⟩ := h.t k h0 h1
  exact ⟨s, (hb.cell (World.block_lt_of_cell? w _ e1)).trans e1, e2⟩

theorem sentStar : "*" ++ "errors.errorString" = "*errors.errorString" := by decide
theorem sentRow (u : TypeId) (h : Tryz.prog.typeName? 3 u = some "*errors.errorString") : u = 330 :=
 typeName_ptr_named (nm := "errors.errorString") (by rw [sentStar]; kernel_rfl) (by kernel_rfl) (by decide) u (by rw [sentStar]; exact h)
theorem sentCells : Tryz.prog.cellsOf 349 = 1 := by kernel_rfl
theorem sentCellsS : Tryz.prog.cellsOf 9 = 1 := by kernel_rfl
theorem one_sent {W : World} {n : String} {g : Nat} {text : List UInt8} (hg : Tryz.prog.globalNamed n = some g) (ht : (Tryz.prog.globals[g]?).map (·.type) = some 36)
  (h : laidMetH Tryz.prog [(n, .iface "*errors.errorString" (.ptr (.agg [.lit (.string text)])))] W) :
  ∃ a s, W.cell? ⟨g, 0, none⟩ = some (.iface 330 (.pointer (some a))) ∧ W.cell? a = some (.string s) ∧ s.data.toList = text ∧ ∃ c t, W.heap[a.block]? = some (.cells c t (0, 0)) := by
 have h' : laidMet Tryz.prog [(n, .iface "*errors.errorString" (.ptr (.agg [.lit (.string text)])))] W := by
  have := (laidMetH_iff.1 h).1
  rwa [show (([(n, .iface "*errors.errorString" (.ptr (.agg [.lit (.string text)])))] : List (String × DataW Unit)).filter fun x => x.2.handleName?.isNone) = [(n, .iface "*errors.errorString" (.ptr (.agg [.lit (.string text)])))] from rfl] at this
 obtain ⟨ps, ⟨g0, t0, cs0, f0, p0, q0, hg0, ht0, hv0, hd0, hq, e0⟩, hnd, hrows⟩ := h'
 obtain rfl := Option.some.inj (hg.symm.trans hg0)
 obtain rfl := Option.some.inj (ht.symm.trans ht0)
 have hq' : q0 = [] := hq
 subst hq'
 subst e0
 obtain ⟨l0⟩ := cs0
 have ok0 : ∀ u v, l0 = [.iface u v] → Value.okWide Tryz.prog W .any 0 u v := fun u v e => by
  subst e
  exact (hrows g 0 (by simp [MemPlace.row])).2 u v (by simpa using World.var?_cell hg0 hv0 0)
 obtain ⟨a0, s0, rfl, hc0, hs0, hz0, rfl⟩ := errorString_of_trod Tryz.underlying36 sentRow Tryz.underlying330 Tryz.underlying349 rfl rfl Tryz.underlying9 sentCells sentCellsS hd0 ok0
 obtain ⟨c0, t0, hb0⟩ := (hrows a0.block a0.off (by simp [MemPlace.row])).1
 exact ⟨a0, s0, by simpa using World.var?_cell hg0 hv0 0, hc0, hs0, c0, t0, hb0⟩

theorem rtRow : (Tryz.prog.cutTypes.find? (·.1 == "internal/reflectlite.rtype")).map (·.2) = some 260 := by kernel_rfl
theorem errorRow : ((List.range 360).filter fun t => Tryz.prog.rowNamed t [101, 114, 114, 111, 114]) = [36] := by kernel_rfl
theorem typesSize : Tryz.prog.types.size = 360 := by kernel_rfl
theorem gErrorType : Tryz.prog.globalNamed "errors.errorType" = some 11 := by kernel_rfl
theorem handle_of_laid {W : World} (h : laidMetH Tryz.prog [("errors.errorType", .iface "internal/reflectlite.rtype" (.agg [.ptr (.lit (.string [101, 114, 114, 111, 114]))]))] W) :
  W.cell? ⟨11, 0, none⟩ = some (.iface 260 (.agg #[.pointer (some ⟨16, 36, none⟩)])) := by
 have h' := (laidMetH_iff.1 h).2
 obtain ⟨name, u, ty, e1, e2, e3, e4, e5⟩ := h' _ (List.mem_singleton.2 rfl)
 have en : name = [101, 114, 114, 111, 114] := (Option.some.inj e1).symm
 subst en
 obtain rfl := Option.some.inj (rtRow.symm.trans e2)
 have hm : ty ∈ (List.range 360).filter fun t => Tryz.prog.rowNamed t [101, 114, 114, 111, 114] := List.mem_filter.2 ⟨List.mem_range.2 (by rw [← typesSize]; exact e3), e4⟩
 rw [errorRow] at hm
 obtain rfl := List.mem_singleton.1 hm
 have hh : typeHandle Tryz.prog 36 = .pointer (some ⟨16, 36, none⟩) := by kernel_rfl
 rw [hh] at e5
 simpa using World.var?_cell gErrorType e5 0

theorem textE_inj : ((List.range 12).all fun j => (List.range 12).all fun k => j == k || textE j != textE k) = true := by kernel_rfl
theorem errs_of_laid {W : World} (h : laidMetH Tryz.prog Rows.valueTotalUptoRow.laid W) : ∃ a, Errs a W := by
 have hT := handle_of_laid (h.filter fun x => x.1 == "errors.errorType")
 have e1 : ∃ a s, W.cell? ⟨gE 1, 0, none⟩ = some (.iface 330 (.pointer (some a))) ∧ W.cell? a = some (.string s) ∧ s.data.toList = textE 1 ∧ ∃ c t, W.heap[a.block]? = some (.cells c t (0, 0)) := one_sent (n := "crucible/api.ErrArg") (g := 0) (text := [97, 110, 32, 97, 114, 103, 117, 109, 101, 110, 116, 32, 116, 104, 97, 116, 32, 109, 97, 121, 32, 110, 111, 116, 32, 98, 101]) (by kernel_rfl) (by kernel_rfl) (h.filter fun x => x.1 == "crucible/api.ErrArg")
 have e2 : ∃ a s, W.cell? ⟨gE 2, 0, none⟩ = some (.iface 330 (.pointer (some a))) ∧ W.cell? a = some (.string s) ∧ s.data.toList = textE 2 ∧ ∃ c t, W.heap[a.block]? = some (.cells c t (0, 0)) := one_sent (n := "crucible/api.ErrNil") (g := 2) (text := [97, 110, 32, 111, 98, 106, 101, 99, 116, 32, 116, 104, 97, 116, 32, 105, 115, 32, 110, 111, 116, 32, 116, 104, 101, 114, 101]) (by kernel_rfl) (by kernel_rfl) (h.filter fun x => x.1 == "crucible/api.ErrNil")
 have e3 : ∃ a s, W.cell? ⟨gE 3, 0, none⟩ = some (.iface 330 (.pointer (some a))) ∧ W.cell? a = some (.string s) ∧ s.data.toList = textE 3 ∧ ∃ c t, W.heap[a.block]? = some (.cells c t (0, 0)) := one_sent (n := "crucible/api.ErrInput") (g := 3) (text := [110, 111, 32, 100, 111, 99, 117, 109, 101, 110, 116, 32, 111, 102, 32, 105, 116, 115, 32, 102, 111, 114, 109, 97, 116]) (by kernel_rfl) (by kernel_rfl) (h.filter fun x => x.1 == "crucible/api.ErrInput")
 have e4 : ∃ a s, W.cell? ⟨gE 4, 0, none⟩ = some (.iface 330 (.pointer (some a))) ∧ W.cell? a = some (.string s) ∧ s.data.toList = textE 4 ∧ ∃ c t, W.heap[a.block]? = some (.cells c t (0, 0)) := one_sent (n := "crucible/api.ErrRep") (g := 4) (text := [97, 32, 118, 97, 108, 117, 101, 32, 116, 104, 97, 116, 32, 116, 104, 101, 32, 102, 111, 114, 109, 97, 116, 32, 104, 97, 115, 32, 110, 111, 116]) (by kernel_rfl) (by kernel_rfl) (h.filter fun x => x.1 == "crucible/api.ErrRep")
 have e5 : ∃ a s, W.cell? ⟨gE 5, 0, none⟩ = some (.iface 330 (.pointer (some a))) ∧ W.cell? a = some (.string s) ∧ s.data.toList = textE 5 ∧ ∃ c t, W.heap[a.block]? = some (.cells c t (0, 0)) := one_sent (n := "crucible/api.ErrLimit") (g := 1) (text := [97, 32, 108, 105, 109, 105, 116]) (by kernel_rfl) (by kernel_rfl) (h.filter fun x => x.1 == "crucible/api.ErrLimit")
 have e6 : ∃ a s, W.cell? ⟨gE 6, 0, none⟩ = some (.iface 330 (.pointer (some a))) ∧ W.cell? a = some (.string s) ∧ s.data.toList = textE 6 ∧ ∃ c t, W.heap[a.block]? = some (.cells c t (0, 0)) := one_sent (n := "crucible/api.ErrNone") (g := 5) (text := [110, 111, 32, 115, 117, 99, 104, 32, 116, 104, 105, 110, 103]) (by kernel_rfl) (by kernel_rfl) (h.filter fun x => x.1 == "crucible/api.ErrNone")
 have e7 : ∃ a s, W.cell? ⟨gE 7, 0, none⟩ = some (.iface 330 (.pointer (some a))) ∧ W.cell? a = some (.string s) ∧ s.data.toList = textE 7 ∧ ∃ c t, W.heap[a.block]? = some (.cells c t (0, 0)) := one_sent (n := "crucible/api.ErrBusy") (g := 6) (text := [116, 111, 111, 32, 109, 97, 110, 121, 32, 115, 101, 115, 115, 105, 111, 110, 115]) (by kernel_rfl) (by kernel_rfl) (h.filter fun x => x.1 == "crucible/api.ErrBusy")
 have e8 : ∃ a s, W.cell? ⟨gE 8, 0, none⟩ = some (.iface 330 (.pointer (some a))) ∧ W.cell? a = some (.string s) ∧ s.data.toList = textE 8 ∧ ∃ c t, W.heap[a.block]? = some (.cells c t (0, 0)) := one_sent (n := "crucible/api.ErrHandle") (g := 7) (text := [110, 111, 32, 115, 117, 99, 104, 32, 115, 101, 115, 115, 105, 111, 110]) (by kernel_rfl) (by kernel_rfl) (h.filter fun x => x.1 == "crucible/api.ErrHandle")
 have e9 : ∃ a s, W.cell? ⟨gE 9, 0, none⟩ = some (.iface 330 (.pointer (some a))) ∧ W.cell? a = some (.string s) ∧ s.data.toList = textE 9 ∧ ∃ c t, W.heap[a.block]? = some (.cells c t (0, 0)) := one_sent (n := "crucible/api.ErrKey") (g := 8) (text := [97, 110, 111, 116, 104, 101, 114, 32, 107, 101, 121]) (by kernel_rfl) (by kernel_rfl) (h.filter fun x => x.1 == "crucible/api.ErrKey")
 have e10 : ∃ a s, W.cell? ⟨gE 10, 0, none⟩ = some (.iface 330 (.pointer (some a))) ∧ W.cell? a = some (.string s) ∧ s.data.toList = textE 10 ∧ ∃ c t, W.heap[a.block]? = some (.cells c t (0, 0)) := one_sent (n := "crucible/api.ErrStopped") (g := 9) (text := [115, 116, 111, 112, 112, 101, 100]) (by kernel_rfl) (by kernel_rfl) (h.filter fun x => x.1 == "crucible/api.ErrStopped")
 have e11 : ∃ a s, W.cell? ⟨gE 11, 0, none⟩ = some (.iface 330 (.pointer (some a))) ∧ W.cell? a = some (.string s) ∧ s.data.toList = textE 11 ∧ ∃ c t, W.heap[a.block]? = some (.cells c t (0, 0)) := one_sent (n := "crucible/api.ErrScript") (g := 10) (text := [110, 111, 32, 115, 99, 114, 105, 112, 116]) (by kernel_rfl) (by kernel_rfl) (h.filter fun x => x.1 == "crucible/api.ErrScript")
 have key : ∀ k, 1 ≤ k → k ≤ 11 → ∃ a s, W.cell? ⟨gE k, 0, none⟩ = some (.iface 330 (.pointer (some a))) ∧ W.cell? a = some (.string s) ∧ s.data.toList = textE k ∧ ∃ c t, W.heap[a.block]? = some (.cells c t (0, 0)) := by
  intro k h0 h1
  rcases (by omega : k = 1 ∨ k = 2 ∨ k = 3 ∨ k = 4 ∨ k = 5 ∨ k = 6 ∨ k = 7 ∨ k = 8 ∨ k = 9 ∨ k = 10 ∨ k = 11) with rfl | rfl | rfl | rfl | rfl | rfl | rfl | rfl | rfl | rfl | rfl
  ·exact e1
  ·exact e2
  ·exact e3
  ·exact e4
  ·exact e5
  ·exact e6
  ·exact e7
  ·exact e8
  ·exact e9
  ·exact e10
  ·exact e11
 refine ⟨fun k => if hk : 1 ≤ k ∧ k ≤ 11 then (key k hk.1 hk.2).choose else ⟨0, 0, none⟩, ?_, ?_, ?_, hT, ?_⟩
 ·intro k h0 h1
  rw [dif_pos ⟨h0, h1⟩]
  obtain ⟨s, q1, q2, q3, q4⟩ := (key k h0 h1).choose_spec
  exact q1
 ·intro k h0 h1
  rw [dif_pos ⟨h0, h1⟩]
  obtain ⟨s, q1, q2, q3, q4⟩ := (key k h0 h1).choose_spec
  exact q4
 ·intro j k h0 h1 h2 h3 hne he
  rw [dif_pos ⟨h0, h1⟩, dif_pos ⟨h2, h3⟩] at he
  obtain ⟨s, q1, q2, q3, q4⟩ := (key j h0 h1).choose_spec
  obtain ⟨s', r1, r2, r3, r4⟩ := (key k h2 h3).choose_spec
  rw [he] at q2
  have := Option.some.inj (q2.symm.trans r2)
  injection this with hs
  subst hs
  have e := q3.symm.trans r3
  have hj := List.all_eq_true.1 (List.all_eq_true.1 textE_inj j (List.mem_range.2 (by omega))) k (List.mem_range.2 (by omega))
  simp [e] at hj
  exact hne hj
 ·intro k h0 h1
  rw [dif_pos ⟨h0, h1⟩]
  obtain ⟨s, q1, q2, q3, q4⟩ := (key k h0 h1).choose_spec
  exact ⟨s, q2, q3⟩
end Go.Proofs.YtcpkjmpbpmeclaaGreatDoor
