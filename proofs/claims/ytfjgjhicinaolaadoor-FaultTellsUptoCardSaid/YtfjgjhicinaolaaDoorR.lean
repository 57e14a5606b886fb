/- FaultSteps: the argument opened. -/
import Derived.Test.YtfjgjhicinaolaaDoorQ
import Derived.SliceStrings
import Derived.OpenShut
import Derived.ChangeOld
namespace Go.Proofs.YtfjgjhicinaolaaDoor
open Go.ChangeShapes Go.WideShapes Go.RowKit
set_option linter.unusedVariables false
set_option linter.unusedSimpArgs false
set_option maxRecDepth 100000

section
variable {H : Type} {enc : TypeId × Value → H} {w : World} {base : Nat} {spare : Nat → Bool} {held : Bool}
theorem bulkAll_append (l r : List (DataW H)) : Rows.uptoBulkAll (l ++ r) = Rows.uptoBulkAll l + Rows.uptoBulkAll r := by
  induction l with
  | nil => simp [Rows.uptoBulkAll]
  | cons x l ih => simp only [List.cons_append, Rows.uptoBulkAll, ih]; omega
theorem tot_bulk (ss : List ByteArray) : tot (ss.map fun s => s.data.toList) ≤ Rows.uptoBulkAll (ChangeShapes.strs (H := H) ss) := by
  induction ss with
  | nil => simp [tot]
  | cons s ss ih =>
    have e : tot ((s :: ss).map fun s => s.data.toList) = 1 + s.data.toList.length + tot (ss.map fun s => s.data.toList) := by simp [tot]
    rw [e]
    simp only [ChangeShapes.strs, List.map_cons, Rows.uptoBulkAll, Rows.uptoBulk] at ih ⊢
    omega
theorem open_texts {r : Reach} {b0 : Nat} {v : Value} {d : DataW H} {p : List MemPlace} (hv : Value.okWide Tryd.prog w r b0 53 v) (h : DataW.Trod enc Tryd.prog w base spare held 53 v d p) :
    ∃ A n cap l, v = .slice A n cap ∧ l.length = n ∧ SRow w A l ∧ tot l ≤ Rows.uptoBulk d ∧ n ≤ cap := by
  obtain ⟨A, n, cap, rfl⟩ := okWide_slice Tryd.underlying53 hv
  obtain ⟨fuel, hf⟩ := h
  rcases open_strings Tryd.underlying53 Tryd.underlying9 (by kernel_rfl) hf with ⟨hcs, hx⟩ | ⟨a, len, c, ss, hcs, _, hl, hm, hz, hx, hcell, hsz⟩
  · simp [Value.cells] at hcs
    obtain ⟨rfl, rfl, rfl⟩ := hcs
    exact ⟨none, 0, 0, [], rfl, rfl, fun i hi => by simp at hi, by simp [tot], Nat.le_refl _⟩
  · simp [Value.cells] at hcs
    obtain ⟨rfl, rfl, rfl⟩ := hcs
    simp only [Prod.mk.injEq] at hx
    obtain ⟨rfl, _⟩ := hx
    have hlen : n ≤ ss.length := by rw [hz]; split <;> omega
    refine ⟨some a, n, cap, (ss.take n).map fun s => s.data.toList, rfl, by simp; omega, fun i hi => ?_, ?_, hl⟩
    · simp only [List.length_map, List.length_take] at hi
      have hc := hcell i (by omega)
      obtain ⟨b, off, spot⟩ := a
      have hs : spot = none := by simpa [Addr.add] using World.cell?_spot (hcell 0 (by omega))
      subst hs
      refine ⟨b, off, rfl, ?_⟩
      have e : (⟨b, off, none⟩ : Addr).add i = ⟨b, off + i, none⟩ := by unfold Addr.add; split <;> simp_all
      rw [e] at hc
      rw [hc]
      have hi2 : i < ss.length := by omega
      simp [List.getD_eq_getElem?_getD, hi2, bs_of]
    · have h1 := tot_bulk (H := H) (ss.take n)
      simp only [Rows.uptoBulk]
      omega
end
theorem stepsWalk2 (A : Option Addr) (n cap : Nat) (l : List (List UInt8)) (c : Int) (w : World) (hS : ∃ a oa, Seat a oa w) (hn : l.length = n) (hA : SRow w A l) (hz : tot l ≤ 1048576) (hcap : n ≤ cap) :
    Calls Tryd.prog 7 #[.slice A n cap, .int .i64 c] w fun e w' => e = .returned (.bool true) ∧ Below w.heap.size w w' := stepsWalk A n cap c l w hS hn hA (by omega) hcap
end Go.Proofs.YtfjgjhicinaolaaDoor
