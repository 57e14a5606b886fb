/- What is told of a list of bytes that came in. -/
import Derived.Test.YtjnmjgpkicbbdaaGreatDoorJ
import Derived.OpenShut
namespace Go.Proofs.YtjnmjgpkicbbdaaGreatDoor
open Go.RowKit
set_option linter.unusedVariables false

def IsRow (k : IntKind) (w : World) (a : Option Addr) (len cap : Nat) (zs : List Int) : Prop :=
  (a = none ∧ len = 0 ∧ cap = 0 ∧ zs = []) ∨
  ∃ x, a = some x ∧ len ≤ cap ∧ cap ≤ maxLen ∧ zs.length = cap ∧ (∀ i, i < zs.length → w.cell? (x.add i) = some (.int k (zs.getD i 0))) ∧ ∀ n ∈ zs, (Lit.int k n).wf = true

theorem IsRow.rk {w : World} {a : Option Addr} {len cap : Nat} {zs : List Int} (h : IsRow .u8 w a len cap zs) : ∃ xs, xs.length = len ∧ Bytes xs ∧ RK w .u8 a xs ∧ len ≤ cap := by
  rcases h with ⟨rfl, rfl, rfl, rfl⟩ | ⟨x, rfl, hl, hm, hz, hcell, hwz⟩
  · exact ⟨[], rfl, Bytes.nil, .inl rfl, Nat.le_refl _⟩
  · refine ⟨zs.take len, by rw [List.length_take]; omega, fun y hy => bounds_u8 (hwz y (List.mem_of_mem_take hy)), ?_, hl⟩
    by_cases h0 : zs.length = 0
    · left
      rw [List.length_eq_zero_iff.1 h0]
      simp
    · obtain ⟨b, off, rfl, hc⟩ := _root_.Go.ints_at hcell (by omega)
      refine .inr ⟨b, off, rfl, fun j hj => ?_⟩
      rw [List.length_take] at hj
      rw [hc j (by omega)]
      simp only [List.getD_eq_getElem?_getD, List.getElem?_take]
      rw [if_pos (by omega)]
theorem RK.kept {w W : World} {A : Option Addr} {xs : List Int} (h0 : RK w .u8 A xs) (hb : Below w.heap.size w W) : RK W .u8 A xs := h0.below hb
end Go.Proofs.YtjnmjgpkicbbdaaGreatDoor
