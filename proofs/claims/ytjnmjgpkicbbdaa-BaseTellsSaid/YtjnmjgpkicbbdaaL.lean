/- The walk of BaseSums. -/
import Derived.Test.YtjnmjgpkicbbdaaJ
import Derived.Laws.Rows
namespace Go.Proofs.Ytjnmjgpkicbbdaa
open Go.RowKit
set_option maxRecDepth 100000
set_option linter.unusedVariables false
set_option linter.unusedSimpArgs false

/-- A whole block of bytes. -/
def Blk (W : World) (g : Nat) (zs : List Int) : Prop := W.heap[g]? = some (.cells (numsK .u8 zs).toArray 5 (0, 0))
theorem Blk.at {W : World} {g : Nat} {zs : List Int} (h : Blk W g zs) (k : Nat) (hk : k < zs.length) : W.cell? ⟨g, k, none⟩ = some (.int .u8 (zs.getD k 0)) := by
  rw [Lib.cell_of_heap h]
  exact nums_at _ _ k hk
theorem Blk.free {W : World} {g : Nat} {zs : List Int} (h : Blk W g zs) (k : Nat) : W.frozen? ⟨g, k, none⟩ = false := Lib.frozen_of_heap h _
theorem Blk.lt {W : World} {g : Nat} {zs : List Int} (h : Blk W g zs) : g < W.heap.size := by
  rcases Nat.lt_or_ge g W.heap.size with h1 | h1
  · exact h1
  · unfold Blk at h; rw [Array.getElem?_eq_none h1] at h; cases h
theorem Blk.below {W W1 : World} {g : Nat} {zs : List Int} (h : Blk W g zs) (hb : Below W.heap.size W W1) : Blk W1 g zs := (hb.block g h.lt).trans h
theorem Blk.set {W : World} {g : Nat} {zs : List Int} (h : Blk W g zs) (k : Nat) (y : Int) : Blk (W.setCell ⟨g, k, none⟩ (.int .u8 y)) g (zs.set k y) := by
  have := heap_setCell_same W g k _ 5 (.int .u8 y) h
  unfold Blk
  rw [this]
  congr 2
  apply Array.ext'
  simp [numsK, List.map_set]
theorem Blk.row {W : World} {g : Nat} {xs ys : List Int} (h : Blk W g (xs ++ ys)) : RK W .u8 (some ⟨g, 0, none⟩) xs :=
  .inr ⟨g, 0, rfl, fun j hj => by
    rw [Nat.zero_add, h.at j (by simp; omega)]
    simp [List.getElem?_append_left hj]⟩
theorem RK.set {W : World} {A : Option Addr} {xs : List Int} (h : RK W .u8 A xs) (g k : Nat) (v : Value) (hg : ∀ b off, A = some ⟨b, off, none⟩ → b ≠ g) : RK (W.setCell ⟨g, k, none⟩ v) .u8 A xs := by
  rcases h with h | ⟨b, off, e, h⟩
  · exact .inl h
  · refine .inr ⟨b, off, e, fun j hj => ?_⟩
    rw [World.cell?_setCell_far _ _ _ _ (Ne.symm (hg b off e))]
    exact h j hj
theorem RK.lt {W : World} {A : Option Addr} {xs : List Int} (h : RK W .u8 A xs) (hn : xs ≠ []) : ∀ b off, A = some ⟨b, off, none⟩ → b < W.heap.size := by
  rcases h with h | ⟨b, off, e, h⟩
  · exact absurd h hn
  · intro b1 off1 e1
    rw [e] at e1
    obtain ⟨rfl, rfl⟩ : b = b1 ∧ off = off1 := by simpa using e1
    exact World.block_lt_of_cell? W _ (h 0 (List.length_pos_iff.2 hn))
theorem RK.setGe {W : World} {B : Nat} {A : Option Addr} {xs : List Int} (h : RK W .u8 A xs) (g k : Nat) (v : Value) (w : World) (h0 : RK w .u8 A xs) (hg : w.heap.size ≤ g) : RK (W.setCell ⟨g, k, none⟩ v) .u8 A xs := by
  by_cases hn : xs = []
  · exact .inl hn
  · exact h.set g k v fun b off e => by have := h0.lt hn b off e; omega
/-- A row that the world before held. -/
theorem RK.kept {w W : World} {A : Option Addr} {xs : List Int} (h0 : RK w .u8 A xs) (hb : Below w.heap.size w W) : RK W .u8 A xs := h0.below hb
end Go.Proofs.Ytjnmjgpkicbbdaa
