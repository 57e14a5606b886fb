/- The document's Steps. -/
import Derived.Test.YtolnnkalgioobaaGreatDoorN
namespace Go.Proofs.YtolnnkalgioobaaGreatDoor
open Go.RowKit
set_option maxRecDepth 100000
set_option linter.unusedVariables false
set_option linter.unusedSimpArgs false
set_option linter.unnecessarySimpa false

/-- One step of the document's: place, size, code point or byte, good. -/
structure RStep where
  at' : Nat
  size : Nat
  point : Int
  good : Bool
def rstep (s : ByteArray) (a : Nat) : RStep := match decS s a with
  | none => ⟨a, 1, at1 s a, false⟩
  | some (p, n) => ⟨a, n, p, true⟩
def rcells (x : RStep) : List Value := [.int .i64 x.at', .int .i64 x.size, .int .i64 x.point, .bool x.good]
def rsteps : Nat → ByteArray → Nat → List RStep
  | 0, _, _ => []
  | k + 1, s, a => if a < s.size then rstep s a :: rsteps k s (a + (rstep s a).size) else []
def rowOf (l : List RStep) : List Value := l.flatMap rcells
theorem rowOf_snoc (l : List RStep) (x : RStep) : rowOf (l ++ [x]) = rowOf l ++ rcells x := by simp [rowOf]
theorem rowOf_len (l : List RStep) : (rowOf l).length = l.length * 4 := by
  induction l with
  | nil => rfl
  | cons x l ih => simp only [rowOf, List.flatMap_cons, List.length_append, List.length_cons] at ih ⊢; rw [ih]; simp [rcells]; omega
theorem rstep_fit (s : ByteArray) (a : Nat) (h : a < s.size) : 1 ≤ (rstep s a).size ∧ (rstep s a).size ≤ 4 ∧ a + (rstep s a).size ≤ s.size := by
  unfold rstep
  rcases hd : decS s a with _ | ⟨p, n⟩
  · simp; omega
  · have := decS_some hd
    simp; omega
theorem rstep_agg (s : ByteArray) (a : Nat) : stepV a (at1 s a) (decS s a) = .agg (rcells (rstep s a)).toArray := by
  unfold rstep
  rcases decS s a with _ | ⟨p, n⟩ <;> rfl
theorem info27 : (Tryz.prog.info? 61).map (fun i => (i.zero, i.size, i.bytes)) = some (some (.agg #[.int .i64 0, .int .i64 0, .int .i64 0, .bool false]), 4, 32) := by kernel_rfl
end Go.Proofs.YtolnnkalgioobaaGreatDoor
