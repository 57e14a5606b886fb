/- The walk of the document's Cmp. -/
import Derived.Test.YtolnnkalgioobaaGreatDoorS
namespace Go.Proofs.YtolnnkalgioobaaGreatDoor
open Go.RowKit
set_option maxRecDepth 100000
set_option linter.unusedVariables false
set_option linter.unusedSimpArgs false
set_option linter.unnecessarySimpa false

def cmpLL : List Int → List Int → Int
  | [], [] => 0
  | [], _ :: _ => -1
  | _ :: _, [] => 1
  | x :: xs, y :: ys => if x < y then -1 else if y < x then 1 else cmpLL xs ys
theorem cmpLL_drop (xs ys : List Int) (j : Nat) (hx : j < xs.length) (hy : j < ys.length) : cmpLL (xs.drop j) (ys.drop j) = if xs.getD j 0 < ys.getD j 0 then -1 else if ys.getD j 0 < xs.getD j 0 then 1 else cmpLL (xs.drop (j + 1)) (ys.drop (j + 1)) := by
  rw [List.drop_eq_getElem_cons hx, List.drop_eq_getElem_cons hy, cmpLL]
  simp [List.getD_eq_getElem?_getD, List.getElem?_eq_getElem hx, List.getElem?_eq_getElem hy]
theorem cmpLL_end (xs ys : List Int) (j : Nat) (h : ¬ (j < xs.length ∧ j < ys.length)) (hx : j ≤ xs.length) (hy : j ≤ ys.length) : cmpLL (xs.drop j) (ys.drop j) = if xs.length < ys.length then -1 else if ys.length < xs.length then 1 else 0 := by
  rcases h1 : xs.drop j with _ | ⟨x, r⟩ <;> rcases h2 : ys.drop j with _ | ⟨y, q⟩
  · have a1 := congrArg List.length h1; have a2 := congrArg List.length h2
    simp only [List.length_drop, List.length_nil] at a1 a2
    rw [if_neg (by omega), if_neg (by omega)]; rfl
  · have a1 := congrArg List.length h1; have a2 := congrArg List.length h2
    simp only [List.length_drop, List.length_nil, List.length_cons] at a1 a2
    rw [if_pos (by omega)]; rfl
  · have a1 := congrArg List.length h1; have a2 := congrArg List.length h2
    simp only [List.length_drop, List.length_nil, List.length_cons] at a1 a2
    rw [if_neg (by omega), if_pos (by omega)]; rfl
  · have a1 := congrArg List.length h1; have a2 := congrArg List.length h2
    simp only [List.length_drop, List.length_cons] at a1 a2
    omega

end Go.Proofs.YtolnnkalgioobaaGreatDoor
