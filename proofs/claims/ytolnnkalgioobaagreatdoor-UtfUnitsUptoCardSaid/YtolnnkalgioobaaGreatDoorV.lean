/- The program's order is that of the document's code lists. -/
import Derived.Test.YtolnnkalgioobaaGreatDoorU
namespace Go.Proofs.YtolnnkalgioobaaGreatDoor
open Go.RowKit
set_option maxRecDepth 100000
set_option linter.unusedVariables false
set_option linter.unusedSimpArgs false
set_option linter.unnecessarySimpa false

theorem codeL_ne (x : RStep) : codeL x ≠ [] := by unfold codeL; (repeat' split) <;> simp
theorem rsteps_cons {s : ByteArray} {a k : Nat} (h : a < s.size) : rsteps (k + 1) s a = rstep s a :: rsteps k s (a + (rstep s a).size) := by rw [rsteps, if_pos h]
theorem codesL_cons (x : RStep) (l : List RStep) : codesL (x :: l) = codeL x ++ codesL l := by simp [codesL]
theorem codesL_ne {s : ByteArray} {a k : Nat} (h : a < s.size) : codesL (rsteps (k + 1) s a) ≠ [] := by
  rw [rsteps_cons h, codesL_cons]
  intro e
  exact codeL_ne _ (List.append_eq_nil_iff.1 e).1
theorem cmpLL_l (l : List Int) (h : l ≠ []) : cmpLL [] l = -1 := by
  cases l with
  | nil => exact absurd rfl h
  | cons x l => rfl
theorem cmpLL_r (l : List Int) (h : l ≠ []) : cmpLL l [] = 1 := by
  cases l with
  | nil => exact absurd rfl h
  | cons x l => rfl
theorem cmpK_eq (s t : ByteArray) : ∀ k k1 k2 a, a ≤ s.size → a ≤ t.size → s.size ≤ a + k → s.size ≤ a + k1 → t.size ≤ a + k2 →
    cmpK k s t a = cmpLL (codesL (rsteps k1 s a)) (codesL (rsteps k2 t a))
  | k, k1, k2, a, ha, ha2, hk, hk1, hk2 => by
    by_cases hlt : a < s.size ∧ a < t.size
    · obtain ⟨h1, h2⟩ := hlt
      obtain ⟨k, rfl⟩ : ∃ q, k = q + 1 := ⟨k - 1, by omega⟩
      obtain ⟨k1, rfl⟩ : ∃ q, k1 = q + 1 := ⟨k1 - 1, by omega⟩
      obtain ⟨k2, rfl⟩ : ∃ q, k2 = q + 1 := ⟨k2 - 1, by omega⟩
      have f1 := rstep_fit s a h1
      have f2 := rstep_fit t a h2
      rw [rsteps_cons h1, rsteps_cons h2, codesL_cons, codesL_cons]
      obtain ⟨e1, e2⟩ := step_cmp _ _ (rstep_ok s a h1) (rstep_ok t a h2) (codesL (rsteps k1 s (a + (rstep s a).size))) (codesL (rsteps k2 t (a + (rstep t a).size)))
      rw [e1, cmpK, if_pos ⟨h1, h2⟩, weigh_rstep, weigh_rstep]
      by_cases hx : weightR (rstep s a) < weightR (rstep t a)
      · rw [if_pos hx, if_pos hx]
      · by_cases hy : weightR (rstep t a) < weightR (rstep s a)
        · rw [if_neg hx, if_pos hy, if_neg hx, if_pos hy]
        · have e := e2 hx hy
          rw [if_neg hx, if_neg hy, if_neg hx, if_neg hy]
          rw [← e]
          simp only [Nat.min_self]
          rw [← e] at f2
          exact cmpK_eq s t k k1 k2 _ (by omega) (by omega) (by omega) (by omega) (by omega)
    · rw [cmpK_end s t a hlt]
      unfold cmpE
      by_cases h1 : a < s.size
      · obtain ⟨k1, rfl⟩ : ∃ q, k1 = q + 1 := ⟨k1 - 1, by omega⟩
        have h2 : ¬ a < t.size := fun h => hlt ⟨h1, h⟩
        rw [rsteps_end h2, if_neg (by omega), if_pos (by omega)]
        exact (cmpLL_r _ (codesL_ne h1)).symm
      · rw [rsteps_end h1]
        by_cases h2 : a < t.size
        · obtain ⟨k2, rfl⟩ : ∃ q, k2 = q + 1 := ⟨k2 - 1, by omega⟩
          rw [if_pos (by omega)]
          exact (cmpLL_l _ (codesL_ne h2)).symm
        · rw [rsteps_end h2, if_neg (by omega), if_neg (by omega)]
          rfl
/-- The document's code list of a string. -/
def codesF (s : ByteArray) : List Int := codesL (rsteps s.size s 0)
theorem cmpF_eq (s t : ByteArray) : cmpF s t = cmpLL (codesF s) (codesF t) :=
  cmpK_eq s t _ _ _ 0 (by omega) (by omega) (by omega) (by omega) (by omega)
theorem cmpLL_self : ∀ l : List Int, cmpLL l l = 0
  | [] => rfl
  | x :: l => by rw [cmpLL, if_neg (by omega), if_neg (by omega)]; exact cmpLL_self l
end Go.Proofs.YtolnnkalgioobaaGreatDoor
