/- The program's order is that of the document's code lists. -/
import Derived.Test.YtolnnkalgioobaaU
namespace Go.Proofs.Ytolnnkalgioobaa
open Go.RowKit
set_option maxRecDepth 100000
set_option linter.unusedVariables false
set_option linter.unusedSimpArgs false
set_option linter.unnecessarySimpa false

theorem codeL_ne (x : RStep) : codeL x ≠ [] := by unfold codeL; (repeat' split) <;> simp
theorem rsteps_cons {s : ByteArray} {a k : Nat} (h : a < s.size) : rsteps (k + 1) s a = rstep s a :: rsteps k s (a + (rstep s a).size) := by rw [rsteps, if_pos h]
theorem codesL_cons (x : RStep) (l : List RStep) : codesL (x :: l) = codeL x ++ codesL l := by simp [codesL]
theorem codesL_ne {s : ByteArray} {a k : Nat} (h : a < s.size) : codesL (rsteps (k + 1) s a) ≠ [] := by
  rw [rsteps_cons h, codesL_cons]
  intro e
  exact codeL_ne _ (List.append_eq_nil_iff.1 e).1
theorem cmpLL_l (l : List Int) (h : l ≠ []) : cmpLL [] l = -1 := by
  cases l with
  | nil => exact absurd rfl h
  | cons x l => rfl
theorem cmpLL_r (l : List Int) (h : l ≠ []) : cmpLL l [] = 1 := by
  cases l with
  | nil => exact absurd rfl h
  | cons x l => rfl
theorem cmpK_eq (s t : ByteArray) : ∀ k k1 k2 a, a ≤ s.size → a ≤ t.size → s.size ≤ a + k → s.size ≤ a + k1 → t.size ≤ a + k2 →
    cmpK k s t a = cmpLL (codesL (rsteps k1 s a)) (codesL (rsteps k2 t a))
  | k, k1, k2, a, ha, ha2, hk, hk1, hk2 => by
    by_cases hlt : a < s.size ∧ a < t.size
    · obtain ⟨h1, h2⟩ := hlt
      obtain ⟨k, rfl⟩ : ∃ q, k = q + 1 := ⟨k - 1, by omega⟩
      obtain ⟨k1, rfl⟩ : ∃ q, k1 = q + 1 := ⟨k1 - 1, by omega⟩
      obtain ⟨k2, rfl⟩ : ∃ q, k2 = q + 1 := ⟨k2 - 1, by omega⟩
      have f1 := rstep_fit s a h1
      have f2 := rstep_fit t a h2
      rw [rsteps_cons h1, rsteps_cons h2, codesL_cons, codesL_cons]
      obtain ⟨e1, e2⟩ := step_cmp _ _ (rstep_ok s a h1) (rstep_ok t a h2) (codesL (rsteps k1 s (a + (rstep s a).size))) (codesL (rsteps k2 t (a + (rstep t a).size)))
      rw [e1, cmpK, if_pos ⟨h1, h2⟩, weigh_rstep, weigh_rstep]
      by_cases hx : weightR (rstep s a) < weightR (rstep t a)
      · rw [if_pos hx, if_pos hx]
      · by_cases hy : weightR (rstep t a) < weightR (rstep s a)
        · rw [if_neg hx, if_pos hy, if_neg hx, if_pos hy]
        · have e := e2 hx hy
          rw [if_neg hx, if_neg hy, if_neg hx, if_neg hy]
          rw [← e]
          simp only [Nat.min_self]
          rw [← e] at f2
          exact cmpK_eq s t k k1 k2 _ (by omega) (by omega) (by omega) (by omega) (by omega)
    · rw [cmpK_end s t a hlt]
      unfold cmpE
      by_cases h1 : a < s.size
      · obtain ⟨k1, rfl⟩ : ∃ q, k1 = q + 1 := ⟨k1 - 1, by omega⟩
        have h2 : ¬ a < t.size := fun h => hlt ⟨h1, h⟩
        rw [rsteps_end h2, if_neg (by omega), if_pos (by omega)]
        exact (cmpLL_r _ (codesL_ne h1)).symm
      · rw [rsteps_end h1]
        by_cases h2 : a < t.size
        · obtain ⟨k2, rfl⟩ : ∃ q, k2 = q + 1 := ⟨k2 - 1, by omega⟩
          rw [if_pos (by omega)]
          exact (cmpLL_l _ (codesL_ne h2)).symm
        · rw [rsteps_end h2, if_neg (by omega), if_neg (by omega)]
          rfl
/-- The document's code list of a string. -/
def codesF (s : ByteArray) : List Int := codesL (rsteps s.size s 0)
theorem cmpF_eq (s t : ByteArray) : cmpF s t = cmpLL (codesF s) (codesF t) :=
  cmpK_eq s t _ _ _ 0 (by omega) (by omega) (by omega) (by omega) (by omega)
theorem cmpLL_self : ∀ l : List Int, cmpLL l l = 0
  | [] => rfl
  | x :: l => by rw [cmpLL, if_neg (by omega), if_neg (by omega)]; exact cmpLL_self l
theorem refCmp_any (s t : ByteArray) (w : World) (hs : s.size ≤ 1048576) (ht : t.size ≤ 1048576) :
    Calls Try.prog 16 #[.string s, .string t] w fun e w' => e = .returned (.int .i64 (cmpF s t)) ∧ Below w.heap.size w w' := by
  have c : ∀ (u : ByteArray) (W : World), u.size ≤ 1048576 → Calls Try.prog 37 #[.string u] W fun e w' => ∃ v, e = .returned v ∧ Own w' W.heap.size 3 .i64 v (codesF u) ∧ Below W.heap.size W w' := fun u W hu =>
    codes_from u (rsteps u.size u 0) W (Nat.le_trans (rsteps_len _ _ _ (by omega)) (by omega)) (rsteps_pt _ _ _) (refSteps_any u W hu)
  have hl : ∀ u : ByteArray, u.size ≤ 1048576 → (codesF u).length ≤ 2097152 := fun u hu => by
    have := codesL_len (rsteps u.size u 0)
    have := rsteps_len u.size u 0 (by omega)
    unfold codesF
    omega
  rw [cmpF_eq]
  exact refCmp_of s t _ _ w (hl s hs) (hl t ht) (fun W => c s W hs) (fun W => c t W ht)

theorem ordersW (s t : ByteArray) (w : World) (hs : s.size ≤ 1048576) (ht : t.size ≤ 1048576) :
    Calls Try.prog 4 #[.string s, .string t] w fun e w' => e = .returned (.bool true) ∧ Below w.heap.size w w' := by
  have c1 := fun w => cmp_any s t w (by omega) (by omega)
  have c2 := fun w => refCmp_any s t w hs ht
  have c3 := fun w => cmp_any t s w (by omega) (by omega)
  have c4 := fun w => refCmp_any t s w ht hs
  have c5 := fun w => cmp_any s s w (by omega) (by omega)
  have e5 : cmpF s s = 0 := by rw [cmpF_eq, cmpLL_self]
  rw [e5] at c5
  clear e5
  generalize cmpF s t = x at *
  generalize cmpF t s = y at *
  have k1 : (x == x) = true := by simp
  have k2 : (y == y) = true := by simp
  go_enter Try.func4, Try.ntmps4
  go_wp2_with (first
    | (go_at_call 15; with_reducible refine (c1 _).mono ?_; rintro e w1 ⟨rfl, rfl⟩)
    | (go_at_call 15; with_reducible refine (c3 _).mono ?_; rintro e w1 ⟨rfl, rfl⟩)
    | (go_at_call 15; with_reducible refine (c5 _).mono ?_; rintro e w1 ⟨rfl, rfl⟩)
    | (go_at_call 16; with_reducible refine (c2 _).mono ?_; rintro e w2 ⟨rfl, hb2⟩)
    | (go_at_call 16; with_reducible refine (c4 _).mono ?_; rintro e w3 ⟨rfl, hb3⟩)
    | (go_at_call 13; refine (lives_any _).mono ?_; rintro e w4 ⟨rfl, hb4⟩))
  go_ret
  exact ⟨rfl, below_on (below_on hb2 hb3) hb4⟩
end Go.Proofs.Ytolnnkalgioobaa
