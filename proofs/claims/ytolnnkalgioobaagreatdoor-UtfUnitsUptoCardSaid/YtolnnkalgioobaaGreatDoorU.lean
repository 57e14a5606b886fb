/- The program's order is the document's. -/
import Derived.Test.YtolnnkalgioobaaGreatDoorT
namespace Go.Proofs.YtolnnkalgioobaaGreatDoor
open Go.RowKit
set_option maxRecDepth 100000
set_option linter.unusedVariables false
set_option linter.unusedSimpArgs false
set_option linter.unnecessarySimpa false

def sizeP (p : Int) : Nat := if p < 128 then 1 else if p < 2048 then 2 else if p < 65536 then 3 else 4
theorem dec4_size {c x y z p : Int} {n : Nat} (h : dec4 c x y z = some (p, n)) : n = sizeP p := by
  unfold dec4 at h
  unfold sizeP
  repeat' split at h
  all_goals first
    | (cases h; done)
    | (obtain ⟨rfl, rfl⟩ := Prod.mk.inj (Option.some.inj h)
       simp only [isPt, cont, Bool.and_eq_true, Bool.or_eq_true, decide_eq_true_eq] at *
       (repeat' split) <;> omega)
/-- A step's weight. -/
def weightR (x : RStep) : Int := if x.good = false then (65536 + x.point) * 65536 else if 65536 ≤ x.point then (55296 + (x.point - 65536) / 1024) * 65536 + 56320 + (x.point - 65536) % 1024 else x.point * 65536
theorem weigh_rstep (s : ByteArray) (a : Nat) : weighF s a = (weightR (rstep s a), (rstep s a).size) := by
  unfold weighF rstep weightR
  rcases decS s a with _ | ⟨p, n⟩
  · rfl
  · by_cases h : 65536 ≤ p <;> simp [h]
def okR (x : RStep) : Prop := if x.good then isPt x.point = true ∧ x.size = sizeP x.point else 0 ≤ x.point ∧ x.point ≤ 255 ∧ x.size = 1
theorem rstep_ok (s : ByteArray) (a : Nat) (h : a < s.size) : okR (rstep s a) := by
  unfold rstep okR
  rcases hd : decS s a with _ | ⟨p, n⟩
  · have := at1_range s a
    have := (at1_in s a).2 h
    simp; omega
  · simp only [if_true]
    exact ⟨(decS_some hd).1, dec4_size hd⟩
theorem w_bad (a n : Nat) (p : Int) : weightR ⟨a, n, p, false⟩ = (65536 + p) * 65536 := rfl
theorem w_lo (a n : Nat) {p : Int} (h : p < 65536) : weightR ⟨a, n, p, true⟩ = p * 65536 := by
  unfold weightR
  rw [if_neg (by simp), if_neg (by simp; omega)]
theorem w_hi (a n : Nat) {p : Int} (h : ¬ p < 65536) : weightR ⟨a, n, p, true⟩ = (55296 + (p - 65536) / 1024) * 65536 + 56320 + (p - 65536) % 1024 := by
  unfold weightR
  rw [if_neg (by simp), if_pos (by simp; omega)]
theorem c_bad (a n : Nat) (p : Int) : codeL ⟨a, n, p, false⟩ = [65536 + p] := rfl
theorem c_lo (a n : Nat) {p : Int} (h : p < 65536) : codeL ⟨a, n, p, true⟩ = [p] := by
  unfold codeL
  rw [if_neg (by simp), if_pos h]
theorem c_hi (a n : Nat) {p : Int} (h : ¬ p < 65536) : codeL ⟨a, n, p, true⟩ = [55296 + (p - 65536) / 1024, 56320 + (p - 65536) % 1024] := by
  unfold codeL
  rw [if_neg (by simp), if_neg h]
theorem cmp3 (a b x y : Int) (r q : List Int) (A B : Int) (n m : Nat) (h1 : x < y → A < B) (h2 : y < x → B < A) (h3 : x = y → A = B ∧ n = m) (ha : A = B → x = y) :
    cmpLL (x :: r) (y :: q) = (if A < B then -1 else if B < A then 1 else cmpLL r q) ∧ (¬ A < B → ¬ B < A → n = m) := by
  rw [cmpLL]
  rcases Int.lt_trichotomy x y with h | h | h
  · have := h1 h
    rw [if_pos h, if_pos this]
    exact ⟨rfl, fun k => absurd this k⟩
  · have := h3 h
    subst h
    rw [if_neg (by omega), if_neg (by omega), if_neg (by omega), if_neg (by omega)]
    exact ⟨rfl, fun _ _ => this.2⟩
  · have := h2 h
    rw [if_neg (by omega), if_pos h, if_neg (by omega), if_pos this]
    exact ⟨rfl, fun _ k => absurd this k⟩
theorem step_cmp (x y : RStep) (hx : okR x) (hy : okR y) (r q : List Int) :
    cmpLL (codeL x ++ r) (codeL y ++ q) = (if weightR x < weightR y then -1 else if weightR y < weightR x then 1 else cmpLL r q) ∧ (¬ weightR x < weightR y → ¬ weightR y < weightR x → x.size = y.size) := by
  obtain ⟨a, n, p, g⟩ := x
  obtain ⟨b, m, u, k⟩ := y
  unfold okR at hx hy
  rcases g with _ | _ <;> rcases k with _ | _ <;> simp only [Bool.false_eq_true, if_false, if_true, isPt_iff, Bool.true_eq_false] at hx hy ⊢
  · rw [w_bad, w_bad, c_bad, c_bad]
    exact cmp3 0 0 _ _ r q _ _ n m (by omega) (by omega) (by omega) (by omega)
  · by_cases hu : u < 65536
    · rw [w_bad, w_lo _ _ hu, c_bad, c_lo _ _ hu]
      rw [List.singleton_append, List.singleton_append, cmpLL, if_neg (by omega), if_pos (by omega), if_neg (by omega), if_pos (by omega)]
      exact ⟨rfl, by omega⟩
    · rw [w_bad, w_hi _ _ hu, c_bad, c_hi _ _ hu]
      rw [List.singleton_append, List.cons_append, cmpLL, if_neg (by omega), if_pos (by omega), if_neg (by omega), if_pos (by omega)]
      exact ⟨rfl, by omega⟩
  · by_cases hp : p < 65536
    · rw [w_bad, w_lo _ _ hp, c_bad, c_lo _ _ hp]
      rw [List.singleton_append, List.singleton_append, cmpLL, if_pos (by omega), if_pos (by omega)]
      exact ⟨rfl, by omega⟩
    · rw [w_bad, w_hi _ _ hp, c_bad, c_hi _ _ hp]
      rw [List.singleton_append, List.cons_append, cmpLL, if_pos (by omega), if_pos (by omega)]
      exact ⟨rfl, by omega⟩
  · by_cases hp : p < 65536 <;> by_cases hu : u < 65536
    · rw [w_lo _ _ hp, w_lo _ _ hu, c_lo _ _ hp, c_lo _ _ hu]
      refine cmp3 0 0 _ _ r q _ _ n m (by omega) (by omega) ?_ (by omega)
      intro h
      subst h
      exact ⟨rfl, by rw [hx.2, hy.2]⟩
    · rw [w_lo _ _ hp, w_hi _ _ hu, c_lo _ _ hp, c_hi _ _ hu]
      rw [List.singleton_append, List.cons_append, cmpLL]
      rcases Int.lt_or_le p (55296 + (u - 65536) / 1024) with h | h
      · rw [if_pos h, if_pos (by omega)]
        exact ⟨rfl, by omega⟩
      · rw [if_neg (by omega), if_pos (by omega), if_neg (by omega), if_pos (by omega)]
        exact ⟨rfl, by omega⟩
    · rw [w_hi _ _ hp, w_lo _ _ hu, c_hi _ _ hp, c_lo _ _ hu]
      rw [List.singleton_append, List.cons_append, cmpLL]
      rcases Int.lt_or_le (55296 + (p - 65536) / 1024) u with h | h
      · rw [if_pos h, if_pos (by omega)]
        exact ⟨rfl, by omega⟩
      · rw [if_neg (by omega), if_pos (by omega), if_neg (by omega), if_pos (by omega)]
        exact ⟨rfl, by omega⟩
    · rw [w_hi _ _ hp, w_hi _ _ hu, c_hi _ _ hp, c_hi _ _ hu]
      simp only [List.cons_append, List.nil_append, cmpLL]
      rcases Int.lt_trichotomy p u with h | h | h
      · rw [if_pos (show (55296 + (p - 65536) / 1024) * 65536 + 56320 + (p - 65536) % 1024 < (55296 + (u - 65536) / 1024) * 65536 + 56320 + (u - 65536) % 1024 from by omega)]
        refine ⟨?_, by omega⟩
        by_cases h1 : (p - 65536) / 1024 < (u - 65536) / 1024
        · rw [if_pos (by omega)]
        · rw [if_neg (by omega), if_neg (by omega), if_pos (by omega)]
      · subst h
        simp only [Int.lt_irrefl, if_false]
        exact ⟨trivial, fun _ _ => by rw [hx.2, hy.2]⟩
      · rw [if_neg (show ¬ (55296 + (p - 65536) / 1024) * 65536 + 56320 + (p - 65536) % 1024 < (55296 + (u - 65536) / 1024) * 65536 + 56320 + (u - 65536) % 1024 from by omega), if_pos (show (55296 + (u - 65536) / 1024) * 65536 + 56320 + (u - 65536) % 1024 < (55296 + (p - 65536) / 1024) * 65536 + 56320 + (p - 65536) % 1024 from by omega)]
        refine ⟨?_, by omega⟩
        by_cases h1 : (u - 65536) / 1024 < (p - 65536) / 1024
        · rw [if_neg (by omega), if_pos (by omega)]
        · rw [if_neg (by omega), if_neg (by omega), if_neg (by omega), if_pos (by omega)]
end Go.Proofs.YtolnnkalgioobaaGreatDoor
