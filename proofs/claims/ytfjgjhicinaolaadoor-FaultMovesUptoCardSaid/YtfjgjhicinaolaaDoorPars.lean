/- Steps told again: the plain layer. -/
import Derived.Test.YtfjgjhicinaolaaDoorEsc
namespace Go.Proofs.YtfjgjhicinaolaaDoor.Esc
set_option linter.unusedVariables false
set_option linter.unusedSimpArgs false
set_option linter.unnecessarySimpa false

/-- What is left of a text, read on: 'ini' are the steps that are done, 'cur' the one that is being read. -/
def pars : List UInt8 → List (List UInt8) → List UInt8 → Option (List (List UInt8))
  | [], ini, cur => some (ini ++ [cur])
  | b :: r, ini, cur =>
    if b = 47 then pars r (ini ++ [cur]) []
    else if b = 126 then
      match r with
      | [] => none
      | c :: r => if c = 48 then pars r ini (cur ++ [126]) else if c = 49 then pars r ini (cur ++ [47]) else none
    else pars r ini (cur ++ [b])
theorem pars_slash (r : List UInt8) (ini : List (List UInt8)) (cur : List UInt8) : pars (47 :: r) ini cur = pars r (ini ++ [cur]) [] := by rw [pars.eq_def]; simp
theorem pars_zero (r : List UInt8) (ini : List (List UInt8)) (cur : List UInt8) : pars (126 :: 48 :: r) ini cur = pars r ini (cur ++ [126]) := by rw [pars.eq_def]; simp
theorem pars_one (r : List UInt8) (ini : List (List UInt8)) (cur : List UInt8) : pars (126 :: 49 :: r) ini cur = pars r ini (cur ++ [47]) := by rw [pars.eq_def]; simp
theorem pars_other (b : UInt8) (r : List UInt8) (ini : List (List UInt8)) (cur : List UInt8) (h1 : b ≠ 47) (h2 : b ≠ 126) : pars (b :: r) ini cur = pars r ini (cur ++ [b]) := by rw [pars.eq_def]; simp only [if_neg h1, if_neg h2]
/-- What stands ahead, where it is read on. -/
theorem pars_ahead (b : UInt8) (r : List UInt8) (ini : List (List UInt8)) (cur : List UInt8) (R : List (List UInt8)) (h : pars (b :: r) ini cur = some R) :
    (b = 47 ∧ pars r (ini ++ [cur]) [] = some R) ∨ (b ≠ 47 ∧ b = 126 ∧ ∃ c r', r = c :: r' ∧ ((c = 48 ∧ pars r' ini (cur ++ [126]) = some R) ∨ (c = 49 ∧ pars r' ini (cur ++ [47]) = some R))) ∨ (b ≠ 47 ∧ b ≠ 126 ∧ pars r ini (cur ++ [b]) = some R) := by
  by_cases h1 : b = 47
  · subst h1; rw [pars_slash] at h; exact .inl ⟨rfl, h⟩
  · by_cases h2 : b = 126
    · subst h2
      cases r with
      | nil => rw [pars.eq_def] at h; simp at h
      | cons c r =>
        refine .inr (.inl ⟨h1, rfl, c, r, rfl, ?_⟩)
        by_cases h3 : c = 48
        · subst h3; rw [pars_zero] at h; exact .inl ⟨rfl, h⟩
        · by_cases h4 : c = 49
          · subst h4; rw [pars_one] at h; exact .inr ⟨rfl, h⟩
          · rw [pars.eq_def] at h; simp [h3, h4] at h
    · rw [pars_other b r ini cur h1 h2] at h
      exact .inr (.inr ⟨h1, h2, h⟩)
theorem pars_esc (s r : List UInt8) (ini : List (List UInt8)) (cur : List UInt8) : pars (esc s ++ r) ini cur = pars r ini (cur ++ s) := by
  induction s generalizing cur with
  | nil => simp [esc]
  | cons b l ih =>
    have h3 : esc (b :: l) = escB b ++ esc l := by simp [esc]
    rw [h3, List.append_assoc]
    unfold escB
    by_cases e1 : b = 126
    · subst e1
      rw [if_pos rfl]
      show pars (126 :: 48 :: (esc l ++ r)) ini cur = _
      rw [pars_zero, ih]; simp
    · rw [if_neg e1]
      by_cases e2 : b = 47
      · subst e2
        rw [if_pos rfl]
        show pars (126 :: 49 :: (esc l ++ r)) ini cur = _
        rw [pars_one, ih]; simp
      · rw [if_neg e2]
        show pars (b :: (esc l ++ r)) ini cur = _
        rw [pars_other b _ ini cur e2 e1, ih]; simp
/-- The text of some steps, and an end. -/
def told (l : List (List UInt8)) : List UInt8 := l.flatMap fun s => 47 :: esc s
theorem pars_told (l : List (List UInt8)) (ini : List (List UInt8)) (cur e : List UInt8) : pars (told l ++ (47 :: esc e)) ini cur = some (ini ++ [cur] ++ l ++ [e]) := by
  induction l generalizing ini cur with
  | nil =>
    have := pars_esc e [] (ini ++ [cur]) []
    rw [List.append_nil] at this
    show pars (47 :: esc e) ini cur = _
    rw [pars_slash, this]
    simp [pars]
  | cons s l ih =>
    have : told (s :: l) ++ (47 :: esc e) = 47 :: (esc s ++ (told l ++ (47 :: esc e))) := by simp [told]
    rw [this, pars_slash, pars_esc, ih]
    simp
theorem told_cons (s : List UInt8) (l : List (List UInt8)) : told (s :: l) = (47 :: esc s) ++ told l := by simp [told]
theorem esc_length (s : List UInt8) : (esc s).length ≤ 2 * s.length := by
  induction s with
  | nil => simp [esc]
  | cons b l ih =>
    have h3 : esc (b :: l) = escB b ++ esc l := by simp [esc]
    rw [h3, List.length_append, List.length_cons]
    have : (escB b).length ≤ 2 := by
      unfold escB
      by_cases e1 : b = 126
      · simp [e1]
      · by_cases e2 : b = 47 <;> simp [e1, e2]
    omega
theorem told_length (l : List (List UInt8)) : (told l).length ≤ 2 * (l.map fun s => 1 + s.length).sum := by
  induction l with
  | nil => simp [told]
  | cons s l ih =>
    rw [told_cons, List.length_append, List.map_cons, List.sum_cons]
    have := esc_length s
    simp only [List.length_cons]; omega
end Go.Proofs.YtfjgjhicinaolaaDoor.Esc
