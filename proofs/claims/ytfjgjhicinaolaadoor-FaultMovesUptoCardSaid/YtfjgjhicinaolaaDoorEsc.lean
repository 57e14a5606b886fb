/- What a step is written as: the plain layer. -/
import Derived.Lib.Replace
import Derived.Lib.SplitLaws
namespace Go.Proofs.YtfjgjhicinaolaaDoor.Esc
set_option linter.unusedVariables false
set_option linter.unusedSimpArgs false
set_option linter.unnecessarySimpa false

def esc1 (c : UInt8) (new s : List UInt8) : List UInt8 := s.flatMap fun b => if b = c then new else [b]
theorem esc1_none (c : UInt8) (new : List UInt8) : ∀ s : List UInt8, s.count c = 0 → esc1 c new s = s
  | [], _ => rfl
  | b :: l, h => by
    have hb : b ≠ c := fun e => by subst e; simp at h
    have hl : l.count c = 0 := by simpa [List.count_cons, hb] using h
    have ih := esc1_none c new l hl
    unfold esc1 at ih ⊢
    rw [List.flatMap_cons, ih, if_neg hb]; rfl
theorem index_eq (c : UInt8) (l : List UInt8) : Lib.index (c :: l) [c] = 0 := by simp [Lib.index]
theorem index_ne (b c : UInt8) (l : List UInt8) (h : b ≠ c) : Lib.index (b :: l) [c] = if Lib.index l [c] = -1 then -1 else Lib.index l [c] + 1 := by
  have hp : [c].isPrefixOf (b :: l) = false := by simp [List.isPrefixOf, Ne.symm h]
  conv => lhs; unfold Lib.index
  rw [hp]
  by_cases e : Lib.index l [c] = -1 <;> simp [e]
theorem index_miss (c : UInt8) : ∀ l : List UInt8, Lib.index l [c] = -1 → l.count c = 0
  | [], _ => rfl
  | b :: l, h => by
    by_cases e : b = c
    · subst e; rw [index_eq] at h; omega
    · rw [index_ne b c l e] at h
      have := Lib.index_ge l [c]
      by_cases e2 : Lib.index l [c] = -1
      · simpa [List.count_cons, e] using index_miss c l e2
      · rw [if_neg e2] at h; omega
theorem replaceK_one (c : UInt8) (new : List UInt8) : ∀ (s : List UInt8) (k : Nat), s.count c ≤ k → Lib.replaceK [c] new k s = esc1 c new s
  | [], 0, _ => rfl
  | [], k + 1, _ => by simp [Lib.replaceK, Lib.index, esc1]
  | b :: l, 0, h => by rw [esc1_none c new (b :: l) (by omega)]; rfl
  | b :: l, k + 1, h => by
    by_cases e : b = c
    · subst e
      rw [Lib.replaceK_hit [b] new k (b :: l) 0 (index_eq b l)]
      have hl : l.count b ≤ k := by simpa using h
      have := replaceK_one b new l k hl
      simp [esc1] at this ⊢
      exact this
    · have hl : l.count c ≤ k + 1 := by simpa [List.count_cons, e] using h
      have ih := replaceK_one c new l (k + 1) hl
      have hge := Lib.index_ge l [c]
      by_cases e2 : Lib.index l [c] = -1
      · have hi : Lib.index (b :: l) [c] = -1 := by rw [index_ne b c l e, if_pos e2]
        rw [esc1_none c new (b :: l) (index_miss c _ hi)]
        simp [Lib.replaceK, hi]
      · obtain ⟨i, hi⟩ : ∃ i : Nat, Lib.index l [c] = i := ⟨(Lib.index l [c]).toNat, by omega⟩
        have hi2 : Lib.index (b :: l) [c] = ((i + 1 : Nat) : Int) := by rw [index_ne b c l e, if_neg e2, hi]; rfl
        rw [Lib.replaceK_hit [c] new k (b :: l) (i + 1) hi2]
        rw [Lib.replaceK_hit [c] new k l i hi] at ih
        have : esc1 c new (b :: l) = b :: esc1 c new l := by simp [esc1, e]
        rw [this, ← ih]
        simp [Nat.add_right_comm]
theorem replaceAll_one (c : UInt8) (new s : List UInt8) (h : [c] ≠ new) : Lib.replaceAll s [c] new = esc1 c new s := by
  unfold Lib.replaceAll Lib.replace
  rw [if_neg (by simpa using h)]
  refine replaceK_one c new s _ ?_
  simp [Lib.replaceNum, Lib.count_one]

/-- A step as it is written, without the stroke. -/
def escB (b : UInt8) : List UInt8 := if b = 126 then [126, 48] else if b = 47 then [126, 49] else [b]
def esc (s : List UInt8) : List UInt8 := s.flatMap escB
theorem esc_twice (s : List UInt8) : esc1 47 [126, 49] (esc1 126 [126, 48] s) = esc s := by
  induction s with
  | nil => rfl
  | cons b l ih =>
    have h1 : esc1 126 [126, 48] (b :: l) = (if b = 126 then [126, 48] else [b]) ++ esc1 126 [126, 48] l := by simp [esc1]
    have h2 : ∀ x y : List UInt8, esc1 47 [126, 49] (x ++ y) = esc1 47 [126, 49] x ++ esc1 47 [126, 49] y := fun x y => by simp [esc1]
    have h3 : esc (b :: l) = escB b ++ esc l := by simp [esc]
    rw [h1, h2, ih, h3]
    congr 1
    unfold escB
    by_cases e1 : b = 126
    · subst e1; rfl
    · rw [if_neg e1, if_neg e1]
      by_cases e2 : b = 47
      · subst e2; rfl
      · simp [esc1, e2]
theorem esc1_length (c : UInt8) (new s : List UInt8) (h : new.length = 2) : (esc1 c new s).length ≤ 2 * s.length := by
  induction s with
  | nil => simp [esc1]
  | cons b l ih =>
    have h1 : esc1 c new (b :: l) = (if b = c then new else [b]) ++ esc1 c new l := by simp [esc1]
    rw [h1, List.length_append]
    have : (if b = c then new else [b]).length ≤ 2 := by by_cases e : b = c <;> simp [e, h]
    simp only [List.length_cons]; omega
theorem esc_append (s t : List UInt8) : esc (s ++ t) = esc s ++ esc t := by simp [esc]
end Go.Proofs.YtfjgjhicinaolaaDoor.Esc
