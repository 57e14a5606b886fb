/- More plain laws: lengths, joins, what is not read. -/
import Derived.Test.YtjnmjgpkicbbdaaGreatDoorP
namespace Go.Proofs.YtjnmjgpkicbbdaaGreatDoor
open Go.RowKit
set_option linter.unusedVariables false
set_option linter.unusedSimpArgs false

theorem b64L_len : ∀ xs, (b64L xs).length = (8 * xs.length + 5) / 6
  | [] => rfl
  | [a] => by simp [b64L]
  | [a, b] => by simp [b64L]
  | a :: b :: c :: xs => by
    have := b64L_len xs
    simp only [b64L, List.length_cons] at this ⊢
    omega
theorem hexL_app : ∀ xs ys, hexL (xs ++ ys) = hexL xs ++ hexL ys
  | [], ys => rfl
  | x :: xs, ys => by
    have := hexL_app xs ys
    simp only [List.cons_append, hexL, this]
theorem b64L_app : ∀ xs ys, xs.length % 3 = 0 → b64L (xs ++ ys) = b64L xs ++ b64L ys
  | [], ys, _ => by simp [b64L]
  | [a], ys, h => by simp at h
  | [a, b], ys, h => by simp at h
  | a :: b :: c :: xs, ys, h => by
    have := b64L_app xs ys (by simp only [List.length_cons] at h; omega)
    simp only [List.cons_append, b64L, this]
theorem unb64_b64 (xs : List Int) (h : Bytes xs) : unb64L (b64L xs) = some xs := by
  unfold unb64L
  rw [if_neg (by rw [b64L_len]; omega), unb_b64 xs h]
theorem hexL_inj {xs ys : List Int} (hx : Bytes xs) (hy : Bytes ys) (h : hexL xs = hexL ys) : xs = ys := by
  have := unhex_hex xs hx
  rw [h, unhex_hex ys hy] at this
  exact (Option.some.inj this).symm
theorem b64L_inj {xs ys : List Int} (hx : Bytes xs) (hy : Bytes ys) (h : b64L xs = b64L ys) : xs = ys := by
  have := unb_b64 xs hx
  rw [h, unb_b64 ys hy] at this
  exact (Option.some.inj this).symm

theorem unb_bad : ∀ (zs : List Int) (x : Int) (n : Nat), (∃ c ∈ zs, lv c < 0) → unb x n zs = none
  | [], _, _, h => by obtain ⟨c, hc, _⟩ := h; cases hc
  | c :: r, x, n, h => by
    rw [unb]
    by_cases hc : lv c < 0
    · rw [if_pos hc]
    · rw [if_neg hc]
      have hr : ∃ d ∈ r, lv d < 0 := by
        obtain ⟨d, hd, hl⟩ := h
        rcases List.mem_cons.1 hd with rfl | hd
        · exact absurd hl hc
        · exact ⟨d, hd, hl⟩
      split
      · rw [unb_bad r _ _ hr]; rfl
      · exact unb_bad r _ _ hr
theorem lv_61 : lv 61 < 0 := by
  rcases Int.lt_or_le (lv 61) 0 with h | h
  · exact h
  · have := lt_lv 61 h
    unfold lt at this
    have h1 := this.1
    (repeat' split at h1) <;> omega
theorem pad_none (zs : List Int) : unb64L (zs ++ [61]) = none := by
  unfold unb64L
  split
  · rfl
  · exact unb_bad _ _ _ ⟨61, by simp, lv_61⟩
theorem lone_none (zs : List Int) (h : zs.length % 4 = 1) : unb64L zs = none := by
  unfold unb64L
  rw [if_pos h]

theorem b64_unb : ∀ (n : Nat) (xs ys : List Int), xs.length ≤ n → xs.length % 4 ≠ 1 → unb 0 0 xs = some ys → b64L ys = xs ∧ Bytes ys
  | n, [], ys, hn, hm, h => by
    simp [unb] at h
    subst h
    exact ⟨rfl, Bytes.nil⟩
  | n, [a], ys, hn, hm, h => by simp at hm
  | n, [a, b], ys, hn, hm, h => by
    simp only [unb] at h
    by_cases h1 : lv a < 0
    · rw [if_pos h1] at h; cases h
    by_cases h2 : lv b < 0
    · rw [if_neg h1, if_neg (by omega), if_pos h2] at h; cases h
    rw [if_neg h1, if_neg (by omega), if_neg h2, if_pos (by omega)] at h
    have ea := lt_lv a (by omega)
    have eb := lt_lv b (by omega)
    generalize lv a = p at *
    generalize lv b = q at *
    split at h
    · rename_i hz
      simp at h hz
      subst h
      refine ⟨?_, Bytes.one (by omega) (by omega)⟩
      simp only [b64L]
      rw [show (p * 64 + q) / 16 / 4 = p from by omega, show (p * 64 + q) / 16 % 4 * 16 = q from by omega, ea.1, eb.1]
    · cases h
  | n, [a, b, c], ys, hn, hm, h => by
    simp only [unb] at h
    by_cases h1 : lv a < 0
    · rw [if_pos h1] at h; cases h
    by_cases h2 : lv b < 0
    · rw [if_neg h1, if_neg (by omega), if_pos h2] at h; cases h
    by_cases h3 : lv c < 0
    · rw [if_neg h1, if_neg (by omega), if_neg h2, if_pos (by omega), if_pos h3] at h; cases h
    rw [if_neg h1, if_neg (by omega), if_neg h2, if_pos (by omega), if_neg h3, if_pos (by omega)] at h
    have ea := lt_lv a (by omega)
    have eb := lt_lv b (by omega)
    have ec := lt_lv c (by omega)
    generalize lv a = p at *
    generalize lv b = q at *
    generalize lv c = r at *
    split at h
    · rename_i hz
      simp at h hz
      subst h
      refine ⟨?_, Bytes.cons (by omega) (by omega) (Bytes.one (by omega) (by omega))⟩
      simp only [b64L]
      rw [show (p * 64 + q) / 16 / 4 = p from by omega, show (p * 64 + q) / 16 % 4 * 16 + ((p * 64 + q) % 16 * 64 + r) / 4 / 16 = q from by omega, show ((p * 64 + q) % 16 * 64 + r) / 4 % 16 * 4 = r from by omega, ea.1, eb.1, ec.1]
    · cases h
  | 0, a :: b :: c :: d :: xs, ys, hn, hm, h => by simp at hn
  | n + 1, a :: b :: c :: d :: xs, ys, hn, hm, h => by
    simp only [unb] at h
    by_cases h1 : lv a < 0
    · rw [if_pos h1] at h; cases h
    by_cases h2 : lv b < 0
    · rw [if_neg h1, if_neg (by omega), if_pos h2] at h; cases h
    by_cases h3 : lv c < 0
    · rw [if_neg h1, if_neg (by omega), if_neg h2, if_pos (by omega), if_pos h3] at h; cases h
    by_cases h4 : lv d < 0
    · rw [if_neg h1, if_neg (by omega), if_neg h2, if_pos (by omega), if_neg h3, if_pos (by omega), if_pos h4] at h; cases h
    rw [if_neg h1, if_neg (by omega), if_neg h2, if_pos (by omega), if_neg h3, if_pos (by omega), if_neg h4, if_pos (by omega)] at h
    have ea := lt_lv a (by omega)
    have eb := lt_lv b (by omega)
    have ec := lt_lv c (by omega)
    have ed := lt_lv d (by omega)
    generalize lv a = p at *
    generalize lv b = q at *
    generalize lv c = r at *
    generalize lv d = s at *
    simp at h
    obtain ⟨zs, hz, rfl⟩ := h
    have ih := b64_unb n xs zs (by simp only [List.length_cons] at hn; omega) (by simp only [List.length_cons] at hm; omega) hz
    refine ⟨?_, Bytes.cons (by omega) (by omega) (Bytes.cons (by omega) (by omega) (Bytes.cons (by omega) (by omega) ih.2))⟩
    simp only [b64L]
    rw [show (p * 64 + q) / 16 / 4 = p from by omega, show (p * 64 + q) / 16 % 4 * 16 + ((p * 64 + q) % 16 * 64 + r) / 4 / 16 = q from by omega,
      show ((p * 64 + q) % 16 * 64 + r) / 4 % 16 * 4 + (((p * 64 + q) % 16 * 64 + r) % 4 * 64 + s) / 64 = r from by omega,
      show (((p * 64 + q) % 16 * 64 + r) % 4 * 64 + s) % 64 = s from by omega, ea.1, eb.1, ec.1, ed.1, ih.1]
theorem b64_unb64 (xs ys : List Int) (h : unb64L xs = some ys) : b64L ys = xs ∧ Bytes ys := by
  unfold unb64L at h
  split at h
  · cases h
  · exact b64_unb _ xs ys (Nat.le_refl _) (by assumption) h
end Go.Proofs.YtjnmjgpkicbbdaaGreatDoor
