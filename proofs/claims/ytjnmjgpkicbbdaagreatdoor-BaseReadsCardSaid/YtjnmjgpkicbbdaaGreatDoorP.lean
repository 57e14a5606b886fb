/- The plain laws of bytes as letters: no program in sight. -/
import Derived.Test.YtjnmjgpkicbbdaaGreatDoorF
namespace Go.Proofs.YtjnmjgpkicbbdaaGreatDoor
open Go.RowKit
set_option linter.unusedVariables false
set_option linter.unusedSimpArgs false

theorem numFrom_neg (s : ByteArray) (c : Int) : ∀ (n pos : Nat), s.size - pos ≤ n → numFrom s c pos < 0 → ∀ (j : Nat) (h : j < s.size), pos ≤ j → ((s[j]'h).toNat : Int) ≠ c
  | 0, pos, hn, _, j, h, hj => by omega
  | n + 1, pos, hn, hneg, j, h, hj => by
    rw [numFrom] at hneg
    by_cases hp : pos < s.size
    · rw [dif_pos hp] at hneg
      split at hneg
      · omega
      · rename_i hne
        rcases Nat.eq_or_lt_of_le hj with rfl | hlt
        · exact hne
        · exact numFrom_neg s c n (pos + 1) (by omega) hneg j h hlt
    · omega
theorem numFrom_pos (s : ByteArray) (c : Int) : ∀ (n pos : Nat), s.size - pos ≤ n → 0 ≤ numFrom s c pos → ∃ (k : Nat) (h : k < s.size), numFrom s c pos = k ∧ ((s[k]'h).toNat : Int) = c
  | 0, pos, hn, h0 => by rw [numFrom, dif_neg (by omega)] at h0; omega
  | n + 1, pos, hn, h0 => by
    rw [numFrom] at h0 ⊢
    by_cases hp : pos < s.size
    · rw [dif_pos hp] at h0 ⊢
      split at h0
      · rename_i he
        rw [if_pos he]
        exact ⟨pos, hp, rfl, he⟩
      · rename_i hne
        rw [if_neg hne]
        exact numFrom_pos s c n (pos + 1) (by omega) h0
    · rw [dif_neg hp] at h0
      omega

theorem dg_hv (c : Int) (h : 0 ≤ hv c) : dg (hv c) = c ∧ hv c < 16 := by
  obtain ⟨k, hk, e, hc⟩ := numFrom_pos digitsS c _ 0 (Nat.le_refl _) h
  unfold hv
  rw [e, ← digits_ok k hk]
  have : digitsS.size = 16 := rfl
  exact ⟨hc, by omega⟩
theorem hv_dg (d : Int) (h0 : 0 ≤ d) (h1 : d < 16) : hv (dg d) = d := by
  obtain ⟨n, rfl⟩ := Int.eq_ofNat_of_zero_le h0
  have hn : n < digitsS.size := by have : digitsS.size = 16 := rfl; omega
  rcases Int.lt_or_le (hv (dg n)) 0 with h | h
  · exact absurd (digits_ok n hn) (numFrom_neg digitsS _ _ 0 (Nat.le_refl _) h n hn (by omega))
  · have := dg_hv _ h
    generalize hv (dg n) = k at *
    unfold dg at this
    have h2 := this.2
    have h3 := this.1
    split at h3 <;> split at h3 <;> omega
theorem lt_lv (c : Int) (h : 0 ≤ lv c) : lt (lv c) = c ∧ lv c < 64 := by
  obtain ⟨k, hk, e, hc⟩ := numFrom_pos lettersS c _ 0 (Nat.le_refl _) h
  unfold lv
  rw [e, ← letters_ok k hk]
  have : lettersS.size = 64 := rfl
  exact ⟨hc, by omega⟩
theorem lt_inj (a b : Int) (ha : 0 ≤ a) (ha1 : a < 64) (hb : 0 ≤ b) (hb1 : b < 64) (h : lt a = lt b) : a = b := by
  unfold lt at h
  (repeat' split at h) <;> omega
theorem lv_lt (d : Int) (h0 : 0 ≤ d) (h1 : d < 64) : lv (lt d) = d := by
  obtain ⟨n, rfl⟩ := Int.eq_ofNat_of_zero_le h0
  have hn : n < lettersS.size := by have : lettersS.size = 64 := rfl; omega
  rcases Int.lt_or_le (lv (lt n)) 0 with h | h
  · exact absurd (letters_ok n hn) (numFrom_neg lettersS _ _ 0 (Nat.le_refl _) h n hn (by omega))
  · have := lt_lv _ h
    exact lt_inj _ _ h this.2 h0 h1 this.1

/-! ### There and back -/
theorem unhex_hex : ∀ xs, Bytes xs → unhexL (hexL xs) = some xs
  | [], _ => rfl
  | x :: xs, h => by
    have hx := h x (by simp)
    have e1 := hv_dg (x / 16) (by omega) (by omega)
    have e2 := hv_dg (x % 16) (by omega) (by omega)
    rw [hexL, unhexL, e1, e2, if_neg (by omega), unhex_hex xs (fun z hz => h z (by simp [hz]))]
    simp
    omega
theorem hex_unhex : ∀ (n : Nat) (xs ys : List Int), xs.length ≤ n → unhexL xs = some ys → hexL ys = xs ∧ Bytes ys
  | n, [], ys, hn, h => by
    rw [unhexL] at h
    obtain rfl := Option.some.inj h
    exact ⟨rfl, Bytes.nil⟩
  | n, [x], ys, hn, h => by cases h
  | 0, x :: y :: r, ys, hn, h => by simp at hn
  | n + 1, x :: y :: r, ys, hn, h => by
    rw [unhexL] at h
    split at h
    · cases h
    · rename_i hneg
      obtain ⟨zs, hz, rfl⟩ := Option.map_eq_some_iff.1 h
      have ih := hex_unhex n r zs (by simp only [List.length_cons] at hn; omega) hz
      have e1 := dg_hv x (by omega)
      have e2 := dg_hv y (by omega)
      refine ⟨?_, Bytes.cons (by omega) (by omega) ih.2⟩
      rw [hexL, ih.1, show (hv x * 16 + hv y) / 16 = hv x from by omega, show (hv x * 16 + hv y) % 16 = hv y from by omega, e1.1, e2.1]

theorem unb_b64 : ∀ xs, Bytes xs → unb 0 0 (b64L xs) = some xs
  | [], _ => rfl
  | [a], h => by
    have ha := h a (by simp)
    have e1 := lv_lt (a / 4) (by omega) (by omega)
    have e2 := lv_lt (a % 4 * 16) (by omega) (by omega)
    simp only [b64L, unb, e1, e2]
    rw [if_neg (by omega), if_neg (by omega), if_neg (by omega), if_pos (by omega), if_pos (by simp; omega)]
    simp
    omega
  | [a, b], h => by
    have ha := h a (by simp)
    have hb := h b (by simp)
    have e1 := lv_lt (a / 4) (by omega) (by omega)
    have e2 := lv_lt (a % 4 * 16 + b / 16) (by omega) (by omega)
    have e3 := lv_lt (b % 16 * 4) (by omega) (by omega)
    simp only [b64L, unb, e1, e2, e3]
    rw [if_neg (by omega), if_neg (by omega), if_neg (by omega), if_pos (by omega), if_neg (by omega), if_pos (by omega), if_pos (by simp; omega)]
    simp
    omega
  | a :: b :: c :: xs, h => by
    have ha := h a (by simp)
    have hb := h b (by simp)
    have hc := h c (by simp)
    have e1 := lv_lt (a / 4) (by omega) (by omega)
    have e2 := lv_lt (a % 4 * 16 + b / 16) (by omega) (by omega)
    have e3 := lv_lt (b % 16 * 4 + c / 64) (by omega) (by omega)
    have e4 := lv_lt (c % 64) (by omega) (by omega)
    have ih := unb_b64 xs (fun z hz => h z (by simp [hz]))
    simp only [b64L, unb, e1, e2, e3, e4]
    rw [if_neg (by omega), if_neg (by omega), if_neg (by omega), if_pos (by omega), if_neg (by omega), if_pos (by omega), if_neg (by omega), if_pos (by omega)]
    simp
    exact ⟨_, ih, by omega, by omega, by omega, rfl⟩
end Go.Proofs.YtjnmjgpkicbbdaaGreatDoor
