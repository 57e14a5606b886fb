/- The plain law: what is written is read as it was; what is read of a head's beginning. -/
import Derived.Test.YtbnckhlfmjoikaaDoorT
import Derived.Test.YtbnckhlfmjoikaaDoorAidz
namespace Go.Proofs.YtbnckhlfmjoikaaDoor
open Go.RowKit
set_option maxRecDepth 100000
set_option linter.unusedVariables false
set_option linter.unusedSimpArgs false
set_option linter.unnecessarySimpa false

theorem at1_ints (s : ByteArray) (k : Nat) (h : k < s.size) : at1 s k = (Aidz.ints s).getD k 0 := by
  rw [Aidz.ints_at s k h]
  unfold at1
  rw [dif_pos h]
theorem at1_nums {xs : List Int} (h : Aidz.Bytes xs) (k : Nat) (hk : k < xs.length) : at1 (strOfNums xs) k = xs.getD k 0 := by
  rw [at1_ints _ _ (by rw [strOfNums_size]; exact hk), Aidz.ints_strOfNums h]
theorem be_bytes (x : Int) : ∀ k, Aidz.Bytes (beS k x)
  | 0 => Aidz.Bytes.nil
  | k + 1 => Aidz.Bytes.cons (Int.emod_nonneg _ (by decide)) (by have := Int.emod_lt_of_pos (x / 256 ^ k) (show (0 : Int) < 256 by decide); omega) (be_bytes x k)
theorem be_at (x : Int) : ∀ (z j : Nat), j < z → (beS z x).getD j 0 = x / 256 ^ (z - 1 - j) % 256
  | z + 1, 0, _ => by simp [beS]
  | z + 1, j + 1, h => by
    have := be_at x z j (by omega)
    rw [beS, List.getD_cons_succ, this]
    congr 3
    omega
theorem mod_step (y p : Int) (hp : 0 < p) : y / 256 % p * 256 + y % 256 = y % (256 * p) := by
  rw [Int.emod_def y (256 * p), Int.emod_def (y / 256) p, Int.emod_def y 256, Int.ediv_ediv_of_nonneg (by decide : (0 : Int) ≤ 256), Int.mul_assoc]
  generalize p * (y / (256 * p)) = t
  omega
/-- Written out: the first byte, and the number behind it. -/
theorem num_be (c x : Int) (z : Nat) (hc0 : 0 ≤ c) (hc1 : c ≤ 255) : ∀ j, j ≤ z → numF (strOfNums (c :: beS z x)) 1 j = x / 256 ^ (z - j) % 256 ^ j
  | 0, _ => by simp [numF]
  | j + 1, h => by
    have ih := num_be c x z hc0 hc1 j (by omega)
    have hb : Aidz.Bytes (c :: beS z x) := Aidz.Bytes.cons hc0 hc1 (be_bytes x z)
    rw [numF, ih, at1_nums hb (1 + j) (by simp [beS_len]; omega), Nat.add_comm 1 j, List.getD_cons_succ, be_at x z j (by omega)]
    have e1 : z - j = z - (j + 1) + 1 := by omega
    have e2 : z - 1 - j = z - (j + 1) := by omega
    have hp : ∀ q : Nat, (0 : Int) < 256 ^ q := fun q => Int.pow_pos (by decide)
    rw [e1, e2, Int.pow_succ, ← Int.ediv_ediv_of_nonneg (Int.le_of_lt (hp _)), mod_step _ _ (hp j), Int.pow_succ, Int.mul_comm 256]
/-- The forms of what is written: the first byte, how many stand behind. -/
def Formed (m i x : Int) (z : Nat) : Prop := 0 ≤ m ∧ m ≤ 7 ∧ ((z = 0 ∧ 0 ≤ i ∧ i < 24 ∧ x = i) ∨ (24 ≤ i ∧ i ≤ 27 ∧ behF m i = z ∧ 0 ≤ x ∧ x < 256 ^ z))
theorem Formed.beh {m i x : Int} {z : Nat} (h : Formed m i x z) : behF m i = z ∧ 0 ≤ i ∧ i ≤ 27 := by
  obtain ⟨h0, h1, ⟨rfl, h2, h3, rfl⟩ | ⟨h2, h3, h4, _⟩⟩ := h
  · exact ⟨by rw [behF, if_pos h3]; rfl, h2, by omega⟩
  · exact ⟨h4, by omega, h3⟩
theorem read_written (m i x : Int) (z : Nat) (h : Formed m i x z) : readF (strOfNums ((32 * m + i) :: beS z x)) 0 = .ok (m, i, x, 1 + z) := by
  obtain ⟨hz, hi0, hi1⟩ := h.beh
  have hm := h.1
  have hm1 := h.2.1
  have hb : Aidz.Bytes ((32 * m + i) :: beS z x) := Aidz.Bytes.cons (by omega) (by omega) (be_bytes x z)
  have hsz : (strOfNums ((32 * m + i) :: beS z x)).size = z + 1 := by rw [strOfNums_size]; simp [beS_len]
  have h0 : at1 (strOfNums ((32 * m + i) :: beS z x)) 0 = 32 * m + i := by rw [at1_nums hb 0 (by simp)]; rfl
  rw [readF, if_neg (by omega), h0, show (32 * m + i) / 32 = m by omega, show (32 * m + i) % 32 = i by omega, hz, if_neg (by omega), Int.toNat_natCast, if_neg (by omega)]
  have hx : (if i < 24 then i else numF (strOfNums ((32 * m + i) :: beS z x)) (0 + 1) z) = x := by
    obtain ⟨_, _, ⟨rfl, h2, h3, rfl⟩ | ⟨h2, h3, h4, h5, h6⟩⟩ := h
    · rw [if_pos h3]
    · rw [if_neg (by omega), Nat.zero_add, num_be _ x z (by omega) (by omega) z (Nat.le_refl _), Nat.sub_self, Int.pow_zero, Int.ediv_one]
      exact Int.emod_eq_of_lt h5 h6
  rw [hx]
theorem at1_cut (s : ByteArray) (j k : Nat) (h : j ≤ s.size) (hk : k < j) : at1 (s.extract 0 j) k = at1 s k := by
  have hz : (s.extract 0 j).size = j := by rw [ByteArray.size_extract]; omega
  have := cut_at s 0 j k (by omega) hk
  rw [Nat.zero_add, Nat.zero_add] at this
  rw [← this]
  unfold at1
  rw [dif_pos (by omega)]
  congr 2
  rw [List.getD_eq_getElem?_getD, List.getElem?_eq_getElem (by rw [Array.length_toList]; show k < (s.extract 0 j).size; omega)]
  simp [ByteArray.getElem_eq_getElem_data]
theorem read_part (m i x : Int) (z j : Nat) (h : Formed m i x z) (hj : j < z + 1) : readF ((strOfNums ((32 * m + i) :: beS z x)).extract 0 j) 0 = .error j := by
  obtain ⟨hz, hi0, hi1⟩ := h.beh
  have hm := h.1
  have hm1 := h.2.1
  have hb : Aidz.Bytes ((32 * m + i) :: beS z x) := Aidz.Bytes.cons (by omega) (by omega) (be_bytes x z)
  have hsz : (strOfNums ((32 * m + i) :: beS z x)).size = z + 1 := by rw [strOfNums_size]; simp [beS_len]
  have h0 : at1 (strOfNums ((32 * m + i) :: beS z x)) 0 = 32 * m + i := by rw [at1_nums hb 0 (by simp)]; rfl
  have hcz : ((strOfNums ((32 * m + i) :: beS z x)).extract 0 j).size = j := by rw [ByteArray.size_extract]; omega
  by_cases hj0 : j = 0
  · subst hj0
    rw [readF, if_pos (by omega)]
  · rw [readF, if_neg (by omega), at1_cut _ j 0 (by omega) (by omega), h0, show (32 * m + i) / 32 = m by omega, show (32 * m + i) % 32 = i by omega, hz, if_neg (by omega), Int.toNat_natCast, if_pos (by omega), hcz]
end Go.Proofs.YtbnckhlfmjoikaaDoor
