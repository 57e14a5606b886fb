/- The law HeadShortest: the plain law and the walk. -/
import Derived.Test.YtbnckhlfmjoikaaDoorHa
import Derived.Deep.QuietTactic
import Derived.BigQuiet
namespace Go.Proofs.YtbnckhlfmjoikaaDoor
open Go.RowKit
set_option maxRecDepth 100000
set_option linter.unusedVariables false
set_option linter.unusedSimpArgs false
set_option linter.unnecessarySimpa false

theorem ba_eq (a b : ByteArray) : (a == b) = decide (a = b) := by
  rcases a with ⟨x⟩
  rcases b with ⟨y⟩
  show (x == y) = _
  by_cases h : x = y <;> simp [h]
theorem eq_str (a b : ByteArray) (W : World) : (binOp BinOp.eql 9 (.string a) (.string b)).run Tryd.prog W = .ok (.bool (decide (a = b))) W := by
  have u9 := Tryd.underlying9
  go_simp
  have := beq_toListBytes a b
  by_cases h : a = b
  · subst h; simp
  · simp [h]
    intro e
    rw [e] at this
    rw [ba_eq, beq_self_eq_true] at this
    exact h (of_decide_eq_true this)
theorem num_digit (s : ByteArray) (b : Nat) : ∀ (z k : Nat), k < z → b + z ≤ s.size → numF s b z / 256 ^ (z - 1 - k) % 256 = at1 s (b + k)
  | z + 1, k, h, hs => by
    have h1 := at1_range s (b + z)
    have h2 := (at1_in s (b + z)).2 (by omega)
    by_cases e : k = z
    · subst e
      rw [numF, Nat.add_sub_cancel, Nat.sub_self, Int.pow_zero, Int.ediv_one]
      omega
    · have ih := num_digit s b z k (by omega) (by omega)
      rw [numF, Nat.add_sub_cancel, show z - k = z - 1 - k + 1 by omega, Int.pow_succ, Int.mul_comm (256 ^ (z - 1 - k)) 256, ← Int.ediv_ediv_of_nonneg (by decide : (0 : Int) ≤ 256), show (numF s b z * 256 + at1 s (b + z)) / 256 = numF s b z by omega]
      exact ih
theorem ba_ext (a b : ByteArray) (h : a.size = b.size) (k : ∀ j, j < a.size → at1 a j = at1 b j) : a = b := by
  have e : Aidz.ints a = Aidz.ints b := by
    apply List.ext_getElem
    · rw [Aidz.ints_length, Aidz.ints_length, h]
    · intro j h1 h2
      rw [Aidz.ints_length] at h1 h2
      have := k j h1
      rw [at1_ints a j h1, at1_ints b j h2, List.getD_eq_getElem?_getD, List.getD_eq_getElem?_getD, List.getElem?_eq_getElem (by rw [Aidz.ints_length]; exact h1), List.getElem?_eq_getElem (by rw [Aidz.ints_length]; exact h2)] at this
      exact this
  rw [← Aidz.strOfNums_ints a, e, Aidz.strOfNums_ints]

/-- What a head that was read says of the bytes. -/
theorem read_facts (s : ByteArray) (m i x Z : Int) (h : readF s 0 = .ok (m, i, x, Z)) : 0 < s.size ∧ at1 s 0 / 32 = m ∧ at1 s 0 % 32 = i ∧ ∃ z : Nat, Z = 1 + z ∧ behF m i = z ∧ 1 + z ≤ s.size ∧ ((i < 24 ∧ x = i) ∨ (¬ i < 24 ∧ x = numF s 1 z)) := by
  unfold readF at h
  split at h
  · cases h
  rename_i h0
  split at h
  · cases h
  rename_i hb
  split at h
  · cases h
  rename_i hs
  simp only [Except.ok.injEq, Prod.mk.injEq] at h
  obtain ⟨rfl, rfl, rfl, rfl⟩ := h
  refine ⟨by omega, rfl, rfl, (behF (at1 s 0 / 32) (at1 s 0 % 32)).toNat, by omega, by omega, by omega, ?_⟩
  by_cases h24 : at1 s 0 % 32 < 24
  · exact .inl ⟨h24, by rw [if_pos h24]⟩
  · exact .inr ⟨h24, by rw [if_neg h24]⟩
/-- The shortest head of what was read. -/
theorem short_facts (s : ByteArray) (m i x : Int) (z : Nat) (hm0 : 0 ≤ m) (hm : m < 7) (hi0 : 0 ≤ i) (hi : i < 31) (hs : at1 s 0 = 32 * m + i) (hb : behF m i = z) (hz : 1 + z ≤ s.size) (hx : (i < 24 ∧ x = i) ∨ (¬ i < 24 ∧ x = numF s 1 z)) :
    0 ≤ x ∧ x ≤ 18446744073709551615 ∧ ∃ j v, writeL m x = some (j, v) ∧ v ≤ z ∧ (v = z → strOfNums ((32 * m + j) :: beS v x) = s.extract 0 (1 + z)) := by
  have same : ∀ j, j = i → x = numF s 1 z ∨ z = 0 → strOfNums ((32 * m + j) :: beS z x) = s.extract 0 (1 + z) := by
    intro j hj hxn
    subst hj
    have hby : Aidz.Bytes ((32 * m + j) :: beS z x) := Aidz.Bytes.cons (by omega) (by omega) (be_bytes x z)
    have hes : (s.extract 0 (1 + z)).size = 1 + z := by rw [ByteArray.size_extract]; omega
    refine ba_ext _ _ (by rw [written_size, hes]; omega) fun k hk => ?_
    rw [written_size] at hk
    rw [at1_cut s (1 + z) k hz (by omega), at1_nums hby k (by simp [beS_len]; omega)]
    cases k with
    | zero => rw [hs]; rfl
    | succ k =>
      rcases hxn with rfl | h0
      · rw [List.getD_cons_succ, be_at _ z k (by omega), num_digit s 1 z k (by omega) hz, Nat.add_comm 1 k]
      · omega
  rcases hx with ⟨h24, rfl⟩ | ⟨h24, hx⟩
  · have e : z = 0 := by rw [behF, if_pos h24] at hb; omega
    subst e
    refine ⟨hi0, by omega, x, 0, by rw [writeL, if_neg (by omega), if_pos h24], Nat.le_refl _, fun _ => same x rfl (.inr rfl)⟩
  · have hlt := numF_lt s 1 z hz
    rw [← hx] at hlt
    have wl : writeL m x = if x < 24 then some (x, 0) else if x < 256 then some (24, 1) else if x < 65536 then some (25, 2) else if x < 4294967296 then some (26, 4) else some (27, 8) := by rw [writeL, if_neg (by omega)]
    have key : (i = 24 ∧ z = 1) ∨ (i = 25 ∧ z = 2) ∨ (i = 26 ∧ z = 4) ∨ (i = 27 ∧ z = 8) := by
      rcases (by omega : i = 24 ∨ i = 25 ∨ i = 26 ∨ i = 27 ∨ i = 28 ∨ i = 29 ∨ i = 30) with rfl | rfl | rfl | rfl | rfl | rfl | rfl
      · have e : behF m 24 = 1 := rfl
        omega
      · have e : behF m 25 = 2 := rfl
        omega
      · have e : behF m 26 = 4 := rfl
        omega
      · have e : behF m 27 = 8 := rfl
        omega
      · have e : behF m 28 = -1 := rfl
        omega
      · have e : behF m 29 = -1 := rfl
        omega
      · have e : behF m 30 = -1 := rfl
        omega
    rcases key with ⟨rfl, rfl⟩ | ⟨rfl, rfl⟩ | ⟨rfl, rfl⟩ | ⟨rfl, rfl⟩ <;>
    · simp only [Int.reducePow] at hlt
      refine ⟨by omega, by omega, ?_⟩
      rw [wl]
      (repeat' split) <;> first
        | (exact ⟨_, _, rfl, by omega, fun h => by omega⟩)
        | (exact ⟨_, _, rfl, by omega, fun _ => same _ rfl (.inl hx)⟩)
        | omega
end Go.Proofs.YtbnckhlfmjoikaaDoor
