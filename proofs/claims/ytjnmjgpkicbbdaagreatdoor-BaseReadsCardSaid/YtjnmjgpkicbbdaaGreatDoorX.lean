/- The document's Hex and Base64; tells. -/
import Derived.Test.YtjnmjgpkicbbdaaGreatDoorW
namespace Go.Proofs.YtjnmjgpkicbbdaaGreatDoor
open Go.RowKit
set_option maxRecDepth 100000
set_option linter.unusedVariables false
set_option linter.unusedSimpArgs false
set_option linter.unnecessarySimpa false

theorem told_hex : ∀ xs (k : Nat), Bytes xs → 8 * xs.length ≤ k → toldF 4 dg k (bitsL xs) = hexL xs
  | [], k, _, _ => by cases k <;> rfl
  | x :: xs, k, h, hk => by
    have hx := h x (by simp)
    simp only [List.length_cons] at hk
    obtain ⟨k, rfl⟩ : ∃ q, k = q + 2 := ⟨k - 2, by omega⟩
    have ih := told_hex xs k (fun z hz => h z (by simp [hz])) (by omega)
    simp only [bitsL, bits8, List.cons_append, List.nil_append, toldF, take0, List.tail_cons, List.headD_cons, List.drop_succ_cons, List.drop_zero, hexL, ih]
    rw [show ((((0 : Int) * 2 + x / 128 % 2) * 2 + x / 64 % 2) * 2 + x / 32 % 2) * 2 + x / 16 % 2 = x / 16 from by omega,
      show ((((0 : Int) * 2 + x / 8 % 2) * 2 + x / 4 % 2) * 2 + x / 2 % 2) * 2 + x % 2 = x % 16 from by omega]
theorem told_b64 : ∀ xs (k : Nat), Bytes xs → 8 * xs.length ≤ k → toldF 6 lt k (bitsL xs) = b64L xs
  | [], k, _, _ => by cases k <;> rfl
  | [a], k, h, hk => by
    have ha := h a (by simp)
    simp only [List.length_cons, List.length_nil] at hk
    obtain ⟨k, rfl⟩ : ∃ q, k = q + 3 := ⟨k - 3, by omega⟩
    simp only [bitsL, bits8, List.cons_append, List.nil_append, List.append_nil, toldF, take0, List.tail_cons, List.tail_nil, List.headD_cons, List.headD_nil, List.drop_succ_cons, List.drop_zero, List.drop_nil, b64L]
    rw [show ((((((0 : Int) * 2 + a / 128 % 2) * 2 + a / 64 % 2) * 2 + a / 32 % 2) * 2 + a / 16 % 2) * 2 + a / 8 % 2) * 2 + a / 4 % 2 = a / 4 from by omega,
      show ((((((0 : Int) * 2 + a / 2 % 2) * 2 + a % 2) * 2 + 0) * 2 + 0) * 2 + 0) * 2 + 0 = a % 4 * 16 from by omega]
  | [a, b], k, h, hk => by
    have ha := h a (by simp)
    have hb := h b (by simp)
    simp only [List.length_cons, List.length_nil] at hk
    obtain ⟨k, rfl⟩ : ∃ q, k = q + 4 := ⟨k - 4, by omega⟩
    simp only [bitsL, bits8, List.cons_append, List.nil_append, List.append_nil, toldF, take0, List.tail_cons, List.tail_nil, List.headD_cons, List.headD_nil, List.drop_succ_cons, List.drop_zero, List.drop_nil, b64L]
    rw [show ((((((0 : Int) * 2 + a / 128 % 2) * 2 + a / 64 % 2) * 2 + a / 32 % 2) * 2 + a / 16 % 2) * 2 + a / 8 % 2) * 2 + a / 4 % 2 = a / 4 from by omega,
      show ((((((0 : Int) * 2 + a / 2 % 2) * 2 + a % 2) * 2 + b / 128 % 2) * 2 + b / 64 % 2) * 2 + b / 32 % 2) * 2 + b / 16 % 2 = a % 4 * 16 + b / 16 from by omega,
      show ((((((0 : Int) * 2 + b / 8 % 2) * 2 + b / 4 % 2) * 2 + b / 2 % 2) * 2 + b % 2) * 2 + 0) * 2 + 0 = b % 16 * 4 from by omega]
  | a :: b :: c :: xs, k, h, hk => by
    have ha := h a (by simp)
    have hb := h b (by simp)
    have hc := h c (by simp)
    simp only [List.length_cons] at hk
    obtain ⟨k, rfl⟩ : ∃ q, k = q + 4 := ⟨k - 4, by omega⟩
    have ih := told_b64 xs k (fun z hz => h z (by simp [hz])) (by omega)
    simp only [bitsL, bits8, List.cons_append, List.nil_append, toldF, take0, List.tail_cons, List.headD_cons, List.drop_succ_cons, List.drop_zero, b64L, ih]
    rw [show ((((((0 : Int) * 2 + a / 128 % 2) * 2 + a / 64 % 2) * 2 + a / 32 % 2) * 2 + a / 16 % 2) * 2 + a / 8 % 2) * 2 + a / 4 % 2 = a / 4 from by omega,
      show ((((((0 : Int) * 2 + a / 2 % 2) * 2 + a % 2) * 2 + b / 128 % 2) * 2 + b / 64 % 2) * 2 + b / 32 % 2) * 2 + b / 16 % 2 = a % 4 * 16 + b / 16 from by omega,
      show ((((((0 : Int) * 2 + b / 8 % 2) * 2 + b / 4 % 2) * 2 + b / 2 % 2) * 2 + b % 2) * 2 + c / 128 % 2) * 2 + c / 64 % 2 = b % 16 * 4 + c / 64 from by omega,
      show ((((((0 : Int) * 2 + c / 32 % 2) * 2 + c / 16 % 2) * 2 + c / 8 % 2) * 2 + c / 4 % 2) * 2 + c / 2 % 2) * 2 + c % 2 = c % 64 from by omega]

theorem refHex_any (A : Option Addr) (c n : Nat) (xs : List Int) (w : World) (hx : Bytes xs) (hl : xs.length = n) (hn : n ≤ 16777216) (hr : RK w .u8 A xs) :
    Calls Tryz.prog 13 #[.slice A n c] w fun e w' => e = .returned (.string (strOfNums (hexL xs))) ∧ Below w.heap.size w w' := by
  have hb := bits_any A c n xs w hx hl hn hr
  have hL : (bitsL xs).length = 8 * n := by rw [bitsL_len, hl]
  have ht := fun (D : Option Addr) (d : Nat) (W : World) (h : RK W .i64 D (bitsL xs)) => told_any D d (8 * n) 4 16 (bitsL xs) digitsS dg W (fun a => by have := take0_lt 4 (bitsL xs) (bitsL_bit xs) a; omega) rfl digits_ok (bitsL_bit xs) hL (by omega) (by omega) (by omega) h
  rw [told_hex xs (8 * n) hx (by omega)] at ht
  go_enter Tryz.func13, Tryz.ntmps13
  go_wp2_with (first
    | (go_at_call 64; refine hb.mono ?_; rintro e w1 ⟨v, rfl, ho, hb1⟩; obtain ⟨D, d, rfl, hD, _, _⟩ := ho.slice; rw [hL])
    | (go_at_call 63; refine (ht D d _ hD).mono ?_; rintro e w2 ⟨rfl, hb2⟩))
  go_ret
  exact ⟨rfl, below_on hb1 hb2⟩
theorem refB64_any (A : Option Addr) (c n : Nat) (xs : List Int) (w : World) (hx : Bytes xs) (hl : xs.length = n) (hn : n ≤ 16777216) (hr : RK w .u8 A xs) :
    Calls Tryz.prog 16 #[.slice A n c] w fun e w' => e = .returned (.string (strOfNums (b64L xs))) ∧ Below w.heap.size w w' := by
  have hb := bits_any A c n xs w hx hl hn hr
  have hL : (bitsL xs).length = 8 * n := by rw [bitsL_len, hl]
  have ht := fun (D : Option Addr) (d : Nat) (W : World) (h : RK W .i64 D (bitsL xs)) => told_any D d (8 * n) 6 64 (bitsL xs) lettersS lt W (fun a => by have := take0_lt 6 (bitsL xs) (bitsL_bit xs) a; omega) rfl letters_ok (bitsL_bit xs) hL (by omega) (by omega) (by omega) h
  rw [told_b64 xs (8 * n) hx (by omega)] at ht
  go_enter Tryz.func16, Tryz.ntmps16
  go_wp2_with (first
    | (go_at_call 64; refine hb.mono ?_; rintro e w1 ⟨v, rfl, ho, hb1⟩; obtain ⟨D, d, rfl, hD, _, _⟩ := ho.slice; rw [hL])
    | (go_at_call 63; refine (ht D d _ hD).mono ?_; rintro e w2 ⟨rfl, hb2⟩))
  go_ret
  exact ⟨rfl, below_on hb1 hb2⟩
end Go.Proofs.YtjnmjgpkicbbdaaGreatDoor
