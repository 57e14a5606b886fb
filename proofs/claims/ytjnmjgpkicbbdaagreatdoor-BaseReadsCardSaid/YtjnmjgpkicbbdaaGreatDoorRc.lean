/- The document's reading of hex: the plain law. -/
import Derived.Test.YtjnmjgpkicbbdaaGreatDoorRb
namespace Go.Proofs.YtjnmjgpkicbbdaaGreatDoor
open Go.RowKit
set_option maxRecDepth 100000
set_option linter.unusedVariables false
set_option linter.unusedSimpArgs false
set_option linter.unnecessarySimpa false

theorem ints_len (s : ByteArray) : (ints s).length = s.size := by simp [ints]
theorem sAt_ints (s : ByteArray) (k : Nat) (h : k < (ints s).length) : sAt s k = (ints s)[k] := by
  have hk : k < s.size := by rw [← ints_len]; exact h
  unfold sAt
  rw [dif_pos hk]
  simp [ints]
  rfl
theorem lbits_flat (bitsN : Int → List Int) (s al : ByteArray) : ∀ k, k ≤ (ints s).length → lbits bitsN s al k = ((ints s).take k).flatMap fun c => bitsN (lastIn al c al.size)
  | 0, _ => by simp [lbits]
  | k + 1, h => by
    rw [List.take_succ_eq_append_getElem (by omega), List.flatMap_append, ← lbits_flat bitsN s al k (by omega)]
    simp [lbits, sAt_ints s k (by omega)]
theorem bitsL_drop : ∀ (ys : List Int) (k : Nat), (bitsL ys).drop (8 * k) = bitsL (ys.drop k)
  | ys, 0 => by simp
  | [], k + 1 => by simp [bitsL]
  | y :: ys, k + 1 => by
    rw [List.drop_succ_cons, ← bitsL_drop ys k]
    have : 8 * (k + 1) = (bits8 y).length + 8 * k := by simp [bits8]; omega
    rw [bitsL, this, List.drop_append, List.drop_of_length_le (by omega)]
    simp
theorem take_bits8 (y : Int) (r : List Int) (h0 : 0 ≤ y) (h1 : y ≤ 255) : take0 8 (bits8 y ++ r) 0 = y := by
  simp only [bits8, List.cons_append, List.nil_append, take0, List.tail_cons, List.headD_cons]
  omega
theorem bytes_bits (ys : List Int) (hy : Bytes ys) : ∀ k, k ≤ ys.length → bytesL (bitsL ys) k = ys.take k
  | 0, _ => by simp [bytesL]
  | k + 1, h => by
    have hk : k < ys.length := by omega
    have hb := hy _ (List.getElem_mem hk)
    rw [bytesL, bytes_bits ys hy k (by omega), List.take_succ_eq_append_getElem hk, bitsL_drop, List.drop_eq_getElem_cons hk, bitsL, take_bits8 _ _ hb.1 hb.2]
theorem dg_last (d : Int) (h0 : 0 ≤ d) (h1 : d < 16) : lastIn digitsS (dg d) digitsS.size = d := by
  have : ∀ i : Fin 16, lastIn digitsS (dg (i.val : Int)) digitsS.size = (i.val : Int) := by decide
  have h2 := this ⟨d.toNat, by omega⟩
  rwa [show ((d.toNat : Nat) : Int) = d from by omega] at h2
theorem bits44 (y : Int) (h0 : 0 ≤ y) (h1 : y ≤ 255) : bits4 (y / 16) ++ bits4 (y % 16) = bits8 y := by
  have e1 : y / 16 / 8 % 2 = y / 128 % 2 := by omega
  have e2 : y / 16 / 4 % 2 = y / 64 % 2 := by omega
  have e3 : y / 16 / 2 % 2 = y / 32 % 2 := by omega
  have e5 : y % 16 / 8 % 2 = y / 8 % 2 := by omega
  have e6 : y % 16 / 4 % 2 = y / 4 % 2 := by omega
  have e7 : y % 16 / 2 % 2 = y / 2 % 2 := by omega
  have e8 : y % 16 % 2 = y % 2 := by omega
  simp only [bits4, bits8, List.cons_append, List.nil_append, e1, e2, e3, e5, e6, e7, e8]
theorem hex_flat : ∀ ys, Bytes ys → (hexL ys).flatMap (fun c => bits4 (lastIn digitsS c digitsS.size)) = bitsL ys
  | [], _ => rfl
  | y :: ys, h => by
    have hb := h y (by simp)
    have ih := hex_flat ys fun x hx => h x (by simp [hx])
    simp only [hexL, List.flatMap_cons]
    rw [ih, dg_last _ (by omega) (by omega), dg_last _ (by omega) (by omega), bitsL]
    rw [← List.append_assoc, bits44 y hb.1 hb.2]
theorem read_hex (s : ByteArray) (ys : List Int) (h : unhexL (ints s) = some ys) : bytesL (lbits bits4 s digitsS s.size) (4 * s.size / 8) = ys := by
  obtain ⟨h1, h2⟩ := hex_unhex _ _ _ (Nat.le_refl _) h
  have hl : (hexL ys).length = 2 * ys.length := by
    have : ∀ l : List Int, (hexL l).length = 2 * l.length := fun l => by
      induction l with
      | nil => rfl
      | cons x l ih => simp [hexL, ih]; omega
    exact this ys
  have hs : s.size = 2 * ys.length := by rw [← ints_len, ← h1, hl]
  rw [lbits_flat bits4 s digitsS s.size (by rw [ints_len]; exact Nat.le_refl _), List.take_of_length_le (by rw [ints_len]; exact Nat.le_refl _), ← h1, hex_flat ys h2, show 4 * s.size / 8 = ys.length from by omega, bytes_bits ys h2 _ (Nat.le_refl _), List.take_length]
end Go.Proofs.YtjnmjgpkicbbdaaGreatDoor
