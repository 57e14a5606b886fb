/- The document's reading of base64: the plain law. -/
import Derived.Test.YtjnmjgpkicbbdaaGreatDoorRd
namespace Go.Proofs.YtjnmjgpkicbbdaaGreatDoor
open Go.RowKit
set_option maxRecDepth 100000
set_option linter.unusedVariables false
set_option linter.unusedSimpArgs false
set_option linter.unnecessarySimpa false

theorem bytes_bits2 (ys r : List Int) (hy : Bytes ys) : ∀ k, k ≤ ys.length → bytesL (bitsL ys ++ r) k = ys.take k
  | 0, _ => by simp [bytesL]
  | k + 1, h => by
    have hk : k < ys.length := by omega
    have hb := hy _ (List.getElem_mem hk)
    rw [bytesL, bytes_bits2 ys r hy k (by omega), List.take_succ_eq_append_getElem hk, List.drop_append_of_le_length (by rw [bitsL_len]; omega), bitsL_drop, List.drop_eq_getElem_cons hk, bitsL, List.append_assoc, take_bits8 _ _ hb.1 hb.2]
theorem lt_last (d : Int) (h0 : 0 ≤ d) (h1 : d < 64) : lastIn lettersS (lt d) lettersS.size = d := by
  have : ∀ i : Fin 64, lastIn lettersS (lt (i.val : Int)) lettersS.size = (i.val : Int) := by decide
  have h2 := this ⟨d.toNat, by omega⟩
  rwa [show ((d.toNat : Nat) : Int) = d from by omega] at h2
theorem six1 (a : Int) (h0 : 0 ≤ a) (h1 : a ≤ 255) : bits6 (a / 4) ++ bits6 (a % 4 * 16) = bits8 a ++ [0, 0, 0, 0] := by
  simp only [bits6, bits8, List.cons_append, List.nil_append, List.cons.injEq, and_true]
  and_intros <;> first | trivial | omega
theorem six2 (a b : Int) (h0 : 0 ≤ a) (h1 : a ≤ 255) (h2 : 0 ≤ b) (h3 : b ≤ 255) : bits6 (a / 4) ++ (bits6 (a % 4 * 16 + b / 16) ++ bits6 (b % 16 * 4)) = bits8 a ++ (bits8 b ++ [0, 0]) := by
  simp only [bits6, bits8, List.cons_append, List.nil_append, List.cons.injEq, and_true]
  and_intros <;> first | trivial | omega
theorem six3 (a b c : Int) (h0 : 0 ≤ a) (h1 : a ≤ 255) (h2 : 0 ≤ b) (h3 : b ≤ 255) (h4 : 0 ≤ c) (h5 : c ≤ 255) : bits6 (a / 4) ++ (bits6 (a % 4 * 16 + b / 16) ++ (bits6 (b % 16 * 4 + c / 64) ++ bits6 (c % 64))) = bits8 a ++ (bits8 b ++ bits8 c) := by
  simp only [bits6, bits8, List.cons_append, List.nil_append, List.cons.injEq, and_true]
  and_intros <;> first | trivial | omega
theorem b64_flat : ∀ ys, Bytes ys → ∃ r, (b64L ys).flatMap (fun c => bits6 (lastIn lettersS c lettersS.size)) = bitsL ys ++ r
  | [], _ => ⟨[], rfl⟩
  | [a], h => by
    have ha := h a (by simp)
    refine ⟨[0, 0, 0, 0], ?_⟩
    simp only [b64L, List.flatMap_cons, List.flatMap_nil, List.append_nil, bitsL]
    rw [lt_last _ (by omega) (by omega), lt_last _ (by omega) (by omega), six1 a ha.1 ha.2]
  | [a, b], h => by
    have ha := h a (by simp)
    have hb := h b (by simp)
    refine ⟨[0, 0], ?_⟩
    simp only [b64L, List.flatMap_cons, List.flatMap_nil, List.append_nil, bitsL]
    rw [lt_last _ (by omega) (by omega), lt_last _ (by omega) (by omega), lt_last _ (by omega) (by omega), six2 a b ha.1 ha.2 hb.1 hb.2]
    simp
  | a :: b :: c :: xs, h => by
    have ha := h a (by simp)
    have hb := h b (by simp)
    have hc := h c (by simp)
    obtain ⟨r, ih⟩ := b64_flat xs fun x hx => h x (by simp [hx])
    refine ⟨r, ?_⟩
    simp only [b64L, List.flatMap_cons, bitsL]
    rw [ih, lt_last _ (by omega) (by omega), lt_last _ (by omega) (by omega), lt_last _ (by omega) (by omega), lt_last _ (by omega) (by omega)]
    have := six3 a b c ha.1 ha.2 hb.1 hb.2 hc.1 hc.2
    have h2 := congrArg (· ++ (bitsL xs ++ r)) this
    simpa [List.append_assoc] using h2
theorem read_b64 (s : ByteArray) (ys : List Int) (h : unb64L (ints s) = some ys) : bytesL (lbits bits6 s lettersS s.size) (6 * s.size / 8) = ys := by
  obtain ⟨h1, h2⟩ := b64_unb64 _ _ h
  have hs : s.size = (b64L ys).length := by rw [h1, ints_len]
  have hl := b64L_len ys
  obtain ⟨r, hr⟩ := b64_flat ys h2
  rw [lbits_flat bits6 s lettersS s.size (by rw [ints_len]; exact Nat.le_refl _), List.take_of_length_le (by rw [ints_len]; exact Nat.le_refl _), ← h1, hr, show 6 * s.size / 8 = ys.length from by rw [hs, hl]; omega, bytes_bits2 ys r h2 _ (Nat.le_refl _), List.take_length]
end Go.Proofs.YtjnmjgpkicbbdaaGreatDoor
