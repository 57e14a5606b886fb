/- The document's FromBase64. -/
import Derived.Test.YtjnmjgpkicbbdaaGreatDoorRe
namespace Go.Proofs.YtjnmjgpkicbbdaaGreatDoor
open Go.RowKit
set_option maxRecDepth 100000
set_option linter.unusedVariables false
set_option linter.unusedSimpArgs false
set_option linter.unnecessarySimpa false

theorem refFromB64_any (s : ByteArray) (w : World) (hs : s.size ≤ 16777216) : Calls Tryz.prog 8 #[.string s] w (FromPost (unb64L (ints s)) w) := by
  have h1 := read6_any s lettersS w hs (by decide)
  obtain ⟨R, hR⟩ : ∃ R, bytesL (lbits bits6 s lettersS s.size) (6 * s.size / 8) = R := ⟨_, rfl⟩
  have hRb : Bytes R := by rw [← hR]; exact bytesL_bytes _ (lbits_bit bits6 bits6_bit s lettersS s.size) _
  have hRl : R.length = 6 * s.size / 8 := by rw [← hR, bytesL_len]
  have hyes : strOfNums (b64L R) = s → unb64L (ints s) = some R := fun h => by
    have : ints s = b64L R := by rw [← h, ints_strOfNums (b64L_bytes R hRb)]
    rw [this, unb64_b64 R hRb]
  have hno : strOfNums (b64L R) ≠ s → unb64L (ints s) = none := fun h => by
    cases hu : unb64L (ints s) with
    | none => rfl
    | some ys =>
      have h2 := read_b64 s ys hu
      rw [hR] at h2
      subst h2
      exact absurd (by rw [(b64_unb64 _ _ hu).1, strOfNums_ints]) h
  rw [hR] at h1
  have h2 := fun (A : Option Addr) (c : Nat) (W : World) (h : RK W .u8 A R) => refB64_any A c R.length R W hRb rfl (by omega) h
  have HYES := Lib.hid hyes
  have HNO := Lib.hid hno
  have h1' : Calls Tryz.prog 12 #[.string s, .int .i64 6, .string ⟨#[65, 66, 67, 68, 69, 70, 71, 72, 73, 74, 75, 76, 77, 78, 79, 80, 81, 82, 83, 84, 85, 86, 87, 88, 89, 90, 97, 98, 99, 100, 101, 102, 103, 104, 105, 106, 107, 108, 109, 110, 111, 112, 113, 114, 115, 116, 117, 118, 119, 120, 121, 122, 48, 49, 50, 51, 52, 53, 54, 55, 56, 57, 45, 95]⟩] w fun e w' => ∃ A c, e = .returned (.slice A R.length c) ∧ Hid (RK w' .u8 A R ∧ R.length ≤ c ∧ (A = none ∨ ∃ b off, A = some ⟨b, off, none⟩) ∧ Own w' w.heap.size 5 .u8 (.slice A R.length c) R) ∧ Below w.heap.size w w' := by
    refine h1.mono ?_
    rintro e w' ⟨v, rfl, ⟨B, hB, hO⟩, hb⟩
    obtain ⟨A, c, rfl, a1, a2, a3⟩ := hO.slice
    exact ⟨A, c, rfl, Lib.hid ⟨a1, a2, a3, hO.base hB⟩, hb⟩
  clear h1 hyes hno hR hRb
  clear hRl
  have HY2 : Hid (strOfNums (b64L R) = s → ∀ (w1 w2 : World) (A : Option Addr) (c : Nat), Below w.heap.size w w1 → Below w1.heap.size w1 w2 → (RK w1 .u8 A R ∧ R.length ≤ c ∧ (A = none ∨ ∃ b off, A = some ⟨b, off, none⟩) ∧ Own w1 w.heap.size 5 .u8 (.slice A R.length c) R) → FromPost (unb64L (ints s)) w (.returned (.tuple #[.slice A R.length c, .bool true])) w2) := Lib.hid fun h w1 w2 A c b1 b2 hh => FromPost.yes (HYES.out h) (below_on b1 b2) (hh.1.below b2) hh.2.1 hh.2.2.1 (hh.2.2.2.kept b2)
  generalize unb64L (ints s) = r at HYES HNO HY2 ⊢
  generalize strOfNums (b64L R) = q at h2 HYES HNO HY2
  generalize R.length = n at *
  by_cases hq : q = s
  · subst hq
    have hr := HYES.out rfl
    have hqq : (q == q) = true := by rw [ba_eq]; simp
    go_enter Tryz.func8, Tryz.ntmps8
    go_wp2_with (first | (go_at_call 12; refine h1'.mono ?_; rintro e w1 ⟨A, c, rfl, HA, hb1⟩) | (go_at_call 16; refine (h2 A c _ HA.out.1).mono ?_; rintro e w2 ⟨rfl, hb2⟩))
    go_ret2
    exact HY2.out (by first | trivial | rfl) _ _ _ _ hb1 hb2 HA.out
  · have hr := HNO.out hq
    have hqq : (q.toList == s.toList) = false := by
      rw [beq_eq_false_iff_ne, ByteArray.toList_eq, ByteArray.toList_eq]
      exact fun h => hq (WideShapes.bytes_inj h)
    go_enter Tryz.func8, Tryz.ntmps8
    go_wp2_with (first | (go_at_call 12; refine h1'.mono ?_; rintro e w1 ⟨A, c, rfl, HA, hb1⟩) | (go_at_call 16; refine (h2 A c _ HA.out.1).mono ?_; rintro e w2 ⟨rfl, hb2⟩))
    go_ret2
    exact FromPost.no hr (below_on hb1 hb2)
end Go.Proofs.YtjnmjgpkicbbdaaGreatDoor
