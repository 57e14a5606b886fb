/- The document's FromHex. -/
import Derived.Test.YtjnmjgpkicbbdaaGreatDoorRc
namespace Go.Proofs.YtjnmjgpkicbbdaaGreatDoor
open Go.RowKit
set_option maxRecDepth 100000
set_option linter.unusedVariables false
set_option linter.unusedSimpArgs false
set_option linter.unnecessarySimpa false

theorem ba_eq (a b : ByteArray) : (a == b) = decide (a = b) := by
  rcases a with ⟨x⟩
  rcases b with ⟨y⟩
  show (x == y) = _
  by_cases h : x = y <;> simp [h]
theorem bytesL_bytes (ls : List Int) (h : ∀ y ∈ ls, 0 ≤ y ∧ y ≤ 1) : ∀ k, Bytes (bytesL ls k)
  | 0 => Bytes.nil
  | k + 1 => fun x hx => by
    rcases List.mem_append.1 hx with hx | hx
    · exact bytesL_bytes ls h k x hx
    · obtain rfl : x = _ := by simpa using hx
      have := take0_lt 8 ls h (8 * k)
      omega
theorem Own.base {W : World} {B B' : Nat} {e : TypeId} {k : IntKind} {v : Value} {xs : List Int} (h : Own W B e k v xs) (hb : B' ≤ B) : Own W B' e k v xs := by
  refine ⟨h.1, ?_⟩
  rcases h.2 with h2 | ⟨g, cap, cur, rfl, h1, r⟩
  · exact .inl h2
  · exact .inr ⟨g, cap, cur, rfl, Nat.le_trans hb h1, r⟩
theorem refFromHex_any (s : ByteArray) (w : World) (hs : s.size ≤ 16777216) : Calls Tryz.prog 4 #[.string s] w (FromPost (unhexL (ints s)) w) := by
  have h1 := read4_any s digitsS w hs (by decide)
  obtain ⟨R, hR⟩ : ∃ R, bytesL (lbits bits4 s digitsS s.size) (4 * s.size / 8) = R := ⟨_, rfl⟩
  have hRb : Bytes R := by rw [← hR]; exact bytesL_bytes _ (lbits_bit bits4 bits4_bit s digitsS s.size) _
  have hRl : R.length = 4 * s.size / 8 := by rw [← hR, bytesL_len]
  have hyes : strOfNums (hexL R) = s → unhexL (ints s) = some R := fun h => by
    have : ints s = hexL R := by rw [← h, ints_strOfNums (hexL_bytes R hRb)]
    rw [this, unhex_hex R hRb]
  have hno : strOfNums (hexL R) ≠ s → unhexL (ints s) = none := fun h => by
    cases hu : unhexL (ints s) with
    | none => rfl
    | some ys =>
      have h2 := read_hex s ys hu
      rw [hR] at h2
      subst h2
      exact absurd (by rw [(hex_unhex _ _ _ (Nat.le_refl _) hu).1, strOfNums_ints]) h
  rw [hR] at h1
  have h2 := fun (A : Option Addr) (c : Nat) (W : World) (h : RK W .u8 A R) => refHex_any A c R.length R W hRb rfl (by omega) h
  have HYES := Lib.hid hyes
  have HNO := Lib.hid hno
  have h1' : Calls Tryz.prog 12 #[.string s, .int .i64 4, .string ⟨#[48, 49, 50, 51, 52, 53, 54, 55, 56, 57, 97, 98, 99, 100, 101, 102]⟩] w fun e w' => ∃ A c, e = .returned (.slice A R.length c) ∧ Hid (RK w' .u8 A R ∧ R.length ≤ c ∧ (A = none ∨ ∃ b off, A = some ⟨b, off, none⟩) ∧ Own w' w.heap.size 5 .u8 (.slice A R.length c) R) ∧ Below w.heap.size w w' := by
    refine h1.mono ?_
    rintro e w' ⟨v, rfl, ⟨B, hB, hO⟩, hb⟩
    obtain ⟨A, c, rfl, a1, a2, a3⟩ := hO.slice
    exact ⟨A, c, rfl, Lib.hid ⟨a1, a2, a3, hO.base hB⟩, hb⟩
  clear h1 hyes hno hR hRb
  clear hRl
  have HY2 : Hid (strOfNums (hexL R) = s → ∀ (w1 w2 : World) (A : Option Addr) (c : Nat), Below w.heap.size w w1 → Below w1.heap.size w1 w2 → (RK w1 .u8 A R ∧ R.length ≤ c ∧ (A = none ∨ ∃ b off, A = some ⟨b, off, none⟩) ∧ Own w1 w.heap.size 5 .u8 (.slice A R.length c) R) → FromPost (unhexL (ints s)) w (.returned (.tuple #[.slice A R.length c, .bool true])) w2) := Lib.hid fun h w1 w2 A c b1 b2 hh => FromPost.yes (HYES.out h) (below_on b1 b2) (hh.1.below b2) hh.2.1 hh.2.2.1 (hh.2.2.2.kept b2)
  generalize unhexL (ints s) = r at HYES HNO HY2 ⊢
  generalize strOfNums (hexL R) = q at h2 HYES HNO HY2
  generalize R.length = n at *
  by_cases hq : q = s
  · subst hq
    have hr := HYES.out rfl
    have hqq : (q == q) = true := by rw [ba_eq]; simp
    go_enter Tryz.func4, Tryz.ntmps4
    go_wp2_with (first | (go_at_call 12; refine h1'.mono ?_; rintro e w1 ⟨A, c, rfl, HA, hb1⟩) | (go_at_call 13; refine (h2 A c _ HA.out.1).mono ?_; rintro e w2 ⟨rfl, hb2⟩))
    go_ret2
    exact HY2.out (by first | trivial | rfl) _ _ _ _ hb1 hb2 HA.out
  · have hr := HNO.out hq
    have hqq : (q.toList == s.toList) = false := by
      rw [beq_eq_false_iff_ne, ByteArray.toList_eq, ByteArray.toList_eq]
      exact fun h => hq (WideShapes.bytes_inj h)
    go_enter Tryz.func4, Tryz.ntmps4
    go_wp2_with (first | (go_at_call 12; refine h1'.mono ?_; rintro e w1 ⟨A, c, rfl, HA, hb1⟩) | (go_at_call 13; refine (h2 A c _ HA.out.1).mono ?_; rintro e w2 ⟨rfl, hb2⟩))
    go_ret2
    exact FromPost.no hr (below_on hb1 hb2)
end Go.Proofs.YtjnmjgpkicbbdaaGreatDoor
