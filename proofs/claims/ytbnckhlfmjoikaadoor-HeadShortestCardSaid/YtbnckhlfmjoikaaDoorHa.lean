/- head.Write told at once; a string cut at a place. -/
import Derived.Test.YtbnckhlfmjoikaaDoorY
namespace Go.Proofs.YtbnckhlfmjoikaaDoor
open Go.RowKit
set_option maxRecDepth 100000
set_option linter.unusedVariables false
set_option linter.unusedSimpArgs false
set_option linter.unnecessarySimpa false

/-- The information of the shortest head, and how many bytes stand behind it. -/
def writeL (m x : Int) : Option (Int × Nat) :=
  if 7 < m ∨ m = 7 ∧ ¬ (x < 24 ∨ 31 < x ∧ x < 256) then none
  else if x < 24 then some (x, 0) else if x < 256 then some (24, 1) else if x < 65536 then some (25, 2) else if x < 4294967296 then some (26, 4) else some (27, 8)
def writeV (m x : Int) : Option (Int × Nat) → Value
  | none => .tuple #[.string ⟨#[]⟩, .bool false]
  | some y => .tuple #[.string (strOfNums ((32 * m + y.1) :: beS y.2 x)), .bool true]
theorem write_is (m x : Int) (w : World) (hw : Seat w) (hm : 0 ≤ m) (h0 : 0 ≤ x) (h1 : x ≤ 18446744073709551615) :
    Calls Tryd.prog 12 #[.int .u8 m, .int .u64 x] w fun e w' => e = .returned (writeV m x (writeL m x)) ∧ Below w.heap.size w w' := by
  obtain ⟨_, _, hS⟩ := hw
  by_cases h8 : 7 < m
  · rw [writeL, if_pos (.inl h8)]
    rcases (by omega : x < 24 ∨ (24 ≤ x ∧ x ≤ 31) ∨ (32 ≤ x ∧ x < 256) ∨ 256 ≤ x) with h | ⟨h, h'⟩ | ⟨h, h'⟩ | h
    · exact w8ma m x w hS hm h0 h1 (by omega) h
    · exact w8mb m x w hS hm h0 h1 (by omega) h h'
    · exact w8mc m x w hS hm h0 h1 (by omega) h h'
    · exact w8md m x w hS hm h0 h1 (by omega) h
  by_cases h7 : m = 7
  · subst h7
    rcases (by omega : x < 24 ∨ (24 ≤ x ∧ x < 32) ∨ (32 ≤ x ∧ x < 256) ∨ 256 ≤ x) with h | ⟨h, h'⟩ | ⟨h, h'⟩ | h
    · rw [writeL, if_neg (by omega), if_pos h]
      exact w70 x w hS h0 h1 h
    · rw [writeL, if_pos (.inr ⟨rfl, by omega⟩)]
      exact w7a x w hS h0 h1 h h'
    · rw [writeL, if_neg (by omega), if_neg (by omega), if_pos h']
      exact w71 x w hS h0 h1 h h'
    · rw [writeL, if_pos (.inr ⟨rfl, by omega⟩)]
      exact w7b x w hS h0 h1 h
  rw [writeL, if_neg (by omega)]
  by_cases a : x < 24
  · rw [if_pos a]
    exact w0 m x w hS hm h0 h1 (by omega) a
  by_cases b : x < 256
  · rw [if_neg a, if_pos b]
    rcases Int.lt_or_le 31 x with h | h
    · exact w1b m x w hS hm h0 h1 (by omega) (by omega) b (by omega)
    · exact w1a m x w hS hm h0 h1 (by omega) (by omega) b h
  by_cases c : x < 65536
  · rw [if_neg a, if_neg b, if_pos c]
    exact w2 m x w hS hm h0 h1 (by omega) (by omega) c
  by_cases d : x < 4294967296
  · rw [if_neg a, if_neg b, if_neg c, if_pos d]
    exact w4 m x w hS hm h0 h1 (by omega) (by omega) d
  · rw [if_neg a, if_neg b, if_neg c, if_neg d]
    exact w8 m x w hS hm h0 h1 (by omega) (by omega)
theorem formed_of_write {m x i : Int} {z : Nat} (hm : 0 ≤ m) (h0 : 0 ≤ x) (h1 : x ≤ 18446744073709551615) (h : writeL m x = some (i, z)) : Formed m i x z ∧ z ≤ 8 := by
  unfold writeL at h
  split at h
  · cases h
  rename_i hn
  have hm7 : m ≤ 7 := by omega
  (repeat' split at h) <;> (simp only [Option.some.injEq, Prod.mk.injEq] at h; obtain ⟨rfl, rfl⟩ := h)
  · exact ⟨⟨hm, hm7, .inl ⟨rfl, h0, by assumption, rfl⟩⟩, by omega⟩
  · exact ⟨⟨hm, hm7, .inr ⟨by omega, by omega, rfl, h0, by simp; omega⟩⟩, by omega⟩
  · exact ⟨⟨hm, hm7, .inr ⟨by omega, by omega, rfl, h0, by simp; omega⟩⟩, by omega⟩
  · exact ⟨⟨hm, hm7, .inr ⟨by omega, by omega, rfl, h0, by simp; omega⟩⟩, by omega⟩
  · exact ⟨⟨hm, hm7, .inr ⟨by omega, by omega, rfl, h0, by simp; omega⟩⟩, by omega⟩
theorem written_size (c x : Int) (z : Nat) : (strOfNums (c :: beS z x)).size = z + 1 := by rw [strOfNums_size]; simp [beS_len]
theorem written_inj {m x y i j : Int} {z v : Nat} (h : Formed m i x z) (k : Formed m j y v) (e : strOfNums ((32 * m + i) :: beS z x) = strOfNums ((32 * m + j) :: beS v y)) : x = y := by
  have a := read_written m i x z h
  rw [e, read_written m j y v k] at a
  simp at a
  omega
theorem cut_run (s : ByteArray) (k : Nat) (h : k ≤ s.size) (W : World) : (Instr.slice 9 (.string s) none (some (.int .i64 (k : Int))) none).run Tryd.prog W = .ok (.string (s.extract 0 k)) W := by
  have e1 : (k : Int) ≤ (s.size : Int) := by omega
  have e2 : ¬ (k : Int) < 0 := by omega
  simp [Instr.slice, run_underlying Tryd.underlying9, Instr.sliceBounds, run_sliceBound, sliced, e1, e2]
theorem neH4 (a b c d a' b' c' d' : Int) (W : World) : (binOp BinOp.neq 29 (.agg #[.int .u8 a, .int .u8 b, .int .u64 c, .int .i64 d]) (.agg #[.int .u8 a', .int .u8 b', .int .u64 c', .int .i64 d'])).run Tryd.prog W = .ok (.bool (!(a == a' && (b == b' && (c == c' && d == d'))))) W := by
  have h := eqH4 a b c d a' b' c' d' W
  rw [run_eql_struct] at h
  rw [run_neq_struct]
  revert h
  generalize (Op.equalIn 10000 29 _ _).run Tryd.prog W = r
  intro h
  cases r with
  | ok v w' => simp [Result.andThen] at h ⊢; obtain ⟨rfl, rfl⟩ := h; exact ⟨rfl, rfl⟩
  | _ => simp [Result.andThen] at h
end Go.Proofs.YtbnckhlfmjoikaaDoor
