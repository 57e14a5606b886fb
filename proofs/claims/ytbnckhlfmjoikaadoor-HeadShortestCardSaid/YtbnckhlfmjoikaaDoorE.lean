import Derived.Test.YtbnckhlfmjoikaaDoorD
namespace Go.Proofs.YtbnckhlfmjoikaaDoor
open Go.RowKit
set_option maxRecDepth 100000
set_option linter.unusedVariables false

theorem beS_size (k : Nat) (x : Int) : (strOfNums (beS k x)).size = k := by rw [strOfNums_size, beS_len]
theorem join_one (a : Int) (xs : List Int) : strOfNums [a] ++ strOfNums xs = strOfNums (a :: xs) := strOfNums_app [a] xs

theorem rfloat16 (x : Int) (w : World) (h0 : 0 ≤ x) (h1 : x ≤ 18446744073709551615) (h2 : x < 65536) :
    Calls Tryd.prog 11 #[.int .i64 16, .int .u64 x] w fun e w' => e = .returned (.tuple #[.string (strOfNums (249 :: beS 2 x)), .bool true]) ∧ Below w.heap.size w w' := by
  have hs1 := size_one
  have hs2 := beS_size
  have ha := join_one
  go_enter Tryd.func11, Tryd.ntmps11
  go_wp2_with (first | (go_at_call 23; refine (first_any 7 25 _ (by omega) (by omega) (by omega) (by omega)).mono ?_; rintro e w1 ⟨rfl, hb1⟩) | (go_at_call 24; refine (bytes_any x 2 _ h0 h1 (by omega)).mono ?_; rintro e w2 ⟨rfl, hb2⟩))
  go_ret2
  exact ⟨rfl, hb1.trans (hb2.mono hb1.size)⟩

theorem rfloat16_no (x : Int) (w : World) (h0 : 0 ≤ x) (h1 : x ≤ 18446744073709551615) (h2 : 65536 ≤ x) :
    Calls Tryd.prog 11 #[.int .i64 16, .int .u64 x] w fun e w' => e = .returned (.tuple #[.string ⟨#[]⟩, .bool false]) ∧ Below w.heap.size w w' := by
  go_enter Tryd.func11, Tryd.ntmps11
  go_wp2
  go_ret2
  exact ⟨rfl, Below.refl _ _⟩

theorem rfloat32 (x : Int) (w : World) (h0 : 0 ≤ x) (h1 : x ≤ 18446744073709551615) (h2 : x < 4294967296) :
    Calls Tryd.prog 11 #[.int .i64 32, .int .u64 x] w fun e w' => e = .returned (.tuple #[.string (strOfNums (250 :: beS 4 x)), .bool true]) ∧ Below w.heap.size w w' := by
  have hs1 := size_one
  have hs2 := beS_size
  have ha := join_one
  go_enter Tryd.func11, Tryd.ntmps11
  go_wp2_with (first | (go_at_call 23; refine (first_any 7 26 _ (by omega) (by omega) (by omega) (by omega)).mono ?_; rintro e w1 ⟨rfl, hb1⟩) | (go_at_call 24; refine (bytes_any x 4 _ h0 h1 (by omega)).mono ?_; rintro e w2 ⟨rfl, hb2⟩))
  go_ret2
  exact ⟨rfl, hb1.trans (hb2.mono hb1.size)⟩

theorem rfloat32_no (x : Int) (w : World) (h0 : 0 ≤ x) (h1 : x ≤ 18446744073709551615) (h2 : 4294967296 ≤ x) :
    Calls Tryd.prog 11 #[.int .i64 32, .int .u64 x] w fun e w' => e = .returned (.tuple #[.string ⟨#[]⟩, .bool false]) ∧ Below w.heap.size w w' := by
  go_enter Tryd.func11, Tryd.ntmps11
  go_wp2
  go_ret2
  exact ⟨rfl, Below.refl _ _⟩

theorem rfloat64 (x : Int) (w : World) (h0 : 0 ≤ x) (h1 : x ≤ 18446744073709551615) :
    Calls Tryd.prog 11 #[.int .i64 64, .int .u64 x] w fun e w' => e = .returned (.tuple #[.string (strOfNums (251 :: beS 8 x)), .bool true]) ∧ Below w.heap.size w w' := by
  have hs1 := size_one
  have hs2 := beS_size
  have ha := join_one
  go_enter Tryd.func11, Tryd.ntmps11
  go_wp2_with (first | (go_at_call 23; refine (first_any 7 27 _ (by omega) (by omega) (by omega) (by omega)).mono ?_; rintro e w1 ⟨rfl, hb1⟩) | (go_at_call 24; refine (bytes_any x 8 _ h0 h1 (by omega)).mono ?_; rintro e w2 ⟨rfl, hb2⟩))
  go_ret2
  exact ⟨rfl, hb1.trans (hb2.mono hb1.size)⟩

theorem rfloat_no (x : Int) (n : Int) (w : World) (h0 : 0 ≤ x) (h1 : x ≤ 18446744073709551615) (a : n ≠ 16) (b : n ≠ 32) (c : n ≠ 64) :
    Calls Tryd.prog 11 #[.int .i64 n, .int .u64 x] w fun e w' => e = .returned (.tuple #[.string ⟨#[]⟩, .bool false]) ∧ Below w.heap.size w w' := by
  have a1 : (n == 16) = false := by simp; omega
  have b1 : (n == 32) = false := by simp; omega
  have c1 : (n == 64) = false := by simp; omega
  go_enter Tryd.func11, Tryd.ntmps11
  go_wp2
  go_ret2
  exact ⟨rfl, Below.refl _ _⟩

theorem hf16 (x : Int) (w : World) (hS : Sizes w) (h0 : 0 ≤ x) (h1 : x ≤ 18446744073709551615) (h2 : x < 65536) :
    Calls Tryd.prog 3 #[.int .i64 16, .int .u64 x] w fun e w' => e = .returned (.bool true) ∧ Below w.heap.size w w' := by
  go_enter Tryd.func3, Tryd.ntmps3
  go_wp2_with (first | (go_at_call 10; refine (float16 x _ hS h0 h1 h2).mono ?_; rintro e w1 ⟨rfl, hb1⟩) | (go_at_call 11; refine (rfloat16 x _ h0 h1 h2).mono ?_; rintro e w2 ⟨rfl, hb2⟩))
  go_ret
  exact ⟨rfl, hb1.trans (hb2.mono hb1.size)⟩

theorem hf16_no (x : Int) (w : World) (hS : Sizes w) (h0 : 0 ≤ x) (h1 : x ≤ 18446744073709551615) (h2 : 65536 ≤ x) :
    Calls Tryd.prog 3 #[.int .i64 16, .int .u64 x] w fun e w' => e = .returned (.bool true) ∧ Below w.heap.size w w' := by
  go_enter Tryd.func3, Tryd.ntmps3
  go_wp2_with (first | (go_at_call 10; refine (float16_no x _ hS h0 h1 h2).mono ?_; rintro e w1 ⟨rfl, hb1⟩) | (go_at_call 11; refine (rfloat16_no x _ h0 h1 h2).mono ?_; rintro e w2 ⟨rfl, hb2⟩))
  go_ret
  exact ⟨rfl, hb1.trans (hb2.mono hb1.size)⟩

theorem hf32 (x : Int) (w : World) (hS : Sizes w) (h0 : 0 ≤ x) (h1 : x ≤ 18446744073709551615) (h2 : x < 4294967296) :
    Calls Tryd.prog 3 #[.int .i64 32, .int .u64 x] w fun e w' => e = .returned (.bool true) ∧ Below w.heap.size w w' := by
  go_enter Tryd.func3, Tryd.ntmps3
  go_wp2_with (first | (go_at_call 10; refine (float32 x _ hS h0 h1 h2).mono ?_; rintro e w1 ⟨rfl, hb1⟩) | (go_at_call 11; refine (rfloat32 x _ h0 h1 h2).mono ?_; rintro e w2 ⟨rfl, hb2⟩))
  go_ret
  exact ⟨rfl, hb1.trans (hb2.mono hb1.size)⟩

theorem hf32_no (x : Int) (w : World) (hS : Sizes w) (h0 : 0 ≤ x) (h1 : x ≤ 18446744073709551615) (h2 : 4294967296 ≤ x) :
    Calls Tryd.prog 3 #[.int .i64 32, .int .u64 x] w fun e w' => e = .returned (.bool true) ∧ Below w.heap.size w w' := by
  go_enter Tryd.func3, Tryd.ntmps3
  go_wp2_with (first | (go_at_call 10; refine (float32_no x _ hS h0 h1 h2).mono ?_; rintro e w1 ⟨rfl, hb1⟩) | (go_at_call 11; refine (rfloat32_no x _ h0 h1 h2).mono ?_; rintro e w2 ⟨rfl, hb2⟩))
  go_ret
  exact ⟨rfl, hb1.trans (hb2.mono hb1.size)⟩

theorem hf64 (x : Int) (w : World) (hS : Sizes w) (h0 : 0 ≤ x) (h1 : x ≤ 18446744073709551615) :
    Calls Tryd.prog 3 #[.int .i64 64, .int .u64 x] w fun e w' => e = .returned (.bool true) ∧ Below w.heap.size w w' := by
  go_enter Tryd.func3, Tryd.ntmps3
  go_wp2_with (first | (go_at_call 10; refine (float64 x _ hS h0 h1).mono ?_; rintro e w1 ⟨rfl, hb1⟩) | (go_at_call 11; refine (rfloat64 x _ h0 h1).mono ?_; rintro e w2 ⟨rfl, hb2⟩))
  go_ret
  exact ⟨rfl, hb1.trans (hb2.mono hb1.size)⟩

theorem hf_no (x : Int) (n : Int) (w : World) (hS : Sizes w) (h0 : 0 ≤ x) (h1 : x ≤ 18446744073709551615) (a : n ≠ 16) (b : n ≠ 32) (c : n ≠ 64) :
    Calls Tryd.prog 3 #[.int .i64 n, .int .u64 x] w fun e w' => e = .returned (.bool true) ∧ Below w.heap.size w w' := by
  go_enter Tryd.func3, Tryd.ntmps3
  go_wp2_with (first | (go_at_call 10; refine (float_no x n _ hS h0 h1 a b c).mono ?_; rintro e w1 ⟨rfl, hb1⟩) | (go_at_call 11; refine (rfloat_no x n _ h0 h1 a b c).mono ?_; rintro e w2 ⟨rfl, hb2⟩))
  go_ret
  exact ⟨rfl, hb1.trans (hb2.mono hb1.size)⟩

theorem headFloats_any (n x : Int) (w : World) (hS : Sizes w) (h0 : 0 ≤ x) (h1 : x ≤ 18446744073709551615) :
    Calls Tryd.prog 3 #[.int .i64 n, .int .u64 x] w fun e w' => e = .returned (.bool true) ∧ Below w.heap.size w w' := by
  by_cases a : n = 16
  · subst a
    rcases Int.lt_or_le x 65536 with h | h
    · exact hf16 x w hS h0 h1 h
    · exact hf16_no x w hS h0 h1 h
  by_cases b : n = 32
  · subst b
    rcases Int.lt_or_le x 4294967296 with h | h
    · exact hf32 x w hS h0 h1 h
    · exact hf32_no x w hS h0 h1 h
  by_cases c : n = 64
  · subst c
    exact hf64 x w hS h0 h1
  · exact hf_no x n w hS h0 h1 a b c
end Go.Proofs.YtbnckhlfmjoikaaDoor
