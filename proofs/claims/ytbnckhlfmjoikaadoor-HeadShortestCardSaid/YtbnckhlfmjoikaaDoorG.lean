/- The law HeadWrites, walked: it returns true for every major type and argument, the table of sizes laid as it is. -/
import Derived.Test.YtbnckhlfmjoikaaDoorF
namespace Go.Proofs.YtbnckhlfmjoikaaDoor
open Go.RowKit
set_option maxRecDepth 100000
set_option linter.unusedVariables false

theorem hw0 (m x : Int) (w : World) (hS : Sizes w) (hm : 0 ≤ m) (h0 : 0 ≤ x) (h1 : x ≤ 18446744073709551615) (h7 : m ≤ 6) (hx : x < 24) :
    Calls Tryd.prog 4 #[.int .u8 m, .int .u64 x] w fun e w' => e = .returned (.bool true) ∧ Below w.heap.size w w' := by
  go_enter Tryd.func4, Tryd.ntmps4
  go_wp2_with (first | (go_at_call 12; refine (w0 m x _ hS hm h0 h1 h7 hx).mono ?_; rintro e w1 ⟨rfl, hb1⟩) | (go_at_call 13; refine (rw0 m x _ hm h0 h1 h7 hx).mono ?_; rintro e w2 ⟨rfl, hb2⟩))
  go_ret
  exact ⟨rfl, hb1.trans (hb2.mono hb1.size)⟩

theorem hw1a (m x : Int) (w : World) (hS : Sizes w) (hm : 0 ≤ m) (h0 : 0 ≤ x) (h1 : x ≤ 18446744073709551615) (h7 : m ≤ 6) (hx : 24 ≤ x) (hy : x < 256) (hz : x ≤ 31) :
    Calls Tryd.prog 4 #[.int .u8 m, .int .u64 x] w fun e w' => e = .returned (.bool true) ∧ Below w.heap.size w w' := by
  go_enter Tryd.func4, Tryd.ntmps4
  go_wp2_with (first | (go_at_call 12; refine (w1a m x _ hS hm h0 h1 h7 hx hy hz).mono ?_; rintro e w1 ⟨rfl, hb1⟩) | (go_at_call 13; refine (rw1 m x _ hm h0 h1 h7 hx hy).mono ?_; rintro e w2 ⟨rfl, hb2⟩))
  go_ret
  exact ⟨rfl, hb1.trans (hb2.mono hb1.size)⟩

theorem hw1b (m x : Int) (w : World) (hS : Sizes w) (hm : 0 ≤ m) (h0 : 0 ≤ x) (h1 : x ≤ 18446744073709551615) (h7 : m ≤ 6) (hx : 24 ≤ x) (hy : x < 256) (hz : 32 ≤ x) :
    Calls Tryd.prog 4 #[.int .u8 m, .int .u64 x] w fun e w' => e = .returned (.bool true) ∧ Below w.heap.size w w' := by
  go_enter Tryd.func4, Tryd.ntmps4
  go_wp2_with (first | (go_at_call 12; refine (w1b m x _ hS hm h0 h1 h7 hx hy hz).mono ?_; rintro e w1 ⟨rfl, hb1⟩) | (go_at_call 13; refine (rw1 m x _ hm h0 h1 h7 hx hy).mono ?_; rintro e w2 ⟨rfl, hb2⟩))
  go_ret
  exact ⟨rfl, hb1.trans (hb2.mono hb1.size)⟩

theorem hw2 (m x : Int) (w : World) (hS : Sizes w) (hm : 0 ≤ m) (h0 : 0 ≤ x) (h1 : x ≤ 18446744073709551615) (h7 : m ≤ 6) (hx : 256 ≤ x) (hy : x < 65536) :
    Calls Tryd.prog 4 #[.int .u8 m, .int .u64 x] w fun e w' => e = .returned (.bool true) ∧ Below w.heap.size w w' := by
  go_enter Tryd.func4, Tryd.ntmps4
  go_wp2_with (first | (go_at_call 12; refine (w2 m x _ hS hm h0 h1 h7 hx hy).mono ?_; rintro e w1 ⟨rfl, hb1⟩) | (go_at_call 13; refine (rw2 m x _ hm h0 h1 h7 hx hy).mono ?_; rintro e w2 ⟨rfl, hb2⟩))
  go_ret
  exact ⟨rfl, hb1.trans (hb2.mono hb1.size)⟩

theorem hw4 (m x : Int) (w : World) (hS : Sizes w) (hm : 0 ≤ m) (h0 : 0 ≤ x) (h1 : x ≤ 18446744073709551615) (h7 : m ≤ 6) (hx : 65536 ≤ x) (hy : x < 4294967296) :
    Calls Tryd.prog 4 #[.int .u8 m, .int .u64 x] w fun e w' => e = .returned (.bool true) ∧ Below w.heap.size w w' := by
  go_enter Tryd.func4, Tryd.ntmps4
  go_wp2_with (first | (go_at_call 12; refine (w4 m x _ hS hm h0 h1 h7 hx hy).mono ?_; rintro e w1 ⟨rfl, hb1⟩) | (go_at_call 13; refine (rw4 m x _ hm h0 h1 h7 hx hy).mono ?_; rintro e w2 ⟨rfl, hb2⟩))
  go_ret
  exact ⟨rfl, hb1.trans (hb2.mono hb1.size)⟩

theorem hw8 (m x : Int) (w : World) (hS : Sizes w) (hm : 0 ≤ m) (h0 : 0 ≤ x) (h1 : x ≤ 18446744073709551615) (h7 : m ≤ 6) (hx : 4294967296 ≤ x) :
    Calls Tryd.prog 4 #[.int .u8 m, .int .u64 x] w fun e w' => e = .returned (.bool true) ∧ Below w.heap.size w w' := by
  go_enter Tryd.func4, Tryd.ntmps4
  go_wp2_with (first | (go_at_call 12; refine (w8 m x _ hS hm h0 h1 h7 hx).mono ?_; rintro e w1 ⟨rfl, hb1⟩) | (go_at_call 13; refine (rw8 m x _ hm h0 h1 h7 hx).mono ?_; rintro e w2 ⟨rfl, hb2⟩))
  go_ret
  exact ⟨rfl, hb1.trans (hb2.mono hb1.size)⟩

theorem hw70 (x : Int) (w : World) (hS : Sizes w) (h0 : 0 ≤ x) (h1 : x ≤ 18446744073709551615) (hx : x < 24) :
    Calls Tryd.prog 4 #[.int .u8 7, .int .u64 x] w fun e w' => e = .returned (.bool true) ∧ Below w.heap.size w w' := by
  go_enter Tryd.func4, Tryd.ntmps4
  go_wp2_with (first | (go_at_call 12; refine (w70 x _ hS h0 h1 hx).mono ?_; rintro e w1 ⟨rfl, hb1⟩) | (go_at_call 13; refine (rw70 x _ h0 h1 hx).mono ?_; rintro e w2 ⟨rfl, hb2⟩))
  go_ret
  exact ⟨rfl, hb1.trans (hb2.mono hb1.size)⟩

theorem hw71 (x : Int) (w : World) (hS : Sizes w) (h0 : 0 ≤ x) (h1 : x ≤ 18446744073709551615) (hx : 32 ≤ x) (hy : x < 256) :
    Calls Tryd.prog 4 #[.int .u8 7, .int .u64 x] w fun e w' => e = .returned (.bool true) ∧ Below w.heap.size w w' := by
  go_enter Tryd.func4, Tryd.ntmps4
  go_wp2_with (first | (go_at_call 12; refine (w71 x _ hS h0 h1 hx hy).mono ?_; rintro e w1 ⟨rfl, hb1⟩) | (go_at_call 13; refine (rw71 x _ h0 h1 hx hy).mono ?_; rintro e w2 ⟨rfl, hb2⟩))
  go_ret
  exact ⟨rfl, hb1.trans (hb2.mono hb1.size)⟩

theorem hw7a (x : Int) (w : World) (hS : Sizes w) (h0 : 0 ≤ x) (h1 : x ≤ 18446744073709551615) (hx : 24 ≤ x) (hy : x < 32) :
    Calls Tryd.prog 4 #[.int .u8 7, .int .u64 x] w fun e w' => e = .returned (.bool true) ∧ Below w.heap.size w w' := by
  go_enter Tryd.func4, Tryd.ntmps4
  go_wp2_with (first | (go_at_call 12; refine (w7a x _ hS h0 h1 hx hy).mono ?_; rintro e w1 ⟨rfl, hb1⟩) | (go_at_call 13; refine (rw7a x _ h0 h1 hx hy).mono ?_; rintro e w2 ⟨rfl, hb2⟩))
  go_ret
  exact ⟨rfl, hb1.trans (hb2.mono hb1.size)⟩

theorem hw7b (x : Int) (w : World) (hS : Sizes w) (h0 : 0 ≤ x) (h1 : x ≤ 18446744073709551615) (hx : 256 ≤ x) :
    Calls Tryd.prog 4 #[.int .u8 7, .int .u64 x] w fun e w' => e = .returned (.bool true) ∧ Below w.heap.size w w' := by
  go_enter Tryd.func4, Tryd.ntmps4
  go_wp2_with (first | (go_at_call 12; refine (w7b x _ hS h0 h1 hx).mono ?_; rintro e w1 ⟨rfl, hb1⟩) | (go_at_call 13; refine (rw7b x _ h0 h1 hx).mono ?_; rintro e w2 ⟨rfl, hb2⟩))
  go_ret
  exact ⟨rfl, hb1.trans (hb2.mono hb1.size)⟩

theorem hw8ma (m x : Int) (w : World) (hS : Sizes w) (hm : 0 ≤ m) (h0 : 0 ≤ x) (h1 : x ≤ 18446744073709551615) (hx : 8 ≤ m) (hz : x < 24) :
    Calls Tryd.prog 4 #[.int .u8 m, .int .u64 x] w fun e w' => e = .returned (.bool true) ∧ Below w.heap.size w w' := by
  go_enter Tryd.func4, Tryd.ntmps4
  go_wp2_with (first | (go_at_call 12; refine (w8ma m x _ hS hm h0 h1 hx hz).mono ?_; rintro e w1 ⟨rfl, hb1⟩) | (go_at_call 13; refine (rw8m m x _ hm h0 h1 hx).mono ?_; rintro e w2 ⟨rfl, hb2⟩))
  go_ret
  exact ⟨rfl, hb1.trans (hb2.mono hb1.size)⟩

theorem hw8mb (m x : Int) (w : World) (hS : Sizes w) (hm : 0 ≤ m) (h0 : 0 ≤ x) (h1 : x ≤ 18446744073709551615) (hx : 8 ≤ m) (hz : 24 ≤ x) (hy : x ≤ 31) :
    Calls Tryd.prog 4 #[.int .u8 m, .int .u64 x] w fun e w' => e = .returned (.bool true) ∧ Below w.heap.size w w' := by
  go_enter Tryd.func4, Tryd.ntmps4
  go_wp2_with (first | (go_at_call 12; refine (w8mb m x _ hS hm h0 h1 hx hz hy).mono ?_; rintro e w1 ⟨rfl, hb1⟩) | (go_at_call 13; refine (rw8m m x _ hm h0 h1 hx).mono ?_; rintro e w2 ⟨rfl, hb2⟩))
  go_ret
  exact ⟨rfl, hb1.trans (hb2.mono hb1.size)⟩

theorem hw8mc (m x : Int) (w : World) (hS : Sizes w) (hm : 0 ≤ m) (h0 : 0 ≤ x) (h1 : x ≤ 18446744073709551615) (hx : 8 ≤ m) (hz : 32 ≤ x) (hy : x < 256) :
    Calls Tryd.prog 4 #[.int .u8 m, .int .u64 x] w fun e w' => e = .returned (.bool true) ∧ Below w.heap.size w w' := by
  go_enter Tryd.func4, Tryd.ntmps4
  go_wp2_with (first | (go_at_call 12; refine (w8mc m x _ hS hm h0 h1 hx hz hy).mono ?_; rintro e w1 ⟨rfl, hb1⟩) | (go_at_call 13; refine (rw8m m x _ hm h0 h1 hx).mono ?_; rintro e w2 ⟨rfl, hb2⟩))
  go_ret
  exact ⟨rfl, hb1.trans (hb2.mono hb1.size)⟩

theorem hw8md (m x : Int) (w : World) (hS : Sizes w) (hm : 0 ≤ m) (h0 : 0 ≤ x) (h1 : x ≤ 18446744073709551615) (hx : 8 ≤ m) (hz : 256 ≤ x) :
    Calls Tryd.prog 4 #[.int .u8 m, .int .u64 x] w fun e w' => e = .returned (.bool true) ∧ Below w.heap.size w w' := by
  go_enter Tryd.func4, Tryd.ntmps4
  go_wp2_with (first | (go_at_call 12; refine (w8md m x _ hS hm h0 h1 hx hz).mono ?_; rintro e w1 ⟨rfl, hb1⟩) | (go_at_call 13; refine (rw8m m x _ hm h0 h1 hx).mono ?_; rintro e w2 ⟨rfl, hb2⟩))
  go_ret
  exact ⟨rfl, hb1.trans (hb2.mono hb1.size)⟩

theorem hwWalk (m x : Int) (w : World) (hS : Sizes w) (hm : 0 ≤ m) (_ : m ≤ 255) (h0 : 0 ≤ x) (h1 : x ≤ 18446744073709551615) :
    Calls Tryd.prog 4 #[.int .u8 m, .int .u64 x] w fun e w' => e = .returned (.bool true) ∧ Below w.heap.size w w' := by
  rcases Int.lt_or_le m 7 with h7 | h7
  · rcases Int.lt_or_le x 24 with a | a
    · exact hw0 m x w hS hm h0 h1 (by omega) a
    rcases Int.lt_or_le x 256 with b | b
    · rcases Int.lt_or_le x 32 with c | c
      · exact hw1a m x w hS hm h0 h1 (by omega) a b (by omega)
      · exact hw1b m x w hS hm h0 h1 (by omega) a b c
    rcases Int.lt_or_le x 65536 with c | c
    · exact hw2 m x w hS hm h0 h1 (by omega) b c
    rcases Int.lt_or_le x 4294967296 with d | d
    · exact hw4 m x w hS hm h0 h1 (by omega) c d
    · exact hw8 m x w hS hm h0 h1 (by omega) d
  by_cases h8 : m = 7
  · subst h8
    rcases Int.lt_or_le x 24 with a | a
    · exact hw70 x w hS h0 h1 a
    rcases Int.lt_or_le x 32 with b | b
    · exact hw7a x w hS h0 h1 a b
    rcases Int.lt_or_le x 256 with c | c
    · exact hw71 x w hS h0 h1 b c
    · exact hw7b x w hS h0 h1 c
  · rcases Int.lt_or_le x 24 with a | a
    · exact hw8ma m x w hS hm h0 h1 (by omega) a
    rcases Int.lt_or_le x 32 with b | b
    · exact hw8mb m x w hS hm h0 h1 (by omega) a (by omega)
    rcases Int.lt_or_le x 256 with c | c
    · exact hw8mc m x w hS hm h0 h1 (by omega) b c
    · exact hw8md m x w hS hm h0 h1 (by omega) c
end Go.Proofs.YtbnckhlfmjoikaaDoor
