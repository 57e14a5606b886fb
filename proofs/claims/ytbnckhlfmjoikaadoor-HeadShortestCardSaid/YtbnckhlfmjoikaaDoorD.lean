import Derived.Test.YtbnckhlfmjoikaaDoorA
import Derived.Test.YtbnckhlfmjoikaaDoorC
import Derived.Handy
import Derived.BigQuiet
namespace Go.Proofs.YtbnckhlfmjoikaaDoor
open Go.RowKit
set_option maxRecDepth 100000
set_option linter.unusedVariables false

theorem bitLen_pos (x : Nat) (h : 0 < x) (hx : x < 2 ^ 64) : 0 < Lib.bitLen x := by
  rw [Lib.bitLen_half x (by omega) hx]; omega

theorem bitLen_gt (x k : Nat) (hx : x < 2 ^ 64) (h : 2 ^ k ≤ x) : k < Lib.bitLen x := by
  rw [Lib.bitLen_shift k x h hx]
  have h1 : 0 < x / 2 ^ k := Nat.div_pos h (Nat.two_pow_pos k)
  have h2 : x / 2 ^ k < 2 ^ 64 := Nat.lt_of_le_of_lt (Nat.div_le_self _ _) hx
  have := bitLen_pos _ h1 h2
  omega

theorem len_le (x : Int) (h0 : 0 ≤ x) (k : Nat) (hk : k ≤ 64) (h : x < 2 ^ k) : Lib.bitLen x.toNat ≤ k := by
  obtain ⟨n, rfl⟩ := Int.eq_ofNat_of_zero_le h0
  exact Lib.bitLen_le n k hk (by exact_mod_cast h)

theorem len_gt (x : Int) (h0 : 0 ≤ x) (h1 : x ≤ 18446744073709551615) (k : Nat) (h : 2 ^ k ≤ x) : k < Lib.bitLen x.toNat := by
  obtain ⟨n, rfl⟩ := Int.eq_ofNat_of_zero_le h0
  refine bitLen_gt n k (by omega) (by exact_mod_cast h)

/-- The table of sizes, as it lies. -/
structure Sizes (w : World) : Prop where
  c0 : w.cell? ⟨0, 0, none⟩ = some (.int .i64 1)
  c1 : w.cell? ⟨0, 1, none⟩ = some (.int .i64 2)
  c2 : w.cell? ⟨0, 2, none⟩ = some (.int .i64 4)
  c3 : w.cell? ⟨0, 3, none⟩ = some (.int .i64 8)
  c4 : w.cell? ⟨0, 4, none⟩ = some (.int .i64 9)
  c5 : w.cell? ⟨0, 5, none⟩ = some (.int .i64 9)
  c6 : w.cell? ⟨0, 6, none⟩ = some (.int .i64 9)
  c7 : w.cell? ⟨0, 7, none⟩ = some (.int .i64 0)

theorem Sizes.pos {w : World} (h : Sizes w) : 0 < w.heap.size := World.block_lt_of_cell? w ⟨0, 0, none⟩ h.c0

theorem Sizes.below {w w1 : World} (h : Sizes w) (hb : Below w.heap.size w w1) : Sizes w1 := by
  have hp := h.pos
  constructor <;> (rw [hb.cell (by exact hp)]) <;> first | exact h.c0 | exact h.c1 | exact h.c2 | exact h.c3 | exact h.c4 | exact h.c5 | exact h.c6 | exact h.c7

theorem float16 (x : Int) (w : World) (hS : Sizes w) (h0 : 0 ≤ x) (h1 : x ≤ 18446744073709551615) (h2 : x < 65536) :
    Calls Tryd.prog 10 #[.int .i64 16, .int .u64 x] w fun e w' => e = .returned (.tuple #[.string (strOfNums (249 :: beS 2 x)), .bool true]) ∧ Below w.heap.size w w' := by
  obtain ⟨c0, c1, c2, c3, _, _, _, _⟩ := hS
  have hl := len_le x h0 16 (by decide) h2
  go_enter Tryd.func10, Tryd.ntmps10
  go_wp2
  refine wp_loop_rounds 5 ?_
  repeat any_goals (rw [rounds_succ]; go_wp2_with (first | (go_at_call 21; refine (len64_any x _ h0 h1).mono ?_; rintro e w' ⟨rfl, rfl⟩) | (go_at_call 22; refine (write_any 7 25 x 2 _ (by omega) (by omega) (by omega) (by omega) h0 h1 (by omega)).mono ?_; rintro e w' ⟨rfl, hb⟩)))
  go_ret2
  exact ⟨rfl, hb⟩

theorem float16_no (x : Int) (w : World) (hS : Sizes w) (h0 : 0 ≤ x) (h1 : x ≤ 18446744073709551615) (h2 : 65536 ≤ x) :
    Calls Tryd.prog 10 #[.int .i64 16, .int .u64 x] w fun e w' => e = .returned (.tuple #[.string ⟨#[]⟩, .bool false]) ∧ Below w.heap.size w w' := by
  obtain ⟨c0, c1, c2, c3, _, _, _, _⟩ := hS
  have hl := len_gt x h0 h1 16 h2
  go_enter Tryd.func10, Tryd.ntmps10
  go_wp2
  refine wp_loop_rounds 5 ?_
  repeat any_goals (rw [rounds_succ]; go_wp2_with (first | (go_at_call 21; refine (len64_any x _ h0 h1).mono ?_; rintro e w' ⟨rfl, rfl⟩)))
  go_ret2
  exact ⟨rfl, Below.refl _ _⟩

theorem float32 (x : Int) (w : World) (hS : Sizes w) (h0 : 0 ≤ x) (h1 : x ≤ 18446744073709551615) (h2 : x < 4294967296) :
    Calls Tryd.prog 10 #[.int .i64 32, .int .u64 x] w fun e w' => e = .returned (.tuple #[.string (strOfNums (250 :: beS 4 x)), .bool true]) ∧ Below w.heap.size w w' := by
  obtain ⟨c0, c1, c2, c3, _, _, _, _⟩ := hS
  have hl := len_le x h0 32 (by decide) h2
  go_enter Tryd.func10, Tryd.ntmps10
  go_wp2
  refine wp_loop_rounds 5 ?_
  repeat any_goals (rw [rounds_succ]; go_wp2_with (first | (go_at_call 21; refine (len64_any x _ h0 h1).mono ?_; rintro e w' ⟨rfl, rfl⟩) | (go_at_call 22; refine (write_any 7 26 x 4 _ (by omega) (by omega) (by omega) (by omega) h0 h1 (by omega)).mono ?_; rintro e w' ⟨rfl, hb⟩)))
  go_ret2
  exact ⟨rfl, hb⟩

theorem float32_no (x : Int) (w : World) (hS : Sizes w) (h0 : 0 ≤ x) (h1 : x ≤ 18446744073709551615) (h2 : 4294967296 ≤ x) :
    Calls Tryd.prog 10 #[.int .i64 32, .int .u64 x] w fun e w' => e = .returned (.tuple #[.string ⟨#[]⟩, .bool false]) ∧ Below w.heap.size w w' := by
  obtain ⟨c0, c1, c2, c3, _, _, _, _⟩ := hS
  have hl := len_gt x h0 h1 32 h2
  go_enter Tryd.func10, Tryd.ntmps10
  go_wp2
  refine wp_loop_rounds 5 ?_
  repeat any_goals (rw [rounds_succ]; go_wp2_with (first | (go_at_call 21; refine (len64_any x _ h0 h1).mono ?_; rintro e w' ⟨rfl, rfl⟩)))
  go_ret2
  exact ⟨rfl, Below.refl _ _⟩

theorem float64 (x : Int) (w : World) (hS : Sizes w) (h0 : 0 ≤ x) (h1 : x ≤ 18446744073709551615) :
    Calls Tryd.prog 10 #[.int .i64 64, .int .u64 x] w fun e w' => e = .returned (.tuple #[.string (strOfNums (251 :: beS 8 x)), .bool true]) ∧ Below w.heap.size w w' := by
  obtain ⟨c0, c1, c2, c3, _, _, _, _⟩ := hS
  have hl := len_le x h0 64 (by decide) (by omega)
  go_enter Tryd.func10, Tryd.ntmps10
  go_wp2
  refine wp_loop_rounds 5 ?_
  repeat any_goals (rw [rounds_succ]; go_wp2_with (first | (go_at_call 21; refine (len64_any x _ h0 h1).mono ?_; rintro e w' ⟨rfl, rfl⟩) | (go_at_call 22; refine (write_any 7 27 x 8 _ (by omega) (by omega) (by omega) (by omega) h0 h1 (by omega)).mono ?_; rintro e w' ⟨rfl, hb⟩)))
  go_ret2
  exact ⟨rfl, hb⟩

theorem float_no (x : Int) (n : Int) (w : World) (hS : Sizes w) (h0 : 0 ≤ x) (h1 : x ≤ 18446744073709551615) (a : n ≠ 16) (b : n ≠ 32) (c : n ≠ 64) :
    Calls Tryd.prog 10 #[.int .i64 n, .int .u64 x] w fun e w' => e = .returned (.tuple #[.string ⟨#[]⟩, .bool false]) ∧ Below w.heap.size w w' := by
  obtain ⟨c0, c1, c2, c3, _, _, _, _⟩ := hS
  have a1 : ((16 : Int) == n) = false := by simp; omega
  have b1 : ((32 : Int) == n) = false := by simp; omega
  have c1' : ((64 : Int) == n) = false := by simp; omega
  go_enter Tryd.func10, Tryd.ntmps10
  go_wp2
  refine wp_loop_rounds 5 ?_
  repeat any_goals (rw [rounds_succ]; go_wp2_with (first | (go_at_call 21; refine (len64_any x _ h0 h1).mono ?_; rintro e w' ⟨rfl, rfl⟩)))
  go_ret2
  exact ⟨rfl, Below.refl _ _⟩

end Go.Proofs.YtbnckhlfmjoikaaDoor
