/- The walks of head.Write and of the reference's Write, and of the law HeadWrites: it returns true for every major type and argument, the table of sizes laid as it is. -/
import Derived.Test.YtbnckhlfmjoikaaDoorE
namespace Go.Proofs.YtbnckhlfmjoikaaDoor
open Go.RowKit
set_option maxRecDepth 100000
set_option linter.unusedVariables false

theorem quiet_add_same {P : Program} {f : FuncId} {args : Array Value} {w : World} {a n : Nat} {v : Value}
    (h : Calls P f args (w.drewN (a + n)) fun e w' => e = .returned v ∧ w' = w.drewN (a + n)) :
    Calls P f args (w.drewN (a + n)) fun e w'' => e = .returned v ∧ ∃ m, w'' = w.drewN (a + m) :=
  h.mono fun _ _ ⟨he, hm⟩ => ⟨he, n, hm⟩
theorem pw_drawn (w : World) (n : Nat) : Below w.heap.size w (w.drewN n) := ⟨rfl, rfl, rfl, Nat.le_refl _, fun _ _ => rfl⟩
theorem len64_same (x : Int) (w : World) (h0 : 0 ≤ x) (h1 : x ≤ 18446744073709551615) :
    Calls Tryd.prog 21 #[.int .u64 x] w fun e w' => e = .returned (.int .i64 (Lib.bitLen x.toNat)) ∧ w' = w := (len64_any x w h0 h1).mono fun _ _ h => ⟨h.1, h.2.symm⟩

theorem rw0 (m x : Int) (w : World) (hm : 0 ≤ m) (h0 : 0 ≤ x) (h1 : x ≤ 18446744073709551615) (h7 : m ≤ 6) (hx : x < 24) :
    Calls Tryd.prog 13 #[.int .u8 m, .int .u64 x] w fun e w' => e = .returned (.tuple #[.string (strOfNums [32 * m + x]), .bool true]) ∧ Below w.heap.size w w' := by
  have hs1 := size_one
  have hs2 := beS_size
  have ha := join_one
  have e7 : (m == 7) = false := by simp; omega
  go_enter Tryd.func13, Tryd.ntmps13
  go_wp2_with (first | (go_at_call 23; refine (first_any m x _ hm (by omega) h0 (by omega)).mono ?_; rintro e w1 ⟨rfl, hb1⟩))
  all_goals (go_ret2; exact ⟨rfl, hb1⟩)

theorem w0 (m x : Int) (w : World) (hS : Sizes w) (hm : 0 ≤ m) (h0 : 0 ≤ x) (h1 : x ≤ 18446744073709551615) (h7 : m ≤ 6) (hx : x < 24) :
    Calls Tryd.prog 12 #[.int .u8 m, .int .u64 x] w fun e w' => e = .returned (.tuple #[.string (strOfNums [32 * m + x]), .bool true]) ∧ Below w.heap.size w w' := by
  obtain ⟨c0, c1, c2, c3, _, _, _, _⟩ := hS
  have d0 : decide (x < 24) = true := by simp; omega
  have d1 : decide (31 < x) = false := by simp; omega
  have d2 : decide (x < 256) = true := by simp; omega
  have d3 : decide (7 < m) = false := by simp; omega
  have e7 : (m == 7) = false := by simp; omega
  go_enter Tryd.func12, Tryd.ntmps12
  go_wp2_with (first | (go_at_call 22; refine (write_any m x 0 0 _ hm (by omega) h0 (by omega) (by omega) (by omega) (by omega)).mono ?_; rintro e w1 ⟨rfl, hb1⟩))
  all_goals (go_ret2; exact ⟨rfl, hb1⟩)

theorem rw1 (m x : Int) (w : World) (hm : 0 ≤ m) (h0 : 0 ≤ x) (h1 : x ≤ 18446744073709551615) (h7 : m ≤ 6) (hx : 24 ≤ x) (hy : x < 256) :
    Calls Tryd.prog 13 #[.int .u8 m, .int .u64 x] w fun e w' => e = .returned (.tuple #[.string (strOfNums ((32 * m + 24) :: beS 1 x)), .bool true]) ∧ Below w.heap.size w w' := by
  have hs1 := size_one
  have hs2 := beS_size
  have ha := join_one
  have e7 : (m == 7) = false := by simp; omega
  go_enter Tryd.func13, Tryd.ntmps13
  go_wp2_with (first | (go_at_call 23; refine (first_any m 24 _ hm (by omega) (by omega) (by omega)).mono ?_; rintro e w1 ⟨rfl, hb1⟩) | (go_at_call 24; refine (bytes_any x 1 _ h0 h1 (by omega)).mono ?_; rintro e w2 ⟨rfl, hb2⟩))
  all_goals (go_ret2; exact ⟨rfl, hb1.trans (hb2.mono hb1.size)⟩)

theorem w1a (m x : Int) (w : World) (hS : Sizes w) (hm : 0 ≤ m) (h0 : 0 ≤ x) (h1 : x ≤ 18446744073709551615) (h7 : m ≤ 6) (hx : 24 ≤ x) (hy : x < 256) (hz : x ≤ 31) :
    Calls Tryd.prog 12 #[.int .u8 m, .int .u64 x] w fun e w' => e = .returned (.tuple #[.string (strOfNums ((32 * m + 24) :: beS 1 x)), .bool true]) ∧ Below w.heap.size w w' := by
  obtain ⟨c0, c1, c2, c3, _, _, _, _⟩ := hS
  have hl := len_le x h0 8 (by decide) (by omega)
  have d0 : decide (x < 24) = false := by simp; omega
  have d1 : decide (31 < x) = false := by simp; omega
  have d2 : decide (x < 256) = true := by simp; omega
  have d3 : decide (7 < m) = false := by simp; omega
  have e7 : (m == 7) = false := by simp; omega
  go_enter Tryd.func12, Tryd.ntmps12
  go_wp2
  refine wp_loop_rounds 5 ?_
  repeat any_goals (rw [rounds_succ]; go_wp2; go_quiet ((go_at_call 21; first | exact Calls.quiet_of_same (len64_same x _ h0 h1) | exact quiet_add_same (len64_same x _ h0 h1))); go_wp2_with (first | (go_at_call 22; refine (write_any m 24 x 1 _ hm (by omega) (by omega) (by omega) h0 h1 (by omega)).mono ?_; rintro e w1 ⟨rfl, hb1⟩)))
  go_ret2
  exact ⟨rfl, (pw_drawn _ _).trans (hb1.mono (by simp))⟩

theorem w1b (m x : Int) (w : World) (hS : Sizes w) (hm : 0 ≤ m) (h0 : 0 ≤ x) (h1 : x ≤ 18446744073709551615) (h7 : m ≤ 6) (hx : 24 ≤ x) (hy : x < 256) (hz : 32 ≤ x) :
    Calls Tryd.prog 12 #[.int .u8 m, .int .u64 x] w fun e w' => e = .returned (.tuple #[.string (strOfNums ((32 * m + 24) :: beS 1 x)), .bool true]) ∧ Below w.heap.size w w' := by
  obtain ⟨c0, c1, c2, c3, _, _, _, _⟩ := hS
  have hl := len_le x h0 8 (by decide) (by omega)
  have d0 : decide (x < 24) = false := by simp; omega
  have d1 : decide (31 < x) = true := by simp; omega
  have d2 : decide (x < 256) = true := by simp; omega
  have d3 : decide (7 < m) = false := by simp; omega
  have e7 : (m == 7) = false := by simp; omega
  go_enter Tryd.func12, Tryd.ntmps12
  go_wp2
  refine wp_loop_rounds 5 ?_
  repeat any_goals (rw [rounds_succ]; go_wp2; go_quiet ((go_at_call 21; first | exact Calls.quiet_of_same (len64_same x _ h0 h1) | exact quiet_add_same (len64_same x _ h0 h1))); go_wp2_with (first | (go_at_call 22; refine (write_any m 24 x 1 _ hm (by omega) (by omega) (by omega) h0 h1 (by omega)).mono ?_; rintro e w1 ⟨rfl, hb1⟩)))
  go_ret2
  exact ⟨rfl, (pw_drawn _ _).trans (hb1.mono (by simp))⟩

theorem rw2 (m x : Int) (w : World) (hm : 0 ≤ m) (h0 : 0 ≤ x) (h1 : x ≤ 18446744073709551615) (h7 : m ≤ 6) (hx : 256 ≤ x) (hy : x < 65536) :
    Calls Tryd.prog 13 #[.int .u8 m, .int .u64 x] w fun e w' => e = .returned (.tuple #[.string (strOfNums ((32 * m + 25) :: beS 2 x)), .bool true]) ∧ Below w.heap.size w w' := by
  have hs1 := size_one
  have hs2 := beS_size
  have ha := join_one
  have e7 : (m == 7) = false := by simp; omega
  go_enter Tryd.func13, Tryd.ntmps13
  go_wp2_with (first | (go_at_call 23; refine (first_any m 25 _ hm (by omega) (by omega) (by omega)).mono ?_; rintro e w1 ⟨rfl, hb1⟩) | (go_at_call 24; refine (bytes_any x 2 _ h0 h1 (by omega)).mono ?_; rintro e w2 ⟨rfl, hb2⟩))
  all_goals (go_ret2; exact ⟨rfl, hb1.trans (hb2.mono hb1.size)⟩)

theorem w2 (m x : Int) (w : World) (hS : Sizes w) (hm : 0 ≤ m) (h0 : 0 ≤ x) (h1 : x ≤ 18446744073709551615) (h7 : m ≤ 6) (hx : 256 ≤ x) (hy : x < 65536) :
    Calls Tryd.prog 12 #[.int .u8 m, .int .u64 x] w fun e w' => e = .returned (.tuple #[.string (strOfNums ((32 * m + 25) :: beS 2 x)), .bool true]) ∧ Below w.heap.size w w' := by
  obtain ⟨c0, c1, c2, c3, _, _, _, _⟩ := hS
  have hl := len_le x h0 16 (by decide) (by omega)
  have hg8 := len_gt x h0 h1 8 (by omega)
  have d0 : decide (x < 24) = false := by simp; omega
  have d1 : decide (31 < x) = true := by simp; omega
  have d2 : decide (x < 256) = false := by simp; omega
  have d3 : decide (7 < m) = false := by simp; omega
  have e7 : (m == 7) = false := by simp; omega
  go_enter Tryd.func12, Tryd.ntmps12
  go_wp2
  refine wp_loop_rounds 5 ?_
  repeat any_goals (rw [rounds_succ]; go_wp2; go_quiet ((go_at_call 21; first | exact Calls.quiet_of_same (len64_same x _ h0 h1) | exact quiet_add_same (len64_same x _ h0 h1))); go_wp2_with (first | (go_at_call 22; refine (write_any m 25 x 2 _ hm (by omega) (by omega) (by omega) h0 h1 (by omega)).mono ?_; rintro e w1 ⟨rfl, hb1⟩)))
  go_ret2
  exact ⟨rfl, (pw_drawn _ _).trans (hb1.mono (by simp))⟩

theorem rw4 (m x : Int) (w : World) (hm : 0 ≤ m) (h0 : 0 ≤ x) (h1 : x ≤ 18446744073709551615) (h7 : m ≤ 6) (hx : 65536 ≤ x) (hy : x < 4294967296) :
    Calls Tryd.prog 13 #[.int .u8 m, .int .u64 x] w fun e w' => e = .returned (.tuple #[.string (strOfNums ((32 * m + 26) :: beS 4 x)), .bool true]) ∧ Below w.heap.size w w' := by
  have hs1 := size_one
  have hs2 := beS_size
  have ha := join_one
  have e7 : (m == 7) = false := by simp; omega
  go_enter Tryd.func13, Tryd.ntmps13
  go_wp2_with (first | (go_at_call 23; refine (first_any m 26 _ hm (by omega) (by omega) (by omega)).mono ?_; rintro e w1 ⟨rfl, hb1⟩) | (go_at_call 24; refine (bytes_any x 4 _ h0 h1 (by omega)).mono ?_; rintro e w2 ⟨rfl, hb2⟩))
  all_goals (go_ret2; exact ⟨rfl, hb1.trans (hb2.mono hb1.size)⟩)

theorem w4 (m x : Int) (w : World) (hS : Sizes w) (hm : 0 ≤ m) (h0 : 0 ≤ x) (h1 : x ≤ 18446744073709551615) (h7 : m ≤ 6) (hx : 65536 ≤ x) (hy : x < 4294967296) :
    Calls Tryd.prog 12 #[.int .u8 m, .int .u64 x] w fun e w' => e = .returned (.tuple #[.string (strOfNums ((32 * m + 26) :: beS 4 x)), .bool true]) ∧ Below w.heap.size w w' := by
  obtain ⟨c0, c1, c2, c3, _, _, _, _⟩ := hS
  have hl := len_le x h0 32 (by decide) (by omega)
  have hg8 := len_gt x h0 h1 8 (by omega)
  have hg16 := len_gt x h0 h1 16 (by omega)
  have d0 : decide (x < 24) = false := by simp; omega
  have d1 : decide (31 < x) = true := by simp; omega
  have d2 : decide (x < 256) = false := by simp; omega
  have d3 : decide (7 < m) = false := by simp; omega
  have e7 : (m == 7) = false := by simp; omega
  go_enter Tryd.func12, Tryd.ntmps12
  go_wp2
  refine wp_loop_rounds 5 ?_
  repeat any_goals (rw [rounds_succ]; go_wp2; go_quiet ((go_at_call 21; first | exact Calls.quiet_of_same (len64_same x _ h0 h1) | exact quiet_add_same (len64_same x _ h0 h1))); go_wp2_with (first | (go_at_call 22; refine (write_any m 26 x 4 _ hm (by omega) (by omega) (by omega) h0 h1 (by omega)).mono ?_; rintro e w1 ⟨rfl, hb1⟩)))
  go_ret2
  exact ⟨rfl, (pw_drawn _ _).trans (hb1.mono (by simp))⟩

theorem rw8 (m x : Int) (w : World) (hm : 0 ≤ m) (h0 : 0 ≤ x) (h1 : x ≤ 18446744073709551615) (h7 : m ≤ 6) (hx : 4294967296 ≤ x) :
    Calls Tryd.prog 13 #[.int .u8 m, .int .u64 x] w fun e w' => e = .returned (.tuple #[.string (strOfNums ((32 * m + 27) :: beS 8 x)), .bool true]) ∧ Below w.heap.size w w' := by
  have hs1 := size_one
  have hs2 := beS_size
  have ha := join_one
  have e7 : (m == 7) = false := by simp; omega
  go_enter Tryd.func13, Tryd.ntmps13
  go_wp2_with (first | (go_at_call 23; refine (first_any m 27 _ hm (by omega) (by omega) (by omega)).mono ?_; rintro e w1 ⟨rfl, hb1⟩) | (go_at_call 24; refine (bytes_any x 8 _ h0 h1 (by omega)).mono ?_; rintro e w2 ⟨rfl, hb2⟩))
  all_goals (go_ret2; exact ⟨rfl, hb1.trans (hb2.mono hb1.size)⟩)

theorem w8 (m x : Int) (w : World) (hS : Sizes w) (hm : 0 ≤ m) (h0 : 0 ≤ x) (h1 : x ≤ 18446744073709551615) (h7 : m ≤ 6) (hx : 4294967296 ≤ x) :
    Calls Tryd.prog 12 #[.int .u8 m, .int .u64 x] w fun e w' => e = .returned (.tuple #[.string (strOfNums ((32 * m + 27) :: beS 8 x)), .bool true]) ∧ Below w.heap.size w w' := by
  obtain ⟨c0, c1, c2, c3, _, _, _, _⟩ := hS
  have hl := len_le x h0 64 (by decide) (by omega)
  have hg8 := len_gt x h0 h1 8 (by omega)
  have hg16 := len_gt x h0 h1 16 (by omega)
  have hg32 := len_gt x h0 h1 32 (by omega)
  have d0 : decide (x < 24) = false := by simp; omega
  have d1 : decide (31 < x) = true := by simp; omega
  have d2 : decide (x < 256) = false := by simp; omega
  have d3 : decide (7 < m) = false := by simp; omega
  have e7 : (m == 7) = false := by simp; omega
  go_enter Tryd.func12, Tryd.ntmps12
  go_wp2
  refine wp_loop_rounds 5 ?_
  repeat any_goals (rw [rounds_succ]; go_wp2; go_quiet ((go_at_call 21; first | exact Calls.quiet_of_same (len64_same x _ h0 h1) | exact quiet_add_same (len64_same x _ h0 h1))); go_wp2_with (first | (go_at_call 22; refine (write_any m 27 x 8 _ hm (by omega) (by omega) (by omega) h0 h1 (by omega)).mono ?_; rintro e w1 ⟨rfl, hb1⟩)))
  go_ret2
  exact ⟨rfl, (pw_drawn _ _).trans (hb1.mono (by simp))⟩

theorem rw70 (x : Int) (w : World) (h0 : 0 ≤ x) (h1 : x ≤ 18446744073709551615) (hx : x < 24) :
    Calls Tryd.prog 13 #[.int .u8 7, .int .u64 x] w fun e w' => e = .returned (.tuple #[.string (strOfNums [224 + x]), .bool true]) ∧ Below w.heap.size w w' := by
  have hs1 := size_one
  have hs2 := beS_size
  have ha := join_one
  go_enter Tryd.func13, Tryd.ntmps13
  go_wp2_with (first | (go_at_call 23; refine (first_any 7 x _ (by omega) (by omega) h0 (by omega)).mono ?_; rintro e w1 ⟨rfl, hb1⟩))
  all_goals (go_ret2; exact ⟨rfl, hb1⟩)

theorem w70 (x : Int) (w : World) (hS : Sizes w) (h0 : 0 ≤ x) (h1 : x ≤ 18446744073709551615) (hx : x < 24) :
    Calls Tryd.prog 12 #[.int .u8 7, .int .u64 x] w fun e w' => e = .returned (.tuple #[.string (strOfNums [224 + x]), .bool true]) ∧ Below w.heap.size w w' := by
  obtain ⟨c0, c1, c2, c3, _, _, _, _⟩ := hS
  have d0 : decide (x < 24) = true := by simp; omega
  have d1 : decide (31 < x) = false := by simp; omega
  have d2 : decide (x < 256) = true := by simp; omega
  go_enter Tryd.func12, Tryd.ntmps12
  go_wp2_with (first | (go_at_call 22; refine (write_any 7 x 0 0 _ (by omega) (by omega) h0 (by omega) (by omega) (by omega) (by omega)).mono ?_; rintro e w1 ⟨rfl, hb1⟩))
  all_goals (go_ret2; exact ⟨rfl, hb1⟩)

theorem rw71 (x : Int) (w : World) (h0 : 0 ≤ x) (h1 : x ≤ 18446744073709551615) (hx : 32 ≤ x) (hy : x < 256) :
    Calls Tryd.prog 13 #[.int .u8 7, .int .u64 x] w fun e w' => e = .returned (.tuple #[.string (strOfNums (248 :: beS 1 x)), .bool true]) ∧ Below w.heap.size w w' := by
  have hs1 := size_one
  have hs2 := beS_size
  have ha := join_one
  go_enter Tryd.func13, Tryd.ntmps13
  go_wp2_with (first | (go_at_call 23; refine (first_any 7 24 _ (by omega) (by omega) (by omega) (by omega)).mono ?_; rintro e w1 ⟨rfl, hb1⟩) | (go_at_call 24; refine (bytes_any x 1 _ h0 h1 (by omega)).mono ?_; rintro e w2 ⟨rfl, hb2⟩))
  all_goals (go_ret2; exact ⟨rfl, hb1.trans (hb2.mono hb1.size)⟩)

theorem w71 (x : Int) (w : World) (hS : Sizes w) (h0 : 0 ≤ x) (h1 : x ≤ 18446744073709551615) (hx : 32 ≤ x) (hy : x < 256) :
    Calls Tryd.prog 12 #[.int .u8 7, .int .u64 x] w fun e w' => e = .returned (.tuple #[.string (strOfNums (248 :: beS 1 x)), .bool true]) ∧ Below w.heap.size w w' := by
  obtain ⟨c0, c1, c2, c3, _, _, _, _⟩ := hS
  have hl := len_le x h0 8 (by decide) (by omega)
  have d0 : decide (x < 24) = false := by simp; omega
  have d1 : decide (31 < x) = true := by simp; omega
  have d2 : decide (x < 256) = true := by simp; omega
  go_enter Tryd.func12, Tryd.ntmps12
  go_wp2
  refine wp_loop_rounds 5 ?_
  repeat any_goals (rw [rounds_succ]; go_wp2; go_quiet ((go_at_call 21; first | exact Calls.quiet_of_same (len64_same x _ h0 h1) | exact quiet_add_same (len64_same x _ h0 h1))); go_wp2_with (first | (go_at_call 22; refine (write_any 7 24 x 1 _ (by omega) (by omega) (by omega) (by omega) h0 h1 (by omega)).mono ?_; rintro e w1 ⟨rfl, hb1⟩)))
  go_ret2
  exact ⟨rfl, (pw_drawn _ _).trans (hb1.mono (by simp))⟩

theorem rw7a (x : Int) (w : World) (h0 : 0 ≤ x) (h1 : x ≤ 18446744073709551615) (hx : 24 ≤ x) (hy : x < 32) :
    Calls Tryd.prog 13 #[.int .u8 7, .int .u64 x] w fun e w' => e = .returned (.tuple #[.string ⟨#[]⟩, .bool false]) ∧ Below w.heap.size w w' := by
  have hs1 := size_one
  have hs2 := beS_size
  have ha := join_one
  go_enter Tryd.func13, Tryd.ntmps13
  go_wp2
  all_goals (go_ret2; exact ⟨rfl, Below.refl _ _⟩)

theorem w7a (x : Int) (w : World) (hS : Sizes w) (h0 : 0 ≤ x) (h1 : x ≤ 18446744073709551615) (hx : 24 ≤ x) (hy : x < 32) :
    Calls Tryd.prog 12 #[.int .u8 7, .int .u64 x] w fun e w' => e = .returned (.tuple #[.string ⟨#[]⟩, .bool false]) ∧ Below w.heap.size w w' := by
  obtain ⟨c0, c1, c2, c3, _, _, _, _⟩ := hS
  have d0 : decide (x < 24) = false := by simp; omega
  have d1 : decide (31 < x) = false := by simp; omega
  have d2 : decide (x < 256) = true := by simp; omega
  go_enter Tryd.func12, Tryd.ntmps12
  go_wp2
  all_goals (go_ret2; exact ⟨rfl, Below.refl _ _⟩)

theorem rw7b (x : Int) (w : World) (h0 : 0 ≤ x) (h1 : x ≤ 18446744073709551615) (hx : 256 ≤ x) :
    Calls Tryd.prog 13 #[.int .u8 7, .int .u64 x] w fun e w' => e = .returned (.tuple #[.string ⟨#[]⟩, .bool false]) ∧ Below w.heap.size w w' := by
  have hs1 := size_one
  have hs2 := beS_size
  have ha := join_one
  go_enter Tryd.func13, Tryd.ntmps13
  go_wp2
  all_goals (go_ret2; exact ⟨rfl, Below.refl _ _⟩)

theorem w7b (x : Int) (w : World) (hS : Sizes w) (h0 : 0 ≤ x) (h1 : x ≤ 18446744073709551615) (hx : 256 ≤ x) :
    Calls Tryd.prog 12 #[.int .u8 7, .int .u64 x] w fun e w' => e = .returned (.tuple #[.string ⟨#[]⟩, .bool false]) ∧ Below w.heap.size w w' := by
  obtain ⟨c0, c1, c2, c3, _, _, _, _⟩ := hS
  have d0 : decide (x < 24) = false := by simp; omega
  have d1 : decide (31 < x) = true := by simp; omega
  have d2 : decide (x < 256) = false := by simp; omega
  go_enter Tryd.func12, Tryd.ntmps12
  go_wp2
  all_goals (go_ret2; exact ⟨rfl, Below.refl _ _⟩)

theorem rw8m (m x : Int) (w : World) (hm : 0 ≤ m) (h0 : 0 ≤ x) (h1 : x ≤ 18446744073709551615) (hx : 8 ≤ m) :
    Calls Tryd.prog 13 #[.int .u8 m, .int .u64 x] w fun e w' => e = .returned (.tuple #[.string ⟨#[]⟩, .bool false]) ∧ Below w.heap.size w w' := by
  have hs1 := size_one
  have hs2 := beS_size
  have ha := join_one
  go_enter Tryd.func13, Tryd.ntmps13
  go_wp2
  all_goals (go_ret2; exact ⟨rfl, Below.refl _ _⟩)

theorem w8ma (m x : Int) (w : World) (hS : Sizes w) (hm : 0 ≤ m) (h0 : 0 ≤ x) (h1 : x ≤ 18446744073709551615) (hx : 8 ≤ m) (hz : x < 24) :
    Calls Tryd.prog 12 #[.int .u8 m, .int .u64 x] w fun e w' => e = .returned (.tuple #[.string ⟨#[]⟩, .bool false]) ∧ Below w.heap.size w w' := by
  obtain ⟨c0, c1, c2, c3, _, _, _, _⟩ := hS
  have d0 : decide (x < 24) = true := by simp; omega
  have d1 : decide (31 < x) = false := by simp; omega
  have d2 : decide (x < 256) = true := by simp; omega
  have d3 : decide (7 < m) = true := by simp; omega
  go_enter Tryd.func12, Tryd.ntmps12
  go_wp2
  all_goals (go_ret2; exact ⟨rfl, Below.refl _ _⟩)

theorem w8mb (m x : Int) (w : World) (hS : Sizes w) (hm : 0 ≤ m) (h0 : 0 ≤ x) (h1 : x ≤ 18446744073709551615) (hx : 8 ≤ m) (hz : 24 ≤ x) (hy : x ≤ 31) :
    Calls Tryd.prog 12 #[.int .u8 m, .int .u64 x] w fun e w' => e = .returned (.tuple #[.string ⟨#[]⟩, .bool false]) ∧ Below w.heap.size w w' := by
  obtain ⟨c0, c1, c2, c3, _, _, _, _⟩ := hS
  have d0 : decide (x < 24) = false := by simp; omega
  have d1 : decide (31 < x) = false := by simp; omega
  have d2 : decide (x < 256) = true := by simp; omega
  have d3 : decide (7 < m) = true := by simp; omega
  go_enter Tryd.func12, Tryd.ntmps12
  go_wp2
  all_goals (go_ret2; exact ⟨rfl, Below.refl _ _⟩)

theorem w8mc (m x : Int) (w : World) (hS : Sizes w) (hm : 0 ≤ m) (h0 : 0 ≤ x) (h1 : x ≤ 18446744073709551615) (hx : 8 ≤ m) (hz : 32 ≤ x) (hy : x < 256) :
    Calls Tryd.prog 12 #[.int .u8 m, .int .u64 x] w fun e w' => e = .returned (.tuple #[.string ⟨#[]⟩, .bool false]) ∧ Below w.heap.size w w' := by
  obtain ⟨c0, c1, c2, c3, _, _, _, _⟩ := hS
  have d0 : decide (x < 24) = false := by simp; omega
  have d1 : decide (31 < x) = true := by simp; omega
  have d2 : decide (x < 256) = true := by simp; omega
  have d3 : decide (7 < m) = true := by simp; omega
  go_enter Tryd.func12, Tryd.ntmps12
  go_wp2
  all_goals (go_ret2; exact ⟨rfl, Below.refl _ _⟩)

theorem w8md (m x : Int) (w : World) (hS : Sizes w) (hm : 0 ≤ m) (h0 : 0 ≤ x) (h1 : x ≤ 18446744073709551615) (hx : 8 ≤ m) (hz : 256 ≤ x) :
    Calls Tryd.prog 12 #[.int .u8 m, .int .u64 x] w fun e w' => e = .returned (.tuple #[.string ⟨#[]⟩, .bool false]) ∧ Below w.heap.size w w' := by
  obtain ⟨c0, c1, c2, c3, _, _, _, _⟩ := hS
  have d0 : decide (x < 24) = false := by simp; omega
  have d1 : decide (31 < x) = true := by simp; omega
  have d2 : decide (x < 256) = false := by simp; omega
  have d3 : decide (7 < m) = true := by simp; omega
  go_enter Tryd.func12, Tryd.ntmps12
  go_wp2
  all_goals (go_ret2; exact ⟨rfl, Below.refl _ _⟩)

end Go.Proofs.YtbnckhlfmjoikaaDoor
