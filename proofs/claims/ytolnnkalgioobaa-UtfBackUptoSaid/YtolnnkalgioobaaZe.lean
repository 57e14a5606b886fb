/- What the bytes of one step say by the bits: cruciblelaw09.decoded. -/
import Derived.Test.YtolnnkalgioobaaZd
namespace Go.Proofs.Ytolnnkalgioobaa
open Go.RowKit
set_option maxRecDepth 100000
set_option linter.unusedVariables false
set_option linter.unusedSimpArgs false
set_option linter.unnecessarySimpa false

set_option maxHeartbeats 4000000 in
theorem dc3_room (s : ByteArray) (c : Int) (w : World) (hz : s.size = 3) (hc : at1 s 0 = c) (h : c < 224 ∨ 240 ≤ c) :
    Calls Try.prog 20 #[.string s] w fun e w' => e = .returned (.tuple #[.int .i64 0, .bool false]) ∧ Below w.heap.size w w' := by
  have ic := fun W => idx_run s 0 (by omega) W
  have rc := at1_range s 0
  have pc := (at1_in s 0).2 (by omega)
  rw [hc] at ic rc pc
  rw [show ((0 : Nat) : Int) = 0 from rfl] at ic
  obtain ⟨_, rc1⟩ := rc
  clear hc
  rcases h with h | h
  all_goals
    go_enter Try.func20, Try.ntmps20
    go_wp2_with (go_quiet (fail))
    go_ret2
    exact ⟨rfl, bl3 _ _ _ _ _⟩
set_option maxHeartbeats 4000000 in
theorem dc3_c1 (s : ByteArray) (c x : Int) (w : World) (hz : s.size = 3) (hc : at1 s 0 = c) (hx : at1 s 1 = x) (h0 : 224 ≤ c) (h1 : c < 240) (h : x < 128 ∨ 192 ≤ x) :
    Calls Try.prog 20 #[.string s] w fun e w' => e = .returned (.tuple #[.int .i64 0, .bool false]) ∧ Below w.heap.size w w' := by
  have ic := fun W => idx_run s 0 (by omega) W
  have rc := at1_range s 0
  have pc := (at1_in s 0).2 (by omega)
  rw [hc] at ic rc pc
  rw [show ((0 : Nat) : Int) = 0 from rfl] at ic
  obtain ⟨_, rc1⟩ := rc
  have ix := fun W => idx_run s 1 (by omega) W
  have rx := at1_range s 1
  have px := (at1_in s 1).2 (by omega)
  rw [hx] at ix rx px
  rw [show ((1 : Nat) : Int) = 1 from rfl] at ix
  obtain ⟨_, rx1⟩ := rx
  clear hc hx
  rcases h with h | h
  all_goals
    go_enter Try.func20, Try.ntmps20
    go_wp2_with (go_quiet (fail))
    refine wp_loop_rounds 3 ?_
    repeat any_goals (rw [rounds_succ]; go_wp2)
    go_ret2
    exact ⟨rfl, bl3 _ _ _ _ _⟩
set_option maxHeartbeats 4000000 in
theorem dc3_c2 (s : ByteArray) (c x y : Int) (w : World) (hz : s.size = 3) (hc : at1 s 0 = c) (hx : at1 s 1 = x) (hy : at1 s 2 = y) (h0 : 224 ≤ c) (h1 : c < 240) (gax : 128 ≤ x) (gbx : x < 192) (h : y < 128 ∨ 192 ≤ y) :
    Calls Try.prog 20 #[.string s] w fun e w' => e = .returned (.tuple #[.int .i64 0, .bool false]) ∧ Below w.heap.size w w' := by
  have ic := fun W => idx_run s 0 (by omega) W
  have rc := at1_range s 0
  have pc := (at1_in s 0).2 (by omega)
  rw [hc] at ic rc pc
  rw [show ((0 : Nat) : Int) = 0 from rfl] at ic
  obtain ⟨_, rc1⟩ := rc
  have ix := fun W => idx_run s 1 (by omega) W
  have rx := at1_range s 1
  have px := (at1_in s 1).2 (by omega)
  rw [hx] at ix rx px
  rw [show ((1 : Nat) : Int) = 1 from rfl] at ix
  obtain ⟨_, rx1⟩ := rx
  have iy := fun W => idx_run s 2 (by omega) W
  have ry := at1_range s 2
  have py := (at1_in s 2).2 (by omega)
  rw [hy] at iy ry py
  rw [show ((2 : Nat) : Int) = 2 from rfl] at iy
  obtain ⟨_, ry1⟩ := ry
  clear hc hx hy
  rcases h with h | h
  all_goals
    go_enter Try.func20, Try.ntmps20
    go_wp2_with (go_quiet (fail))
    refine wp_loop_rounds 3 ?_
    repeat any_goals (rw [rounds_succ]; go_wp2)
    go_ret2
    exact ⟨rfl, bl3 _ _ _ _ _⟩
set_option maxHeartbeats 4000000 in
theorem dc3_fin (s : ByteArray) (c x y : Int) (w : World) (B : Bool) (hz : s.size = 3) (hc : at1 s 0 = c) (hx : at1 s 1 = x) (hy : at1 s 2 = y) (h0 : 224 ≤ c) (h1 : c < 240) (gax : 128 ≤ x) (gbx : x < 192) (gay : 128 ≤ y) (gby : y < 192) (hB : B = decide (2048 ≤ ((c - 224) * 64 + x - 128) * 64 + y - 128 ∧ ((c - 224) * 64 + x - 128) * 64 + y - 128 ≤ 1114111 ∧ (((c - 224) * 64 + x - 128) * 64 + y - 128 < 55296 ∨ 57343 < ((c - 224) * 64 + x - 128) * 64 + y - 128))) :
    Calls Try.prog 20 #[.string s] w fun e w' => e = .returned (.tuple #[.int .i64 (((c - 224) * 64 + x - 128) * 64 + y - 128), .bool B]) ∧ Below w.heap.size w w' := by
  have ic := fun W => idx_run s 0 (by omega) W
  have rc := at1_range s 0
  have pc := (at1_in s 0).2 (by omega)
  rw [hc] at ic rc pc
  rw [show ((0 : Nat) : Int) = 0 from rfl] at ic
  obtain ⟨_, rc1⟩ := rc
  have ix := fun W => idx_run s 1 (by omega) W
  have rx := at1_range s 1
  have px := (at1_in s 1).2 (by omega)
  rw [hx] at ix rx px
  rw [show ((1 : Nat) : Int) = 1 from rfl] at ix
  obtain ⟨_, rx1⟩ := rx
  have iy := fun W => idx_run s 2 (by omega) W
  have ry := at1_range s 2
  have py := (at1_in s 2).2 (by omega)
  rw [hy] at iy ry py
  rw [show ((2 : Nat) : Int) = 2 from rfl] at iy
  obtain ⟨_, ry1⟩ := ry
  clear hc hx hy
  have HB := Lib.hid hB
  clear hB
  have key : ∀ X : Bool, X = B → Ending.returned (.tuple #[.int .i64 (((c - 224) * 64 + x - 128) * 64 + y - 128), .bool X]) = .returned (.tuple #[.int .i64 (((c - 224) * 64 + x - 128) * 64 + y - 128), .bool B]) := fun X h => by rw [h]
  go_enter Try.func20, Try.ntmps20
  go_wp2_with (go_quiet (fail))
  refine wp_loop_rounds 3 ?_
  repeat any_goals (rw [rounds_succ]; go_wp2)
  all_goals
    go_ret2
    refine ⟨key _ ?_, bl3 _ _ _ _ _⟩
    rw [HB.out]
    first
      | (rw [eq_comm, decide_eq_true_eq]; omega)
      | (rw [eq_comm, decide_eq_false_iff_not]; omega)
      | (rw [decide_eq_decide]; omega)
      | (rw [Bool.eq_iff_iff]; simp only [Bool.or_eq_true, Bool.and_eq_true, decide_eq_true_eq]; omega)
end Go.Proofs.Ytolnnkalgioobaa
