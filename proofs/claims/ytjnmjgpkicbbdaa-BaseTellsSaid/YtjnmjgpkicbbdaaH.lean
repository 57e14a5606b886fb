/- A copy of a list of bytes with a mark behind it; what is looked at again; 32 bytes as an array: any lists. -/
import Derived.Test.YtjnmjgpkicbbdaaG
namespace Go.Proofs.Ytjnmjgpkicbbdaa
open Go.RowKit
set_option maxRecDepth 100000
set_option linter.unusedVariables false
set_option linter.unusedSimpArgs false

theorem make_full (w : World) (n : Nat) (hn : n ≤ 140737488351232) : (Instr.makeSlice 22 (.int .i64 ((n : Int) + 1)) (.int .i64 ((n : Int) + 1))).run Try.prog w = .ok (.slice (some ⟨w.heap.size, 0, none⟩) (n + 1) (n + 1)) (w.alloc (.cells (numsK .u8 (List.replicate (n + 1) 0)).toArray 5)) := by
  obtain ⟨i0, hi, hz0, hz1, hz2⟩ := info_parts info_byte
  rw [run_make (P := Try.prog) w 22 5 i0 (.int .u8 0) Try.underlying22 hi hz0 .i64 .i64 _ _ (by omega) (by omega) (by rw [hz2]; omega) (by omega), hz1]
  have e : ((n : Int) + 1).toNat = n + 1 := by omega
  rw [e, Nat.mul_one]
  congr 3
  apply Array.ext'
  apply List.ext_getElem
  · simp [madeCells, numsK, size_madeCells]
  · intro i h1 h2
    have hz : (Value.int .u8 0).cells = #[.int .u8 0] := rfl
    simp [madeCells, numsK, hz, Nat.mod_one]

/-- The twin while it is filled. -/
def filled (xs : List Int) (k : Nat) : Array Value := (numsK .u8 (xs.take k ++ List.replicate (xs.length + 1 - k) 0)).toArray
theorem filled_at (xs : List Int) (k : Nat) (h : k ≤ xs.length) : (filled xs k)[k]? = some (.int .u8 0) := by
  unfold filled numsK
  have hl : (xs.take k).length = k := by rw [List.length_take]; omega
  rw [List.getElem?_toArray, List.getElem?_map, List.getElem?_append_right (by omega), List.getElem?_replicate, if_pos (by omega)]
  rfl
theorem filled_set (xs : List Int) (k : Nat) (h : k ≤ xs.length) (b : Int) : (filled xs k).setIfInBounds k (.int .u8 b) = (numsK .u8 ((xs.take k ++ [b]) ++ List.replicate (xs.length - k) 0)).toArray := by
  unfold filled numsK
  have hl : (xs.take k).length = k := by rw [List.length_take]; omega
  rw [List.setIfInBounds_toArray, ← List.map_set]
  congr 2
  rw [List.set_append_right _ _ (by omega), hl, Nat.sub_self, show xs.length + 1 - k = (xs.length - k) + 1 from by omega, List.replicate_succ, List.set_cons_zero, List.append_assoc]
  rfl
theorem filled_step (xs : List Int) (k : Nat) (h : k < xs.length) : (filled xs k).setIfInBounds k (.int .u8 (xs.getD k 0)) = filled xs (k + 1) := by
  rw [filled_set xs k (by omega), ← take_snoc xs k h]
  unfold filled
  rw [show xs.length + 1 - (k + 1) = xs.length - k from by omega]
theorem filled_end (xs : List Int) : (filled xs xs.length).setIfInBounds xs.length (.int .u8 28) = (numsK .u8 (xs ++ [28])).toArray := by
  rw [filled_set xs _ (Nat.le_refl _)]
  simp

/-- What TwinBytes answers: a block of its own that holds the bytes, and a mark behind them. -/
def TwinPost (xs : List Int) (w : World) (e : Ending) (w' : World) : Prop :=
  ∃ g, e = .returned (.slice (some ⟨g, 0, none⟩) xs.length (xs.length + 1)) ∧ w.heap.size ≤ g ∧ w'.heap[g]? = some (.cells (numsK .u8 (xs ++ [28])).toArray 5 (0, 0)) ∧ Below w.heap.size w w'

theorem twin_any (A : Option Addr) (c : Nat) (xs : List Int) (w : World) (hn : xs.length ≤ 140737488351232) (hx : RK w .u8 A xs) : Calls Try.prog 8 #[.slice A xs.length c] w (TwinPost xs w) := by
  have hmk := make_full w xs.length hn
  have hX := Lib.hid hx
  clear hx
  go_enter Try.func8, Try.ntmps8
  go_wp2
  go_loopw [4] (fun i W => ∃ k : Nat, k ≤ xs.length ∧ i = .int .i64 k ∧ W = w.alloc (.cells (filled xs k) 5)) (fun i _ => xs.length - (intOf i).toNat)
  case atStart => exact ⟨0, by omega, rfl, by simp [filled]⟩
  case round =>
    obtain ⟨k, hk, rfl, rfl⟩ := hrel
    have hat := filled_at xs k hk
    by_cases hlt : k < xs.length
    · rcases hX.out with h0 | ⟨bx, ox, rfl, hcx⟩
      · subst h0; simp at hlt
      have c1 := hcx k hlt
      have d1 : (w.alloc (.cells (filled xs k) 5)).cell? ⟨bx, ox + k, none⟩ = some (.int .u8 (xs.getD k 0)) := by rw [World.cell?_alloc_lt _ _ _ (World.block_lt_of_cell? w _ c1)]; exact c1
      have hst := Lib.hid (filled_step xs k hlt)
      obtain ⟨x, hx⟩ : ∃ x, xs.getD k 0 = x := ⟨_, rfl⟩
      rw [hx] at d1
      have HX := Lib.hid hx
      clear c1 hcx hx
      go_wp2
      exact ⟨⟨k + 1, by omega, by go_num, by rw [← hst.out, HX.out]⟩, by simp [intOf]; omega⟩
    · obtain rfl : k = xs.length := by omega
      have hfe := Lib.hid (filled_end xs)
      go_wp2_with (go_at_call 18; refine (mark_any 777777 _ (by omega) (by omega)).mono ?_; rintro e w1 ⟨rfl, rfl⟩)
      go_ret
      refine ⟨w.heap.size, rfl, Nat.le_refl _, ?_, (Below.refl _ _).alloc (Nat.le_refl _) _⟩
      have := hfe.out
      rw [this]
      exact Array.getElem?_push_size

theorem left_any (g : Nat) (B : Option Addr) (d : Nat) (xs ys : List Int) (m : Int) (w : World) (hn : xs.length ≤ 140737488351232) (hg : w.heap[g]? = some (.cells (numsK .u8 (xs ++ [m])).toArray 5 (0, 0))) (hy : RK w .u8 B ys) :
    Calls Try.prog 10 #[.slice (some ⟨g, 0, none⟩) xs.length (xs.length + 1), .slice B ys.length d] w fun e w' => e = .returned (.bool (decide (xs = ys) && m == 28)) ∧ Below w.heap.size w w' := by
  have hx : RK w .u8 (some ⟨g, 0, none⟩) xs := .inr ⟨g, 0, rfl, fun j hj => by
    rw [Lib.cell_of_heap hg]
    have hj2 : j < (xs.map (Value.int .u8)).length := by simpa using hj
    simp only [numsK, List.map_append, List.getElem?_toArray, Nat.zero_add]
    rw [List.getElem?_append_left hj2, List.getElem?_map, List.getElem?_eq_getElem hj, List.getD_eq_getElem?_getD, List.getElem?_eq_getElem hj]
    rfl⟩
  have hlt : g < w.heap.size := by
    rcases Nat.lt_or_ge g w.heap.size with h | h
    · exact h
    · simp [Array.getElem?_eq_none h] at hg
  have hm : w.cell? ⟨g, xs.length, none⟩ = some (.int .u8 m) := by
    rw [Lib.cell_of_heap hg]
    simp [numsK]
  have hG := Lib.hid hg
  clear hg
  have hX := Lib.hid hx
  have hY := Lib.hid hy
  clear hx hy
  by_cases he : xs = ys
  · have hS : decide (xs = ys) = true := by simp [he]
    have HS := Lib.hid hS
    have hl : ys.length = xs.length := by rw [he]
    rw [hl]
    clear hS he
    go_enter Try.func10, Try.ntmps10
    go_wp2_with fail
    have hc := same_any (some ⟨g, 0, none⟩) B (xs.length + 1) d xs ys w hn hX.out hY.out
    rw [hl] at hc
    refine hc.mono ?_
    clear hc hl
    rintro e w1 ⟨rfl, hb1⟩
    rw [HS.out]
    have hm1 : w1.cell? ⟨g, xs.length, none⟩ = some (.int .u8 m) := (hb1.cell (p := ⟨g, xs.length, none⟩) hlt).trans hm
    go_wp2_with (go_at_call 22; refine (isByte_any m 777777 _ (by omega) (by omega)).mono ?_; rintro e w2 ⟨rfl, rfl⟩)
    go_ret
    exact ⟨by rw [HS.out]; rfl, hb1⟩
  · have hS : decide (xs = ys) = false := by simp [he]
    have HS := Lib.hid hS
    clear hS he
    go_enter Try.func10, Try.ntmps10
    go_wp2_with fail
    refine (same_any (some ⟨g, 0, none⟩) B (xs.length + 1) d xs ys w hn hX.out hY.out).mono ?_
    rintro e w1 ⟨rfl, hb1⟩
    rw [HS.out]
    go_wp2
    go_ret
    exact ⟨by rw [HS.out]; rfl, hb1⟩
end Go.Proofs.Ytjnmjgpkicbbdaa
