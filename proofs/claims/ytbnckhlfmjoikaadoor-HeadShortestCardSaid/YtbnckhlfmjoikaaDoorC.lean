import Derived.Test.YtbnckhlfmjoikaaDoorB
import Derived.Laws.Slices
import Derived.Laws.BitsLemmas
namespace Go.Proofs.YtbnckhlfmjoikaaDoor
open Go.RowKit
set_option maxRecDepth 100000
set_option linter.unusedVariables false

def wrow (k : Nat) (x : Int) : Array Value := ((List.replicate (9 - k) 0 ++ beS k x).map (Value.int .u8)).toArray

theorem pow8 (k : Nat) : (2 : Int) ^ (8 * k) = 256 ^ k := by
  rw [Int.pow_mul]; rfl

theorem wrow_at (k : Nat) (x : Int) (h : k ≤ 8) : (wrow k x)[8 - k]? = some (.int .u8 0) := by
  unfold wrow
  rw [List.getElem?_toArray, List.getElem?_map, List.getElem?_append_left (by simp; omega), List.getElem?_replicate, if_pos (by omega)]
  rfl

theorem wrow_set (k : Nat) (x b : Int) (h : k ≤ 8) : (wrow k x).setIfInBounds (8 - k) (.int .u8 b) = ((List.replicate (8 - k) 0 ++ b :: beS k x).map (Value.int .u8)).toArray := by
  unfold wrow
  rw [List.setIfInBounds_toArray, ← List.map_set]
  congr 2
  have e : 9 - k = (8 - k) + 1 := by omega
  rw [e, List.replicate_succ', List.append_assoc, List.set_append_right _ _ (by simp)]
  simp

theorem wrow_step (k : Nat) (x : Int) (h : k < 8) : (wrow k x).setIfInBounds (8 - k) (.int .u8 (x / 2 ^ (8 * k) % 256)) = wrow (k + 1) x := by
  rw [wrow_set k x _ (by omega), pow8]
  have e : 9 - (k + 1) = 8 - k := by omega
  unfold wrow
  rw [e]
  rfl

theorem wrow_tail (k : Nat) (x b : Int) (h : k ≤ 8) (w : World) : (convert 57 9 (.slice (some ⟨w.heap.size, 8 - k, none⟩) (k + 1) (k + 1))).run Tryd.prog (w.alloc (.cells ((wrow k x).setIfInBounds (8 - k) (.int .u8 b)) 67)) = .ok (.string (strOfNums (b :: beS k x))) (w.alloc (.cells ((wrow k x).setIfInBounds (8 - k) (.int .u8 b)) 67)) := by
  refine run_convert_bytes_arg _ 57 5 Tryd.underlying57 Tryd.underlying5 _ (8 - k) (k + 1) (k + 1) (b :: beS k x) (by simp [beS_len]) (fun i hi => ?_) 9 Tryd.underlying9
  rw [wrow_set k x b h]
  have := beS_len k x
  have hl : i < (b :: beS k x).length := by simp [beS_len]; omega
  rw [World.cell?_alloc_new, List.getElem?_toArray, List.getElem?_map, List.getElem?_append_right (by simp)]
  simp only [List.length_replicate, Nat.add_sub_cancel_left, List.getElem?_eq_getElem hl, List.getD_eq_getElem?_getD]
  rfl

theorem add_plain (g j : Nat) : (⟨g, 0, none⟩ : Addr).add j = ⟨g, j, none⟩ := by unfold Addr.add; split <;> simp_all

theorem slice9 (k : Nat) (h : k ≤ 8) (g : Nat) (W : World) : (Instr.sliceAt 67 (.pointer (some ⟨g, 0, none⟩)) (some (.int .i64 (8 - (k : Int)))) none none).run Tryd.prog W = .ok (.slice (some ⟨g, 8 - k, none⟩) (k + 1) (k + 1)) W := by
  have har : Tryd.prog.arrayLen 67 = 9 := by kernel_rfl
  have hel : Tryd.prog.elem 67 = 5 := by kernel_rfl
  have hs : (sizeOf 5).run Tryd.prog W = .ok 1 W := by kernel_rfl
  have e : (8 - (k : Int)).toNat = 8 - k := by omega
  have hu : Tryd.prog.underlying 67 = some (.array (Tryd.prog.arrayLen 67) (Tryd.prog.elem 67)) := by rw [har, hel]; exact Tryd.underlying67
  rw [run_sliceAt_array_l W 67 _ hu .i64 _ (by omega) (by rw [har]; omega), har, hel, hs]
  have e1 : 9 - (8 - k) = k + 1 := by omega
  have e2 : ¬ 9 = 8 - k := by omega
  simp [Result.andThen, slicedAt, e, e1, e2, add_plain]

theorem or_head (m i : Int) (hm : 0 ≤ m) (hm7 : m ≤ 7) (hi : 0 ≤ i) (hi2 : i < 32) : bits BinOp.or .u8 (m * 32) i = 32 * m + i := by
  rw [bits_join .u8 8 (by decide) wraps_u8 5 (m * 32) i (by omega) (by simp) (by omega) hi (by omega) (by omega)]
  omega

theorem write_any (m i x : Int) (n : Nat) (w : World) (hm : 0 ≤ m) (hm7 : m ≤ 7) (hi : 0 ≤ i) (hi2 : i < 32) (h0 : 0 ≤ x) (h1 : x ≤ 18446744073709551615) (h2 : n ≤ 8) :
    Calls Tryd.prog 22 #[.int .u8 m, .int .u8 i, .int .u64 x, .int .i64 n] w fun e w' => e = .returned (.string (strOfNums ((32 * m + i) :: beS n x))) ∧ Below w.heap.size w w' := by
  go_enter Tryd.func22, Tryd.ntmps22
  go_wp2
  go_loopw [10, 12] (fun _ i W => ∃ k : Nat, k ≤ n ∧ i = .int .i64 k ∧ W = w.alloc (.cells (wrow k x) 67)) (fun _ i _ => n - (intOf i).toNat)
  case atStart => exact ⟨0, by omega, rfl, by simp [wrow, beS]⟩
  case round =>
    obtain ⟨k, hk, rfl, rfl⟩ := hrel
    have hat := wrow_at k x (by omega)
    by_cases hlt : k < n
    · have hst := Lib.hid (wrow_step k x (by omega))
      go_wp2
      exact ⟨⟨k + 1, by omega, rfl, by rw [hst.out]⟩, by simp [intOf]; omega⟩
    · obtain rfl : k = n := by omega
      have htl := fun b => wrow_tail k x b (by omega) w
      have hsl := slice9 k (by omega) w.heap.size
      have hor := or_head m i hm hm7 hi hi2
      go_wp2
      go_ret
      exact ⟨rfl, (Below.refl _ _).alloc (Nat.le_refl _) _⟩
end Go.Proofs.YtbnckhlfmjoikaaDoor
