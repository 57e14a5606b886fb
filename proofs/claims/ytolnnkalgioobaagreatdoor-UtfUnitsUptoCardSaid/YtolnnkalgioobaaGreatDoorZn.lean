/- utf.put; wrong; utf.Text. -/
import Derived.Test.YtolnnkalgioobaaGreatDoorZm
namespace Go.Proofs.YtolnnkalgioobaaGreatDoor
open Go.RowKit
set_option maxRecDepth 100000
set_option linter.unusedVariables false
set_option linter.unusedSimpArgs false
set_option linter.unnecessarySimpa false

theorem info5 : (Tryz.prog.info? 5).map (fun i => (i.zero, i.size, i.bytes)) = some (some (.int .u8 0), 1, 1) := by kernel_rfl
theorem orU (h : Int) (n : Int) (hh : h = 192 ∧ n < 32 ∨ h = 224 ∧ n < 16 ∨ h = 240 ∧ n < 8 ∨ h = 128 ∧ n < 64) (h0 : 0 ≤ n) : bits BinOp.or .u8 h n = h + n := by
  rcases hh with ⟨rfl, h1⟩ | ⟨rfl, h1⟩ | ⟨rfl, h1⟩ | ⟨rfl, h1⟩
  · have := u8_tab (fun x => decide (x < 32 → bits BinOp.or .u8 192 x = 192 + x)) (by decide) n h0 (by omega)
    exact of_decide_eq_true this h1
  · have := u8_tab (fun x => decide (x < 16 → bits BinOp.or .u8 224 x = 224 + x)) (by decide) n h0 (by omega)
    exact of_decide_eq_true this h1
  · have := u8_tab (fun x => decide (x < 8 → bits BinOp.or .u8 240 x = 240 + x)) (by decide) n h0 (by omega)
    exact of_decide_eq_true this h1
  · have := u8_tab (fun x => decide (x < 64 → bits BinOp.or .u8 128 x = 128 + x)) (by decide) n h0 (by omega)
    exact of_decide_eq_true this h1
theorem mask63 (n : Int) (h0 : 0 ≤ n) (h1 : n < 2097152) : bits BinOp.and .i32 n 63 = n % 64 := bits_mask .i32 24 (by decide) wraps_i32 6 (by decide) _ (by omega) (by omega)
theorem put_any (B : Nat) (v : Value) (xs : List Int) (p : Int) (W : World) (hO : Own W B 5 .u8 v xs) (hB : B ≤ W.heap.size) (h0 : 0 ≤ p) (h1 : p ≤ 1114111) (hl : xs.length ≤ 35184372088832) :
    Calls Tryz.prog 31 #[v, .int .i32 p] W fun e w' => ∃ v', e = .returned v' ∧ Own w' B 5 .u8 v' (xs ++ encL p) ∧ ∃ tmp, (W.alloc tmp).grownBy w' v.ownBlock := by
  obtain ⟨i0, hi, hz0, hz1, hz2⟩ := info_parts info5
  unfold encL
  have hOH := Lib.hid hO
  clear hO
  by_cases a1 : p < 128
  · rw [if_pos a1]
    have u1 := IntWalk.u8_in p (by omega)
    go_enter Tryz.func31, Tryz.ntmps31
    go_wp2_with (at_builtin; refine wpList_append_own _ rfl (.tmp 8) (.tmp 11) 67 rfl B 5 i0 (.int .u8 0) 1 1 Tryz.underlying67 hi hz0 hz1 hz2 rfl (by omega) v xs.length (numsK .u8 xs) rfl (World.ownsRow.alloc hOH.out _) ⟨W.heap.size, 0, none⟩ 1 1 (numsK .u8 [p]) rfl rfl (new_cells W .u8 5 [p]) (fun u hu => by obtain ⟨x, _, rfl⟩ := List.mem_map.1 hu; rfl) (by simp only [maxLen]; omega) (by omega) (by simp; omega) ?_; intro v1 w1 ho1 hg1 _)
    go_ret
    exact ⟨v1, rfl, by unfold Own; rw [numsK_append, List.length_append]; exact ho1, _, hg1⟩
  rw [if_neg a1]
  by_cases a2 : p < 2048
  · rw [if_pos a2]
    have u1 := IntWalk.u8_in (p / 64) (by omega)
    have u2 := IntWalk.u8_in (p % 64) (by omega)
    have k1 := orU 192 (p / 64) (by omega) (by omega)
    have k2 := orU 128 (p % 64) (by omega) (by omega)
    have m1 := mask63 p h0 (by omega)
    have d1 : decide (p < 128) = false := by simp; omega
    go_enter Tryz.func31, Tryz.ntmps31
    go_wp2_with (at_builtin; refine wpList_append_own _ rfl (.tmp 16) (.tmp 25) 67 rfl B 5 i0 (.int .u8 0) 1 1 Tryz.underlying67 hi hz0 hz1 hz2 rfl (by omega) v xs.length (numsK .u8 xs) rfl (World.ownsRow.alloc hOH.out _) ⟨W.heap.size, 0, none⟩ 2 2 (numsK .u8 [192 + p / 64, 128 + p % 64]) rfl rfl (new_cells W .u8 5 [192 + p / 64, 128 + p % 64]) (fun u hu => by obtain ⟨x, _, rfl⟩ := List.mem_map.1 hu; rfl) (by simp only [maxLen]; omega) (by omega) (by simp; omega) ?_; intro v1 w1 ho1 hg1 _)
    go_ret
    exact ⟨v1, rfl, by unfold Own; rw [numsK_append, List.length_append]; exact ho1, _, hg1⟩
  rw [if_neg a2]
  by_cases a3 : p < 65536
  · rw [if_pos a3]
    have u1 := IntWalk.u8_in (p / 4096) (by omega)
    have u2 := IntWalk.u8_in (p / 64 % 64) (by omega)
    have u3 := IntWalk.u8_in (p % 64) (by omega)
    have k1 := orU 224 (p / 4096) (by omega) (by omega)
    have k2 := orU 128 (p / 64 % 64) (by omega) (by omega)
    have k3 := orU 128 (p % 64) (by omega) (by omega)
    have m1 := mask63 p h0 (by omega)
    have m2 := mask63 (p / 64) (by omega) (by omega)
    have d1 : decide (p < 128) = false := by simp; omega
    have d2 : decide (p < 2048) = false := by simp; omega
    go_enter Tryz.func31, Tryz.ntmps31
    go_wp2_with (at_builtin; refine wpList_append_own _ rfl (.tmp 30) (.tmp 44) 67 rfl B 5 i0 (.int .u8 0) 1 1 Tryz.underlying67 hi hz0 hz1 hz2 rfl (by omega) v xs.length (numsK .u8 xs) rfl (World.ownsRow.alloc hOH.out _) ⟨W.heap.size, 0, none⟩ 3 3 (numsK .u8 [224 + p / 4096, 128 + p / 64 % 64, 128 + p % 64]) rfl rfl (new_cells W .u8 5 [224 + p / 4096, 128 + p / 64 % 64, 128 + p % 64]) (fun u hu => by obtain ⟨x, _, rfl⟩ := List.mem_map.1 hu; rfl) (by simp only [maxLen]; omega) (by omega) (by simp; omega) ?_; intro v1 w1 ho1 hg1 _)
    go_ret
    exact ⟨v1, rfl, by unfold Own; rw [numsK_append, List.length_append]; exact ho1, _, hg1⟩
  rw [if_neg a3]
  have u1 := IntWalk.u8_in (p / 262144) (by omega)
  have u2 := IntWalk.u8_in (p / 4096 % 64) (by omega)
  have u3 := IntWalk.u8_in (p / 64 % 64) (by omega)
  have u4 := IntWalk.u8_in (p % 64) (by omega)
  have k1 := orU 240 (p / 262144) (by omega) (by omega)
  have k2 := orU 128 (p / 4096 % 64) (by omega) (by omega)
  have k3 := orU 128 (p / 64 % 64) (by omega) (by omega)
  have k4 := orU 128 (p % 64) (by omega) (by omega)
  have m1 := mask63 p h0 (by omega)
  have m2 := mask63 (p / 64) (by omega) (by omega)
  have m3 := mask63 (p / 4096) (by omega) (by omega)
  have d1 : decide (p < 128) = false := by simp; omega
  have d2 : decide (p < 2048) = false := by simp; omega
  have d3 : decide (p < 65536) = false := by simp; omega
  go_enter Tryz.func31, Tryz.ntmps31
  go_wp2_with (at_builtin; refine wpList_append_own _ rfl (.tmp 46) (.tmp 65) 67 rfl B 5 i0 (.int .u8 0) 1 1 Tryz.underlying67 hi hz0 hz1 hz2 rfl (by omega) v xs.length (numsK .u8 xs) rfl (World.ownsRow.alloc hOH.out _) ⟨W.heap.size, 0, none⟩ 4 4 (numsK .u8 [240 + p / 262144, 128 + p / 4096 % 64, 128 + p / 64 % 64, 128 + p % 64]) rfl rfl (new_cells W .u8 5 [240 + p / 262144, 128 + p / 4096 % 64, 128 + p / 64 % 64, 128 + p % 64]) (fun u hu => by obtain ⟨x, _, rfl⟩ := List.mem_map.1 hu; rfl) (by simp only [maxLen]; omega) (by omega) (by simp; omega) ?_; intro v1 w1 ho1 hg1 _)
  go_ret
  exact ⟨v1, rfl, by unfold Own; rw [numsK_append, List.length_append]; exact ho1, _, hg1⟩
end Go.Proofs.YtolnnkalgioobaaGreatDoor
