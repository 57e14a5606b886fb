/- Lists of bytes held against each other, copied, and looked at again: any lists. -/
import Derived.Test.YtjnmjgpkicbbdaaGreatDoorF
namespace Go.Proofs.YtjnmjgpkicbbdaaGreatDoor
open Go.RowKit
set_option maxRecDepth 100000
set_option linter.unusedVariables false
set_option linter.unusedSimpArgs false

theorem mark_any (n : Int) (w : World) (h0 : 0 ≤ n) (h1 : n ≤ 1000000000) : Calls Tryz.prog 68 #[.int .i64 n] w fun e w' => e = .returned (.int .u8 (1 + n % 255)) ∧ w = w' := by
  go_enter Tryz.func68, Tryz.ntmps68
  go_wp2
  go_ret
  exact ⟨rfl, rfl⟩
theorem isByte_any (x n : Int) (w : World) (h0 : 0 ≤ n) (h1 : n ≤ 1000000000) : Calls Tryz.prog 82 #[.int .u8 x, .int .i64 n] w fun e w' => e = .returned (.bool (x == 1 + n % 255)) ∧ w = w' := by
  go_enter Tryz.func82, Tryz.ntmps82
  go_wp2
  go_ret
  exact ⟨rfl, rfl⟩

theorem same_ne (A B : Option Addr) (n m c d : Nat) (w : World) (h : n ≠ m) : Calls Tryz.prog 6 #[.slice A n c, .slice B m d] w fun e w' => e = .returned (.bool false) ∧ Below w.heap.size w w' := by
  have hb : ((n : Int) != (m : Int)) = true := by simp; omega
  go_enter Tryz.func6, Tryz.ntmps6
  go_wp2
  go_ret
  exact ⟨rfl, Below.refl _ _⟩

theorem same_eq (A B : Option Addr) (c d : Nat) (xs ys : List Int) (w : World) (hl : xs.length = ys.length) (hn : xs.length ≤ 140737488351232) (hx : RK w .u8 A xs) (hy : RK w .u8 B ys) :
    Calls Tryz.prog 6 #[.slice A xs.length c, .slice B xs.length d] w fun e w' => e = .returned (.bool (decide (xs = ys))) ∧ Below w.heap.size w w' := by
  have hX := Lib.hid hx
  have hY := Lib.hid hy
  have hL := Lib.hid hl
  clear hx hy hl
  go_enter Tryz.func6, Tryz.ntmps6
  go_wp2
  go_loopw [5] (fun i W => ∃ k : Nat, k ≤ xs.length ∧ i = .int .i64 k ∧ Hid (xs.take k = ys.take k) ∧ Below w.heap.size w W) (fun i _ => xs.length - (intOf i).toNat)
  case atStart => exact ⟨0, by omega, rfl, rfl, Below.refl _ _⟩
  case round =>
    obtain ⟨k, hk, rfl, he, hb⟩ := hrel
    by_cases hlt : k < xs.length
    · rcases hX.out with h0 | ⟨bx, ox, rfl, hcx⟩
      · subst h0; simp at hlt
      rcases hY.out with h0 | ⟨by_, oy, rfl, hcy⟩
      · have := hL.out; subst h0; simp at this; subst this; simp at hlt
      have c1 := hcx k hlt
      have c2 := hcy k (by have := hL.out; omega)
      have d1 : wr.cell? ⟨bx, ox + k, none⟩ = some (.int .u8 (xs.getD k 0)) := (hb.cell (World.block_lt_of_cell? w _ c1)).trans c1
      have d2 : wr.cell? ⟨by_, oy + k, none⟩ = some (.int .u8 (ys.getD k 0)) := (hb.cell (World.block_lt_of_cell? w _ c2)).trans c2
      have hs1 := Lib.hid (take_snoc xs k hlt)
      have hs2 := Lib.hid (take_snoc ys k (by have := hL.out; omega))
      obtain ⟨x, hx⟩ : ∃ x, xs.getD k 0 = x := ⟨_, rfl⟩
      obtain ⟨y, hy⟩ : ∃ y, ys.getD k 0 = y := ⟨_, rfl⟩
      rw [hx] at d1
      rw [hy] at d2
      have HX := Lib.hid hx
      have HY := Lib.hid hy
      clear c1 c2 hcx hcy hx hy
      by_cases hxy : x = y
      · have hbb : (x != y) = false := by simp [hxy]
        have HXY := Lib.hid hxy
        clear hxy
        go_wp2
        go_quiet (fail)
        go_wp2
        exact ⟨⟨k + 1, by omega, by go_num, Lib.hid (by rw [hs1.out, hs2.out, he.out, HX.out, HY.out, HXY.out]), hb.trans ((below_drewN _ _).mono hb.size)⟩, by simp [intOf]; omega⟩
      · have hbb : (x != y) = true := by simp [hxy]
        have HXY := Lib.hid hxy
        have hne : decide (xs = ys) = false := by
          simp only [decide_eq_false_iff_not]
          intro e
          exact hxy (by rw [← HX.out, ← HY.out, e])
        have HNE := Lib.hid hne
        clear hxy hne
        go_wp2
        go_quiet (fail)
        go_wp2
        go_ret
        exact ⟨by rw [HNE.out]; rfl, hb.trans ((below_drewN _ _).mono hb.size)⟩
    · have heq : decide (xs = ys) = true := by
        have := he.out
        rw [List.take_of_length_le (by omega), List.take_of_length_le (by have := hL.out; omega)] at this
        simp [this]
      have HE := Lib.hid heq
      clear heq
      go_wp2
      go_ret
      exact ⟨by rw [HE.out]; rfl, hb⟩

theorem same_any (A B : Option Addr) (c d : Nat) (xs ys : List Int) (w : World) (hn : xs.length ≤ 140737488351232) (hx : RK w .u8 A xs) (hy : RK w .u8 B ys) :
    Calls Tryz.prog 6 #[.slice A xs.length c, .slice B ys.length d] w fun e w' => e = .returned (.bool (decide (xs = ys))) ∧ Below w.heap.size w w' := by
  by_cases hl : xs.length = ys.length
  · rw [← hl]
    exact same_eq A B c d xs ys w hl hn hx hy
  · have : decide (xs = ys) = false := by simp only [decide_eq_false_iff_not]; intro e; exact hl (by rw [e])
    rw [this]
    exact same_ne A B _ _ c d w hl
end Go.Proofs.YtjnmjgpkicbbdaaGreatDoor
