/- The document's bits and stands. -/
import Derived.Test.YtolnnkalgioobaaGreatDoorD
namespace Go.Proofs.YtolnnkalgioobaaGreatDoor
open Go.RowKit
set_option maxRecDepth 100000
set_option linter.unusedVariables false
set_option linter.unusedSimpArgs false
set_option linter.unnecessarySimpa false

theorem stands_any (s : ByteArray) (a : Nat) (A : Option Addr) (n c : Nat) (ys : List Int) (w : World) (hl : ys.length = n) (hr : RK w .u8 A ys) (ha : a ≤ 140737488351232) (hs : s.size ≤ 140737488351232) (hn : n ≤ 16) (hn1 : 1 ≤ n) (hy : ∀ y ∈ ys, 0 ≤ y) :
    Calls Tryz.prog 116 #[.string s, .int .i64 a, .slice A n c] w fun e w' => e = .returned (.bool (decide (∀ j, j < n → at1 s (a + j) = ys.getD j 0))) ∧ Below w.heap.size w w' := by
  by_cases hfit : a + n ≤ s.size
  · have hgt : ¬ ((s.size : Int) < (a : Int) + (n : Int)) := by omega
    have hR := Lib.hid hr
    have hL := Lib.hid hl
    clear hr hl
    go_enter Tryz.func116, Tryz.ntmps116
    go_wp2
    go_loopw [7] (fun i W => ∃ j : Nat, i = .int .i64 j ∧ j ≤ n ∧ Hid (∀ k, k < j → at1 s (a + k) = ys.getD k 0) ∧ Below w.heap.size w W) (fun i _ => n - (intOf i).toNat)
    case atStart => exact ⟨0, rfl, by omega, fun k hk => by omega, Below.refl _ _⟩
    case round =>
      obtain ⟨j, rfl, hj, hE, hb⟩ := hrel
      by_cases hlt : j < n
      · have hi := fun W => idx_run s (a + j) (by omega) W
        have hjl : j < ys.length := by rw [hL.out]; exact hlt
        rcases hR.out.below hb with h0 | ⟨b, off, rfl, hc⟩
        · subst h0; simp at hjl
        have hcell := hc j hjl
        have hblt : b < wr.heap.size := World.block_lt_of_cell? wr _ hcell
        rw [show ((a + j : Nat) : Int) = (a : Int) + (j : Int) from by omega] at hi
        obtain ⟨x, hx⟩ : ∃ x, at1 s (a + j) = x := ⟨_, rfl⟩
        obtain ⟨y, hy⟩ : ∃ y, ys.getD j 0 = y := ⟨_, rfl⟩
        rw [hx] at hi
        rw [hy] at hcell
        have HX := Lib.hid hx
        have HY := Lib.hid hy
        clear hc hx hy hjl
        rcases hxy : (x != y) with _ | _
        · have hxe : x = y := by simpa using hxy
          have HE : Hid (∀ k, k < j + 1 → at1 s (a + k) = ys.getD k 0) := Lib.hid fun k hk => by
            rcases Nat.lt_or_ge k j with h | h
            · exact hE.out k h
            · obtain rfl : k = j := by omega
              rw [HX.out, HY.out, hxe]
          clear hxe
          go_wp2_with (go_quiet (fail))
          exact ⟨⟨j + 1, by go_num, by omega, HE.out, below_on hb (below_drewN _ _)⟩, by simp [intOf]; omega⟩
        · have hno : decide (∀ j, j < n → at1 s (a + j) = ys.getD j 0) = false := by
            rw [decide_eq_false_iff_not]
            intro h
            have := h j hlt
            rw [HX.out, HY.out] at this
            simp [this] at hxy
          have HNo := Lib.hid hno
          clear hno
          go_wp2_with (go_quiet (fail))
          go_ret
          exact ⟨by rw [HNo.out]; rfl, below_on hb (below_drewN _ _)⟩
      · have hyes : decide (∀ j, j < n → at1 s (a + j) = ys.getD j 0) = true := by
          rw [decide_eq_true_eq]
          exact fun k hk => hE.out k (by omega)
        have HYes := Lib.hid hyes
        have hge : (n : Int) ≤ (j : Int) := by omega
        clear hyes hlt
        go_wp2
        go_ret
        exact ⟨by rw [HYes.out]; rfl, hb⟩
  · have hno : decide (∀ j, j < n → at1 s (a + j) = ys.getD j 0) = false := by
      rw [decide_eq_false_iff_not]
      intro h
      have h2 := h (n - 1) (by omega)
      have h3 : 0 ≤ ys.getD (n - 1) 0 := by
        rw [List.getD_eq_getElem?_getD, List.getElem?_eq_getElem (by omega)]
        exact hy _ (List.getElem_mem _)
      have := (at1_in s (a + (n - 1))).1 (by omega)
      omega
    have HNo := Lib.hid hno
    have hgt : (s.size : Int) < (a : Int) + (n : Int) := by omega
    clear hno hr hl hfit
    go_enter Tryz.func116, Tryz.ntmps116
    go_wp2
    go_ret
    exact ⟨by rw [HNo.out]; rfl, Below.refl _ _⟩

theorem bits1 (s : ByteArray) (a : Nat) (c : Int) (w : World) (hs : s.size ≤ 140737488351232) (hc : at1 s a = c) (h0 : 0 ≤ c) (h1 : a + 1 ≤ s.size) :
    Calls Tryz.prog 115 #[.string s, .int .i64 a, .int .i64 1] w fun e w' => e = .returned (.int .i64 (c % 128)) ∧ Below w.heap.size w w' := by
  have hi := fun W => idx_run s a (by omega) W
  have hr := at1_range s a
  rw [hc] at hi hr
  have hlt : (a : Int) < (s.size : Int) := by omega
  obtain ⟨hr0, hr1⟩ := hr
  clear hc
  go_enter Tryz.func115, Tryz.ntmps115
  go_wp2_with (go_quiet (fail))
  refine wp_loop_rounds 1 ?_
  repeat any_goals (rw [rounds_succ]; go_wp2)
  go_ret
  exact ⟨rfl, Below.trans ((Below.refl _ _).alloc (Nat.le_refl _) _) (below_drewN _ _ |>.mono (by simp))⟩
theorem bits2 (s : ByteArray) (a : Nat) (c : Int) (x : Int) (w : World) (hs : s.size ≤ 140737488351232) (hc : at1 s a = c) (hx : at1 s (a + 1) = x) (h0 : 0 ≤ c) (h1 : a + 2 ≤ s.size) :
    Calls Tryz.prog 115 #[.string s, .int .i64 a, .int .i64 2] w fun e w' => e = .returned (.int .i64 ((c % 32) * 64 + x % 64)) ∧ Below w.heap.size w w' := by
  have hi := fun W => idx_run s a (by omega) W
  have hr := at1_range s a
  rw [hc] at hi hr
  have hlt : (a : Int) < (s.size : Int) := by omega
  obtain ⟨hr0, hr1⟩ := hr
  have ix := fun W => idx_run s (a + 1) (by omega) W
  have rx := at1_range s (a + 1)
  have px := (at1_in s (a + 1)).2 (by omega)
  rw [hx] at ix rx px
  rw [show ((a + 1 : Nat) : Int) = (a : Int) + 1 from by omega] at ix
  obtain ⟨rx0, rx1⟩ := rx
  have lx : (a : Int) + 1 < (s.size : Int) := by omega
  clear hc hx
  go_enter Tryz.func115, Tryz.ntmps115
  go_wp2_with (go_quiet (fail))
  refine wp_loop_rounds 2 ?_
  repeat any_goals (rw [rounds_succ]; go_wp2)
  go_ret
  exact ⟨rfl, Below.trans ((Below.refl _ _).alloc (Nat.le_refl _) _) (below_drewN _ _ |>.mono (by simp))⟩
theorem bits3 (s : ByteArray) (a : Nat) (c : Int) (x : Int) (y : Int) (w : World) (hs : s.size ≤ 140737488351232) (hc : at1 s a = c) (hx : at1 s (a + 1) = x) (hy : at1 s (a + 2) = y) (h0 : 0 ≤ c) (h1 : a + 3 ≤ s.size) :
    Calls Tryz.prog 115 #[.string s, .int .i64 a, .int .i64 3] w fun e w' => e = .returned (.int .i64 (((c % 16) * 64 + x % 64) * 64 + y % 64)) ∧ Below w.heap.size w w' := by
  have hi := fun W => idx_run s a (by omega) W
  have hr := at1_range s a
  rw [hc] at hi hr
  have hlt : (a : Int) < (s.size : Int) := by omega
  obtain ⟨hr0, hr1⟩ := hr
  have ix := fun W => idx_run s (a + 1) (by omega) W
  have rx := at1_range s (a + 1)
  have px := (at1_in s (a + 1)).2 (by omega)
  rw [hx] at ix rx px
  rw [show ((a + 1 : Nat) : Int) = (a : Int) + 1 from by omega] at ix
  obtain ⟨rx0, rx1⟩ := rx
  have lx : (a : Int) + 1 < (s.size : Int) := by omega
  have iy := fun W => idx_run s (a + 2) (by omega) W
  have ry := at1_range s (a + 2)
  have py := (at1_in s (a + 2)).2 (by omega)
  rw [hy] at iy ry py
  rw [show ((a + 2 : Nat) : Int) = (a : Int) + 2 from by omega] at iy
  obtain ⟨ry0, ry1⟩ := ry
  have ly : (a : Int) + 2 < (s.size : Int) := by omega
  clear hc hx hy
  go_enter Tryz.func115, Tryz.ntmps115
  go_wp2_with (go_quiet (fail))
  refine wp_loop_rounds 3 ?_
  repeat any_goals (rw [rounds_succ]; go_wp2)
  go_ret
  exact ⟨rfl, Below.trans ((Below.refl _ _).alloc (Nat.le_refl _) _) (below_drewN _ _ |>.mono (by simp))⟩
theorem bits4 (s : ByteArray) (a : Nat) (c : Int) (x : Int) (y : Int) (z : Int) (w : World) (hs : s.size ≤ 140737488351232) (hc : at1 s a = c) (hx : at1 s (a + 1) = x) (hy : at1 s (a + 2) = y) (hz : at1 s (a + 3) = z) (h0 : 0 ≤ c) (h1 : a + 4 ≤ s.size) :
    Calls Tryz.prog 115 #[.string s, .int .i64 a, .int .i64 4] w fun e w' => e = .returned (.int .i64 ((((c % 8) * 64 + x % 64) * 64 + y % 64) * 64 + z % 64)) ∧ Below w.heap.size w w' := by
  have hi := fun W => idx_run s a (by omega) W
  have hr := at1_range s a
  rw [hc] at hi hr
  have hlt : (a : Int) < (s.size : Int) := by omega
  obtain ⟨hr0, hr1⟩ := hr
  have ix := fun W => idx_run s (a + 1) (by omega) W
  have rx := at1_range s (a + 1)
  have px := (at1_in s (a + 1)).2 (by omega)
  rw [hx] at ix rx px
  rw [show ((a + 1 : Nat) : Int) = (a : Int) + 1 from by omega] at ix
  obtain ⟨rx0, rx1⟩ := rx
  have lx : (a : Int) + 1 < (s.size : Int) := by omega
  have iy := fun W => idx_run s (a + 2) (by omega) W
  have ry := at1_range s (a + 2)
  have py := (at1_in s (a + 2)).2 (by omega)
  rw [hy] at iy ry py
  rw [show ((a + 2 : Nat) : Int) = (a : Int) + 2 from by omega] at iy
  obtain ⟨ry0, ry1⟩ := ry
  have ly : (a : Int) + 2 < (s.size : Int) := by omega
  have iz := fun W => idx_run s (a + 3) (by omega) W
  have rz := at1_range s (a + 3)
  have pz := (at1_in s (a + 3)).2 (by omega)
  rw [hz] at iz rz pz
  rw [show ((a + 3 : Nat) : Int) = (a : Int) + 3 from by omega] at iz
  obtain ⟨rz0, rz1⟩ := rz
  have lz : (a : Int) + 3 < (s.size : Int) := by omega
  clear hc hx hy hz
  go_enter Tryz.func115, Tryz.ntmps115
  go_wp2_with (go_quiet (fail))
  refine wp_loop_rounds 4 ?_
  repeat any_goals (rw [rounds_succ]; go_wp2)
  go_ret
  exact ⟨rfl, Below.trans ((Below.refl _ _).alloc (Nat.le_refl _) _) (below_drewN _ _ |>.mono (by simp))⟩
end Go.Proofs.YtolnnkalgioobaaGreatDoor
