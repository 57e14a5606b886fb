/- The walk of utf.First. -/
import Derived.Test.YtolnnkalgioobaaGreatDoorA
import Derived.OwnWalk
namespace Go.Proofs.YtolnnkalgioobaaGreatDoor
open Go.RowKit
set_option maxRecDepth 100000
set_option linter.unusedVariables false
set_option linter.unusedSimpArgs false
set_option linter.unnecessarySimpa false

theorem wraps_i32 (n : Int) (h₀ : 0 ≤ n) (h₁ : n < 2 ^ 24) : IntKind.i32.wrap n = n := by
  rw [IntKind.wrap_i32]; omega
theorem or6 (x k : Int) (h0 : 0 ≤ x) (h1 : x < 262144) (k0 : 0 ≤ k) (k1 : k ≤ 63) : bits BinOp.or .i32 (x * 64) k = x * 64 + k :=
  bits_join .i32 24 (by decide) wraps_i32 6 _ _ (by omega) (by omega) (by omega) k0 (by omega) (by omega)

abbrev noV : Value := .tuple #[.int .i32 0, .int .i64 0, .bool false]
abbrev yesV (p n : Int) : Value := .tuple #[.int .i32 p, .int .i64 n, .bool true]

theorem first_out (s : ByteArray) (a : Int) (w : World) (h : a < 0 ∨ (s.size : Int) ≤ a) :
    Calls Tryz.prog 76 #[.string s, .int .i64 a] w fun e w' => e = .returned noV ∧ w = w' := by
  by_cases h0 : a < 0
  · go_enter Tryz.func76, Tryz.ntmps76
    go_wp2
    go_ret3
    exact ⟨rfl, rfl⟩
  · have h1 : (s.size : Int) ≤ a := by omega
    clear h
    go_enter Tryz.func76, Tryz.ntmps76
    go_wp2
    go_ret3
    exact ⟨rfl, rfl⟩
theorem first_low (s : ByteArray) (a : Nat) (c : Int) (w : World) (hc : at1 s a = c) (h0 : 0 ≤ c) (h1 : c < 128) :
    Calls Tryz.prog 76 #[.string s, .int .i64 a] w fun e w' => e = .returned (yesV c 1) ∧ w = w' := by
  have hk : a < s.size := (at1_in s a).1 (by omega)
  have hi := fun W => idx_run s a hk W
  rw [hc] at hi
  have hlt2 : (a : Int) < (s.size : Int) := by omega
  have hlt3 : ¬ ((s.size : Int) ≤ (a : Int)) := by omega
  have ha0 : (0 : Int) ≤ a := by omega
  clear hk hc
  go_enter Tryz.func76, Tryz.ntmps76
  go_wp2
  go_ret3
  exact ⟨rfl, rfl⟩
theorem first_none (s : ByteArray) (a : Nat) (c : Int) (w : World) (hc : at1 s a = c) (h : 128 ≤ c ∧ c < 192 ∨ 248 ≤ c) :
    Calls Tryz.prog 76 #[.string s, .int .i64 a] w fun e w' => e = .returned noV ∧ w = w' := by
  have hk : a < s.size := (at1_in s a).1 (by omega)
  have hr := at1_range s a
  have hi := fun W => idx_run s a hk W
  rw [hc] at hi hr
  have hlt2 : (a : Int) < (s.size : Int) := by omega
  have hlt3 : ¬ ((s.size : Int) ≤ (a : Int)) := by omega
  have ha0 : (0 : Int) ≤ a := by omega
  have hcn : decide (c < 128) = false := by simp; omega
  have g1 : (bits BinOp.and .u8 c 224 == 192) = false := by rw [and224 c (by omega) (by omega)]; simp; omega
  have g2 : (bits BinOp.and .u8 c 240 == 224) = false := by rw [and240 c (by omega) (by omega)]; simp; omega
  have g3 : (bits BinOp.and .u8 c 248 == 240) = false := by rw [and248 c (by omega) (by omega)]; simp; omega
  clear hk hc h
  go_enter Tryz.func76, Tryz.ntmps76
  go_wp2
  go_ret3
  exact ⟨rfl, rfl⟩
theorem first2_bad0 (s : ByteArray) (a : Nat) (c C : Int) (v : Int) (w : World) (ha : a ≤ 140737488351232) (hc : at1 s a = c) (hC : c = 192 + C) (bC0 : 0 ≤ C) (bC1 : C ≤ 31) (hv : at1 s (a + 1) = v) (hv1 : cont v = false) :
    Calls Tryz.prog 76 #[.string s, .int .i64 a] w fun e w' => e = .returned noV ∧ w = w' := by
  have hk : a < s.size := (at1_in s a).1 (by omega)
  have hi := fun W => idx_run s a hk W
  rw [hc] at hi
  have hlt2 : (a : Int) < (s.size : Int) := by omega
  have hlt3 : ¬ ((s.size : Int) ≤ (a : Int)) := by omega
  have ha0 : (0 : Int) ≤ a := by omega
  have hcn : decide (c < 128) = false := by simp; omega
  have g1 : bits BinOp.and .u8 c 224 = 192 := by rw [and224 c (by omega) (by omega)]; omega
  have g2 : bits BinOp.and .u8 c 31 = C := by rw [and31 c (by omega) (by omega)]; omega
  have fv := fun w => follow_no s (a + 1) v hv hv1 w
  rw [show ((a + 1 : Nat) : Int) = (a : Int) + 1 from by omega] at fv
  clear hk hc hv hv1
  clear hC
  go_enter Tryz.func76, Tryz.ntmps76
  go_wp2
  refine wp_loop_rounds 1 ?_
  repeat any_goals (rw [rounds_succ]; go_wp2_with (first
    | (go_at_call 112; with_reducible refine (fv _).mono ?_; rintro e w1 ⟨rfl, rfl⟩)    ))
  go_ret3
  exact ⟨rfl, rfl⟩
theorem first2_low (s : ByteArray) (a : Nat) (c C : Int) (X : Int) (w : World) (ha : a ≤ 140737488351232) (hc : at1 s a = c) (hC : c = 192 + C) (bC0 : 0 ≤ C) (bC1 : C ≤ 31) (hX : at1 s (a + 1) = 128 + X) (bX0 : 0 ≤ X) (bX1 : X ≤ 63) (hp : (C * 64 + X) < 128) :
    Calls Tryz.prog 76 #[.string s, .int .i64 a] w fun e w' => e = .returned noV ∧ w = w' := by
  have hk : a < s.size := (at1_in s a).1 (by omega)
  have hi := fun W => idx_run s a hk W
  rw [hc] at hi
  have hlt2 : (a : Int) < (s.size : Int) := by omega
  have hlt3 : ¬ ((s.size : Int) ≤ (a : Int)) := by omega
  have ha0 : (0 : Int) ≤ a := by omega
  have hcn : decide (c < 128) = false := by simp; omega
  have g1 : bits BinOp.and .u8 c 224 = 192 := by rw [and224 c (by omega) (by omega)]; omega
  have g2 : bits BinOp.and .u8 c 31 = C := by rw [and31 c (by omega) (by omega)]; omega
  have fX := fun w => follow_yes s (a + 1) (128 + X) hX (by omega) (by omega) w
  rw [show 128 + X - 128 = X from by omega, show ((a + 1 : Nat) : Int) = (a : Int) + 1 from by omega] at fX
  have hp2 : decide ((C * 64 + X) < 128) = true := by simp; omega
  have oX := or6 C X (by omega) (by omega) (by omega) (by omega)
  clear hk hc hX hp
  clear hC
  go_enter Tryz.func76, Tryz.ntmps76
  go_wp2
  refine wp_loop_rounds 2 ?_
  repeat any_goals (rw [rounds_succ]; go_wp2_with (first
    | (go_at_call 112; with_reducible refine (fX _).mono ?_; rintro e w1 ⟨rfl, rfl⟩)    ))
  go_ret3
  exact ⟨rfl, rfl⟩
theorem first2_yes (s : ByteArray) (a : Nat) (c C : Int) (X : Int) (w : World) (ha : a ≤ 140737488351232) (hc : at1 s a = c) (hC : c = 192 + C) (bC0 : 0 ≤ C) (bC1 : C ≤ 31) (hX : at1 s (a + 1) = 128 + X) (bX0 : 0 ≤ X) (bX1 : X ≤ 63) (hp : 128 ≤ (C * 64 + X)) :
    Calls Tryz.prog 76 #[.string s, .int .i64 a] w fun e w' => e = .returned (yesV (C * 64 + X) 2) ∧ w = w' := by
  have hk : a < s.size := (at1_in s a).1 (by omega)
  have hi := fun W => idx_run s a hk W
  rw [hc] at hi
  have hlt2 : (a : Int) < (s.size : Int) := by omega
  have hlt3 : ¬ ((s.size : Int) ≤ (a : Int)) := by omega
  have ha0 : (0 : Int) ≤ a := by omega
  have hcn : decide (c < 128) = false := by simp; omega
  have g1 : bits BinOp.and .u8 c 224 = 192 := by rw [and224 c (by omega) (by omega)]; omega
  have g2 : bits BinOp.and .u8 c 31 = C := by rw [and31 c (by omega) (by omega)]; omega
  have fX := fun w => follow_yes s (a + 1) (128 + X) hX (by omega) (by omega) w
  rw [show 128 + X - 128 = X from by omega, show ((a + 1 : Nat) : Int) = (a : Int) + 1 from by omega] at fX
  have hp2 : decide ((C * 64 + X) < 128) = false := by simp; omega
  have pt := fun w => point_any (C * 64 + X) w
  rw [show isPt (C * 64 + X) = true from by simp [isPt]; omega] at pt
  have oX := or6 C X (by omega) (by omega) (by omega) (by omega)
  clear hk hc hX hp
  clear hC
  go_enter Tryz.func76, Tryz.ntmps76
  go_wp2
  refine wp_loop_rounds 2 ?_
  repeat any_goals (rw [rounds_succ]; go_wp2_with (first
    | (go_at_call 112; with_reducible refine (fX _).mono ?_; rintro e w1 ⟨rfl, rfl⟩)
    | (go_at_call 30; refine (pt _).mono ?_; rintro e w1 ⟨rfl, rfl⟩)    ))
  go_ret3
  exact ⟨rfl, rfl⟩
theorem first3_bad0 (s : ByteArray) (a : Nat) (c C : Int) (v : Int) (w : World) (ha : a ≤ 140737488351232) (hc : at1 s a = c) (hC : c = 224 + C) (bC0 : 0 ≤ C) (bC1 : C ≤ 15) (hv : at1 s (a + 1) = v) (hv1 : cont v = false) :
    Calls Tryz.prog 76 #[.string s, .int .i64 a] w fun e w' => e = .returned noV ∧ w = w' := by
  have hk : a < s.size := (at1_in s a).1 (by omega)
  have hi := fun W => idx_run s a hk W
  rw [hc] at hi
  have hlt2 : (a : Int) < (s.size : Int) := by omega
  have hlt3 : ¬ ((s.size : Int) ≤ (a : Int)) := by omega
  have ha0 : (0 : Int) ≤ a := by omega
  have hcn : decide (c < 128) = false := by simp; omega
  have g1 : (bits BinOp.and .u8 c 224 == 192) = false := by rw [and224 c (by omega) (by omega)]; simp; omega
  have g2 : bits BinOp.and .u8 c 240 = 224 := by rw [and240 c (by omega) (by omega)]; omega
  have g3 : bits BinOp.and .u8 c 15 = C := by rw [and15 c (by omega) (by omega)]; omega
  have fv := fun w => follow_no s (a + 1) v hv hv1 w
  rw [show ((a + 1 : Nat) : Int) = (a : Int) + 1 from by omega] at fv
  clear hk hc hv hv1
  clear hC
  go_enter Tryz.func76, Tryz.ntmps76
  go_wp2
  refine wp_loop_rounds 1 ?_
  repeat any_goals (rw [rounds_succ]; go_wp2_with (first
    | (go_at_call 112; with_reducible refine (fv _).mono ?_; rintro e w1 ⟨rfl, rfl⟩)    ))
  go_ret3
  exact ⟨rfl, rfl⟩
theorem first3_bad1 (s : ByteArray) (a : Nat) (c C : Int) (X : Int) (v : Int) (w : World) (ha : a ≤ 140737488351232) (hc : at1 s a = c) (hC : c = 224 + C) (bC0 : 0 ≤ C) (bC1 : C ≤ 15) (hX : at1 s (a + 1) = 128 + X) (bX0 : 0 ≤ X) (bX1 : X ≤ 63) (hv : at1 s (a + 2) = v) (hv1 : cont v = false) :
    Calls Tryz.prog 76 #[.string s, .int .i64 a] w fun e w' => e = .returned noV ∧ w = w' := by
  have hk : a < s.size := (at1_in s a).1 (by omega)
  have hi := fun W => idx_run s a hk W
  rw [hc] at hi
  have hlt2 : (a : Int) < (s.size : Int) := by omega
  have hlt3 : ¬ ((s.size : Int) ≤ (a : Int)) := by omega
  have ha0 : (0 : Int) ≤ a := by omega
  have hcn : decide (c < 128) = false := by simp; omega
  have g1 : (bits BinOp.and .u8 c 224 == 192) = false := by rw [and224 c (by omega) (by omega)]; simp; omega
  have g2 : bits BinOp.and .u8 c 240 = 224 := by rw [and240 c (by omega) (by omega)]; omega
  have g3 : bits BinOp.and .u8 c 15 = C := by rw [and15 c (by omega) (by omega)]; omega
  have fX := fun w => follow_yes s (a + 1) (128 + X) hX (by omega) (by omega) w
  rw [show 128 + X - 128 = X from by omega, show ((a + 1 : Nat) : Int) = (a : Int) + 1 from by omega] at fX
  have fv := fun w => follow_no s (a + 2) v hv hv1 w
  rw [show ((a + 2 : Nat) : Int) = (a : Int) + 2 from by omega] at fv
  have oX := or6 C X (by omega) (by omega) (by omega) (by omega)
  clear hk hc hX hv hv1
  clear hC
  go_enter Tryz.func76, Tryz.ntmps76
  go_wp2
  refine wp_loop_rounds 2 ?_
  repeat any_goals (rw [rounds_succ]; go_wp2_with (first
    | (go_at_call 112; with_reducible refine (fX _).mono ?_; rintro e w1 ⟨rfl, rfl⟩)
    | (go_at_call 112; with_reducible refine (fv _).mono ?_; rintro e w1 ⟨rfl, rfl⟩)    ))
  go_ret3
  exact ⟨rfl, rfl⟩
theorem first3_low (s : ByteArray) (a : Nat) (c C : Int) (X : Int) (Y : Int) (w : World) (ha : a ≤ 140737488351232) (hc : at1 s a = c) (hC : c = 224 + C) (bC0 : 0 ≤ C) (bC1 : C ≤ 15) (hX : at1 s (a + 1) = 128 + X) (bX0 : 0 ≤ X) (bX1 : X ≤ 63) (hY : at1 s (a + 2) = 128 + Y) (bY0 : 0 ≤ Y) (bY1 : Y ≤ 63) (hp : ((C * 64 + X) * 64 + Y) < 2048) :
    Calls Tryz.prog 76 #[.string s, .int .i64 a] w fun e w' => e = .returned noV ∧ w = w' := by
  have hk : a < s.size := (at1_in s a).1 (by omega)
  have hi := fun W => idx_run s a hk W
  rw [hc] at hi
  have hlt2 : (a : Int) < (s.size : Int) := by omega
  have hlt3 : ¬ ((s.size : Int) ≤ (a : Int)) := by omega
  have ha0 : (0 : Int) ≤ a := by omega
  have hcn : decide (c < 128) = false := by simp; omega
  have g1 : (bits BinOp.and .u8 c 224 == 192) = false := by rw [and224 c (by omega) (by omega)]; simp; omega
  have g2 : bits BinOp.and .u8 c 240 = 224 := by rw [and240 c (by omega) (by omega)]; omega
  have g3 : bits BinOp.and .u8 c 15 = C := by rw [and15 c (by omega) (by omega)]; omega
  have fX := fun w => follow_yes s (a + 1) (128 + X) hX (by omega) (by omega) w
  rw [show 128 + X - 128 = X from by omega, show ((a + 1 : Nat) : Int) = (a : Int) + 1 from by omega] at fX
  have fY := fun w => follow_yes s (a + 2) (128 + Y) hY (by omega) (by omega) w
  rw [show 128 + Y - 128 = Y from by omega, show ((a + 2 : Nat) : Int) = (a : Int) + 2 from by omega] at fY
  have hp2 : decide (((C * 64 + X) * 64 + Y) < 2048) = true := by simp; omega
  have oX := or6 C X (by omega) (by omega) (by omega) (by omega)
  have oY := or6 (C * 64 + X) Y (by omega) (by omega) (by omega) (by omega)
  clear hk hc hX hY hp
  clear hC
  go_enter Tryz.func76, Tryz.ntmps76
  go_wp2
  refine wp_loop_rounds 3 ?_
  repeat any_goals (rw [rounds_succ]; go_wp2_with (first
    | (go_at_call 112; with_reducible refine (fX _).mono ?_; rintro e w1 ⟨rfl, rfl⟩)
    | (go_at_call 112; with_reducible refine (fY _).mono ?_; rintro e w1 ⟨rfl, rfl⟩)    ))
  go_ret3
  exact ⟨rfl, rfl⟩
theorem first3_pt (s : ByteArray) (a : Nat) (c C : Int) (X : Int) (Y : Int) (w : World) (ha : a ≤ 140737488351232) (hc : at1 s a = c) (hC : c = 224 + C) (bC0 : 0 ≤ C) (bC1 : C ≤ 15) (hX : at1 s (a + 1) = 128 + X) (bX0 : 0 ≤ X) (bX1 : X ≤ 63) (hY : at1 s (a + 2) = 128 + Y) (bY0 : 0 ≤ Y) (bY1 : Y ≤ 63) (hp : 2048 ≤ ((C * 64 + X) * 64 + Y)) (hq : isPt ((C * 64 + X) * 64 + Y) = false) :
    Calls Tryz.prog 76 #[.string s, .int .i64 a] w fun e w' => e = .returned noV ∧ w = w' := by
  have hk : a < s.size := (at1_in s a).1 (by omega)
  have hi := fun W => idx_run s a hk W
  rw [hc] at hi
  have hlt2 : (a : Int) < (s.size : Int) := by omega
  have hlt3 : ¬ ((s.size : Int) ≤ (a : Int)) := by omega
  have ha0 : (0 : Int) ≤ a := by omega
  have hcn : decide (c < 128) = false := by simp; omega
  have g1 : (bits BinOp.and .u8 c 224 == 192) = false := by rw [and224 c (by omega) (by omega)]; simp; omega
  have g2 : bits BinOp.and .u8 c 240 = 224 := by rw [and240 c (by omega) (by omega)]; omega
  have g3 : bits BinOp.and .u8 c 15 = C := by rw [and15 c (by omega) (by omega)]; omega
  have fX := fun w => follow_yes s (a + 1) (128 + X) hX (by omega) (by omega) w
  rw [show 128 + X - 128 = X from by omega, show ((a + 1 : Nat) : Int) = (a : Int) + 1 from by omega] at fX
  have fY := fun w => follow_yes s (a + 2) (128 + Y) hY (by omega) (by omega) w
  rw [show 128 + Y - 128 = Y from by omega, show ((a + 2 : Nat) : Int) = (a : Int) + 2 from by omega] at fY
  have hp2 : decide (((C * 64 + X) * 64 + Y) < 2048) = false := by simp; omega
  have pt := fun w => point_any ((C * 64 + X) * 64 + Y) w
  rw [hq] at pt
  have oX := or6 C X (by omega) (by omega) (by omega) (by omega)
  have oY := or6 (C * 64 + X) Y (by omega) (by omega) (by omega) (by omega)
  clear hk hc hX hY hq hp
  clear hC
  go_enter Tryz.func76, Tryz.ntmps76
  go_wp2
  refine wp_loop_rounds 3 ?_
  repeat any_goals (rw [rounds_succ]; go_wp2_with (first
    | (go_at_call 112; with_reducible refine (fX _).mono ?_; rintro e w1 ⟨rfl, rfl⟩)
    | (go_at_call 112; with_reducible refine (fY _).mono ?_; rintro e w1 ⟨rfl, rfl⟩)
    | (go_at_call 30; refine (pt _).mono ?_; rintro e w1 ⟨rfl, rfl⟩)    ))
  go_ret3
  exact ⟨rfl, rfl⟩
theorem first3_yes (s : ByteArray) (a : Nat) (c C : Int) (X : Int) (Y : Int) (w : World) (ha : a ≤ 140737488351232) (hc : at1 s a = c) (hC : c = 224 + C) (bC0 : 0 ≤ C) (bC1 : C ≤ 15) (hX : at1 s (a + 1) = 128 + X) (bX0 : 0 ≤ X) (bX1 : X ≤ 63) (hY : at1 s (a + 2) = 128 + Y) (bY0 : 0 ≤ Y) (bY1 : Y ≤ 63) (hp : 2048 ≤ ((C * 64 + X) * 64 + Y)) (hq : isPt ((C * 64 + X) * 64 + Y) = true) :
    Calls Tryz.prog 76 #[.string s, .int .i64 a] w fun e w' => e = .returned (yesV ((C * 64 + X) * 64 + Y) 3) ∧ w = w' := by
  have hk : a < s.size := (at1_in s a).1 (by omega)
  have hi := fun W => idx_run s a hk W
  rw [hc] at hi
  have hlt2 : (a : Int) < (s.size : Int) := by omega
  have hlt3 : ¬ ((s.size : Int) ≤ (a : Int)) := by omega
  have ha0 : (0 : Int) ≤ a := by omega
  have hcn : decide (c < 128) = false := by simp; omega
  have g1 : (bits BinOp.and .u8 c 224 == 192) = false := by rw [and224 c (by omega) (by omega)]; simp; omega
  have g2 : bits BinOp.and .u8 c 240 = 224 := by rw [and240 c (by omega) (by omega)]; omega
  have g3 : bits BinOp.and .u8 c 15 = C := by rw [and15 c (by omega) (by omega)]; omega
  have fX := fun w => follow_yes s (a + 1) (128 + X) hX (by omega) (by omega) w
  rw [show 128 + X - 128 = X from by omega, show ((a + 1 : Nat) : Int) = (a : Int) + 1 from by omega] at fX
  have fY := fun w => follow_yes s (a + 2) (128 + Y) hY (by omega) (by omega) w
  rw [show 128 + Y - 128 = Y from by omega, show ((a + 2 : Nat) : Int) = (a : Int) + 2 from by omega] at fY
  have hp2 : decide (((C * 64 + X) * 64 + Y) < 2048) = false := by simp; omega
  have pt := fun w => point_any ((C * 64 + X) * 64 + Y) w
  rw [hq] at pt
  have oX := or6 C X (by omega) (by omega) (by omega) (by omega)
  have oY := or6 (C * 64 + X) Y (by omega) (by omega) (by omega) (by omega)
  clear hk hc hX hY hq hp
  clear hC
  go_enter Tryz.func76, Tryz.ntmps76
  go_wp2
  refine wp_loop_rounds 3 ?_
  repeat any_goals (rw [rounds_succ]; go_wp2_with (first
    | (go_at_call 112; with_reducible refine (fX _).mono ?_; rintro e w1 ⟨rfl, rfl⟩)
    | (go_at_call 112; with_reducible refine (fY _).mono ?_; rintro e w1 ⟨rfl, rfl⟩)
    | (go_at_call 30; refine (pt _).mono ?_; rintro e w1 ⟨rfl, rfl⟩)    ))
  go_ret3
  exact ⟨rfl, rfl⟩
theorem first4_bad0 (s : ByteArray) (a : Nat) (c C : Int) (v : Int) (w : World) (ha : a ≤ 140737488351232) (hc : at1 s a = c) (hC : c = 240 + C) (bC0 : 0 ≤ C) (bC1 : C ≤ 7) (hv : at1 s (a + 1) = v) (hv1 : cont v = false) :
    Calls Tryz.prog 76 #[.string s, .int .i64 a] w fun e w' => e = .returned noV ∧ w = w' := by
  have hk : a < s.size := (at1_in s a).1 (by omega)
  have hi := fun W => idx_run s a hk W
  rw [hc] at hi
  have hlt2 : (a : Int) < (s.size : Int) := by omega
  have hlt3 : ¬ ((s.size : Int) ≤ (a : Int)) := by omega
  have ha0 : (0 : Int) ≤ a := by omega
  have hcn : decide (c < 128) = false := by simp; omega
  have g1 : (bits BinOp.and .u8 c 224 == 192) = false := by rw [and224 c (by omega) (by omega)]; simp; omega
  have g2 : (bits BinOp.and .u8 c 240 == 224) = false := by rw [and240 c (by omega) (by omega)]; simp; omega
  have g3 : bits BinOp.and .u8 c 248 = 240 := by rw [and248 c (by omega) (by omega)]; omega
  have g4 : bits BinOp.and .u8 c 7 = C := by rw [and7 c (by omega) (by omega)]; omega
  have fv := fun w => follow_no s (a + 1) v hv hv1 w
  rw [show ((a + 1 : Nat) : Int) = (a : Int) + 1 from by omega] at fv
  clear hk hc hv hv1
  clear hC
  go_enter Tryz.func76, Tryz.ntmps76
  go_wp2
  refine wp_loop_rounds 1 ?_
  repeat any_goals (rw [rounds_succ]; go_wp2_with (first
    | (go_at_call 112; with_reducible refine (fv _).mono ?_; rintro e w1 ⟨rfl, rfl⟩)    ))
  go_ret3
  exact ⟨rfl, rfl⟩
theorem first4_bad1 (s : ByteArray) (a : Nat) (c C : Int) (X : Int) (v : Int) (w : World) (ha : a ≤ 140737488351232) (hc : at1 s a = c) (hC : c = 240 + C) (bC0 : 0 ≤ C) (bC1 : C ≤ 7) (hX : at1 s (a + 1) = 128 + X) (bX0 : 0 ≤ X) (bX1 : X ≤ 63) (hv : at1 s (a + 2) = v) (hv1 : cont v = false) :
    Calls Tryz.prog 76 #[.string s, .int .i64 a] w fun e w' => e = .returned noV ∧ w = w' := by
  have hk : a < s.size := (at1_in s a).1 (by omega)
  have hi := fun W => idx_run s a hk W
  rw [hc] at hi
  have hlt2 : (a : Int) < (s.size : Int) := by omega
  have hlt3 : ¬ ((s.size : Int) ≤ (a : Int)) := by omega
  have ha0 : (0 : Int) ≤ a := by omega
  have hcn : decide (c < 128) = false := by simp; omega
  have g1 : (bits BinOp.and .u8 c 224 == 192) = false := by rw [and224 c (by omega) (by omega)]; simp; omega
  have g2 : (bits BinOp.and .u8 c 240 == 224) = false := by rw [and240 c (by omega) (by omega)]; simp; omega
  have g3 : bits BinOp.and .u8 c 248 = 240 := by rw [and248 c (by omega) (by omega)]; omega
  have g4 : bits BinOp.and .u8 c 7 = C := by rw [and7 c (by omega) (by omega)]; omega
  have fX := fun w => follow_yes s (a + 1) (128 + X) hX (by omega) (by omega) w
  rw [show 128 + X - 128 = X from by omega, show ((a + 1 : Nat) : Int) = (a : Int) + 1 from by omega] at fX
  have fv := fun w => follow_no s (a + 2) v hv hv1 w
  rw [show ((a + 2 : Nat) : Int) = (a : Int) + 2 from by omega] at fv
  have oX := or6 C X (by omega) (by omega) (by omega) (by omega)
  clear hk hc hX hv hv1
  clear hC
  go_enter Tryz.func76, Tryz.ntmps76
  go_wp2
  refine wp_loop_rounds 2 ?_
  repeat any_goals (rw [rounds_succ]; go_wp2_with (first
    | (go_at_call 112; with_reducible refine (fX _).mono ?_; rintro e w1 ⟨rfl, rfl⟩)
    | (go_at_call 112; with_reducible refine (fv _).mono ?_; rintro e w1 ⟨rfl, rfl⟩)    ))
  go_ret3
  exact ⟨rfl, rfl⟩
theorem first4_bad2 (s : ByteArray) (a : Nat) (c C : Int) (X : Int) (Y : Int) (v : Int) (w : World) (ha : a ≤ 140737488351232) (hc : at1 s a = c) (hC : c = 240 + C) (bC0 : 0 ≤ C) (bC1 : C ≤ 7) (hX : at1 s (a + 1) = 128 + X) (bX0 : 0 ≤ X) (bX1 : X ≤ 63) (hY : at1 s (a + 2) = 128 + Y) (bY0 : 0 ≤ Y) (bY1 : Y ≤ 63) (hv : at1 s (a + 3) = v) (hv1 : cont v = false) :
    Calls Tryz.prog 76 #[.string s, .int .i64 a] w fun e w' => e = .returned noV ∧ w = w' := by
  have hk : a < s.size := (at1_in s a).1 (by omega)
  have hi := fun W => idx_run s a hk W
  rw [hc] at hi
  have hlt2 : (a : Int) < (s.size : Int) := by omega
  have hlt3 : ¬ ((s.size : Int) ≤ (a : Int)) := by omega
  have ha0 : (0 : Int) ≤ a := by omega
  have hcn : decide (c < 128) = false := by simp; omega
  have g1 : (bits BinOp.and .u8 c 224 == 192) = false := by rw [and224 c (by omega) (by omega)]; simp; omega
  have g2 : (bits BinOp.and .u8 c 240 == 224) = false := by rw [and240 c (by omega) (by omega)]; simp; omega
  have g3 : bits BinOp.and .u8 c 248 = 240 := by rw [and248 c (by omega) (by omega)]; omega
  have g4 : bits BinOp.and .u8 c 7 = C := by rw [and7 c (by omega) (by omega)]; omega
  have fX := fun w => follow_yes s (a + 1) (128 + X) hX (by omega) (by omega) w
  rw [show 128 + X - 128 = X from by omega, show ((a + 1 : Nat) : Int) = (a : Int) + 1 from by omega] at fX
  have fY := fun w => follow_yes s (a + 2) (128 + Y) hY (by omega) (by omega) w
  rw [show 128 + Y - 128 = Y from by omega, show ((a + 2 : Nat) : Int) = (a : Int) + 2 from by omega] at fY
  have fv := fun w => follow_no s (a + 3) v hv hv1 w
  rw [show ((a + 3 : Nat) : Int) = (a : Int) + 3 from by omega] at fv
  have oX := or6 C X (by omega) (by omega) (by omega) (by omega)
  have oY := or6 (C * 64 + X) Y (by omega) (by omega) (by omega) (by omega)
  clear hk hc hX hY hv hv1
  clear hC
  go_enter Tryz.func76, Tryz.ntmps76
  go_wp2
  refine wp_loop_rounds 3 ?_
  repeat any_goals (rw [rounds_succ]; go_wp2_with (first
    | (go_at_call 112; with_reducible refine (fX _).mono ?_; rintro e w1 ⟨rfl, rfl⟩)
    | (go_at_call 112; with_reducible refine (fY _).mono ?_; rintro e w1 ⟨rfl, rfl⟩)
    | (go_at_call 112; with_reducible refine (fv _).mono ?_; rintro e w1 ⟨rfl, rfl⟩)    ))
  go_ret3
  exact ⟨rfl, rfl⟩
theorem first4_low (s : ByteArray) (a : Nat) (c C : Int) (X : Int) (Y : Int) (Z : Int) (w : World) (ha : a ≤ 140737488351232) (hc : at1 s a = c) (hC : c = 240 + C) (bC0 : 0 ≤ C) (bC1 : C ≤ 7) (hX : at1 s (a + 1) = 128 + X) (bX0 : 0 ≤ X) (bX1 : X ≤ 63) (hY : at1 s (a + 2) = 128 + Y) (bY0 : 0 ≤ Y) (bY1 : Y ≤ 63) (hZ : at1 s (a + 3) = 128 + Z) (bZ0 : 0 ≤ Z) (bZ1 : Z ≤ 63) (hp : (((C * 64 + X) * 64 + Y) * 64 + Z) < 65536) :
    Calls Tryz.prog 76 #[.string s, .int .i64 a] w fun e w' => e = .returned noV ∧ w = w' := by
  have hk : a < s.size := (at1_in s a).1 (by omega)
  have hi := fun W => idx_run s a hk W
  rw [hc] at hi
  have hlt2 : (a : Int) < (s.size : Int) := by omega
  have hlt3 : ¬ ((s.size : Int) ≤ (a : Int)) := by omega
  have ha0 : (0 : Int) ≤ a := by omega
  have hcn : decide (c < 128) = false := by simp; omega
  have g1 : (bits BinOp.and .u8 c 224 == 192) = false := by rw [and224 c (by omega) (by omega)]; simp; omega
  have g2 : (bits BinOp.and .u8 c 240 == 224) = false := by rw [and240 c (by omega) (by omega)]; simp; omega
  have g3 : bits BinOp.and .u8 c 248 = 240 := by rw [and248 c (by omega) (by omega)]; omega
  have g4 : bits BinOp.and .u8 c 7 = C := by rw [and7 c (by omega) (by omega)]; omega
  have fX := fun w => follow_yes s (a + 1) (128 + X) hX (by omega) (by omega) w
  rw [show 128 + X - 128 = X from by omega, show ((a + 1 : Nat) : Int) = (a : Int) + 1 from by omega] at fX
  have fY := fun w => follow_yes s (a + 2) (128 + Y) hY (by omega) (by omega) w
  rw [show 128 + Y - 128 = Y from by omega, show ((a + 2 : Nat) : Int) = (a : Int) + 2 from by omega] at fY
  have fZ := fun w => follow_yes s (a + 3) (128 + Z) hZ (by omega) (by omega) w
  rw [show 128 + Z - 128 = Z from by omega, show ((a + 3 : Nat) : Int) = (a : Int) + 3 from by omega] at fZ
  have hp2 : decide ((((C * 64 + X) * 64 + Y) * 64 + Z) < 65536) = true := by simp; omega
  have oX := or6 C X (by omega) (by omega) (by omega) (by omega)
  have oY := or6 (C * 64 + X) Y (by omega) (by omega) (by omega) (by omega)
  have oZ := or6 ((C * 64 + X) * 64 + Y) Z (by omega) (by omega) (by omega) (by omega)
  clear hk hc hX hY hZ hp
  clear hC
  go_enter Tryz.func76, Tryz.ntmps76
  go_wp2
  refine wp_loop_rounds 4 ?_
  repeat any_goals (rw [rounds_succ]; go_wp2_with (first
    | (go_at_call 112; with_reducible refine (fX _).mono ?_; rintro e w1 ⟨rfl, rfl⟩)
    | (go_at_call 112; with_reducible refine (fY _).mono ?_; rintro e w1 ⟨rfl, rfl⟩)
    | (go_at_call 112; with_reducible refine (fZ _).mono ?_; rintro e w1 ⟨rfl, rfl⟩)    ))
  go_ret3
  exact ⟨rfl, rfl⟩
theorem first4_pt (s : ByteArray) (a : Nat) (c C : Int) (X : Int) (Y : Int) (Z : Int) (w : World) (ha : a ≤ 140737488351232) (hc : at1 s a = c) (hC : c = 240 + C) (bC0 : 0 ≤ C) (bC1 : C ≤ 7) (hX : at1 s (a + 1) = 128 + X) (bX0 : 0 ≤ X) (bX1 : X ≤ 63) (hY : at1 s (a + 2) = 128 + Y) (bY0 : 0 ≤ Y) (bY1 : Y ≤ 63) (hZ : at1 s (a + 3) = 128 + Z) (bZ0 : 0 ≤ Z) (bZ1 : Z ≤ 63) (hp : 65536 ≤ (((C * 64 + X) * 64 + Y) * 64 + Z)) (hq : isPt (((C * 64 + X) * 64 + Y) * 64 + Z) = false) :
    Calls Tryz.prog 76 #[.string s, .int .i64 a] w fun e w' => e = .returned noV ∧ w = w' := by
  have hk : a < s.size := (at1_in s a).1 (by omega)
  have hi := fun W => idx_run s a hk W
  rw [hc] at hi
  have hlt2 : (a : Int) < (s.size : Int) := by omega
  have hlt3 : ¬ ((s.size : Int) ≤ (a : Int)) := by omega
  have ha0 : (0 : Int) ≤ a := by omega
  have hcn : decide (c < 128) = false := by simp; omega
  have g1 : (bits BinOp.and .u8 c 224 == 192) = false := by rw [and224 c (by omega) (by omega)]; simp; omega
  have g2 : (bits BinOp.and .u8 c 240 == 224) = false := by rw [and240 c (by omega) (by omega)]; simp; omega
  have g3 : bits BinOp.and .u8 c 248 = 240 := by rw [and248 c (by omega) (by omega)]; omega
  have g4 : bits BinOp.and .u8 c 7 = C := by rw [and7 c (by omega) (by omega)]; omega
  have fX := fun w => follow_yes s (a + 1) (128 + X) hX (by omega) (by omega) w
  rw [show 128 + X - 128 = X from by omega, show ((a + 1 : Nat) : Int) = (a : Int) + 1 from by omega] at fX
  have fY := fun w => follow_yes s (a + 2) (128 + Y) hY (by omega) (by omega) w
  rw [show 128 + Y - 128 = Y from by omega, show ((a + 2 : Nat) : Int) = (a : Int) + 2 from by omega] at fY
  have fZ := fun w => follow_yes s (a + 3) (128 + Z) hZ (by omega) (by omega) w
  rw [show 128 + Z - 128 = Z from by omega, show ((a + 3 : Nat) : Int) = (a : Int) + 3 from by omega] at fZ
  have hp2 : decide ((((C * 64 + X) * 64 + Y) * 64 + Z) < 65536) = false := by simp; omega
  have pt := fun w => point_any (((C * 64 + X) * 64 + Y) * 64 + Z) w
  rw [hq] at pt
  have oX := or6 C X (by omega) (by omega) (by omega) (by omega)
  have oY := or6 (C * 64 + X) Y (by omega) (by omega) (by omega) (by omega)
  have oZ := or6 ((C * 64 + X) * 64 + Y) Z (by omega) (by omega) (by omega) (by omega)
  clear hk hc hX hY hZ hq hp
  clear hC
  go_enter Tryz.func76, Tryz.ntmps76
  go_wp2
  refine wp_loop_rounds 4 ?_
  repeat any_goals (rw [rounds_succ]; go_wp2_with (first
    | (go_at_call 112; with_reducible refine (fX _).mono ?_; rintro e w1 ⟨rfl, rfl⟩)
    | (go_at_call 112; with_reducible refine (fY _).mono ?_; rintro e w1 ⟨rfl, rfl⟩)
    | (go_at_call 112; with_reducible refine (fZ _).mono ?_; rintro e w1 ⟨rfl, rfl⟩)
    | (go_at_call 30; refine (pt _).mono ?_; rintro e w1 ⟨rfl, rfl⟩)    ))
  go_ret3
  exact ⟨rfl, rfl⟩
theorem first4_yes (s : ByteArray) (a : Nat) (c C : Int) (X : Int) (Y : Int) (Z : Int) (w : World) (ha : a ≤ 140737488351232) (hc : at1 s a = c) (hC : c = 240 + C) (bC0 : 0 ≤ C) (bC1 : C ≤ 7) (hX : at1 s (a + 1) = 128 + X) (bX0 : 0 ≤ X) (bX1 : X ≤ 63) (hY : at1 s (a + 2) = 128 + Y) (bY0 : 0 ≤ Y) (bY1 : Y ≤ 63) (hZ : at1 s (a + 3) = 128 + Z) (bZ0 : 0 ≤ Z) (bZ1 : Z ≤ 63) (hp : 65536 ≤ (((C * 64 + X) * 64 + Y) * 64 + Z)) (hq : isPt (((C * 64 + X) * 64 + Y) * 64 + Z) = true) :
    Calls Tryz.prog 76 #[.string s, .int .i64 a] w fun e w' => e = .returned (yesV (((C * 64 + X) * 64 + Y) * 64 + Z) 4) ∧ w = w' := by
  have hk : a < s.size := (at1_in s a).1 (by omega)
  have hi := fun W => idx_run s a hk W
  rw [hc] at hi
  have hlt2 : (a : Int) < (s.size : Int) := by omega
  have hlt3 : ¬ ((s.size : Int) ≤ (a : Int)) := by omega
  have ha0 : (0 : Int) ≤ a := by omega
  have hcn : decide (c < 128) = false := by simp; omega
  have g1 : (bits BinOp.and .u8 c 224 == 192) = false := by rw [and224 c (by omega) (by omega)]; simp; omega
  have g2 : (bits BinOp.and .u8 c 240 == 224) = false := by rw [and240 c (by omega) (by omega)]; simp; omega
  have g3 : bits BinOp.and .u8 c 248 = 240 := by rw [and248 c (by omega) (by omega)]; omega
  have g4 : bits BinOp.and .u8 c 7 = C := by rw [and7 c (by omega) (by omega)]; omega
  have fX := fun w => follow_yes s (a + 1) (128 + X) hX (by omega) (by omega) w
  rw [show 128 + X - 128 = X from by omega, show ((a + 1 : Nat) : Int) = (a : Int) + 1 from by omega] at fX
  have fY := fun w => follow_yes s (a + 2) (128 + Y) hY (by omega) (by omega) w
  rw [show 128 + Y - 128 = Y from by omega, show ((a + 2 : Nat) : Int) = (a : Int) + 2 from by omega] at fY
  have fZ := fun w => follow_yes s (a + 3) (128 + Z) hZ (by omega) (by omega) w
  rw [show 128 + Z - 128 = Z from by omega, show ((a + 3 : Nat) : Int) = (a : Int) + 3 from by omega] at fZ
  have hp2 : decide ((((C * 64 + X) * 64 + Y) * 64 + Z) < 65536) = false := by simp; omega
  have pt := fun w => point_any (((C * 64 + X) * 64 + Y) * 64 + Z) w
  rw [hq] at pt
  have oX := or6 C X (by omega) (by omega) (by omega) (by omega)
  have oY := or6 (C * 64 + X) Y (by omega) (by omega) (by omega) (by omega)
  have oZ := or6 ((C * 64 + X) * 64 + Y) Z (by omega) (by omega) (by omega) (by omega)
  clear hk hc hX hY hZ hq hp
  clear hC
  go_enter Tryz.func76, Tryz.ntmps76
  go_wp2
  refine wp_loop_rounds 4 ?_
  repeat any_goals (rw [rounds_succ]; go_wp2_with (first
    | (go_at_call 112; with_reducible refine (fX _).mono ?_; rintro e w1 ⟨rfl, rfl⟩)
    | (go_at_call 112; with_reducible refine (fY _).mono ?_; rintro e w1 ⟨rfl, rfl⟩)
    | (go_at_call 112; with_reducible refine (fZ _).mono ?_; rintro e w1 ⟨rfl, rfl⟩)
    | (go_at_call 30; refine (pt _).mono ?_; rintro e w1 ⟨rfl, rfl⟩)    ))
  go_ret3
  exact ⟨rfl, rfl⟩
end Go.Proofs.YtolnnkalgioobaaGreatDoor
