/- Ua · Ub · Uc · Ud: merged. -/
import Derived.Test.YtcpkjmpbpmeclaaGreatDoorProg
import Derived.Test.YtcpkjmpbpmeclaaGreatDoorMab
import Derived.Handy
import Derived.BigQuiet
import Derived.Lib.Hide
import Derived.Laws.BytesArg
import Derived.OwnWalk
namespace Go.Proofs.YtcpkjmpbpmeclaaGreatDoor.Utf
open Go.RowKit
set_option maxRecDepth 100000
set_option linter.unusedVariables false
set_option linter.unusedSimpArgs false
set_option linter.unnecessarySimpa false

/-- The byte at a place; -1: the text has ended. -/
def at1 (s : ByteArray) (k : Nat) : Int := if h : k < s.size then ((s[k]'h).toNat : Int) else -1
theorem at1_range (s : ByteArray) (k : Nat) : -1 ≤ at1 s k ∧ at1 s k ≤ 255 := by
 unfold at1
 split
 ·rename_i h
  have := (s[k]'h).toNat_lt
  omega
 ·omega
theorem at1_in (s : ByteArray) (k : Nat) : 0 ≤ at1 s k ↔ k < s.size := by
 unfold at1
 split
 ·rename_i h
  constructor
  ·exact fun _ => h
  ·intro _; omega
 ·rename_i h
  constructor
  ·intro h2; omega
  ·intro h2; exact absurd h2 h
theorem idx_run (s : ByteArray) (k : Nat) (h : k < s.size) (W : World) : (Instr.index 9 (.string s) (.int .i64 (k : Int))).run Tryz.prog W = .ok (.int .u8 (at1 s k)) W := by
 rw [run_index_string W 9 s .i64 k Tryz.underlying9]
 unfold at1
 simp [h]
def cont (x : Int) : Bool := decide (128 ≤ x) && decide (x < 192)
def isPt (p : Int) : Bool := decide (0 ≤ p) && decide (p ≤ 1114111) && (decide (p < 55296) || decide (57343 < p))
def dec4 (c x y z : Int) : Option (Int × Nat) :=
 if c < 0 then none
 else if c < 128 then some (c, 1)
 else if c < 192 then none
 else if c < 224 then (if cont x then (if 128 ≤ (c - 192) * 64 + (x - 128) then some ((c - 192) * 64 + (x - 128), 2) else none) else none)
 else if c < 240 then (if cont x && cont y then (if decide (2048 ≤ ((c - 224) * 64 + (x - 128)) * 64 + (y - 128)) && isPt (((c - 224) * 64 + (x - 128)) * 64 + (y - 128)) then some (((c - 224) * 64 + (x - 128)) * 64 + (y - 128), 3) else none) else none)
 else if c < 248 then (if cont x && cont y && cont z then (if decide (65536 ≤ (((c - 240) * 64 + (x - 128)) * 64 + (y - 128)) * 64 + (z - 128)) && isPt ((((c - 240) * 64 + (x - 128)) * 64 + (y - 128)) * 64 + (z - 128)) then some ((((c - 240) * 64 + (x - 128)) * 64 + (y - 128)) * 64 + (z - 128), 4) else none) else none)
 else none
def decS (s : ByteArray) (a : Nat) : Option (Int × Nat) := dec4 (at1 s a) (at1 s (a + 1)) (at1 s (a + 2)) (at1 s (a + 3))

theorem u8_tab (P : Int → Bool) (h : ∀ n : Fin 256, P (n.val : Int) = true) (x : Int) (h0 : 0 ≤ x) (h1 : x ≤ 255) : P x = true := by
 obtain ⟨n, rfl⟩ := Int.eq_ofNat_of_zero_le h0
 exact h ⟨n, by omega⟩
theorem and192 (x : Int) (h0 : 0 ≤ x) (h1 : x ≤ 255) : bits BinOp.and .u8 x 192 = x / 64 * 64 := by
 have := u8_tab (fun x => decide (bits BinOp.and .u8 x 192 = x / 64 * 64)) (by decide) x h0 h1
 simpa using this
theorem and224 (x : Int) (h0 : 0 ≤ x) (h1 : x ≤ 255) : bits BinOp.and .u8 x 224 = x / 32 * 32 := by
 have := u8_tab (fun x => decide (bits BinOp.and .u8 x 224 = x / 32 * 32)) (by decide) x h0 h1
 simpa using this
theorem and240 (x : Int) (h0 : 0 ≤ x) (h1 : x ≤ 255) : bits BinOp.and .u8 x 240 = x / 16 * 16 := by
 have := u8_tab (fun x => decide (bits BinOp.and .u8 x 240 = x / 16 * 16)) (by decide) x h0 h1
 simpa using this
theorem and248 (x : Int) (h0 : 0 ≤ x) (h1 : x ≤ 255) : bits BinOp.and .u8 x 248 = x / 8 * 8 := by
 have := u8_tab (fun x => decide (bits BinOp.and .u8 x 248 = x / 8 * 8)) (by decide) x h0 h1
 simpa using this
theorem and31 (x : Int) (h0 : 0 ≤ x) (h1 : x ≤ 255) : bits BinOp.and .u8 x 31 = x % 32 := by
 have := u8_tab (fun x => decide (bits BinOp.and .u8 x 31 = x % 32)) (by decide) x h0 h1
 simpa using this
theorem and15 (x : Int) (h0 : 0 ≤ x) (h1 : x ≤ 255) : bits BinOp.and .u8 x 15 = x % 16 := by
 have := u8_tab (fun x => decide (bits BinOp.and .u8 x 15 = x % 16)) (by decide) x h0 h1
 simpa using this
theorem and7 (x : Int) (h0 : 0 ≤ x) (h1 : x ≤ 255) : bits BinOp.and .u8 x 7 = x % 8 := by
 have := u8_tab (fun x => decide (bits BinOp.and .u8 x 7 = x % 8)) (by decide) x h0 h1
 simpa using this
theorem and63 (x : Int) (h0 : 0 ≤ x) (h1 : x ≤ 255) : bits BinOp.and .u8 x 63 = x % 64 := by
 have := u8_tab (fun x => decide (bits BinOp.and .u8 x 63 = x % 64)) (by decide) x h0 h1
 simpa using this

theorem follow_yes (s : ByteArray) (k : Nat) (x : Int) (hx : at1 s k = x) (h0 : 128 ≤ x) (h1 : x < 192) (w : World) :
  Calls Tryz.prog 230 #[.string s, .int .i64 k] w fun e w' => e = .returned (.tuple #[.int .i32 (x - 128), .bool true]) ∧ w = w' := by
 have hk : k < s.size := (at1_in s k).1 (by omega)
 have hi := fun W => idx_run s k hk W
 rw [hx] at hi
 have hlt : ¬ ((s.size : Int) ≤ (k : Int)) := by omega
 have hlt2 : (k : Int) < (s.size : Int) := by omega
 have e1 := and192 x (by omega) (by omega)
 have e2 := and63 x (by omega) (by omega)
 have e3 : x / 64 * 64 = 128 := by omega
 have e4 : x % 64 = x - 128 := by omega
 rw [e3] at e1
 rw [e4] at e2
 clear hx hk e3 e4
 go_enter Tryz.func230, Tryz.ntmps230
 go_wp2
 go_ret2
 exact ⟨rfl, rfl⟩
theorem follow_no (s : ByteArray) (k : Nat) (x : Int) (hx : at1 s k = x) (h : cont x = false) (w : World) :
  Calls Tryz.prog 230 #[.string s, .int .i64 k] w fun e w' => e = .returned (.tuple #[.int .i32 0, .bool false]) ∧ w = w' := by
 by_cases hk : k < s.size
 ·have hi := fun W => idx_run s k hk W
  rw [hx] at hi
  have hr := at1_range s k
  have h0 := (at1_in s k).2 hk
  rw [hx] at hr h0
  have hlt : ¬ ((s.size : Int) ≤ (k : Int)) := by omega
  have hlt2 : (k : Int) < (s.size : Int) := by omega
  have e1 := and192 x (by omega) (by omega)
  have e3 : ((x / 64 * 64) == 128) = false := by simp [cont] at h ⊢; omega
  rw [← e1] at e3
  clear hx hk h hr
  go_enter Tryz.func230, Tryz.ntmps230
  go_wp2
  go_ret2
  exact ⟨rfl, rfl⟩
 ·have hlt : (s.size : Int) ≤ (k : Int) := by omega
  clear hx hk h
  go_enter Tryz.func230, Tryz.ntmps230
  go_wp2
  go_ret2
  exact ⟨rfl, rfl⟩
theorem point_any (p : Int) (w : World) : Calls Tryz.prog 231 #[.int .i32 p] w fun e w' => e = .returned (.bool (isPt p)) ∧ w = w' := by
 unfold isPt
 rcases h1 : decide (0 ≤ p) with _ | _ <;> rcases h2 : decide (p ≤ 1114111) with _ | _ <;> rcases h3 : decide (p < 55296) with _ | _ <;> rcases h4 : decide (57343 < p) with _ | _ <;> (go_enter Tryz.func231, Tryz.ntmps231; go_wp2; go_ret; exact ⟨rfl, rfl⟩)
end Go.Proofs.YtcpkjmpbpmeclaaGreatDoor.Utf
namespace Go.Proofs.YtcpkjmpbpmeclaaGreatDoor.Utf
open Go.RowKit
set_option maxRecDepth 100000
set_option linter.unusedVariables false
set_option linter.unusedSimpArgs false
set_option linter.unnecessarySimpa false

theorem wraps_i32 (n : Int) (h₀ : 0 ≤ n) (h₁ : n < 2 ^ 24) : IntKind.i32.wrap n = n := by
 rw [IntKind.wrap_i32]; omega
theorem or6 (x k : Int) (h0 : 0 ≤ x) (h1 : x < 262144) (k0 : 0 ≤ k) (k1 : k ≤ 63) : bits BinOp.or .i32 (x * 64) k = x * 64 + k :=
 bits_join .i32 24 (by decide) wraps_i32 6 _ _ (by omega) (by omega) (by omega) k0 (by omega) (by omega)

abbrev noV : Value := .tuple #[.int .i32 0, .int .i64 0, .bool false]
abbrev yesV (p n : Int) : Value := .tuple #[.int .i32 p, .int .i64 n, .bool true]

theorem first_out (s : ByteArray) (a : Int) (w : World) (h : a < 0 ∨ (s.size : Int) ≤ a) :
  Calls Tryz.prog 201 #[.string s, .int .i64 a] w fun e w' => e = .returned noV ∧ w = w' := by
 by_cases h0 : a < 0
 ·go_enter Tryz.func201, Tryz.ntmps201
  go_wp2
  go_ret3
  exact ⟨rfl, rfl⟩
 ·have h1 : (s.size : Int) ≤ a := by omega
  clear h
  go_enter Tryz.func201, Tryz.ntmps201
  go_wp2
  go_ret3
  exact ⟨rfl, rfl⟩
theorem first_low (s : ByteArray) (a : Nat) (c : Int) (w : World) (hc : at1 s a = c) (h0 : 0 ≤ c) (h1 : c < 128) :
  Calls Tryz.prog 201 #[.string s, .int .i64 a] w fun e w' => e = .returned (yesV c 1) ∧ w = w' := by
 have hk : a < s.size := (at1_in s a).1 (by omega)
 have hi := fun W => idx_run s a hk W
 rw [hc] at hi
 have hlt2 : (a : Int) < (s.size : Int) := by omega
 have hlt3 : ¬ ((s.size : Int) ≤ (a : Int)) := by omega
 have ha0 : (0 : Int) ≤ a := by omega
 clear hk hc
 go_enter Tryz.func201, Tryz.ntmps201
 go_wp2
 go_ret3
 exact ⟨rfl, rfl⟩
theorem first_none (s : ByteArray) (a : Nat) (c : Int) (w : World) (hc : at1 s a = c) (h : 128 ≤ c ∧ c < 192 ∨ 248 ≤ c) :
  Calls Tryz.prog 201 #[.string s, .int .i64 a] w fun e w' => e = .returned noV ∧ w = w' := by
 have hk : a < s.size := (at1_in s a).1 (by omega)
 have hr := at1_range s a
 have hi := fun W => idx_run s a hk W
 rw [hc] at hi hr
 have hlt2 : (a : Int) < (s.size : Int) := by omega
 have hlt3 : ¬ ((s.size : Int) ≤ (a : Int)) := by omega
 have ha0 : (0 : Int) ≤ a := by omega
 have hcn : decide (c < 128) = false := by simp; omega
 have g1 : (bits BinOp.and .u8 c 224 == 192) = false := by rw [and224 c (by omega) (by omega)]; simp; omega
 have g2 : (bits BinOp.and .u8 c 240 == 224) = false := by rw [and240 c (by omega) (by omega)]; simp; omega
 have g3 : (bits BinOp.and .u8 c 248 == 240) = false := by rw [and248 c (by omega) (by omega)]; simp; omega
 clear hk hc h
 go_enter Tryz.func201, Tryz.ntmps201
 go_wp2
 go_ret3
 exact ⟨rfl, rfl⟩
theorem first2_bad0 (s : ByteArray) (a : Nat) (c C : Int) (v : Int) (w : World) (ha : a ≤ 140737488351232) (hc : at1 s a = c) (hC : c = 192 + C) (bC0 : 0 ≤ C) (bC1 : C ≤ 31) (hv : at1 s (a + 1) = v) (hv1 : cont v = false) :
  Calls Tryz.prog 201 #[.string s, .int .i64 a] w fun e w' => e = .returned noV ∧ w = w' := by
 have hk : a < s.size := (at1_in s a).1 (by omega)
 have hi := fun W => idx_run s a hk W
 rw [hc] at hi
 have hlt2 : (a : Int) < (s.size : Int) := by omega
 have hlt3 : ¬ ((s.size : Int) ≤ (a : Int)) := by omega
 have ha0 : (0 : Int) ≤ a := by omega
 have hcn : decide (c < 128) = false := by simp; omega
 have g1 : bits BinOp.and .u8 c 224 = 192 := by rw [and224 c (by omega) (by omega)]; omega
 have g2 : bits BinOp.and .u8 c 31 = C := by rw [and31 c (by omega) (by omega)]; omega
 have fv := fun w => follow_no s (a + 1) v hv hv1 w
 rw [show ((a + 1 : Nat) : Int) = (a : Int) + 1 from by omega] at fv
 clear hk hc hv hv1
 clear hC
 go_enter Tryz.func201, Tryz.ntmps201
 go_wp2
 refine wp_loop_rounds 1 ?_
 repeat any_goals (rw [rounds_succ]; go_wp2_with (first
  | (go_at_call 230; with_reducible refine (fv _).mono ?_; rintro e w1 ⟨rfl, rfl⟩)    ))
 go_ret3
 exact ⟨rfl, rfl⟩
theorem first2_low (s : ByteArray) (a : Nat) (c C : Int) (X : Int) (w : World) (ha : a ≤ 140737488351232) (hc : at1 s a = c) (hC : c = 192 + C) (bC0 : 0 ≤ C) (bC1 : C ≤ 31) (hX : at1 s (a + 1) = 128 + X) (bX0 : 0 ≤ X) (bX1 : X ≤ 63) (hp : (C * 64 + X) < 128) :
  Calls Tryz.prog 201 #[.string s, .int .i64 a] w fun e w' => e = .returned noV ∧ w = w' := by
 have hk : a < s.size := (at1_in s a).1 (by omega)
 have hi := fun W => idx_run s a hk W
 rw [hc] at hi
 have hlt2 : (a : Int) < (s.size : Int) := by omega
 have hlt3 : ¬ ((s.size : Int) ≤ (a : Int)) := by omega
 have ha0 : (0 : Int) ≤ a := by omega
 have hcn : decide (c < 128) = false := by simp; omega
 have g1 : bits BinOp.and .u8 c 224 = 192 := by rw [and224 c (by omega) (by omega)]; omega
 have g2 : bits BinOp.and .u8 c 31 = C := by rw [and31 c (by omega) (by omega)]; omega
 have fX := fun w => follow_yes s (a + 1) (128 + X) hX (by omega) (by omega) w
 rw [show 128 + X - 128 = X from by omega, show ((a + 1 : Nat) : Int) = (a : Int) + 1 from by omega] at fX
 have hp2 : decide ((C * 64 + X) < 128) = true := by simp; omega
 have oX := or6 C X (by omega) (by omega) (by omega) (by omega)
 clear hk hc hX hp
 clear hC
 go_enter Tryz.func201, Tryz.ntmps201
 go_wp2
 refine wp_loop_rounds 2 ?_
 repeat any_goals (rw [rounds_succ]; go_wp2_with (first
  | (go_at_call 230; with_reducible refine (fX _).mono ?_; rintro e w1 ⟨rfl, rfl⟩)    ))
 go_ret3
 exact ⟨rfl, rfl⟩
theorem first2_yes (s : ByteArray) (a : Nat) (c C : Int) (X : Int) (w : World) (ha : a ≤ 140737488351232) (hc : at1 s a = c) (hC : c = 192 + C) (bC0 : 0 ≤ C) (bC1 : C ≤ 31) (hX : at1 s (a + 1) = 128 + X) (bX0 : 0 ≤ X) (bX1 : X ≤ 63) (hp : 128 ≤ (C * 64 + X)) :
  Calls Tryz.prog 201 #[.string s, .int .i64 a] w fun e w' => e = .returned (yesV (C * 64 + X) 2) ∧ w = w' := by
 have hk : a < s.size := (at1_in s a).1 (by omega)
 have hi := fun W => idx_run s a hk W
 rw [hc] at hi
 have hlt2 : (a : Int) < (s.size : Int) := by omega
 have hlt3 : ¬ ((s.size : Int) ≤ (a : Int)) := by omega
 have ha0 : (0 : Int) ≤ a := by omega
 have hcn : decide (c < 128) = false := by simp; omega
 have g1 : bits BinOp.and .u8 c 224 = 192 := by rw [and224 c (by omega) (by omega)]; omega
 have g2 : bits BinOp.and .u8 c 31 = C := by rw [and31 c (by omega) (by omega)]; omega
 have fX := fun w => follow_yes s (a + 1) (128 + X) hX (by omega) (by omega) w
 rw [show 128 + X - 128 = X from by omega, show ((a + 1 : Nat) : Int) = (a : Int) + 1 from by omega] at fX
 have hp2 : decide ((C * 64 + X) < 128) = false := by simp; omega
 have pt := fun w => point_any (C * 64 + X) w
 rw [show isPt (C * 64 + X) = true from by simp [isPt]; omega] at pt
 have oX := or6 C X (by omega) (by omega) (by omega) (by omega)
 clear hk hc hX hp
 clear hC
 go_enter Tryz.func201, Tryz.ntmps201
 go_wp2
 refine wp_loop_rounds 2 ?_
 repeat any_goals (rw [rounds_succ]; go_wp2_with (first
  | (go_at_call 230; with_reducible refine (fX _).mono ?_; rintro e w1 ⟨rfl, rfl⟩)
  | (go_at_call 231; refine (pt _).mono ?_; rintro e w1 ⟨rfl, rfl⟩)    ))
 go_ret3
 exact ⟨rfl, rfl⟩
theorem first3_bad0 (s : ByteArray) (a : Nat) (c C : Int) (v : Int) (w : World) (ha : a ≤ 140737488351232) (hc : at1 s a = c) (hC : c = 224 + C) (bC0 : 0 ≤ C) (bC1 : C ≤ 15) (hv : at1 s (a + 1) = v) (hv1 : cont v = false) :
  Calls Tryz.prog 201 #[.string s, .int .i64 a] w fun e w' => e = .returned noV ∧ w = w' := by
 have hk : a < s.size := (at1_in s a).1 (by omega)
 have hi := fun W => idx_run s a hk W
 rw [hc] at hi
 have hlt2 : (a : Int) < (s.size : Int) := by omega
 have hlt3 : ¬ ((s.size : Int) ≤ (a : Int)) := by omega
 have ha0 : (0 : Int) ≤ a := by omega
 have hcn : decide (c < 128) = false := by simp; omega
 have g1 : (bits BinOp.and .u8 c 224 == 192) = false := by rw [and224 c (by omega) (by omega)]; simp; omega
 have g2 : bits BinOp.and .u8 c 240 = 224 := by rw [and240 c (by omega) (by omega)]; omega
 have g3 : bits BinOp.and .u8 c 15 = C := by rw [and15 c (by omega) (by omega)]; omega
 have fv := fun w => follow_no s (a + 1) v hv hv1 w
 rw [show ((a + 1 : Nat) : Int) = (a : Int) + 1 from by omega] at fv
 clear hk hc hv hv1
 clear hC
 go_enter Tryz.func201, Tryz.ntmps201
 go_wp2
 refine wp_loop_rounds 1 ?_
 repeat any_goals (rw [rounds_succ]; go_wp2_with (first
  | (go_at_call 230; with_reducible refine (fv _).mono ?_; rintro e w1 ⟨rfl, rfl⟩)    ))
 go_ret3
 exact ⟨rfl, rfl⟩
theorem first3_bad1 (s : ByteArray) (a : Nat) (c C : Int) (X : Int) (v : Int) (w : World) (ha : a ≤ 140737488351232) (hc : at1 s a = c) (hC : c = 224 + C) (bC0 : 0 ≤ C) (bC1 : C ≤ 15) (hX : at1 s (a + 1) = 128 + X) (bX0 : 0 ≤ X) (bX1 : X ≤ 63) (hv : at1 s (a + 2) = v) (hv1 : cont v = false) :
  Calls Tryz.prog 201 #[.string s, .int .i64 a] w fun e w' => e = .returned noV ∧ w = w' := by
 have hk : a < s.size := (at1_in s a).1 (by omega)
 have hi := fun W => idx_run s a hk W
 rw [hc] at hi
 have hlt2 : (a : Int) < (s.size : Int) := by omega
 have hlt3 : ¬ ((s.size : Int) ≤ (a : Int)) := by omega
 have ha0 : (0 : Int) ≤ a := by omega
 have hcn : decide (c < 128) = false := by simp; omega
 have g1 : (bits BinOp.and .u8 c 224 == 192) = false := by rw [and224 c (by omega) (by omega)]; simp; omega
 have g2 : bits BinOp.and .u8 c 240 = 224 := by rw [and240 c (by omega) (by omega)]; omega
 have g3 : bits BinOp.and .u8 c 15 = C := by rw [and15 c (by omega) (by omega)]; omega
 have fX := fun w => follow_yes s (a + 1) (128 + X) hX (by omega) (by omega) w
 rw [show 128 + X - 128 = X from by omega, show ((a + 1 : Nat) : Int) = (a : Int) + 1 from by omega] at fX
 have fv := fun w => follow_no s (a + 2) v hv hv1 w
 rw [show ((a + 2 : Nat) : Int) = (a : Int) + 2 from by omega] at fv
 have oX := or6 C X (by omega) (by omega) (by omega) (by omega)
 clear hk hc hX hv hv1
 clear hC
 go_enter Tryz.func201, Tryz.ntmps201
 go_wp2
 refine wp_loop_rounds 2 ?_
 repeat any_goals (rw [rounds_succ]; go_wp2_with (first
  | (go_at_call 230; with_reducible refine (fX _).mono ?_; rintro e w1 ⟨rfl, rfl⟩)
  | (go_at_call 230; with_reducible refine (fv _).mono ?_; rintro e w1 ⟨rfl, rfl⟩)    ))
 go_ret3
 exact ⟨rfl, rfl⟩
theorem first3_low (s : ByteArray) (a : Nat) (c C : Int) (X : Int) (Y : Int) (w : World) (ha : a ≤ 140737488351232) (hc : at1 s a = c) (hC : c = 224 + C) (bC0 : 0 ≤ C) (bC1 : C ≤ 15) (hX : at1 s (a + 1) = 128 + X) (bX0 : 0 ≤ X) (bX1 : X ≤ 63) (hY : at1 s (a + 2) = 128 + Y) (bY0 : 0 ≤ Y) (bY1 : Y ≤ 63) (hp : ((C * 64 + X) * 64 + Y) < 2048) :
  Calls Tryz.prog 201 #[.string s, .int .i64 a] w fun e w' => e = .returned noV ∧ w = w' := by
 have hk : a < s.size := (at1_in s a).1 (by omega)
 have hi := fun W => idx_run s a hk W
 rw [hc] at hi
 have hlt2 : (a : Int) < (s.size : Int) := by omega
 have hlt3 : ¬ ((s.size : Int) ≤ (a : Int)) := by omega
 have ha0 : (0 : Int) ≤ a := by omega
 have hcn : decide (c < 128) = false := by simp; omega
 have g1 : (bits BinOp.and .u8 c 224 == 192) = false := by rw [and224 c (by omega) (by omega)]; simp; omega
 have g2 : bits BinOp.and .u8 c 240 = 224 := by rw [and240 c (by omega) (by omega)]; omega
 have g3 : bits BinOp.and .u8 c 15 = C := by rw [and15 c (by omega) (by omega)]; omega
 have fX := fun w => follow_yes s (a + 1) (128 + X) hX (by omega) (by omega) w
 rw [show 128 + X - 128 = X from by omega, show ((a + 1 : Nat) : Int) = (a : Int) + 1 from by omega] at fX
 have fY := fun w => follow_yes s (a + 2) (128 + Y) hY (by omega) (by omega) w
 rw [show 128 + Y - 128 = Y from by omega, show ((a + 2 : Nat) : Int) = (a : Int) + 2 from by omega] at fY
 have hp2 : decide (((C * 64 + X) * 64 + Y) < 2048) = true := by simp; omega
 have oX := or6 C X (by omega) (by omega) (by omega) (by omega)
 have oY := or6 (C * 64 + X) Y (by omega) (by omega) (by omega) (by omega)
 clear hk hc hX hY hp
 clear hC
 go_enter Tryz.func201, Tryz.ntmps201
 go_wp2
 refine wp_loop_rounds 3 ?_
 repeat any_goals (rw [rounds_succ]; go_wp2_with (first
  | (go_at_call 230; with_reducible refine (fX _).mono ?_; rintro e w1 ⟨rfl, rfl⟩)
  | (go_at_call 230; with_reducible refine (fY _).mono ?_; rintro e w1 ⟨rfl, rfl⟩)    ))
 go_ret3
 exact ⟨rfl, rfl⟩
theorem first3_pt (s : ByteArray) (a : Nat) (c C : Int) (X : Int) (Y : Int) (w : World) (ha : a ≤ 140737488351232) (hc : at1 s a = c) (hC : c = 224 + C) (bC0 : 0 ≤ C) (bC1 : C ≤ 15) (hX : at1 s (a + 1) = 128 + X) (bX0 : 0 ≤ X) (bX1 : X ≤ 63) (hY : at1 s (a + 2) = 128 + Y) (bY0 : 0 ≤ Y) (bY1 : Y ≤ 63) (hp : 2048 ≤ ((C * 64 + X) * 64 + Y)) (hq : isPt ((C * 64 + X) * 64 + Y) = false) :
  Calls Tryz.prog 201 #[.string s, .int .i64 a] w fun e w' => e = .returned noV ∧ w = w' := by
 have hk : a < s.size := (at1_in s a).1 (by omega)
 have hi := fun W => idx_run s a hk W
 rw [hc] at hi
 have hlt2 : (a : Int) < (s.size : Int) := by omega
 have hlt3 : ¬ ((s.size : Int) ≤ (a : Int)) := by omega
 have ha0 : (0 : Int) ≤ a := by omega
 have hcn : decide (c < 128) = false := by simp; omega
 have g1 : (bits BinOp.and .u8 c 224 == 192) = false := by rw [and224 c (by omega) (by omega)]; simp; omega
 have g2 : bits BinOp.and .u8 c 240 = 224 := by rw [and240 c (by omega) (by omega)]; omega
 have g3 : bits BinOp.and .u8 c 15 = C := by rw [and15 c (by omega) (by omega)]; omega
 have fX := fun w => follow_yes s (a + 1) (128 + X) hX (by omega) (by omega) w
 rw [show 128 + X - 128 = X from by omega, show ((a + 1 : Nat) : Int) = (a : Int) + 1 from by omega] at fX
 have fY := fun w => follow_yes s (a + 2) (128 + Y) hY (by omega) (by omega) w
 rw [show 128 + Y - 128 = Y from by omega, show ((a + 2 : Nat) : Int) = (a : Int) + 2 from by omega] at fY
 have hp2 : decide (((C * 64 + X) * 64 + Y) < 2048) = false := by simp; omega
 have pt := fun w => point_any ((C * 64 + X) * 64 + Y) w
 rw [hq] at pt
 have oX := or6 C X (by omega) (by omega) (by omega) (by omega)
 have oY := or6 (C * 64 + X) Y (by omega) (by omega) (by omega) (by omega)
 clear hk hc hX hY hq hp
 clear hC
 go_enter Tryz.func201, Tryz.ntmps201
 go_wp2
 refine wp_loop_rounds 3 ?_
 repeat any_goals (rw [rounds_succ]; go_wp2_with (first
  | (go_at_call 230; with_reducible refine (fX _).mono ?_; rintro e w1 ⟨rfl, rfl⟩)
  | (go_at_call 230; with_reducible refine (fY _).mono ?_; rintro e w1 ⟨rfl, rfl⟩)
  | (go_at_call 231; refine (pt _).mono ?_; rintro e w1 ⟨rfl, rfl⟩)    ))
 go_ret3
 exact ⟨rfl, rfl⟩
theorem first3_yes (s : ByteArray) (a : Nat) (c C : Int) (X : Int) (Y : Int) (w : World) (ha : a ≤ 140737488351232) (hc : at1 s a = c) (hC : c = 224 + C) (bC0 : 0 ≤ C) (bC1 : C ≤ 15) (hX : at1 s (a + 1) = 128 + X) (bX0 : 0 ≤ X) (bX1 : X ≤ 63) (hY : at1 s (a + 2) = 128 + Y) (bY0 : 0 ≤ Y) (bY1 : Y ≤ 63) (hp : 2048 ≤ ((C * 64 + X) * 64 + Y)) (hq : isPt ((C * 64 + X) * 64 + Y) = true) :
  Calls Tryz.prog 201 #[.string s, .int .i64 a] w fun e w' => e = .returned (yesV ((C * 64 + X) * 64 + Y) 3) ∧ w = w' := by
 have hk : a < s.size := (at1_in s a).1 (by omega)
 have hi := fun W => idx_run s a hk W
 rw [hc] at hi
 have hlt2 : (a : Int) < (s.size : Int) := by omega
 have hlt3 : ¬ ((s.size : Int) ≤ (a : Int)) := by omega
 have ha0 : (0 : Int) ≤ a := by omega
 have hcn : decide (c < 128) = false := by simp; omega
 have g1 : (bits BinOp.and .u8 c 224 == 192) = false := by rw [and224 c (by omega) (by omega)]; simp; omega
 have g2 : bits BinOp.and .u8 c 240 = 224 := by rw [and240 c (by omega) (by omega)]; omega
 have g3 : bits BinOp.and .u8 c 15 = C := by rw [and15 c (by omega) (by omega)]; omega
 have fX := fun w => follow_yes s (a + 1) (128 + X) hX (by omega) (by omega) w
 rw [show 128 + X - 128 = X from by omega, show ((a + 1 : Nat) : Int) = (a : Int) + 1 from by omega] at fX
 have fY := fun w => follow_yes s (a + 2) (128 + Y) hY (by omega) (by omega) w
 rw [show 128 + Y - 128 = Y from by omega, show ((a + 2 : Nat) : Int) = (a : Int) + 2 from by omega] at fY
 have hp2 : decide (((C * 64 + X) * 64 + Y) < 2048) = false := by simp; omega
 have pt := fun w => point_any ((C * 64 + X) * 64 + Y) w
 rw [hq] at pt
 have oX := or6 C X (by omega) (by omega) (by omega) (by omega)
 have oY := or6 (C * 64 + X) Y (by omega) (by omega) (by omega) (by omega)
 clear hk hc hX hY hq hp
 clear hC
 go_enter Tryz.func201, Tryz.ntmps201
 go_wp2
 refine wp_loop_rounds 3 ?_
 repeat any_goals (rw [rounds_succ]; go_wp2_with (first
  | (go_at_call 230; with_reducible refine (fX _).mono ?_; rintro e w1 ⟨rfl, rfl⟩)
  | (go_at_call 230; with_reducible refine (fY _).mono ?_; rintro e w1 ⟨rfl, rfl⟩)
  | (go_at_call 231; refine (pt _).mono ?_; rintro e w1 ⟨rfl, rfl⟩)    ))
 go_ret3
 exact ⟨rfl, rfl⟩
theorem first4_bad0 (s : ByteArray) (a : Nat) (c C : Int) (v : Int) (w : World) (ha : a ≤ 140737488351232) (hc : at1 s a = c) (hC : c = 240 + C) (bC0 : 0 ≤ C) (bC1 : C ≤ 7) (hv : at1 s (a + 1) = v) (hv1 : cont v = false) :
  Calls Tryz.prog 201 #[.string s, .int .i64 a] w fun e w' => e = .returned noV ∧ w = w' := by
 have hk : a < s.size := (at1_in s a).1 (by omega)
 have hi := fun W => idx_run s a hk W
 rw [hc] at hi
 have hlt2 : (a : Int) < (s.size : Int) := by omega
 have hlt3 : ¬ ((s.size : Int) ≤ (a : Int)) := by omega
 have ha0 : (0 : Int) ≤ a := by omega
 have hcn : decide (c < 128) = false := by simp; omega
 have g1 : (bits BinOp.and .u8 c 224 == 192) = false := by rw [and224 c (by omega) (by omega)]; simp; omega
 have g2 : (bits BinOp.and .u8 c 240 == 224) = false := by rw [and240 c (by omega) (by omega)]; simp; omega
 have g3 : bits BinOp.and .u8 c 248 = 240 := by rw [and248 c (by omega) (by omega)]; omega
 have g4 : bits BinOp.and .u8 c 7 = C := by rw [and7 c (by omega) (by omega)]; omega
 have fv := fun w => follow_no s (a + 1) v hv hv1 w
 rw [show ((a + 1 : Nat) : Int) = (a : Int) + 1 from by omega] at fv
 clear hk hc hv hv1
 clear hC
 go_enter Tryz.func201, Tryz.ntmps201
 go_wp2
 refine wp_loop_rounds 1 ?_
 repeat any_goals (rw [rounds_succ]; go_wp2_with (first
  | (go_at_call 230; with_reducible refine (fv _).mono ?_; rintro e w1 ⟨rfl, rfl⟩)    ))
 go_ret3
 exact ⟨rfl, rfl⟩
theorem first4_bad1 (s : ByteArray) (a : Nat) (c C : Int) (X : Int) (v : Int) (w : World) (ha : a ≤ 140737488351232) (hc : at1 s a = c) (hC : c = 240 + C) (bC0 : 0 ≤ C) (bC1 : C ≤ 7) (hX : at1 s (a + 1) = 128 + X) (bX0 : 0 ≤ X) (bX1 : X ≤ 63) (hv : at1 s (a + 2) = v) (hv1 : cont v = false) :
  Calls Tryz.prog 201 #[.string s, .int .i64 a] w fun e w' => e = .returned noV ∧ w = w' := by
 have hk : a < s.size := (at1_in s a).1 (by omega)
 have hi := fun W => idx_run s a hk W
 rw [hc] at hi
 have hlt2 : (a : Int) < (s.size : Int) := by omega
 have hlt3 : ¬ ((s.size : Int) ≤ (a : Int)) := by omega
 have ha0 : (0 : Int) ≤ a := by omega
 have hcn : decide (c < 128) = false := by simp; omega
 have g1 : (bits BinOp.and .u8 c 224 == 192) = false := by rw [and224 c (by omega) (by omega)]; simp; omega
 have g2 : (bits BinOp.and .u8 c 240 == 224) = false := by rw [and240 c (by omega) (by omega)]; simp; omega
 have g3 : bits BinOp.and .u8 c 248 = 240 := by rw [and248 c (by omega) (by omega)]; omega
 have g4 : bits BinOp.and .u8 c 7 = C := by rw [and7 c (by omega) (by omega)]; omega
 have fX := fun w => follow_yes s (a + 1) (128 + X) hX (by omega) (by omega) w
 rw [show 128 + X - 128 = X from by omega, show ((a + 1 : Nat) : Int) = (a : Int) + 1 from by omega] at fX
 have fv := fun w => follow_no s (a + 2) v hv hv1 w
 rw [show ((a + 2 : Nat) : Int) = (a : Int) + 2 from by omega] at fv
 have oX := or6 C X (by omega) (by omega) (by omega) (by omega)
 clear hk hc hX hv hv1
 clear hC
 go_enter Tryz.func201, Tryz.ntmps201
 go_wp2
 refine wp_loop_rounds 2 ?_
 repeat any_goals (rw [rounds_succ]; go_wp2_with (first
  | (go_at_call 230; with_reducible refine (fX _).mono ?_; rintro e w1 ⟨rfl, rfl⟩)
  | (go_at_call 230; with_reducible refine (fv _).mono ?_; rintro e w1 ⟨rfl, rfl⟩)    ))
 go_ret3
 exact ⟨rfl, rfl⟩
theorem first4_bad2 (s : ByteArray) (a : Nat) (c C : Int) (X : Int) (Y : Int) (v : Int) (w : World) (ha : a ≤ 140737488351232) (hc : at1 s a = c) (hC : c = 240 + C) (bC0 : 0 ≤ C) (bC1 : C ≤ 7) (hX : at1 s (a + 1) = 128 + X) (bX0 : 0 ≤ X) (bX1 : X ≤ 63) (hY : at1 s (a + 2) = 128 + Y) (bY0 : 0 ≤ Y) (bY1 : Y ≤ 63) (hv : at1 s (a + 3) = v) (hv1 : cont v = false) :
  Calls Tryz.prog 201 #[.string s, .int .i64 a] w fun e w' => e = .returned noV ∧ w = w' := by
 have hk : a < s.size := (at1_in s a).1 (by omega)
 have hi := fun W => idx_run s a hk W
 rw [hc] at hi
 have hlt2 : (a : Int) < (s.size : Int) := by omega
 have hlt3 : ¬ ((s.size : Int) ≤ (a : Int)) := by omega
 have ha0 : (0 : Int) ≤ a := by omega
 have hcn : decide (c < 128) = false := by simp; omega
 have g1 : (bits BinOp.and .u8 c 224 == 192) = false := by rw [and224 c (by omega) (by omega)]; simp; omega
 have g2 : (bits BinOp.and .u8 c 240 == 224) = false := by rw [and240 c (by omega) (by omega)]; simp; omega
 have g3 : bits BinOp.and .u8 c 248 = 240 := by rw [and248 c (by omega) (by omega)]; omega
 have g4 : bits BinOp.and .u8 c 7 = C := by rw [and7 c (by omega) (by omega)]; omega
 have fX := fun w => follow_yes s (a + 1) (128 + X) hX (by omega) (by omega) w
 rw [show 128 + X - 128 = X from by omega, show ((a + 1 : Nat) : Int) = (a : Int) + 1 from by omega] at fX
 have fY := fun w => follow_yes s (a + 2) (128 + Y) hY (by omega) (by omega) w
 rw [show 128 + Y - 128 = Y from by omega, show ((a + 2 : Nat) : Int) = (a : Int) + 2 from by omega] at fY
 have fv := fun w => follow_no s (a + 3) v hv hv1 w
 rw [show ((a + 3 : Nat) : Int) = (a : Int) + 3 from by omega] at fv
 have oX := or6 C X (by omega) (by omega) (by omega) (by omega)
 have oY := or6 (C * 64 + X) Y (by omega) (by omega) (by omega) (by omega)
 clear hk hc hX hY hv hv1
 clear hC
 go_enter Tryz.func201, Tryz.ntmps201
 go_wp2
 refine wp_loop_rounds 3 ?_
 repeat any_goals (rw [rounds_succ]; go_wp2_with (first
  | (go_at_call 230; with_reducible refine (fX _).mono ?_; rintro e w1 ⟨rfl, rfl⟩)
  | (go_at_call 230; with_reducible refine (fY _).mono ?_; rintro e w1 ⟨rfl, rfl⟩)
  | (go_at_call 230; with_reducible refine (fv _).mono ?_; rintro e w1 ⟨rfl, rfl⟩)    ))
 go_ret3
 exact ⟨rfl, rfl⟩
theorem first4_low (s : ByteArray) (a : Nat) (c C : Int) (X : Int) (Y : Int) (Z : Int) (w : World) (ha : a ≤ 140737488351232) (hc : at1 s a = c) (hC : c = 240 + C) (bC0 : 0 ≤ C) (bC1 : C ≤ 7) (hX : at1 s (a + 1) = 128 + X) (bX0 : 0 ≤ X) (bX1 : X ≤ 63) (hY : at1 s (a + 2) = 128 + Y) (bY0 : 0 ≤ Y) (bY1 : Y ≤ 63) (hZ : at1 s (a + 3) = 128 + Z) (bZ0 : 0 ≤ Z) (bZ1 : Z ≤ 63) (hp : (((C * 64 + X) * 64 + Y) * 64 + Z) < 65536) :
  Calls Tryz.prog 201 #[.string s, .int .i64 a] w fun e w' => e = .returned noV ∧ w = w' := by
 have hk : a < s.size := (at1_in s a).1 (by omega)
 have hi := fun W => idx_run s a hk W
 rw [hc] at hi
 have hlt2 : (a : Int) < (s.size : Int) := by omega
 have hlt3 : ¬ ((s.size : Int) ≤ (a : Int)) := by omega
 have ha0 : (0 : Int) ≤ a := by omega
 have hcn : decide (c < 128) = false := by simp; omega
 have g1 : (bits BinOp.and .u8 c 224 == 192) = false := by rw [and224 c (by omega) (by omega)]; simp; omega
 have g2 : (bits BinOp.and .u8 c 240 == 224) = false := by rw [and240 c (by omega) (by omega)]; simp; omega
 have g3 : bits BinOp.and .u8 c 248 = 240 := by rw [and248 c (by omega) (by omega)]; omega
 have g4 : bits BinOp.and .u8 c 7 = C := by rw [and7 c (by omega) (by omega)]; omega
 have fX := fun w => follow_yes s (a + 1) (128 + X) hX (by omega) (by omega) w
 rw [show 128 + X - 128 = X from by omega, show ((a + 1 : Nat) : Int) = (a : Int) + 1 from by omega] at fX
 have fY := fun w => follow_yes s (a + 2) (128 + Y) hY (by omega) (by omega) w
 rw [show 128 + Y - 128 = Y from by omega, show ((a + 2 : Nat) : Int) = (a : Int) + 2 from by omega] at fY
 have fZ := fun w => follow_yes s (a + 3) (128 + Z) hZ (by omega) (by omega) w
 rw [show 128 + Z - 128 = Z from by omega, show ((a + 3 : Nat) : Int) = (a : Int) + 3 from by omega] at fZ
 have hp2 : decide ((((C * 64 + X) * 64 + Y) * 64 + Z) < 65536) = true := by simp; omega
 have oX := or6 C X (by omega) (by omega) (by omega) (by omega)
 have oY := or6 (C * 64 + X) Y (by omega) (by omega) (by omega) (by omega)
 have oZ := or6 ((C * 64 + X) * 64 + Y) Z (by omega) (by omega) (by omega) (by omega)
 clear hk hc hX hY hZ hp
 clear hC
 go_enter Tryz.func201, Tryz.ntmps201
 go_wp2
 refine wp_loop_rounds 4 ?_
 repeat any_goals (rw [rounds_succ]; go_wp2_with (first
  | (go_at_call 230; with_reducible refine (fX _).mono ?_; rintro e w1 ⟨rfl, rfl⟩)
  | (go_at_call 230; with_reducible refine (fY _).mono ?_; rintro e w1 ⟨rfl, rfl⟩)
  | (go_at_call 230; with_reducible refine (fZ _).mono ?_; rintro e w1 ⟨rfl, rfl⟩)    ))
 go_ret3
 exact ⟨rfl, rfl⟩
theorem first4_pt (s : ByteArray) (a : Nat) (c C : Int) (X : Int) (Y : Int) (Z : Int) (w : World) (ha : a ≤ 140737488351232) (hc : at1 s a = c) (hC : c = 240 + C) (bC0 : 0 ≤ C) (bC1 : C ≤ 7) (hX : at1 s (a + 1) = 128 + X) (bX0 : 0 ≤ X) (bX1 : X ≤ 63) (hY : at1 s (a + 2) = 128 + Y) (bY0 : 0 ≤ Y) (bY1 : Y ≤ 63) (hZ : at1 s (a + 3) = 128 + Z) (bZ0 : 0 ≤ Z) (bZ1 : Z ≤ 63) (hp : 65536 ≤ (((C * 64 + X) * 64 + Y) * 64 + Z)) (hq : isPt (((C * 64 + X) * 64 + Y) * 64 + Z) = false) :
  Calls Tryz.prog 201 #[.string s, .int .i64 a] w fun e w' => e = .returned noV ∧ w = w' := by
 have hk : a < s.size := (at1_in s a).1 (by omega)
 have hi := fun W => idx_run s a hk W
 rw [hc] at hi
 have hlt2 : (a : Int) < (s.size : Int) := by omega
 have hlt3 : ¬ ((s.size : Int) ≤ (a : Int)) := by omega
 have ha0 : (0 : Int) ≤ a := by omega
 have hcn : decide (c < 128) = false := by simp; omega
 have g1 : (bits BinOp.and .u8 c 224 == 192) = false := by rw [and224 c (by omega) (by omega)]; simp; omega
 have g2 : (bits BinOp.and .u8 c 240 == 224) = false := by rw [and240 c (by omega) (by omega)]; simp; omega
 have g3 : bits BinOp.and .u8 c 248 = 240 := by rw [and248 c (by omega) (by omega)]; omega
 have g4 : bits BinOp.and .u8 c 7 = C := by rw [and7 c (by omega) (by omega)]; omega
 have fX := fun w => follow_yes s (a + 1) (128 + X) hX (by omega) (by omega) w
 rw [show 128 + X - 128 = X from by omega, show ((a + 1 : Nat) : Int) = (a : Int) + 1 from by omega] at fX
 have fY := fun w => follow_yes s (a + 2) (128 + Y) hY (by omega) (by omega) w
 rw [show 128 + Y - 128 = Y from by omega, show ((a + 2 : Nat) : Int) = (a : Int) + 2 from by omega] at fY
 have fZ := fun w => follow_yes s (a + 3) (128 + Z) hZ (by omega) (by omega) w
 rw [show 128 + Z - 128 = Z from by omega, show ((a + 3 : Nat) : Int) = (a : Int) + 3 from by omega] at fZ
 have hp2 : decide ((((C * 64 + X) * 64 + Y) * 64 + Z) < 65536) = false := by simp; omega
 have pt := fun w => point_any (((C * 64 + X) * 64 + Y) * 64 + Z) w
 rw [hq] at pt
 have oX := or6 C X (by omega) (by omega) (by omega) (by omega)
 have oY := or6 (C * 64 + X) Y (by omega) (by omega) (by omega) (by omega)
 have oZ := or6 ((C * 64 + X) * 64 + Y) Z (by omega) (by omega) (by omega) (by omega)
 clear hk hc hX hY hZ hq hp
 clear hC
 go_enter Tryz.func201, Tryz.ntmps201
 go_wp2
 refine wp_loop_rounds 4 ?_
 repeat any_goals (rw [rounds_succ]; go_wp2_with (first
  | (go_at_call 230; with_reducible refine (fX _).mono ?_; rintro e w1 ⟨rfl, rfl⟩)
  | (go_at_call 230; with_reducible refine (fY _).mono ?_; rintro e w1 ⟨rfl, rfl⟩)
  | (go_at_call 230; with_reducible refine (fZ _).mono ?_; rintro e w1 ⟨rfl, rfl⟩)
  | (go_at_call 231; refine (pt _).mono ?_; rintro e w1 ⟨rfl, rfl⟩)    ))
 go_ret3
 exact ⟨rfl, rfl⟩
theorem first4_yes (s : ByteArray) (a : Nat) (c C : Int) (X : Int) (Y : Int) (Z : Int) (w : World) (ha : a ≤ 140737488351232) (hc : at1 s a = c) (hC : c = 240 + C) (bC0 : 0 ≤ C) (bC1 : C ≤ 7) (hX : at1 s (a + 1) = 128 + X) (bX0 : 0 ≤ X) (bX1 : X ≤ 63) (hY : at1 s (a + 2) = 128 + Y) (bY0 : 0 ≤ Y) (bY1 : Y ≤ 63) (hZ : at1 s (a + 3) = 128 + Z) (bZ0 : 0 ≤ Z) (bZ1 : Z ≤ 63) (hp : 65536 ≤ (((C * 64 + X) * 64 + Y) * 64 + Z)) (hq : isPt (((C * 64 + X) * 64 + Y) * 64 + Z) = true) :
  Calls Tryz.prog 201 #[.string s, .int .i64 a] w fun e w' => e = .returned (yesV (((C * 64 + X) * 64 + Y) * 64 + Z) 4) ∧ w = w' := by
 have hk : a < s.size := (at1_in s a).1 (by omega)
 have hi := fun W => idx_run s a hk W
 rw [hc] at hi
 have hlt2 : (a : Int) < (s.size : Int) := by omega
 have hlt3 : ¬ ((s.size : Int) ≤ (a : Int)) := by omega
 have ha0 : (0 : Int) ≤ a := by omega
 have hcn : decide (c < 128) = false := by simp; omega
 have g1 : (bits BinOp.and .u8 c 224 == 192) = false := by rw [and224 c (by omega) (by omega)]; simp; omega
 have g2 : (bits BinOp.and .u8 c 240 == 224) = false := by rw [and240 c (by omega) (by omega)]; simp; omega
 have g3 : bits BinOp.and .u8 c 248 = 240 := by rw [and248 c (by omega) (by omega)]; omega
 have g4 : bits BinOp.and .u8 c 7 = C := by rw [and7 c (by omega) (by omega)]; omega
 have fX := fun w => follow_yes s (a + 1) (128 + X) hX (by omega) (by omega) w
 rw [show 128 + X - 128 = X from by omega, show ((a + 1 : Nat) : Int) = (a : Int) + 1 from by omega] at fX
 have fY := fun w => follow_yes s (a + 2) (128 + Y) hY (by omega) (by omega) w
 rw [show 128 + Y - 128 = Y from by omega, show ((a + 2 : Nat) : Int) = (a : Int) + 2 from by omega] at fY
 have fZ := fun w => follow_yes s (a + 3) (128 + Z) hZ (by omega) (by omega) w
 rw [show 128 + Z - 128 = Z from by omega, show ((a + 3 : Nat) : Int) = (a : Int) + 3 from by omega] at fZ
 have hp2 : decide ((((C * 64 + X) * 64 + Y) * 64 + Z) < 65536) = false := by simp; omega
 have pt := fun w => point_any (((C * 64 + X) * 64 + Y) * 64 + Z) w
 rw [hq] at pt
 have oX := or6 C X (by omega) (by omega) (by omega) (by omega)
 have oY := or6 (C * 64 + X) Y (by omega) (by omega) (by omega) (by omega)
 have oZ := or6 ((C * 64 + X) * 64 + Y) Z (by omega) (by omega) (by omega) (by omega)
 clear hk hc hX hY hZ hq hp
 clear hC
 go_enter Tryz.func201, Tryz.ntmps201
 go_wp2
 refine wp_loop_rounds 4 ?_
 repeat any_goals (rw [rounds_succ]; go_wp2_with (first
  | (go_at_call 230; with_reducible refine (fX _).mono ?_; rintro e w1 ⟨rfl, rfl⟩)
  | (go_at_call 230; with_reducible refine (fY _).mono ?_; rintro e w1 ⟨rfl, rfl⟩)
  | (go_at_call 230; with_reducible refine (fZ _).mono ?_; rintro e w1 ⟨rfl, rfl⟩)
  | (go_at_call 231; refine (pt _).mono ?_; rintro e w1 ⟨rfl, rfl⟩)    ))
 go_ret3
 exact ⟨rfl, rfl⟩
end Go.Proofs.YtcpkjmpbpmeclaaGreatDoor.Utf
namespace Go.Proofs.YtcpkjmpbpmeclaaGreatDoor.Utf
open Go.RowKit
set_option maxRecDepth 100000
set_option linter.unusedVariables false
set_option linter.unusedSimpArgs false
set_option linter.unnecessarySimpa false

def firstV : Option (Int × Nat) → Value
  | none => noV
  | some (p, n) => yesV p n
theorem cont_iff (x : Int) : cont x = true ↔ 128 ≤ x ∧ x < 192 := by simp [cont]
theorem cont_out (x : Int) (h : cont x = true) : ∃ X, x = 128 + X ∧ 0 ≤ X ∧ X ≤ 63 := ⟨x - 128, by have := (cont_iff x).1 h; omega⟩
theorem first_any (s : ByteArray) (a : Nat) (w : World) (ha : a ≤ 140737488351232) :
    Calls Tryz.prog 201 #[.string s, .int .i64 a] w fun e w' => e = .returned (firstV (decS s a)) ∧ w = w' := by
  have hr := at1_range s a
  obtain ⟨c, hc⟩ : ∃ c, at1 s a = c := ⟨_, rfl⟩
  obtain ⟨x, hx⟩ : ∃ c, at1 s (a + 1) = c := ⟨_, rfl⟩
  obtain ⟨y, hy⟩ : ∃ c, at1 s (a + 2) = c := ⟨_, rfl⟩
  obtain ⟨z, hz⟩ : ∃ c, at1 s (a + 3) = c := ⟨_, rfl⟩
  unfold decS
  rw [hc, hx, hy, hz]
  rw [hc] at hr
  unfold dec4
  by_cases h0 : c < 0
  · rw [if_pos h0]
    have : ¬ a < s.size := fun h => by have := (at1_in s a).2 h; omega
    exact first_out s a w (.inr (by omega))
  rw [if_neg h0]
  by_cases h1 : c < 128
  · rw [if_pos h1]
    exact first_low s a c w hc (by omega) h1
  rw [if_neg h1]
  by_cases h2 : c < 192
  · rw [if_pos h2]
    exact first_none s a c w hc (.inl (by omega))
  rw [if_neg h2]
  by_cases h3 : c < 224
  · rw [if_pos h3]
    rcases hcx : cont x with _ | _
    · exact first2_bad0 s a c (c - 192) x w ha hc (by omega) (by omega) (by omega) hx hcx
    · obtain ⟨X, rfl, X0, X1⟩ := cont_out x hcx
      rw [show 128 + X - 128 = X from by omega]
      by_cases hp : 128 ≤ (c - 192) * 64 + X
      · simp only [if_true, if_pos hp]
        exact first2_yes s a c (c - 192) X w ha hc (by omega) (by omega) (by omega) hx X0 X1 hp
      · simp only [if_true, if_neg hp]
        exact first2_low s a c (c - 192) X w ha hc (by omega) (by omega) (by omega) hx X0 X1 (by omega)
  rw [if_neg h3]
  by_cases h4 : c < 240
  · rw [if_pos h4]
    rcases hcx : cont x with _ | _
    · exact first3_bad0 s a c (c - 224) x w ha hc (by omega) (by omega) (by omega) hx hcx
    · obtain ⟨X, rfl, X0, X1⟩ := cont_out x hcx
      rw [show 128 + X - 128 = X from by omega]
      rcases hcy : cont y with _ | _
      · exact first3_bad1 s a c (c - 224) X y w ha hc (by omega) (by omega) (by omega) hx X0 X1 hy hcy
      · obtain ⟨Y, rfl, Y0, Y1⟩ := cont_out y hcy
        rw [show 128 + Y - 128 = Y from by omega]
        by_cases hp : 2048 ≤ ((c - 224) * 64 + X) * 64 + Y
        · rcases hq : isPt (((c - 224) * 64 + X) * 64 + Y) with _ | _
          · simp only [Bool.and_self, if_true, Bool.and_false, Bool.false_eq_true, if_false]
            exact first3_pt s a c (c - 224) X Y w ha hc (by omega) (by omega) (by omega) hx X0 X1 hy Y0 Y1 hp hq
          · simp only [Bool.and_self, if_true, Bool.and_true, decide_eq_true_eq, if_pos hp]
            exact first3_yes s a c (c - 224) X Y w ha hc (by omega) (by omega) (by omega) hx X0 X1 hy Y0 Y1 hp hq
        · simp only [Bool.and_self, if_true, Bool.and_eq_true, decide_eq_true_eq, hp, false_and, if_false]
          exact first3_low s a c (c - 224) X Y w ha hc (by omega) (by omega) (by omega) hx X0 X1 hy Y0 Y1 (by omega)
  rw [if_neg h4]
  by_cases h5 : c < 248
  · rw [if_pos h5]
    rcases hcx : cont x with _ | _
    · exact first4_bad0 s a c (c - 240) x w ha hc (by omega) (by omega) (by omega) hx hcx
    · obtain ⟨X, rfl, X0, X1⟩ := cont_out x hcx
      rw [show 128 + X - 128 = X from by omega]
      rcases hcy : cont y with _ | _
      · exact first4_bad1 s a c (c - 240) X y w ha hc (by omega) (by omega) (by omega) hx X0 X1 hy hcy
      · obtain ⟨Y, rfl, Y0, Y1⟩ := cont_out y hcy
        rw [show 128 + Y - 128 = Y from by omega]
        rcases hcz : cont z with _ | _
        · exact first4_bad2 s a c (c - 240) X Y z w ha hc (by omega) (by omega) (by omega) hx X0 X1 hy Y0 Y1 hz hcz
        · obtain ⟨Z, rfl, Z0, Z1⟩ := cont_out z hcz
          rw [show 128 + Z - 128 = Z from by omega]
          by_cases hp : 65536 ≤ (((c - 240) * 64 + X) * 64 + Y) * 64 + Z
          · rcases hq : isPt ((((c - 240) * 64 + X) * 64 + Y) * 64 + Z) with _ | _
            · simp only [Bool.and_self, if_true, Bool.and_false, Bool.false_eq_true, if_false]
              exact first4_pt s a c (c - 240) X Y Z w ha hc (by omega) (by omega) (by omega) hx X0 X1 hy Y0 Y1 hz Z0 Z1 hp hq
            · simp only [Bool.and_self, if_true, Bool.and_true, decide_eq_true_eq, if_pos hp]
              exact first4_yes s a c (c - 240) X Y Z w ha hc (by omega) (by omega) (by omega) hx X0 X1 hy Y0 Y1 hz Z0 Z1 hp hq
          · simp only [Bool.and_self, if_true, Bool.and_eq_true, decide_eq_true_eq, hp, false_and, if_false]
            exact first4_low s a c (c - 240) X Y Z w ha hc (by omega) (by omega) (by omega) hx X0 X1 hy Y0 Y1 hz Z0 Z1 (by omega)
  rw [if_neg h5]
  exact first_none s a c w hc (.inr (by omega))

/-- What a step is. -/
theorem dec4_some {c x y z p : Int} {n : Nat} (h : dec4 c x y z = some (p, n)) : isPt p = true ∧ 1 ≤ n ∧ n ≤ 4 ∧ 0 ≤ c ∧ (2 ≤ n → 0 ≤ x) ∧ (3 ≤ n → 0 ≤ y) ∧ (4 ≤ n → 0 ≤ z) := by
  unfold dec4 at h
  repeat' split at h
  all_goals first
    | (cases h; done)
    | (obtain ⟨rfl, rfl⟩ := Prod.mk.inj (Option.some.inj h)
       simp only [isPt, cont, Bool.and_eq_true, Bool.or_eq_true, decide_eq_true_eq] at *
       omega)
theorem decS_some {s : ByteArray} {a n : Nat} {p : Int} (h : decS s a = some (p, n)) : isPt p = true ∧ 1 ≤ n ∧ n ≤ 4 ∧ a + n ≤ s.size := by
  have hd := dec4_some h
  refine ⟨hd.1, hd.2.1, hd.2.2.1, ?_⟩
  obtain ⟨_, h1, h2, h3, h4, h5, h6⟩ := hd
  have k0 := (at1_in s a).1 h3
  rcases (by omega : n = 1 ∨ n = 2 ∨ n = 3 ∨ n = 4) with rfl | rfl | rfl | rfl
  · omega
  · have := (at1_in s (a + 1)).1 (h4 (by omega)); omega
  · have := (at1_in s (a + 2)).1 (h5 (by omega)); omega
  · have := (at1_in s (a + 3)).1 (h6 (by omega)); omega
theorem decS_end {s : ByteArray} {a : Nat} (h : s.size ≤ a) : decS s a = none := by
  rcases hd : decS s a with _ | ⟨p, n⟩
  · rfl
  · have := decS_some hd; omega
end Go.Proofs.YtcpkjmpbpmeclaaGreatDoor.Utf
namespace Go.Proofs.YtcpkjmpbpmeclaaGreatDoor.Utf
open Go.RowKit
set_option maxRecDepth 100000
set_option linter.unusedVariables false
set_option linter.unusedSimpArgs false
set_option linter.unnecessarySimpa false

def badK : Nat → ByteArray → Nat → Nat
 | 0, _, a => a
 | k + 1, s, a => match decS s a with
  | none => a
  | some (_, n) => badK k s (a + n)
def badF (s : ByteArray) : Nat := badK s.size s 0
theorem badK_end {s : ByteArray} {a : Nat} (h : s.size ≤ a) : ∀ k, badK k s a = a
 | 0 => rfl
 | k + 1 => by rw [badK, decS_end h]
theorem badK_none {s : ByteArray} {a : Nat} (h : decS s a = none) : ∀ k, badK k s a = a
 | 0 => rfl
 | k + 1 => by rw [badK, h]
theorem badK_some {s : ByteArray} {a n k : Nat} {p : Int} (h : decS s a = some (p, n)) : badK (k + 1) s a = badK k s (a + n) := by rw [badK, h]

theorem bad_any (s : ByteArray) (w : World) (hs : s.size ≤ 140737488351232) :
  Calls Tryz.prog 139 #[.string s] w fun e w' => e = .returned (.int .i64 (badF s : Nat)) ∧ w = w' := by
 go_enter Tryz.func139, Tryz.ntmps139
 go_wp2
 go_loopw [3] (fun i W => ∃ a k : Nat, i = .int .i64 a ∧ a ≤ s.size ∧ s.size ≤ a + k ∧ badF s = badK k s a ∧ W = w) (fun i _ => s.size - (intOf i).toNat)
 case atStart => exact ⟨0, s.size, rfl, by omega, by omega, rfl, rfl⟩
 case round =>
  obtain ⟨a, k, rfl, ha, hk, hb, rfl⟩ := hrel
  have hf := fun w => first_any s a w (by omega)
  by_cases hlt : a < s.size
  ·have hlt2 : (a : Int) < (s.size : Int) := by omega
   rcases hd : decS s a with _ | ⟨p, n⟩
   ·rw [hd] at hf
    rw [badK_none hd] at hb
    have HB := Lib.hid hb
    clear hb hd hlt
    simp only [firstV] at hf
    go_wp2_with (go_at_call 201; refine (hf _).mono ?_; rintro e w1 ⟨rfl, rfl⟩)
    go_ret
    exact ⟨by rw [HB.out]; rfl, rfl⟩
   ·rw [hd] at hf
    have hds := decS_some hd
    obtain ⟨k, rfl⟩ : ∃ q, k = q + 1 := ⟨k - 1, by omega⟩
    rw [badK_some hd] at hb
    have HB := Lib.hid hb
    obtain ⟨_, hn1, hn4, han⟩ := hds
    clear hb hd hlt
    simp only [firstV] at hf
    go_wp2_with (go_at_call 201; refine (hf _).mono ?_; rintro e w1 ⟨rfl, rfl⟩)
    exact ⟨⟨a + n, k, by go_num, by omega, by omega, HB.out, trivial⟩, by simp [intOf]; omega⟩
  ·rw [badK_end (by omega)] at hb
   have HB := Lib.hid hb
   have hge : ¬ ((a : Int) < (s.size : Int)) := by omega
   clear hb hf
   go_wp2
   go_ret
   exact ⟨by rw [HB.out]; rfl, rfl⟩

/-! ### The document's -/
def sizeF (c : Int) : Int := if c < 128 then 1 else if c < 192 then 0 else if c < 224 then 2 else if c < 240 then 3 else if c < 248 then 4 else 0
theorem size_any (c : Int) (w : World) : Calls Tryz.prog 265 #[.int .u8 c] w fun e w' => e = .returned (.int .i64 (sizeF c)) ∧ w = w' := by
 by_cases h1 : c < 128
 ·rw [show sizeF c = 1 by unfold sizeF; rw [if_pos h1]]
  go_enter Tryz.func265, Tryz.ntmps265
  go_wp2
  go_ret
  exact ⟨rfl, rfl⟩
 have d1 : decide (c < 128) = false := by simp; omega
 by_cases h2 : c < 192
 ·rw [show sizeF c = 0 by unfold sizeF; rw [if_neg h1, if_pos h2]]
  have d2 : decide (192 ≤ c) = false := by simp; omega
  have d3 : decide (224 ≤ c) = false := by simp; omega
  have d4 : decide (240 ≤ c) = false := by simp; omega
  clear h1
  go_enter Tryz.func265, Tryz.ntmps265
  go_wp2
  go_ret
  exact ⟨rfl, rfl⟩
 have d2 : decide (192 ≤ c) = true := by simp; omega
 by_cases h3 : c < 224
 ·rw [show sizeF c = 2 by unfold sizeF; rw [if_neg h1, if_neg h2, if_pos h3]]
  clear h1 h2
  go_enter Tryz.func265, Tryz.ntmps265
  go_wp2
  go_ret
  exact ⟨rfl, rfl⟩
 have d3 : decide (c < 224) = false := by simp; omega
 have d3' : decide (224 ≤ c) = true := by simp; omega
 by_cases h4 : c < 240
 ·rw [show sizeF c = 3 by unfold sizeF; rw [if_neg h1, if_neg h2, if_neg h3, if_pos h4]]
  clear h1 h2 h3
  go_enter Tryz.func265, Tryz.ntmps265
  go_wp2
  go_ret
  exact ⟨rfl, rfl⟩
 have d4 : decide (c < 240) = false := by simp; omega
 have d4' : decide (240 ≤ c) = true := by simp; omega
 by_cases h5 : c < 248
 ·rw [show sizeF c = 4 by unfold sizeF; rw [if_neg h1, if_neg h2, if_neg h3, if_neg h4, if_pos h5]]
  clear h1 h2 h3 h4
  go_enter Tryz.func265, Tryz.ntmps265
  go_wp2
  go_ret
  exact ⟨rfl, rfl⟩
 ·rw [show sizeF c = 0 by unfold sizeF; rw [if_neg h1, if_neg h2, if_neg h3, if_neg h4, if_neg h5]]
  have d5 : decide (c < 248) = false := by simp; omega
  clear h1 h2 h3 h4 h5
  go_enter Tryz.func265, Tryz.ntmps265
  go_wp2
  go_ret
  exact ⟨rfl, rfl⟩
theorem refPoint_any (p : Int) (w : World) : Calls Tryz.prog 267 #[.int .i64 p] w fun e w' => e = .returned (.bool (isPt p)) ∧ w = w' := by
 unfold isPt
 rcases h1 : decide (0 ≤ p) with _ | _ <;> rcases h2 : decide (p ≤ 1114111) with _ | _ <;> rcases h3 : decide (p < 55296) with _ | _ <;> rcases h4 : decide (57343 < p) with _ | _ <;> (go_enter Tryz.func267, Tryz.ntmps267; go_wp2; go_ret; exact ⟨rfl, rfl⟩)
def encL (p : Int) : List Int :=
 if p < 128 then [p] else if p < 2048 then [192 + p / 64, 128 + p % 64] else if p < 65536 then [224 + p / 4096, 128 + p / 64 % 64, 128 + p % 64]
 else [240 + p / 262144, 128 + p / 4096 % 64, 128 + p / 64 % 64, 128 + p % 64]
/-- A fresh list of bytes. -/
def Lit (w : World) (ys : List Int) (e : Ending) (w' : World) : Prop := ∃ g, e = .returned (.slice (some ⟨g, 0, none⟩) ys.length ys.length) ∧ w'.heap[g]? = some (.cells (numsK .u8 ys).toArray 5 (0, 0)) ∧ w.heap.size ≤ g ∧ Below w.heap.size w w'
theorem enc_any (p : Int) (w : World) (h0 : 0 ≤ p) (h1 : p < 2097152) : Calls Tryz.prog 269 #[.int .i64 p] w (Lit w (encL p)) := by
 unfold encL
 by_cases a1 : p < 128
 ·rw [if_pos a1]
  have u1 := IntWalk.u8_in p (by omega)
  go_enter Tryz.func269, Tryz.ntmps269
  go_wp2
  go_ret
  exact ⟨w.heap.size, rfl, Array.getElem?_push_size, Nat.le_refl _, (Below.refl _ _).alloc (Nat.le_refl _) _⟩
 rw [if_neg a1]
 have d1 : decide (p < 128) = false := by simp; omega
 by_cases a2 : p < 2048
 ·rw [if_pos a2]
  have u1 := IntWalk.u8_in (192 + p / 64) (by omega)
  have u2 := IntWalk.u8_in (128 + p % 64) (by omega)
  clear a1
  go_enter Tryz.func269, Tryz.ntmps269
  go_wp2
  go_ret
  exact ⟨w.heap.size, rfl, Array.getElem?_push_size, Nat.le_refl _, (Below.refl _ _).alloc (Nat.le_refl _) _⟩
 rw [if_neg a2]
 have d2 : decide (p < 2048) = false := by simp; omega
 by_cases a3 : p < 65536
 ·rw [if_pos a3]
  have u1 := IntWalk.u8_in (224 + p / 4096) (by omega)
  have u2 := IntWalk.u8_in (128 + p / 64 % 64) (by omega)
  have u3 := IntWalk.u8_in (128 + p % 64) (by omega)
  clear a1 a2
  go_enter Tryz.func269, Tryz.ntmps269
  go_wp2
  go_ret
  exact ⟨w.heap.size, rfl, Array.getElem?_push_size, Nat.le_refl _, (Below.refl _ _).alloc (Nat.le_refl _) _⟩
 rw [if_neg a3]
 have d3 : decide (p < 65536) = false := by simp; omega
 have u1 := IntWalk.u8_in (240 + p / 262144) (by omega)
 have u2 := IntWalk.u8_in (128 + p / 4096 % 64) (by omega)
 have u3 := IntWalk.u8_in (128 + p / 64 % 64) (by omega)
 have u4 := IntWalk.u8_in (128 + p % 64) (by omega)
 clear a1 a2 a3
 go_enter Tryz.func269, Tryz.ntmps269
 go_wp2
 go_ret
 exact ⟨w.heap.size, rfl, Array.getElem?_push_size, Nat.le_refl _, (Below.refl _ _).alloc (Nat.le_refl _) _⟩
end Go.Proofs.YtcpkjmpbpmeclaaGreatDoor.Utf
