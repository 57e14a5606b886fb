/- What the bytes of a step say; utf.follow, utf.point. -/
import Derived.Test.YtolnnkalgioobaaGreatDoorProg
import Derived.Test.YtolnnkalgioobaaGreatDoorAid
import Derived.Handy
import Derived.BigQuiet
import Derived.Lib.Hide
import Derived.Laws.BytesArg
namespace Go.Proofs.YtolnnkalgioobaaGreatDoor
open Go.RowKit
set_option maxRecDepth 100000
set_option linter.unusedVariables false
set_option linter.unusedSimpArgs false
set_option linter.unnecessarySimpa false

/-- The byte at a place; -1: the text has ended. -/
def at1 (s : ByteArray) (k : Nat) : Int := if h : k < s.size then ((s[k]'h).toNat : Int) else -1
theorem at1_range (s : ByteArray) (k : Nat) : -1 ≤ at1 s k ∧ at1 s k ≤ 255 := by
  unfold at1
  split
  · rename_i h
    have := (s[k]'h).toNat_lt
    omega
  · omega
theorem at1_in (s : ByteArray) (k : Nat) : 0 ≤ at1 s k ↔ k < s.size := by
  unfold at1
  split
  · rename_i h
    constructor
    · exact fun _ => h
    · intro _; omega
  · rename_i h
    constructor
    · intro h2; omega
    · intro h2; exact absurd h2 h
theorem idx_run (s : ByteArray) (k : Nat) (h : k < s.size) (W : World) : (Instr.index 9 (.string s) (.int .i64 (k : Int))).run Tryz.prog W = .ok (.int .u8 (at1 s k)) W := by
  rw [run_index_string W 9 s .i64 k Tryz.underlying9]
  unfold at1
  simp [h]
def cont (x : Int) : Bool := decide (128 ≤ x) && decide (x < 192)
def isPt (p : Int) : Bool := decide (0 ≤ p) && decide (p ≤ 1114111) && (decide (p < 55296) || decide (57343 < p))
def dec4 (c x y z : Int) : Option (Int × Nat) :=
  if c < 0 then none
  else if c < 128 then some (c, 1)
  else if c < 192 then none
  else if c < 224 then (if cont x then (if 128 ≤ (c - 192) * 64 + (x - 128) then some ((c - 192) * 64 + (x - 128), 2) else none) else none)
  else if c < 240 then (if cont x && cont y then (if decide (2048 ≤ ((c - 224) * 64 + (x - 128)) * 64 + (y - 128)) && isPt (((c - 224) * 64 + (x - 128)) * 64 + (y - 128)) then some (((c - 224) * 64 + (x - 128)) * 64 + (y - 128), 3) else none) else none)
  else if c < 248 then (if cont x && cont y && cont z then (if decide (65536 ≤ (((c - 240) * 64 + (x - 128)) * 64 + (y - 128)) * 64 + (z - 128)) && isPt ((((c - 240) * 64 + (x - 128)) * 64 + (y - 128)) * 64 + (z - 128)) then some ((((c - 240) * 64 + (x - 128)) * 64 + (y - 128)) * 64 + (z - 128), 4) else none) else none)
  else none
def decS (s : ByteArray) (a : Nat) : Option (Int × Nat) := dec4 (at1 s a) (at1 s (a + 1)) (at1 s (a + 2)) (at1 s (a + 3))

theorem u8_tab (P : Int → Bool) (h : ∀ n : Fin 256, P (n.val : Int) = true) (x : Int) (h0 : 0 ≤ x) (h1 : x ≤ 255) : P x = true := by
  obtain ⟨n, rfl⟩ := Int.eq_ofNat_of_zero_le h0
  exact h ⟨n, by omega⟩
theorem and192 (x : Int) (h0 : 0 ≤ x) (h1 : x ≤ 255) : bits BinOp.and .u8 x 192 = x / 64 * 64 := by
  have := u8_tab (fun x => decide (bits BinOp.and .u8 x 192 = x / 64 * 64)) (by decide) x h0 h1
  simpa using this
theorem and224 (x : Int) (h0 : 0 ≤ x) (h1 : x ≤ 255) : bits BinOp.and .u8 x 224 = x / 32 * 32 := by
  have := u8_tab (fun x => decide (bits BinOp.and .u8 x 224 = x / 32 * 32)) (by decide) x h0 h1
  simpa using this
theorem and240 (x : Int) (h0 : 0 ≤ x) (h1 : x ≤ 255) : bits BinOp.and .u8 x 240 = x / 16 * 16 := by
  have := u8_tab (fun x => decide (bits BinOp.and .u8 x 240 = x / 16 * 16)) (by decide) x h0 h1
  simpa using this
theorem and248 (x : Int) (h0 : 0 ≤ x) (h1 : x ≤ 255) : bits BinOp.and .u8 x 248 = x / 8 * 8 := by
  have := u8_tab (fun x => decide (bits BinOp.and .u8 x 248 = x / 8 * 8)) (by decide) x h0 h1
  simpa using this
theorem and31 (x : Int) (h0 : 0 ≤ x) (h1 : x ≤ 255) : bits BinOp.and .u8 x 31 = x % 32 := by
  have := u8_tab (fun x => decide (bits BinOp.and .u8 x 31 = x % 32)) (by decide) x h0 h1
  simpa using this
theorem and15 (x : Int) (h0 : 0 ≤ x) (h1 : x ≤ 255) : bits BinOp.and .u8 x 15 = x % 16 := by
  have := u8_tab (fun x => decide (bits BinOp.and .u8 x 15 = x % 16)) (by decide) x h0 h1
  simpa using this
theorem and7 (x : Int) (h0 : 0 ≤ x) (h1 : x ≤ 255) : bits BinOp.and .u8 x 7 = x % 8 := by
  have := u8_tab (fun x => decide (bits BinOp.and .u8 x 7 = x % 8)) (by decide) x h0 h1
  simpa using this
theorem and63 (x : Int) (h0 : 0 ≤ x) (h1 : x ≤ 255) : bits BinOp.and .u8 x 63 = x % 64 := by
  have := u8_tab (fun x => decide (bits BinOp.and .u8 x 63 = x % 64)) (by decide) x h0 h1
  simpa using this

theorem follow_yes (s : ByteArray) (k : Nat) (x : Int) (hx : at1 s k = x) (h0 : 128 ≤ x) (h1 : x < 192) (w : World) :
    Calls Tryz.prog 112 #[.string s, .int .i64 k] w fun e w' => e = .returned (.tuple #[.int .i32 (x - 128), .bool true]) ∧ w = w' := by
  have hk : k < s.size := (at1_in s k).1 (by omega)
  have hi := fun W => idx_run s k hk W
  rw [hx] at hi
  have hlt : ¬ ((s.size : Int) ≤ (k : Int)) := by omega
  have hlt2 : (k : Int) < (s.size : Int) := by omega
  have e1 := and192 x (by omega) (by omega)
  have e2 := and63 x (by omega) (by omega)
  have e3 : x / 64 * 64 = 128 := by omega
  have e4 : x % 64 = x - 128 := by omega
  rw [e3] at e1
  rw [e4] at e2
  clear hx hk e3 e4
  go_enter Tryz.func112, Tryz.ntmps112
  go_wp2
  go_ret2
  exact ⟨rfl, rfl⟩
theorem follow_no (s : ByteArray) (k : Nat) (x : Int) (hx : at1 s k = x) (h : cont x = false) (w : World) :
    Calls Tryz.prog 112 #[.string s, .int .i64 k] w fun e w' => e = .returned (.tuple #[.int .i32 0, .bool false]) ∧ w = w' := by
  by_cases hk : k < s.size
  · have hi := fun W => idx_run s k hk W
    rw [hx] at hi
    have hr := at1_range s k
    have h0 := (at1_in s k).2 hk
    rw [hx] at hr h0
    have hlt : ¬ ((s.size : Int) ≤ (k : Int)) := by omega
    have hlt2 : (k : Int) < (s.size : Int) := by omega
    have e1 := and192 x (by omega) (by omega)
    have e3 : ((x / 64 * 64) == 128) = false := by simp [cont] at h ⊢; omega
    rw [← e1] at e3
    clear hx hk h hr
    go_enter Tryz.func112, Tryz.ntmps112
    go_wp2
    go_ret2
    exact ⟨rfl, rfl⟩
  · have hlt : (s.size : Int) ≤ (k : Int) := by omega
    clear hx hk h
    go_enter Tryz.func112, Tryz.ntmps112
    go_wp2
    go_ret2
    exact ⟨rfl, rfl⟩
theorem point_any (p : Int) (w : World) : Calls Tryz.prog 30 #[.int .i32 p] w fun e w' => e = .returned (.bool (isPt p)) ∧ w = w' := by
  unfold isPt
  rcases h1 : decide (0 ≤ p) with _ | _ <;> rcases h2 : decide (p ≤ 1114111) with _ | _ <;> rcases h3 : decide (p < 55296) with _ | _ <;> rcases h4 : decide (57343 < p) with _ | _ <;> (go_enter Tryz.func30, Tryz.ntmps30; go_wp2; go_ret; exact ⟨rfl, rfl⟩)
end Go.Proofs.YtolnnkalgioobaaGreatDoor
