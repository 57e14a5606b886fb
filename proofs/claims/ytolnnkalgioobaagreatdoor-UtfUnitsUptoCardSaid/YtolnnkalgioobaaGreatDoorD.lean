/- utf.Bad; the document's steps. -/
import Derived.Test.YtolnnkalgioobaaGreatDoorC
namespace Go.Proofs.YtolnnkalgioobaaGreatDoor
open Go.RowKit
set_option maxRecDepth 100000
set_option linter.unusedVariables false
set_option linter.unusedSimpArgs false
set_option linter.unnecessarySimpa false

def badK : Nat → ByteArray → Nat → Nat
  | 0, _, a => a
  | k + 1, s, a => match decS s a with
    | none => a
    | some (_, n) => badK k s (a + n)
def badF (s : ByteArray) : Nat := badK s.size s 0
theorem badK_end {s : ByteArray} {a : Nat} (h : s.size ≤ a) : ∀ k, badK k s a = a
  | 0 => rfl
  | k + 1 => by rw [badK, decS_end h]
theorem badK_none {s : ByteArray} {a : Nat} (h : decS s a = none) : ∀ k, badK k s a = a
  | 0 => rfl
  | k + 1 => by rw [badK, h]
theorem badK_some {s : ByteArray} {a n k : Nat} {p : Int} (h : decS s a = some (p, n)) : badK (k + 1) s a = badK k s (a + n) := by rw [badK, h]

theorem bad_any (s : ByteArray) (w : World) (hs : s.size ≤ 140737488351232) :
    Calls Tryz.prog 25 #[.string s] w fun e w' => e = .returned (.int .i64 (badF s : Nat)) ∧ w = w' := by
  go_enter Tryz.func25, Tryz.ntmps25
  go_wp2
  go_loopw [3] (fun i W => ∃ a k : Nat, i = .int .i64 a ∧ a ≤ s.size ∧ s.size ≤ a + k ∧ badF s = badK k s a ∧ W = w) (fun i _ => s.size - (intOf i).toNat)
  case atStart => exact ⟨0, s.size, rfl, by omega, by omega, rfl, rfl⟩
  case round =>
    obtain ⟨a, k, rfl, ha, hk, hb, rfl⟩ := hrel
    have hf := fun w => first_any s a w (by omega)
    by_cases hlt : a < s.size
    · have hlt2 : (a : Int) < (s.size : Int) := by omega
      rcases hd : decS s a with _ | ⟨p, n⟩
      · rw [hd] at hf
        rw [badK_none hd] at hb
        have HB := Lib.hid hb
        clear hb hd hlt
        simp only [firstV] at hf
        go_wp2_with (go_at_call 76; refine (hf _).mono ?_; rintro e w1 ⟨rfl, rfl⟩)
        go_ret
        exact ⟨by rw [HB.out]; rfl, rfl⟩
      · rw [hd] at hf
        have hds := decS_some hd
        obtain ⟨k, rfl⟩ : ∃ q, k = q + 1 := ⟨k - 1, by omega⟩
        rw [badK_some hd] at hb
        have HB := Lib.hid hb
        obtain ⟨_, hn1, hn4, han⟩ := hds
        clear hb hd hlt
        simp only [firstV] at hf
        go_wp2_with (go_at_call 76; refine (hf _).mono ?_; rintro e w1 ⟨rfl, rfl⟩)
        exact ⟨⟨a + n, k, by go_num, by omega, by omega, HB.out, trivial⟩, by simp [intOf]; omega⟩
    · rw [badK_end (by omega)] at hb
      have HB := Lib.hid hb
      have hge : ¬ ((a : Int) < (s.size : Int)) := by omega
      clear hb hf
      go_wp2
      go_ret
      exact ⟨by rw [HB.out]; rfl, rfl⟩

/-! ### The document's -/
def sizeF (c : Int) : Int := if c < 128 then 1 else if c < 192 then 0 else if c < 224 then 2 else if c < 240 then 3 else if c < 248 then 4 else 0
theorem size_any (c : Int) (w : World) : Calls Tryz.prog 114 #[.int .u8 c] w fun e w' => e = .returned (.int .i64 (sizeF c)) ∧ w = w' := by
  by_cases h1 : c < 128
  · rw [show sizeF c = 1 by unfold sizeF; rw [if_pos h1]]
    go_enter Tryz.func114, Tryz.ntmps114
    go_wp2
    go_ret
    exact ⟨rfl, rfl⟩
  have d1 : decide (c < 128) = false := by simp; omega
  by_cases h2 : c < 192
  · rw [show sizeF c = 0 by unfold sizeF; rw [if_neg h1, if_pos h2]]
    have d2 : decide (192 ≤ c) = false := by simp; omega
    have d3 : decide (224 ≤ c) = false := by simp; omega
    have d4 : decide (240 ≤ c) = false := by simp; omega
    clear h1
    go_enter Tryz.func114, Tryz.ntmps114
    go_wp2
    go_ret
    exact ⟨rfl, rfl⟩
  have d2 : decide (192 ≤ c) = true := by simp; omega
  by_cases h3 : c < 224
  · rw [show sizeF c = 2 by unfold sizeF; rw [if_neg h1, if_neg h2, if_pos h3]]
    clear h1 h2
    go_enter Tryz.func114, Tryz.ntmps114
    go_wp2
    go_ret
    exact ⟨rfl, rfl⟩
  have d3 : decide (c < 224) = false := by simp; omega
  have d3' : decide (224 ≤ c) = true := by simp; omega
  by_cases h4 : c < 240
  · rw [show sizeF c = 3 by unfold sizeF; rw [if_neg h1, if_neg h2, if_neg h3, if_pos h4]]
    clear h1 h2 h3
    go_enter Tryz.func114, Tryz.ntmps114
    go_wp2
    go_ret
    exact ⟨rfl, rfl⟩
  have d4 : decide (c < 240) = false := by simp; omega
  have d4' : decide (240 ≤ c) = true := by simp; omega
  by_cases h5 : c < 248
  · rw [show sizeF c = 4 by unfold sizeF; rw [if_neg h1, if_neg h2, if_neg h3, if_neg h4, if_pos h5]]
    clear h1 h2 h3 h4
    go_enter Tryz.func114, Tryz.ntmps114
    go_wp2
    go_ret
    exact ⟨rfl, rfl⟩
  · rw [show sizeF c = 0 by unfold sizeF; rw [if_neg h1, if_neg h2, if_neg h3, if_neg h4, if_neg h5]]
    have d5 : decide (c < 248) = false := by simp; omega
    clear h1 h2 h3 h4 h5
    go_enter Tryz.func114, Tryz.ntmps114
    go_wp2
    go_ret
    exact ⟨rfl, rfl⟩
theorem refPoint_any (p : Int) (w : World) : Calls Tryz.prog 28 #[.int .i64 p] w fun e w' => e = .returned (.bool (isPt p)) ∧ w = w' := by
  unfold isPt
  rcases h1 : decide (0 ≤ p) with _ | _ <;> rcases h2 : decide (p ≤ 1114111) with _ | _ <;> rcases h3 : decide (p < 55296) with _ | _ <;> rcases h4 : decide (57343 < p) with _ | _ <;> (go_enter Tryz.func28, Tryz.ntmps28; go_wp2; go_ret; exact ⟨rfl, rfl⟩)
def encL (p : Int) : List Int :=
  if p < 128 then [p] else if p < 2048 then [192 + p / 64, 128 + p % 64] else if p < 65536 then [224 + p / 4096, 128 + p / 64 % 64, 128 + p % 64]
  else [240 + p / 262144, 128 + p / 4096 % 64, 128 + p / 64 % 64, 128 + p % 64]
/-- A fresh list of bytes. -/
def Lit (w : World) (ys : List Int) (e : Ending) (w' : World) : Prop := ∃ g, e = .returned (.slice (some ⟨g, 0, none⟩) ys.length ys.length) ∧ w'.heap[g]? = some (.cells (numsK .u8 ys).toArray 5 (0, 0)) ∧ w.heap.size ≤ g ∧ Below w.heap.size w w'
theorem enc_any (p : Int) (w : World) (h0 : 0 ≤ p) (h1 : p < 2097152) : Calls Tryz.prog 29 #[.int .i64 p] w (Lit w (encL p)) := by
  unfold encL
  by_cases a1 : p < 128
  · rw [if_pos a1]
    have u1 := IntWalk.u8_in p (by omega)
    go_enter Tryz.func29, Tryz.ntmps29
    go_wp2
    go_ret
    exact ⟨w.heap.size, rfl, Array.getElem?_push_size, Nat.le_refl _, (Below.refl _ _).alloc (Nat.le_refl _) _⟩
  rw [if_neg a1]
  have d1 : decide (p < 128) = false := by simp; omega
  by_cases a2 : p < 2048
  · rw [if_pos a2]
    have u1 := IntWalk.u8_in (192 + p / 64) (by omega)
    have u2 := IntWalk.u8_in (128 + p % 64) (by omega)
    clear a1
    go_enter Tryz.func29, Tryz.ntmps29
    go_wp2
    go_ret
    exact ⟨w.heap.size, rfl, Array.getElem?_push_size, Nat.le_refl _, (Below.refl _ _).alloc (Nat.le_refl _) _⟩
  rw [if_neg a2]
  have d2 : decide (p < 2048) = false := by simp; omega
  by_cases a3 : p < 65536
  · rw [if_pos a3]
    have u1 := IntWalk.u8_in (224 + p / 4096) (by omega)
    have u2 := IntWalk.u8_in (128 + p / 64 % 64) (by omega)
    have u3 := IntWalk.u8_in (128 + p % 64) (by omega)
    clear a1 a2
    go_enter Tryz.func29, Tryz.ntmps29
    go_wp2
    go_ret
    exact ⟨w.heap.size, rfl, Array.getElem?_push_size, Nat.le_refl _, (Below.refl _ _).alloc (Nat.le_refl _) _⟩
  rw [if_neg a3]
  have d3 : decide (p < 65536) = false := by simp; omega
  have u1 := IntWalk.u8_in (240 + p / 262144) (by omega)
  have u2 := IntWalk.u8_in (128 + p / 4096 % 64) (by omega)
  have u3 := IntWalk.u8_in (128 + p / 64 % 64) (by omega)
  have u4 := IntWalk.u8_in (128 + p % 64) (by omega)
  clear a1 a2 a3
  go_enter Tryz.func29, Tryz.ntmps29
  go_wp2
  go_ret
  exact ⟨w.heap.size, rfl, Array.getElem?_push_size, Nat.le_refl _, (Below.refl _ _).alloc (Nat.le_refl _) _⟩
end Go.Proofs.YtolnnkalgioobaaGreatDoor
