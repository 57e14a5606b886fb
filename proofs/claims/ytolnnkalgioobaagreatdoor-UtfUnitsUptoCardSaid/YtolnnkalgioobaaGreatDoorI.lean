/- The document's Bad; weigh, Cmp; SameUnits. -/
import Derived.Test.YtolnnkalgioobaaGreatDoorH
namespace Go.Proofs.YtolnnkalgioobaaGreatDoor
open Go.RowKit
set_option maxRecDepth 100000
set_option linter.unusedVariables false
set_option linter.unusedSimpArgs false
set_option linter.unnecessarySimpa false

theorem refBad_any (s : ByteArray) (w : World) (hs : s.size ≤ 140737488351232) :
    Calls Tryz.prog 85 #[.string s] w fun e w' => e = .returned (.int .i64 (badF s : Nat)) ∧ Below w.heap.size w w' := by
  go_enter Tryz.func85, Tryz.ntmps85
  go_wp2
  go_loopw [3] (fun i W => ∃ a k : Nat, i = .int .i64 a ∧ a ≤ s.size ∧ s.size ≤ a + k ∧ badF s = badK k s a ∧ Below w.heap.size w W) (fun i _ => s.size - (intOf i).toNat)
  case atStart => exact ⟨0, s.size, rfl, by omega, by omega, rfl, Below.refl _ _⟩
  case round =>
    obtain ⟨a, k, rfl, ha, hk, hb, hB⟩ := hrel
    by_cases hlt : a < s.size
    · have hf := fun w => refFirst_any s a w hs hlt
      have hlt2 : (a : Int) < (s.size : Int) := by omega
      have hBs := hB.size
      rcases hd : decS s a with _ | ⟨p, n⟩
      · rw [hd] at hf
        rw [badK_none hd] at hb
        have HB := Lib.hid hb
        clear hb hd hlt
        simp only [stepV] at hf
        go_wp2_with (go_at_call 86; refine (hf _).mono ?_; rintro e w1 ⟨rfl, hb1⟩)
        go_ret
        exact ⟨by rw [HB.out]; rfl, (below_on hB hb1).alloc (by have := hb1.size; omega) _⟩
      · rw [hd] at hf
        have hds := decS_some hd
        obtain ⟨k, rfl⟩ : ∃ q, k = q + 1 := ⟨k - 1, by omega⟩
        rw [badK_some hd] at hb
        have HB := Lib.hid hb
        obtain ⟨_, hn1, hn4, han⟩ := hds
        clear hb hd hlt
        simp only [stepV] at hf
        go_wp2_with (go_at_call 86; refine (hf _).mono ?_; rintro e w1 ⟨rfl, hb1⟩)
        exact ⟨⟨a + n, k, by go_num, by omega, by omega, HB.out, (below_on hB hb1).alloc (by have := hb1.size; omega) _⟩, by simp [intOf]; omega⟩
    · rw [badK_end (by omega)] at hb
      obtain rfl : a = s.size := by omega
      have HB := Lib.hid hb
      clear hb
      go_wp2
      go_ret
      exact ⟨by rw [HB.out]; rfl, hB⟩

/-- What a step weighs. -/
def weighF (s : ByteArray) (a : Nat) : Int × Nat :=
  match decS s a with
  | none => ((65536 + at1 s a) * 65536, 1)
  | some (p, n) => if 65536 ≤ p then ((55296 + (p - 65536) / 1024) * 65536 + 56320 + (p - 65536) % 1024, n) else (p * 65536, n)
theorem wraps_i64 (n : Int) (h₀ : 0 ≤ n) (h₁ : n < 2 ^ 40) : IntKind.i64.wrap n = n := by
  rw [IntKind.wrap_i64]; omega
theorem weigh_any (s : ByteArray) (a : Nat) (w : World) (hs : s.size ≤ 140737488351232) (ha : a < s.size) :
    Calls Tryz.prog 113 #[.string s, .int .i64 a] w fun e w' => e = .returned (.tuple #[.int .i64 (weighF s a).1, .int .i64 ((weighF s a).2 : Nat)]) ∧ w = w' := by
  have hf := fun w => first_any s a w (by omega)
  have hr := at1_range s a
  have hr0 := (at1_in s a).2 ha
  have hi := fun W => idx_run s a ha W
  have hlt2 : (a : Int) < (s.size : Int) := by omega
  unfold weighF
  rcases hd : decS s a with _ | ⟨p, n⟩
  · rw [hd] at hf
    simp only [firstV] at hf
    generalize at1 s a = c at *
    obtain ⟨hr2, hr1⟩ := hr
    clear hd ha
    go_enter Tryz.func113, Tryz.ntmps113
    go_wp2_with (go_at_call 76; refine (hf _).mono ?_; rintro e w1 ⟨rfl, rfl⟩)
    go_ret2
    exact ⟨rfl, rfl⟩
  · rw [hd] at hf
    have hds := decS_some hd
    have hpt := (isPt_iff p).1 hds.1
    have hp0 := hpt.1
    have hp1 := hpt.2.1
    simp only [firstV] at hf
    clear hd hds hpt ha hi hr hr0
    by_cases hp : 65536 ≤ p
    · simp only [if_pos hp]
      have hpd : decide (65536 ≤ p) = true := by simp; omega
      have e1 : bits BinOp.or .i64 ((55296 + (p - 65536) / 1024) * 65536) 56320 = (55296 + (p - 65536) / 1024) * 65536 + 56320 :=
        bits_join .i64 40 (by decide) wraps_i64 16 _ _ (by omega) (by omega) (by omega) (by omega) (by omega) (by omega)
      have e2 : bits BinOp.and .i64 (p - 65536) 1023 = (p - 65536) % 1024 := bits_mask .i64 40 (by decide) wraps_i64 10 (by decide) _ (by omega) (by omega)
      go_enter Tryz.func113, Tryz.ntmps113
      go_wp2_with (go_at_call 76; refine (hf _).mono ?_; rintro e w1 ⟨rfl, rfl⟩)
      go_ret2
      exact ⟨rfl, rfl⟩
    · simp only [if_neg hp]
      have hpd : decide (65536 ≤ p) = false := by simp; omega
      clear hp
      go_enter Tryz.func113, Tryz.ntmps113
      go_wp2_with (go_at_call 76; refine (hf _).mono ?_; rintro e w1 ⟨rfl, rfl⟩)
      go_ret2
      exact ⟨rfl, rfl⟩
end Go.Proofs.YtolnnkalgioobaaGreatDoor
