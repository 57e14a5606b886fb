/- What utf.First answers at any place. -/
import Derived.Test.YtolnnkalgioobaaGreatDoorB
namespace Go.Proofs.YtolnnkalgioobaaGreatDoor
open Go.RowKit
set_option maxRecDepth 100000
set_option linter.unusedVariables false
set_option linter.unusedSimpArgs false
set_option linter.unnecessarySimpa false

def firstV : Option (Int × Nat) → Value
  | none => noV
  | some (p, n) => yesV p n
theorem cont_iff (x : Int) : cont x = true ↔ 128 ≤ x ∧ x < 192 := by simp [cont]
theorem cont_out (x : Int) (h : cont x = true) : ∃ X, x = 128 + X ∧ 0 ≤ X ∧ X ≤ 63 := ⟨x - 128, by have := (cont_iff x).1 h; omega⟩
theorem first_any (s : ByteArray) (a : Nat) (w : World) (ha : a ≤ 140737488351232) :
    Calls Tryz.prog 76 #[.string s, .int .i64 a] w fun e w' => e = .returned (firstV (decS s a)) ∧ w = w' := by
  have hr := at1_range s a
  obtain ⟨c, hc⟩ : ∃ c, at1 s a = c := ⟨_, rfl⟩
  obtain ⟨x, hx⟩ : ∃ c, at1 s (a + 1) = c := ⟨_, rfl⟩
  obtain ⟨y, hy⟩ : ∃ c, at1 s (a + 2) = c := ⟨_, rfl⟩
  obtain ⟨z, hz⟩ : ∃ c, at1 s (a + 3) = c := ⟨_, rfl⟩
  unfold decS
  rw [hc, hx, hy, hz]
  rw [hc] at hr
  unfold dec4
  by_cases h0 : c < 0
  · rw [if_pos h0]
    have : ¬ a < s.size := fun h => by have := (at1_in s a).2 h; omega
    exact first_out s a w (.inr (by omega))
  rw [if_neg h0]
  by_cases h1 : c < 128
  · rw [if_pos h1]
    exact first_low s a c w hc (by omega) h1
  rw [if_neg h1]
  by_cases h2 : c < 192
  · rw [if_pos h2]
    exact first_none s a c w hc (.inl (by omega))
  rw [if_neg h2]
  by_cases h3 : c < 224
  · rw [if_pos h3]
    rcases hcx : cont x with _ | _
    · exact first2_bad0 s a c (c - 192) x w ha hc (by omega) (by omega) (by omega) hx hcx
    · obtain ⟨X, rfl, X0, X1⟩ := cont_out x hcx
      rw [show 128 + X - 128 = X from by omega]
      by_cases hp : 128 ≤ (c - 192) * 64 + X
      · simp only [if_true, if_pos hp]
        exact first2_yes s a c (c - 192) X w ha hc (by omega) (by omega) (by omega) hx X0 X1 hp
      · simp only [if_true, if_neg hp]
        exact first2_low s a c (c - 192) X w ha hc (by omega) (by omega) (by omega) hx X0 X1 (by omega)
  rw [if_neg h3]
  by_cases h4 : c < 240
  · rw [if_pos h4]
    rcases hcx : cont x with _ | _
    · exact first3_bad0 s a c (c - 224) x w ha hc (by omega) (by omega) (by omega) hx hcx
    · obtain ⟨X, rfl, X0, X1⟩ := cont_out x hcx
      rw [show 128 + X - 128 = X from by omega]
      rcases hcy : cont y with _ | _
      · exact first3_bad1 s a c (c - 224) X y w ha hc (by omega) (by omega) (by omega) hx X0 X1 hy hcy
      · obtain ⟨Y, rfl, Y0, Y1⟩ := cont_out y hcy
        rw [show 128 + Y - 128 = Y from by omega]
        by_cases hp : 2048 ≤ ((c - 224) * 64 + X) * 64 + Y
        · rcases hq : isPt (((c - 224) * 64 + X) * 64 + Y) with _ | _
          · simp only [Bool.and_self, if_true, Bool.and_false, Bool.false_eq_true, if_false]
            exact first3_pt s a c (c - 224) X Y w ha hc (by omega) (by omega) (by omega) hx X0 X1 hy Y0 Y1 hp hq
          · simp only [Bool.and_self, if_true, Bool.and_true, decide_eq_true_eq, if_pos hp]
            exact first3_yes s a c (c - 224) X Y w ha hc (by omega) (by omega) (by omega) hx X0 X1 hy Y0 Y1 hp hq
        · simp only [Bool.and_self, if_true, Bool.and_eq_true, decide_eq_true_eq, hp, false_and, if_false]
          exact first3_low s a c (c - 224) X Y w ha hc (by omega) (by omega) (by omega) hx X0 X1 hy Y0 Y1 (by omega)
  rw [if_neg h4]
  by_cases h5 : c < 248
  · rw [if_pos h5]
    rcases hcx : cont x with _ | _
    · exact first4_bad0 s a c (c - 240) x w ha hc (by omega) (by omega) (by omega) hx hcx
    · obtain ⟨X, rfl, X0, X1⟩ := cont_out x hcx
      rw [show 128 + X - 128 = X from by omega]
      rcases hcy : cont y with _ | _
      · exact first4_bad1 s a c (c - 240) X y w ha hc (by omega) (by omega) (by omega) hx X0 X1 hy hcy
      · obtain ⟨Y, rfl, Y0, Y1⟩ := cont_out y hcy
        rw [show 128 + Y - 128 = Y from by omega]
        rcases hcz : cont z with _ | _
        · exact first4_bad2 s a c (c - 240) X Y z w ha hc (by omega) (by omega) (by omega) hx X0 X1 hy Y0 Y1 hz hcz
        · obtain ⟨Z, rfl, Z0, Z1⟩ := cont_out z hcz
          rw [show 128 + Z - 128 = Z from by omega]
          by_cases hp : 65536 ≤ (((c - 240) * 64 + X) * 64 + Y) * 64 + Z
          · rcases hq : isPt ((((c - 240) * 64 + X) * 64 + Y) * 64 + Z) with _ | _
            · simp only [Bool.and_self, if_true, Bool.and_false, Bool.false_eq_true, if_false]
              exact first4_pt s a c (c - 240) X Y Z w ha hc (by omega) (by omega) (by omega) hx X0 X1 hy Y0 Y1 hz Z0 Z1 hp hq
            · simp only [Bool.and_self, if_true, Bool.and_true, decide_eq_true_eq, if_pos hp]
              exact first4_yes s a c (c - 240) X Y Z w ha hc (by omega) (by omega) (by omega) hx X0 X1 hy Y0 Y1 hz Z0 Z1 hp hq
          · simp only [Bool.and_self, if_true, Bool.and_eq_true, decide_eq_true_eq, hp, false_and, if_false]
            exact first4_low s a c (c - 240) X Y Z w ha hc (by omega) (by omega) (by omega) hx X0 X1 hy Y0 Y1 hz Z0 Z1 (by omega)
  rw [if_neg h5]
  exact first_none s a c w hc (.inr (by omega))

/-- What a step is. -/
theorem dec4_some {c x y z p : Int} {n : Nat} (h : dec4 c x y z = some (p, n)) : isPt p = true ∧ 1 ≤ n ∧ n ≤ 4 ∧ 0 ≤ c ∧ (2 ≤ n → 0 ≤ x) ∧ (3 ≤ n → 0 ≤ y) ∧ (4 ≤ n → 0 ≤ z) := by
  unfold dec4 at h
  repeat' split at h
  all_goals first
    | (cases h; done)
    | (obtain ⟨rfl, rfl⟩ := Prod.mk.inj (Option.some.inj h)
       simp only [isPt, cont, Bool.and_eq_true, Bool.or_eq_true, decide_eq_true_eq] at *
       omega)
theorem decS_some {s : ByteArray} {a n : Nat} {p : Int} (h : decS s a = some (p, n)) : isPt p = true ∧ 1 ≤ n ∧ n ≤ 4 ∧ a + n ≤ s.size := by
  have hd := dec4_some h
  refine ⟨hd.1, hd.2.1, hd.2.2.1, ?_⟩
  obtain ⟨_, h1, h2, h3, h4, h5, h6⟩ := hd
  have k0 := (at1_in s a).1 h3
  rcases (by omega : n = 1 ∨ n = 2 ∨ n = 3 ∨ n = 4) with rfl | rfl | rfl | rfl
  · omega
  · have := (at1_in s (a + 1)).1 (h4 (by omega)); omega
  · have := (at1_in s (a + 2)).1 (h5 (by omega)); omega
  · have := (at1_in s (a + 3)).1 (h6 (by omega)); omega
theorem decS_end {s : ByteArray} {a : Nat} (h : s.size ≤ a) : decS s a = none := by
  rcases hd : decS s a with _ | ⟨p, n⟩
  · rfl
  · have := decS_some hd; omega
end Go.Proofs.YtolnnkalgioobaaGreatDoor
