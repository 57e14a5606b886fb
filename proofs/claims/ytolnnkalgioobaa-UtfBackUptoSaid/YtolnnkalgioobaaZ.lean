/- The walk of UtfTotal. -/
import Derived.Deep.RegionHeld3
import Derived.Deep.DeepCutAuto
import Derived.Outline
import Derived.Test.YtolnnkalgioobaaY
namespace Go.Proofs.Ytolnnkalgioobaa
open Go.RowKit
set_option maxRecDepth 100000
set_option linter.unusedVariables false
set_option linter.unusedSimpArgs false
set_option linter.unnecessarySimpa false

theorem above_any (p q : Int) (w : World) : Calls Try.prog 25 #[.int .i32 p, .int .i32 q] w fun e w' => e = .returned (.bool (aboveF p q)) ∧ w = w' := by
  unfold aboveF
  by_cases h1 : 65535 < p ∧ 57344 ≤ q ∧ q ≤ 65535
  · rw [if_pos h1]
    obtain ⟨h1, h2, h3⟩ := h1
    go_enter Try.func25, Try.ntmps25
    go_wp2
    go_ret
    exact ⟨rfl, rfl⟩
  · rw [if_neg h1]
    by_cases h2 : 65535 < q ∧ 57344 ≤ p ∧ p ≤ 65535
    · rw [if_pos h2]
      obtain ⟨h2, h3, h4⟩ := h2
      have h5 : ¬ 65535 < p := by omega
      clear h1
      go_enter Try.func25, Try.ntmps25
      go_wp2
      go_ret
      exact ⟨rfl, rfl⟩
    · rw [if_neg h2]
      have H1 := Lib.hid h1
      have H2 := Lib.hid h2
      clear h1 h2
      go_enter Try.func25, Try.ntmps25
      go_wp2
      all_goals first
        | (exfalso; have h1 := H1.out; omega)
        | (exfalso; have h2 := H2.out; omega)
        | (go_ret; exact ⟨rfl, rfl⟩)
set_option maxHeartbeats 4000000 in
theorem total_bad (s t u : ByteArray) (x y z : Int) (w : World) (b1 b2 : Bool) (hbb : (b1 && b2) = false)
    (c1 : ∀ w, Calls Try.prog 15 #[.string s, .string t] w fun e w' => e = .returned (.int .i64 x) ∧ w = w')
    (c2 : ∀ w, Calls Try.prog 15 #[.string t, .string u] w fun e w' => e = .returned (.int .i64 y) ∧ w = w')
    (c3 : ∀ w, Calls Try.prog 15 #[.string s, .string u] w fun e w' => e = .returned (.int .i64 z) ∧ w = w')
    (c4 : ∀ w, Calls Try.prog 15 #[.string t, .string s] w fun e w' => e = .returned (.int .i64 (-x)) ∧ w = w')
    (x0 : -1 ≤ x) (x1 : x ≤ 1) (hE : (s.toList == t.toList) = (x == 0)) (H1 : Hid (x ≤ 0 → y ≤ 0 → z ≤ 0)) (H2 : Hid (0 ≤ x → 0 ≤ y → 0 ≤ z))
    (r1 : ∀ W, Calls Try.prog 21 #[.string s] W fun e w' => ∃ v, e = .returned (.tuple #[v, .bool b1]) ∧ Below W.heap.size W w')
    (r2 : ∀ W, Calls Try.prog 21 #[.string t] W fun e w' => ∃ v, e = .returned (.tuple #[v, .bool b2]) ∧ Below W.heap.size W w') :
    Calls Try.prog 8 #[.string s, .string t, .string u] w fun e w' => e = .returned (.bool true) ∧ Below w.heap.size w w' := by
  have k0 : (-x != -x) = false := by simp
  go_enter Try.func8, Try.ntmps8
  go_upto_region 2 with (first
    | (go_at_call 15; with_reducible refine (c1 _).mono ?_; rintro e w1 ⟨rfl, rfl⟩)
    | (go_at_call 15; with_reducible refine (c2 _).mono ?_; rintro e w1 ⟨rfl, rfl⟩)
    | (go_at_call 15; with_reducible refine (c3 _).mono ?_; rintro e w1 ⟨rfl, rfl⟩))
  go_cut [69] (fun r W => r = .bool false ∧ W = w)
  case first =>
    have n1 : ¬ x < -1 := by omega
    have n2 : ¬ 1 < x := by omega
    have n3 : decide (x < -1) = false := by simp; omega
    have n4 : decide (1 < x) = false := by simp; omega
    have fin : (x ≤ 0 → y ≤ 0 → z ≤ 0) ∧ (0 ≤ x → 0 ≤ y → 0 ≤ z) := ⟨H1.out, H2.out⟩
    go_wp2_with (go_at_call 15; with_reducible refine (c4 _).mono ?_; rintro e w1 ⟨rfl, rfl⟩)
    all_goals
      go_meet
      first
        | exact ⟨rfl, rfl⟩
        | (exfalso; omega)
        | exact ⟨by congr 1; simp; omega, rfl⟩
  case rest =>
    obtain ⟨rfl, rfl⟩ := hcut
    rcases b1 with _ | _ <;> rcases b2 with _ | _
    all_goals first
      | (cases hbb; done)
      | (go_wp2_with (first
          | (go_at_call 21; with_reducible refine (r1 _).mono ?_; rintro e w1 ⟨v1, rfl, hb1⟩)
          | (go_at_call 21; with_reducible refine (r2 _).mono ?_; rintro e w2 ⟨v2, rfl, hb2⟩)
          | (go_at_call 13; refine (lives_any _).mono ?_; rintro e w3 ⟨rfl, hb3⟩))
         go_ret
         exact ⟨rfl, below_on (below_on hb1 hb2) hb3⟩)
end Go.Proofs.Ytolnnkalgioobaa
