/- The walk of UtfSteps. -/
import Derived.Test.YtolnnkalgioobaaN
namespace Go.Proofs.Ytolnnkalgioobaa
open Go.RowKit
set_option maxRecDepth 100000
set_option linter.unusedVariables false
set_option linter.unusedSimpArgs false
set_option linter.unnecessarySimpa false

theorem steps_out (s : ByteArray) (a : Int) (w : World) (hs : s.size ≤ 140737488351232) (h : a < 0 ∨ (s.size : Int) ≤ a) :
    Calls Try.prog 3 #[.string s, .int .i64 a] w fun e w' => e = .returned (.bool true) ∧ Below w.heap.size w w' := by
  have c1 := fun w => bad_any s w hs
  have c2 := fun w => refBad_any s w hs
  have c3 := fun w => first_out s a w h
  generalize badF s = b at c1 c2
  by_cases h0 : a < 0
  · clear h
    go_enter Try.func3, Try.ntmps3
    go_wp2_with (first
      | (go_at_call 10; refine (c1 _).mono ?_; rintro e w1 ⟨rfl, rfl⟩)
      | (go_at_call 11; refine (c2 _).mono ?_; rintro e w2 ⟨rfl, hb2⟩)
      | (go_at_call 12; refine (c3 _).mono ?_; rintro e w3 ⟨rfl, rfl⟩)
      | (go_at_call 13; refine (lives_any _).mono ?_; rintro e w4 ⟨rfl, hb4⟩))
    go_ret
    exact ⟨rfl, below_on hb2 hb4⟩
  · have h1 : (s.size : Int) ≤ a := by omega
    clear h
    go_enter Try.func3, Try.ntmps3
    go_wp2_with (first
      | (go_at_call 10; refine (c1 _).mono ?_; rintro e w1 ⟨rfl, rfl⟩)
      | (go_at_call 11; refine (c2 _).mono ?_; rintro e w2 ⟨rfl, hb2⟩)
      | (go_at_call 12; refine (c3 _).mono ?_; rintro e w3 ⟨rfl, rfl⟩)
      | (go_at_call 13; refine (lives_any _).mono ?_; rintro e w4 ⟨rfl, hb4⟩))
    go_ret
    exact ⟨rfl, below_on hb2 hb4⟩
theorem steps_in (s : ByteArray) (a : Nat) (w : World) (hs : s.size ≤ 140737488351232) (h : a < s.size) :
    Calls Try.prog 3 #[.string s, .int .i64 a] w fun e w' => e = .returned (.bool true) ∧ Below w.heap.size w w' := by
  have c1 := fun w => bad_any s w hs
  have c2 := fun w => refBad_any s w hs
  have c3 := fun w => first_any s a w (by omega)
  have c4 := fun w => refFirst_any s a w hs h
  have ha0 : (0 : Int) ≤ a := by omega
  have ha1 : (a : Int) < (s.size : Int) := by omega
  generalize badF s = b at c1 c2
  generalize at1 s a = c at c4
  rcases hd : decS s a with _ | ⟨p, n⟩
  · rw [hd] at c3 c4
    simp only [firstV, stepV] at c3 c4
    clear hd h
    go_enter Try.func3, Try.ntmps3
    go_wp2_with (first
      | (go_at_call 10; refine (c1 _).mono ?_; rintro e w1 ⟨rfl, rfl⟩)
      | (go_at_call 11; refine (c2 _).mono ?_; rintro e w2 ⟨rfl, hb2⟩)
      | (go_at_call 12; refine (c3 _).mono ?_; rintro e w3 ⟨rfl, rfl⟩)
      | (go_at_call 14; refine (c4 _).mono ?_; rintro e w5 ⟨rfl, hb5⟩)
      | (go_at_call 13; refine (lives_any _).mono ?_; rintro e w4 ⟨rfl, hb4⟩))
    go_ret
    exact ⟨rfl, ((below_on hb2 hb5).alloc (below_on hb2 hb5).size _).trans (hb4.mono (by have := (below_on hb2 hb5).size; simp; omega))⟩
  · rw [hd] at c3 c4
    have hp := (isPt_iff p).1 (decS_some hd).1
    obtain ⟨hp0, hp1, _⟩ := hp
    simp only [firstV, stepV] at c3 c4
    clear hd h
    go_enter Try.func3, Try.ntmps3
    go_wp2_with (first
      | (go_at_call 10; refine (c1 _).mono ?_; rintro e w1 ⟨rfl, rfl⟩)
      | (go_at_call 11; refine (c2 _).mono ?_; rintro e w2 ⟨rfl, hb2⟩)
      | (go_at_call 12; refine (c3 _).mono ?_; rintro e w3 ⟨rfl, rfl⟩)
      | (go_at_call 14; refine (c4 _).mono ?_; rintro e w5 ⟨rfl, hb5⟩)
      | (go_at_call 13; refine (lives_any _).mono ?_; rintro e w4 ⟨rfl, hb4⟩))
    go_ret
    exact ⟨rfl, ((below_on hb2 hb5).alloc (below_on hb2 hb5).size _).trans (hb4.mono (by have := (below_on hb2 hb5).size; simp; omega))⟩
theorem stepsW (s : ByteArray) (a : Int) (w : World) (hs : s.size ≤ 140737488351232) :
    Calls Try.prog 3 #[.string s, .int .i64 a] w fun e w' => e = .returned (.bool true) ∧ Below w.heap.size w w' := by
  by_cases h : a < 0 ∨ (s.size : Int) ≤ a
  · exact steps_out s a w hs h
  · obtain ⟨n, rfl⟩ := Int.eq_ofNat_of_zero_le (show 0 ≤ a by omega)
    exact steps_in s n w hs (by omega)
end Go.Proofs.Ytolnnkalgioobaa
