/- The walk of BaseForth. -/
import Derived.Test.YtjnmjgpkicbbdaaJ
import Derived.Test.YtjnmjgpkicbbdaaR
namespace Go.Proofs.Ytjnmjgpkicbbdaa
open Go.RowKit
set_option maxRecDepth 100000
set_option linter.unusedVariables false
set_option linter.unusedSimpArgs false

/-- What was read of a text, told again. -/
theorem hex_again (s : ByteArray) (ys : List Int) (h : unhexL (ints s) = some ys) (hs : s.size ≤ 16777216) (A : Option Addr) (c : Nat) (w : World) (hr : RK w .u8 A ys) :
    Calls Try.prog 13 #[.slice A ys.length c] w fun e w' => e = .returned (.string s) ∧ Below w.heap.size w w' := by
  have h1 := hex_unhex _ _ _ (Nat.le_refl _) h
  have h2 : (hexL ys).length = s.size := by rw [h1.1, ints_length]
  rw [hexL_len] at h2
  have := hex_any A c ys w h1.2 (by omega) hr
  rw [h1.1, strOfNums_ints] at this
  exact this
theorem b64_again (s : ByteArray) (ys : List Int) (h : unb64L (ints s) = some ys) (hs : s.size ≤ 16777216) (A : Option Addr) (c : Nat) (w : World) (hr : RK w .u8 A ys) (hc : ys.length ≤ c) :
    Calls Try.prog 14 #[.slice A ys.length c] w fun e w' => e = .returned (.string s) ∧ Below w.heap.size w w' := by
  have h1 := b64_unb64 _ _ h
  have h2 : (b64L ys).length = s.size := by rw [h1.1, ints_length]
  rw [b64L_len] at h2
  have := b64_row A c ys w h1.2 (by omega) hr hc
  rw [h1.1, strOfNums_ints] at this
  exact this

theorem forth_big (s : ByteArray) (w : World) (hs : 16777216 < s.size) : Calls Try.prog 7 #[.string s] w fun e w' => e = .returned (.bool true) ∧ Below w.heap.size w w' := by
  have hb : decide ((s.size : Int) > 16777216) = true := by simp; omega
  go_enter Try.func7, Try.ntmps7
  go_wp2
  go_ret
  exact ⟨rfl, Below.refl _ _⟩
theorem forth_any (s : ByteArray) (w : World) : Calls Try.prog 7 #[.string s] w fun e w' => e = .returned (.bool true) ∧ Below w.heap.size w w' := by
  by_cases hs : 16777216 < s.size
  · exact forth_big s w hs
  have hb : decide ((s.size : Int) > 16777216) = false := by simp; omega
  rcases hh : unhexL (ints s) with _ | xs <;> rcases hq : unb64L (ints s) with _ | ys
  · have c1 := fun W => (fromHex_any s W (by omega)).mono (FromPost.toNone (w := W) hh)
    have c2 := fun W => (fromB64_any s W (by omega)).mono (FromPost.toNone (w := W) hq)
    go_enter Try.func7, Try.ntmps7
    go_wp2_with (first
      | (go_at_call 15; refine (c1 _).mono ?_; rintro e w1 ⟨rfl, hb1⟩)
      | (go_at_call 16; refine (c2 _).mono ?_; rintro e w2 ⟨rfl, hb2⟩)
      | (go_at_call 11; refine (lives_any _).mono ?_; rintro e w5 ⟨rfl, hb5⟩))
    go_ret
    exact ⟨rfl, below_on (below_on hb1 hb2) hb5⟩
  · have c1 := fun W => (fromHex_any s W (by omega)).mono (FromPost.toNone (w := W) hh)
    have c2 := fun W => (fromB64_any s W (by omega)).mono (FromPost.toSome (w := W) hq)
    have c4 := b64_again s ys hq (by omega)
    go_enter Try.func7, Try.ntmps7
    go_wp2_with (first
      | (go_at_call 15; refine (c1 _).mono ?_; rintro e w1 ⟨rfl, hb1⟩)
      | (go_at_call 16; refine (c2 _).mono ?_; rintro e w2 ⟨B, d, rfl, hB, hd, hb2⟩)
      | (go_at_call 14; refine (c4 _ _ _ hB hd).mono ?_; rintro e w4 ⟨rfl, hb4⟩)
      | (go_at_call 11; refine (lives_any _).mono ?_; rintro e w5 ⟨rfl, hb5⟩))
    go_ret
    exact ⟨rfl, below_on (below_on (below_on hb1 hb2) hb4) hb5⟩
  · have c1 := fun W => (fromHex_any s W (by omega)).mono (FromPost.toSome (w := W) hh)
    have c2 := fun W => (fromB64_any s W (by omega)).mono (FromPost.toNone (w := W) hq)
    have c3 := hex_again s xs hh (by omega)
    go_enter Try.func7, Try.ntmps7
    go_wp2_with (first
      | (go_at_call 15; refine (c1 _).mono ?_; rintro e w1 ⟨A, c, rfl, hA, hc, hb1⟩)
      | (go_at_call 16; refine (c2 _).mono ?_; rintro e w2 ⟨rfl, hb2⟩)
      | (go_at_call 13; refine (c3 _ _ _ (hA.below hb2)).mono ?_; rintro e w3 ⟨rfl, hb3⟩)
      | (go_at_call 11; refine (lives_any _).mono ?_; rintro e w5 ⟨rfl, hb5⟩))
    go_ret
    exact ⟨rfl, below_on (below_on (below_on hb1 hb2) hb3) hb5⟩
  · have c1 := fun W => (fromHex_any s W (by omega)).mono (FromPost.toSome (w := W) hh)
    have c2 := fun W => (fromB64_any s W (by omega)).mono (FromPost.toSome (w := W) hq)
    have c3 := hex_again s xs hh (by omega)
    have c4 := b64_again s ys hq (by omega)
    go_enter Try.func7, Try.ntmps7
    go_wp2_with (first
      | (go_at_call 15; refine (c1 _).mono ?_; rintro e w1 ⟨A, c, rfl, hA, hc, hb1⟩)
      | (go_at_call 16; refine (c2 _).mono ?_; rintro e w2 ⟨B, d, rfl, hB, hd, hb2⟩)
      | (go_at_call 13; refine (c3 _ _ _ (hA.below hb2)).mono ?_; rintro e w3 ⟨rfl, hb3⟩)
      | (go_at_call 14; refine (c4 _ _ _ (hB.below hb3) hd).mono ?_; rintro e w4 ⟨rfl, hb4⟩)
      | (go_at_call 11; refine (lives_any _).mono ?_; rintro e w5 ⟨rfl, hb5⟩))
    go_ret
    exact ⟨rfl, below_on (below_on (below_on (below_on hb1 hb2) hb3) hb4) hb5⟩
end Go.Proofs.Ytjnmjgpkicbbdaa
