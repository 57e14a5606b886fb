/- The walk of BaseTells. -/
import Derived.Test.YtjnmjgpkicbbdaaX
namespace Go.Proofs.Ytjnmjgpkicbbdaa
open Go.RowKit
set_option maxRecDepth 100000
set_option linter.unusedVariables false
set_option linter.unusedSimpArgs false
set_option linter.unnecessarySimpa false

theorem tells_big (A B : Option Addr) (n m c d : Nat) (w : World) (hn : n ≤ 140737488351232) (hm : m ≤ 140737488351232) (h : 16777216 < n + m) :
    Calls Try.prog 3 #[.slice A n c, .slice B m d] w fun e w' => e = .returned (.bool true) ∧ Below w.heap.size w w' := by
  have hb : decide ((n : Int) + (m : Int) > 16777216) = true := by simp; omega
  go_enter Try.func3, Try.ntmps3
  go_wp2
  go_ret
  exact ⟨rfl, Below.refl _ _⟩
theorem Bytes.set {zs : List Int} (h : Bytes zs) (k : Nat) (y : Int) (h0 : 0 ≤ y) (h1 : y ≤ 255) : Bytes (zs.set k y) := fun x hx => by
  rcases List.mem_or_eq_of_mem_set hx with hx | rfl
  · exact h x hx
  · exact ⟨h0, h1⟩
theorem tells_some (A B : Option Addr) (c d n m : Nat) (xs ys : List Int) (w : World) (hl1 : xs.length = n) (hl2 : ys.length = m) (hx : Bytes xs) (hy : Bytes ys) (hr : RK w .u8 A xs) (hry : RK w .u8 B ys) (hcap : n ≤ c) (hcap2 : m ≤ d)
    (hn : n + m ≤ 16777216) :
    Calls Try.prog 3 #[.slice A n c, .slice B m d] w fun e w' => e = .returned (.bool true) ∧ Below w.heap.size w w' := by
  have hb : decide ((n : Int) + (m : Int) > 16777216) = false := by simp; omega
  have htw := fun W h1 => twin_any A c xs W (by rw [hl1]; omega) h1
  rw [hl1] at htw
  have hR := Lib.hid hr
  have hRY := Lib.hid hry
  have hX := Lib.hid hx
  have hY := Lib.hid hy
  have hL1 := Lib.hid hl1
  have hL2 := Lib.hid hl2
  have t1 : ∀ (g : Nat) (zs : List Int) (W : World), zs.length = n → Bytes zs → Blk W g (zs ++ [28]) → Calls Try.prog 9 #[.slice (some ⟨g, 0, none⟩) n (n + 1)] W fun e w' => e = .returned (.bool true) ∧ Below W.heap.size W w' :=
    fun g zs W hz hbz h => tells_any (some ⟨g, 0, none⟩) (n + 1) n zs W hbz hz (by omega) (by omega) h.row
  have t2 : ∀ (W : World), Below w.heap.size w W → Calls Try.prog 9 #[.slice B m d] W fun e w' => e = .returned (.bool true) ∧ Below W.heap.size W w' :=
    fun W h => tells_any B d m ys W hY.out hL2.out (by omega) hcap2 (hRY.out.kept h)
  have t3 : ∀ (g : Nat) (W : World), Below w.heap.size w W → Blk W g (xs ++ [28]) → Calls Try.prog 10 #[.slice (some ⟨g, 0, none⟩) n (n + 1), .slice A n c] W fun e w' => e = .returned (.bool true) ∧ Below W.heap.size W w' := fun g W hb h => by
    have := left_yes g A c xs W (by rw [hL1.out]; omega) h (hR.out.kept hb)
    rwa [hL1.out] at this
  clear hr hry hx hy hl1 hl2
  go_enter Try.func3, Try.ntmps3
  go_upto_region 4 with (go_at_call 8; refine (htw _ hR.out).mono ?_; rintro e w1 ⟨g, rfl, hg0, hgb, hb1⟩; rw [hL1.out])
  have hG : Blk w1 g (xs ++ [28]) := hgb
  have s1 := t1 g xs w1 hL1.out hX.out hG
  clear hgb htw
  go_upto_region 6 with (first
    | (go_at_call 9; with_reducible refine s1.mono ?_; rintro e w2 ⟨rfl, hb2⟩; have hG2 := hG.below hb2; have hB2 := below_on hb1 hb2; have s2 := t2 w2 hB2)
    | (go_at_call 9; with_reducible refine s2.mono ?_; rintro e w3 ⟨rfl, hb3⟩; have hG3 := hG2.below hb3; have hB3 := below_on hB2 hb3; have s3 := t1 g xs w3 hL1.out hX.out hG3)
    | (go_at_call 9; with_reducible refine s3.mono ?_; rintro e w4 ⟨rfl, hb4⟩; have hG4 := hG3.below hb4; have hB4 := below_on hB3 hb4)
    | (go_at_call 10; refine (t3 g _ hB4 hG4).mono ?_; rintro e w5 ⟨rfl, hb5⟩))
  have hG5 := hG4.below hb5
  have hB5 := below_on hB4 hb5
  clear s1 s2 s3 hb1 hb2 hb3 hb4 hb5 hG hG2 hG3 hG4 hB2 hB3 hB4
  go_wp2
  go_loopw [6] (fun i W => ∃ (k : Nat) (zs : List Int), k ≤ n ∧ i = .int .i64 k ∧ zs.length = n ∧ Bytes zs ∧ Blk W g (zs ++ [28]) ∧ Below w.heap.size w W) (fun i _ => n - (intOf i).toNat)
  case atStart => exact ⟨0, xs, by omega, rfl, hL1.out, hX.out, hG5, hB5⟩
  case round =>
    obtain ⟨k, zs, hk, rfl, hzl, hzb, hG, hB⟩ := hrel
    by_cases hlt : k < n ∧ 0 < m
    · obtain ⟨hkn, hm0⟩ := hlt
      have hRw := hRY.out.kept hB
      have hqm : k % m < m := Nat.mod_lt _ hm0
      have hmod : (k : Int) % (m : Int) = ((k % m : Nat) : Int) := by omega
      obtain ⟨q, hq⟩ : ∃ q, q = k % m := ⟨_, rfl⟩
      rw [← hq] at hqm hmod
      clear hq
      rcases hRw with h0 | ⟨b, off, rfl, hc⟩
      · have := hL2.out; rw [h0] at this; simp at this; omega
      have hcell := hc q (by rw [hL2.out]; exact hqm)
      have hyb := hY.out.at q
      generalize ys.getD q 0 = y at hcell hyb
      have hy0 := hyb.1
      have hy1 := hyb.2
      have hcx : wr.cell? ⟨g, k, none⟩ = some (.int .u8 ((zs ++ [28]).getD k 0)) := hG.at k (by simp; omega)
      have hfx := hG.free k
      generalize (zs ++ [28]).getD k 0 = y2 at hcx
      have hG' := Lib.hid (hG.set k y)
      rw [List.set_append_left _ _ (by omega)] at hG'
      have HZ := Lib.hid hzb
      have HZL := Lib.hid hzl
      have HB := Lib.hid hB
      have hq1 : (q : Int) < (m : Int) := by omega
      clear hc hyb hG hzb hzl hB
      go_wp2
      exact ⟨⟨k + 1, zs.set k y, by omega, by go_num, by rw [List.length_set]; exact HZL.out, HZ.out.set k y hy0 hy1, hG'.out, HB.out.setCell hg0 _⟩, by simp [intOf]; omega⟩
    · have s4 := t1 g zs wr hzl hzb hG
      clear hzb hzl hG
      by_cases hkn : k < n
      · have hm0 : m = 0 := by omega
        subst hm0
        go_wp2_with (first
          | (go_at_call 9; refine s4.mono ?_; rintro e w6 ⟨rfl, hb6⟩)
          | (go_at_call 11; refine (lives_any _).mono ?_; rintro e w7 ⟨rfl, hb7⟩))
        go_ret
        exact ⟨rfl, below_on (below_on hB hb6) hb7⟩
      · have hge : (n : Int) ≤ (k : Int) := by omega
        go_wp2_with (first
          | (go_at_call 9; refine s4.mono ?_; rintro e w6 ⟨rfl, hb6⟩)
          | (go_at_call 11; refine (lives_any _).mono ?_; rintro e w7 ⟨rfl, hb7⟩))
        go_ret
        exact ⟨rfl, below_on (below_on hB hb6) hb7⟩
theorem tellsW (a0 : Option Addr) (len0 cap0 : Nat) (z0 : List Int) (a1 : Option Addr) (len1 cap1 : Nat) (z1 : List Int) (w : World) (w0 : IsRow .u8 w a0 len0 cap0 z0) (hr0 : cap0 * 1 ≤ 140737488351232)
    (w1 : IsRow .u8 w a1 len1 cap1 z1) (hr1 : cap1 * 1 ≤ 140737488351232) :
    Calls Try.prog 3 #[.slice a0 len0 cap0, .slice a1 len1 cap1] w fun e w' => e = .returned (.bool true) ∧ Below w.heap.size w w' := by
  obtain ⟨xs, hl0, hx, hrx, hc0⟩ := w0.rk
  obtain ⟨ys, hl1, hy, hry, hc1⟩ := w1.rk
  by_cases hbig : 16777216 < len0 + len1
  · exact tells_big a0 a1 len0 len1 cap0 cap1 w (by omega) (by omega) hbig
  · exact tells_some a0 a1 cap0 cap1 len0 len1 xs ys w hl0 hl1 hx hy hrx hry hc0 hc1 (by omega)
end Go.Proofs.Ytjnmjgpkicbbdaa
