/- The walks of the document's answer: bits, take, told. -/
import Derived.Test.YtjnmjgpkicbbdaaGreatDoorR
import Derived.Test.YtjnmjgpkicbbdaaGreatDoorN
namespace Go.Proofs.YtjnmjgpkicbbdaaGreatDoor
open Go.RowKit
set_option maxRecDepth 100000
set_option linter.unusedVariables false
set_option linter.unusedSimpArgs false
set_option linter.unnecessarySimpa false

theorem info_int : (Tryz.prog.info? 3).map (fun i => (i.zero, i.size, i.bytes)) = some (some (.int .i64 0), 1, 8) := by kernel_rfl

def bits8 (x : Int) : List Int := [x / 128 % 2, x / 64 % 2, x / 32 % 2, x / 16 % 2, x / 8 % 2, x / 4 % 2, x / 2 % 2, x % 2]
def bitsL : List Int → List Int
  | [] => []
  | x :: xs => bits8 x ++ bitsL xs
theorem bitsL_snoc : ∀ xs (x : Int), bitsL (xs ++ [x]) = bitsL xs ++ bits8 x
  | [], x => by simp [bitsL]
  | y :: ys, x => by simp [bitsL, bitsL_snoc ys x]
theorem bitsL_len : ∀ xs, (bitsL xs).length = 8 * xs.length
  | [] => rfl
  | y :: ys => by simp [bitsL, bits8, bitsL_len ys]; omega
theorem bitsL_bit : ∀ xs, ∀ y ∈ bitsL xs, 0 ≤ y ∧ y ≤ 1
  | [], y, h => by simp [bitsL] at h
  | x :: xs, y, h => by
    rcases List.mem_append.1 h with h | h
    · simp only [bits8, List.mem_cons, List.not_mem_nil, or_false] at h
      rcases h with rfl | rfl | rfl | rfl | rfl | rfl | rfl | rfl <;> omega
    · exact bitsL_bit xs y h

theorem bits_any (A : Option Addr) (c n : Nat) (xs : List Int) (w : World) (hx : Bytes xs) (hl : xs.length = n) (hn : n ≤ 16777216) (hr : RK w .u8 A xs) :
    Calls Tryz.prog 64 #[.slice A n c] w fun e w' => ∃ v, e = .returned v ∧ Own w' w.heap.size 3 .i64 v (bitsL xs) ∧ Below w.heap.size w w' := by
  have hR := Lib.hid hr
  have hX := Lib.hid hx
  have hL := Lib.hid hl
  clear hr hx hl
  go_enter Tryz.func64, Tryz.ntmps64
  go_wp2
  go_loopw [3, 4] (fun v i W => ∃ k : Nat, k ≤ n ∧ i = .int .i64 k ∧ Own W w.heap.size 3 .i64 v (bitsL (xs.take k)) ∧ Below w.heap.size w W) (fun _ i _ => n - (intOf i).toNat)
  case atStart => exact ⟨0, by omega, rfl, Own.nil _ _ _ _, Below.refl _ _⟩
  case round =>
    obtain ⟨k, hk, rfl, ho, hb⟩ := hrel
    by_cases hlt : k < n
    · have hkl : k < xs.length := by rw [hL.out]; exact hlt
      have hRw := hR.out.kept hb
      rcases hRw with h0 | ⟨b, off, rfl, hc⟩
      · subst h0; simp at hkl
      have hcell := hc k hkl
      have hbd := hX.out.at k
      have hblt : b < wr.heap.size := World.block_lt_of_cell? wr _ hcell
      obtain ⟨x, hx⟩ : ∃ x, xs.getD k 0 = x := ⟨_, rfl⟩
      have hsn := Lib.hid (take_snoc xs k hkl)
      rw [hx] at hcell hbd
      have HX := Lib.hid hx
      have hlen : (bitsL (xs.take k)).length = 8 * k := by rw [bitsL_len, List.length_take]; omega
      obtain ⟨hx0, hx1⟩ := hbd
      clear hc hx
      generalize hys : bitsL (xs.take k) = ys at ho hlen
      have HY := Lib.hid hys
      clear hys
      have ho1 := ho
      have hb1 := hb
      have hcw : ∀ W, Below w.heap.size w W → W.cell? ⟨b, off + k, none⟩ = some (.int .u8 x) := fun W h => by
        rcases hR.out.kept h with h0 | ⟨b2, off2, e, hc2⟩
        · subst h0; simp at hkl
        · obtain ⟨rfl, rfl⟩ : b = b2 ∧ off = off2 := by simpa using e
          rw [hc2 k hkl, HX.out]
      have HW := Lib.hid hcw
      have HY2 := Lib.hid hlen
      clear ho hb hcw hlen
      go_wp2
      refine wp_loop_rounds 9 ?_
      repeat any_goals (rw [rounds_succ]; go_wp2_with (at_builtin; refine app1 w.heap.size rfl (.tmp 16) (.tmp 25) 54 3 .i64 8 rfl Tryz.underlying54 info_int _ _ _ rfl rfl ho1 hb1 hb1.size (by have := HY2.out; simp; omega) (by have := HY2.out; simp; omega) ?_; intro v1 w3 ho1 hb1 _; have hcell := HW.out _ hb1))
      exact ⟨⟨k + 1, by omega, by go_num, by rw [hsn.out, bitsL_snoc, HX.out, HY.out]; simpa [bits8] using ho1, hb1⟩, by simp [intOf]; omega⟩
    · obtain rfl : k = n := by omega
      have ht : xs.take k = xs := List.take_of_length_le (by rw [hL.out]; omega)
      rw [ht] at ho
      have HO := Lib.hid ho
      clear ho ht
      go_wp2
      go_ret
      exact ⟨_, rfl, HO.out, hb⟩

def take0 : Nat → List Int → Int → Int
  | 0, _, a => a
  | n + 1, l, a => take0 n l.tail (a * 2 + l.headD 0)
theorem take_any (A : Option Addr) (c N a n : Nat) (ls : List Int) (w : World) (hb : ∀ y ∈ ls, 0 ≤ y ∧ y ≤ 1) (hl : ls.length = N) (hN : N ≤ 268435456) (ha : a ≤ 268435456) (hn : n ≤ 8) (hr : RK w .i64 A ls) :
    Calls Tryz.prog 62 #[.slice A N c, .int .i64 a, .int .i64 n] w fun e w' => e = .returned (.int .i64 (take0 n (ls.drop a) 0)) ∧ Below w.heap.size w w' := by
  have hR := Lib.hid hr
  have hL := Lib.hid hl
  have hB := Lib.hid hb
  clear hr hl hb
  go_enter Tryz.func62, Tryz.ntmps62
  go_wp2
  go_loopw [7, 8] (fun x i W => ∃ (j : Nat) (X : Int), j ≤ n ∧ x = .int .i64 X ∧ i = .int .i64 ((a + j : Nat) : Int) ∧ 0 ≤ X ∧ X < ((2 ^ j : Nat) : Int) ∧ Hid (take0 (n - j) (ls.drop (a + j)) X = take0 n (ls.drop a) 0) ∧ W = w) (fun _ i _ => a + n - (intOf i).toNat)
  case atStart => exact ⟨0, 0, by omega, rfl, by simp, by omega, by simp, Lib.hid (by simp), rfl⟩
  case round =>
    obtain ⟨j, X, hj, rfl, rfl, hX0, hX1, hT, rfl⟩ := hrel
    by_cases hlt : j < n
    · have hP : 2 ^ j ≤ 256 := Nat.pow_le_pow_right (n := 2) (i := j) (j := 8) (by omega) (by omega)
      have hPs : 2 ^ (j + 1) = 2 ^ j * 2 := Nat.pow_succ ..
      have HPs := Lib.hid hPs
      clear hPs
      have HX1 := Lib.hid hX1
      have hX2 : X ≤ 255 := by omega
      have hw1 : ((a + j : Nat) : Int) + 1 ≤ 9223372036854775807 := by omega
      have e1 : n - j = (n - (j + 1)) + 1 := by omega
      clear hX1 hP
      by_cases hin : a + j < ls.length
      · have hcons : ls.drop (a + j) = ls.getD (a + j) 0 :: ls.drop (a + j + 1) := by
          rw [List.drop_eq_getElem_cons hin, List.getD_eq_getElem?_getD, List.getElem?_eq_getElem hin]; rfl
        have hy := hB.out (ls.getD (a + j) 0) (by rw [List.getD_eq_getElem?_getD, List.getElem?_eq_getElem hin]; exact List.getElem_mem hin)
        rcases hR.out with h0 | ⟨b, off, rfl, hc⟩
        · subst h0; simp at hin
        have hcell := hc (a + j) hin
        have hstep : Hid (take0 (n - (j + 1)) (ls.drop (a + (j + 1))) (X * 2 + ls.getD (a + j) 0) = take0 n (ls.drop a) 0) := Lib.hid (by
          rw [← hT.out, e1, take0, hcons]; rfl)
        generalize ls.getD (a + j) 0 = y at hy hcell hstep
        clear hc hcons
        have hy0 := hy.1
        have hy1 := hy.2
        have hin2 : ((a + j : Nat) : Int) < (N : Int) := by rw [← hL.out]; omega
        have hin3 : (a : Int) + (j : Int) < (N : Int) := by omega
        have hlt2 : (a : Int) + (j : Int) < (a : Int) + (n : Int) := by omega
        clear hin
        go_wp2
        exact ⟨⟨j + 1, X * 2 + y, by omega, rfl, by go_num, by omega, by have := HPs.out; have := HX1.out; omega, hstep, trivial⟩, by simp [intOf]; omega⟩
      · have hnil : ls.drop (a + j) = [] := List.drop_of_length_le (by omega)
        have hnil2 : ls.drop (a + (j + 1)) = [] := List.drop_of_length_le (by omega)
        have hstep : Hid (take0 (n - (j + 1)) (ls.drop (a + (j + 1))) (X * 2) = take0 n (ls.drop a) 0) := Lib.hid (by
          rw [← hT.out, e1, take0, hnil, hnil2]; simp)
        have hin2 : ¬ ((a : Int) + (j : Int) < (N : Int)) := by rw [← hL.out]; omega
        have hin3 : (N : Int) ≤ (a : Int) + (j : Int) := by omega
        have hlt2 : (a : Int) + (j : Int) < (a : Int) + (n : Int) := by omega
        clear hin hnil hnil2
        go_wp2
        exact ⟨⟨j + 1, X * 2, by omega, rfl, by go_num, by omega, by have := HPs.out; have := HX1.out; omega, hstep, trivial⟩, by simp [intOf]; omega⟩
    · obtain rfl : j = n := by omega
      have hres : X = take0 j (ls.drop a) 0 := by rw [← hT.out]; simp [take0]
      have HRes := Lib.hid hres
      clear hres hX1
      go_wp2
      go_ret
      exact ⟨by rw [← HRes.out]; rfl, Below.refl _ _⟩
end Go.Proofs.YtjnmjgpkicbbdaaGreatDoor
