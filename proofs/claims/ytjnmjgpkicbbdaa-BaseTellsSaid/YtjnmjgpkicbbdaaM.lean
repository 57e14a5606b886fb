/- The walk of BaseSums. -/
import Derived.Test.YtjnmjgpkicbbdaaN
namespace Go.Proofs.Ytjnmjgpkicbbdaa
open Go.RowKit
set_option maxRecDepth 100000
set_option linter.unusedVariables false
set_option linter.unusedSimpArgs false
set_option linter.unnecessarySimpa false

theorem left_yes (g : Nat) (B : Option Addr) (d : Nat) (xs : List Int) (w : World) (hn : xs.length ≤ 140737488351232) (hg : Blk w g (xs ++ [28])) (hy : RK w .u8 B xs) :
    Calls Try.prog 10 #[.slice (some ⟨g, 0, none⟩) xs.length (xs.length + 1), .slice B xs.length d] w fun e w' => e = .returned (.bool true) ∧ Below w.heap.size w w' := by
  have := left_any g B d xs xs 28 w hn hg hy
  simpa using this
theorem sum_yesN (b off c : Nat) (xs : List Int) (w : World) (hl : xs.length = 32) (hc : ∀ j, j < xs.length → w.cell? ⟨b, off + j, none⟩ = some (.int .u8 (xs.getD j 0))) :
    Calls Try.prog 12 #[.slice (some ⟨b, off, none⟩) xs.length c] w fun e w' => e = .returned (.tuple #[.agg (numsK .u8 xs).toArray, .bool true]) ∧ Below w.heap.size w w' := by
  have := sum_yes b off c xs w hl hc
  rw [hl]
  exact this
theorem zeros_at (n k : Nat) : (List.replicate n (0 : Int)).getD k 0 = 0 := by
  rw [List.getD_eq_getElem?_getD, List.getElem?_replicate]
  split <;> rfl
/-- What the law's loops keep. -/
def Kept (w W : World) (g h n : Nat) (ys : List Int) : Prop := (∃ zs : List Int, zs.length = n ∧ Blk W g zs) ∧ g ≠ h ∧ W.rangeAt h 0 (numsK .u8 ys) ∧ Below w.heap.size w W
theorem Kept.set {w W : World} {g h n : Nat} {ys : List Int} (k : Kept w W g h n ys) (hg : w.heap.size ≤ g) (i : Nat) (y : Int) : Kept w (W.setCell ⟨g, i, none⟩ (.int .u8 y)) g h n ys := by
  obtain ⟨⟨zs, hl, hb⟩, hne, hr, hB⟩ := k
  refine ⟨⟨_, by rw [List.length_set]; exact hl, hb.set i y⟩, hne, fun j v hv => ?_, hB.setCell hg _⟩
  rw [World.cell?_setCell_far _ _ _ _ hne]
  exact hr j v hv
theorem Kept.below {w W W1 : World} {g h n : Nat} {ys : List Int} (k : Kept w W g h n ys) (hb : Below W.heap.size W W1) : Kept w W1 g h n ys := by
  obtain ⟨⟨zs, hz, hbz⟩, h2, h3, h4⟩ := k
  exact ⟨⟨zs, hz, hbz.below hb⟩, h2, fun j v hv => (hb.cell (World.block_lt_of_cell? W _ (h3 j v hv))).trans (h3 j v hv), below_on h4 hb⟩
theorem Kept.arr {w W : World} {g h n : Nat} {ys : List Int} (k : Kept w W g h n ys) (i : Nat) (hi : i < ys.length) : W.cell? ⟨h, i, none⟩ = some (.int .u8 (ys.getD i 0)) := by
  have := k.2.2.1 i (.int .u8 (ys.getD i 0)) (by simp [numsK, List.getElem?_eq_getElem hi, List.getD_eq_getElem?_getD])
  rwa [Nat.zero_add] at this

theorem sums_yes (A : Option Addr) (c : Nat) (xs : List Int) (w : World) (hn : xs.length ≤ 140737488351232) (hx : RK w .u8 A xs) (hl : xs.length = 32) :
    Calls Try.prog 4 #[.slice A xs.length c] w fun e w' => e = .returned (.bool true) ∧ Below w.heap.size w w' := by
  have hX := Lib.hid hx
  have hL := Lib.hid hl
  have hN := Lib.hid hn
  have h32 : ((xs.length : Int) == 32) = true := by simp; omega
  clear hx hl
  go_enter Try.func4, Try.ntmps4
  go_upto_region 2 with (go_at_call 8; refine (twin_any _ _ _ _ hN.out hX.out).mono ?_; rintro e w1 ⟨g, rfl, hg0, hgb, hb1⟩)
  have hg1 : Blk w1 g (xs ++ [28]) := hgb
  have hG1 := Lib.hid hg1
  have hX1 := Lib.hid (hX.out.kept hb1)
  clear hgb hg1
  go_upto_region 3 with (first
    | (go_at_call 12; refine (sum_yesN g 0 (xs.length + 1) xs w1 hL.out (fun j hj => by rw [Nat.zero_add, hG1.out.at j (by simp; omega)]; simp [List.getElem?_append_left hj])).mono ?_; rintro e w2 ⟨rfl, hb2⟩; have hT : Hid ((w2.alloc (.cells zeros32 27)).there w2.heap.size 0 (numsK .u8 xs).toArray.size) := Lib.hid (by rw [show (numsK .u8 xs).toArray.size = 32 from by simp [numsK, hL.out]]; exact there_new w2); have hZ : Hid ((Try.prog.info? 27).map (·.size) = some (numsK .u8 xs).toArray.size) := Lib.hid (by rw [size27]; simp [numsK, hL.out]); have hA1 : Hid ((numsK .u8 xs).toArray.all (·.oneCell') = true) := Lib.hid (all_oneCell_toArray (fun v hv => by obtain ⟨x, _, rfl⟩ := List.mem_map.1 hv; rfl)))
    | (with_reducible refine wpList_store_mid rfl 27 (.tmp 4) (.tmp 13) rfl w2.heap.size 0 (numsK .u8 xs).toArray rfl rfl hT.out hZ.out hA1.out ?_))
  have hly : (numsK .u8 xs).length = 32 := by rw [numsK_length, hL.out]
  have hbW : Below w2.heap.size w2 ((w2.alloc (.cells zeros32 27)).setCells w2.heap.size 0 (numsK .u8 xs)) := below_setCells _ _ _ _ ((Below.refl _ _).alloc (Nat.le_refl _) _) (Nat.le_refl _)
  have hrg : ((w2.alloc (.cells zeros32 27)).setCells w2.heap.size 0 (numsK .u8 xs)).rangeAt w2.heap.size 0 (numsK .u8 xs) := World.rangeAt_setCells_same _ _ _ _ (by rw [hly]; exact there_new w2)
  show Code.wp _ _ _ _ ((w2.alloc (.cells zeros32 27)).setCells w2.heap.size 0 (numsK .u8 xs))
  generalize (w2.alloc (.cells zeros32 27)).setCells w2.heap.size 0 (numsK .u8 xs) = W3 at hbW hrg ⊢
  have hG2 := hG1.out.below hb2
  have hne : g ≠ w2.heap.size := by have := hG2.lt; omega
  have hK3 := Lib.hid (show Kept w W3 g w2.heap.size (xs.length + 1) xs from ⟨⟨_, by simp, hG2.below hbW⟩, hne, hrg, below_on (below_on hb1 hb2) hbW⟩)
  have hG3 := Lib.hid (hG2.below hbW)
  have hX3 := Lib.hid (hX1.out.below (below_on hb2 hbW))
  have hY : Hid (xs.length = 32) := Lib.hid (by simpa [numsK] using hly)
  clear hG1 hX1 hG2 hbW hrg hne hb1 hb2 hT hZ hA1 hly
  generalize w2.heap.size = h at *
  go_upto_region 5 with (go_at_call 10; refine (left_yes g A c xs W3 hN.out hG3.out hX3.out).mono ?_; rintro e w4 ⟨rfl, hb4⟩)
  have hK4 : Hid (Kept w w4 g h (xs.length + 1) xs) := hK3.out.below hb4
  clear hK3 hG3 hX3 hb4
  go_wp2
  go_loopw [6] (fun i W => ∃ k : Nat, k ≤ xs.length ∧ i = .int .i64 k ∧ Hid (Kept w W g h (xs.length + 1) xs)) (fun i _ => xs.length - (intOf i).toNat)
  case atStart => exact ⟨0, by omega, rfl, hK4⟩
  case round =>
    obtain ⟨k, hk, rfl, hK⟩ := hrel
    by_cases hlt : k < xs.length
    · obtain ⟨z, hcell, hfr⟩ : ∃ z, wr.cell? ⟨g, k, none⟩ = some (.int .u8 z) ∧ wr.frozen? ⟨g, k, none⟩ = false := by
        obtain ⟨⟨zs, hz, hbz⟩, _⟩ := hK.out
        exact ⟨_, hbz.at k (by omega), hbz.free k⟩
      go_wp2
      exact ⟨⟨k + 1, by omega, by go_num, hK.out.set hg0 k _⟩, by simp [intOf]; omega⟩
    · obtain rfl : k = xs.length := by omega
      clear hK4
      have hK4 := hK
      clear hK hlt hk
      go_wp2
      go_loopw [7] (fun i W2 => ∃ k : Nat, k ≤ 32 ∧ i = .int .i64 k ∧ Hid (Kept w W2 g h (xs.length + 1) xs)) (fun i _ => 32 - (intOf i).toNat)
      case atStart => exact ⟨0, by omega, rfl, hK4⟩
      case round =>
        obtain ⟨k, hk, rfl, hK⟩ := hrel
        by_cases hlt : k < 32
        · have harr := hK.out.arr k (by rw [hY.out]; exact hlt)
          have hrow := (hX.out.kept hK.out.2.2.2)
          rcases hrow with h0 | ⟨b, off, rfl, hcc⟩
          · exfalso; subst h0; have := hL.out; simp at this
          have hc2 := hcc k (by rw [hL.out]; exact hlt)
          have hkx : k < xs.length := by rw [hL.out]; exact hlt
          generalize xs.getD k 0 = y at harr hc2
          clear hcc
          go_wp2_with (go_quiet (fail))
          exact ⟨⟨k + 1, by omega, by go_num, hK.out.below (below_drewN _ _)⟩, by simp [intOf]; omega⟩
        · obtain rfl : k = 32 := by omega
          go_wp2_with (go_at_call 11; refine (lives_any _).mono ?_; rintro e w9 ⟨rfl, hb9⟩)
          go_ret
          exact ⟨rfl, below_on hK.out.2.2.2 hb9⟩

theorem sums_no (A : Option Addr) (c : Nat) (xs : List Int) (w : World) (hn : xs.length ≤ 140737488351232) (hx : RK w .u8 A xs) (hl : xs.length ≠ 32) :
    Calls Try.prog 4 #[.slice A xs.length c] w fun e w' => e = .returned (.bool true) ∧ Below w.heap.size w w' := by
  have hX := Lib.hid hx
  have hL := Lib.hid hl
  have hN := Lib.hid hn
  have h32 : ((xs.length : Int) == 32) = false := by simp; omega
  clear hx hl
  go_enter Try.func4, Try.ntmps4
  go_upto_region 2 with (go_at_call 8; refine (twin_any _ _ _ _ hN.out hX.out).mono ?_; rintro e w1 ⟨g, rfl, hg0, hgb, hb1⟩)
  have hg1 : Blk w1 g (xs ++ [28]) := hgb
  have hG1 := Lib.hid hg1
  have hX1 := Lib.hid (hX.out.kept hb1)
  clear hgb hg1
  go_upto_region 3 with (first
    | (go_at_call 12; refine (sum_no _ _ _ w1 hL.out).mono ?_; rintro e w2 ⟨rfl, hb2⟩; have hT : Hid ((w2.alloc (.cells zeros32 27)).there w2.heap.size 0 (numsK .u8 (List.replicate 32 (0 : Int))).toArray.size) := Lib.hid (by exact there_new w2); have hZ : Hid ((Try.prog.info? 27).map (·.size) = some (numsK .u8 (List.replicate 32 (0 : Int))).toArray.size) := Lib.hid (by rw [size27]; rfl); have hA1 : Hid ((numsK .u8 (List.replicate 32 (0 : Int))).toArray.all (·.oneCell') = true) := Lib.hid (all_oneCell_toArray (fun v hv => by obtain ⟨x, _, rfl⟩ := List.mem_map.1 hv; rfl)))
    | (with_reducible refine wpList_store_mid rfl 27 (.tmp 4) (.tmp 13) rfl w2.heap.size 0 (numsK .u8 (List.replicate 32 (0 : Int))).toArray rfl rfl hT.out hZ.out hA1.out ?_))
  have hly : (numsK .u8 (List.replicate 32 (0 : Int))).length = 32 := by rfl
  have hbW : Below w2.heap.size w2 ((w2.alloc (.cells zeros32 27)).setCells w2.heap.size 0 (numsK .u8 (List.replicate 32 (0 : Int)))) := below_setCells _ _ _ _ ((Below.refl _ _).alloc (Nat.le_refl _) _) (Nat.le_refl _)
  have hrg : ((w2.alloc (.cells zeros32 27)).setCells w2.heap.size 0 (numsK .u8 (List.replicate 32 (0 : Int)))).rangeAt w2.heap.size 0 (numsK .u8 (List.replicate 32 (0 : Int))) := World.rangeAt_setCells_same _ _ _ _ (by rw [hly]; exact there_new w2)
  show Code.wp _ _ _ _ ((w2.alloc (.cells zeros32 27)).setCells w2.heap.size 0 (numsK .u8 (List.replicate 32 (0 : Int))))
  generalize (w2.alloc (.cells zeros32 27)).setCells w2.heap.size 0 (numsK .u8 (List.replicate 32 (0 : Int))) = W3 at hbW hrg ⊢
  have hG2 := hG1.out.below hb2
  have hne : g ≠ w2.heap.size := by have := hG2.lt; omega
  have hK3 := Lib.hid (show Kept w W3 g w2.heap.size (xs.length + 1) (List.replicate 32 (0 : Int)) from ⟨⟨_, by simp, hG2.below hbW⟩, hne, hrg, below_on (below_on hb1 hb2) hbW⟩)
  have hG3 := Lib.hid (hG2.below hbW)
  have hX3 := Lib.hid (hX1.out.below (below_on hb2 hbW))
  have hY : Hid ((List.replicate 32 (0 : Int)).length = 32) := Lib.hid (by simpa [numsK] using hly)
  clear hG1 hX1 hG2 hbW hrg hne hb1 hb2 hT hZ hA1 hly
  generalize w2.heap.size = h at *
  go_upto_region 5 with (go_at_call 10; refine (left_yes g A c xs W3 hN.out hG3.out hX3.out).mono ?_; rintro e w4 ⟨rfl, hb4⟩)
  have hK4 : Hid (Kept w w4 g h (xs.length + 1) (List.replicate 32 (0 : Int))) := hK3.out.below hb4
  clear hK3 hG3 hX3 hb4
  go_wp2
  go_loopw [6] (fun i W => ∃ k : Nat, k ≤ xs.length ∧ i = .int .i64 k ∧ Hid (Kept w W g h (xs.length + 1) (List.replicate 32 (0 : Int)))) (fun i _ => xs.length - (intOf i).toNat)
  case atStart => exact ⟨0, by omega, rfl, hK4⟩
  case round =>
    obtain ⟨k, hk, rfl, hK⟩ := hrel
    by_cases hlt : k < xs.length
    · obtain ⟨z, hcell, hfr⟩ : ∃ z, wr.cell? ⟨g, k, none⟩ = some (.int .u8 z) ∧ wr.frozen? ⟨g, k, none⟩ = false := by
        obtain ⟨⟨zs, hz, hbz⟩, _⟩ := hK.out
        exact ⟨_, hbz.at k (by omega), hbz.free k⟩
      go_wp2
      exact ⟨⟨k + 1, by omega, by go_num, hK.out.set hg0 k _⟩, by simp [intOf]; omega⟩
    · obtain rfl : k = xs.length := by omega
      clear hK4
      have hK4 := hK
      clear hK hlt hk
      go_wp2
      go_loopw [7] (fun i W2 => ∃ k : Nat, k ≤ 32 ∧ i = .int .i64 k ∧ Hid (Kept w W2 g h (xs.length + 1) (List.replicate 32 (0 : Int)))) (fun i _ => 32 - (intOf i).toNat)
      case atStart => exact ⟨0, by omega, rfl, hK4⟩
      case round =>
        obtain ⟨k, hk, rfl, hK⟩ := hrel
        by_cases hlt : k < 32
        · have harr := hK.out.arr k (by rw [hY.out]; exact hlt)
          rw [zeros_at] at harr
          go_wp2_with (go_quiet (fail))
          exact ⟨⟨k + 1, by omega, by go_num, hK.out.below (below_drewN _ _)⟩, by simp [intOf]; omega⟩
        · obtain rfl : k = 32 := by omega
          go_wp2_with (go_at_call 11; refine (lives_any _).mono ?_; rintro e w9 ⟨rfl, hb9⟩)
          go_ret
          exact ⟨rfl, below_on hK.out.2.2.2 hb9⟩

theorem sums_any (A : Option Addr) (c : Nat) (xs : List Int) (w : World) (hn : xs.length ≤ 140737488351232) (hx : RK w .u8 A xs) :
    Calls Try.prog 4 #[.slice A xs.length c] w fun e w' => e = .returned (.bool true) ∧ Below w.heap.size w w' := by
  by_cases h : xs.length = 32
  · exact sums_yes A c xs w hn hx h
  · exact sums_no A c xs w hn hx h
theorem sumsW (a : Option Addr) (len cap : Nat) (z : List Int) (w : World) (h : IsRow .u8 w a len cap z) (hr : cap * 1 ≤ 140737488351232) :
    Calls Try.prog 4 #[.slice a len cap] w fun e w' => e = .returned (.bool true) ∧ Below w.heap.size w w' := by
  obtain ⟨xs, rfl, _, hx, hc⟩ := h.rk
  exact sums_any a cap xs w (by omega) hx
end Go.Proofs.Ytjnmjgpkicbbdaa
