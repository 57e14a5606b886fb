/- head.Read: a head with bytes behind the first. -/
import Derived.Test.YtbnckhlfmjoikaaDoorR
import Derived.Lib.ConvBytes
namespace Go.Proofs.YtbnckhlfmjoikaaDoor
open Go.RowKit
set_option maxRecDepth 100000
set_option linter.unusedVariables false
set_option linter.unusedSimpArgs false
set_option linter.unnecessarySimpa false

/-- The number in k bytes from a place on. -/
def numF (s : ByteArray) (b : Nat) : Nat → Int
  | 0 => 0
  | k + 1 => numF s b k * 256 + at1 s (b + k)
theorem numF_lt (s : ByteArray) (b : Nat) : ∀ k, b + k ≤ s.size → 0 ≤ numF s b k ∧ numF s b k < 256 ^ k
  | 0, _ => by simp [numF]
  | k + 1, h => by
    have ih := numF_lt s b k (by omega)
    have h1 := at1_range s (b + k)
    have h2 := (at1_in s (b + k)).2 (by omega)
    rw [numF, Int.pow_succ]
    omega

/-- A block's cells. -/
def Lies (W : World) (b : Nat) (cs : Array Value) (t : TypeId) : Prop := W.heap[b]? = some (.cells cs t (0, 0))
theorem Lies.cell {W : World} {b : Nat} {cs : Array Value} {t : TypeId} (h : Lies W b cs t) (j : Nat) : W.cell? ⟨b, j, none⟩ = cs[j]? := Lib.cell_of_heap h j
theorem Lies.frozen {W : World} {b : Nat} {cs : Array Value} {t : TypeId} (h : Lies W b cs t) (j : Nat) : W.frozen? ⟨b, j, none⟩ = false := Lib.frozen_of_heap h j
theorem Lies.other {W : World} {b b' j : Nat} {cs : Array Value} {t : TypeId} (h : Lies W b cs t) (hb : b ≠ b') (v : Value) : Lies (W.setCell ⟨b', j, none⟩ v) b cs t := (Below.heap_setCell W ⟨b', j, none⟩ v b hb).trans h
theorem Lies.set {W : World} {b : Nat} {cs : Array Value} {t : TypeId} (h : Lies W b cs t) (j : Nat) (v : Value) : Lies (W.setCell ⟨b, j, none⟩ v) b (cs.setIfInBounds j v) t := by
  unfold Lies at h ⊢
  simp [World.setCell, Array.getElem?_modify, h]
theorem Lies.below {W W' : World} {b B : Nat} {cs : Array Value} {t : TypeId} (h : Lies W b cs t) (hb : Below B W W') (hB : b < B) : Lies W' b cs t := (hb.block b hB).trans h
theorem Lies.lt {W : World} {b : Nat} {cs : Array Value} {t : TypeId} (h : Lies W b cs t) : b < W.heap.size := (Array.getElem?_eq_some_iff.1 h).1

theorem slice_run (s : ByteArray) (a k : Nat) (h : a + k ≤ s.size) (W : World) : (Instr.slice 9 (.string s) (some (.int .i64 (a : Int))) (some (.int .i64 ((a : Int) + (k : Int)))) none).run Tryd.prog W = .ok (.string (s.extract a (a + k))) W := by
  have e1 : ((a : Int) + (k : Int)).toNat = a + k := by omega
  have e2 : (0 : Int) ≤ (a : Int) + (k : Int) := by omega
  have e3 : (a : Int) + (k : Int) ≤ (s.size : Int) := by omega
  have e4 : (a : Int) ≤ (a : Int) + (k : Int) := by omega
  have e5 : (a : Int) ≤ ((a + k : Nat) : Int) := by omega
  have e6 := run_sliceBound (P := Tryd.prog) W .i64 (a : Int) (a + k) .sliceB (by omega) e5
  simp [Instr.slice, run_underlying Tryd.underlying9, Instr.sliceBounds, run_sliceBound, sliced, e1, e2, e3, e4, e5, e6]
theorem cut_size (s : ByteArray) (a k : Nat) (h : a + k ≤ s.size) : (s.extract a (a + k)).size = k := by
  rw [ByteArray.size_extract]; omega
theorem cut_at (s : ByteArray) (a k j : Nat) (h : a + k ≤ s.size) (hj : j < k) : (((s.extract a (a + k)).data.toList.getD j 0).toNat : Int) = at1 s (a + j) := by
  have h1 : a + j < s.size := by omega
  have h2 : j < (s.extract a (a + k)).size := by rw [cut_size s a k h]; exact hj
  unfold at1
  rw [dif_pos h1]
  have e : (s.extract a (a + k)).data.toList.getD j 0 = s[a + j]'h1 := by
    rw [List.getD_eq_getElem?_getD, List.getElem?_eq_getElem (by rw [Array.length_toList]; exact h2)]
    simp [ByteArray.getElem_eq_getElem_data]
  rw [e]
theorem read_loop_or (x c : Int) (k : Nat) (hk : k < 8) (h0 : 0 ≤ x) (h1 : x < 256 ^ k) (c0 : 0 ≤ c) (c1 : c ≤ 255) : bits BinOp.or .u64 (x * 256) c = x * 256 + c := by
  have hp : (256 : Int) ^ k ≤ 256 ^ 7 := by
    rcases (by omega : k = 0 ∨ k = 1 ∨ k = 2 ∨ k = 3 ∨ k = 4 ∨ k = 5 ∨ k = 6 ∨ k = 7) with rfl | rfl | rfl | rfl | rfl | rfl | rfl | rfl <;> decide
  rw [bits_join .u64 64 (by decide) (fun n a0 a1 => by rw [IntKind.wrap_u64]; omega) 8 (x * 256) c (by omega) (by simp) (by omega) c0 (by omega) (by omega)]
set_option maxHeartbeats 2000000 in
theorem read_more (s : ByteArray) (n : Nat) (c m i : Int) (z : Nat) (w : World) (hS : w.cell? ⟨0, (i - 24).toNat, none⟩ = some (.int .i64 z)) (hs : s.size ≤ 140737488351232) (hn : n < s.size) (hc : at1 s n = c) (hm : c / 32 = m) (hi : c % 32 = i) (h24 : 24 ≤ i)
    (hi31 : i < 31) (hz : z < 9) (hsh : n + 1 + z ≤ s.size) :
    Calls Tryd.prog 14 #[.string s, .int .i64 n] w fun e w' => e = .returned (.tuple #[.agg #[.int .u8 m, .int .u8 i, .int .u64 (numF s (n + 1) z), .int .i64 (1 + z)], .nilIface]) ∧ Below w.heap.size w w' := by
  have hl := World.block_lt_of_cell? w _ hS
  have hix := fun W => idx_run s n hn W
  have hr1 : c ≤ 255 := by have := at1_range s n; omega
  have hr0 : 0 ≤ c := by have := (at1_in s n).2 hn; omega
  rw [hc] at hix
  have ha : bits BinOp.and .u8 c 31 = i := by rw [and31 c hr0 hr1, hi]
  have hm0 : 0 ≤ m := by omega
  have hm1 : m ≤ 7 := by omega
  have h0 : ¬ (n : Int) < 0 := by omega
  have hlt : (n : Int) < (s.size : Int) := by omega
  have hz9 : ((z : Int) == 9) = false := by simp; omega
  have hi31b : (i == 31) = false := by simp; omega
  have hsh2 : ¬ (s.size : Int) - (n : Int) - 1 < (z : Int) := by omega
  have hsh3 : (n : Int) + 1 + (z : Int) ≤ (s.size : Int) := by omega
  obtain ⟨j, rfl⟩ : ∃ j : Nat, i = 24 + (j : Int) := ⟨(i - 24).toNat, by omega⟩
  have hj : (24 + (j : Int) - 24).toNat = j := by omega
  rw [hj] at hS
  clear hc hn hi hj
  have hsl := fun W => slice_run s (n + 1) z (by omega) W
  have hn1 : ((n + 1 : Nat) : Int) = (n : Int) + 1 := by omega
  rw [hn1] at hsl
  have hcz := cut_size s (n + 1) z (by omega)
  have hca := fun q hq => cut_at s (n + 1) z q (by omega) hq
  have hnl := fun k (hk : k ≤ z) => numF_lt s (n + 1) k (by omega)
  generalize hX : s.extract (n + 1) (n + 1 + z) = X at hsl hcz hca
  have hcv := Lib.run_convert_string_bytes (P := Tryd.prog) (hdW w m (24 + (j : Int))) 9 57 5 X Tryd.underlying9 Tryd.underlying57 Tryd.underlying5
  rw [hcz] at hcv
  clear hsh hX
  go_enter Tryd.func14, Tryd.ntmps14
  go_wp2
  go_region
  go_upto_region 9 with fail
  have hS0 : (hdW w m (24 + (j : Int))).cell? ⟨0, j, none⟩ = some (.int .i64 z) := ((below_hd w m _).cell (p := ⟨0, j, none⟩) hl).trans hS
  have L1 : Lies (hdW w m (24 + (j : Int))) w.heap.size zH 29 := blk_hd w m _
  have L2 : Lies (hdW w m (24 + (j : Int))) (w.heap.size + 1) #[.int .u8 m, .int .u8 (24 + (j : Int)), .int .u64 0, .int .i64 1] 29 := by
    show ((w.alloc (.cells zH 29)).alloc (.cells #[.int .u8 m, .int .u8 (24 + (j : Int)), .int .u64 0, .int .i64 1] 29)).heap[w.heap.size + 1]? = _
    have := Array.getElem?_push_size (xs := (w.alloc (.cells zH 29)).heap) (x := Obj.cells #[.int .u8 m, .int .u8 (24 + (j : Int)), .int .u64 0, .int .i64 1] 29)
    rwa [World.size_alloc] at this
  have hz0 := size_hd w m (24 + (j : Int))
  have hB := below_hd w m (24 + (j : Int))
  show Code.wp _ _ _ _ (hdW w m (24 + (j : Int)))
  generalize hdW w m (24 + (j : Int)) = W0 at hcv hS0 L1 L2 hz0 hB ⊢
  have k1 : W0.cell? ⟨w.heap.size + 1, 1, none⟩ = some (.int .u8 (24 + (j : Int))) := L2.cell 1
  clear hS hix ha
  go_upto_region 14 with fail
  have hb1 : Below W0.heap.size W0 (Lib.bytesWorld W0 5 X) := ⟨rfl, rfl, rfl, by rw [Lib.bytesWorld_size]; omega, fun k hk => Lib.bytesWorld_at_old W0 5 X k hk⟩
  have hC : ∀ q, q < z → (Lib.bytesWorld W0 5 X).cell? ⟨w.heap.size + 2, q, none⟩ = some (.int .u8 (at1 s (n + 1 + q))) := fun q hq => by
    rw [← hz0, Lib.bytesWorld_cell W0 5 X q (by omega), ← hca q hq]
  have hz1 := Lib.bytesWorld_size W0 5 X
  rw [hz0] at hcv hz1
  have L1' := L1.below hb1 (by omega)
  have L2' := L2.below hb1 (by omega)
  have hB' := hB.trans (hb1.mono hB.size)
  generalize Lib.bytesWorld W0 5 X = W1 at hcv hC hz1 L1' L2' hB'
  generalize grownCap W0 z 0 5 = cap at hcv
  clear hb1 hca
  go_wp2
  have hR : Hid (Lies W1 w.heap.size zH 29 ∧ Lies W1 (w.heap.size + 1) #[.int .u8 m, .int .u8 (24 + (j : Int)), .int .u64 (numF s (n + 1) 0), .int .i64 1] 29 ∧ (∀ q, q < z → W1.cell? ⟨w.heap.size + 2, q, none⟩ = some (.int .u8 (at1 s (n + 1 + q)))) ∧ Below w.heap.size w W1) := Lib.hid ⟨L1', L2', hC, hB'⟩
  clear hcv hC L1' L2' hB' hz1 L1 L2 hB hz0 hS0 k1
  go_loopw [88] (fun i W => ∃ k : Nat, i = .int .i64 k ∧ k ≤ z ∧ Hid (Lies W w.heap.size zH 29 ∧ Lies W (w.heap.size + 1) #[.int .u8 m, .int .u8 (24 + (j : Int)), .int .u64 (numF s (n + 1) k), .int .i64 1] 29 ∧ (∀ q, q < z → W.cell? ⟨w.heap.size + 2, q, none⟩ = some (.int .u8 (at1 s (n + 1 + q)))) ∧ Below w.heap.size w W)) (fun i _ => z - (intOf i).toNat)
  case atStart => exact ⟨0, rfl, Nat.zero_le _, hR⟩
  case round =>
    obtain ⟨k, rfl, hk, hH⟩ := hrel
    obtain ⟨L1, L2, hC, hB⟩ := hH.out
    by_cases hlt2 : k < z
    · have l2 : (k : Int) < (z : Int) := by omega
      have cb := hC k hlt2
      have cx : wr.cell? ⟨w.heap.size + 1, 2, none⟩ = some (.int .u64 (numF s (n + 1) k)) := L2.cell 2
      have fx : wr.frozen? ⟨w.heap.size + 1, 2, none⟩ = false := L2.frozen 2
      have hx := hnl k hk
      have hbr := at1_range s (n + 1 + k)
      have hb0 := (at1_in s (n + 1 + k)).2 (by omega)
      have hor := read_loop_or (numF s (n + 1) k) (at1 s (n + 1 + k)) k (by omega) hx.1 hx.2 hb0 hbr.2
      have hnum : Hid (numF s (n + 1) k * 256 + at1 s (n + 1 + k) = numF s (n + 1) (k + 1)) := Lib.hid rfl
      have hY : Hid (∀ Y : Int, Y = numF s (n + 1) (k + 1) → (Lies (wr.setCell ⟨w.heap.size + 1, 2, none⟩ (.int .u64 Y)) w.heap.size zH 29 ∧ Lies (wr.setCell ⟨w.heap.size + 1, 2, none⟩ (.int .u64 Y)) (w.heap.size + 1) #[.int .u8 m, .int .u8 (24 + (j : Int)), .int .u64 (numF s (n + 1) (k + 1)), .int .i64 1] 29 ∧ (∀ q, q < z → (wr.setCell ⟨w.heap.size + 1, 2, none⟩ (.int .u64 Y)).cell? ⟨w.heap.size + 2, q, none⟩ = some (.int .u8 (at1 s (n + 1 + q)))) ∧ Below w.heap.size w (wr.setCell ⟨w.heap.size + 1, 2, none⟩ (.int .u64 Y)))) := Lib.hid fun Y hY => by
        subst hY
        exact ⟨L1.other (by omega) _, L2.set 2 _, fun q hq => (World.cell?_setCell_other wr _ ⟨w.heap.size + 2, q, none⟩ _ (by simp)).trans (hC q hq), hB.setCell (by simp) _⟩
      generalize numF s (n + 1) k = x at *
      generalize at1 s (n + 1 + k) = b at *
      have hx1 : x < 256 ^ 7 := by
        have hp : (256 : Int) ^ k ≤ 256 ^ 7 := by
          rcases (by omega : k = 0 ∨ k = 1 ∨ k = 2 ∨ k = 3 ∨ k = 4 ∨ k = 5 ∨ k = 6 ∨ k = 7) with rfl | rfl | rfl | rfl | rfl | rfl | rfl | rfl <;> decide
        omega
      obtain ⟨hx0, _⟩ := hx
      obtain ⟨_, hb1⟩ := hbr
      clear hH L1 L2 hC hB hnl
      go_wp2
      exact ⟨⟨k + 1, by go_num, by omega, Lib.hid (hY.out _ hnum.out)⟩, by simp [intOf]; omega⟩
    · obtain rfl : k = z := by omega
      have c0 : wr.cell? ⟨w.heap.size + 1, 0, none⟩ = some (.int .u8 m) := L2.cell 0
      have c1 : wr.cell? ⟨w.heap.size + 1, 1, none⟩ = some (.int .u8 (24 + (j : Int))) := L2.cell 1
      have c2 : wr.cell? ⟨w.heap.size + 1, 2, none⟩ = some (.int .u64 (numF s (n + 1) k)) := L2.cell 2
      have c3 : wr.cell? ⟨w.heap.size + 1, 3, none⟩ = some (.int .i64 1) := L2.cell 3
      have f3 : wr.frozen? ⟨w.heap.size + 1, 3, none⟩ = false := L2.frozen 3
      have M2 : Lies (wr.setCell ⟨w.heap.size + 1, 3, none⟩ (.int .i64 (1 + (k : Int)))) (w.heap.size + 1) #[.int .u8 m, .int .u8 (24 + (j : Int)), .int .u64 (numF s (n + 1) k), .int .i64 (1 + k)] 29 := L2.set 3 _
      have M1 : Lies (wr.setCell ⟨w.heap.size + 1, 3, none⟩ (.int .i64 (1 + (k : Int)))) w.heap.size zH 29 := L1.other (by omega) _
      have hld := load_at _ _ _ _ _ _ M2
      have hBz : Below w.heap.size w (wr.setCell ⟨w.heap.size + 1, 3, none⟩ (.int .i64 (1 + (k : Int)))) := hB.setCell (by simp) _
      have HT : Hid ((wr.setCell ⟨w.heap.size + 1, 3, none⟩ (.int .i64 (1 + (k : Int)))).there w.heap.size 0 (#[.int .u8 m, .int .u8 (24 + (j : Int)), .int .u64 (numF s (n + 1) k), .int .i64 (1 + (k : Int))] : Array Value).size) := Lib.hid (there_blk M1 4 rfl)
      have HZ : Hid ((Tryd.prog.info? 29).map (·.size) = some (#[.int .u8 m, .int .u8 (24 + (j : Int)), .int .u64 (numF s (n + 1) k), .int .i64 (1 + (k : Int))] : Array Value).size) := Lib.hid size29
      have HA := Lib.hid (one4 m (24 + (j : Int)) (numF s (n + 1) k) (1 + (k : Int)))
      clear hH L1 L2 hC hB hnl M1 M2 hR
      go_wp2_with (with_reducible refine wpList_store_mid rfl 29 (.tmp 4) (.tmp 105) rfl w.heap.size 0 #[.int .u8 m, .int .u8 (24 + (j : Int)), .int .u64 (numF s (n + 1) k), .int .i64 (1 + (k : Int))] rfl rfl HT.out HZ.out HA.out ?_)
      have hLd := load4 (wr.setCell ⟨w.heap.size + 1, 3, none⟩ (.int .i64 (1 + (k : Int)))) w.heap.size m (24 + (j : Int)) (numF s (n + 1) k) (1 + (k : Int)) HT.out
      refine bodyPost_ret (v := .tuple #[.agg #[.int .u8 m, .int .u8 (24 + (j : Int)), .int .u64 (numF s (n + 1) k), .int .i64 (1 + (k : Int))], .nilIface]) ?_ rfl ⟨rfl, below_setCells _ _ _ _ hBz (Nat.le_refl _)⟩
      simp [results, Tryd.results14, hLd, asAddr, Act.put]
end Go.Proofs.YtbnckhlfmjoikaaDoor
