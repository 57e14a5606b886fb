/- ref14.Alone (printed by genRG.py). -/
import Derived.Test.YtcpkjmpbpmeclaaGreatDoorMbd
import Derived.Test.YtcpkjmpbpmeclaaGreatDoorMbe
import Derived.Test.YtcpkjmpbpmeclaaGreatDoorMai
import Derived.Test.YtcpkjmpbpmeclaaGreatDoorMaj
import Derived.Deep.DeepCutAuto
import Derived.Deep.CutBlock
namespace Go.Proofs.YtcpkjmpbpmeclaaGreatDoor
open Go.RowKit
set_option maxRecDepth 100000
set_option linter.unusedVariables false
set_option linter.unusedSimpArgs false
set_option linter.unnecessarySimpa false

def tl (ok e1 e2 e3 e4 e5 e6 e7 : Bool) : Bool := ok && (e1 && (e2 && (e3 && (e4 && (e5 && (e6 && e7))))))
/-- The node's block, and that of what its kind uses. -/
structure AlW (w W : World) (cs ds : Array Value) : Prop where
 hv : W.heap[w.heap.size]? = some (.cells cs 31 (0, 0))
 hw : W.heap[w.heap.size + 1]? = some (.cells ds 31 (0, 0))
 b : Below w.heap.size w W
theorem AlW.set {w W : World} {cs ds : Array Value} (h : AlW w W cs ds) (j : Nat) (v : Value) : AlW w (W.setCell ⟨w.heap.size + 1, j, none⟩ v) cs (ds.setIfInBounds j v) :=
 ⟨(heap_setCell_other W ⟨w.heap.size + 1, j, none⟩ _ v (by simp)).trans h.hv, heap_setCell_same W (w.heap.size + 1) j _ _ v h.hw, below_setCells [v] (w.heap.size + 1) j W h.b (by omega)⟩
theorem AlW.below {w W W' : World} {cs ds : Array Value} (h : AlW w W cs ds) (hb : Below W.heap.size W W') : AlW w W' cs ds :=
 ⟨(hb.block _ (Array.getElem?_eq_some_iff.1 h.hv).1).trans h.hv, (hb.block _ (Array.getElem?_eq_some_iff.1 h.hw).1).trans h.hw, trans_b h.b hb⟩
theorem AlW.new (w : World) (cs ds : Array Value) : AlW w ((w.alloc (.cells cs 31)).alloc (.cells ds 31)) cs ds := by
 refine ⟨?_, ?_, ((Below.refl _ _).alloc (Nat.le_refl _) _).alloc (by simp) _⟩
 ·rw [Below.heap_alloc _ _ _ (by simp), heap_alloc_new w _]
 ·have := heap_alloc_new (w.alloc (.cells cs 31)) (.cells ds 31)
  simpa using this
set_option maxHeartbeats 16000000 in
theorem rAloneW (k n bs ex : Int) (g : Bool) (tx : ByteArray) (mA A : Option Addr) (ml mc m cp : Nat) (r ok3 ok4 ok5 ok8 : Bool) (w : World)
  (H1 : Hid (k = 1 → r = tl true (n == 0) (g == false) ((ml : Int) == ((0 : Nat) : Int)) (bs == 0) (ex == 0) (tx.toList == (⟨#[]⟩ : ByteArray).toList) ((m : Int) == ((0 : Nat) : Int))))
  (H2 : Hid (k = 2 → r = tl (decide (n ≤ 1)) (n == n) (g == false) ((ml : Int) == ((0 : Nat) : Int)) (bs == 0) (ex == 0) (tx.toList == (⟨#[]⟩ : ByteArray).toList) ((m : Int) == ((0 : Nat) : Int))))
  (H3 : Hid (k = 3 → r = tl ok3 (n == 0) (g == g) ((ml : Int) == (ml : Int)) (bs == 0) (ex == 0) (tx.toList == (⟨#[]⟩ : ByteArray).toList) ((m : Int) == ((0 : Nat) : Int))))
  (H4 : Hid (k = 4 → r = tl ok4 (n == 0) (g == false) ((ml : Int) == ((0 : Nat) : Int)) (bs == bs) (ex == 0) (tx.toList == (⟨#[]⟩ : ByteArray).toList) ((m : Int) == ((0 : Nat) : Int))))
  (H5 : Hid (k = 5 → r = tl ok5 (n == 0) (g == false) ((ml : Int) == ((0 : Nat) : Int)) (bs == 0) (ex == 0) (tx.toList == tx.toList) ((m : Int) == ((0 : Nat) : Int))))
  (H6 : Hid (k = 6 → r = tl true (n == 0) (g == false) ((ml : Int) == ((0 : Nat) : Int)) (bs == 0) (ex == 0) (tx.toList == tx.toList) ((m : Int) == ((0 : Nat) : Int))))
  (H7 : Hid (k = 7 → r = tl true (n == 0) (g == false) ((ml : Int) == ((0 : Nat) : Int)) (bs == 0) (ex == 0) (tx.toList == (⟨#[]⟩ : ByteArray).toList) ((m : Int) == (m : Int))))
  (H8 : Hid (k = 8 → r = tl ok8 (n == 0) (g == false) ((ml : Int) == ((0 : Nat) : Int)) (bs == 0) (ex == 0) (tx.toList == (⟨#[]⟩ : ByteArray).toList) ((m : Int) == (m : Int))))
  (H9 : Hid (k = 9 → r = tl ((n != 2) && ((n != 3) && ((m : Int) == 1))) (n == n) (g == false) ((ml : Int) == ((0 : Nat) : Int)) (bs == 0) (ex == 0) (tx.toList == (⟨#[]⟩ : ByteArray).toList) ((m : Int) == (m : Int))))
  (H10 : Hid (k = 10 → r = tl (decide (n ≤ 19) || ((n == 23) || (decide (32 ≤ n) && decide (n ≤ 255)))) (n == n) (g == false) ((ml : Int) == ((0 : Nat) : Int)) (bs == 0) (ex == 0) (tx.toList == (⟨#[]⟩ : ByteArray).toList) ((m : Int) == ((0 : Nat) : Int))))
  (H11 : Hid (k = 11 → r = tl true (n == 0) (g == false) ((ml : Int) == ((0 : Nat) : Int)) (bs == 0) (ex == ex) (tx.toList == tx.toList) ((m : Int) == ((0 : Nat) : Int))))
  (H12 : Hid (k < 1 ∨ 11 < k → r = false))
  (C3 : Hid (k = 3 → ∀ W, Below w.heap.size w W → Calls Tryz.prog 202 #[.agg #[.bool g, .slice mA ml mc]] W fun e w' => e = .returned (.bool ok3) ∧ Below W.heap.size W w'))
  (C4 : Hid (k = 4 → ∀ W, Below w.heap.size w W → Calls Tryz.prog 203 #[.int .u64 bs] W fun e w' => e = .returned (.bool ok4) ∧ Below W.heap.size W w'))
  (C5 : Hid (k = 5 → ∀ W, Below w.heap.size w W → Calls Tryz.prog 204 #[.string tx] W fun e w' => e = .returned (.bool ok5) ∧ Below W.heap.size W w'))
  (C8 : Hid (k = 8 → ∀ W, Below w.heap.size w W → Calls Tryz.prog 205 #[.slice A m cp] W fun e w' => e = .returned (.bool ok8) ∧ Below W.heap.size W w'))
  (hn0 : 0 ≤ n) (hm : m ≤ 1000000000) (hml : ml ≤ 1000000000) :
  Calls Tryz.prog 142 #[.agg #[.int .i8 k, .int .u64 n, .bool g, .slice mA ml mc, .int .u64 bs, .int .i8 ex, .string tx, .slice A m cp]] w fun e w' => e = .returned (.bool r) ∧ Below w.heap.size w w' := by
 have hW := AlW.new w #[.int .i8 k, .int .u64 n, .bool g, .slice mA ml mc, .int .u64 bs, .int .i8 ex, .string tx, .slice A m cp] #[.int .i8 k, .int .u64 0, .bool false, .slice none 0 0, .int .u64 0, .int .i8 0, .string ⟨#[]⟩, .slice none 0 0]
 have HW := Lib.hid hW
 clear hW
 go_enter Tryz.func142, Tryz.ntmps142
 go_upto_region 2 with fail
 show Code.wp _ _ _ _ ((w.alloc (.cells #[.int .i8 k, .int .u64 n, .bool g, .slice mA ml mc, .int .u64 bs, .int .i8 ex, .string tx, .slice A m cp] 31)).alloc (.cells #[.int .i8 k, .int .u64 0, .bool false, .slice none 0 0, .int .u64 0, .int .i8 0, .string ⟨#[]⟩, .slice none 0 0] 31))
 generalize ((w.alloc (.cells #[.int .i8 k, .int .u64 n, .bool g, .slice mA ml mc, .int .u64 bs, .int .i8 ex, .string tx, .slice A m cp] 31)).alloc (.cells #[.int .i8 k, .int .u64 0, .bool false, .slice none 0 0, .int .u64 0, .int .i8 0, .string ⟨#[]⟩, .slice none 0 0] 31)) = W0 at *
 obtain ⟨⟨c0, c1, c2, c3, c4, c5, c6, c7⟩, _⟩ := blk8 HW.out.hv
 obtain ⟨⟨d0, d1, d2, d3, d4, d5, d6, d7⟩, f0, f1, f2, f3, f4, f5, f6, f7⟩ := blk8 HW.out.hw
 go_upto_block 0 with fail
 go_cut [4] (fun c W => ∃ (ok : Bool) (n' bs' ex' : Int) (g' : Bool) (tx' : ByteArray) (mA' A' : Option Addr) (ml' mc' m' cp' : Nat), c = .bool ok ∧ Hid (r = tl ok (n == n') (g == g') ((ml : Int) == (ml' : Int)) (bs == bs') (ex == ex') (tx.toList == tx'.toList) ((m : Int) == (m' : Int))) ∧ Hid (AlW w W #[.int .i8 k, .int .u64 n, .bool g, .slice mA ml mc, .int .u64 bs, .int .i8 ex, .string tx, .slice A m cp] #[.int .i8 k, .int .u64 n', .bool g', .slice mA' ml' mc', .int .u64 bs', .int .i8 ex', .string tx', .slice A' m' cp']))
 case first =>
  by_cases hk : k < 1 ∨ 11 < k
  ·have HR := Lib.hid (H12.out hk)
   have ne : ∀ i : Int, 1 ≤ i → i ≤ 11 → (k == i) = false := fun i h1 h2 => by simp only [beq_eq_false_iff_ne, ne_eq]; omega
   have k1 := ne 1 (by decide) (by decide)
   have k2 := ne 2 (by decide) (by decide)
   have k3 := ne 3 (by decide) (by decide)
   have k4 := ne 4 (by decide) (by decide)
   have k5 := ne 5 (by decide) (by decide)
   have k6 := ne 6 (by decide) (by decide)
   have k7 := ne 7 (by decide) (by decide)
   have k8 := ne 8 (by decide) (by decide)
   have k9 := ne 9 (by decide) (by decide)
   have k10 := ne 10 (by decide) (by decide)
   have k11 := ne 11 (by decide) (by decide)
   clear ne hk c1 c2 c3 c4 c5 c6 c7 d0 d1 d2 d3 d4 d5 d6 d7 f0 f1 f2 f3 f4 f5 f6 f7 hn0 H1 H2 H3 H4 H5 H6 H7 H8 H9 H10 H11 H12 C3 C4 C5 C8
   go_wp2
   go_meet
   exact ⟨false, _, _, _, _, _, _, _, _, _, _, _, rfl, Lib.hid (by rw [HR.out]; rfl), HW⟩
  ·have hkk : k = 1 ∨ k = 2 ∨ k = 3 ∨ k = 4 ∨ k = 5 ∨ k = 6 ∨ k = 7 ∨ k = 8 ∨ k = 9 ∨ k = 10 ∨ k = 11 := by omega
   clear hk
   rcases hkk with rfl | rfl | rfl | rfl | rfl | rfl | rfl | rfl | rfl | rfl | rfl
   ·have HR := Lib.hid (H1.out rfl)
    clear H2 H3 H4 H5 H6 H7 H8 H9 H10 H11 H12 C3 C4 C5 C8 H1 c1 c2 c3 c4 c5 c6 c7 d0 f0 d1 f1 d2 f2 d3 f3 d4 f4 d5 f5 d6 f6 d7 f7
    have HS : Hid (AlW w _ #[.int .i8 1, .int .u64 n, .bool g, .slice mA ml mc, .int .u64 bs, .int .i8 ex, .string tx, .slice A m cp] #[.int .i8 1, .int .u64 0, .bool false, .slice none 0 0, .int .u64 0, .int .i8 0, .string ⟨#[]⟩, .slice none 0 0]) := Lib.hid HW.out
    go_wp2
    go_meet
    exact ⟨_, _, _, _, _, _, _, _, _, _, _, _, rfl, Lib.hid HR.out, HS⟩
   ·have HR := Lib.hid (H2.out rfl)
    clear H1 H3 H4 H5 H6 H7 H8 H9 H10 H11 H12 C3 C4 C5 C8 H2 c2 c3 c4 c5 c6 c7 d0 f0 d2 f2 d3 f3 d4 f4 d5 f5 d6 f6 d7 f7
    have HS : Hid (AlW w _ #[.int .i8 2, .int .u64 n, .bool g, .slice mA ml mc, .int .u64 bs, .int .i8 ex, .string tx, .slice A m cp] #[.int .i8 2, .int .u64 n, .bool false, .slice none 0 0, .int .u64 0, .int .i8 0, .string ⟨#[]⟩, .slice none 0 0]) := Lib.hid (HW.out.set 1 (.int .u64 n))
    go_wp2
    go_meet
    exact ⟨_, _, _, _, _, _, _, _, _, _, _, _, rfl, Lib.hid HR.out, HS⟩
   ·have HR := Lib.hid (H3.out rfl)
    have HC := Lib.hid (C3.out rfl)
    clear H1 H2 H4 H5 H6 H7 H8 H9 H10 H11 H12 C4 C5 C8 H3 C3 c1 c4 c5 c6 c7 d0 f0 d1 f1 d4 f4 d5 f5 d6 f6 d7 f7
    have HS : Hid (AlW w _ #[.int .i8 3, .int .u64 n, .bool g, .slice mA ml mc, .int .u64 bs, .int .i8 ex, .string tx, .slice A m cp] #[.int .i8 3, .int .u64 0, .bool g, .slice mA ml mc, .int .u64 0, .int .i8 0, .string ⟨#[]⟩, .slice none 0 0]) := Lib.hid ((HW.out.set 2 (.bool g)).set 3 (.slice mA ml mc))
    go_wp2_with (go_at_call 202; go_must (refine (HC.out _ HS.out.b).mono ?_); go_must (rintro e w1 ⟨rfl, hb1⟩))
    go_meet
    exact ⟨_, _, _, _, _, _, _, _, _, _, _, _, rfl, Lib.hid HR.out, Lib.hid (HS.out.below hb1)⟩
   ·have HR := Lib.hid (H4.out rfl)
    have HC := Lib.hid (C4.out rfl)
    clear H1 H2 H3 H5 H6 H7 H8 H9 H10 H11 H12 C3 C5 C8 H4 C4 c1 c2 c3 c5 c6 c7 d0 f0 d1 f1 d2 f2 d3 f3 d5 f5 d6 f6 d7 f7
    have HS : Hid (AlW w _ #[.int .i8 4, .int .u64 n, .bool g, .slice mA ml mc, .int .u64 bs, .int .i8 ex, .string tx, .slice A m cp] #[.int .i8 4, .int .u64 0, .bool false, .slice none 0 0, .int .u64 bs, .int .i8 0, .string ⟨#[]⟩, .slice none 0 0]) := Lib.hid (HW.out.set 4 (.int .u64 bs))
    go_wp2_with (go_at_call 203; go_must (refine (HC.out _ HS.out.b).mono ?_); go_must (rintro e w1 ⟨rfl, hb1⟩))
    go_meet
    exact ⟨_, _, _, _, _, _, _, _, _, _, _, _, rfl, Lib.hid HR.out, Lib.hid (HS.out.below hb1)⟩
   ·have HR := Lib.hid (H5.out rfl)
    have HC := Lib.hid (C5.out rfl)
    clear H1 H2 H3 H4 H6 H7 H8 H9 H10 H11 H12 C3 C4 C8 H5 C5 c1 c2 c3 c4 c5 c7 d0 f0 d1 f1 d2 f2 d3 f3 d4 f4 d5 f5 d7 f7
    have HS : Hid (AlW w _ #[.int .i8 5, .int .u64 n, .bool g, .slice mA ml mc, .int .u64 bs, .int .i8 ex, .string tx, .slice A m cp] #[.int .i8 5, .int .u64 0, .bool false, .slice none 0 0, .int .u64 0, .int .i8 0, .string tx, .slice none 0 0]) := Lib.hid (HW.out.set 6 (.string tx))
    go_wp2_with (go_at_call 204; go_must (refine (HC.out _ HS.out.b).mono ?_); go_must (rintro e w1 ⟨rfl, hb1⟩))
    go_meet
    exact ⟨_, _, _, _, _, _, _, _, _, _, _, _, rfl, Lib.hid HR.out, Lib.hid (HS.out.below hb1)⟩
   ·have HR := Lib.hid (H6.out rfl)
    clear H1 H2 H3 H4 H5 H7 H8 H9 H10 H11 H12 C3 C4 C5 C8 H6 c1 c2 c3 c4 c5 c7 d0 f0 d1 f1 d2 f2 d3 f3 d4 f4 d5 f5 d7 f7
    have HS : Hid (AlW w _ #[.int .i8 6, .int .u64 n, .bool g, .slice mA ml mc, .int .u64 bs, .int .i8 ex, .string tx, .slice A m cp] #[.int .i8 6, .int .u64 0, .bool false, .slice none 0 0, .int .u64 0, .int .i8 0, .string tx, .slice none 0 0]) := Lib.hid (HW.out.set 6 (.string tx))
    go_wp2
    go_meet
    exact ⟨_, _, _, _, _, _, _, _, _, _, _, _, rfl, Lib.hid HR.out, HS⟩
   ·have HR := Lib.hid (H7.out rfl)
    clear H1 H2 H3 H4 H5 H6 H8 H9 H10 H11 H12 C3 C4 C5 C8 H7 c1 c2 c3 c4 c5 c6 d0 f0 d1 f1 d2 f2 d3 f3 d4 f4 d5 f5 d6 f6
    have HS : Hid (AlW w _ #[.int .i8 7, .int .u64 n, .bool g, .slice mA ml mc, .int .u64 bs, .int .i8 ex, .string tx, .slice A m cp] #[.int .i8 7, .int .u64 0, .bool false, .slice none 0 0, .int .u64 0, .int .i8 0, .string ⟨#[]⟩, .slice A m cp]) := Lib.hid (HW.out.set 7 (.slice A m cp))
    go_wp2
    go_meet
    exact ⟨_, _, _, _, _, _, _, _, _, _, _, _, rfl, Lib.hid HR.out, HS⟩
   ·have HR := Lib.hid (H8.out rfl)
    have HC := Lib.hid (C8.out rfl)
    clear H1 H2 H3 H4 H5 H6 H7 H9 H10 H11 H12 C3 C4 C5 H8 C8 c1 c2 c3 c4 c5 c6 d0 f0 d1 f1 d2 f2 d3 f3 d4 f4 d5 f5 d6 f6
    have HS : Hid (AlW w _ #[.int .i8 8, .int .u64 n, .bool g, .slice mA ml mc, .int .u64 bs, .int .i8 ex, .string tx, .slice A m cp] #[.int .i8 8, .int .u64 0, .bool false, .slice none 0 0, .int .u64 0, .int .i8 0, .string ⟨#[]⟩, .slice A m cp]) := Lib.hid (HW.out.set 7 (.slice A m cp))
    go_wp2_with (go_at_call 205; go_must (refine (HC.out _ HS.out.b).mono ?_); go_must (rintro e w1 ⟨rfl, hb1⟩))
    go_meet
    exact ⟨_, _, _, _, _, _, _, _, _, _, _, _, rfl, Lib.hid HR.out, Lib.hid (HS.out.below hb1)⟩
   ·have HR := Lib.hid (H9.out rfl)
    clear H1 H2 H3 H4 H5 H6 H7 H8 H10 H11 H12 C3 C4 C5 C8 H9 c2 c3 c4 c5 c6 d0 f0 d2 f2 d3 f3 d4 f4 d5 f5 d6 f6
    have HS : Hid (AlW w _ #[.int .i8 9, .int .u64 n, .bool g, .slice mA ml mc, .int .u64 bs, .int .i8 ex, .string tx, .slice A m cp] #[.int .i8 9, .int .u64 n, .bool false, .slice none 0 0, .int .u64 0, .int .i8 0, .string ⟨#[]⟩, .slice A m cp]) := Lib.hid ((HW.out.set 1 (.int .u64 n)).set 7 (.slice A m cp))
    by_cases a : n = 2
    ·have HR2 := HR.out
     rw [show ((n != 2) && ((n != 3) && ((m : Int) == 1))) = false by simp [a]] at HR2
     have HR := Lib.hid HR2
     have ab : (n != 2) = false := by simp [a]
     clear HR2 a
     go_wp2
     go_meet
     exact ⟨false, _, _, _, _, _, _, _, _, _, _, _, rfl, HR, HS⟩
    ·have ab : (n != 2) = true := by simp [a]
     by_cases b : n = 3
     ·have HR2 := HR.out
      rw [show ((n != 2) && ((n != 3) && ((m : Int) == 1))) = false by simp [b]] at HR2
      have HR := Lib.hid HR2
      have bb : (n != 3) = false := by simp [b]
      clear HR2 a b
      go_wp2
      go_meet
      exact ⟨false, _, _, _, _, _, _, _, _, _, _, _, rfl, HR, HS⟩
     ·have bb : (n != 3) = true := by simp [b]
      obtain ⟨z, hz⟩ : ∃ z, ((m : Int) == 1) = z := ⟨_, rfl⟩
      have HR2 := HR.out
      rw [show ((n != 2) && ((n != 3) && ((m : Int) == 1))) = z by rw [ab, bb, hz]; rfl] at HR2
      have HR := Lib.hid HR2
      clear HR2 a b
      go_wp2
      go_meet
      exact ⟨z, _, _, _, _, _, _, _, _, _, _, _, by first | rfl | rw [hz], HR, HS⟩
   ·have HR := Lib.hid (H10.out rfl)
    clear H1 H2 H3 H4 H5 H6 H7 H8 H9 H11 H12 C3 C4 C5 C8 H10 c2 c3 c4 c5 c6 c7 d0 f0 d2 f2 d3 f3 d4 f4 d5 f5 d6 f6 d7 f7
    have HS : Hid (AlW w _ #[.int .i8 10, .int .u64 n, .bool g, .slice mA ml mc, .int .u64 bs, .int .i8 ex, .string tx, .slice A m cp] #[.int .i8 10, .int .u64 n, .bool false, .slice none 0 0, .int .u64 0, .int .i8 0, .string ⟨#[]⟩, .slice none 0 0]) := Lib.hid (HW.out.set 1 (.int .u64 n))
    by_cases a : n ≤ 19
    ·skip
     have HR2 := HR.out
     rw [show (decide (n ≤ 19) || ((n == 23) || (decide (32 ≤ n) && decide (n ≤ 255)))) = true by simp [a]] at HR2
     have HR := Lib.hid HR2
     have ab : decide (n ≤ 19) = true := decide_eq_true a
     clear HR2 a
     go_wp2
     go_meet
     exact ⟨true, _, _, _, _, _, _, _, _, _, _, _, by first | rfl | simp [*], HR, HS⟩
    ·have ab : decide (n ≤ 19) = false := decide_eq_false a
     by_cases b : n = 23
     ·skip
      have HR2 := HR.out
      rw [show (decide (n ≤ 19) || ((n == 23) || (decide (32 ≤ n) && decide (n ≤ 255)))) = true by simp [b]] at HR2
      have HR := Lib.hid HR2
      have bb : (n == 23) = true := by simp [b]
      clear HR2 a b
      go_wp2
      go_meet
      exact ⟨true, _, _, _, _, _, _, _, _, _, _, _, by first | rfl | simp [*], HR, HS⟩
     ·have bb : (n == 23) = false := by simpa using b
      by_cases c : 32 ≤ n
      ·skip
       have HR2 := HR.out
       rw [show (decide (n ≤ 19) || ((n == 23) || (decide (32 ≤ n) && decide (n ≤ 255)))) = decide (n ≤ 255) by simp [a, b, c]] at HR2
       have HR := Lib.hid HR2
       have cb : decide (32 ≤ n) = true := decide_eq_true c
       clear HR2 a b c
       go_wp2
       go_meet
       exact ⟨decide (n ≤ 255), _, _, _, _, _, _, _, _, _, _, _, by first | rfl | simp [*], HR, HS⟩
      ·skip
       have HR2 := HR.out
       rw [show (decide (n ≤ 19) || ((n == 23) || (decide (32 ≤ n) && decide (n ≤ 255)))) = false by simp [a, b, c]] at HR2
       have HR := Lib.hid HR2
       have cb : decide (32 ≤ n) = false := decide_eq_false c
       clear HR2 a b c
       go_wp2
       go_meet
       exact ⟨false, _, _, _, _, _, _, _, _, _, _, _, by first | rfl | simp [*], HR, HS⟩
   ·have HR := Lib.hid (H11.out rfl)
    clear H1 H2 H3 H4 H5 H6 H7 H8 H9 H10 H12 C3 C4 C5 C8 H11 c1 c2 c3 c4 c7 d0 f0 d1 f1 d2 f2 d3 f3 d4 f4 d7 f7
    have HS : Hid (AlW w _ #[.int .i8 11, .int .u64 n, .bool g, .slice mA ml mc, .int .u64 bs, .int .i8 ex, .string tx, .slice A m cp] #[.int .i8 11, .int .u64 0, .bool false, .slice none 0 0, .int .u64 0, .int .i8 ex, .string tx, .slice none 0 0]) := Lib.hid ((HW.out.set 5 (.int .i8 ex)).set 6 (.string tx))
    go_wp2
    go_meet
    exact ⟨_, _, _, _, _, _, _, _, _, _, _, _, rfl, Lib.hid HR.out, HS⟩
 case rest =>
  obtain ⟨ok, n', bs', ex', g', tx', mA', A', ml', mc', m', cp', rfl, HR, HS⟩ := hcut
  clear H1 H2 H3 H4 H5 H6 H7 H8 H9 H10 H11 H12 C3 C4 C5 C8 c0 c1 c2 c3 c4 c5 c6 c7 d0 d1 d2 d3 d4 d5 d6 d7 f0 f1 f2 f3 f4 f5 f6 f7
  obtain ⟨⟨c0, c1, c2, c3, c4, c5, c6, c7⟩, _⟩ := blk8 HS.out.hv
  obtain ⟨⟨d0, d1, d2, d3, d4, d5, d6, d7⟩, _⟩ := blk8 HS.out.hw
  obtain ⟨e1, h1⟩ : ∃ e, (n == n') = e := ⟨_, rfl⟩
  obtain ⟨e2, h2⟩ : ∃ e, (g == g') = e := ⟨_, rfl⟩
  obtain ⟨e3, h3⟩ : ∃ e, ((ml : Int) == (ml' : Int)) = e := ⟨_, rfl⟩
  obtain ⟨e4, h4⟩ : ∃ e, (bs == bs') = e := ⟨_, rfl⟩
  obtain ⟨e5, h5⟩ : ∃ e, (ex == ex') = e := ⟨_, rfl⟩
  obtain ⟨e6, h6⟩ : ∃ e, (tx.toList == tx'.toList) = e := ⟨_, rfl⟩
  obtain ⟨e7, h7⟩ : ∃ e, ((m : Int) == (m' : Int)) = e := ⟨_, rfl⟩
  rw [h1, h2, h3, h4, h5, h6, h7] at HR
  have HB := Lib.hid HS.out.b
  clear c0 d0 HS HW
  cases ok
  ·have HF : Hid (r = false) := Lib.hid (by rw [HR.out]; simp [tl])
   clear HR c1 d1 c2 d2 c3 d3 c4 d4 c5 d5 c6 d6 c7 d7 h1 h2 h3 h4 h5 h6 h7
   go_wp2
   go_ret
   exact ⟨by rw [HF.out]; rfl, HB.out⟩
  ·skip
   cases e1
   ·have HF : Hid (r = false) := Lib.hid (by rw [HR.out]; simp [tl])
    clear HR c2 d2 c3 d3 c4 d4 c5 d5 c6 d6 c7 d7 h2 h3 h4 h5 h6 h7
    go_wp2
    go_ret
    exact ⟨by rw [HF.out]; rfl, HB.out⟩
   ·skip
    cases e2
    ·have HF : Hid (r = false) := Lib.hid (by rw [HR.out]; simp [tl])
     clear HR c3 d3 c4 d4 c5 d5 c6 d6 c7 d7 h3 h4 h5 h6 h7
     go_wp2
     go_ret
     exact ⟨by rw [HF.out]; rfl, HB.out⟩
    ·skip
     cases e3
     ·have HF : Hid (r = false) := Lib.hid (by rw [HR.out]; simp [tl])
      clear HR c4 d4 c5 d5 c6 d6 c7 d7 h4 h5 h6 h7
      go_wp2
      go_ret
      exact ⟨by rw [HF.out]; rfl, HB.out⟩
     ·skip
      cases e4
      ·have HF : Hid (r = false) := Lib.hid (by rw [HR.out]; simp [tl])
       clear HR c5 d5 c6 d6 c7 d7 h5 h6 h7
       go_wp2
       go_ret
       exact ⟨by rw [HF.out]; rfl, HB.out⟩
      ·skip
       cases e5
       ·have HF : Hid (r = false) := Lib.hid (by rw [HR.out]; simp [tl])
        clear HR c6 d6 c7 d7 h6 h7
        go_wp2
        go_ret
        exact ⟨by rw [HF.out]; rfl, HB.out⟩
       ·skip
        cases e6
        ·have HF : Hid (r = false) := Lib.hid (by rw [HR.out]; simp [tl])
         clear HR c7 d7 h7
         go_wp2
         go_ret
         exact ⟨by rw [HF.out]; rfl, HB.out⟩
        ·skip
         have HF : Hid (r = e7) := Lib.hid (by rw [HR.out]; simp [tl])
         clear HR
         go_wp2
         go_ret
         exact ⟨by rw [HF.out]; first | rfl | (rw [← h7]; rfl), HB.out⟩
end Go.Proofs.YtcpkjmpbpmeclaaGreatDoor
