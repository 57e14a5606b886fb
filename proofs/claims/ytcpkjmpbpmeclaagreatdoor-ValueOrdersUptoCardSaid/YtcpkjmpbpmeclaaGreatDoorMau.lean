/- order.blocks: the pieces of a list. -/
import Derived.RangeFuncNested
import Derived.RangeFuncBound
import Derived.RangeFuncCalls
import Derived.RangeFuncLeaves
import Derived.RangeFuncBox
import Derived.Shelf.Abstract
import Derived.Shelf.RegionOpen
import Derived.WalkKit
import Derived.OwnWalkIn
import Derived.TacticsInMore
import Derived.LoopNIn
import Derived.LoopIn
import Derived.Test.YtcpkjmpbpmeclaaGreatDoorMac
namespace Go.Proofs.YtcpkjmpbpmeclaaGreatDoor
open Go.RowKit Go.Shelf
attribute [local go_sem] Oper.semAt_some
set_option maxRecDepth 100000
set_option linter.unusedVariables false
set_option linter.unusedSimpArgs false
set_option linter.unnecessarySimpa false

/-- The number of a piece that begins within the list. -/
abbrev Bk (m sz : Nat) := { k : Nat // k * sz < m }
/-- What a round keeps: the boxes of the length and of the size. -/
def KpBk (B : Nat) (A W : World) : Prop := W.heap[B]? = A.heap[B]? ∧ W.heap[B + 1]? = A.heap[B + 1]?
theorem KpBk.trans {B : Nat} {A W C : World} (h : KpBk B A W) (k : KpBk B W C) : KpBk B A C := ⟨k.1.trans h.1, k.2.trans h.2⟩
/-- The pieces, in their order. -/
def AllBk (m sz : Nat) (ys : List (Bk m sz)) : Prop := ys.map (·.1) = List.range ys.length ∧ m ≤ ys.length * sz

set_option maxHeartbeats 2000000 in
theorem blocks1_in (F : Fence) (n : Nat) (hf : F.fn 221) (hro : F.round = none) (hn : 2 ≤ n) (l B m sz : Nat) (hm : m ≤ 1000000000) (hz : 1 ≤ sz) (hz2 : sz ≤ 2000000000)
  (J Jx : List (Bk m sz) → World → Prop)
  (hY : ∀ pre x W, J pre W → pre.length < m → YieldAt F (n - 1) Tryz.prog l #[.int .i64 ((x.1 * sz : Nat) : Int), .int .i64 ((min (x.1 * sz + sz) m : Nat) : Int)] W fun e W' =>
   (e = .returned (.bool true) ∧ J (pre ++ [x]) W' ∧ KpBk B W W') ∨ (e = .returned (.bool false) ∧ Jx (pre ++ [x]) W'))
  (W : World) (hB1 : W.heap[B]? = some (.cells #[.int .i64 (m : Nat)] 3 (0, 0))) (hB2 : W.heap[B + 1]? = some (.cells #[.int .i64 (sz : Nat)] 3 (0, 0))) (h0 : J [] W) :
  CallsIn F n Tryz.prog 221 #[.func (.yield l) #[] #[], .pointer (some ⟨B, 0, none⟩), .pointer (some ⟨B + 1, 0, none⟩)] W fun e W' => (∃ v, e = .returned v) ∧
   ((∃ ys, AllBk m sz ys ∧ J ys W') ∨ (∃ pre : List (Bk m sz), True ∧ Jx pre W')) := by
 refine callsIn_of_wp Tryz.func221 rfl hf ?_ hro
 simp only [Tryz.ntmps221, List.size_toArray, List.length_cons, List.length_nil, Nat.reduceAdd, Nat.reduceSub, Array.replicate_succ, Array.replicate_zero, List.push_toArray, List.append_toArray, List.nil_append, List.cons_append]
 have h1 : 1 ≤ n := by omega
 have HB := Lib.hid (And.intro hB1 hB2)
 clear hB1 hB2
 gi_wp2
 gi_loopw [4] (fun i wr => ∃ (k a : Nat) (pre : List (Bk m sz)), i = .int .i64 (a : Nat) ∧ Hid (a = k * sz ∧ a < m + sz) ∧ Hid (pre.map (·.1) = List.range k ∧ pre.length = k) ∧ J pre wr ∧ Hid (KpBk B W wr))
  (fun i _ => m - (intOf i).toNat)
 case atStart => exact ⟨0, 0, [], rfl, Lib.hid ⟨by simp, by omega⟩, Lib.hid ⟨rfl, rfl⟩, h0, Lib.hid ⟨rfl, rfl⟩⟩
 case round =>
  obtain ⟨k, a, pre, rfl, HA, HP, hJs, HK⟩ := hrel
  have hcell1 : wr.cell? ⟨B, 0, none⟩ = some (.int .i64 (m : Nat)) := cell_of_row _ _ _ _ _ _ (HK.out.1.trans HB.out.1)
  have hcell2 : wr.cell? ⟨B + 1, 0, none⟩ = some (.int .i64 (sz : Nat)) := cell_of_row _ _ _ _ _ _ (HK.out.2.trans HB.out.2)
  have ham := HA.out.2
  by_cases hlt : a < m
  ·have hkm : k * sz < m := by rw [← HA.out.1]; exact hlt
   have hkl : k < m := by have := Nat.le_mul_of_pos_right k hz; omega
   obtain ⟨x, hx⟩ : ∃ x : Bk m sz, x.1 = k := ⟨⟨k, hkm⟩, rfl⟩
   have hy0 := hY pre x wr hJs (by rw [HP.out.2]; exact hkl)
   by_cases hs : (a : Int) + (sz : Int) ≤ (m : Int)
   ·have hmin : ((min (x.1 * sz + sz) m : Nat) : Int) = (a : Int) + (sz : Int) := by rw [hx, ← HA.out.1]; omega
    rw [hmin, hx, ← HA.out.1] at hy0
    clear hmin
    have HKM := Lib.hid (And.intro hkm hkl)
    have HX := Lib.hid hx
    obtain ⟨fn, tmps, assign, body, hy, hR⟩ := hy0
    clear hkm hkl hx
    gi_wp2
    refine hR.mono ?_
    rintro e W3 (⟨rfl, hJ3, hk3⟩ | ⟨rfl, hJx3⟩)
    ·have HA3 : Hid (a + sz = (k + 1) * sz ∧ a + sz < m + sz) := Lib.hid ⟨by rw [Nat.add_mul, Nat.one_mul, ← HA.out.1], by omega⟩
     have HP3 : Hid ((pre ++ [x]).map (·.1) = List.range (k + 1) ∧ (pre ++ [x]).length = k + 1) := Lib.hid ⟨by rw [List.map_append, HP.out.1, List.range_succ, List.map_cons, HX.out, List.map_nil], by rw [List.length_append, HP.out.2]; rfl⟩
     have HK3 : Hid (KpBk B W W3) := Lib.hid (HK.out.trans hk3)
     have hc3 : W3.cell? ⟨B + 1, 0, none⟩ = some (.int .i64 (sz : Nat)) := cell_of_row _ _ _ _ _ _ (HK3.out.2.trans HB.out.2)
     gi_wp2
     go_roundw
     case rel => exact ⟨k + 1, a + sz, pre ++ [x], by go_num, HA3, HP3, hJ3, HK3⟩
     case measure => simp [intOf]; omega
    ·gi_wp2
     refine bodyPost_ret (results_none rfl _ _ _) rfl ?_
     exact ⟨⟨_, rfl⟩, .inr ⟨_, trivial, hJx3⟩⟩
   ·have hmin : ((min (x.1 * sz + sz) m : Nat) : Int) = (m : Nat) := by rw [hx, ← HA.out.1]; omega
    rw [hmin, hx, ← HA.out.1] at hy0
    clear hmin
    have HKM := Lib.hid (And.intro hkm hkl)
    have HX := Lib.hid hx
    obtain ⟨fn, tmps, assign, body, hy, hR⟩ := hy0
    clear hkm hkl hx
    gi_wp2
    refine hR.mono ?_
    rintro e W3 (⟨rfl, hJ3, hk3⟩ | ⟨rfl, hJx3⟩)
    ·have HA3 : Hid (a + sz = (k + 1) * sz ∧ a + sz < m + sz) := Lib.hid ⟨by rw [Nat.add_mul, Nat.one_mul, ← HA.out.1], by omega⟩
     have HP3 : Hid ((pre ++ [x]).map (·.1) = List.range (k + 1) ∧ (pre ++ [x]).length = k + 1) := Lib.hid ⟨by rw [List.map_append, HP.out.1, List.range_succ, List.map_cons, HX.out, List.map_nil], by rw [List.length_append, HP.out.2]; rfl⟩
     have HK3 : Hid (KpBk B W W3) := Lib.hid (HK.out.trans hk3)
     have hc3 : W3.cell? ⟨B + 1, 0, none⟩ = some (.int .i64 (sz : Nat)) := cell_of_row _ _ _ _ _ _ (HK3.out.2.trans HB.out.2)
     gi_wp2
     go_roundw
     case rel => exact ⟨k + 1, a + sz, pre ++ [x], by go_num, HA3, HP3, hJ3, HK3⟩
     case measure => simp [intOf]; omega
    ·gi_wp2
     refine bodyPost_ret (results_none rfl _ _ _) rfl ?_
     exact ⟨⟨_, rfl⟩, .inr ⟨_, trivial, hJx3⟩⟩
  ·gi_wp2
   go_end0
   refine ⟨⟨_, rfl⟩, .inl ⟨pre, ⟨?_, ?_⟩, hJs⟩⟩
   ·rw [HP.out.2]; exact HP.out.1
   ·rw [HP.out.2, ← HA.out.1]; omega

theorem blocks_any (m sz : Nat) (w : World) : Calls Tryz.prog 192 #[.int .i64 (m : Nat), .int .i64 (sz : Nat)] w fun e w' => e = .returned (.func (.func 221) #[] #[.pointer (some ⟨w.heap.size, 0, none⟩), .pointer (some ⟨w.heap.size + 1, 0, none⟩)]) ∧ w' = (w.alloc (.cells #[.int .i64 (m : Nat)] 3)).alloc (.cells #[.int .i64 (sz : Nat)] 3) := by
 go_enter Tryz.func192, Tryz.ntmps192
 go_wp2
 go_ret
 exact ⟨rfl, rfl⟩
theorem blocks_stops (m sz : Nat) (hm : m ≤ 1000000000) (hz : 1 ≤ sz) (hz2 : sz ≤ 2000000000) (n B : Nat) (hn : 2 ≤ n) (w : World) (hB1 : w.heap[B]? = some (.cells #[.int .i64 (m : Nat)] 3 (0, 0))) (hB2 : w.heap[B + 1]? = some (.cells #[.int .i64 (sz : Nat)] 3 (0, 0))) :
  SeqStopsK Fence.wide n Tryz.prog 221 #[.pointer (some ⟨B, 0, none⟩), .pointer (some ⟨B + 1, 0, none⟩)] (fun x : Bk m sz => #[Value.int .i64 ((x.1 * sz : Nat) : Int), Value.int .i64 ((min (x.1 * sz + sz) m : Nat) : Int)]) (KpBk B) (AllBk m sz) (fun _ => True) m w := fun l J Jx W hW _ _ hY h0 =>
 blocks1_in Fence.wide n trivial rfl hn l B m sz hm hz hz2 J Jx hY W ((hW.block B (Array.getElem?_eq_some_iff.1 hB1).1).trans hB1) ((hW.block (B + 1) (Array.getElem?_eq_some_iff.1 hB2).1).trans hB2) h0
end Go.Proofs.YtcpkjmpbpmeclaaGreatDoor
