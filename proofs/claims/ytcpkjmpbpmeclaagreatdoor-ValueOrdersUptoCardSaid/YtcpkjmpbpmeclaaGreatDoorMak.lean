/- Vwd · Vwe · Vwf · Vya: merged. -/
import Derived.Test.YtcpkjmpbpmeclaaGreatDoorMai
import Derived.Test.YtcpkjmpbpmeclaaGreatDoorMaj
namespace Go.Proofs.YtcpkjmpbpmeclaaGreatDoor
open Go.RowKit
set_option maxRecDepth 100000
set_option linter.unusedVariables false
set_option linter.unusedSimpArgs false
set_option linter.unnecessarySimpa false

theorem beq0 (x : Int) (h : x = 0) : (x == 0) = true := by simpa using h
theorem bne0 (x : Int) (h : ¬ x = 0) : (x == 0) = false := by simpa using h
theorem nbeq0 (x : Nat) (h : x = 0) : ((x : Int) == 0) = true := by simpa using h
theorem nbne0 (x : Nat) (h : ¬ x = 0) : ((x : Int) == 0) = false := by simpa using h
theorem tb0 (t : ByteArray) (h : t.size = 0) : (t.toList == []) = true := by
 have : t = ⟨#[]⟩ := by
  apply ByteArray.ext
  exact Array.eq_empty_of_size_eq_zero h
 subst this
 rw [ByteArray.toList_eq]
 rfl
theorem tbn0 (t : ByteArray) (h : ¬ t.size = 0) : (t.toList == []) = false := by
 rw [beq_eq_false_iff_ne, ByteArray.toList_eq]
 intro e
 apply h
 have := congrArg List.length e
 rw [Array.length_toList] at this
 exact this
theorem emp0 : (⟨#[]⟩ : ByteArray) = ByteArray.empty := rfl
theorem tl0 : (⟨#[]⟩ : ByteArray).toList = [] := by rw [ByteArray.toList_eq]
set_option maxHeartbeats 4000000 in
theorem aloneW1 (n bs ex : Int) (ng : Bool) (tx : ByteArray) (mA A : Option Addr) (ml mc m cp : Nat) (w : World) (hn0 : 0 ≤ n)  :
  Calls Tryz.prog 48 #[.agg #[.int .i8 1, .int .u64 n, .bool ng, .slice mA ml mc, .int .u64 bs, .int .i8 ex, .string tx, .slice A m cp]] w fun e w' => e = .returned (.bool (tailB true n ng ml bs ex tx m)) ∧ Below w.heap.size w w' := by
 obtain ⟨r, hr⟩ : ∃ r, tailB true n ng ml bs ex tx m = r := ⟨_, rfl⟩
 rw [hr]
 have HR0 := Lib.hid hr
 have HP := Lib.hid (heap_alloc_new w (.cells #[.int .i8 1, .int .u64 n, .bool ng, .slice mA ml mc, .int .u64 bs, .int .i8 ex, .string tx, .slice A m cp] 31))
 have hb0 : Below w.heap.size w (w.alloc (.cells #[.int .i8 1, .int .u64 n, .bool ng, .slice mA ml mc, .int .u64 bs, .int .i8 ex, .string tx, .slice A m cp] 31)) := (Below.refl _ _).alloc (Nat.le_refl _) _
 have HB0 := Lib.hid hb0
 clear hr hb0
 go_enter Tryz.func48, Tryz.ntmps48
 go_upto_region 1 with fail
 show Code.wp _ _ _ _ (w.alloc (.cells #[.int .i8 1, .int .u64 n, .bool ng, .slice mA ml mc, .int .u64 bs, .int .i8 ex, .string tx, .slice A m cp] 31))
 generalize (w.alloc (.cells #[.int .i8 1, .int .u64 n, .bool ng, .slice mA ml mc, .int .u64 bs, .int .i8 ex, .string tx, .slice A m cp] 31)) = W0 at *
 obtain ⟨⟨c0, c1, c2, c3, c4, c5, c6, c7⟩, f0, f1, f2, f3, f4, f5, f6, f7⟩ := blk8 HP.out
 go_upto_region 26 with fail
 by_cases z1 : n = 0
 ·have z1b := beq0 n z1
  cases ng
  ·skip
   by_cases z3 : ml = 0
   ·have z3b := nbeq0 ml z3
    by_cases z4 : bs = 0
    ·have z4b := beq0 bs z4
     by_cases z5 : ex = 0
     ·have z5b := beq0 ex z5
      by_cases z6 : tx.size = 0
      ·have z6b := tb0 tx z6
       by_cases z7 : m = 0
       ·have z7b := nbeq0 m z7
        have HV : Hid (r = true) := Lib.hid (by rw [← HR0.out]; simp [tailB, emp0, z1, z3, z4, z5, z6, z7])
        clear HR0
        go_wp2
        go_ret
        exact ⟨by rw [HV.out]; rfl, HB0.out⟩
       ·have z7b := nbne0 m z7
        have HV : Hid (r = false) := Lib.hid (by rw [← HR0.out]; simp [tailB, emp0, z1, z3, z4, z5, z6, z7])
        clear HR0
        go_wp2
        go_ret
        exact ⟨by rw [HV.out]; rfl, HB0.out⟩
      ·have z6b := tbn0 tx z6
       have HV : Hid (r = false) := Lib.hid (by rw [← HR0.out]; simp [tailB, emp0, z1, z3, z4, z5, z6])
       clear HR0
       go_wp2
       go_ret
       exact ⟨by rw [HV.out]; rfl, HB0.out⟩
     ·have z5b := bne0 ex z5
      have HV : Hid (r = false) := Lib.hid (by rw [← HR0.out]; simp [tailB, emp0, z1, z3, z4, z5])
      clear HR0
      go_wp2
      go_ret
      exact ⟨by rw [HV.out]; rfl, HB0.out⟩
    ·have z4b := bne0 bs z4
     have HV : Hid (r = false) := Lib.hid (by rw [← HR0.out]; simp [tailB, emp0, z1, z3, z4])
     clear HR0
     go_wp2
     go_ret
     exact ⟨by rw [HV.out]; rfl, HB0.out⟩
   ·have z3b := nbne0 ml z3
    have HV : Hid (r = false) := Lib.hid (by rw [← HR0.out]; simp [tailB, emp0, z1, z3])
    clear HR0
    go_wp2
    go_ret
    exact ⟨by rw [HV.out]; rfl, HB0.out⟩
  ·skip
   have HV : Hid (r = false) := Lib.hid (by rw [← HR0.out]; simp [tailB, emp0, z1])
   clear HR0
   go_wp2
   go_ret
   exact ⟨by rw [HV.out]; rfl, HB0.out⟩
 ·have z1b := bne0 n z1
  have HV : Hid (r = false) := Lib.hid (by rw [← HR0.out]; simp [tailB, emp0, z1])
  clear HR0
  go_wp2
  go_ret
  exact ⟨by rw [HV.out]; rfl, HB0.out⟩
set_option maxHeartbeats 4000000 in
theorem aloneW2 (n bs ex : Int) (ng : Bool) (tx : ByteArray) (mA A : Option Addr) (ml mc m cp : Nat) (w : World) (hn0 : 0 ≤ n)  :
  Calls Tryz.prog 48 #[.agg #[.int .i8 2, .int .u64 n, .bool ng, .slice mA ml mc, .int .u64 bs, .int .i8 ex, .string tx, .slice A m cp]] w fun e w' => e = .returned (.bool (tailB (decide (n < 2)) 0 ng ml bs ex tx m)) ∧ Below w.heap.size w w' := by
 obtain ⟨r, hr⟩ : ∃ r, tailB (decide (n < 2)) 0 ng ml bs ex tx m = r := ⟨_, rfl⟩
 rw [hr]
 have HR0 := Lib.hid hr
 have HP := Lib.hid (heap_alloc_new w (.cells #[.int .i8 2, .int .u64 n, .bool ng, .slice mA ml mc, .int .u64 bs, .int .i8 ex, .string tx, .slice A m cp] 31))
 have hb0 : Below w.heap.size w (w.alloc (.cells #[.int .i8 2, .int .u64 n, .bool ng, .slice mA ml mc, .int .u64 bs, .int .i8 ex, .string tx, .slice A m cp] 31)) := (Below.refl _ _).alloc (Nat.le_refl _) _
 have HB0 := Lib.hid hb0
 clear hr hb0
 go_enter Tryz.func48, Tryz.ntmps48
 go_upto_region 1 with fail
 show Code.wp _ _ _ _ (w.alloc (.cells #[.int .i8 2, .int .u64 n, .bool ng, .slice mA ml mc, .int .u64 bs, .int .i8 ex, .string tx, .slice A m cp] 31))
 generalize (w.alloc (.cells #[.int .i8 2, .int .u64 n, .bool ng, .slice mA ml mc, .int .u64 bs, .int .i8 ex, .string tx, .slice A m cp] 31)) = W0 at *
 obtain ⟨⟨c0, c1, c2, c3, c4, c5, c6, c7⟩, f0, f1, f2, f3, f4, f5, f6, f7⟩ := blk8 HP.out
 by_cases z0 : n < 2
 ·skip
  go_upto_region 26 with fail
  cases ng
  ·skip
   by_cases z3 : ml = 0
   ·have z3b := nbeq0 ml z3
    by_cases z4 : bs = 0
    ·have z4b := beq0 bs z4
     by_cases z5 : ex = 0
     ·have z5b := beq0 ex z5
      by_cases z6 : tx.size = 0
      ·have z6b := tb0 tx z6
       by_cases z7 : m = 0
       ·have z7b := nbeq0 m z7
        have HV : Hid (r = true) := Lib.hid (by rw [← HR0.out]; simp [tailB, emp0, z0, z3, z4, z5, z6, z7])
        clear HR0
        go_wp2
        go_ret
        exact ⟨by rw [HV.out]; rfl, (below_setCells [.int .u64 0] w.heap.size 1 _ HB0.out (Nat.le_refl _))⟩
       ·have z7b := nbne0 m z7
        have HV : Hid (r = false) := Lib.hid (by rw [← HR0.out]; simp [tailB, emp0, z0, z3, z4, z5, z6, z7])
        clear HR0
        go_wp2
        go_ret
        exact ⟨by rw [HV.out]; rfl, (below_setCells [.int .u64 0] w.heap.size 1 _ HB0.out (Nat.le_refl _))⟩
      ·have z6b := tbn0 tx z6
       have HV : Hid (r = false) := Lib.hid (by rw [← HR0.out]; simp [tailB, emp0, z0, z3, z4, z5, z6])
       clear HR0
       go_wp2
       go_ret
       exact ⟨by rw [HV.out]; rfl, (below_setCells [.int .u64 0] w.heap.size 1 _ HB0.out (Nat.le_refl _))⟩
     ·have z5b := bne0 ex z5
      have HV : Hid (r = false) := Lib.hid (by rw [← HR0.out]; simp [tailB, emp0, z0, z3, z4, z5])
      clear HR0
      go_wp2
      go_ret
      exact ⟨by rw [HV.out]; rfl, (below_setCells [.int .u64 0] w.heap.size 1 _ HB0.out (Nat.le_refl _))⟩
    ·have z4b := bne0 bs z4
     have HV : Hid (r = false) := Lib.hid (by rw [← HR0.out]; simp [tailB, emp0, z0, z3, z4])
     clear HR0
     go_wp2
     go_ret
     exact ⟨by rw [HV.out]; rfl, (below_setCells [.int .u64 0] w.heap.size 1 _ HB0.out (Nat.le_refl _))⟩
   ·have z3b := nbne0 ml z3
    have HV : Hid (r = false) := Lib.hid (by rw [← HR0.out]; simp [tailB, emp0, z0, z3])
    clear HR0
    go_wp2
    go_ret
    exact ⟨by rw [HV.out]; rfl, (below_setCells [.int .u64 0] w.heap.size 1 _ HB0.out (Nat.le_refl _))⟩
  ·skip
   have HV : Hid (r = false) := Lib.hid (by rw [← HR0.out]; simp [tailB, emp0, z0])
   clear HR0
   go_wp2
   go_ret
   exact ⟨by rw [HV.out]; rfl, (below_setCells [.int .u64 0] w.heap.size 1 _ HB0.out (Nat.le_refl _))⟩
 ·skip
  go_upto_region 26 with fail
  have HV : Hid (r = false) := Lib.hid (by rw [← HR0.out]; simp [tailB, emp0, z0])
  clear HR0
  go_wp2
  go_ret
  exact ⟨by rw [HV.out]; rfl, (below_setCells [.int .u64 0] w.heap.size 1 _ HB0.out (Nat.le_refl _))⟩
set_option maxHeartbeats 4000000 in
theorem aloneW3 (n bs ex : Int) (ng : Bool) (tx : ByteArray) (mA A : Option Addr) (ml mc m cp : Nat) (w : World) (hn0 : 0 ≤ n) (pn : Bool) (HN : Hid (∀ W, Below w.heap.size w W → Calls Tryz.prog 137 #[.agg #[.bool ng, .slice mA ml mc]] W fun e w' => e = .returned (.bool pn) ∧ Below W.heap.size W w')) :
  Calls Tryz.prog 48 #[.agg #[.int .i8 3, .int .u64 n, .bool ng, .slice mA ml mc, .int .u64 bs, .int .i8 ex, .string tx, .slice A m cp]] w fun e w' => e = .returned (.bool (tailB pn n false 0 bs ex tx m)) ∧ Below w.heap.size w w' := by
 obtain ⟨r, hr⟩ : ∃ r, tailB pn n false 0 bs ex tx m = r := ⟨_, rfl⟩
 rw [hr]
 have HR0 := Lib.hid hr
 have HP := Lib.hid (heap_alloc_new w (.cells #[.int .i8 3, .int .u64 n, .bool ng, .slice mA ml mc, .int .u64 bs, .int .i8 ex, .string tx, .slice A m cp] 31))
 have hb0 : Below w.heap.size w (w.alloc (.cells #[.int .i8 3, .int .u64 n, .bool ng, .slice mA ml mc, .int .u64 bs, .int .i8 ex, .string tx, .slice A m cp] 31)) := (Below.refl _ _).alloc (Nat.le_refl _) _
 have HB0 := Lib.hid hb0
 clear hr hb0
 go_enter Tryz.func48, Tryz.ntmps48
 go_upto_region 1 with fail
 show Code.wp _ _ _ _ (w.alloc (.cells #[.int .i8 3, .int .u64 n, .bool ng, .slice mA ml mc, .int .u64 bs, .int .i8 ex, .string tx, .slice A m cp] 31))
 generalize (w.alloc (.cells #[.int .i8 3, .int .u64 n, .bool ng, .slice mA ml mc, .int .u64 bs, .int .i8 ex, .string tx, .slice A m cp] 31)) = W0 at *
 obtain ⟨⟨c0, c1, c2, c3, c4, c5, c6, c7⟩, f0, f1, f2, f3, f4, f5, f6, f7⟩ := blk8 HP.out
 go_upto_region 26 with (go_at_call 137; refine (HN.out _ HB0.out).mono ?_; rintro e w1 ⟨rfl, hb1'⟩; have hb1 := Lib.hid hb1'; clear hb1'; obtain ⟨⟨d0, d1, d2, d3, d4, d5, d6, d7⟩, g0, g1, g2, g3, g4, g5, g6, g7⟩ := blk8 ((hb1.out.block _ (Array.getElem?_eq_some_iff.1 HP.out).1).trans HP.out); clear c0 c1 c2 c3 c4 c5 c6 c7 f0 f1 f2 f3 f4 f5 f6 f7)
 cases pn
 ·skip
  have HV : Hid (r = false) := Lib.hid (by rw [← HR0.out]; simp [tailB, emp0])
  clear HR0
  go_wp2
  go_ret
  exact ⟨by rw [HV.out]; rfl, (below_setCells [.slice none 0 0] w.heap.size 3 _ (below_setCells [.bool false] w.heap.size 2 _ (trans_b HB0.out hb1.out) (Nat.le_refl _)) (Nat.le_refl _))⟩
 ·skip
  by_cases z1 : n = 0
  ·have z1b := beq0 n z1
   by_cases z4 : bs = 0
   ·have z4b := beq0 bs z4
    by_cases z5 : ex = 0
    ·have z5b := beq0 ex z5
     by_cases z6 : tx.size = 0
     ·have z6b := tb0 tx z6
      by_cases z7 : m = 0
      ·have z7b := nbeq0 m z7
       have HV : Hid (r = true) := Lib.hid (by rw [← HR0.out]; simp [tailB, emp0, z1, z4, z5, z6, z7])
       clear HR0
       go_wp2
       go_ret
       exact ⟨by rw [HV.out]; rfl, (below_setCells [.slice none 0 0] w.heap.size 3 _ (below_setCells [.bool false] w.heap.size 2 _ (trans_b HB0.out hb1.out) (Nat.le_refl _)) (Nat.le_refl _))⟩
      ·have z7b := nbne0 m z7
       have HV : Hid (r = false) := Lib.hid (by rw [← HR0.out]; simp [tailB, emp0, z1, z4, z5, z6, z7])
       clear HR0
       go_wp2
       go_ret
       exact ⟨by rw [HV.out]; rfl, (below_setCells [.slice none 0 0] w.heap.size 3 _ (below_setCells [.bool false] w.heap.size 2 _ (trans_b HB0.out hb1.out) (Nat.le_refl _)) (Nat.le_refl _))⟩
     ·have z6b := tbn0 tx z6
      have HV : Hid (r = false) := Lib.hid (by rw [← HR0.out]; simp [tailB, emp0, z1, z4, z5, z6])
      clear HR0
      go_wp2
      go_ret
      exact ⟨by rw [HV.out]; rfl, (below_setCells [.slice none 0 0] w.heap.size 3 _ (below_setCells [.bool false] w.heap.size 2 _ (trans_b HB0.out hb1.out) (Nat.le_refl _)) (Nat.le_refl _))⟩
    ·have z5b := bne0 ex z5
     have HV : Hid (r = false) := Lib.hid (by rw [← HR0.out]; simp [tailB, emp0, z1, z4, z5])
     clear HR0
     go_wp2
     go_ret
     exact ⟨by rw [HV.out]; rfl, (below_setCells [.slice none 0 0] w.heap.size 3 _ (below_setCells [.bool false] w.heap.size 2 _ (trans_b HB0.out hb1.out) (Nat.le_refl _)) (Nat.le_refl _))⟩
   ·have z4b := bne0 bs z4
    have HV : Hid (r = false) := Lib.hid (by rw [← HR0.out]; simp [tailB, emp0, z1, z4])
    clear HR0
    go_wp2
    go_ret
    exact ⟨by rw [HV.out]; rfl, (below_setCells [.slice none 0 0] w.heap.size 3 _ (below_setCells [.bool false] w.heap.size 2 _ (trans_b HB0.out hb1.out) (Nat.le_refl _)) (Nat.le_refl _))⟩
  ·have z1b := bne0 n z1
   have HV : Hid (r = false) := Lib.hid (by rw [← HR0.out]; simp [tailB, emp0, z1])
   clear HR0
   go_wp2
   go_ret
   exact ⟨by rw [HV.out]; rfl, (below_setCells [.slice none 0 0] w.heap.size 3 _ (below_setCells [.bool false] w.heap.size 2 _ (trans_b HB0.out hb1.out) (Nat.le_refl _)) (Nat.le_refl _))⟩
set_option maxHeartbeats 4000000 in
theorem aloneW4 (n bs ex : Int) (ng : Bool) (tx : ByteArray) (mA A : Option Addr) (ml mc m cp : Nat) (w : World) (hn0 : 0 ≤ n) (pf : Bool) (HF : Hid (∀ W, Below w.heap.size w W → Calls Tryz.prog 138 #[.int .u64 bs] W fun e w' => e = .returned (.bool pf) ∧ Below W.heap.size W w')) :
  Calls Tryz.prog 48 #[.agg #[.int .i8 4, .int .u64 n, .bool ng, .slice mA ml mc, .int .u64 bs, .int .i8 ex, .string tx, .slice A m cp]] w fun e w' => e = .returned (.bool (tailB pf n ng ml 0 ex tx m)) ∧ Below w.heap.size w w' := by
 obtain ⟨r, hr⟩ : ∃ r, tailB pf n ng ml 0 ex tx m = r := ⟨_, rfl⟩
 rw [hr]
 have HR0 := Lib.hid hr
 have HP := Lib.hid (heap_alloc_new w (.cells #[.int .i8 4, .int .u64 n, .bool ng, .slice mA ml mc, .int .u64 bs, .int .i8 ex, .string tx, .slice A m cp] 31))
 have hb0 : Below w.heap.size w (w.alloc (.cells #[.int .i8 4, .int .u64 n, .bool ng, .slice mA ml mc, .int .u64 bs, .int .i8 ex, .string tx, .slice A m cp] 31)) := (Below.refl _ _).alloc (Nat.le_refl _) _
 have HB0 := Lib.hid hb0
 clear hr hb0
 go_enter Tryz.func48, Tryz.ntmps48
 go_upto_region 1 with fail
 show Code.wp _ _ _ _ (w.alloc (.cells #[.int .i8 4, .int .u64 n, .bool ng, .slice mA ml mc, .int .u64 bs, .int .i8 ex, .string tx, .slice A m cp] 31))
 generalize (w.alloc (.cells #[.int .i8 4, .int .u64 n, .bool ng, .slice mA ml mc, .int .u64 bs, .int .i8 ex, .string tx, .slice A m cp] 31)) = W0 at *
 obtain ⟨⟨c0, c1, c2, c3, c4, c5, c6, c7⟩, f0, f1, f2, f3, f4, f5, f6, f7⟩ := blk8 HP.out
 go_upto_region 26 with (go_at_call 138; refine (HF.out _ HB0.out).mono ?_; rintro e w1 ⟨rfl, hb1'⟩; have hb1 := Lib.hid hb1'; clear hb1'; obtain ⟨⟨d0, d1, d2, d3, d4, d5, d6, d7⟩, g0, g1, g2, g3, g4, g5, g6, g7⟩ := blk8 ((hb1.out.block _ (Array.getElem?_eq_some_iff.1 HP.out).1).trans HP.out); clear c0 c1 c2 c3 c4 c5 c6 c7 f0 f1 f2 f3 f4 f5 f6 f7)
 cases pf
 ·skip
  have HV : Hid (r = false) := Lib.hid (by rw [← HR0.out]; simp [tailB, emp0])
  clear HR0
  go_wp2
  go_ret
  exact ⟨by rw [HV.out]; rfl, (below_setCells [.int .u64 0] w.heap.size 4 _ (trans_b HB0.out hb1.out) (Nat.le_refl _))⟩
 ·skip
  by_cases z1 : n = 0
  ·have z1b := beq0 n z1
   cases ng
   ·skip
    by_cases z3 : ml = 0
    ·have z3b := nbeq0 ml z3
     by_cases z5 : ex = 0
     ·have z5b := beq0 ex z5
      by_cases z6 : tx.size = 0
      ·have z6b := tb0 tx z6
       by_cases z7 : m = 0
       ·have z7b := nbeq0 m z7
        have HV : Hid (r = true) := Lib.hid (by rw [← HR0.out]; simp [tailB, emp0, z1, z3, z5, z6, z7])
        clear HR0
        go_wp2
        go_ret
        exact ⟨by rw [HV.out]; rfl, (below_setCells [.int .u64 0] w.heap.size 4 _ (trans_b HB0.out hb1.out) (Nat.le_refl _))⟩
       ·have z7b := nbne0 m z7
        have HV : Hid (r = false) := Lib.hid (by rw [← HR0.out]; simp [tailB, emp0, z1, z3, z5, z6, z7])
        clear HR0
        go_wp2
        go_ret
        exact ⟨by rw [HV.out]; rfl, (below_setCells [.int .u64 0] w.heap.size 4 _ (trans_b HB0.out hb1.out) (Nat.le_refl _))⟩
      ·have z6b := tbn0 tx z6
       have HV : Hid (r = false) := Lib.hid (by rw [← HR0.out]; simp [tailB, emp0, z1, z3, z5, z6])
       clear HR0
       go_wp2
       go_ret
       exact ⟨by rw [HV.out]; rfl, (below_setCells [.int .u64 0] w.heap.size 4 _ (trans_b HB0.out hb1.out) (Nat.le_refl _))⟩
     ·have z5b := bne0 ex z5
      have HV : Hid (r = false) := Lib.hid (by rw [← HR0.out]; simp [tailB, emp0, z1, z3, z5])
      clear HR0
      go_wp2
      go_ret
      exact ⟨by rw [HV.out]; rfl, (below_setCells [.int .u64 0] w.heap.size 4 _ (trans_b HB0.out hb1.out) (Nat.le_refl _))⟩
    ·have z3b := nbne0 ml z3
     have HV : Hid (r = false) := Lib.hid (by rw [← HR0.out]; simp [tailB, emp0, z1, z3])
     clear HR0
     go_wp2
     go_ret
     exact ⟨by rw [HV.out]; rfl, (below_setCells [.int .u64 0] w.heap.size 4 _ (trans_b HB0.out hb1.out) (Nat.le_refl _))⟩
   ·skip
    have HV : Hid (r = false) := Lib.hid (by rw [← HR0.out]; simp [tailB, emp0, z1])
    clear HR0
    go_wp2
    go_ret
    exact ⟨by rw [HV.out]; rfl, (below_setCells [.int .u64 0] w.heap.size 4 _ (trans_b HB0.out hb1.out) (Nat.le_refl _))⟩
  ·have z1b := bne0 n z1
   have HV : Hid (r = false) := Lib.hid (by rw [← HR0.out]; simp [tailB, emp0, z1])
   clear HR0
   go_wp2
   go_ret
   exact ⟨by rw [HV.out]; rfl, (below_setCells [.int .u64 0] w.heap.size 4 _ (trans_b HB0.out hb1.out) (Nat.le_refl _))⟩
set_option maxHeartbeats 4000000 in
theorem aloneW5 (n bs ex : Int) (ng : Bool) (tx : ByteArray) (mA A : Option Addr) (ml mc m cp : Nat) (w : World) (hn0 : 0 ≤ n) (bd : Nat) (HU : Hid (∀ W, Calls Tryz.prog 139 #[.string tx] W fun e w' => e = .returned (.int .i64 (bd : Nat)) ∧ W = w')) :
  Calls Tryz.prog 48 #[.agg #[.int .i8 5, .int .u64 n, .bool ng, .slice mA ml mc, .int .u64 bs, .int .i8 ex, .string tx, .slice A m cp]] w fun e w' => e = .returned (.bool (tailB (decide (bd = tx.size)) n ng ml bs ex ⟨#[]⟩ m)) ∧ Below w.heap.size w w' := by
 obtain ⟨r, hr⟩ : ∃ r, tailB (decide (bd = tx.size)) n ng ml bs ex ⟨#[]⟩ m = r := ⟨_, rfl⟩
 rw [hr]
 have HR0 := Lib.hid hr
 have HP := Lib.hid (heap_alloc_new w (.cells #[.int .i8 5, .int .u64 n, .bool ng, .slice mA ml mc, .int .u64 bs, .int .i8 ex, .string tx, .slice A m cp] 31))
 have hb0 : Below w.heap.size w (w.alloc (.cells #[.int .i8 5, .int .u64 n, .bool ng, .slice mA ml mc, .int .u64 bs, .int .i8 ex, .string tx, .slice A m cp] 31)) := (Below.refl _ _).alloc (Nat.le_refl _) _
 have HB0 := Lib.hid hb0
 clear hr hb0
 go_enter Tryz.func48, Tryz.ntmps48
 go_upto_region 1 with fail
 show Code.wp _ _ _ _ (w.alloc (.cells #[.int .i8 5, .int .u64 n, .bool ng, .slice mA ml mc, .int .u64 bs, .int .i8 ex, .string tx, .slice A m cp] 31))
 generalize (w.alloc (.cells #[.int .i8 5, .int .u64 n, .bool ng, .slice mA ml mc, .int .u64 bs, .int .i8 ex, .string tx, .slice A m cp] 31)) = W0 at *
 obtain ⟨⟨c0, c1, c2, c3, c4, c5, c6, c7⟩, f0, f1, f2, f3, f4, f5, f6, f7⟩ := blk8 HP.out
 go_upto_region 12 with fail
 go_region_law (go_simp; go_at_call 139; refine (HU.out _).mono ?_; rintro e w1 ⟨rfl, rfl⟩)
 all_goals (
  by_cases z0 : bd = tx.size
  ·have z0b : ((bd : Int) == (tx.size : Int)) = true := by simp only [beq_iff_eq]; omega
   by_cases z1 : n = 0
   ·have z1b := beq0 n z1
    cases ng
    ·skip
     by_cases z3 : ml = 0
     ·have z3b := nbeq0 ml z3
      by_cases z4 : bs = 0
      ·have z4b := beq0 bs z4
       by_cases z5 : ex = 0
       ·have z5b := beq0 ex z5
        by_cases z7 : m = 0
        ·have z7b := nbeq0 m z7
         have HV : Hid (r = true) := Lib.hid (by rw [← HR0.out]; simp [tailB, emp0, z0, z1, z3, z4, z5, z7])
         clear HR0
         go_wp2
         go_ret
         exact ⟨by rw [HV.out]; rfl, (by first | exact (below_setCells [.string ⟨#[]⟩] w.heap.size 6 _ HB0.out (Nat.le_refl _)) | exact (below_setCells [.string ⟨#[]⟩] w.heap.size 6 _ (trans_b HB0.out (Below.refl _ _).drew) (Nat.le_refl _)) | exact trans_b (below_setCells [.string ⟨#[]⟩] w.heap.size 6 _ HB0.out (Nat.le_refl _)) (Below.refl _ _).drew)⟩
        ·have z7b := nbne0 m z7
         have HV : Hid (r = false) := Lib.hid (by rw [← HR0.out]; simp [tailB, emp0, z0, z1, z3, z4, z5, z7])
         clear HR0
         go_wp2
         go_ret
         exact ⟨by rw [HV.out]; rfl, (by first | exact (below_setCells [.string ⟨#[]⟩] w.heap.size 6 _ HB0.out (Nat.le_refl _)) | exact (below_setCells [.string ⟨#[]⟩] w.heap.size 6 _ (trans_b HB0.out (Below.refl _ _).drew) (Nat.le_refl _)) | exact trans_b (below_setCells [.string ⟨#[]⟩] w.heap.size 6 _ HB0.out (Nat.le_refl _)) (Below.refl _ _).drew)⟩
       ·have z5b := bne0 ex z5
        have HV : Hid (r = false) := Lib.hid (by rw [← HR0.out]; simp [tailB, emp0, z0, z1, z3, z4, z5])
        clear HR0
        go_wp2
        go_ret
        exact ⟨by rw [HV.out]; rfl, (by first | exact (below_setCells [.string ⟨#[]⟩] w.heap.size 6 _ HB0.out (Nat.le_refl _)) | exact (below_setCells [.string ⟨#[]⟩] w.heap.size 6 _ (trans_b HB0.out (Below.refl _ _).drew) (Nat.le_refl _)) | exact trans_b (below_setCells [.string ⟨#[]⟩] w.heap.size 6 _ HB0.out (Nat.le_refl _)) (Below.refl _ _).drew)⟩
      ·have z4b := bne0 bs z4
       have HV : Hid (r = false) := Lib.hid (by rw [← HR0.out]; simp [tailB, emp0, z0, z1, z3, z4])
       clear HR0
       go_wp2
       go_ret
       exact ⟨by rw [HV.out]; rfl, (by first | exact (below_setCells [.string ⟨#[]⟩] w.heap.size 6 _ HB0.out (Nat.le_refl _)) | exact (below_setCells [.string ⟨#[]⟩] w.heap.size 6 _ (trans_b HB0.out (Below.refl _ _).drew) (Nat.le_refl _)) | exact trans_b (below_setCells [.string ⟨#[]⟩] w.heap.size 6 _ HB0.out (Nat.le_refl _)) (Below.refl _ _).drew)⟩
     ·have z3b := nbne0 ml z3
      have HV : Hid (r = false) := Lib.hid (by rw [← HR0.out]; simp [tailB, emp0, z0, z1, z3])
      clear HR0
      go_wp2
      go_ret
      exact ⟨by rw [HV.out]; rfl, (by first | exact (below_setCells [.string ⟨#[]⟩] w.heap.size 6 _ HB0.out (Nat.le_refl _)) | exact (below_setCells [.string ⟨#[]⟩] w.heap.size 6 _ (trans_b HB0.out (Below.refl _ _).drew) (Nat.le_refl _)) | exact trans_b (below_setCells [.string ⟨#[]⟩] w.heap.size 6 _ HB0.out (Nat.le_refl _)) (Below.refl _ _).drew)⟩
    ·skip
     have HV : Hid (r = false) := Lib.hid (by rw [← HR0.out]; simp [tailB, emp0, z0, z1])
     clear HR0
     go_wp2
     go_ret
     exact ⟨by rw [HV.out]; rfl, (by first | exact (below_setCells [.string ⟨#[]⟩] w.heap.size 6 _ HB0.out (Nat.le_refl _)) | exact (below_setCells [.string ⟨#[]⟩] w.heap.size 6 _ (trans_b HB0.out (Below.refl _ _).drew) (Nat.le_refl _)) | exact trans_b (below_setCells [.string ⟨#[]⟩] w.heap.size 6 _ HB0.out (Nat.le_refl _)) (Below.refl _ _).drew)⟩
   ·have z1b := bne0 n z1
    have HV : Hid (r = false) := Lib.hid (by rw [← HR0.out]; simp [tailB, emp0, z0, z1])
    clear HR0
    go_wp2
    go_ret
    exact ⟨by rw [HV.out]; rfl, (by first | exact (below_setCells [.string ⟨#[]⟩] w.heap.size 6 _ HB0.out (Nat.le_refl _)) | exact (below_setCells [.string ⟨#[]⟩] w.heap.size 6 _ (trans_b HB0.out (Below.refl _ _).drew) (Nat.le_refl _)) | exact trans_b (below_setCells [.string ⟨#[]⟩] w.heap.size 6 _ HB0.out (Nat.le_refl _)) (Below.refl _ _).drew)⟩
  ·have z0b : ((bd : Int) == (tx.size : Int)) = false := by simp only [beq_eq_false_iff_ne, ne_eq]; omega
   have HV : Hid (r = false) := Lib.hid (by rw [← HR0.out]; simp [tailB, emp0, z0])
   clear HR0
   go_wp2
   go_ret
   exact ⟨by rw [HV.out]; rfl, (by first | exact (below_setCells [.string ⟨#[]⟩] w.heap.size 6 _ HB0.out (Nat.le_refl _)) | exact (below_setCells [.string ⟨#[]⟩] w.heap.size 6 _ (trans_b HB0.out (Below.refl _ _).drew) (Nat.le_refl _)) | exact trans_b (below_setCells [.string ⟨#[]⟩] w.heap.size 6 _ HB0.out (Nat.le_refl _)) (Below.refl _ _).drew)⟩)
end Go.Proofs.YtcpkjmpbpmeclaaGreatDoor
namespace Go.Proofs.YtcpkjmpbpmeclaaGreatDoor
open Go.RowKit
set_option maxRecDepth 100000
set_option linter.unusedVariables false
set_option linter.unusedSimpArgs false
set_option linter.unnecessarySimpa false

set_option maxHeartbeats 4000000 in
theorem aloneW6 (n bs ex : Int) (ng : Bool) (tx : ByteArray) (mA A : Option Addr) (ml mc m cp : Nat) (w : World) (hn0 : 0 ≤ n)  :
  Calls Tryz.prog 48 #[.agg #[.int .i8 6, .int .u64 n, .bool ng, .slice mA ml mc, .int .u64 bs, .int .i8 ex, .string tx, .slice A m cp]] w fun e w' => e = .returned (.bool (tailB true n ng ml bs ex ⟨#[]⟩ m)) ∧ Below w.heap.size w w' := by
 obtain ⟨r, hr⟩ : ∃ r, tailB true n ng ml bs ex ⟨#[]⟩ m = r := ⟨_, rfl⟩
 rw [hr]
 have HR0 := Lib.hid hr
 have HP := Lib.hid (heap_alloc_new w (.cells #[.int .i8 6, .int .u64 n, .bool ng, .slice mA ml mc, .int .u64 bs, .int .i8 ex, .string tx, .slice A m cp] 31))
 have hb0 : Below w.heap.size w (w.alloc (.cells #[.int .i8 6, .int .u64 n, .bool ng, .slice mA ml mc, .int .u64 bs, .int .i8 ex, .string tx, .slice A m cp] 31)) := (Below.refl _ _).alloc (Nat.le_refl _) _
 have HB0 := Lib.hid hb0
 clear hr hb0
 go_enter Tryz.func48, Tryz.ntmps48
 go_upto_region 1 with fail
 show Code.wp _ _ _ _ (w.alloc (.cells #[.int .i8 6, .int .u64 n, .bool ng, .slice mA ml mc, .int .u64 bs, .int .i8 ex, .string tx, .slice A m cp] 31))
 generalize (w.alloc (.cells #[.int .i8 6, .int .u64 n, .bool ng, .slice mA ml mc, .int .u64 bs, .int .i8 ex, .string tx, .slice A m cp] 31)) = W0 at *
 obtain ⟨⟨c0, c1, c2, c3, c4, c5, c6, c7⟩, f0, f1, f2, f3, f4, f5, f6, f7⟩ := blk8 HP.out
 go_upto_region 26 with fail
 by_cases z1 : n = 0
 ·have z1b := beq0 n z1
  cases ng
  ·skip
   by_cases z3 : ml = 0
   ·have z3b := nbeq0 ml z3
    by_cases z4 : bs = 0
    ·have z4b := beq0 bs z4
     by_cases z5 : ex = 0
     ·have z5b := beq0 ex z5
      by_cases z7 : m = 0
      ·have z7b := nbeq0 m z7
       have HV : Hid (r = true) := Lib.hid (by rw [← HR0.out]; simp [tailB, emp0, z1, z3, z4, z5, z7])
       clear HR0
       go_wp2
       go_ret
       exact ⟨by rw [HV.out]; rfl, (below_setCells [.string ⟨#[]⟩] w.heap.size 6 _ HB0.out (Nat.le_refl _))⟩
      ·have z7b := nbne0 m z7
       have HV : Hid (r = false) := Lib.hid (by rw [← HR0.out]; simp [tailB, emp0, z1, z3, z4, z5, z7])
       clear HR0
       go_wp2
       go_ret
       exact ⟨by rw [HV.out]; rfl, (below_setCells [.string ⟨#[]⟩] w.heap.size 6 _ HB0.out (Nat.le_refl _))⟩
     ·have z5b := bne0 ex z5
      have HV : Hid (r = false) := Lib.hid (by rw [← HR0.out]; simp [tailB, emp0, z1, z3, z4, z5])
      clear HR0
      go_wp2
      go_ret
      exact ⟨by rw [HV.out]; rfl, (below_setCells [.string ⟨#[]⟩] w.heap.size 6 _ HB0.out (Nat.le_refl _))⟩
    ·have z4b := bne0 bs z4
     have HV : Hid (r = false) := Lib.hid (by rw [← HR0.out]; simp [tailB, emp0, z1, z3, z4])
     clear HR0
     go_wp2
     go_ret
     exact ⟨by rw [HV.out]; rfl, (below_setCells [.string ⟨#[]⟩] w.heap.size 6 _ HB0.out (Nat.le_refl _))⟩
   ·have z3b := nbne0 ml z3
    have HV : Hid (r = false) := Lib.hid (by rw [← HR0.out]; simp [tailB, emp0, z1, z3])
    clear HR0
    go_wp2
    go_ret
    exact ⟨by rw [HV.out]; rfl, (below_setCells [.string ⟨#[]⟩] w.heap.size 6 _ HB0.out (Nat.le_refl _))⟩
  ·skip
   have HV : Hid (r = false) := Lib.hid (by rw [← HR0.out]; simp [tailB, emp0, z1])
   clear HR0
   go_wp2
   go_ret
   exact ⟨by rw [HV.out]; rfl, (below_setCells [.string ⟨#[]⟩] w.heap.size 6 _ HB0.out (Nat.le_refl _))⟩
 ·have z1b := bne0 n z1
  have HV : Hid (r = false) := Lib.hid (by rw [← HR0.out]; simp [tailB, emp0, z1])
  clear HR0
  go_wp2
  go_ret
  exact ⟨by rw [HV.out]; rfl, (below_setCells [.string ⟨#[]⟩] w.heap.size 6 _ HB0.out (Nat.le_refl _))⟩
set_option maxHeartbeats 4000000 in
theorem aloneW7 (n bs ex : Int) (ng : Bool) (tx : ByteArray) (mA A : Option Addr) (ml mc m cp : Nat) (w : World) (hn0 : 0 ≤ n)  :
  Calls Tryz.prog 48 #[.agg #[.int .i8 7, .int .u64 n, .bool ng, .slice mA ml mc, .int .u64 bs, .int .i8 ex, .string tx, .slice A m cp]] w fun e w' => e = .returned (.bool (tailB true n ng ml bs ex tx 0)) ∧ Below w.heap.size w w' := by
 obtain ⟨r, hr⟩ : ∃ r, tailB true n ng ml bs ex tx 0 = r := ⟨_, rfl⟩
 rw [hr]
 have HR0 := Lib.hid hr
 have HP := Lib.hid (heap_alloc_new w (.cells #[.int .i8 7, .int .u64 n, .bool ng, .slice mA ml mc, .int .u64 bs, .int .i8 ex, .string tx, .slice A m cp] 31))
 have hb0 : Below w.heap.size w (w.alloc (.cells #[.int .i8 7, .int .u64 n, .bool ng, .slice mA ml mc, .int .u64 bs, .int .i8 ex, .string tx, .slice A m cp] 31)) := (Below.refl _ _).alloc (Nat.le_refl _) _
 have HB0 := Lib.hid hb0
 clear hr hb0
 go_enter Tryz.func48, Tryz.ntmps48
 go_upto_region 1 with fail
 show Code.wp _ _ _ _ (w.alloc (.cells #[.int .i8 7, .int .u64 n, .bool ng, .slice mA ml mc, .int .u64 bs, .int .i8 ex, .string tx, .slice A m cp] 31))
 generalize (w.alloc (.cells #[.int .i8 7, .int .u64 n, .bool ng, .slice mA ml mc, .int .u64 bs, .int .i8 ex, .string tx, .slice A m cp] 31)) = W0 at *
 obtain ⟨⟨c0, c1, c2, c3, c4, c5, c6, c7⟩, f0, f1, f2, f3, f4, f5, f6, f7⟩ := blk8 HP.out
 go_upto_region 26 with fail
 by_cases z1 : n = 0
 ·have z1b := beq0 n z1
  cases ng
  ·skip
   by_cases z3 : ml = 0
   ·have z3b := nbeq0 ml z3
    by_cases z4 : bs = 0
    ·have z4b := beq0 bs z4
     by_cases z5 : ex = 0
     ·have z5b := beq0 ex z5
      by_cases z6 : tx.size = 0
      ·have z6b := tb0 tx z6
       have HV : Hid (r = true) := Lib.hid (by rw [← HR0.out]; simp [tailB, emp0, z1, z3, z4, z5, z6])
       clear HR0
       go_wp2
       go_ret
       exact ⟨by rw [HV.out]; rfl, (below_setCells [.slice none 0 0] w.heap.size 7 _ HB0.out (Nat.le_refl _))⟩
      ·have z6b := tbn0 tx z6
       have HV : Hid (r = false) := Lib.hid (by rw [← HR0.out]; simp [tailB, emp0, z1, z3, z4, z5, z6])
       clear HR0
       go_wp2
       go_ret
       exact ⟨by rw [HV.out]; rfl, (below_setCells [.slice none 0 0] w.heap.size 7 _ HB0.out (Nat.le_refl _))⟩
     ·have z5b := bne0 ex z5
      have HV : Hid (r = false) := Lib.hid (by rw [← HR0.out]; simp [tailB, emp0, z1, z3, z4, z5])
      clear HR0
      go_wp2
      go_ret
      exact ⟨by rw [HV.out]; rfl, (below_setCells [.slice none 0 0] w.heap.size 7 _ HB0.out (Nat.le_refl _))⟩
    ·have z4b := bne0 bs z4
     have HV : Hid (r = false) := Lib.hid (by rw [← HR0.out]; simp [tailB, emp0, z1, z3, z4])
     clear HR0
     go_wp2
     go_ret
     exact ⟨by rw [HV.out]; rfl, (below_setCells [.slice none 0 0] w.heap.size 7 _ HB0.out (Nat.le_refl _))⟩
   ·have z3b := nbne0 ml z3
    have HV : Hid (r = false) := Lib.hid (by rw [← HR0.out]; simp [tailB, emp0, z1, z3])
    clear HR0
    go_wp2
    go_ret
    exact ⟨by rw [HV.out]; rfl, (below_setCells [.slice none 0 0] w.heap.size 7 _ HB0.out (Nat.le_refl _))⟩
  ·skip
   have HV : Hid (r = false) := Lib.hid (by rw [← HR0.out]; simp [tailB, emp0, z1])
   clear HR0
   go_wp2
   go_ret
   exact ⟨by rw [HV.out]; rfl, (below_setCells [.slice none 0 0] w.heap.size 7 _ HB0.out (Nat.le_refl _))⟩
 ·have z1b := bne0 n z1
  have HV : Hid (r = false) := Lib.hid (by rw [← HR0.out]; simp [tailB, emp0, z1])
  clear HR0
  go_wp2
  go_ret
  exact ⟨by rw [HV.out]; rfl, (below_setCells [.slice none 0 0] w.heap.size 7 _ HB0.out (Nat.le_refl _))⟩
set_option maxHeartbeats 4000000 in
theorem aloneW8 (n bs ex : Int) (ng : Bool) (tx : ByteArray) (mA A : Option Addr) (ml mc m cp : Nat) (w : World) (hn0 : 0 ≤ n) (pr : Bool) (HR : Hid (∀ W, Below w.heap.size w W → Calls Tryz.prog 140 #[.slice A m cp] W fun e w' => e = .returned (.bool pr) ∧ Below W.heap.size W w')) :
  Calls Tryz.prog 48 #[.agg #[.int .i8 8, .int .u64 n, .bool ng, .slice mA ml mc, .int .u64 bs, .int .i8 ex, .string tx, .slice A m cp]] w fun e w' => e = .returned (.bool (tailB pr n ng ml bs ex tx 0)) ∧ Below w.heap.size w w' := by
 obtain ⟨r, hr⟩ : ∃ r, tailB pr n ng ml bs ex tx 0 = r := ⟨_, rfl⟩
 rw [hr]
 have HR0 := Lib.hid hr
 have HP := Lib.hid (heap_alloc_new w (.cells #[.int .i8 8, .int .u64 n, .bool ng, .slice mA ml mc, .int .u64 bs, .int .i8 ex, .string tx, .slice A m cp] 31))
 have hb0 : Below w.heap.size w (w.alloc (.cells #[.int .i8 8, .int .u64 n, .bool ng, .slice mA ml mc, .int .u64 bs, .int .i8 ex, .string tx, .slice A m cp] 31)) := (Below.refl _ _).alloc (Nat.le_refl _) _
 have HB0 := Lib.hid hb0
 clear hr hb0
 go_enter Tryz.func48, Tryz.ntmps48
 go_upto_region 1 with fail
 show Code.wp _ _ _ _ (w.alloc (.cells #[.int .i8 8, .int .u64 n, .bool ng, .slice mA ml mc, .int .u64 bs, .int .i8 ex, .string tx, .slice A m cp] 31))
 generalize (w.alloc (.cells #[.int .i8 8, .int .u64 n, .bool ng, .slice mA ml mc, .int .u64 bs, .int .i8 ex, .string tx, .slice A m cp] 31)) = W0 at *
 obtain ⟨⟨c0, c1, c2, c3, c4, c5, c6, c7⟩, f0, f1, f2, f3, f4, f5, f6, f7⟩ := blk8 HP.out
 go_upto_region 26 with (go_at_call 140; refine (HR.out _ HB0.out).mono ?_; rintro e w1 ⟨rfl, hb1'⟩; have hb1 := Lib.hid hb1'; clear hb1'; obtain ⟨⟨d0, d1, d2, d3, d4, d5, d6, d7⟩, g0, g1, g2, g3, g4, g5, g6, g7⟩ := blk8 ((hb1.out.block _ (Array.getElem?_eq_some_iff.1 HP.out).1).trans HP.out); clear c0 c1 c2 c3 c4 c5 c6 c7 f0 f1 f2 f3 f4 f5 f6 f7)
 cases pr
 ·skip
  have HV : Hid (r = false) := Lib.hid (by rw [← HR0.out]; simp [tailB, emp0])
  clear HR0
  go_wp2
  go_ret
  exact ⟨by rw [HV.out]; rfl, (below_setCells [.slice none 0 0] w.heap.size 7 _ (trans_b HB0.out hb1.out) (Nat.le_refl _))⟩
 ·skip
  by_cases z1 : n = 0
  ·have z1b := beq0 n z1
   cases ng
   ·skip
    by_cases z3 : ml = 0
    ·have z3b := nbeq0 ml z3
     by_cases z4 : bs = 0
     ·have z4b := beq0 bs z4
      by_cases z5 : ex = 0
      ·have z5b := beq0 ex z5
       by_cases z6 : tx.size = 0
       ·have z6b := tb0 tx z6
        have HV : Hid (r = true) := Lib.hid (by rw [← HR0.out]; simp [tailB, emp0, z1, z3, z4, z5, z6])
        clear HR0
        go_wp2
        go_ret
        exact ⟨by rw [HV.out]; rfl, (below_setCells [.slice none 0 0] w.heap.size 7 _ (trans_b HB0.out hb1.out) (Nat.le_refl _))⟩
       ·have z6b := tbn0 tx z6
        have HV : Hid (r = false) := Lib.hid (by rw [← HR0.out]; simp [tailB, emp0, z1, z3, z4, z5, z6])
        clear HR0
        go_wp2
        go_ret
        exact ⟨by rw [HV.out]; rfl, (below_setCells [.slice none 0 0] w.heap.size 7 _ (trans_b HB0.out hb1.out) (Nat.le_refl _))⟩
      ·have z5b := bne0 ex z5
       have HV : Hid (r = false) := Lib.hid (by rw [← HR0.out]; simp [tailB, emp0, z1, z3, z4, z5])
       clear HR0
       go_wp2
       go_ret
       exact ⟨by rw [HV.out]; rfl, (below_setCells [.slice none 0 0] w.heap.size 7 _ (trans_b HB0.out hb1.out) (Nat.le_refl _))⟩
     ·have z4b := bne0 bs z4
      have HV : Hid (r = false) := Lib.hid (by rw [← HR0.out]; simp [tailB, emp0, z1, z3, z4])
      clear HR0
      go_wp2
      go_ret
      exact ⟨by rw [HV.out]; rfl, (below_setCells [.slice none 0 0] w.heap.size 7 _ (trans_b HB0.out hb1.out) (Nat.le_refl _))⟩
    ·have z3b := nbne0 ml z3
     have HV : Hid (r = false) := Lib.hid (by rw [← HR0.out]; simp [tailB, emp0, z1, z3])
     clear HR0
     go_wp2
     go_ret
     exact ⟨by rw [HV.out]; rfl, (below_setCells [.slice none 0 0] w.heap.size 7 _ (trans_b HB0.out hb1.out) (Nat.le_refl _))⟩
   ·skip
    have HV : Hid (r = false) := Lib.hid (by rw [← HR0.out]; simp [tailB, emp0, z1])
    clear HR0
    go_wp2
    go_ret
    exact ⟨by rw [HV.out]; rfl, (below_setCells [.slice none 0 0] w.heap.size 7 _ (trans_b HB0.out hb1.out) (Nat.le_refl _))⟩
  ·have z1b := bne0 n z1
   have HV : Hid (r = false) := Lib.hid (by rw [← HR0.out]; simp [tailB, emp0, z1])
   clear HR0
   go_wp2
   go_ret
   exact ⟨by rw [HV.out]; rfl, (below_setCells [.slice none 0 0] w.heap.size 7 _ (trans_b HB0.out hb1.out) (Nat.le_refl _))⟩
set_option maxHeartbeats 4000000 in
theorem aloneW9 (n bs ex : Int) (ng : Bool) (tx : ByteArray) (mA A : Option Addr) (ml mc m cp : Nat) (w : World) (hn0 : 0 ≤ n)  :
  Calls Tryz.prog 48 #[.agg #[.int .i8 9, .int .u64 n, .bool ng, .slice mA ml mc, .int .u64 bs, .int .i8 ex, .string tx, .slice A m cp]] w fun e w' => e = .returned (.bool (tailB (decide (n ≠ 2) && (decide (n ≠ 3) && decide (m = 1))) 0 ng ml bs ex tx 0)) ∧ Below w.heap.size w w' := by
 obtain ⟨r, hr⟩ : ∃ r, tailB (decide (n ≠ 2) && (decide (n ≠ 3) && decide (m = 1))) 0 ng ml bs ex tx 0 = r := ⟨_, rfl⟩
 rw [hr]
 have HR0 := Lib.hid hr
 have HP := Lib.hid (heap_alloc_new w (.cells #[.int .i8 9, .int .u64 n, .bool ng, .slice mA ml mc, .int .u64 bs, .int .i8 ex, .string tx, .slice A m cp] 31))
 have hb0 : Below w.heap.size w (w.alloc (.cells #[.int .i8 9, .int .u64 n, .bool ng, .slice mA ml mc, .int .u64 bs, .int .i8 ex, .string tx, .slice A m cp] 31)) := (Below.refl _ _).alloc (Nat.le_refl _) _
 have HB0 := Lib.hid hb0
 clear hr hb0
 go_enter Tryz.func48, Tryz.ntmps48
 go_upto_region 1 with fail
 show Code.wp _ _ _ _ (w.alloc (.cells #[.int .i8 9, .int .u64 n, .bool ng, .slice mA ml mc, .int .u64 bs, .int .i8 ex, .string tx, .slice A m cp] 31))
 generalize (w.alloc (.cells #[.int .i8 9, .int .u64 n, .bool ng, .slice mA ml mc, .int .u64 bs, .int .i8 ex, .string tx, .slice A m cp] 31)) = W0 at *
 obtain ⟨⟨c0, c1, c2, c3, c4, c5, c6, c7⟩, f0, f1, f2, f3, f4, f5, f6, f7⟩ := blk8 HP.out
 have e2 : ¬ n = 2 → (n != 2) = true := fun h => by simpa using h
 have e3 : ¬ n = 3 → (n != 3) = true := fun h => by simpa using h
 by_cases z0 : n = 2
 ·subst z0
  clear e2 e3
  have HV : Hid (r = false) := Lib.hid (by rw [← HR0.out]; simp [tailB, emp0])
  clear HR0
  go_wp2
  go_ret
  exact ⟨by rw [HV.out]; rfl, (below_setCells [.slice none 0 0] w.heap.size 7 _ (below_setCells [.int .u64 0] w.heap.size 1 _ HB0.out (Nat.le_refl _)) (Nat.le_refl _))⟩
 ·have e2 := e2 z0
  by_cases z8 : n = 3
  ·subst z8
   clear e2 e3
   have HV : Hid (r = false) := Lib.hid (by rw [← HR0.out]; simp [tailB, emp0])
   clear HR0
   go_wp2
   go_ret
   exact ⟨by rw [HV.out]; rfl, (below_setCells [.slice none 0 0] w.heap.size 7 _ (below_setCells [.int .u64 0] w.heap.size 1 _ HB0.out (Nat.le_refl _)) (Nat.le_refl _))⟩
  ·have e3 := e3 z8
   by_cases z9 : m = 1
   ·have z9b : ((m : Int) == 1) = true := by simp only [beq_iff_eq]; omega
    go_upto_region 26 with fail
    cases ng
    ·skip
     by_cases z3 : ml = 0
     ·have z3b := nbeq0 ml z3
      by_cases z4 : bs = 0
      ·have z4b := beq0 bs z4
       by_cases z5 : ex = 0
       ·have z5b := beq0 ex z5
        by_cases z6 : tx.size = 0
        ·have z6b := tb0 tx z6
         have HV : Hid (r = true) := Lib.hid (by rw [← HR0.out]; simp [tailB, emp0, z0, z8, z9, z3, z4, z5, z6])
         clear HR0
         go_wp2
         go_ret
         exact ⟨by rw [HV.out]; rfl, (below_setCells [.slice none 0 0] w.heap.size 7 _ (below_setCells [.int .u64 0] w.heap.size 1 _ HB0.out (Nat.le_refl _)) (Nat.le_refl _))⟩
        ·have z6b := tbn0 tx z6
         have HV : Hid (r = false) := Lib.hid (by rw [← HR0.out]; simp [tailB, emp0, z0, z8, z9, z3, z4, z5, z6])
         clear HR0
         go_wp2
         go_ret
         exact ⟨by rw [HV.out]; rfl, (below_setCells [.slice none 0 0] w.heap.size 7 _ (below_setCells [.int .u64 0] w.heap.size 1 _ HB0.out (Nat.le_refl _)) (Nat.le_refl _))⟩
       ·have z5b := bne0 ex z5
        have HV : Hid (r = false) := Lib.hid (by rw [← HR0.out]; simp [tailB, emp0, z0, z8, z9, z3, z4, z5])
        clear HR0
        go_wp2
        go_ret
        exact ⟨by rw [HV.out]; rfl, (below_setCells [.slice none 0 0] w.heap.size 7 _ (below_setCells [.int .u64 0] w.heap.size 1 _ HB0.out (Nat.le_refl _)) (Nat.le_refl _))⟩
      ·have z4b := bne0 bs z4
       have HV : Hid (r = false) := Lib.hid (by rw [← HR0.out]; simp [tailB, emp0, z0, z8, z9, z3, z4])
       clear HR0
       go_wp2
       go_ret
       exact ⟨by rw [HV.out]; rfl, (below_setCells [.slice none 0 0] w.heap.size 7 _ (below_setCells [.int .u64 0] w.heap.size 1 _ HB0.out (Nat.le_refl _)) (Nat.le_refl _))⟩
     ·have z3b := nbne0 ml z3
      have HV : Hid (r = false) := Lib.hid (by rw [← HR0.out]; simp [tailB, emp0, z0, z8, z9, z3])
      clear HR0
      go_wp2
      go_ret
      exact ⟨by rw [HV.out]; rfl, (below_setCells [.slice none 0 0] w.heap.size 7 _ (below_setCells [.int .u64 0] w.heap.size 1 _ HB0.out (Nat.le_refl _)) (Nat.le_refl _))⟩
    ·skip
     have HV : Hid (r = false) := Lib.hid (by rw [← HR0.out]; simp [tailB, emp0, z0, z8, z9])
     clear HR0
     go_wp2
     go_ret
     exact ⟨by rw [HV.out]; rfl, (below_setCells [.slice none 0 0] w.heap.size 7 _ (below_setCells [.int .u64 0] w.heap.size 1 _ HB0.out (Nat.le_refl _)) (Nat.le_refl _))⟩
   ·have z9b : ((m : Int) == 1) = false := by simp only [beq_eq_false_iff_ne, ne_eq]; omega
    have HV : Hid (r = false) := Lib.hid (by rw [← HR0.out]; simp [tailB, emp0, z0, z8, z9])
    clear HR0
    go_wp2
    go_ret
    exact ⟨by rw [HV.out]; rfl, (below_setCells [.slice none 0 0] w.heap.size 7 _ (below_setCells [.int .u64 0] w.heap.size 1 _ HB0.out (Nat.le_refl _)) (Nat.le_refl _))⟩
set_option maxHeartbeats 4000000 in
theorem aloneW10 (n bs ex : Int) (ng : Bool) (tx : ByteArray) (mA A : Option Addr) (ml mc m cp : Nat) (w : World) (hn0 : 0 ≤ n) (ps : Bool) (HS : Hid (∀ W, Calls Tryz.prog 141 #[.int .u64 n] W fun e w' => e = .returned (.bool ps) ∧ w' = W)) :
  Calls Tryz.prog 48 #[.agg #[.int .i8 10, .int .u64 n, .bool ng, .slice mA ml mc, .int .u64 bs, .int .i8 ex, .string tx, .slice A m cp]] w fun e w' => e = .returned (.bool (tailB ps 0 ng ml bs ex tx m)) ∧ Below w.heap.size w w' := by
 obtain ⟨r, hr⟩ : ∃ r, tailB ps 0 ng ml bs ex tx m = r := ⟨_, rfl⟩
 rw [hr]
 have HR0 := Lib.hid hr
 have HP := Lib.hid (heap_alloc_new w (.cells #[.int .i8 10, .int .u64 n, .bool ng, .slice mA ml mc, .int .u64 bs, .int .i8 ex, .string tx, .slice A m cp] 31))
 have hb0 : Below w.heap.size w (w.alloc (.cells #[.int .i8 10, .int .u64 n, .bool ng, .slice mA ml mc, .int .u64 bs, .int .i8 ex, .string tx, .slice A m cp] 31)) := (Below.refl _ _).alloc (Nat.le_refl _) _
 have HB0 := Lib.hid hb0
 clear hr hb0
 go_enter Tryz.func48, Tryz.ntmps48
 go_upto_region 1 with fail
 show Code.wp _ _ _ _ (w.alloc (.cells #[.int .i8 10, .int .u64 n, .bool ng, .slice mA ml mc, .int .u64 bs, .int .i8 ex, .string tx, .slice A m cp] 31))
 generalize (w.alloc (.cells #[.int .i8 10, .int .u64 n, .bool ng, .slice mA ml mc, .int .u64 bs, .int .i8 ex, .string tx, .slice A m cp] 31)) = W0 at *
 obtain ⟨⟨c0, c1, c2, c3, c4, c5, c6, c7⟩, f0, f1, f2, f3, f4, f5, f6, f7⟩ := blk8 HP.out
 go_upto_region 26 with (go_at_call 141; refine (HS.out _).mono ?_; rintro e w1 ⟨rfl, rfl⟩)
 cases ps
 ·skip
  have HV : Hid (r = false) := Lib.hid (by rw [← HR0.out]; simp [tailB, emp0])
  clear HR0
  go_wp2
  go_ret
  exact ⟨by rw [HV.out]; rfl, (below_setCells [.int .u64 0] w.heap.size 1 _ HB0.out (Nat.le_refl _))⟩
 ·skip
  cases ng
  ·skip
   by_cases z3 : ml = 0
   ·have z3b := nbeq0 ml z3
    by_cases z4 : bs = 0
    ·have z4b := beq0 bs z4
     by_cases z5 : ex = 0
     ·have z5b := beq0 ex z5
      by_cases z6 : tx.size = 0
      ·have z6b := tb0 tx z6
       by_cases z7 : m = 0
       ·have z7b := nbeq0 m z7
        have HV : Hid (r = true) := Lib.hid (by rw [← HR0.out]; simp [tailB, emp0, z3, z4, z5, z6, z7])
        clear HR0
        go_wp2
        go_ret
        exact ⟨by rw [HV.out]; rfl, (below_setCells [.int .u64 0] w.heap.size 1 _ HB0.out (Nat.le_refl _))⟩
       ·have z7b := nbne0 m z7
        have HV : Hid (r = false) := Lib.hid (by rw [← HR0.out]; simp [tailB, emp0, z3, z4, z5, z6, z7])
        clear HR0
        go_wp2
        go_ret
        exact ⟨by rw [HV.out]; rfl, (below_setCells [.int .u64 0] w.heap.size 1 _ HB0.out (Nat.le_refl _))⟩
      ·have z6b := tbn0 tx z6
       have HV : Hid (r = false) := Lib.hid (by rw [← HR0.out]; simp [tailB, emp0, z3, z4, z5, z6])
       clear HR0
       go_wp2
       go_ret
       exact ⟨by rw [HV.out]; rfl, (below_setCells [.int .u64 0] w.heap.size 1 _ HB0.out (Nat.le_refl _))⟩
     ·have z5b := bne0 ex z5
      have HV : Hid (r = false) := Lib.hid (by rw [← HR0.out]; simp [tailB, emp0, z3, z4, z5])
      clear HR0
      go_wp2
      go_ret
      exact ⟨by rw [HV.out]; rfl, (below_setCells [.int .u64 0] w.heap.size 1 _ HB0.out (Nat.le_refl _))⟩
    ·have z4b := bne0 bs z4
     have HV : Hid (r = false) := Lib.hid (by rw [← HR0.out]; simp [tailB, emp0, z3, z4])
     clear HR0
     go_wp2
     go_ret
     exact ⟨by rw [HV.out]; rfl, (below_setCells [.int .u64 0] w.heap.size 1 _ HB0.out (Nat.le_refl _))⟩
   ·have z3b := nbne0 ml z3
    have HV : Hid (r = false) := Lib.hid (by rw [← HR0.out]; simp [tailB, emp0, z3])
    clear HR0
    go_wp2
    go_ret
    exact ⟨by rw [HV.out]; rfl, (below_setCells [.int .u64 0] w.heap.size 1 _ HB0.out (Nat.le_refl _))⟩
  ·skip
   have HV : Hid (r = false) := Lib.hid (by rw [← HR0.out]; simp [tailB, emp0])
   clear HR0
   go_wp2
   go_ret
   exact ⟨by rw [HV.out]; rfl, (below_setCells [.int .u64 0] w.heap.size 1 _ HB0.out (Nat.le_refl _))⟩
set_option maxHeartbeats 4000000 in
theorem aloneW11 (n bs ex : Int) (ng : Bool) (tx : ByteArray) (mA A : Option Addr) (ml mc m cp : Nat) (w : World) (hn0 : 0 ≤ n)  :
  Calls Tryz.prog 48 #[.agg #[.int .i8 11, .int .u64 n, .bool ng, .slice mA ml mc, .int .u64 bs, .int .i8 ex, .string tx, .slice A m cp]] w fun e w' => e = .returned (.bool (tailB true n ng ml bs 0 ⟨#[]⟩ m)) ∧ Below w.heap.size w w' := by
 obtain ⟨r, hr⟩ : ∃ r, tailB true n ng ml bs 0 ⟨#[]⟩ m = r := ⟨_, rfl⟩
 rw [hr]
 have HR0 := Lib.hid hr
 have HP := Lib.hid (heap_alloc_new w (.cells #[.int .i8 11, .int .u64 n, .bool ng, .slice mA ml mc, .int .u64 bs, .int .i8 ex, .string tx, .slice A m cp] 31))
 have hb0 : Below w.heap.size w (w.alloc (.cells #[.int .i8 11, .int .u64 n, .bool ng, .slice mA ml mc, .int .u64 bs, .int .i8 ex, .string tx, .slice A m cp] 31)) := (Below.refl _ _).alloc (Nat.le_refl _) _
 have HB0 := Lib.hid hb0
 clear hr hb0
 go_enter Tryz.func48, Tryz.ntmps48
 go_upto_region 1 with fail
 show Code.wp _ _ _ _ (w.alloc (.cells #[.int .i8 11, .int .u64 n, .bool ng, .slice mA ml mc, .int .u64 bs, .int .i8 ex, .string tx, .slice A m cp] 31))
 generalize (w.alloc (.cells #[.int .i8 11, .int .u64 n, .bool ng, .slice mA ml mc, .int .u64 bs, .int .i8 ex, .string tx, .slice A m cp] 31)) = W0 at *
 obtain ⟨⟨c0, c1, c2, c3, c4, c5, c6, c7⟩, f0, f1, f2, f3, f4, f5, f6, f7⟩ := blk8 HP.out
 go_upto_region 26 with fail
 by_cases z1 : n = 0
 ·have z1b := beq0 n z1
  cases ng
  ·skip
   by_cases z3 : ml = 0
   ·have z3b := nbeq0 ml z3
    by_cases z4 : bs = 0
    ·have z4b := beq0 bs z4
     by_cases z7 : m = 0
     ·have z7b := nbeq0 m z7
      have HV : Hid (r = true) := Lib.hid (by rw [← HR0.out]; simp [tailB, emp0, z1, z3, z4, z7])
      clear HR0
      go_wp2
      go_ret
      exact ⟨by rw [HV.out]; rfl, (below_setCells [.string ⟨#[]⟩] w.heap.size 6 _ (below_setCells [.int .i8 0] w.heap.size 5 _ HB0.out (Nat.le_refl _)) (Nat.le_refl _))⟩
     ·have z7b := nbne0 m z7
      have HV : Hid (r = false) := Lib.hid (by rw [← HR0.out]; simp [tailB, emp0, z1, z3, z4, z7])
      clear HR0
      go_wp2
      go_ret
      exact ⟨by rw [HV.out]; rfl, (below_setCells [.string ⟨#[]⟩] w.heap.size 6 _ (below_setCells [.int .i8 0] w.heap.size 5 _ HB0.out (Nat.le_refl _)) (Nat.le_refl _))⟩
    ·have z4b := bne0 bs z4
     have HV : Hid (r = false) := Lib.hid (by rw [← HR0.out]; simp [tailB, emp0, z1, z3, z4])
     clear HR0
     go_wp2
     go_ret
     exact ⟨by rw [HV.out]; rfl, (below_setCells [.string ⟨#[]⟩] w.heap.size 6 _ (below_setCells [.int .i8 0] w.heap.size 5 _ HB0.out (Nat.le_refl _)) (Nat.le_refl _))⟩
   ·have z3b := nbne0 ml z3
    have HV : Hid (r = false) := Lib.hid (by rw [← HR0.out]; simp [tailB, emp0, z1, z3])
    clear HR0
    go_wp2
    go_ret
    exact ⟨by rw [HV.out]; rfl, (below_setCells [.string ⟨#[]⟩] w.heap.size 6 _ (below_setCells [.int .i8 0] w.heap.size 5 _ HB0.out (Nat.le_refl _)) (Nat.le_refl _))⟩
  ·skip
   have HV : Hid (r = false) := Lib.hid (by rw [← HR0.out]; simp [tailB, emp0, z1])
   clear HR0
   go_wp2
   go_ret
   exact ⟨by rw [HV.out]; rfl, (below_setCells [.string ⟨#[]⟩] w.heap.size 6 _ (below_setCells [.int .i8 0] w.heap.size 5 _ HB0.out (Nat.le_refl _)) (Nat.le_refl _))⟩
 ·have z1b := bne0 n z1
  have HV : Hid (r = false) := Lib.hid (by rw [← HR0.out]; simp [tailB, emp0, z1])
  clear HR0
  go_wp2
  go_ret
  exact ⟨by rw [HV.out]; rfl, (below_setCells [.string ⟨#[]⟩] w.heap.size 6 _ (below_setCells [.int .i8 0] w.heap.size 5 _ HB0.out (Nat.le_refl _)) (Nat.le_refl _))⟩
end Go.Proofs.YtcpkjmpbpmeclaaGreatDoor
namespace Go.Proofs.YtcpkjmpbpmeclaaGreatDoor
open Go.RowKit
set_option maxRecDepth 100000
set_option linter.unusedVariables false
set_option linter.unusedSimpArgs false
set_option linter.unnecessarySimpa false

theorem aloneWn (k n bs ex : Int) (ng : Bool) (tx : ByteArray) (mA A : Option Addr) (ml mc m cp : Nat) (w : World) (hk : k < 1 ∨ 11 < k) :
  Calls Tryz.prog 48 #[.agg #[.int .i8 k, .int .u64 n, .bool ng, .slice mA ml mc, .int .u64 bs, .int .i8 ex, .string tx, .slice A m cp]] w fun e w' => e = .returned (.bool false) ∧ Below w.heap.size w w' := by
 have hb0 : Below w.heap.size w (w.alloc (.cells #[.int .i8 k, .int .u64 n, .bool ng, .slice mA ml mc, .int .u64 bs, .int .i8 ex, .string tx, .slice A m cp] 31)) := (Below.refl _ _).alloc (Nat.le_refl _) _
 have HB0 := Lib.hid hb0
 have ne : ∀ i : Int, 1 ≤ i → i ≤ 11 → (k == i) = false := fun i h1 h2 => by simp only [beq_eq_false_iff_ne, ne_eq]; omega
 have k1 := ne 1 (by decide) (by decide)
 have k2 := ne 2 (by decide) (by decide)
 have k3 := ne 3 (by decide) (by decide)
 have k4 := ne 4 (by decide) (by decide)
 have k5 := ne 5 (by decide) (by decide)
 have k6 := ne 6 (by decide) (by decide)
 have k7 := ne 7 (by decide) (by decide)
 have k8 := ne 8 (by decide) (by decide)
 have k9 := ne 9 (by decide) (by decide)
 have k10 := ne 10 (by decide) (by decide)
 have k11 := ne 11 (by decide) (by decide)
 clear hb0 ne hk
 go_enter Tryz.func48, Tryz.ntmps48
 go_wp2
 go_ret
 exact ⟨rfl, HB0.out⟩
/-- The eight values of a node as letters. -/
theorem alone_any (v : VT) (w : World) (hz : v.sz ≤ 1000000000) (hS : Shapes w) (hI : In w v)
  (hF : v.k = 4 → ∀ W, Below w.heap.size w W → Calls Tryz.prog 138 #[.int .u64 v.bits] W fun e w' => e = .returned (.bool (decP (FloatF v.bits))) ∧ Below W.heap.size W w') :
  Calls Tryz.prog 48 #[v.agg] w fun e w' => e = .returned (.bool (alone v)) ∧ Below w.heap.size w w' := by
 have pv := hI.parts
 obtain ⟨hk, hn, hb, he, hm⟩ := pv.ok
 have hs := VT.sz_l v
 have hln := VT.szL_len v.l
 by_cases hkk : v.k < 1 ∨ 11 < v.k
 ·rw [alone_none v hkk]
  exact aloneWn v.k v.n v.bits v.ext v.neg v.text v.mA v.A v.mag.length v.mcap v.l.length v.cap w hkk
 ·have hkk' : v.k = 1 ∨ v.k = 2 ∨ v.k = 3 ∨ v.k = 4 ∨ v.k = 5 ∨ v.k = 6 ∨ v.k = 7 ∨ v.k = 8 ∨ v.k = 9 ∨ v.k = 10 ∨ v.k = 11 := by omega
  show Calls _ _ #[.agg #[.int .i8 v.k, .int .u64 v.n, .bool v.neg, .slice v.mA v.mag.length v.mcap, .int .u64 v.bits, .int .i8 v.ext, .string v.text, .slice v.A v.l.length v.cap]] _ _
  rcases hkk' with h | h | h | h | h | h | h | h | h | h | h
  ·rw [alone1 v h, h]; exact aloneW1 v.n v.bits v.ext v.neg v.text v.mA v.A v.mag.length v.mcap v.l.length v.cap w hn.1
  ·rw [alone2 v h, h]; exact aloneW2 v.n v.bits v.ext v.neg v.text v.mA v.A v.mag.length v.mcap v.l.length v.cap w hn.1
  ·rw [alone3 v h, h]; exact aloneW3 v.n v.bits v.ext v.neg v.text v.mA v.A v.mag.length v.mcap v.l.length v.cap w hn.1 _ (Lib.hid fun W hW => normal_any v.neg v.mA v.mcap v.mag W (by omega) (pv.mr.below hW))
  ·rw [alone4 v h, h]; exact aloneW4 v.n v.bits v.ext v.neg v.text v.mA v.A v.mag.length v.mcap v.l.length v.cap w hn.1 _ (Lib.hid (hF h))
  ·rw [alone5 v h, h]; exact aloneW5 v.n v.bits v.ext v.neg v.text v.mA v.A v.mag.length v.mcap v.l.length v.cap w hn.1 _ (Lib.hid fun W => Utf.bad_any v.text W (by omega))
  ·rw [alone6 v h, h]; exact aloneW6 v.n v.bits v.ext v.neg v.text v.mA v.A v.mag.length v.mcap v.l.length v.cap w hn.1
  ·rw [alone7 v h, h]; exact aloneW7 v.n v.bits v.ext v.neg v.text v.mA v.A v.mag.length v.mcap v.l.length v.cap w hn.1
  ·rw [alone8 v h, h]
   exact aloneW8 v.n v.bits v.ext v.neg v.text v.mA v.A v.mag.length v.mcap v.l.length v.cap w hn.1 _ (Lib.hid fun W hW => rising_of v.A _ v.cap v.l W rfl (by omega) (pv.row.below hW) fun i j h1 h2 W2 hW2 =>
    cmpV_any _ _ _ W2 (Nat.le_refl _) (by have := VT.kid_sz (List.getElem_mem h1); omega) (by have := VT.kid_sz (List.getElem_mem h2); omega) (hS.below (trans_b hW hW2)) ((hI.kid (List.getElem_mem h1)).below (trans_b hW hW2)) ((hI.kid (List.getElem_mem h2)).below (trans_b hW hW2)))
  ·rw [alone9 v h, h]; exact aloneW9 v.n v.bits v.ext v.neg v.text v.mA v.A v.mag.length v.mcap v.l.length v.cap w hn.1
  ·rw [alone10 v h, h]; exact aloneW10 v.n v.bits v.ext v.neg v.text v.mA v.A v.mag.length v.mcap v.l.length v.cap w hn.1 _ (Lib.hid fun W => simple_any v.n W hn.1 hn.2)
  ·rw [alone11 v h, h]; exact aloneW11 v.n v.bits v.ext v.neg v.text v.mA v.A v.mag.length v.mcap v.l.length v.cap w hn.1
end Go.Proofs.YtcpkjmpbpmeclaaGreatDoor
namespace Go.Proofs.YtcpkjmpbpmeclaaGreatDoor
open Go.RowKit
set_option maxRecDepth 100000
set_option linter.unusedVariables false
set_option linter.unusedSimpArgs false
set_option linter.unnecessarySimpa false

def nums (l : List Nat) : List Int := l.map fun n : Nat => (n : Int)
theorem nums_app (l m : List Nat) : nums (l ++ m) = nums l ++ nums m := by simp [nums]
theorem nums_len (l : List Nat) : (nums l).length = l.length := by simp [nums]
/-- The closure 'visit', with what it captures: 'wrong', 'steps', itself. -/
abbrev visitF (b : Nat) : Value := .func (.func 134) #[] #[.pointer (some ⟨b + 1, 0, none⟩), .pointer (some ⟨b + 2, 0, none⟩), .pointer (some ⟨b + 3, 0, none⟩)]
/-- 'w' the world ahead of walk's own blocks, 'pre' the steps. -/
structure WInv (w : World) (N : FuncId) (pre : List Nat) (W : World) : Prop where
 b : Below w.heap.size w W
 f : W.heap[w.heap.size + 1]? = some (.cells #[.func (.func N) #[] #[]] 86 (0, 0))
 v : W.heap[w.heap.size + 3]? = some (.cells #[visitF w.heap.size] 86 (0, 0))
 s : ∃ sl, W.heap[w.heap.size + 2]? = some (.cells #[sl] 93 (0, 0)) ∧ Own W (w.heap.size + 4) 3 .i64 sl (nums pre)
 z : w.heap.size + 4 ≤ W.heap.size
theorem WInv.below {w W W' : World} {N : FuncId} {pre : List Nat} (h : WInv w N pre W) (hb : Below W.heap.size W W') : WInv w N pre W' := by
 have hz := h.z
 obtain ⟨sl, h1, h2⟩ := h.s
 exact ⟨trans_b h.b hb, (hb.block _ (by omega)).trans h.f, (hb.block _ (by omega)).trans h.v, ⟨sl, (hb.block _ (by omega)).trans h1, h2.kept hb⟩, Nat.le_trans hz hb.size⟩
theorem WInv.keep {w W W' : World} {N : FuncId} {pre pre' : List Nat} {sl sl' : Value} (h : WInv w N pre W) (hs : W.heap[w.heap.size + 2]? = some (.cells #[sl] 93 (0, 0))) (hb : Below (w.heap.size + 4) W W')
  (hO : Own W' (w.heap.size + 4) 3 .i64 sl' (nums pre')) : WInv w N pre' (W'.setCell ⟨w.heap.size + 2, 0, none⟩ sl') := by
 have hz := h.z
 have e : (W'.setCell ⟨w.heap.size + 2, 0, none⟩ sl').heap.size = W'.heap.size := by simp
 have h0 := (hb.block (w.heap.size + 2) (by omega)).trans hs
 refine ⟨below_setCells [sl'] (w.heap.size + 2) 0 W' (h.b.trans (hb.mono (by omega))) (by omega), ?_, ?_, ⟨sl', heap_setCell_same W' (w.heap.size + 2) 0 _ _ sl' h0, ?_⟩, by rw [e]; exact Nat.le_trans hz hb.size⟩
 ·rw [heap_setCell_other W' ⟨w.heap.size + 2, 0, none⟩ _ sl' (by simp)]
  exact (hb.block _ (by omega)).trans h.f
 ·rw [heap_setCell_other W' ⟨w.heap.size + 2, 0, none⟩ _ sl' (by simp)]
  exact (hb.block _ (by omega)).trans h.v
 ·exact hO.keepB fun b hbb => heap_setCell_other W' ⟨w.heap.size + 2, 0, none⟩ b sl' (by have := (World.ownsRow.lt hO b hbb).1; show b ≠ w.heap.size + 2; omega)
theorem own_cut {W : World} {B : Nat} {e : TypeId} {k : IntKind} {A : Option Addr} {n c : Nat} {xs : List Int} {x : Int} (h : Own W B e k (.slice A (n + 1) c) (xs ++ [x])) (hn : xs.length = n) : Own W B e k (.slice A n c) xs := by
 subst hn
 rcases h.2 with ⟨_, h0⟩ | ⟨g, cap, cur, e1, h1, h2, h3, h4, h5, h6⟩
 ·simp at h0
 ·injection e1 with e2 e3 e4
  subst e2
  subst e4
  refine ⟨by simp [numsK], .inr ⟨g, c, cur, rfl, h1, h2, by simp at h3; omega, h4, h5, ?_⟩⟩
  have h7 := congrArg (List.take (xs.length * 1)) h6
  rw [List.take_take, numsK_append, List.take_append_of_le_length (by simp [numsK])] at h7
  rw [Nat.min_eq_left (by simp)] at h7
  rw [h7, List.take_of_length_le (by simp [numsK])]
theorem own_snoc {W : World} {B : Nat} {e : TypeId} {k : IntKind} {v : Value} {xs : List Int} {x : Int} (h : Own W B e k v (xs ++ [x])) : ∃ g c, v = .slice (some ⟨g, 0, none⟩) (xs.length + 1) c ∧ xs.length ≤ c := by
 rcases h.2 with ⟨_, h0⟩ | ⟨g, cap, cur, e1, _, _, h3, _⟩
 ·simp at h0
 ·exact ⟨g, cap, by rw [e1]; simp, by simp at h3; omega⟩
theorem blk1 {W : World} {p : Nat} {t : TypeId} {a : Value} (h : W.heap[p]? = some (.cells #[a] t (0, 0))) : W.cell? ⟨p, 0, none⟩ = some a ∧ W.frozen? ⟨p, 0, none⟩ = false :=
 ⟨cell_of_row _ _ _ _ _ _ h, by simp [World.frozen?, h]⟩
theorem info_int : (Tryz.prog.info? 3).map (fun i => (i.zero, i.size, i.bytes)) = some (some (.int .i64 0), 1, 8) := by kernel_rfl
end Go.Proofs.YtcpkjmpbpmeclaaGreatDoor
