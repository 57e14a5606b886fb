/- ref14.Compare (printed by genOH.py). -/
import Derived.Test.YtcpkjmpbpmeclaaGreatDoorMat
import Derived.Test.YtcpkjmpbpmeclaaGreatDoorMah
import Derived.Deep.DeepCutAuto
namespace Go.Proofs.YtcpkjmpbpmeclaaGreatDoor
open Go.RowKit
set_option maxRecDepth 100000
set_option linter.unusedVariables false
set_option linter.unusedSimpArgs false
set_option linter.unnecessarySimpa false

theorem orI_assoc (a b c : Int) : orI (orI a b) c = orI a (orI b c) := by unfold orI; (repeat' split) <;> omega
theorem cmpVL_drop (l m : List VT) (i : Nat) (h1 : i < l.length) (h2 : i < m.length) : cmpVL (l.drop i) (m.drop i) = orI (cmpV l[i] m[i]) (cmpVL (l.drop (i + 1)) (m.drop (i + 1))) := by
 rw [List.drop_eq_getElem_cons h1, List.drop_eq_getElem_cons h2]
 rfl
theorem cmpVL_stop (l m : List VT) (i : Nat) (h1 : i ≤ l.length) (h2 : i ≤ m.length) (h : ¬ (i < l.length ∧ i < m.length)) : cmpVL (l.drop i) (m.drop i) = cmpI l.length m.length := by
 by_cases a : i < l.length
 ·have b : m.length = i := by omega
  rw [List.drop_eq_getElem_cons a, List.drop_of_length_le (l := m) (by omega), cmpI_gt (by omega)]
  rfl
 ·have b : l.length = i := by omega
  by_cases c : i < m.length
  ·rw [List.drop_eq_getElem_cons c, List.drop_of_length_le (l := l) (by omega), cmpI_lt (by omega)]
   rfl
  ·rw [List.drop_of_length_le (l := m) (by omega), List.drop_of_length_le (l := l) (by omega), (cmpI_eq _ _).2 (by omega)]
   rfl
set_option maxHeartbeats 8000000 in
theorem refCmp_walk (w : World) (k k2 n n2 bs bs2 ex ex2 z1 z2 z3 z4 z5 z6 r : Int) (ng ng2 : Bool) (mA mA2 A A2 : Option Addr) (ml mc m cp ml2 mc2 m2 cp2 : Nat) (tx tx2 : ByteArray) (l l2 : List VT)
  (H1 : Hid (sgB (decide (k < k2)) (decide (k2 < k)) = z1)) (H2 : Hid (sgB (decide (n < n2)) (decide (n2 < n)) = z2)) (H3 : Hid (sgB (decide (ex < ex2)) (decide (ex2 < ex)) = z3))
  (H4 : Hid (∀ W, Below w.heap.size w W → Calls Tryz.prog 59 #[.agg #[.bool ng, .slice mA ml mc], .agg #[.bool ng2, .slice mA2 ml2 mc2]] W fun e w' => e = .returned (.int .i64 z4) ∧ Below W.heap.size W w'))
  (H5 : Hid (∀ W, Calls Tryz.prog 60 #[.int .i64 64, .int .u64 bs, .int .u64 bs2] W fun e w' => e = .returned (.int .i64 z5) ∧ W = w'))
  (bl bm : Bool) (HG6 : Hid (Op.bytesLess tx.toList tx2.toList = bl ∧ ∀ W, Sem.run Tryz.prog (binOp .gtr 9 (.string tx) (.string tx2)) W = .ok (.bool bm) W)) (H6 : Hid (sgB bl bm = z6))
  (HL : Hid (l.length = m ∧ l2.length = m2)) (hm : m ≤ 1000000000) (hm2 : m2 ≤ 1000000000) (HX : Hid (VRow w A l)) (HY : Hid (VRow w A2 l2))
  (HK : Hid (∀ i (h1 : i < l.length) (h2 : i < l2.length) W, Below w.heap.size w W → Calls Tryz.prog 22 #[(l[i]).agg, (l2[i]).agg] W fun e w' => e = .returned (.int .i64 (cmpV l[i] l2[i])) ∧ Below W.heap.size W w'))
  (HR : Hid (orI (orI (orI (orI (orI (orI z1 z2) z3) z4) z5) z6) (cmpVL l l2) = r)) :
  Calls Tryz.prog 22 #[.agg #[.int .i8 k, .int .u64 n, .bool ng, .slice mA ml mc, .int .u64 bs, .int .i8 ex, .string tx, .slice A m cp], .agg #[.int .i8 k2, .int .u64 n2, .bool ng2, .slice mA2 ml2 mc2, .int .u64 bs2, .int .i8 ex2, .string tx2, .slice A2 m2 cp2]] w fun e w' => e = .returned (.int .i64 r) ∧ Below w.heap.size w w' := by
 have HS0 := Lib.hid (box2_new w (.int .i8 k) (.int .u64 n) (.bool ng) (.slice mA ml mc) (.int .u64 bs) (.int .i8 ex) (.string tx) (.slice A m cp) (.int .i8 k2) (.int .u64 n2) (.bool ng2) (.slice mA2 ml2 mc2) (.int .u64 bs2) (.int .i8 ex2) (.string tx2) (.slice A2 m2 cp2))
 go_enter Tryz.func22, Tryz.ntmps22
 go_upto_region 1 with fail
 show Code.wp _ _ _ _ ((w.alloc (.cells #[.int .i8 k, .int .u64 n, .bool ng, .slice mA ml mc, .int .u64 bs, .int .i8 ex, .string tx, .slice A m cp] 31)).alloc (.cells #[.int .i8 k2, .int .u64 n2, .bool ng2, .slice mA2 ml2 mc2, .int .u64 bs2, .int .i8 ex2, .string tx2, .slice A2 m2 cp2] 31))
 generalize ((w.alloc (.cells #[.int .i8 k, .int .u64 n, .bool ng, .slice mA ml mc, .int .u64 bs, .int .i8 ex, .string tx, .slice A m cp] 31)).alloc (.cells #[.int .i8 k2, .int .u64 n2, .bool ng2, .slice mA2 ml2 mc2, .int .u64 bs2, .int .i8 ex2, .string tx2, .slice A2 m2 cp2] 31)) = W0 at *
 have hB : Below W0.heap.size W0 W0 := Below.refl _ _
 obtain ⟨hw0, c0, c1, c2, c3, c4, c5, c6, c7, d0, d1, d2, d3, d4, d5, d6, d7⟩ := box2_keep HS0.out hB
 clear c1 d1 c2 d2 c3 d3 c4 d4 c5 d5 c6 d6 c7 d7 hw0
 go_upto_if 19 with (go_at_call 58; refine (sign_any _ _ _).mono ?_; rintro e w1 ⟨rfl, rfl⟩; rw [H1.out])
 clear c0 d0
 obtain ⟨y2, hy2⟩ : ∃ y, orI z1 z2 = y := ⟨_, rfl⟩
 have HYY2 := Lib.hid hy2
 rw [hy2] at HR
 clear hy2
 go_cut [5] (fun c W => c = .int .i64 y2 ∧ Below W0.heap.size W0 W)
 case first =>
  by_cases h0 : z1 = 0
  ·have e : Hid (y2 = z2) := Lib.hid (by rw [← HYY2.out, h0, orI_zero])
   have hb0 : (z1 == 0) = true := by simpa using h0
   clear h0
   obtain ⟨hw0, c0, c1, c2, c3, c4, c5, c6, c7, d0, d1, d2, d3, d4, d5, d6, d7⟩ := box2_keep HS0.out hB
   clear c0 d0 c2 d2 c3 d3 c4 d4 c5 d5 c6 d6 c7 d7 hw0
   go_wp2_with (go_at_call 58; refine (sign_any _ _ _).mono ?_; rintro e w1 ⟨rfl, rfl⟩; rw [H2.out])
   go_meet
   exact ⟨by rw [e.out], hB⟩
  ·have e : Hid (y2 = z1) := Lib.hid (by rw [← HYY2.out, orI_ne _ h0])
   have hb0 : (z1 == 0) = false := by simpa using h0
   clear h0
   go_wp2
   go_meet
   exact ⟨by rw [e.out], hB⟩
 case rest =>
  obtain ⟨rfl, hB2⟩ := hcut
  replace hB := hB2
  clear hB2 HYY2
  obtain ⟨y3, hy3⟩ : ∃ y, orI y2 z3 = y := ⟨_, rfl⟩
  have HYY3 := Lib.hid hy3
  rw [hy3] at HR
  clear hy3
  go_upto_if 32 with fail
  go_cut [5] (fun c W => c = .int .i64 y3 ∧ Below W0.heap.size W0 W)
  case first =>
   by_cases h0 : y2 = 0
   ·have e : Hid (y3 = z3) := Lib.hid (by rw [← HYY3.out, h0, orI_zero])
    have hb0 : (y2 == 0) = true := by simpa using h0
    clear h0
    obtain ⟨hw0, c0, c1, c2, c3, c4, c5, c6, c7, d0, d1, d2, d3, d4, d5, d6, d7⟩ := box2_keep HS0.out hB
    clear c0 d0 c1 d1 c2 d2 c3 d3 c4 d4 c6 d6 c7 d7 hw0
    go_wp2_with (go_at_call 58; refine (sign_any _ _ _).mono ?_; rintro e w1 ⟨rfl, rfl⟩; rw [H3.out])
    go_meet
    exact ⟨by rw [e.out], hB⟩
   ·have e : Hid (y3 = y2) := Lib.hid (by rw [← HYY3.out, orI_ne _ h0])
    have hb0 : (y2 == 0) = false := by simpa using h0
    clear h0
    go_wp2
    go_meet
    exact ⟨by rw [e.out], hB⟩
  case rest =>
   obtain ⟨rfl, hB2⟩ := hcut
   replace hB := hB2
   clear hB2 HYY3
   obtain ⟨y4, hy4⟩ : ∃ y, orI y3 z4 = y := ⟨_, rfl⟩
   have HYY4 := Lib.hid hy4
   rw [hy4] at HR
   clear hy4
   go_upto_if 45 with fail
   go_cut [5] (fun c W => c = .int .i64 y4 ∧ Below W0.heap.size W0 W)
   case first =>
    by_cases h0 : y3 = 0
    ·have e : Hid (y4 = z4) := Lib.hid (by rw [← HYY4.out, h0, orI_zero])
     have hb0 : (y3 == 0) = true := by simpa using h0
     clear h0
     obtain ⟨hw0, c0, c1, c2, c3, c4, c5, c6, c7, d0, d1, d2, d3, d4, d5, d6, d7⟩ := box2_keep HS0.out hB
     clear c0 d0 c1 d1 c4 d4 c5 d5 c6 d6 c7 d7
     go_wp2_with (go_at_call 59; refine (H4.out _ hw0).mono ?_; rintro e w1 ⟨rfl, hb1⟩; replace hB := trans_b hB hb1; clear hb1)
     go_meet
     exact ⟨by rw [e.out], hB⟩
    ·have e : Hid (y4 = y3) := Lib.hid (by rw [← HYY4.out, orI_ne _ h0])
     have hb0 : (y3 == 0) = false := by simpa using h0
     clear h0
     go_wp2
     go_meet
     exact ⟨by rw [e.out], hB⟩
   case rest =>
    obtain ⟨rfl, hB2⟩ := hcut
    replace hB := hB2
    clear hB2 HYY4
    obtain ⟨y5, hy5⟩ : ∃ y, orI y4 z5 = y := ⟨_, rfl⟩
    have HYY5 := Lib.hid hy5
    rw [hy5] at HR
    clear hy5
    go_upto_if 52 with fail
    go_cut [5] (fun c W => c = .int .i64 y5 ∧ Below W0.heap.size W0 W)
    case first =>
     by_cases h0 : y4 = 0
     ·have e : Hid (y5 = z5) := Lib.hid (by rw [← HYY5.out, h0, orI_zero])
      have hb0 : (y4 == 0) = true := by simpa using h0
      clear h0
      obtain ⟨hw0, c0, c1, c2, c3, c4, c5, c6, c7, d0, d1, d2, d3, d4, d5, d6, d7⟩ := box2_keep HS0.out hB
      clear c0 d0 c1 d1 c2 d2 c3 d3 c5 d5 c6 d6 c7 d7 hw0
      go_wp2_with (go_at_call 60; refine (H5.out _).mono ?_; rintro e w1 ⟨rfl, rfl⟩)
      go_meet
      exact ⟨by rw [e.out], hB⟩
     ·have e : Hid (y5 = y4) := Lib.hid (by rw [← HYY5.out, orI_ne _ h0])
      have hb0 : (y4 == 0) = false := by simpa using h0
      clear h0
      go_wp2
      go_meet
      exact ⟨by rw [e.out], hB⟩
    case rest =>
     obtain ⟨rfl, hB2⟩ := hcut
     replace hB := hB2
     clear hB2 HYY5
     obtain ⟨y6, hy6⟩ : ∃ y, orI y5 z6 = y := ⟨_, rfl⟩
     have HYY6 := Lib.hid hy6
     rw [hy6] at HR
     clear hy6
     go_upto_if 59 with fail
     go_cut [5] (fun c W => c = .int .i64 y6 ∧ Below W0.heap.size W0 W)
     case first =>
      by_cases h0 : y5 = 0
      ·have e : Hid (y6 = z6) := Lib.hid (by rw [← HYY6.out, h0, orI_zero])
       have hb0 : (y5 == 0) = true := by simpa using h0
       clear h0
       obtain ⟨hw0, c0, c1, c2, c3, c4, c5, c6, c7, d0, d1, d2, d3, d4, d5, d6, d7⟩ := box2_keep HS0.out hB
       clear c0 d0 c1 d1 c2 d2 c3 d3 c4 d4 c5 d5 c7 d7 hw0
       obtain ⟨g61, g62⟩ := HG6.out
       go_wp2_with (go_at_call 58; refine (sign_any _ _ _).mono ?_; rintro e w1 ⟨rfl, rfl⟩; rw [H6.out])
       go_meet
       exact ⟨by rw [e.out], hB⟩
      ·have e : Hid (y6 = y5) := Lib.hid (by rw [← HYY6.out, orI_ne _ h0])
       have hb0 : (y5 == 0) = false := by simpa using h0
       clear h0
       go_wp2
       go_meet
       exact ⟨by rw [e.out], hB⟩
     case rest =>
      obtain ⟨rfl, hB2⟩ := hcut
      replace hB := hB2
      clear hB2 HYY6
      obtain ⟨Z, hZ⟩ : ∃ Z, cmpVL l l2 = Z := ⟨_, rfl⟩
      have HZ := Lib.hid hZ
      rw [hZ] at HR
      clear hZ
      go_wp2
      go_loopw [5, 6] (fun t5 t6 W => ∃ (i : Nat) (c : Int), t6 = .int .i64 i ∧ t5 = .int .i64 c ∧ i ≤ m ∧ i ≤ m2 ∧ Hid ((c = 0 → orI y6 Z = cmpVL (l.drop i) (l2.drop i)) ∧ (c ≠ 0 → orI y6 Z = c)) ∧ Below W0.heap.size W0 W) (fun _ t6 _ => m - (intOf t6).toNat)
      case atStart => exact ⟨0, y6, rfl, rfl, Nat.zero_le _, Nat.zero_le _, Lib.hid ⟨fun h => by rw [h, orI_zero, ← HZ.out]; rfl, fun h => orI_ne _ h⟩, hB⟩
      case round =>
       obtain ⟨i, c, rfl, rfl, hi, hi2, HC, hB3⟩ := hrel
       replace hB := hB3
       clear hB3
       obtain ⟨hw0, c0, c1, c2, c3, c4, c5, c6, c7, d0, d1, d2, d3, d4, d5, d6, d7⟩ := box2_keep HS0.out hB
       clear c0 d0 c1 d1 c2 d2 c3 d3 c4 d4 c5 d5 c6 d6
       have HW := Lib.hid (trans_b hw0 (Below.refl _ _))
       clear HW
       have HB := Lib.hid hB
       by_cases hlt : i < m ∧ i < m2 ∧ c = 0
       ·obtain ⟨h1, h2, rfl⟩ := hlt
        have hjx : i < l.length := by rw [HL.out.1]; exact h1
        have hjy : i < l2.length := by rw [HL.out.2]; exact h2
        obtain ⟨b, off, xk, xn, xg, xmA, xml, xmc, xb, xe, xt, xA, xl, xc, rfl, r0, r1, r2, r3, r4, r5, r6, r7, hC⟩ := (HX.out.below hw0).kid hjx (C := fun u => ∀ W, Below w.heap.size w W → Calls Tryz.prog 22 #[u, (l2[i]).agg] W fun e w' => e = .returned (.int .i64 (cmpV l[i] l2[i])) ∧ Below W.heap.size W w') (HK.out i hjx hjy)
        obtain ⟨b2, off2, yk, yn, yg, ymA, yml, ymc, yb, ye, yt, yA, yl, yc, rfl, q0, q1, q2, q3, q4, q5, q6, q7, hC2⟩ := (HY.out.below hw0).kid hjy (C := fun u => ∀ W, Below w.heap.size w W → Calls Tryz.prog 22 #[.agg #[.int .i8 xk, .int .u64 xn, .bool xg, .slice xmA xml xmc, .int .u64 xb, .int .i8 xe, .string xt, .slice xA xl xc], u] W fun e w' => e = .returned (.int .i64 (cmpV l[i] l2[i])) ∧ Below W.heap.size W w') hC
        have HD := Lib.hid (cmpVL_drop l l2 i hjx hjy)
        obtain ⟨z, hz⟩ : ∃ z, cmpV l[i] l2[i] = z := ⟨_, rfl⟩
        rw [hz] at hC2 HD
        have HCC := Lib.hid hC2
        have HW0 := Lib.hid hw0
        clear hC hC2 hz hw0
        have HC2 : Hid ((z = 0 → orI y6 Z = cmpVL (l.drop (i + 1)) (l2.drop (i + 1))) ∧ (z ≠ 0 → orI y6 Z = z)) := Lib.hid ⟨fun h => by rw [HC.out.1 rfl, HD.out, h, orI_zero], fun h => by rw [HC.out.1 rfl, HD.out, orI_ne _ h]⟩
        go_upto_region 15 with fail
        go_region_law (go_simp; go_at_call 22; refine (HCC.out _ (trans_b HW0.out ((Below.refl _ _).drew))).mono ?_; rintro e w1 ⟨rfl, hb1⟩)
        all_goals (
         have hb2 := trans_b HB.out (((Below.refl wr.heap.size wr).drew).trans hb1)
         first | go_wp2 | (go_goals; fail) | skip
         try go_roundw
         case rel => exact ⟨i + 1, z, by go_num, rfl, by omega, by omega, HC2, hb2⟩
         case measure => (simp only [intOf]; omega))
       ·have HC3 : Hid (r = if c = 0 then cmpI m m2 else c) := Lib.hid (by
         rw [← HR.out]
         by_cases h : c = 0
         ·rw [if_pos h, HC.out.1 h, cmpVL_stop l l2 i (by rw [HL.out.1]; exact hi) (by rw [HL.out.2]; exact hi2) (by rw [HL.out.1, HL.out.2]; exact fun ⟨a, b⟩ => hlt ⟨a, b, h⟩), HL.out.1, HL.out.2]
         ·rw [if_neg h, HC.out.2 h])
        have HW0 := Lib.hid hw0
        clear hw0
        by_cases h0 : c = 0
        ·subst h0
         have HR3 : Hid (r = sgB (decide (m < m2)) (decide (m2 < m))) := Lib.hid (by rw [HC3.out, if_pos rfl, ← sgB_cmpI]; simp only [Int.ofNat_lt])
         by_cases a : i < m
         ·have b : ¬ i < m2 := fun b => hlt ⟨a, b, rfl⟩
          clear hlt
          go_wp2_with (go_at_call 58; go_must (refine (sign_any _ _ _).mono ?_); go_must (rintro e w1 ⟨rfl, rfl⟩))
          go_ret
          exact ⟨by rw [HR3.out]; rfl, HW0.out⟩
         ·clear hlt
          go_wp2_with (go_at_call 58; go_must (refine (sign_any _ _ _).mono ?_); go_must (rintro e w1 ⟨rfl, rfl⟩))
          go_ret
          exact ⟨by rw [HR3.out]; rfl, HW0.out⟩
        ·have HR3 : Hid (r = c) := Lib.hid (by rw [HC3.out, if_neg h0])
         have hb0 : (c == 0) = false := by simpa using h0
         clear h0 hlt
         by_cases a : i < m
         ·by_cases b : i < m2
          ·go_wp2
           go_ret
           exact ⟨by rw [HR3.out]; rfl, HW0.out⟩
          ·go_wp2
           go_ret
           exact ⟨by rw [HR3.out]; rfl, HW0.out⟩
         ·go_wp2
          go_ret
          exact ⟨by rw [HR3.out]; rfl, HW0.out⟩
theorem less_gtr (tx tx2 : ByteArray) : (!(Op.bytesLess tx.toList tx2.toList || tx.toList == tx2.toList)) = Op.bytesLess tx2.toList tx.toList := by
 have h1 := cmpL_less tx.toList tx2.toList
 have h2 := cmpL_less tx2.toList tx.toList
 have o := cmpL_ord (tx.toList.map fun x => (x.toNat : Int)) (tx2.toList.map fun x => (x.toNat : Int))
 have an := o.anti
 have lo := o.lo
 have hi := o.hi
 obtain ⟨a1, a2⟩ := h1
 obtain ⟨b1, b2⟩ := h2
 cases ha : Op.bytesLess tx.toList tx2.toList with
 | true =>
  have := a1.2 ha
  cases hb : Op.bytesLess tx2.toList tx.toList with
  | true => have := b1.2 hb; omega
  | false => rfl
 | false =>
  by_cases e : tx.toList = tx2.toList
  ·have := a2.2 e
   cases hb : Op.bytesLess tx2.toList tx.toList with
   | true => have := b1.2 hb; omega
   | false => simp [e]
  ·have h3 : ¬ cmpL (tx.toList.map fun x => (x.toNat : Int)) (tx2.toList.map fun x => (x.toNat : Int)) = 0 := fun h => e (a2.1 h)
   have h4 : ¬ cmpL (tx.toList.map fun x => (x.toNat : Int)) (tx2.toList.map fun x => (x.toNat : Int)) = -1 := fun h => by rw [a1.1 h] at ha; cases ha
   have hb : Op.bytesLess tx2.toList tx.toList = true := b1.1 (by omega)
   rw [hb]
   simp [e]
theorem gtr_run (tx tx2 : ByteArray) (W : World) : Sem.run Tryz.prog (binOp .gtr 9 (.string tx) (.string tx2)) W = .ok (.bool (Op.bytesLess tx2.toList tx.toList)) W := by
 rw [← less_gtr]
 rfl
theorem refCmp_any : ∀ (q : Nat) (a b : VT) (w : World), a.sz ≤ q → a.sz ≤ 1000000000 → b.sz ≤ 1000000000 → In w a → In w b →
  Calls Tryz.prog 22 #[a.agg, b.agg] w fun e w' => e = .returned (.int .i64 (cmpV a b)) ∧ Below w.heap.size w w' := by
 intro q
 induction q with
 | zero => intro a b w hn; have := a.sz_pos; omega
 | succ q ih =>
  intro a b w hn ha hb ia ib
  have pa := ia.parts
  have pb := ib.parts
  obtain ⟨ak, an, abits, aext, amag⟩ := pa.ok
  obtain ⟨bk, bn, bbits, bext, bmag⟩ := pb.ok
  have la : a.l.length ≤ a.sz := by rw [VT.sz_l]; have := VT.szL_len a.l; omega
  have lb : b.l.length ≤ b.sz := by rw [VT.sz_l]; have := VT.szL_len b.l; omega
  have ma : a.mag.length ≤ a.sz := by rw [VT.sz_l]; omega
  have mb : b.mag.length ≤ b.sz := by rw [VT.sz_l]; omega
  have na : NatIn w a.mA a.mcap a.mag := ⟨by omega, pa.ml, pa.mz, pa.mr, amag⟩
  have nb : NatIn w b.mA b.mcap b.mag := ⟨by omega, pb.ml, pb.mz, pb.mr, bmag⟩
  have hv : orI (orI (orI (orI (orI (orI (cmpI a.k b.k) (cmpI a.n b.n)) (cmpI a.ext b.ext)) (cmpI a.whole b.whole)) (cmpI (totK a.bits) (totK b.bits))) (cmpL (ints a.text) (ints b.text))) (cmpVL a.l b.l) = cmpV a b := by
   rw [cmpV_eq]
   unfold cmpN
   simp only [orI_assoc]
  have ht : sgB (Op.bytesLess a.text.toList b.text.toList) (Op.bytesLess b.text.toList a.text.toList) = cmpL (ints a.text) (ints b.text) := by
   rw [← sgB_cmpL, ByteArray.toList_eq, ByteArray.toList_eq]
  exact refCmp_walk w a.k b.k a.n b.n a.bits b.bits a.ext b.ext _ _ _ _ _ _ _ a.neg b.neg a.mA b.mA a.A b.A a.mag.length a.mcap a.l.length a.cap b.mag.length b.mcap b.l.length b.cap a.text b.text a.l b.l
   (Lib.hid (sgB_cmpI _ _)) (Lib.hid (sgB_cmpI _ _)) (Lib.hid (sgB_cmpI _ _))
   (Lib.hid fun W hW => refCmp3_any a.neg b.neg a.mA b.mA a.mcap b.mcap _ _ a.mag b.mag W rfl rfl (na.below hW) (nb.below hW))
   (Lib.hid fun W => refTotal_any a.bits b.bits W abits.1 abits.2 bbits.1 bbits.2)
   _ _ (Lib.hid ⟨rfl, fun W => gtr_run _ _ W⟩) (Lib.hid ht) (Lib.hid ⟨rfl, rfl⟩) (by omega) (by omega) (Lib.hid pa.row) (Lib.hid pb.row)
   (Lib.hid fun i h1 h2 W hW => ih _ _ W (by have := VT.kid_sz (List.getElem_mem h1); omega) (by have := VT.kid_sz (List.getElem_mem h1); omega) (by have := VT.kid_sz (List.getElem_mem h2); omega)
    ((ia.kid (List.getElem_mem h1)).below hW) ((ib.kid (List.getElem_mem h2)).below hW))
   (Lib.hid hv)
end Go.Proofs.YtcpkjmpbpmeclaaGreatDoor
