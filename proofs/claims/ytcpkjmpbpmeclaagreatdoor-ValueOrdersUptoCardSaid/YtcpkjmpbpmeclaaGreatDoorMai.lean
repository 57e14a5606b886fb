/- Vwa · Vwb · Vwc: merged. -/
import Derived.Test.YtcpkjmpbpmeclaaGreatDoorMae
import Derived.Test.YtcpkjmpbpmeclaaGreatDoorMah
namespace Go.Proofs.YtcpkjmpbpmeclaaGreatDoor
open Go.RowKit
set_option maxRecDepth 100000
set_option linter.unusedVariables false
set_option linter.unusedSimpArgs false
set_option linter.unnecessarySimpa false

theorem normal_any (g : Bool) (A : Option Addr) (c : Nat) (xs : List Int) (w : World) (hn : xs.length ≤ 1000000000) (hr : RK w .u32 A xs) :
  Calls Tryz.prog 137 #[.agg #[.bool g, .slice A xs.length c]] w fun e w' => e = .returned (.bool (decP (NormalI g xs))) ∧ Below w.heap.size w w' := by
 obtain ⟨r, hrr⟩ : ∃ r, decP (NormalI g xs) = r := ⟨_, rfl⟩
 rw [hrr]
 have hb0 : Below w.heap.size w (w.alloc (.cells #[.bool g, .slice A xs.length c] 28)) := (Below.refl _ _).alloc (Nat.le_refl _) _
 have HB := Lib.hid hb0
 by_cases h0 : xs = []
 ·subst h0
  have HR : Hid (r = !g) := Lib.hid (by rw [← hrr]; exact decP_of (by cases g <;> simp [NormalI]))
  clear hr hn hb0 hrr
  cases g
  ·go_enter Tryz.func137, Tryz.ntmps137
   go_wp2
   go_ret
   exact ⟨by rw [HR.out]; rfl, HB.out⟩
  ·go_enter Tryz.func137, Tryz.ntmps137
   go_wp2
   go_ret
   exact ⟨by rw [HR.out]; rfl, HB.out⟩
 ·have hl : xs.length ≠ 0 := fun e => h0 (List.eq_nil_of_length_eq_zero e)
  obtain ⟨m, hm⟩ : ∃ m, xs.length = m + 1 := ⟨xs.length - 1, by omega⟩
  obtain ⟨b, off, rfl, hx⟩ := (hr.below hb0).cell m (by omega)
  obtain ⟨y, hy⟩ : ∃ y, xs.getD m 0 = y := ⟨_, rfl⟩
  have HR : Hid (r = (y != 0)) := Lib.hid (by
   rw [← hrr]
   refine decP_of ?_
   have e : xs.length - 1 = m := by omega
   simp only [NormalI, h0, false_and, false_or, ne_eq, not_false_eq_true, true_and, e, hy, bne_iff_ne])
  rw [hy] at hx
  have e1 : ((m + 1 : Nat) : Int) - 1 = m := by omega
  rw [hm] at hn hb0 HB hx ⊢
  clear hr hb0 hl hm hy hrr
  have hmn : m < m + 1 := Nat.lt_succ_self m
  go_enter Tryz.func137, Tryz.ntmps137
  go_wp2
  go_ret
  exact ⟨by rw [HR.out]; rfl, HB.out⟩
theorem simple_any (n : Int) (w : World) (h0 : 0 ≤ n) (h1 : n ≤ 18446744073709551615) :
  Calls Tryz.prog 141 #[.int .u64 n] w fun e w' => e = .returned (.bool (decP (SimpleN n))) ∧ w' = w := by
 obtain ⟨r, hrr⟩ : ∃ r, decP (SimpleN n) = r := ⟨_, rfl⟩
 rw [hrr]
 have fin : ∀ b : Bool, (b = true ↔ SimpleN n) → Hid (r = b) := fun _ h => Lib.hid (hrr.symm.trans (decP_of h))
 by_cases c1 : n < 20
 ·have HR := fin true (by simp [SimpleN, c1])
  clear fin hrr
  go_enter Tryz.func141, Tryz.ntmps141
  go_wp2
  go_ret
  exact ⟨by rw [HR.out]; rfl, rfl⟩
 ·by_cases c2 : n = 23
  ·subst c2
   have HR := fin true (by simp [SimpleN])
   clear fin hrr
   go_enter Tryz.func141, Tryz.ntmps141
   go_wp2
   go_ret
   exact ⟨by rw [HR.out]; rfl, rfl⟩
  ·have c2' : (n == 23) = false := by simpa using c2
   by_cases c3 : 32 ≤ n
   ·by_cases c4 : n < 256
    ·have HR := fin true (by simp [SimpleN, c3, c4])
     clear fin hrr
     go_enter Tryz.func141, Tryz.ntmps141
     go_wp2
     go_ret
     exact ⟨by rw [HR.out]; rfl, rfl⟩
    ·have HR := fin false (by simp [SimpleN]; omega)
     clear fin hrr
     go_enter Tryz.func141, Tryz.ntmps141
     go_wp2
     go_ret
     exact ⟨by rw [HR.out]; rfl, rfl⟩
   ·have HR := fin false (by simp [SimpleN]; omega)
    clear fin hrr
    go_enter Tryz.func141, Tryz.ntmps141
    go_wp2
    go_ret
    exact ⟨by rw [HR.out]; rfl, rfl⟩
end Go.Proofs.YtcpkjmpbpmeclaaGreatDoor
namespace Go.Proofs.YtcpkjmpbpmeclaaGreatDoor
open Go.RowKit
set_option maxRecDepth 100000
set_option linter.unusedVariables false
set_option linter.unusedSimpArgs false
set_option linter.unnecessarySimpa false

theorem wraps_i64 (n : Int) (h₀ : 0 ≤ n) (h₁ : n < 2 ^ 40) : IntKind.i64.wrap n = n := by
 rw [IntKind.wrap_i64]; omega
set_option maxHeartbeats 2000000 in
theorem rising_of (A : Option Addr) (n c : Nat) (l : List VT) (w : World) (hl : l.length = n) (hn : n ≤ 1000000000) (hr : VRow w A l)
  (hk : ∀ i j (h1 : i < l.length) (h2 : j < l.length) W, Below w.heap.size w W → Calls Tryz.prog 23 #[(l[i]).agg, (l[j]).agg] W fun e w' => e = .returned (.int .i64 (cmpV (l[i]) (l[j]))) ∧ Below W.heap.size W w') :
  Calls Tryz.prog 140 #[.slice A n c] w fun e w' => e = .returned (.bool (decP (RisingV l))) ∧ Below w.heap.size w w' := by
 obtain ⟨r, hrr⟩ : ∃ r, decP (RisingV l) = r := ⟨_, rfl⟩
 rw [hrr]
 have HRR := Lib.hid hrr
 have HR := Lib.hid hr
 have HK := Lib.hid hk
 have HL := Lib.hid hl
 clear hr hk hl hrr
 go_enter Tryz.func140, Tryz.ntmps140
 go_wp2
 go_loopw [3] (fun i W => ∃ q p : Nat, i = .int .i64 (p : Nat) ∧ Hid (p = q + 2 ∧ q % 2 = 0) ∧ p ≤ n + 2 ∧ Hid (∀ t (h : t + 2 < l.length), t < q → t % 2 = 0 → cmpV (l[t]'(by omega)) (l[t + 2]) < 0) ∧ Below w.heap.size w W) (fun i _ => n + 2 - (intOf i).toNat)
 case atStart => exact ⟨0, 2, rfl, Lib.hid ⟨rfl, rfl⟩, by omega, Lib.hid fun t h h2 => by omega, Below.refl _ _⟩
 case round =>
  obtain ⟨q, p, rfl, HP, hp, HS, hB⟩ := hrel
  by_cases hlt : p < n
  ·have hqn : q < n := by have := HP.out; omega
   have e1 : (p : Int) - 2 = (q : Nat) := by have := HP.out; omega
   have e7 : IntKind.i64.wrap (q : Int) = q := wraps_i64 _ (by omega) (by omega)
   have hql : q < l.length := by rw [HL.out]; exact hqn
   have hpl : p < l.length := by rw [HL.out]; exact hlt
   have hrw := HR.out.below hB
   obtain ⟨b, off, xk, xn, xg, xmA, xml, xmc, xb, xe, xt, xA, xl, xc, rfl, r0, r1, r2, r3, r4, r5, r6, r7, hC⟩ := hrw.kid hql (C := fun u => ∀ W, Below w.heap.size w W → Calls Tryz.prog 23 #[u, (l[p]).agg] W fun e w' => e = .returned (.int .i64 (cmpV (l[q]) (l[p]))) ∧ Below W.heap.size W w') (HK.out q p hql hpl)
   obtain ⟨b2, off2, yk, yn, yg, ymA, yml, ymc, yb, ye, yt, yA, yl, yc, hbo, s0, s1, s2, s3, s4, s5, s6, s7, hD⟩ := hrw.kid hpl (C := fun u => ∀ W, Below w.heap.size w W → Calls Tryz.prog 23 #[_, u] W fun e w' => e = .returned (.int .i64 (cmpV (l[q]) (l[p]))) ∧ Below W.heap.size W w') hC
   injection hbo with hbo
   injection hbo with e3 e4 e5
   subst e3
   subst e4
   obtain ⟨z, hz⟩ : ∃ z, cmpV (l[q]'hql) (l[p]'hpl) = z := ⟨_, rfl⟩
   have HZ : Hid (∀ (a : q < l.length) (b : p < l.length), cmpV l[q] l[p] = z) := Lib.hid fun _ _ => hz
   rw [hz] at hD
   have HD := Lib.hid hD
   have HB := Lib.hid hB
   have HX : Hid (∀ a b, cmpV a b = z → True) := Lib.hid fun _ _ _ => trivial
   clear hC hD hz hrw hql hpl e5
   by_cases hneg : z < 0
   ·have hge : (decide (0 ≤ z)) = false := by simp; omega
    have HS2 : Hid (∀ t (h : t + 2 < l.length), t < p → t % 2 = 0 → cmpV (l[t]'(by omega)) (l[t + 2]) < 0) := Lib.hid fun t h h1 h2 => by
     have hpq := HP.out
     by_cases ht : t = q
     ·subst ht
      have e6 : p = t + 2 := hpq.1
      subst e6
      rw [HZ.out (by omega) h]
      exact hneg
     ·exact HS.out t h (by omega) h2
    have HP2 : Hid (p + 2 = p + 2 ∧ p % 2 = 0) := Lib.hid ⟨rfl, by have := HP.out; omega⟩
    go_upto_region 4 with fail
    go_region_law (go_simp; go_at_call 23; refine (HD.out _ (by first | exact HB.out | exact trans_b HB.out (Below.refl _ _).drew)).mono ?_; rintro e w1 ⟨rfl, hb1'⟩; have hb1 : Hid (Below wr.heap.size wr w1) := Lib.hid (by first | exact hb1' | exact ((Below.refl wr.heap.size wr).drew).trans hb1'); clear hb1')
    all_goals (
     clear r0 r1 r2 r3 r4 r5 r6 r7 s0 s1 s2 s3 s4 s5 s6 s7
     go_wp2
     exact ⟨⟨p, p + 2, by go_num, HP2, by omega, HS2, trans_b HB.out hb1.out⟩, by simp [intOf]; omega⟩)
   ·have hge : (decide (0 ≤ z)) = true := by simp; omega
    have HF : Hid (r = false) := Lib.hid (by
     rw [← HRR.out]
     refine decP_no.2 fun h => ?_
     have hpq := HP.out
     have hll := HL.out
     have := h.2 q (by omega) hpq.2
     have e6 : p = q + 2 := hpq.1
     subst e6
     rw [HZ.out (by omega) (by omega)] at this
     exact hneg this)
    go_upto_region 4 with fail
    go_region_law (go_simp; go_at_call 23; refine (HD.out _ (by first | exact HB.out | exact trans_b HB.out (Below.refl _ _).drew)).mono ?_; rintro e w1 ⟨rfl, hb1'⟩; have hb1 : Hid (Below wr.heap.size wr w1) := Lib.hid (by first | exact hb1' | exact ((Below.refl wr.heap.size wr).drew).trans hb1'); clear hb1')
    all_goals (
     clear r0 r1 r2 r3 r4 r5 r6 r7 s0 s1 s2 s3 s4 s5 s6 s7
     go_wp2
     go_ret
     exact ⟨by rw [HF.out]; rfl, trans_b HB.out hb1.out⟩)
  ·have HB := Lib.hid hB
   have HF : Hid (r = decide (n % 2 = 0)) := Lib.hid (by
    rw [← HRR.out]
    refine decP_of ?_
    have hpq := HP.out
    have hll := HL.out
    simp only [decide_eq_true_eq, RisingV]
    refine ⟨fun h => ⟨by omega, fun i hi h2 => HS.out i hi (by omega) h2⟩, fun h => by have := h.1; omega⟩)
   rcases Nat.mod_two_eq_zero_or_one n with h2 | h2
   ·have e2 : ((n : Int).tmod 2) = 0 := by rw [Int.tmod_eq_emod_of_nonneg (by omega)]; omega
    go_wp2
    go_ret
    exact ⟨by rw [HF.out, h2]; rfl, HB.out⟩
   ·have e2 : ((n : Int).tmod 2) = 1 := by rw [Int.tmod_eq_emod_of_nonneg (by omega)]; omega
    go_wp2
    go_ret
    exact ⟨by rw [HF.out, h2]; rfl, HB.out⟩
end Go.Proofs.YtcpkjmpbpmeclaaGreatDoor
namespace Go.Proofs.YtcpkjmpbpmeclaaGreatDoor
open Go.RowKit
set_option maxRecDepth 100000
set_option linter.unusedVariables false
set_option linter.unusedSimpArgs false
set_option linter.unnecessarySimpa false

/-- What is asked at the end: all that is left is nothing. -/
def tailB (ok : Bool) (n : Int) (g : Bool) (ml : Nat) (b e : Int) (t : ByteArray) (m : Nat) : Bool :=
 ok && (decide (n = 0) && (!g && (decide (ml = 0) && (decide (b = 0) && (decide (e = 0) && (decide (t.size = 0) && decide (m = 0)))))))
theorem tailB_iff {ok : Bool} {n : Int} {g : Bool} {ml : Nat} {b e : Int} {t : ByteArray} {m : Nat} : tailB ok n g ml b e t m = true ↔ ok = true ∧ n = 0 ∧ g = false ∧ ml = 0 ∧ b = 0 ∧ e = 0 ∧ t.size = 0 ∧ m = 0 := by
 simp [tailB]
theorem alone_tail (v : VT) (ok : Bool) (n : Int) (g : Bool) (ml : Nat) (b e : Int) (t : ByteArray) (m : Nat) (hok : ok = true ↔ KindOk v)
  (hn : n = 0 ↔ (v.k ≠ 2 → v.k ≠ 9 → v.k ≠ 10 → v.n = 0)) (hi : (g = false ∧ ml = 0) ↔ (v.k ≠ 3 → v.neg = false ∧ v.mag.length = 0)) (hb : b = 0 ↔ (v.k ≠ 4 → v.bits = 0)) (he : e = 0 ↔ (v.k ≠ 11 → v.ext = 0))
  (ht : t.size = 0 ↔ (v.k ≠ 5 → v.k ≠ 6 → v.k ≠ 11 → v.text.size = 0)) (hm : m = 0 ↔ (v.k ≠ 7 → v.k ≠ 8 → v.k ≠ 9 → v.l.length = 0)) : alone v = tailB ok n g ml b e t m := by
 unfold alone
 refine decP_of ?_
 rw [tailB_iff]
 constructor
 ·rintro ⟨h1, h2, h3, h3', h4, h5, h6, h7⟩
  have hi2 := hi.1 ⟨h3, h3'⟩
  exact ⟨hok.1 h1, hn.1 h2, fun hk => ⟨(hi2 hk).1, List.eq_nil_of_length_eq_zero (hi2 hk).2⟩, hb.1 h4, he.1 h5, ht.1 h6, fun k1 k2 k3 => List.eq_nil_of_length_eq_zero (hm.1 h7 k1 k2 k3)⟩
 ·rintro ⟨h1, h2, h3, h4, h5, h6, h7⟩
  obtain ⟨i1, i2⟩ := hi.2 fun hk => ⟨(h3 hk).1, by rw [(h3 hk).2]; rfl⟩
  exact ⟨hok.2 h1, hn.2 h2, i1, i2, hb.2 h4, he.2 h5, ht.2 h6, hm.2 fun k1 k2 k3 => by rw [h7 k1 k2 k3]; rfl⟩
theorem alone_none (v : VT) (h : v.k < 1 ∨ 11 < v.k) : alone v = false := by
 rw [alone_no]
 rintro ⟨h1, _⟩
 unfold KindOk at h1
 omega
section
variable (v : VT)
theorem alone1 (h : v.k = 1) : alone v = tailB true v.n v.neg v.mag.length v.bits v.ext v.text v.l.length := alone_tail v _ _ _ _ _ _ _ _ (by simp [KindOk, h]) (by simp [h]) (by simp [h]) (by simp [h]) (by simp [h]) (by simp [h]) (by simp [h])
theorem alone2 (h : v.k = 2) : alone v = tailB (decide (v.n < 2)) 0 v.neg v.mag.length v.bits v.ext v.text v.l.length := alone_tail v _ _ _ _ _ _ _ _ (by simp [KindOk, h]) (by simp [h]) (by simp [h]) (by simp [h]) (by simp [h]) (by simp [h]) (by simp [h])
theorem alone3 (h : v.k = 3) : alone v = tailB (decP (NormalI v.neg v.mag)) v.n false 0 v.bits v.ext v.text v.l.length := alone_tail v _ _ _ _ _ _ _ _ (by simp [KindOk, h, decP_iff]) (by simp [h]) (by simp [h]) (by simp [h]) (by simp [h]) (by simp [h]) (by simp [h])
theorem alone4 (h : v.k = 4) : alone v = tailB (decP (FloatF v.bits)) v.n v.neg v.mag.length 0 v.ext v.text v.l.length := alone_tail v _ _ _ _ _ _ _ _ (by simp [KindOk, h, decP_iff]) (by simp [h]) (by simp [h]) (by simp [h]) (by simp [h]) (by simp [h]) (by simp [h])
theorem alone5 (h : v.k = 5) : alone v = tailB (decide (Utf.badF v.text = v.text.size)) v.n v.neg v.mag.length v.bits v.ext ⟨#[]⟩ v.l.length := alone_tail v _ _ _ _ _ _ _ _ (by simp [KindOk, h]) (by simp [h]) (by simp [h]) (by simp [h]) (by simp [h]) (by simp [h]; rfl) (by simp [h])
theorem alone6 (h : v.k = 6) : alone v = tailB true v.n v.neg v.mag.length v.bits v.ext ⟨#[]⟩ v.l.length := alone_tail v _ _ _ _ _ _ _ _ (by simp [KindOk, h]) (by simp [h]) (by simp [h]) (by simp [h]) (by simp [h]) (by simp [h]; rfl) (by simp [h])
theorem alone7 (h : v.k = 7) : alone v = tailB true v.n v.neg v.mag.length v.bits v.ext v.text 0 := alone_tail v _ _ _ _ _ _ _ _ (by simp [KindOk, h]) (by simp [h]) (by simp [h]) (by simp [h]) (by simp [h]) (by simp [h]) (by simp [h])
theorem alone8 (h : v.k = 8) : alone v = tailB (decP (RisingV v.l)) v.n v.neg v.mag.length v.bits v.ext v.text 0 := alone_tail v _ _ _ _ _ _ _ _ (by simp [KindOk, h, decP_iff]) (by simp [h]) (by simp [h]) (by simp [h]) (by simp [h]) (by simp [h]) (by simp [h])
theorem alone9 (h : v.k = 9) : alone v = tailB (decide (v.n ≠ 2) && (decide (v.n ≠ 3) && decide (v.l.length = 1))) 0 v.neg v.mag.length v.bits v.ext v.text 0 := alone_tail v _ _ _ _ _ _ _ _ (by simp [KindOk, h]) (by simp [h]) (by simp [h]) (by simp [h]) (by simp [h]) (by simp [h]) (by simp [h])
theorem alone10 (h : v.k = 10) : alone v = tailB (decP (SimpleN v.n)) 0 v.neg v.mag.length v.bits v.ext v.text v.l.length := alone_tail v _ _ _ _ _ _ _ _ (by simp [KindOk, h, decP_iff]) (by simp [h]) (by simp [h]) (by simp [h]) (by simp [h]) (by simp [h]) (by simp [h])
theorem alone11 (h : v.k = 11) : alone v = tailB true v.n v.neg v.mag.length v.bits 0 ⟨#[]⟩ v.l.length := alone_tail v _ _ _ _ _ _ _ _ (by simp [KindOk, h]) (by simp [h]) (by simp [h]) (by simp [h]) (by simp [h]) (by simp [h]; rfl) (by simp [h])
end
end Go.Proofs.YtcpkjmpbpmeclaaGreatDoor
