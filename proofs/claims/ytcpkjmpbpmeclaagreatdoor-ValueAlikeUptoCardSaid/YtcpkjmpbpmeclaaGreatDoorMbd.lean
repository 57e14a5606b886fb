/- Rfa · Raa · Rba · Rca · Rda · Rea · Rka · Rla · Rma · Rna: merged. -/
import Derived.Test.YtcpkjmpbpmeclaaGreatDoorMai
import Derived.Test.YtcpkjmpbpmeclaaGreatDoorMOha
import Derived.Test.YtcpkjmpbpmeclaaGreatDoorMat
import Derived.Test.YtcpkjmpbpmeclaaGreatDoorMak
import Derived.Deep.DeepMust
import Derived.Test.YtcpkjmpbpmeclaaGreatDoorMaq
import Derived.Test.YtcpkjmpbpmeclaaGreatDoorMan
import Derived.Lib.AppendStr
namespace Go.Proofs.YtcpkjmpbpmeclaaGreatDoor
open Go.RowKit
set_option maxRecDepth 100000
set_option linter.unusedVariables false
set_option linter.unusedSimpArgs false
set_option linter.unnecessarySimpa false

theorem rNormal_any (g : Bool) (A : Option Addr) (c : Nat) (xs : List Int) (w : World) (hn : xs.length ≤ 1000000000) (hr : RK w .u32 A xs) :
  Calls Tryz.prog 202 #[.agg #[.bool g, .slice A xs.length c]] w fun e w' => e = .returned (.bool (decP (NormalI g xs))) ∧ Below w.heap.size w w' := by
 obtain ⟨r, hrr⟩ : ∃ r, decP (NormalI g xs) = r := ⟨_, rfl⟩
 rw [hrr]
 have hb0 : Below w.heap.size w (w.alloc (.cells #[.bool g, .slice A xs.length c] 28)) := (Below.refl _ _).alloc (Nat.le_refl _) _
 have HB := Lib.hid hb0
 by_cases h0 : xs = []
 ·subst h0
  have HR : Hid (r = !g) := Lib.hid (by rw [← hrr]; exact decP_of (by cases g <;> simp [NormalI]))
  clear hr hn hb0 hrr
  cases g
  ·go_enter Tryz.func202, Tryz.ntmps202
   go_wp2
   go_ret
   exact ⟨by rw [HR.out]; rfl, HB.out⟩
  ·go_enter Tryz.func202, Tryz.ntmps202
   go_wp2
   go_ret
   exact ⟨by rw [HR.out]; rfl, HB.out⟩
 ·have hl : xs.length ≠ 0 := fun e => h0 (List.eq_nil_of_length_eq_zero e)
  obtain ⟨m, hm⟩ : ∃ m, xs.length = m + 1 := ⟨xs.length - 1, by omega⟩
  obtain ⟨b, off, rfl, hx⟩ := (hr.below hb0).cell m (by omega)
  obtain ⟨y, hy⟩ : ∃ y, xs.getD m 0 = y := ⟨_, rfl⟩
  have HR : Hid (r = (y != 0)) := Lib.hid (by
   rw [← hrr]
   refine decP_of ?_
   have e : xs.length - 1 = m := by omega
   simp only [NormalI, h0, false_and, false_or, ne_eq, not_false_eq_true, true_and, e, hy, bne_iff_ne])
  rw [hy] at hx
  have e1 : ((m + 1 : Nat) : Int) - 1 = m := by omega
  rw [hm] at hn hb0 HB hx ⊢
  clear hr hb0 hl hm hy hrr
  have hmn : m < m + 1 := Nat.lt_succ_self m
  go_enter Tryz.func202, Tryz.ntmps202
  go_wp2
  go_ret
  exact ⟨by rw [HR.out]; rfl, HB.out⟩
set_option maxHeartbeats 2000000 in
theorem rRising_of (A : Option Addr) (n c : Nat) (l : List VT) (w : World) (hl : l.length = n) (hn : n ≤ 1000000000) (hr : VRow w A l)
  (hk : ∀ i j (h1 : i < l.length) (h2 : j < l.length) W, Below w.heap.size w W → Calls Tryz.prog 22 #[(l[i]).agg, (l[j]).agg] W fun e w' => e = .returned (.int .i64 (cmpV (l[i]) (l[j]))) ∧ Below W.heap.size W w') :
  Calls Tryz.prog 205 #[.slice A n c] w fun e w' => e = .returned (.bool (decP (RisingV l))) ∧ Below w.heap.size w w' := by
 obtain ⟨r, hrr⟩ : ∃ r, decP (RisingV l) = r := ⟨_, rfl⟩
 rw [hrr]
 have HRR := Lib.hid hrr
 have HR := Lib.hid hr
 have HK := Lib.hid hk
 have HL := Lib.hid hl
 clear hr hk hl hrr
 go_enter Tryz.func205, Tryz.ntmps205
 go_wp2
 go_loopw [3] (fun i W => ∃ q p : Nat, i = .int .i64 (p : Nat) ∧ Hid (p = q + 2 ∧ q % 2 = 0) ∧ p ≤ n + 2 ∧ Hid (∀ t (h : t + 2 < l.length), t < q → t % 2 = 0 → cmpV (l[t]'(by omega)) (l[t + 2]) < 0) ∧ Below w.heap.size w W) (fun i _ => n + 2 - (intOf i).toNat)
 case atStart => exact ⟨0, 2, rfl, Lib.hid ⟨rfl, rfl⟩, by omega, Lib.hid fun t h h2 => by omega, Below.refl _ _⟩
 case round =>
  obtain ⟨q, p, rfl, HP, hp, HS, hB⟩ := hrel
  by_cases hlt : p < n
  ·have hqn : q < n := by have := HP.out; omega
   have e1 : (p : Int) - 2 = (q : Nat) := by have := HP.out; omega
   have e7 : IntKind.i64.wrap (q : Int) = q := wraps_i64 _ (by omega) (by omega)
   have hql : q < l.length := by rw [HL.out]; exact hqn
   have hpl : p < l.length := by rw [HL.out]; exact hlt
   have hrw := HR.out.below hB
   obtain ⟨b, off, xk, xn, xg, xmA, xml, xmc, xb, xe, xt, xA, xl, xc, rfl, r0, r1, r2, r3, r4, r5, r6, r7, hC⟩ := hrw.kid hql (C := fun u => ∀ W, Below w.heap.size w W → Calls Tryz.prog 22 #[u, (l[p]).agg] W fun e w' => e = .returned (.int .i64 (cmpV (l[q]) (l[p]))) ∧ Below W.heap.size W w') (HK.out q p hql hpl)
   obtain ⟨b2, off2, yk, yn, yg, ymA, yml, ymc, yb, ye, yt, yA, yl, yc, hbo, s0, s1, s2, s3, s4, s5, s6, s7, hD⟩ := hrw.kid hpl (C := fun u => ∀ W, Below w.heap.size w W → Calls Tryz.prog 22 #[_, u] W fun e w' => e = .returned (.int .i64 (cmpV (l[q]) (l[p]))) ∧ Below W.heap.size W w') hC
   injection hbo with hbo
   injection hbo with e3 e4 e5
   subst e3
   subst e4
   obtain ⟨z, hz⟩ : ∃ z, cmpV (l[q]'hql) (l[p]'hpl) = z := ⟨_, rfl⟩
   have HZ : Hid (∀ (a : q < l.length) (b : p < l.length), cmpV l[q] l[p] = z) := Lib.hid fun _ _ => hz
   rw [hz] at hD
   have HD := Lib.hid hD
   have HB := Lib.hid hB
   have HX : Hid (∀ a b, cmpV a b = z → True) := Lib.hid fun _ _ _ => trivial
   clear hC hD hz hrw hql hpl e5
   by_cases hneg : z < 0
   ·have hge : (decide (0 ≤ z)) = false := by simp; omega
    have HS2 : Hid (∀ t (h : t + 2 < l.length), t < p → t % 2 = 0 → cmpV (l[t]'(by omega)) (l[t + 2]) < 0) := Lib.hid fun t h h1 h2 => by
     have hpq := HP.out
     by_cases ht : t = q
     ·subst ht
      have e6 : p = t + 2 := hpq.1
      subst e6
      rw [HZ.out (by omega) h]
      exact hneg
     ·exact HS.out t h (by omega) h2
    have HP2 : Hid (p + 2 = p + 2 ∧ p % 2 = 0) := Lib.hid ⟨rfl, by have := HP.out; omega⟩
    go_upto_region 4 with fail
    go_region_law (go_simp; go_at_call 22; refine (HD.out _ (by first | exact HB.out | exact trans_b HB.out (Below.refl _ _).drew)).mono ?_; rintro e w1 ⟨rfl, hb1'⟩; have hb1 : Hid (Below wr.heap.size wr w1) := Lib.hid (by first | exact hb1' | exact ((Below.refl wr.heap.size wr).drew).trans hb1'); clear hb1')
    all_goals (
     clear r0 r1 r2 r3 r4 r5 r6 r7 s0 s1 s2 s3 s4 s5 s6 s7
     go_wp2
     exact ⟨⟨p, p + 2, by go_num, HP2, by omega, HS2, trans_b HB.out hb1.out⟩, by simp [intOf]; omega⟩)
   ·have hge : (decide (0 ≤ z)) = true := by simp; omega
    have HF : Hid (r = false) := Lib.hid (by
     rw [← HRR.out]
     refine decP_no.2 fun h => ?_
     have hpq := HP.out
     have hll := HL.out
     have := h.2 q (by omega) hpq.2
     have e6 : p = q + 2 := hpq.1
     subst e6
     rw [HZ.out (by omega) (by omega)] at this
     exact hneg this)
    go_upto_region 4 with fail
    go_region_law (go_simp; go_at_call 22; refine (HD.out _ (by first | exact HB.out | exact trans_b HB.out (Below.refl _ _).drew)).mono ?_; rintro e w1 ⟨rfl, hb1'⟩; have hb1 : Hid (Below wr.heap.size wr w1) := Lib.hid (by first | exact hb1' | exact ((Below.refl wr.heap.size wr).drew).trans hb1'); clear hb1')
    all_goals (
     clear r0 r1 r2 r3 r4 r5 r6 r7 s0 s1 s2 s3 s4 s5 s6 s7
     go_wp2
     go_ret
     exact ⟨by rw [HF.out]; rfl, trans_b HB.out hb1.out⟩)
  ·have HB := Lib.hid hB
   have HF : Hid (r = decide (n % 2 = 0)) := Lib.hid (by
    rw [← HRR.out]
    refine decP_of ?_
    have hpq := HP.out
    have hll := HL.out
    simp only [decide_eq_true_eq, RisingV]
    refine ⟨fun h => ⟨by omega, fun i hi h2 => HS.out i hi (by omega) h2⟩, fun h => by have := h.1; omega⟩)
   rcases Nat.mod_two_eq_zero_or_one n with h2 | h2
   ·have e2 : ((n : Int).tmod 2) = 0 := by rw [Int.tmod_eq_emod_of_nonneg (by omega)]; omega
    go_wp2
    go_ret
    exact ⟨by rw [HF.out, h2]; rfl, HB.out⟩
   ·have e2 : ((n : Int).tmod 2) = 1 := by rw [Int.tmod_eq_emod_of_nonneg (by omega)]; omega
    go_wp2
    go_ret
    exact ⟨by rw [HF.out, h2]; rfl, HB.out⟩
end Go.Proofs.YtcpkjmpbpmeclaaGreatDoor
namespace Go.Proofs.YtcpkjmpbpmeclaaGreatDoor
open Go.RowKit
set_option maxRecDepth 100000
set_option linter.unusedVariables false
set_option linter.unusedSimpArgs false
set_option linter.unnecessarySimpa false

/-- A number in a block of its own, without noughts at its end, by what it says. -/
def NatV (w : World) (z : Int) (e : Ending) (w' : World) : Prop := ∃ h k zs, e = .returned (.slice (some ⟨h, 0, none⟩) k k) ∧ Hid (w.heap.size ≤ h ∧ zs.length = k ∧ Limbs zs ∧ CutAt zs k ∧ magV zs = z ∧ w'.heap[h]? = some (.cells (numsK .u32 zs).toArray 92 (0, 0))) ∧ Below w.heap.size w w'
theorem limbsP_v {w w' : World} {n : Nat} {ys : List Int} {z : Int} {e : Ending} (h : LimbsP w n ys e w') (hz : magY ys = z) : NatV w z e w' := by
 obtain ⟨h, k, zs, e1, hh, hb⟩ := h
 obtain ⟨a1, a2, a3, a4, a5, a6, a7⟩ := hh.out
 exact ⟨h, k, zs, e1, Lib.hid ⟨a1, a3, a4, a5, a6.trans hz, a7⟩, hb⟩
theorem NatV.from_ {w w0 w' : World} {z : Int} {e : Ending} (h : NatV w z e w') (hb : Below w0.heap.size w0 w) : NatV w0 z e w' := by
 obtain ⟨h, k, zs, e1, hh, hb2⟩ := h
 obtain ⟨a1, a2⟩ := hh.out
 exact ⟨h, k, zs, e1, Lib.hid ⟨Nat.le_trans hb.size a1, a2⟩, trans_b hb hb2⟩
theorem trim_nil (w : World) : Calls Tryz.prog 239 #[.slice none 0 0] w fun e w' => e = .returned (.slice none 0 0) ∧ w = w' := by
 go_enter Tryz.func239, Tryz.ntmps239
 go_wp2
 refine wp_loop_rounds 1 ?_
 repeat any_goals (rw [rounds_succ]; go_wp2)
 go_ret
 exact ⟨rfl, rfl⟩
theorem limbs_nil (w : World) : Calls Tryz.prog 238 #[.slice none 0 0] w (LimbsP w 0 []) := by
 have hmk : (Instr.makeSlice 26 (.int .i64 0) (.int .i64 0)).run Tryz.prog w = .ok (.slice (some ⟨w.heap.size, 0, none⟩) 0 0) (w.alloc (.cells (numsK .u32 []).toArray 92)) := make_nat w 0 (by omega)
 have hb : Below w.heap.size w (w.alloc (.cells (numsK .u32 []).toArray 92)) := (Below.refl _ _).alloc (Nat.le_refl _) _
 have hn := heap_alloc_new w (.cells (numsK .u32 []).toArray 92)
 have HP : Hid (LimbsP w 0 [] (.returned (.slice (some ⟨w.heap.size, 0, none⟩) 0 0)) (w.alloc (.cells (numsK .u32 []).toArray 92))) := Lib.hid ⟨w.heap.size, 0, [], rfl, Lib.hid ⟨Nat.le_refl _, rfl, rfl, fun x hx => by simp at hx, ⟨Nat.le_refl _, fun j h1 h2 => by simp at h2, .inl rfl⟩, rfl, hn⟩, hb⟩
 generalize (w.alloc (.cells (numsK .u32 []).toArray 92)) = W1 at *
 clear hb hn
 go_enter Tryz.func238, Tryz.ntmps238
 go_wp2_with (go_at_call 239; refine (trim_nil _).mono ?_; rintro e w1 ⟨rfl, rfl⟩)
 refine wp_loop_rounds 1 ?_
 repeat any_goals (rw [rounds_succ]; go_wp2)
 go_ret
 exact HP.out
theorem limbs_own (v : Value) (L : List Int) (w0 w : World) (hO : Own w w0.heap.size 3 .i64 v L) (hb : Bys L) (hn : L.length ≤ 4000000000) :
  Calls Tryz.prog 238 #[v] w fun e w' => NatV w (magY L) e w' := by
 rcases hO.2 with ⟨rfl, h0⟩ | ⟨g, cap, cur, rfl, h1, h2, h3, h4, h5, h6⟩
 ·obtain rfl : L = [] := List.eq_nil_of_length_eq_zero h0
  exact (limbs_nil w).mono fun e w' h => limbsP_v h rfl
 ·obtain ⟨A, c, e1, hr, -, -⟩ := hO.slice
  injection e1 with e2 e3 e4
  subst e2
  exact (limbs_gen g L.length cap L w rfl hn h3 hb hr).mono fun e w' ⟨m, _, h⟩ => limbsP_v h rfl
theorem magY_snoc (L : List Int) (y : Int) : magY (L ++ [y]) = magY L + powY L.length * y := by rw [magY_app]; simp [magY]
theorem Bys.snoc {L : List Int} {y : Int} (h : Bys L) (h0 : 0 ≤ y) (h1 : y ≤ 255) : Bys (L ++ [y]) := fun x hx => by
 rcases List.mem_append.1 hx with hx | hx
 ·exact h x hx
 ·simp at hx; subst hx; exact ⟨h0, h1⟩
set_option maxHeartbeats 1000000 in
theorem refFrom_any (x : Int) (w : World) (h0 : 0 ≤ x) (h1 : x ≤ 18446744073709551615) : Calls Tryz.prog 207 #[.int .u64 x] w fun e w' => NatV w x e w' := by
 have HX := Lib.hid (And.intro h0 h1)
 go_enter Tryz.func207, Tryz.ntmps207
 go_wp2
 go_loopw [0, 3] (fun t0 t3 W => ∃ (y : Int) (sl : Value) (L : List Int), t0 = .int .u64 y ∧ t3 = sl ∧ 0 ≤ y ∧ y ≤ 18446744073709551615 ∧ Hid (Own W w.heap.size 3 .i64 sl L ∧ Bys L ∧ magY L + powY L.length * y = x ∧ L.length ≤ 8) ∧ Below w.heap.size w W) (fun t0 _ _ => (intOf t0).toNat)
 case atStart => exact ⟨x, _, [], rfl, rfl, h0, h1, Lib.hid ⟨Own.nil _ _ _ _, fun z hz => by simp at hz, by simp [magY, powY], by simp⟩, Below.refl _ _⟩
 case round =>
  obtain ⟨y, sl, L, rfl, rfl, hy0, hy1, HI, hb⟩ := hrel
  clear h0 h1
  by_cases hz : y = 0
  ·subst hz
   have HM : Hid (magY L = x) := Lib.hid (by have := HI.out.2.2.1; simpa using this)
   have hL : L.length ≤ 8 := HI.out.2.2.2
   go_wp2_with (go_at_call 238; go_must (refine (limbs_own _ L w _ HI.out.1 HI.out.2.1 (by omega)).mono ?_); go_must (rintro e w1 ⟨h, k, zs, rfl, HH, hb1⟩))
   go_ret
   exact NatV.from_ ⟨h, k, zs, rfl, by rw [← HM.out]; exact HH, hb1⟩ hb
  ·have hpos : decide ((0 : Int) < y) = true := decide_eq_true (by omega)
   obtain ⟨r, hr⟩ : ∃ r, y % 256 = r := ⟨_, rfl⟩
   obtain ⟨q, hq⟩ : ∃ q, y / 256 = q := ⟨_, rfl⟩
   have hr1 : y.tmod 256 = r := by rw [Int.tmod_eq_emod_of_nonneg (by omega)]; exact hr
   have hq1 : y.tdiv 256 = q := by rw [Int.tdiv_eq_ediv_of_nonneg (by omega)]; exact hq
   have hrb : 0 ≤ r ∧ r ≤ 255 := by omega
   obtain ⟨hr0, hr2⟩ := hrb
   have hqb : 0 ≤ q ∧ q ≤ 18446744073709551615 := by omega
   obtain ⟨hq0, hq2⟩ := hqb
   have hqy : q < y := by omega
   have HRQ : Hid (y = r + 256 * q) := Lib.hid (by omega)
   have HL7 : Hid (L.length ≤ 7) := Lib.hid (by
    by_cases h8 : L.length ≤ 7
    ·exact h8
    ·have e := HI.out.2.2.1
     have p1 := powY_le (m := 8) (n := L.length) (by omega)
     have p2 := (magY_bound L HI.out.2.1).1
     have p3 : powY 8 = 18446744073709551616 := by decide
     have p4 : powY L.length * 1 ≤ powY L.length * y := Int.mul_le_mul_of_nonneg_left (by omega) (by omega)
     have := HX.out.2
     omega)
   clear hr hq
   have hbs : w.heap.size ≤ wr.heap.size := hb.size
   go_upto_region 4 with (at_builtin; go_must (refine app1 (w0 := w) w.heap.size rfl (.tmp 6) (.tmp 10) 93 3 .i64 8 rfl Tryz.underlying93 info_int _ L r rfl rfl HI.out.1 hb hbs (by have := HL7.out; omega) (by have := HL7.out; omega) ?_); go_must (intro v2 w3 hO3 hb3 hg3))
   have HI2 : Hid (Own w3 w.heap.size 3 .i64 v2 (L ++ [r]) ∧ Bys (L ++ [r]) ∧ magY (L ++ [r]) + powY (L ++ [r]).length * q = x ∧ (L ++ [r]).length ≤ 8) := Lib.hid (by
    refine ⟨hO3, HI.out.2.1.snoc hr0 hr2, ?_, by have := HL7.out; simp; omega⟩
    have e := HI.out.2.2.1
    rw [magY_snoc, List.length_append, List.length_singleton, powY_succ, ← e, HRQ.out, Int.mul_add, Int.mul_comm 256 (powY L.length), Int.mul_assoc, Int.add_assoc])
   clear hO3 hg3 HI
   go_wp2
   exact ⟨⟨q, v2, L ++ [r], rfl, rfl, hq0, hq2, HI2, hb3⟩, by simp [intOf]; omega⟩
end Go.Proofs.YtcpkjmpbpmeclaaGreatDoor
namespace Go.Proofs.YtcpkjmpbpmeclaaGreatDoor
open Go.RowKit
set_option maxRecDepth 100000
set_option linter.unusedVariables false
set_option linter.unusedSimpArgs false
set_option linter.unnecessarySimpa false

theorem bysRK {W : World} {g n k : Nat} {ys : List Int} (h : RK W .i64 (some ⟨g, 0, none⟩) ys) (hl : ys.length = n) (hk : k < n) : W.cell? ⟨g, k, none⟩ = some (.int .i64 (ys.getD k 0)) := by
 obtain ⟨b, o, e, hc⟩ := h.cell k (by omega)
 cases e
 rwa [Nat.zero_add] at hc
set_option maxHeartbeats 1000000 in
theorem refLen_any (A : Option Addr) (c m : Nat) (xs : List Int) (w : World) (hm : xs.length = m) (hm2 : m ≤ 2) (hx : NatIn w A c xs) :
  Calls Tryz.prog 263 #[.slice A m c] w fun e w' => ∃ z, e = .returned (.int .i64 z) ∧ 0 ≤ z ∧ z ≤ 1000 ∧ Below w.heap.size w w' := by
 have HX := Lib.hid hx
 have HM := Lib.hid hm
 clear hx hm
 go_enter Tryz.func263, Tryz.ntmps263
 go_upto_region 2 with (go_at_call 209; refine (bytes_any A c m xs _ HM.out HX.out).mono ?_; rintro e w1 ⟨g, n, N, ys, rfl, hnN, hn4, HY, hb1⟩; have HB1 := Lib.hid hb1; clear hb1)
 cases n with
 | zero =>
  go_wp2
  go_ret
  exact ⟨0, rfl, by omega, by omega, HB1.out⟩
 | succ n =>
  have hc1 := bysRK HY.out.2.2.2.2.2 HY.out.2.1 (Nat.lt_succ_self n)
  obtain ⟨y, hy⟩ : ∃ y, ys.getD n 0 = y := ⟨_, rfl⟩
  rw [hy] at hc1
  have hyb := HY.out.2.2.1.at n
  rw [hy] at hyb
  obtain ⟨hy0, hy1⟩ := hyb
  have e1 : ((n + 1 : Nat) : Int) - 1 = n := by omega
  have hn8 : n ≤ 7 := by omega
  clear hy
  go_wp2
  go_loopw [4, 5] (fun t4 t5 W => ∃ (a b : Int), t4 = .int .i64 a ∧ t5 = .int .i64 b ∧ 0 ≤ b ∧ b ≤ 255 ∧ 0 ≤ a ∧ a + b ≤ 8 * n + 255 ∧ W = w1) (fun _ t5 _ => (intOf t5).toNat)
  case atStart => exact ⟨_, y, rfl, rfl, hy0, hy1, by omega, by omega, rfl⟩
  case round =>
   obtain ⟨a, b, rfl, rfl, hb0, hb1, ha0, hab, rfl⟩ := hrel
   clear hc1
   by_cases hz : b = 0
   ·subst hz
    go_wp2
    go_ret
    exact ⟨a, rfl, ha0, by omega, HB1.out⟩
   ·have hpos : decide ((0 : Int) < b) = true := decide_eq_true (by omega)
    obtain ⟨q, hq⟩ : ∃ q, b / 2 = q := ⟨_, rfl⟩
    have hq1 : b.tdiv 2 = q := by rw [Int.tdiv_eq_ediv_of_nonneg (by omega)]; exact hq
    have hqb : 0 ≤ q ∧ q + 1 ≤ b := by omega
    obtain ⟨hq0, hq2⟩ := hqb
    clear hq
    go_wp2
    exact ⟨⟨a + 1, q, by go_num, rfl, hq0, by omega, by omega, by omega, trivial⟩, by simp [intOf]; omega⟩
theorem tw_8 (p : Nat) (hp : p < 8) : 1 ≤ tw p ∧ tw p ≤ 128 := by
 have h := tw_le (m := p) (n := 7) (by omega)
 have h7 : tw 7 = 128 := by decide
 have := tw_pos p
 omega
abbrev pw8 : Value := .agg #[.int .i64 1, .int .i64 2, .int .i64 4, .int .i64 8, .int .i64 16, .int .i64 32, .int .i64 64, .int .i64 128]
theorem pw8_at (p : Nat) (hp : p < 8) (W : World) : Sem.run Tryz.prog (Instr.index 328 pw8 (.int .i64 (p : Int))) W = .ok (.int .i64 (tw p)) W := by
 have h : p = 0 ∨ p = 1 ∨ p = 2 ∨ p = 3 ∨ p = 4 ∨ p = 5 ∨ p = 6 ∨ p = 7 := by omega
 rcases h with rfl | rfl | rfl | rfl | rfl | rfl | rfl | rfl <;> rfl
theorem refPower_any (p : Nat) (hp : p < 8) (w : World) : Calls Tryz.prog 264 #[.int .i64 p] w fun e w' => e = .returned (.int .i64 (tw p)) ∧ w' = w := by
 have h := pw8_at p hp
 unfold pw8 at h
 go_enter Tryz.func264, Tryz.ntmps264
 go_wp2
 go_ret
 exact ⟨rfl, rfl⟩
theorem make_intsZ (w : World) (n : Nat) (hn : n ≤ 1099511627776) : (Instr.makeSlice 93 (.int .i64 (n : Int)) (.int .i64 (n : Int))).run Tryz.prog w = .ok (.slice (some ⟨w.heap.size, 0, none⟩) n n) (w.alloc (.cells (numsK .i64 (List.replicate n 0)).toArray 3)) := by
 obtain ⟨i0, hi, hzz⟩ := Option.map_eq_some_iff.1 info_int3
 simp only [Prod.mk.injEq] at hzz
 obtain ⟨hz0, hz1, hz2⟩ := hzz
 rw [run_make (P := Tryz.prog) w 93 3 i0 (.int .i64 0) Tryz.underlying93 hi hz0 .i64 .i64 _ _ (by omega) (by omega) (by rw [hz2]; omega) (by omega), hz1]
 have e : ((n : Int)).toNat = n := by omega
 rw [e, Nat.mul_one]
 congr 3
 apply Array.ext'
 apply List.ext_getElem
 ·simp [madeCells, numsK, size_madeCells]
 ·intro i h1 h2
  have hz : (Value.int .i64 0).cells = #[.int .i64 0] := rfl
  simp [madeCells, numsK, hz, Nat.mod_one]
theorem own_made {W : World} {B g n : Nat} {L : List Int} (hl : L.length = n) (hn : n ≤ 1099511627776) (hg : B ≤ g) (h : W.heap[g]? = some (.cells (numsK .i64 L).toArray 3 (0, 0))) : Own W B 3 .i64 (.slice (some ⟨g, 0, none⟩) n n) L := by
 subst hl
 refine ⟨by simp [numsK], .inr ⟨g, L.length, _, rfl, hg, h, Nat.le_refl _, by simp only [maxLen]; omega, by simp [numsK], ?_⟩⟩
 rw [List.take_of_length_le (by simp [numsK])]
theorem bys_zero (n : Nat) : Bys (List.replicate n 0) := fun x hx => by rw [List.eq_of_mem_replicate hx]; omega
set_option maxHeartbeats 4000000 in
theorem refShl_any (A : Option Addr) (c m n : Nat) (xs : List Int) (w : World) (hm : xs.length = m) (hm2 : m ≤ 2) (hn : n ≤ 2000) (hx : NatIn w A c xs) :
  Calls Tryz.prog 254 #[.slice A m c, .int .i64 n] w fun e w' => ∃ B k b, e = .returned (.tuple #[.slice B k k, .bool b]) ∧ Below w.heap.size w w' := by
 have HX := Lib.hid hx
 have HM := Lib.hid hm
 clear hx hm
 obtain ⟨K, hK⟩ : ∃ K, n / 8 = K := ⟨_, rfl⟩
 obtain ⟨R, hR⟩ : ∃ R, n % 8 = R := ⟨_, rfl⟩
 have hK1 : (n : Int).tdiv 8 = (K : Nat) := by rw [Int.tdiv_eq_ediv_of_nonneg (by omega)]; omega
 have hR1 : (n : Int).tmod 8 = (R : Nat) := by rw [Int.tmod_eq_emod_of_nonneg (by omega)]; omega
 have hR8 : R < 8 := by omega
 have hK8 : K ≤ 250 := by omega
 obtain ⟨q, hq⟩ : ∃ q, tw R = q := ⟨_, rfl⟩
 have HP : Hid (∀ W, Calls Tryz.prog 264 #[.int .i64 R] W fun e w' => e = .returned (.int .i64 q) ∧ w' = W) := Lib.hid fun W => by rw [← hq]; exact refPower_any R hR8 W
 have hqb := tw_8 R hR8
 rw [hq] at hqb
 obtain ⟨hq0, hq1⟩ := hqb
 clear hq
 clear hK hR
 go_enter Tryz.func254, Tryz.ntmps254
 go_upto_region 4 with (go_at_call 209; refine (bytes_any A c m xs _ HM.out HX.out).mono ?_; rintro e w1 ⟨g, n1, N, ys, rfl, hnN, hn4, HY, hb1⟩; have HB1 := Lib.hid hb1; clear hb1)
 by_cases h0 : n1 = 0
 ·subst h0
  go_wp2
  go_ret2
  exact ⟨none, 0, true, rfl, HB1.out⟩
 ·have h0b : ((n1 : Int) == 0) = false := by simp; omega
  clear h0
  have hn1 : n1 ≤ 8 := by omega
  go_upto_region 8 with (go_at_call 263; go_must (refine (refLen_any A c m xs _ HM.out hm2 (HX.out.below HB1.out)).mono ?_); go_must (rintro e w2 ⟨z, rfl, hz0, hz1, hb2⟩; have hzn : decide ((8388608 : Int) < z + (n : Int)) = false := decide_eq_false (by omega); have HB2 := Lib.hid hb2; clear hb2))
  have hmk := make_intsZ w2 K (by omega)
  have HOW : Hid (Own (w2.alloc (.cells (numsK .i64 (List.replicate K 0)).toArray 3)) w1.heap.size 3 .i64 (.slice (some ⟨w2.heap.size, 0, none⟩) K K) (List.replicate K 0)) := Lib.hid (own_made (by simp) (by omega) HB2.out.size (heap_alloc_new w2 _))
  have HBW : Hid (Below w1.heap.size w1 (w2.alloc (.cells (numsK .i64 (List.replicate K 0)).toArray 3))) := Lib.hid (HB2.out.alloc HB2.out.size _)
  go_upto_region 9 with fail
  generalize (w2.alloc (.cells (numsK .i64 (List.replicate K 0)).toArray 3)) = W3 at *
  clear hmk
  go_wp2
  go_loopw [7, 8, 9] (fun t7 t8 t9 W => ∃ (sl : Value) (L : List Int) (cr : Int) (i : Nat), t7 = sl ∧ t8 = .int .i64 cr ∧ t9 = .int .i64 i ∧ 0 ≤ cr ∧ cr ≤ 255 ∧ i ≤ n1 ∧ Hid (Own W w1.heap.size 3 .i64 sl L ∧ Bys L ∧ L.length = K + i) ∧ Below w1.heap.size w1 W) (fun _ _ t9 _ => n1 - (intOf t9).toNat)
  case atStart => exact ⟨_, _, 0, 0, rfl, rfl, rfl, by omega, by omega, Nat.zero_le _, Lib.hid ⟨HOW.out, bys_zero K, by simp⟩, HBW.out⟩
  case round =>
   obtain ⟨sl, L, cr, i, rfl, rfl, rfl, hc0, hc1, hi, HI, hb⟩ := hrel
   have hbs : w1.heap.size ≤ wr.heap.size := hb.size
   by_cases hlt : i < n1
   ·have hx1 := bysRK (HY.out.2.2.2.2.2.below hb) HY.out.2.1 hlt
    obtain ⟨y, hy⟩ : ∃ y, ys.getD i 0 = y := ⟨_, rfl⟩
    rw [hy] at hx1
    have hyb := HY.out.2.2.1.at i
    rw [hy] at hyb
    obtain ⟨hy0, hy1⟩ := hyb
    clear hy
    obtain ⟨P, hP⟩ : ∃ P, y * q = P := ⟨_, rfl⟩
    have hPb : 0 ≤ P ∧ P ≤ 32640 := by
     rw [← hP]
     exact ⟨Int.mul_nonneg hy0 (by omega), Int.le_trans (Int.mul_le_mul hy1 hq1 (by omega) (by omega)) (by decide)⟩
    obtain ⟨hP0, hP1⟩ := hPb
    obtain ⟨r, hr⟩ : ∃ r, (P + cr) % 256 = r := ⟨_, rfl⟩
    obtain ⟨d, hd⟩ : ∃ d, (P + cr) / 256 = d := ⟨_, rfl⟩
    have hr1 : (P + cr).tmod 256 = r := by rw [Int.tmod_eq_emod_of_nonneg (by omega)]; exact hr
    have hd1 : (P + cr).tdiv 256 = d := by rw [Int.tdiv_eq_ediv_of_nonneg (by omega)]; exact hd
    have hrb : 0 ≤ r ∧ r ≤ 255 := by omega
    obtain ⟨hr0, hr2⟩ := hrb
    have hdb : 0 ≤ d ∧ d ≤ 255 := by omega
    obtain ⟨hd0, hd2⟩ := hdb
    clear hr hd
    go_upto_region 13 with fail
    go_quiet ((go_at_call 264; first | exact Calls.quiet_of_same (HP.out _) | exact quiet_add_same (HP.out _)))
    have hbd : Below w1.heap.size w1 (wr.drewN nq) := trans_b hb (below_drewN _ _)
    have HID := Lib.hid (HI.out.1.kept (below_drewN wr nq))
    have hL : L.length ≤ 300 := by have := HI.out.2.2; omega
    have HLL := Lib.hid hL
    clear hx1 hL
    generalize wr.drewN nq = W4 at *
    go_upto_region 15 with (at_builtin; go_must (refine app1 (w0 := w1) w1.heap.size rfl (.tmp 46) (.tmp 49) 93 3 .i64 8 rfl Tryz.underlying93 info_int _ L r rfl rfl HID.out hbd hbd.size (by have := HLL.out; omega) (by have := HLL.out; omega) ?_); go_must (intro v2 w3 hO3 hb3 hg3))
    have HI2 : Hid (Own w3 w1.heap.size 3 .i64 v2 (L ++ [r]) ∧ Bys (L ++ [r]) ∧ (L ++ [r]).length = K + (i + 1)) := Lib.hid ⟨hO3, HI.out.2.1.snoc hr0 hr2, by have := HI.out.2.2; simp; omega⟩
    clear hO3 hg3 HI
    go_wp2
    exact ⟨⟨v2, L ++ [r], d, i + 1, rfl, rfl, by go_num, hd0, hd2, by omega, HI2, hb3⟩, by simp [intOf]; omega⟩
   ·have hL : L.length ≤ 300 := by have := HI.out.2.2; omega
    have HLL := Lib.hid hL
    clear hL
    go_upto_region 17 with (at_builtin; go_must (refine app1 (w0 := w1) w1.heap.size rfl (.tmp 53) (.tmp 55) 93 3 .i64 8 rfl Tryz.underlying93 info_int _ L cr rfl rfl HI.out.1 hb hbs (by have := HLL.out; omega) (by have := HLL.out; omega) ?_); go_must (intro v2 w3 hO3 hb3 hg3))
    have HO3 := Lib.hid hO3
    clear hO3 hg3
    go_wp2_with (go_at_call 238; go_must (refine (limbs_own _ (L ++ [cr]) w1 _ HO3.out (HI.out.2.1.snoc hc0 hc1) (by have := HLL.out; simp; omega)).mono ?_); go_must (rintro e w5 ⟨h, k, zs, rfl, HH, hb5⟩))
    go_ret2
    exact ⟨_, _, _, rfl, trans_b HB1.out (trans_b hb3 hb5)⟩
end Go.Proofs.YtcpkjmpbpmeclaaGreatDoor
namespace Go.Proofs.YtcpkjmpbpmeclaaGreatDoor
open Go.RowKit
set_option maxRecDepth 100000
set_option linter.unusedVariables false
set_option linter.unusedSimpArgs false
set_option linter.unnecessarySimpa false

abbrev shC : Array Value := #[.int .i64 52, .int .i64 (-1074), .int .i64 2047]
theorem rOf_any (w : World) : Calls Tryz.prog 252 #[.int .i64 64] w fun e w' => e = .returned (.agg #[.int .i64 52, .int .i64 (-1074), .int .i64 2047]) ∧ Below w.heap.size w w' := by
 have hb : Below w.heap.size w (w.alloc (.cells shC 310)) := (Below.refl _ _).alloc (Nat.le_refl _) _
 have hLd := run_loadVar_mid (P := Tryz.prog) (w.alloc (.cells shC 310)) w.heap.size 0 310 shC.toList _ (fun j u hu => by rw [Nat.zero_add, cell_of_row _ _ _ _ _ _ (heap_alloc_new w _)]; simpa using hu) Tryz.underlying310 rfl (by kernel_rfl)
 have HB := Lib.hid hb
 have HL := Lib.hid hLd
 clear hb hLd
 go_enter Tryz.func252, Tryz.ntmps252
 go_wp2
 have hLd := HL.out
 refine bodyPost_ret (v := .agg #[.int .i64 52, .int .i64 (-1074), .int .i64 2047]) ?_ rfl ⟨rfl, HB.out⟩
 simp [results, Tryz.results252, hLd, asAddr, Act.put]
set_option maxHeartbeats 1000000 in
theorem rTwo_any (n : Nat) (hn : n ≤ 63) (w : World) : Calls Tryz.prog 251 #[.int .i64 n] w fun e w' => e = .returned (.int .u64 (tw n)) ∧ w = w' := by
 go_enter Tryz.func251, Tryz.ntmps251
 go_wp2
 go_loopw [3, 4] (fun t3 t4 W => ∃ (k : Nat) (y : Int), t4 = .int .i64 k ∧ t3 = .int .u64 y ∧ k ≤ n ∧ Hid (y = tw k) ∧ W = w) (fun _ t4 _ => n - (intOf t4).toNat)
 case atStart => exact ⟨0, 1, rfl, rfl, Nat.zero_le _, Lib.hid rfl, rfl⟩
 case round =>
  obtain ⟨k, y, rfl, rfl, hk, hy, rfl⟩ := hrel
  by_cases hlt : k < n
  ·have hyb : 1 ≤ y ∧ 2 * y ≤ 9223372036854775808 := by
    rw [hy.out]
    have h := tw_le (m := k + 1) (n := 63) (by omega)
    have h3 : tw 63 = 9223372036854775808 := by decide
    have h2 := tw_pos k
    simp only [tw] at h
    omega
   obtain ⟨hy0, hy1⟩ := hyb
   have hwr : IntKind.u64.wrap (2 * y) = 2 * y := by rw [IntKind.wrap_u64]; omega
   have HT : Hid (2 * y = tw (k + 1)) := Lib.hid (by rw [hy.out]; rfl)
   go_wp2
   exact ⟨⟨k + 1, 2 * y, by go_num, rfl, by omega, HT, trivial⟩, by simp [intOf]; omega⟩
  ·obtain rfl : k = n := by omega
   have HY := Lib.hid hy.out
   clear hy
   go_wp2
   go_ret
   exact ⟨by rw [← HY.out]; rfl, rfl⟩
theorem sizeF_of (x : Int) (h0 : 0 ≤ x) (h1 : x ≤ 18446744073709551615) : ((sizeF x : Nat) : Int) = if 9223372036854775808 ≤ x then x - 9223372036854775808 else x := by
 unfold sizeF
 split <;> split <;> omega
theorem rSize_any (x : Int) (w : World) (h0 : 0 ≤ x) (h1 : x ≤ 18446744073709551615) : Calls Tryz.prog 249 #[.int .i64 64, .int .u64 x] w fun e w' => e = .returned (.int .u64 (sizeF x : Nat)) ∧ w = w' := by
 have HS := Lib.hid (sizeF_of x h0 h1)
 have HN : Hid (∀ W, Calls Tryz.prog 149 #[.int .i64 64, .int .u64 x] W fun e w' => e = .returned (.bool (decide (9223372036854775808 ≤ x))) ∧ W = w') := Lib.hid fun W => refNeg_any x W
 by_cases hg : 9223372036854775808 ≤ x
 ·have e : decide (9223372036854775808 ≤ x) = true := decide_eq_true hg
  rw [e] at HN
  have HV : Hid (((sizeF x : Nat) : Int) = x - 9223372036854775808) := Lib.hid (by rw [HS.out, if_pos hg])
  have hwr : IntKind.u64.wrap (x - 9223372036854775808) = x - 9223372036854775808 := by rw [IntKind.wrap_u64]; omega
  clear e
  go_enter Tryz.func249, Tryz.ntmps249
  go_wp2_with (first
   | (go_at_call 149; refine (HN.out _).mono ?_; rintro e w1 ⟨rfl, rfl⟩)
   | (go_at_call 210; refine (refSign_any _).mono ?_; rintro e w1 ⟨rfl, rfl⟩))
  go_ret
  exact ⟨by rw [HV.out]; rfl, rfl⟩
 ·have e : decide (9223372036854775808 ≤ x) = false := decide_eq_false hg
  rw [e] at HN
  have HV : Hid (((sizeF x : Nat) : Int) = x) := Lib.hid (by rw [HS.out, if_neg hg])
  clear e
  go_enter Tryz.func249, Tryz.ntmps249
  go_wp2_with (go_at_call 149; refine (HN.out _).mono ?_; rintro e w1 ⟨rfl, rfl⟩)
  go_ret
  exact ⟨by rw [HV.out]; rfl, rfl⟩
theorem rTwo52 (w : World) : Calls Tryz.prog 251 #[.int .i64 52] w fun e w' => e = .returned (.int .u64 4503599627370496) ∧ w = w' := rTwo_any 52 (by omega) w
theorem rTwo51 (w : World) : Calls Tryz.prog 251 #[.int .i64 51] w fun e w' => e = .returned (.int .u64 2251799813685248) ∧ w = w' := rTwo_any 51 (by omega) w
theorem rInf_any (w : World) : Calls Tryz.prog 250 #[.int .i64 64] w fun e w' => e = .returned (.int .u64 9218868437227405312) ∧ Below w.heap.size w w' := by
 have hf0 : ∀ W, Sem.run Tryz.prog (Instr.field 310 (.agg #[.int .i64 52, .int .i64 (-1074), .int .i64 2047]) 0) W = .ok (.int .i64 52) W := fun _ => rfl
 have hf2 : ∀ W, Sem.run Tryz.prog (Instr.field 310 (.agg #[.int .i64 52, .int .i64 (-1074), .int .i64 2047]) 2) W = .ok (.int .i64 2047) W := fun _ => rfl
 have HB : Hid (Below w.heap.size w w) := Lib.hid (Below.refl _ _)
 go_enter Tryz.func250, Tryz.ntmps250
 go_wp2_with (first
  | (go_at_call 252; refine (rOf_any _).mono ?_; rintro e w1 ⟨rfl, hb1⟩; have HB := Lib.hid (trans_b HB.out hb1); clear hb1)
  | (go_at_call 251; refine (rTwo52 _).mono ?_; rintro e w2 ⟨rfl, rfl⟩))
 go_ret
 exact ⟨rfl, HB.out⟩
theorem rNaN_any (w : World) : Calls Tryz.prog 233 #[.int .i64 64] w fun e w' => e = .returned (.int .u64 9221120237041090560) ∧ Below w.heap.size w w' := by
 have hf0 : ∀ W, Sem.run Tryz.prog (Instr.field 310 (.agg #[.int .i64 52, .int .i64 (-1074), .int .i64 2047]) 0) W = .ok (.int .i64 52) W := fun _ => rfl
 have hf2 : ∀ W, Sem.run Tryz.prog (Instr.field 310 (.agg #[.int .i64 52, .int .i64 (-1074), .int .i64 2047]) 2) W = .ok (.int .i64 2047) W := fun _ => rfl
 have HB : Hid (Below w.heap.size w w) := Lib.hid (Below.refl _ _)
 go_enter Tryz.func233, Tryz.ntmps233
 go_wp2_with (first
  | (go_at_call 252; refine (rOf_any _).mono ?_; rintro e w1 ⟨rfl, hb1⟩; have HB := Lib.hid (trans_b HB.out hb1); clear hb1)
  | (go_at_call 250; refine (rInf_any _).mono ?_; rintro e w1 ⟨rfl, hb1⟩; have HB := Lib.hid (trans_b HB.out hb1); clear hb1)
  | (go_at_call 251; refine (rTwo51 _).mono ?_; rintro e w2 ⟨rfl, rfl⟩))
 go_ret
 exact ⟨rfl, HB.out⟩
theorem clsF_cases (x : Int) (s : Nat) (hs : sizeF x = s) : clsF x = if 9218868437227405312 < (s : Int) then 5 else if (s : Int) = 9218868437227405312 then 4 else if (s : Int) = 0 then 1 else if (s : Int) < 4503599627370496 then 2 else 3 := by
 unfold clsF
 rw [hs]
 (repeat' split) <;> omega
set_option maxHeartbeats 1000000 in
theorem rClass_any (x : Int) (w : World) (h0 : 0 ≤ x) (h1 : x ≤ 18446744073709551615) : Calls Tryz.prog 232 #[.int .i64 64, .int .u64 x] w fun e w' => e = .returned (.int .i8 (clsF x)) ∧ Below w.heap.size w w' := by
 have HSZ : Hid (∀ W, Calls Tryz.prog 249 #[.int .i64 64, .int .u64 x] W fun e w' => e = .returned (.int .u64 (sizeF x : Nat)) ∧ W = w') := Lib.hid fun W => rSize_any x W h0 h1
 have HC := Lib.hid (clsF_cases x _ rfl)
 generalize clsF x = c at *
 generalize sizeF x = s at *
 have HB : Hid (Below w.heap.size w w) := Lib.hid (Below.refl _ _)
 have hf0 : ∀ W, Sem.run Tryz.prog (Instr.field 310 (.agg #[.int .i64 52, .int .i64 (-1074), .int .i64 2047]) 0) W = .ok (.int .i64 52) W := fun _ => rfl
 have hf2 : ∀ W, Sem.run Tryz.prog (Instr.field 310 (.agg #[.int .i64 52, .int .i64 (-1074), .int .i64 2047]) 2) W = .ok (.int .i64 2047) W := fun _ => rfl
 go_enter Tryz.func232, Tryz.ntmps232
 by_cases k1 : 9218868437227405312 < (s : Int)
 ·have HV : Hid (c = 5) := Lib.hid (by rw [HC.out, if_pos k1])
  have k1b : decide (9218868437227405312 < (s : Int)) = true := decide_eq_true k1
  clear k1
  go_wp2_with (first
   | (go_at_call 249; refine (HSZ.out _).mono ?_; rintro e w1 ⟨rfl, rfl⟩)
   | (go_at_call 250; refine (rInf_any _).mono ?_; rintro e w1 ⟨rfl, hb1⟩; have HB := Lib.hid (trans_b HB.out hb1); clear hb1))
  go_ret
  exact ⟨by rw [HV.out]; rfl, HB.out⟩
 ·have k1b : decide (9218868437227405312 < (s : Int)) = false := decide_eq_false k1
  by_cases k2 : (s : Int) = 9218868437227405312
  ·have HV : Hid (c = 4) := Lib.hid (by rw [HC.out, if_neg k1, if_pos k2])
   have k2b : ((s : Int) == 9218868437227405312) = true := by simpa using k2
   clear k2 k1
   go_wp2_with (first
    | (go_at_call 249; refine (HSZ.out _).mono ?_; rintro e w1 ⟨rfl, rfl⟩)
    | (go_at_call 250; refine (rInf_any _).mono ?_; rintro e w1 ⟨rfl, hb1⟩; have HB := Lib.hid (trans_b HB.out hb1); clear hb1))
   go_ret
   exact ⟨by rw [HV.out]; rfl, HB.out⟩
  ·have k2b : ((s : Int) == 9218868437227405312) = false := by simpa using k2
   by_cases k3 : (s : Int) = 0
   ·have HV : Hid (c = 1) := Lib.hid (by rw [HC.out, if_neg k1, if_neg k2, if_pos k3])
    have k3b : ((s : Int) == 0) = true := by simpa using k3
    clear k3 k2 k1
    go_wp2_with (first
     | (go_at_call 249; refine (HSZ.out _).mono ?_; rintro e w1 ⟨rfl, rfl⟩)
     | (go_at_call 250; refine (rInf_any _).mono ?_; rintro e w1 ⟨rfl, hb1⟩; have HB := Lib.hid (trans_b HB.out hb1); clear hb1))
    go_ret
    exact ⟨by rw [HV.out]; rfl, HB.out⟩
   ·have k3b : ((s : Int) == 0) = false := by simpa using k3
    by_cases k4 : (s : Int) < 4503599627370496
    ·have HV : Hid (c = 2) := Lib.hid (by rw [HC.out, if_neg k1, if_neg k2, if_neg k3, if_pos k4])
     have k4b : decide ((s : Int) < 4503599627370496) = true := decide_eq_true k4
     clear k4 k3 k2 k1
     go_wp2_with (first
      | (go_at_call 249; refine (HSZ.out _).mono ?_; rintro e w1 ⟨rfl, rfl⟩)
      | (go_at_call 250; refine (rInf_any _).mono ?_; rintro e w1 ⟨rfl, hb1⟩; have HB := Lib.hid (trans_b HB.out hb1); clear hb1)
      | (go_at_call 252; refine (rOf_any _).mono ?_; rintro e w1 ⟨rfl, hb1⟩; have HB := Lib.hid (trans_b HB.out hb1); clear hb1)
      | (go_at_call 251; refine (rTwo52 _).mono ?_; rintro e w2 ⟨rfl, rfl⟩))
     go_ret
     exact ⟨by rw [HV.out]; rfl, HB.out⟩
    ·have HV : Hid (c = 3) := Lib.hid (by rw [HC.out, if_neg k1, if_neg k2, if_neg k3, if_neg k4])
     have k4b : decide ((s : Int) < 4503599627370496) = false := decide_eq_false k4
     clear k4 k3 k2 k1
     go_wp2_with (first
      | (go_at_call 249; refine (HSZ.out _).mono ?_; rintro e w1 ⟨rfl, rfl⟩)
      | (go_at_call 250; refine (rInf_any _).mono ?_; rintro e w1 ⟨rfl, hb1⟩; have HB := Lib.hid (trans_b HB.out hb1); clear hb1)
      | (go_at_call 252; refine (rOf_any _).mono ?_; rintro e w1 ⟨rfl, hb1⟩; have HB := Lib.hid (trans_b HB.out hb1); clear hb1)
      | (go_at_call 251; refine (rTwo52 _).mono ?_; rintro e w2 ⟨rfl, rfl⟩))
     go_ret
     exact ⟨by rw [HV.out]; rfl, HB.out⟩
set_option maxHeartbeats 1000000 in
theorem rNumber_any (s : Nat) (w : World) (h1 : s ≤ 9218868437227405312) : Calls Tryz.prog 262 #[.int .i64 64, .int .u64 (s : Nat)] w fun e w' => e = .returned (.tuple #[.int .u64 (partM s : Nat), .int .i64 (partE s)]) ∧ Below w.heap.size w w' := by
 by_cases k : s < 4503599627370496
 ·have HM : Hid (partM s = s ∧ partE s = -1074) := Lib.hid ⟨by unfold partM; rw [if_pos k], by unfold partE; rw [if_pos k]⟩
  have ki : decide ((s : Int) < 4503599627370496) = true := decide_eq_true (by omega)
  clear k h1
  go_enter Tryz.func262, Tryz.ntmps262
  go_upto_region 2 with (go_at_call 252; refine (rOf_any _).mono ?_; rintro e w1 ⟨rfl, hb1⟩)
  have HB : Hid (Below w.heap.size w (w1.alloc (.cells #[.int .i64 52, .int .i64 (-1074), .int .i64 2047] 310))) := Lib.hid (hb1.alloc hb1.size _)
  have c : ∀ j : Nat, (w1.alloc (.cells #[.int .i64 52, .int .i64 (-1074), .int .i64 2047] 310)).cell? ⟨w1.heap.size, j, none⟩ = (#[.int .i64 52, .int .i64 (-1074), .int .i64 2047] : Array Value)[j]? := fun j => cell_of_row _ _ _ _ _ _ (heap_alloc_new w1 _)
  have c0 := c 0
  have c1 := c 1
  clear c hb1
  show Code.wp _ _ _ _ (w1.alloc (.cells #[.int .i64 52, .int .i64 (-1074), .int .i64 2047] 310))
  generalize (w1.alloc (.cells #[.int .i64 52, .int .i64 (-1074), .int .i64 2047] 310)) = W at *
  simp at c0 c1
  go_upto_region 4 with (go_at_call 251; refine (rTwo52 _).mono ?_; rintro e w2 ⟨rfl, rfl⟩)
  go_quiet (fail)
  go_wp2
  go_ret2
  exact ⟨by rw [HM.out.1, HM.out.2]; rfl, by first | exact HB.out | exact trans_b HB.out (below_drewN _ _)⟩
 ·obtain ⟨kk, hkk⟩ : ∃ kk, s / 4503599627370496 = kk := ⟨_, rfl⟩
  obtain ⟨ff, hff⟩ : ∃ ff, s % 4503599627370496 = ff := ⟨_, rfl⟩
  have HM : Hid (partM s = ff + 4503599627370496 ∧ partE s = (kk : Nat) - 1075) := Lib.hid ⟨by unfold partM; rw [if_neg k, hff], by unfold partE; rw [if_neg k, hkk]⟩
  have k4 : (s : Int).tdiv 4503599627370496 = (kk : Nat) := by rw [Int.tdiv_eq_ediv_of_nonneg (by omega)]; omega
  have k5 : (s : Int).tmod 4503599627370496 = (ff : Nat) := by rw [Int.tmod_eq_emod_of_nonneg (by omega)]; omega
  have hkb : 1 ≤ kk ∧ kk ≤ 2047 := by omega
  obtain ⟨hk0, hk1⟩ := hkb
  have hfb : ff < 4503599627370496 := by omega
  have ki : decide ((s : Int) < 4503599627370496) = false := decide_eq_false (by omega)
  have hwr : IntKind.u64.wrap (4503599627370496 + (ff : Int)) = 4503599627370496 + (ff : Int) := by rw [IntKind.wrap_u64]; omega
  clear k hkk hff h1
  go_enter Tryz.func262, Tryz.ntmps262
  go_upto_region 2 with (go_at_call 252; refine (rOf_any _).mono ?_; rintro e w1 ⟨rfl, hb1⟩)
  have HB : Hid (Below w.heap.size w (w1.alloc (.cells #[.int .i64 52, .int .i64 (-1074), .int .i64 2047] 310))) := Lib.hid (hb1.alloc hb1.size _)
  have c : ∀ j : Nat, (w1.alloc (.cells #[.int .i64 52, .int .i64 (-1074), .int .i64 2047] 310)).cell? ⟨w1.heap.size, j, none⟩ = (#[.int .i64 52, .int .i64 (-1074), .int .i64 2047] : Array Value)[j]? := fun j => cell_of_row _ _ _ _ _ _ (heap_alloc_new w1 _)
  have c0 := c 0
  have c1 := c 1
  clear c hb1
  show Code.wp _ _ _ _ (w1.alloc (.cells #[.int .i64 52, .int .i64 (-1074), .int .i64 2047] 310))
  generalize (w1.alloc (.cells #[.int .i64 52, .int .i64 (-1074), .int .i64 2047] 310)) = W at *
  simp at c0 c1
  go_upto_region 5 with (go_at_call 251; refine (rTwo52 _).mono ?_; rintro e w2 ⟨rfl, rfl⟩)
  go_quiet (fail)
  go_wp2
  go_ret2
  exact ⟨by rw [HM.out.1, HM.out.2, Int.add_comm]; go_num, trans_b HB.out (below_drewN _ _)⟩
end Go.Proofs.YtcpkjmpbpmeclaaGreatDoor
namespace Go.Proofs.YtcpkjmpbpmeclaaGreatDoor
open Go.RowKit
set_option maxRecDepth 100000
set_option linter.unusedVariables false
set_option linter.unusedSimpArgs false
set_option linter.unnecessarySimpa false

theorem ctzFrom_even (f m : Nat) (h : m % 2 = 0) : Lib.ctzFrom (f + 1) m = 1 + Lib.ctzFrom f (m / 2) := by
 rw [Lib.ctzFrom, if_neg (by omega)]
theorem ctzFrom_odd (f m : Nat) (h : m % 2 = 1) : Lib.ctzFrom f m = 0 := by
 cases f with
 | zero => rfl
 | succ f => rw [Lib.ctzFrom, if_pos h]
theorem partM_pos {s : Nat} (h : s ≠ 0) : 0 < partM s := by unfold partM; split <;> omega
theorem partM_lt {s : Nat} : partM s < 2 ^ 64 := by
 unfold partM
 split <;> omega
set_option maxHeartbeats 2000000 in
theorem rParts_any (x : Int) (w : World) (h0 : 0 ≤ x) (h1 : x ≤ 18446744073709551615) :
  Calls Tryz.prog 253 #[.int .i64 64, .int .u64 x] w fun e w' => PartsP x e ∧ Below w.heap.size w w' := by
 have HSZ : Hid (∀ W, Calls Tryz.prog 249 #[.int .i64 64, .int .u64 x] W fun e w' => e = .returned (.int .u64 (sizeF x : Nat)) ∧ W = w') := Lib.hid fun W => rSize_any x W h0 h1
 have HNG : Hid (∃ g, ∀ W, Calls Tryz.prog 149 #[.int .i64 64, .int .u64 x] W fun e w' => e = .returned (.bool g) ∧ W = w') := Lib.hid ⟨_, fun W => refNeg_any x W⟩
 obtain ⟨g, hg⟩ := HNG.out
 have HG := Lib.hid hg
 have HNU : Hid (sizeF x ≤ 9218868437227405312 → ∀ W, Calls Tryz.prog 262 #[.int .i64 64, .int .u64 (sizeF x : Nat)] W fun e w' => e = .returned (.tuple #[.int .u64 (partM (sizeF x) : Nat), .int .i64 (partE (sizeF x))]) ∧ Below W.heap.size W w') := Lib.hid fun h W => rNumber_any _ W h
 obtain ⟨Q, hQ⟩ : ∃ Q, PartsP x = Q := ⟨_, rfl⟩
 rw [hQ]
 have HQ1 : Hid (9218868437227405312 ≤ sizeF x → Q (.returned (.tuple #[.bool false, .int .u64 0, .int .i64 0, .bool false]))) := Lib.hid fun h => by rw [← hQ]; exact ⟨false, 0, by decide, by decide, .inl ⟨h, rfl⟩⟩
 have HQ2 : Hid (∀ g, sizeF x = 0 → Q (.returned (.tuple #[.bool g, .int .u64 0, .int .i64 0, .bool true]))) := Lib.hid fun g h => by rw [← hQ]; exact ⟨g, 0, by decide, by decide, .inr (.inl ⟨by rw [h]; decide, h, rfl⟩)⟩
 have HQ3 : Hid (∀ g m z, sizeF x < 9218868437227405312 → sizeF x ≠ 0 → 0 ≤ m → m ≤ 18446744073709551615 → z = partE (sizeF x) + (Lib.ctz 64 (partM (sizeF x)) : Nat) → Q (.returned (.tuple #[.bool g, .int .u64 m, .int .i64 z, .bool true]))) := Lib.hid fun g m z h1 h2 h3 h4 h5 => by rw [← hQ, h5]; exact ⟨g, m, h3, h4, .inr (.inr ⟨h1, h2, rfl⟩)⟩
 clear hQ h0 h1 hg HNG
 generalize sizeF x = s at *
 have HB : Hid (Below w.heap.size w w) := Lib.hid (Below.refl _ _)
 go_enter Tryz.func253, Tryz.ntmps253
 by_cases k1 : 9218868437227405312 ≤ s
 ·have HV := Lib.hid k1
  have k1b : decide ((9218868437227405312 : Int) ≤ (s : Int)) = true := decide_eq_true (by omega)
  clear k1
  go_wp2_with (first
   | (go_at_call 249; refine (HSZ.out _).mono ?_; rintro e w1 ⟨rfl, rfl⟩)
   | (go_at_call 250; refine (rInf_any _).mono ?_; rintro e w1 ⟨rfl, hb1⟩; have HB := Lib.hid (trans_b HB.out hb1); clear hb1))
  (try simp only [Exit.inBlock, Exit.then]); refine bodyPost_ret (results_tmp4 rfl _ _ _) rfl ?_
  exact ⟨HQ1.out HV.out, HB.out⟩
 ·have k1b : decide ((9218868437227405312 : Int) ≤ (s : Int)) = false := decide_eq_false (by omega)
  have HK1 : Hid (s < 9218868437227405312) := Lib.hid (by omega)
  clear k1
  by_cases k2 : s = 0
  ·subst k2
   have HM : Hid (partM 0 = 0) := Lib.hid rfl
   have hN : ∀ W, Calls Tryz.prog 262 #[.int .i64 64, .int .u64 0] W fun e w' => e = .returned (.tuple #[.int .u64 0, .int .i64 (-1074)]) ∧ Below W.heap.size W w' := fun W => rNumber_any 0 W (by omega)
   have HN := Lib.hid hN
   clear hN
   go_wp2_with (first
    | (go_at_call 249; refine (HSZ.out _).mono ?_; rintro e w1 ⟨rfl, rfl⟩)
    | (go_at_call 149; refine (HG.out _).mono ?_; rintro e w1 ⟨rfl, rfl⟩)
    | (go_at_call 262; go_must (refine (HN.out _).mono ?_); go_must (rintro e w1 ⟨rfl, hb1⟩; have HB := Lib.hid (trans_b HB.out hb1); clear hb1))
    | (go_at_call 250; refine (rInf_any _).mono ?_; rintro e w1 ⟨rfl, hb1⟩; have HB := Lib.hid (trans_b HB.out hb1); clear hb1))
   (try simp only [Exit.inBlock, Exit.then]); refine bodyPost_ret (results_tmp4 rfl _ _ _) rfl ?_
   exact ⟨HQ2.out g (by first | rfl | trivial), HB.out⟩
  ·have HN := Lib.hid (HNU.out (by have := HK1.out; omega))
   have HM0 : Hid (0 < partM s ∧ partM s < 2 ^ 64) := Lib.hid ⟨partM_pos k2, partM_lt⟩
   have HE0 : Hid (-1074 ≤ partE s ∧ partE s ≤ 2000) := Lib.hid (by unfold partE; have := HK1.out; split <;> omega)
   have HQ : Hid (∀ m z : Int, 0 ≤ m → m ≤ 18446744073709551615 → z = partE s + (Lib.ctzFrom 64 (partM s) : Nat) → Q (.returned (.tuple #[.bool g, .int .u64 m, .int .i64 z, .bool true]))) := Lib.hid fun m z a b c => HQ3.out g m z HK1.out k2 a b (by rw [c, Lib.ctz, if_neg (by have := HM0.out.1; omega)])
   clear HNU HQ1 HQ2 HQ3 k2 HK1
   generalize partM s = M at *
   generalize partE s = E at *
   have hM : ((M : Int) == 0) = false := by have := HM0.out.1; simp; omega
   go_upto_region 6 with (first
    | (go_at_call 249; refine (HSZ.out _).mono ?_; rintro e w1 ⟨rfl, rfl⟩)
    | (go_at_call 262; go_must (refine (HN.out _).mono ?_); go_must (rintro e w1 ⟨rfl, hb1⟩; have HB := Lib.hid (trans_b HB.out hb1); clear hb1))
    | (go_at_call 250; refine (rInf_any _).mono ?_; rintro e w1 ⟨rfl, hb1⟩; have HB := Lib.hid (trans_b HB.out hb1); clear hb1))
   obtain ⟨C, hC⟩ : ∃ C, E + (Lib.ctzFrom 64 M : Nat) = C := ⟨_, rfl⟩
   have HC : Hid (C ≤ 2064) := Lib.hid (by rw [← hC]; have := HE0.out; have := ctzFrom_le 64 M; omega)
   have HM1 : Hid (M < 2 ^ 64) := Lib.hid HM0.out.2
   have HCC := Lib.hid hC
   rw [hC] at HQ
   clear hC hM
   have hm0 := HM0.out.1
   obtain ⟨he0, he1⟩ := HE0.out
   go_loopw [8, 9] (fun t8 t9 W => ∃ (k : Nat) (z : Int), t8 = .int .u64 k ∧ t9 = .int .i64 z ∧ 0 < k ∧ k ≤ 18446744073709551615 ∧ -1074 ≤ z ∧ z ≤ 3000 ∧ Hid (∃ f, f ≤ 64 ∧ k < 2 ^ f ∧ z + (Lib.ctzFrom f k : Nat) = C) ∧ Below w.heap.size w W) (fun t8 _ _ => (intOf t8).toNat)
   case atStart => exact ⟨M, E, rfl, rfl, hm0, by have := HM1.out; omega, he0, by omega, Lib.hid ⟨64, Nat.le_refl _, HM1.out, HCC.out⟩, HB.out⟩
   case round =>
    obtain ⟨k, z, rfl, rfl, hk0, hk1, hz0, hz1, HF, hb⟩ := hrel
    clear hm0 he0 he1
    have hq : (k : Int).tdiv 2 = ((k / 2 : Nat) : Int) := by rw [Int.tdiv_eq_ediv_of_nonneg (by omega)]; omega
    obtain ⟨q, hqq⟩ : ∃ q, k / 2 = q := ⟨_, rfl⟩
    rw [hqq] at hq
    by_cases hev : k % 2 = 0
    ·have hr : (k : Int).tmod 2 = 0 := by rw [Int.tmod_eq_emod_of_nonneg (by omega)]; omega
     have hqb : 0 < q ∧ q < k ∧ q ≤ 18446744073709551615 := by omega
     obtain ⟨hq0, hq1, hq2⟩ := hqb
     have HF2 : Hid ((∃ f, f ≤ 64 ∧ q < 2 ^ f ∧ z + 1 + (Lib.ctzFrom f q : Nat) = C) ∧ z + 1 ≤ 3000) := Lib.hid (by
      obtain ⟨f, h1, h2, h3⟩ := HF.out
      cases f with
      | zero => simp at h2; omega
      | succ f =>
       rw [ctzFrom_even f k hev, hqq] at h3
       refine ⟨⟨f, by omega, by rw [Nat.pow_succ] at h2; omega, by omega⟩, ?_⟩
       have := HC.out
       omega)
     clear hqq hev
     go_wp2
     exact ⟨⟨q, z + 1, rfl, by go_num, hq0, hq2, by omega, HF2.out.2, Lib.hid HF2.out.1, hb⟩, by simp [intOf]; omega⟩
    ·have hr : (k : Int).tmod 2 = 1 := by rw [Int.tmod_eq_emod_of_nonneg (by omega)]; omega
     have HZ : Hid (z = C) := Lib.hid (by
      obtain ⟨f, h1, h2, h3⟩ := HF.out
      rw [ctzFrom_odd f k (by omega)] at h3
      omega)
     have HK0 : Hid (0 ≤ (k : Int) ∧ (k : Int) ≤ 18446744073709551615) := Lib.hid (by omega)
     clear hqq hev hq
     go_wp2_with (go_at_call 149; refine (HG.out _).mono ?_; rintro e w1 ⟨rfl, rfl⟩)
     (try simp only [Exit.inBlock, Exit.then]); refine bodyPost_ret (results_tmp4 rfl _ _ _) rfl ?_
     exact ⟨HQ.out _ _ HK0.out.1 HK0.out.2 HZ.out, hb⟩
end Go.Proofs.YtcpkjmpbpmeclaaGreatDoor
namespace Go.Proofs.YtcpkjmpbpmeclaaGreatDoor
open Go.RowKit
set_option maxRecDepth 100000
set_option linter.unusedVariables false
set_option linter.unusedSimpArgs false
set_option linter.unnecessarySimpa false

theorem natv_len {zs : List Int} {k : Nat} (hl : zs.length = k) (hb : Limbs zs) (hc : CutAt zs k) (hm : magV zs ≤ 18446744073709551615) : k ≤ 2 := by
 rcases Nat.lt_or_ge 2 k with h | h
 ·rcases hc.top with e | e
  ·omega
  ·have h1 := magV_low hb (k - 1) (by omega) e
   have h2 := powB_le (m := 2) (n := k - 1) (by omega)
   have h3 : powB 2 = 18446744073709551616 := by decide
   omega
 ·exact h
set_option maxHeartbeats 4000000 in
theorem rInt_any (x : Int) (w : World) (h0 : 0 ≤ x) (h1 : x ≤ 18446744073709551615) :
  Calls Tryz.prog 234 #[.int .i64 64, .int .u64 x] w fun e w' => IntRes (decP (IntQ x)) e ∧ Below w.heap.size w w' := by
 obtain ⟨r, hr⟩ : ∃ r, decP (IntQ x) = r := ⟨_, rfl⟩
 rw [hr]
 have HP : Hid (∀ W, Below w.heap.size w W → Calls Tryz.prog 253 #[.int .i64 64, .int .u64 x] W fun e w' => ∃ (g : Bool) (m z : Int) (ok : Bool), e = .returned (.tuple #[.bool g, .int .u64 m, .int .i64 z, .bool ok]) ∧ Hid (0 ≤ m ∧ m ≤ 18446744073709551615 ∧ z ≤ 1100 ∧ -2000 ≤ z ∧ ((ok = false ∧ r = false) ∨ (ok = true ∧ r = decide (0 ≤ z)))) ∧ Below W.heap.size W w') := Lib.hid fun W hW => by
  refine (rParts_any x W h0 h1).mono ?_
  rintro e w' ⟨⟨g, m, hm0, hm1, hh⟩, hb⟩
  rcases hh with ⟨k1, rfl⟩ | ⟨k1, k2, rfl⟩ | ⟨k1, k2, rfl⟩
  ·exact ⟨false, 0, 0, false, rfl, Lib.hid ⟨by decide, by decide, by decide, by decide, .inl ⟨rfl, by rw [← hr]; exact decP_no.2 fun h => by have := h.1; omega⟩⟩, hb⟩
  ·exact ⟨g, 0, 0, true, rfl, Lib.hid ⟨by decide, by decide, by decide, by decide, .inr ⟨rfl, by rw [← hr]; exact decP_of (by simp; exact ⟨k1, .inl k2⟩)⟩⟩, hb⟩
  ·have hc := ctz_le (partM (sizeF x))
   have he : -1074 ≤ partE (sizeF x) ∧ partE (sizeF x) ≤ 1000 := by
    unfold partE
    split <;> omega
   exact ⟨g, m, _, true, rfl, Lib.hid ⟨hm0, hm1, by omega, by omega, .inr ⟨rfl, by
    rw [← hr]
    refine decP_of ?_
    simp only [decide_eq_true_eq]
    exact ⟨fun h => ⟨k1, .inr h⟩, fun h => by rcases h.2 with h | h; exact absurd h k2; exact h⟩⟩⟩, hb⟩
 have hR0 : (w.alloc (.cells zeroI 28)).heap[w.heap.size]? = some (.cells zeroI 28 (0, 0)) := heap_alloc_new w _
 have hb0 : Below w.heap.size w (w.alloc (.cells zeroI 28)) := (Below.refl _ _).alloc (Nat.le_refl _) _
 have HR0 := Lib.hid hR0
 have HB0 := Lib.hid hb0
 clear h0 h1 hr hR0 hb0
 go_enter Tryz.func234, Tryz.ntmps234
 go_upto_region 2 with (go_at_call 253; go_must (refine (HP.out _ HB0.out).mono ?_); go_must (rintro e w1 ⟨g, m, z, ok, rfl, HH, hb1⟩))
 have HR1 := Lib.hid ((hb1.block _ (Array.getElem?_eq_some_iff.1 HR0.out).1).trans HR0.out)
 have HB1 := Lib.hid (trans_b HB0.out hb1)
 clear hb1
 obtain ⟨c0, c1, f0, f1⟩ := blk2 HR1.out
 have HM0 := Lib.hid HH.out.1
 have HM1 := Lib.hid HH.out.2.1
 have hz1 := HH.out.2.2.1
 have hz2 := HH.out.2.2.2.1
 rcases HH.out.2.2.2.2 with ⟨hok, hrr⟩ | ⟨hok, hrr⟩
 ·subst hok
  have HV := Lib.hid hrr
  obtain ⟨hL, hB⟩ := int_load HR1.out HB1.out false none 0
  have HL := Lib.hid hL
  have HB := Lib.hid hB
  clear hL hB HH hrr
  go_wp2
  refine bodyPost_ret (v := .tuple #[.agg #[.bool false, .slice none 0 0], .bool false]) ?_ rfl ⟨⟨false, none, 0, by rw [HV.out]⟩, HB.out⟩
  have hLd := HL.out
  simp [results, Tryz.results234, hLd, asAddr, Act.put]
 ·subst hok
  by_cases hz : 0 ≤ z
  ·have HV : Hid (r = true) := Lib.hid (by rw [hrr]; simpa using hz)
   obtain ⟨E, rfl⟩ : ∃ E : Nat, z = E := ⟨z.toNat, by omega⟩
   have hzb : decide (((E : Nat) : Int) < 0) = false := decide_eq_false (by omega)
   clear HH hrr hz
   obtain ⟨sg, hsg⟩ : ∃ sg, (if g then decide (0 < m) else false) = sg := ⟨_, rfl⟩
   have HSG := Lib.hid hsg
   clear hsg
   go_upto_region 5 with (first
    | (go_at_call 207; go_must (refine (refFrom_any m _ HM0.out HM1.out).mono ?_); go_must (rintro e w2 ⟨h, k, zs, rfl, HN, hb2⟩; have HR2 := Lib.hid ((hb2.block _ (Array.getElem?_eq_some_iff.1 HR1.out).1).trans HR1.out); have HB2 := Lib.hid (trans_b HB1.out hb2); clear hb2; have HK : Hid (k ≤ 2) := Lib.hid (natv_len HN.out.2.1 HN.out.2.2.1 HN.out.2.2.2.1 (by rw [HN.out.2.2.2.2.1]; exact HM1.out))))
    | (go_at_call 254; go_must (refine (refShl_any (some ⟨h, 0, none⟩) k k E zs _ HN.out.2.1 HK.out (by omega) ⟨by have := HK.out; have := HN.out.2.1; omega, by have := HN.out.2.1; omega, (fun e => by cases e), numsK_row HN.out.2.2.2.2.2, HN.out.2.2.1⟩).mono ?_); go_must (rintro e w3 ⟨B, n, b3, rfl, hb3⟩; have HR3 := Lib.hid ((hb3.block _ (Array.getElem?_eq_some_iff.1 HR2.out).1).trans HR2.out); have HB3 := Lib.hid (trans_b HB2.out hb3); clear hb3)))
   obtain ⟨d0, d1, g0, g1⟩ := blk2 HR3.out
   obtain ⟨hLd, hB⟩ := int_load HR3.out HB3.out sg B n
   have HL := Lib.hid hLd
   have HB := Lib.hid hB
   clear c0 c1 f0 f1 hLd hB
   cases g with
   | false =>
    obtain rfl : sg = false := by rw [← HSG.out]; rfl
    go_wp2
    refine bodyPost_ret (v := .tuple #[.agg #[.bool false, .slice B n n], .bool true]) ?_ rfl ⟨⟨false, B, n, by rw [HV.out]⟩, HB.out⟩
    have hLd := HL.out
    simp [results, Tryz.results234, hLd, asAddr, Act.put]
   | true =>
    have hsd : decide (0 < m) = sg := by rw [← HSG.out]; rfl
    go_wp2
    refine bodyPost_ret (v := .tuple #[.agg #[.bool sg, .slice B n n], .bool true]) ?_ rfl ⟨⟨sg, B, n, by rw [HV.out]⟩, HB.out⟩
    have hLd := HL.out
    simp [results, Tryz.results234, hLd, asAddr, Act.put]
  ·have HV : Hid (r = false) := Lib.hid (by rw [hrr]; simpa using hz)
   have hzb : decide (z < 0) = true := decide_eq_true (by omega)
   obtain ⟨hL, hB⟩ := int_load HR1.out HB1.out false none 0
   have HL := Lib.hid hL
   have HB := Lib.hid hB
   clear hL hB HH hrr
   go_wp2
   refine bodyPost_ret (v := .tuple #[.agg #[.bool false, .slice none 0 0], .bool false]) ?_ rfl ⟨⟨false, none, 0, by rw [HV.out]⟩, HB.out⟩
   have hLd := HL.out
   simp [results, Tryz.results234, hLd, asAddr, Act.put]
set_option maxHeartbeats 2000000 in
theorem rFloat_any (x : Int) (w : World) (h0 : 0 ≤ x) (h1 : x ≤ 18446744073709551615) :
  Calls Tryz.prog 203 #[.int .u64 x] w fun e w' => e = .returned (.bool (decP (FloatF x))) ∧ Below w.heap.size w w' := by
 have HD := Lib.hid (float_dec x h0 h1)
 have HCL := Lib.hid (rClass_any x w h0 h1)
 have HIN : Hid (∀ W, Below w.heap.size w W → Calls Tryz.prog 234 #[.int .i64 64, .int .u64 x] W fun e w' => IntRes (decP (IntQ x)) e ∧ Below W.heap.size W w') := Lib.hid fun W hW => rInt_any x W h0 h1
 generalize decP (FloatF x) = r at *
 generalize decP (IntQ x) = q at *
 generalize clsF x = c at *
 clear h0 h1
 by_cases k1 : c = 5
 ·subst k1
  by_cases k2 : x = 9221120237041090560
  ·have HV : Hid (r = true) := Lib.hid (by rw [HD.out]; simp [k2])
   have k2b : (x == 9221120237041090560) = true := by simpa using k2
   clear k2
   go_enter Tryz.func203, Tryz.ntmps203
   go_wp2_with (first
    | (go_at_call 232; go_must (refine HCL.out.mono ?_); go_must (rintro e w1 ⟨rfl, hb1⟩))
    | (go_at_call 233; go_must (refine (rNaN_any _).mono ?_); go_must (rintro e w2 ⟨rfl, hb2⟩)))
   go_ret
   exact ⟨by rw [HV.out]; rfl, trans_b hb1 hb2⟩
  ·have HV : Hid (r = false) := Lib.hid (by rw [HD.out]; simp [k2])
   have k2b : (x == 9221120237041090560) = false := by simpa using k2
   clear k2
   go_enter Tryz.func203, Tryz.ntmps203
   go_wp2_with (first
    | (go_at_call 232; go_must (refine HCL.out.mono ?_); go_must (rintro e w1 ⟨rfl, hb1⟩))
    | (go_at_call 233; go_must (refine (rNaN_any _).mono ?_); go_must (rintro e w2 ⟨rfl, hb2⟩)))
   go_ret
   exact ⟨by rw [HV.out]; rfl, trans_b hb1 hb2⟩
 ·have k1b : (c == 5) = false := by simpa using k1
  by_cases k2 : c = 4
  ·subst k2
   have HV : Hid (r = true) := Lib.hid (by rw [HD.out]; simp)
   go_enter Tryz.func203, Tryz.ntmps203
   go_wp2_with (go_at_call 232; go_must (refine HCL.out.mono ?_); go_must (rintro e w1 ⟨rfl, hb1⟩))
   go_ret
   exact ⟨by rw [HV.out]; rfl, hb1⟩
  ·have k2b : (c == 4) = false := by simpa using k2
   have HV : Hid (r = !q) := Lib.hid (by rw [HD.out, if_neg k1, if_neg k2])
   clear k1 k2
   go_enter Tryz.func203, Tryz.ntmps203
   go_wp2_with (first
    | (go_at_call 232; go_must (refine HCL.out.mono ?_); go_must (rintro e w1 ⟨rfl, hb1⟩))
    | (go_at_call 234; go_must (refine (HIN.out _ hb1).mono ?_); go_must (rintro e w2 ⟨⟨b, B, n, rfl⟩, hb2⟩)))
   go_ret
   exact ⟨by rw [HV.out]; rfl, trans_b (trans_b hb1 hb2) ((Below.refl _ _).alloc (Nat.le_refl _) _)⟩
end Go.Proofs.YtcpkjmpbpmeclaaGreatDoor
namespace Go.Proofs.YtcpkjmpbpmeclaaGreatDoor
open Go.RowKit
set_option maxRecDepth 100000
set_option linter.unusedVariables false
set_option linter.unusedSimpArgs false
set_option linter.unnecessarySimpa false

theorem magY_drop (ys : List Int) (j : Nat) (hj : j < ys.length) : magY (ys.drop j) = ys.getD j 0 + 256 * magY (ys.drop (j + 1)) := by
 rw [List.drop_eq_getElem_cons hj, List.getD_eq_getElem?_getD, List.getElem?_eq_getElem hj]
 rfl
theorem magY_set (os : List Int) (j : Nat) (hj : j < os.length) (d : Int) : magY ((os.set j d).drop j) = d + 256 * magY (os.drop (j + 1)) := by
 rw [magY_drop _ j (by simpa using hj), List.drop_set_of_lt (by omega), List.getD_eq_getElem?_getD, List.getElem?_set_self hj]
 rfl
theorem Bys.set {os : List Int} (h : Bys os) (j : Nat) {d : Int} (h0 : 0 ≤ d) (h1 : d ≤ 255) : Bys (os.set j d) := fun x hx => by
 rcases List.mem_or_eq_of_mem_set hx with hx | rfl
 ·exact h x hx
 ·exact ⟨h0, h1⟩
set_option maxHeartbeats 4000000 in
theorem refSmall_any (A : Option Addr) (c m : Nat) (xs : List Int) (w : World) (hm : xs.length = m) (hm2 : m ≤ 2) (hx : NatIn w A c xs) :
  Calls Tryz.prog 237 #[.slice A m c, .int .u32 10] w fun e w' => ∃ h k zs, e = .returned (.tuple #[.slice (some ⟨h, 0, none⟩) k k, .int .u32 (magV xs % 10), .bool true]) ∧ Hid (w.heap.size ≤ h ∧ zs.length = k ∧ Limbs zs ∧ CutAt zs k ∧ magV zs = magV xs / 10 ∧ w'.heap[h]? = some (.cells (numsK .u32 zs).toArray 92 (0, 0))) ∧ Below w.heap.size w w' := by
 have HX := Lib.hid hx
 have HM := Lib.hid hm
 clear hx hm
 obtain ⟨rr, hrr⟩ : ∃ rr, magV xs % 10 = rr := ⟨_, rfl⟩
 have HRR := Lib.hid hrr
 rw [hrr]
 clear hrr
 go_enter Tryz.func237, Tryz.ntmps237
 go_upto_region 4 with (go_at_call 209; refine (bytes_any A c m xs _ HM.out HX.out).mono ?_; rintro e w1 ⟨g, n, N, ys, rfl, hnN, hn4, HY, hb1⟩; have HB1 := Lib.hid hb1; clear hb1)
 have hn8 : n ≤ 8 := by omega
 have hmk := make_intsZ w1 n (by omega)
 have HI0 : Hid ((w1.alloc (.cells (numsK .i64 (List.replicate n 0)).toArray 3)).heap[w1.heap.size]? = some (.cells (numsK .i64 (List.replicate n 0)).toArray 3 (0, 0))) := Lib.hid (heap_alloc_new w1 _)
 have HBW : Hid (Below w1.heap.size w1 (w1.alloc (.cells (numsK .i64 (List.replicate n 0)).toArray 3))) := Lib.hid ((Below.refl _ _).alloc (Nat.le_refl _) _)
 go_upto_region 5 with fail
 generalize (w1.alloc (.cells (numsK .i64 (List.replicate n 0)).toArray 3)) = W3 at *
 clear hmk
 go_wp2
 go_loopw [9, 10] (fun t9 t10 W => ∃ (i : Nat) (z left : Int) (os : List Int), t9 = .int .i64 left ∧ t10 = .int .i64 z ∧ z + 1 = (i : Nat) ∧ i ≤ n ∧ 0 ≤ left ∧ left ≤ 9 ∧ Hid (W.heap[w1.heap.size]? = some (.cells (numsK .i64 os).toArray 3 (0, 0)) ∧ os.length = n ∧ Bys os ∧ magY (ys.drop i) = 10 * magY (os.drop i) + left) ∧ Below w1.heap.size w1 W) (fun _ t10 _ => (intOf t10 + 1).toNat)
 case atStart => exact ⟨n, _, 0, List.replicate n 0, rfl, rfl, by omega, Nat.le_refl _, by omega, by omega, Lib.hid ⟨HI0.out, by simp, bys_zero n, by rw [List.drop_of_length_le (by rw [HY.out.2.1]; exact Nat.le_refl _), List.drop_of_length_le (by simp)]; rfl⟩, HBW.out⟩
 case round =>
  obtain ⟨i, z, left, os, rfl, rfl, hz, hi, hl0, hl9, HI, hb⟩ := hrel
  cases i with
  | zero =>
   obtain rfl : z = -1 := by omega
   have HF : Hid (magV xs = 10 * magY os + left) := Lib.hid (by have := HI.out.2.2.2; rw [List.drop_zero, List.drop_zero] at this; rw [← this]; exact HY.out.2.2.2.2.1.symm)
   have HO : Hid (Own wr w1.heap.size 3 .i64 (.slice (some ⟨w1.heap.size, 0, none⟩) n n) os) := Lib.hid (own_made HI.out.2.1 (by omega) (Nat.le_refl _) HI.out.1)
   have HLR : Hid (left = rr) := Lib.hid (by rw [← HRR.out, HF.out]; omega)
   go_wp2_with (go_at_call 238; go_must (refine (limbs_own _ os w1 _ HO.out HI.out.2.2.1 (by rw [HI.out.2.1]; omega)).mono ?_); go_must (rintro e w5 ⟨h, k, zs, rfl, HH, hb5⟩))
   go_ret3
   refine ⟨h, k, zs, by rw [HLR.out]; go_num, Lib.hid ⟨?_, HH.out.2.1, HH.out.2.2.1, HH.out.2.2.2.1, ?_, HH.out.2.2.2.2.2⟩, trans_b HB1.out (trans_b hb hb5)⟩
   ·have := HH.out.1
    have := hb.size
    have := HB1.out.size
    omega
   ·rw [HH.out.2.2.2.2.1, HF.out]
    omega
  | succ i =>
   obtain rfl : z = (i : Nat) := by omega
   have hc1 := bysRK (HY.out.2.2.2.2.2.below hb) HY.out.2.1 (show i < n by omega)
   obtain ⟨y, hy⟩ : ∃ y, ys.getD i 0 = y := ⟨_, rfl⟩
   rw [hy] at hc1
   have hyb := HY.out.2.2.1.at i
   rw [hy] at hyb
   obtain ⟨hy0, hy1⟩ := hyb
   have HYY := Lib.hid hy
   have hc2 : ∃ o, wr.cell? ⟨w1.heap.size, i, none⟩ = some (.int .i64 o) := ⟨os.getD i 0, by
    rw [cell_of_row _ _ _ _ _ _ HI.out.1]
    have hlt : i < os.length := by rw [HI.out.2.1]; omega
    simp [numsK, List.getElem?_eq_getElem hlt, List.getD_eq_getElem?_getD]⟩
   obtain ⟨o, hc2⟩ := hc2
   have hf2 : wr.frozen? ⟨w1.heap.size, i, none⟩ = false := by simp [World.frozen?, HI.out.1]
   obtain ⟨S, hS⟩ : ∃ S, left * 256 + y = S := ⟨_, rfl⟩
   have hSb : 0 ≤ S ∧ S ≤ 2559 := by omega
   obtain ⟨hS0, hS1⟩ := hSb
   obtain ⟨d, hd⟩ : ∃ d, S / 10 = d := ⟨_, rfl⟩
   obtain ⟨r, hr⟩ : ∃ r, S % 10 = r := ⟨_, rfl⟩
   have hd1 : S.tdiv 10 = d := by rw [Int.tdiv_eq_ediv_of_nonneg (by omega)]; exact hd
   have hr1 : S.tmod 10 = r := by rw [Int.tmod_eq_emod_of_nonneg (by omega)]; exact hr
   have hdb : 0 ≤ d ∧ d ≤ 255 := by omega
   obtain ⟨hd0, hd2⟩ := hdb
   have hrb : 0 ≤ r ∧ r ≤ 9 := by omega
   obtain ⟨hr0, hr2⟩ := hrb
   have HI2 : Hid ((wr.setCell ⟨w1.heap.size, i, none⟩ (.int .i64 d)).heap[w1.heap.size]? = some (.cells (numsK .i64 (os.set i d)).toArray 3 (0, 0)) ∧ (os.set i d).length = n ∧ Bys (os.set i d) ∧ magY (ys.drop i) = 10 * magY ((os.set i d).drop i) + r) := Lib.hid (by
    have hlt : i < os.length := by rw [HI.out.2.1]; omega
    refine ⟨?_, by simp [HI.out.2.1], HI.out.2.2.1.set i hd0 hd2, ?_⟩
    ·rw [heap_setCell_same wr w1.heap.size i _ _ _ HI.out.1]
     congr 2
     apply Array.ext'
     simp [numsK, List.map_set]
    ·rw [magY_set os i hlt, magY_drop ys i (by rw [HY.out.2.1]; omega), HI.out.2.2.2, HYY.out]
     omega)
   have HB2 : Hid (Below w1.heap.size w1 (wr.setCell ⟨w1.heap.size, i, none⟩ (.int .i64 d))) := Lib.hid (below_setCells [.int .i64 d] w1.heap.size i wr hb (Nat.le_refl _))
   clear hy hz hd hr HI
   go_wp2
   exact ⟨⟨i, _, r, os.set i d, rfl, by go_num, by omega, by omega, hr0, hr2, HI2, HB2.out⟩, by simp [intOf]⟩
end Go.Proofs.YtcpkjmpbpmeclaaGreatDoor
namespace Go.Proofs.YtcpkjmpbpmeclaaGreatDoor
open Go.RowKit
set_option maxRecDepth 100000
set_option linter.unusedVariables false
set_option linter.unusedSimpArgs false
set_option linter.unnecessarySimpa false

/-- The digits of a number, as numbers. -/
def decI (n : Nat) : List Int := (decB n).map fun u => (u.toNat : Int)
theorem decB_nat (n : Nat) : decB n = Lib.decDigits n := by unfold decB Lib.itoa; rw [if_neg (by omega)]; simp
theorem decI_small {n : Nat} (h : n < 10) : decI n = [48 + (n : Int)] := by
 unfold decI
 rw [decB_nat, Lib.decDigits_one h]
 simp
 omega
theorem decI_big {n : Nat} (h : ¬ n < 10) : decI n = decI (n / 10) ++ [48 + ((n % 10 : Nat) : Int)] := by
 unfold decI
 rw [decB_nat, decB_nat, Lib.decDigits, dif_neg h]
 simp
 omega
theorem decI_bytes (n : Nat) : Bytes (decI n) := fun x hx => by
 obtain ⟨u, _, rfl⟩ := List.mem_map.1 hx
 have := u.toNat_lt
 omega
theorem strOf_decI (n : Nat) : strOfNums (decI n) = strU (decB n) := by
 apply ByteArray.ext
 apply Array.ext'
 simp only [strOfNums, decI, List.map_map, strU]
 conv => rhs; rw [← List.map_id (decB n)]
 apply List.map_congr_left
 intro u _
 simp
/-- While digits are told, the lowest first. -/
def DigQ (N y : Nat) (Bk : List Int) : Prop := if y = 0 then Bk.reverse = decI N else decI N = decI y ++ Bk.reverse
theorem digQ_step {N y : Nat} {Bk : List Int} (h : DigQ N y Bk) (hy : y ≠ 0) : DigQ N (y / 10) (Bk ++ [48 + ((y % 10 : Nat) : Int)]) := by
 unfold DigQ at *
 rw [if_neg hy] at h
 by_cases h10 : y < 10
 ·have e : y % 10 = y := by omega
  rw [if_pos (by omega), h, decI_small h10, e]
  simp
 ·rw [if_neg (by omega), h, decI_big h10]
  simp
theorem pow10_lt {n : Nat} (h : 10 ^ n ≤ 18446744073709551615) : n ≤ 19 := by
 rcases Nat.lt_or_ge 19 n with h1 | h1
 ·have := Nat.pow_le_pow_right (n := 10) (by decide) h1
  have h2 : 10 ^ 20 = 100000000000000000000 := by decide
  omega
 ·exact h1
theorem own_apart {W : World} {B : Nat} {v : Value} {xs : List Int} (h : Own W B 5 .u8 v xs) {p : Nat} {cs : Array Value} (hp : W.heap[p]? = some (.cells cs 92 (0, 0))) : some p ≠ v.ownBlock := by
 rcases h.2 with ⟨rfl, _⟩ | ⟨g, cap, cur, rfl, h1, h2, _⟩
 ·simp [Value.ownBlock]
 ·intro e
  have e2 : p = g := by simpa [Value.ownBlock] using e
  subst e2
  rw [h2] at hp
  injection hp with hp
  injection hp with _ e3
  exact absurd e3 (by decide)
/-- A list half turned round. -/
def swp (L : List Int) (n i j : Nat) : Int := if j < i ∨ n ≤ j + i then L.getD (n - 1 - j) 0 else L.getD j 0
theorem swp_bytes {L : List Int} (h : Bytes L) (n i j : Nat) : 0 ≤ swp L n i j ∧ swp L n i j ≤ 255 := by
 unfold swp
 split
 ·exact h.at _
 ·exact h.at _
/-- The row while it is turned round. -/
structure SwpI (w W : World) (g n i : Nat) (L : List Int) : Prop where
 b : Below w.heap.size w W
 row : ∃ cur, W.heap[g]? = some (.cells cur 5 (0, 0)) ∧ n ≤ cur.size ∧ ∀ j, j < n → cur[j]? = some (.int .u8 (swp L n i j))
theorem SwpI.cell {w W : World} {g n i : Nat} {L : List Int} (h : SwpI w W g n i L) (j : Nat) (hj : j < n) : W.cell? ⟨g, j, none⟩ = some (.int .u8 (swp L n i j)) ∧ W.frozen? ⟨g, j, none⟩ = false := by
 obtain ⟨cur, h1, _, h3⟩ := h.row
 exact ⟨(cell_of_row _ _ _ _ _ _ h1).trans (h3 j hj), by simp [World.frozen?, h1]⟩
theorem SwpI.step {w W : World} {g n i : Nat} {L : List Int} (h : SwpI w W g n i L) (hg : w.heap.size ≤ g) (hi : 2 * i + 1 < n) : SwpI w ((W.setCell ⟨g, i, none⟩ (.int .u8 (swp L n i (n - 1 - i)))).setCell ⟨g, n - 1 - i, none⟩ (.int .u8 (swp L n i i))) g n (i + 1) L := by
 obtain ⟨cur, h1, h2, h3⟩ := h.row
 have k1 := heap_setCell_same W g i _ _ (.int .u8 (swp L n i (n - 1 - i))) h1
 have k2 := heap_setCell_same _ g (n - 1 - i) _ _ (.int .u8 (swp L n i i)) k1
 refine ⟨below_setCells [_] g (n - 1 - i) _ (below_setCells [_] g i W h.b hg) hg, _, k2, by simpa using h2, fun j hj => ?_⟩
 rw [Array.getElem?_setIfInBounds, Array.getElem?_setIfInBounds]
 have s1 : i < cur.size := by omega
 have s2 : n - 1 - i < cur.size := by omega
 by_cases e1 : n - 1 - i = j
 ·rw [if_pos e1, if_pos (by simpa using s2)]
  subst e1
  unfold swp
  rw [if_neg (by omega), if_pos (by omega), show n - 1 - (n - 1 - i) = i by omega]
 ·rw [if_neg e1]
  by_cases e2 : i = j
  ·rw [if_pos e2, if_pos (by omega)]
   subst e2
   unfold swp
   rw [if_neg (by omega), if_pos (by omega)]
  ·rw [if_neg e2, h3 j hj]
   unfold swp
   by_cases c : j < i ∨ n ≤ j + i
   ·rw [if_pos c, if_pos (by omega)]
   ·rw [if_neg c, if_neg (by omega)]
theorem SwpI.fin {w W : World} {g n i : Nat} {L : List Int} (h : SwpI w W g n i L) (hl : L.length = n) (hi : n ≤ 2 * i + 1) : RK W .u8 (some ⟨g, 0, none⟩) L.reverse := .inr ⟨g, 0, rfl, fun j hj => by
 have hjn : j < n := by simpa [hl] using hj
 rw [Nat.zero_add, (h.cell j hjn).1]
 have e : L.reverse.getD j 0 = L.getD (n - 1 - j) 0 := by
  rw [List.getD_eq_getElem?_getD, List.getD_eq_getElem?_getD, List.getElem?_reverse (by omega), hl]
 rw [e]
 unfold swp
 split
 ·rfl
 ·have : n - 1 - j = j := by omega
  rw [this]⟩
def lenV : Value → Nat | .slice _ n _ => n | _ => 0
set_option maxHeartbeats 4000000 in
theorem refDigits_walk (A : Option Addr) (c m : Nat) (xs : List Int) (w : World) (hm : xs.length = m) (hm2 : m ≤ 2) (hx : NatIn w A c xs) (N : Nat) (hN : magV xs = (N : Nat)) (hNb : N ≤ 18446744073709551615) :
  Calls Tryz.prog 206 #[.slice A m c] w fun e w' => e = .returned (.string (strU (decB N))) ∧ Below w.heap.size w w' := by
 have HX := Lib.hid hx
 have HM := Lib.hid hm
 have HN := Lib.hid hN
 obtain ⟨res, hres⟩ : ∃ res, strU (decB N) = res := ⟨_, rfl⟩
 have HRES := Lib.hid hres
 rw [hres]
 clear hx hm hN hres
 go_enter Tryz.func206, Tryz.ntmps206
 go_upto_region 2 with (go_at_call 236; refine (refNorm1_any A c m xs _ HM.out HX.out).mono ?_; rintro e w1 ⟨h, k, zs, rfl, HZ, hb1⟩; have HB1 := Lib.hid hb1; clear hb1)
 have HP := Lib.hid HZ.out.pos.1
 by_cases hk : k = 0
 ·subst hk
  have HR0 : Hid (res = ⟨#[48]⟩) := Lib.hid (by
   have h0 := HP.out.1 rfl
   rw [HN.out] at h0
   obtain rfl : N = 0 := by omega
   rw [← HRES.out, decB_nat, Lib.decDigits_one (by omega)]
   rfl)
  go_wp2
  go_ret
  exact ⟨by rw [HR0.out]; rfl, HB1.out⟩
 ·have hkb : ((k : Int) == 0) = false := by simp; omega
  have HK0 : Hid (0 < k ∧ k ≤ 2) := Lib.hid ⟨by omega, by have := HZ.out.le; have := HM.out; omega⟩
  clear hk
  go_wp2
  go_loopw [0, 3] (fun t0 t3 W => ∃ (h k y : Nat) (zs : List Int) (sl : Value) (Bk : List Int) (nb : Nat), t0 = .slice (some ⟨h, 0, none⟩) k k ∧ sl = t3 ∧ Hid (k ≤ 2 ∧ zs.length = k ∧ Limbs zs ∧ CutAt zs k ∧ magV zs = (y : Nat) ∧ W.heap[h]? = some (.cells (numsK .u32 zs).toArray 92 (0, 0))) ∧ Hid (Own W w1.heap.size 5 .u8 sl Bk ∧ Bytes Bk ∧ Bk.length = nb ∧ DigQ N y Bk ∧ y * 10 ^ nb ≤ N) ∧ lenV sl = nb ∧ nb ≤ 20 ∧ Below w1.heap.size w1 W) (fun _ t3 _ => 20 - lenV t3)
  case atStart => exact ⟨h, k, N, zs, _, [], 0, rfl, rfl, Lib.hid ⟨HK0.out.2, HZ.out.len, HZ.out.lim, HZ.out.cut, HZ.out.mag.trans HN.out, HZ.out.blk⟩, Lib.hid ⟨Own.nil _ _ _ _, Bytes.nil, rfl, by unfold DigQ; split; rename_i h0; have := HP.out.2 (by rw [HN.out, h0]; rfl); have := HK0.out; omega; simp, by simp⟩, rfl, by omega, Below.refl _ _⟩
  case round =>
   obtain ⟨h, k, y, zs, sl, Bk, nb, rfl, rfl, HA, HB, hln, hnb, hb⟩ := hrel
   have hbs : w1.heap.size ≤ wr.heap.size := hb.size
   by_cases hk : k = 0
   ·subst hk
    have hy0 : y = 0 := by
     have := (magV_pos HA.out.2.2.1 HA.out.2.2.2.1).1.1 rfl
     rw [HA.out.2.2.2.2.1] at this
     omega
    subst hy0
    have HD : Hid (Bk.reverse = decI N) := Lib.hid (by have := HB.out.2.2.2.1; unfold DigQ at this; rwa [if_pos rfl] at this)
    have HNE : Hid (Bk ≠ []) := Lib.hid (by
     intro e
     have h1 := HD.out
     rw [e] at h1
     have h2 := congrArg List.length h1
     by_cases h10 : N < 10
     ·rw [decI_small h10] at h2; simp at h2
     ·rw [decI_big h10] at h2; simp at h2)
    obtain ⟨g, cap, hsl, HSW, hgw⟩ : ∃ g cap, sl = .slice (some ⟨g, 0, none⟩) nb cap ∧ Hid (SwpI w1 wr g nb 0 Bk) ∧ w1.heap.size ≤ g := by
     rcases HB.out.1.2 with ⟨_, h0⟩ | ⟨g, cap, cur, e1, h1, h2, h3, h4, h5, h6⟩
     ·exact absurd (List.eq_nil_of_length_eq_zero h0) HNE.out
     ·refine ⟨g, cap, by rw [e1, HB.out.2.2.1], Lib.hid ⟨hb, cur, h2, by have := HB.out.2.2.1; omega, fun j hj => ?_⟩, h1⟩
      have h7 := congrArg (fun q => q[j]?) h6
      have hlt : j < Bk.length := by rw [HB.out.2.2.1]; exact hj
      simp only [Nat.mul_one, List.getElem?_take, if_pos hlt, Array.getElem?_toList, numsK, List.getElem?_map, List.getElem?_eq_getElem hlt, Option.map_some] at h7
      rw [h7]
      unfold swp
      rw [if_neg (by omega), List.getD_eq_getElem?_getD, List.getElem?_eq_getElem hlt]
      rfl
    subst hsl
    have HLB : Hid (Bk.length = nb ∧ Bytes Bk) := Lib.hid ⟨HB.out.2.2.1, HB.out.2.1⟩
    have HC2 : Hid (∃ q, nb / 2 = q ∧ (nb : Int).tdiv 2 = (q : Nat)) := Lib.hid ⟨_, rfl, by rw [Int.tdiv_eq_ediv_of_nonneg (by omega)]; omega⟩
    obtain ⟨q, hq, hq1⟩ := HC2.out
    have hqb : q ≤ 20 := by omega
    clear hb HA HB hbs HC2 hln
    obtain ⟨wo, rfl⟩ : ∃ wo, wo = wr := ⟨_, rfl⟩
    go_wp2
    go_loopw [7] (fun t7 W => ∃ i : Nat, t7 = .int .i64 i ∧ i ≤ q ∧ Hid (SwpI w1 W g nb i Bk)) (fun t7 _ => q - (intOf t7).toNat)
    case atStart => exact ⟨0, rfl, Nat.zero_le _, HSW⟩
    case round =>
     obtain ⟨i, rfl, hi, HI⟩ := hrel
     by_cases hlt : i < q
     ·obtain ⟨kk, hkk⟩ : ∃ kk, nb - 1 - i = kk := ⟨_, rfl⟩
      have e1 : ((nb : Int) - 1) - (i : Int) = (kk : Nat) := by omega
      have hkn : kk < nb := by omega
      have hin : i < nb := by omega
      obtain ⟨a1, a2⟩ := HI.out.cell i hin
      obtain ⟨b1, b2⟩ := HI.out.cell kk hkn
      have HST : Hid (SwpI w1 ((wr.setCell ⟨g, i, none⟩ (.int .u8 (swp Bk nb i kk))).setCell ⟨g, kk, none⟩ (.int .u8 (swp Bk nb i i))) g nb (i + 1) Bk) := Lib.hid (by have := HI.out.step hgw (by omega); rwa [hkk] at this)
      obtain ⟨u, hu⟩ : ∃ u, swp Bk nb i i = u := ⟨_, rfl⟩
      obtain ⟨v, hv⟩ : ∃ v, swp Bk nb i kk = v := ⟨_, rfl⟩
      rw [hu] at a1 HST
      rw [hv] at b1 HST
      have hne : i ≠ kk := by omega
      clear hu hv hq
      go_upto_region 13 with fail
      go_region
      all_goals (
       first | go_wp2 | (go_goals; fail) | skip
       try go_roundw
       case rel => exact ⟨i + 1, by go_num, by omega, Lib.hid (by first | exact HST.out | exact ⟨trans_b HST.out.b (Below.refl _ _).drew, HST.out.row⟩)⟩
       case measure => (simp only [intOf]; omega))
     ·have hbo : decide ((i : Int) < (q : Int)) = false := decide_eq_false (by omega)
      have HRK := Lib.hid (HI.out.fin HLB.out.1 (by omega))
      have hcv : (convert 131 9 (.slice (some ⟨g, 0, none⟩) nb cap)).run Tryz.prog wr = .ok (.string res) wr := by
       have := conv_RK (P := Tryz.prog) (src := 131) (dst := 9) (e := 5) Tryz.underlying131 Tryz.underlying5 Tryz.underlying9 cap HRK.out (fun _ => .inr ⟨g, 0, rfl⟩)
       rw [List.length_reverse, HLB.out.1, HD.out, strOf_decI, HRES.out] at this
       exact this
      clear hq
      go_wp2
      go_ret
      exact ⟨rfl, trans_b HB1.out HI.out.b⟩
   ·have hkb : ((0 : Int) < (k : Int)) := by omega
    have HY0 : Hid (y ≠ 0) := Lib.hid (by
     intro e
     have h1 := (magV_pos HA.out.2.2.1 HA.out.2.2.2.1).1.2 (by rw [HA.out.2.2.2.2.1, e]; rfl)
     omega)
    obtain ⟨r, hr⟩ : ∃ r : Int, ((y % 10 : Nat) : Int) = r := ⟨_, rfl⟩
    have HR := Lib.hid hr
    have hrb : 0 ≤ r ∧ r ≤ 9 := by omega
    obtain ⟨hr0, hr9⟩ := hrb
    have HSM : Hid (Calls Tryz.prog 237 #[.slice (some ⟨h, 0, none⟩) k k, .int .u32 10] wr fun e w' => ∃ h2 k2 zs2, e = .returned (.tuple #[.slice (some ⟨h2, 0, none⟩) k2 k2, .int .u32 r, .bool true]) ∧ Hid (k2 ≤ 2 ∧ zs2.length = k2 ∧ Limbs zs2 ∧ CutAt zs2 k2 ∧ magV zs2 = ((y / 10 : Nat) : Int) ∧ w'.heap[h2]? = some (.cells (numsK .u32 zs2).toArray 92 (0, 0))) ∧ Below wr.heap.size wr w') := Lib.hid (by
     refine (refSmall_any (some ⟨h, 0, none⟩) k k zs wr HA.out.2.1 HA.out.1 ⟨by have := HA.out.1; have := HA.out.2.1; omega, by have := HA.out.2.1; omega, (fun e => by cases e), numsK_row HA.out.2.2.2.2.2, HA.out.2.2.1⟩).mono ?_
     rintro e w' ⟨h2, k2, zs2, e1, H2, hb2⟩
     have e2 : magV zs % 10 = r := by rw [HA.out.2.2.2.2.1]; omega
     have e3 : magV zs2 = ((y / 10 : Nat) : Int) := by rw [H2.out.2.2.2.2.1, HA.out.2.2.2.2.1]; omega
     have hyb : y ≤ 18446744073709551615 := by
      have h1 := HB.out.2.2.2.2
      have h2 : y * 1 ≤ y * 10 ^ nb := Nat.mul_le_mul_left _ (Nat.pow_pos (by decide))
      omega
     exact ⟨h2, k2, zs2, by rw [e1, e2], Lib.hid ⟨natv_len H2.out.2.1 H2.out.2.2.1 H2.out.2.2.2.1 (by rw [e3]; omega), H2.out.2.1, H2.out.2.2.1, H2.out.2.2.2.1, e3, H2.out.2.2.2.2.2⟩, hb2⟩)
    have HNB : Hid (nb < 20) := Lib.hid (by
     have h1 := HB.out.2.2.2.2
     have h2 : 1 * 10 ^ nb ≤ y * 10 ^ nb := Nat.mul_le_mul_right _ (Nat.pos_of_ne_zero HY0.out)
     have := pow10_lt (n := nb) (by omega)
     omega)
    have hw1 : IntKind.u32.wrap (48 + r) = 48 + r := by rw [IntKind.wrap_u32]; omega
    have hw2 : IntKind.u8.wrap (48 + r) = 48 + r := by rw [IntKind.wrap_u8]; omega
    obtain ⟨x, hx⟩ : ∃ x, 48 + r = x := ⟨_, rfl⟩
    rw [hx] at hw1 hw2
    have HXX := Lib.hid hx
    have hxb : 0 ≤ x ∧ x ≤ 255 := by omega
    obtain ⟨hx0, hx1⟩ := hxb
    clear hr hk
    go_upto_region 7 with (go_at_call 237; go_must (refine HSM.out.mono ?_); go_must (rintro e w2 ⟨h2, k2, zs2, rfl, H2, hb2⟩))
    have HO2 := Lib.hid (HB.out.1.kept hb2)
    have hb3 : Below w1.heap.size w1 w2 := trans_b hb hb2
    have HLB : Hid (Bk.length = nb) := Lib.hid HB.out.2.2.1
    clear hb2
    go_upto_region 8 with (at_builtin; go_must (refine app1 (w0 := w1) w1.heap.size rfl (.tmp 23) (.tmp 27) 131 5 .u8 1 rfl Tryz.underlying131 info_byte _ Bk x rfl rfl HO2.out hb3 hb3.size (by have := HLB.out; have := HNB.out; omega) (by have := HLB.out; have := HNB.out; omega) ?_); go_must (intro v2 w4 hO4 hb4 hg4))
    have H4 : Hid (k2 ≤ 2 ∧ zs2.length = k2 ∧ Limbs zs2 ∧ CutAt zs2 k2 ∧ magV zs2 = ((y / 10 : Nat) : Int) ∧ w4.heap[h2]? = some (.cells (numsK .u32 zs2).toArray 92 (0, 0))) := Lib.hid (by
     obtain ⟨a1, a2, a3, a4, a5, a6⟩ := H2.out
     exact ⟨a1, a2, a3, a4, a5, (hg4.block _ (Array.getElem?_eq_some_iff.1 a6).1 (own_apart HO2.out a6)).trans a6⟩)
    have H5 : Hid (Own w4 w1.heap.size 5 .u8 v2 (Bk ++ [x]) ∧ Bytes (Bk ++ [x]) ∧ (Bk ++ [x]).length = nb + 1 ∧ DigQ N (y / 10) (Bk ++ [x]) ∧ y / 10 * 10 ^ (nb + 1) ≤ N) := Lib.hid ⟨hO4, HB.out.2.1.app (Bytes.one hx0 hx1), by simp [HLB.out], by have := digQ_step HB.out.2.2.2.1 HY0.out; rwa [HR.out, HXX.out] at this, by
     have h1 := HB.out.2.2.2.2
     have h2 : y / 10 * 10 ^ (nb + 1) ≤ y * 10 ^ nb := by rw [Nat.pow_succ, Nat.mul_comm (10 ^ nb), ← Nat.mul_assoc]; exact Nat.mul_le_mul_right _ (Nat.div_mul_le_self y 10)
     omega⟩
    have hlv : lenV v2 = nb + 1 := by
     obtain ⟨A2, c2, e2, -⟩ := hO4.slice
     rw [e2]
     simp [lenV, HLB.out]
    have hn20 := HNB.out
    clear hO4 hg4 H2 HA HB hw1 hw2 hx
    go_wp2
    exact ⟨⟨h2, k2, y / 10, zs2, v2, Bk ++ [x], nb + 1, rfl, rfl, H4, H5, hlv, by omega, hb4⟩, by rw [hlv]; omega⟩
end Go.Proofs.YtcpkjmpbpmeclaaGreatDoor
namespace Go.Proofs.YtcpkjmpbpmeclaaGreatDoor
open Go.RowKit
set_option maxRecDepth 100000
set_option linter.unusedVariables false
set_option linter.unusedSimpArgs false
set_option linter.unnecessarySimpa false

theorem refDigits_any (z : Nat) (hz : z ≤ 18446744073709551615) (h k : Nat) (zs : List Int) (w : World) (hl : zs.length = k) (hb : Limbs zs) (hc : CutAt zs k) (hv : magV zs = (z : Nat)) (hr : w.heap[h]? = some (.cells (numsK .u32 zs).toArray 92 (0, 0))) :
  Calls Tryz.prog 206 #[.slice (some ⟨h, 0, none⟩) k k] w fun e w' => e = .returned (.string (strU (decB z))) ∧ Below w.heap.size w w' :=
 have h2 : k ≤ 2 := natv_len hl hb hc (by rw [hv]; omega)
 refDigits_walk (some ⟨h, 0, none⟩) k k zs w hl h2 ⟨by omega, by omega, (fun e => by cases e), numsK_row hr, hb⟩ z hv hz
theorem step_any (i : Nat) (hi : i ≤ 2000000000) (w : World) :
  Calls Tryz.prog 143 #[.int .i64 i] w fun e w' => e = .returned (.string (strU (47 :: decB i))) ∧ Below w.heap.size w w' := by
 have hl := decB_len i hi
 have hs : (⟨#[47]⟩ : ByteArray) ++ strU (decB i) = strU (47 :: decB i) := strU_app [47] (decB i)
 obtain ⟨s, hss⟩ : ∃ s, strU (decB i) = s := ⟨_, rfl⟩
 obtain ⟨t, ht⟩ : ∃ t, strU (47 :: decB i) = t := ⟨_, rfl⟩
 have hsz : s.size ≤ 10 := by rw [← hss, strU_size]; exact hl
 have HD : Hid (∀ (h k : Nat) (zs : List Int) (W : World), zs.length = k → Limbs zs → CutAt zs k → magV zs = (i : Nat) → W.heap[h]? = some (.cells (numsK .u32 zs).toArray 92 (0, 0)) → Calls Tryz.prog 206 #[.slice (some ⟨h, 0, none⟩) k k] W fun e w' => e = .returned (.string s) ∧ Below W.heap.size W w') := Lib.hid fun h k zs W a b c d e => by rw [← hss]; exact refDigits_any i (by omega) h k zs W a b c d e
 rw [hss, ht] at hs
 have hno : ¬ 9223372036854775807 < 1 + s.size := by omega
 have HS := Lib.hid hs
 rw [ht]
 have hw : IntKind.u64.wrap (i : Int) = i := by rw [IntKind.wrap_u64]; omega
 clear hss ht hl hs hsz
 go_enter Tryz.func143, Tryz.ntmps143
 go_wp2_with (first
  | (go_at_call 207; go_must (refine (refFrom_any (i : Int) _ (by omega) (by omega)).mono ?_); go_must (rintro e w1 ⟨h, k, zs, rfl, HH, hb1⟩))
  | (go_at_call 206; go_must (refine (HD.out h k zs _ HH.out.2.1 HH.out.2.2.1 HH.out.2.2.2.1 HH.out.2.2.2.2.1 HH.out.2.2.2.2.2).mono ?_); go_must (rintro e w2 ⟨rfl, hb2⟩)))
 go_ret
 exact ⟨by rw [← HS.out]; rfl, trans_b hb1 hb2⟩
/-- Bytes of a text put behind a row of the call's own. -/
theorem infop_byte : ∃ i0 z0, Tryz.prog.info? 5 = some i0 ∧ i0.zero = some z0 ∧ i0.size = 1 ∧ i0.bytes = 1 ∧ z0.cells.size = 1 := by
 obtain ⟨i0, hi, hzz⟩ := Option.map_eq_some_iff.1 info_byte
 simp only [Prod.mk.injEq] at hzz
 exact ⟨i0, _, hi, hzz.1, hzz.2.1, hzz.2.2, rfl⟩
end Go.Proofs.YtcpkjmpbpmeclaaGreatDoor
namespace Go.Proofs.YtcpkjmpbpmeclaaGreatDoor
open Go.RowKit
set_option maxRecDepth 100000
set_option linter.unusedVariables false
set_option linter.unusedSimpArgs false
set_option linter.unnecessarySimpa false

def bI (l : List UInt8) : List Int := l.map fun u => (u.toNat : Int)
theorem bI_cells (l : List UInt8) : numsK .u8 (bI l) = Lib.byteCells l := by simp [numsK, bI, Lib.byteCells]
theorem strOf_bI (l : List UInt8) : strOfNums (bI l) = strU l := by
 apply ByteArray.ext
 apply Array.ext'
 simp only [strOfNums, bI, List.map_map, strU]
 conv => rhs; rw [← List.map_id l]
 apply List.map_congr_left
 intro u _
 simp
theorem own_conv {W : World} {B : Nat} {v : Value} {l : List UInt8} (h : W.ownsRow B 5 1 v l.length (Lib.byteCells l)) : (convert 131 9 v).run Tryz.prog W = .ok (.string (strU l)) W := by
 have hO : Own W B 5 .u8 v (bI l) := by unfold Own; rw [bI_cells]; simpa [bI] using h
 obtain ⟨A, c, rfl, hr, _, hA⟩ := hO.slice
 have := conv_RK (P := Tryz.prog) (src := 131) (dst := 9) (e := 5) Tryz.underlying131 Tryz.underlying5 Tryz.underlying9 c hr (fun _ => hA)
 rwa [strOf_bI] at this
set_option maxHeartbeats 2000000 in
theorem refPath_any (A : Option Addr) (n c : Nat) (r : List Nat) (w : World) (hl : r.length = n) (hn : n ≤ 1000000000) (hb : ∀ x ∈ r, x ≤ 2000000000) (hr : RK w .i64 A (nums r)) :
  Calls Tryz.prog 54 #[.slice A n c] w fun e w' => e = .returned (.string (strU (pathB r))) ∧ Below w.heap.size w w' := by
 have HR := Lib.hid hr
 have HL := Lib.hid hl
 have HB := Lib.hid hb
 obtain ⟨res, hres⟩ : ∃ res, strU (pathB r) = res := ⟨_, rfl⟩
 have HRES := Lib.hid hres
 rw [hres]
 clear hr hl hb hres
 go_enter Tryz.func54, Tryz.ntmps54
 go_wp2
 go_loopw [3, 4] (fun t3 t4 W => ∃ (i : Nat) (sl : Value), t4 = .int .i64 i ∧ sl = t3 ∧ i ≤ n ∧ Hid (W.ownsRow w.heap.size 5 1 sl (pathB (r.take i)).length (Lib.byteCells (pathB (r.take i)))) ∧ Below w.heap.size w W) (fun _ t4 _ => n - (intOf t4).toNat)
 case atStart => exact ⟨0, _, rfl, rfl, Nat.zero_le _, Lib.hid ⟨by simp [pathB, Lib.byteCells], .inl ⟨rfl, rfl⟩⟩, Below.refl _ _⟩
 case round =>
  obtain ⟨i, sl, rfl, rfl, hi, HO, hw⟩ := hrel
  have hbs : w.heap.size ≤ wr.heap.size := hw.size
  by_cases hlt : i < n
  ·have hir : i < r.length := by rw [HL.out]; exact hlt
   obtain ⟨b, o, hA, hc⟩ := (HR.out.below hw).cell i (by rw [nums_len]; exact hir)
   subst hA
   obtain ⟨x, hx⟩ : ∃ x, r[i] = x := ⟨_, rfl⟩
   have hg : (nums r).getD i 0 = (x : Nat) := by
    unfold nums
    rw [List.getD_eq_getElem?_getD, List.getElem?_map, List.getElem?_eq_getElem hir, hx]
    rfl
   rw [hg] at hc
   have hx2 : x ≤ 2000000000 := by rw [← hx]; exact HB.out _ (List.getElem_mem hir)
   have HT : Hid (pathB (r.take (i + 1)) = pathB (r.take i) ++ (47 :: decB x)) := Lib.hid (by rw [List.take_succ_eq_append_getElem hir, hx, pathB_app]; simp [pathB])
   have HPL : Hid ((pathB (r.take i)).length ≤ 11000000000 ∧ (47 :: decB x).length ≤ 11) := Lib.hid ⟨by
    have h1 := pathB_len (r.take i) fun y hy => HB.out y (List.mem_of_mem_take hy)
    have h2 : (r.take i).length ≤ n := by rw [List.length_take]; omega
    omega, by have := decB_len x hx2; simp only [List.length_cons]; omega⟩
   clear hg hx hir
   go_upto_region 5 with fail
   go_wp2_with (first
    | (go_at_call 143; go_must (refine (step_any x hx2 _).mono ?_); go_must (rintro e w2 ⟨rfl, hb2⟩; have HO2 := Lib.hid (World.ownsRow.kept (row := none) HO.out ⟨hb2.os, hb2.tape, hb2.output, hb2.size, fun j hj _ => hb2.block j hj⟩ (by cases sl.ownBlock <;> simp)); have hw2 := trans_b hw hb2; clear hb2))
    | (at_builtin; go_must (obtain ⟨i0, hi0, hzz⟩ := Option.map_eq_some_iff.1 info_byte; simp only [Prod.mk.injEq] at hzz; refine Lib.wpList_append_own_string _ rfl (.tmp 11) (.tmp 16) 131 9 rfl w.heap.size 5 i0 Tryz.underlying131 Tryz.underlying9 hi0 hzz.1 hzz.2.1 hzz.2.2 sl (pathB (r.take i)).length (Lib.byteCells (pathB (r.take i))) rfl HO2.out (strU (47 :: decB x)) rfl (by rw [strU_size]; have := HPL.out; simp only [maxLen]; omega) (by rw [strU_size]; have := HPL.out; omega) hw2.size ?_); go_must (intro v2 w3 hO3 hg3 _; have hw3 := hw2.grown hg3 hw2.size (fun j hj => (World.ownsRow.lt HO2.out j hj).1); have HO3 : Hid (w3.ownsRow w.heap.size 5 1 v2 (pathB (r.take (i + 1))).length (Lib.byteCells (pathB (r.take (i + 1))))) := Lib.hid (by rw [HT.out, List.length_append, byteCells_app]; rw [strU_size, strU_cells] at hO3; exact hO3); clear hO3 hg3 hi0 hzz)))
   exact ⟨⟨i + 1, v2, by go_num, rfl, by omega, HO3, hw3⟩, by simp [intOf]; omega⟩
  ·obtain rfl : i = n := by omega
   have HF : Hid (pathB (r.take i) = pathB r) := Lib.hid (by rw [List.take_of_length_le (by rw [HL.out]; exact Nat.le_refl _)])
   have hcv := own_conv HO.out
   rw [HF.out, HRES.out] at hcv
   go_wp2
   go_ret
   exact ⟨rfl, hw⟩
end Go.Proofs.YtcpkjmpbpmeclaaGreatDoor
