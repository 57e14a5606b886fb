/- value.walk: the closure that visits. -/
import Derived.Test.YtcpkjmpbpmeclaaGreatDoorMak
import Derived.Deep.DeepMust
namespace Go.Proofs.YtcpkjmpbpmeclaaGreatDoor
open Go.RowKit
set_option maxRecDepth 100000
set_option linter.unusedVariables false
set_option linter.unusedSimpArgs false
set_option linter.unnecessarySimpa false

set_option maxHeartbeats 4000000 in
theorem visitW (w : World) (N : FuncId) (p : VT → Nat → Bool) (k n bs ex : Int) (ng : Bool) (tx : ByteArray) (mA A : Option Addr) (ml mc m cp : Nat) (l : List VT) (d : Nat) (pre : List Nat) (here : Bool) (z : Int) (W : World)
  (eN : ∀ args w, (callFunc N args).run Tryz.prog w = .ok (.enter N args) w) (hz : z = d) (hd : d ≤ 2000000000) (hlm : l.length = m) (hm : m ≤ 1000000000) (hpl : pre.length ≤ 2000000000) (hI : WInv w N pre W) (hr : VRow w A l)
  (HW : Hid (∀ W, Below w.heap.size w W → Calls Tryz.prog N #[.agg #[.int .i8 k, .int .u64 n, .bool ng, .slice mA ml mc, .int .u64 bs, .int .i8 ex, .string tx, .slice A m cp], .int .i64 z] W fun e w' => e = .returned (.bool here) ∧ Below W.heap.size W w'))
  (HK : Hid (∀ i (h : i < l.length) (z : Int) W, z = ((if isC k then d + 1 else d : Nat) : Int) → WInv w N (pre ++ [i]) W → Calls Tryz.prog 134 #[(l[i]).agg, .int .i64 z, .pointer (some ⟨w.heap.size + 1, 0, none⟩), .pointer (some ⟨w.heap.size + 2, 0, none⟩), .pointer (some ⟨w.heap.size + 3, 0, none⟩)] W fun e w' =>
   e = .returned (.bool (badAt p (l[i]) (if isC k then d + 1 else d)).isSome) ∧ WInv w N (pre ++ [i] ++ (badAt p (l[i]) (if isC k then d + 1 else d)).getD []) w')) :
  Calls Tryz.prog 134 #[.agg #[.int .i8 k, .int .u64 n, .bool ng, .slice mA ml mc, .int .u64 bs, .int .i8 ex, .string tx, .slice A m cp], .int .i64 z, .pointer (some ⟨w.heap.size + 1, 0, none⟩), .pointer (some ⟨w.heap.size + 2, 0, none⟩), .pointer (some ⟨w.heap.size + 3, 0, none⟩)] W fun e w' =>
   e = .returned (.bool (if here then some [] else badAtL p l (if isC k then d + 1 else d) 0).isSome) ∧ WInv w N (pre ++ (if here then some [] else badAtL p l (if isC k then d + 1 else d) 0).getD []) w' := by
 have hba : Below W.heap.size W (W.alloc (.cells #[.int .i8 k, .int .u64 n, .bool ng, .slice mA ml mc, .int .u64 bs, .int .i8 ex, .string tx, .slice A m cp] 31)) := (Below.refl _ _).alloc (Nat.le_refl _) _
 have HP := Lib.hid (heap_alloc_new W (.cells #[.int .i8 k, .int .u64 n, .bool ng, .slice mA ml mc, .int .u64 bs, .int .i8 ex, .string tx, .slice A m cp] 31))
 have HI0 := Lib.hid (hI.below hba)
 have HR := Lib.hid hr
 have HL := Lib.hid hlm
 have HPL := Lib.hid hpl
 obtain ⟨q, hq⟩ : ∃ q, badAtL p l (if isC k then d + 1 else d) 0 = q := ⟨_, rfl⟩
 have HQ := Lib.hid hq
 rw [hq]
 have HZ := Lib.hid hz
 clear hba hI hr hlm hpl hq hz
 go_enter Tryz.func134, Tryz.ntmps134
 go_upto_region 1 with fail
 show Code.wp _ _ _ _ (W.alloc (.cells #[.int .i8 k, .int .u64 n, .bool ng, .slice mA ml mc, .int .u64 bs, .int .i8 ex, .string tx, .slice A m cp] 31))
 generalize (W.alloc (.cells #[.int .i8 k, .int .u64 n, .bool ng, .slice mA ml mc, .int .u64 bs, .int .i8 ex, .string tx, .slice A m cp] 31)) = W0 at *
 obtain ⟨⟨c0, c1, c2, c3, c4, c5, c6, c7⟩, _⟩ := blk8 HP.out
 obtain ⟨a1, a2⟩ := blk1 HI0.out.f
 cases here
 ·obtain ⟨D, hD⟩ : ∃ D, (if isC k then d + 1 else d) = D := ⟨_, rfl⟩
  obtain ⟨zz, hzz⟩ : ∃ zz : Int, zz = (D : Int) := ⟨_, rfl⟩
  rw [hD] at HK HQ
  have HZZ : Hid (zz = (D : Int)) := Lib.hid hzz
  have hcon : ∀ W, Calls Tryz.prog 50 #[.agg #[.int .i8 k, .int .u64 n, .bool ng, .slice mA ml mc, .int .u64 bs, .int .i8 ex, .string tx, .slice A m cp]] W fun e w' => e = .returned (.bool (isC k)) ∧ Below W.heap.size W w' := fun W => container_any _ _ _ _ _ _ _ _ W
  have HCON := Lib.hid hcon
  have hz1 : z + 1 = d + 1 := by have := HZ.out; omega
  have hz0 : 0 ≤ z ∧ z ≤ 2000000000 := by have := HZ.out; omega
  obtain ⟨hza, hzb⟩ := hz0
  clear hzz hcon
  cases hC : isC k
  ·have hzd : zz = z := by rw [HZZ.out, HZ.out, ← hD, hC]; rfl
   subst hzd
   rw [hC] at HCON
   clear hz1 hD
   go_wp2_with (first
    | (go_at_call 50; refine (HCON.out _).mono ?_; rintro e w2 ⟨rfl, hb2⟩; have h7 := keep1 hb2 g7)
    | (with_reducible refine (HW.out _ HI0.out.b).mono ?_; rintro e w1 ⟨rfl, hb1⟩; have g0 := keep1 hb1 c0; have g1 := keep1 hb1 c1; have g2 := keep1 hb1 c2; have g3 := keep1 hb1 c3; have g4 := keep1 hb1 c4; have g5 := keep1 hb1 c5; have g6 := keep1 hb1 c6; have g7 := keep1 hb1 c7))
   have HI2 := Lib.hid ((HI0.out.below hb1).below hb2)
   clear c0 c1 c2 c3 c4 c5 c6 c7 g0 g1 g2 g3 g4 g5 g6 g7 hb1 hb2 a1 a2 HI0 HP HW HCON
   go_loopw [21] (fun i W => ∃ j : Nat, i = .int .i64 j ∧ j ≤ m ∧ Hid (badAtL p (l.drop j) D j = q) ∧ Hid (WInv w N pre W)) (fun i _ => m - (intOf i).toNat)
   case atStart => exact ⟨0, rfl, Nat.zero_le _, Lib.hid (by rw [List.drop_zero]; exact HQ.out), HI2⟩
   case round =>
    obtain ⟨j, rfl, hj, HJ, HI⟩ := hrel
    clear h7 HI2
    by_cases hlt : j < m
    ·have hjl : j < l.length := by rw [HL.out]; exact hlt
     obtain ⟨r, hr2⟩ : ∃ r, badAt p (l[j]'hjl) D = r := ⟨_, rfl⟩
     have hkj := HK.out j hjl
     rw [hr2] at hkj
     obtain ⟨b, off, xk, xn, xg, xmA, xml, xmc, xb, xe, xt, xA, xl, xc, rfl, r0, r1, r2, r3, r4, r5, r6, r7, hC2⟩ := (HR.out.below HI.out.b).kid hjl (C := fun u => ∀ (z : Int) W, z = (D : Int) → WInv w N (pre ++ [j]) W → Calls Tryz.prog 134 #[u, .int .i64 z, .pointer (some ⟨w.heap.size + 1, 0, none⟩), .pointer (some ⟨w.heap.size + 2, 0, none⟩), .pointer (some ⟨w.heap.size + 3, 0, none⟩)] W fun e w' => e = .returned (.bool r.isSome) ∧ WInv w N (pre ++ [j] ++ r.getD []) w') hkj
     have HKJ := Lib.hid hC2
     have HS1 : Hid (∀ x, r = some x → q = some (j :: x)) := Lib.hid fun x hx => by rw [← HJ.out]; exact badAtL_some hjl (hr2.trans hx)
     have HS2 : Hid (r = none → badAtL p (l.drop (j + 1)) D (j + 1) = q) := Lib.hid fun hx => by rw [← HJ.out]; exact (badAtL_none hjl (hr2.trans hx)).symm
     obtain ⟨sl, hs, hO⟩ := HI.out.s
     have hob := fun bb (hb : sl.ownBlock = some bb) => World.ownsRow.lt hO bb hb
     obtain ⟨A1, c1, hsl, -, -, -⟩ := hO.slice
     rw [nums_len] at hsl
     have hpl := HPL.out
     clear hkj hC2 hr2 hjl
     have hba : Below wr.heap.size wr (wr.alloc (.cells #[.int .i8 xk, .int .u64 xn, .bool xg, .slice xmA xml xmc, .int .u64 xb, .int .i8 xe, .string xt, .slice xA xl xc] 31)) := (Below.refl _ _).alloc (Nat.le_refl _) _
     have HI1 := Lib.hid (HI.out.below hba)
     have HP1 := Lib.hid (heap_alloc_new wr (.cells #[.int .i8 xk, .int .u64 xn, .bool xg, .slice xmA xml xmc, .int .u64 xb, .int .i8 xe, .string xt, .slice xA xl xc] 31))
     have HS := Lib.hid ((hba.block _ (by have := HI.out.z; omega)).trans hs)
     have HO := Lib.hid (hO.kept hba)
     have HOB := Lib.hid hob
     clear hba hs hO hob
     obtain ⟨np, hnp⟩ : ∃ np, pre.length = np := ⟨_, rfl⟩
     rw [hnp] at hsl hpl
     subst hsl
     have HNP := Lib.hid hnp
     clear hnp
     go_upto_region 8 with fail
     show Code.wp _ _ _ _ (wr.alloc (.cells #[.int .i8 xk, .int .u64 xn, .bool xg, .slice xmA xml xmc, .int .u64 xb, .int .i8 xe, .string xt, .slice xA xl xc] 31))
     generalize (wr.alloc (.cells #[.int .i8 xk, .int .u64 xn, .bool xg, .slice xmA xml xmc, .int .u64 xb, .int .i8 xe, .string xt, .slice xA xl xc] 31)) = W1 at *
     clear r0 r1 r2 r3 r4 r5 r6 r7
     obtain ⟨s1, s2⟩ := blk1 HS.out
     have HL1 : Hid ((nums pre).length + 1 ≤ 2000000001) := Lib.hid (by rw [nums_len, HNP.out]; omega)
     have e1 : ((np + 1 : Nat) : Int) - 1 = np := by omega
     have e2 : IntKind.i64.wrap (np : Int) = np := wraps_i64 _ (by omega) (by omega)
     go_upto_region 9 with (at_builtin; go_must (refine app1 (w0 := W1) (w.heap.size + 4) rfl (.tmp 26) (.tmp 28) 93 3 .i64 8 rfl Tryz.underlying93 info_int (.slice A1 np c1) (nums pre) (j : Int) rfl rfl HO.out (Below.refl _ _) HI1.out.z (by have := HL1.out; omega) (by have := HL1.out; omega) ?_); go_must (intro v2 w3 hO3 hb3 hg3; have HI4 := Lib.hid (HI1.out.keep (pre' := pre ++ [j]) HS.out hb3 (by rw [nums_app]; exact hO3)); obtain ⟨t1, t2⟩ := blk1 ((hb3.block _ (by omega)).trans HS.out); obtain ⟨A2, c2, hv2', -⟩ := hO3.slice; have hv2 : v2 = .slice A2 (np + 1) c2 := (by rw [hv2', List.length_append, nums_len, HNP.out]; rfl); clear hv2'; have HB3 := Lib.hid hb3; have HG3 : Hid (w3.heap[wr.heap.size]? = W1.heap[wr.heap.size]?) := Lib.hid (hg3.block _ (Array.getElem?_eq_some_iff.1 HP1.out).1 (fun e => by have := (HOB.out _ e.symm).2; omega)); subst hv2; clear hO3 hb3 hg3))
     have HI4b := Lib.hid (heap_setCell_other w3 ⟨w.heap.size + 2, 0, none⟩ wr.heap.size (.slice A2 (np + 1) c2) (by have := HI.out.z; show wr.heap.size ≠ w.heap.size + 2; omega))
     have HB4 := Lib.hid (HI4b.out.trans (HG3.out.trans HP1.out))
     clear HI4b t1 t2 s1 s2 HB3 HG3 HP1 HI1 HS HO HOB
     generalize (w3.setCell ⟨w.heap.size + 2, 0, none⟩ (.slice A2 (np + 1) c2)) = W4 at *
     obtain ⟨⟨r0, r1, r2, r3, r4, r5, r6, r7⟩, -⟩ := blk8 HB4.out
     have v1 : W4.cell? ⟨w.heap.size + 3, 0, none⟩ = some (.func (.func 134) #[] #[.pointer (some ⟨w.heap.size + 1, 0, none⟩), .pointer (some ⟨w.heap.size + 2, 0, none⟩), .pointer (some ⟨w.heap.size + 3, 0, none⟩)]) := (blk1 HI4.out.v).1
     cases r with
     | none =>
      have HJ2 := Lib.hid (HS2.out rfl)
      clear HS1 HS2 HJ
      go_wp2_with (go_at_call 134; go_must (refine (HKJ.out _ _ HZZ.out HI4.out).mono ?_); go_must (rintro e w5 ⟨rfl, HI5'⟩; have HI5 : Hid (WInv w N (pre ++ [j]) w5) := Lib.hid (by simpa using HI5'); obtain ⟨sl5, hs5, hO5⟩ := HI5.out.s; rw [nums_app] at hO5; obtain ⟨g5, c5, hsl5, hc5⟩ := own_snoc hO5; rw [nums_len, HNP.out] at hsl5 hc5; subst hsl5; have HI6 := Lib.hid (HI5.out.keep (pre' := pre) hs5 (Below.refl _ _) (own_cut hO5 (by rw [nums_len, HNP.out]))); obtain ⟨y1, y2⟩ := blk1 hs5; clear r0 r1 r2 r3 r4 r5 r6 r7 v1 HI5' hs5 hO5))
      exact ⟨⟨j + 1, by go_num, by omega, HJ2, HI6⟩, by simp [intOf]; omega⟩
     | some x =>
      have HQS := Lib.hid (HS1.out x rfl)
      clear HS1 HS2 HJ
      go_wp2_with (go_at_call 134; go_must (refine (HKJ.out _ _ HZZ.out HI4.out).mono ?_); go_must (rintro e w5 ⟨rfl, HI5'⟩; have HI5 : Hid (WInv w N (pre ++ [j] ++ x) w5) := Lib.hid (by simpa using HI5'); clear r0 r1 r2 r3 r4 r5 r6 r7 v1 HI5'))
      go_ret
      exact ⟨by rw [HQS.out]; rfl, by rw [HQS.out]; have := HI5.out; rw [List.append_assoc] at this; exact this⟩
    ·obtain rfl : j = m := by omega
     have HQN : Hid (q = none) := Lib.hid (by rw [← HJ.out]; exact badAtL_end (by rw [HL.out]; exact Nat.le_refl _))
     go_wp2
     go_ret
     exact ⟨by rw [HQN.out]; rfl, by rw [HQN.out]; simpa using HI.out⟩
  ·have hzd : zz = z + 1 := by rw [HZZ.out, HZ.out, ← hD, hC]; rfl
   subst hzd
   rw [hC] at HCON
   clear hz1 hD
   go_wp2_with (first
    | (go_at_call 50; refine (HCON.out _).mono ?_; rintro e w2 ⟨rfl, hb2⟩; have h7 := keep1 hb2 g7)
    | (with_reducible refine (HW.out _ HI0.out.b).mono ?_; rintro e w1 ⟨rfl, hb1⟩; have g0 := keep1 hb1 c0; have g1 := keep1 hb1 c1; have g2 := keep1 hb1 c2; have g3 := keep1 hb1 c3; have g4 := keep1 hb1 c4; have g5 := keep1 hb1 c5; have g6 := keep1 hb1 c6; have g7 := keep1 hb1 c7))
   have HI2 := Lib.hid ((HI0.out.below hb1).below hb2)
   clear c0 c1 c2 c3 c4 c5 c6 c7 g0 g1 g2 g3 g4 g5 g6 g7 hb1 hb2 a1 a2 HI0 HP HW HCON
   go_loopw [21] (fun i W => ∃ j : Nat, i = .int .i64 j ∧ j ≤ m ∧ Hid (badAtL p (l.drop j) D j = q) ∧ Hid (WInv w N pre W)) (fun i _ => m - (intOf i).toNat)
   case atStart => exact ⟨0, rfl, Nat.zero_le _, Lib.hid (by rw [List.drop_zero]; exact HQ.out), HI2⟩
   case round =>
    obtain ⟨j, rfl, hj, HJ, HI⟩ := hrel
    clear h7 HI2
    by_cases hlt : j < m
    ·have hjl : j < l.length := by rw [HL.out]; exact hlt
     obtain ⟨r, hr2⟩ : ∃ r, badAt p (l[j]'hjl) D = r := ⟨_, rfl⟩
     have hkj := HK.out j hjl
     rw [hr2] at hkj
     obtain ⟨b, off, xk, xn, xg, xmA, xml, xmc, xb, xe, xt, xA, xl, xc, rfl, r0, r1, r2, r3, r4, r5, r6, r7, hC2⟩ := (HR.out.below HI.out.b).kid hjl (C := fun u => ∀ (z : Int) W, z = (D : Int) → WInv w N (pre ++ [j]) W → Calls Tryz.prog 134 #[u, .int .i64 z, .pointer (some ⟨w.heap.size + 1, 0, none⟩), .pointer (some ⟨w.heap.size + 2, 0, none⟩), .pointer (some ⟨w.heap.size + 3, 0, none⟩)] W fun e w' => e = .returned (.bool r.isSome) ∧ WInv w N (pre ++ [j] ++ r.getD []) w') hkj
     have HKJ := Lib.hid hC2
     have HS1 : Hid (∀ x, r = some x → q = some (j :: x)) := Lib.hid fun x hx => by rw [← HJ.out]; exact badAtL_some hjl (hr2.trans hx)
     have HS2 : Hid (r = none → badAtL p (l.drop (j + 1)) D (j + 1) = q) := Lib.hid fun hx => by rw [← HJ.out]; exact (badAtL_none hjl (hr2.trans hx)).symm
     obtain ⟨sl, hs, hO⟩ := HI.out.s
     have hob := fun bb (hb : sl.ownBlock = some bb) => World.ownsRow.lt hO bb hb
     obtain ⟨A1, c1, hsl, -, -, -⟩ := hO.slice
     rw [nums_len] at hsl
     have hpl := HPL.out
     clear hkj hC2 hr2 hjl
     have hba : Below wr.heap.size wr (wr.alloc (.cells #[.int .i8 xk, .int .u64 xn, .bool xg, .slice xmA xml xmc, .int .u64 xb, .int .i8 xe, .string xt, .slice xA xl xc] 31)) := (Below.refl _ _).alloc (Nat.le_refl _) _
     have HI1 := Lib.hid (HI.out.below hba)
     have HP1 := Lib.hid (heap_alloc_new wr (.cells #[.int .i8 xk, .int .u64 xn, .bool xg, .slice xmA xml xmc, .int .u64 xb, .int .i8 xe, .string xt, .slice xA xl xc] 31))
     have HS := Lib.hid ((hba.block _ (by have := HI.out.z; omega)).trans hs)
     have HO := Lib.hid (hO.kept hba)
     have HOB := Lib.hid hob
     clear hba hs hO hob
     obtain ⟨np, hnp⟩ : ∃ np, pre.length = np := ⟨_, rfl⟩
     rw [hnp] at hsl hpl
     subst hsl
     have HNP := Lib.hid hnp
     clear hnp
     go_upto_region 8 with fail
     show Code.wp _ _ _ _ (wr.alloc (.cells #[.int .i8 xk, .int .u64 xn, .bool xg, .slice xmA xml xmc, .int .u64 xb, .int .i8 xe, .string xt, .slice xA xl xc] 31))
     generalize (wr.alloc (.cells #[.int .i8 xk, .int .u64 xn, .bool xg, .slice xmA xml xmc, .int .u64 xb, .int .i8 xe, .string xt, .slice xA xl xc] 31)) = W1 at *
     clear r0 r1 r2 r3 r4 r5 r6 r7
     obtain ⟨s1, s2⟩ := blk1 HS.out
     have HL1 : Hid ((nums pre).length + 1 ≤ 2000000001) := Lib.hid (by rw [nums_len, HNP.out]; omega)
     have e1 : ((np + 1 : Nat) : Int) - 1 = np := by omega
     have e2 : IntKind.i64.wrap (np : Int) = np := wraps_i64 _ (by omega) (by omega)
     go_upto_region 9 with (at_builtin; go_must (refine app1 (w0 := W1) (w.heap.size + 4) rfl (.tmp 26) (.tmp 28) 93 3 .i64 8 rfl Tryz.underlying93 info_int (.slice A1 np c1) (nums pre) (j : Int) rfl rfl HO.out (Below.refl _ _) HI1.out.z (by have := HL1.out; omega) (by have := HL1.out; omega) ?_); go_must (intro v2 w3 hO3 hb3 hg3; have HI4 := Lib.hid (HI1.out.keep (pre' := pre ++ [j]) HS.out hb3 (by rw [nums_app]; exact hO3)); obtain ⟨t1, t2⟩ := blk1 ((hb3.block _ (by omega)).trans HS.out); obtain ⟨A2, c2, hv2', -⟩ := hO3.slice; have hv2 : v2 = .slice A2 (np + 1) c2 := (by rw [hv2', List.length_append, nums_len, HNP.out]; rfl); clear hv2'; have HB3 := Lib.hid hb3; have HG3 : Hid (w3.heap[wr.heap.size]? = W1.heap[wr.heap.size]?) := Lib.hid (hg3.block _ (Array.getElem?_eq_some_iff.1 HP1.out).1 (fun e => by have := (HOB.out _ e.symm).2; omega)); subst hv2; clear hO3 hb3 hg3))
     have HI4b := Lib.hid (heap_setCell_other w3 ⟨w.heap.size + 2, 0, none⟩ wr.heap.size (.slice A2 (np + 1) c2) (by have := HI.out.z; show wr.heap.size ≠ w.heap.size + 2; omega))
     have HB4 := Lib.hid (HI4b.out.trans (HG3.out.trans HP1.out))
     clear HI4b t1 t2 s1 s2 HB3 HG3 HP1 HI1 HS HO HOB
     generalize (w3.setCell ⟨w.heap.size + 2, 0, none⟩ (.slice A2 (np + 1) c2)) = W4 at *
     obtain ⟨⟨r0, r1, r2, r3, r4, r5, r6, r7⟩, -⟩ := blk8 HB4.out
     have v1 : W4.cell? ⟨w.heap.size + 3, 0, none⟩ = some (.func (.func 134) #[] #[.pointer (some ⟨w.heap.size + 1, 0, none⟩), .pointer (some ⟨w.heap.size + 2, 0, none⟩), .pointer (some ⟨w.heap.size + 3, 0, none⟩)]) := (blk1 HI4.out.v).1
     cases r with
     | none =>
      have HJ2 := Lib.hid (HS2.out rfl)
      clear HS1 HS2 HJ
      go_wp2_with (go_at_call 134; go_must (refine (HKJ.out _ _ HZZ.out HI4.out).mono ?_); go_must (rintro e w5 ⟨rfl, HI5'⟩; have HI5 : Hid (WInv w N (pre ++ [j]) w5) := Lib.hid (by simpa using HI5'); obtain ⟨sl5, hs5, hO5⟩ := HI5.out.s; rw [nums_app] at hO5; obtain ⟨g5, c5, hsl5, hc5⟩ := own_snoc hO5; rw [nums_len, HNP.out] at hsl5 hc5; subst hsl5; have HI6 := Lib.hid (HI5.out.keep (pre' := pre) hs5 (Below.refl _ _) (own_cut hO5 (by rw [nums_len, HNP.out]))); obtain ⟨y1, y2⟩ := blk1 hs5; clear r0 r1 r2 r3 r4 r5 r6 r7 v1 HI5' hs5 hO5))
      exact ⟨⟨j + 1, by go_num, by omega, HJ2, HI6⟩, by simp [intOf]; omega⟩
     | some x =>
      have HQS := Lib.hid (HS1.out x rfl)
      clear HS1 HS2 HJ
      go_wp2_with (go_at_call 134; go_must (refine (HKJ.out _ _ HZZ.out HI4.out).mono ?_); go_must (rintro e w5 ⟨rfl, HI5'⟩; have HI5 : Hid (WInv w N (pre ++ [j] ++ x) w5) := Lib.hid (by simpa using HI5'); clear r0 r1 r2 r3 r4 r5 r6 r7 v1 HI5'))
      go_ret
      exact ⟨by rw [HQS.out]; rfl, by rw [HQS.out]; have := HI5.out; rw [List.append_assoc] at this; exact this⟩
    ·obtain rfl : j = m := by omega
     have HQN : Hid (q = none) := Lib.hid (by rw [← HJ.out]; exact badAtL_end (by rw [HL.out]; exact Nat.le_refl _))
     go_wp2
     go_ret
     exact ⟨by rw [HQN.out]; rfl, by rw [HQN.out]; simpa using HI.out⟩
 ·go_wp2_with (with_reducible refine (HW.out _ HI0.out.b).mono ?_; rintro e w1 ⟨rfl, hb1⟩)
  go_ret
  exact ⟨rfl, by simpa using HI0.out.below hb1⟩
end Go.Proofs.YtcpkjmpbpmeclaaGreatDoor
