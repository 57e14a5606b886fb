/- BeyondValue: it ends, whatever it says. -/
import Derived.Test.YtcpkjmpbpmeclaaGreatDoorMaj
import Derived.Deep.LoopGhost
import Derived.Deep.DeepMust
namespace Go.Proofs.YtcpkjmpbpmeclaaGreatDoor
open Go.RowKit
set_option maxRecDepth 100000
set_option linter.unusedVariables false
set_option linter.unusedSimpArgs false
set_option linter.unnecessarySimpa false

/-- What is counted: 'a': parts, 'b': bytes; 'k': the level's size. -/
def Cnt (a b d k : Nat) : Prop := a + k ≤ 1000000000 ∧ b + k ≤ 1000000000 ∧ d + k ≤ 1000000000
/-- Within a level. -/
def Cnt2 (a b : Nat) (lev nx : List VT) (i : Nat) : Prop :=
 a + VT.szL (lev.drop i) + VT.szL nx ≤ 1000000000 + (lev.length - i) ∧ b + VT.szL (lev.drop i) + VT.szL nx ≤ 1000000000 ∧ VT.szL nx + VT.szL (lev.drop i) + i ≤ VT.szL lev
theorem cnt2_start {a b d k : Nat} {lev : List VT} (h : Cnt a b d k) (hk : VT.szL lev = k) : Cnt2 (a + lev.length) b lev [] 0 := by
 unfold Cnt at h
 unfold Cnt2
 simp only [List.drop_zero, VT.szL]
 omega
theorem cnt2_step {a b i : Nat} {lev nx : List VT} {x : VT} (h : Cnt2 a b lev nx i) (hi : i < lev.length) (hx : lev[i] = x) : Cnt2 (a + x.mag.length) (b + x.text.size) lev (nx ++ x.l) (i + 1) := by
 unfold Cnt2 at h ⊢
 rw [List.drop_eq_getElem_cons hi, hx] at h
 simp only [VT.szL, VT.sz_l x] at h
 rw [VT.szL_app]
 omega
theorem cnt2_end {a b i d : Nat} {lev nx : List VT} (h : Cnt2 a b lev nx i) (hi : lev.length ≤ i) (hd : d + VT.szL lev ≤ 1000000000) (h0 : 0 < lev.length) : Cnt a b (d + 1) (VT.szL nx) ∧ VT.szL nx < VT.szL lev := by
 unfold Cnt2 at h
 unfold Cnt
 rw [List.drop_eq_nil_of_le hi] at h
 simp only [VT.szL] at h
 omega
theorem own_slice {W : World} {base : Nat} {v : Value} {l : List VT} (h : W.ownsRow base 31 8 v l.length (l.flatMap VT.cells)) : ∃ A c, v = .slice A l.length c ∧ VRow W A l := by
 rcases krow_of_own h with ⟨e, h0⟩ | ⟨g, cap, cur, e, _, _, _, _, _, h6⟩
 ·exact ⟨none, 0, by rw [e, h0]; rfl, .inl h0⟩
 ·exact ⟨some ⟨g, 0, none⟩, cap, e, .inr ⟨g, 0, rfl, fun i hi q u hu => by rw [Nat.zero_add]; exact h6 i hi q u hu⟩⟩
set_option maxHeartbeats 16000000 in
theorem vparts_any (A0 : Option Addr) (c0 : Nat) (l0 : List VT) (w : World) (hz : VT.szL l0 ≤ 1000000000) (hr : VRow w A0 l0) (hI : InL w l0) :
  Calls Tryz.prog 44 #[.slice A0 l0.length c0, .int .i64 1048576] w fun e w' => ∃ n : Int, e = .returned (.int .i64 n) ∧ Below w.heap.size w w' := by
 obtain ⟨m0, hm0⟩ : ∃ m, l0.length = m := ⟨_, rfl⟩
 have HST : Hid (l0.length = m0 ∧ Cnt 0 0 0 (VT.szL l0)) := Lib.hid ⟨hm0, by unfold Cnt; omega⟩
 have HRI := Lib.hid (And.intro hr hI)
 rw [hm0]
 clear hz hr hI hm0
 go_enter Tryz.func44, Tryz.ntmps44
 go_wp2
 go_loopg [5, 6, 7, 8] (VT.szL l0) (fun k n s lv d W => ∃ (a b dd m : Nat) (A : Option Addr) (cp : Nat) (lev : List VT), n = .int .i64 (a : Nat) ∧ s = .int .i64 (b : Nat) ∧ lv = .slice A m cp ∧ d = .int .i64 (dd : Nat) ∧
  Hid (lev.length = m ∧ VT.szL lev = k ∧ Cnt a b dd k) ∧ Hid (VRow W A lev ∧ InL W lev) ∧ Hid (Below w.heap.size w W))
 case atStart => exact ⟨0, 0, 0, m0, A0, c0, l0, rfl, rfl, rfl, rfl, Lib.hid ⟨HST.out.1, rfl, HST.out.2⟩, HRI, Lib.hid (Below.refl _ _)⟩
 case round =>
  obtain ⟨a, b, dd, m, A, cp, lev, rfl, rfl, rfl, rfl, HC, HR, HB⟩ := hrel
  have hbd : a ≤ 1000000000 ∧ b ≤ 1000000000 ∧ dd ≤ 1000000000 ∧ m ≤ 1000000000 := by
   obtain ⟨h1, h2, h3⟩ := HC.out
   have := VT.szL_len lev
   unfold Cnt at h3
   omega
  by_cases h0 : 0 < m
  ·have h0i : (0 : Int) < (m : Int) := by omega
   by_cases hA : (1048576 : Int) < (a : Int) + (m : Int)
   ·have hAb : decide ((1048576 : Int) < (a : Int) + (m : Int)) = true := decide_eq_true hA
    go_wp2
    go_ret
    first
     | exact ⟨_, rfl, HB.out⟩ | exact ⟨⟨_, rfl⟩, HB.out⟩
     | exact HB.out
   ·have hAb : decide ((1048576 : Int) < (a : Int) + (m : Int)) = false := decide_eq_false hA
    by_cases hD : (65536 : Int) < (dd : Int)
    ·have hDb : decide ((65536 : Int) < (dd : Int)) = true := decide_eq_true hD
     go_wp2
     go_ret
     first
      | exact ⟨_, rfl, HB.out⟩ | exact ⟨⟨_, rfl⟩, HB.out⟩
      | exact HB.out
    ·have hDb : decide ((65536 : Int) < (dd : Int)) = false := decide_eq_false hD
     obtain ⟨Wb, rfl⟩ : ∃ X, X = wr := ⟨_, rfl⟩
     go_wp2
     go_loopw [5, 6, 9, 10] (fun n s v t W => ∃ (a2 b2 i nl cn : Nat) (An : Option Addr) (nx : List VT), n = .int .i64 (a2 : Nat) ∧ s = .int .i64 (b2 : Nat) ∧ v = .slice An nl cn ∧ t = .int .i64 (i : Nat) ∧ i ≤ m ∧
      Hid (nx.length = nl ∧ Cnt2 a2 b2 lev nx i) ∧ Hid (W.ownsRow Wb.heap.size 31 8 (.slice An nl cn) nl (nx.flatMap VT.cells) ∧ InL Wb nx) ∧ Hid (Below Wb.heap.size Wb W)) (fun _ _ _ t _ => m - (intOf t).toNat)
     case atStart =>
      have h := cnt2_start HC.out.2.2 HC.out.2.1
      rw [HC.out.1] at h
      exact ⟨a + m, b, 0, 0, 0, none, [], by go_num, rfl, rfl, rfl, Nat.zero_le _, Lib.hid ⟨rfl, h⟩, Lib.hid ⟨World.ownsRow_nil _ _ _ _, trivial⟩, Lib.hid (Below.refl _ _)⟩
     case round =>
      obtain ⟨a2, b2, i, nl, cn, An, nx, rfl, rfl, rfl, rfl, him, HC2, HO, HB2⟩ := hrel
      have HBW : Hid (Below w.heap.size w wr) := Lib.hid (trans_b HB.out HB2.out)
      by_cases hlt : i < m
      ·have hil : i < lev.length := by rw [HC.out.1]; exact hlt
       obtain ⟨x, hx⟩ : ∃ x, lev[i]'hil = x := ⟨_, rfl⟩
       have hc3 := cnt2_step HC2.out.2 hil hx
       have hbd2 : a2 ≤ 2000000000 ∧ b2 ≤ 2000000000 ∧ nl ≤ 2000000000 ∧ x.l.length ≤ 2000000000 ∧ a2 + x.mag.length ≤ 2000000000 ∧ b2 + x.text.size ≤ 2000000000 := by
        have h2 := hc3
        unfold Cnt2 at h2
        have h4 := VT.szL_len (nx ++ x.l)
        rw [List.length_append] at h4
        have h5 := HC2.out.1
        have h6 := HC.out.1
        omega
       have hxI : In Wb x := by rw [← hx]; exact HR.out.2.mem (List.getElem_mem hil)
       obtain ⟨gb, go, rfl, r0, r1, r2, r3, r4, r5, r6, r7⟩ := (HR.out.1.below HB2.out).at i hil
       have hgb : gb < Wb.heap.size := by
        obtain ⟨gb', go', e, h0, _⟩ := HR.out.1.at i hil
        injection e with e
        injection e with e1 e2
        subst e1
        exact World.block_lt_of_cell? Wb _ h0
       have HGB := Lib.hid hgb
       clear hgb
       rw [hx] at r3 r6 r7
       unfold VT.mags at r3
       unfold VT.kids at r7
       have hkr := hxI.parts.row
       have hki : InL Wb x.l := hxI.parts.kids
       have HX := Lib.hid hx
       have HC3 := Lib.hid hc3
       have HKI := Lib.hid hki
       have HKR := Lib.hid hkr
       have HKL : Hid (x.l.length = x.l.length) := Lib.hid rfl
       obtain ⟨kl, hkl⟩ : ∃ n, x.l.length = n := ⟨_, rfl⟩
       obtain ⟨ml, hml⟩ : ∃ n, x.mag.length = n := ⟨_, rfl⟩
       obtain ⟨ts, hts⟩ : ∃ n, x.text.size = n := ⟨_, rfl⟩
       obtain ⟨xm, hxm⟩ : ∃ n, x.mA = n := ⟨_, rfl⟩
       obtain ⟨xA, hxA⟩ : ∃ n, x.A = n := ⟨_, rfl⟩
       rw [hml, hxm] at r3
       rw [hkl, hxA] at r7
       rw [hml, hts] at HC3
       rw [hxA] at HKR
       rw [hkl, hml, hts] at hbd2
       have HLL := Lib.hid hkl
       have htx : ∃ tx : ByteArray, x.text = tx ∧ tx.size = ts := ⟨_, rfl, hts⟩
       obtain ⟨tx, htx, hts2⟩ := htx
       rw [htx] at r6
       generalize x.mcap = xmc at *
       generalize x.cap = xc at *
       clear r0 r1 r2 r4 r5 hx hc3 hxI hki hkr hkl hml hts hxm hxA htx HKL
       have hi0 : (0 : Int) ≤ (i : Int) := by omega
       have hi1 : (i : Int) < (m : Int) := by omega
       have hC2 : decide ((2147483648 : Int) < (b2 : Int) + (ts : Int)) = false := decide_eq_false (by omega)
       by_cases hC1 : (1048576 : Int) < (a2 : Int) + (ml : Int) + (nl : Int) + (kl : Int)
       ·have hC1b : decide ((1048576 : Int) < (a2 : Int) + (ml : Int) + (nl : Int) + (kl : Int)) = true := decide_eq_true hC1
        go_wp2
        go_ret
        first
         | exact ⟨_, rfl, HBW.out⟩ | exact ⟨⟨_, rfl⟩, HBW.out⟩
         | exact HBW.out
       ·have hC1b : decide ((1048576 : Int) < (a2 : Int) + (ml : Int) + (nl : Int) + (kl : Int)) = false := decide_eq_false hC1
        clear hC1
        obtain ⟨Wc, rfl⟩ : ∃ X, X = wr := ⟨_, rfl⟩
        have HR7 := Lib.hid r7
        have HSZ : Hid (Wb.heap.size ≤ Wc.heap.size) := Lib.hid HB2.out.size
        go_wp2
        go_loopw [9, 11] (fun v t W => ∃ (j nl3 cn3 : Nat) (A3 : Option Addr) (nx3 : List VT), v = .slice A3 nl3 cn3 ∧ t = .int .i64 (j : Nat) ∧ j ≤ kl ∧ Hid (nx3 = nx ++ x.l.take j ∧ nx3.length = nl3 ∧ nl3 = nl + j) ∧ Hid (W.ownsRow Wb.heap.size 31 8 (.slice A3 nl3 cn3) nl3 (nx3.flatMap VT.cells)) ∧ Hid (Wb.heap.size ≤ W.heap.size) ∧ Hid (Below Wb.heap.size Wb W)) (fun _ t _ => kl - (intOf t).toNat)
        case atStart => exact ⟨0, nl, cn, An, nx, rfl, rfl, Nat.zero_le _, Lib.hid ⟨by simp, HC2.out.1, rfl⟩, Lib.hid HO.out.1, HSZ, HB2⟩
        case round =>
         obtain ⟨j, nl3, cn3, A3, nx3, rfl, rfl, hjk, HN3, HO3, HS3, HB3⟩ := hrel
         have h7 : wr.cell? ⟨gb, go + i * 8 + 7, none⟩ = some (.slice xA kl xc) :=
          (World.cell?_of_block (a := ⟨gb, go + i * 8 + 7, none⟩) ((HB3.out.block gb HGB.out).trans (HB2.out.block gb HGB.out).symm)).trans HR7.out
         by_cases hjlt : j < kl
         ·have hj0 : (0 : Int) ≤ (j : Int) := by omega
          have hj1 : (j : Int) < (kl : Int) := by omega
          have hjx : j < x.l.length := by rw [HLL.out]; exact hjlt
          have HJX := Lib.hid hjx
          obtain ⟨kb, ko, yk, yn, yg, ymA, yml, ymc, yb, ye, yt, yA, yl, yc, rfl, k0, k1, k2, k3, k4, k5, k6, k7, hC⟩ := (HKR.out.below HB3.out).kid hjx (C := fun u => ∀ cs, u = .agg cs → cs.toList = (x.l[j]).cells) (fun cs h => by injection h with h; subst h; rfl)
          have hcells : [.int .i8 yk, .int .u64 yn, .bool yg, .slice ymA yml ymc, .int .u64 yb, .int .i8 ye, .string yt, .slice yA yl yc] = (x.l[j]'HJX.out).cells := hC _ rfl
          have HCE := Lib.hid hcells
          have hnl3 : nl3 ≤ 1000000000000 := by have := HN3.out.2.2; omega
          obtain ⟨i0, hi, hzz⟩ := Option.map_eq_some_iff.1 info_value
          simp only [Prod.mk.injEq] at hzz
          obtain ⟨hz0, hz1, hz2⟩ := hzz
          have HII := Lib.hid hi
          have HZ0 := Lib.hid hz0
          have HZ1 := Lib.hid hz1
          have HZ2 := Lib.hid hz2
          have HNL := Lib.hid hnl3
          clear hC hcells hjx hi hz0 hz1 hz2 hnl3
          go_wp2_with (at_builtin; go_must (refine wpList_append_own _ rfl _ _ 29 rfl Wb.heap.size 31 i0 (.agg zeroV) 8 104 Tryz.underlying29 HII.out HZ0.out HZ1.out HZ2.out rfl (by decide) _ nl3 (nx3.flatMap VT.cells) rfl (World.ownsRow.alloc HO3.out _) ⟨wr.heap.size, 0, none⟩ 1 1 [.int .i8 yk, .int .u64 yn, .bool yg, .slice ymA yml ymc, .int .u64 yb, .int .i8 ye, .string yt, .slice yA yl yc] rfl rfl ?qc1 ?qc2 ?qc3 ?qc4 ?qc5 ?_))
          case qc1 =>
           intro q u hq
           rw [add_plain, cell_of_row _ _ _ _ _ _ (heap_alloc_new wr _)]
           simpa using hq
          case qc2 =>
           intro u hu
           simp only [List.mem_cons, List.not_mem_nil, or_false] at hu
           rcases hu with rfl | rfl | rfl | rfl | rfl | rfl | rfl | rfl <;> rfl
          case qc3 => unfold maxLen; have := HNL.out; omega
          case qc4 => have := HNL.out; omega
          case qc5 => have := HS3.out; simp; omega
          intro v1 w5 hown hgrow _
          have hn5 : nx3 ++ [x.l[j]'HJX.out] = nx ++ x.l.take (j + 1) ∧ (nx3 ++ [x.l[j]'HJX.out]).length = nl3 + 1 := by
           refine ⟨?_, by simp [HN3.out.2.1]⟩
           rw [List.take_succ_eq_append_getElem HJX.out, ← List.append_assoc, ← HN3.out.1]
          have ho5 : w5.ownsRow Wb.heap.size 31 8 v1 (nx3 ++ [x.l[j]'HJX.out]).length ((nx3 ++ [x.l[j]'HJX.out]).flatMap VT.cells) := by
           rw [hn5.2, List.flatMap_append]
           have e : [x.l[j]'HJX.out].flatMap VT.cells = [.int .i8 yk, .int .u64 yn, .bool yg, .slice ymA yml ymc, .int .u64 yb, .int .i8 ye, .string yt, .slice yA yl yc] := by
            rw [List.flatMap_cons, List.flatMap_nil, List.append_nil, ← HCE.out]
           rw [e]
           exact hown
          obtain ⟨A5, c5, rfl, -⟩ := own_slice ho5
          rw [hn5.2] at ho5 ⊢
          have HO5 := Lib.hid ho5
          have HN5 : Hid (nx3 ++ [x.l[j]'HJX.out] = nx ++ x.l.take (j + 1) ∧ (nx3 ++ [x.l[j]'HJX.out]).length = nl3 + 1 ∧ nl3 + 1 = nl + (j + 1)) := Lib.hid ⟨hn5.1, hn5.2, by have := HN3.out.2.2; omega⟩
          have HB5 : Hid (Below Wb.heap.size Wb w5) := Lib.hid ((HB3.out.alloc HS3.out _).grown hgrow (by have := HS3.out; simp; omega) (fun r e => (World.ownsRow.lt HO3.out r e).1))
          have HS5 : Hid (Wb.heap.size ≤ w5.heap.size) := Lib.hid HB5.out.size
          clear hown hgrow hn5 ho5 k0 k1 k2 k3 k4 k5 k6 k7 h7
          go_wp2
          exact ⟨⟨j + 1, nl3 + 1, c5, A5, _, rfl, by go_num, hjlt, HN5, HO5, HS5, HB5⟩, by simp [intOf]; omega⟩
         ·obtain rfl : kl = j := by omega
          clear hjlt
          have HTK : Hid (nx3 = nx ++ x.l) := Lib.hid (by rw [HN3.out.1, List.take_of_length_le (by rw [HLL.out]; exact Nat.le_refl _)])
          go_wp2
          exact ⟨⟨a2 + ml, b2 + ts, i + 1, nl3, cn3, A3, nx3, by go_num, by go_num, rfl, by go_num, hlt, Lib.hid ⟨HN3.out.2.1, by rw [HTK.out]; exact HC3.out⟩, Lib.hid ⟨HO3.out, by rw [HTK.out]; exact InL.of fun v hv => (List.mem_append.1 hv).elim (fun h => HO.out.2.mem h) (fun h => HKI.out.mem h)⟩, HB3⟩, by simp [intOf]; omega⟩
      ·obtain rfl : m = i := by omega
       have hce := cnt2_end (d := dd) HC2.out.2 (by rw [HC.out.1]; exact Nat.le_refl _) (by have h := HC.out.2.2.2.2; rw [HC.out.2.1]; exact h) (by rw [HC.out.1]; exact h0)
       have HCE := Lib.hid hce
       have hvr : VRow wr An nx := by
        have h := HO.out.1
        rw [← HC2.out.1] at h
        obtain ⟨A', c', e, hv⟩ := own_slice h
        injection e with e
        subst e
        exact hv
       have HVR := Lib.hid (And.intro hvr (HO.out.2.below HB2.out))
       clear hce hvr hlt
       go_wp2
       go_roundg (VT.szL nx)
       case measure => have h := HCE.out.2; rw [HC.out.2.1] at h; exact h
       case rel => exact ⟨a2, b2, dd + 1, nl, An, cn, nx, rfl, rfl, rfl, by go_num, Lib.hid ⟨HC2.out.1, rfl, HCE.out.1⟩, HVR, HBW⟩
  ·have h0i : (m : Int) = 0 := by omega
   obtain rfl : m = 0 := by omega
   go_wp2
   go_ret
   first
    | exact ⟨_, rfl, HB.out⟩ | exact ⟨⟨_, rfl⟩, HB.out⟩
    | exact HB.out
theorem beyond_any (A : Option Addr) (c : Nat) (l : List VT) (w : World) (hz : VT.szL l ≤ 1000000000) (hr : VRow w A l) (hI : InL w l) :
  Calls Tryz.prog 13 #[.slice A l.length c] w fun e w' => ∃ b : Bool, e = .returned (.bool b) ∧ Below w.heap.size w w' := by
 have hp := vparts_any A c l w hz hr hI
 generalize l.length = m at *
 go_enter Tryz.func13, Tryz.ntmps13
 go_wp2_with (go_at_call 44; refine hp.mono ?_; rintro e w1 ⟨n, rfl, hb⟩)
 go_ret
 first
  | exact ⟨_, rfl, hb⟩
  | exact ⟨⟨_, rfl⟩, hb⟩
  | exact hb
end Go.Proofs.YtcpkjmpbpmeclaaGreatDoor
