/- Vg · Vh: merged. -/
import Derived.Test.YtcpkjmpbpmeclaaGreatDoorMac
import Derived.Deep.RegionLaw
import Derived.IntWalk
namespace Go.Proofs.YtcpkjmpbpmeclaaGreatDoor
open Go.RowKit
set_option maxRecDepth 100000
set_option linter.unusedVariables false
set_option linter.unusedSimpArgs false
set_option linter.unnecessarySimpa false

theorem take_more (xs : List Int) (k : Nat) (h : k < xs.length) : xs.take (k + 1) = xs.take k ++ [xs.getD k 0] := by
 rw [List.take_succ_eq_append_getElem h, List.getD_eq_getElem?_getD, List.getElem?_eq_getElem h]
 rfl
theorem sameN_ne (A B : Option Addr) (n m c d : Nat) (w : World) (h : n ≠ m) : Calls Tryz.prog 187 #[.slice A n c, .slice B m d] w fun e w' => e = .returned (.bool false) ∧ Below w.heap.size w w' := by
 have hb : ((n : Int) != (m : Int)) = true := by simp; omega
 go_enter Tryz.func187, Tryz.ntmps187
 go_wp2
 go_ret
 exact ⟨rfl, Below.refl _ _⟩
theorem sameN_eq (A B : Option Addr) (n c d : Nat) (xs ys : List Int) (w : World) (hx : xs.length = n) (hy : ys.length = n) (hn : n ≤ 140737488351232) (hrx : RK w .u32 A xs) (hry : RK w .u32 B ys) :
  Calls Tryz.prog 187 #[.slice A n c, .slice B n d] w fun e w' => e = .returned (.bool (decide (xs = ys))) ∧ Below w.heap.size w w' := by
 have hR := Lib.hid hrx
 have hRY := Lib.hid hry
 have hX := Lib.hid hx
 have hY := Lib.hid hy
 clear hrx hry hx hy
 go_enter Tryz.func187, Tryz.ntmps187
 go_wp2
 go_loopw [5] (fun i W => ∃ j : Nat, i = .int .i64 j ∧ j ≤ n ∧ Hid (xs.take j = ys.take j) ∧ Below w.heap.size w W) (fun i _ => n - (intOf i).toNat)
 case atStart => exact ⟨0, rfl, by omega, by show _ = _; simp, Below.refl _ _⟩
 case round =>
  obtain ⟨j, rfl, hj, hE, hb⟩ := hrel
  by_cases hlt : j < n
  ·have hjx : j < xs.length := by rw [hX.out]; exact hlt
   have hjy : j < ys.length := by rw [hY.out]; exact hlt
   rcases hR.out.below hb with h0 | ⟨b, off, rfl, hc⟩
   ·subst h0; simp at hjx
   rcases hRY.out.below hb with h0 | ⟨b2, off2, rfl, hc2⟩
   ·subst h0; simp at hjy
   have e1 := hc j hjx
   have e2 := hc2 j hjy
   have s1 := Lib.hid (take_more xs j hjx)
   have s2 := Lib.hid (take_more ys j hjy)
   obtain ⟨x, ex⟩ : ∃ x, xs.getD j 0 = x := ⟨_, rfl⟩
   obtain ⟨y, ey⟩ : ∃ y, ys.getD j 0 = y := ⟨_, rfl⟩
   rw [ex] at e1
   rw [ey] at e2
   have EX := Lib.hid ex
   have EY := Lib.hid ey
   clear hc hc2 ex ey hjx hjy
   rcases hxy : (x != y) with _ | _
   ·have hxe : x = y := by simpa using hxy
    have HE : Hid (xs.take (j + 1) = ys.take (j + 1)) := Lib.hid (by rw [s1.out, s2.out, hE.out, EX.out, EY.out, hxe])
    clear hxe
    go_wp2_with (go_quiet (fail))
    exact ⟨⟨j + 1, by go_num, by omega, HE, below_on hb (below_drewN _ _)⟩, by simp [intOf]; omega⟩
   ·have hno : decide (xs = ys) = false := by
     rw [decide_eq_false_iff_not]
     intro h
     have := EX.out.symm.trans ((congrArg (fun l => l.getD j 0) h).trans EY.out)
     simp [this] at hxy
    have HNo := Lib.hid hno
    clear hno
    go_wp2_with (go_quiet (fail))
    go_ret
    exact ⟨by rw [HNo.out]; rfl, below_on hb (below_drewN _ _)⟩
  ·obtain rfl : j = n := by omega
   have hyes : decide (xs = ys) = true := by
    rw [decide_eq_true_eq]
    have := hE.out
    rwa [List.take_of_length_le (by rw [hX.out]; omega), List.take_of_length_le (by rw [hY.out]; omega)] at this
   have HYes := Lib.hid hyes
   clear hyes hlt
   go_wp2
   go_ret
   exact ⟨by rw [HYes.out]; rfl, hb⟩
theorem sameN_any (A B : Option Addr) (c d : Nat) (xs ys : List Int) (w : World) (hn : xs.length ≤ 140737488351232) (hrx : RK w .u32 A xs) (hry : RK w .u32 B ys) :
  Calls Tryz.prog 187 #[.slice A xs.length c, .slice B ys.length d] w fun e w' => e = .returned (.bool (decide (xs = ys))) ∧ Below w.heap.size w w' := by
 by_cases hl : ys.length = xs.length
 ·rw [hl]
  exact sameN_eq A B _ c d xs ys w rfl hl hn hrx hry
 ·have : decide (xs = ys) = false := by simp only [decide_eq_false_iff_not]; rintro rfl; exact hl rfl
  rw [this]
  exact sameN_ne A B _ _ c d w (by omega)
theorem sameI_any (g h : Bool) (A B : Option Addr) (c d : Nat) (xs ys : List Int) (w : World) (hn : xs.length ≤ 140737488351232) (hrx : RK w .u32 A xs) (hry : RK w .u32 B ys) :
  Calls Tryz.prog 124 #[.agg #[.bool g, .slice A xs.length c], .agg #[.bool h, .slice B ys.length d]] w fun e w' => e = .returned (.bool (decide (g = h ∧ xs = ys))) ∧ Below w.heap.size w w' := by
 have hs := fun W (hW : Below w.heap.size w W) => sameN_any A B c d xs ys W hn (hrx.below hW) (hry.below hW)
 have hb : Below w.heap.size w ((w.alloc (.cells #[.bool g, .slice A xs.length c] 28)).alloc (.cells #[.bool h, .slice B ys.length d] 28)) := ((Below.refl _ _).alloc (Nat.le_refl _) _).alloc (by simp) _
 obtain ⟨q, hq⟩ : ∃ q, decide (xs = ys) = q := ⟨_, rfl⟩
 have hpost : decide (g = h ∧ xs = ys) = ((g == h) && q) := by rw [← hq]; cases g <;> cases h <;> simp
 rw [hpost]
 rw [hq] at hs
 have HS := Lib.hid (hs _ hb)
 clear hs hq hpost hrx hry hn
 generalize xs.length = n at *
 generalize ys.length = m at *
 rcases hgh : (g == h) with _ | _
 ·go_enter Tryz.func124, Tryz.ntmps124
  go_wp2
  go_ret
  exact ⟨by simp, hb⟩
 ·go_enter Tryz.func124, Tryz.ntmps124
  go_wp2_with (go_at_call 187; refine HS.out.mono ?_; rintro e w1 ⟨rfl, hb1⟩)
  go_ret
  exact ⟨by simp, trans_b hb hb1⟩
theorem sameVs_ne (A B : Option Addr) (n m c d : Nat) (w : World) (h : n ≠ m) : Calls Tryz.prog 118 #[.slice A n c, .slice B m d] w fun e w' => e = .returned (.bool false) ∧ Below w.heap.size w w' := by
 have hb : ((n : Int) != (m : Int)) = true := by simp; omega
 go_enter Tryz.func118, Tryz.ntmps118
 go_wp2
 go_ret
 exact ⟨rfl, Below.refl _ _⟩
theorem take_moreV (xs : List VT) (k : Nat) (h : k < xs.length) : (xs.take (k + 1)).map VT.c = (xs.take k).map VT.c ++ [(xs[k]).c] := by
 rw [List.take_succ_eq_append_getElem h, List.map_append]
 rfl
set_option maxHeartbeats 1000000 in
theorem sameVs_eq (A B : Option Addr) (n c d : Nat) (l m : List VT) (w : World) (hl : l.length = n) (hm : m.length = n) (hn : n ≤ 140737488351232) (hrx : VRow w A l) (hry : VRow w B m)
  (hk : ∀ i (h1 : i < l.length) (h2 : i < m.length) W, Below w.heap.size w W → Calls Tryz.prog 34 #[(l[i]).agg, (m[i]).agg] W fun e w' => e = .returned (.bool (decide ((l[i]).c = (m[i]).c))) ∧ Below W.heap.size W w') :
  Calls Tryz.prog 118 #[.slice A n c, .slice B n d] w fun e w' => e = .returned (.bool (decide (l.map VT.c = m.map VT.c))) ∧ Below w.heap.size w w' := by
 have HX := Lib.hid hrx
 have HY := Lib.hid hry
 have HL := Lib.hid hl
 have HM := Lib.hid hm
 have HK := Lib.hid hk
 clear hrx hry hl hm hk
 go_enter Tryz.func118, Tryz.ntmps118
 go_wp2
 go_loopw [5] (fun i W => ∃ j : Nat, i = .int .i64 j ∧ j ≤ n ∧ Hid ((l.take j).map VT.c = (m.take j).map VT.c) ∧ Below w.heap.size w W) (fun i _ => n - (intOf i).toNat)
 case atStart => exact ⟨0, rfl, by omega, by show _ = _; simp, Below.refl _ _⟩
 case round =>
  obtain ⟨j, rfl, hj, hE, hb⟩ := hrel
  by_cases hlt : j < n
  ·have hjx : j < l.length := by rw [HL.out]; exact hlt
   have hjy : j < m.length := by rw [HM.out]; exact hlt
   have s1 := Lib.hid (take_moreV l j hjx)
   have s2 := Lib.hid (take_moreV m j hjy)
   have HG : Hid (∀ (x : VT) (y : VT), l[j] = x → m[j] = y → l.map VT.c = m.map VT.c → x.c = y.c) := Lib.hid fun x y h1 h2 h => by
    subst h1 h2
    have h3 := congrArg (fun q => q[j]?) h
    simpa [List.getElem?_map, List.getElem?_eq_getElem hjx, List.getElem?_eq_getElem hjy] using h3
   obtain ⟨b, off, xk, xn, xg, xmA, xml, xmc, xb, xe, xt, xA, xl, xc, rfl, r0, r1, r2, r3, r4, r5, r6, r7, hC⟩ := (HX.out.below hb).kid hjx (C := fun u => ∀ W, Below w.heap.size w W → Calls Tryz.prog 34 #[u, (m[j]).agg] W fun e w' => e = .returned (.bool (decide ((l[j]).c = (m[j]).c))) ∧ Below W.heap.size W w') (HK.out j hjx hjy)
   obtain ⟨b2, off2, yk, yn, yg, ymA, yml, ymc, yb, ye, yt, yA, yl, yc, rfl, q0, q1, q2, q3, q4, q5, q6, q7, hC2⟩ := (HY.out.below hb).kid hjy (C := fun u => ∀ W, Below w.heap.size w W → Calls Tryz.prog 34 #[.agg #[.int .i8 xk, .int .u64 xn, .bool xg, .slice xmA xml xmc, .int .u64 xb, .int .i8 xe, .string xt, .slice xA xl xc], u] W fun e w' => e = .returned (.bool (decide ((l[j]).c = (m[j]).c))) ∧ Below W.heap.size W w') hC
   have hG := HG.out _ _ rfl rfl
   obtain ⟨z, hz⟩ : ∃ z, decide ((l[j]).c = (m[j]).c) = z := ⟨_, rfl⟩
   have HZ := Lib.hid hz
   have HGG := Lib.hid hG
   rw [hz] at hC2
   have HC := Lib.hid hC2
   clear hC hC2 hz hG HG
   cases z with
   | true =>
    have HE2 : Hid ((l.take (j + 1)).map VT.c = (m.take (j + 1)).map VT.c) := Lib.hid (by rw [s1.out, s2.out, hE.out, of_decide_eq_true HZ.out])
    clear HZ HGG s1 s2 hjx hjy
    go_upto_region 6 with fail
    go_region_law (go_simp; go_at_call 34; refine (HC.out _ (trans_b hb ((Below.refl _ _).drew))).mono ?_; rintro e w1 ⟨rfl, hb1⟩)
    all_goals (
     have hb2 := trans_b hb (((Below.refl wr.heap.size wr).drew).trans hb1)
     first | go_wp2 | (go_goals; fail) | skip
     try go_roundw
     case rel => exact ⟨j + 1, by go_num, by omega, HE2, hb2⟩
     case measure => (simp only [intOf]; omega))
   | false =>
    have hno : decide (l.map VT.c = m.map VT.c) = false := by
     rw [decide_eq_false_iff_not]
     intro h
     exact of_decide_eq_false HZ.out (HGG.out h)
    have HNo := Lib.hid hno
    clear hno HZ HGG s1 s2 hjx hjy
    go_upto_region 6 with fail
    go_region_law (go_simp; go_at_call 34; refine (HC.out _ (trans_b hb ((Below.refl _ _).drew))).mono ?_; rintro e w1 ⟨rfl, hb1⟩)
    all_goals (
     have hb2 := trans_b hb (((Below.refl wr.heap.size wr).drew).trans hb1)
     go_wp2
     go_ret
     exact ⟨by rw [HNo.out]; rfl, hb2⟩)
  ·obtain rfl : j = n := by omega
   have hyes : decide (l.map VT.c = m.map VT.c) = true := by
    rw [decide_eq_true_eq]
    have := hE.out
    rwa [List.take_of_length_le (by rw [HL.out]; omega), List.take_of_length_le (by rw [HM.out]; omega)] at this
   have HYes := Lib.hid hyes
   clear hyes hlt
   go_wp2
   go_ret
   exact ⟨by rw [HYes.out]; rfl, hb⟩
end Go.Proofs.YtcpkjmpbpmeclaaGreatDoor
namespace Go.Proofs.YtcpkjmpbpmeclaaGreatDoor
open Go.RowKit
set_option maxRecDepth 100000
set_option linter.unusedVariables false
set_option linter.unusedSimpArgs false
set_option linter.unnecessarySimpa false

theorem text_beq (s t : ByteArray) : (s.toList == t.toList) = decide (s = t) := by
 by_cases h : s = t
 ·subst h; simp
 ·have : ¬ s.toList = t.toList := by
   rw [ByteArray.toList_eq, ByteArray.toList_eq]
   exact fun e => h (WideShapes.bytes_inj e)
  simp [h, this]
theorem sameC (a b : VT) : decide (a.c = b.c) = ((a.k == b.k) && ((a.n == b.n) && ((a.bits == b.bits) && ((a.ext == b.ext) && ((a.text.toList == b.text.toList) && (decide (a.neg = b.neg ∧ a.mag = b.mag) && decide (a.l.map VT.c = b.l.map VT.c))))))) := by
 have h := VT.c_iff a b
 rw [text_beq]
 by_cases e : a.c = b.c
 ·obtain ⟨h1, h2, h3, h4, h5, h6, h7, h8⟩ := h.1 e
  simp [e, h1, h2, h3, h4, h5, h6, h7, h8]
 ·rw [decide_eq_false e]
  symm
  rw [Bool.eq_false_iff]
  intro hh
  simp only [Bool.and_eq_true, beq_iff_eq, decide_eq_true_eq] at hh
  obtain ⟨h1, h2, h5, h6, h7, ⟨h3, h4⟩, h8⟩ := hh
  exact e (h.2 ⟨h1, h2, h3, h4, h5, h6, h7, h8⟩)
set_option maxHeartbeats 2000000 in
theorem sameV_walk (k n : Int) (g : Bool) (mA : Option Addr) (ml mc : Nat) (bs ex : Int) (tx : ByteArray) (A : Option Addr) (m cp : Nat) (k' n' : Int) (g' : Bool) (mA' : Option Addr) (ml' mc' : Nat) (bs' ex' : Int) (tx' : ByteArray) (A' : Option Addr) (m' cp' : Nat) (w : World) (z : Bool) (bi bv : Bool)
  (hz : z = ((k == k') && ((n == n') && ((bs == bs') && ((ex == ex') && ((tx.toList == tx'.toList) && (bi && bv)))))))
  (hi : ∀ W, Below w.heap.size w W → Calls Tryz.prog 124 #[.agg #[.bool g, .slice mA ml mc], .agg #[.bool g', .slice mA' ml' mc']] W fun e w' => e = .returned (.bool bi) ∧ Below W.heap.size W w')
  (hv : ∀ W, Below w.heap.size w W → Calls Tryz.prog 118 #[.slice A m cp, .slice A' m' cp'] W fun e w' => e = .returned (.bool bv) ∧ Below W.heap.size W w') :
  Calls Tryz.prog 34 #[.agg #[.int .i8 k, .int .u64 n, .bool g, .slice mA ml mc, .int .u64 bs, .int .i8 ex, .string tx, .slice A m cp], .agg #[.int .i8 k', .int .u64 n', .bool g', .slice mA' ml' mc', .int .u64 bs', .int .i8 ex', .string tx', .slice A' m' cp']] w fun e w' => e = .returned (.bool z) ∧ Below w.heap.size w w' := by
 have hb1 : Below w.heap.size w (w.alloc (.cells #[.int .i8 k, .int .u64 n, .bool g, .slice mA ml mc, .int .u64 bs, .int .i8 ex, .string tx, .slice A m cp] 31)) := (Below.refl _ _).alloc (Nat.le_refl _) _
 have hb : Below w.heap.size w ((w.alloc (.cells #[.int .i8 k, .int .u64 n, .bool g, .slice mA ml mc, .int .u64 bs, .int .i8 ex, .string tx, .slice A m cp] 31)).alloc (.cells #[.int .i8 k', .int .u64 n', .bool g', .slice mA' ml' mc', .int .u64 bs', .int .i8 ex', .string tx', .slice A' m' cp'] 31)) := hb1.alloc hb1.size _
 have hx7 : ((w.alloc (.cells #[.int .i8 k, .int .u64 n, .bool g, .slice mA ml mc, .int .u64 bs, .int .i8 ex, .string tx, .slice A m cp] 31)).alloc (.cells #[.int .i8 k', .int .u64 n', .bool g', .slice mA' ml' mc', .int .u64 bs', .int .i8 ex', .string tx', .slice A' m' cp'] 31)).cell? ⟨w.heap.size, 7, none⟩ = some (.slice A m cp) := by
  rw [World.cell?_alloc_lt _ _ ⟨w.heap.size, 7, none⟩ (by simp), cell_of_row _ _ _ _ _ _ (heap_alloc_new w _)]; rfl
 have hy7 : ((w.alloc (.cells #[.int .i8 k, .int .u64 n, .bool g, .slice mA ml mc, .int .u64 bs, .int .i8 ex, .string tx, .slice A m cp] 31)).alloc (.cells #[.int .i8 k', .int .u64 n', .bool g', .slice mA' ml' mc', .int .u64 bs', .int .i8 ex', .string tx', .slice A' m' cp'] 31)).cell? ⟨w.heap.size + 1, 7, none⟩ = some (.slice A' m' cp') := by
  have e : (w.alloc (.cells #[.int .i8 k, .int .u64 n, .bool g, .slice mA ml mc, .int .u64 bs, .int .i8 ex, .string tx, .slice A m cp] 31)).heap.size = w.heap.size + 1 := by simp
  rw [← e, cell_of_row _ _ _ _ _ _ (heap_alloc_new _ _)]; rfl
 have HI := Lib.hid (hi _ hb)
 have HV := Lib.hid hv
 clear hi hv hb1
 rcases h1 : (k == k') with _ | _
 ·have HZ : Hid (z = false) := Lib.hid (by rw [hz, h1]; simp)
  clear hz HI HV hx7 hy7
  go_enter Tryz.func34, Tryz.ntmps34
  go_wp2
  go_ret
  exact ⟨by rw [HZ.out]; rfl, hb⟩
 rcases h2 : (n == n') with _ | _
 ·have HZ : Hid (z = false) := Lib.hid (by rw [hz, h1, h2]; simp)
  clear hz HI HV hx7 hy7
  go_enter Tryz.func34, Tryz.ntmps34
  go_wp2
  go_ret
  exact ⟨by rw [HZ.out]; rfl, hb⟩
 rcases h3 : (bs == bs') with _ | _
 ·have HZ : Hid (z = false) := Lib.hid (by rw [hz, h1, h2, h3]; simp)
  clear hz HI HV hx7 hy7
  go_enter Tryz.func34, Tryz.ntmps34
  go_wp2
  go_ret
  exact ⟨by rw [HZ.out]; rfl, hb⟩
 rcases h4 : (ex == ex') with _ | _
 ·have HZ : Hid (z = false) := Lib.hid (by rw [hz, h1, h2, h3, h4]; simp)
  clear hz HI HV hx7 hy7
  go_enter Tryz.func34, Tryz.ntmps34
  go_wp2
  go_ret
  exact ⟨by rw [HZ.out]; rfl, hb⟩
 rcases h5 : (tx.toList == tx'.toList) with _ | _
 ·have HZ : Hid (z = false) := Lib.hid (by rw [hz, h1, h2, h3, h4, h5]; simp)
  clear hz HI HV hx7 hy7
  go_enter Tryz.func34, Tryz.ntmps34
  go_wp2
  go_ret
  exact ⟨by rw [HZ.out]; rfl, hb⟩
 have HZ : Hid (z = (bi && bv)) := Lib.hid (by rw [hz, h1, h2, h3, h4, h5]; simp)
 clear hz
 cases bi with
 | false =>
  go_enter Tryz.func34, Tryz.ntmps34
  go_wp2_with (go_at_call 124; refine HI.out.mono ?_; rintro e w1 ⟨rfl, hb1⟩)
  go_ret
  exact ⟨by rw [HZ.out]; rfl, trans_b hb hb1⟩
 | true =>
  go_enter Tryz.func34, Tryz.ntmps34
  go_wp2_with (first
   | (go_at_call 124; refine HI.out.mono ?_; rintro e w1 ⟨rfl, hb1⟩; have hx1 := keep1 hb1 hx7; have hy1 := keep1 hb1 hy7)
   | (go_at_call 118; refine (HV.out _ (trans_b hb hb1)).mono ?_; rintro e w2 ⟨rfl, hb2⟩))
  go_ret
  exact ⟨by rw [HZ.out]; cases bv <;> rfl, trans_b (trans_b hb hb1) hb2⟩
theorem sameV_n : ∀ (q : Nat) (a b : VT) (w : World), a.sz ≤ q → a.sz ≤ 1000000000 → In w a → In w b →
  Calls Tryz.prog 34 #[a.agg, b.agg] w fun e w' => e = .returned (.bool (decide (a.c = b.c))) ∧ Below w.heap.size w w'
 | 0, a, b, w, h, _, _, _ => by have := a.sz_pos; omega
 | q + 1, a, b, w, h, hz, ha, hb => by
  have pa := ha.parts
  have pb := hb.parts
  have hln := VT.szL_len a.l
  have hs := VT.sz_l a
  refine sameV_walk a.k a.n a.neg a.mA a.mag.length a.mcap a.bits a.ext a.text a.A a.l.length a.cap b.k b.n b.neg b.mA b.mag.length b.mcap b.bits b.ext b.text b.A b.l.length b.cap w _ _ _ (sameC a b) (fun W hW => ?_) (fun W hW => ?_)
  ·exact sameI_any a.neg b.neg a.mA b.mA a.mcap b.mcap a.mag b.mag W (by omega) (pa.mr.below hW) (pb.mr.below hW)
  ·by_cases hl : b.l.length = a.l.length
   ·rw [hl]
    refine sameVs_eq a.A b.A _ a.cap b.cap a.l b.l W rfl hl (by omega) (pa.row.below hW) (pb.row.below hW) fun i h1 h2 W2 hW2 => ?_
    exact sameV_n q _ _ W2 (by have := VT.kid_sz (List.getElem_mem h1); omega) (by have := VT.kid_sz (List.getElem_mem h1); omega) ((ha.kid (List.getElem_mem h1)).below (trans_b hW hW2)) ((hb.kid (List.getElem_mem h2)).below (trans_b hW hW2))
   ·have : decide (a.l.map VT.c = b.l.map VT.c) = false := by
     rw [decide_eq_false_iff_not]
     intro e
     have := congrArg List.length e
     simp at this
     exact hl this.symm
    rw [this]
    exact sameVs_ne a.A b.A _ _ a.cap b.cap W (fun e => hl e.symm)
theorem sameV_any (a b : VT) (w : World) (hz : a.sz ≤ 1000000000) (ha : In w a) (hb : In w b) : Calls Tryz.prog 34 #[a.agg, b.agg] w fun e w' => e = .returned (.bool (decide (a.c = b.c))) ∧ Below w.heap.size w w' := sameV_n _ a b w (Nat.le_refl _) hz ha hb
end Go.Proofs.YtcpkjmpbpmeclaaGreatDoor
