/- Lfa · Lga: merged. -/
import Derived.Test.YtcpkjmpbpmeclaaGreatDoorMag
import Derived.Test.YtcpkjmpbpmeclaaGreatDoorMaf
import Derived.Deep.DeepMust
namespace Go.Proofs.YtcpkjmpbpmeclaaGreatDoor
open Go.RowKit
set_option maxRecDepth 100000
set_option linter.unusedVariables false
set_option linter.unusedSimpArgs false
set_option linter.unnecessarySimpa false

theorem isLimb_any (w : World) : Calls Tryz.prog 172 #[.int .u32 limbM, .int .i64 777777] w fun e w' => e = .returned (.bool true) ∧ w = w' := by
 unfold limbM
 go_enter Tryz.func172, Tryz.ntmps172
 go_wp2
 go_ret
 exact ⟨rfl, rfl⟩
theorem leftN_any (B : Option Addr) (b off n d : Nat) (xs : List Int) (w : World) (hl : xs.length = n) (hn : n ≤ 1000000000) (hx : RK w .u32 (some ⟨b, off, none⟩) xs) (hy : RK w .u32 B xs)
  (hm : w.cell? ⟨b, off + n, none⟩ = some (.int .u32 limbM)) :
  Calls Tryz.prog 157 #[.slice (some ⟨b, off, none⟩) n (n + 1), .slice B n d] w fun e w' => e = .returned (.bool true) ∧ Below w.heap.size w w' := by
 have HS : Hid (Calls Tryz.prog 187 #[.slice (some ⟨b, off, none⟩) n (n + 1), .slice B n d] w fun e w' => e = .returned (.bool true) ∧ Below w.heap.size w w') := Lib.hid (by
  have h := sameN_any (some ⟨b, off, none⟩) B (n + 1) d xs xs w (by omega) hx hy
  rw [hl] at h
  simpa using h)
 obtain ⟨z, hz⟩ : ∃ z, limbM = z := ⟨_, rfl⟩
 have HL : Hid (∀ W, Calls Tryz.prog 172 #[.int .u32 z, .int .i64 777777] W fun e w' => e = .returned (.bool true) ∧ W = w') := Lib.hid fun W => by rw [← hz]; exact isLimb_any W
 rw [hz] at hm
 have hz0 : 0 ≤ z ∧ z ≤ 4294967295 := by rw [← hz]; decide
 obtain ⟨hz1, hz2⟩ := hz0
 clear hz hx hy hl
 go_enter Tryz.func157, Tryz.ntmps157
 go_wp2_with (first
  | (go_at_call 187; refine HS.out.mono ?_; rintro e w1 ⟨rfl, hb1⟩; have hm1 := keep1 hb1 hm)
  | (go_at_call 172; go_must (refine (HL.out _).mono ?_); go_must (rintro e w2 ⟨rfl, rfl⟩)))
 go_ret
 exact ⟨rfl, hb1⟩
theorem leftI_any (g : Bool) (B : Option Addr) (b off n d : Nat) (xs : List Int) (w : World) (hl : xs.length = n) (hn : n ≤ 1000000000) (hx : RK w .u32 (some ⟨b, off, none⟩) xs) (hy : RK w .u32 B xs)
  (hm : w.cell? ⟨b, off + n, none⟩ = some (.int .u32 limbM)) :
  Calls Tryz.prog 69 #[.agg #[.bool g, .slice (some ⟨b, off, none⟩) n (n + 1)], .agg #[.bool g, .slice B n d]] w fun e w' => e = .returned (.bool true) ∧ Below w.heap.size w w' := by
 have hb : Below w.heap.size w ((w.alloc (.cells #[.bool g, .slice (some ⟨b, off, none⟩) n (n + 1)] 28)).alloc (.cells #[.bool g, .slice B n d] 28)) := ((Below.refl _ _).alloc (Nat.le_refl _) _).alloc (by simp) _
 have HS := Lib.hid (leftN_any B b off n d xs _ hl hn (hx.below hb) (hy.below hb) (keep1 hb hm))
 clear hx hy hm hl
 go_enter Tryz.func69, Tryz.ntmps69
 go_wp2_with (go_at_call 157; go_must (refine HS.out.mono ?_); go_must (rintro e w1 ⟨rfl, hb1⟩))
 go_ret
 exact ⟨by first | rfl | simp, trans_b hb hb1⟩
theorem isValue_any (w : World) : Calls Tryz.prog 120 #[.agg markCells.toArray, .int .i64 777777] w fun e w' => e = .returned (.bool true) ∧ Below w.heap.size w w' := by
 have h0 := heap_alloc_new w (.cells markCells.toArray 31)
 have hb : Below w.heap.size w (w.alloc (.cells markCells.toArray 31)) := (Below.refl _ _).alloc (Nat.le_refl _) _
 unfold markCells at *
 go_enter Tryz.func120, Tryz.ntmps120
 go_wp2
 go_ret
 exact ⟨rfl, hb⟩
end Go.Proofs.YtcpkjmpbpmeclaaGreatDoor
namespace Go.Proofs.YtcpkjmpbpmeclaaGreatDoor
open Go.RowKit
set_option maxRecDepth 100000
set_option linter.unusedVariables false
set_option linter.unusedSimpArgs false
set_option linter.unnecessarySimpa false

theorem mark8 {w : World} {b o : Nat} (h : w.rangeAt b o markCells) : w.cell? ⟨b, o, none⟩ = some (.int .i8 99) ∧ w.cell? ⟨b, o + 1, none⟩ = some (.int .u64 777777) ∧ w.cell? ⟨b, o + 2, none⟩ = some (.bool false) ∧ w.cell? ⟨b, o + 3, none⟩ = some (.slice none 0 0) ∧ w.cell? ⟨b, o + 4, none⟩ = some (.int .u64 0) ∧ w.cell? ⟨b, o + 5, none⟩ = some (.int .i8 0) ∧ w.cell? ⟨b, o + 6, none⟩ = some (.string ⟨#[]⟩) ∧ w.cell? ⟨b, o + 7, none⟩ = some (.slice none 0 0) :=
 ⟨h 0 _ rfl, h 1 _ rfl, h 2 _ rfl, h 3 _ rfl, h 4 _ rfl, h 5 _ rfl, h 6 _ rfl, h 7 _ rfl⟩
set_option maxHeartbeats 2000000 in
theorem leftVs_of (B : Option Addr) (b off n d : Nat) (TL l : List VT) (w : World) (hl : TL.length = n) (hm : l.length = n) (hn : n ≤ 1000000000) (hx : VRow w (some ⟨b, off, none⟩) TL) (hy : VRow w B l) (hmk : w.rangeAt b (off + n * 8) markCells)
  (hk : ∀ i (h1 : i < TL.length) (h2 : i < l.length) W, Below w.heap.size w W → Calls Tryz.prog 24 #[(TL[i]).agg, (l[i]).agg] W fun e w' => e = .returned (.bool true) ∧ Below W.heap.size W w') :
  Calls Tryz.prog 30 #[.slice (some ⟨b, off, none⟩) n (n + 1), .slice B n d] w fun e w' => e = .returned (.bool true) ∧ Below w.heap.size w w' := by
 have HX := Lib.hid hx
 have HY := Lib.hid hy
 have HL := Lib.hid hl
 have HM := Lib.hid hm
 have HK := Lib.hid hk
 obtain ⟨m0, m1, m2, m3, m4, m5, m6, m7⟩ := mark8 hmk
 have hiv : ∀ W, Calls Tryz.prog 120 #[.agg #[.int .i8 99, .int .u64 777777, .bool false, .slice none 0 0, .int .u64 0, .int .i8 0, .string ⟨#[]⟩, .slice none 0 0], .int .i64 777777] W fun e w' => e = .returned (.bool true) ∧ Below W.heap.size W w' := fun W => isValue_any W
 have HIV := Lib.hid hiv
 clear hx hy hl hm hk hmk hiv
 go_enter Tryz.func30, Tryz.ntmps30
 go_upto_region 3 with (go_at_call 120; go_must (refine (HIV.out _).mono ?_); go_must (rintro e w1 ⟨rfl, hb1⟩))
 clear m0 m1 m2 m3 m4 m5 m6 m7
 go_wp2
 go_loopw [5] (fun i W => ∃ j : Nat, i = .int .i64 j ∧ j ≤ n ∧ Below w.heap.size w W) (fun i _ => n - (intOf i).toNat)
 case atStart => exact ⟨0, rfl, by omega, hb1⟩
 case round =>
  obtain ⟨j, rfl, hj, hb⟩ := hrel
  by_cases hlt : j < n
  ·have hjx : j < TL.length := by rw [HL.out]; exact hlt
   have hjy : j < l.length := by rw [HM.out]; exact hlt
   obtain ⟨b1, off1, xk, xn, xg, xmA, xml, xmc, xb, xe, xt, xA, xl, xc, e1, r0, r1, r2, r3, r4, r5, r6, r7, hC⟩ := (HX.out.below hb).kid hjx (C := fun u => ∀ W, Below w.heap.size w W → Calls Tryz.prog 24 #[u, (l[j]).agg] W fun e w' => e = .returned (.bool true) ∧ Below W.heap.size W w') (HK.out j hjx hjy)
   injection e1 with e1
   injection e1 with e2 e3 e4
   subst e2
   subst e3
   obtain ⟨b2, off2, yk, yn, yg, ymA, yml, ymc, yb, ye, yt, yA, yl, yc, rfl, q0, q1, q2, q3, q4, q5, q6, q7, hC2⟩ := (HY.out.below hb).kid hjy (C := fun u => ∀ W, Below w.heap.size w W → Calls Tryz.prog 24 #[.agg #[.int .i8 xk, .int .u64 xn, .bool xg, .slice xmA xml xmc, .int .u64 xb, .int .i8 xe, .string xt, .slice xA xl xc], u] W fun e w' => e = .returned (.bool true) ∧ Below W.heap.size W w') hC
   have HC := Lib.hid hC2
   clear hC hC2 hjx hjy e4
   go_upto_region 6 with fail
   go_region_law (go_simp; go_at_call 24; refine (HC.out _ (trans_b hb ((Below.refl _ _).drew))).mono ?_; rintro e w1 ⟨rfl, hb1⟩)
   all_goals (
    have hb2 := trans_b hb (((Below.refl wr.heap.size wr).drew).trans hb1)
    first | go_wp2 | (go_goals; fail) | skip
    try go_roundw
    case rel => exact ⟨j + 1, by go_num, by omega, hb2⟩
    case measure => (simp only [intOf]; omega))
  ·obtain rfl : j = n := by omega
   clear hlt
   go_wp2
   go_ret
   exact ⟨rfl, hb⟩
set_option maxHeartbeats 2000000 in
theorem leftV_walk (k n : Int) (g : Bool) (mA mA' A A' : Option Addr) (ml mc ml' mc' : Nat) (bs ex : Int) (tx : ByteArray) (m cp m' cp' : Nat) (w : World)
  (hi : ∀ W, Below w.heap.size w W → Calls Tryz.prog 69 #[.agg #[.bool g, .slice mA ml mc], .agg #[.bool g, .slice mA' ml' mc']] W fun e w' => e = .returned (.bool true) ∧ Below W.heap.size W w')
  (hv : ∀ W, Below w.heap.size w W → Calls Tryz.prog 30 #[.slice A m cp, .slice A' m' cp'] W fun e w' => e = .returned (.bool true) ∧ Below W.heap.size W w') :
  Calls Tryz.prog 24 #[.agg #[.int .i8 k, .int .u64 n, .bool g, .slice mA ml mc, .int .u64 bs, .int .i8 ex, .string tx, .slice A m cp], .agg #[.int .i8 k, .int .u64 n, .bool g, .slice mA' ml' mc', .int .u64 bs, .int .i8 ex, .string tx, .slice A' m' cp']] w fun e w' => e = .returned (.bool true) ∧ Below w.heap.size w w' := by
 have hb1 : Below w.heap.size w (w.alloc (.cells #[.int .i8 k, .int .u64 n, .bool g, .slice mA ml mc, .int .u64 bs, .int .i8 ex, .string tx, .slice A m cp] 31)) := (Below.refl _ _).alloc (Nat.le_refl _) _
 have hb : Below w.heap.size w ((w.alloc (.cells #[.int .i8 k, .int .u64 n, .bool g, .slice mA ml mc, .int .u64 bs, .int .i8 ex, .string tx, .slice A m cp] 31)).alloc (.cells #[.int .i8 k, .int .u64 n, .bool g, .slice mA' ml' mc', .int .u64 bs, .int .i8 ex, .string tx, .slice A' m' cp'] 31)) := hb1.alloc hb1.size _
 have hx7 : ((w.alloc (.cells #[.int .i8 k, .int .u64 n, .bool g, .slice mA ml mc, .int .u64 bs, .int .i8 ex, .string tx, .slice A m cp] 31)).alloc (.cells #[.int .i8 k, .int .u64 n, .bool g, .slice mA' ml' mc', .int .u64 bs, .int .i8 ex, .string tx, .slice A' m' cp'] 31)).cell? ⟨w.heap.size, 7, none⟩ = some (.slice A m cp) := by
  rw [World.cell?_alloc_lt _ _ ⟨w.heap.size, 7, none⟩ (by simp), cell_of_row _ _ _ _ _ _ (heap_alloc_new w _)]; rfl
 have hy7 : ((w.alloc (.cells #[.int .i8 k, .int .u64 n, .bool g, .slice mA ml mc, .int .u64 bs, .int .i8 ex, .string tx, .slice A m cp] 31)).alloc (.cells #[.int .i8 k, .int .u64 n, .bool g, .slice mA' ml' mc', .int .u64 bs, .int .i8 ex, .string tx, .slice A' m' cp'] 31)).cell? ⟨w.heap.size + 1, 7, none⟩ = some (.slice A' m' cp') := by
  have e : (w.alloc (.cells #[.int .i8 k, .int .u64 n, .bool g, .slice mA ml mc, .int .u64 bs, .int .i8 ex, .string tx, .slice A m cp] 31)).heap.size = w.heap.size + 1 := by simp
  rw [← e, cell_of_row _ _ _ _ _ _ (heap_alloc_new _ _)]; rfl
 have HI := Lib.hid (hi _ hb)
 have HV := Lib.hid hv
 clear hi hv hb1
 go_enter Tryz.func24, Tryz.ntmps24
 go_wp2_with (first
  | (go_at_call 69; refine HI.out.mono ?_; rintro e w1 ⟨rfl, hb1⟩; have hx1 := keep1 hb1 hx7; have hy1 := keep1 hb1 hy7)
  | (go_at_call 30; refine (HV.out _ (trans_b hb hb1)).mono ?_; rintro e w2 ⟨rfl, hb2⟩))
 go_ret
 exact ⟨rfl, trans_b (trans_b hb hb1) hb2⟩
theorem InM.kid {w : World} {v x : VT} (h : InM w v) (hx : x ∈ v.l) : InM w x := ⟨h.1.kid hx, (AllV.eq.1 h.2).2.mem hx⟩
theorem MarkP.below {w W : World} {v : VT} (h : MarkP w v) (hb : Below w.heap.size w W) : MarkP W v := by
 obtain ⟨b, off, e, h1⟩ := h.m
 obtain ⟨b2, off2, e2, h2⟩ := h.k
 exact ⟨⟨b, off, e, keep1 hb h1⟩, h.mc, ⟨b2, off2, e2, fun j v hv => keep1 hb (h2 j v hv)⟩, h.kc⟩
theorem marks_below {w W : World} (hb : Below w.heap.size w W) : ∀ (n : Nat) (v : VT), v.sz ≤ n → AllV (MarkP w) v → AllV (MarkP W) v
 | 0, v, h, _ => by have := v.sz_pos; omega
 | n + 1, v, h, ha => by
  obtain ⟨a1, a2⟩ := AllV.eq.1 ha
  exact AllV.eq.2 ⟨a1.below hb, AllVL.of fun x hx => marks_below hb n x (by have := VT.kid_sz hx; omega) (a2.mem hx)⟩
theorem InM.below {w W : World} {v : VT} (h : InM w v) (hb : Below w.heap.size w W) : InM W v := ⟨h.1.below hb, marks_below hb _ v (Nat.le_refl _) h.2⟩
theorem leftV_n : ∀ (q : Nat) (T v : VT) (w : World), T.sz ≤ q → T.sz ≤ 1000000000 → InM w T → In w v → T.c = v.c →
  Calls Tryz.prog 24 #[T.agg, v.agg] w fun e w' => e = .returned (.bool true) ∧ Below w.heap.size w w'
 | 0, T, v, w, h, _, _, _, _ => by have := T.sz_pos; omega
 | q + 1, T, v, w, h, hz, hT, hv, hc => by
  obtain ⟨h1, h2, h3, h4, h5, h6, h7, h8⟩ := (VT.c_iff T v).1 hc
  have pT := hT.1.parts
  have pv := hv.parts
  obtain ⟨mk, -⟩ := AllV.eq.1 hT.2
  obtain ⟨b, off, eM, cM⟩ := mk.m
  obtain ⟨b2, off2, eK, cK⟩ := mk.k
  have hs := VT.sz_l T
  have hln := VT.szL_len T.l
  have hl : v.l.length = T.l.length := by have := congrArg List.length h8; simpa using this.symm
  have e1 : T.agg = .agg #[.int .i8 T.k, .int .u64 T.n, .bool T.neg, .slice (some ⟨b, off, none⟩) T.mag.length (T.mag.length + 1), .int .u64 T.bits, .int .i8 T.ext, .string T.text, .slice (some ⟨b2, off2, none⟩) T.l.length (T.l.length + 1)] := by
   unfold VT.agg VT.mags VT.kids
   rw [eM, eK, mk.mc, mk.kc]
  have e2 : v.agg = .agg #[.int .i8 T.k, .int .u64 T.n, .bool T.neg, .slice v.mA T.mag.length v.mcap, .int .u64 T.bits, .int .i8 T.ext, .string T.text, .slice v.A T.l.length v.cap] := by
   unfold VT.agg VT.mags VT.kids
   rw [h1, h2, h3, h4, h5, h6, h7, hl]
  rw [e1, e2]
  refine leftV_walk _ _ _ _ _ _ _ _ _ _ _ _ _ _ _ _ _ _ w (fun W hW => ?_) (fun W hW => ?_)
  ·exact leftI_any T.neg v.mA b off _ v.mcap T.mag W rfl (by omega) (by have := pT.mr.below hW; rwa [eM] at this) (by have := pv.mr.below hW; rwa [← h4] at this) (keep1 hW cM)
  ·refine leftVs_of v.A b2 off2 _ v.cap T.l v.l W rfl hl (by omega) (by have := pT.row.below hW; rwa [eK] at this) (pv.row.below hW) (fun j u hu => keep1 hW (cK j u hu)) fun i a1 a2 W2 hW2 => ?_
   have hm1 := List.getElem_mem a1
   have hm2 := List.getElem_mem a2
   have hk := VT.kid_sz hm1
   refine leftV_n q _ _ W2 (by omega) (by omega) ((hT.kid hm1).below (trans_b hW hW2)) ((hv.kid hm2).below (trans_b hW hW2)) ?_
   have := congrArg (fun z => z[i]?) h8
   simpa [List.getElem?_map, List.getElem?_eq_getElem a1, List.getElem?_eq_getElem a2] using this
theorem leftV_any (T v : VT) (w : World) (hz : T.sz ≤ 1000000000) (hT : InM w T) (hv : In w v) (hc : T.c = v.c) :
  Calls Tryz.prog 24 #[T.agg, v.agg] w fun e w' => e = .returned (.bool true) ∧ Below w.heap.size w w' := leftV_n _ T v w (Nat.le_refl _) hz hT hv hc
end Go.Proofs.YtcpkjmpbpmeclaaGreatDoor
