/- ValueOrders (printed by genOR.py). -/
import Derived.Test.YtcpkjmpbpmeclaaGreatDoorMXec
import Derived.Test.YtcpkjmpbpmeclaaGreatDoorMbb
import Derived.Test.YtcpkjmpbpmeclaaGreatDoorMbc
import Derived.Test.YtcpkjmpbpmeclaaGreatDoorMOha
import Derived.Test.YtcpkjmpbpmeclaaGreatDoorMbd
namespace Go.Proofs.YtcpkjmpbpmeclaaGreatDoor
open Go.RowKit
set_option maxRecDepth 100000
set_option linter.unusedVariables false
set_option linter.unusedSimpArgs false
set_option linter.unnecessarySimpa false

theorem rowL {W : World} {b : Nat} (l : List VT) (h : W.heap[b]? = some (.cells (l.flatMap VT.cells).toArray 31 (0, 0))) : VRow W (some ⟨b, 0, none⟩) l := by
 refine .inr ⟨b, 0, rfl, fun i hi j v hv => ?_⟩
 have hj : j < 8 := (List.getElem?_eq_some_iff.1 hv).1
 rw [cell_of_row _ _ _ _ _ _ h, List.getElem?_toArray, Nat.zero_add, flat_at l i hi j hj]
 exact hv
set_option maxHeartbeats 32000000 in
theorem ordersW (a b : VT) (w : World) (hT : ∃ at_, Tabs at_ w) (hIa : In w a) (hIb : In w b) (hz : a.sz ≤ 2000000 ∧ b.sz ≤ 2000000) :
  Calls Tryz.prog 4 #[a.agg, b.agg] w fun e w' => e = .returned (.bool true) ∧ Below w.heap.size w w' := by
 obtain ⟨at_, hT⟩ := hT
 have HT := Lib.hid hT
 have HIa := Lib.hid hIa
 have HIb := Lib.hid hIb
 have HZ := Lib.hid hz
 clear hT hIa hIb hz
 unfold VT.agg VT.mags VT.kids
 go_enter Tryz.func4, Tryz.ntmps4
 go_upto_region 1 with fail
 obtain ⟨W0, hW0, h0a, h0b, hb0⟩ : ∃ W, ((w.alloc (.cells a.arr 31)).alloc (.cells b.arr 31)) = W ∧ W.heap[w.heap.size]? = some (.cells a.arr 31 (0, 0)) ∧ W.heap[w.heap.size + 1]? = some (.cells b.arr 31 (0, 0)) ∧ Below w.heap.size w W := by
  have old : ∀ (X : World) (o : Obj) (i : Nat), i < X.heap.size → (X.alloc o).heap[i]? = X.heap[i]? := fun X o i hi => Below.heap_alloc X o i hi
  have new : ∀ (X : World) (o : Obj) (i : Nat), i = X.heap.size → (X.alloc o).heap[i]? = some o := fun X o i hi => by rw [hi]; exact heap_alloc_new X o
  refine ⟨_, rfl, ?_, ?_, (((Below.refl _ w).alloc (Nat.le_refl _) _).alloc (by simp) _)⟩
  ·rw [old _ _ _ (by simp <;> omega), new _ _ _ (by simp)]
  ·rw [new _ _ _ (by simp)]
 show Code.wp _ _ _ _ ((w.alloc (.cells a.arr 31)).alloc (.cells b.arr 31))
 rw [hW0]
 have HB0 := Lib.hid hb0
 have HLa : Hid (∀ X, Bel W0 X → Sem.run Tryz.prog (loadVar 31 ⟨w.heap.size, 0, none⟩) X = .ok a.agg X) := Lib.hid fun X hX => box_load h0a hX
 have HLb : Hid (∀ X, Bel W0 X → Sem.run Tryz.prog (loadVar 31 ⟨w.heap.size + 1, 0, none⟩) X = .ok b.agg X) := Lib.hid fun X hX => box_load h0b hX
 have HXa : Hid (∀ X, Bel W0 X → X.heap[w.heap.size]? = some (.cells #[.int .i8 a.k, .int .u64 a.n, .bool a.neg, .slice a.mA a.mag.length a.mcap, .int .u64 a.bits, .int .i8 a.ext, .string a.text, .slice a.A a.l.length a.cap] 31 (0, 0))) := Lib.hid fun X hX => (hX.block _ (Array.getElem?_eq_some_iff.1 h0a).1).trans h0a
 have HXb : Hid (∀ X, Bel W0 X → X.heap[w.heap.size + 1]? = some (.cells #[.int .i8 b.k, .int .u64 b.n, .bool b.neg, .slice b.mA b.mag.length b.mcap, .int .u64 b.bits, .int .i8 b.ext, .string b.text, .slice b.A b.l.length b.cap] 31 (0, 0))) := Lib.hid fun X hX => (hX.block _ (Array.getElem?_eq_some_iff.1 h0b).1).trans h0b
 have HLI : Hid (∀ X, Bel W0 X → Calls Tryz.prog 18 #[] X fun e w' => e = .returned (.bool true) ∧ Below X.heap.size X w') := Lib.hid fun X hX => lives_any at_ X (HT.out.below (trans_b HB0.out hX))
 have HTW : Hid (∀ (v : VT) X, Bel W0 X → In w v → v.sz ≤ 2000000 → Calls Tryz.prog 15 #[v.agg] X fun e w' => ∃ T : VT, e = .returned T.agg ∧ Hid (Foot X.heap.size w' T ∧ T.c = v.c) ∧ Below X.heap.size X w') := Lib.hid fun v X hX hI hz => twinV_any v X (by omega) (hI.below (trans_b HB0.out hX))
 have hBW : Bel W0 W0 := Below.refl _ _
 clear hW0 hb0 h0a h0b
 apply wp_region_lit
 refine wpList_loadrun rfl _ _ rfl _ rfl _ (HLa.out _ hBW) ?_
 try simp only [LY]
 refine wpList_loadrun rfl _ _ rfl _ rfl _ (HLb.out _ hBW) ?_
 try simp only [LY]
 go_wp2_with fail
 obtain ⟨W1, hW1, hrow, hb1⟩ : ∃ W, (W0.alloc (.cells (a.cells ++ b.cells).toArray 31)) = W ∧ VRow W (some ⟨W0.heap.size, 0, none⟩) [a, b] ∧ Below W0.heap.size W0 W := ⟨_, rfl, rowL [a, b] (by rw [heap_alloc_new]; simp), (Below.refl _ _).alloc (Nat.le_refl _) _⟩
 show Calls _ _ _ (W0.alloc (.cells (a.cells ++ b.cells).toArray 31)) _
 rw [hW1]
 have hbW1 : Below w.heap.size w W1 := trans_b HB0.out hb1
 have hsz : VT.szL [a, b] ≤ 1000000000 := by
  simp only [VT.szL]
  have := HZ.out
  omega
 refine (beyond_any (some ⟨W0.heap.size, 0, none⟩) 2 [a, b] W1 hsz hrow (InL.of fun v hv => by
  simp only [List.mem_cons, List.not_mem_nil, or_false] at hv
  rcases hv with rfl | rfl
  ·exact HIa.out.below hbW1
  ·exact HIb.out.below hbW1)).mono ?_
 rintro e w2 ⟨bb, rfl, hb2⟩
 have hB2 : Bel W0 w2 := trans_b hb1 hb2
 clear hW1 hrow hb1 hbW1 hsz hb2
 cases bb with
 | true =>
  have HBF := Lib.hid (trans_b HB0.out hB2)
  clear hB2
  go_wp2
  go_ret
  exact ⟨rfl, HBF.out⟩
 | false =>
  go_upto_region 3 with fail
  apply wp_region_lit
  refine wpList_loadrun rfl _ _ rfl _ rfl _ (HLa.out _ hB2) ?_
  try simp only [LY]
  go_upto_region 4 with (go_at_call 15; go_must (refine (HTW.out a _ hB2 HIa.out (by have := HZ.out; omega)).mono ?_); go_must (rintro e w3 ⟨S, rfl, HTS, hb3⟩; unfold VT.agg VT.mags VT.kids))
  obtain ⟨W3, hW3, hS, hc3⟩ : ∃ W, (w3.alloc (.cells S.arr 31)) = W ∧ W.heap[w3.heap.size]? = some (.cells S.arr 31 (0, 0)) ∧ Below w3.heap.size w3 W := ⟨_, rfl, heap_alloc_new _ _, (Below.refl _ _).alloc (Nat.le_refl _) _⟩
  show Code.wp _ _ _ _ (w3.alloc (.cells S.arr 31))
  rw [hW3]
  have hB3 : Bel W0 W3 := trans_b hB2 (trans_b hb3 hc3)
  have HMS : Hid (InM W3 S ∧ S.c = a.c) := Lib.hid ⟨HTS.out.1 W3 fun q h1 h2 => hc3.block q h2, HTS.out.2⟩
  have HZS : Hid (S.sz ≤ 2000000) := Lib.hid (by rw [sz_c HMS.out.2]; have := HZ.out; omega)
  have HLS : Hid (∀ X, Bel W3 X → Sem.run Tryz.prog (loadVar 31 ⟨w3.heap.size, 0, none⟩) X = .ok S.agg X) := Lib.hid fun X hX => box_load hS hX
  have HXS : Hid (∀ X, Bel W3 X → X.heap[w3.heap.size]? = some (.cells #[.int .i8 S.k, .int .u64 S.n, .bool S.neg, .slice S.mA S.mag.length S.mcap, .int .u64 S.bits, .int .i8 S.ext, .string S.text, .slice S.A S.l.length S.cap] 31 (0, 0))) := Lib.hid fun X hX => (hX.block _ (Array.getElem?_eq_some_iff.1 hS).1).trans hS
  have hW23 := trans_b hb3 hc3
  clear hW3 hb3 hc3 hS HTS
  apply wp_region_lit
  refine wpList_loadrun rfl _ _ rfl _ rfl _ (HLb.out _ hB3) ?_
  try simp only [LY]
  go_upto_region 5 with (go_at_call 15; go_must (refine (HTW.out b _ hB3 HIb.out (by have := HZ.out; omega)).mono ?_); go_must (rintro e w4 ⟨T, rfl, HTT, hb4⟩; unfold VT.agg VT.mags VT.kids))
  obtain ⟨W4, hW4, hT, hc4⟩ : ∃ W, (w4.alloc (.cells T.arr 31)) = W ∧ W.heap[w4.heap.size]? = some (.cells T.arr 31 (0, 0)) ∧ Below w4.heap.size w4 W := ⟨_, rfl, heap_alloc_new _ _, (Below.refl _ _).alloc (Nat.le_refl _) _⟩
  show Code.wp _ _ _ _ (w4.alloc (.cells T.arr 31))
  rw [hW4]
  have hB4 : Bel W0 W4 := trans_b hB3 (trans_b hb4 hc4)
  have HMT : Hid (InM W4 T ∧ T.c = b.c) := Lib.hid ⟨HTT.out.1 W4 fun q h1 h2 => hc4.block q h2, HTT.out.2⟩
  have HZT : Hid (T.sz ≤ 2000000) := Lib.hid (by rw [sz_c HMT.out.2]; have := HZ.out; omega)
  have HLT : Hid (∀ X, Bel W4 X → Sem.run Tryz.prog (loadVar 31 ⟨w4.heap.size, 0, none⟩) X = .ok T.agg X) := Lib.hid fun X hX => box_load hT hX
  have HXT : Hid (∀ X, Bel W4 X → X.heap[w4.heap.size]? = some (.cells #[.int .i8 T.k, .int .u64 T.n, .bool T.neg, .slice T.mA T.mag.length T.mcap, .int .u64 T.bits, .int .i8 T.ext, .string T.text, .slice T.A T.l.length T.cap] 31 (0, 0))) := Lib.hid fun X hX => (hX.block _ (Array.getElem?_eq_some_iff.1 hT).1).trans hT
  have hW34 := trans_b hb4 hc4
  clear hW4 hb4 hc4 hT HTT
  have HR : Hid (∀ (p q : VT) X, Bel W0 X → In w p → In w q → p.sz ≤ 2000000 → q.sz ≤ 2000000 → Calls Tryz.prog 22 #[p.agg, q.agg] X fun e w' => e = .returned (.int .i64 (cmpV p q)) ∧ Below X.heap.size X w') := Lib.hid fun p q X hX h1 h2 h3 h4 => refCmp_any _ p q X (Nat.le_refl _) (by omega) (by omega) (h1.below (trans_b HB0.out hX)) (h2.below (trans_b HB0.out hX))
  obtain ⟨z, hz1⟩ : ∃ z, cmpV a b = z := ⟨_, rfl⟩
  obtain ⟨y, hy1⟩ : ∃ y, cmpV b a = y := ⟨_, rfl⟩
  have HRab := Lib.hid (HR.out a b)
  have HRba := Lib.hid (HR.out b a)
  rw [hz1] at HRab
  rw [hy1] at HRba
  have HMS4 : Hid (InM W4 S) := Lib.hid (HMS.out.1.below hW34)
  have HCC : Hid (∀ (p q : VT) (x : Int) X, Bel W4 X → In W4 p → In W4 q → p.sz ≤ 2000000 → q.sz ≤ 2000000 → cmpV p q = x → Calls Tryz.prog 23 #[p.agg, q.agg] X fun e w' => e = .returned (.int .i64 x) ∧ Below X.heap.size X w') := Lib.hid fun p q x X hX h1 h2 h3 h4 h5 => by
   have := cmpV_any _ p q X (Nat.le_refl _) (by omega) (by omega) (HT.out.s.below (trans_b HB0.out (trans_b hB4 hX))) (h1.below hX) (h2.below hX)
   rwa [h5] at this
  have HC1 : Hid (∀ X, Bel W4 X → Calls Tryz.prog 23 #[S.agg, T.agg] X fun e w' => e = .returned (.int .i64 z) ∧ Below X.heap.size X w') := Lib.hid fun X hX => HCC.out S T z X hX HMS4.out.1 HMT.out.1.1 HZS.out HZT.out (by rw [cmpV_same HMS.out.2 HMT.out.2]; exact hz1)
  have HC2 : Hid (∀ X, Bel W4 X → Calls Tryz.prog 23 #[T.agg, S.agg] X fun e w' => e = .returned (.int .i64 y) ∧ Below X.heap.size X w') := Lib.hid fun X hX => HCC.out T S y X hX HMT.out.1.1 HMS4.out.1 HZT.out HZS.out (by rw [cmpV_same HMT.out.2 HMS.out.2]; exact hy1)
  have HC3 : Hid (∀ X, Bel W4 X → Calls Tryz.prog 23 #[S.agg, S.agg] X fun e w' => e = .returned (.int .i64 0) ∧ Below X.heap.size X w') := Lib.hid fun X hX => HCC.out S S 0 X hX HMS4.out.1 HMS4.out.1 HZS.out HZS.out (cmpV_self S)
  have HF1 : Hid (∀ X, Bel W4 X → Calls Tryz.prog 24 #[S.agg, a.agg] X fun e w' => e = .returned (.bool true) ∧ Below X.heap.size X w') := Lib.hid fun X hX => leftV_any S a X (by have := HZS.out; omega) (HMS4.out.below hX) (HIa.out.below (trans_b HB0.out (trans_b hB4 hX))) HMS.out.2
  have HF2 : Hid (∀ X, Bel W4 X → Calls Tryz.prog 24 #[T.agg, b.agg] X fun e w' => e = .returned (.bool true) ∧ Below X.heap.size X w') := Lib.hid fun X hX => leftV_any T b X (by have := HZT.out; omega) (HMT.out.1.below hX) (HIb.out.below (trans_b HB0.out (trans_b hB4 hX))) HMT.out.2
  have HRb2 := HRba.out
  have HRB : Hid (∀ X, Bel W4 X → Calls Tryz.prog 22 #[b.agg, a.agg] X fun e w' => e = .returned (.int .i64 y) ∧ Below X.heap.size X w') := Lib.hid fun X hX => HRb2 X (trans_b hB4 hX) HIb.out HIa.out (by have := HZ.out; omega) (by have := HZ.out; omega)
  have HLa4 : Hid (∀ X, Bel W4 X → Sem.run Tryz.prog (loadVar 31 ⟨w.heap.size, 0, none⟩) X = .ok a.agg X) := Lib.hid fun X hX => HLa.out X (trans_b hB4 hX)
  have HLb4 : Hid (∀ X, Bel W4 X → Sem.run Tryz.prog (loadVar 31 ⟨w.heap.size + 1, 0, none⟩) X = .ok b.agg X) := Lib.hid fun X hX => HLb.out X (trans_b hB4 hX)
  have HLS4 : Hid (∀ X, Bel W4 X → Sem.run Tryz.prog (loadVar 31 ⟨w3.heap.size, 0, none⟩) X = .ok S.agg X) := Lib.hid fun X hX => HLS.out X (trans_b hW34 hX)
  clear HR HCC HRba HRb2 hz1 hy1
  have hBW4 : Bel W4 W4 := Below.refl _ _
  apply wp_region_lit
  refine wpList_loadrun rfl _ _ rfl _ rfl _ (HLa4.out _ hBW4) ?_
  try simp only [LY]
  refine wpList_loadrun rfl _ _ rfl _ rfl _ (HLb4.out _ hBW4) ?_
  try simp only [LY]
  go_upto_region 6 with (go_at_call 22; go_must (refine (HRab.out _ hB4 HIa.out HIb.out (by have := HZ.out; omega) (by have := HZ.out; omega)).mono ?_); go_must (rintro e w5 ⟨rfl, hb5⟩; have hB5 : Bel W4 w5 := trans_b hBW4 hb5; clear hb5))
  refine wp_region_held_drew (S := fun X => Bel W4 X) (by kernel_rfl) (trans_b hB5 (Below.refl _ w5).drew) (fun hH => ?_)
  refine wpAnyH_take (i := 0) (oi := _) (v := S.agg) rfl (by kernel_rfl) (by kernel_rfl) (by kernel_rfl) (fun _ _ _ h => h) (yieldsIf_run (by rfl) _ _ rfl _ rfl _ (fun Y hY => HLS4.out Y hY)) hH ?_
  try simp only [LY]
  refine wpAnyH_take (i := 1) (oi := _) (v := T.agg) rfl (by kernel_rfl) (by kernel_rfl) (by kernel_rfl) (fun _ _ _ h => h) (yieldsIf_run (by rfl) _ _ rfl _ rfl _ (fun Y hY => HLT.out Y hY)) hH ?_
  try simp only [LY]
  refine wpAnyH_take (i := 3) (oi := _) (v := ?_) rfl (by kernel_rfl) (by kernel_rfl) (by kernel_rfl) (fun _ _ _ h => h) (Or.inl ⟨by rfl, ?_⟩) hH ?_
  rotate_left 1
  ·intro Y hSY
   skip
   go_simp
   with_reducible rfl
  try simp only [LY]
  refine wpAnyH_ready (rs := [2]) (by kernel_rfl) (by simp) ?_
  refine AllReadyH.cons rfl (fun K hK => ?_) AllReadyH.nil
  go_simp
  go_at_call 23
  refine (HC1.out _ hH).mono ?_
  rintro e w20 ⟨rfl, hb20⟩
  have hH9 : Bel W4 w20 := trans_b hH hb20
  go_wp2_with fail
  refine hK.out _ _ hH9 (fun hH => ?_)
  clear hK K
  try simp only [LY]
  refine wpAnyH_take (i := 4) (oi := _) (v := ?_) rfl (by kernel_rfl) (by kernel_rfl) (by kernel_rfl) (fun _ _ _ h => h) (Or.inl ⟨by rfl, ?_⟩) hH ?_
  rotate_left 1
  ·intro Y hSY
   skip
   go_simp
   with_reducible rfl
  try simp only [LY]
  refine wpAnyH_take (i := 5) (oi := _) (v := ?_) rfl (by kernel_rfl) (by kernel_rfl) (by kernel_rfl) (fun _ _ _ h => h) (Or.inl ⟨by rfl, ?_⟩) hH ?_
  rotate_left 1
  ·intro Y hSY
   skip
   go_simp
   with_reducible rfl
  try simp only [LY]
  refine wpAnyH_take (i := 6) (oi := _) (v := T.agg) rfl (by kernel_rfl) (by kernel_rfl) (by kernel_rfl) (fun _ _ _ h => h) (yieldsIf_run (by rfl) _ _ rfl _ rfl _ (fun Y hY => HLT.out Y hY)) hH ?_
  try simp only [LY]
  refine wpAnyH_take (i := 7) (oi := _) (v := S.agg) rfl (by kernel_rfl) (by kernel_rfl) (by kernel_rfl) (fun _ _ _ h => h) (yieldsIf_run (by rfl) _ _ rfl _ rfl _ (fun Y hY => HLS4.out Y hY)) hH ?_
  try simp only [LY]
  refine wpAnyH_take (i := 9) (oi := _) (v := b.agg) rfl (by kernel_rfl) (by kernel_rfl) (by kernel_rfl) (fun _ _ _ h => h) (yieldsIf_run (by rfl) _ _ rfl _ rfl _ (fun Y hY => HLb4.out Y hY)) hH ?_
  try simp only [LY]
  refine wpAnyH_take (i := 10) (oi := _) (v := a.agg) rfl (by kernel_rfl) (by kernel_rfl) (by kernel_rfl) (fun _ _ _ h => h) (yieldsIf_run (by rfl) _ _ rfl _ rfl _ (fun Y hY => HLa4.out Y hY)) hH ?_
  try simp only [LY]
  refine wpAnyH_ready (rs := [8]) (by kernel_rfl) (by simp) ?_
  refine AllReadyH.cons rfl (fun K hK => ?_) AllReadyH.nil
  go_simp
  go_at_call 23
  refine (HC2.out _ hH).mono ?_
  rintro e w20 ⟨rfl, hb20⟩
  have hH9 : Bel W4 w20 := trans_b hH hb20
  go_wp2_with fail
  refine hK.out _ _ hH9 (fun hH => ?_)
  clear hK K
  try simp only [LY]
  refine wpAnyH_ready (rs := [11]) (by kernel_rfl) (by simp) ?_
  refine AllReadyH.cons rfl (fun K hK => ?_) AllReadyH.nil
  go_simp
  go_at_call 22
  refine (HRB.out _ hH).mono ?_
  rintro e w20 ⟨rfl, hb20⟩
  have hH9 : Bel W4 w20 := trans_b hH hb20
  go_wp2_with fail
  refine hK.out _ _ hH9 (fun hH => ?_)
  clear hK K
  try simp only [LY]
  refine wpAnyH_take (i := 12) (oi := _) (v := ?_) rfl (by kernel_rfl) (by kernel_rfl) (by kernel_rfl) (fun _ _ _ h => h) (Or.inl ⟨by rfl, ?_⟩) hH ?_
  rotate_left 1
  ·intro Y hSY
   skip
   go_simp
   with_reducible rfl
  try simp only [LY]
  refine wpAnyH_take (i := 13) (oi := _) (v := ?_) rfl (by kernel_rfl) (by kernel_rfl) (by kernel_rfl) (fun _ _ _ h => h) (Or.inl ⟨by rfl, ?_⟩) hH ?_
  rotate_left 1
  ·intro Y hSY
   skip
   go_simp
   with_reducible rfl
  try simp only [LY]
  refine wpAnyH_take (i := 14) (oi := _) (v := ?_) rfl (by kernel_rfl) (by kernel_rfl) (by kernel_rfl) (fun _ _ _ h => h) (Or.inl ⟨by rfl, ?_⟩) hH ?_
  rotate_left 1
  ·intro Y hSY
   skip
   go_simp
   with_reducible rfl
  try simp only [LY]
  refine wpAnyH_take (i := 15) (oi := _) (v := S.agg) rfl (by kernel_rfl) (by kernel_rfl) (by kernel_rfl) (fun _ _ _ h => h) (yieldsIf_run (by rfl) _ _ rfl _ rfl _ (fun Y hY => HLS4.out Y hY)) hH ?_
  try simp only [LY]
  refine wpAnyH_take (i := 16) (oi := _) (v := S.agg) rfl (by kernel_rfl) (by kernel_rfl) (by kernel_rfl) (fun _ _ _ h => h) (yieldsIf_run (by rfl) _ _ rfl _ rfl _ (fun Y hY => HLS4.out Y hY)) hH ?_
  try simp only [LY]
  refine wpAnyH_ready (rs := [17]) (by kernel_rfl) (by simp) ?_
  refine AllReadyH.cons rfl (fun K hK => ?_) AllReadyH.nil
  go_simp
  go_at_call 23
  refine (HC3.out _ hH).mono ?_
  rintro e w20 ⟨rfl, hb20⟩
  have hH9 : Bel W4 w20 := trans_b hH hb20
  go_wp2_with fail
  refine hK.out _ _ hH9 (fun hH => ?_)
  clear hK K
  try simp only [LY]
  refine wpAnyH_take (i := 18) (oi := _) (v := ?_) rfl (by kernel_rfl) (by kernel_rfl) (by kernel_rfl) (fun _ _ _ h => h) (Or.inl ⟨by rfl, ?_⟩) hH ?_
  rotate_left 1
  ·intro Y hSY
   skip
   go_simp
   with_reducible rfl
  try simp only [LY]
  refine wpAnyH_take (i := 19) (oi := _) (v := ?_) rfl (by kernel_rfl) (by kernel_rfl) (by kernel_rfl) (fun _ _ _ h => h) (Or.inl ⟨by rfl, ?_⟩) hH ?_
  rotate_left 1
  ·intro Y hSY
   skip
   go_simp
   with_reducible rfl
  try simp only [LY]
  refine wpAnyH_take (i := 20) (oi := _) (v := ?_) rfl (by kernel_rfl) (by kernel_rfl) (by kernel_rfl) (fun _ _ _ h => h) (Or.inl ⟨by rfl, ?_⟩) hH ?_
  rotate_left 1
  ·intro Y hSY
   skip
   go_simp
   with_reducible rfl
  try simp only [LY]
  refine wpAnyH_take (i := 21) (oi := _) (v := S.agg) rfl (by kernel_rfl) (by kernel_rfl) (by kernel_rfl) (fun _ _ _ h => h) (yieldsIf_run (by rfl) _ _ rfl _ rfl _ (fun Y hY => HLS4.out Y hY)) hH ?_
  try simp only [LY]
  refine wpAnyH_take (i := 22) (oi := _) (v := T.agg) rfl (by kernel_rfl) (by kernel_rfl) (by kernel_rfl) (fun _ _ _ h => h) (yieldsIf_run (by rfl) _ _ rfl _ rfl _ (fun Y hY => HLT.out Y hY)) hH ?_
  try simp only [LY]
  refine wpAnyH_take (i := 24) (oi := _) (v := ?_) rfl (by kernel_rfl) (by kernel_rfl) (by kernel_rfl) (fun _ _ _ h => h) (Or.inl ⟨by rfl, ?_⟩) hH ?_
  rotate_left 1
  ·intro Y hSY
   skip
   go_simp
   with_reducible rfl
  try simp only [LY]
  refine wpAnyH_ready (rs := [23]) (by kernel_rfl) (by simp) ?_
  refine AllReadyH.cons rfl (fun K hK => ?_) AllReadyH.nil
  go_simp
  go_at_call 23
  refine (HC1.out _ hH).mono ?_
  rintro e w20 ⟨rfl, hb20⟩
  have hH9 : Bel W4 w20 := trans_b hH hb20
  go_wp2_with fail
  refine hK.out _ _ hH9 (fun hH => ?_)
  clear hK K
  try simp only [LY]
  refine wpAnyH_take (i := 25) (oi := _) (v := ?_) rfl (by kernel_rfl) (by kernel_rfl) (by kernel_rfl) (fun _ _ _ h => h) (Or.inl ⟨by rfl, ?_⟩) hH ?_
  rotate_left 1
  ·intro Y hSY
   skip
   go_simp
   with_reducible rfl
  try simp only [LY]
  refine wpAnyH_take (i := 26) (oi := _) (v := ?_) rfl (by kernel_rfl) (by kernel_rfl) (by kernel_rfl) (fun _ _ _ h => h) (Or.inl ⟨by rfl, ?_⟩) hH ?_
  rotate_left 1
  ·intro Y hSY
   skip
   go_simp
   with_reducible rfl
  try simp only [LY]
  refine wpAnyH_done (by kernel_rfl) ?_ _
  have HH := Lib.hid hH
  clear hH
  go_upto_region 8 with fail
  apply wp_region_lit
  refine wpList_loadrun rfl _ _ rfl _ rfl _ (HLS4.out _ HH.out) ?_
  try simp only [LY]
  refine wpList_loadrun rfl _ _ rfl _ rfl _ (HLa4.out _ HH.out) ?_
  try simp only [LY]
  have HXb4 : Hid (∀ X, Bel W4 X → X.heap[w.heap.size + 1]? = some (.cells #[.int .i8 b.k, .int .u64 b.n, .bool b.neg, .slice b.mA b.mag.length b.mcap, .int .u64 b.bits, .int .i8 b.ext, .string b.text, .slice b.A b.l.length b.cap] 31 (0, 0))) := Lib.hid fun X hX => HXb.out X (trans_b hB4 hX)
  unfold VT.agg VT.mags VT.kids at HF1 HF2
  unfold VT.agg VT.mags VT.kids
  go_wp2_with (first
   | (go_at_call 24; refine (HF2.out _ hB30).mono ?_; rintro e w31 ⟨rfl, hb31⟩; have hB31 : Bel W4 w31 := trans_b hB30 hb31; clear hb31 c0 c1 c2 c3 c4 c5 c6 c7 d0 d1 d2 d3 d4 d5 d6 d7)
   | (go_at_call 24; refine (HF1.out _ HH.out).mono ?_; rintro e w30 ⟨rfl, hb30⟩; have hB30 : Bel W4 w30 := trans_b HH.out hb30; clear hb30; obtain ⟨⟨c0, c1, c2, c3, c4, c5, c6, c7⟩, _⟩ := blk8 (HXT.out w30 hB30); obtain ⟨⟨d0, d1, d2, d3, d4, d5, d6, d7⟩, _⟩ := blk8 (HXb4.out w30 hB30))
   | (go_at_call 18; refine (HLI.out _ (trans_b hB4 hB31)).mono ?_; rintro e w9 ⟨rfl, hb9⟩; have HB9 := Lib.hid (trans_b HB0.out (trans_b (trans_b hB4 hB31) hb9)); clear hb9))
  go_ret
  exact ⟨rfl, HB9.out⟩
theorem ordersWalk (a b : VT) (w : World) (hT : ∃ at_, Tabs at_ w) (hIa : In w a) (ha : a.sz ≤ 1048576) (hIb : In w b) (hb : b.sz ≤ 1048576) :
  Calls Tryz.prog 4 #[a.agg, b.agg] w fun e w' => e = .returned (.bool true) ∧ Below w.heap.size w w' := ordersW a b w hT hIa hIb (by omega)
end Go.Proofs.YtcpkjmpbpmeclaaGreatDoor
