/- ValueAlike (printed by genAL.py). -/
import Derived.Test.YtcpkjmpbpmeclaaGreatDoorMXec
import Derived.Test.YtcpkjmpbpmeclaaGreatDoorMbb
import Derived.Test.YtcpkjmpbpmeclaaGreatDoorMbc
import Derived.Test.YtcpkjmpbpmeclaaGreatDoorMbh
import Derived.Test.YtcpkjmpbpmeclaaGreatDoorMai
namespace Go.Proofs.YtcpkjmpbpmeclaaGreatDoor
open Go.RowKit
set_option maxRecDepth 100000
set_option linter.unusedVariables false
set_option linter.unusedSimpArgs false
set_option linter.unnecessarySimpa false

theorem rowL {W : World} {b : Nat} (l : List VT) (h : W.heap[b]? = some (.cells (l.flatMap VT.cells).toArray 31 (0, 0))) : VRow W (some ⟨b, 0, none⟩) l := by
 refine .inr ⟨b, 0, rfl, fun i hi j v hv => ?_⟩
 have hj : j < 8 := (List.getElem?_eq_some_iff.1 hv).1
 rw [cell_of_row _ _ _ _ _ _ h, List.getElem?_toArray, Nat.zero_add, flat_at l i hi j hj]
 exact hv
set_option maxHeartbeats 16000000 in
theorem alikeW (a b : VT) (w : World) (hT : ∃ at_, Tabs at_ w) (hIa : In w a) (hIb : In w b) (hz : a.sz ≤ 2000000 ∧ b.sz ≤ 2000000) :
  Calls Tryz.prog 9 #[a.agg, b.agg] w fun e w' => e = .returned (.bool true) ∧ Below w.heap.size w w' := by
 obtain ⟨at_, hT⟩ := hT
 have HT := Lib.hid hT
 have HIa := Lib.hid hIa
 have HIb := Lib.hid hIb
 have HZ := Lib.hid hz
 clear hT hIa hIb hz
 unfold VT.agg VT.mags VT.kids
 go_enter Tryz.func9, Tryz.ntmps9
 go_upto_region 1 with fail
 obtain ⟨W0, hW0, h0a, h0b, hb0⟩ : ∃ W, ((w.alloc (.cells a.arr 31)).alloc (.cells b.arr 31)) = W ∧ W.heap[w.heap.size]? = some (.cells a.arr 31 (0, 0)) ∧ W.heap[w.heap.size + 1]? = some (.cells b.arr 31 (0, 0)) ∧ Below w.heap.size w W := by
  have old : ∀ (X : World) (o : Obj) (i : Nat), i < X.heap.size → (X.alloc o).heap[i]? = X.heap[i]? := fun X o i hi => Below.heap_alloc X o i hi
  have new : ∀ (X : World) (o : Obj) (i : Nat), i = X.heap.size → (X.alloc o).heap[i]? = some o := fun X o i hi => by rw [hi]; exact heap_alloc_new X o
  refine ⟨_, rfl, ?_, ?_, (((Below.refl _ w).alloc (Nat.le_refl _) _).alloc (by simp) _)⟩
  ·rw [old _ _ _ (by simp <;> omega), new _ _ _ (by simp)]
  ·rw [new _ _ _ (by simp)]
 show Code.wp _ _ _ _ ((w.alloc (.cells a.arr 31)).alloc (.cells b.arr 31))
 rw [hW0]
 have HB0 := Lib.hid hb0
 have HLa : Hid (∀ X, Bel W0 X → Sem.run Tryz.prog (loadVar 31 ⟨w.heap.size, 0, none⟩) X = .ok a.agg X) := Lib.hid fun X hX => box_load h0a hX
 have HLb : Hid (∀ X, Bel W0 X → Sem.run Tryz.prog (loadVar 31 ⟨w.heap.size + 1, 0, none⟩) X = .ok b.agg X) := Lib.hid fun X hX => box_load h0b hX
 have HXa : Hid (∀ X, Bel W0 X → X.heap[w.heap.size]? = some (.cells #[.int .i8 a.k, .int .u64 a.n, .bool a.neg, .slice a.mA a.mag.length a.mcap, .int .u64 a.bits, .int .i8 a.ext, .string a.text, .slice a.A a.l.length a.cap] 31 (0, 0))) := Lib.hid fun X hX => (hX.block _ (Array.getElem?_eq_some_iff.1 h0a).1).trans h0a
 have HXb : Hid (∀ X, Bel W0 X → X.heap[w.heap.size + 1]? = some (.cells #[.int .i8 b.k, .int .u64 b.n, .bool b.neg, .slice b.mA b.mag.length b.mcap, .int .u64 b.bits, .int .i8 b.ext, .string b.text, .slice b.A b.l.length b.cap] 31 (0, 0))) := Lib.hid fun X hX => (hX.block _ (Array.getElem?_eq_some_iff.1 h0b).1).trans h0b
 have HLI : Hid (∀ X, Bel W0 X → Calls Tryz.prog 18 #[] X fun e w' => e = .returned (.bool true) ∧ Below X.heap.size X w') := Lib.hid fun X hX => lives_any at_ X (HT.out.below (trans_b HB0.out hX))
 obtain ⟨ga, hga⟩ : ∃ g, goodV a = g := ⟨_, rfl⟩
 obtain ⟨gb, hgb⟩ : ∃ g, goodV b = g := ⟨_, rfl⟩
 have HGA : Hid (∀ X, Bel W0 X → Calls Tryz.prog 33 #[a.agg] X fun e w' => e = .returned (.bool ga) ∧ Below X.heap.size X w') := Lib.hid fun X hX => by
  have := refGood_any a X (by have := HZ.out; omega) (HIa.out.below (trans_b HB0.out hX)); rwa [hga] at this
 have HGB : Hid (∀ X, Bel W0 X → Calls Tryz.prog 33 #[b.agg] X fun e w' => e = .returned (.bool gb) ∧ Below X.heap.size X w') := Lib.hid fun X hX => by
  have := refGood_any b X (by have := HZ.out; omega) (HIb.out.below (trans_b HB0.out hX)); rwa [hgb] at this
 obtain ⟨z, hzz⟩ : ∃ z, cmpV a b = z := ⟨_, rfl⟩
 obtain ⟨sb, hsb⟩ : ∃ s, decide (a.c = b.c) = s := ⟨_, rfl⟩
 have HC : Hid (∀ X, Bel W0 X → Calls Tryz.prog 23 #[a.agg, b.agg] X fun e w' => e = .returned (.int .i64 z) ∧ Below X.heap.size X w') := Lib.hid fun X hX => by
  have := cmpV_any _ a b X (Nat.le_refl _) (by have := HZ.out; omega) (by have := HZ.out; omega) (HT.out.s.below (trans_b HB0.out hX)) (HIa.out.below (trans_b HB0.out hX)) (HIb.out.below (trans_b HB0.out hX)); rwa [hzz] at this
 have HS : Hid (∀ X, Bel W0 X → Calls Tryz.prog 34 #[a.agg, b.agg] X fun e w' => e = .returned (.bool sb) ∧ Below X.heap.size X w') := Lib.hid fun X hX => by
  have := sameV_any a b X (by have := HZ.out; omega) (HIa.out.below (trans_b HB0.out hX)) (HIb.out.below (trans_b HB0.out hX)); rwa [hsb] at this
 have HE : Hid (ga = true → gb = true → (z == 0) = sb) := Lib.hid fun h1 h2 => by
  have k := alike w (hga.trans h1) (hgb.trans h2) HIa.out HIb.out
  rw [← hzz, ← hsb, Bool.eq_iff_iff]
  simp [k]
 clear hga hgb hzz hsb
 have hBW : Bel W0 W0 := Below.refl _ _
 clear hW0 hb0 h0a h0b
 apply wp_region_lit
 refine wpList_loadrun rfl _ _ rfl _ rfl _ (HLa.out _ hBW) ?_
 try simp only [LY]
 refine wpList_loadrun rfl _ _ rfl _ rfl _ (HLb.out _ hBW) ?_
 try simp only [LY]
 go_wp2_with fail
 obtain ⟨W1, hW1, hrow, hb1⟩ : ∃ W, (W0.alloc (.cells (a.cells ++ b.cells).toArray 31)) = W ∧ VRow W (some ⟨W0.heap.size, 0, none⟩) [a, b] ∧ Below W0.heap.size W0 W := ⟨_, rfl, rowL [a, b] (by rw [heap_alloc_new]; simp), (Below.refl _ _).alloc (Nat.le_refl _) _⟩
 show Calls _ _ _ (W0.alloc (.cells (a.cells ++ b.cells).toArray 31)) _
 rw [hW1]
 have hbW1 : Below w.heap.size w W1 := trans_b HB0.out hb1
 have hsz : VT.szL [a, b] ≤ 1000000000 := by
  simp only [VT.szL]
  have := HZ.out
  omega
 refine (beyond_any (some ⟨W0.heap.size, 0, none⟩) 2 [a, b] W1 hsz hrow (InL.of fun v hv => by
  simp only [List.mem_cons, List.not_mem_nil, or_false] at hv
  rcases hv with rfl | rfl
  ·exact HIa.out.below hbW1
  ·exact HIb.out.below hbW1)).mono ?_
 rintro e w2 ⟨bb, rfl, hb2⟩
 have hB2 : Bel W0 w2 := trans_b hb1 hb2
 clear hW1 hrow hb1 hbW1 hsz hb2
 cases bb with
 | true =>
  have HBF := Lib.hid (trans_b HB0.out hB2)
  clear hB2
  go_wp2
  go_ret
  exact ⟨rfl, HBF.out⟩
 | false =>
  go_upto_region 3 with fail
  apply wp_region_lit
  refine wpList_loadrun rfl _ _ rfl _ rfl _ (HLa.out _ hB2) ?_
  try simp only [LY]
  cases ga with
  | false =>
   go_upto_region 4 with (go_at_call 33; go_must (refine (HGA.out _ hB2).mono ?_); go_must (rintro e w3 ⟨rfl, hb3⟩; have hB3 : Bel W0 w3 := trans_b hB2 hb3; clear hb3))
   go_wp2_with (go_at_call 18; go_must (refine (HLI.out _ hB3).mono ?_); go_must (rintro e w9 ⟨rfl, hb9⟩; have HB9 := Lib.hid (trans_b HB0.out (trans_b hB3 hb9)); clear hb9))
   go_ret
   exact ⟨rfl, HB9.out⟩
  | true =>
   cases gb with
   | false =>
    go_upto_region 4 with (first | (go_at_call 33; refine (HGA.out _ hB2).mono ?_; rintro e w3 ⟨rfl, hb3⟩; have hB3 : Bel W0 w3 := trans_b hB2 hb3; clear hb3; obtain ⟨⟨d0, d1, d2, d3, d4, d5, d6, d7⟩, _⟩ := blk8 (HXb.out w3 hB3)) | (go_at_call 33; refine (HGB.out _ hB3).mono ?_; rintro e w4 ⟨rfl, hb4⟩; have hB4 : Bel W0 w4 := trans_b hB3 hb4; clear hb4 d0 d1 d2 d3 d4 d5 d6 d7))
    go_wp2_with (go_at_call 18; go_must (refine (HLI.out _ hB4).mono ?_); go_must (rintro e w9 ⟨rfl, hb9⟩; have HB9 := Lib.hid (trans_b HB0.out (trans_b hB4 hb9)); clear hb9))
    go_ret
    exact ⟨rfl, HB9.out⟩
   | true =>
    have HE2 : Hid ((z == 0) = sb) := Lib.hid (HE.out (by first | rfl | trivial) (by first | rfl | trivial))
    have he := HE2.out
    clear HE
    go_upto_region 5 with (first | (go_at_call 33; refine (HGA.out _ hB2).mono ?_; rintro e w3 ⟨rfl, hb3⟩; have hB3 : Bel W0 w3 := trans_b hB2 hb3; clear hb3; obtain ⟨⟨d0, d1, d2, d3, d4, d5, d6, d7⟩, _⟩ := blk8 (HXb.out w3 hB3)) | (go_at_call 33; refine (HGB.out _ hB3).mono ?_; rintro e w4 ⟨rfl, hb4⟩; have hB4 : Bel W0 w4 := trans_b hB3 hb4; clear hb4 d0 d1 d2 d3 d4 d5 d6 d7))
    refine wp_region_held_drew (S := fun X => Bel W0 X) (by kernel_rfl) (trans_b hB4 (Below.refl _ w4).drew) (fun hH => ?_)
    refine wpAnyH_take (i := 0) (oi := _) (v := a.agg) rfl (by kernel_rfl) (by kernel_rfl) (by kernel_rfl) (fun _ _ _ h => h) (yieldsIf_run (by rfl) _ _ rfl _ rfl _ (fun Y hY => HLa.out Y hY)) hH ?_
    try simp only [LY]
    refine wpAnyH_take (i := 1) (oi := _) (v := b.agg) rfl (by kernel_rfl) (by kernel_rfl) (by kernel_rfl) (fun _ _ _ h => h) (yieldsIf_run (by rfl) _ _ rfl _ rfl _ (fun Y hY => HLb.out Y hY)) hH ?_
    try simp only [LY]
    refine wpAnyH_take (i := 4) (oi := _) (v := a.agg) rfl (by kernel_rfl) (by kernel_rfl) (by kernel_rfl) (fun _ _ _ h => h) (yieldsIf_run (by rfl) _ _ rfl _ rfl _ (fun Y hY => HLa.out Y hY)) hH ?_
    try simp only [LY]
    refine wpAnyH_take (i := 5) (oi := _) (v := b.agg) rfl (by kernel_rfl) (by kernel_rfl) (by kernel_rfl) (fun _ _ _ h => h) (yieldsIf_run (by rfl) _ _ rfl _ rfl _ (fun Y hY => HLb.out Y hY)) hH ?_
    try simp only [LY]
    refine wpAnyH_ready (rs := [2]) (by kernel_rfl) (by simp) ?_
    refine AllReadyH.cons rfl (fun K hK => ?_) AllReadyH.nil
    go_simp
    go_at_call 23
    refine (HC.out _ hH).mono ?_
    rintro e w20 ⟨rfl, hb20⟩
    have hH9 : Bel W0 w20 := trans_b hH hb20
    go_wp2_with fail
    refine hK.out _ _ hH9 (fun hH => ?_)
    clear hK K
    try simp only [LY]
    refine wpAnyH_take (i := 3) (oi := _) (v := ?_) rfl (by kernel_rfl) (by kernel_rfl) (by kernel_rfl) (fun _ _ _ h => h) (Or.inl ⟨by rfl, ?_⟩) hH ?_
    rotate_left 1
    ·intro Y hSY
     skip
     go_simp
     with_reducible rfl
    try simp only [LY]
    refine wpAnyH_ready (rs := [6]) (by kernel_rfl) (by simp) ?_
    refine AllReadyH.cons rfl (fun K hK => ?_) AllReadyH.nil
    go_simp
    go_at_call 34
    refine (HS.out _ hH).mono ?_
    rintro e w20 ⟨rfl, hb20⟩
    have hH9 : Bel W0 w20 := trans_b hH hb20
    go_wp2_with fail
    refine hK.out _ _ hH9 (fun hH => ?_)
    clear hK K
    try simp only [LY]
    refine wpAnyH_take (i := 7) (oi := _) (v := ?_) rfl (by kernel_rfl) (by kernel_rfl) (by kernel_rfl) (fun _ _ _ h => h) (Or.inl ⟨by rfl, ?_⟩) hH ?_
    rotate_left 1
    ·intro Y hSY
     skip
     go_simp
     with_reducible rfl
    try simp only [LY]
    refine wpAnyH_take (i := 8) (oi := _) (v := ?_) rfl (by kernel_rfl) (by kernel_rfl) (by kernel_rfl) (fun _ _ _ h => h) (Or.inl ⟨by rfl, ?_⟩) hH ?_
    rotate_left 1
    ·intro Y hSY
     skip
     go_simp
     with_reducible rfl
    try simp only [LY]
    refine wpAnyH_ready (rs := [9]) (by kernel_rfl) (by simp) ?_
    refine AllReadyH.cons rfl (fun K hK => ?_) AllReadyH.nil
    go_simp
    go_at_call 18
    refine (HLI.out _ hH).mono ?_
    rintro e w20 ⟨rfl, hb20⟩
    have hH9 : Bel W0 w20 := trans_b hH hb20
    go_wp2_with fail
    refine hK.out _ _ hH9 (fun hH => ?_)
    clear hK K
    try simp only [LY]
    refine wpAnyH_take (i := 10) (oi := _) (v := ?_) rfl (by kernel_rfl) (by kernel_rfl) (by kernel_rfl) (fun _ _ _ h => h) (Or.inl ⟨by rfl, ?_⟩) hH ?_
    rotate_left 1
    ·intro Y hSY
     skip
     go_simp
     with_reducible rfl
    try simp only [LY]
    refine wpAnyH_take (i := 11) (oi := _) (v := ?_) rfl (by kernel_rfl) (by kernel_rfl) (by kernel_rfl) (fun _ _ _ h => h) (Or.inl ⟨by rfl, ?_⟩) hH ?_
    rotate_left 1
    ·intro Y hSY
     skip
     go_simp
     with_reducible rfl
    try simp only [LY]
    refine wpAnyH_done (by kernel_rfl) ?_ _
    have HH := Lib.hid (trans_b HB0.out hH)
    clear hH
    go_wp2
    go_ret
    exact ⟨rfl, HH.out⟩
theorem alikeWalk (a b : VT) (w : World) (hT : ∃ at_, Tabs at_ w) (hIa : In w a) (ha : a.sz ≤ 1048576) (hIb : In w b) (hb : b.sz ≤ 1048576) :
  Calls Tryz.prog 9 #[a.agg, b.agg] w fun e w' => e = .returned (.bool true) ∧ Below w.heap.size w w' := alikeW a b w hT hIa hIb (by omega)
end Go.Proofs.YtcpkjmpbpmeclaaGreatDoor
