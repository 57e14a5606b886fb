/- ValueTotal (printed by genXT.py). -/
import Derived.Test.YtcpkjmpbpmeclaaGreatDoorMXec
import Derived.Test.YtcpkjmpbpmeclaaGreatDoorMbc
import Derived.Test.YtcpkjmpbpmeclaaGreatDoorMbd
namespace Go.Proofs.YtcpkjmpbpmeclaaGreatDoor
open Go.RowKit
set_option maxRecDepth 100000
set_option linter.unusedVariables false
set_option linter.unusedSimpArgs false
set_option linter.unnecessarySimpa false

theorem row3 {W : World} {b : Nat} {A B C : VT} (h : W.heap[b]? = some (.cells (A.cells ++ (B.cells ++ C.cells)).toArray 31 (0, 0))) : VRow W (some ⟨b, 0, none⟩) [A, B, C] := by
  refine .inr ⟨b, 0, rfl, fun i hi j v hv => ?_⟩
  have hj : j < 8 := (List.getElem?_eq_some_iff.1 hv).1
  rw [cell_of_row _ _ _ _ _ _ h, List.getElem?_toArray]
  have e := flat_at [A, B, C] i hi j hj
  simp only [List.flatMap_cons, List.flatMap_nil, List.append_nil] at e
  rw [Nat.zero_add, e]
  exact hv
set_option maxHeartbeats 32000000 in
theorem totalW (a b c : VT) (w : World) (hT : ∃ at_, Tabs at_ w) (hIa : In w a) (hIb : In w b) (hIc : In w c) (hz : a.sz ≤ 300000000 ∧ b.sz ≤ 300000000 ∧ c.sz ≤ 300000000) :
    Calls Tryz.prog 8 #[a.agg, b.agg, c.agg] w fun e w' => e = .returned (.bool true) ∧ Below w.heap.size w w' := by
  obtain ⟨at_, hT⟩ := hT
  have HT := Lib.hid hT
  have HIA := Lib.hid hIa
  have HIB := Lib.hid hIb
  have HIC := Lib.hid hIc
  have HZ := Lib.hid hz
  clear hT hIa hIb hIc hz
  unfold VT.agg VT.mags VT.kids
  go_enter Tryz.func8, Tryz.ntmps8
  go_upto_region 1 with fail
  obtain ⟨W0, hW0, h0a, h0b, h0c, hb0⟩ : ∃ W, (((w.alloc (.cells a.arr 31)).alloc (.cells b.arr 31)).alloc (.cells c.arr 31)) = W ∧ W.heap[w.heap.size]? = some (.cells a.arr 31 (0, 0)) ∧ W.heap[w.heap.size + 1]? = some (.cells b.arr 31 (0, 0)) ∧ W.heap[w.heap.size + 1 + 1]? = some (.cells c.arr 31 (0, 0)) ∧ Below w.heap.size w W := by
    have old : ∀ (X : World) (o : Obj) (i : Nat), i < X.heap.size → (X.alloc o).heap[i]? = X.heap[i]? := fun X o i hi => Below.heap_alloc X o i hi
    have new : ∀ (X : World) (o : Obj) (i : Nat), i = X.heap.size → (X.alloc o).heap[i]? = some o := fun X o i hi => by rw [hi]; exact heap_alloc_new X o
    refine ⟨_, rfl, ?_, ?_, ?_, (((Below.refl _ w).alloc (Nat.le_refl _) _).alloc (by simp) _).alloc (by simp; omega) _⟩
    · rw [old _ _ _ (by simp <;> omega), old _ _ _ (by simp <;> omega), new _ _ _ rfl]
    · rw [old _ _ _ (by simp <;> omega), new _ _ _ (by simp)]
    · rw [new _ _ _ (by simp)]
  show Code.wp _ _ _ _ (((w.alloc (.cells a.arr 31)).alloc (.cells b.arr 31)).alloc (.cells c.arr 31))
  rw [hW0]
  have HB0 := Lib.hid hb0
  have HLA : Hid (∀ X, Bel W0 X → Sem.run Tryz.prog (loadVar 31 ⟨w.heap.size, 0, none⟩) X = .ok a.agg X) := Lib.hid fun X hX => box_load h0a hX
  have HLB : Hid (∀ X, Bel W0 X → Sem.run Tryz.prog (loadVar 31 ⟨w.heap.size + 1, 0, none⟩) X = .ok b.agg X) := Lib.hid fun X hX => box_load h0b hX
  have HLC : Hid (∀ X, Bel W0 X → Sem.run Tryz.prog (loadVar 31 ⟨w.heap.size + 1 + 1, 0, none⟩) X = .ok c.agg X) := Lib.hid fun X hX => box_load h0c hX
  have cmp2 : ∀ (p q : VT) (z : Int), p.sz ≤ 300000000 → q.sz ≤ 300000000 → In w p → In w q → cmpV p q = z → Hid (∀ X, Bel W0 X → Calls Tryz.prog 23 #[p.agg, q.agg] X fun e w' => e = .returned (.int .i64 z) ∧ Below X.heap.size X w') := fun p q z h1 h2 h3 h4 h5 => Lib.hid fun X hX => by
    have h := cmpV_any _ p q X (Nat.le_refl _) (by omega) (by omega) (HT.out.s.below (trans_b HB0.out hX)) (h3.below (trans_b HB0.out hX)) (h4.below (trans_b HB0.out hX))
    rwa [h5] at h
  obtain ⟨x, hx⟩ : ∃ x, cmpV a b = x := ⟨_, rfl⟩
  obtain ⟨y, hy⟩ : ∃ y, cmpV b c = y := ⟨_, rfl⟩
  obtain ⟨z, hzz⟩ : ∃ z, cmpV a c = z := ⟨_, rfl⟩
  have HXY := cmp2 a b x HZ.out.1 HZ.out.2.1 HIA.out HIB.out hx
  have HYZ := cmp2 b c y HZ.out.2.1 HZ.out.2.2 HIB.out HIC.out hy
  have HXZ := cmp2 a c z HZ.out.1 HZ.out.2.2 HIA.out HIC.out hzz
  have o1 := cmpV_ord a b
  have HYX := cmp2 b a (-x) HZ.out.2.1 HZ.out.1 HIB.out HIA.out (by have := o1.anti; omega)
  have HXX := cmp2 a a 0 HZ.out.1 HZ.out.1 HIA.out HIA.out (cmpV_self a)
  have HTRI : Hid (Tri x y z) := Lib.hid (by rw [← hx, ← hy, ← hzz]; exact cmpV_tri a b c)
  have hxb : -1 ≤ x ∧ x ≤ 1 := by rw [← hx]; exact ⟨o1.lo, o1.hi⟩
  have HCA : Hid (∀ X, Bel W0 X → Calls Tryz.prog 32 #[a.agg] X fun e w' => ∃ T : VT, e = .returned T.agg ∧ Hid (In w' T ∧ T.c = a.c) ∧ Below X.heap.size X w') := Lib.hid fun X hX =>
    (copyV_any a X (by have := HZ.out.1; omega) (HIA.out.below (trans_b HB0.out hX))).mono fun e w' ⟨T, h1, h2, h3⟩ => ⟨T, h1, Lib.hid ⟨h2.out.1.in_, h2.out.2⟩, h3⟩
  have HCC : Hid (∀ (X : World) (T : VT), Bel W0 X → In X T → T.c = a.c → Calls Tryz.prog 23 #[T.agg, a.agg] X fun e w' => e = .returned (.int .i64 0) ∧ Below X.heap.size X w') := Lib.hid fun X T hX hI hc => by
    have h := cmpV_any _ T a X (Nat.le_refl _) (by rw [sz_c hc]; have := HZ.out.1; omega) (by have := HZ.out.1; omega) (HT.out.s.below (trans_b HB0.out hX)) hI (HIA.out.below (trans_b HB0.out hX))
    rwa [cmpV_same (a' := a) (b' := a) hc rfl, cmpV_self] at h
  have HLI : Hid (∀ X, Bel W0 X → Calls Tryz.prog 18 #[] X fun e w' => e = .returned (.bool true) ∧ Below X.heap.size X w') := Lib.hid fun X hX => lives_any at_ X (HT.out.below (trans_b HB0.out hX))
  have HXB := Lib.hid hxb
  clear hxb
  have hBW : Bel W0 W0 := Below.refl _ _
  clear hW0 h0a h0b h0c hb0 cmp2 hx hy hzz o1
  apply wp_region_lit
  refine wpList_loadrun rfl _ _ rfl _ rfl _ (HLA.out _ hBW) ?_
  try simp only [List.getElem_toArray, List.getElem_cons_succ, List.getElem_cons_zero, Act.put, List.setIfInBounds_toArray, List.set_cons_zero, List.set_cons_succ]
  refine wpList_loadrun rfl _ _ rfl _ rfl _ (HLB.out _ hBW) ?_
  try simp only [List.getElem_toArray, List.getElem_cons_succ, List.getElem_cons_zero, Act.put, List.setIfInBounds_toArray, List.set_cons_zero, List.set_cons_succ]
  refine wpList_loadrun rfl _ _ rfl _ rfl _ (HLC.out _ hBW) ?_
  try simp only [List.getElem_toArray, List.getElem_cons_succ, List.getElem_cons_zero, Act.put, List.setIfInBounds_toArray, List.set_cons_zero, List.set_cons_succ]
  go_wp2_with fail
  obtain ⟨W1, hW1, hrow, hb1⟩ : ∃ W, (W0.alloc (.cells (a.cells ++ (b.cells ++ c.cells)).toArray 31)) = W ∧ VRow W (some ⟨W0.heap.size, 0, none⟩) [a, b, c] ∧ Below W0.heap.size W0 W := ⟨_, rfl, row3 (heap_alloc_new _ _), (Below.refl _ _).alloc (Nat.le_refl _) _⟩
  show Calls _ _ _ (W0.alloc (.cells (a.cells ++ (b.cells ++ c.cells)).toArray 31)) _
  rw [hW1]
  have hbW1 : Below w.heap.size w W1 := trans_b HB0.out hb1
  have hsz : VT.szL [a, b, c] ≤ 1000000000 := by
    simp only [VT.szL]
    have := HZ.out
    omega
  refine (beyond_any (some ⟨W0.heap.size, 0, none⟩) 3 [a, b, c] W1 hsz hrow (InL.of fun v hv => by
    simp only [List.mem_cons, List.not_mem_nil, or_false] at hv
    rcases hv with rfl | rfl | rfl
    · exact HIA.out.below hbW1
    · exact HIB.out.below hbW1
    · exact HIC.out.below hbW1)).mono ?_
  rintro e w2 ⟨bb, rfl, hb2⟩
  have hB2 : Bel W0 w2 := trans_b hb1 hb2
  clear hW1 hrow hb1 hbW1 hsz hb2
  cases bb with
  | true =>
    have HBF := Lib.hid (trans_b HB0.out hB2)
    clear hB2
    go_wp2
    go_ret
    exact ⟨rfl, HBF.out⟩
  | false =>
    go_upto_region 3 with fail
    apply wp_region_lit
    refine wpList_loadrun rfl _ _ rfl _ rfl _ (HLA.out _ hB2) ?_
    try simp only [List.getElem_toArray, List.getElem_cons_succ, List.getElem_cons_zero, Act.put, List.setIfInBounds_toArray, List.set_cons_zero, List.set_cons_succ]
    refine wpList_loadrun rfl _ _ rfl _ rfl _ (HLB.out _ hB2) ?_
    try simp only [List.getElem_toArray, List.getElem_cons_succ, List.getElem_cons_zero, Act.put, List.setIfInBounds_toArray, List.set_cons_zero, List.set_cons_succ]
    go_upto_region 4 with (go_at_call 23; go_must (refine (HXY.out _ hB2).mono ?_); go_must (rintro e w3 ⟨rfl, hb3⟩; have hB3 : Bel W0 w3 := trans_b hB2 hb3; clear hb3))
    apply wp_region_lit
    refine wpList_loadrun rfl _ _ rfl _ rfl _ (HLB.out _ hB3) ?_
    try simp only [List.getElem_toArray, List.getElem_cons_succ, List.getElem_cons_zero, Act.put, List.setIfInBounds_toArray, List.set_cons_zero, List.set_cons_succ]
    refine wpList_loadrun rfl _ _ rfl _ rfl _ (HLC.out _ hB3) ?_
    try simp only [List.getElem_toArray, List.getElem_cons_succ, List.getElem_cons_zero, Act.put, List.setIfInBounds_toArray, List.set_cons_zero, List.set_cons_succ]
    go_upto_region 5 with (go_at_call 23; go_must (refine (HYZ.out _ hB3).mono ?_); go_must (rintro e w4 ⟨rfl, hb4⟩; have hB4 : Bel W0 w4 := trans_b hB3 hb4; clear hb4))
    apply wp_region_lit
    refine wpList_loadrun rfl _ _ rfl _ rfl _ (HLA.out _ hB4) ?_
    try simp only [List.getElem_toArray, List.getElem_cons_succ, List.getElem_cons_zero, Act.put, List.setIfInBounds_toArray, List.set_cons_zero, List.set_cons_succ]
    refine wpList_loadrun rfl _ _ rfl _ rfl _ (HLC.out _ hB4) ?_
    try simp only [List.getElem_toArray, List.getElem_cons_succ, List.getElem_cons_zero, Act.put, List.setIfInBounds_toArray, List.set_cons_zero, List.set_cons_succ]
    go_upto_region 6 with (go_at_call 23; go_must (refine (HXZ.out _ hB4).mono ?_); go_must (rintro e w5 ⟨rfl, hb5⟩; have hB5 : Bel W0 w5 := trans_b hB4 hb5; clear hb5))
    have hxb := HXB.out
    have hx1 : decide (x < -1) = false := decide_eq_false (by omega)
    have hx2 : decide (1 < x) = false := decide_eq_false (by omega)
    have hxn : IntKind.i64.wrap (-x) = -x := by rw [IntKind.wrap_i64]; omega
    refine wp_region_held_drew (S := fun X => Bel W0 X) (by kernel_rfl) (trans_b hB5 (Below.refl _ w5).drew) (fun hH => ?_)
    refine wpAnyH_take (i := 0) (oi := _) (v := ?_) rfl (by kernel_rfl) (by kernel_rfl) (by kernel_rfl) (fun _ _ _ h => h) (Or.inl ⟨by rfl, ?_⟩) hH ?_
    rotate_left 1
    · intro Y hSY
      skip
      go_simp
      with_reducible rfl
    try simp only [List.getElem_toArray, List.getElem_cons_succ, List.getElem_cons_zero, Act.put, List.setIfInBounds_toArray, List.set_cons_zero, List.set_cons_succ]
    refine wpAnyH_take (i := 1) (oi := _) (v := ?_) rfl (by kernel_rfl) (by kernel_rfl) (by kernel_rfl) (fun _ _ _ h => h) (Or.inl ⟨by rfl, ?_⟩) hH ?_
    rotate_left 1
    · intro Y hSY
      skip
      go_simp
      with_reducible rfl
    try simp only [List.getElem_toArray, List.getElem_cons_succ, List.getElem_cons_zero, Act.put, List.setIfInBounds_toArray, List.set_cons_zero, List.set_cons_succ]
    refine wpAnyH_take (i := 2) (oi := _) (v := ?_) rfl (by kernel_rfl) (by kernel_rfl) (by kernel_rfl) (fun _ _ _ h => h) (Or.inl ⟨by rfl, ?_⟩) hH ?_
    rotate_left 1
    · intro Y hSY
      skip
      go_simp
      with_reducible rfl
    try simp only [List.getElem_toArray, List.getElem_cons_succ, List.getElem_cons_zero, Act.put, List.setIfInBounds_toArray, List.set_cons_zero, List.set_cons_succ]
    refine wpAnyH_take (i := 3) (oi := _) (v := ?_) rfl (by kernel_rfl) (by kernel_rfl) (by kernel_rfl) (fun _ _ _ h => h) (Or.inl ⟨by rfl, ?_⟩) hH ?_
    rotate_left 1
    · intro Y hSY
      skip
      go_simp
      with_reducible rfl
    try simp only [List.getElem_toArray, List.getElem_cons_succ, List.getElem_cons_zero, Act.put, List.setIfInBounds_toArray, List.set_cons_zero, List.set_cons_succ]
    refine wpAnyH_take (i := 4) (oi := _) (v := ?_) rfl (by kernel_rfl) (by kernel_rfl) (by kernel_rfl) (fun _ _ _ h => h) (Or.inl ⟨by rfl, ?_⟩) hH ?_
    rotate_left 1
    · intro Y hSY
      skip
      go_simp
      with_reducible rfl
    try simp only [List.getElem_toArray, List.getElem_cons_succ, List.getElem_cons_zero, Act.put, List.setIfInBounds_toArray, List.set_cons_zero, List.set_cons_succ]
    refine wpAnyH_take (i := 5) (oi := _) (v := ?_) rfl (by kernel_rfl) (by kernel_rfl) (by kernel_rfl) (fun _ _ _ h => h) (Or.inl ⟨by rfl, ?_⟩) hH ?_
    rotate_left 1
    · intro Y hSY
      skip
      go_simp
      with_reducible rfl
    try simp only [List.getElem_toArray, List.getElem_cons_succ, List.getElem_cons_zero, Act.put, List.setIfInBounds_toArray, List.set_cons_zero, List.set_cons_succ]
    refine wpAnyH_take (i := 6) (oi := _) (v := ?_) rfl (by kernel_rfl) (by kernel_rfl) (by kernel_rfl) (fun _ _ _ h => h) (Or.inl ⟨by rfl, ?_⟩) hH ?_
    rotate_left 1
    · intro Y hSY
      skip
      go_simp
      with_reducible rfl
    try simp only [List.getElem_toArray, List.getElem_cons_succ, List.getElem_cons_zero, Act.put, List.setIfInBounds_toArray, List.set_cons_zero, List.set_cons_succ]
    refine wpAnyH_take (i := 7) (oi := _) (v := b.agg) rfl (by kernel_rfl) (by kernel_rfl) (by kernel_rfl) (fun _ _ _ h => h) (yieldsIf_run (by rfl) _ _ rfl _ rfl _ (fun Y hY => HLB.out Y hY)) hH ?_
    try simp only [List.getElem_toArray, List.getElem_cons_succ, List.getElem_cons_zero, Act.put, List.setIfInBounds_toArray, List.set_cons_zero, List.set_cons_succ]
    refine wpAnyH_take (i := 8) (oi := _) (v := a.agg) rfl (by kernel_rfl) (by kernel_rfl) (by kernel_rfl) (fun _ _ _ h => h) (yieldsIf_run (by rfl) _ _ rfl _ rfl _ (fun Y hY => HLA.out Y hY)) hH ?_
    try simp only [List.getElem_toArray, List.getElem_cons_succ, List.getElem_cons_zero, Act.put, List.setIfInBounds_toArray, List.set_cons_zero, List.set_cons_succ]
    refine wpAnyH_take (i := 10) (oi := _) (v := ?_) rfl (by kernel_rfl) (by kernel_rfl) (by kernel_rfl) (fun _ _ _ h => h) (Or.inl ⟨by rfl, ?_⟩) hH ?_
    rotate_left 1
    · intro Y hSY
      skip
      go_simp
      with_reducible rfl
    try simp only [List.getElem_toArray, List.getElem_cons_succ, List.getElem_cons_zero, Act.put, List.setIfInBounds_toArray, List.set_cons_zero, List.set_cons_succ]
    refine wpAnyH_take (i := 11) (oi := _) (v := ?_) rfl (by kernel_rfl) (by kernel_rfl) (by kernel_rfl) (fun _ _ _ h => h) (Or.inl ⟨by rfl, ?_⟩) hH ?_
    rotate_left 1
    · intro Y hSY
      skip
      go_simp
      with_reducible rfl
    try simp only [List.getElem_toArray, List.getElem_cons_succ, List.getElem_cons_zero, Act.put, List.setIfInBounds_toArray, List.set_cons_zero, List.set_cons_succ]
    refine wpAnyH_ready (rs := [9]) (by kernel_rfl) (by simp) ?_
    refine AllReadyH.cons rfl (fun K hK => ?_) AllReadyH.nil
    go_simp
    go_at_call 23
    refine (HYX.out _ hH).mono ?_
    rintro e w20 ⟨rfl, hb20⟩
    have hH9 : Bel W0 w20 := trans_b hH hb20
    go_wp2_with fail
    refine hK.out _ _ hH9 (fun hH => ?_)
    clear hK K
    try simp only [List.getElem_toArray, List.getElem_cons_succ, List.getElem_cons_zero, Act.put, List.setIfInBounds_toArray, List.set_cons_zero, List.set_cons_succ]
    refine wpAnyH_take (i := 12) (oi := _) (v := ?_) rfl (by kernel_rfl) (by kernel_rfl) (by kernel_rfl) (fun _ _ _ h => h) (Or.inl ⟨by rfl, ?_⟩) hH ?_
    rotate_left 1
    · intro Y hSY
      skip
      go_simp
      with_reducible rfl
    try simp only [List.getElem_toArray, List.getElem_cons_succ, List.getElem_cons_zero, Act.put, List.setIfInBounds_toArray, List.set_cons_zero, List.set_cons_succ]
    refine wpAnyH_take (i := 13) (oi := _) (v := ?_) rfl (by kernel_rfl) (by kernel_rfl) (by kernel_rfl) (fun _ _ _ h => h) (Or.inl ⟨by rfl, ?_⟩) hH ?_
    rotate_left 1
    · intro Y hSY
      skip
      go_simp
      with_reducible rfl
    try simp only [List.getElem_toArray, List.getElem_cons_succ, List.getElem_cons_zero, Act.put, List.setIfInBounds_toArray, List.set_cons_zero, List.set_cons_succ]
    refine wpAnyH_take (i := 14) (oi := _) (v := ?_) rfl (by kernel_rfl) (by kernel_rfl) (by kernel_rfl) (fun _ _ _ h => h) (Or.inl ⟨by rfl, ?_⟩) hH ?_
    rotate_left 1
    · intro Y hSY
      skip
      go_simp
      with_reducible rfl
    try simp only [List.getElem_toArray, List.getElem_cons_succ, List.getElem_cons_zero, Act.put, List.setIfInBounds_toArray, List.set_cons_zero, List.set_cons_succ]
    refine wpAnyH_take (i := 15) (oi := _) (v := a.agg) rfl (by kernel_rfl) (by kernel_rfl) (by kernel_rfl) (fun _ _ _ h => h) (yieldsIf_run (by rfl) _ _ rfl _ rfl _ (fun Y hY => HLA.out Y hY)) hH ?_
    try simp only [List.getElem_toArray, List.getElem_cons_succ, List.getElem_cons_zero, Act.put, List.setIfInBounds_toArray, List.set_cons_zero, List.set_cons_succ]
    refine wpAnyH_take (i := 16) (oi := _) (v := a.agg) rfl (by kernel_rfl) (by kernel_rfl) (by kernel_rfl) (fun _ _ _ h => h) (yieldsIf_run (by rfl) _ _ rfl _ rfl _ (fun Y hY => HLA.out Y hY)) hH ?_
    try simp only [List.getElem_toArray, List.getElem_cons_succ, List.getElem_cons_zero, Act.put, List.setIfInBounds_toArray, List.set_cons_zero, List.set_cons_succ]
    refine wpAnyH_ready (rs := [17]) (by kernel_rfl) (by simp) ?_
    refine AllReadyH.cons rfl (fun K hK => ?_) AllReadyH.nil
    go_simp
    go_at_call 23
    refine (HXX.out _ hH).mono ?_
    rintro e w20 ⟨rfl, hb20⟩
    have hH9 : Bel W0 w20 := trans_b hH hb20
    go_wp2_with fail
    refine hK.out _ _ hH9 (fun hH => ?_)
    clear hK K
    try simp only [List.getElem_toArray, List.getElem_cons_succ, List.getElem_cons_zero, Act.put, List.setIfInBounds_toArray, List.set_cons_zero, List.set_cons_succ]
    refine wpAnyH_take (i := 18) (oi := _) (v := ?_) rfl (by kernel_rfl) (by kernel_rfl) (by kernel_rfl) (fun _ _ _ h => h) (Or.inl ⟨by rfl, ?_⟩) hH ?_
    rotate_left 1
    · intro Y hSY
      skip
      go_simp
      with_reducible rfl
    try simp only [List.getElem_toArray, List.getElem_cons_succ, List.getElem_cons_zero, Act.put, List.setIfInBounds_toArray, List.set_cons_zero, List.set_cons_succ]
    refine wpAnyH_take (i := 19) (oi := _) (v := ?_) rfl (by kernel_rfl) (by kernel_rfl) (by kernel_rfl) (fun _ _ _ h => h) (Or.inl ⟨by rfl, ?_⟩) hH ?_
    rotate_left 1
    · intro Y hSY
      skip
      go_simp
      with_reducible rfl
    try simp only [List.getElem_toArray, List.getElem_cons_succ, List.getElem_cons_zero, Act.put, List.setIfInBounds_toArray, List.set_cons_zero, List.set_cons_succ]
    refine wpAnyH_take (i := 20) (oi := _) (v := ?_) rfl (by kernel_rfl) (by kernel_rfl) (by kernel_rfl) (fun _ _ _ h => h) (Or.inl ⟨by rfl, ?_⟩) hH ?_
    rotate_left 1
    · intro Y hSY
      skip
      go_simp
      with_reducible rfl
    try simp only [List.getElem_toArray, List.getElem_cons_succ, List.getElem_cons_zero, Act.put, List.setIfInBounds_toArray, List.set_cons_zero, List.set_cons_succ]
    refine wpAnyH_take (i := 21) (oi := _) (v := a.agg) rfl (by kernel_rfl) (by kernel_rfl) (by kernel_rfl) (fun _ _ _ h => h) (yieldsIf_run (by rfl) _ _ rfl _ rfl _ (fun Y hY => HLA.out Y hY)) hH ?_
    try simp only [List.getElem_toArray, List.getElem_cons_succ, List.getElem_cons_zero, Act.put, List.setIfInBounds_toArray, List.set_cons_zero, List.set_cons_succ]
    refine wpAnyH_take (i := 23) (oi := _) (v := a.agg) rfl (by kernel_rfl) (by kernel_rfl) (by kernel_rfl) (fun _ _ _ h => h) (yieldsIf_run (by rfl) _ _ rfl _ rfl _ (fun Y hY => HLA.out Y hY)) hH ?_
    try simp only [List.getElem_toArray, List.getElem_cons_succ, List.getElem_cons_zero, Act.put, List.setIfInBounds_toArray, List.set_cons_zero, List.set_cons_succ]
    refine wpAnyH_ready (rs := [22]) (by kernel_rfl) (by simp) ?_
    refine AllReadyH.cons rfl (fun K hK => ?_) AllReadyH.nil
    go_simp
    go_at_call 32
    refine (HCA.out _ hH).mono ?_
    rintro e w20 ⟨T6, rfl, HT6, hb20⟩
    have hH9 : Bel W0 w20 := trans_b hH hb20
    go_wp2_with fail
    refine hK.out _ _ hH9 (fun hH => ?_)
    clear hK K
    try simp only [List.getElem_toArray, List.getElem_cons_succ, List.getElem_cons_zero, Act.put, List.setIfInBounds_toArray, List.set_cons_zero, List.set_cons_succ]
    refine wpAnyH_ready (rs := [24]) (by kernel_rfl) (by simp) ?_
    refine AllReadyH.cons rfl (fun K hK => ?_) AllReadyH.nil
    go_simp
    go_at_call 23
    refine (HCC.out _ T6 hH HT6.out.1 HT6.out.2).mono ?_
    rintro e w20 ⟨rfl, hb20⟩
    have hH9 : Bel W0 w20 := trans_b hH hb20
    go_wp2_with fail
    refine hK.out _ _ hH9 (fun hH => ?_)
    clear hK K
    try simp only [List.getElem_toArray, List.getElem_cons_succ, List.getElem_cons_zero, Act.put, List.setIfInBounds_toArray, List.set_cons_zero, List.set_cons_succ]
    refine wpAnyH_take (i := 25) (oi := _) (v := ?_) rfl (by kernel_rfl) (by kernel_rfl) (by kernel_rfl) (fun _ _ _ h => h) (Or.inl ⟨by rfl, ?_⟩) hH ?_
    rotate_left 1
    · intro Y hSY
      skip
      go_simp
      with_reducible rfl
    try simp only [List.getElem_toArray, List.getElem_cons_succ, List.getElem_cons_zero, Act.put, List.setIfInBounds_toArray, List.set_cons_zero, List.set_cons_succ]
    refine wpAnyH_take (i := 26) (oi := _) (v := ?_) rfl (by kernel_rfl) (by kernel_rfl) (by kernel_rfl) (fun _ _ _ h => h) (Or.inl ⟨by rfl, ?_⟩) hH ?_
    rotate_left 1
    · intro Y hSY
      skip
      go_simp
      with_reducible rfl
    try simp only [List.getElem_toArray, List.getElem_cons_succ, List.getElem_cons_zero, Act.put, List.setIfInBounds_toArray, List.set_cons_zero, List.set_cons_succ]
    refine wpAnyH_done (by kernel_rfl) ?_ _
    clear hx1 hx2 hxn hxb
    have HH6 := Lib.hid hH
    clear hH
    by_cases hx0 : x ≤ 0
    · have hxd : decide (x ≤ 0) = true := decide_eq_true hx0
      by_cases hy0 : y ≤ 0
      · have hyd : decide (y ≤ 0) = true := decide_eq_true hy0
        obtain ⟨hz0, hze⟩ := HTRI.out.1 hx0 hy0
        have hzd : decide (0 < z) = false := decide_eq_false (by omega)
        by_cases hz1 : z = 0
        · obtain ⟨rfl, rfl⟩ := hze hz1
          subst hz1
          clear hx0 hy0 hz0 hxd hyd hzd hze
          go_wp2_with (go_at_call 18; go_must (refine (HLI.out _ HH6.out).mono ?_); go_must (rintro e w9 ⟨rfl, hb9⟩; have HB9 := Lib.hid (trans_b HB0.out (trans_b HH6.out hb9)); clear hb9))
          go_ret
          exact ⟨rfl, HB9.out⟩
        · have hz1b : decide (z = 0) = false := decide_eq_false hz1
          have hz2b : (z == (0 : Int)) = false := beq_eq_false_iff_ne.2 hz1
          clear hze hz0
          go_wp2_with (go_at_call 18; go_must (refine (HLI.out _ HH6.out).mono ?_); go_must (rintro e w9 ⟨rfl, hb9⟩; have HB9 := Lib.hid (trans_b HB0.out (trans_b HH6.out hb9)); clear hb9))
          go_ret
          exact ⟨rfl, HB9.out⟩
      · have hyd : decide (y ≤ 0) = false := decide_eq_false hy0
        go_wp2_with (go_at_call 18; go_must (refine (HLI.out _ HH6.out).mono ?_); go_must (rintro e w9 ⟨rfl, hb9⟩; have HB9 := Lib.hid (trans_b HB0.out (trans_b HH6.out hb9)); clear hb9))
        go_ret
        exact ⟨rfl, HB9.out⟩
    · have hxd : decide (x ≤ 0) = false := decide_eq_false hx0
      go_wp2_with (go_at_call 18; go_must (refine (HLI.out _ HH6.out).mono ?_); go_must (rintro e w9 ⟨rfl, hb9⟩; have HB9 := Lib.hid (trans_b HB0.out (trans_b HH6.out hb9)); clear hb9))
      go_ret
      exact ⟨rfl, HB9.out⟩
end Go.Proofs.YtcpkjmpbpmeclaaGreatDoor
