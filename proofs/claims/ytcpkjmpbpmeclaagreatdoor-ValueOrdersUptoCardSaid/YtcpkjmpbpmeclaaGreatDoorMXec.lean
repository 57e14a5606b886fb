/- lives (printed by genXE.py). -/
import Derived.Test.YtcpkjmpbpmeclaaGreatDoorMba
import Derived.Test.YtcpkjmpbpmeclaaGreatDoorMat
namespace Go.Proofs.YtcpkjmpbpmeclaaGreatDoor
open Go.RowKit
set_option maxRecDepth 100000
set_option linter.unusedVariables false
set_option linter.unusedSimpArgs false
set_option linter.unnecessarySimpa false

abbrev VT.arr (T : VT) : Array Value := T.cells.toArray
/-- Four values one behind the other. -/
theorem row4 {W : World} {b : Nat} {A B C D : VT} (h : W.heap[b]? = some (.cells (A.cells ++ (B.cells ++ (C.cells ++ D.cells))).toArray 31 (0, 0))) : VRow W (some ⟨b, 0, none⟩) [A, B, C, D] := by
 refine .inr ⟨b, 0, rfl, fun i hi j v hv => ?_⟩
 have hj : j < 8 := (List.getElem?_eq_some_iff.1 hv).1
 rw [cell_of_row _ _ _ _ _ _ h, List.getElem?_toArray]
 have e := flat_at [A, B, C, D] i hi j hj
 simp only [List.flatMap_cons, List.flatMap_nil, List.append_nil] at e
 rw [Nat.zero_add, e]
 exact hv
theorem sz_of {T C : VT} {n : Nat} (h : T.c = C.c) (hn : C.sz = n) : T.sz = n := (sz_c h).trans hn
/-- A value that has been found, in a box of its own. -/
structure LV (W6 X : World) (p : Nat) (T : VT) : Prop where
 b : Below W6.heap.size W6 X
 h : X.heap[p]? = some (.cells T.arr 31 (0, 0))
 i : In X T
 c : T.c = wholeC 1
theorem setT {X : World} {p : Nat} {T : VT} (h : X.heap[p]? = some (.cells zeroV 31 (0, 0))) : (X.setCells p 0 T.arr.toList).heap[p]? = some (.cells T.arr 31 (0, 0)) := by
 obtain ⟨cs', h1, h2⟩ := setCells_row T.arr.toList 0 zeroV X h (Nat.le_refl _)
 have e : cs' = T.arr := Array.toList_inj.1 (by rw [h2]; simp [VT.arr, VT.cells])
 rw [e] at h1
 exact h1
theorem step_setT {ops : Array Oper} {o : Oper} {a : Act} {K : Act → World → Prop} {Q : Exit → Act → World → Prop} {E : Prop} {W : World} {p : Nat} {T : VT} (hgd : o.guard = none) (x y : Operand) (ho : o.op = .store 31 x y)
  (hx : a.eval x = .pointer (some ⟨p, 0, none⟩)) (hy : a.eval y = T.agg) (hS : W.heap[p]? = some (.cells zeroV 31 (0, 0))) (h : K (a.put o.dst undef) (W.setCells p 0 T.arr.toList)) :
  if Region.wanted o (yielded ops a.tmps) = true then Oper.wp Tryz.prog o a W K Q else E := by
 rw [if_pos (by simp [Region.wanted, hgd])]
 exact wp_store_mid 31 x y ho p 0 T.arr hx hy (there_row hS 0 _ (Nat.le_refl _)) size_value (cells_one T) h
theorem box_load {W X : World} {p : Nat} {T : VT} (h : W.heap[p]? = some (.cells T.arr 31 (0, 0))) (hb : Below W.heap.size W X) : Sem.run Tryz.prog (loadVar 31 ⟨p, 0, none⟩) X = .ok T.agg X :=
 run_loadVar_mid X p 0 31 T.cells _ (fun j v hv => keep1 hb (by
  rw [Nat.zero_add, cell_of_row _ _ _ _ _ _ h, List.getElem?_toArray]
  exact hv)) Tryz.underlying31 rfl size_value
/-- A region that ends in its normal way. -/
def AfterR (F : Act → World → Prop) : Exit → Act → World → Prop
 | .normal, a, w => F a w
 | _, _, _ => False
theorem wp_after2 {α β : Type} {P : Program} {c : Code} {Q : Exit → Act → World → Prop} {a : Act} {w : World} (A : α → β → Act) (F : α → β → World → Prop) (h : c.wp P (AfterR (fun a' W' => ∃ x y, a' = A x y ∧ F x y W')) a w)
  (hk : ∀ x y W', F x y W' → Q .normal (A x y) W') : c.wp P Q a w := Code.wp_mono (fun e a' W' hA => by
 cases e <;> try exact hA.elim
 obtain ⟨x, y, rfl, hF⟩ := hA
 exact hk x y W' hF) h
theorem wp_after1 {α : Type} {P : Program} {c : Code} {Q : Exit → Act → World → Prop} {a : Act} {w : World} (A : α → Act) (F : α → World → Prop) (h : c.wp P (AfterR (fun a' W' => ∃ x, a' = A x ∧ F x W')) a w)
  (hk : ∀ x W', F x W' → Q .normal (A x) W') : c.wp P Q a w := Code.wp_mono (fun e a' W' hA => by
 cases e <;> try exact hA.elim
 obtain ⟨x, rfl, hF⟩ := hA
 exact hk x W' hF) h
theorem row2 {W : World} {b : Nat} {A B : VT} (h : W.heap[b]? = some (.cells (A.cells ++ B.cells).toArray 31 (0, 0))) : VRow W (some ⟨b, 0, none⟩) [A, B] := by
 refine .inr ⟨b, 0, rfl, fun i hi j v hv => ?_⟩
 have hj : j < 8 := (List.getElem?_eq_some_iff.1 hv).1
 rw [cell_of_row _ _ _ _ _ _ h, List.getElem?_toArray]
 have e := flat_at [A, B] i hi j hj
 simp only [List.flatMap_cons, List.flatMap_nil, List.append_nil] at e
 rw [Nat.zero_add, e]
 exact hv
/-- The law's list, where it lies. -/
def listT (k : Nat) (T : VT) : VT := .mk 7 0 false none 0 [] 0 0 ⟨#[]⟩ (some ⟨k, 0, none⟩) 2 [T, zeroT]
theorem zeroT_in (W : World) : In W zeroT :=
 In.mk ⟨⟨⟨by show (-128 : Int) ≤ 0; omega, by show (0 : Int) ≤ 127; omega⟩, ⟨by show (0 : Int) ≤ 0; omega, by show (0 : Int) ≤ 18446744073709551615; omega⟩, ⟨by show (0 : Int) ≤ 0; omega, by show (0 : Int) ≤ 18446744073709551615; omega⟩, ⟨by show (-128 : Int) ≤ 0; omega, by show (0 : Int) ≤ 127; omega⟩, fun x hx => by cases hx⟩,
  Nat.le_refl _, .inl rfl, Nat.le_refl _, by show (0 : Nat) ≤ _; omega, .inl rfl, trivial, fun _ => rfl, fun _ => rfl⟩
theorem listT_in {k : Nat} {T : VT} {W : World} (h : VRow W (some ⟨k, 0, none⟩) [T, zeroT]) (hT : In W T) : In W (listT k T) :=
 In.mk ⟨⟨⟨by show (-128 : Int) ≤ 7; omega, by show (7 : Int) ≤ 127; omega⟩, ⟨by show (0 : Int) ≤ 0; omega, by show (0 : Int) ≤ 18446744073709551615; omega⟩, ⟨by show (0 : Int) ≤ 0; omega, by show (0 : Int) ≤ 18446744073709551615; omega⟩, ⟨by show (-128 : Int) ≤ 0; omega, by show (0 : Int) ≤ 127; omega⟩, fun x hx => by cases hx⟩,
  Nat.le_refl _, .inl rfl, Nat.le_refl _, by show (2 : Nat) ≤ _; omega, h, ⟨hT, zeroT_in W, trivial⟩, fun _ => rfl, fun e => by cases e⟩
def Bel (A X : World) : Prop := Below A.heap.size A X
theorem lv1 {W6 W8 w9 : World} {p : Nat} {T : VT} (hb : Bel W6 w9) (hp6 : W6.heap.size ≤ p) (hz : w9.heap[p]? = some (.cells zeroV 31 (0, 0))) (hM : Mine W8.heap.size w9 T) (hlt : p < W8.heap.size) (hc : T.c = wholeC 1) : LV W6 (w9.setCells p 0 T.arr.toList) p T :=
 ⟨below_setCells _ _ 0 _ hb hp6, setT hz, (hM.put p 0 hlt _).in_, hc⟩
theorem lv2 {W6 w9 Wa : World} {p : Nat} {T : VT} (hb : Bel W6 Wa) (hp6 : W6.heap.size ≤ p) (hz : Wa.heap[p]? = some (.cells zeroV 31 (0, 0))) (hI : In w9 T) (hba : Below w9.heap.size w9 Wa) (hp : w9.heap.size ≤ p) (hc : T.c = wholeC 1) : LV W6 (Wa.setCells p 0 T.arr.toList) p T :=
 ⟨below_setCells _ _ 0 _ hb hp6, setT hz, hI.below (below_setCells _ _ 0 _ hba hp), hc⟩
theorem new_zero (W : World) : ∃ Wa p, W.alloc (.cells zeroV 31) = Wa ∧ W.heap.size = p ∧ Wa.heap[p]? = some (.cells zeroV 31 (0, 0)) ∧ Below W.heap.size W Wa ∧ p < Wa.heap.size := ⟨_, _, rfl, rfl, heap_alloc_new _ _, (Below.refl _ _).alloc (Nat.le_refl _) _, by simp⟩
set_option maxHeartbeats 32000000 in
theorem lives_any (a : Nat → Addr) (w : World) (hT : Tabs a w) : Calls Tryz.prog 18 #[] w fun e w' => e = .returned (.bool true) ∧ Below w.heap.size w w' := by
 have HT := Lib.hid hT
 have HX1 : Hid (∀ W, Below w.heap.size w W → Calls Tryz.prog 51 #[.string ⟨#[98]⟩] W fun e w' => e = .returned (tB).agg ∧ Below W.heap.size W w') := Lib.hid fun W _ => text_any _ W
 have HX2 : Hid (∀ W, Below w.heap.size w W → Calls Tryz.prog 52 #[.int .u32 1] W fun e w' => ∃ T : VT, e = .returned T.agg ∧ Hid (In w' T ∧ T.c = wholeC 1) ∧ Below W.heap.size W w') := Lib.hid fun W _ => whole_any 1 (by decide) (by decide) W
 have HX3 : Hid (∀ W, Below w.heap.size w W → Calls Tryz.prog 51 #[.string ⟨#[97]⟩] W fun e w' => e = .returned (tA).agg ∧ Below W.heap.size W w') := Lib.hid fun W _ => text_any _ W
 have HX4 : Hid (∀ W, Below w.heap.size w W → Calls Tryz.prog 52 #[.int .u32 2] W fun e w' => ∃ T : VT, e = .returned T.agg ∧ Hid (In w' T ∧ T.c = wholeC 2) ∧ Below W.heap.size W w') := Lib.hid fun W _ => whole_any 2 (by decide) (by decide) W
 have HB0 := Lib.hid (Below.refl w.heap.size w)
 clear hT
 go_enter Tryz.func18, Tryz.ntmps18
 go_wp2_with (first
  | (go_at_call 51; with_reducible refine (HX1.out _ HB0.out).mono ?_; rintro e w1 ⟨rfl, hb1⟩; have HB1 := Lib.hid (trans_b HB0.out hb1); clear hb1)
  | (go_at_call 52; with_reducible refine (HX2.out _ HB1.out).mono ?_; rintro e w2 ⟨T2, rfl, HT2, hb2⟩; have HB2 := Lib.hid (trans_b HB1.out hb2); clear hb2)
  | (go_at_call 51; with_reducible refine (HX3.out _ HB2.out).mono ?_; rintro e w3 ⟨rfl, hb3⟩; have HB3 := Lib.hid (trans_b HB2.out hb3); have HT2 := Lib.hid (And.intro (HT2.out.1.below hb3) HT2.out.2); clear hb3)
  | (go_at_call 52; with_reducible refine (HX4.out _ HB3.out).mono ?_; rintro e w4 ⟨T4, rfl, HT4, hb4⟩; have HB4 := Lib.hid (trans_b HB3.out hb4); have HT2 := Lib.hid (And.intro (HT2.out.1.below hb4) HT2.out.2); clear hb4))
 obtain ⟨W4, hW4, hrow4, hb4⟩ : ∃ W, (w4.alloc (.cells (tB.cells ++ (T2.cells ++ (tA.cells ++ T4.cells))).toArray 31)) = W ∧ VRow W (some ⟨w4.heap.size, 0, none⟩) [tB, T2, tA, T4] ∧ Below w4.heap.size w4 W := ⟨_, rfl, row4 (heap_alloc_new _ _), (Below.refl _ _).alloc (Nat.le_refl _) _⟩
 show Calls _ _ _ (w4.alloc (.cells (tB.cells ++ (T2.cells ++ (tA.cells ++ T4.cells))).toArray 31)) _
 rw [hW4]
 have hbW4 : Below w.heap.size w W4 := trans_b HB4.out hb4
 have hl4 : [tB, T2, tA, T4].map VT.c = [tB, wholeC 1, tA, wholeC 2] := by
  show [tB.c, T2.c, tA.c, T4.c] = _
  rw [HT2.out.2, HT4.out.2, show tB.c = tB from textC_c _, show tA.c = tA from textC_c _]
 have hs4 : VT.szL [tB, T2, tA, T4] ≤ 1000000000 := by
  have e2 : T2.sz = 2 := sz_of (C := wholeC 1) (HT2.out.2.trans (wholeC_c 1).symm) rfl
  have e4 : T4.sz = 2 := sz_of (C := wholeC 2) (HT4.out.2.trans (wholeC_c 2).symm) rfl
  have eB : tB.sz = 2 := rfl
  have eA : tA.sz = 2 := rfl
  simp only [VT.szL, e2, e4, eB, eA]
  omega
 have hI4 : InL W4 [tB, T2, tA, T4] := InL.of fun v hv => by
  simp only [List.mem_cons, List.not_mem_nil, or_false] at hv
  rcases hv with rfl | rfl | rfl | rfl
  ·exact textC_in _ _
  ·exact HT2.out.1.below hb4
  ·exact textC_in _ _
  ·exact HT4.out.1.below hb4
 refine (map_any a (some ⟨w4.heap.size, 0, none⟩) 4 [tB, T2, tA, T4] W4 hs4 hrow4 hI4 (HT.out.below hbW4)).mono ?_
 rintro e w5 ⟨hMR, hb5⟩
 obtain ⟨Tm, rfl, hMm, hCm⟩ := lives_map hl4 hMR
 have HB5 := Lib.hid (trans_b hbW4 hb5)
 have HTM := Lib.hid (And.intro hMm.in_ hCm)
 clear hW4 hrow4 hb4 hbW4 hl4 hs4 hI4 hMR hMm hCm hb5 HT2 HT4
 unfold VT.agg VT.mags VT.kids
 go_upto_region 2 with fail
 obtain ⟨W6, hW6, hp6, hb6⟩ : ∃ W, (w5.alloc (.cells Tm.arr 31)) = W ∧ W.heap[w5.heap.size]? = some (.cells Tm.arr 31 (0, 0)) ∧ Below w5.heap.size w5 W := ⟨_, rfl, heap_alloc_new _ _, (Below.refl _ _).alloc (Nat.le_refl _) _⟩
 show Code.wp _ _ _ _ (w5.alloc (.cells Tm.arr 31))
 rw [hW6]
 have HB6 := Lib.hid (trans_b HB5.out hb6)
 have HP1 := Lib.hid hp6
 have HTM := Lib.hid (And.intro (HTM.out.1.below hb6) HTM.out.2)
 generalize w5.heap.size = p1 at *
 clear hW6 hp6 hb6
 have HF1 : Hid (∀ X, Below W6.heap.size W6 X → Calls Tryz.prog 36 #[Tm.agg, tB.agg] X fun e w' => ∃ Tv : VT, e = .returned (.tuple #[Tv.agg, .bool true]) ∧ Hid (Mine X.heap.size w' Tv ∧ Tv.c = wholeC 1) ∧ Below X.heap.size X w') := Lib.hid fun X hX => by
  have e1 : Tm.sz ≤ 1000000000 := by rw [sz_of (C := mC) (n := 9) (HTM.out.2.trans (by rw [VT.c_eq]; rfl)) rfl]; omega
  refine (find_any a Tm tB X e1 (by decide) (HTM.out.1.below hX) (textC_in _ _) (HT.out.below (trans_b HB6.out hX))).mono ?_
  rintro e w' ⟨hF, hb⟩
  obtain ⟨Tv, e2, h2, h3⟩ := find_yes HTM.out.2 (textC_c _) hF
  exact ⟨Tv, e2, Lib.hid ⟨h2, h3⟩, hb⟩
 have HF2 : Hid (∀ X, Below W6.heap.size W6 X → Calls Tryz.prog 36 #[Tm.agg, tC.agg] X fun e w' => e = .returned (.tuple #[zeroT.agg, .bool false]) ∧ Below X.heap.size X w') := Lib.hid fun X hX => by
  have e1 : Tm.sz ≤ 1000000000 := by rw [sz_of (C := mC) (n := 9) (HTM.out.2.trans (by rw [VT.c_eq]; rfl)) rfl]; omega
  refine (find_any a Tm tC X e1 (by decide) (HTM.out.1.below hX) (textC_in _ _) (HT.out.below (trans_b HB6.out hX))).mono ?_
  rintro e w' ⟨hF, hb⟩
  exact ⟨find_no HTM.out.2 (textC_c _) hF, hb⟩
 have HXC : Hid (∀ W, Below w.heap.size w W → Calls Tryz.prog 51 #[.string ⟨#[99]⟩] W fun e w' => e = .returned (tC).agg ∧ Below W.heap.size W w') := Lib.hid fun W _ => text_any _ W
 apply wp_after2 (F := fun p Tv W' => Hid (LV W6 W' p Tv))
 case h =>
  refine wp_region_held_drew (S := fun X => Bel W6 X) (by kernel_rfl) ((Below.refl _ W6).drew) (fun hH => ?_)
  refine wpAnyH_take (i := 0) (oi := _) (v := Tm.agg) rfl (by kernel_rfl) (by kernel_rfl) (by kernel_rfl) (fun _ _ _ h => h) (yieldsIf_run (by rfl) _ _ rfl _ rfl _ (fun Y hY => box_load HP1.out hY)) hH ?_
  try simp only [LY]
  refine wpAnyH_ready (rs := [1, 6]) (by kernel_rfl) (by simp) ?_
  refine AllReadyH.cons rfl (fun K hK => ?_) (AllReadyH.cons rfl (fun K hK => ?_) AllReadyH.nil)
  ·go_simp
   go_at_call 51
   refine (HX1.out _ (trans_b HB6.out hH)).mono ?_
   rintro e w8 ⟨rfl, hb8⟩
   have hH9 : Bel W6 w8 := trans_b hH hb8
   go_wp2_with fail
   refine hK.out _ _ hH9 (fun hH => ?_)
   clear hK K
   try simp only [LY]
   refine wpAnyH_ready (rs := [2, 6]) (by kernel_rfl) (by simp) ?_
   refine AllReadyH.cons rfl (fun K hK => ?_) (AllReadyH.cons rfl (fun K hK => ?_) AllReadyH.nil)
   ·go_simp
    go_at_call 36
    refine (HF1.out _ hH).mono ?_
    rintro e w9 ⟨Tv, rfl, HTV, hb9⟩
    have hH9 : Bel W6 w9 := trans_b hH hb9
    go_wp2_with fail
    refine hK.out _ _ hH9 (fun hH => ?_)
    clear hK K
    try simp only [LY]
    refine wpAnyH_take (i := 3) (oi := _) (v := ?_) rfl (by kernel_rfl) (by kernel_rfl) (by kernel_rfl) (fun _ _ _ h => h) (Or.inl ⟨by rfl, ?_⟩) hH ?_
    rotate_left 1
    ·intro Y hSY
     skip
     go_simp
     with_reducible rfl
    try simp only [LY]
    refine wpAnyH_take (i := 4) (oi := _) (v := ?_) rfl (by kernel_rfl) (by kernel_rfl) (by kernel_rfl) (fun _ _ _ h => h) (Or.inl ⟨by rfl, ?_⟩) hH ?_
    rotate_left 1
    ·intro Y hSY
     skip
     go_simp
     with_reducible rfl
    try simp only [LY]
    refine wpAnyH_take (i := 5) (oi := _) (v := ?_) rfl (by kernel_rfl) (by kernel_rfl) (by kernel_rfl) (fun _ _ _ h => h) (Or.inl ⟨by rfl, ?_⟩) hH ?_
    rotate_left 1
    ·intro Y hSY
     skip
     go_simp
     with_reducible rfl
    try simp only [LY]
    refine wpAnyH_ready (rs := [6]) (by kernel_rfl) (by simp) ?_
    refine AllReadyH.cons rfl (fun K hK => ?_) AllReadyH.nil
    go_simp
    obtain ⟨Wa, p, hWa, hp, hz, hba, hlt⟩ := new_zero (w9)
    have hHa : Bel W6 Wa := trans_b hH hba
    have hp6 : W6.heap.size ≤ p := by rw [← hp]; exact hH.size
    have hWa2 : (w9.alloc (.cells #[.int .i8 0, .int .u64 0, .bool false, .slice none 0 0, .int .u64 0, .int .i8 0, .string ⟨#[]⟩, .slice none 0 0] 31)) = Wa := hWa
    have hp2 : w9.heap.size = p := hp
    rw [hWa2, hp2]
    refine hK.out _ _ hHa (fun hH => ?_)
    clear hK K hWa hWa2
    try simp only [LY]
    refine wpAnyH_ready (rs := [7]) (by kernel_rfl) (by simp) ?_
    refine AllReadyH.cons rfl (fun K hK => ?_) AllReadyH.nil
    refine step_setT (p := p) (T := Tv) rfl (.tmp 3) (.tmp 23) rfl rfl rfl hz ?_
    have hLV : LV W6 (Wa.setCells p 0 Tv.arr.toList) p Tv := lv2 hH hp6 hz HTV.out.1.in_ hba (Nat.le_of_eq hp) HTV.out.2
    refine hK.out _ _ hLV.b (fun hH => ?_)
    clear hK K
    try simp only [LY]
    refine wpAnyH_take (i := 8) (oi := _) (v := ?_) rfl (by kernel_rfl) (by kernel_rfl) (by kernel_rfl) (fun _ _ _ h => h) (Or.inl ⟨by rfl, ?_⟩) hH ?_
    rotate_left 1
    ·intro Y hSY
     skip
     go_simp
     with_reducible rfl
    try simp only [LY]
    refine wpAnyH_done (by kernel_rfl) ?_ _
    exact ⟨p, Tv, rfl, Lib.hid hLV⟩
   ·go_simp
    obtain ⟨Wa, p, hWa, hp, hz, hba, hlt⟩ := new_zero (w8)
    have hHa : Bel W6 Wa := trans_b hH hba
    have hp6 : W6.heap.size ≤ p := by rw [← hp]; exact hH.size
    have hWa2 : (w8.alloc (.cells #[.int .i8 0, .int .u64 0, .bool false, .slice none 0 0, .int .u64 0, .int .i8 0, .string ⟨#[]⟩, .slice none 0 0] 31)) = Wa := hWa
    have hp2 : w8.heap.size = p := hp
    rw [hWa2, hp2]
    refine hK.out _ _ hHa (fun hH => ?_)
    clear hK K hWa hWa2
    try simp only [LY]
    refine wpAnyH_ready (rs := [2]) (by kernel_rfl) (by simp) ?_
    refine AllReadyH.cons rfl (fun K hK => ?_) AllReadyH.nil
    go_simp
    go_at_call 36
    refine (HF1.out _ hH).mono ?_
    rintro e w9 ⟨Tv, rfl, HTV, hb9⟩
    have hH9 : Bel W6 w9 := trans_b hH hb9
    have hz := (hb9.block _ (Array.getElem?_eq_some_iff.1 hz).1).trans hz
    go_wp2_with fail
    refine hK.out _ _ hH9 (fun hH => ?_)
    clear hK K
    try simp only [LY]
    refine wpAnyH_take (i := 3) (oi := _) (v := ?_) rfl (by kernel_rfl) (by kernel_rfl) (by kernel_rfl) (fun _ _ _ h => h) (Or.inl ⟨by rfl, ?_⟩) hH ?_
    rotate_left 1
    ·intro Y hSY
     skip
     go_simp
     with_reducible rfl
    try simp only [LY]
    refine wpAnyH_take (i := 4) (oi := _) (v := ?_) rfl (by kernel_rfl) (by kernel_rfl) (by kernel_rfl) (fun _ _ _ h => h) (Or.inl ⟨by rfl, ?_⟩) hH ?_
    rotate_left 1
    ·intro Y hSY
     skip
     go_simp
     with_reducible rfl
    try simp only [LY]
    refine wpAnyH_take (i := 5) (oi := _) (v := ?_) rfl (by kernel_rfl) (by kernel_rfl) (by kernel_rfl) (fun _ _ _ h => h) (Or.inl ⟨by rfl, ?_⟩) hH ?_
    rotate_left 1
    ·intro Y hSY
     skip
     go_simp
     with_reducible rfl
    try simp only [LY]
    refine wpAnyH_ready (rs := [7]) (by kernel_rfl) (by simp) ?_
    refine AllReadyH.cons rfl (fun K hK => ?_) AllReadyH.nil
    refine step_setT (p := p) (T := Tv) rfl (.tmp 3) (.tmp 23) rfl rfl rfl hz ?_
    have hLV : LV W6 (w9.setCells p 0 Tv.arr.toList) p Tv := lv1 hH hp6 hz HTV.out.1 hlt HTV.out.2
    refine hK.out _ _ hLV.b (fun hH => ?_)
    clear hK K
    try simp only [LY]
    refine wpAnyH_take (i := 8) (oi := _) (v := ?_) rfl (by kernel_rfl) (by kernel_rfl) (by kernel_rfl) (fun _ _ _ h => h) (Or.inl ⟨by rfl, ?_⟩) hH ?_
    rotate_left 1
    ·intro Y hSY
     skip
     go_simp
     with_reducible rfl
    try simp only [LY]
    refine wpAnyH_done (by kernel_rfl) ?_ _
    exact ⟨p, Tv, rfl, Lib.hid hLV⟩
  ·go_simp
   obtain ⟨Wa, p, hWa, hp, hz, hba, hlt⟩ := new_zero (W6.drew)
   have hHa : Bel W6 Wa := trans_b hH hba
   have hp6 : W6.heap.size ≤ p := by rw [← hp]; exact hH.size
   have hWa2 : ((W6.alloc (.cells #[.int .i8 0, .int .u64 0, .bool false, .slice none 0 0, .int .u64 0, .int .i8 0, .string ⟨#[]⟩, .slice none 0 0] 31)).drew) = Wa := hWa
   have hp2 : W6.heap.size = p := hp
   rw [hWa2, hp2]
   refine hK.out _ _ hHa (fun hH => ?_)
   clear hK K hWa hWa2
   try simp only [LY]
   refine wpAnyH_ready (rs := [1]) (by kernel_rfl) (by simp) ?_
   refine AllReadyH.cons rfl (fun K hK => ?_) AllReadyH.nil
   go_simp
   go_at_call 51
   refine (HX1.out _ (trans_b HB6.out hH)).mono ?_
   rintro e w8 ⟨rfl, hb8⟩
   have hH9 : Bel W6 w8 := trans_b hH hb8
   have hz := (hb8.block _ (Array.getElem?_eq_some_iff.1 hz).1).trans hz
   go_wp2_with fail
   refine hK.out _ _ hH9 (fun hH => ?_)
   clear hK K
   try simp only [LY]
   refine wpAnyH_ready (rs := [2]) (by kernel_rfl) (by simp) ?_
   refine AllReadyH.cons rfl (fun K hK => ?_) AllReadyH.nil
   go_simp
   go_at_call 36
   refine (HF1.out _ hH).mono ?_
   rintro e w9 ⟨Tv, rfl, HTV, hb9⟩
   have hH9 : Bel W6 w9 := trans_b hH hb9
   have hz := (hb9.block _ (Array.getElem?_eq_some_iff.1 hz).1).trans hz
   go_wp2_with fail
   refine hK.out _ _ hH9 (fun hH => ?_)
   clear hK K
   try simp only [LY]
   refine wpAnyH_take (i := 3) (oi := _) (v := ?_) rfl (by kernel_rfl) (by kernel_rfl) (by kernel_rfl) (fun _ _ _ h => h) (Or.inl ⟨by rfl, ?_⟩) hH ?_
   rotate_left 1
   ·intro Y hSY
    skip
    go_simp
    with_reducible rfl
   try simp only [LY]
   refine wpAnyH_take (i := 4) (oi := _) (v := ?_) rfl (by kernel_rfl) (by kernel_rfl) (by kernel_rfl) (fun _ _ _ h => h) (Or.inl ⟨by rfl, ?_⟩) hH ?_
   rotate_left 1
   ·intro Y hSY
    skip
    go_simp
    with_reducible rfl
   try simp only [LY]
   refine wpAnyH_take (i := 5) (oi := _) (v := ?_) rfl (by kernel_rfl) (by kernel_rfl) (by kernel_rfl) (fun _ _ _ h => h) (Or.inl ⟨by rfl, ?_⟩) hH ?_
   rotate_left 1
   ·intro Y hSY
    skip
    go_simp
    with_reducible rfl
   try simp only [LY]
   refine wpAnyH_ready (rs := [7]) (by kernel_rfl) (by simp) ?_
   refine AllReadyH.cons rfl (fun K hK => ?_) AllReadyH.nil
   refine step_setT (p := p) (T := Tv) rfl (.tmp 3) (.tmp 23) rfl rfl rfl hz ?_
   have hLV : LV W6 (w9.setCells p 0 Tv.arr.toList) p Tv := lv1 hH hp6 hz HTV.out.1 (Nat.lt_of_lt_of_le hlt hb8.size) HTV.out.2
   refine hK.out _ _ hLV.b (fun hH => ?_)
   clear hK K
   try simp only [LY]
   refine wpAnyH_take (i := 8) (oi := _) (v := ?_) rfl (by kernel_rfl) (by kernel_rfl) (by kernel_rfl) (fun _ _ _ h => h) (Or.inl ⟨by rfl, ?_⟩) hH ?_
   rotate_left 1
   ·intro Y hSY
    skip
    go_simp
    with_reducible rfl
   try simp only [LY]
   refine wpAnyH_done (by kernel_rfl) ?_ _
   exact ⟨p, Tv, rfl, Lib.hid hLV⟩
 case hk =>
  intro p2 Tv W7 HLV
  (try dsimp only)
  go_upto_region 3 with fail
  have HB7 := Lib.hid (trans_b HB6.out HLV.out.b)
  have HP7 : Hid (W7.heap[p1]? = some (.cells Tm.arr 31 (0, 0))) := Lib.hid ((HLV.out.b.block p1 (Array.getElem?_eq_some_iff.1 HP1.out).1).trans HP1.out)
  have HF3 : Hid (∀ X, Below W7.heap.size W7 X → Calls Tryz.prog 36 #[Tm.agg, tC.agg] X fun e w' => e = .returned (.tuple #[zeroT.agg, .bool false]) ∧ Below X.heap.size X w') := Lib.hid fun X hX => HF2.out X (trans_b HLV.out.b hX)
  apply wp_after1 (F := fun (p : Nat) W' => Hid (Bel W7 W'))
  case h =>
   refine wp_region_held_drew (S := fun X => Bel W7 X) (by kernel_rfl) ((Below.refl _ W7).drew) (fun hH => ?_)
   refine wpAnyH_take (i := 0) (oi := _) (v := Tm.agg) rfl (by kernel_rfl) (by kernel_rfl) (by kernel_rfl) (fun _ _ _ h => h) (yieldsIf_run (by rfl) _ _ rfl _ rfl _ (fun Y hY => box_load HP7.out hY)) hH ?_
   try simp only [LY]
   refine wpAnyH_ready (rs := [1, 6]) (by kernel_rfl) (by simp) ?_
   refine AllReadyH.cons rfl (fun K hK => ?_) (AllReadyH.cons rfl (fun K hK => ?_) AllReadyH.nil)
   ·go_simp
    go_at_call 51
    refine (HXC.out _ (trans_b HB7.out hH)).mono ?_
    rintro e w8 ⟨rfl, hb8⟩
    have hH9 : Bel W7 w8 := trans_b hH hb8
    go_wp2_with fail
    refine hK.out _ _ hH9 (fun hH => ?_)
    clear hK K
    try simp only [LY]
    refine wpAnyH_ready (rs := [2, 6]) (by kernel_rfl) (by simp) ?_
    refine AllReadyH.cons rfl (fun K hK => ?_) (AllReadyH.cons rfl (fun K hK => ?_) AllReadyH.nil)
    ·go_simp
     go_at_call 36
     refine (HF3.out _ hH).mono ?_
     rintro e w9 ⟨rfl, hb9⟩
     have hH9 : Bel W7 w9 := trans_b hH hb9
     go_wp2_with fail
     refine hK.out _ _ hH9 (fun hH => ?_)
     clear hK K
     try simp only [LY]
     refine wpAnyH_take (i := 3) (oi := _) (v := ?_) rfl (by kernel_rfl) (by kernel_rfl) (by kernel_rfl) (fun _ _ _ h => h) (Or.inl ⟨by rfl, ?_⟩) hH ?_
     rotate_left 1
     ·intro Y hSY
      skip
      go_simp
      with_reducible rfl
     try simp only [LY]
     refine wpAnyH_take (i := 4) (oi := _) (v := ?_) rfl (by kernel_rfl) (by kernel_rfl) (by kernel_rfl) (fun _ _ _ h => h) (Or.inl ⟨by rfl, ?_⟩) hH ?_
     rotate_left 1
     ·intro Y hSY
      skip
      go_simp
      with_reducible rfl
     try simp only [LY]
     refine wpAnyH_take (i := 5) (oi := _) (v := ?_) rfl (by kernel_rfl) (by kernel_rfl) (by kernel_rfl) (fun _ _ _ h => h) (Or.inl ⟨by rfl, ?_⟩) hH ?_
     rotate_left 1
     ·intro Y hSY
      skip
      go_simp
      with_reducible rfl
     try simp only [LY]
     refine wpAnyH_ready (rs := [6]) (by kernel_rfl) (by simp) ?_
     refine AllReadyH.cons rfl (fun K hK => ?_) AllReadyH.nil
     go_simp
     obtain ⟨Wa, p, hWa, hp, hz, hba, hlt⟩ := new_zero (w9)
     have hHa : Bel W7 Wa := trans_b hH hba
     have hp6 : W7.heap.size ≤ p := by rw [← hp]; exact hH.size
     have hWa2 : (w9.alloc (.cells #[.int .i8 0, .int .u64 0, .bool false, .slice none 0 0, .int .u64 0, .int .i8 0, .string ⟨#[]⟩, .slice none 0 0] 31)) = Wa := hWa
     have hp2 : w9.heap.size = p := hp
     rw [hWa2, hp2]
     refine hK.out _ _ hHa (fun hH => ?_)
     clear hK K hWa hWa2
     try simp only [LY]
     refine wpAnyH_ready (rs := [7]) (by kernel_rfl) (by simp) ?_
     refine AllReadyH.cons rfl (fun K hK => ?_) AllReadyH.nil
     refine step_setT (p := p) (T := zeroT) rfl (.tmp 5) (.tmp 29) rfl rfl rfl hz ?_
     have hLV : Bel W7 (Wa.setCells p 0 zeroT.arr.toList) := below_setCells _ _ 0 _ hH hp6
     refine hK.out _ _ hLV (fun hH => ?_)
     clear hK K
     try simp only [LY]
     refine wpAnyH_take (i := 8) (oi := _) (v := ?_) rfl (by kernel_rfl) (by kernel_rfl) (by kernel_rfl) (fun _ _ _ h => h) (Or.inl ⟨by rfl, ?_⟩) hH ?_
     rotate_left 1
     ·intro Y hSY
      skip
      go_simp
      with_reducible rfl
     try simp only [LY]
     refine wpAnyH_done (by kernel_rfl) ?_ _
     exact ⟨p, rfl, Lib.hid hLV⟩
    ·go_simp
     obtain ⟨Wa, p, hWa, hp, hz, hba, hlt⟩ := new_zero (w8)
     have hHa : Bel W7 Wa := trans_b hH hba
     have hp6 : W7.heap.size ≤ p := by rw [← hp]; exact hH.size
     have hWa2 : (w8.alloc (.cells #[.int .i8 0, .int .u64 0, .bool false, .slice none 0 0, .int .u64 0, .int .i8 0, .string ⟨#[]⟩, .slice none 0 0] 31)) = Wa := hWa
     have hp2 : w8.heap.size = p := hp
     rw [hWa2, hp2]
     refine hK.out _ _ hHa (fun hH => ?_)
     clear hK K hWa hWa2
     try simp only [LY]
     refine wpAnyH_ready (rs := [2]) (by kernel_rfl) (by simp) ?_
     refine AllReadyH.cons rfl (fun K hK => ?_) AllReadyH.nil
     go_simp
     go_at_call 36
     refine (HF3.out _ hH).mono ?_
     rintro e w9 ⟨rfl, hb9⟩
     have hH9 : Bel W7 w9 := trans_b hH hb9
     have hz := (hb9.block _ (Array.getElem?_eq_some_iff.1 hz).1).trans hz
     go_wp2_with fail
     refine hK.out _ _ hH9 (fun hH => ?_)
     clear hK K
     try simp only [LY]
     refine wpAnyH_take (i := 3) (oi := _) (v := ?_) rfl (by kernel_rfl) (by kernel_rfl) (by kernel_rfl) (fun _ _ _ h => h) (Or.inl ⟨by rfl, ?_⟩) hH ?_
     rotate_left 1
     ·intro Y hSY
      skip
      go_simp
      with_reducible rfl
     try simp only [LY]
     refine wpAnyH_take (i := 4) (oi := _) (v := ?_) rfl (by kernel_rfl) (by kernel_rfl) (by kernel_rfl) (fun _ _ _ h => h) (Or.inl ⟨by rfl, ?_⟩) hH ?_
     rotate_left 1
     ·intro Y hSY
      skip
      go_simp
      with_reducible rfl
     try simp only [LY]
     refine wpAnyH_take (i := 5) (oi := _) (v := ?_) rfl (by kernel_rfl) (by kernel_rfl) (by kernel_rfl) (fun _ _ _ h => h) (Or.inl ⟨by rfl, ?_⟩) hH ?_
     rotate_left 1
     ·intro Y hSY
      skip
      go_simp
      with_reducible rfl
     try simp only [LY]
     refine wpAnyH_ready (rs := [7]) (by kernel_rfl) (by simp) ?_
     refine AllReadyH.cons rfl (fun K hK => ?_) AllReadyH.nil
     refine step_setT (p := p) (T := zeroT) rfl (.tmp 5) (.tmp 29) rfl rfl rfl hz ?_
     have hLV : Bel W7 (w9.setCells p 0 zeroT.arr.toList) := below_setCells _ _ 0 _ hH hp6
     refine hK.out _ _ hLV (fun hH => ?_)
     clear hK K
     try simp only [LY]
     refine wpAnyH_take (i := 8) (oi := _) (v := ?_) rfl (by kernel_rfl) (by kernel_rfl) (by kernel_rfl) (fun _ _ _ h => h) (Or.inl ⟨by rfl, ?_⟩) hH ?_
     rotate_left 1
     ·intro Y hSY
      skip
      go_simp
      with_reducible rfl
     try simp only [LY]
     refine wpAnyH_done (by kernel_rfl) ?_ _
     exact ⟨p, rfl, Lib.hid hLV⟩
   ·go_simp
    obtain ⟨Wa, p, hWa, hp, hz, hba, hlt⟩ := new_zero (W7.drew)
    have hHa : Bel W7 Wa := trans_b hH hba
    have hp6 : W7.heap.size ≤ p := by rw [← hp]; exact hH.size
    have hWa2 : ((W7.alloc (.cells #[.int .i8 0, .int .u64 0, .bool false, .slice none 0 0, .int .u64 0, .int .i8 0, .string ⟨#[]⟩, .slice none 0 0] 31)).drew) = Wa := hWa
    have hp2 : W7.heap.size = p := hp
    rw [hWa2, hp2]
    refine hK.out _ _ hHa (fun hH => ?_)
    clear hK K hWa hWa2
    try simp only [LY]
    refine wpAnyH_ready (rs := [1]) (by kernel_rfl) (by simp) ?_
    refine AllReadyH.cons rfl (fun K hK => ?_) AllReadyH.nil
    go_simp
    go_at_call 51
    refine (HXC.out _ (trans_b HB7.out hH)).mono ?_
    rintro e w8 ⟨rfl, hb8⟩
    have hH9 : Bel W7 w8 := trans_b hH hb8
    have hz := (hb8.block _ (Array.getElem?_eq_some_iff.1 hz).1).trans hz
    go_wp2_with fail
    refine hK.out _ _ hH9 (fun hH => ?_)
    clear hK K
    try simp only [LY]
    refine wpAnyH_ready (rs := [2]) (by kernel_rfl) (by simp) ?_
    refine AllReadyH.cons rfl (fun K hK => ?_) AllReadyH.nil
    go_simp
    go_at_call 36
    refine (HF3.out _ hH).mono ?_
    rintro e w9 ⟨rfl, hb9⟩
    have hH9 : Bel W7 w9 := trans_b hH hb9
    have hz := (hb9.block _ (Array.getElem?_eq_some_iff.1 hz).1).trans hz
    go_wp2_with fail
    refine hK.out _ _ hH9 (fun hH => ?_)
    clear hK K
    try simp only [LY]
    refine wpAnyH_take (i := 3) (oi := _) (v := ?_) rfl (by kernel_rfl) (by kernel_rfl) (by kernel_rfl) (fun _ _ _ h => h) (Or.inl ⟨by rfl, ?_⟩) hH ?_
    rotate_left 1
    ·intro Y hSY
     skip
     go_simp
     with_reducible rfl
    try simp only [LY]
    refine wpAnyH_take (i := 4) (oi := _) (v := ?_) rfl (by kernel_rfl) (by kernel_rfl) (by kernel_rfl) (fun _ _ _ h => h) (Or.inl ⟨by rfl, ?_⟩) hH ?_
    rotate_left 1
    ·intro Y hSY
     skip
     go_simp
     with_reducible rfl
    try simp only [LY]
    refine wpAnyH_take (i := 5) (oi := _) (v := ?_) rfl (by kernel_rfl) (by kernel_rfl) (by kernel_rfl) (fun _ _ _ h => h) (Or.inl ⟨by rfl, ?_⟩) hH ?_
    rotate_left 1
    ·intro Y hSY
     skip
     go_simp
     with_reducible rfl
    try simp only [LY]
    refine wpAnyH_ready (rs := [7]) (by kernel_rfl) (by simp) ?_
    refine AllReadyH.cons rfl (fun K hK => ?_) AllReadyH.nil
    refine step_setT (p := p) (T := zeroT) rfl (.tmp 5) (.tmp 29) rfl rfl rfl hz ?_
    have hLV : Bel W7 (w9.setCells p 0 zeroT.arr.toList) := below_setCells _ _ 0 _ hH hp6
    refine hK.out _ _ hLV (fun hH => ?_)
    clear hK K
    try simp only [LY]
    refine wpAnyH_take (i := 8) (oi := _) (v := ?_) rfl (by kernel_rfl) (by kernel_rfl) (by kernel_rfl) (fun _ _ _ h => h) (Or.inl ⟨by rfl, ?_⟩) hH ?_
    rotate_left 1
    ·intro Y hSY
     skip
     go_simp
     with_reducible rfl
    try simp only [LY]
    refine wpAnyH_done (by kernel_rfl) ?_ _
    exact ⟨p, rfl, Lib.hid hLV⟩
  case hk =>
   intro p3 W8 HB8'
   (try dsimp only)
   have HB8 := Lib.hid (trans_b HB7.out HB8'.out)
   have HP8 : Hid (W8.heap[p1]? = some (.cells Tm.arr 31 (0, 0))) := Lib.hid ((HB8'.out.block p1 (Array.getElem?_eq_some_iff.1 HP7.out).1).trans HP7.out)
   have HLV8 : Hid (W8.heap[p2]? = some (.cells Tv.arr 31 (0, 0)) ∧ In W8 Tv ∧ Tv.c = wholeC 1) := Lib.hid ⟨(HB8'.out.block p2 (Array.getElem?_eq_some_iff.1 HLV.out.h).1).trans HLV.out.h, HLV.out.i.below HB8'.out, HLV.out.c⟩
   have HTM8 := Lib.hid (And.intro (HTM.out.1.below (trans_b HLV.out.b HB8'.out)) HTM.out.2)
   clear HF1 HF2 HF3 HLV HB8' HP1 HP7 HTM HB7 HB6
   go_wp2_with (go_at_call 52; with_reducible refine (HX2.out _ HB8.out).mono ?_; rintro e w9 ⟨T5, rfl, HT5, hb9⟩; have HB9 := Lib.hid (trans_b HB8.out hb9); have HD9 := Lib.hid hb9; clear hb9)
   obtain ⟨W9, hW9, hrow9, hb9⟩ : ∃ W, (w9.alloc (.cells (T5.cells ++ zeroT.cells).toArray 31)) = W ∧ VRow W (some ⟨w9.heap.size, 0, none⟩) [T5, zeroT] ∧ Below w9.heap.size w9 W := ⟨_, rfl, row2 (heap_alloc_new _ _), (Below.refl _ _).alloc (Nat.le_refl _) _⟩
   show Calls _ _ _ (w9.alloc (.cells (T5.cells ++ zeroT.cells).toArray 31)) _
   rw [hW9]
   have hIo := listT_in (k := w9.heap.size) hrow9 (HT5.out.1.below hb9)
   have hco : (listT w9.heap.size T5).c = oC.c := by
    rw [VT.c_eq, VT.c_eq oC]
    show VT.mk 7 0 false none 0 [] 0 0 ⟨#[]⟩ none 0 [T5.c, zeroT.c] = VT.mk 7 0 false none 0 [] 0 0 ⟨#[]⟩ none 0 [(wholeC 1).c, zeroT.c]
    rw [HT5.out.2, wholeC_c]
   refine (check_any a (listT w9.heap.size T5) W9 (by rw [sz_of (n := 4) hco rfl]; omega) hIo (HT.out.below (trans_b HB9.out hb9))).mono ?_
   rintro e w10 ⟨hCR, hb10⟩
   obtain ⟨bo, rfl, hbo⟩ : ∃ bo, e = .returned (.iface 87 (.pointer (some ⟨bo, 0, none⟩))) ∧ IsF a 1 0 (strU (pathB [1])) bo w10 := by
    rcases hCR with ⟨h, _⟩ | ⟨k, p, b, h, h1, h2, he, _, hF⟩
    ·rw [checkV_same hco, oC_check] at h; cases h
    ·rw [checkV_same hco, oC_check] at h
     injection h with h
     injection h with hk hp
     have hk : k = 1 := by omega
     subst hk
     subst hp
     exact ⟨b, he, hF⟩
   have HB10 := Lib.hid (trans_b (trans_b HB9.out hb9) hb10)
   have HD10 := Lib.hid (trans_b (trans_b HD9.out hb9) hb10)
   have HBO := Lib.hid hbo
   have HX0 : Hid (∀ W, Below w.heap.size w W → Calls Tryz.prog 52 #[.int .u32 0] W fun e w' => ∃ T : VT, e = .returned T.agg ∧ Hid (In w' T ∧ T.c = wholeC 0) ∧ Below W.heap.size W w') := Lib.hid fun W _ => whole0_any W
   clear hW9 hrow9 hb9 hIo hco hCR hb10 hbo HT5 HB9 HD9
   go_wp2_with (first
    | (go_at_call 52; with_reducible refine (HX0.out _ HB10.out).mono ?_; rintro e w11 ⟨S1, rfl, HS1, hb11⟩; have HB11 := Lib.hid (trans_b HB10.out hb11); have HD11 := Lib.hid hb11; clear hb11)
    | (go_at_call 52; with_reducible refine (HX2.out _ HB11.out).mono ?_; rintro e w12 ⟨S2, rfl, HS2, hb12⟩; have HB12 := Lib.hid (trans_b HB11.out hb12); have HD12 := Lib.hid (trans_b HD11.out hb12); have HE12 := Lib.hid hb12; clear hb12)
    | (go_at_call 52; with_reducible refine (HX0.out _ HB12.out).mono ?_; rintro e w13 ⟨S3, rfl, HS3, hb13⟩; have HB13 := Lib.hid (trans_b HB12.out hb13); have HD13 := Lib.hid (trans_b HD12.out hb13); have HE13 := Lib.hid hb13; clear hb13)
    | (go_at_call 52; with_reducible refine (HX4.out _ HB13.out).mono ?_; rintro e w14 ⟨S4, rfl, HS4, hb14⟩; have HB14 := Lib.hid (trans_b HB13.out hb14); have HD14 := Lib.hid (trans_b HD13.out hb14); have HE14 := Lib.hid hb14; clear hb14))
   obtain ⟨W14, hW14, hrow14, hb14⟩ : ∃ W, (w14.alloc (.cells (S1.cells ++ (S2.cells ++ (S3.cells ++ S4.cells))).toArray 31)) = W ∧ VRow W (some ⟨w14.heap.size, 0, none⟩) [S1, S2, S3, S4] ∧ Below w14.heap.size w14 W := ⟨_, rfl, row4 (heap_alloc_new _ _), (Below.refl _ _).alloc (Nat.le_refl _) _⟩
   show Calls _ _ _ (w14.alloc (.cells (S1.cells ++ (S2.cells ++ (S3.cells ++ S4.cells))).toArray 31)) _
   rw [hW14]
   have hl14 : [S1, S2, S3, S4].map VT.c = [wholeC 0, wholeC 1, wholeC 0, wholeC 2] := by
    show [S1.c, S2.c, S3.c, S4.c] = _
    rw [HS1.out.2, HS2.out.2, HS3.out.2, HS4.out.2]
   have hs14 : VT.szL [S1, S2, S3, S4] ≤ 1000000000 := by
    have e1 : S1.sz = 1 := sz_of (C := wholeC 0) (HS1.out.2.trans (wholeC_c 0).symm) rfl
    have e2 : S2.sz = 2 := sz_of (C := wholeC 1) (HS2.out.2.trans (wholeC_c 1).symm) rfl
    have e3 : S3.sz = 1 := sz_of (C := wholeC 0) (HS3.out.2.trans (wholeC_c 0).symm) rfl
    have e4 : S4.sz = 2 := sz_of (C := wholeC 2) (HS4.out.2.trans (wholeC_c 2).symm) rfl
    simp only [VT.szL, e1, e2, e3, e4]
    omega
   have hI14 : InL W14 [S1, S2, S3, S4] := InL.of fun v hv => by
    simp only [List.mem_cons, List.not_mem_nil, or_false] at hv
    rcases hv with rfl | rfl | rfl | rfl
    ·exact (HS1.out.1.below (trans_b HE12.out (trans_b HE13.out HE14.out))).below hb14
    ·exact (HS2.out.1.below (trans_b HE13.out HE14.out)).below hb14
    ·exact (HS3.out.1.below HE14.out).below hb14
    ·exact HS4.out.1.below hb14
   refine (map_any a (some ⟨w14.heap.size, 0, none⟩) 4 [S1, S2, S3, S4] W14 hs14 hrow14 hI14 (HT.out.below (trans_b HB14.out hb14))).mono ?_
   rintro e w15 ⟨hMR, hb15⟩
   obtain ⟨bt, rfl, -, hbt⟩ := lives_twice hl14 hMR
   have HB15 := Lib.hid (trans_b (trans_b HB14.out hb14) hb15)
   have HD15 := Lib.hid (trans_b HD10.out (trans_b (trans_b HD14.out hb14) hb15))
   have HE15 := Lib.hid (trans_b (trans_b HD14.out hb14) hb15)
   have HBT := Lib.hid hbt
   clear hW14 hrow14 hb14 hl14 hs14 hI14 hMR hb15 hbt HS1 HS2 HS3 HS4 HE12 HE13 HE14 HB11 HB12 HB13 HB14 HD11 HD12 HD13 HD14
   go_upto_region 6 with fail
   obtain ⟨W16, hW16, hb16⟩ : ∃ W, (w15.alloc (.cells zeroV 31)) = W ∧ Below w15.heap.size w15 W := ⟨_, rfl, (Below.refl _ _).alloc (Nat.le_refl _) _⟩
   show Code.wp _ _ _ _ (w15.alloc (.cells zeroV 31))
   rw [hW16]
   have HB16 := Lib.hid (trans_b HB15.out hb16)
   have HD16 := Lib.hid (trans_b HD15.out hb16)
   have HBO16 := Lib.hid ((HBO.out.below HE15.out).below hb16)
   have HBT16 := Lib.hid (HBT.out.below hb16)
   have hTM16 := HTM8.out.1.below HD16.out
   have HP16 : Hid (W16.heap[p1]? = some (.cells Tm.arr 31 (0, 0))) := Lib.hid ((HD16.out.block p1 (Array.getElem?_eq_some_iff.1 HP8.out).1).trans HP8.out)
   have HV16 : Hid (W16.heap[p2]? = some (.cells Tv.arr 31 (0, 0))) := Lib.hid ((HD16.out.block p2 (Array.getElem?_eq_some_iff.1 HLV8.out.1).1).trans HLV8.out.1)
   have HTV16 := Lib.hid (And.intro (HLV8.out.2.1.below HD16.out) HLV8.out.2.2)
   have hml : Tm.l.map VT.c = [tA, wholeC 2, tB, wholeC 1] := by rw [← c_l, HTM8.out.2]; rfl
   have hm4 : Tm.l.length = 4 := by have := congrArg List.length hml; simpa using this
   obtain ⟨gb, go, hgA, hg6⟩ : ∃ gb go, Tm.A = some ⟨gb, go, none⟩ ∧ W16.cell? ⟨gb, go + 6, none⟩ = some (.string ⟨#[97]⟩) := by
    obtain ⟨gb, go, e, h0, h1, h2, h3, h4, h5, h6, h7⟩ := hTM16.parts.row.at 0 (by omega)
    have ht : (Tm.l[0]'(by omega)).text = ⟨#[97]⟩ := by rw [← c_text, c_at hml 0 (by omega) (by decide)]; rfl
    rw [ht, Nat.zero_mul, Nat.add_zero] at h6
    exact ⟨gb, go, e, h6⟩
   have hc7 : W16.cell? ⟨p1, 7, none⟩ = some (.slice (some ⟨gb, go, none⟩) 4 Tm.cap) := by
    rw [cell_of_row _ _ _ _ _ _ HP16.out, List.getElem?_toArray]
    show some (Value.slice Tm.A Tm.l.length Tm.cap) = _
    rw [hgA, hm4]
   have HTM16 := Lib.hid (And.intro hTM16 HTM8.out.2)
   have HC7 := Lib.hid (And.intro hc7 hg6)
   clear hW16 hb16 HD16 HD15 HE15 HD10 HBO HBT hTM16 hml hm4 hgA hg6 hc7 HTM8 HLV8 HP8
   have HSV : Hid (∀ (X : World) (T : VT), Bel W16 X → In X T → T.c = wholeC 1 → Calls Tryz.prog 34 #[Tv.agg, T.agg] X fun e w' => e = .returned (.bool true) ∧ Below X.heap.size X w') := Lib.hid fun X T hX hI hc => by
    have h := sameV_any Tv T X (by rw [sz_of (C := wholeC 1) (n := 2) (HTV16.out.2.trans (wholeC_c 1).symm) rfl]; omega) (HTV16.out.1.below hX) hI
    rwa [show decide (Tv.c = T.c) = true from decide_eq_true (HTV16.out.2.trans hc.symm)] at h
   have HIP : Hid (∀ X : World, Bel W16 X → Calls Tryz.prog 21 #[.iface 87 (.pointer (some ⟨bo, 0, none⟩)), .int .i64 1, .string ⟨#[47, 49]⟩] X fun e w' => e = .returned (.bool true) ∧ Below X.heap.size X w') := Lib.hid fun X hX => by
    have h := ispath_fault a 1 bo (strU (pathB [1])) ⟨#[47, 49]⟩ X (HT.out.e.below (trans_b HB16.out hX)) (by decide) (by decide) (HBO16.out.below hX)
    rwa [show decide (strU (pathB [1]) = ⟨#[47, 49]⟩) = true from decide_eq_true path_1] at h
   have HIA : Hid (∀ X : World, Bel W16 X → Calls Tryz.prog 40 #[.iface 87 (.pointer (some ⟨bt, 0, none⟩)), .int .i64 3, .int .i64 1] X fun e w' => e = .returned (.bool true) ∧ Below X.heap.size X w') := Lib.hid fun X hX =>
    isat_fault a 3 bt 1 1 X (HT.out.e.below (trans_b HB16.out hX)) (by decide) (by decide) (HBT16.out.below hX)
   have hms : Tm.sz ≤ 1000000000 := by rw [sz_of (C := mC) (n := 9) (HTM16.out.2.trans (by rw [VT.c_eq]; rfl)) rfl]; omega
   have HDE : Hid (∀ X : World, Bel W16 X → Calls Tryz.prog 38 #[Tm.agg] X fun e w' => e = .returned (.int .i64 1) ∧ Below X.heap.size X w') := Lib.hid fun X hX => by
    have h := depth_any Tm X hms (HTM16.out.1.below hX)
    rwa [mC_depth HTM16.out.2] at h
   have HNO : Hid (∀ X : World, Bel W16 X → Calls Tryz.prog 39 #[Tm.agg] X fun e w' => e = .returned (.int .i64 5) ∧ Below X.heap.size X w') := Lib.hid fun X hX => by
    have h := nodes_any Tm X hms (HTM16.out.1.below hX)
    rwa [mC_nodes HTM16.out.2] at h
   have HCO : Hid (∀ X : World, Bel W16 X → Calls Tryz.prog 23 #[tA.agg, (textC ⟨#[97, 98]⟩).agg] X fun e w' => e = .returned (.int .i64 (-1)) ∧ Below X.heap.size X w') := Lib.hid fun X hX => by
    have h := cmpV_any 2 tA (textC ⟨#[97, 98]⟩) X (Nat.le_refl _) (by decide) (by decide) (HT.out.s.below (trans_b HB16.out hX)) (textC_in _ _) (textC_in _ _)
    rwa [show cmpV tA (textC ⟨#[97, 98]⟩) = -1 by kernel_rfl] at h
   have HCK : Hid (∀ X : World, Bel W16 X → Calls Tryz.prog 16 #[Tm.agg] X fun e w' => e = .returned .nilIface ∧ Below X.heap.size X w') := Lib.hid fun X hX => by
    refine (check_any a Tm X hms (HTM16.out.1.below hX) (HT.out.below (trans_b HB16.out hX))).mono ?_
    rintro e w' ⟨hR, hb⟩
    rw [show checkV Tm = none by rw [← checkV_c, HTM16.out.2]; exact mC_ok] at hR
    exact ⟨checkR_none hR, hb⟩
   clear hms
   refine wp_region_held_drew (S := fun X => Bel W16 X) (by kernel_rfl) ((Below.refl _ W16).drew) (fun hH => ?_)
   refine wpAnyH_take (i := 0) (oi := _) (v := ?_) rfl (by kernel_rfl) (by kernel_rfl) (by kernel_rfl) (fun _ _ _ h => h) (Or.inl ⟨by rfl, ?_⟩) hH ?_
   rotate_left 1
   ·intro Y hSY
    skip
    go_simp
    with_reducible rfl
   try simp only [LY]
   refine wpAnyH_ready (rs := [1]) (by kernel_rfl) (by simp) ?_
   refine AllReadyH.cons rfl (fun K hK => ?_) AllReadyH.nil
   go_simp
   go_at_call 20
   refine (code_nil _).mono ?_
   rintro e w20 ⟨rfl, rfl⟩
   go_wp2_with fail
   refine hK.out _ _ hH (fun hH => ?_)
   clear hK K
   try simp only [LY]
   refine wpAnyH_take (i := 2) (oi := _) (v := ?_) rfl (by kernel_rfl) (by kernel_rfl) (by kernel_rfl) (fun _ _ _ h => h) (Or.inl ⟨by rfl, ?_⟩) hH ?_
   rotate_left 1
   ·intro Y hSY
    skip
    go_simp
    with_reducible rfl
   try simp only [LY]
   refine wpAnyH_take (i := 3) (oi := _) (v := ?_) rfl (by kernel_rfl) (by kernel_rfl) (by kernel_rfl) (fun _ _ _ h => h) (Or.inl ⟨by rfl, ?_⟩) hH ?_
   rotate_left 1
   ·intro Y hSY
    skip
    go_simp
    with_reducible rfl
   try simp only [LY]
   refine wpAnyH_take (i := 4) (oi := _) (v := ?_) rfl (by kernel_rfl) (by kernel_rfl) (by kernel_rfl) (fun _ _ _ h => h) (Or.inl ⟨by rfl, ?_⟩) hH ?_
   rotate_left 1
   ·intro Y hSY
    skip
    go_simp
    with_reducible rfl
   try simp only [LY]
   refine wpAnyH_take (i := 5) (oi := _) (v := ?_) rfl (by kernel_rfl) (by kernel_rfl) (by kernel_rfl) (fun _ _ _ h => h) (Or.inl ⟨by rfl, ?_⟩) hH ?_
   rotate_left 1
   ·intro Y hSY
    skip
    go_simp
    with_reducible rfl
   try simp only [LY]
   refine wpAnyH_take (i := 6) (oi := _) (v := ?_) rfl (by kernel_rfl) (by kernel_rfl) (by kernel_rfl) (fun _ _ _ h => h) (Or.inl ⟨by rfl, ?_⟩) hH ?_
   rotate_left 1
   ·intro Y hSY
    skip
    go_simp
    with_reducible rfl
   try simp only [LY]
   refine wpAnyH_take (i := 7) (oi := _) (v := ?_) rfl (by kernel_rfl) (by kernel_rfl) (by kernel_rfl) (fun _ _ _ h => h) (Or.inl ⟨by rfl, ?_⟩) hH ?_
   rotate_left 1
   ·intro Y hSY
    skip
    go_simp
    with_reducible rfl
   try simp only [LY]
   refine wpAnyH_take (i := 8) (oi := _) (v := ?_) rfl (by kernel_rfl) (by kernel_rfl) (by kernel_rfl) (fun _ _ _ h => h) (Or.inl ⟨by rfl, ?_⟩) hH ?_
   rotate_left 1
   ·intro Y hSY
    skip
    go_simp
    with_reducible rfl
   try simp only [LY]
   refine wpAnyH_take (i := 9) (oi := _) (v := ?_) rfl (by kernel_rfl) (by kernel_rfl) (by kernel_rfl) (fun _ _ _ h => h) (Or.inl ⟨by rfl, ?_⟩) hH ?_
   rotate_left 1
   ·intro Y hSY
    skip
    go_simp
    with_reducible rfl
   try simp only [LY]
   refine wpAnyH_take (i := 10) (oi := _) (v := ?_) rfl (by kernel_rfl) (by kernel_rfl) (by kernel_rfl) (fun _ _ _ h => h) (Or.inl ⟨by rfl, ?_⟩) hH ?_
   rotate_left 1
   ·intro Y hSY
    skip
    go_simp
    with_reducible rfl
   try simp only [LY]
   refine wpAnyH_take (i := 11) (oi := _) (v := Tv.agg) rfl (by kernel_rfl) (by kernel_rfl) (by kernel_rfl) (fun _ _ _ h => h) (yieldsIf_run (by rfl) _ _ rfl _ rfl _ (fun Y hY => box_load HV16.out hY)) hH ?_
   try simp only [LY]
   refine wpAnyH_ready (rs := [12]) (by kernel_rfl) (by simp) ?_
   refine AllReadyH.cons rfl (fun K hK => ?_) AllReadyH.nil
   go_simp
   go_at_call 52
   refine (HX2.out _ (trans_b HB16.out hH)).mono ?_
   rintro e w20 ⟨T6, rfl, HT6, hb20⟩
   have hH9 : Bel W16 w20 := trans_b hH hb20
   go_wp2_with fail
   refine hK.out _ _ hH9 (fun hH => ?_)
   clear hK K
   try simp only [LY]
   refine wpAnyH_ready (rs := [13]) (by kernel_rfl) (by simp) ?_
   refine AllReadyH.cons rfl (fun K hK => ?_) AllReadyH.nil
   go_simp
   go_at_call 34
   refine (HSV.out _ T6 hH HT6.out.1 HT6.out.2).mono ?_
   rintro e w20 ⟨rfl, hb20⟩
   have hH9 : Bel W16 w20 := trans_b hH hb20
   go_wp2_with fail
   refine hK.out _ _ hH9 (fun hH => ?_)
   clear hK K
   try simp only [LY]
   refine wpAnyH_take (i := 14) (oi := _) (v := ?_) rfl (by kernel_rfl) (by kernel_rfl) (by kernel_rfl) (fun _ _ _ h => h) (Or.inl ⟨by rfl, ?_⟩) hH ?_
   rotate_left 1
   ·intro Y hSY
    skip
    go_simp
    with_reducible rfl
   try simp only [LY]
   refine wpAnyH_take (i := 15) (oi := _) (v := ?_) rfl (by kernel_rfl) (by kernel_rfl) (by kernel_rfl) (fun _ _ _ h => h) (Or.inl ⟨by rfl, ?_⟩) hH ?_
   rotate_left 1
   ·intro Y hSY
    skip
    go_simp
    with_reducible rfl
   try simp only [LY]
   refine wpAnyH_take (i := 16) (oi := _) (v := ?_) rfl (by kernel_rfl) (by kernel_rfl) (by kernel_rfl) (fun _ _ _ h => h) (Or.inl ⟨by rfl, ?_⟩) hH ?_
   rotate_left 1
   ·intro Y hSY
    skip
    go_simp
    with_reducible rfl
   try simp only [LY]
   refine wpAnyH_take (i := 17) (oi := _) (v := ?_) rfl (by kernel_rfl) (by kernel_rfl) (by kernel_rfl) (fun _ _ _ h => h) (Or.inl ⟨by rfl, ?_⟩) hH ?_
   rotate_left 1
   ·intro Y hSY
    have c71 := keep1 hSY HC7.out.1; have c72 := keep1 hSY HC7.out.2
    go_simp
    with_reducible rfl
   try simp only [LY]
   refine wpAnyH_take (i := 18) (oi := _) (v := ?_) rfl (by kernel_rfl) (by kernel_rfl) (by kernel_rfl) (fun _ _ _ h => h) (Or.inl ⟨by rfl, ?_⟩) hH ?_
   rotate_left 1
   ·intro Y hSY
    skip
    go_simp
    with_reducible rfl
   try simp only [LY]
   refine wpAnyH_take (i := 19) (oi := _) (v := ?_) rfl (by kernel_rfl) (by kernel_rfl) (by kernel_rfl) (fun _ _ _ h => h) (Or.inl ⟨by rfl, ?_⟩) hH ?_
   rotate_left 1
   ·intro Y hSY
    skip
    go_simp
    with_reducible rfl
   try simp only [LY]
   refine wpAnyH_take (i := 20) (oi := _) (v := ?_) rfl (by kernel_rfl) (by kernel_rfl) (by kernel_rfl) (fun _ _ _ h => h) (Or.inl ⟨by rfl, ?_⟩) hH ?_
   rotate_left 1
   ·intro Y hSY
    skip
    go_simp
    with_reducible rfl
   try simp only [LY]
   refine wpAnyH_take (i := 21) (oi := _) (v := ?_) rfl (by kernel_rfl) (by kernel_rfl) (by kernel_rfl) (fun _ _ _ h => h) (Or.inl ⟨by rfl, ?_⟩) hH ?_
   rotate_left 1
   ·intro Y hSY
    skip
    go_simp
    with_reducible rfl
   try simp only [LY]
   refine wpAnyH_take (i := 22) (oi := _) (v := ?_) rfl (by kernel_rfl) (by kernel_rfl) (by kernel_rfl) (fun _ _ _ h => h) (Or.inl ⟨by rfl, ?_⟩) hH ?_
   rotate_left 1
   ·intro Y hSY
    skip
    go_simp
    with_reducible rfl
   try simp only [LY]
   refine wpAnyH_take (i := 23) (oi := _) (v := ?_) rfl (by kernel_rfl) (by kernel_rfl) (by kernel_rfl) (fun _ _ _ h => h) (Or.inl ⟨by rfl, ?_⟩) hH ?_
   rotate_left 1
   ·intro Y hSY
    have c71 := keep1 hSY HC7.out.1; have c72 := keep1 hSY HC7.out.2
    go_simp
    with_reducible rfl
   try simp only [LY]
   refine wpAnyH_take (i := 24) (oi := _) (v := ?_) rfl (by kernel_rfl) (by kernel_rfl) (by kernel_rfl) (fun _ _ _ h => h) (Or.inl ⟨by rfl, ?_⟩) hH ?_
   rotate_left 1
   ·intro Y hSY
    skip
    go_simp
    with_reducible rfl
   try simp only [LY]
   refine wpAnyH_take (i := 25) (oi := _) (v := ?_) rfl (by kernel_rfl) (by kernel_rfl) (by kernel_rfl) (fun _ _ _ h => h) (Or.inl ⟨by rfl, ?_⟩) hH ?_
   rotate_left 1
   ·intro Y hSY
    skip
    go_simp
    with_reducible rfl
   try simp only [LY]
   refine wpAnyH_take (i := 26) (oi := _) (v := ?_) rfl (by kernel_rfl) (by kernel_rfl) (by kernel_rfl) (fun _ _ _ h => h) (Or.inl ⟨by rfl, ?_⟩) hH ?_
   rotate_left 1
   ·intro Y hSY
    have c71 := keep1 hSY HC7.out.1; have c72 := keep1 hSY HC7.out.2
    go_simp
    with_reducible rfl
   try simp only [LY]
   refine wpAnyH_take (i := 27) (oi := _) (v := ?_) rfl (by kernel_rfl) (by kernel_rfl) (by kernel_rfl) (fun _ _ _ h => h) (Or.inl ⟨by rfl, ?_⟩) hH ?_
   rotate_left 1
   ·intro Y hSY
    skip
    go_simp
    with_reducible rfl
   try simp only [LY]
   refine wpAnyH_take (i := 28) (oi := _) (v := ?_) rfl (by kernel_rfl) (by kernel_rfl) (by kernel_rfl) (fun _ _ _ h => h) (Or.inl ⟨by rfl, ?_⟩) hH ?_
   rotate_left 1
   ·intro Y hSY
    skip
    go_simp
    with_reducible rfl
   try simp only [LY]
   refine wpAnyH_take (i := 29) (oi := _) (v := ?_) rfl (by kernel_rfl) (by kernel_rfl) (by kernel_rfl) (fun _ _ _ h => h) (Or.inl ⟨by rfl, ?_⟩) hH ?_
   rotate_left 1
   ·intro Y hSY
    skip
    go_simp
    with_reducible rfl
   try simp only [LY]
   refine wpAnyH_take (i := 30) (oi := _) (v := ?_) rfl (by kernel_rfl) (by kernel_rfl) (by kernel_rfl) (fun _ _ _ h => h) (Or.inl ⟨by rfl, ?_⟩) hH ?_
   rotate_left 1
   ·intro Y hSY
    skip
    go_simp
    with_reducible rfl
   try simp only [LY]
   refine wpAnyH_ready (rs := [31]) (by kernel_rfl) (by simp) ?_
   refine AllReadyH.cons rfl (fun K hK => ?_) AllReadyH.nil
   go_simp
   go_at_call 21
   refine (HIP.out _ hH).mono ?_
   rintro e w20 ⟨rfl, hb20⟩
   have hH9 : Bel W16 w20 := trans_b hH hb20
   go_wp2_with fail
   refine hK.out _ _ hH9 (fun hH => ?_)
   clear hK K
   try simp only [LY]
   refine wpAnyH_take (i := 32) (oi := _) (v := ?_) rfl (by kernel_rfl) (by kernel_rfl) (by kernel_rfl) (fun _ _ _ h => h) (Or.inl ⟨by rfl, ?_⟩) hH ?_
   rotate_left 1
   ·intro Y hSY
    skip
    go_simp
    with_reducible rfl
   try simp only [LY]
   refine wpAnyH_take (i := 33) (oi := _) (v := ?_) rfl (by kernel_rfl) (by kernel_rfl) (by kernel_rfl) (fun _ _ _ h => h) (Or.inl ⟨by rfl, ?_⟩) hH ?_
   rotate_left 1
   ·intro Y hSY
    skip
    go_simp
    with_reducible rfl
   try simp only [LY]
   refine wpAnyH_take (i := 34) (oi := _) (v := ?_) rfl (by kernel_rfl) (by kernel_rfl) (by kernel_rfl) (fun _ _ _ h => h) (Or.inl ⟨by rfl, ?_⟩) hH ?_
   rotate_left 1
   ·intro Y hSY
    skip
    go_simp
    with_reducible rfl
   try simp only [LY]
   refine wpAnyH_ready (rs := [35]) (by kernel_rfl) (by simp) ?_
   refine AllReadyH.cons rfl (fun K hK => ?_) AllReadyH.nil
   go_simp
   go_at_call 40
   refine (HIA.out _ hH).mono ?_
   rintro e w20 ⟨rfl, hb20⟩
   have hH9 : Bel W16 w20 := trans_b hH hb20
   go_wp2_with fail
   refine hK.out _ _ hH9 (fun hH => ?_)
   clear hK K
   try simp only [LY]
   refine wpAnyH_take (i := 36) (oi := _) (v := ?_) rfl (by kernel_rfl) (by kernel_rfl) (by kernel_rfl) (fun _ _ _ h => h) (Or.inl ⟨by rfl, ?_⟩) hH ?_
   rotate_left 1
   ·intro Y hSY
    skip
    go_simp
    with_reducible rfl
   try simp only [LY]
   refine wpAnyH_take (i := 37) (oi := _) (v := ?_) rfl (by kernel_rfl) (by kernel_rfl) (by kernel_rfl) (fun _ _ _ h => h) (Or.inl ⟨by rfl, ?_⟩) hH ?_
   rotate_left 1
   ·intro Y hSY
    skip
    go_simp
    with_reducible rfl
   try simp only [LY]
   refine wpAnyH_take (i := 38) (oi := _) (v := Tm.agg) rfl (by kernel_rfl) (by kernel_rfl) (by kernel_rfl) (fun _ _ _ h => h) (yieldsIf_run (by rfl) _ _ rfl _ rfl _ (fun Y hY => box_load HP16.out hY)) hH ?_
   try simp only [LY]
   refine wpAnyH_ready (rs := [39]) (by kernel_rfl) (by simp) ?_
   refine AllReadyH.cons rfl (fun K hK => ?_) AllReadyH.nil
   go_simp
   go_at_call 38
   refine (HDE.out _ hH).mono ?_
   rintro e w20 ⟨rfl, hb20⟩
   have hH9 : Bel W16 w20 := trans_b hH hb20
   go_wp2_with fail
   refine hK.out _ _ hH9 (fun hH => ?_)
   clear hK K
   try simp only [LY]
   refine wpAnyH_take (i := 40) (oi := _) (v := ?_) rfl (by kernel_rfl) (by kernel_rfl) (by kernel_rfl) (fun _ _ _ h => h) (Or.inl ⟨by rfl, ?_⟩) hH ?_
   rotate_left 1
   ·intro Y hSY
    skip
    go_simp
    with_reducible rfl
   try simp only [LY]
   refine wpAnyH_take (i := 41) (oi := _) (v := ?_) rfl (by kernel_rfl) (by kernel_rfl) (by kernel_rfl) (fun _ _ _ h => h) (Or.inl ⟨by rfl, ?_⟩) hH ?_
   rotate_left 1
   ·intro Y hSY
    skip
    go_simp
    with_reducible rfl
   try simp only [LY]
   refine wpAnyH_take (i := 42) (oi := _) (v := ?_) rfl (by kernel_rfl) (by kernel_rfl) (by kernel_rfl) (fun _ _ _ h => h) (Or.inl ⟨by rfl, ?_⟩) hH ?_
   rotate_left 1
   ·intro Y hSY
    skip
    go_simp
    with_reducible rfl
   try simp only [LY]
   refine wpAnyH_take (i := 43) (oi := _) (v := Tm.agg) rfl (by kernel_rfl) (by kernel_rfl) (by kernel_rfl) (fun _ _ _ h => h) (yieldsIf_run (by rfl) _ _ rfl _ rfl _ (fun Y hY => box_load HP16.out hY)) hH ?_
   try simp only [LY]
   refine wpAnyH_ready (rs := [44]) (by kernel_rfl) (by simp) ?_
   refine AllReadyH.cons rfl (fun K hK => ?_) AllReadyH.nil
   go_simp
   go_at_call 39
   refine (HNO.out _ hH).mono ?_
   rintro e w20 ⟨rfl, hb20⟩
   have hH9 : Bel W16 w20 := trans_b hH hb20
   go_wp2_with fail
   refine hK.out _ _ hH9 (fun hH => ?_)
   clear hK K
   try simp only [LY]
   refine wpAnyH_take (i := 45) (oi := _) (v := ?_) rfl (by kernel_rfl) (by kernel_rfl) (by kernel_rfl) (fun _ _ _ h => h) (Or.inl ⟨by rfl, ?_⟩) hH ?_
   rotate_left 1
   ·intro Y hSY
    skip
    go_simp
    with_reducible rfl
   try simp only [LY]
   refine wpAnyH_take (i := 46) (oi := _) (v := ?_) rfl (by kernel_rfl) (by kernel_rfl) (by kernel_rfl) (fun _ _ _ h => h) (Or.inl ⟨by rfl, ?_⟩) hH ?_
   rotate_left 1
   ·intro Y hSY
    skip
    go_simp
    with_reducible rfl
   try simp only [LY]
   refine wpAnyH_take (i := 47) (oi := _) (v := ?_) rfl (by kernel_rfl) (by kernel_rfl) (by kernel_rfl) (fun _ _ _ h => h) (Or.inl ⟨by rfl, ?_⟩) hH ?_
   rotate_left 1
   ·intro Y hSY
    skip
    go_simp
    with_reducible rfl
   try simp only [LY]
   refine wpAnyH_ready (rs := [48]) (by kernel_rfl) (by simp) ?_
   refine AllReadyH.cons rfl (fun K hK => ?_) AllReadyH.nil
   go_simp
   go_at_call 51
   refine (HX3.out _ (trans_b HB16.out hH)).mono ?_
   rintro e w20 ⟨rfl, hb20⟩
   have hH9 : Bel W16 w20 := trans_b hH hb20
   go_wp2_with fail
   refine hK.out _ _ hH9 (fun hH => ?_)
   clear hK K
   try simp only [LY]
   refine wpAnyH_ready (rs := [49]) (by kernel_rfl) (by simp) ?_
   refine AllReadyH.cons rfl (fun K hK => ?_) AllReadyH.nil
   go_simp
   go_at_call 51
   refine (text_any ⟨#[97, 98]⟩ _).mono ?_
   rintro e w20 ⟨rfl, hb20⟩
   have hH9 : Bel W16 w20 := trans_b hH hb20
   go_wp2_with fail
   refine hK.out _ _ hH9 (fun hH => ?_)
   clear hK K
   try simp only [LY]
   refine wpAnyH_ready (rs := [50]) (by kernel_rfl) (by simp) ?_
   refine AllReadyH.cons rfl (fun K hK => ?_) AllReadyH.nil
   go_simp
   go_at_call 23
   refine (HCO.out _ hH).mono ?_
   rintro e w20 ⟨rfl, hb20⟩
   have hH9 : Bel W16 w20 := trans_b hH hb20
   go_wp2_with fail
   refine hK.out _ _ hH9 (fun hH => ?_)
   clear hK K
   try simp only [LY]
   refine wpAnyH_take (i := 51) (oi := _) (v := ?_) rfl (by kernel_rfl) (by kernel_rfl) (by kernel_rfl) (fun _ _ _ h => h) (Or.inl ⟨by rfl, ?_⟩) hH ?_
   rotate_left 1
   ·intro Y hSY
    skip
    go_simp
    with_reducible rfl
   try simp only [LY]
   refine wpAnyH_take (i := 52) (oi := _) (v := ?_) rfl (by kernel_rfl) (by kernel_rfl) (by kernel_rfl) (fun _ _ _ h => h) (Or.inl ⟨by rfl, ?_⟩) hH ?_
   rotate_left 1
   ·intro Y hSY
    skip
    go_simp
    with_reducible rfl
   try simp only [LY]
   refine wpAnyH_take (i := 53) (oi := _) (v := ?_) rfl (by kernel_rfl) (by kernel_rfl) (by kernel_rfl) (fun _ _ _ h => h) (Or.inl ⟨by rfl, ?_⟩) hH ?_
   rotate_left 1
   ·intro Y hSY
    skip
    go_simp
    with_reducible rfl
   try simp only [LY]
   refine wpAnyH_take (i := 54) (oi := _) (v := Tm.agg) rfl (by kernel_rfl) (by kernel_rfl) (by kernel_rfl) (fun _ _ _ h => h) (yieldsIf_run (by rfl) _ _ rfl _ rfl _ (fun Y hY => box_load HP16.out hY)) hH ?_
   try simp only [LY]
   refine wpAnyH_ready (rs := [55]) (by kernel_rfl) (by simp) ?_
   refine AllReadyH.cons rfl (fun K hK => ?_) AllReadyH.nil
   go_simp
   go_at_call 16
   refine (HCK.out _ hH).mono ?_
   rintro e w20 ⟨rfl, hb20⟩
   have hH9 : Bel W16 w20 := trans_b hH hb20
   go_wp2_with fail
   refine hK.out _ _ hH9 (fun hH => ?_)
   clear hK K
   try simp only [LY]
   refine wpAnyH_ready (rs := [56]) (by kernel_rfl) (by simp) ?_
   refine AllReadyH.cons rfl (fun K hK => ?_) AllReadyH.nil
   go_simp
   go_at_call 20
   refine (code_nil _).mono ?_
   rintro e w20 ⟨rfl, rfl⟩
   go_wp2_with fail
   refine hK.out _ _ hH (fun hH => ?_)
   clear hK K
   try simp only [LY]
   refine wpAnyH_take (i := 57) (oi := _) (v := ?_) rfl (by kernel_rfl) (by kernel_rfl) (by kernel_rfl) (fun _ _ _ h => h) (Or.inl ⟨by rfl, ?_⟩) hH ?_
   rotate_left 1
   ·intro Y hSY
    skip
    go_simp
    with_reducible rfl
   try simp only [LY]
   refine wpAnyH_take (i := 58) (oi := _) (v := ?_) rfl (by kernel_rfl) (by kernel_rfl) (by kernel_rfl) (fun _ _ _ h => h) (Or.inl ⟨by rfl, ?_⟩) hH ?_
   rotate_left 1
   ·intro Y hSY
    skip
    go_simp
    with_reducible rfl
   try simp only [LY]
   refine wpAnyH_take (i := 59) (oi := _) (v := ?_) rfl (by kernel_rfl) (by kernel_rfl) (by kernel_rfl) (fun _ _ _ h => h) (Or.inl ⟨by rfl, ?_⟩) hH ?_
   rotate_left 1
   ·intro Y hSY
    skip
    go_simp
    with_reducible rfl
   try simp only [LY]
   refine wpAnyH_done (by kernel_rfl) ?_ _
   have HBF := Lib.hid (trans_b HB16.out hH)
   clear hH
   go_wp2
   go_ret
   exact ⟨rfl, HBF.out⟩
end Go.Proofs.YtcpkjmpbpmeclaaGreatDoor
