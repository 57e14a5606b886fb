/- The walk of UtfWalks. -/
import Derived.Test.YtolnnkalgioobaaZk
namespace Go.Proofs.Ytolnnkalgioobaa
open Go.RowKit Go.Shelf
attribute [local go_sem] Oper.semAt_some
set_option maxRecDepth 100000
set_option linter.unusedVariables false
set_option linter.unusedSimpArgs false
set_option linter.unnecessarySimpa false

theorem keeps_below {B : Nat} {W W' : World} (h : Below W.heap.size W W') : KeepsFrom B W W' :=
  ⟨h.size, fun k o _ hk _ => (h.block k (Array.getElem?_eq_some_iff.1 hk).1).trans hk⟩
theorem boxed_below {W W' : World} {B : Nat} {t : TypeId} {v : Value} (h : Boxed W B t v) (hb : Below W.heap.size W W') : Boxed W' B t v := (hb.block B h.lt).trans h

set_option maxHeartbeats 16000000 in
theorem walks_from (s : ByteArray) (n : Int) (m : Nat) (w : World) (hs : s.size ≤ 1048576) (hm : (stepsF s).length = m) (hn0 : 0 ≤ n) (hn1 : n ≤ 255) :
    Calls Try.prog 5 #[.string s, .int .u8 n] w fun e w' => e = .returned (.bool true) ∧ Below w.heap.size w w' := by
  have hm1 : m ≤ 1048576 := by have := stepsK_len s.size s 0 (by omega); unfold stepsF at hm; omega
  have cAll := fun W => refAll_any s W hs
  rw [hm] at cAll
  have HM := Lib.hid hm
  clear hm
  refine (callsIn_wide (n := 6)).1 ?_
  refine callsIn_of_wp_marks Try.func5 rfl trivial ?_ rfl
  simp only [Try.ntmps5, List.size_toArray, List.length_cons, List.length_nil, Nat.reduceAdd, Nat.reduceSub, Array.replicate_succ, Array.replicate_zero, List.push_toArray, List.append_toArray, List.nil_append, List.cons_append]
  refine wpIn_wide.2 ?_
  go_upto_region 1 with fail
  have e0 : Boxed ((w.alloc (.cells #[.string s] 9)).alloc (.cells #[.bool false] 4)) w.heap.size 9 (.string s) := (Boxed.new w 9 _).alloc _
  have e1 : Boxed ((w.alloc (.cells #[.string s] 9)).alloc (.cells #[.bool false] 4)) (w.heap.size + 1) 4 (.bool false) := by
    have := Boxed.new (w.alloc (.cells #[.string s] 9)) 4 (.bool false)
    rwa [World.size_alloc] at this
  have hb : Below w.heap.size w ((w.alloc (.cells #[.string s] 9)).alloc (.cells #[.bool false] 4)) := ((Below.refl _ w).alloc (Nat.le_refl _) _).alloc (by simp) _
  generalize ((w.alloc (.cells #[.string s] 9)).alloc (.cells #[.bool false] 4)) = V0 at e0 e1 hb ⊢
  have c0 := e0.cell
  go_upto_region 2 with (go_at_call 17; refine (cAll _).mono ?_; rintro e w1 ⟨A, c, rfl, hRS, hb1⟩)
  have e0a : Boxed (w1.alloc (.cells #[.slice A m c] 32)) w.heap.size 9 (.string s) := (boxed_below e0 hb1).alloc _
  have e1a : Boxed (w1.alloc (.cells #[.slice A m c] 32)) (w.heap.size + 1) 4 (.bool false) := (boxed_below e1 hb1).alloc _
  have e2a : Boxed (w1.alloc (.cells #[.slice A m c] 32)) w1.heap.size 32 (.slice A m c) := Boxed.new _ _ _
  have hx1 : w.heap.size + 1 < w1.heap.size := (boxed_below e1 hb1).lt
  have hRSa : RS (w1.alloc (.cells #[.slice A m c] 32)) A (stepsF s) := hRS.below ((Below.refl _ _).alloc (Nat.le_refl _) _)
  have hba : Below w.heap.size w (w1.alloc (.cells #[.slice A m c] 32)) := (hb.trans (hb1.mono hb.size)).alloc (hb.trans (hb1.mono hb.size)).size _
  obtain ⟨X, hX⟩ : ∃ X, w1.heap.size = X := ⟨_, rfl⟩
  rw [hX] at e2a hx1 ⊢
  generalize (w1.alloc (.cells #[.slice A m c] 32)) = V1 at e0a e1a e2a hRSa hba ⊢
  clear e0 e1 hb c0 hb1 hRS hX w1 cAll V0
  have cW := Lib.hid fun (n : Int) (W : World) (h : Below V1.heap.size V1 W) (h0 : -1 ≤ n) (h1 : n ≤ 255) => walked_any s A m c n W hs HM.out (hRSa.below h) h0 h1
  have cells : Hid (∀ W, Below V1.heap.size V1 W → W.cell? ⟨w.heap.size, 0, none⟩ = some (.string s) ∧ W.cell? ⟨X, 0, none⟩ = some (.slice A m c)) := Lib.hid fun W h => ⟨(boxed_below e0a h).cell, (boxed_below e2a h).cell⟩
  have k0 := e0a.cell
  have k2 := e2a.cell
  go_upto_region 4 with (first
    | (go_at_call 18; with_reducible refine (cW.out (-1) _ (Below.refl _ _) (by omega) (by omega)).mono ?_; rintro e w2 ⟨rfl, hb2⟩; obtain ⟨k3, k4⟩ := cells.out w2 hb2)
    | (go_at_call 18; with_reducible refine (cW.out n _ hb2 (by omega) (by omega)).mono ?_; rintro e w3 ⟨rfl, hb3⟩; have hb23 := below_on hb2 hb3; obtain ⟨k5, k6⟩ := cells.out w3 hb23)
    | (go_at_call 18; with_reducible refine (cW.out 0 _ hb23 (by omega) (by omega)).mono ?_; rintro e w4 ⟨rfl, hb4⟩; have hb24 := below_on hb23 hb4))
  have e0V := boxed_below e0a hb24
  have e1V := boxed_below e1a hb24
  have e2V := boxed_below e2a hb24
  have HRS := Lib.hid (hRSa.below hb24)
  have hbV : Below w.heap.size w w4 := hba.trans (hb24.mono hba.size)
  clear cW cells k0 k2 k3 k4 k5 k6 hb2 hb3 hb23 hb4 hb24 e0a e1a e2a hRSa hba
  have hXl := e2V.lt
  have hc1 : (w4.alloc (.cells #[.int .i64 0] 3)).cell? ⟨w.heap.size, 0, none⟩ = some (.string s) := (e0V.alloc _).cell
  have hfn := fun W => func_nil (.pointer (some ⟨w4.heap.size + 1, 0, none⟩)) W
  go_wp2_with (go_at_call 19; refine (all_any s _).mono ?_; rintro e w' ⟨rfl, rfl⟩)
  refine (wpIn_wide (n := 6)).1 ?_
  have bK := Boxed.new w4 3 (.int .i64 0)
  have bN := Boxed.new (w4.alloc (.cells #[.int .i64 0] 3)) 9 (.string s)
  rw [World.size_alloc] at bN
  have hB0 : Below w4.heap.size w4 ((w4.alloc (.cells #[.int .i64 0] 3)).alloc (.cells #[.string s] 9)) := ((Below.refl _ w4).alloc (Nat.le_refl _) _).alloc (by simp) _
  clear hc1 hfn
  refine wpIn_rangeFunc_ownG rfl (by omega) (gf := 39) (lb := #[.pointer (some ⟨w4.heap.size + 1, 0, none⟩)]) rfl trivial (enters_of Try.func39 (by kernel_rfl) rfl)
    (all_stops s (by omega) 5 (w4.heap.size + 1) w4.heap.size (by omega) _ (by simp) bN.cell) (fun h k => h.trans k) (fun W l o o' hl ho hc hw => ⟨belowK_b (w := w4) (Nat.le_refl _) W l o o' (by simp at hl; omega) ho hc hw, World.putObj_heap_other (by simp at hl; omega)⟩) (Below.refl _ _) (fun _ => rfl)
    (fun pre W => Boxed W w4.heap.size 3 (.int .i64 (pre.length : Nat)) ∧ (Below w4.heap.size w4 W ∧ Boxed W (w4.heap.size + 1) 9 (.string s)))
    (fun _ pre _ => ¬ pre <+: stepsF s)
    (OwnFrom.and (_root_.Go.Own.from (boxed_own _ _ _) _) (OwnFrom.and (ownFrom_below (Nat.le_refl _) (by simp; omega)) (_root_.Go.Own.from (boxed_own _ _ _) _)))
    (fun _ _ _ _ _ hs _ _ => hs)
    ⟨bK.alloc _, hB0, bN⟩
    ?a1 ?assign ?body ?done ?stop
  case assign =>
    intro l x W K hK
    gi_wp2
    exact hK
  case body =>
    rintro l pre ⟨⟨xa, xp⟩, hxp⟩ W ⟨hbx, hB, hbs⟩ hlt
    have q0 : Boxed W w.heap.size 9 (.string s) := (hB.block _ (by omega)).trans e0V
    have q1 : Boxed W (w.heap.size + 1) 4 (.bool false) := (hB.block _ (by omega)).trans e1V
    have q2 : Boxed W X 32 (.slice A m c) := (hB.block _ (by omega)).trans e2V
    have c0 := q0.cell
    have c1 := q1.cell
    have f1 := q1.frozen
    have c2 := q2.cell
    have ck := hbx.cell
    have fk := hbx.frozen
    have hx := (isPt_iff xp).1 hxp
    obtain ⟨hx0, hx1, _⟩ := hx
    clear q0 q1 q2
    obtain ⟨j, hj⟩ : ∃ j, pre.length = j := ⟨_, rfl⟩
    have HJ := Lib.hid hj
    rw [hj] at hbx ck hlt
    rw [HM.out] at hlt
    clear hj
    have h1n : 1 ≤ 6 - 1 - 1 := by omega
    have g2 : (j : Int) < (m : Int) := by omega
    have g2' : ¬ (m : Int) ≤ (j : Int) := by omega
    have hjS : j < (stepsF s).length := by rw [HM.out]; exact hlt
    have hRW := HRS.out.below hB
    have cW := walked_any s A m c 2 W hs HM.out hRW (by omega) (by omega)
    rcases hRW with h0 | ⟨g, hAg, hcl⟩
    · rw [h0] at hjS; simp at hjS
    obtain ⟨z1, z2⟩ := hcl j hjS
    have hpre : Hid (pre ++ [⟨(xa, xp), hxp⟩] <+: stepsF s → (stepsF s)[j]'hjS = ⟨(xa, xp), hxp⟩) := Lib.hid fun h => by
      have hl : pre.length < (stepsF s).length := by rw [HJ.out]; exact hjS
      have := prefix_get h hl
      have e : ∀ (i : Nat) (hi : i < (stepsF s).length), i = j → (stepsF s)[i]'hi = (stepsF s)[j]'hjS := fun i hi he => by subst he; rfl
      rw [← e _ hl HJ.out]; exact this
    generalize (stepsF s)[j]'hjS = Y at z1 z2 hpre
    obtain ⟨⟨ya, yp⟩, hyp⟩ := Y
    simp only at z1 z2
    subst hAg
    clear hcl hjS
    by_cases h1 : ya = xa
    · by_cases h2 : yp = xp
      · subst h1
        subst h2
        clear hpre
        by_cases hj3 : (j : Int) < 3
        · gi_wp2_with (refine ⟨trivial, ?_⟩; gi_at_call 18; refine (CallsIn.inRound l (callsIn_wide.2 cW)).mono ?_; rintro e w5 ⟨rfl, hb5⟩; have ck5 := (boxed_below hbx hb5).cell; have fk5 := (boxed_below hbx hb5).frozen)
          have hbx5 := boxed_below hbx hb5
          have hbs5 := boxed_below hbs hb5
          have hB5 : Below w4.heap.size w4 w5 := hB.trans (hb5.mono hB.size)
          refine ⟨(keeps_below hb5).trans ((KeepsOthers.setCell _ _ _).from _), ⟨(hb5.mono hB.size).setCell (by simp) _, (Below.heap_setCell _ _ _ _ (by simp)).trans (hb5.block _ hbs.lt)⟩, ?_, hB5.setCell (by simp) _, hbs5.other (by simp) _⟩
          rw [List.length_append, HJ.out]
          exact hbx5.set _
        · gi_wp2
          refine ⟨trivial, ?_⟩
          gi_wp2
          refine ⟨(KeepsOthers.setCell _ _ _).from _, ⟨(Below.refl _ _).setCell (by simp) _, Below.heap_setCell _ _ _ _ (by simp)⟩, ?_, hB.setCell (by simp) _, hbs.other (by simp) _⟩
          rw [List.length_append, HJ.out]
          exact hbx.set _
      · have hno : Hid (¬ pre ++ [⟨(xa, xp), hxp⟩] <+: stepsF s) := Lib.hid fun h => h2 (congrArg (fun z : Step => z.1.2) (hpre.out h))
        have g3 : (yp != xp) = true := by simp; exact h2
        subst h1
        clear hpre h2 cW
        gi_wp2
        exact ⟨(KeepsOthers.setCell _ _ _).from _, hno.out⟩
    · have hno : Hid (¬ pre ++ [⟨(xa, xp), hxp⟩] <+: stepsF s) := Lib.hid fun h => h1 (congrArg (fun z : Step => z.1.1) (hpre.out h))
      have g3 : ((ya : Int) != (xa : Int)) = true := by simp; omega
      clear hpre h1 cW
      gi_wp2
      exact ⟨(KeepsOthers.setCell _ _ _).from _, hno.out⟩
  case done =>
    rintro D ys W hD rfl ⟨hbx, hB, hbs⟩ hK
    rw [HM.out] at hbx
    have q0 : Boxed W w.heap.size 9 (.string s) := (hB.block _ (by omega)).trans e0V
    have q1 : Boxed W (w.heap.size + 1) 4 (.bool false) := (hB.block _ (by omega)).trans e1V
    have q2 : Boxed W X 32 (.slice A m c) := (hB.block _ (by omega)).trans e2V
    have c2 := q2.cell
    have ck := hbx.cell
    have hbw : Below w.heap.size w W := hbV.trans (hB.mono hbV.size)
    have hlD : w.heap.size + 1 < D := by simp at hD; omega
    go_wp2_with (go_at_call 13; refine (lives_any _).mono ?_; rintro e w6 ⟨rfl, hb6⟩; have c6 := (boxed_below q1 hb6).cell; have f6 := (boxed_below q1 hb6).frozen)
    have q6 := boxed_below q1 hb6
    have hK6 : w6.heap[D]? = some (.deferred (some [])) := (hb6.block _ (Array.getElem?_eq_some_iff.1 hK).1).trans hK
    have hb7 := hbw.trans (hb6.mono hbw.size)
    have hne : w.heap.size + 1 ≠ D := by omega
    have hK7 : (w6.setCell ⟨w.heap.size + 1, 0, none⟩ (.bool true)).heap[D]? = some (.deferred (some [])) := (Below.heap_setCell _ _ _ _ (by show D ≠ w.heap.size + 1; omega)).trans hK6
    refine ⟨by simp, .inl ⟨_, _, rfl, run_takeDeferred hK7, ?_⟩⟩
    have hcz2 : ((w6.setCell ⟨w.heap.size + 1, 0, none⟩ (.bool true)).putObj D (.deferred none)).cell? ⟨w.heap.size + 1, 0, none⟩ = some (.bool true) :=
      (World.cell?_of_block (a := ⟨w.heap.size + 1, 0, none⟩) (World.putObj_heap_other hne)).trans (q6.set (.bool true)).cell
    refine ⟨.bool true, ?_, rfl, ?_⟩
    · simp [results, Try.results5, go_sem, hcz2, asAddr]
    · exact (hb7.setCell (by simp) _).trans (belowK_b (w := w) (Nat.le_refl _) _ D _ _ (by omega) hK7 rfl rfl)
  case stop =>
    rintro D c pre W _ hpre h _
    exact absurd hpre h
theorem walksW (s : ByteArray) (n : Int) (w : World) (hs : s.size ≤ 1048576) (h0 : 0 ≤ n) (h1 : n ≤ 255) :
    Calls Try.prog 5 #[.string s, .int .u8 n] w fun e w' => e = .returned (.bool true) ∧ Below w.heap.size w w' := walks_from s n _ w hs rfl h0 h1
end Go.Proofs.Ytolnnkalgioobaa
