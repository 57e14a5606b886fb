/- The walk of walked. -/
import Derived.Test.YtolnnkalgioobaaZj
namespace Go.Proofs.Ytolnnkalgioobaa
open Go.RowKit Go.Shelf
attribute [local go_sem] Oper.semAt_some
set_option maxRecDepth 100000
set_option linter.unusedVariables false
set_option linter.unusedSimpArgs false
set_option linter.unnecessarySimpa false

theorem prefix_get {S pre : List Step} {x : Step} (h : pre ++ [x] <+: S) (hl : pre.length < S.length) : S[pre.length]'hl = x := by
  obtain ⟨t, rfl⟩ := h
  simp
/-- How a turn is left: broken off behind n steps; or with a step that is not the document's. -/
def IxW (V : World) (K : Nat) (n : Int) (S : List Step) (c : Code) (pre : List Step) (W : World) : Prop :=
  (c = .exit 2 ∧ Boxed W K 3 (.int .i64 n) ∧ 0 ≤ n ∧ Below V.heap.size V W) ∨ (c = .ret ∧ ¬ pre <+: S)
theorem IxW_own (V : World) (K : Nat) (n : Int) (S : List Step) (B : Nat) (hB : V.heap.size ≤ B) (c : Code) : OwnFrom B (IxW V K n S c) := by
  intro s X Y row h hg hr
  rcases h with ⟨h1, h2, h3, h4⟩ | h
  · exact .inl ⟨h1, (_root_.Go.Own.from (boxed_own (β := Unit) K 3 (fun _ => .int .i64 n)) B) () X Y row h2 hg hr, h3, (ownFrom_below (β := Unit) (Nat.le_refl _) hB) () X Y row h4 hg hr⟩
  · exact .inr h
theorem walked_end {tmps : Array Value} {w W2 : World} {D1 D2 : Nat} (hB : Below w.heap.size w W2) (e2 : Boxed W2 (w.heap.size + 1 + 1) 4 (.bool false)) (h1 : w.heap.size + 1 + 1 < D1) (h2 : w.heap.size + 1 + 1 < D2) (hne : D1 ≠ D2)
    (k1 : W2.heap[D1]? = some (.deferred (some []))) (k2 : W2.heap[D2]? = some (.deferred (some []))) (h6 : tmps[6]? = some (.pointer (some ⟨w.heap.size + 1 + 1, 0, none⟩))) :
    LeavesInM Fence.wide 6 Try.prog Try.f18 tmps (fun e w' => e = .returned (.bool true) ∧ Below w.heap.size w w') [] .returning (((W2.setCell ⟨w.heap.size + 1 + 1, 0, none⟩ (.bool true)).putObj D2 (.deferred none)).putObj D1 (.deferred none)) := by
  have e2' := e2.set (.bool true)
  have b1 : Below w.heap.size w (W2.setCell ⟨w.heap.size + 1 + 1, 0, none⟩ (.bool true)) := hB.setCell (by show w.heap.size ≤ w.heap.size + 1 + 1; omega) _
  have j2 : (W2.setCell ⟨w.heap.size + 1 + 1, 0, none⟩ (.bool true)).heap[D2]? = some (.deferred (some [])) := (Below.heap_setCell _ _ _ _ (by show D2 ≠ w.heap.size + 1 + 1; omega)).trans k2
  have j1 : (W2.setCell ⟨w.heap.size + 1 + 1, 0, none⟩ (.bool true)).heap[D1]? = some (.deferred (some [])) := (Below.heap_setCell _ _ _ _ (by show D1 ≠ w.heap.size + 1 + 1; omega)).trans k1
  have j1' := (World.putObj_heap_other (o := .deferred none) hne).trans j1
  have hc : (((W2.setCell ⟨w.heap.size + 1 + 1, 0, none⟩ (.bool true)).putObj D2 (.deferred none)).putObj D1 (.deferred none)).cell? ⟨w.heap.size + 1 + 1, 0, none⟩ = some (.bool true) :=
    (World.cell?_of_block (a := ⟨w.heap.size + 1 + 1, 0, none⟩) ((World.putObj_heap_other (by show w.heap.size + 1 + 1 ≠ D1; omega)).trans (World.putObj_heap_other (by show w.heap.size + 1 + 1 ≠ D2; omega)))).trans e2'.cell
  refine ⟨.bool true, ?_, rfl, ?_⟩
  · have h6' : tmps.getD 6 undef = .pointer (some ⟨w.heap.size + 1 + 1, 0, none⟩) := by simp [Array.getD_eq_getD_getElem?, h6]
    simp [results, Try.results18, go_sem, h6, hc, asAddr]
  · exact (b1.trans (belowK_b (w := w) (Nat.le_refl _) _ D2 _ _ (by omega) j2 rfl rfl)).trans (belowK_b (w := w) (Nat.le_refl _) _ D1 _ _ (by omega) j1' rfl rfl)

set_option maxHeartbeats 16000000 in
theorem walked_any (s : ByteArray) (A : Option Addr) (m c : Nat) (n : Int) (w : World) (hs : s.size ≤ 1048576) (hm : (stepsF s).length = m) (hR : RS w A (stepsF s)) (hn0 : -1 ≤ n) (hn1 : n ≤ 255) :
    Calls Try.prog 18 #[.string s, .slice A m c, .int .i64 n] w fun e w' => e = .returned (.bool true) ∧ Below w.heap.size w w' := by
  have hm1 : m ≤ 1048576 := by have := stepsK_len s.size s 0 (by omega); unfold stepsF at hm; omega
  have HM := Lib.hid hm
  have HR := Lib.hid hR
  clear hm hR
  have hfn := fun W => func_nil (.pointer (some ⟨w.heap.size + 1 + 1 + 1, 0, none⟩)) W
  refine (callsIn_wide (n := 6)).1 ?_
  refine callsIn_of_wp_marks Try.func18 rfl trivial ?_ rfl
  simp only [Try.ntmps18, List.size_toArray, List.length_cons, List.length_nil, Nat.reduceAdd, Nat.reduceSub, Array.replicate_succ, Array.replicate_zero, List.push_toArray, List.append_toArray, List.nil_append, List.cons_append]
  refine wpIn_wide.2 ?_
  go_wp2_with (go_at_call 19; refine (all_any s _).mono ?_; rintro e w' ⟨rfl, rfl⟩)
  have e0V : Boxed ((((w.alloc (.cells #[.slice A m c] 32)).alloc (.cells #[.int .i64 n] 3)).alloc (.cells #[.bool false] 4)).alloc (.cells #[.string s] 9)) w.heap.size 32 (.slice A m c) := (((Boxed.new w 32 _).alloc _).alloc _).alloc _
  have e1V : Boxed ((((w.alloc (.cells #[.slice A m c] 32)).alloc (.cells #[.int .i64 n] 3)).alloc (.cells #[.bool false] 4)).alloc (.cells #[.string s] 9)) (w.heap.size + 1) 3 (.int .i64 n) := by
    have := ((Boxed.new (w.alloc (.cells #[.slice A m c] 32)) 3 (.int .i64 n)).alloc (.cells #[.bool false] 4)).alloc (.cells #[.string s] 9)
    rwa [World.size_alloc] at this
  have e2V : Boxed ((((w.alloc (.cells #[.slice A m c] 32)).alloc (.cells #[.int .i64 n] 3)).alloc (.cells #[.bool false] 4)).alloc (.cells #[.string s] 9)) (w.heap.size + 1 + 1) 4 (.bool false) := by
    have := (Boxed.new ((w.alloc (.cells #[.slice A m c] 32)).alloc (.cells #[.int .i64 n] 3)) 4 (.bool false)).alloc (.cells #[.string s] 9)
    rwa [World.size_alloc, World.size_alloc] at this
  have e3V : Boxed ((((w.alloc (.cells #[.slice A m c] 32)).alloc (.cells #[.int .i64 n] 3)).alloc (.cells #[.bool false] 4)).alloc (.cells #[.string s] 9)) (w.heap.size + 1 + 1 + 1) 9 (.string s) := by
    have := Boxed.new (((w.alloc (.cells #[.slice A m c] 32)).alloc (.cells #[.int .i64 n] 3)).alloc (.cells #[.bool false] 4)) 9 (.string s)
    rwa [World.size_alloc, World.size_alloc, World.size_alloc] at this
  have HBV : Hid (Below w.heap.size w ((((w.alloc (.cells #[.slice A m c] 32)).alloc (.cells #[.int .i64 n] 3)).alloc (.cells #[.bool false] 4)).alloc (.cells #[.string s] 9))) := Lib.hid (((((Below.refl _ w).alloc (Nat.le_refl _) _).alloc (by simp) _).alloc (by simp; omega) _).alloc (by simp; omega) _)
  generalize ((((w.alloc (.cells #[.slice A m c] 32)).alloc (.cells #[.int .i64 n] 3)).alloc (.cells #[.bool false] 4)).alloc (.cells #[.string s] 9)) = V at e0V e1V e2V e3V HBV ⊢
  clear hfn
  refine wp_loop_rounds 3 ?_
  rw [rounds_succ]
  go_wp2
  refine (wpIn_wide (n := 6)).1 ?_
  have bK := Boxed.new V 3 (.int .i64 0)
  have hBK : Below V.heap.size V (V.alloc (.cells #[.int .i64 0] 3)) := (Below.refl _ V).alloc (Nat.le_refl _) _
  have hl3 := e3V.lt
  refine wpIn_rangeFunc_ownG rfl (by omega) (gf := 39) (lb := #[.pointer (some ⟨w.heap.size + 1 + 1 + 1, 0, none⟩)]) rfl trivial (enters_of Try.func39 (by kernel_rfl) rfl)
    (all_stops s (by omega) 5 (w.heap.size + 1 + 1 + 1) V.heap.size (by omega) _ (by simp; omega) (e3V.alloc _).cell) (fun h k => h.trans k) (fun W l o o' hl ho hc hw => ⟨belowK_b (w := V) (Nat.le_refl _) W l o o' (by simp at hl; omega) ho hc hw, World.putObj_heap_other (by simp at hl; omega)⟩) (Below.refl _ _) (fun _ => rfl)
    (fun pre W => Boxed W V.heap.size 3 (.int .i64 (pre.length : Nat)) ∧ Below V.heap.size V W)
    (IxW V V.heap.size n (stepsF s))
    (OwnFrom.and (_root_.Go.Own.from (boxed_own _ _ _) _) (ownFrom_below (Nat.le_refl _) (by simp)))
    (IxW_own _ _ _ _ _ (by simp))
    ⟨bK, hBK⟩
    ?a1 ?assign1 ?body1 ?done1 ?stop1
  case assign1 =>
    intro l x W K hK
    gi_wp2
    exact hK
  case body1 =>
    rintro l pre ⟨⟨xa, xp⟩, hxp⟩ W ⟨hbx, hB⟩ hlt
    have q0 : Boxed W w.heap.size 32 (.slice A m c) := (hB.block _ (by omega)).trans e0V
    have q1 : Boxed W (w.heap.size + 1) 3 (.int .i64 n) := (hB.block _ (by omega)).trans e1V
    have q2 : Boxed W (w.heap.size + 1 + 1) 4 (.bool false) := (hB.block _ (by omega)).trans e2V
    have c0 := q0.cell
    have c1 := q1.cell
    have c2 := q2.cell
    have f2 := q2.frozen
    have ck := hbx.cell
    have fk := hbx.frozen
    have hx := (isPt_iff xp).1 hxp
    obtain ⟨hx0, hx1, _⟩ := hx
    clear q0 q1 q2
    obtain ⟨j, hj⟩ : ∃ j, pre.length = j := ⟨_, rfl⟩
    have HJ := Lib.hid hj
    rw [hj] at hbx ck hlt
    rw [HM.out] at hlt
    clear hj
    by_cases hjn : (j : Int) = n
    · have g1 : ((j : Int) == n) = true := by simp; exact hjn
      have HN := Lib.hid hjn
      clear hjn
      gi_wp2
      exact ⟨(KeepsOthers.refl _).from _, .inl ⟨rfl, by rw [← HN.out]; exact hbx, by rw [← HN.out]; omega, hB⟩⟩
    · have g1 : ((j : Int) == n) = false := by simp; exact hjn
      have g2 : (j : Int) < (m : Int) := by omega
      have g2' : ¬ (m : Int) ≤ (j : Int) := by omega
      have hjS : j < (stepsF s).length := by rw [HM.out]; exact hlt
      have hRW := HR.out.below (HBV.out.trans (hB.mono HBV.out.size))
      rcases hRW with h0 | ⟨g, hAg, hcl⟩
      · rw [h0] at hjS; simp at hjS
      obtain ⟨z1, z2⟩ := hcl j hjS
      have hpre : Hid (pre ++ [⟨(xa, xp), hxp⟩] <+: stepsF s → (stepsF s)[j]'hjS = ⟨(xa, xp), hxp⟩) := Lib.hid fun h => by
        have hl : pre.length < (stepsF s).length := by rw [HJ.out]; exact hjS
        have := prefix_get h hl
        have e : ∀ (i : Nat) (hi : i < (stepsF s).length), i = j → (stepsF s)[i]'hi = (stepsF s)[j]'hjS := fun i hi he => by subst he; rfl
        rw [← e _ hl HJ.out]; exact this
      generalize (stepsF s)[j]'hjS = Y at z1 z2 hpre
      obtain ⟨⟨ya, yp⟩, hyp⟩ := Y
      simp only at z1 z2
      subst hAg
      clear hcl hjS hjn
      by_cases h1 : ya = xa
      · by_cases h2 : yp = xp
        · subst h1
          subst h2
          clear hpre
          gi_wp2
          refine ⟨(KeepsOthers.setCell _ _ _).from _, ⟨(Below.refl _ _).setCell (by simp) _, Below.heap_setCell _ _ _ _ (by simp; omega)⟩, ?_, hB.setCell (by simp) _⟩
          rw [List.length_append, HJ.out]
          exact hbx.set _
        · have hno : Hid (¬ pre ++ [⟨(xa, xp), hxp⟩] <+: stepsF s) := Lib.hid fun h => h2 (congrArg (fun z : Step => z.1.2) (hpre.out h))
          have g3 : (yp != xp) = true := by simp; exact h2
          subst h1
          clear hpre h2
          gi_wp2
          exact ⟨(KeepsOthers.setCell _ _ _).from _, .inr ⟨rfl, hno.out⟩⟩
      · have hno : Hid (¬ pre ++ [⟨(xa, xp), hxp⟩] <+: stepsF s) := Lib.hid fun h => h1 (congrArg (fun z : Step => z.1.1) (hpre.out h))
        have g3 : ((ya : Int) != (xa : Int)) = true := by simp; omega
        clear hpre h1
        gi_wp2
        exact ⟨(KeepsOthers.setCell _ _ _).from _, .inr ⟨rfl, hno.out⟩⟩
  case done1 =>
    rintro D1 ys W1 hD1 rfl ⟨hbx, hB⟩ hK1
    rw [HM.out] at hbx
    have e0W : Boxed W1 w.heap.size 32 (.slice A m c) := (hB.block _ (by omega)).trans e0V
    have e1W : Boxed W1 (w.heap.size + 1) 3 (.int .i64 n) := (hB.block _ (by omega)).trans e1V
    have e2W : Boxed W1 (w.heap.size + 1 + 1) 4 (.bool false) := (hB.block _ (by omega)).trans e2V
    have e3W : Boxed W1 (w.heap.size + 1 + 1 + 1) 9 (.string s) := (hB.block _ (by omega)).trans e3V
    have c0 := e0W.cell
    have c1 := e1W.cell
    have c2 := e2W.cell
    have f2 := e2W.frozen
    have ck := hbx.cell
    have HBW := Lib.hid (HBV.out.trans (hB.mono HBV.out.size))
    have hDlt := (Array.getElem?_eq_some_iff.1 hK1).1
    have hr1 : w.heap.size + 1 + 1 < D1 := by have := e2V.lt; rw [World.size_alloc] at hD1; omega
    clear hbx hB e0V e1V e2V e3V HBV
    try refine wpIn_wide.2 ?_
    go_wp2
    all_goals
      rw [rounds_succ]
      go_wp2
    all_goals
      have e0V := e0W
      have e1V := e1W
      have e2V := e2W
      have e3V := e3W
      have HBV := HBW
      clear e0W e1W e2W e3W HBW c0 c1 c2 f2 ck
      refine (wpIn_wide (n := 6)).1 ?_
      have bK := Boxed.new W1 3 (.int .i64 0)
      have hBK : Below W1.heap.size W1 (W1.alloc (.cells #[.int .i64 0] 3)) := (Below.refl _ W1).alloc (Nat.le_refl _) _
      have hl3 := e3V.lt
      refine wpIn_rangeFunc_ownG rfl (by omega) (gf := 39) (lb := #[.pointer (some ⟨w.heap.size + 1 + 1 + 1, 0, none⟩)]) rfl trivial (enters_of Try.func39 (by kernel_rfl) rfl)
        (all_stops s (by omega) 5 (w.heap.size + 1 + 1 + 1) W1.heap.size (by omega) _ (by simp; omega) (e3V.alloc _).cell) (fun h k => h.trans k) (fun W l o o' hl ho hc hw => ⟨belowK_b (w := W1) (Nat.le_refl _) W l o o' (by simp at hl; omega) ho hc hw, World.putObj_heap_other (by simp at hl; omega)⟩) (Below.refl _ _) (fun _ => rfl)
        (fun pre W => Boxed W W1.heap.size 3 (.int .i64 (pre.length : Nat)) ∧ Below W1.heap.size W1 W)
        (IxW W1 W1.heap.size n (stepsF s))
        (OwnFrom.and (_root_.Go.Own.from (boxed_own _ _ _) _) (ownFrom_below (Nat.le_refl _) (by simp)))
        (IxW_own _ _ _ _ _ (by simp))
        ⟨bK, hBK⟩
        ?a2 ?assign2 ?body2 ?done2 ?stop2
      case assign2 =>
        intro l x W K hK
        gi_wp2
        exact hK
      case body2 =>
        rintro l pre ⟨⟨xa, xp⟩, hxp⟩ W ⟨hbx, hB⟩ hlt
        have q0 : Boxed W w.heap.size 32 (.slice A m c) := (hB.block _ (by omega)).trans e0V
        have q1 : Boxed W (w.heap.size + 1) 3 (.int .i64 n) := (hB.block _ (by omega)).trans e1V
        have q2 : Boxed W (w.heap.size + 1 + 1) 4 (.bool false) := (hB.block _ (by omega)).trans e2V
        have c0 := q0.cell
        have c1 := q1.cell
        have c2 := q2.cell
        have f2 := q2.frozen
        have ck := hbx.cell
        have fk := hbx.frozen
        have hx := (isPt_iff xp).1 hxp
        obtain ⟨hx0, hx1, _⟩ := hx
        clear q0 q1 q2
        obtain ⟨j, hj⟩ : ∃ j, pre.length = j := ⟨_, rfl⟩
        have HJ := Lib.hid hj
        rw [hj] at hbx ck hlt
        rw [HM.out] at hlt
        clear hj
        by_cases hjn : (j : Int) = n
        · have g1 : ((j : Int) == n) = true := by simp; exact hjn
          have HN := Lib.hid hjn
          clear hjn
          gi_wp2
          exact ⟨(KeepsOthers.refl _).from _, .inl ⟨rfl, by rw [← HN.out]; exact hbx, by rw [← HN.out]; omega, hB⟩⟩
        · have g1 : ((j : Int) == n) = false := by simp; exact hjn
          have g2 : (j : Int) < (m : Int) := by omega
          have g2' : ¬ (m : Int) ≤ (j : Int) := by omega
          have hjS : j < (stepsF s).length := by rw [HM.out]; exact hlt
          have hRW := HR.out.below (HBV.out.trans (hB.mono HBV.out.size))
          rcases hRW with h0 | ⟨g, hAg, hcl⟩
          · rw [h0] at hjS; simp at hjS
          obtain ⟨z1, z2⟩ := hcl j hjS
          have hpre : Hid (pre ++ [⟨(xa, xp), hxp⟩] <+: stepsF s → (stepsF s)[j]'hjS = ⟨(xa, xp), hxp⟩) := Lib.hid fun h => by
            have hl : pre.length < (stepsF s).length := by rw [HJ.out]; exact hjS
            have := prefix_get h hl
            have e : ∀ (i : Nat) (hi : i < (stepsF s).length), i = j → (stepsF s)[i]'hi = (stepsF s)[j]'hjS := fun i hi he => by subst he; rfl
            rw [← e _ hl HJ.out]; exact this
          generalize (stepsF s)[j]'hjS = Y at z1 z2 hpre
          obtain ⟨⟨ya, yp⟩, hyp⟩ := Y
          simp only at z1 z2
          subst hAg
          clear hcl hjS hjn
          by_cases h1 : ya = xa
          · by_cases h2 : yp = xp
            · subst h1
              subst h2
              clear hpre
              gi_wp2
              refine ⟨(KeepsOthers.setCell _ _ _).from _, ⟨(Below.refl _ _).setCell (by simp) _, Below.heap_setCell _ _ _ _ (by simp; omega)⟩, ?_, hB.setCell (by simp) _⟩
              rw [List.length_append, HJ.out]
              exact hbx.set _
            · have hno : Hid (¬ pre ++ [⟨(xa, xp), hxp⟩] <+: stepsF s) := Lib.hid fun h => h2 (congrArg (fun z : Step => z.1.2) (hpre.out h))
              have g3 : (yp != xp) = true := by simp; exact h2
              subst h1
              clear hpre h2
              gi_wp2
              exact ⟨(KeepsOthers.setCell _ _ _).from _, .inr ⟨rfl, hno.out⟩⟩
          · have hno : Hid (¬ pre ++ [⟨(xa, xp), hxp⟩] <+: stepsF s) := Lib.hid fun h => h1 (congrArg (fun z : Step => z.1.1) (hpre.out h))
            have g3 : ((ya : Int) != (xa : Int)) = true := by simp; omega
            clear hpre h1
            gi_wp2
            exact ⟨(KeepsOthers.setCell _ _ _).from _, .inr ⟨rfl, hno.out⟩⟩
      case done2 =>
        rintro D2 ys W2 hD2 rfl ⟨hbx, hB⟩ hK2
        rw [HM.out] at hbx
        have e0W : Boxed W2 w.heap.size 32 (.slice A m c) := (hB.block _ (by omega)).trans e0V
        have e1W : Boxed W2 (w.heap.size + 1) 3 (.int .i64 n) := (hB.block _ (by omega)).trans e1V
        have e2W : Boxed W2 (w.heap.size + 1 + 1) 4 (.bool false) := (hB.block _ (by omega)).trans e2V
        have e3W : Boxed W2 (w.heap.size + 1 + 1 + 1) 9 (.string s) := (hB.block _ (by omega)).trans e3V
        have c0 := e0W.cell
        have c1 := e1W.cell
        have c2 := e2W.cell
        have f2 := e2W.frozen
        have ck := hbx.cell
        have HBW := Lib.hid (HBV.out.trans (hB.mono HBV.out.size))
        have hK1b : W2.heap[D1]? = some (.deferred (some [])) := (hB.block _ hDlt).trans hK1
        have hne : D1 ≠ D2 := by rw [World.size_alloc] at hD2; omega
        have hr2 : w.heap.size + 1 + 1 < D2 := by have := e2V.lt; rw [World.size_alloc] at hD2; omega
        clear hbx hB e0V e1V e2V e3V HBV
        try refine wpIn_wide.2 ?_
        go_wp2
        all_goals
          rw [rounds_succ]
          go_wp2
        all_goals
          refine ⟨by simp, .inl ⟨_, _, rfl, run_takeDeferred (show (W2.setCell ⟨w.heap.size + 1 + 1, 0, none⟩ (.bool true)).heap[D2]? = some (.deferred (some [])) from (Below.heap_setCell _ _ _ _ (by show D2 ≠ w.heap.size + 1 + 1; omega)).trans hK2), ?_⟩⟩
          refine ⟨by simp, .inl ⟨_, _, rfl, run_takeDeferred (show ((W2.setCell ⟨w.heap.size + 1 + 1, 0, none⟩ (.bool true)).putObj D2 (.deferred none)).heap[D1]? = some (.deferred (some [])) from (World.putObj_heap_other hne).trans ((Below.heap_setCell _ _ _ _ (by show D1 ≠ w.heap.size + 1 + 1; omega)).trans hK1b)), ?_⟩⟩
          exact walked_end HBW.out e2W hr1 hr2 hne hK1b hK2 rfl
      case stop2 =>
        rintro D2 cc pre W2 hD2 hpre hix hK2
        rcases hix with ⟨rfl, hbx, hn2, hB⟩ | ⟨_, h⟩
        · skip
          have e0W : Boxed W2 w.heap.size 32 (.slice A m c) := (hB.block _ (by omega)).trans e0V
          have e1W : Boxed W2 (w.heap.size + 1) 3 (.int .i64 n) := (hB.block _ (by omega)).trans e1V
          have e2W : Boxed W2 (w.heap.size + 1 + 1) 4 (.bool false) := (hB.block _ (by omega)).trans e2V
          have e3W : Boxed W2 (w.heap.size + 1 + 1 + 1) 9 (.string s) := (hB.block _ (by omega)).trans e3V
          have c0 := e0W.cell
          have c1 := e1W.cell
          have c2 := e2W.cell
          have f2 := e2W.frozen
          have ck := hbx.cell
          have HBW := Lib.hid (HBV.out.trans (hB.mono HBV.out.size))
          have hK1b : W2.heap[D1]? = some (.deferred (some [])) := (hB.block _ hDlt).trans hK1
          have hne : D1 ≠ D2 := by rw [World.size_alloc] at hD2; omega
          have hr2 : w.heap.size + 1 + 1 < D2 := by have := e2V.lt; rw [World.size_alloc] at hD2; omega
          clear hbx hB e0V e1V e2V e3V HBV
          try refine wpIn_wide.2 ?_
          go_wp2
          all_goals
            rw [rounds_succ]
            go_wp2
          all_goals
            refine ⟨by simp, .inl ⟨_, _, rfl, run_takeDeferred (show (W2.setCell ⟨w.heap.size + 1 + 1, 0, none⟩ (.bool true)).heap[D2]? = some (.deferred (some [])) from (Below.heap_setCell _ _ _ _ (by show D2 ≠ w.heap.size + 1 + 1; omega)).trans hK2), ?_⟩⟩
            refine ⟨by simp, .inl ⟨_, _, rfl, run_takeDeferred (show ((W2.setCell ⟨w.heap.size + 1 + 1, 0, none⟩ (.bool true)).putObj D2 (.deferred none)).heap[D1]? = some (.deferred (some [])) from (World.putObj_heap_other hne).trans ((Below.heap_setCell _ _ _ _ (by show D1 ≠ w.heap.size + 1 + 1; omega)).trans hK1b)), ?_⟩⟩
            exact walked_end HBW.out e2W hr1 hr2 hne hK1b hK2 rfl
        · exact absurd hpre h
  case stop1 =>
    rintro D1 cc pre W1 hD1 hpre hix hK1
    rcases hix with ⟨rfl, hbx, hn2, hB⟩ | ⟨_, h⟩
    · skip
      rcases hnm : (n != (m : Int)) with _ | _
      · have e0W : Boxed W1 w.heap.size 32 (.slice A m c) := (hB.block _ (by omega)).trans e0V
        have e1W : Boxed W1 (w.heap.size + 1) 3 (.int .i64 n) := (hB.block _ (by omega)).trans e1V
        have e2W : Boxed W1 (w.heap.size + 1 + 1) 4 (.bool false) := (hB.block _ (by omega)).trans e2V
        have e3W : Boxed W1 (w.heap.size + 1 + 1 + 1) 9 (.string s) := (hB.block _ (by omega)).trans e3V
        have c0 := e0W.cell
        have c1 := e1W.cell
        have c2 := e2W.cell
        have f2 := e2W.frozen
        have ck := hbx.cell
        have HBW := Lib.hid (HBV.out.trans (hB.mono HBV.out.size))
        have hDlt := (Array.getElem?_eq_some_iff.1 hK1).1
        have hr1 : w.heap.size + 1 + 1 < D1 := by have := e2V.lt; rw [World.size_alloc] at hD1; omega
        clear hbx hB e0V e1V e2V e3V HBV
        try refine wpIn_wide.2 ?_
        go_wp2
        all_goals
          rw [rounds_succ]
          go_wp2
        all_goals
          have e0V := e0W
          have e1V := e1W
          have e2V := e2W
          have e3V := e3W
          have HBV := HBW
          clear e0W e1W e2W e3W HBW c0 c1 c2 f2 ck
          refine (wpIn_wide (n := 6)).1 ?_
          have bK := Boxed.new W1 3 (.int .i64 0)
          have hBK : Below W1.heap.size W1 (W1.alloc (.cells #[.int .i64 0] 3)) := (Below.refl _ W1).alloc (Nat.le_refl _) _
          have hl3 := e3V.lt
          refine wpIn_rangeFunc_ownG rfl (by omega) (gf := 39) (lb := #[.pointer (some ⟨w.heap.size + 1 + 1 + 1, 0, none⟩)]) rfl trivial (enters_of Try.func39 (by kernel_rfl) rfl)
            (all_stops s (by omega) 5 (w.heap.size + 1 + 1 + 1) W1.heap.size (by omega) _ (by simp; omega) (e3V.alloc _).cell) (fun h k => h.trans k) (fun W l o o' hl ho hc hw => ⟨belowK_b (w := W1) (Nat.le_refl _) W l o o' (by simp at hl; omega) ho hc hw, World.putObj_heap_other (by simp at hl; omega)⟩) (Below.refl _ _) (fun _ => rfl)
            (fun pre W => Boxed W W1.heap.size 3 (.int .i64 (pre.length : Nat)) ∧ Below W1.heap.size W1 W)
            (IxW W1 W1.heap.size n (stepsF s))
            (OwnFrom.and (_root_.Go.Own.from (boxed_own _ _ _) _) (ownFrom_below (Nat.le_refl _) (by simp)))
            (IxW_own _ _ _ _ _ (by simp))
            ⟨bK, hBK⟩
            ?a3 ?assign3 ?body3 ?done3 ?stop3
          case assign3 =>
            intro l x W K hK
            gi_wp2
            exact hK
          case body3 =>
            rintro l pre ⟨⟨xa, xp⟩, hxp⟩ W ⟨hbx, hB⟩ hlt
            have q0 : Boxed W w.heap.size 32 (.slice A m c) := (hB.block _ (by omega)).trans e0V
            have q1 : Boxed W (w.heap.size + 1) 3 (.int .i64 n) := (hB.block _ (by omega)).trans e1V
            have q2 : Boxed W (w.heap.size + 1 + 1) 4 (.bool false) := (hB.block _ (by omega)).trans e2V
            have c0 := q0.cell
            have c1 := q1.cell
            have c2 := q2.cell
            have f2 := q2.frozen
            have ck := hbx.cell
            have fk := hbx.frozen
            have hx := (isPt_iff xp).1 hxp
            obtain ⟨hx0, hx1, _⟩ := hx
            clear q0 q1 q2
            obtain ⟨j, hj⟩ : ∃ j, pre.length = j := ⟨_, rfl⟩
            have HJ := Lib.hid hj
            rw [hj] at hbx ck hlt
            rw [HM.out] at hlt
            clear hj
            by_cases hjn : (j : Int) = n
            · have g1 : ((j : Int) == n) = true := by simp; exact hjn
              have HN := Lib.hid hjn
              clear hjn
              gi_wp2
              exact ⟨(KeepsOthers.refl _).from _, .inl ⟨rfl, by rw [← HN.out]; exact hbx, by rw [← HN.out]; omega, hB⟩⟩
            · have g1 : ((j : Int) == n) = false := by simp; exact hjn
              have g2 : (j : Int) < (m : Int) := by omega
              have g2' : ¬ (m : Int) ≤ (j : Int) := by omega
              have hjS : j < (stepsF s).length := by rw [HM.out]; exact hlt
              have hRW := HR.out.below (HBV.out.trans (hB.mono HBV.out.size))
              rcases hRW with h0 | ⟨g, hAg, hcl⟩
              · rw [h0] at hjS; simp at hjS
              obtain ⟨z1, z2⟩ := hcl j hjS
              have hpre : Hid (pre ++ [⟨(xa, xp), hxp⟩] <+: stepsF s → (stepsF s)[j]'hjS = ⟨(xa, xp), hxp⟩) := Lib.hid fun h => by
                have hl : pre.length < (stepsF s).length := by rw [HJ.out]; exact hjS
                have := prefix_get h hl
                have e : ∀ (i : Nat) (hi : i < (stepsF s).length), i = j → (stepsF s)[i]'hi = (stepsF s)[j]'hjS := fun i hi he => by subst he; rfl
                rw [← e _ hl HJ.out]; exact this
              generalize (stepsF s)[j]'hjS = Y at z1 z2 hpre
              obtain ⟨⟨ya, yp⟩, hyp⟩ := Y
              simp only at z1 z2
              subst hAg
              clear hcl hjS hjn
              by_cases h1 : ya = xa
              · by_cases h2 : yp = xp
                · subst h1
                  subst h2
                  clear hpre
                  gi_wp2
                  refine ⟨(KeepsOthers.setCell _ _ _).from _, ⟨(Below.refl _ _).setCell (by simp) _, Below.heap_setCell _ _ _ _ (by simp; omega)⟩, ?_, hB.setCell (by simp) _⟩
                  rw [List.length_append, HJ.out]
                  exact hbx.set _
                · have hno : Hid (¬ pre ++ [⟨(xa, xp), hxp⟩] <+: stepsF s) := Lib.hid fun h => h2 (congrArg (fun z : Step => z.1.2) (hpre.out h))
                  have g3 : (yp != xp) = true := by simp; exact h2
                  subst h1
                  clear hpre h2
                  gi_wp2
                  exact ⟨(KeepsOthers.setCell _ _ _).from _, .inr ⟨rfl, hno.out⟩⟩
              · have hno : Hid (¬ pre ++ [⟨(xa, xp), hxp⟩] <+: stepsF s) := Lib.hid fun h => h1 (congrArg (fun z : Step => z.1.1) (hpre.out h))
                have g3 : ((ya : Int) != (xa : Int)) = true := by simp; omega
                clear hpre h1
                gi_wp2
                exact ⟨(KeepsOthers.setCell _ _ _).from _, .inr ⟨rfl, hno.out⟩⟩
          case done3 =>
            rintro D2 ys W2 hD2 rfl ⟨hbx, hB⟩ hK2
            rw [HM.out] at hbx
            have e0W : Boxed W2 w.heap.size 32 (.slice A m c) := (hB.block _ (by omega)).trans e0V
            have e1W : Boxed W2 (w.heap.size + 1) 3 (.int .i64 n) := (hB.block _ (by omega)).trans e1V
            have e2W : Boxed W2 (w.heap.size + 1 + 1) 4 (.bool false) := (hB.block _ (by omega)).trans e2V
            have e3W : Boxed W2 (w.heap.size + 1 + 1 + 1) 9 (.string s) := (hB.block _ (by omega)).trans e3V
            have c0 := e0W.cell
            have c1 := e1W.cell
            have c2 := e2W.cell
            have f2 := e2W.frozen
            have ck := hbx.cell
            have HBW := Lib.hid (HBV.out.trans (hB.mono HBV.out.size))
            have hK1b : W2.heap[D1]? = some (.deferred (some [])) := (hB.block _ hDlt).trans hK1
            have hne : D1 ≠ D2 := by rw [World.size_alloc] at hD2; omega
            have hr2 : w.heap.size + 1 + 1 < D2 := by have := e2V.lt; rw [World.size_alloc] at hD2; omega
            clear hbx hB e0V e1V e2V e3V HBV
            try refine wpIn_wide.2 ?_
            go_wp2
            all_goals
              rw [rounds_succ]
              go_wp2
            all_goals
              refine ⟨by simp, .inl ⟨_, _, rfl, run_takeDeferred (show (W2.setCell ⟨w.heap.size + 1 + 1, 0, none⟩ (.bool true)).heap[D2]? = some (.deferred (some [])) from (Below.heap_setCell _ _ _ _ (by show D2 ≠ w.heap.size + 1 + 1; omega)).trans hK2), ?_⟩⟩
              refine ⟨by simp, .inl ⟨_, _, rfl, run_takeDeferred (show ((W2.setCell ⟨w.heap.size + 1 + 1, 0, none⟩ (.bool true)).putObj D2 (.deferred none)).heap[D1]? = some (.deferred (some [])) from (World.putObj_heap_other hne).trans ((Below.heap_setCell _ _ _ _ (by show D1 ≠ w.heap.size + 1 + 1; omega)).trans hK1b)), ?_⟩⟩
              exact walked_end HBW.out e2W hr1 hr2 hne hK1b hK2 rfl
          case stop3 =>
            rintro D2 cc pre W2 hD2 hpre hix hK2
            rcases hix with ⟨rfl, hbx, hn2, hB⟩ | ⟨_, h⟩
            · skip
              have e0W : Boxed W2 w.heap.size 32 (.slice A m c) := (hB.block _ (by omega)).trans e0V
              have e1W : Boxed W2 (w.heap.size + 1) 3 (.int .i64 n) := (hB.block _ (by omega)).trans e1V
              have e2W : Boxed W2 (w.heap.size + 1 + 1) 4 (.bool false) := (hB.block _ (by omega)).trans e2V
              have e3W : Boxed W2 (w.heap.size + 1 + 1 + 1) 9 (.string s) := (hB.block _ (by omega)).trans e3V
              have c0 := e0W.cell
              have c1 := e1W.cell
              have c2 := e2W.cell
              have f2 := e2W.frozen
              have ck := hbx.cell
              have HBW := Lib.hid (HBV.out.trans (hB.mono HBV.out.size))
              have hK1b : W2.heap[D1]? = some (.deferred (some [])) := (hB.block _ hDlt).trans hK1
              have hne : D1 ≠ D2 := by rw [World.size_alloc] at hD2; omega
              have hr2 : w.heap.size + 1 + 1 < D2 := by have := e2V.lt; rw [World.size_alloc] at hD2; omega
              clear hbx hB e0V e1V e2V e3V HBV
              try refine wpIn_wide.2 ?_
              go_wp2
              all_goals
                rw [rounds_succ]
                go_wp2
              all_goals
                refine ⟨by simp, .inl ⟨_, _, rfl, run_takeDeferred (show (W2.setCell ⟨w.heap.size + 1 + 1, 0, none⟩ (.bool true)).heap[D2]? = some (.deferred (some [])) from (Below.heap_setCell _ _ _ _ (by show D2 ≠ w.heap.size + 1 + 1; omega)).trans hK2), ?_⟩⟩
                refine ⟨by simp, .inl ⟨_, _, rfl, run_takeDeferred (show ((W2.setCell ⟨w.heap.size + 1 + 1, 0, none⟩ (.bool true)).putObj D2 (.deferred none)).heap[D1]? = some (.deferred (some [])) from (World.putObj_heap_other hne).trans ((Below.heap_setCell _ _ _ _ (by show D1 ≠ w.heap.size + 1 + 1; omega)).trans hK1b)), ?_⟩⟩
                exact walked_end HBW.out e2W hr1 hr2 hne hK1b hK2 rfl
            · exact absurd hpre h
      · have e0W : Boxed W1 w.heap.size 32 (.slice A m c) := (hB.block _ (by omega)).trans e0V
        have e1W : Boxed W1 (w.heap.size + 1) 3 (.int .i64 n) := (hB.block _ (by omega)).trans e1V
        have e2W : Boxed W1 (w.heap.size + 1 + 1) 4 (.bool false) := (hB.block _ (by omega)).trans e2V
        have e3W : Boxed W1 (w.heap.size + 1 + 1 + 1) 9 (.string s) := (hB.block _ (by omega)).trans e3V
        have c0 := e0W.cell
        have c1 := e1W.cell
        have c2 := e2W.cell
        have f2 := e2W.frozen
        have ck := hbx.cell
        have HBW := Lib.hid (HBV.out.trans (hB.mono HBV.out.size))
        have hDlt := (Array.getElem?_eq_some_iff.1 hK1).1
        have hr1 : w.heap.size + 1 + 1 < D1 := by have := e2V.lt; rw [World.size_alloc] at hD1; omega
        clear hbx hB e0V e1V e2V e3V HBV
        try refine wpIn_wide.2 ?_
        go_wp2
        all_goals
          rw [rounds_succ]
          go_wp2
        all_goals
          have e0V := e0W
          have e1V := e1W
          have e2V := e2W
          have e3V := e3W
          have HBV := HBW
          clear e0W e1W e2W e3W HBW c0 c1 c2 f2 ck
          refine (wpIn_wide (n := 6)).1 ?_
          have bK := Boxed.new W1 3 (.int .i64 0)
          have hBK : Below W1.heap.size W1 (W1.alloc (.cells #[.int .i64 0] 3)) := (Below.refl _ W1).alloc (Nat.le_refl _) _
          have hl3 := e3V.lt
          refine wpIn_rangeFunc_ownG rfl (by omega) (gf := 39) (lb := #[.pointer (some ⟨w.heap.size + 1 + 1 + 1, 0, none⟩)]) rfl trivial (enters_of Try.func39 (by kernel_rfl) rfl)
            (all_stops s (by omega) 5 (w.heap.size + 1 + 1 + 1) W1.heap.size (by omega) _ (by simp; omega) (e3V.alloc _).cell) (fun h k => h.trans k) (fun W l o o' hl ho hc hw => ⟨belowK_b (w := W1) (Nat.le_refl _) W l o o' (by simp at hl; omega) ho hc hw, World.putObj_heap_other (by simp at hl; omega)⟩) (Below.refl _ _) (fun _ => rfl)
            (fun pre W => Boxed W W1.heap.size 3 (.int .i64 (pre.length : Nat)) ∧ Below W1.heap.size W1 W)
            (IxW W1 W1.heap.size n (stepsF s))
            (OwnFrom.and (_root_.Go.Own.from (boxed_own _ _ _) _) (ownFrom_below (Nat.le_refl _) (by simp)))
            (IxW_own _ _ _ _ _ (by simp))
            ⟨bK, hBK⟩
            ?a4 ?assign4 ?body4 ?done4 ?stop4
          case assign4 =>
            intro l x W K hK
            gi_wp2
            exact hK
          case body4 =>
            rintro l pre ⟨⟨xa, xp⟩, hxp⟩ W ⟨hbx, hB⟩ hlt
            have q0 : Boxed W w.heap.size 32 (.slice A m c) := (hB.block _ (by omega)).trans e0V
            have q1 : Boxed W (w.heap.size + 1) 3 (.int .i64 n) := (hB.block _ (by omega)).trans e1V
            have q2 : Boxed W (w.heap.size + 1 + 1) 4 (.bool false) := (hB.block _ (by omega)).trans e2V
            have c0 := q0.cell
            have c1 := q1.cell
            have c2 := q2.cell
            have f2 := q2.frozen
            have ck := hbx.cell
            have fk := hbx.frozen
            have hx := (isPt_iff xp).1 hxp
            obtain ⟨hx0, hx1, _⟩ := hx
            clear q0 q1 q2
            obtain ⟨j, hj⟩ : ∃ j, pre.length = j := ⟨_, rfl⟩
            have HJ := Lib.hid hj
            rw [hj] at hbx ck hlt
            rw [HM.out] at hlt
            clear hj
            by_cases hjn : (j : Int) = n
            · have g1 : ((j : Int) == n) = true := by simp; exact hjn
              have HN := Lib.hid hjn
              clear hjn
              gi_wp2
              exact ⟨(KeepsOthers.refl _).from _, .inl ⟨rfl, by rw [← HN.out]; exact hbx, by rw [← HN.out]; omega, hB⟩⟩
            · have g1 : ((j : Int) == n) = false := by simp; exact hjn
              have g2 : (j : Int) < (m : Int) := by omega
              have g2' : ¬ (m : Int) ≤ (j : Int) := by omega
              have hjS : j < (stepsF s).length := by rw [HM.out]; exact hlt
              have hRW := HR.out.below (HBV.out.trans (hB.mono HBV.out.size))
              rcases hRW with h0 | ⟨g, hAg, hcl⟩
              · rw [h0] at hjS; simp at hjS
              obtain ⟨z1, z2⟩ := hcl j hjS
              have hpre : Hid (pre ++ [⟨(xa, xp), hxp⟩] <+: stepsF s → (stepsF s)[j]'hjS = ⟨(xa, xp), hxp⟩) := Lib.hid fun h => by
                have hl : pre.length < (stepsF s).length := by rw [HJ.out]; exact hjS
                have := prefix_get h hl
                have e : ∀ (i : Nat) (hi : i < (stepsF s).length), i = j → (stepsF s)[i]'hi = (stepsF s)[j]'hjS := fun i hi he => by subst he; rfl
                rw [← e _ hl HJ.out]; exact this
              generalize (stepsF s)[j]'hjS = Y at z1 z2 hpre
              obtain ⟨⟨ya, yp⟩, hyp⟩ := Y
              simp only at z1 z2
              subst hAg
              clear hcl hjS hjn
              by_cases h1 : ya = xa
              · by_cases h2 : yp = xp
                · subst h1
                  subst h2
                  clear hpre
                  gi_wp2
                  refine ⟨(KeepsOthers.setCell _ _ _).from _, ⟨(Below.refl _ _).setCell (by simp) _, Below.heap_setCell _ _ _ _ (by simp; omega)⟩, ?_, hB.setCell (by simp) _⟩
                  rw [List.length_append, HJ.out]
                  exact hbx.set _
                · have hno : Hid (¬ pre ++ [⟨(xa, xp), hxp⟩] <+: stepsF s) := Lib.hid fun h => h2 (congrArg (fun z : Step => z.1.2) (hpre.out h))
                  have g3 : (yp != xp) = true := by simp; exact h2
                  subst h1
                  clear hpre h2
                  gi_wp2
                  exact ⟨(KeepsOthers.setCell _ _ _).from _, .inr ⟨rfl, hno.out⟩⟩
              · have hno : Hid (¬ pre ++ [⟨(xa, xp), hxp⟩] <+: stepsF s) := Lib.hid fun h => h1 (congrArg (fun z : Step => z.1.1) (hpre.out h))
                have g3 : ((ya : Int) != (xa : Int)) = true := by simp; omega
                clear hpre h1
                gi_wp2
                exact ⟨(KeepsOthers.setCell _ _ _).from _, .inr ⟨rfl, hno.out⟩⟩
          case done4 =>
            rintro D2 ys W2 hD2 rfl ⟨hbx, hB⟩ hK2
            rw [HM.out] at hbx
            have e0W : Boxed W2 w.heap.size 32 (.slice A m c) := (hB.block _ (by omega)).trans e0V
            have e1W : Boxed W2 (w.heap.size + 1) 3 (.int .i64 n) := (hB.block _ (by omega)).trans e1V
            have e2W : Boxed W2 (w.heap.size + 1 + 1) 4 (.bool false) := (hB.block _ (by omega)).trans e2V
            have e3W : Boxed W2 (w.heap.size + 1 + 1 + 1) 9 (.string s) := (hB.block _ (by omega)).trans e3V
            have c0 := e0W.cell
            have c1 := e1W.cell
            have c2 := e2W.cell
            have f2 := e2W.frozen
            have ck := hbx.cell
            have HBW := Lib.hid (HBV.out.trans (hB.mono HBV.out.size))
            have hK1b : W2.heap[D1]? = some (.deferred (some [])) := (hB.block _ hDlt).trans hK1
            have hne : D1 ≠ D2 := by rw [World.size_alloc] at hD2; omega
            have hr2 : w.heap.size + 1 + 1 < D2 := by have := e2V.lt; rw [World.size_alloc] at hD2; omega
            clear hbx hB e0V e1V e2V e3V HBV
            try refine wpIn_wide.2 ?_
            go_wp2
            all_goals
              rw [rounds_succ]
              go_wp2
            all_goals
              refine ⟨by simp, .inl ⟨_, _, rfl, run_takeDeferred (show (W2.setCell ⟨w.heap.size + 1 + 1, 0, none⟩ (.bool true)).heap[D2]? = some (.deferred (some [])) from (Below.heap_setCell _ _ _ _ (by show D2 ≠ w.heap.size + 1 + 1; omega)).trans hK2), ?_⟩⟩
              refine ⟨by simp, .inl ⟨_, _, rfl, run_takeDeferred (show ((W2.setCell ⟨w.heap.size + 1 + 1, 0, none⟩ (.bool true)).putObj D2 (.deferred none)).heap[D1]? = some (.deferred (some [])) from (World.putObj_heap_other hne).trans ((Below.heap_setCell _ _ _ _ (by show D1 ≠ w.heap.size + 1 + 1; omega)).trans hK1b)), ?_⟩⟩
              exact walked_end HBW.out e2W hr1 hr2 hne hK1b hK2 rfl
          case stop4 =>
            rintro D2 cc pre W2 hD2 hpre hix hK2
            rcases hix with ⟨rfl, hbx, hn2, hB⟩ | ⟨_, h⟩
            · skip
              have e0W : Boxed W2 w.heap.size 32 (.slice A m c) := (hB.block _ (by omega)).trans e0V
              have e1W : Boxed W2 (w.heap.size + 1) 3 (.int .i64 n) := (hB.block _ (by omega)).trans e1V
              have e2W : Boxed W2 (w.heap.size + 1 + 1) 4 (.bool false) := (hB.block _ (by omega)).trans e2V
              have e3W : Boxed W2 (w.heap.size + 1 + 1 + 1) 9 (.string s) := (hB.block _ (by omega)).trans e3V
              have c0 := e0W.cell
              have c1 := e1W.cell
              have c2 := e2W.cell
              have f2 := e2W.frozen
              have ck := hbx.cell
              have HBW := Lib.hid (HBV.out.trans (hB.mono HBV.out.size))
              have hK1b : W2.heap[D1]? = some (.deferred (some [])) := (hB.block _ hDlt).trans hK1
              have hne : D1 ≠ D2 := by rw [World.size_alloc] at hD2; omega
              have hr2 : w.heap.size + 1 + 1 < D2 := by have := e2V.lt; rw [World.size_alloc] at hD2; omega
              clear hbx hB e0V e1V e2V e3V HBV
              try refine wpIn_wide.2 ?_
              go_wp2
              all_goals
                rw [rounds_succ]
                go_wp2
              all_goals
                refine ⟨by simp, .inl ⟨_, _, rfl, run_takeDeferred (show (W2.setCell ⟨w.heap.size + 1 + 1, 0, none⟩ (.bool true)).heap[D2]? = some (.deferred (some [])) from (Below.heap_setCell _ _ _ _ (by show D2 ≠ w.heap.size + 1 + 1; omega)).trans hK2), ?_⟩⟩
                refine ⟨by simp, .inl ⟨_, _, rfl, run_takeDeferred (show ((W2.setCell ⟨w.heap.size + 1 + 1, 0, none⟩ (.bool true)).putObj D2 (.deferred none)).heap[D1]? = some (.deferred (some [])) from (World.putObj_heap_other hne).trans ((Below.heap_setCell _ _ _ _ (by show D1 ≠ w.heap.size + 1 + 1; omega)).trans hK1b)), ?_⟩⟩
                exact walked_end HBW.out e2W hr1 hr2 hne hK1b hK2 rfl
            · exact absurd hpre h
    · exact absurd hpre h
end Go.Proofs.Ytolnnkalgioobaa
