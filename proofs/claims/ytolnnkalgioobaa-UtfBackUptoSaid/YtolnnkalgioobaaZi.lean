/- The walk of UtfTells, where the place is none of the text. -/
import Derived.Test.YtolnnkalgioobaaZh
namespace Go.Proofs.Ytolnnkalgioobaa
open Go.RowKit Go.Shelf
attribute [local go_sem] Oper.semAt_some
set_option maxRecDepth 100000
set_option linter.unusedVariables false
set_option linter.unusedSimpArgs false
set_option linter.unnecessarySimpa false

set_option maxHeartbeats 4000000 in
theorem tells_neg (s : ByteArray) (a : Int) (w : World) (hs : s.size ≤ 1048576) (ha : a < 0) :
    Calls Try.prog 6 #[.string s, .int .i64 a] w fun e w' => e = .returned (.bool true) ∧ Below w.heap.size w w' := by
  have la : ¬ 0 ≤ a := by omega
  refine (callsIn_wide (n := 6)).1 ?_
  refine callsIn_of_wp_marks Try.func6 rfl trivial ?_ rfl
  simp only [Try.ntmps6, List.size_toArray, List.length_cons, List.length_nil, Nat.reduceAdd, Nat.reduceSub, Array.replicate_succ, Array.replicate_zero, List.push_toArray, List.append_toArray, List.nil_append, List.cons_append]
  refine wpIn_wide.2 ?_
  go_upto_if 29 with fail
  have hc0 : ((w.alloc (.cells #[.string s] 9)).alloc (.cells #[.bool false] 4)).cell? ⟨w.heap.size, 0, none⟩ = some (.string s) := by simp
  have hbk0 : Boxed ((w.alloc (.cells #[.string s] 9)).alloc (.cells #[.bool false] 4)) w.heap.size 9 (.string s) := (Boxed.new w 9 _).alloc _
  have hbk1 : Boxed ((w.alloc (.cells #[.string s] 9)).alloc (.cells #[.bool false] 4)) (w.heap.size + 1) 4 (.bool false) := by
    have := Boxed.new (w.alloc (.cells #[.string s] 9)) 4 (.bool false)
    rwa [World.size_alloc] at this
  have hw0 : Below w.heap.size w ((w.alloc (.cells #[.string s] 9)).alloc (.cells #[.bool false] 4)) := ((Below.refl _ w).alloc (Nat.le_refl _) _).alloc (by simp) _
  generalize ((w.alloc (.cells #[.string s] 9)).alloc (.cells #[.bool false] 4)) = W0 at hc0 hbk0 hbk1 hw0 ⊢
  have hcK := Lib.hid fun (W : World) (h : Below W0.heap.size W0 W) => (h.cell (World.block_lt_of_cell? W0 _ hc0)).trans hc0
  go_cut [] from 5 to 128 (fun W => Below W0.heap.size W0 W)
  case first =>
    go_wp2
    go_meet
    exact Below.refl _ _
  case rest =>
    clear hcK hc0
    have hN1 := hbk1.lt
    have hs0 : Boxed wc w.heap.size 9 (.string s) := (hcut.block _ (by omega)).trans hbk0
    have hs1 : Boxed wc (w.heap.size + 1) 4 (.bool false) := (hcut.block _ (by omega)).trans hbk1
    have hc0 := hs0.cell
    have hM1 := hs1.lt
    have hwc : Below w.heap.size w wc := hw0.trans (hcut.mono hw0.size)
    clear hbk0 hbk1 hw0 hcut hN1
    have hc1 : (wc.alloc (.cells #[.int .i64 0] 3)).cell? ⟨w.heap.size, 0, none⟩ = some (.string s) := (hs0.alloc _).cell
    have hfn := fun W => func_nil (.pointer (some ⟨wc.heap.size + 1, 0, none⟩)) W
    go_wp2_with (go_at_call 19; refine (all_any s _).mono ?_; rintro e w' ⟨rfl, rfl⟩)
    refine (wpIn_wide (n := 6)).1 ?_
    have bP := Boxed.new wc 3 (.int .i64 0)
    have bN := Boxed.new (wc.alloc (.cells #[.int .i64 0] 3)) 9 (.string s)
    rw [World.size_alloc] at bN
    have hB0 : Below wc.heap.size wc ((wc.alloc (.cells #[.int .i64 0] 3)).alloc (.cells #[.string s] 9)) := ((Below.refl _ wc).alloc (Nat.le_refl _) _).alloc (by simp) _
    refine wpIn_rangeFunc_ownG rfl (by omega) (gf := 39) (lb := #[.pointer (some ⟨wc.heap.size + 1, 0, none⟩)]) rfl trivial (enters_of Try.func39 (by kernel_rfl) rfl)
      (all_stops s (by omega) 5 (wc.heap.size + 1) wc.heap.size (by omega) _ (by simp) bN.cell) (fun h k => h.trans k) (fun W l o o' hl ho hc hw => ⟨belowK_b (w := wc) (Nat.le_refl _) W l o o' (by simp at hl; omega) ho hc hw, World.putObj_heap_other (by simp at hl; omega)⟩) (Below.refl _ _) (fun _ => rfl)
      (fun pre W => (Boxed W wc.heap.size 3 (.int .i64 (placeA 0 pre : Nat)) ∧ placeA 0 pre ≤ s.size) ∧ (Below wc.heap.size wc W ∧ Boxed W (wc.heap.size + 1) 9 (.string s)))
      (fun _ pre _ => ¬ pre <+: stepsF s)
      (OwnFrom.and (OwnFrom.and (_root_.Go.Own.from (boxed_own _ _ _) _) (ownFrom_pure _ _)) (OwnFrom.and (ownFrom_below (Nat.le_refl _) (by simp; omega)) (_root_.Go.Own.from (boxed_own _ _ _) _)))
      (fun _ _ _ _ _ hs _ _ => hs)
      ⟨⟨bP.alloc _, Nat.zero_le _⟩, hB0, bN⟩
      ?a1 ?assign ?body ?done ?stop
    case assign =>
      intro l x W K hK
      gi_wp2
      exact hK
    case body =>
      rintro l pre ⟨⟨xa, xp⟩, hxp⟩ W ⟨⟨hbx, hle⟩, hB, hbs⟩ hlt
      have hN : Boxed W w.heap.size 9 (.string s) := (hB.block _ (by omega)).trans hs0
      have hN1 : Boxed W (w.heap.size + 1) 4 (.bool false) := (hB.block _ (by omega)).trans hs1
      have hcs := hN.cell
      have hcr := hN1.cell
      have hfr := hN1.frozen
      have hcp := hbx.cell
      have hfp := hbx.frozen
      have cf := fun W => first_any s (placeA 0 pre) W (by omega)
      have hnext := Lib.hid (stepsK_next s s.size 0 pre ⟨(xa, xp), hxp⟩)
      have hfin := Lib.hid (placeA_snoc 0 pre ⟨(xa, xp), hxp⟩)
      generalize placeA 0 pre = q at *
      have h1n : 1 ≤ 6 - 1 - 1 := by omega
      rcases hd : decS s q with _ | ⟨p, n⟩
      · have hno : Hid (¬ pre ++ [⟨(xa, xp), hxp⟩] <+: stepsF s) := Lib.hid fun h => by have := (hnext.out h).1; rw [hd] at this; cases this
        rw [hd] at cf
        simp only [firstV] at cf
        clear hnext hfin hd hc0 hc1 hfn
        gi_wp2_with (refine ⟨trivial, ?_⟩; gi_at_call 12; refine (CallsIn.inRound l (callsIn_wide.2 (cf W))).mono ?_; rintro e w1 ⟨rfl, rfl⟩)
        exact ⟨(KeepsOthers.setCell _ _ _).from _, hno.out⟩
      · rw [hd] at cf
        simp only [firstV] at cf
        have hds := decS_some hd
        have hn : n = sizeP p := dec4_size hd
        have hneq : ∀ h : ¬ (xa = q ∧ xp = p), Hid (¬ pre ++ [⟨(xa, xp), hxp⟩] <+: stepsF s) := fun h => Lib.hid fun k => h (by
          have k2 := hnext.out k
          refine ⟨k2.2, ?_⟩
          have k3 := k2.1
          rw [hd] at k3
          exact (Prod.mk.inj (Option.some.inj k3)).1.symm)
        have hgo : ∀ h : xa = q ∧ xp = p, Hid (placeA 0 (pre ++ [⟨(xa, xp), hxp⟩]) = q + n) := fun h => Lib.hid (by rw [hfin.out, hn]; simp only [h.1, h.2])
        have HGO := Lib.hid hgo
        have HNE := Lib.hid hneq
        obtain ⟨_, n1, n4, nf⟩ := hds
        clear hnext hfin hd hn hgo hneq hc0 hc1 hfn
        by_cases h1 : xa = q
        · by_cases h2 : xp = p
          · have hg := HGO.out ⟨h1, h2⟩
            subst h1
            subst h2
            clear HGO HNE
            gi_wp2_with (refine ⟨trivial, ?_⟩; gi_at_call 12; refine (CallsIn.inRound l (callsIn_wide.2 (cf W))).mono ?_; rintro e w1 ⟨rfl, rfl⟩)
            refine ⟨(KeepsOthers.setCell _ _ _).from _, ⟨(Below.refl _ _).setCell (by simp) _, Below.heap_setCell _ _ _ _ (by simp)⟩, ⟨?_, ?_⟩, hB.setCell (by simp) _, hbs.other (by simp) _⟩
            · rw [hg.out]
              have := hbx.set (.int .i64 ((xa : Int) + (n : Int)))
              exact this
            · rw [hg.out]; omega
          · have hno := HNE.out (fun h => h2 h.2)
            have g1 : (p != xp) = true := by simp; exact fun h => h2 h.symm
            subst h1
            clear HGO HNE h2
            gi_wp2_with (refine ⟨trivial, ?_⟩; gi_at_call 12; refine (CallsIn.inRound l (callsIn_wide.2 (cf W))).mono ?_; rintro e w1 ⟨rfl, rfl⟩)
            exact ⟨(KeepsOthers.setCell _ _ _).from _, hno.out⟩
        · have hno := HNE.out (fun h => h1 h.1)
          have g1 : ((xa : Int) != (q : Int)) = true := by simp; omega
          clear HGO HNE
          gi_wp2_with (refine ⟨trivial, ?_⟩; gi_at_call 12; refine (CallsIn.inRound l (callsIn_wide.2 (cf W))).mono ?_; rintro e w1 ⟨rfl, rfl⟩)
          exact ⟨(KeepsOthers.setCell _ _ _).from _, hno.out⟩
    case done =>
      rintro D ys W hD rfl ⟨⟨hbx, hle⟩, hB, hbs⟩ hK
      have hN : Boxed W w.heap.size 9 (.string s) := (hB.block _ (by omega)).trans hs0
      have hN1 : Boxed W (w.heap.size + 1) 4 (.bool false) := (hB.block _ (by omega)).trans hs1
      have hcs := hN.cell
      have hcr := hN1.cell
      have hfr := hN1.frozen
      have hcp := hbx.cell
      have hpl : placeA 0 (stepsF s) = badF s := placeA_bad s _ 0
      rw [hpl] at hcp hle
      have hstop : decS s (badF s) = none := badK_stop s _ 0 (by omega) (by omega)
      have cf := fun W => first_any s (badF s) W (by omega)
      rw [hstop] at cf
      simp only [firstV] at cf
      have cb := fun W => bad_any s W (by omega)
      have hlD : wc.heap.size + 1 < D := by simp at hD; omega
      clear hpl hstop hbx hbs
      generalize badF s = q at *
      have S0 : TS w.heap.size wc.heap.size D q s w W := ⟨hwc.trans (hB.mono hwc.size), hK, hcs, hcp, ⟨_, hcr⟩, hfr⟩
      have hD1 := hlD
      have SB := Lib.hid fun X Y => @TS.below w.heap.size wc.heap.size D q s w X Y
      have SS := Lib.hid fun X b => @TS.store w.heap.size wc.heap.size D q s w X (by omega) (by omega) b
      clear hB hN hN1 hcr hfr hK hwc hs0 hs1 hc0 hc1 hfn
      obtain ⟨k1, k2, k3, k4, k5, k6⟩ := S0
      have S0 := Lib.hid (show TS w.heap.size wc.heap.size D q s w W from ⟨k1, k2, k3, k4, k5, k6⟩)
      clear k1 k2 k3 k4 k5 k6
      have hcs2 := S0.out.2.2.1
      have hcp2 := S0.out.2.2.2.1
      go_upto_region 25 with (go_at_call 12; refine (cf W).mono ?_; rintro e w1 ⟨rfl, rfl⟩)
      go_cut [] from 118 to 128 (fun W' => (Below w.heap.size w W' ∧ W'.heap[D]? = some (.deferred (some []))) ∧ W'.cell? ⟨w.heap.size + 1, 0, none⟩ = some (.bool true))
      case first =>
        go_region_held3 (fun W' => Below w.heap.size w W' ∧ W'.heap[D]? = some (.deferred (some [])) ∧ W'.cell? ⟨w.heap.size, 0, none⟩ = some (.string s) ∧ W'.cell? ⟨wc.heap.size, 0, none⟩ = some (.int .i64 (q : Nat)) ∧ (∃ b, W'.cell? ⟨w.heap.size + 1, 0, none⟩ = some (.bool b)) ∧ W'.frozen? ⟨w.heap.size + 1, 0, none⟩ = false)
          (first | exact SB.out _ _ S0.out (Below.refl _ _).drew | exact SB.out _ _ hbX hb7 | exact SS.out _ _ (SB.out _ _ hbX hb7) | exact S0.out | assumption) (first
          | (go_at_call 10; refine (cb _).mono ?_; rintro e w6 ⟨rfl, rfl⟩)
          | (go_at_call 13; have hbX := (‹Below w.heap.size w _ ∧ _ ∧ _ ∧ _ ∧ _ ∧ _›); refine (lives_any _).mono ?_; rintro e w7 ⟨rfl, hb7⟩; obtain ⟨_, _, _, _, ⟨b7, hcr7⟩, hfr7⟩ := SB.out _ _ hbX hb7))
        all_goals (go_wp2_with fail; go_meet; refine ⟨⟨by first | assumption | exact (‹Below w.heap.size w _ ∧ _ ∧ _ ∧ _ ∧ _ ∧ _›).1, by first | assumption | exact (‹Below w.heap.size w _ ∧ _ ∧ _ ∧ _ ∧ _ ∧ _›).2.1⟩, ?_⟩; exact World.cell?_setCell_same' _ _ _ (by rw [hcr7]; rfl))
      case rest =>
        obtain ⟨⟨hbz, hKz⟩, hcz⟩ := hcut
        go_wp2
        refine ⟨by simp, .inl ⟨_, _, rfl, run_takeDeferred hKz, ?_⟩⟩
        have hD2 : w.heap.size + 1 ≠ D := by omega
        have hcz2 : (wc.putObj D (.deferred none)).cell? ⟨w.heap.size + 1, 0, none⟩ = some (.bool true) :=
          (World.cell?_of_block (a := ⟨w.heap.size + 1, 0, none⟩) (World.putObj_heap_other hD2)).trans hcz
        refine ⟨.bool true, ?_, rfl, ?_⟩
        · simp [results, Try.results6, go_sem, hcz2, asAddr]
        · exact hbz.trans (belowK_b (w := w) (Nat.le_refl _) wc D _ _ (by omega) hKz rfl rfl)
    case stop =>
      rintro D c pre W _ hpre h _
      exact absurd hpre h
set_option maxHeartbeats 4000000 in
theorem tells_far (s : ByteArray) (a : Int) (w : World) (hs : s.size ≤ 1048576) (ha : (s.size : Int) ≤ a) :
    Calls Try.prog 6 #[.string s, .int .i64 a] w fun e w' => e = .returned (.bool true) ∧ Below w.heap.size w w' := by
  have la : ¬ a < (s.size : Int) := by omega
  have lb : 0 ≤ a := by omega
  refine (callsIn_wide (n := 6)).1 ?_
  refine callsIn_of_wp_marks Try.func6 rfl trivial ?_ rfl
  simp only [Try.ntmps6, List.size_toArray, List.length_cons, List.length_nil, Nat.reduceAdd, Nat.reduceSub, Array.replicate_succ, Array.replicate_zero, List.push_toArray, List.append_toArray, List.nil_append, List.cons_append]
  refine wpIn_wide.2 ?_
  go_upto_if 29 with fail
  have hc0 : ((w.alloc (.cells #[.string s] 9)).alloc (.cells #[.bool false] 4)).cell? ⟨w.heap.size, 0, none⟩ = some (.string s) := by simp
  have hbk0 : Boxed ((w.alloc (.cells #[.string s] 9)).alloc (.cells #[.bool false] 4)) w.heap.size 9 (.string s) := (Boxed.new w 9 _).alloc _
  have hbk1 : Boxed ((w.alloc (.cells #[.string s] 9)).alloc (.cells #[.bool false] 4)) (w.heap.size + 1) 4 (.bool false) := by
    have := Boxed.new (w.alloc (.cells #[.string s] 9)) 4 (.bool false)
    rwa [World.size_alloc] at this
  have hw0 : Below w.heap.size w ((w.alloc (.cells #[.string s] 9)).alloc (.cells #[.bool false] 4)) := ((Below.refl _ w).alloc (Nat.le_refl _) _).alloc (by simp) _
  generalize ((w.alloc (.cells #[.string s] 9)).alloc (.cells #[.bool false] 4)) = W0 at hc0 hbk0 hbk1 hw0 ⊢
  have hcK := Lib.hid fun (W : World) (h : Below W0.heap.size W0 W) => (h.cell (World.block_lt_of_cell? W0 _ hc0)).trans hc0
  go_cut [] from 5 to 128 (fun W => Below W0.heap.size W0 W)
  case first =>
    go_wp2
    go_meet
    exact Below.refl _ _
  case rest =>
    clear hcK hc0
    have hN1 := hbk1.lt
    have hs0 : Boxed wc w.heap.size 9 (.string s) := (hcut.block _ (by omega)).trans hbk0
    have hs1 : Boxed wc (w.heap.size + 1) 4 (.bool false) := (hcut.block _ (by omega)).trans hbk1
    have hc0 := hs0.cell
    have hM1 := hs1.lt
    have hwc : Below w.heap.size w wc := hw0.trans (hcut.mono hw0.size)
    clear hbk0 hbk1 hw0 hcut hN1
    have hc1 : (wc.alloc (.cells #[.int .i64 0] 3)).cell? ⟨w.heap.size, 0, none⟩ = some (.string s) := (hs0.alloc _).cell
    have hfn := fun W => func_nil (.pointer (some ⟨wc.heap.size + 1, 0, none⟩)) W
    go_wp2_with (go_at_call 19; refine (all_any s _).mono ?_; rintro e w' ⟨rfl, rfl⟩)
    refine (wpIn_wide (n := 6)).1 ?_
    have bP := Boxed.new wc 3 (.int .i64 0)
    have bN := Boxed.new (wc.alloc (.cells #[.int .i64 0] 3)) 9 (.string s)
    rw [World.size_alloc] at bN
    have hB0 : Below wc.heap.size wc ((wc.alloc (.cells #[.int .i64 0] 3)).alloc (.cells #[.string s] 9)) := ((Below.refl _ wc).alloc (Nat.le_refl _) _).alloc (by simp) _
    refine wpIn_rangeFunc_ownG rfl (by omega) (gf := 39) (lb := #[.pointer (some ⟨wc.heap.size + 1, 0, none⟩)]) rfl trivial (enters_of Try.func39 (by kernel_rfl) rfl)
      (all_stops s (by omega) 5 (wc.heap.size + 1) wc.heap.size (by omega) _ (by simp) bN.cell) (fun h k => h.trans k) (fun W l o o' hl ho hc hw => ⟨belowK_b (w := wc) (Nat.le_refl _) W l o o' (by simp at hl; omega) ho hc hw, World.putObj_heap_other (by simp at hl; omega)⟩) (Below.refl _ _) (fun _ => rfl)
      (fun pre W => (Boxed W wc.heap.size 3 (.int .i64 (placeA 0 pre : Nat)) ∧ placeA 0 pre ≤ s.size) ∧ (Below wc.heap.size wc W ∧ Boxed W (wc.heap.size + 1) 9 (.string s)))
      (fun _ pre _ => ¬ pre <+: stepsF s)
      (OwnFrom.and (OwnFrom.and (_root_.Go.Own.from (boxed_own _ _ _) _) (ownFrom_pure _ _)) (OwnFrom.and (ownFrom_below (Nat.le_refl _) (by simp; omega)) (_root_.Go.Own.from (boxed_own _ _ _) _)))
      (fun _ _ _ _ _ hs _ _ => hs)
      ⟨⟨bP.alloc _, Nat.zero_le _⟩, hB0, bN⟩
      ?a1 ?assign ?body ?done ?stop
    case assign =>
      intro l x W K hK
      gi_wp2
      exact hK
    case body =>
      rintro l pre ⟨⟨xa, xp⟩, hxp⟩ W ⟨⟨hbx, hle⟩, hB, hbs⟩ hlt
      have hN : Boxed W w.heap.size 9 (.string s) := (hB.block _ (by omega)).trans hs0
      have hN1 : Boxed W (w.heap.size + 1) 4 (.bool false) := (hB.block _ (by omega)).trans hs1
      have hcs := hN.cell
      have hcr := hN1.cell
      have hfr := hN1.frozen
      have hcp := hbx.cell
      have hfp := hbx.frozen
      have cf := fun W => first_any s (placeA 0 pre) W (by omega)
      have hnext := Lib.hid (stepsK_next s s.size 0 pre ⟨(xa, xp), hxp⟩)
      have hfin := Lib.hid (placeA_snoc 0 pre ⟨(xa, xp), hxp⟩)
      generalize placeA 0 pre = q at *
      have h1n : 1 ≤ 6 - 1 - 1 := by omega
      rcases hd : decS s q with _ | ⟨p, n⟩
      · have hno : Hid (¬ pre ++ [⟨(xa, xp), hxp⟩] <+: stepsF s) := Lib.hid fun h => by have := (hnext.out h).1; rw [hd] at this; cases this
        rw [hd] at cf
        simp only [firstV] at cf
        clear hnext hfin hd hc0 hc1 hfn
        gi_wp2_with (refine ⟨trivial, ?_⟩; gi_at_call 12; refine (CallsIn.inRound l (callsIn_wide.2 (cf W))).mono ?_; rintro e w1 ⟨rfl, rfl⟩)
        exact ⟨(KeepsOthers.setCell _ _ _).from _, hno.out⟩
      · rw [hd] at cf
        simp only [firstV] at cf
        have hds := decS_some hd
        have hn : n = sizeP p := dec4_size hd
        have hneq : ∀ h : ¬ (xa = q ∧ xp = p), Hid (¬ pre ++ [⟨(xa, xp), hxp⟩] <+: stepsF s) := fun h => Lib.hid fun k => h (by
          have k2 := hnext.out k
          refine ⟨k2.2, ?_⟩
          have k3 := k2.1
          rw [hd] at k3
          exact (Prod.mk.inj (Option.some.inj k3)).1.symm)
        have hgo : ∀ h : xa = q ∧ xp = p, Hid (placeA 0 (pre ++ [⟨(xa, xp), hxp⟩]) = q + n) := fun h => Lib.hid (by rw [hfin.out, hn]; simp only [h.1, h.2])
        have HGO := Lib.hid hgo
        have HNE := Lib.hid hneq
        obtain ⟨_, n1, n4, nf⟩ := hds
        clear hnext hfin hd hn hgo hneq hc0 hc1 hfn
        by_cases h1 : xa = q
        · by_cases h2 : xp = p
          · have hg := HGO.out ⟨h1, h2⟩
            subst h1
            subst h2
            clear HGO HNE
            gi_wp2_with (refine ⟨trivial, ?_⟩; gi_at_call 12; refine (CallsIn.inRound l (callsIn_wide.2 (cf W))).mono ?_; rintro e w1 ⟨rfl, rfl⟩)
            refine ⟨(KeepsOthers.setCell _ _ _).from _, ⟨(Below.refl _ _).setCell (by simp) _, Below.heap_setCell _ _ _ _ (by simp)⟩, ⟨?_, ?_⟩, hB.setCell (by simp) _, hbs.other (by simp) _⟩
            · rw [hg.out]
              have := hbx.set (.int .i64 ((xa : Int) + (n : Int)))
              exact this
            · rw [hg.out]; omega
          · have hno := HNE.out (fun h => h2 h.2)
            have g1 : (p != xp) = true := by simp; exact fun h => h2 h.symm
            subst h1
            clear HGO HNE h2
            gi_wp2_with (refine ⟨trivial, ?_⟩; gi_at_call 12; refine (CallsIn.inRound l (callsIn_wide.2 (cf W))).mono ?_; rintro e w1 ⟨rfl, rfl⟩)
            exact ⟨(KeepsOthers.setCell _ _ _).from _, hno.out⟩
        · have hno := HNE.out (fun h => h1 h.1)
          have g1 : ((xa : Int) != (q : Int)) = true := by simp; omega
          clear HGO HNE
          gi_wp2_with (refine ⟨trivial, ?_⟩; gi_at_call 12; refine (CallsIn.inRound l (callsIn_wide.2 (cf W))).mono ?_; rintro e w1 ⟨rfl, rfl⟩)
          exact ⟨(KeepsOthers.setCell _ _ _).from _, hno.out⟩
    case done =>
      rintro D ys W hD rfl ⟨⟨hbx, hle⟩, hB, hbs⟩ hK
      have hN : Boxed W w.heap.size 9 (.string s) := (hB.block _ (by omega)).trans hs0
      have hN1 : Boxed W (w.heap.size + 1) 4 (.bool false) := (hB.block _ (by omega)).trans hs1
      have hcs := hN.cell
      have hcr := hN1.cell
      have hfr := hN1.frozen
      have hcp := hbx.cell
      have hpl : placeA 0 (stepsF s) = badF s := placeA_bad s _ 0
      rw [hpl] at hcp hle
      have hstop : decS s (badF s) = none := badK_stop s _ 0 (by omega) (by omega)
      have cf := fun W => first_any s (badF s) W (by omega)
      rw [hstop] at cf
      simp only [firstV] at cf
      have cb := fun W => bad_any s W (by omega)
      have hlD : wc.heap.size + 1 < D := by simp at hD; omega
      clear hpl hstop hbx hbs
      generalize badF s = q at *
      have S0 : TS w.heap.size wc.heap.size D q s w W := ⟨hwc.trans (hB.mono hwc.size), hK, hcs, hcp, ⟨_, hcr⟩, hfr⟩
      have hD1 := hlD
      have SB := Lib.hid fun X Y => @TS.below w.heap.size wc.heap.size D q s w X Y
      have SS := Lib.hid fun X b => @TS.store w.heap.size wc.heap.size D q s w X (by omega) (by omega) b
      clear hB hN hN1 hcr hfr hK hwc hs0 hs1 hc0 hc1 hfn
      obtain ⟨k1, k2, k3, k4, k5, k6⟩ := S0
      have S0 := Lib.hid (show TS w.heap.size wc.heap.size D q s w W from ⟨k1, k2, k3, k4, k5, k6⟩)
      clear k1 k2 k3 k4 k5 k6
      have hcs2 := S0.out.2.2.1
      have hcp2 := S0.out.2.2.2.1
      go_upto_region 25 with (go_at_call 12; refine (cf W).mono ?_; rintro e w1 ⟨rfl, rfl⟩)
      go_cut [] from 118 to 128 (fun W' => (Below w.heap.size w W' ∧ W'.heap[D]? = some (.deferred (some []))) ∧ W'.cell? ⟨w.heap.size + 1, 0, none⟩ = some (.bool true))
      case first =>
        go_region_held3 (fun W' => Below w.heap.size w W' ∧ W'.heap[D]? = some (.deferred (some [])) ∧ W'.cell? ⟨w.heap.size, 0, none⟩ = some (.string s) ∧ W'.cell? ⟨wc.heap.size, 0, none⟩ = some (.int .i64 (q : Nat)) ∧ (∃ b, W'.cell? ⟨w.heap.size + 1, 0, none⟩ = some (.bool b)) ∧ W'.frozen? ⟨w.heap.size + 1, 0, none⟩ = false)
          (first | exact SB.out _ _ S0.out (Below.refl _ _).drew | exact SB.out _ _ hbX hb7 | exact SS.out _ _ (SB.out _ _ hbX hb7) | exact S0.out | assumption) (first
          | (go_at_call 10; refine (cb _).mono ?_; rintro e w6 ⟨rfl, rfl⟩)
          | (go_at_call 13; have hbX := (‹Below w.heap.size w _ ∧ _ ∧ _ ∧ _ ∧ _ ∧ _›); refine (lives_any _).mono ?_; rintro e w7 ⟨rfl, hb7⟩; obtain ⟨_, _, _, _, ⟨b7, hcr7⟩, hfr7⟩ := SB.out _ _ hbX hb7))
        all_goals (go_wp2_with fail; go_meet; refine ⟨⟨by first | assumption | exact (‹Below w.heap.size w _ ∧ _ ∧ _ ∧ _ ∧ _ ∧ _›).1, by first | assumption | exact (‹Below w.heap.size w _ ∧ _ ∧ _ ∧ _ ∧ _ ∧ _›).2.1⟩, ?_⟩; exact World.cell?_setCell_same' _ _ _ (by rw [hcr7]; rfl))
      case rest =>
        obtain ⟨⟨hbz, hKz⟩, hcz⟩ := hcut
        go_wp2
        refine ⟨by simp, .inl ⟨_, _, rfl, run_takeDeferred hKz, ?_⟩⟩
        have hD2 : w.heap.size + 1 ≠ D := by omega
        have hcz2 : (wc.putObj D (.deferred none)).cell? ⟨w.heap.size + 1, 0, none⟩ = some (.bool true) :=
          (World.cell?_of_block (a := ⟨w.heap.size + 1, 0, none⟩) (World.putObj_heap_other hD2)).trans hcz
        refine ⟨.bool true, ?_, rfl, ?_⟩
        · simp [results, Try.results6, go_sem, hcz2, asAddr]
        · exact hbz.trans (belowK_b (w := w) (Nat.le_refl _) wc D _ _ (by omega) hKz rfl rfl)
    case stop =>
      rintro D c pre W _ hpre h _
      exact absurd hpre h
theorem tellsW (s : ByteArray) (a : Int) (w : World) (hs : s.size ≤ 1048576) :
    Calls Try.prog 6 #[.string s, .int .i64 a] w fun e w' => e = .returned (.bool true) ∧ Below w.heap.size w w' := by
  by_cases h0 : a < 0
  · exact tells_neg s a w hs h0
  · by_cases h1 : (s.size : Int) ≤ a
    · exact tells_far s a w hs h1
    · obtain ⟨n, rfl⟩ := Int.eq_ofNat_of_zero_le (show 0 ≤ a by omega)
      exact tells_in s n w hs (by omega)
end Go.Proofs.Ytolnnkalgioobaa
