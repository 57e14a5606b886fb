/- utf.Runes; SameRunes. -/
import Derived.Maps.AppendAt
import Derived.Test.YtolnnkalgioobaaGreatDoorX
namespace Go.Proofs.YtolnnkalgioobaaGreatDoor
open Go.RowKit Go.Shelf
attribute [local go_sem] Oper.semAt_some
set_option maxRecDepth 100000
set_option linter.unusedVariables false
set_option linter.unusedSimpArgs false
set_option linter.unnecessarySimpa false

theorem info21 : (Tryz.prog.info? 21).map (fun i => (i.zero, i.size, i.bytes)) = some (some (.int .i32 0), 1, 4) := by kernel_rfl
def ptsOf (l : List Step) : List Int := l.map fun x => x.1.2
theorem ptsOf_snoc (l : List Step) (x : Step) : ptsOf (l ++ [x]) = ptsOf l ++ [x.1.2] := by simp [ptsOf]
theorem ptsOf_len (l : List Step) : (ptsOf l).length = l.length := by simp [ptsOf]
theorem ptsF_len (s : ByteArray) : (ptsF s).length ≤ s.size := by
  unfold ptsF
  rw [List.length_map]
  have := stepsK_len s.size s 0 (by omega)
  unfold stepsF
  omega

set_option maxHeartbeats 2000000 in
theorem Runes_in (s : ByteArray) (w : World) (hs : s.size ≤ 8796093022208) (hgood : badF s = s.size) :
    CallsIn Fence.wide 6 Tryz.prog 6 #[.string s] w fun e w' => ∃ v, e = .returned (.tuple #[v, .bool true]) ∧ Own w' w.heap.size 21 .i32 v (ptsOf (stepsF s)) ∧ Below w.heap.size w w' := by
  obtain ⟨i0, hi, hz0, hz1, hz2⟩ := info_parts info21
  have hbad := fun W => bad_any s W (by omega)
  rw [hgood] at hbad
  have hlen : (stepsF s).length ≤ s.size := stepsK_len _ s 0 (by omega)
  refine callsIn_of_wp_marks Tryz.func6 rfl trivial ?_ rfl
  simp only [Tryz.ntmps6, List.size_toArray, List.length_cons, List.length_nil, Nat.reduceAdd, Nat.reduceSub, Array.replicate_succ, Array.replicate_zero, List.push_toArray, List.append_toArray, List.nil_append, List.cons_append]
  gi_wp2_with (first
    | (refine ⟨trivial, ?_⟩; gi_at_call 25; refine (callsIn_wide.2 (hbad _)).mono ?_; rintro e w' ⟨rfl, rfl⟩)
    | (refine ⟨trivial, ?_⟩; gi_at_call 26; refine (callsIn_wide.2 (all_any s _)).mono ?_; rintro e w' ⟨rfl, rfl⟩))
  have bO := Boxed.new w 22 (.slice none 0 0)
  have bN := Boxed.new (w.alloc (.cells #[.slice none 0 0] 22)) 9 (.string s)
  rw [World.size_alloc] at bN
  have hB0 : Below w.heap.size w ((w.alloc (.cells #[.slice none 0 0] 22)).alloc (.cells #[.string s] 9)) := ((Below.refl _ w).alloc (Nat.le_refl _) _).alloc (by simp) _
  refine wpIn_rangeFunc_ownG rfl (by omega) (gf := 87) (lb := #[.pointer (some ⟨w.heap.size + 1, 0, none⟩)]) rfl trivial (enters_of Tryz.func87 (by kernel_rfl) rfl)
    (all_stops s (by omega) 5 (w.heap.size + 1) w.heap.size (by omega) _ (by simp) bN.cell) (fun h k => h.trans k) (fun W l o o' hl ho hc hw => ⟨belowK_b (w := w) (Nat.le_refl _) W l o o' (by simp at hl; omega) ho hc hw, World.putObj_heap_other (by simp at hl; omega)⟩) (Below.refl _ _) (fun _ => rfl)
    (fun pre W => (∃ v, Boxed W w.heap.size 22 v ∧ W.ownsRow w.heap.size 21 1 v (ptsOf pre).length (numsK .i32 (ptsOf pre)) ∧ (v = .slice none 0 0 ↔ ptsOf pre = [])) ∧ (Below w.heap.size w W ∧ Boxed W (w.heap.size + 1) 9 (.string s)))
    (fun _ _ _ => False)
    (OwnFrom.and (_root_.Go.Own.from (holdsRow_own w.heap.size w.heap.size 22 21 1 (fun pre => (ptsOf pre).length) (fun pre => numsK .i32 (ptsOf pre)) (fun pre v => v = .slice none 0 0 ↔ ptsOf pre = [])) _) (OwnFrom.and (ownFrom_below (Nat.le_refl _) (by simp; omega)) (_root_.Go.Own.from (boxed_own _ _ _) _)))
    (fun _ _ _ _ _ hs _ _ => hs)
    ⟨⟨_, bO.alloc _, World.ownsRow_nil _ _ _ _, by simp [ptsOf]⟩, hB0, bN⟩
    (fun x => { tmps := #[.string s, undef, .slice none 0 0, .bool false, .pointer (some ⟨w.heap.size, 0, none⟩), undef, .int .i32 x.1.2, .string s, .int .i64 s.size, .string s, .int .i64 s.size, .bool false, .string s, .func (.func 87) #[] #[.pointer (some ⟨w.heap.size + 1, 0, none⟩)], .int .i64 (x.1.1 : Int), .int .i32 x.1.2, undef, undef, undef, undef, undef], defers := [] }) ?assign ?body ?done ?stop
  case assign =>
    intro l x W K hK
    gi_wp2
    exact hK
  case body =>
    rintro l pre x W ⟨⟨v, hv, hrow, hnil⟩, hB, hbs⟩ hlt
    have hc := hv.cell
    have hul : (ptsOf pre).length ≤ pre.length := Nat.le_of_eq (ptsOf_len pre)
    have hBs := hB.size
    gi_wp2_with (gi_at_builtin; refine wpListIn_append_own _ rfl (.tmp 16) (.tmp 18) 22 rfl w.heap.size 21 i0 (.int .i32 0) 1 4 Tryz.underlying22 hi hz0 hz1 hz2 rfl (by decide) _ _ _ rfl (World.ownsRow.alloc hrow _) ⟨W.heap.size, 0, none⟩ 1 1 [.int .i32 x.1.2] rfl rfl (cell_one_new _ _ _) (by simp [Value.oneCell']) (by simp only [maxLen]; omega) (by omega) (by simp; omega) ?_; intro v' w1 hown' hgrow _; obtain ⟨g', cap', rfl⟩ := ownsRow_succ hown'; obtain ⟨hv1, hv2, hr2, hk2, hb2⟩ := hv.appended (by decide) hrow hB.size (Nat.le_refl _) hown' hgrow; have hc1 := hv1.cell; have hf1 := hv1.frozen)
    have hbs1 : Boxed w1 (w.heap.size + 1) 9 (.string s) := (hbs.alloc _).kept hgrow (hbs.not_row (by decide) hrow)
    have hbs2 : Boxed (w1.setCell ⟨w.heap.size, 0, none⟩ (.slice (some ⟨g', 0, none⟩) ((ptsOf pre).length + 1) cap')) (w.heap.size + 1) 9 (.string s) := (Below.heap_setCell _ _ _ _ (by simp)).trans hbs1
    exact ⟨hk2.from _, ⟨hb2, hbs2.trans hbs.symm⟩, ⟨_, hv2, by rw [ptsOf_snoc, numsK_append, List.length_append]; exact hr2, by rw [ptsOf_snoc]; simp⟩, hB.trans hb2, hbs2⟩
  case done =>
    rintro D ys W hD rfl ⟨⟨v, hv, hrow, hnil⟩, hB, hbs⟩ hK
    have hc := hv.cell
    gi_wp2
    refine ⟨by simp, .inl ⟨_, _, rfl, run_takeDeferred hK, ?_⟩⟩
    exact ⟨_, results_tmp2 rfl _ _ _, v, rfl, ownsRow_putObj hrow _ hK rfl, hB.trans (belowK_b (w := w) (Nat.le_refl _) W D _ _ (by simp at hD; omega) hK rfl rfl)⟩
  case stop =>
    rintro D c pre W _ _ h _
    exact h.elim

theorem Runes_bad (s : ByteArray) (w : World) (hs : s.size ≤ 8796093022208) (hbad : badF s < s.size) :
    Calls Tryz.prog 6 #[.string s] w fun e w' => e = .returned (.tuple #[.slice none 0 0, .bool false]) ∧ w = w' := by
  have hb := fun W => bad_any s W (by omega)
  have hlt : ((badF s : Nat) : Int) < (s.size : Int) := by omega
  generalize badF s = b at *
  go_enter Tryz.func6, Tryz.ntmps6
  go_wp2_with (go_at_call 25; refine (hb _).mono ?_; rintro e w' ⟨rfl, rfl⟩)
  go_ret2
  exact ⟨rfl, rfl⟩
theorem Runes_good (s : ByteArray) (w : World) (hs : s.size ≤ 8796093022208) (hgood : badF s = s.size) :
    Calls Tryz.prog 6 #[.string s] w fun e w' => ∃ v, e = .returned (.tuple #[v, .bool true]) ∧ Own w' w.heap.size 21 .i32 v (ptsF s) ∧ Below w.heap.size w w' :=
  callsIn_wide.1 (Runes_in s w hs hgood)
theorem bad_le (s : ByteArray) : badF s ≤ s.size := by
  have key : ∀ k a, a ≤ s.size → badK k s a ≤ s.size := by
    intro k
    induction k with
    | zero => intro a h; exact h
    | succ k ih =>
      intro a h
      rcases hd : decS s a with _ | ⟨p, n⟩
      · rw [badK_none hd]; exact h
      · rw [badK_some hd]
        exact ih _ (decS_some hd).2.2.2
  exact key _ 0 (by omega)
end Go.Proofs.YtolnnkalgioobaaGreatDoor
