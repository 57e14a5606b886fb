/- utf.Units. -/
import Derived.Test.YtolnnkalgioobaaGreatDoorL
namespace Go.Proofs.YtolnnkalgioobaaGreatDoor
open Go.RowKit Go.Shelf
attribute [local go_sem] Oper.semAt_some
set_option maxRecDepth 100000
set_option linter.unusedVariables false
set_option linter.unusedSimpArgs false
set_option linter.unnecessarySimpa false

def unitsOf (l : List Step) : List Int := l.flatMap fun x => unitsL x.1.2
theorem unitsOf_snoc (l : List Step) (x : Step) : unitsOf (l ++ [x]) = unitsOf l ++ unitsL x.1.2 := by simp [unitsOf]
theorem unitsL_len (p : Int) : (unitsL p).length ≤ 2 := by unfold unitsL; split <;> simp
theorem unitsOf_len : ∀ l, (unitsOf l).length ≤ 2 * l.length
  | [] => by simp [unitsOf]
  | x :: l => by
    have := unitsOf_len l
    have h := unitsL_len x.1.2
    simp only [unitsOf, List.flatMap_cons, List.length_append, List.length_cons] at this ⊢
    omega
theorem stepsK_len : ∀ k s a, a ≤ s.size → (stepsK k s a).length ≤ s.size - a
  | 0, s, a, _ => by simp [stepsK]
  | k + 1, s, a, h => by
    rcases hd : decS s a with _ | ⟨p, n⟩
    · rw [stepsK_none hd]; simp
    · have := decS_some hd
      rw [stepsK_some hd]
      have ih := stepsK_len k s (a + n) (by omega)
      simp only [List.length_cons]
      omega
theorem own_cons {W : World} {B : Nat} {e : TypeId} {k : IntKind} {v : Value} {xs : List Int} (h : Own W B e k v xs) (hx : xs ≠ []) {m : Nat} (hm : xs.length = m) : ∃ g c, v = .slice (some ⟨g, 0, none⟩) m c := by
  subst hm
  rcases h.2 with ⟨_, h0⟩ | ⟨g, cap, cur, rfl, _⟩
  · exact absurd (List.eq_nil_of_length_eq_zero h0) hx
  · exact ⟨g, cap, rfl⟩
theorem unitsL_ne (p : Int) : unitsL p ≠ [] := by unfold unitsL; split <;> simp

set_option maxHeartbeats 2000000 in
theorem Units_in (s : ByteArray) (w : World) (hs : s.size ≤ 8796093022208) (hgood : badF s = s.size) :
    CallsIn Fence.wide 6 Tryz.prog 16 #[.string s] w fun e w' => ∃ v, e = .returned (.tuple #[v, .bool true]) ∧ Own w' w.heap.size 52 .u16 v (unitsOf (stepsF s)) ∧ Below w.heap.size w w' := by
  have hbad := fun W => bad_any s W (by omega)
  rw [hgood] at hbad
  have hlen : (stepsF s).length ≤ s.size := stepsK_len _ s 0 (by omega)
  refine callsIn_of_wp_marks Tryz.func16 rfl trivial ?_ rfl
  simp only [Tryz.ntmps16, List.size_toArray, List.length_cons, List.length_nil, Nat.reduceAdd, Nat.reduceSub, Array.replicate_succ, Array.replicate_zero, List.push_toArray, List.append_toArray, List.nil_append, List.cons_append]
  gi_wp2_with (first
    | (refine ⟨trivial, ?_⟩; gi_at_call 25; refine (callsIn_wide.2 (hbad _)).mono ?_; rintro e w' ⟨rfl, rfl⟩)
    | (refine ⟨trivial, ?_⟩; gi_at_call 26; refine (callsIn_wide.2 (all_any s _)).mono ?_; rintro e w' ⟨rfl, rfl⟩))
  have bO := Boxed.new w 48 (.slice none 0 0)
  have bN := Boxed.new (w.alloc (.cells #[.slice none 0 0] 48)) 9 (.string s)
  rw [World.size_alloc] at bN
  have hB0 : Below w.heap.size w ((w.alloc (.cells #[.slice none 0 0] 48)).alloc (.cells #[.string s] 9)) := ((Below.refl _ w).alloc (Nat.le_refl _) _).alloc (by simp) _
  refine wpIn_rangeFunc_ownG rfl (by omega) (gf := 87) (lb := #[.pointer (some ⟨w.heap.size + 1, 0, none⟩)]) rfl trivial (enters_of Tryz.func87 (by kernel_rfl) rfl)
    (all_stops s (by omega) 5 (w.heap.size + 1) w.heap.size (by omega) _ (by simp) bN.cell) (fun h k => h.trans k) (fun W l o o' hl ho hc hw => ⟨belowK_b (w := w) (Nat.le_refl _) W l o o' (by simp at hl; omega) ho hc hw, World.putObj_heap_other (by simp at hl; omega)⟩) (Below.refl _ _) (fun _ => rfl)
    (fun pre W => (∃ v, Boxed W w.heap.size 48 v ∧ W.ownsRow w.heap.size 52 1 v (unitsOf pre).length (numsK .u16 (unitsOf pre)) ∧ (v = .slice none 0 0 ↔ unitsOf pre = [])) ∧ (Below w.heap.size w W ∧ Boxed W (w.heap.size + 1) 9 (.string s)))
    (fun _ _ _ => False)
    (OwnFrom.and (_root_.Go.Own.from (holdsRow_own w.heap.size w.heap.size 48 52 1 (fun pre => (unitsOf pre).length) (fun pre => numsK .u16 (unitsOf pre)) (fun pre v => v = .slice none 0 0 ↔ unitsOf pre = [])) _) (OwnFrom.and (ownFrom_below (Nat.le_refl _) (by simp; omega)) (_root_.Go.Own.from (boxed_own _ _ _) _)))
    (fun _ _ _ _ _ hs _ _ => hs)
    ⟨⟨_, bO.alloc _, World.ownsRow_nil _ _ _ _, by simp [unitsOf]⟩, hB0, bN⟩
    (fun x => { tmps := #[.string s, undef, .slice none 0 0, .bool false, .pointer (some ⟨w.heap.size, 0, none⟩), undef, .int .i32 x.1.2, .string s, .int .i64 s.size, .string s, .int .i64 s.size, .bool false, .string s, .func (.func 87) #[] #[.pointer (some ⟨w.heap.size + 1, 0, none⟩)], .int .i64 (x.1.1 : Int), .int .i32 x.1.2, undef, undef, undef, undef], defers := [] }) ?assign ?body ?done ?stop
  case assign =>
    intro l x W K hK
    gi_wp2
    exact hK
  case body =>
    rintro l pre x W ⟨⟨v, hv, hrow, hnil⟩, hB, hbs⟩ hlt
    have hc := hv.cell
    have hx := (isPt_iff x.1.2).1 x.2
    have hul := unitsOf_len pre
    have hcu := units_any w.heap.size v (unitsOf pre) x.1.2 W hrow hB.size hx.1 hx.2.1 (by omega)
    have hne : unitsOf pre ++ unitsL x.1.2 ≠ [] := by simp [unitsL_ne]
    obtain ⟨m, hm⟩ : ∃ m, (unitsOf pre ++ unitsL x.1.2).length = m := ⟨_, rfl⟩
    have HM := Lib.hid hm
    clear hm
    gi_wp2_with (refine ⟨trivial, ?_⟩; gi_at_call 79; refine (CallsIn.inRound l (callsIn_wide.2 hcu)).mono ?_; rintro e w1 ⟨v', tmp, rfl, hown', hgrow⟩; obtain ⟨g', cap', rfl⟩ := own_cons hown' hne HM.out; obtain ⟨hv1, hv2, hr2, hk2, hb2⟩ := hv.appended (by decide) hrow hB.size (Nat.le_refl _) hown' hgrow; have hc1 := hv1.cell; have hf1 := hv1.frozen)
    have hbs1 : Boxed w1 (w.heap.size + 1) 9 (.string s) := (hbs.alloc tmp).kept hgrow (hbs.not_row (by decide) hrow)
    have hbs2 : Boxed (w1.setCell ⟨w.heap.size, 0, none⟩ (.slice (some ⟨g', 0, none⟩) m cap')) (w.heap.size + 1) 9 (.string s) := (Below.heap_setCell _ _ _ _ (by simp)).trans hbs1
    exact ⟨hk2.from _, ⟨hb2, hbs2.trans hbs.symm⟩, ⟨_, hv2, by rw [unitsOf_snoc]; exact hr2, by rw [unitsOf_snoc]; simp [unitsL_ne]⟩, hB.trans hb2, hbs2⟩
  case done =>
    rintro D ys W hD rfl ⟨⟨v, hv, hrow, hnil⟩, hB, hbs⟩ hK
    have hc := hv.cell
    gi_wp2
    refine ⟨by simp, .inl ⟨_, _, rfl, run_takeDeferred hK, ?_⟩⟩
    exact ⟨_, results_tmp2 rfl _ _ _, v, rfl, ownsRow_putObj hrow _ hK rfl, hB.trans (belowK_b (w := w) (Nat.le_refl _) W D _ _ (by simp at hD; omega) hK rfl rfl)⟩
  case stop =>
    rintro D c pre W _ _ h _
    exact h.elim

theorem Units_bad (s : ByteArray) (w : World) (hs : s.size ≤ 8796093022208) (hbad : badF s < s.size) :
    Calls Tryz.prog 16 #[.string s] w fun e w' => e = .returned (.tuple #[.slice none 0 0, .bool false]) ∧ w = w' := by
  have hb := fun W => bad_any s W (by omega)
  have hlt : ((badF s : Nat) : Int) < (s.size : Int) := by omega
  generalize badF s = b at *
  go_enter Tryz.func16, Tryz.ntmps16
  go_wp2_with (go_at_call 25; refine (hb _).mono ?_; rintro e w' ⟨rfl, rfl⟩)
  go_ret2
  exact ⟨rfl, rfl⟩
theorem Units_good (s : ByteArray) (w : World) (hs : s.size ≤ 8796093022208) (hgood : badF s = s.size) :
    Calls Tryz.prog 16 #[.string s] w fun e w' => ∃ v, e = .returned (.tuple #[v, .bool true]) ∧ Own w' w.heap.size 52 .u16 v (unitsOf (stepsF s)) ∧ Below w.heap.size w w' :=
  callsIn_wide.1 (Units_in s w hs hgood)
end Go.Proofs.YtolnnkalgioobaaGreatDoor
