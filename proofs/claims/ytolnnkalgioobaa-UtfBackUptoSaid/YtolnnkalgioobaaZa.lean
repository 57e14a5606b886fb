/- The walk of UtfTotal, of two texts. -/
import Derived.Test.YtolnnkalgioobaaZ
namespace Go.Proofs.Ytolnnkalgioobaa
open Go.RowKit
set_option maxRecDepth 100000
set_option linter.unusedVariables false
set_option linter.unusedSimpArgs false
set_option linter.unnecessarySimpa false

set_option maxHeartbeats 4000000 in
theorem total_good (s t u : ByteArray) (x y z q : Int) (w : World) (n m : Nat) (xs ys : List Int) (hx : xs.length = n) (hy : ys.length = m) (hn : n ≤ 2097152) (hm : m ≤ 2097152) (hs : s.size ≤ 1048576) (ht : t.size ≤ 1048576)
    (c1 : ∀ w, Calls Try.prog 15 #[.string s, .string t] w fun e w' => e = .returned (.int .i64 x) ∧ w = w')
    (c2 : ∀ w, Calls Try.prog 15 #[.string t, .string u] w fun e w' => e = .returned (.int .i64 y) ∧ w = w')
    (c3 : ∀ w, Calls Try.prog 15 #[.string s, .string u] w fun e w' => e = .returned (.int .i64 z) ∧ w = w')
    (c4 : ∀ w, Calls Try.prog 15 #[.string t, .string s] w fun e w' => e = .returned (.int .i64 (-x)) ∧ w = w')
    (x0 : -1 ≤ x) (x1 : x ≤ 1) (hE : (s.toList == t.toList) = (x == 0)) (H1 : Hid (x ≤ 0 → y ≤ 0 → z ≤ 0)) (H2 : Hid (0 ≤ x → 0 ≤ y → 0 ≤ z))
    (r1 : ∀ W, Calls Try.prog 21 #[.string s] W fun e w' => ∃ A c, e = .returned (.tuple #[.slice A n c, .bool true]) ∧ RK w' .i32 A xs ∧ Below W.heap.size W w')
    (r2 : ∀ W, Calls Try.prog 21 #[.string t] W fun e w' => ∃ A c, e = .returned (.tuple #[.slice A m c, .bool true]) ∧ RK w' .i32 A ys ∧ Below W.heap.size W w')
    (d1 : ∀ w, Calls Try.prog 15 #[.string s, .string (s ++ ⟨#[0]⟩)] w fun e w' => e = .returned (.int .i64 (-1)) ∧ w = w')
    (d2 : ∀ w, Calls Try.prog 15 #[.string (t ++ s), .string (t ++ ⟨#[122]⟩ ++ s)] w fun e w' => e = .returned (.int .i64 q) ∧ w = w')
    (d3 : ∀ w, Calls Try.prog 15 #[.string s, .string (⟨#[122]⟩ ++ s)] w fun e w' => e = .returned (.int .i64 q) ∧ w = w')
    (H3 : Hid (∀ i, i < n → i < m → xs.take i = ys.take i → xs.getD i 0 ≠ ys.getD i 0 → x = if aboveF (xs.getD i 0) (ys.getD i 0) = true then 1 else -1))
    (H4 : Hid (∀ i, ¬ (i < n ∧ i < m) → i ≤ n → i ≤ m → xs.take i = ys.take i → x = if n < m then -1 else if m < n then 1 else 0)) :
    Calls Try.prog 8 #[.string s, .string t, .string u] w fun e w' => e = .returned (.bool true) ∧ Below w.heap.size w w' := by
  have HX := Lib.hid hx
  have HY := Lib.hid hy
  clear hx hy
  have k0 : (-x != -x) = false := by simp
  go_enter Try.func8, Try.ntmps8
  go_upto_region 2 with (first
    | (go_at_call 15; with_reducible refine (c1 _).mono ?_; rintro e w1 ⟨rfl, rfl⟩)
    | (go_at_call 15; with_reducible refine (c2 _).mono ?_; rintro e w1 ⟨rfl, rfl⟩)
    | (go_at_call 15; with_reducible refine (c3 _).mono ?_; rintro e w1 ⟨rfl, rfl⟩))
  go_cut [69] (fun r W => r = .bool false ∧ W = w)
  case first =>
    have n1 : ¬ x < -1 := by omega
    have n2 : ¬ 1 < x := by omega
    have n3 : decide (x < -1) = false := by simp; omega
    have n4 : decide (1 < x) = false := by simp; omega
    have fin : (x ≤ 0 → y ≤ 0 → z ≤ 0) ∧ (0 ≤ x → 0 ≤ y → 0 ≤ z) := ⟨H1.out, H2.out⟩
    go_wp2_with (go_at_call 15; with_reducible refine (c4 _).mono ?_; rintro e w1 ⟨rfl, rfl⟩)
    all_goals
      go_meet
      first
        | exact ⟨rfl, rfl⟩
        | (exfalso; omega)
        | exact ⟨by congr 1; simp; omega, rfl⟩
  case rest =>
    obtain ⟨rfl, rfl⟩ := hcut
    clear H1 H2 hE k0
    go_upto_region 10 with (first
          | (go_at_call 21; with_reducible refine (r1 _).mono ?_; rintro e w1 ⟨A, cA, rfl, hA, hb1⟩)
          | (go_at_call 21; with_reducible refine (r2 _).mono ?_; rintro e w2 ⟨B, cB, rfl, hB, hb2⟩)
          | (go_at_call 15; with_reducible refine (d1 _).mono ?_; rintro e w4 ⟨rfl, rfl⟩)
          | (go_at_call 15; with_reducible refine (d2 _).mono ?_; rintro e w4 ⟨rfl, rfl⟩)
          | (go_at_call 15; with_reducible refine (d3 _).mono ?_; rintro e w4 ⟨rfl, rfl⟩))
    have hA2 := Lib.hid (hA.below hb2)
    have hB2 := Lib.hid hB
    have hb := below_on hb1 hb2
    clear hA hB hb1 hb2 r1 r2 d1 d2 d3 c1 c2 c3 c4
    go_wp2
    go_loopw [14] (fun i W => ∃ j : Nat, i = .int .i64 j ∧ j ≤ n ∧ j ≤ m ∧ Hid (xs.take j = ys.take j) ∧ Below w2.heap.size w2 W) (fun i _ => n - (intOf i).toNat)
    case atStart => exact ⟨0, rfl, by omega, by omega, by show _ = _; simp, Below.refl _ _⟩
    case round =>
      obtain ⟨j, rfl, hjn, hjm, hE, hBl⟩ := hrel
      have hbw := below_on hb hBl
      by_cases hlt : j < n ∧ j < m
      · obtain ⟨h1, h2⟩ := hlt
        have l1 : j < xs.length := by rw [HX.out]; exact h1
        have l2 : j < ys.length := by rw [HY.out]; exact h2
        rcases hA2.out.below hBl with h0 | ⟨b, off, rfl, hc⟩
        · subst h0; simp at l1
        rcases hB2.out.below hBl with h0 | ⟨b2, off2, rfl, hc2⟩
        · subst h0; simp at l2
        have e1 := hc j l1
        have e2 := hc2 j l2
        have hd := H3.out j h1 h2 hE.out
        have s1 := Lib.hid (take_snoc xs j l1)
        have s2 := Lib.hid (take_snoc ys j l2)
        generalize xs.getD j 0 = p at e1 hd s1
        generalize ys.getD j 0 = r at e2 hd s2
        clear hc hc2 l1 l2
        rcases hpr : (p != r) with _ | _
        · have hpe : p = r := by simpa using hpr
          have HE : Hid (xs.take (j + 1) = ys.take (j + 1)) := Lib.hid (by rw [s1.out, s2.out, hE.out, hpe])
          clear hpe hd
          go_wp2_with (go_quiet (fail))
          exact ⟨⟨j + 1, by go_num, by omega, by omega, HE, below_on hBl (below_drewN _ _)⟩, by simp [intOf]; omega⟩
        · have hx2 := hd (by simpa using hpr)
          clear hd s1 s2
          have ca := fun W => above_any p r W
          obtain ⟨G, hG⟩ : ∃ G, aboveF p r = G := ⟨_, rfl⟩
          rw [hG] at hx2 ca
          have k1 : (x == 1) = G := by rcases G with _ | _ <;> simp at hx2 <;> subst hx2 <;> rfl
          have k2 : (x != 0) = true := by rcases G with _ | _ <;> simp at hx2 <;> subst hx2 <;> rfl
          have k3 : (G == G) = true := by simp
          clear hx2 hG
          have SK : Hid (∀ W, Below wr.heap.size wr W → (Below wr.heap.size wr W ∧ W.cell? ⟨b, off + j, none⟩ = some (.int .i32 p) ∧ W.cell? ⟨b2, off2 + j, none⟩ = some (.int .i32 r))) :=
            Lib.hid fun W hW => ⟨hW, (hW.cell (World.block_lt_of_cell? wr _ e1)).trans e1, (hW.cell (World.block_lt_of_cell? wr _ e2)).trans e2⟩
          go_upto_region 14 with (go_quiet (fail))
          go_cut [6] (fun r W => r = .bool true ∧ Below wr.heap.size wr W)
          case first =>
            go_region_held3 (fun W => Below wr.heap.size wr W ∧ W.cell? ⟨b, off + j, none⟩ = some (.int .i32 p) ∧ W.cell? ⟨b2, off2 + j, none⟩ = some (.int .i32 r))
              (first | exact SK.out _ (below_on (below_drewN _ _) (below_drewN _ _)) | exact SK.out _ (below_on hbX hb7) | exact SK.out _ (below_drewN _ _) | exact SK.out _ (below_drewN _ _).drew | assumption) (first
              | (go_at_call 25; with_reducible refine (ca _).mono ?_; rintro e w6 ⟨rfl, rfl⟩)
              | (go_at_call 13; have hbX := (‹Below wr.heap.size wr _ ∧ _ ∧ _›).1; refine (lives_any _).mono ?_; rintro e w7 ⟨rfl, hb7⟩))
            all_goals (go_wp2_with fail; go_meet; exact ⟨rfl, by first | assumption | exact (‹Below wr.heap.size wr _ ∧ _ ∧ _›).1⟩)
          case rest =>
            obtain ⟨rfl, hcb⟩ := hcut
            go_wp2
            go_ret
            exact ⟨rfl, below_on hbw hcb⟩
      · have hend := H4.out j hlt hjn hjm hE.out
        rcases Nat.lt_trichotomy n m with h | h | h
        · rw [if_pos h] at hend
          have g1 : decide (x < 0) = true := by rw [hend]; rfl
          have g3 : (x == 0) = false := by rw [hend]; rfl
          have g4 : ((n : Int) == (m : Int)) = false := by simp; omega
          have g2 : ¬ ((j : Int) < (n : Int)) := by omega
          clear hend hlt
          go_wp2_with (go_at_call 13; refine (lives_any _).mono ?_; rintro e w3 ⟨rfl, hb3⟩)
          go_ret
          exact ⟨rfl, below_on hbw hb3⟩
        · rw [if_neg (by omega), if_neg (by omega)] at hend
          subst h
          have g1 : decide (x < 0) = false := by rw [hend]; rfl
          have g3 : (x == 0) = true := by rw [hend]; rfl
          have g4 : ((n : Int) == (n : Int)) = true := by simp
          have g2 : ¬ ((j : Int) < (n : Int)) := by omega
          clear hend hlt
          go_wp2_with (go_at_call 13; refine (lives_any _).mono ?_; rintro e w3 ⟨rfl, hb3⟩)
          go_ret
          exact ⟨rfl, below_on hbw hb3⟩
        · rw [if_neg (by omega), if_pos h] at hend
          have g1 : decide (x < 0) = false := by rw [hend]; rfl
          have g3 : (x == 0) = false := by rw [hend]; rfl
          have g5 : decide (n < m) = false := by simp; omega
          have g4 : ((n : Int) == (m : Int)) = false := by simp; omega
          have g2 : ¬ ((j : Int) < (m : Int)) := by omega
          clear hend hlt
          go_wp2_with (go_at_call 13; refine (lives_any _).mono ?_; rintro e w3 ⟨rfl, hb3⟩)
          go_ret
          exact ⟨rfl, below_on hbw hb3⟩

theorem codesF_ne {s : ByteArray} (h : 0 < s.size) : codesF s ≠ [] := by
  unfold codesF
  obtain ⟨k, hk⟩ : ∃ k, s.size = k + 1 := ⟨s.size - 1, by omega⟩
  rw [hk]
  exact codesL_ne h
theorem cmpF_flip (s t : ByteArray) : cmpF t s = - cmpF s t := by rw [cmpF_eq, cmpF_eq, cmpLL_flip]
theorem strs_eq (s t : ByteArray) : (s.toList == t.toList) = (cmpF s t == 0) := by
  rw [Bool.eq_iff_iff]
  simp only [beq_iff_eq]
  rw [cmpF_zero, ByteArray.toList_eq, ByteArray.toList_eq]
  exact ⟨Go.WideShapes.bytes_inj, fun h => by rw [h]⟩
theorem totalW (s t u : ByteArray) (w : World) (hs : s.size ≤ 1048576) (ht : t.size ≤ 1048576) (hu : u.size ≤ 1048576) :
    Calls Try.prog 8 #[.string s, .string t, .string u] w fun e w' => e = .returned (.bool true) ∧ Below w.heap.size w w' := by
  have c1 := fun w => cmp_any s t w (by omega) (by omega)
  have c2 := fun w => cmp_any t u w (by omega) (by omega)
  have c3 := fun w => cmp_any s u w (by omega) (by omega)
  have c4 := fun w => cmp_any t s w (by omega) (by omega)
  rw [cmpF_flip] at c4
  have hr : -1 ≤ cmpF s t ∧ cmpF s t ≤ 1 := by
    rw [cmpF_eq]
    rcases cmpLL_range (codesF s) (codesF t) with h | h | h <;> rw [h] <;> omega
  have h1 : cmpF s t ≤ 0 → cmpF t u ≤ 0 → cmpF s u ≤ 0 := by
    rw [cmpF_eq, cmpF_eq, cmpF_eq]
    exact cmpLL_trans _ _ _
  have h2 : 0 ≤ cmpF s t → 0 ≤ cmpF t u → 0 ≤ cmpF s u := by
    intro a b
    have k := cmpLL_trans (codesF u) (codesF t) (codesF s)
    rw [← cmpF_eq, ← cmpF_eq, ← cmpF_eq, cmpF_flip t u, cmpF_flip s t, cmpF_flip s u] at k
    omega
  have hbadR : ∀ (s : ByteArray), s.size ≤ 1048576 → ∃ b : Bool, (b = true ↔ badF s = s.size) ∧ ∀ W, Calls Try.prog 21 #[.string s] W fun e w' => ∃ v, e = .returned (.tuple #[v, .bool b]) ∧ Below W.heap.size W w' := by
    intro s hs
    by_cases g : badF s = s.size
    · exact ⟨true, by simp [g], fun W => (Runes_good s W (by omega) g).mono fun e w' ⟨v, he, _, hb⟩ => ⟨v, he, hb⟩⟩
    · have := bad_le s
      exact ⟨false, by simp [g], fun W => (Runes_bad s W (by omega) (by omega)).mono fun e w' ⟨he, hw⟩ => ⟨_, he, by subst hw; exact Below.refl _ _⟩⟩
  by_cases g : badF s = s.size ∧ badF t = t.size
  · obtain ⟨g1, g2⟩ := g
    have t1 := ptsF_text g1
    have t2 := ptsF_text g2
    have R : ∀ (s : ByteArray), s.size ≤ 1048576 → badF s = s.size → ∀ W, Calls Try.prog 21 #[.string s] W fun e w' => ∃ A c, e = .returned (.tuple #[.slice A (ptsF s).length c, .bool true]) ∧ RK w' .i32 A (ptsF s) ∧ Below W.heap.size W w' := fun s hs g W =>
      (Runes_good s W (by omega) g).mono fun e w' ⟨v, he, ho, hb⟩ => by
        obtain ⟨A, c, rfl, hA, _, _⟩ := ho.slice
        exact ⟨A, c, he, hA, hb⟩
    have eq1 : cmpF s t = cmpLL (unitsPs (ptsF s)) (unitsPs (ptsF t)) := by rw [cmpF_eq, codesF_text t1, codesF_text t2]
    have d1 := fun w => cmp_any s (s ++ ⟨#[0]⟩) w (by omega) (by rw [ByteArray.size_append]; show s.size + 1 ≤ _; omega)
    have d2 := fun w => cmp_any (t ++ s) (t ++ ⟨#[122]⟩ ++ s) w (by rw [ByteArray.size_append]; omega) (by rw [ByteArray.size_append, ByteArray.size_append]; show t.size + 1 + s.size ≤ _; omega)
    have d3 := fun w => cmp_any s (⟨#[122]⟩ ++ s) w (by omega) (by rw [ByteArray.size_append]; show 1 + s.size ≤ _; omega)
    have q1 : cmpF s (s ++ ⟨#[0]⟩) = -1 := by
      rw [cmpF_eq, codesF_app _ t1]
      have := cmpLL_app (codesF s) [] (codesF ⟨#[0]⟩)
      rw [List.append_nil] at this
      rw [this]
      exact cmpLL_l _ (codesF_ne (by decide))
    have q2 : cmpF (t ++ s) (t ++ ⟨#[122]⟩ ++ s) = cmpF s (⟨#[122]⟩ ++ s) := by
      rw [cmpF_eq, ByteArray.append_assoc, codesF_app _ t2, codesF_app _ t2, cmpLL_app, ← cmpF_eq]
    rw [q1] at d1
    rw [q2] at d2
    have l1 := t1.len
    have l2 := t2.len
    refine total_good s t u _ _ _ _ w _ _ (ptsF s) (ptsF t) rfl rfl (by omega) (by omega) hs ht c1 c2 c3 c4 hr.1 hr.2 (strs_eq s t) h1 h2 (R s hs g1) (R t ht g2) d1 d2 d3 ?_ ?_
    · intro i i1 i2 he hne
      rw [eq1]
      exact cmp_diff t1.pts t2.pts i1 i2 he hne
    · intro i i0 i1 i2 he
      rw [eq1]
      exact cmp_same i0 i1 i2 he
  · obtain ⟨b1, k1, r1⟩ := hbadR s hs
    obtain ⟨b2, k2, r2⟩ := hbadR t ht
    refine total_bad s t u _ _ _ w b1 b2 ?_ c1 c2 c3 c4 hr.1 hr.2 (strs_eq s t) h1 h2 r1 r2
    rcases b1 with _ | _ <;> rcases b2 with _ | _ <;> first | rfl | exact absurd ⟨k1.1 rfl, k2.1 rfl⟩ g
end Go.Proofs.Ytolnnkalgioobaa
