/- The walk of UtfJoins. -/
import Derived.Test.YtolnnkalgioobaaZb
namespace Go.Proofs.Ytolnnkalgioobaa
open Go.RowKit
set_option maxRecDepth 100000
set_option linter.unusedVariables false
set_option linter.unusedSimpArgs false
set_option linter.unnecessarySimpa false

set_option maxHeartbeats 4000000 in
theorem joins_bad (s t : ByteArray) (w : World) (b1 b2 b3 : Bool) (hbb : (b1 && b2) = false) (hss : s.size + t.size ≤ 9223372036854775807)
    (r1 : ∀ W, Calls Try.prog 21 #[.string s] W fun e w' => ∃ v, e = .returned (.tuple #[v, .bool b1]) ∧ Below W.heap.size W w')
    (r2 : ∀ W, Calls Try.prog 21 #[.string t] W fun e w' => ∃ v, e = .returned (.tuple #[v, .bool b2]) ∧ Below W.heap.size W w')
    (r3 : ∀ W, Calls Try.prog 21 #[.string (s ++ t)] W fun e w' => ∃ v, e = .returned (.tuple #[v, .bool b3]) ∧ Below W.heap.size W w') :
    Calls Try.prog 7 #[.string s, .string t] w fun e w' => e = .returned (.bool true) ∧ Below w.heap.size w w' := by
  rcases b1 with _ | _ <;> rcases b2 with _ | _
  all_goals first
    | (cases hbb; done)
    | (go_enter Try.func7, Try.ntmps7
       go_wp2_with (first
          | (go_at_call 21; with_reducible refine (r1 _).mono ?_; rintro e w1 ⟨v1, rfl, hb1⟩)
          | (go_at_call 21; with_reducible refine (r2 _).mono ?_; rintro e w2 ⟨v2, rfl, hb2⟩)
          | (go_at_call 21; with_reducible refine (r3 _).mono ?_; rintro e w3 ⟨v3, rfl, hb3⟩)
          | (go_at_call 13; refine (lives_any _).mono ?_; rintro e w4 ⟨rfl, hb4⟩))
       go_ret
       exact ⟨rfl, below_on (below_on (below_on hb1 hb2) hb3) hb4⟩)

set_option maxHeartbeats 4000000 in
theorem joins_good (s t : ByteArray) (w : World) (n m p q : Nat) (xs ys us vs : List Int) (hx : xs.length = n) (hy : ys.length = m) (hu : us.length = p) (hv : vs.length = q)
    (hn : n ≤ 2097152) (hm : m ≤ 2097152) (hp : p ≤ 4194304) (hq : q ≤ 4194304) (hs : s.size ≤ 1048576) (ht : t.size ≤ 1048576)
    (r1 : ∀ W, Calls Try.prog 21 #[.string s] W fun e w' => ∃ A c, e = .returned (.tuple #[.slice A n c, .bool true]) ∧ RK w' .i32 A xs ∧ Below W.heap.size W w')
    (r2 : ∀ W, Calls Try.prog 21 #[.string t] W fun e w' => ∃ A c, e = .returned (.tuple #[.slice A m c, .bool true]) ∧ RK w' .i32 A ys ∧ Below W.heap.size W w')
    (r3 : ∀ W, Calls Try.prog 21 #[.string (s ++ t)] W fun e w' => ∃ A c, e = .returned (.tuple #[.slice A (n + m) c, .bool true]) ∧ RK w' .i32 A (xs ++ ys) ∧ Below W.heap.size W w')
    (u1 : ∀ W, Calls Try.prog 23 #[.string s] W fun e w' => ∃ A c, e = .returned (.tuple #[.slice A p c, .bool true]) ∧ RK w' .u16 A us ∧ Below W.heap.size W w')
    (u2 : ∀ W, Calls Try.prog 23 #[.string t] W fun e w' => ∃ A c, e = .returned (.tuple #[.slice A q c, .bool true]) ∧ RK w' .u16 A vs ∧ Below W.heap.size W w')
    (u3 : ∀ W, Calls Try.prog 23 #[.string (s ++ t)] W fun e w' => ∃ A c, e = .returned (.tuple #[.slice A (p + q) c, .bool true]) ∧ RK w' .u16 A (us ++ vs) ∧ Below W.heap.size W w') :
    Calls Try.prog 7 #[.string s, .string t] w fun e w' => e = .returned (.bool true) ∧ Below w.heap.size w w' := by
  obtain ⟨i0, hi, hz0, hz1, hz2⟩ := info_parts info21
  obtain ⟨i1, ki, kz0, kz1, kz2⟩ := info_parts info60
  have hss : s.size + t.size ≤ 9223372036854775807 := by omega
  have HX := Lib.hid hx
  have HY := Lib.hid hy
  have HU := Lib.hid hu
  have HV := Lib.hid hv
  clear hx hy hu hv
  have bs1 : ∀ W : World, (Instr.buildSlice 41 0 #[]).run Try.prog W = .ok (.slice (some ⟨W.heap.size, 0, none⟩) 0 0) (W.alloc (.cells #[] 21)) := fun W => by kernel_rfl
  have bs2 : ∀ W : World, (Instr.buildSlice 45 0 #[]).run Try.prog W = .ok (.slice (some ⟨W.heap.size, 0, none⟩) 0 0) (W.alloc (.cells #[] 60)) := fun W => by kernel_rfl
  go_enter Try.func7, Try.ntmps7
  go_upto_region 6 with (first
    | (go_at_call 21; with_reducible refine (r1 _).mono ?_; rintro e w1 ⟨A, cA, rfl, hA, hb1⟩)
    | (go_at_call 21; with_reducible refine (r2 _).mono ?_; rintro e w2 ⟨B, cB, rfl, hB, hb2⟩)
    | (go_at_call 21; with_reducible refine (r3 _).mono ?_; rintro e w3 ⟨C, cC, rfl, hC, hb3⟩))
  have rA := (hA.below (below_on hb2 hb3)).reads
  have rB := (hB.below hb3).reads
  have h03 := below_on (below_on hb1 hb2) hb3
  rw [HX.out] at rA
  rw [HY.out] at rB
  have HRC := Lib.hid hC
  clear hA hB hb1 hb2 hb3 hC r1 r2 r3
  go_upto_region 8 with (first
    | (at_builtin
       refine wpList_append_anyG _ (by rfl) (.tmp 51) (.tmp 52) 41 rfl w3.heap.size 21 i0 (.int .i32 0) 1 4 Try.underlying41 hi hz0 hz1 hz2 rfl (by omega) (.slice (some ⟨w3.heap.size, 0, none⟩) 0 0) 0 [] rfl (own_empty w3 _ 21 (Nat.le_refl _)) w3.heap.size A n cA (numsK .i32 xs) rfl (rA.alloc (Nat.le_refl _) _) (nums_one _ _) (by simp only [maxLen]; omega) (by omega) (by simp) ?_
       intro v1 w4 ho1 hg1 _
       have hb4 : Below w3.heap.size w3 w4 := ((Below.refl _ w3).alloc (Nat.le_refl _) _).grown hg1 (by simp) (fun k hk => by cases hk; exact Nat.le_refl _))
    | (at_builtin
       refine wpList_append_anyG _ (by rfl) (.tmp 53) (.tmp 54) 41 rfl w3.heap.size 21 i0 (.int .i32 0) 1 4 Try.underlying41 hi hz0 hz1 hz2 rfl (by omega) v1 (0 + n) ([] ++ numsK .i32 xs) rfl ho1 w3.heap.size B m cB (numsK .i32 ys) rfl (rB.below hb4) (nums_one _ _) (by simp only [maxLen]; omega) (by omega) hb4.size ?_
       intro v2 w5 ho2 hg2 _
       have hb5 : Below w3.heap.size w3 w5 := hb4.grown hg2 hb4.size (fun k hk => (World.ownsRow.lt ho1 k hk).1)
       have hO : Own w5 w3.heap.size 21 .i32 v2 (xs ++ ys) := (by unfold Own; rw [numsK_append, List.length_append, HX.out, HY.out]; simpa using ho2)
       obtain ⟨D, cD, rfl, hRD, _, _⟩ := hO.slice
       rw [List.length_append, HX.out, HY.out])
    | (go_at_call 22
       refine (sameR_eq D C (n + m) cD cC (xs ++ ys) (xs ++ ys) _ (by rw [List.length_append, HX.out, HY.out]) (by rw [List.length_append, HX.out, HY.out]) (by omega) hRD (HRC.out.below hb5)).mono ?_
       simp only [decide_true]
       rintro e w6 ⟨rfl, hb6⟩))
  have h06 := below_on h03 (below_on hb5 hb6)
  clear h03 hb4 hb5 hb6 rA rB HRC hRD ho1 ho2 hg1 hg2 hO bs1
  go_upto_region 11 with (first
    | (go_at_call 23; with_reducible refine (u1 _).mono ?_; rintro e w7 ⟨A2, cA2, rfl, hA, hb1⟩)
    | (go_at_call 23; with_reducible refine (u2 _).mono ?_; rintro e w8 ⟨B2, cB2, rfl, hB, hb2⟩)
    | (go_at_call 23; with_reducible refine (u3 _).mono ?_; rintro e w9 ⟨C2, cC2, rfl, hC, hb3⟩))
  have rA := (hA.below (below_on hb2 hb3)).reads
  have rB := (hB.below hb3).reads
  have h03 := below_on h06 (below_on (below_on hb1 hb2) hb3)
  rw [HU.out] at rA
  rw [HV.out] at rB
  have HRC := Lib.hid hC
  clear hA hB hb1 hb2 hb3 hC u1 u2 u3 h06
  go_upto_region 13 with (first
    | (at_builtin
       refine wpList_append_anyG _ (by rfl) (.tmp 88) (.tmp 89) 45 rfl w9.heap.size 60 i1 (.int .u16 0) 1 2 Try.underlying45 ki kz0 kz1 kz2 rfl (by omega) (.slice (some ⟨w9.heap.size, 0, none⟩) 0 0) 0 [] rfl (own_empty w9 _ 60 (Nat.le_refl _)) w9.heap.size A2 p cA2 (numsK .u16 us) rfl (rA.alloc (Nat.le_refl _) _) (nums_one _ _) (by simp only [maxLen]; omega) (by omega) (by simp) ?_
       intro v1 w4 ho1 hg1 _
       have hb4 : Below w9.heap.size w9 w4 := ((Below.refl _ w9).alloc (Nat.le_refl _) _).grown hg1 (by simp) (fun k hk => by cases hk; exact Nat.le_refl _))
    | (at_builtin
       refine wpList_append_anyG _ (by rfl) (.tmp 90) (.tmp 91) 45 rfl w9.heap.size 60 i1 (.int .u16 0) 1 2 Try.underlying45 ki kz0 kz1 kz2 rfl (by omega) v1 (0 + p) ([] ++ numsK .u16 us) rfl ho1 w9.heap.size B2 q cB2 (numsK .u16 vs) rfl (rB.below hb4) (nums_one _ _) (by simp only [maxLen]; omega) (by omega) hb4.size ?_
       intro v2 w5 ho2 hg2 _
       have hb5 : Below w9.heap.size w9 w5 := hb4.grown hg2 hb4.size (fun k hk => (World.ownsRow.lt ho1 k hk).1)
       have hO : Own w5 w9.heap.size 60 .u16 v2 (us ++ vs) := (by unfold Own; rw [numsK_append, List.length_append, HU.out, HV.out]; simpa using ho2)
       obtain ⟨D2, cD2, rfl, hRD, _, _⟩ := hO.slice
       rw [List.length_append, HU.out, HV.out])
    | (go_at_call 24
       refine (sameU_eq D2 C2 (p + q) cD2 cC2 (us ++ vs) (us ++ vs) _ (by rw [List.length_append, HU.out, HV.out]) (by rw [List.length_append, HU.out, HV.out]) (by omega) hRD (HRC.out.below hb5)).mono ?_
       simp only [decide_true]
       rintro e w10 ⟨rfl, hb6⟩))
  have h06 := below_on h03 (below_on hb5 hb6)
  clear h03 hb4 hb5 hb6 rA rB HRC hRD ho1 ho2 hg1 hg2 hO bs2
  go_wp2
  go_loopw [17] (fun i W => ∃ j : Nat, i = .int .i64 j ∧ j ≤ t.size ∧ j ≤ 40 ∧ W = w10) (fun i _ => t.size - (intOf i).toNat)
  case atStart => exact ⟨0, rfl, by omega, by omega, rfl⟩
  case round =>
    obtain ⟨j, rfl, hj, hj4, rfl⟩ := hrel
    by_cases hlt : j < t.size ∧ j < 40
    · obtain ⟨h1, h2⟩ := hlt
      have cA := fun W => first_any t j W (by omega)
      have cB := fun W => first_any (s ++ t) (s.size + j) W (by omega)
      rw [decS_app_r, show ((s.size + j : Nat) : Int) = (s.size : Int) + (j : Int) from by omega] at cB
      have g1 : (j : Int) < (t.size : Int) := by omega
      have g2 : (j : Int) < 40 := by omega
      rcases hd : decS t j with _ | ⟨P, k⟩
      · rw [hd] at cA cB
        simp only [firstV] at cA cB
        clear hd
        go_wp2_with (first
          | (go_at_call 12; with_reducible refine (cA _).mono ?_; rintro e w1 ⟨rfl, rfl⟩)
          | (go_at_call 12; with_reducible refine (cB _).mono ?_; rintro e w1 ⟨rfl, rfl⟩))
        exact ⟨⟨j + 1, by go_num, by omega, by omega, trivial⟩, by simp [intOf]; omega⟩
      · rw [hd] at cA cB
        simp only [firstV] at cA cB
        clear hd
        go_wp2_with (first
          | (go_at_call 12; with_reducible refine (cA _).mono ?_; rintro e w1 ⟨rfl, rfl⟩)
          | (go_at_call 12; with_reducible refine (cB _).mono ?_; rintro e w1 ⟨rfl, rfl⟩))
        exact ⟨⟨j + 1, by go_num, by omega, by omega, trivial⟩, by simp [intOf]; omega⟩
    · by_cases h1 : j < t.size
      · have g1 : ¬ ((j : Int) < 40) := by omega
        clear hlt
        go_wp2_with (go_at_call 13; refine (lives_any _).mono ?_; rintro e w4 ⟨rfl, hb4⟩)
        go_ret
        exact ⟨rfl, below_on h06 hb4⟩
      · have g1 : ¬ ((j : Int) < (t.size : Int)) := by omega
        clear hlt
        go_wp2_with (go_at_call 13; refine (lives_any _).mono ?_; rintro e w4 ⟨rfl, hb4⟩)
        go_ret
        exact ⟨rfl, below_on h06 hb4⟩

theorem Runes_is (s : ByteArray) (hs : s.size ≤ 8796093022208) (g : badF s = s.size) (l : List Int) (hl : ptsF s = l) (n : Nat) (hn : l.length = n) (W : World) :
    Calls Try.prog 21 #[.string s] W fun e w' => ∃ A c, e = .returned (.tuple #[.slice A n c, .bool true]) ∧ RK w' .i32 A l ∧ Below W.heap.size W w' := by
  subst hl
  subst hn
  exact (Runes_good s W hs g).mono fun e w' ⟨v, he, ho, hb⟩ => by
    obtain ⟨A, c, rfl, hA, _, _⟩ := ho.slice
    exact ⟨A, c, he, hA, hb⟩
theorem Units_is (s : ByteArray) (hs : s.size ≤ 8796093022208) (g : badF s = s.size) (l : List Int) (hl : unitsPs (ptsF s) = l) (n : Nat) (hn : l.length = n) (W : World) :
    Calls Try.prog 23 #[.string s] W fun e w' => ∃ A c, e = .returned (.tuple #[.slice A n c, .bool true]) ∧ RK w' .u16 A l ∧ Below W.heap.size W w' := by
  subst hl
  subst hn
  refine (Units_good s W hs g).mono fun e w' ⟨v, he, ho, hb⟩ => ?_
  rw [unitsOf_pts] at ho
  obtain ⟨A, c, rfl, hA, _, _⟩ := ho.slice
  exact ⟨A, c, he, hA, hb⟩
theorem Runes_any (s : ByteArray) (hs : s.size ≤ 8796093022208) : ∃ b : Bool, (b = true ↔ badF s = s.size) ∧ ∀ W, Calls Try.prog 21 #[.string s] W fun e w' => ∃ v, e = .returned (.tuple #[v, .bool b]) ∧ Below W.heap.size W w' := by
  by_cases g : badF s = s.size
  · exact ⟨true, by simp [g], fun W => (Runes_good s W (by omega) g).mono fun e w' ⟨v, he, _, hb⟩ => ⟨v, he, hb⟩⟩
  · have := bad_le s
    exact ⟨false, by simp [g], fun W => (Runes_bad s W (by omega) (by omega)).mono fun e w' ⟨he, hw⟩ => ⟨_, he, by subst hw; exact Below.refl _ _⟩⟩
theorem unitsPs_len : ∀ l, (unitsPs l).length ≤ 2 * l.length
  | [] => by simp [unitsPs]
  | x :: l => by
    have := unitsPs_len l
    have h := unitsL_len x
    rw [unitsPs_cons, List.length_append, List.length_cons]
    omega
theorem joinsW (s t : ByteArray) (w : World) (hs : s.size ≤ 1048576) (ht : t.size ≤ 1048576) :
    Calls Try.prog 7 #[.string s, .string t] w fun e w' => e = .returned (.bool true) ∧ Below w.heap.size w w' := by
  by_cases g : badF s = s.size ∧ badF t = t.size
  · obtain ⟨g1, g2⟩ := g
    have t1 := ptsF_text g1
    have t2 := ptsF_text g2
    have t3 := t1.app t2
    have e3 := ptsF_of t3
    have e4 : unitsPs (ptsF (s ++ t)) = unitsPs (ptsF s) ++ unitsPs (ptsF t) := by rw [e3, unitsPs_app]
    have l1 := t1.len
    have l2 := t2.len
    have l3 := unitsPs_len (ptsF s)
    have l4 := unitsPs_len (ptsF t)
    exact joins_good s t w _ _ _ _ (ptsF s) (ptsF t) (unitsPs (ptsF s)) (unitsPs (ptsF t)) rfl rfl rfl rfl (by omega) (by omega) (by omega) (by omega) hs ht
      (Runes_is s (by omega) g1 _ rfl _ rfl) (Runes_is t (by omega) g2 _ rfl _ rfl) (Runes_is (s ++ t) (by rw [ByteArray.size_append]; omega) (bad_of_text t3) _ e3 _ (List.length_append))
      (Units_is s (by omega) g1 _ rfl _ rfl) (Units_is t (by omega) g2 _ rfl _ rfl) (Units_is (s ++ t) (by rw [ByteArray.size_append]; omega) (bad_of_text t3) _ e4 _ (List.length_append))
  · obtain ⟨b1, k1, r1⟩ := Runes_any s (by omega)
    obtain ⟨b2, k2, r2⟩ := Runes_any t (by omega)
    obtain ⟨b3, k3, r3⟩ := Runes_any (s ++ t) (by rw [ByteArray.size_append]; omega)
    refine joins_bad s t w b1 b2 b3 ?_ (by omega) r1 r2 r3
    rcases b1 with _ | _ <;> rcases b2 with _ | _ <;> first | rfl | exact absurd ⟨k1.1 rfl, k2.1 rfl⟩ g
end Go.Proofs.Ytolnnkalgioobaa
