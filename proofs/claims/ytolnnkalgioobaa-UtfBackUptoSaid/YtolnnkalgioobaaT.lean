/- The walk of the document's Cmp. -/
import Derived.Test.YtolnnkalgioobaaS
namespace Go.Proofs.Ytolnnkalgioobaa
open Go.RowKit
set_option maxRecDepth 100000
set_option linter.unusedVariables false
set_option linter.unusedSimpArgs false
set_option linter.unnecessarySimpa false

def cmpLL : List Int → List Int → Int
  | [], [] => 0
  | [], _ :: _ => -1
  | _ :: _, [] => 1
  | x :: xs, y :: ys => if x < y then -1 else if y < x then 1 else cmpLL xs ys
theorem cmpLL_drop (xs ys : List Int) (j : Nat) (hx : j < xs.length) (hy : j < ys.length) : cmpLL (xs.drop j) (ys.drop j) = if xs.getD j 0 < ys.getD j 0 then -1 else if ys.getD j 0 < xs.getD j 0 then 1 else cmpLL (xs.drop (j + 1)) (ys.drop (j + 1)) := by
  rw [List.drop_eq_getElem_cons hx, List.drop_eq_getElem_cons hy, cmpLL]
  simp [List.getD_eq_getElem?_getD, List.getElem?_eq_getElem hx, List.getElem?_eq_getElem hy]
theorem cmpLL_end (xs ys : List Int) (j : Nat) (h : ¬ (j < xs.length ∧ j < ys.length)) (hx : j ≤ xs.length) (hy : j ≤ ys.length) : cmpLL (xs.drop j) (ys.drop j) = if xs.length < ys.length then -1 else if ys.length < xs.length then 1 else 0 := by
  rcases h1 : xs.drop j with _ | ⟨x, r⟩ <;> rcases h2 : ys.drop j with _ | ⟨y, q⟩
  · have a1 := congrArg List.length h1; have a2 := congrArg List.length h2
    simp only [List.length_drop, List.length_nil] at a1 a2
    rw [if_neg (by omega), if_neg (by omega)]; rfl
  · have a1 := congrArg List.length h1; have a2 := congrArg List.length h2
    simp only [List.length_drop, List.length_nil, List.length_cons] at a1 a2
    rw [if_pos (by omega)]; rfl
  · have a1 := congrArg List.length h1; have a2 := congrArg List.length h2
    simp only [List.length_drop, List.length_nil, List.length_cons] at a1 a2
    rw [if_neg (by omega), if_pos (by omega)]; rfl
  · have a1 := congrArg List.length h1; have a2 := congrArg List.length h2
    simp only [List.length_drop, List.length_cons] at a1 a2
    omega

theorem refCmp_of (s t : ByteArray) (xs ys : List Int) (w : World) (hx : xs.length ≤ 2097152) (hy : ys.length ≤ 2097152)
    (c1 : ∀ W, Calls Try.prog 37 #[.string s] W fun e w' => ∃ v, e = .returned v ∧ Own w' W.heap.size 3 .i64 v xs ∧ Below W.heap.size W w')
    (c2 : ∀ W, Calls Try.prog 37 #[.string t] W fun e w' => ∃ v, e = .returned v ∧ Own w' W.heap.size 3 .i64 v ys ∧ Below W.heap.size W w') :
    Calls Try.prog 16 #[.string s, .string t] w fun e w' => e = .returned (.int .i64 (cmpLL xs ys)) ∧ Below w.heap.size w w' := by
  obtain ⟨n, hn⟩ : ∃ n, xs.length = n := ⟨_, rfl⟩
  obtain ⟨m, hm⟩ : ∃ m, ys.length = m := ⟨_, rfl⟩
  have HN := Lib.hid hn
  have HM := Lib.hid hm
  rw [hn] at hx
  rw [hm] at hy
  go_enter Try.func16, Try.ntmps16
  go_upto_region 2 with (first
    | (go_at_call 37; with_reducible refine (c1 _).mono ?_; rintro e w1 ⟨v, rfl, ho1, hb1⟩; obtain ⟨A, c, rfl, hA, _, _⟩ := ho1.slice; rw [hn])
    | (go_at_call 37; with_reducible refine (c2 _).mono ?_; rintro e w2 ⟨v, rfl, ho2, hb2⟩; obtain ⟨B, d, rfl, hBr, _, _⟩ := ho2.slice; rw [hm]))
  have hA2 := Lib.hid (hA.below hb2)
  have hB2 := Lib.hid hBr
  have hb := below_on hb1 hb2
  clear ho1 ho2 hA hBr hn hm hb1 hb2
  go_wp2
  go_loopw [7] (fun i W => ∃ j : Nat, i = .int .i64 j ∧ j ≤ n ∧ j ≤ m ∧ Hid (cmpLL xs ys = cmpLL (xs.drop j) (ys.drop j)) ∧ Below w2.heap.size w2 W) (fun i _ => n - (intOf i).toNat)
  case atStart => exact ⟨0, rfl, by omega, by omega, by show _ = _; simp, Below.refl _ _⟩
  case round =>
    obtain ⟨j, rfl, hjn, hjm, hE, hB⟩ := hrel
    have hbw := below_on hb hB
    by_cases hlt : j < n ∧ j < m
    · obtain ⟨h1, h2⟩ := hlt
      have l1 : j < xs.length := by rw [HN.out]; exact h1
      have l2 : j < ys.length := by rw [HM.out]; exact h2
      rcases hA2.out.below hB with h0 | ⟨b, off, rfl, hc⟩
      · subst h0; simp at l1
      rcases hB2.out.below hB with h0 | ⟨b2, off2, rfl, hc2⟩
      · subst h0; simp at l2
      have e1 := hc j l1
      have e2 := hc2 j l2
      have hd := Lib.hid (hE.out.trans (cmpLL_drop xs ys j l1 l2))
      clear hE
      generalize xs.getD j 0 = x at e1 hd
      generalize ys.getD j 0 = y at e2 hd
      clear hc hc2 l1 l2
      rcases hxy : decide (x < y) with _ | _
      · rcases hyx : decide (y < x) with _ | _
        · have hr : Hid (cmpLL xs ys = cmpLL (xs.drop (j + 1)) (ys.drop (j + 1))) := Lib.hid (by rw [hd.out, if_neg (by simpa using hxy), if_neg (by simpa using hyx)])
          clear hd
          go_wp2_with (go_quiet (fail))
          exact ⟨⟨j + 1, by go_num, by omega, by omega, hr, below_on hB (below_drewN _ _)⟩, by simp [intOf]; omega⟩
        · have hr : Hid (cmpLL xs ys = 1) := Lib.hid (by rw [hd.out, if_neg (by simpa using hxy), if_pos (by simpa using hyx)])
          clear hd
          go_wp2_with (go_quiet (fail))
          go_ret
          exact ⟨by rw [hr.out]; rfl, by first | exact below_on hbw (below_drewN _ _) | exact below_on (below_on hbw (below_drewN _ _)) (below_drewN _ _)⟩
      · have hr : Hid (cmpLL xs ys = -1) := Lib.hid (by rw [hd.out, if_pos (by simpa using hxy)])
        clear hd
        go_wp2_with (go_quiet (fail))
        go_ret
        exact ⟨by rw [hr.out]; rfl, by first | exact below_on hbw (below_drewN _ _) | exact below_on (below_on hbw (below_drewN _ _)) (below_drewN _ _)⟩
    · have hend := cmpLL_end xs ys j (by rw [HN.out, HM.out]; exact hlt) (by rw [HN.out]; exact hjn) (by rw [HM.out]; exact hjm)
      rw [HN.out, HM.out] at hend
      have fin : ∀ v : Int, (if n < m then (-1 : Int) else if m < n then 1 else 0) = v → cmpLL xs ys = v := fun v h => by rw [hE.out, hend, h]
      clear hE hend
      rcases Nat.lt_trichotomy n m with h | h | h
      · have hr := Lib.hid (fin (-1) (by rw [if_pos h]))
        have g1 : (n : Int) < (m : Int) := by omega
        have g2 : ¬ ((j : Int) < (n : Int)) := by omega
        clear fin h hlt
        go_wp2
        go_ret
        exact ⟨by rw [hr.out]; rfl, hbw⟩
      · have hr := Lib.hid (fin 0 (by rw [if_neg (by omega), if_neg (by omega)]))
        have g1 : ¬ ((n : Int) < (m : Int)) := by omega
        have g3 : ¬ ((m : Int) < (n : Int)) := by omega
        have g2 : ¬ ((j : Int) < (n : Int)) := by omega
        clear fin h hlt
        go_wp2
        go_ret
        exact ⟨by rw [hr.out]; rfl, hbw⟩
      · have hr := Lib.hid (fin 1 (by rw [if_neg (by omega), if_pos h]))
        have g1 : ¬ ((n : Int) < (m : Int)) := by omega
        have g3 : (m : Int) < (n : Int) := by omega
        have g2 : ¬ ((j : Int) < (m : Int)) := by omega
        clear fin h hlt
        go_wp2
        go_ret
        exact ⟨by rw [hr.out]; rfl, hbw⟩
end Go.Proofs.Ytolnnkalgioobaa
