/- utf.Cmp; SameUnits. -/
import Derived.Test.YtolnnkalgioobaaGreatDoorI
namespace Go.Proofs.YtolnnkalgioobaaGreatDoor
open Go.RowKit
set_option maxRecDepth 100000
set_option linter.unusedVariables false
set_option linter.unusedSimpArgs false
set_option linter.unnecessarySimpa false

def cmpE (s t : ByteArray) : Int := if s.size < t.size then -1 else if t.size < s.size then 1 else 0
def cmpK : Nat → ByteArray → ByteArray → Nat → Int
  | 0, s, t, _ => cmpE s t
  | k + 1, s, t, a => if a < s.size ∧ a < t.size then
      (if (weighF s a).1 < (weighF t a).1 then -1 else if (weighF t a).1 < (weighF s a).1 then 1 else cmpK k s t (a + min (weighF s a).2 (weighF t a).2))
    else cmpE s t
def cmpF (s t : ByteArray) : Int := cmpK (s.size + t.size) s t 0
theorem weigh_fit (s : ByteArray) (a : Nat) (ha : a < s.size) : 1 ≤ (weighF s a).2 ∧ (weighF s a).2 ≤ 4 ∧ a + (weighF s a).2 ≤ s.size := by
  unfold weighF
  rcases hd : decS s a with _ | ⟨p, n⟩
  · simp; omega
  · have := decS_some hd
    simp only
    split <;> (simp; omega)
theorem cmpK_end (s t : ByteArray) (a : Nat) (h : ¬ (a < s.size ∧ a < t.size)) : ∀ k, cmpK k s t a = cmpE s t
  | 0 => rfl
  | k + 1 => by rw [cmpK, if_neg h]

theorem cmp_any (s t : ByteArray) (w : World) (hs : s.size ≤ 140737488351232) (ht : t.size ≤ 140737488351232) :
    Calls Tryz.prog 77 #[.string s, .string t] w fun e w' => e = .returned (.int .i64 (cmpF s t)) ∧ w = w' := by
  go_enter Tryz.func77, Tryz.ntmps77
  go_wp2
  go_loopw [5] (fun i W => ∃ a k : Nat, i = .int .i64 a ∧ a ≤ s.size ∧ a ≤ t.size ∧ s.size ≤ a + k ∧ Hid (cmpF s t = cmpK k s t a) ∧ W = w) (fun i _ => s.size - (intOf i).toNat)
  case atStart => exact ⟨0, s.size + t.size, rfl, by omega, by omega, by omega, rfl, rfl⟩
  case round =>
    obtain ⟨a, k, rfl, ha, ha2, hk, hC, rfl⟩ := hrel
    by_cases hlt : a < s.size ∧ a < t.size
    · obtain ⟨h1, h2⟩ := hlt
      have c1 := fun w => weigh_any s a w hs h1
      have c2 := fun w => weigh_any t a w ht h2
      have f1 := weigh_fit s a h1
      have f2 := weigh_fit t a h2
      obtain ⟨k, rfl⟩ : ∃ q, k = q + 1 := ⟨k - 1, by omega⟩
      have hC2 : Hid (cmpF s t = if (weighF s a).1 < (weighF t a).1 then -1 else if (weighF t a).1 < (weighF s a).1 then 1 else cmpK k s t (a + min (weighF s a).2 (weighF t a).2)) := Lib.hid (by
        rw [hC.out, cmpK, if_pos ⟨h1, h2⟩])
      clear hC
      generalize weighF s a = A at *
      generalize weighF t a = B at *
      obtain ⟨x, n⟩ := A
      obtain ⟨y, m⟩ := B
      simp only at c1 c2 f1 f2 hC2
      have l1 : (a : Int) < (s.size : Int) := by omega
      have l2 : (a : Int) < (t.size : Int) := by omega
      clear h1 h2
      rcases hxy : decide (x < y) with _ | _
      · rcases hyx : decide (y < x) with _ | _
        · have hr : Hid (cmpF s t = cmpK k s t (a + min n m)) := Lib.hid (by
            rw [hC2.out, if_neg (by simpa using hxy), if_neg (by simpa using hyx)])
          clear hC2
          obtain ⟨q, hq⟩ : ∃ q, q = min n m := ⟨_, rfl⟩
          have hqi : min (n : Int) (m : Int) = (q : Int) := by omega
          rw [← hq] at hr
          have q1 : 1 ≤ q ∧ q ≤ 4 ∧ a + q ≤ s.size ∧ a + q ≤ t.size := by omega
          obtain ⟨q1, q2, q3, q4⟩ := q1
          clear f1 f2
          clear hq
          go_wp2_with (first
            | (go_at_call 113; with_reducible refine (c1 _).mono ?_; rintro e w1 ⟨rfl, rfl⟩)
            | (go_at_call 113; with_reducible refine (c2 _).mono ?_; rintro e w1 ⟨rfl, rfl⟩))
          exact ⟨⟨a + q, k, by go_num, q3, q4, by omega, hr, trivial⟩, by simp [intOf]; omega⟩
        · have hr : Hid (cmpF s t = 1) := Lib.hid (by
            rw [hC2.out, if_neg (by simpa using hxy), if_pos (by simpa using hyx)])
          clear hC2 f1 f2
          go_wp2_with (first
            | (go_at_call 113; with_reducible refine (c1 _).mono ?_; rintro e w1 ⟨rfl, rfl⟩)
            | (go_at_call 113; with_reducible refine (c2 _).mono ?_; rintro e w1 ⟨rfl, rfl⟩))
          go_ret
          exact ⟨by rw [hr.out]; rfl, rfl⟩
      · have hr : Hid (cmpF s t = -1) := Lib.hid (by
          rw [hC2.out, if_pos (by simpa using hxy)])
        clear hC2 f1 f2
        go_wp2_with (first
          | (go_at_call 113; with_reducible refine (c1 _).mono ?_; rintro e w1 ⟨rfl, rfl⟩)
          | (go_at_call 113; with_reducible refine (c2 _).mono ?_; rintro e w1 ⟨rfl, rfl⟩))
        go_ret
        exact ⟨by rw [hr.out]; rfl, rfl⟩
    · have hE : Hid (cmpF s t = cmpE s t) := Lib.hid (by rw [hC.out, cmpK_end s t a hlt])
      clear hC
      have fin : ∀ (v : Int), cmpE s t = v → cmpF s t = v := fun v h => by rw [hE.out, h]
      rcases Nat.lt_trichotomy s.size t.size with h | h | h
      · have hr := Lib.hid (fin (-1) (by unfold cmpE; rw [if_pos h]))
        have g1 : (s.size : Int) < (t.size : Int) := by omega
        have g2 : ¬ ((a : Int) < (s.size : Int)) := by omega
        clear hE fin h hlt
        go_wp2
        go_ret
        exact ⟨by rw [hr.out]; rfl, rfl⟩
      · have hr := Lib.hid (fin 0 (by unfold cmpE; rw [if_neg (by omega), if_neg (by omega)]))
        have g1 : ¬ ((s.size : Int) < (t.size : Int)) := by omega
        have g3 : ¬ ((t.size : Int) < (s.size : Int)) := by omega
        have g2 : ¬ ((a : Int) < (s.size : Int)) := by omega
        clear hE fin h hlt
        go_wp2
        go_ret
        exact ⟨by rw [hr.out]; rfl, rfl⟩
      · have hr := Lib.hid (fin 1 (by unfold cmpE; rw [if_neg (by omega), if_pos h]))
        have g1 : ¬ ((s.size : Int) < (t.size : Int)) := by omega
        have g3 : (t.size : Int) < (s.size : Int) := by omega
        have g2 : ¬ ((a : Int) < (t.size : Int)) := by omega
        clear hE fin h hlt
        go_wp2
        go_ret
        exact ⟨by rw [hr.out]; rfl, rfl⟩

/-- Two lists of code units, element by element. -/
theorem sameU_ne (A B : Option Addr) (n m c d : Nat) (w : World) (h : n ≠ m) : Calls Tryz.prog 17 #[.slice A n c, .slice B m d] w fun e w' => e = .returned (.bool false) ∧ Below w.heap.size w w' := by
  have hb : ((n : Int) != (m : Int)) = true := by simp; omega
  go_enter Tryz.func17, Tryz.ntmps17
  go_wp2
  go_ret
  exact ⟨rfl, Below.refl _ _⟩
theorem sameU_eq (A B : Option Addr) (n c d : Nat) (xs ys : List Int) (w : World) (hx : xs.length = n) (hy : ys.length = n) (hn : n ≤ 140737488351232) (hrx : RK w .u16 A xs) (hry : RK w .u16 B ys) :
    Calls Tryz.prog 17 #[.slice A n c, .slice B n d] w fun e w' => e = .returned (.bool (decide (xs = ys))) ∧ Below w.heap.size w w' := by
  have hR := Lib.hid hrx
  have hRY := Lib.hid hry
  have hX := Lib.hid hx
  have hY := Lib.hid hy
  clear hrx hry hx hy
  go_enter Tryz.func17, Tryz.ntmps17
  go_wp2
  go_loopw [5] (fun i W => ∃ j : Nat, i = .int .i64 j ∧ j ≤ n ∧ Hid (xs.take j = ys.take j) ∧ Below w.heap.size w W) (fun i _ => n - (intOf i).toNat)
  case atStart => exact ⟨0, rfl, by omega, by show _ = _; simp, Below.refl _ _⟩
  case round =>
    obtain ⟨j, rfl, hj, hE, hb⟩ := hrel
    by_cases hlt : j < n
    · have hjx : j < xs.length := by rw [hX.out]; exact hlt
      have hjy : j < ys.length := by rw [hY.out]; exact hlt
      rcases hR.out.below hb with h0 | ⟨b, off, rfl, hc⟩
      · subst h0; simp at hjx
      rcases hRY.out.below hb with h0 | ⟨b2, off2, rfl, hc2⟩
      · subst h0; simp at hjy
      have e1 := hc j hjx
      have e2 := hc2 j hjy
      have s1 := Lib.hid (take_snoc xs j hjx)
      have s2 := Lib.hid (take_snoc ys j hjy)
      obtain ⟨x, ex⟩ : ∃ x, xs.getD j 0 = x := ⟨_, rfl⟩
      obtain ⟨y, ey⟩ : ∃ y, ys.getD j 0 = y := ⟨_, rfl⟩
      rw [ex] at e1
      rw [ey] at e2
      have EX := Lib.hid ex
      have EY := Lib.hid ey
      clear hc hc2 ex ey hjx hjy
      rcases hxy : (x != y) with _ | _
      · have hxe : x = y := by simpa using hxy
        have HE : Hid (xs.take (j + 1) = ys.take (j + 1)) := Lib.hid (by rw [s1.out, s2.out, hE.out, EX.out, EY.out, hxe])
        clear hxe
        go_wp2_with (go_quiet (fail))
        exact ⟨⟨j + 1, by go_num, by omega, HE, below_on hb (below_drewN _ _)⟩, by simp [intOf]; omega⟩
      · have hno : decide (xs = ys) = false := by
          rw [decide_eq_false_iff_not]
          intro h
          have := EX.out.symm.trans ((congrArg (fun l => l.getD j 0) h).trans EY.out)
          simp [this] at hxy
        have HNo := Lib.hid hno
        clear hno
        go_wp2_with (go_quiet (fail))
        go_ret
        exact ⟨by rw [HNo.out]; rfl, below_on hb (below_drewN _ _)⟩
    · obtain rfl : j = n := by omega
      have hyes : decide (xs = ys) = true := by
        rw [decide_eq_true_eq]
        have := hE.out
        rwa [List.take_of_length_le (by rw [hX.out]; omega), List.take_of_length_le (by rw [hY.out]; omega)] at this
      have HYes := Lib.hid hyes
      clear hyes hlt
      go_wp2
      go_ret
      exact ⟨by rw [HYes.out]; rfl, hb⟩
end Go.Proofs.YtolnnkalgioobaaGreatDoor
