/- The walk of UtfBack. -/
import Derived.Deep.CutRange
import Derived.Test.YtolnnkalgioobaaZp
namespace Go.Proofs.Ytolnnkalgioobaa
open Go.RowKit
set_option maxRecDepth 100000
set_option linter.unusedVariables false
set_option linter.unusedSimpArgs false
set_option linter.unnecessarySimpa false

theorem Text_is (A : Option Addr) (n c : Nat) (l : List Int) (s : ByteArray) (w : World) (hl : l.length = n) (hr : RK w .i32 A l) (hn : n ≤ 2097152) (hp : ∀ p ∈ l, isPt p = true) (he : strOfNums (textL l) = s) :
    Calls Try.prog 26 #[.slice A n c] w fun e w' => e = .returned (.tuple #[.string s, .bool true]) ∧ Below w.heap.size w w' := by
  subst he
  exact Text_good A n c l w hl hr hn hp
theorem FromUnits_is (A : Option Addr) (n c : Nat) (u l : List Int) (s : ByteArray) (w : World) (hl : u.length = n) (hr : RK w .u16 A u) (hn : n ≤ 4194304) (hu : ∀ x ∈ u, 0 ≤ x ∧ x ≤ 65535) (hf : fuP 0 u = some l) (he : strOfNums (textL l) = s) :
    Calls Try.prog 27 #[.slice A n c] w fun e w' => e = .returned (.tuple #[.string s, .bool true]) ∧ Below w.heap.size w w' := by
  subst he
  exact (FromUnits_any A n c u w hl hr hn hu).mono fun e w' h => ⟨h.2.1 l hf, h.2.2⟩
theorem FromUnits_no (A : Option Addr) (n c : Nat) (u : List Int) (w : World) (hl : u.length = n) (hr : RK w .u16 A u) (hn : n ≤ 4194304) (hu : ∀ x ∈ u, 0 ≤ x ∧ x ≤ 65535) (hf : fuP 0 u = none) :
    Calls Try.prog 27 #[.slice A n c] w fun e w' => e = .returned (.tuple #[.string ⟨#[]⟩, .bool false]) ∧ Below w.heap.size w w' :=
  (FromUnits_any A n c u w hl hr hn hu).mono fun e w' h => ⟨h.1 hf, h.2.2⟩

theorem Text_gen (A : Option Addr) (n c : Nat) (l : List Int) (w : World) (hl : l.length = n) (hr : RK w .i32 A l) (hn : n ≤ 2097152) :
    ∃ (T : ByteArray) (b : Bool), (b = true → badF T = T.size ∧ ptsF T = l ∧ T.size ≤ 8388608) ∧ (b = false → T = ⟨#[]⟩ ∧ ∃ p ∈ l, isPt p = false) ∧
      ∀ W, Below w.heap.size w W → Calls Try.prog 26 #[.slice A n c] W fun e w' => e = .returned (.tuple #[.string T, .bool b]) ∧ Below W.heap.size W w' := by
  by_cases hp : ∀ p ∈ l, isPt p = true
  · have ht := text_of l hp
    refine ⟨_, true, fun _ => ⟨bad_of_text ht, ptsF_of ht, ?_⟩, (fun h => by cases h), fun W hW => Text_good A n c l W hl (hr.below hW) hn hp⟩
    rw [strOfNums_size]
    have := textL_len l
    omega
  · have hno : ∃ p ∈ l, isPt p = false := by
      have h2 := hp
      simp only [Classical.not_forall] at h2
      obtain ⟨p, h3, h4⟩ := h2
      exact ⟨p, h3, by simpa using h4⟩
    exact ⟨_, false, (fun h => by cases h), fun _ => ⟨rfl, hno⟩, fun W hW => Text_bad A n c l W hl (hr.below hW) hn hno⟩
theorem FromUnits_gen (A : Option Addr) (n c : Nat) (u : List Int) (w : World) (hl : u.length = n) (hr : RK w .u16 A u) (hn : n ≤ 1048576) (hu : ∀ x ∈ u, 0 ≤ x ∧ x ≤ 65535) :
    ∃ (T : ByteArray) (b : Bool), (b = true → badF T = T.size ∧ unitsPs (ptsF T) = u ∧ T.size ≤ 8388608) ∧ (b = false → T = ⟨#[]⟩) ∧
      ∀ W, Below w.heap.size w W → Calls Try.prog 27 #[.slice A n c] W fun e w' => e = .returned (.tuple #[.string T, .bool b]) ∧ Below W.heap.size W w' := by
  rcases hf : fuP 0 u with _ | l
  · exact ⟨_, false, (fun h => by cases h), fun _ => rfl, fun W hW => FromUnits_no A n c u W hl (hr.below hW) (by omega) hu hf⟩
  · obtain ⟨k1, k2⟩ := fuP_back u 0 l hu (.inl rfl) hf
    rw [if_neg (by omega)] at k2
    have ht := text_of l k1
    refine ⟨_, true, fun _ => ⟨bad_of_text ht, by rw [ptsF_of ht]; exact k2.symm, ?_⟩, (fun h => by cases h), fun W hW => FromUnits_is A n c u l _ W hl (hr.below hW) (by omega) hu hf rfl⟩
    rw [strOfNums_size]
    have := textL_len l
    have := fuP_len u 0 l hf
    omega

set_option maxHeartbeats 8000000 in
theorem back_walk (s : ByteArray) (A1 : Option Addr) (n1 c1 : Nat) (l : List Int) (A2 : Option Addr) (n2 c2 : Nat) (u : List Int) (w : World) (b : Bool) (n m h : Nat) (xs us : List Int)
    (hs : s.size ≤ 1048576) (hl : l.length = n1) (hn1 : n1 ≤ 1048576) (hu : u.length = n2) (hn2 : n2 ≤ 1048576) (hx : xs.length = n) (hus : us.length = m) (hn : n ≤ 1048576) (hm : m ≤ 2097152) (hh : h ≤ 1048576)
    (hr1 : RK w .i32 A1 l) (hr2 : RK w .u16 A2 u) (hub : ∀ x ∈ u, 0 ≤ x ∧ x ≤ 65535)
    (r1 : ∀ W, Calls Try.prog 21 #[.string s] W fun e w' => ∃ A c, e = .returned (.tuple #[.slice A n c, .bool b]) ∧ RK w' .i32 A xs ∧ Below W.heap.size W w')
    (r2 : ∀ W, Calls Try.prog 23 #[.string s] W fun e w' => ∃ A c, e = .returned (.tuple #[.slice A m c, .bool b]) ∧ RK w' .u16 A us ∧ Below W.heap.size W w')
    (hb : ((badF s : Int) == (s.size : Int)) = b)
    (H1 : Hid (b = true → strOfNums (textL xs) = s ∧ (∀ p ∈ xs, isPt p = true) ∧ fuP 0 us = some xs ∧ (∀ x ∈ us, 0 ≤ x ∧ x ≤ 65535) ∧ m = n + h ∧ highs xs = h))
    (H0 : Hid (b = false → n = 0 ∧ m = 0)) :
    Calls Try.prog 9 #[.string s, .slice A1 n1 c1, .slice A2 n2 c2] w fun e w' => e = .returned (.bool true) ∧ Below w.heap.size w w' := by
  have cb := fun W => bad_any s W (by omega)
  have HL := Lib.hid hl
  have HU := Lib.hid hu
  have HX := Lib.hid hx
  have HUS := Lib.hid hus
  have HR1 := Lib.hid hr1
  have HR2 := Lib.hid hr2
  have HUB := Lib.hid hub
  clear hl hu hx hus hr1 hr2 hub
  generalize badF s = q at cb hb
  go_enter Try.func9, Try.ntmps9
  go_upto_if 47 with (first
    | (go_at_call 21; refine (r1 _).mono ?_; rintro e w1 ⟨A, cA, rfl, hA, hb1⟩)
    | (go_at_call 23; refine (r2 _).mono ?_; rintro e w2 ⟨B, cB, rfl, hB, hb2⟩)
    | (go_at_call 10; refine (cb _).mono ?_; rintro e w3 ⟨rfl, rfl⟩))
  have RA := Lib.hid (hA.below hb2)
  have RB := Lib.hid hB
  have h02 := below_on hb1 hb2
  clear hA hB hb1 hb2 r1 r2 cb hb
  go_cut [] from 11 to 103 (fun W => Below w2.heap.size w2 W)
  case first =>
    rcases b with _ | _
    · obtain ⟨k1, k2⟩ := H0.out rfl
      subst k1
      subst k2
      go_wp2
      go_meet
      exact Below.refl _ _
    · obtain ⟨k1, k2, k3, k4, k5, k6⟩ := H1.out rfl
      have cT := fun W (hW : Below w2.heap.size w2 W) => Text_is A n cA xs s W HX.out (RA.out.below hW) (by omega) k2 k1
      have cF := fun W (hW : Below w2.heap.size w2 W) => FromUnits_is B m cB us xs s W HUS.out (RB.out.below hW) (by omega) k4 k3 k1
      have HH := Lib.hid k6
      have hmn := Lib.hid k5
      clear k1 k2 k3 k4 k5 k6 H0 H1
      go_upto_region 8 with (first
        | (go_at_call 26; refine (cT _ (Below.refl _ _)).mono ?_; rintro e w4 ⟨rfl, hb4⟩)
        | (go_at_call 27; refine (cF _ hb4).mono ?_; rintro e w5 ⟨rfl, hb5⟩; have hb25 := below_on hb4 hb5))
      clear cT cF hb4 hb5
      go_wp2
      go_loopw [15, 16] (fun k i W => ∃ j : Nat, i = .int .i64 j ∧ k = .int .i64 (highs (xs.take j) : Nat) ∧ j ≤ n ∧ W = w5) (fun _ i _ => n - (intOf i).toNat)
      case atStart => exact ⟨0, rfl, rfl, by omega, rfl⟩
      case round =>
        obtain ⟨j, rfl, rfl, hj, rfl⟩ := hrel
        have hhj : highs (xs.take j) ≤ 1048576 := by
          unfold highs
          have h1 := List.length_filter_le (fun p => decide (65535 < p)) (xs.take j)
          rw [List.length_take] at h1
          omega
        by_cases hlt : j < n
        · have hjl : j < xs.length := by rw [HX.out]; exact hlt
          rcases RA.out.below hb25 with h0 | ⟨bb, off, rfl, hc⟩
          · rw [h0] at hjl; simp at hjl
          have e1 := hc j hjl
          have tk : Hid (highs (xs.take (j + 1)) = highs (xs.take j) + if 65535 < xs.getD j 0 then 1 else 0) := Lib.hid (by rw [take_snoc xs j hjl, highs_snoc])
          generalize xs.getD j 0 = p at e1 tk
          generalize highs (xs.take j) = g at tk hhj ⊢
          clear hc hjl
          by_cases hp : 65535 < p
          · have tk2 : Hid (highs (xs.take (j + 1)) = g + 1) := Lib.hid (by rw [tk.out, if_pos hp])
            clear tk
            go_wp2
            exact ⟨⟨j + 1, by go_num, by rw [tk2.out]; go_num, by omega, trivial⟩, by simp [intOf]; omega⟩
          · have tk2 : Hid (highs (xs.take (j + 1)) = g) := Lib.hid (by rw [tk.out, if_neg hp]; rfl)
            clear tk
            go_wp2
            exact ⟨⟨j + 1, by go_num, by rw [tk2.out], by omega, trivial⟩, by simp [intOf]; omega⟩
        · obtain rfl : j = n := by omega
          have hth : highs (xs.take j) = h := by rw [List.take_of_length_le (by rw [HX.out]; exact Nat.le_refl _)]; exact HH.out
          rw [hth]
          have k1 : ((m : Int) != (j : Int) + (h : Int)) = false := by
            have := hmn.out
            simp
            omega
          clear hlt hth hhj
          go_wp2
          go_meet
          exact hb25
  case rest =>
    have hw1 := below_on h02 hcut
    clear h02 hcut RA RB H0 H1 HX HUS
    obtain ⟨T, b2, T1, T0, cT⟩ := Text_gen A1 n1 c1 l wc HL.out (HR1.out.below hw1) (by omega)
    have HT1 := Lib.hid T1
    have HT0 := Lib.hid T0
    clear T1 T0
    go_upto_if 109 with (go_at_call 26; refine (cT _ (Below.refl _ _)).mono ?_; rintro e w4 ⟨rfl, hb4⟩)
    have hw4 := below_on hw1 hb4
    clear cT
    go_cut [] from 17 to 129 (fun W => Below w4.heap.size w4 W)
    case first =>
      rcases b2 with _ | _
      · obtain ⟨k1, k2⟩ := HT0.out rfl
        subst k1
        have cw := wrong_any A1 n1 c1 l w4 HL.out (HR1.out.below hw4) (by omega) k2
        clear k2 HT0 HT1
        go_wp2_with (go_at_call 28; refine cw.mono ?_; rintro e w5 ⟨rfl, hb5⟩)
        go_meet
        exact hb5
      · obtain ⟨k1, k2, k3⟩ := HT1.out rfl
        have cR := Runes_is T (by omega) k1 l k2 n1 HL.out w4
        clear k1 k2 HT0 HT1
        go_wp2_with (first
          | (go_at_call 21; refine cR.mono ?_; rintro e w5 ⟨A, cA, rfl, hA, hb5⟩)
          | (go_at_call 22
             refine (sameR_eq A A1 n1 cA c1 l l _ HL.out HL.out (by omega) hA (HR1.out.below (below_on hw4 hb5))).mono ?_
             simp only [decide_true]
             rintro e w6 ⟨rfl, hb6⟩))
        go_meet
        exact below_on hb5 hb6
    case rest =>
      have hw5 := below_on hw4 hcut
      clear hw4 hcut HT1 HT0 hb4 hw1
      obtain ⟨T3, b3, T1, T0, cT⟩ := FromUnits_gen A2 n2 c2 u wc HU.out (HR2.out.below hw5) hn2 HUB.out
      have HT1 := Lib.hid T1
      have HT0 := Lib.hid T0
      clear T1 T0
      go_upto_if 135 with (go_at_call 27; refine (cT _ (Below.refl _ _)).mono ?_; rintro e w6 ⟨rfl, hb6⟩)
      have hw6 := below_on hw5 hb6
      clear cT
      go_cut [] from 21 to 150 (fun W => Below w6.heap.size w6 W)
      case first =>
        rcases b3 with _ | _
        · have k1 := HT0.out rfl
          subst k1
          clear HT0 HT1
          go_wp2
          go_meet
          exact Below.refl _ _
        · obtain ⟨k1, k2, k3⟩ := HT1.out rfl
          have cR := Units_is T3 (by omega) k1 u k2 n2 HU.out w6
          clear k1 k2 HT0 HT1
          go_wp2_with (first
            | (go_at_call 23; refine cR.mono ?_; rintro e w7 ⟨A, cA, rfl, hA, hb7⟩)
            | (go_at_call 24
               refine (sameU_eq A A2 n2 cA c2 u u _ HU.out HU.out (by omega) hA (HR2.out.below (below_on hw6 hb7))).mono ?_
               simp only [decide_true]
               rintro e w8 ⟨rfl, hb8⟩))
          go_meet
          exact below_on hb7 hb8
      case rest =>
        go_wp2_with (go_at_call 13; refine (lives_any _).mono ?_; rintro e w9 ⟨rfl, hb9⟩)
        go_ret
        exact ⟨rfl, below_on (below_on hw6 hcut) hb9⟩
end Go.Proofs.Ytolnnkalgioobaa
