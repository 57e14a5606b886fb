/- h.SameTexts; FaultSteps walked. -/
import Derived.Test.YtfjgjhicinaolaaDoorP
import Derived.Test.YtfjgjhicinaolaaDoorK
namespace Go.Proofs.YtfjgjhicinaolaaDoor
open Go.RowKit Go.Extern.Stop Go.Stop Go.Extern
set_option maxRecDepth 100000
set_option linter.unusedVariables false
set_option linter.unusedSimpArgs false
set_option linter.unnecessarySimpa false

/-- A row of texts. -/
def SRow (w : World) (A : Option Addr) (l : List (List UInt8)) : Prop := ∀ i (h : i < l.length), ∃ b off, A = some ⟨b, off, none⟩ ∧ w.cell? ⟨b, off + i, none⟩ = some (.string (bs l[i]))
theorem SRow.below {w w1 : World} {A : Option Addr} {l : List (List UInt8)} (h : SRow w A l) (hb : Below w.heap.size w w1) : SRow w1 A l := fun i hi => by
  obtain ⟨b, off, e, hc⟩ := h i hi
  exact ⟨b, off, e, keep1 hb hc⟩
theorem SRow.of_own {w : World} {base n g cap : Nat} {l : List (List UInt8)} (h : w.ownsRow base 9 1 (.slice (some ⟨g, 0, none⟩) n cap) n (strs l)) : SRow w (some ⟨g, 0, none⟩) l := fun i hi => by
  have hl : (strs l).length = n * 1 := h.1
  rw [strs_length] at hl
  refine ⟨g, 0, rfl, ?_⟩
  rw [Nat.zero_add, h.cellAt i (by omega)]
  simp [strs, hi]

theorem same_texts (A B : Option Addr) (c d n : Nat) (l : List (List UInt8)) (w : World) (hn : l.length = n) (hA : SRow w A l) (hB : SRow w B l) (hz : n ≤ 9223372036854775807) :
    Calls Tryd.prog 27 #[.slice A n c, .slice B n d] w fun e w' => e = .returned (.bool true) ∧ Below w.heap.size w w' := by
  have HN := Lib.hid hn
  have HA := Lib.hid hA
  have HB := Lib.hid hB
  clear hn hA hB
  go_enter Tryd.func27, Tryd.ntmps27
  go_wp2
  go_loopw [5] (fun i W => ∃ k : Nat, i = .int .i64 k ∧ k ≤ n ∧ Hid (Below w.heap.size w W)) (fun i _ => n - (intOf i).toNat)
  case atStart => exact ⟨0, rfl, by omega, Lib.hid (Below.refl _ _)⟩
  case round =>
    obtain ⟨k, rfl, hk, HW⟩ := hrel
    by_cases hlt : k < n
    · have hkl : k < l.length := by rw [HN.out]; exact hlt
      obtain ⟨b, off, rfl, hc1⟩ := HA.out.below HW.out k hkl
      obtain ⟨b2, off2, rfl, hc2⟩ := HB.out.below HW.out k hkl
      have hs := str_eq (bs l[k])
      have hs2 : (bs l[k] != bs l[k]) = false := by simp [bne, hs]
      generalize bs l[k] = q at hc1 hc2 hs hs2
      have z3 : 0 ≤ (k : Int) := by omega
      have z4 : (k : Int) < n := by omega
      clear hkl
      go_upto_region 6 with fail
      go_cut [25] from 11 to 25 (fun x W => x = .bool false ∧ Hid (Below w.heap.size w W))
      case first =>
        go_quiet (fail)
        go_wp2_with fail
        go_meet
        exact ⟨rfl, Lib.hid (below_dn HW.out _)⟩
      case rest =>
        obtain ⟨rfl, HW2⟩ := hcut
        clear hc1 hc2 hs hs2 HW z3 z4
        go_wp2
        go_roundw
        case rel => exact ⟨k + 1, by go_num, by omega, HW2⟩
        case measure => simp [intOf]; omega
    · obtain rfl : k = n := by omega
      go_wp2
      go_ret
      exact ⟨rfl, HW.out⟩

def tot (l : List (List UInt8)) : Nat := (l.map fun s => 1 + s.length).sum
theorem tot_append (a b : List (List UInt8)) : tot (a ++ b) = tot a + tot b := by simp [tot]
theorem tot_split (l : List (List UInt8)) (k : Nat) : tot l = tot (l.take k) + tot (l.drop k) := by
  have h := tot_append (l.take k) (l.drop k)
  rwa [List.take_append_drop] at h
theorem tot_take (l : List (List UInt8)) (k : Nat) (h : k < l.length) : tot (l.take (k + 1)) = tot (l.take k) + 1 + l[k].length := by
  rw [List.take_succ_eq_append_getElem h, tot_append]
  have : tot [l[k]] = 1 + l[k].length := by simp [tot]
  omega
theorem tot_le (l : List (List UInt8)) (k : Nat) : tot (l.take k) ≤ tot l := by have := tot_split l k; omega
theorem len_tot (l : List (List UInt8)) : l.length ≤ tot l := by
  induction l with
  | nil => simp [tot]
  | cons s l ih => simp only [tot, List.map_cons, List.sum_cons, List.length_cons] at ih ⊢; omega
def endL : List UInt8 := [101, 110, 100]
def pathL (l : List (List UInt8)) : List UInt8 := Esc.told l ++ (47 :: Esc.esc endL)
theorem pathL_nil : pathL [] = [47, 101, 110, 100] := rfl
theorem pathL_step (l : List (List UInt8)) (j : Nat) (h : j < l.length) : bs (stepS (bs l[j])) ++ bs (pathL (l.drop (j + 1))) = bs (pathL (l.drop j)) := by
  rw [List.drop_eq_getElem_cons h, bs_append]
  unfold pathL stepS
  rw [Esc.told_cons, bs_list]
  simp
theorem pathL_pars (l : List (List UInt8)) : ∃ r, pathL l = 47 :: r ∧ Esc.pars r [] [] = some (l ++ [endL]) := by
  cases l with
  | nil =>
    refine ⟨Esc.esc endL, rfl, ?_⟩
    have := Esc.pars_esc endL [] [] []
    rw [List.append_nil] at this
    rw [this]
    simp [Esc.pars]
  | cons s l =>
    refine ⟨Esc.esc s ++ (Esc.told l ++ (47 :: Esc.esc endL)), by simp [pathL, Esc.told_cons], ?_⟩
    rw [Esc.pars_esc, Esc.pars_told]
    simp
theorem pathL_length (l : List (List UInt8)) : (pathL l).length ≤ 2 * tot l + 8 := by
  have h1 := Esc.told_length l
  have h2 : (47 :: Esc.esc endL : List UInt8).length = 4 := rfl
  unfold pathL tot at *
  rw [List.length_append, h2]; omega
theorem tot_drop (l : List (List UInt8)) (k : Nat) : tot (l.drop k) ≤ tot l := by have := tot_split l k; omega
theorem tot_at (l : List (List UInt8)) (k : Nat) (h : k < l.length) : l[k].length ≤ tot l := by
  have h1 := tot_take l k h
  have h2 := tot_le l (k + 1)
  omega

theorem endAt {W : World} {g n : Nat} {l : List (List UInt8)} (h : SRow W (some ⟨g, 0, none⟩) (l ++ [endL])) (hn : l.length = n) : W.cell? ⟨g, n, none⟩ = some (.string ⟨#[101, 110, 100]⟩) := by
  obtain ⟨b, off, e, hc⟩ := h l.length (by simp)
  simp only [Option.some.injEq, Addr.mk.injEq, and_true] at e
  obtain ⟨rfl, rfl⟩ := e
  subst hn
  rw [Nat.zero_add] at hc
  rw [hc]
  simp [endL, bs]
theorem SRow.init {W : World} {A : Option Addr} {l : List (List UInt8)} {x : List UInt8} (h : SRow W A (l ++ [x])) : SRow W A l := fun i hi => by
  obtain ⟨b, off, e, hc⟩ := h i (by simp; omega)
  exact ⟨b, off, e, by rw [hc, List.getElem_append_left hi]⟩
theorem stepsWalk (A : Option Addr) (n cap : Nat) (c : Int) (l : List (List UInt8)) (w : World) (hS : ∃ a oa, Seat a oa w) (hn : l.length = n) (hA : SRow w A l) (hz : tot l ≤ 4194304) (hcap : n ≤ cap) :
    Calls Tryd.prog 7 #[.slice A n cap, .int .i64 c] w fun e w' => e = .returned (.bool true) ∧ Below w.heap.size w w' := by
  obtain ⟨a, oa, hS⟩ := hS
  have hnt := len_tot l
  have hn64 : n ≤ 4194304 := by omega
  obtain ⟨m0, m1⟩ := tmod_range c
  obtain ⟨k, hk0, hk1, hk⟩ : ∃ k : Nat, 1 ≤ k ∧ k ≤ 11 ∧ ((1 + c.tmod 11 < 1 ∧ 1 + c.tmod 11 + 11 = k) ∨ (¬ 1 + c.tmod 11 < 1 ∧ 1 + c.tmod 11 = k)) := by
    by_cases h : 1 + c.tmod 11 < 1
    · exact ⟨(1 + c.tmod 11 + 11).toNat, by omega, by omega, .inl ⟨h, by omega⟩⟩
    · exact ⟨(1 + c.tmod 11).toNat, by omega, by omega, .inr ⟨h, by omega⟩⟩
  have l0 := lives_any a oa w hS
  have HN := Lib.hid hn
  have HA := Lib.hid hA
  have HZ := Lib.hid hz
  have HK := Lib.hid hk
  have HB : Hid (∀ {W}, Below w.heap.size w W → Seat a oa W) := Lib.hid fun hb => hS.below hb
  clear hn hA hz hk hS hnt
  go_enter Tryd.func7, Tryd.ntmps7
  go_upto_region 3 with (go_at_call 14; refine l0.mono ?_; rintro e w1 ⟨rfl, hb1⟩)
  clear l0
  have HB1 := Lib.hid hb1
  clear hb1
  go_wp2
  go_loop [5, 6] (fun t i => ∃ j : Nat, i = .int .i64 j ∧ j ≤ n ∧ ∃ z : Nat, t = .int .i64 z ∧ z ≤ 4194304 ∧ Hid (z = tot (l.take j))) (fun _ i => n - (intOf i).toNat)
  case atStart => exact ⟨0, rfl, by omega, 0, rfl, by omega, Lib.hid rfl⟩
  case round =>
    obtain ⟨j, rfl, hj, z, rfl, hz, HT⟩ := hrel
    by_cases hlt : j < n
    · have hjl : j < l.length := by rw [HN.out]; exact hlt
      obtain ⟨b, off, rfl, hc1⟩ := (HA.out.below HB1.out) j hjl
      have hsz : (bs l[j]).size = l[j].length := bs_size _
      have h1 := tot_at l j hjl
      have h2 := tot_take l j hjl
      have h3 := tot_le l (j + 1)
      have h4 := HZ.out
      have h5 := HT.out
      have HT2 : Hid (z + 1 + (bs l[j]).size = tot (l.take (j + 1)) ∧ z + 1 + (bs l[j]).size ≤ 4194304) := Lib.hid ⟨by omega, by omega⟩
      have hq : (bs l[j]).size ≤ 4194304 := by omega
      clear h1 h2 h3 h4 h5 hsz
      generalize bs l[j] = q at hc1 HT2 hq
      clear hjl
      go_wp2
      go_round
      case rel => exact ⟨j + 1, by go_num, by omega, z + 1 + q.size, by go_num, HT2.out.2, Lib.hid HT2.out.1⟩
      case measure => simp [intOf]; omega
    · obtain rfl : n = j := by omega
      have HT2 : Hid (z = tot l) := Lib.hid (by rw [HT.out, List.take_of_length_le (by rw [HN.out]; exact Nat.le_refl _)])
      clear HT hlt
      by_cases hbig : 10000 < z
      · have hbi : (10000 : Int) < z := by omega
        go_wp2
        go_ret
        exact ⟨rfl, HB1.out⟩
      · have hbi : ¬ (10000 : Int) < z := by omega
        have hz2 : tot l ≤ 10000 := by have := HT2.out; omega
        have hn5 : n ≤ 10000 := by
          have h0 := len_tot l
          rw [HN.out] at h0
          omega
        have HZ2 := Lib.hid hz2
        have KN : Hid (∀ W, Below w.heap.size w W → Calls Tryd.prog 15 #[.int .i64 k, .int .i64 5, .string ⟨#[47, 101, 110, 100]⟩] W fun e w' => ∃ q, e = .returned (.iface 41 (.pointer (some ⟨q, 0, none⟩))) ∧ Hid (Holds a w' (FS k q 5 (bs (pathL (l.drop n))))) ∧ Below W.heap.size W w') := Lib.hid fun W hb => by
          refine (New_in a k 5 ⟨#[47, 101, 110, 100]⟩ W (HB.out hb).e hk0 hk1).mono ?_
          rintro e w' ⟨q, _, he, hh, hb2⟩
          have e1 : l.drop n = [] := List.drop_of_length_le (by rw [HN.out]; exact Nat.le_refl _)
          rw [e1]
          exact ⟨q, he, Lib.hid hh, hb2⟩
        have K1 : Hid (∀ (W : World) (p j : Nat) (h : j < l.length), Below w.heap.size w W → Holds a W (FS k p 5 (bs (pathL (l.drop (j + 1))))) → Calls Tryd.prog 19 #[.iface 41 (.pointer (some ⟨p, 0, none⟩)), .string (bs l[j])] W fun e w' => ∃ q, e = .returned (.iface 41 (.pointer (some ⟨q, 0, none⟩))) ∧ Hid (Holds a w' (FS k q 5 (bs (pathL (l.drop j))))) ∧ Below W.heap.size W w') := Lib.hid fun W p j h hb hh => by
          have h1 := tot_at l j h
          have h2 := HZ2.out
          have h3 := pathL_length (l.drop (j + 1))
          have h4 := tot_drop l (j + 1)
          have := in_fs a oa k p 5 (bs (pathL (l.drop (j + 1)))) (bs l[j]) W (HB.out hb) hk0 hk1 hh (by rw [bs_size]; omega) (by rw [bs_size]; omega)
          rw [pathL_step l j h] at this
          exact this
        have KA : Hid (∀ W p, Below w.heap.size w W → Holds a W (FS k p 5 (bs (pathL l))) → Calls Tryd.prog 23 #[.iface 41 (.pointer (some ⟨p, 0, none⟩))] W fun e w' => e = .returned (.tuple #[.int .i64 5, .bool true]) ∧ Below W.heap.size W w') := Lib.hid fun W p hb hp => at_any a (FS k p 5 (bs (pathL l))) W (HB.out hb).e hp
        have KP : Hid (∀ W p, Below w.heap.size w W → Holds a W (FS k p 5 (bs (pathL l))) → Calls Tryd.prog 24 #[.iface 41 (.pointer (some ⟨p, 0, none⟩))] W fun e w' => e = .returned (.tuple #[.string (bs (pathL l)), .bool true]) ∧ Below W.heap.size W w') := Lib.hid fun W p hb hp => path_any a (FS k p 5 (bs (pathL l))) W (HB.out hb).e hp
        have KC : Hid (∀ W p, Below w.heap.size w W → Holds a W (FS k p 5 (bs (pathL l))) → Calls Tryd.prog 26 #[.iface 41 (.pointer (some ⟨p, 0, none⟩))] W fun e w' => e = .returned (.int .i64 k) ∧ Below W.heap.size W w') := Lib.hid fun W p hb hp => by
          have := code_any a (FS k p 5 (bs (pathL l))) W (HB.out hb).e hp
          rwa [fs_code k p 5 _ hk0 hk1] at this
        have KT : Hid (∀ W, Below w.heap.size w W → Calls Tryd.prog 25 #[.string (bs (pathL l))] W fun e w' => ∃ g cap, e = .returned (.tuple #[.slice (some ⟨g, 0, none⟩) (n + 1) cap, .bool true]) ∧ Hid (w'.ownsRow W.heap.size 9 1 (.slice (some ⟨g, 0, none⟩) (n + 1) cap) (n + 1) (strs (l ++ [endL]))) ∧ n + 1 ≤ cap ∧ Below W.heap.size W w') := Lib.hid fun W hb => by
          obtain ⟨r, hr, hp⟩ := pathL_pars l
          have h3 := pathL_length l
          have h2 := HZ2.out
          refine (steps_any (bs (pathL l)) r _ W (by rw [bs_list]; exact hr) hp (by rw [bs_size]; omega)).mono ?_
          rintro e w' ⟨n0, g, cap, he, HO, hb2⟩
          obtain ⟨e1, ho⟩ := HO.out
          have e2 : n0 = n := by rw [List.length_append, HN.out] at e1; simpa using e1
          subst e2
          obtain ⟨_, cap', e3, _, h4, _⟩ := own_shape ho
          simp only [Value.slice.injEq, Option.some.injEq, Addr.mk.injEq, and_true, true_and] at e3
          obtain ⟨_, rfl⟩ := e3
          exact ⟨g, cap, he, Lib.hid ho, h4, hb2⟩
        have KS : Hid (∀ (W : World) (g cp : Nat), Below w.heap.size w W → SRow W (some ⟨g, 0, none⟩) l → Calls Tryd.prog 27 #[.slice (some ⟨g, 0, none⟩) n cp, .slice A n cap] W fun e w' => e = .returned (.bool true) ∧ Below W.heap.size W w') := Lib.hid fun W g cp hb hr =>
          same_texts (some ⟨g, 0, none⟩) A cp cap n l W HN.out hr (HA.out.below hb) (by omega)
        clear HT2 hbig hz hz2 hj hn64
        have HK2 := Lib.hid HK.out
        rcases HK.out with ⟨hk3, hk4⟩ | ⟨hk3, hk4⟩
        all_goals
          go_upto_region 13 with fail
          have kn := KN.out w1 HB1.out
          clear hk3 hk4 m0 m1
          go_wp2_with (go_at_call 15; refine kn.mono ?_; rintro e w2 ⟨p, rfl, hp, hb⟩; have hb2 := Lib.hid (trans_b HB1.out hb); clear kn hb)
          go_loopw [8, 9] (fun x i W => ∃ (z : Int) (j q : Nat), i = .int .i64 z ∧ -1 ≤ z ∧ z ≤ 10000 ∧ Hid (z = (j : Int) - 1 ∧ j ≤ n) ∧ x = .iface 41 (.pointer (some ⟨q, 0, none⟩)) ∧ Hid (Holds a W (FS k q 5 (bs (pathL (l.drop j))))) ∧ Hid (Below w.heap.size w W)) (fun _ i _ => (intOf i + 1).toNat)
          case atStart => exact ⟨_, n, p, rfl, by omega, by omega, Lib.hid ⟨rfl, Nat.le_refl _⟩, rfl, hp, hb2⟩
          case round =>
            clear hp hb2
            obtain ⟨z, j, q, rfl, hz0, hz1, HJ, rfl, HQ, HW⟩ := hrel
            by_cases hlt : 0 ≤ z
            · obtain ⟨j, rfl⟩ : ∃ j', j = j' + 1 := ⟨j - 1, by have := HJ.out; omega⟩
              have hjl : j < l.length := by rw [HN.out]; have := HJ.out; omega
              obtain ⟨b, off, rfl, hc1⟩ := (HA.out.below HW.out) j hjl
              have hzt : z.toNat = j := by have := HJ.out; omega
              have hzn : z < (n : Int) := by have := HJ.out; omega
              have k1 := K1.out wr q j hjl HW.out HQ.out
              generalize bs l[j] = t at k1 hc1
              have hc1' : wr.cell? ⟨b, off + z.toNat, none⟩ = some (.string t) := by rw [hzt]; exact hc1
              have HJ2 : Hid (z - 1 = (j : Int) - 1 ∧ j ≤ n) := Lib.hid (by have := HJ.out; omega)
              clear hjl hzt hc1
              go_wp2_with (go_at_call 19; refine k1.mono ?_; rintro e w3 ⟨q2, rfl, hq2, hb⟩; have hb3 := Lib.hid (trans_b HW.out hb); clear hb k1)
              go_roundw
              case rel => exact ⟨z - 1, j, q2, by go_num, by omega, by omega, HJ2, rfl, hq2, hb3⟩
              case measure => simp [intOf]; omega
            · have e : j = 0 := by have := HJ.out; omega
              subst e
              have hzn : ¬ 0 ≤ z := hlt
              have HQ0 : Hid (Holds a wr (FS k q 5 (bs (pathL l)))) := Lib.hid HQ.out
              have kp := KP.out wr q HW.out HQ0.out
              clear HQ HJ
              go_wp2_with (first | (go_at_call 24; refine kp.mono ?_; rintro e w3 ⟨rfl, hb⟩; have hb3 := Lib.hid (trans_b HW.out hb); have hq3 := Lib.hid (HQ0.out.below hb); have ka := KA.out w3 q hb3.out hq3.out; clear hb kp) | (go_at_call 23; refine ka.mono ?_; rintro e w4 ⟨rfl, hb⟩; have hb4 := Lib.hid (trans_b hb3.out hb); have hq4 := Lib.hid (hq3.out.below hb); have kt := KT.out w4 hb4.out; clear hb ka) | (go_at_call 25; refine kt.mono ?_; rintro e w5 ⟨g, cp, rfl, HO, hcp, hb⟩; have hb5 := Lib.hid (trans_b hb4.out hb); have hq5 := Lib.hid (hq4.out.below hb); have hr5 : Hid (SRow w5 (some ⟨g, 0, none⟩) (l ++ [endL])) := Lib.hid (SRow.of_own HO.out); have kc := KC.out w5 q hb5.out hq5.out; clear hb kt) | (go_at_call 26; refine kc.mono ?_; rintro e w6 ⟨rfl, hb⟩; have hb6 := Lib.hid (trans_b hb5.out hb); have hr6 := Lib.hid (hr5.out.below hb); have hc6 : w6.cell? ⟨g, n, none⟩ = some (.string ⟨#[101, 110, 100]⟩) := (endAt hr6.out HN.out); have k6 := KS.out w6 g cp hb6.out (SRow.init hr6.out); clear hb kc) | (go_at_call 27; refine k6.mono ?_; rintro e w7 ⟨rfl, hb⟩; have hb7 := Lib.hid (trans_b hb6.out hb); clear hb k6))
              go_ret
              exact ⟨rfl, hb7.out⟩
end Go.Proofs.YtfjgjhicinaolaaDoor
