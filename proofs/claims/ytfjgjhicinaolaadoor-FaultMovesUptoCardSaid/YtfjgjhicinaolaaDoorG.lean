/- fault.Shift, In, First. -/
import Derived.Test.YtfjgjhicinaolaaDoorF
namespace Go.Proofs.YtfjgjhicinaolaaDoor
open Go.RowKit Go.Extern.Stop Go.Stop Go.Extern
set_option maxRecDepth 100000
set_option linter.unusedVariables false
set_option linter.unusedSimpArgs false
set_option linter.unnecessarySimpa false

/-- A byte string of a list. -/
def bs (l : List UInt8) : ByteArray := ⟨l.toArray⟩
theorem bs_size (l : List UInt8) : (bs l).size = l.length := by simp [bs, ByteArray.size]
theorem bs_list (l : List UInt8) : (bs l).data.toList = l := by simp [bs]
theorem bs_of (s : ByteArray) : bs s.data.toList = s := by cases s; simp [bs]
theorem size_list (s : ByteArray) : s.data.toList.length = s.size := by rw [Array.length_toList]; rfl
theorem bs_append (l k : List UInt8) : bs l ++ bs k = bs (l ++ k) := by
  apply ByteArray.ext
  rw [ByteArray.data_append]
  simp [bs]

theorem count_le (s : ByteArray) (c : UInt8) : Lib.countB s ⟨#[c]⟩ ≤ s.size := Lib.countB_le ⟨#[c]⟩ (Nat.le_refl 1) _ s (Nat.le_refl _)
theorem rep_any (c d e : UInt8) (m : Int) (s : ByteArray) (w : World) (hm : w.cell? ⟨13, 0, none⟩ = some (.int .i64 m)) (hs : s.size < 4294967281) :
    Calls Tryd.prog 42 #[.string s, .string ⟨#[c]⟩, .string ⟨#[d, e]⟩] w fun r w' => r = .returned (.string (bs (Esc.esc1 c [d, e] s.data.toList))) ∧ Below w.heap.size w w' := by
  have hz : (⟨#[d, e]⟩ : ByteArray).size = 2 := rfl
  refine (Tryd.strings_ReplaceAll s ⟨#[c]⟩ ⟨#[d, e]⟩ m w hs hm (Nat.le_refl 1) ?_).mono ?_
  · have := count_le s c
    rw [hz]; omega
  · rintro r w' ⟨rfl, hb⟩
    refine ⟨?_, hb⟩
    have : Lib.replaceAll s.data.toList [c] [d, e] = Esc.esc1 c [d, e] s.data.toList := Esc.replaceAll_one c [d, e] _ (by simp)
    simp only [bs]
    rw [← this]

/-- A step as it is written. -/
def stepS (s : ByteArray) : List UInt8 := 47 :: Esc.esc s.data.toList

theorem In_nil (w : World) (s : ByteArray) : Calls Tryd.prog 19 #[.nilIface, .string s] w fun e w' => e = .returned .nilIface ∧ w = w' := by
  go_enter Tryd.func19, Tryd.ntmps19
  go_wp2
  go_ret
  exact ⟨rfl, rfl⟩

theorem In_any (a : Nat → Addr) (oa : Addr) (T : ET) (s : ByteArray) (w : World) (hS : Seat a oa w) (hT : Holds a w T) (hN : T ≠ .nil) (hs : s.size ≤ 2147483640) (hq : (pathO T.as).size ≤ 4611686018427387904) :
    Calls Tryd.prog 19 #[T.val a, .string s] w (NewPost a w fun p => .fault p (atO T.as) (bs (stepS s) ++ pathO T.as) (innerT oa T.code)) := by
  obtain ⟨m, hm⟩ := hS.m
  have HA : Hid (∀ W, Below w.heap.size w W → Calls Tryd.prog 23 #[T.val a] W fun e w' => e = .returned (.tuple #[.int .i64 (atO T.as), .bool (okO T.as)]) ∧ Below W.heap.size W w') := Lib.hid fun W hb => at_any a T W (hS.e.below hb) (hT.below hb)
  have HP : Hid (∀ W, Below w.heap.size w W → Calls Tryd.prog 24 #[T.val a] W fun e w' => e = .returned (.tuple #[.string (pathO T.as), .bool (okO T.as)]) ∧ Below W.heap.size W w') := Lib.hid fun W hb => path_any a T W (hS.e.below hb) (hT.below hb)
  have HR1 : Hid (∀ W, Below w.heap.size w W → Calls Tryd.prog 42 #[.string s, .string ⟨#[126]⟩, .string ⟨#[126, 48]⟩] W fun r w' => r = .returned (.string (bs (Esc.esc1 126 [126, 48] s.data.toList))) ∧ Below W.heap.size W w') :=
    Lib.hid fun W hb => rep_any 126 126 48 m s W (keep1 hb hm) (by omega)
  have HR2 : Hid (∀ W, Below w.heap.size w W → Calls Tryd.prog 42 #[.string (bs (Esc.esc1 126 [126, 48] s.data.toList)), .string ⟨#[47]⟩, .string ⟨#[126, 49]⟩] W fun r w' => r = .returned (.string (bs (Esc.esc s.data.toList))) ∧ Below W.heap.size W w') :=
    Lib.hid fun W hb => by
      have hl := Esc.esc1_length 126 [126, 48] s.data.toList rfl
      rw [size_list] at hl
      have := rep_any 47 126 49 m (bs (Esc.esc1 126 [126, 48] s.data.toList)) W (keep1 hb hm) (by rw [bs_size]; omega)
      rw [bs_list, Esc.esc_twice] at this
      exact this
  have HM : Hid (∀ W, Below w.heap.size w W → Calls Tryd.prog 41 #[T.val a, .int .i64 (atO T.as), .string (bs (stepS s) ++ pathO T.as)] W (NewPost a W fun p => .fault p (atO T.as) (bs (stepS s) ++ pathO T.as) (innerT oa T.code))) :=
    Lib.hid fun W hb => moved_any a oa T _ _ W (hS.below hb) (hT.below hb)
  have HX : Hid (bs (stepS s) = ⟨#[47]⟩ ++ bs (Esc.esc s.data.toList)) := Lib.hid (by
    have : (⟨#[47]⟩ : ByteArray) = bs [47] := rfl
    rw [this, bs_append]; rfl)
  have hz : (bs (Esc.esc s.data.toList)).size ≤ 8589934592 := by
    rw [bs_size, ← Esc.esc_twice]
    have l1 := Esc.esc1_length 126 [126, 48] s.data.toList rfl
    have l2 := Esc.esc1_length 47 [126, 49] (Esc.esc1 126 [126, 48] s.data.toList) rfl
    rw [size_list] at l1
    omega
  have hz1 : 1 + (bs (Esc.esc s.data.toList)).size ≤ 9223372036854775807 := by omega
  have hz2 : 1 + (bs (Esc.esc s.data.toList)).size + (pathO T.as).size ≤ 9223372036854775807 := by omega
  rw [HX.out] at HM ⊢
  obtain ⟨t, x, hv⟩ := val_nil a T hN
  rw [hv] at HA HP HM ⊢
  generalize T.code = c at HM ⊢
  generalize atO T.as = n at HA HM ⊢
  generalize pathO T.as = q at HP HM hz2 ⊢
  generalize okO T.as = ok at HA HP ⊢
  generalize bs (Esc.esc s.data.toList) = r2 at HR2 HM hz1 hz2 ⊢
  generalize bs (Esc.esc1 126 [126, 48] s.data.toList) = r1 at HR1 HR2 ⊢
  have hb0 := Below.refl w.heap.size w
  clear hS hT hN hv HX hm hs hq hz
  go_enter Tryd.func19, Tryd.ntmps19
  go_upto_region 4 with (go_at_call 23; refine (HA.out _ hb0).mono ?_; rintro e w1 ⟨rfl, hb⟩; have hb1 := trans_b hb0 hb; clear hb)
  go_upto_region 5 with (go_at_call 24; refine (HP.out _ hb1).mono ?_; rintro e w2 ⟨rfl, hb⟩; have hb2 := trans_b hb1 hb; clear hb)
  go_upto_region 6 with (first | (go_at_call 42; with_reducible refine (HR1.out _ hb2).mono ?_; rintro e w3 ⟨rfl, hb⟩; have hb3 := trans_b hb2 hb; clear hb) | (go_at_call 42; with_reducible refine (HR2.out _ hb3).mono ?_; rintro e w4 ⟨rfl, hb⟩; have hb4 := trans_b hb3 hb; clear hb))
  go_wp2_with (go_at_call 41; refine (HM.out _ hb4).mono ?_; rintro e w5 ⟨p, hp, rfl, hh, hb⟩; have hb5 := trans_b hb4 hb; have HH := Lib.hid hh; have HP2 : Hid (w.heap.size ≤ p) := Lib.hid (Nat.le_trans hb4.size hp); clear hb hh hp)
  go_ret
  exact ⟨p, HP2.out, rfl, HH.out, hb5⟩

theorem Shift_no (a : Nat → Addr) (T : ET) (k : Int) (w : World) (hE : Errs a w) (hT : Holds a w T) (h : okO T.as = false) :
    Calls Tryd.prog 18 #[T.val a, .int .i64 k] w fun e w' => e = .returned (T.val a) ∧ Below w.heap.size w w' := by
  have hc := place_any a T w hE hT
  have hp : ptrO T.as = .pointer none := by
    cases hd : T.as with
    | none => rfl
    | some F =>
      obtain ⟨_, rfl | ⟨p, n, s, e, rfl⟩⟩ := as_holds hT hd
      · rfl
      · rw [hd] at h; simp [okO] at h
  rw [hp] at hc
  generalize T.val a = v at hc ⊢
  clear hE hT h hp
  go_enter Tryd.func18, Tryd.ntmps18
  go_wp2_with (go_at_call 40; refine hc.mono ?_; rintro e w1 ⟨rfl, hb⟩)
  go_ret
  exact ⟨rfl, hb⟩
theorem Shift_yes (a : Nat → Addr) (oa : Addr) (T : ET) (k : Int) (w : World) (hS : Seat a oa w) (hT : Holds a w T) (h : okO T.as = true) :
    Calls Tryd.prog 18 #[T.val a, .int .i64 k] w (NewPost a w fun p => .fault p (IntKind.i64.wrap (atO T.as + k)) (pathO T.as) (innerT oa T.code)) := by
  have hc := place_any a T w hS.e hT
  cases hd : T.as with
  | none => rw [hd] at h; simp [okO] at h
  | some F =>
    obtain ⟨hF, rfl | ⟨p, n, s, e, rfl⟩⟩ := as_holds hT hd
    · rw [hd] at h; simp [okO] at h
    · rw [hd] at hc
      simp only [ptrO, ET.ptr] at hc
      simp only [Holds] at hF
      have H1 : Hid (∀ W, Below w.heap.size w W → W.cell? ⟨p, 1, none⟩ = some (.int .i64 n)) := Lib.hid fun W hb => keep1 hb hF.2.1
      have H2 : Hid (∀ W, Below w.heap.size w W → W.cell? ⟨p, 2, none⟩ = some (.string s)) := Lib.hid fun W hb => keep1 hb hF.2.2.1
      have HM : Hid (∀ W, Below w.heap.size w W → Calls Tryd.prog 41 #[T.val a, .int .i64 (IntKind.i64.wrap (n + k)), .string s] W (NewPost a W fun p => .fault p (IntKind.i64.wrap (n + k)) s (innerT oa T.code))) :=
        Lib.hid fun W hb => moved_any a oa T _ _ W (hS.below hb) (hT.below hb)
      simp only [atO, pathO]
      generalize T.code = c at HM ⊢
      generalize T.val a = v at hc HM ⊢
      clear hS hT h hd hF
      go_enter Tryd.func18, Tryd.ntmps18
      go_upto_region 4 with (go_at_call 40; refine hc.mono ?_; rintro e w1 ⟨rfl, hb⟩; have h1 := H1.out _ hb; have h2 := H2.out _ hb)
      have HM1 : Hid (∀ W, Below w1.heap.size w1 W → Calls Tryd.prog 41 #[v, .int .i64 (IntKind.i64.wrap (n + k)), .string s] W fun e w' => ∃ p, w.heap.size ≤ p ∧ e = .returned (.iface 41 (.pointer (some ⟨p, 0, none⟩))) ∧ Hid (Holds a w' (.fault p (IntKind.i64.wrap (n + k)) s (innerT oa c))) ∧ Below w1.heap.size w1 w') := Lib.hid fun W hW => by
        refine (HM.out W (trans_b hb hW)).mono ?_
        rintro e w' ⟨p, hp, he, hh, hb2⟩
        exact ⟨p, Nat.le_trans (Nat.le_trans hb.size hW.size) hp, he, Lib.hid hh, trans_b hW hb2⟩
      clear H1 H2 HM hc
      go_cut [4] (fun r W => ∃ p, r = .iface 41 (.pointer (some ⟨p, 0, none⟩)) ∧ Hid (w.heap.size ≤ p ∧ Holds a W (.fault p (IntKind.i64.wrap (n + k)) s (innerT oa c)) ∧ Below w.heap.size w W))
      case first =>
        go_region_held3 (fun W => Below w1.heap.size w1 W ∧ W.cell? ⟨p, 1, none⟩ = some (.int .i64 n) ∧ W.cell? ⟨p, 2, none⟩ = some (.string s))
          (first | exact ⟨(Below.refl _ _).drew, h1, h2⟩ | exact ⟨hb7, keep1 hb7 h1, keep1 hb7 h2⟩ | assumption)
          (first | (go_at_call 41; obtain ⟨hbX, hc1, hc2⟩ := (‹Below w1.heap.size w1 _ ∧ _ ∧ _›); refine (HM1.out _ hbX).mono ?_; rintro e w2 ⟨p', hp, rfl, hh, hb7⟩))
        all_goals (go_wp2_with fail; go_meet; exact ⟨p', rfl, Lib.hid ⟨hp, hh.out, trans_b hb hb7⟩⟩)
      case rest =>
        obtain ⟨p', rfl, HC⟩ := hcut
        clear hb h1 h2 HM1
        go_wp2
        go_ret
        exact ⟨p', HC.out.1, rfl, HC.out.2.1, HC.out.2.2⟩

end Go.Proofs.YtfjgjhicinaolaaDoor
