/- same, lives; FaultMakes walked. -/
import Derived.Test.YtfjgjhicinaolaaDoorH
namespace Go.Proofs.YtfjgjhicinaolaaDoor
open Go.RowKit Go.Extern.Stop Go.Stop Go.Extern
set_option maxRecDepth 100000
set_option linter.unusedVariables false
set_option linter.unusedSimpArgs false
set_option linter.unnecessarySimpa false

theorem same_yes (a : Nat → Addr) (T U : ET) (w : World) (hE : Errs a w) (hT : Holds a w T) (hU : Holds a w U) (h1 : U.code = T.code) (h2 : atO U.as = atO T.as) (h3 : pathO U.as = pathO T.as) (h4 : okO U.as = okO T.as) :
    Calls Tryd.prog 22 #[T.val a, U.val a] w fun e w' => e = .returned (.bool true) ∧ Below w.heap.size w w' := by
  have HA : Hid (∀ W, Below w.heap.size w W → Calls Tryd.prog 23 #[T.val a] W fun e w' => e = .returned (.tuple #[.int .i64 (atO T.as), .bool (okO T.as)]) ∧ Below W.heap.size W w') := Lib.hid fun W hb => at_any a T W (hE.below hb) (hT.below hb)
  have HP : Hid (∀ W, Below w.heap.size w W → Calls Tryd.prog 24 #[T.val a] W fun e w' => e = .returned (.tuple #[.string (pathO T.as), .bool (okO T.as)]) ∧ Below W.heap.size W w') := Lib.hid fun W hb => path_any a T W (hE.below hb) (hT.below hb)
  have HC : Hid (∀ W, Below w.heap.size w W → Calls Tryd.prog 26 #[T.val a] W fun e w' => e = .returned (.int .i64 T.code) ∧ Below W.heap.size W w') := Lib.hid fun W hb => code_any a T W (hE.below hb) (hT.below hb)
  have HA2 : Hid (∀ W, Below w.heap.size w W → Calls Tryd.prog 23 #[U.val a] W fun e w' => e = .returned (.tuple #[.int .i64 (atO T.as), .bool (okO T.as)]) ∧ Below W.heap.size W w') := Lib.hid fun W hb => h2 ▸ h4 ▸ at_any a U W (hE.below hb) (hU.below hb)
  have HP2 : Hid (∀ W, Below w.heap.size w W → Calls Tryd.prog 24 #[U.val a] W fun e w' => e = .returned (.tuple #[.string (pathO T.as), .bool (okO T.as)]) ∧ Below W.heap.size W w') := Lib.hid fun W hb => h3 ▸ h4 ▸ path_any a U W (hE.below hb) (hU.below hb)
  have HC2 : Hid (∀ W, Below w.heap.size w W → Calls Tryd.prog 26 #[U.val a] W fun e w' => e = .returned (.int .i64 T.code) ∧ Below W.heap.size W w') := Lib.hid fun W hb => h1 ▸ code_any a U W (hE.below hb) (hU.below hb)
  have hb0 := Below.refl w.heap.size w
  have hs := str_eq (pathO T.as)
  generalize T.val a = v at HA HP HC ⊢
  generalize U.val a = u at HA2 HP2 HC2 ⊢
  generalize T.code = k at HC HC2 ⊢
  generalize atO T.as = n at HA HA2 ⊢
  generalize pathO T.as = q at HP HP2 hs ⊢
  generalize okO T.as = ok at HA HP HA2 HP2 ⊢
  clear hE hT hU h1 h2 h3 h4
  go_enter Tryd.func22, Tryd.ntmps22
  go_upto_region 2 with (go_at_call 23; refine (HA.out _ hb0).mono ?_; rintro e w1 ⟨rfl, hb⟩; have hb1 := trans_b hb0 hb; clear hb)
  go_upto_region 3 with (go_at_call 23; refine (HA2.out _ hb1).mono ?_; rintro e w2 ⟨rfl, hb⟩; have hb2 := trans_b hb1 hb; clear hb)
  go_upto_region 4 with (go_at_call 24; refine (HP.out _ hb2).mono ?_; rintro e w3 ⟨rfl, hb⟩; have hb3 := trans_b hb2 hb; clear hb)
  go_upto_region 5 with (go_at_call 24; refine (HP2.out _ hb3).mono ?_; rintro e w4 ⟨rfl, hb⟩; have hb4 := trans_b hb3 hb; clear hb)
  have tok : True := trivial
  go_wp2_with fail
  go_at_call 26
  refine (HC.out _ hb4).mono ?_
  rintro e w5 ⟨rfl, hb⟩
  have hb5 := trans_b hb4 hb
  clear hb
  go_wp2_with fail
  go_at_call 26
  refine (HC2.out _ hb5).mono ?_
  rintro e w6 ⟨rfl, hb⟩
  have hb6 := trans_b hb5 hb
  clear hb
  go_wp2
  go_ret
  exact ⟨rfl, hb6⟩

def T0 (p : Nat) : ET := .fault p 7 ⟨#[47, 97]⟩ (.sent 3)
def T1 (p : Nat) : ET := .fault p 12 ⟨#[47, 97]⟩ (.sent 3)
def T2 (p : Nat) : ET := .fault p 12 ⟨#[47, 98, 47, 97]⟩ (.sent 3)
theorem lives_any (a : Nat → Addr) (oa : Addr) (w : World) (hS : Seat a oa w) :
    Calls Tryd.prog 14 #[] w fun e w' => e = .returned (.bool true) ∧ Below w.heap.size w w' := by
  have g3 : w.cell? ⟨1, 0, none⟩ = some (.iface 94 (.pointer (some (a 3)))) := hS.e.g 3 (by omega) (by omega)
  have hW0 : Below w.heap.size w (w.alloc (.cells #[.iface 94 (.pointer (some (a 3))), .int .i64 7, .string ⟨#[47, 97]⟩] 45)) := (Below.refl _ _).alloc (Nat.le_refl _) _
  have hT0 : Holds a (w.alloc (.cells #[.iface 94 (.pointer (some (a 3))), .int .i64 7, .string ⟨#[47, 97]⟩] 45)) (T0 w.heap.size) := by simp [T0, Holds, ET.val]
  have k1 : Calls Tryd.prog 18 #[.iface 41 (.pointer (some ⟨w.heap.size, 0, none⟩)), .int .i64 5] (w.alloc (.cells #[.iface 94 (.pointer (some (a 3))), .int .i64 7, .string ⟨#[47, 97]⟩] 45)) fun e w' => ∃ p, e = .returned (.iface 41 (.pointer (some ⟨p, 0, none⟩))) ∧ Hid (Holds a w' (T1 p)) ∧ Below w.heap.size w w' := by
    refine (Shift_yes a oa (T0 w.heap.size) 5 _ (hS.below hW0) hT0 rfl).mono ?_
    rintro e w' ⟨p, hp, he, hh, hb⟩
    exact ⟨p, he, Lib.hid hh, trans_b hW0 hb⟩
  have K2 : Hid (∀ (W : World) (p : Nat), Below w.heap.size w W → Holds a W (T1 p) → Calls Tryd.prog 19 #[.iface 41 (.pointer (some ⟨p, 0, none⟩)), .string ⟨#[98]⟩] W fun e w' => ∃ p, e = .returned (.iface 41 (.pointer (some ⟨p, 0, none⟩))) ∧ Hid (Holds a w' (T2 p)) ∧ Below w.heap.size w w') := Lib.hid fun W p hb hh => by
    refine (In_any a oa (T1 p) ⟨#[98]⟩ W (hS.below hb) hh (by simp [T1]) (by decide) (show (⟨#[47, 97]⟩ : ByteArray).size ≤ 4611686018427387904 by decide)).mono ?_
    rintro e w' ⟨p', hp, he, hh, hb2⟩
    exact ⟨p', he, Lib.hid hh, trans_b hb hb2⟩
  have K3 : Hid (∀ (W : World) (p : Nat), Below w.heap.size w W → Holds a W (T2 p) → Calls Tryd.prog 23 #[.iface 41 (.pointer (some ⟨p, 0, none⟩))] W fun e w' => e = .returned (.tuple #[.int .i64 12, .bool true]) ∧ Below W.heap.size W w') := Lib.hid fun W p hb hh => at_any a (T2 p) W (hS.e.below hb) hh
  have K4 : Hid (∀ (W : World) (p : Nat), Below w.heap.size w W → Holds a W (T2 p) → Calls Tryd.prog 24 #[.iface 41 (.pointer (some ⟨p, 0, none⟩))] W fun e w' => e = .returned (.tuple #[.string ⟨#[47, 98, 47, 97]⟩, .bool true]) ∧ Below W.heap.size W w') := Lib.hid fun W p hb hh => path_any a (T2 p) W (hS.e.below hb) hh
  have K5 : Hid (∀ (W : World) (p : Nat), Below w.heap.size w W → Holds a W (T2 p) → Calls Tryd.prog 16 #[.iface 41 (.pointer (some ⟨p, 0, none⟩))] W fun e w' => e = .returned (.int .i64 3) ∧ Below W.heap.size W w') := Lib.hid fun W p hb hh => hcode_any a (T2 p) W (hS.e.below hb) hh
  have K6 : Hid (∀ (W : World) (p : Nat), Below w.heap.size w W → Holds a W (T2 p) → Calls Tryd.prog 26 #[.iface 41 (.pointer (some ⟨p, 0, none⟩))] W fun e w' => e = .returned (.int .i64 3) ∧ Below W.heap.size W w') := Lib.hid fun W p hb hh => code_any a (T2 p) W (hS.e.below hb) hh
  have K7 : Hid (∀ (W : World), Below w.heap.size w W → Calls Tryd.prog 15 #[.int .i64 12, .int .i64 0, .string ⟨#[]⟩] W fun e w' => e = .returned .nilIface ∧ Below W.heap.size W w') := Lib.hid fun W hb => New_out a 12 0 _ W (hS.e.below hb) (by omega)
  clear hS hT0 hW0
  go_enter Tryd.func14, Tryd.ntmps14
  go_upto_region 2 with (first | (go_at_call 18; refine k1.mono ?_; rintro e w1 ⟨p, rfl, hh, hb⟩; have k2 := K2.out w1 p hb hh.out; clear k1 hh hb) | (go_at_call 19; refine k2.mono ?_; rintro e w2 ⟨p2, rfl, hh2, hb2⟩; have k3 := K3.out w2 p2 hb2 hh2.out))
  go_upto_region 3 with (go_at_call 23; refine k3.mono ?_; rintro e w3 ⟨rfl, hb⟩; have hb3 := trans_b hb2 hb; have hh3 := Lib.hid (hh2.out.below hb); have k4 := K4.out w3 p2 hb3 hh3.out; clear hb)
  go_upto_region 4 with (go_at_call 24; refine k4.mono ?_; rintro e w4 ⟨rfl, hb⟩; have hb4 := trans_b hb3 hb; have hh4 := Lib.hid (hh3.out.below hb); have k5 := K5.out w4 p2 hb4 hh4.out; clear hb)
  go_wp2_with (first | (go_at_call 16; refine k5.mono ?_; rintro e w5 ⟨rfl, hb⟩; have hb5 := trans_b hb4 hb; have hh5 := Lib.hid (hh4.out.below hb); have k6 := K6.out w5 p2 hb5 hh5.out; clear hb) | (go_at_call 26; refine k6.mono ?_; rintro e w6 ⟨rfl, hb⟩; have hb6 := trans_b hb5 hb; have k7 := K7.out w6 hb6; clear hb) | (go_at_call 15; refine k7.mono ?_; rintro e w7 ⟨rfl, hb⟩; have hb7 := trans_b hb6 hb; clear hb))
  go_ret
  exact ⟨rfl, hb7⟩

theorem codeF_one (k : Nat) (h0 : 1 ≤ k) (h1 : k ≤ 11) : codeF (fun j => decide (j = k)) 11 1 = k := by
  rcases (by omega : k = 1 ∨ k = 2 ∨ k = 3 ∨ k = 4 ∨ k = 5 ∨ k = 6 ∨ k = 7 ∨ k = 8 ∨ k = 9 ∨ k = 10 ∨ k = 11) with rfl | rfl | rfl | rfl | rfl | rfl | rfl | rfl | rfl | rfl | rfl <;> rfl
theorem codeHF_one (k : Nat) (h0 : 1 ≤ k) (h1 : k ≤ 11) : codeHF (fun j => decide (j = k)) 11 1 (-1) = k := by
  rcases (by omega : k = 1 ∨ k = 2 ∨ k = 3 ∨ k = 4 ∨ k = 5 ∨ k = 6 ∨ k = 7 ∨ k = 8 ∨ k = 9 ∨ k = 10 ∨ k = 11) with rfl | rfl | rfl | rfl | rfl | rfl | rfl | rfl | rfl | rfl | rfl <;> rfl
theorem code_fs (p : Nat) (n : Int) (s : ByteArray) (k : Nat) (h0 : 1 ≤ k) (h1 : k ≤ 11) : (ET.fault p n s (.sent k)).code = k := codeF_one k h0 h1
theorem hcode_fs (p : Nat) (n : Int) (s : ByteArray) (k : Nat) (h0 : 1 ≤ k) (h1 : k ≤ 11) : (ET.fault p n s (.sent k)).hcode = k := codeHF_one k h0 h1

theorem makesWalk (c n : Int) (s : ByteArray) (w : World) (hS : ∃ a oa, Seat a oa w) :
    Calls Tryd.prog 4 #[.int .i64 c, .int .i64 n, .string s] w fun e w' => e = .returned (.bool true) ∧ Below w.heap.size w w' := by
  obtain ⟨a, oa, hS⟩ := hS
  have HL : Hid (∀ W, Below w.heap.size w W → Calls Tryd.prog 14 #[] W fun e w' => e = .returned (.bool true) ∧ Below W.heap.size W w') := Lib.hid fun W hb => lives_any a oa W (hS.below hb)
  by_cases h : 1 ≤ c ∧ c ≤ 11
  · obtain ⟨k, rfl⟩ : ∃ k : Nat, c = k := ⟨c.toNat, by omega⟩
    have k1 := New_in a k n s w hS.e (by omega) (by omega)
    have K2 : Hid (∀ (W : World) (p : Nat), Below w.heap.size w W → Holds a W (.fault p n s (.sent k)) → Calls Tryd.prog 16 #[.iface 41 (.pointer (some ⟨p, 0, none⟩))] W fun e w' => e = .returned (.int .i64 k) ∧ Below W.heap.size W w') := Lib.hid fun W p hb hh => by
      have := hcode_any a _ W (hS.e.below hb) hh
      rwa [hcode_fs p n s k (by omega) (by omega)] at this
    have K3 : Hid (∀ (W : World) (p : Nat), Below w.heap.size w W → Holds a W (.fault p n s (.sent k)) → Calls Tryd.prog 17 #[.iface 41 (.pointer (some ⟨p, 0, none⟩)), .int .i64 k, .int .i64 n, .string s, .bool true] W fun e w' => e = .returned (.bool true) ∧ Below W.heap.size W w') := Lib.hid fun W p hb hh => by
      have := has_yes a _ W (hS.e.below hb) hh
      rwa [code_fs p n s k (by omega) (by omega)] at this
    have K4 : Hid (∀ (W : World) (p : Nat), Below w.heap.size w W → Holds a W (.fault p n s (.sent k)) → Calls Tryd.prog 12 #[.iface 41 (.pointer (some ⟨p, 0, none⟩)), .int .i64 k, .int .i64 n, .string s, .bool true] W fun e w' => e = .returned (.bool true) ∧ Below W.heap.size W w') := Lib.hid fun W p hb hh => by
      have := tells_yes a _ W (hS.e.below hb) hh
      rwa [code_fs p n s k (by omega) (by omega)] at this
    obtain ⟨l1, l2⟩ := h
    clear hS
    go_enter Tryd.func4, Tryd.ntmps4
    go_upto_region 4 with (go_at_call 15; refine k1.mono ?_; rintro e w1 ⟨p, hp, he, hh, hb⟩; simp only [ET.val] at he; have hb1 := hb; have hh1 := Lib.hid hh; have k2 := K2.out w1 p hb hh; clear hh hb hp; subst he)
    go_wp2_with (first | (go_at_call 16; refine k2.mono ?_; rintro e w2 ⟨rfl, hb⟩; have hb2 := trans_b hb1 hb; have hh2 := Lib.hid (hh1.out.below hb); have k3 := K3.out w2 p hb2 hh2.out; clear hb) | (go_at_call 17; refine k3.mono ?_; rintro e w3 ⟨rfl, hb⟩; have hb3 := trans_b hb2 hb; have hh3 := Lib.hid (hh2.out.below hb); have k4 := K4.out w3 p hb3 hh3.out; clear hb) | (go_at_call 12; refine k4.mono ?_; rintro e w4 ⟨rfl, hb⟩; have hb4 := trans_b hb3 hb; have k5 := HL.out w4 hb4; clear hb) | (go_at_call 14; refine k5.mono ?_; rintro e w5 ⟨rfl, hb⟩; have hb5 := trans_b hb4 hb; clear hb))
    go_ret
    exact ⟨rfl, hb5⟩
  · have h' : c < 1 ∨ 11 < c := by omega
    have k1 := New_out a c n s w hS.e h'
    clear hS h
    by_cases hc : c < 1
    · clear h'
      go_enter Tryd.func4, Tryd.ntmps4
      go_wp2_with (first | (go_at_call 15; refine k1.mono ?_; rintro e w1 ⟨rfl, hb⟩; have k5 := HL.out w1 hb) | (go_at_call 14; refine k5.mono ?_; rintro e w5 ⟨rfl, hb5⟩; have hb6 := trans_b hb hb5))
      go_ret
      exact ⟨rfl, hb6⟩
    · have hc2 : 11 < c := by omega
      clear h'
      go_enter Tryd.func4, Tryd.ntmps4
      go_wp2_with (first | (go_at_call 15; refine k1.mono ?_; rintro e w1 ⟨rfl, hb⟩; have k5 := HL.out w1 hb) | (go_at_call 14; refine k5.mono ?_; rintro e w5 ⟨rfl, hb5⟩; have hb6 := trans_b hb hb5))
      go_ret
      exact ⟨rfl, hb6⟩
end Go.Proofs.YtfjgjhicinaolaaDoor
