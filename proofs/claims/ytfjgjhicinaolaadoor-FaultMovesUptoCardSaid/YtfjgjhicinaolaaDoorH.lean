/- tells, has, same, lives. -/
import Derived.Test.YtfjgjhicinaolaaDoorG
namespace Go.Proofs.YtfjgjhicinaolaaDoor
open Go.RowKit Go.Extern.Stop Go.Stop Go.Extern
set_option maxRecDepth 100000
set_option linter.unusedVariables false
set_option linter.unusedSimpArgs false
set_option linter.unnecessarySimpa false

theorem codeF_range (S : Nat → Bool) : ∀ n k, 1 ≤ k → codeF S n k = -1 ∨ ∃ c : Nat, codeF S n k = c ∧ k ≤ c ∧ c < k + n ∧ S c = true := by
  intro n
  induction n with
  | zero => intro k _; exact .inl rfl
  | succ n ih =>
    intro k hk
    unfold codeF
    by_cases h : S k = true
    · rw [if_pos h]; exact .inr ⟨k, rfl, Nat.le_refl _, by omega, h⟩
    · rw [if_neg h]
      rcases ih (k + 1) (by omega) with h1 | ⟨c, h1, h2, h3, h4⟩
      · exact .inl h1
      · exact .inr ⟨c, h1, by omega, by omega, h4⟩
theorem codeHF_pos (S : Nat → Bool) : ∀ f k (n : Int), 0 < n → codeHF S f k n = -2 ∨ 0 < codeHF S f k n := by
  intro f
  induction f with
  | zero => intro k n h; exact .inr h
  | succ f ih =>
    intro k n h
    unfold codeHF
    by_cases hs : S k = true
    · rw [if_pos hs, if_pos h]; exact .inl rfl
    · rw [if_neg hs]; exact ih (k + 1) n h
theorem codeHF_code (S : Nat → Bool) : ∀ f k, 1 ≤ k → (codeF S f k = -1 ∧ codeHF S f k (-1) = -1) ∨ (0 < codeF S f k ∧ (codeHF S f k (-1) = -2 ∨ 0 < codeHF S f k (-1))) := by
  intro f
  induction f with
  | zero => intro k _; exact .inl ⟨rfl, rfl⟩
  | succ f ih =>
    intro k hk
    unfold codeF codeHF
    by_cases hs : S k = true
    · rw [if_pos hs, if_pos hs, if_neg (by omega)]
      exact .inr ⟨by omega, codeHF_pos S f (k + 1) k (by omega)⟩
    · rw [if_neg hs, if_neg hs]; exact ih (k + 1) (by omega)
theorem code_cases (T : ET) : (T = .nil ∧ T.code = 0 ∧ T.hcode = 0) ∨ (T ≠ .nil ∧ T.code = -1 ∧ T.hcode = -1) ∨ (T ≠ .nil ∧ ∃ c : Nat, T.code = c ∧ 1 ≤ c ∧ c ≤ 11 ∧ T.has c = true ∧ (T.hcode = -2 ∨ 0 < T.hcode)) := by
  by_cases h : T = .nil
  · subst h; exact .inl ⟨rfl, rfl, rfl⟩
  · rw [ET.code_of T h, ET.hcode_of T h]
    rcases codeHF_code T.has 11 1 (by omega) with ⟨h1, h2⟩ | ⟨h1, h2⟩
    · exact .inr (.inl ⟨h, h1, h2⟩)
    · rcases codeF_range T.has 11 1 (by omega) with h3 | ⟨c, h3, h4, h5, h6⟩
      · omega
      · exact .inr (.inr ⟨h, c, h3, h4, by omega, h6, h2⟩)

theorem str_eq (s : ByteArray) : (s == s) = true := by
  have : (s.data == s.data) = true := by simp
  cases s; exact this

theorem tells_yes (a : Nat → Addr) (T : ET) (w : World) (hE : Errs a w) (hT : Holds a w T) :
    Calls Tryd.prog 12 #[T.val a, .int .i64 T.code, .int .i64 (atO T.as), .string (pathO T.as), .bool (okO T.as)] w fun e w' => e = .returned (.bool true) ∧ Below w.heap.size w w' := by
  have HA : Hid (∀ W, Below w.heap.size w W → Calls Tryd.prog 23 #[T.val a] W fun e w' => e = .returned (.tuple #[.int .i64 (atO T.as), .bool (okO T.as)]) ∧ Below W.heap.size W w') := Lib.hid fun W hb => at_any a T W (hE.below hb) (hT.below hb)
  have HP : Hid (∀ W, Below w.heap.size w W → Calls Tryd.prog 24 #[T.val a] W fun e w' => e = .returned (.tuple #[.string (pathO T.as), .bool (okO T.as)]) ∧ Below W.heap.size W w') := Lib.hid fun W hb => path_any a T W (hE.below hb) (hT.below hb)
  have HC : Hid (∀ W, Below w.heap.size w W → Calls Tryd.prog 26 #[T.val a] W fun e w' => e = .returned (.int .i64 T.code) ∧ Below W.heap.size W w') := Lib.hid fun W hb => code_any a T W (hE.below hb) (hT.below hb)
  have hn : (T = .nil ∧ T.code = 0) ∨ ((∃ t x, T.val a = .iface t x) ∧ (T.code == 0) = false) := by
    rcases code_cases T with ⟨h1, h2, h3⟩ | ⟨h1, h2, h3⟩ | ⟨h1, c, h2, h3, h4, h5, h6⟩
    · exact .inl ⟨h1, h2⟩
    · exact .inr ⟨val_nil a T h1, by rw [h2]; rfl⟩
    · exact .inr ⟨val_nil a T h1, by rw [h2]; simp; omega⟩
  have hb0 := Below.refl w.heap.size w
  have hs := str_eq (pathO T.as)
  rcases hn with ⟨rfl, h2⟩ | ⟨⟨t, x, hv⟩, h2⟩
  · rw [h2] at HC ⊢
    simp only [ET.val] at HA HP HC ⊢
    generalize atO ET.nil.as = n at HA ⊢
    generalize pathO ET.nil.as = q at HP hs ⊢
    generalize okO ET.nil.as = ok at HA HP ⊢
    clear hE hT h2
    go_enter Tryd.func12, Tryd.ntmps12
    go_upto_region 2 with (go_at_call 23; refine (HA.out _ hb0).mono ?_; rintro e w1 ⟨rfl, hb⟩; have hb1 := trans_b hb0 hb; clear hb)
    go_upto_region 3 with (go_at_call 24; refine (HP.out _ hb1).mono ?_; rintro e w2 ⟨rfl, hb⟩; have hb2 := trans_b hb1 hb; clear hb)
    go_wp2_with (go_at_call 26; refine (HC.out _ hb2).mono ?_; rintro e w3 ⟨rfl, hb⟩; have hb3 := trans_b hb2 hb; clear hb)
    go_ret
    exact ⟨rfl, hb3⟩
  · rw [hv] at HA HP HC ⊢
    generalize T.code = c at HC h2 ⊢
    generalize atO T.as = n at HA ⊢
    generalize pathO T.as = q at HP hs ⊢
    generalize okO T.as = ok at HA HP ⊢
    clear hE hT hv
    go_enter Tryd.func12, Tryd.ntmps12
    go_upto_region 2 with (go_at_call 23; refine (HA.out _ hb0).mono ?_; rintro e w1 ⟨rfl, hb⟩; have hb1 := trans_b hb0 hb; clear hb)
    go_upto_region 3 with (go_at_call 24; refine (HP.out _ hb1).mono ?_; rintro e w2 ⟨rfl, hb⟩; have hb2 := trans_b hb1 hb; clear hb)
    go_wp2_with (go_at_call 26; refine (HC.out _ hb2).mono ?_; rintro e w3 ⟨rfl, hb⟩; have hb3 := trans_b hb2 hb; clear hb)
    go_ret
    exact ⟨rfl, hb3⟩

theorem has_yes (a : Nat → Addr) (T : ET) (w : World) (hE : Errs a w) (hT : Holds a w T) :
    Calls Tryd.prog 17 #[T.val a, .int .i64 T.code, .int .i64 (atO T.as), .string (pathO T.as), .bool (okO T.as)] w fun e w' => e = .returned (.bool true) ∧ Below w.heap.size w w' := by
  have HA : Hid (∀ W, Below w.heap.size w W → Calls Tryd.prog 38 #[T.val a] W fun e w' => e = .returned (.tuple #[.int .i64 (atO T.as), .bool (okO T.as)]) ∧ Below W.heap.size W w') := Lib.hid fun W hb => hat_any a T W (hE.below hb) (hT.below hb)
  have HP : Hid (∀ W, Below w.heap.size w W → Calls Tryd.prog 39 #[T.val a] W fun e w' => e = .returned (.tuple #[.string (pathO T.as), .bool (okO T.as)]) ∧ Below W.heap.size W w') := Lib.hid fun W hb => hpath_any a T W (hE.below hb) (hT.below hb)
  have HC : Hid (∀ W, Below w.heap.size w W → Calls Tryd.prog 16 #[T.val a] W fun e w' => e = .returned (.int .i64 T.hcode) ∧ Below W.heap.size W w') := Lib.hid fun W hb => hcode_any a T W (hE.below hb) (hT.below hb)
  have hb0 := Below.refl w.heap.size w
  have hs := str_eq (pathO T.as)
  have hcs := code_cases T
  have HL : Hid (∀ (W : World) (c : Nat), Below w.heap.size w W → 1 ≤ c → c ≤ 11 → Calls Tryd.prog 31 #[.int .i64 c] W fun e w' => e = .returned (.iface 94 (.pointer (some (a c)))) ∧ Below W.heap.size W w') := Lib.hid fun W c hb h0 h1 => law_in a c W (hE.below hb) h0 h1
  have HI : Hid (∀ (W : World) (c : Nat), Below w.heap.size w W → 1 ≤ c → c ≤ 11 → T.has c = true → Calls Tryd.prog 37 #[T.val a, .iface 94 (.pointer (some (a c)))] W fun e w' => e = .returned (.bool true) ∧ Below W.heap.size W w') := Lib.hid fun W c hb h0 h1 h2 => by
    have := Is_any a T W (hE.below hb) (hT.below hb) c h0 h1
    rwa [h2] at this
  generalize T.val a = v at HA HP HC HI ⊢
  generalize T.hcode = m at HC hcs
  generalize T.code = k at hcs ⊢
  generalize atO T.as = n at HA ⊢
  generalize pathO T.as = q at HP hs ⊢
  generalize okO T.as = ok at HA HP ⊢
  clear hE hT
  rcases hcs with ⟨h1, rfl, rfl⟩ | ⟨h1, rfl, rfl⟩ | ⟨h1, c, rfl, h3, h4, h5, h6⟩
  · clear HL HI h1
    go_enter Tryd.func17, Tryd.ntmps17
    go_upto_region 2 with (go_at_call 16; refine (HC.out _ hb0).mono ?_; rintro e w1 ⟨rfl, hb⟩; have hb1 := trans_b hb0 hb; clear hb)
    go_upto_region 5 with (go_at_call 38; refine (HA.out _ hb1).mono ?_; rintro e w2 ⟨rfl, hb⟩; have hb2 := trans_b hb1 hb; clear hb)
    go_wp2_with (go_at_call 39; refine (HP.out _ hb2).mono ?_; rintro e w3 ⟨rfl, hb⟩; have hb3 := trans_b hb2 hb; clear hb)
    go_ret
    exact ⟨rfl, hb3⟩
  · clear HL HI h1
    go_enter Tryd.func17, Tryd.ntmps17
    go_upto_region 2 with (go_at_call 16; refine (HC.out _ hb0).mono ?_; rintro e w1 ⟨rfl, hb⟩; have hb1 := trans_b hb0 hb; clear hb)
    go_upto_region 5 with (go_at_call 38; refine (HA.out _ hb1).mono ?_; rintro e w2 ⟨rfl, hb⟩; have hb2 := trans_b hb1 hb; clear hb)
    go_wp2_with (go_at_call 39; refine (HP.out _ hb2).mono ?_; rintro e w3 ⟨rfl, hb⟩; have hb3 := trans_b hb2 hb; clear hb)
    go_ret
    exact ⟨rfl, hb3⟩
  · have m0 : (m == 0) = false := by simp; omega
    have m1 : (m == -1) = false := by simp; omega
    have c0 : ¬ (c : Int) ≤ 0 := by omega
    have c1 : 0 < (c : Int) := by omega
    have HLc : Hid (∀ W, Below w.heap.size w W → _) := Lib.hid fun W hb => HL.out W c hb h3 h4
    have HIc : Hid (∀ W, Below w.heap.size w W → _) := Lib.hid fun W hb => HI.out W c hb h3 h4 h5
    clear HL HI h1 h5 h6
    go_enter Tryd.func17, Tryd.ntmps17
    go_upto_region 2 with (go_at_call 16; refine (HC.out _ hb0).mono ?_; rintro e w1 ⟨rfl, hb⟩; have hb1 := trans_b hb0 hb; clear hb)
    go_upto_region 4 with (first | (go_at_call 31; refine (HLc.out _ hb1).mono ?_; rintro e w2 ⟨rfl, hb⟩; have hb2 := trans_b hb1 hb; clear hb) | (go_at_call 37; refine (HIc.out _ hb2).mono ?_; rintro e w3 ⟨rfl, hb⟩; have hb3 := trans_b hb2 hb; clear hb))
    go_upto_region 5 with (go_at_call 38; refine (HA.out _ hb3).mono ?_; rintro e w4 ⟨rfl, hb⟩; have hb4 := trans_b hb3 hb; clear hb)
    go_wp2_with (go_at_call 39; refine (HP.out _ hb4).mono ?_; rintro e w5 ⟨rfl, hb⟩; have hb5 := trans_b hb4 hb; clear hb)
    go_ret
    exact ⟨rfl, hb5⟩
end Go.Proofs.YtfjgjhicinaolaaDoor
