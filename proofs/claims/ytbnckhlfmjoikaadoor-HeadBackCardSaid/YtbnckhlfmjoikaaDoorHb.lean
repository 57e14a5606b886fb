/- The law HeadBack, walked. (printed by wip/head/genHb.py) -/
import Derived.Test.YtbnckhlfmjoikaaDoorHa
namespace Go.Proofs.YtbnckhlfmjoikaaDoor
open Go.RowKit
set_option maxRecDepth 100000
set_option linter.unusedVariables false
set_option linter.unusedSimpArgs false
set_option linter.unnecessarySimpa false

theorem baEq (a b : ByteArray) : (a == b) = decide (a = b) := by
  rcases a with ⟨x⟩
  rcases b with ⟨y⟩
  show (x == y) = _
  by_cases h : x = y <;> simp [h]
theorem eqS (a b : ByteArray) (W : World) : (binOp BinOp.eql 9 (.string a) (.string b)).run Tryd.prog W = .ok (.bool (decide (a = b))) W := by
  have u9 := Tryd.underlying9
  go_simp
  have := beq_toListBytes a b
  by_cases h : a = b
  · subst h; simp
  · simp [h]
    intro e
    rw [e] at this
    rw [baEq, beq_self_eq_true] at this
    exact h (of_decide_eq_true this)
/-- A call of head.Write, whatever it tells. -/
theorem write_some (m y : Int) (w : World) (hw : Seat w) (hm : 0 ≤ m) (h0 : 0 ≤ y) (h1 : y ≤ 18446744073709551615) :
    Calls Tryd.prog 12 #[.int .u8 m, .int .u64 y] w fun e w' => ∃ T f, e = .returned (.tuple #[.string T, .bool f]) ∧ Below w.heap.size w w' := by
  refine (write_is m y w hw hm h0 h1).mono ?_
  rintro e w' ⟨rfl, hb⟩
  rcases writeL m y with _ | ⟨j, v⟩
  · exact ⟨_, _, rfl, hb⟩
  · exact ⟨_, _, rfl, hb⟩

theorem hbno_a (m x y : Int) (w : World) (hw : Seat w) (h7 : 7 < m)
    (h12 : ∀ W, Seat W → Calls Tryd.prog 12 #[.int .u8 m, .int .u64 x] W fun e w' => e = .returned (.tuple #[.string ⟨#[]⟩, .bool false]) ∧ Below W.heap.size W w')
    (h13 : ∀ W, Seat W → Calls Tryd.prog 12 #[.int .u8 m, .int .u64 y] W fun e w' => ∃ T f, e = .returned (.tuple #[.string T, .bool f]) ∧ Below W.heap.size W w') :
    Calls Tryd.prog 6 #[.int .u8 m, .int .u64 x, .int .u64 y] w fun e w' => e = .returned (.bool true) ∧ Below w.heap.size w w' := by
  have h1 := lives_any w hw
  have h2 : Hid (∀ W, Below w.heap.size w W → Calls Tryd.prog 12 #[.int .u8 m, .int .u64 x] W fun e w' => e = .returned (.tuple #[.string ⟨#[]⟩, .bool false]) ∧ Below w.heap.size w w') := Lib.hid fun W hb => (h12 W (hw.below hb)).mono fun e w' ⟨q, r⟩ => ⟨q, hb.trans (r.mono hb.size)⟩
  have h3 : Hid (∀ W, Below w.heap.size w W → Calls Tryd.prog 12 #[.int .u8 m, .int .u64 y] W fun e w' => ∃ T f, e = .returned (.tuple #[.string T, .bool f]) ∧ Below w.heap.size w w') := Lib.hid fun W hb => (h13 W (hw.below hb)).mono fun e w' ⟨T, f, q, r⟩ => ⟨T, f, q, hb.trans (r.mono hb.size)⟩
  clear hw h12 h13
  go_enter Tryd.func6, Tryd.ntmps6
  go_wp2_with (first
    | (go_at_call 18; refine h1.mono ?_; rintro e w1 ⟨rfl, hb1⟩)
    | (go_at_call 12; with_reducible refine (h2.out _ hb1).mono ?_; rintro e w2 ⟨rfl, hb2⟩)
    | (go_at_call 12; with_reducible refine (h3.out _ hb2).mono ?_; rintro e w3 ⟨T, f, rfl, hb3⟩))
  go_ret
  exact ⟨rfl, hb3⟩

theorem hbno_b (x y : Int) (w : World) (hw : Seat w) (ha : 24 ≤ x) (hb : x < 32)
    (h12 : ∀ W, Seat W → Calls Tryd.prog 12 #[.int .u8 7, .int .u64 x] W fun e w' => e = .returned (.tuple #[.string ⟨#[]⟩, .bool false]) ∧ Below W.heap.size W w')
    (h13 : ∀ W, Seat W → Calls Tryd.prog 12 #[.int .u8 7, .int .u64 y] W fun e w' => ∃ T f, e = .returned (.tuple #[.string T, .bool f]) ∧ Below W.heap.size W w') :
    Calls Tryd.prog 6 #[.int .u8 7, .int .u64 x, .int .u64 y] w fun e w' => e = .returned (.bool true) ∧ Below w.heap.size w w' := by
  have h1 := lives_any w hw
  have h2 : Hid (∀ W, Below w.heap.size w W → Calls Tryd.prog 12 #[.int .u8 7, .int .u64 x] W fun e w' => e = .returned (.tuple #[.string ⟨#[]⟩, .bool false]) ∧ Below w.heap.size w w') := Lib.hid fun W hb => (h12 W (hw.below hb)).mono fun e w' ⟨q, r⟩ => ⟨q, hb.trans (r.mono hb.size)⟩
  have h3 : Hid (∀ W, Below w.heap.size w W → Calls Tryd.prog 12 #[.int .u8 7, .int .u64 y] W fun e w' => ∃ T f, e = .returned (.tuple #[.string T, .bool f]) ∧ Below w.heap.size w w') := Lib.hid fun W hb => (h13 W (hw.below hb)).mono fun e w' ⟨T, f, q, r⟩ => ⟨T, f, q, hb.trans (r.mono hb.size)⟩
  clear hw h12 h13
  go_enter Tryd.func6, Tryd.ntmps6
  go_wp2_with (first
    | (go_at_call 18; refine h1.mono ?_; rintro e w1 ⟨rfl, hb1⟩)
    | (go_at_call 12; with_reducible refine (h2.out _ hb1).mono ?_; rintro e w2 ⟨rfl, hb2⟩)
    | (go_at_call 12; with_reducible refine (h3.out _ hb2).mono ?_; rintro e w3 ⟨T, f, rfl, hb3⟩))
  go_ret
  exact ⟨rfl, hb3⟩

theorem hbno_c (x y : Int) (w : World) (hw : Seat w) (ha : 256 ≤ x)
    (h12 : ∀ W, Seat W → Calls Tryd.prog 12 #[.int .u8 7, .int .u64 x] W fun e w' => e = .returned (.tuple #[.string ⟨#[]⟩, .bool false]) ∧ Below W.heap.size W w')
    (h13 : ∀ W, Seat W → Calls Tryd.prog 12 #[.int .u8 7, .int .u64 y] W fun e w' => ∃ T f, e = .returned (.tuple #[.string T, .bool f]) ∧ Below W.heap.size W w') :
    Calls Tryd.prog 6 #[.int .u8 7, .int .u64 x, .int .u64 y] w fun e w' => e = .returned (.bool true) ∧ Below w.heap.size w w' := by
  have h1 := lives_any w hw
  have h2 : Hid (∀ W, Below w.heap.size w W → Calls Tryd.prog 12 #[.int .u8 7, .int .u64 x] W fun e w' => e = .returned (.tuple #[.string ⟨#[]⟩, .bool false]) ∧ Below w.heap.size w w') := Lib.hid fun W hb => (h12 W (hw.below hb)).mono fun e w' ⟨q, r⟩ => ⟨q, hb.trans (r.mono hb.size)⟩
  have h3 : Hid (∀ W, Below w.heap.size w W → Calls Tryd.prog 12 #[.int .u8 7, .int .u64 y] W fun e w' => ∃ T f, e = .returned (.tuple #[.string T, .bool f]) ∧ Below w.heap.size w w') := Lib.hid fun W hb => (h13 W (hw.below hb)).mono fun e w' ⟨T, f, q, r⟩ => ⟨T, f, q, hb.trans (r.mono hb.size)⟩
  clear hw h12 h13
  go_enter Tryd.func6, Tryd.ntmps6
  go_wp2_with (first
    | (go_at_call 18; refine h1.mono ?_; rintro e w1 ⟨rfl, hb1⟩)
    | (go_at_call 12; with_reducible refine (h2.out _ hb1).mono ?_; rintro e w2 ⟨rfl, hb2⟩)
    | (go_at_call 12; with_reducible refine (h3.out _ hb2).mono ?_; rintro e w3 ⟨T, f, rfl, hb3⟩))
  go_ret
  exact ⟨rfl, hb3⟩

/-- What is read of each beginning. -/
def Parts (S : ByteArray) (z : Nat) (w : World) : Prop := ∀ (k : Nat) W, k ≤ z → Below w.heap.size w W →
  Calls Tryd.prog 14 #[.string (S.extract 0 k), .int .i64 0] W fun e w' => ∃ p, e = .returned (.tuple #[zeroH, .iface 62 (.pointer (some ⟨p, 0, none⟩))]) ∧ Wrong k (.iface 62 (.pointer (some ⟨p, 0, none⟩))) w' ∧ Below W.heap.size W w'

set_option maxHeartbeats 2000000 in
theorem hbyes_an (m i x y : Int) (z : Nat) (S : ByteArray) (T : ByteArray) (w : World) (hw : Seat w) (h7 : m < 7)  (hm0 : 0 ≤ m) (hi : i ≤ 27) (hz : z ≤ 8) (hsz : S.size = z + 1) (hrd : readF S 0 = .ok (m, i, x, (z : Int) + 1)) (hP : Hid (Parts S z w))
    (h12 : ∀ W, Seat W → Calls Tryd.prog 12 #[.int .u8 m, .int .u64 x] W fun e w' => e = .returned (.tuple #[.string S, .bool true]) ∧ Below W.heap.size W w')
    (h13 : ∀ W, Seat W → Calls Tryd.prog 12 #[.int .u8 m, .int .u64 y] W fun e w' => e = .returned (.tuple #[.string T, .bool false]) ∧ Below W.heap.size W w') :
    Calls Tryd.prog 6 #[.int .u8 m, .int .u64 x, .int .u64 y] w fun e w' => e = .returned (.bool true) ∧ Below w.heap.size w w' := by
  have h1 := lives_any w hw
  have h2 : Hid (∀ W, Below w.heap.size w W → Calls Tryd.prog 12 #[.int .u8 m, .int .u64 x] W fun e w' => e = .returned (.tuple #[.string S, .bool true]) ∧ Below w.heap.size w w') := Lib.hid fun W hb => (h12 W (hw.below hb)).mono fun e w' ⟨q, r⟩ => ⟨q, hb.trans (r.mono hb.size)⟩
  have h3 : Hid (∀ W, Below w.heap.size w W → Calls Tryd.prog 12 #[.int .u8 m, .int .u64 y] W fun e w' => e = .returned (.tuple #[.string T, .bool false]) ∧ Below w.heap.size w w') := Lib.hid fun W hb => (h13 W (hw.below hb)).mono fun e w' ⟨q, r⟩ => ⟨q, hb.trans (r.mono hb.size)⟩
  have h4 : Hid (∀ W, Below w.heap.size w W → Calls Tryd.prog 14 #[.string S, .int .i64 0] W fun e w' => e = .returned (.tuple #[.agg #[.int .u8 m, .int .u8 i, .int .u64 x, .int .i64 ((z : Int) + 1)], .nilIface]) ∧ Below w.heap.size w w') := Lib.hid fun W hb =>
    (read_is S 0 _ W (hw.below hb) (by omega) (by omega) hrd).mono fun e w' ⟨q, r⟩ => ⟨q, hb.trans (r.mono hb.size)⟩
  clear hw h12 h13 hrd
  go_enter Tryd.func6, Tryd.ntmps6
  go_upto_region 13 with (first
    | (go_at_call 18; refine h1.mono ?_; rintro e w1 ⟨rfl, hb1⟩)
    | (go_at_call 12; with_reducible refine (h2.out _ hb1).mono ?_; rintro e w2 ⟨rfl, hb2⟩)
    | (go_at_call 12; with_reducible refine (h3.out _ hb2).mono ?_; rintro e w3 ⟨rfl, hb3⟩)
    | (go_at_call 14; with_reducible refine (h4.out _ hb3).mono ?_; rintro e w4 ⟨rfl, hb4⟩))
  have hB : Below w.heap.size w (w4.alloc (.cells #[.int .u8 m, .int .u8 i, .int .u64 x, .int .i64 ((z : Int) + 1)] 29)) := hb4.alloc hb4.size _
  show Code.wp _ _ _ _ (w4.alloc (.cells #[.int .u8 m, .int .u8 i, .int .u64 x, .int .i64 ((z : Int) + 1)] 29))
  generalize (w4.alloc (.cells #[.int .u8 m, .int .u8 i, .int .u64 x, .int .i64 ((z : Int) + 1)] 29)) = W5 at hB ⊢
  clear hb1 hb2 hb3 hb4 h1 h2 h3 h4
  go_wp2
  go_loopw [14] (fun i W => ∃ k : Nat, i = .int .i64 k ∧ k ≤ z + 1 ∧ Below w.heap.size w W) (fun i _ => z + 1 - (intOf i).toNat)
  case atStart => exact ⟨0, rfl, by omega, hB⟩
  case round =>
    obtain ⟨k, rfl, hk, hbr⟩ := hrel
    by_cases hlt : k < z + 1
    · have l2 : (k : Int) < (S.size : Int) := by omega
      have hcr := fun W => cut_run S k (by omega) W
      have hP1 := hP.out k wr (by omega) hbr
      have hne := fun W => neH4 0 0 0 0 0 0 0 0 W
      simp only [beq_self_eq_true, Bool.and_self, Bool.not_true] at hne
      go_upto_region 17 with (go_at_call 14; refine hP1.mono ?_; rintro e w5 ⟨p, rfl, hW, hb5⟩)
      have L1 : Lies (w5.alloc (.cells zH 29)) w5.heap.size zH 29 := Array.getElem?_push_size
      have hI := wrong_isat (hW.below ((Below.refl _ _).alloc (Nat.le_refl _) (.cells zH 29)))
      have hBB : Below w.heap.size w (w5.alloc (.cells zH 29)) := (hbr.trans (hb5.mono hbr.size)).alloc (Nat.le_trans hbr.size hb5.size) _
      show Code.wp _ _ _ _ (w5.alloc (.cells zH 29))
      generalize (w5.alloc (.cells zH 29)) = W6 at L1 hI hBB ⊢
      have hl := L1.lt
      have hX : Hid (∀ W, Below W6.heap.size W6 W → Lies W w5.heap.size zH 29 ∧ Below w.heap.size w W) := Lib.hid fun W h => ⟨L1.below h hl, hBB.trans (h.mono hBB.size)⟩
      clear L1 hW hb5 hP1 hBB hl
      go_wp2_with (go_at_call 17; refine hI.mono ?_; rintro e w7 ⟨rfl, hb7⟩; obtain ⟨q1, q3⟩ := hX.out w7 hb7; have r0 := q1.cell 0; have r1 := q1.cell 1; have r2 := q1.cell 2; have r3 := q1.cell 3; simp at r0 r1 r2 r3)
      exact ⟨⟨k + 1, by go_num, by omega, q3⟩, by simp [intOf]; omega⟩
    · have l2 : ¬ (k : Int) < (S.size : Int) := by omega
      go_wp2
      go_ret
      exact ⟨rfl, hbr⟩

set_option maxHeartbeats 2000000 in
theorem hbyes_as (m i x y : Int) (z : Nat) (S : ByteArray)  (w : World) (hw : Seat w) (h7 : m < 7) (hxy : x = y) (hm0 : 0 ≤ m) (hi : i ≤ 27) (hz : z ≤ 8) (hsz : S.size = z + 1) (hrd : readF S 0 = .ok (m, i, x, (z : Int) + 1)) (hP : Hid (Parts S z w))
    (h12 : ∀ W, Seat W → Calls Tryd.prog 12 #[.int .u8 m, .int .u64 x] W fun e w' => e = .returned (.tuple #[.string S, .bool true]) ∧ Below W.heap.size W w')
    (h13 : ∀ W, Seat W → Calls Tryd.prog 12 #[.int .u8 m, .int .u64 y] W fun e w' => e = .returned (.tuple #[.string S, .bool true]) ∧ Below W.heap.size W w') :
    Calls Tryd.prog 6 #[.int .u8 m, .int .u64 x, .int .u64 y] w fun e w' => e = .returned (.bool true) ∧ Below w.heap.size w w' := by
  have h1 := lives_any w hw
  subst hxy
  have h2 : Hid (∀ W, Below w.heap.size w W → Calls Tryd.prog 12 #[.int .u8 m, .int .u64 x] W fun e w' => e = .returned (.tuple #[.string S, .bool true]) ∧ Below w.heap.size w w') := Lib.hid fun W hb => (h12 W (hw.below hb)).mono fun e w' ⟨q, r⟩ => ⟨q, hb.trans (r.mono hb.size)⟩
  have h3 : Hid (∀ W, Below w.heap.size w W → Calls Tryd.prog 12 #[.int .u8 m, .int .u64 x] W fun e w' => e = .returned (.tuple #[.string S, .bool true]) ∧ Below w.heap.size w w') := Lib.hid fun W hb => (h13 W (hw.below hb)).mono fun e w' ⟨q, r⟩ => ⟨q, hb.trans (r.mono hb.size)⟩
  have h4 : Hid (∀ W, Below w.heap.size w W → Calls Tryd.prog 14 #[.string S, .int .i64 0] W fun e w' => e = .returned (.tuple #[.agg #[.int .u8 m, .int .u8 i, .int .u64 x, .int .i64 ((z : Int) + 1)], .nilIface]) ∧ Below w.heap.size w w') := Lib.hid fun W hb =>
    (read_is S 0 _ W (hw.below hb) (by omega) (by omega) hrd).mono fun e w' ⟨q, r⟩ => ⟨q, hb.trans (r.mono hb.size)⟩
  clear hw h12 h13 hrd
  go_enter Tryd.func6, Tryd.ntmps6
  go_upto_region 13 with (first
    | (go_at_call 18; refine h1.mono ?_; rintro e w1 ⟨rfl, hb1⟩)
    | (go_at_call 12; with_reducible refine (h2.out _ hb1).mono ?_; rintro e w2 ⟨rfl, hb2⟩)
    | (go_at_call 12; with_reducible refine (h3.out _ hb2).mono ?_; rintro e w3 ⟨rfl, hb3⟩)
    | (go_at_call 14; with_reducible refine (h4.out _ hb3).mono ?_; rintro e w4 ⟨rfl, hb4⟩))
  have hB : Below w.heap.size w (w4.alloc (.cells #[.int .u8 m, .int .u8 i, .int .u64 x, .int .i64 ((z : Int) + 1)] 29)) := hb4.alloc hb4.size _
  show Code.wp _ _ _ _ (w4.alloc (.cells #[.int .u8 m, .int .u8 i, .int .u64 x, .int .i64 ((z : Int) + 1)] 29))
  generalize (w4.alloc (.cells #[.int .u8 m, .int .u8 i, .int .u64 x, .int .i64 ((z : Int) + 1)] 29)) = W5 at hB ⊢
  clear hb1 hb2 hb3 hb4 h1 h2 h3 h4
  go_wp2
  go_loopw [14] (fun i W => ∃ k : Nat, i = .int .i64 k ∧ k ≤ z + 1 ∧ Below w.heap.size w W) (fun i _ => z + 1 - (intOf i).toNat)
  case atStart => exact ⟨0, rfl, by omega, hB⟩
  case round =>
    obtain ⟨k, rfl, hk, hbr⟩ := hrel
    by_cases hlt : k < z + 1
    · have l2 : (k : Int) < (S.size : Int) := by omega
      have hcr := fun W => cut_run S k (by omega) W
      have hP1 := hP.out k wr (by omega) hbr
      have hne := fun W => neH4 0 0 0 0 0 0 0 0 W
      simp only [beq_self_eq_true, Bool.and_self, Bool.not_true] at hne
      go_upto_region 17 with (go_at_call 14; refine hP1.mono ?_; rintro e w5 ⟨p, rfl, hW, hb5⟩)
      have L1 : Lies (w5.alloc (.cells zH 29)) w5.heap.size zH 29 := Array.getElem?_push_size
      have hI := wrong_isat (hW.below ((Below.refl _ _).alloc (Nat.le_refl _) (.cells zH 29)))
      have hBB : Below w.heap.size w (w5.alloc (.cells zH 29)) := (hbr.trans (hb5.mono hbr.size)).alloc (Nat.le_trans hbr.size hb5.size) _
      show Code.wp _ _ _ _ (w5.alloc (.cells zH 29))
      generalize (w5.alloc (.cells zH 29)) = W6 at L1 hI hBB ⊢
      have hl := L1.lt
      have hX : Hid (∀ W, Below W6.heap.size W6 W → Lies W w5.heap.size zH 29 ∧ Below w.heap.size w W) := Lib.hid fun W h => ⟨L1.below h hl, hBB.trans (h.mono hBB.size)⟩
      clear L1 hW hb5 hP1 hBB hl
      go_wp2_with (go_at_call 17; refine hI.mono ?_; rintro e w7 ⟨rfl, hb7⟩; obtain ⟨q1, q3⟩ := hX.out w7 hb7; have r0 := q1.cell 0; have r1 := q1.cell 1; have r2 := q1.cell 2; have r3 := q1.cell 3; simp at r0 r1 r2 r3)
      exact ⟨⟨k + 1, by go_num, by omega, q3⟩, by simp [intOf]; omega⟩
    · have l2 : ¬ (k : Int) < (S.size : Int) := by omega
      go_wp2
      go_ret
      exact ⟨rfl, hbr⟩

set_option maxHeartbeats 2000000 in
theorem hbyes_ad (m i x y : Int) (z : Nat) (S : ByteArray) (T : ByteArray) (w : World) (hw : Seat w) (h7 : m < 7) (hxy : x ≠ y) (hST : S ≠ T) (hm0 : 0 ≤ m) (hi : i ≤ 27) (hz : z ≤ 8) (hsz : S.size = z + 1) (hrd : readF S 0 = .ok (m, i, x, (z : Int) + 1)) (hP : Hid (Parts S z w))
    (h12 : ∀ W, Seat W → Calls Tryd.prog 12 #[.int .u8 m, .int .u64 x] W fun e w' => e = .returned (.tuple #[.string S, .bool true]) ∧ Below W.heap.size W w')
    (h13 : ∀ W, Seat W → Calls Tryd.prog 12 #[.int .u8 m, .int .u64 y] W fun e w' => e = .returned (.tuple #[.string T, .bool true]) ∧ Below W.heap.size W w') :
    Calls Tryd.prog 6 #[.int .u8 m, .int .u64 x, .int .u64 y] w fun e w' => e = .returned (.bool true) ∧ Below w.heap.size w w' := by
  have h1 := lives_any w hw
  have hxy2 : (x == y) = false := by simpa using hxy
  have hse := fun W => eqS S T W
  simp only [decide_eq_false hST] at hse
  have hse3 : (S.toList == T.toList) = false := by rw [← beq_toListBytes, baEq]; exact decide_eq_false hST
  have hse4 : (S == T) = false := by rw [baEq]; exact decide_eq_false hST
  have h2 : Hid (∀ W, Below w.heap.size w W → Calls Tryd.prog 12 #[.int .u8 m, .int .u64 x] W fun e w' => e = .returned (.tuple #[.string S, .bool true]) ∧ Below w.heap.size w w') := Lib.hid fun W hb => (h12 W (hw.below hb)).mono fun e w' ⟨q, r⟩ => ⟨q, hb.trans (r.mono hb.size)⟩
  have h3 : Hid (∀ W, Below w.heap.size w W → Calls Tryd.prog 12 #[.int .u8 m, .int .u64 y] W fun e w' => e = .returned (.tuple #[.string T, .bool true]) ∧ Below w.heap.size w w') := Lib.hid fun W hb => (h13 W (hw.below hb)).mono fun e w' ⟨q, r⟩ => ⟨q, hb.trans (r.mono hb.size)⟩
  have h4 : Hid (∀ W, Below w.heap.size w W → Calls Tryd.prog 14 #[.string S, .int .i64 0] W fun e w' => e = .returned (.tuple #[.agg #[.int .u8 m, .int .u8 i, .int .u64 x, .int .i64 ((z : Int) + 1)], .nilIface]) ∧ Below w.heap.size w w') := Lib.hid fun W hb =>
    (read_is S 0 _ W (hw.below hb) (by omega) (by omega) hrd).mono fun e w' ⟨q, r⟩ => ⟨q, hb.trans (r.mono hb.size)⟩
  clear hw h12 h13 hrd
  go_enter Tryd.func6, Tryd.ntmps6
  go_upto_region 13 with (first
    | (go_at_call 18; refine h1.mono ?_; rintro e w1 ⟨rfl, hb1⟩)
    | (go_at_call 12; with_reducible refine (h2.out _ hb1).mono ?_; rintro e w2 ⟨rfl, hb2⟩)
    | (go_at_call 12; with_reducible refine (h3.out _ hb2).mono ?_; rintro e w3 ⟨rfl, hb3⟩)
    | (go_at_call 14; with_reducible refine (h4.out _ hb3).mono ?_; rintro e w4 ⟨rfl, hb4⟩))
  have hB : Below w.heap.size w (w4.alloc (.cells #[.int .u8 m, .int .u8 i, .int .u64 x, .int .i64 ((z : Int) + 1)] 29)) := hb4.alloc hb4.size _
  show Code.wp _ _ _ _ (w4.alloc (.cells #[.int .u8 m, .int .u8 i, .int .u64 x, .int .i64 ((z : Int) + 1)] 29))
  generalize (w4.alloc (.cells #[.int .u8 m, .int .u8 i, .int .u64 x, .int .i64 ((z : Int) + 1)] 29)) = W5 at hB ⊢
  clear hb1 hb2 hb3 hb4 h1 h2 h3 h4
  go_wp2
  go_loopw [14] (fun i W => ∃ k : Nat, i = .int .i64 k ∧ k ≤ z + 1 ∧ Below w.heap.size w W) (fun i _ => z + 1 - (intOf i).toNat)
  case atStart => exact ⟨0, rfl, by omega, hB⟩
  case round =>
    obtain ⟨k, rfl, hk, hbr⟩ := hrel
    by_cases hlt : k < z + 1
    · have l2 : (k : Int) < (S.size : Int) := by omega
      have hcr := fun W => cut_run S k (by omega) W
      have hP1 := hP.out k wr (by omega) hbr
      have hne := fun W => neH4 0 0 0 0 0 0 0 0 W
      simp only [beq_self_eq_true, Bool.and_self, Bool.not_true] at hne
      go_upto_region 17 with (go_at_call 14; refine hP1.mono ?_; rintro e w5 ⟨p, rfl, hW, hb5⟩)
      have L1 : Lies (w5.alloc (.cells zH 29)) w5.heap.size zH 29 := Array.getElem?_push_size
      have hI := wrong_isat (hW.below ((Below.refl _ _).alloc (Nat.le_refl _) (.cells zH 29)))
      have hBB : Below w.heap.size w (w5.alloc (.cells zH 29)) := (hbr.trans (hb5.mono hbr.size)).alloc (Nat.le_trans hbr.size hb5.size) _
      show Code.wp _ _ _ _ (w5.alloc (.cells zH 29))
      generalize (w5.alloc (.cells zH 29)) = W6 at L1 hI hBB ⊢
      have hl := L1.lt
      have hX : Hid (∀ W, Below W6.heap.size W6 W → Lies W w5.heap.size zH 29 ∧ Below w.heap.size w W) := Lib.hid fun W h => ⟨L1.below h hl, hBB.trans (h.mono hBB.size)⟩
      clear L1 hW hb5 hP1 hBB hl
      go_wp2_with (go_at_call 17; refine hI.mono ?_; rintro e w7 ⟨rfl, hb7⟩; obtain ⟨q1, q3⟩ := hX.out w7 hb7; have r0 := q1.cell 0; have r1 := q1.cell 1; have r2 := q1.cell 2; have r3 := q1.cell 3; simp at r0 r1 r2 r3)
      exact ⟨⟨k + 1, by go_num, by omega, q3⟩, by simp [intOf]; omega⟩
    · have l2 : ¬ (k : Int) < (S.size : Int) := by omega
      go_wp2
      go_ret
      exact ⟨rfl, hbr⟩

set_option maxHeartbeats 2000000 in
theorem hbyes_bn (i x y : Int) (z : Nat) (S : ByteArray) (T : ByteArray) (w : World) (hw : Seat w) (h7 : x < 24)  (hm0 : 0 ≤ 7) (hi : i ≤ 27) (hz : z ≤ 8) (hsz : S.size = z + 1) (hrd : readF S 0 = .ok (7, i, x, (z : Int) + 1)) (hP : Hid (Parts S z w))
    (h12 : ∀ W, Seat W → Calls Tryd.prog 12 #[.int .u8 7, .int .u64 x] W fun e w' => e = .returned (.tuple #[.string S, .bool true]) ∧ Below W.heap.size W w')
    (h13 : ∀ W, Seat W → Calls Tryd.prog 12 #[.int .u8 7, .int .u64 y] W fun e w' => e = .returned (.tuple #[.string T, .bool false]) ∧ Below W.heap.size W w') :
    Calls Tryd.prog 6 #[.int .u8 7, .int .u64 x, .int .u64 y] w fun e w' => e = .returned (.bool true) ∧ Below w.heap.size w w' := by
  have h1 := lives_any w hw
  have h2 : Hid (∀ W, Below w.heap.size w W → Calls Tryd.prog 12 #[.int .u8 7, .int .u64 x] W fun e w' => e = .returned (.tuple #[.string S, .bool true]) ∧ Below w.heap.size w w') := Lib.hid fun W hb => (h12 W (hw.below hb)).mono fun e w' ⟨q, r⟩ => ⟨q, hb.trans (r.mono hb.size)⟩
  have h3 : Hid (∀ W, Below w.heap.size w W → Calls Tryd.prog 12 #[.int .u8 7, .int .u64 y] W fun e w' => e = .returned (.tuple #[.string T, .bool false]) ∧ Below w.heap.size w w') := Lib.hid fun W hb => (h13 W (hw.below hb)).mono fun e w' ⟨q, r⟩ => ⟨q, hb.trans (r.mono hb.size)⟩
  have h4 : Hid (∀ W, Below w.heap.size w W → Calls Tryd.prog 14 #[.string S, .int .i64 0] W fun e w' => e = .returned (.tuple #[.agg #[.int .u8 7, .int .u8 i, .int .u64 x, .int .i64 ((z : Int) + 1)], .nilIface]) ∧ Below w.heap.size w w') := Lib.hid fun W hb =>
    (read_is S 0 _ W (hw.below hb) (by omega) (by omega) hrd).mono fun e w' ⟨q, r⟩ => ⟨q, hb.trans (r.mono hb.size)⟩
  clear hw h12 h13 hrd
  go_enter Tryd.func6, Tryd.ntmps6
  go_upto_region 13 with (first
    | (go_at_call 18; refine h1.mono ?_; rintro e w1 ⟨rfl, hb1⟩)
    | (go_at_call 12; with_reducible refine (h2.out _ hb1).mono ?_; rintro e w2 ⟨rfl, hb2⟩)
    | (go_at_call 12; with_reducible refine (h3.out _ hb2).mono ?_; rintro e w3 ⟨rfl, hb3⟩)
    | (go_at_call 14; with_reducible refine (h4.out _ hb3).mono ?_; rintro e w4 ⟨rfl, hb4⟩))
  have hB : Below w.heap.size w (w4.alloc (.cells #[.int .u8 7, .int .u8 i, .int .u64 x, .int .i64 ((z : Int) + 1)] 29)) := hb4.alloc hb4.size _
  show Code.wp _ _ _ _ (w4.alloc (.cells #[.int .u8 7, .int .u8 i, .int .u64 x, .int .i64 ((z : Int) + 1)] 29))
  generalize (w4.alloc (.cells #[.int .u8 7, .int .u8 i, .int .u64 x, .int .i64 ((z : Int) + 1)] 29)) = W5 at hB ⊢
  clear hb1 hb2 hb3 hb4 h1 h2 h3 h4
  go_wp2
  go_loopw [14] (fun i W => ∃ k : Nat, i = .int .i64 k ∧ k ≤ z + 1 ∧ Below w.heap.size w W) (fun i _ => z + 1 - (intOf i).toNat)
  case atStart => exact ⟨0, rfl, by omega, hB⟩
  case round =>
    obtain ⟨k, rfl, hk, hbr⟩ := hrel
    by_cases hlt : k < z + 1
    · have l2 : (k : Int) < (S.size : Int) := by omega
      have hcr := fun W => cut_run S k (by omega) W
      have hP1 := hP.out k wr (by omega) hbr
      have hne := fun W => neH4 0 0 0 0 0 0 0 0 W
      simp only [beq_self_eq_true, Bool.and_self, Bool.not_true] at hne
      go_upto_region 17 with (go_at_call 14; refine hP1.mono ?_; rintro e w5 ⟨p, rfl, hW, hb5⟩)
      have L1 : Lies (w5.alloc (.cells zH 29)) w5.heap.size zH 29 := Array.getElem?_push_size
      have hI := wrong_isat (hW.below ((Below.refl _ _).alloc (Nat.le_refl _) (.cells zH 29)))
      have hBB : Below w.heap.size w (w5.alloc (.cells zH 29)) := (hbr.trans (hb5.mono hbr.size)).alloc (Nat.le_trans hbr.size hb5.size) _
      show Code.wp _ _ _ _ (w5.alloc (.cells zH 29))
      generalize (w5.alloc (.cells zH 29)) = W6 at L1 hI hBB ⊢
      have hl := L1.lt
      have hX : Hid (∀ W, Below W6.heap.size W6 W → Lies W w5.heap.size zH 29 ∧ Below w.heap.size w W) := Lib.hid fun W h => ⟨L1.below h hl, hBB.trans (h.mono hBB.size)⟩
      clear L1 hW hb5 hP1 hBB hl
      go_wp2_with (go_at_call 17; refine hI.mono ?_; rintro e w7 ⟨rfl, hb7⟩; obtain ⟨q1, q3⟩ := hX.out w7 hb7; have r0 := q1.cell 0; have r1 := q1.cell 1; have r2 := q1.cell 2; have r3 := q1.cell 3; simp at r0 r1 r2 r3)
      exact ⟨⟨k + 1, by go_num, by omega, q3⟩, by simp [intOf]; omega⟩
    · have l2 : ¬ (k : Int) < (S.size : Int) := by omega
      go_wp2
      go_ret
      exact ⟨rfl, hbr⟩

set_option maxHeartbeats 2000000 in
theorem hbyes_bs (i x y : Int) (z : Nat) (S : ByteArray)  (w : World) (hw : Seat w) (h7 : x < 24) (hxy : x = y) (hm0 : 0 ≤ 7) (hi : i ≤ 27) (hz : z ≤ 8) (hsz : S.size = z + 1) (hrd : readF S 0 = .ok (7, i, x, (z : Int) + 1)) (hP : Hid (Parts S z w))
    (h12 : ∀ W, Seat W → Calls Tryd.prog 12 #[.int .u8 7, .int .u64 x] W fun e w' => e = .returned (.tuple #[.string S, .bool true]) ∧ Below W.heap.size W w')
    (h13 : ∀ W, Seat W → Calls Tryd.prog 12 #[.int .u8 7, .int .u64 y] W fun e w' => e = .returned (.tuple #[.string S, .bool true]) ∧ Below W.heap.size W w') :
    Calls Tryd.prog 6 #[.int .u8 7, .int .u64 x, .int .u64 y] w fun e w' => e = .returned (.bool true) ∧ Below w.heap.size w w' := by
  have h1 := lives_any w hw
  subst hxy
  have h2 : Hid (∀ W, Below w.heap.size w W → Calls Tryd.prog 12 #[.int .u8 7, .int .u64 x] W fun e w' => e = .returned (.tuple #[.string S, .bool true]) ∧ Below w.heap.size w w') := Lib.hid fun W hb => (h12 W (hw.below hb)).mono fun e w' ⟨q, r⟩ => ⟨q, hb.trans (r.mono hb.size)⟩
  have h3 : Hid (∀ W, Below w.heap.size w W → Calls Tryd.prog 12 #[.int .u8 7, .int .u64 x] W fun e w' => e = .returned (.tuple #[.string S, .bool true]) ∧ Below w.heap.size w w') := Lib.hid fun W hb => (h13 W (hw.below hb)).mono fun e w' ⟨q, r⟩ => ⟨q, hb.trans (r.mono hb.size)⟩
  have h4 : Hid (∀ W, Below w.heap.size w W → Calls Tryd.prog 14 #[.string S, .int .i64 0] W fun e w' => e = .returned (.tuple #[.agg #[.int .u8 7, .int .u8 i, .int .u64 x, .int .i64 ((z : Int) + 1)], .nilIface]) ∧ Below w.heap.size w w') := Lib.hid fun W hb =>
    (read_is S 0 _ W (hw.below hb) (by omega) (by omega) hrd).mono fun e w' ⟨q, r⟩ => ⟨q, hb.trans (r.mono hb.size)⟩
  clear hw h12 h13 hrd
  go_enter Tryd.func6, Tryd.ntmps6
  go_upto_region 13 with (first
    | (go_at_call 18; refine h1.mono ?_; rintro e w1 ⟨rfl, hb1⟩)
    | (go_at_call 12; with_reducible refine (h2.out _ hb1).mono ?_; rintro e w2 ⟨rfl, hb2⟩)
    | (go_at_call 12; with_reducible refine (h3.out _ hb2).mono ?_; rintro e w3 ⟨rfl, hb3⟩)
    | (go_at_call 14; with_reducible refine (h4.out _ hb3).mono ?_; rintro e w4 ⟨rfl, hb4⟩))
  have hB : Below w.heap.size w (w4.alloc (.cells #[.int .u8 7, .int .u8 i, .int .u64 x, .int .i64 ((z : Int) + 1)] 29)) := hb4.alloc hb4.size _
  show Code.wp _ _ _ _ (w4.alloc (.cells #[.int .u8 7, .int .u8 i, .int .u64 x, .int .i64 ((z : Int) + 1)] 29))
  generalize (w4.alloc (.cells #[.int .u8 7, .int .u8 i, .int .u64 x, .int .i64 ((z : Int) + 1)] 29)) = W5 at hB ⊢
  clear hb1 hb2 hb3 hb4 h1 h2 h3 h4
  go_wp2
  go_loopw [14] (fun i W => ∃ k : Nat, i = .int .i64 k ∧ k ≤ z + 1 ∧ Below w.heap.size w W) (fun i _ => z + 1 - (intOf i).toNat)
  case atStart => exact ⟨0, rfl, by omega, hB⟩
  case round =>
    obtain ⟨k, rfl, hk, hbr⟩ := hrel
    by_cases hlt : k < z + 1
    · have l2 : (k : Int) < (S.size : Int) := by omega
      have hcr := fun W => cut_run S k (by omega) W
      have hP1 := hP.out k wr (by omega) hbr
      have hne := fun W => neH4 0 0 0 0 0 0 0 0 W
      simp only [beq_self_eq_true, Bool.and_self, Bool.not_true] at hne
      go_upto_region 17 with (go_at_call 14; refine hP1.mono ?_; rintro e w5 ⟨p, rfl, hW, hb5⟩)
      have L1 : Lies (w5.alloc (.cells zH 29)) w5.heap.size zH 29 := Array.getElem?_push_size
      have hI := wrong_isat (hW.below ((Below.refl _ _).alloc (Nat.le_refl _) (.cells zH 29)))
      have hBB : Below w.heap.size w (w5.alloc (.cells zH 29)) := (hbr.trans (hb5.mono hbr.size)).alloc (Nat.le_trans hbr.size hb5.size) _
      show Code.wp _ _ _ _ (w5.alloc (.cells zH 29))
      generalize (w5.alloc (.cells zH 29)) = W6 at L1 hI hBB ⊢
      have hl := L1.lt
      have hX : Hid (∀ W, Below W6.heap.size W6 W → Lies W w5.heap.size zH 29 ∧ Below w.heap.size w W) := Lib.hid fun W h => ⟨L1.below h hl, hBB.trans (h.mono hBB.size)⟩
      clear L1 hW hb5 hP1 hBB hl
      go_wp2_with (go_at_call 17; refine hI.mono ?_; rintro e w7 ⟨rfl, hb7⟩; obtain ⟨q1, q3⟩ := hX.out w7 hb7; have r0 := q1.cell 0; have r1 := q1.cell 1; have r2 := q1.cell 2; have r3 := q1.cell 3; simp at r0 r1 r2 r3)
      exact ⟨⟨k + 1, by go_num, by omega, q3⟩, by simp [intOf]; omega⟩
    · have l2 : ¬ (k : Int) < (S.size : Int) := by omega
      go_wp2
      go_ret
      exact ⟨rfl, hbr⟩

set_option maxHeartbeats 2000000 in
theorem hbyes_bd (i x y : Int) (z : Nat) (S : ByteArray) (T : ByteArray) (w : World) (hw : Seat w) (h7 : x < 24) (hxy : x ≠ y) (hST : S ≠ T) (hm0 : 0 ≤ 7) (hi : i ≤ 27) (hz : z ≤ 8) (hsz : S.size = z + 1) (hrd : readF S 0 = .ok (7, i, x, (z : Int) + 1)) (hP : Hid (Parts S z w))
    (h12 : ∀ W, Seat W → Calls Tryd.prog 12 #[.int .u8 7, .int .u64 x] W fun e w' => e = .returned (.tuple #[.string S, .bool true]) ∧ Below W.heap.size W w')
    (h13 : ∀ W, Seat W → Calls Tryd.prog 12 #[.int .u8 7, .int .u64 y] W fun e w' => e = .returned (.tuple #[.string T, .bool true]) ∧ Below W.heap.size W w') :
    Calls Tryd.prog 6 #[.int .u8 7, .int .u64 x, .int .u64 y] w fun e w' => e = .returned (.bool true) ∧ Below w.heap.size w w' := by
  have h1 := lives_any w hw
  have hxy2 : (x == y) = false := by simpa using hxy
  have hse := fun W => eqS S T W
  simp only [decide_eq_false hST] at hse
  have hse3 : (S.toList == T.toList) = false := by rw [← beq_toListBytes, baEq]; exact decide_eq_false hST
  have hse4 : (S == T) = false := by rw [baEq]; exact decide_eq_false hST
  have h2 : Hid (∀ W, Below w.heap.size w W → Calls Tryd.prog 12 #[.int .u8 7, .int .u64 x] W fun e w' => e = .returned (.tuple #[.string S, .bool true]) ∧ Below w.heap.size w w') := Lib.hid fun W hb => (h12 W (hw.below hb)).mono fun e w' ⟨q, r⟩ => ⟨q, hb.trans (r.mono hb.size)⟩
  have h3 : Hid (∀ W, Below w.heap.size w W → Calls Tryd.prog 12 #[.int .u8 7, .int .u64 y] W fun e w' => e = .returned (.tuple #[.string T, .bool true]) ∧ Below w.heap.size w w') := Lib.hid fun W hb => (h13 W (hw.below hb)).mono fun e w' ⟨q, r⟩ => ⟨q, hb.trans (r.mono hb.size)⟩
  have h4 : Hid (∀ W, Below w.heap.size w W → Calls Tryd.prog 14 #[.string S, .int .i64 0] W fun e w' => e = .returned (.tuple #[.agg #[.int .u8 7, .int .u8 i, .int .u64 x, .int .i64 ((z : Int) + 1)], .nilIface]) ∧ Below w.heap.size w w') := Lib.hid fun W hb =>
    (read_is S 0 _ W (hw.below hb) (by omega) (by omega) hrd).mono fun e w' ⟨q, r⟩ => ⟨q, hb.trans (r.mono hb.size)⟩
  clear hw h12 h13 hrd
  go_enter Tryd.func6, Tryd.ntmps6
  go_upto_region 13 with (first
    | (go_at_call 18; refine h1.mono ?_; rintro e w1 ⟨rfl, hb1⟩)
    | (go_at_call 12; with_reducible refine (h2.out _ hb1).mono ?_; rintro e w2 ⟨rfl, hb2⟩)
    | (go_at_call 12; with_reducible refine (h3.out _ hb2).mono ?_; rintro e w3 ⟨rfl, hb3⟩)
    | (go_at_call 14; with_reducible refine (h4.out _ hb3).mono ?_; rintro e w4 ⟨rfl, hb4⟩))
  have hB : Below w.heap.size w (w4.alloc (.cells #[.int .u8 7, .int .u8 i, .int .u64 x, .int .i64 ((z : Int) + 1)] 29)) := hb4.alloc hb4.size _
  show Code.wp _ _ _ _ (w4.alloc (.cells #[.int .u8 7, .int .u8 i, .int .u64 x, .int .i64 ((z : Int) + 1)] 29))
  generalize (w4.alloc (.cells #[.int .u8 7, .int .u8 i, .int .u64 x, .int .i64 ((z : Int) + 1)] 29)) = W5 at hB ⊢
  clear hb1 hb2 hb3 hb4 h1 h2 h3 h4
  go_wp2
  go_loopw [14] (fun i W => ∃ k : Nat, i = .int .i64 k ∧ k ≤ z + 1 ∧ Below w.heap.size w W) (fun i _ => z + 1 - (intOf i).toNat)
  case atStart => exact ⟨0, rfl, by omega, hB⟩
  case round =>
    obtain ⟨k, rfl, hk, hbr⟩ := hrel
    by_cases hlt : k < z + 1
    · have l2 : (k : Int) < (S.size : Int) := by omega
      have hcr := fun W => cut_run S k (by omega) W
      have hP1 := hP.out k wr (by omega) hbr
      have hne := fun W => neH4 0 0 0 0 0 0 0 0 W
      simp only [beq_self_eq_true, Bool.and_self, Bool.not_true] at hne
      go_upto_region 17 with (go_at_call 14; refine hP1.mono ?_; rintro e w5 ⟨p, rfl, hW, hb5⟩)
      have L1 : Lies (w5.alloc (.cells zH 29)) w5.heap.size zH 29 := Array.getElem?_push_size
      have hI := wrong_isat (hW.below ((Below.refl _ _).alloc (Nat.le_refl _) (.cells zH 29)))
      have hBB : Below w.heap.size w (w5.alloc (.cells zH 29)) := (hbr.trans (hb5.mono hbr.size)).alloc (Nat.le_trans hbr.size hb5.size) _
      show Code.wp _ _ _ _ (w5.alloc (.cells zH 29))
      generalize (w5.alloc (.cells zH 29)) = W6 at L1 hI hBB ⊢
      have hl := L1.lt
      have hX : Hid (∀ W, Below W6.heap.size W6 W → Lies W w5.heap.size zH 29 ∧ Below w.heap.size w W) := Lib.hid fun W h => ⟨L1.below h hl, hBB.trans (h.mono hBB.size)⟩
      clear L1 hW hb5 hP1 hBB hl
      go_wp2_with (go_at_call 17; refine hI.mono ?_; rintro e w7 ⟨rfl, hb7⟩; obtain ⟨q1, q3⟩ := hX.out w7 hb7; have r0 := q1.cell 0; have r1 := q1.cell 1; have r2 := q1.cell 2; have r3 := q1.cell 3; simp at r0 r1 r2 r3)
      exact ⟨⟨k + 1, by go_num, by omega, q3⟩, by simp [intOf]; omega⟩
    · have l2 : ¬ (k : Int) < (S.size : Int) := by omega
      go_wp2
      go_ret
      exact ⟨rfl, hbr⟩

set_option maxHeartbeats 2000000 in
theorem hbyes_cn (i x y : Int) (z : Nat) (S : ByteArray) (T : ByteArray) (w : World) (hw : Seat w) (h7 : 32 ≤ x) (h8 : x < 256)  (hm0 : 0 ≤ 7) (hi : i ≤ 27) (hz : z ≤ 8) (hsz : S.size = z + 1) (hrd : readF S 0 = .ok (7, i, x, (z : Int) + 1)) (hP : Hid (Parts S z w))
    (h12 : ∀ W, Seat W → Calls Tryd.prog 12 #[.int .u8 7, .int .u64 x] W fun e w' => e = .returned (.tuple #[.string S, .bool true]) ∧ Below W.heap.size W w')
    (h13 : ∀ W, Seat W → Calls Tryd.prog 12 #[.int .u8 7, .int .u64 y] W fun e w' => e = .returned (.tuple #[.string T, .bool false]) ∧ Below W.heap.size W w') :
    Calls Tryd.prog 6 #[.int .u8 7, .int .u64 x, .int .u64 y] w fun e w' => e = .returned (.bool true) ∧ Below w.heap.size w w' := by
  have h1 := lives_any w hw
  have h2 : Hid (∀ W, Below w.heap.size w W → Calls Tryd.prog 12 #[.int .u8 7, .int .u64 x] W fun e w' => e = .returned (.tuple #[.string S, .bool true]) ∧ Below w.heap.size w w') := Lib.hid fun W hb => (h12 W (hw.below hb)).mono fun e w' ⟨q, r⟩ => ⟨q, hb.trans (r.mono hb.size)⟩
  have h3 : Hid (∀ W, Below w.heap.size w W → Calls Tryd.prog 12 #[.int .u8 7, .int .u64 y] W fun e w' => e = .returned (.tuple #[.string T, .bool false]) ∧ Below w.heap.size w w') := Lib.hid fun W hb => (h13 W (hw.below hb)).mono fun e w' ⟨q, r⟩ => ⟨q, hb.trans (r.mono hb.size)⟩
  have h4 : Hid (∀ W, Below w.heap.size w W → Calls Tryd.prog 14 #[.string S, .int .i64 0] W fun e w' => e = .returned (.tuple #[.agg #[.int .u8 7, .int .u8 i, .int .u64 x, .int .i64 ((z : Int) + 1)], .nilIface]) ∧ Below w.heap.size w w') := Lib.hid fun W hb =>
    (read_is S 0 _ W (hw.below hb) (by omega) (by omega) hrd).mono fun e w' ⟨q, r⟩ => ⟨q, hb.trans (r.mono hb.size)⟩
  clear hw h12 h13 hrd
  go_enter Tryd.func6, Tryd.ntmps6
  go_upto_region 13 with (first
    | (go_at_call 18; refine h1.mono ?_; rintro e w1 ⟨rfl, hb1⟩)
    | (go_at_call 12; with_reducible refine (h2.out _ hb1).mono ?_; rintro e w2 ⟨rfl, hb2⟩)
    | (go_at_call 12; with_reducible refine (h3.out _ hb2).mono ?_; rintro e w3 ⟨rfl, hb3⟩)
    | (go_at_call 14; with_reducible refine (h4.out _ hb3).mono ?_; rintro e w4 ⟨rfl, hb4⟩))
  have hB : Below w.heap.size w (w4.alloc (.cells #[.int .u8 7, .int .u8 i, .int .u64 x, .int .i64 ((z : Int) + 1)] 29)) := hb4.alloc hb4.size _
  show Code.wp _ _ _ _ (w4.alloc (.cells #[.int .u8 7, .int .u8 i, .int .u64 x, .int .i64 ((z : Int) + 1)] 29))
  generalize (w4.alloc (.cells #[.int .u8 7, .int .u8 i, .int .u64 x, .int .i64 ((z : Int) + 1)] 29)) = W5 at hB ⊢
  clear hb1 hb2 hb3 hb4 h1 h2 h3 h4
  go_wp2
  go_loopw [14] (fun i W => ∃ k : Nat, i = .int .i64 k ∧ k ≤ z + 1 ∧ Below w.heap.size w W) (fun i _ => z + 1 - (intOf i).toNat)
  case atStart => exact ⟨0, rfl, by omega, hB⟩
  case round =>
    obtain ⟨k, rfl, hk, hbr⟩ := hrel
    by_cases hlt : k < z + 1
    · have l2 : (k : Int) < (S.size : Int) := by omega
      have hcr := fun W => cut_run S k (by omega) W
      have hP1 := hP.out k wr (by omega) hbr
      have hne := fun W => neH4 0 0 0 0 0 0 0 0 W
      simp only [beq_self_eq_true, Bool.and_self, Bool.not_true] at hne
      go_upto_region 17 with (go_at_call 14; refine hP1.mono ?_; rintro e w5 ⟨p, rfl, hW, hb5⟩)
      have L1 : Lies (w5.alloc (.cells zH 29)) w5.heap.size zH 29 := Array.getElem?_push_size
      have hI := wrong_isat (hW.below ((Below.refl _ _).alloc (Nat.le_refl _) (.cells zH 29)))
      have hBB : Below w.heap.size w (w5.alloc (.cells zH 29)) := (hbr.trans (hb5.mono hbr.size)).alloc (Nat.le_trans hbr.size hb5.size) _
      show Code.wp _ _ _ _ (w5.alloc (.cells zH 29))
      generalize (w5.alloc (.cells zH 29)) = W6 at L1 hI hBB ⊢
      have hl := L1.lt
      have hX : Hid (∀ W, Below W6.heap.size W6 W → Lies W w5.heap.size zH 29 ∧ Below w.heap.size w W) := Lib.hid fun W h => ⟨L1.below h hl, hBB.trans (h.mono hBB.size)⟩
      clear L1 hW hb5 hP1 hBB hl
      go_wp2_with (go_at_call 17; refine hI.mono ?_; rintro e w7 ⟨rfl, hb7⟩; obtain ⟨q1, q3⟩ := hX.out w7 hb7; have r0 := q1.cell 0; have r1 := q1.cell 1; have r2 := q1.cell 2; have r3 := q1.cell 3; simp at r0 r1 r2 r3)
      exact ⟨⟨k + 1, by go_num, by omega, q3⟩, by simp [intOf]; omega⟩
    · have l2 : ¬ (k : Int) < (S.size : Int) := by omega
      go_wp2
      go_ret
      exact ⟨rfl, hbr⟩

set_option maxHeartbeats 2000000 in
theorem hbyes_cs (i x y : Int) (z : Nat) (S : ByteArray)  (w : World) (hw : Seat w) (h7 : 32 ≤ x) (h8 : x < 256) (hxy : x = y) (hm0 : 0 ≤ 7) (hi : i ≤ 27) (hz : z ≤ 8) (hsz : S.size = z + 1) (hrd : readF S 0 = .ok (7, i, x, (z : Int) + 1)) (hP : Hid (Parts S z w))
    (h12 : ∀ W, Seat W → Calls Tryd.prog 12 #[.int .u8 7, .int .u64 x] W fun e w' => e = .returned (.tuple #[.string S, .bool true]) ∧ Below W.heap.size W w')
    (h13 : ∀ W, Seat W → Calls Tryd.prog 12 #[.int .u8 7, .int .u64 y] W fun e w' => e = .returned (.tuple #[.string S, .bool true]) ∧ Below W.heap.size W w') :
    Calls Tryd.prog 6 #[.int .u8 7, .int .u64 x, .int .u64 y] w fun e w' => e = .returned (.bool true) ∧ Below w.heap.size w w' := by
  have h1 := lives_any w hw
  subst hxy
  have h2 : Hid (∀ W, Below w.heap.size w W → Calls Tryd.prog 12 #[.int .u8 7, .int .u64 x] W fun e w' => e = .returned (.tuple #[.string S, .bool true]) ∧ Below w.heap.size w w') := Lib.hid fun W hb => (h12 W (hw.below hb)).mono fun e w' ⟨q, r⟩ => ⟨q, hb.trans (r.mono hb.size)⟩
  have h3 : Hid (∀ W, Below w.heap.size w W → Calls Tryd.prog 12 #[.int .u8 7, .int .u64 x] W fun e w' => e = .returned (.tuple #[.string S, .bool true]) ∧ Below w.heap.size w w') := Lib.hid fun W hb => (h13 W (hw.below hb)).mono fun e w' ⟨q, r⟩ => ⟨q, hb.trans (r.mono hb.size)⟩
  have h4 : Hid (∀ W, Below w.heap.size w W → Calls Tryd.prog 14 #[.string S, .int .i64 0] W fun e w' => e = .returned (.tuple #[.agg #[.int .u8 7, .int .u8 i, .int .u64 x, .int .i64 ((z : Int) + 1)], .nilIface]) ∧ Below w.heap.size w w') := Lib.hid fun W hb =>
    (read_is S 0 _ W (hw.below hb) (by omega) (by omega) hrd).mono fun e w' ⟨q, r⟩ => ⟨q, hb.trans (r.mono hb.size)⟩
  clear hw h12 h13 hrd
  go_enter Tryd.func6, Tryd.ntmps6
  go_upto_region 13 with (first
    | (go_at_call 18; refine h1.mono ?_; rintro e w1 ⟨rfl, hb1⟩)
    | (go_at_call 12; with_reducible refine (h2.out _ hb1).mono ?_; rintro e w2 ⟨rfl, hb2⟩)
    | (go_at_call 12; with_reducible refine (h3.out _ hb2).mono ?_; rintro e w3 ⟨rfl, hb3⟩)
    | (go_at_call 14; with_reducible refine (h4.out _ hb3).mono ?_; rintro e w4 ⟨rfl, hb4⟩))
  have hB : Below w.heap.size w (w4.alloc (.cells #[.int .u8 7, .int .u8 i, .int .u64 x, .int .i64 ((z : Int) + 1)] 29)) := hb4.alloc hb4.size _
  show Code.wp _ _ _ _ (w4.alloc (.cells #[.int .u8 7, .int .u8 i, .int .u64 x, .int .i64 ((z : Int) + 1)] 29))
  generalize (w4.alloc (.cells #[.int .u8 7, .int .u8 i, .int .u64 x, .int .i64 ((z : Int) + 1)] 29)) = W5 at hB ⊢
  clear hb1 hb2 hb3 hb4 h1 h2 h3 h4
  go_wp2
  go_loopw [14] (fun i W => ∃ k : Nat, i = .int .i64 k ∧ k ≤ z + 1 ∧ Below w.heap.size w W) (fun i _ => z + 1 - (intOf i).toNat)
  case atStart => exact ⟨0, rfl, by omega, hB⟩
  case round =>
    obtain ⟨k, rfl, hk, hbr⟩ := hrel
    by_cases hlt : k < z + 1
    · have l2 : (k : Int) < (S.size : Int) := by omega
      have hcr := fun W => cut_run S k (by omega) W
      have hP1 := hP.out k wr (by omega) hbr
      have hne := fun W => neH4 0 0 0 0 0 0 0 0 W
      simp only [beq_self_eq_true, Bool.and_self, Bool.not_true] at hne
      go_upto_region 17 with (go_at_call 14; refine hP1.mono ?_; rintro e w5 ⟨p, rfl, hW, hb5⟩)
      have L1 : Lies (w5.alloc (.cells zH 29)) w5.heap.size zH 29 := Array.getElem?_push_size
      have hI := wrong_isat (hW.below ((Below.refl _ _).alloc (Nat.le_refl _) (.cells zH 29)))
      have hBB : Below w.heap.size w (w5.alloc (.cells zH 29)) := (hbr.trans (hb5.mono hbr.size)).alloc (Nat.le_trans hbr.size hb5.size) _
      show Code.wp _ _ _ _ (w5.alloc (.cells zH 29))
      generalize (w5.alloc (.cells zH 29)) = W6 at L1 hI hBB ⊢
      have hl := L1.lt
      have hX : Hid (∀ W, Below W6.heap.size W6 W → Lies W w5.heap.size zH 29 ∧ Below w.heap.size w W) := Lib.hid fun W h => ⟨L1.below h hl, hBB.trans (h.mono hBB.size)⟩
      clear L1 hW hb5 hP1 hBB hl
      go_wp2_with (go_at_call 17; refine hI.mono ?_; rintro e w7 ⟨rfl, hb7⟩; obtain ⟨q1, q3⟩ := hX.out w7 hb7; have r0 := q1.cell 0; have r1 := q1.cell 1; have r2 := q1.cell 2; have r3 := q1.cell 3; simp at r0 r1 r2 r3)
      exact ⟨⟨k + 1, by go_num, by omega, q3⟩, by simp [intOf]; omega⟩
    · have l2 : ¬ (k : Int) < (S.size : Int) := by omega
      go_wp2
      go_ret
      exact ⟨rfl, hbr⟩

set_option maxHeartbeats 2000000 in
theorem hbyes_cd (i x y : Int) (z : Nat) (S : ByteArray) (T : ByteArray) (w : World) (hw : Seat w) (h7 : 32 ≤ x) (h8 : x < 256) (hxy : x ≠ y) (hST : S ≠ T) (hm0 : 0 ≤ 7) (hi : i ≤ 27) (hz : z ≤ 8) (hsz : S.size = z + 1) (hrd : readF S 0 = .ok (7, i, x, (z : Int) + 1)) (hP : Hid (Parts S z w))
    (h12 : ∀ W, Seat W → Calls Tryd.prog 12 #[.int .u8 7, .int .u64 x] W fun e w' => e = .returned (.tuple #[.string S, .bool true]) ∧ Below W.heap.size W w')
    (h13 : ∀ W, Seat W → Calls Tryd.prog 12 #[.int .u8 7, .int .u64 y] W fun e w' => e = .returned (.tuple #[.string T, .bool true]) ∧ Below W.heap.size W w') :
    Calls Tryd.prog 6 #[.int .u8 7, .int .u64 x, .int .u64 y] w fun e w' => e = .returned (.bool true) ∧ Below w.heap.size w w' := by
  have h1 := lives_any w hw
  have hxy2 : (x == y) = false := by simpa using hxy
  have hse := fun W => eqS S T W
  simp only [decide_eq_false hST] at hse
  have hse3 : (S.toList == T.toList) = false := by rw [← beq_toListBytes, baEq]; exact decide_eq_false hST
  have hse4 : (S == T) = false := by rw [baEq]; exact decide_eq_false hST
  have h2 : Hid (∀ W, Below w.heap.size w W → Calls Tryd.prog 12 #[.int .u8 7, .int .u64 x] W fun e w' => e = .returned (.tuple #[.string S, .bool true]) ∧ Below w.heap.size w w') := Lib.hid fun W hb => (h12 W (hw.below hb)).mono fun e w' ⟨q, r⟩ => ⟨q, hb.trans (r.mono hb.size)⟩
  have h3 : Hid (∀ W, Below w.heap.size w W → Calls Tryd.prog 12 #[.int .u8 7, .int .u64 y] W fun e w' => e = .returned (.tuple #[.string T, .bool true]) ∧ Below w.heap.size w w') := Lib.hid fun W hb => (h13 W (hw.below hb)).mono fun e w' ⟨q, r⟩ => ⟨q, hb.trans (r.mono hb.size)⟩
  have h4 : Hid (∀ W, Below w.heap.size w W → Calls Tryd.prog 14 #[.string S, .int .i64 0] W fun e w' => e = .returned (.tuple #[.agg #[.int .u8 7, .int .u8 i, .int .u64 x, .int .i64 ((z : Int) + 1)], .nilIface]) ∧ Below w.heap.size w w') := Lib.hid fun W hb =>
    (read_is S 0 _ W (hw.below hb) (by omega) (by omega) hrd).mono fun e w' ⟨q, r⟩ => ⟨q, hb.trans (r.mono hb.size)⟩
  clear hw h12 h13 hrd
  go_enter Tryd.func6, Tryd.ntmps6
  go_upto_region 13 with (first
    | (go_at_call 18; refine h1.mono ?_; rintro e w1 ⟨rfl, hb1⟩)
    | (go_at_call 12; with_reducible refine (h2.out _ hb1).mono ?_; rintro e w2 ⟨rfl, hb2⟩)
    | (go_at_call 12; with_reducible refine (h3.out _ hb2).mono ?_; rintro e w3 ⟨rfl, hb3⟩)
    | (go_at_call 14; with_reducible refine (h4.out _ hb3).mono ?_; rintro e w4 ⟨rfl, hb4⟩))
  have hB : Below w.heap.size w (w4.alloc (.cells #[.int .u8 7, .int .u8 i, .int .u64 x, .int .i64 ((z : Int) + 1)] 29)) := hb4.alloc hb4.size _
  show Code.wp _ _ _ _ (w4.alloc (.cells #[.int .u8 7, .int .u8 i, .int .u64 x, .int .i64 ((z : Int) + 1)] 29))
  generalize (w4.alloc (.cells #[.int .u8 7, .int .u8 i, .int .u64 x, .int .i64 ((z : Int) + 1)] 29)) = W5 at hB ⊢
  clear hb1 hb2 hb3 hb4 h1 h2 h3 h4
  go_wp2
  go_loopw [14] (fun i W => ∃ k : Nat, i = .int .i64 k ∧ k ≤ z + 1 ∧ Below w.heap.size w W) (fun i _ => z + 1 - (intOf i).toNat)
  case atStart => exact ⟨0, rfl, by omega, hB⟩
  case round =>
    obtain ⟨k, rfl, hk, hbr⟩ := hrel
    by_cases hlt : k < z + 1
    · have l2 : (k : Int) < (S.size : Int) := by omega
      have hcr := fun W => cut_run S k (by omega) W
      have hP1 := hP.out k wr (by omega) hbr
      have hne := fun W => neH4 0 0 0 0 0 0 0 0 W
      simp only [beq_self_eq_true, Bool.and_self, Bool.not_true] at hne
      go_upto_region 17 with (go_at_call 14; refine hP1.mono ?_; rintro e w5 ⟨p, rfl, hW, hb5⟩)
      have L1 : Lies (w5.alloc (.cells zH 29)) w5.heap.size zH 29 := Array.getElem?_push_size
      have hI := wrong_isat (hW.below ((Below.refl _ _).alloc (Nat.le_refl _) (.cells zH 29)))
      have hBB : Below w.heap.size w (w5.alloc (.cells zH 29)) := (hbr.trans (hb5.mono hbr.size)).alloc (Nat.le_trans hbr.size hb5.size) _
      show Code.wp _ _ _ _ (w5.alloc (.cells zH 29))
      generalize (w5.alloc (.cells zH 29)) = W6 at L1 hI hBB ⊢
      have hl := L1.lt
      have hX : Hid (∀ W, Below W6.heap.size W6 W → Lies W w5.heap.size zH 29 ∧ Below w.heap.size w W) := Lib.hid fun W h => ⟨L1.below h hl, hBB.trans (h.mono hBB.size)⟩
      clear L1 hW hb5 hP1 hBB hl
      go_wp2_with (go_at_call 17; refine hI.mono ?_; rintro e w7 ⟨rfl, hb7⟩; obtain ⟨q1, q3⟩ := hX.out w7 hb7; have r0 := q1.cell 0; have r1 := q1.cell 1; have r2 := q1.cell 2; have r3 := q1.cell 3; simp at r0 r1 r2 r3)
      exact ⟨⟨k + 1, by go_num, by omega, q3⟩, by simp [intOf]; omega⟩
    · have l2 : ¬ (k : Int) < (S.size : Int) := by omega
      go_wp2
      go_ret
      exact ⟨rfl, hbr⟩
theorem hbackWalk (m x y : Int) (w : World) (hw : Seat w) (hm : 0 ≤ m) (_ : m ≤ 255) (x0 : 0 ≤ x) (x1 : x ≤ 18446744073709551615) (y0 : 0 ≤ y) (y1 : y ≤ 18446744073709551615) :
    Calls Tryd.prog 6 #[.int .u8 m, .int .u64 x, .int .u64 y] w fun e w' => e = .returned (.bool true) ∧ Below w.heap.size w w' := by
  have hX := fun W hW => write_is m x W hW hm x0 x1
  rcases hx : writeL m x with _ | ⟨i, z⟩
  · simp only [hx, writeV] at hX
    have hY := fun W hW => write_some m y W hW hm y0 y1
    unfold writeL at hx
    split at hx
    · rename_i hc
      rcases hc with h7 | ⟨rfl, h⟩
      · exact hbno_a m x y w hw h7 hX hY
      · rcases (by omega : (24 ≤ x ∧ x < 32) ∨ 256 ≤ x) with ⟨a, b⟩ | a
        · exact hbno_b x y w hw a b hX hY
        · exact hbno_c x y w hw a hX hY
    · (repeat' split at hx) <;> cases hx
  · simp only [hx, writeV] at hX
    obtain ⟨hF, hz⟩ := formed_of_write hm x0 x1 hx
    have hm7 := hF.2.1
    have hi := hF.beh.2.2
    have hsz := written_size (32 * m + i) x z
    have hrd := read_written m i x z hF
    rw [Int.add_comm 1 (z : Int)] at hrd
    have hP : Hid (Parts (strOfNums ((32 * m + i) :: beS z x)) z w) := Lib.hid fun k W hk hb =>
      read_wrong _ 0 k W (hw.below hb) (by rw [ByteArray.size_extract]; omega) (by omega) (read_part m i x z k hF (by omega))
    have hY := fun W hW => write_is m y W hW hm y0 y1
    have hcase : m < 7 ∨ (m = 7 ∧ x < 24) ∨ (m = 7 ∧ 32 ≤ x ∧ x < 256) := by
      unfold writeL at hx
      split at hx
      · cases hx
      · omega
    rcases hy : writeL m y with _ | ⟨j, v⟩
    · simp only [hy, writeV] at hY
      rcases hcase with h | ⟨rfl, h⟩ | ⟨rfl, h, h'⟩
      · exact hbyes_an m i x y z _ ⟨#[]⟩ w hw h (by omega) hi hz hsz hrd hP hX hY
      · exact hbyes_bn i x y z _ ⟨#[]⟩ w hw h (by omega) hi hz hsz hrd hP hX hY
      · exact hbyes_cn i x y z _ ⟨#[]⟩ w hw h h' (by omega) hi hz hsz hrd hP hX hY
    · simp only [hy, writeV] at hY
      by_cases hxy : x = y
      · subst hxy
        rw [hx] at hy
        obtain ⟨rfl, rfl⟩ : i = j ∧ z = v := by simpa using hy
        rcases hcase with h | ⟨rfl, h⟩ | ⟨rfl, h, h'⟩
        · exact hbyes_as m i x x z _ w hw h rfl (by omega) hi hz hsz hrd hP hX hY
        · exact hbyes_bs i x x z _ w hw h rfl (by omega) hi hz hsz hrd hP hX hY
        · exact hbyes_cs i x x z _ w hw h h' rfl (by omega) hi hz hsz hrd hP hX hY
      · have hne : strOfNums ((32 * m + i) :: beS z x) ≠ strOfNums ((32 * m + j) :: beS v y) := fun e => hxy (written_inj hF (formed_of_write hm y0 y1 hy).1 e)
        rcases hcase with h | ⟨rfl, h⟩ | ⟨rfl, h, h'⟩
        · exact hbyes_ad m i x y z _ _ w hw h hxy hne (by omega) hi hz hsz hrd hP hX hY
        · exact hbyes_bd i x y z _ _ w hw h hxy hne (by omega) hi hz hsz hrd hP hX hY
        · exact hbyes_cd i x y z _ _ w hw h h' hxy hne (by omega) hi hz hsz hrd hP hX hY
end Go.Proofs.YtbnckhlfmjoikaaDoor
