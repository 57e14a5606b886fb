/- lives; the law HeadFloatBack, walked. -/
import Derived.Test.YtbnckhlfmjoikaaDoorW
import Derived.Test.YtbnckhlfmjoikaaDoorX
namespace Go.Proofs.YtbnckhlfmjoikaaDoor
open Go.RowKit
set_option maxRecDepth 100000
set_option linter.unusedVariables false
set_option linter.unusedSimpArgs false
set_option linter.unnecessarySimpa false

/-- head.Read tells a head. -/
theorem read_is (s : ByteArray) (n : Nat) (x : Int × Int × Int × Int) (w : World) (hw : Seat w) (hs : s.size ≤ 140737488351232) (hn : n ≤ s.size) (h : readF s n = .ok x) :
    Calls Tryd.prog 14 #[.string s, .int .i64 n] w fun e w' => e = .returned (.tuple #[headV x, .nilIface]) ∧ Below w.heap.size w w' := by
  obtain ⟨a, hE, hS⟩ := hw
  have := read_any a s n w hE hS hs hn
  rw [h] at this
  exact this
/-- head.Read tells where it goes wrong; what h.IsAt, h.Code, h.At tell of it. -/
def Wrong (q : Nat) (v : Value) (w : World) : Prop := ∃ p a, v = .iface 62 (.pointer (some ⟨p, 0, none⟩)) ∧ Errs a w ∧ IsF a 3 q ⟨#[]⟩ p w
theorem Wrong.below {q : Nat} {v : Value} {w w1 : World} (h : Wrong q v w) (hb : Below w.heap.size w w1) : Wrong q v w1 := by
  obtain ⟨p, a, e, hE, hF⟩ := h
  exact ⟨p, a, e, hE.below hb, hF.below hb⟩
theorem Seat.below {w w1 : World} (h : Seat w) (hb : Below w.heap.size w w1) : Seat w1 := by
  obtain ⟨a, hE, hS⟩ := h
  exact ⟨a, hE.below hb, hS.below hb⟩
theorem read_wrong (s : ByteArray) (n : Nat) (q : Nat) (w : World) (hw : Seat w) (hs : s.size ≤ 140737488351232) (hn : n ≤ s.size) (h : readF s n = .error q) :
    Calls Tryd.prog 14 #[.string s, .int .i64 n] w fun e w' => ∃ p, e = .returned (.tuple #[zeroH, .iface 62 (.pointer (some ⟨p, 0, none⟩))]) ∧ Wrong q (.iface 62 (.pointer (some ⟨p, 0, none⟩))) w' ∧ Below w.heap.size w w' := by
  obtain ⟨a, hE, hS⟩ := hw
  have := read_any a s n w hE hS hs hn
  rw [h] at this
  refine this.mono ?_
  rintro e w' ⟨p, he, hF, hb⟩
  exact ⟨p, he, ⟨p, a, rfl, hE.below hb, hF⟩, hb⟩
theorem wrong_isat {q : Nat} {v : Value} {w : World} (h : Wrong q v w) : Calls Tryd.prog 17 #[v, .int .i64 3, .int .i64 q] w fun e w' => e = .returned (.bool true) ∧ Below w.heap.size w w' := by
  obtain ⟨p, a, rfl, hE, hF⟩ := h
  refine (isat_fault a 3 p q q w hE (by omega) (by omega) hF).mono ?_
  rintro e w' ⟨rfl, hb⟩
  exact ⟨by simp, hb⟩
theorem wrong_code {q : Nat} {v : Value} {w : World} (h : Wrong q v w) : Calls Tryd.prog 19 #[v] w fun e w' => e = .returned (.int .i64 3) ∧ Below w.heap.size w w' := by
  obtain ⟨p, a, rfl, hE, hF⟩ := h
  exact code_fault a 3 p q _ w hE (by omega) (by omega) hF
theorem wrong_at {q : Nat} {v : Value} {w : World} (h : Wrong q v w) : Calls Tryd.prog 20 #[v] w fun e w' => e = .returned (.tuple #[.int .i64 q, .bool true]) ∧ Below w.heap.size w w' := by
  obtain ⟨p, a, rfl, hE, hF⟩ := h
  exact at_fault a 3 p q _ w hE hF

theorem lit1 : strOfNums ((185 : Int) :: beS 2 256) = ⟨#[185, 1, 0]⟩ := by decide
theorem rd1 : readF ⟨#[0, 185, 1, 0]⟩ 1 = .ok (5, 25, 256, 3) := by rfl
theorem rd2 : readF ⟨#[25, 1]⟩ 0 = .error 2 := by rfl
theorem write5 (w : World) (hw : Seat w) : Calls Tryd.prog 12 #[.int .u8 5, .int .u64 256] w fun e w' => e = .returned (.tuple #[.string ⟨#[185, 1, 0]⟩, .bool true]) ∧ Below w.heap.size w w' := by
  obtain ⟨a, hE, hS⟩ := hw
  have := w2 5 256 w hS (by omega) (by omega) (by omega) (by omega) (by omega) (by omega)
  rw [← lit1]
  exact this
set_option maxHeartbeats 1000000 in
theorem lives_any (w : World) (hw : Seat w) : Calls Tryd.prog 18 #[] w fun e w' => e = .returned (.bool true) ∧ Below w.heap.size w w' := by
  have h1 := write5 w hw
  have h2 : Hid (∀ W, Below w.heap.size w W → Calls Tryd.prog 14 #[.string ⟨#[0, 185, 1, 0]⟩, .int .i64 1] W fun e w' => e = .returned (.tuple #[headV (5, 25, 256, 3), .nilIface]) ∧ Below W.heap.size W w') := Lib.hid fun W hb =>
    read_is ⟨#[0, 185, 1, 0]⟩ 1 _ W (hw.below hb) (by decide) (by decide) rd1
  have h3 : Hid (∀ W, Below w.heap.size w W → Calls Tryd.prog 14 #[.string ⟨#[25, 1]⟩, .int .i64 0] W fun e w' => ∃ p, e = .returned (.tuple #[zeroH, .iface 62 (.pointer (some ⟨p, 0, none⟩))]) ∧ Wrong 2 (.iface 62 (.pointer (some ⟨p, 0, none⟩))) w' ∧ Below W.heap.size W w') := Lib.hid fun W hb =>
    read_wrong ⟨#[25, 1]⟩ 0 2 W (hw.below hb) (by decide) (by decide) rd2
  have heq := fun W => eqH 5 25 256 3 W
  unfold headV at *
  clear hw
  go_enter Tryd.func18, Tryd.ntmps18
  go_upto_region 4 with (first
    | (go_at_call 12; refine h1.mono ?_; rintro e w1 ⟨rfl, hb1⟩)
    | (go_at_call 14; with_reducible refine (h2.out _ hb1).mono ?_; rintro e w2 ⟨rfl, hb2⟩; have hb3 : Below w.heap.size w (w2.alloc (.cells #[.int .u8 5, .int .u8 25, .int .u64 256, .int .i64 3] 29)) := (hb1.trans (hb2.mono hb1.size)).alloc (Nat.le_trans hb1.size hb2.size) _)
    | (go_at_call 14; with_reducible refine (h3.out _ hb3).mono ?_; rintro e w3 ⟨p, rfl, hW, hb4⟩))
  have L1 : Lies (w3.alloc (.cells zH 29)) w2.heap.size #[.int .u8 5, .int .u8 25, .int .u64 256, .int .i64 3] 29 :=
    (Below.heap_alloc _ _ _ (by have := hb4.size; rw [World.size_alloc] at this; omega)).trans ((hb4.block _ (by rw [World.size_alloc]; omega)).trans Array.getElem?_push_size)
  have hI : Calls Tryd.prog 17 #[.iface 62 (.pointer (some ⟨p, 0, none⟩)), .int .i64 3, .int .i64 2] (w3.alloc (.cells zH 29)) fun e w' => e = .returned (.bool true) ∧ Below (w3.alloc (.cells zH 29)).heap.size (w3.alloc (.cells zH 29)) w' :=
    wrong_isat (hW.below ((Below.refl _ _).alloc (Nat.le_refl _) _))
  have hB : Below w.heap.size w (w3.alloc (.cells zH 29)) := (hb3.trans (hb4.mono hb3.size)).alloc (Nat.le_trans hb3.size hb4.size) _
  show Code.wp _ _ _ _ (w3.alloc (.cells zH 29))
  generalize (w3.alloc (.cells zH 29)) = W4 at L1 hI hB ⊢
  have c0 : W4.cell? ⟨w2.heap.size, 0, none⟩ = some (.int .u8 5) := L1.cell 0
  have c1 : W4.cell? ⟨w2.heap.size, 1, none⟩ = some (.int .u8 25) := L1.cell 1
  have c2 : W4.cell? ⟨w2.heap.size, 2, none⟩ = some (.int .u64 256) := L1.cell 2
  have c3 : W4.cell? ⟨w2.heap.size, 3, none⟩ = some (.int .i64 3) := L1.cell 3
  clear L1 hW hb1 hb2 hb3 hb4 h1 h2 h3
  go_wp2_with (go_at_call 17; refine hI.mono ?_; rintro e w5 ⟨rfl, hb5⟩)
  go_ret
  exact ⟨rfl, hB.trans (hb5.mono hB.size)⟩

theorem fb16 (x : Int) (S : ByteArray) (w : World) (hw : Seat w) (hsz : S.size = 3) (hrd : readF S 0 = .ok (7, 25, x, 3))
    (h10 : ∀ W, Seat W → Calls Tryd.prog 10 #[.int .i64 16, .int .u64 x] W fun e w' => e = .returned (.tuple #[.string S, .bool true]) ∧ Below W.heap.size W w') :
    Calls Tryd.prog 9 #[.int .i64 16, .int .u64 x] w fun e w' => e = .returned (.bool true) ∧ Below w.heap.size w w' := by
  have h1 := lives_any w hw
  have h2 : Hid (∀ W, Below w.heap.size w W → Calls Tryd.prog 10 #[.int .i64 16, .int .u64 x] W fun e w' => e = .returned (.tuple #[.string S, .bool true]) ∧ Below w.heap.size w w') := Lib.hid fun W hb => (h10 W (hw.below hb)).mono fun e w' ⟨q, r⟩ => ⟨q, hb.trans (r.mono hb.size)⟩
  have h3 : Hid (∀ W, Below w.heap.size w W → Calls Tryd.prog 14 #[.string S, .int .i64 0] W fun e w' => e = .returned (.tuple #[.agg #[.int .u8 7, .int .u8 25, .int .u64 x, .int .i64 3], .nilIface]) ∧ Below w.heap.size w w') := Lib.hid fun W hb =>
    (read_is S 0 _ W (hw.below hb) (by omega) (by omega) hrd).mono fun e w' ⟨q, r⟩ => ⟨q, hb.trans (r.mono hb.size)⟩
  clear hw h10 hrd
  go_enter Tryd.func9, Tryd.ntmps9
  go_wp2_with (first
    | (go_at_call 18; refine h1.mono ?_; rintro e w1 ⟨rfl, hb1⟩)
    | (go_at_call 10; refine (h2.out _ hb1).mono ?_; rintro e w2 ⟨rfl, hb2⟩)
    | (go_at_call 14; refine (h3.out _ hb2).mono ?_; rintro e w3 ⟨rfl, hb3⟩))
  go_ret
  exact ⟨rfl, hb3.alloc hb3.size _⟩

theorem fb32 (x : Int) (S : ByteArray) (w : World) (hw : Seat w) (hsz : S.size = 5) (hrd : readF S 0 = .ok (7, 26, x, 5))
    (h10 : ∀ W, Seat W → Calls Tryd.prog 10 #[.int .i64 32, .int .u64 x] W fun e w' => e = .returned (.tuple #[.string S, .bool true]) ∧ Below W.heap.size W w') :
    Calls Tryd.prog 9 #[.int .i64 32, .int .u64 x] w fun e w' => e = .returned (.bool true) ∧ Below w.heap.size w w' := by
  have h1 := lives_any w hw
  have h2 : Hid (∀ W, Below w.heap.size w W → Calls Tryd.prog 10 #[.int .i64 32, .int .u64 x] W fun e w' => e = .returned (.tuple #[.string S, .bool true]) ∧ Below w.heap.size w w') := Lib.hid fun W hb => (h10 W (hw.below hb)).mono fun e w' ⟨q, r⟩ => ⟨q, hb.trans (r.mono hb.size)⟩
  have h3 : Hid (∀ W, Below w.heap.size w W → Calls Tryd.prog 14 #[.string S, .int .i64 0] W fun e w' => e = .returned (.tuple #[.agg #[.int .u8 7, .int .u8 26, .int .u64 x, .int .i64 5], .nilIface]) ∧ Below w.heap.size w w') := Lib.hid fun W hb =>
    (read_is S 0 _ W (hw.below hb) (by omega) (by omega) hrd).mono fun e w' ⟨q, r⟩ => ⟨q, hb.trans (r.mono hb.size)⟩
  clear hw h10 hrd
  go_enter Tryd.func9, Tryd.ntmps9
  go_wp2_with (first
    | (go_at_call 18; refine h1.mono ?_; rintro e w1 ⟨rfl, hb1⟩)
    | (go_at_call 10; refine (h2.out _ hb1).mono ?_; rintro e w2 ⟨rfl, hb2⟩)
    | (go_at_call 14; refine (h3.out _ hb2).mono ?_; rintro e w3 ⟨rfl, hb3⟩))
  go_ret
  exact ⟨rfl, hb3.alloc hb3.size _⟩

theorem fb64 (x : Int) (S : ByteArray) (w : World) (hw : Seat w) (hsz : S.size = 9) (hrd : readF S 0 = .ok (7, 27, x, 9))
    (h10 : ∀ W, Seat W → Calls Tryd.prog 10 #[.int .i64 64, .int .u64 x] W fun e w' => e = .returned (.tuple #[.string S, .bool true]) ∧ Below W.heap.size W w') :
    Calls Tryd.prog 9 #[.int .i64 64, .int .u64 x] w fun e w' => e = .returned (.bool true) ∧ Below w.heap.size w w' := by
  have h1 := lives_any w hw
  have h2 : Hid (∀ W, Below w.heap.size w W → Calls Tryd.prog 10 #[.int .i64 64, .int .u64 x] W fun e w' => e = .returned (.tuple #[.string S, .bool true]) ∧ Below w.heap.size w w') := Lib.hid fun W hb => (h10 W (hw.below hb)).mono fun e w' ⟨q, r⟩ => ⟨q, hb.trans (r.mono hb.size)⟩
  have h3 : Hid (∀ W, Below w.heap.size w W → Calls Tryd.prog 14 #[.string S, .int .i64 0] W fun e w' => e = .returned (.tuple #[.agg #[.int .u8 7, .int .u8 27, .int .u64 x, .int .i64 9], .nilIface]) ∧ Below w.heap.size w w') := Lib.hid fun W hb =>
    (read_is S 0 _ W (hw.below hb) (by omega) (by omega) hrd).mono fun e w' ⟨q, r⟩ => ⟨q, hb.trans (r.mono hb.size)⟩
  clear hw h10 hrd
  go_enter Tryd.func9, Tryd.ntmps9
  go_wp2_with (first
    | (go_at_call 18; refine h1.mono ?_; rintro e w1 ⟨rfl, hb1⟩)
    | (go_at_call 10; refine (h2.out _ hb1).mono ?_; rintro e w2 ⟨rfl, hb2⟩)
    | (go_at_call 14; refine (h3.out _ hb2).mono ?_; rintro e w3 ⟨rfl, hb3⟩))
  go_ret
  exact ⟨rfl, hb3.alloc hb3.size _⟩

theorem fb16_no (x : Int) (w : World) (hw : Seat w) (h0 : 0 ≤ x) (h1' : x ≤ 18446744073709551615) (hx : 65536 ≤ x)
    (h10 : ∀ W, Seat W → Calls Tryd.prog 10 #[.int .i64 16, .int .u64 x] W fun e w' => e = .returned (.tuple #[.string ⟨#[]⟩, .bool false]) ∧ Below W.heap.size W w') :
    Calls Tryd.prog 9 #[.int .i64 16, .int .u64 x] w fun e w' => e = .returned (.bool true) ∧ Below w.heap.size w w' := by
  have h1 := lives_any w hw
  have h2 : Hid (∀ W, Below w.heap.size w W → Calls Tryd.prog 10 #[.int .i64 16, .int .u64 x] W fun e w' => e = .returned (.tuple #[.string ⟨#[]⟩, .bool false]) ∧ Below w.heap.size w w') := Lib.hid fun W hb => (h10 W (hw.below hb)).mono fun e w' ⟨q, r⟩ => ⟨q, hb.trans (r.mono hb.size)⟩
  have hd : ((x / 65536) == 0) = false := by simp; omega
  clear hw h10
  go_enter Tryd.func9, Tryd.ntmps9
  go_wp2_with (first
    | (go_at_call 18; refine h1.mono ?_; rintro e w1 ⟨rfl, hb1⟩)
    | (go_at_call 10; refine (h2.out _ hb1).mono ?_; rintro e w2 ⟨rfl, hb2⟩))
  go_ret
  exact ⟨by simp; omega, hb2⟩

theorem fb32_no (x : Int) (w : World) (hw : Seat w) (h0 : 0 ≤ x) (h1' : x ≤ 18446744073709551615) (hx : 4294967296 ≤ x)
    (h10 : ∀ W, Seat W → Calls Tryd.prog 10 #[.int .i64 32, .int .u64 x] W fun e w' => e = .returned (.tuple #[.string ⟨#[]⟩, .bool false]) ∧ Below W.heap.size W w') :
    Calls Tryd.prog 9 #[.int .i64 32, .int .u64 x] w fun e w' => e = .returned (.bool true) ∧ Below w.heap.size w w' := by
  have h1 := lives_any w hw
  have h2 : Hid (∀ W, Below w.heap.size w W → Calls Tryd.prog 10 #[.int .i64 32, .int .u64 x] W fun e w' => e = .returned (.tuple #[.string ⟨#[]⟩, .bool false]) ∧ Below w.heap.size w w') := Lib.hid fun W hb => (h10 W (hw.below hb)).mono fun e w' ⟨q, r⟩ => ⟨q, hb.trans (r.mono hb.size)⟩
  have hd : ((x / 4294967296) == 0) = false := by simp; omega
  clear hw h10
  go_enter Tryd.func9, Tryd.ntmps9
  go_wp2_with (first
    | (go_at_call 18; refine h1.mono ?_; rintro e w1 ⟨rfl, hb1⟩)
    | (go_at_call 10; refine (h2.out _ hb1).mono ?_; rintro e w2 ⟨rfl, hb2⟩))
  go_ret
  exact ⟨by simp; omega, hb2⟩

theorem fb_no (n x : Int) (w : World) (hw : Seat w) (h0 : 0 ≤ x) (h1' : x ≤ 18446744073709551615) (a : n ≠ 16) (b : n ≠ 32) (c : n ≠ 64) :
    Calls Tryd.prog 9 #[.int .i64 n, .int .u64 x] w fun e w' => e = .returned (.bool true) ∧ Below w.heap.size w w' := by
  have h1 := lives_any w hw
  have h2 : Hid (∀ W, Below w.heap.size w W → Calls Tryd.prog 10 #[.int .i64 n, .int .u64 x] W fun e w' => e = .returned (.tuple #[.string ⟨#[]⟩, .bool false]) ∧ Below w.heap.size w w') := Lib.hid fun W hb => by
    obtain ⟨_, _, hS⟩ := hw.below hb
    exact (float_no x n W hS h0 h1' a b c).mono fun e w' ⟨q, r⟩ => ⟨q, hb.trans (r.mono hb.size)⟩
  have a1 : (n == 16) = false := by simp; omega
  have b1 : (n == 32) = false := by simp; omega
  have c1 : (n == 64) = false := by simp; omega
  clear hw
  go_enter Tryd.func9, Tryd.ntmps9
  go_wp2_with (first
    | (go_at_call 18; refine h1.mono ?_; rintro e w1 ⟨rfl, hb1⟩)
    | (go_at_call 10; refine (h2.out _ hb1).mono ?_; rintro e w2 ⟨rfl, hb2⟩))
  go_ret
  exact ⟨rfl, hb2⟩
theorem headFloatBack_any (n x : Int) (w : World) (hw : Seat w) (h0 : 0 ≤ x) (h1 : x ≤ 18446744073709551615) :
    Calls Tryd.prog 9 #[.int .i64 n, .int .u64 x] w fun e w' => e = .returned (.bool true) ∧ Below w.heap.size w w' := by
  by_cases a : n = 16
  · subst a
    rcases Int.lt_or_le x 65536 with h | h
    · exact fb16 x (strOfNums (249 :: beS 2 x)) w hw (by rw [strOfNums_size]; simp [beS_len]) (read_written 7 25 x 2 ⟨by omega, by omega, .inr ⟨by omega, by omega, rfl, h0, h⟩⟩) fun W ⟨_, _, hS⟩ => float16 x W hS h0 h1 h
    · exact fb16_no x w hw h0 h1 h fun W ⟨_, _, hS⟩ => float16_no x W hS h0 h1 h
  by_cases b : n = 32
  · subst b
    rcases Int.lt_or_le x 4294967296 with h | h
    · exact fb32 x (strOfNums (250 :: beS 4 x)) w hw (by rw [strOfNums_size]; simp [beS_len]) (read_written 7 26 x 4 ⟨by omega, by omega, .inr ⟨by omega, by omega, rfl, h0, h⟩⟩) fun W ⟨_, _, hS⟩ => float32 x W hS h0 h1 h
    · exact fb32_no x w hw h0 h1 h fun W ⟨_, _, hS⟩ => float32_no x W hS h0 h1 h
  by_cases c : n = 64
  · subst c
    exact fb64 x (strOfNums (251 :: beS 8 x)) w hw (by rw [strOfNums_size]; simp [beS_len]) (read_written 7 27 x 8 ⟨by omega, by omega, .inr ⟨by omega, by omega, rfl, h0, Int.lt_add_one_of_le h1⟩⟩) fun W ⟨_, _, hS⟩ => float64 x W hS h0 h1
  · exact fb_no n x w hw h0 h1 a b c
theorem hfbackWalk (n x : Int) (w : World) (hw : Seat w) (_ : -9223372036854775808 ≤ n) (_ : n ≤ 9223372036854775807) (h0 : 0 ≤ x) (h1 : x ≤ 18446744073709551615) :
    Calls Tryd.prog 9 #[.int .i64 n, .int .u64 x] w fun e w' => e = .returned (.bool true) ∧ Below w.heap.size w w' := headFloatBack_any n x w hw h0 h1
end Go.Proofs.YtbnckhlfmjoikaaDoor
