/- The law HeadWithin, walked. -/
import Derived.Test.YtbnckhlfmjoikaaDoorY
namespace Go.Proofs.YtbnckhlfmjoikaaDoor
open Go.RowKit
set_option maxRecDepth 100000
set_option linter.unusedVariables false
set_option linter.unusedSimpArgs false
set_option linter.unnecessarySimpa false

theorem at1_app (a s b : ByteArray) (k : Nat) (hk : k < s.size) : at1 (a ++ s ++ b) (a.size + k) = at1 s k := by
  have h1 : a.size + k < (a ++ s ++ b).size := by rw [ByteArray.size_append, ByteArray.size_append]; omega
  unfold at1
  rw [dif_pos h1, dif_pos hk]
  congr 2
  rw [ByteArray.getElem_append_left (by rw [ByteArray.size_append]; omega), ByteArray.getElem_append_right (by omega)]
  simp
theorem numF_app (a s b : ByteArray) (j : Nat) : ∀ k, j + k ≤ s.size → numF (a ++ s ++ b) (a.size + j) k = numF s j k
  | 0, _ => rfl
  | k + 1, h => by rw [numF, numF, numF_app a s b j k (by omega), Nat.add_assoc, at1_app a s b (j + k) (by omega)]
theorem read_app (a s b : ByteArray) : (∀ x, readF s 0 = .ok x → readF (a ++ s ++ b) a.size = .ok x) ∧ (readF s 0 = .error 0 → 0 < s.size → readF (a ++ s ++ b) a.size = .error a.size) ∧ (∀ q, readF s 0 = .error q → q = 0 ∨ q = s.size) := by
  have hz : (a ++ s ++ b).size = a.size + s.size + b.size := by rw [ByteArray.size_append, ByteArray.size_append]
  by_cases h0 : s.size ≤ 0
  · have e : readF s 0 = .error 0 := by rw [readF, if_pos h0]
    refine ⟨fun x hx => ?_, fun _ h => by omega, fun q hq => ?_⟩
    · rw [e] at hx; cases hx
    · rw [e] at hq; cases hq; exact .inl rfl
  have ha := at1_app a s b 0 (by omega)
  rw [Nat.add_zero] at ha
  have hn := fun z (hz : 1 + z ≤ s.size) => numF_app a s b 1 z hz
  unfold readF
  rw [if_neg h0, if_neg (show ¬ (a ++ s ++ b).size ≤ a.size by omega), ha, hz]
  generalize at1 s 0 / 32 = m
  generalize hi : at1 s 0 % 32 = i
  by_cases hb : behF m i < 0
  · simp only [if_pos hb]
    refine ⟨fun x hx => ?_, fun _ _ => (by trivial), fun q hq => ?_⟩
    · cases hx
    · cases hq; exact .inl rfl
  · simp only [if_neg hb]
    generalize hzz : (behF m i).toNat = z
    by_cases hs : s.size < 0 + 1 + z
    · simp only [if_pos hs]
      refine ⟨fun x hx => ?_, fun hx h => ?_, fun q hq => ?_⟩
      · cases hx
      · have e : s.size = 0 := by simpa using hx
        omega
      · cases hq; exact .inr rfl
    · simp only [if_neg hs, if_neg (show ¬ a.size + s.size + b.size < a.size + 1 + z by omega), Nat.zero_add, hn z (by omega)]
      first
        | exact ⟨fun hx => by cases hx, fun q hq => by cases hq⟩
        | exact ⟨fun x hx => hx, fun hx => by cases hx, fun q hq => by cases hq⟩
        | simp

theorem hwi_big (a s b : ByteArray) (w : World) (hw : Seat w) (ha : a.size ≤ 140737488351232) (hs : s.size ≤ 140737488351232) (hb : b.size ≤ 140737488351232) (hbig : 16777216 < a.size + s.size + b.size) :
    Calls Tryd.prog 8 #[.string a, .string s, .string b] w fun e w' => e = .returned (.bool true) ∧ Below w.heap.size w w' := by
  have h1 := lives_any w hw
  have hq : (16777216 : Int) < (a.size : Int) + (s.size : Int) + (b.size : Int) := by omega
  clear hw
  go_enter Tryd.func8, Tryd.ntmps8
  go_wp2_with (go_at_call 18; refine h1.mono ?_; rintro e w1 ⟨rfl, hb1⟩)
  go_ret
  exact ⟨rfl, hb1⟩

set_option maxHeartbeats 1000000 in
theorem hwi_ok (a s b : ByteArray) (m i x z : Int) (w : World) (hw : Seat w) (hsm : a.size + s.size + b.size ≤ 16777216) (hr : readF s 0 = .ok (m, i, x, z)) :
    Calls Tryd.prog 8 #[.string a, .string s, .string b] w fun e w' => e = .returned (.bool true) ∧ Below w.heap.size w w' := by
  have h1 := lives_any w hw
  have hq : ¬ (16777216 : Int) < (a.size : Int) + (s.size : Int) + (b.size : Int) := by omega
  have hza : (a ++ s).size = a.size + s.size := ByteArray.size_append
  have hzb : (a ++ s ++ b).size = a.size + s.size + b.size := by rw [ByteArray.size_append, ByteArray.size_append]
  have h2 : Hid (∀ W, Below w.heap.size w W → Calls Tryd.prog 14 #[.string s, .int .i64 0] W fun e w' => e = .returned (.tuple #[.agg #[.int .u8 m, .int .u8 i, .int .u64 x, .int .i64 z], .nilIface]) ∧ Below W.heap.size W w') := Lib.hid fun W hb =>
    read_is s 0 _ W (hw.below hb) (by omega) (by omega) hr
  have h3 : Hid (∀ W, Below w.heap.size w W → Calls Tryd.prog 14 #[.string (a ++ s ++ b), .int .i64 a.size] W fun e w' => e = .returned (.tuple #[.agg #[.int .u8 m, .int .u8 i, .int .u64 x, .int .i64 z], .nilIface]) ∧ Below W.heap.size W w') := Lib.hid fun W hb =>
    read_is (a ++ s ++ b) a.size _ W (hw.below hb) (by omega) (by omega) ((read_app a s b).1 _ hr)
  have heq := fun W => eqH4 m i x z m i x z W
  simp only [beq_self_eq_true, Bool.and_self] at heq
  clear hw
  go_enter Tryd.func8, Tryd.ntmps8
  go_upto_region 7 with (first
    | (go_at_call 18; refine h1.mono ?_; rintro e w1 ⟨rfl, hb1⟩)
    | (go_at_call 14; with_reducible refine (h2.out _ hb1).mono ?_; rintro e w2 ⟨rfl, hb2⟩; have hb3 : Below w.heap.size w (w2.alloc (.cells #[.int .u8 m, .int .u8 i, .int .u64 x, .int .i64 z] 29)) := (hb1.trans (hb2.mono hb1.size)).alloc (Nat.le_trans hb1.size hb2.size) _)
    | (go_at_call 14; with_reducible refine (h3.out _ hb3).mono ?_; rintro e w3 ⟨rfl, hb4⟩))
  have L1 : Lies (w3.alloc (.cells #[.int .u8 m, .int .u8 i, .int .u64 x, .int .i64 z] 29)) w2.heap.size #[.int .u8 m, .int .u8 i, .int .u64 x, .int .i64 z] 29 :=
    (Below.heap_alloc _ _ _ (by have := hb4.size; rw [World.size_alloc] at this; omega)).trans ((hb4.block _ (by rw [World.size_alloc]; omega)).trans Array.getElem?_push_size)
  have L2 : Lies (w3.alloc (.cells #[.int .u8 m, .int .u8 i, .int .u64 x, .int .i64 z] 29)) w3.heap.size #[.int .u8 m, .int .u8 i, .int .u64 x, .int .i64 z] 29 := Array.getElem?_push_size
  have hB : Below w.heap.size w (w3.alloc (.cells #[.int .u8 m, .int .u8 i, .int .u64 x, .int .i64 z] 29)) := (hb3.trans (hb4.mono hb3.size)).alloc (Nat.le_trans hb3.size hb4.size) _
  show Code.wp _ _ _ _ (w3.alloc (.cells #[.int .u8 m, .int .u8 i, .int .u64 x, .int .i64 z] 29))
  generalize (w3.alloc (.cells #[.int .u8 m, .int .u8 i, .int .u64 x, .int .i64 z] 29)) = W4 at L1 L2 hB ⊢
  have r0 := L1.cell 0; have r1 := L1.cell 1; have r2 := L1.cell 2; have r3 := L1.cell 3
  have s0 := L2.cell 0; have s1 := L2.cell 1; have s2 := L2.cell 2; have s3 := L2.cell 3
  simp at r0 r1 r2 r3 s0 s1 s2 s3
  clear L1 L2 hb1 hb2 hb3 hb4 h1 h2 h3
  go_wp2
  go_ret
  exact ⟨rfl, hB⟩

/-- s ends ahead of its head's end. -/
theorem hwi_end (a s b : ByteArray) (q : Nat) (w : World) (hw : Seat w) (hsm : a.size + s.size + b.size ≤ 16777216) (hr : readF s 0 = .error q) (hqs : q = s.size) :
    Calls Tryd.prog 8 #[.string a, .string s, .string b] w fun e w' => e = .returned (.bool true) ∧ Below w.heap.size w w' := by
  subst hqs
  have h1 := lives_any w hw
  have hq : ¬ (16777216 : Int) < (a.size : Int) + (s.size : Int) + (b.size : Int) := by omega
  have hza : (a ++ s).size = a.size + s.size := ByteArray.size_append
  have hzb : (a ++ s ++ b).size = a.size + s.size + b.size := by rw [ByteArray.size_append, ByteArray.size_append]
  have h2 : Hid (∀ W, Below w.heap.size w W → Calls Tryd.prog 14 #[.string s, .int .i64 0] W fun e w' => ∃ p, e = .returned (.tuple #[zeroH, .iface 62 (.pointer (some ⟨p, 0, none⟩))]) ∧ Wrong s.size (.iface 62 (.pointer (some ⟨p, 0, none⟩))) w' ∧ Below W.heap.size W w') := Lib.hid fun W hb =>
    read_wrong s 0 s.size W (hw.below hb) (by omega) (by omega) hr
  have h3 : Hid (∀ W, Below w.heap.size w W → Calls Tryd.prog 14 #[.string (a ++ s ++ b), .int .i64 a.size] W fun e w' => ∃ y1 y2 y3 y4 v, e = .returned (.tuple #[.agg #[.int .u8 y1, .int .u8 y2, .int .u64 y3, .int .i64 y4], v]) ∧ Below W.heap.size W w') := Lib.hid fun W hb => by
    rcases hy : readF (a ++ s ++ b) a.size with q2 | ⟨y1, y2, y3, y4⟩
    · refine (read_wrong (a ++ s ++ b) a.size q2 W (hw.below hb) (by omega) (by omega) hy).mono ?_
      rintro e w' ⟨p, rfl, _, hb⟩
      exact ⟨0, 0, 0, 0, _, rfl, hb⟩
    · refine (read_is (a ++ s ++ b) a.size _ W (hw.below hb) (by omega) (by omega) hy).mono ?_
      rintro e w' ⟨rfl, hb⟩
      exact ⟨y1, y2, y3, y4, _, rfl, hb⟩
  clear hw
  go_enter Tryd.func8, Tryd.ntmps8
  go_upto_region 7 with (first
    | (go_at_call 18; refine h1.mono ?_; rintro e w1 ⟨rfl, hb1⟩)
    | (go_at_call 14; with_reducible refine (h2.out _ hb1).mono ?_; rintro e w2 ⟨p, rfl, hW, hb2⟩; have hb3 : Below w.heap.size w (w2.alloc (.cells zH 29)) := (hb1.trans (hb2.mono hb1.size)).alloc (Nat.le_trans hb1.size hb2.size) _)
    | (go_at_call 14; with_reducible refine (h3.out _ hb3).mono ?_; rintro e w3 ⟨y1, y2, y3, y4, v, rfl, hb4⟩))
  have hW4 : Wrong s.size (.iface 62 (.pointer (some ⟨p, 0, none⟩))) (w3.alloc (.cells #[.int .u8 y1, .int .u8 y2, .int .u64 y3, .int .i64 y4] 29)) :=
    ((hW.below ((Below.refl _ _).alloc (Nat.le_refl _) _)).below hb4).below ((Below.refl _ _).alloc (Nat.le_refl _) _)
  have hB : Below w.heap.size w (w3.alloc (.cells #[.int .u8 y1, .int .u8 y2, .int .u64 y3, .int .i64 y4] 29)) := (hb3.trans (hb4.mono hb3.size)).alloc (Nat.le_trans hb3.size hb4.size) _
  show Code.wp _ _ _ _ (w3.alloc (.cells #[.int .u8 y1, .int .u8 y2, .int .u64 y3, .int .i64 y4] 29))
  generalize (w3.alloc (.cells #[.int .u8 y1, .int .u8 y2, .int .u64 y3, .int .i64 y4] 29)) = W4 at hW4 hB ⊢
  have hAt := wrong_at hW4
  have hCd : Hid (∀ W, Below W4.heap.size W4 W → Calls Tryd.prog 19 #[.iface 62 (.pointer (some ⟨p, 0, none⟩))] W fun e w' => e = .returned (.int .i64 3) ∧ Below W4.heap.size W4 w') := Lib.hid fun W h => (wrong_code (hW4.below h)).mono fun e w' ⟨q, r⟩ => ⟨q, h.trans (r.mono h.size)⟩
  clear hW hb1 hb2 hb3 hb4 h1 h2 h3 hW4
  go_wp2_with (first
    | (go_at_call 20; refine hAt.mono ?_; rintro e w5 ⟨rfl, hb5⟩)
    | (go_at_call 19; refine (hCd.out _ hb5).mono ?_; rintro e w6 ⟨rfl, hb6⟩))
  all_goals (go_ret; exact ⟨by first | rfl | simp, hB.trans (hb6.mono hB.size)⟩)

/-- s begins with no head. -/
theorem hwi_none (a s b : ByteArray) (w : World) (hw : Seat w) (hsm : a.size + s.size + b.size ≤ 16777216) (hr : readF s 0 = .error 0) (hqs : 0 < s.size) :
    Calls Tryd.prog 8 #[.string a, .string s, .string b] w fun e w' => e = .returned (.bool true) ∧ Below w.heap.size w w' := by
  have h1 := lives_any w hw
  have hq : ¬ (16777216 : Int) < (a.size : Int) + (s.size : Int) + (b.size : Int) := by omega
  have hza : (a ++ s).size = a.size + s.size := ByteArray.size_append
  have hzb : (a ++ s ++ b).size = a.size + s.size + b.size := by rw [ByteArray.size_append, ByteArray.size_append]
  have hne : ((0 : Int) == (s.size : Int)) = false := by simp; omega
  have h2 : Hid (∀ W, Below w.heap.size w W → Calls Tryd.prog 14 #[.string s, .int .i64 0] W fun e w' => ∃ p, e = .returned (.tuple #[zeroH, .iface 62 (.pointer (some ⟨p, 0, none⟩))]) ∧ Wrong 0 (.iface 62 (.pointer (some ⟨p, 0, none⟩))) w' ∧ Below W.heap.size W w') := Lib.hid fun W hb =>
    read_wrong s 0 0 W (hw.below hb) (by omega) (by omega) hr
  have h3 : Hid (∀ W, Below w.heap.size w W → Calls Tryd.prog 14 #[.string (a ++ s ++ b), .int .i64 a.size] W fun e w' => ∃ p, e = .returned (.tuple #[zeroH, .iface 62 (.pointer (some ⟨p, 0, none⟩))]) ∧ Wrong a.size (.iface 62 (.pointer (some ⟨p, 0, none⟩))) w' ∧ Below W.heap.size W w') := Lib.hid fun W hb =>
    read_wrong (a ++ s ++ b) a.size a.size W (hw.below hb) (by omega) (by omega) ((read_app a s b).2.1 hr hqs)
  clear hw
  go_enter Tryd.func8, Tryd.ntmps8
  go_upto_region 7 with (first
    | (go_at_call 18; refine h1.mono ?_; rintro e w1 ⟨rfl, hb1⟩)
    | (go_at_call 14; with_reducible refine (h2.out _ hb1).mono ?_; rintro e w2 ⟨p, rfl, hW, hb2⟩; have hb3 : Below w.heap.size w (w2.alloc (.cells zH 29)) := (hb1.trans (hb2.mono hb1.size)).alloc (Nat.le_trans hb1.size hb2.size) _)
    | (go_at_call 14; with_reducible refine (h3.out _ hb3).mono ?_; rintro e w3 ⟨p2, rfl, hV, hb4⟩))
  have hW4 : Wrong 0 (.iface 62 (.pointer (some ⟨p, 0, none⟩))) (w3.alloc (.cells zH 29)) :=
    ((hW.below ((Below.refl _ _).alloc (Nat.le_refl _) _)).below hb4).below ((Below.refl _ _).alloc (Nat.le_refl _) _)
  have hV4 : Wrong a.size (.iface 62 (.pointer (some ⟨p2, 0, none⟩))) (w3.alloc (.cells zH 29)) := hV.below ((Below.refl _ _).alloc (Nat.le_refl _) _)
  have hB : Below w.heap.size w (w3.alloc (.cells zH 29)) := (hb3.trans (hb4.mono hb3.size)).alloc (Nat.le_trans hb3.size hb4.size) _
  show Code.wp _ _ _ _ (w3.alloc (.cells zH 29))
  generalize (w3.alloc (.cells zH 29)) = W4 at hW4 hV4 hB ⊢
  have hAt : Calls Tryd.prog 20 #[.iface 62 (.pointer (some ⟨p, 0, none⟩))] W4 fun e w' => e = .returned (.tuple #[.int .i64 0, .bool true]) ∧ Below W4.heap.size W4 w' := wrong_at hW4
  have hCd : Hid (∀ W, Below W4.heap.size W4 W → Calls Tryd.prog 19 #[.iface 62 (.pointer (some ⟨p, 0, none⟩))] W fun e w' => e = .returned (.int .i64 3) ∧ Below W4.heap.size W4 w') := Lib.hid fun W h => (wrong_code (hW4.below h)).mono fun e w' ⟨q, r⟩ => ⟨q, h.trans (r.mono h.size)⟩
  have hIs : Hid (∀ W, Below W4.heap.size W4 W → Calls Tryd.prog 17 #[.iface 62 (.pointer (some ⟨p2, 0, none⟩)), .int .i64 3, .int .i64 a.size] W fun e w' => e = .returned (.bool true) ∧ Below W4.heap.size W4 w') := Lib.hid fun W h => (wrong_isat (hV4.below h)).mono fun e w' ⟨q, r⟩ => ⟨q, h.trans (r.mono h.size)⟩
  clear hW hV hb1 hb2 hb3 hb4 h1 h2 h3 hW4 hV4
  go_wp2_with (first
    | (go_at_call 20; refine hAt.mono ?_; rintro e w5 ⟨rfl, hb5⟩)
    | (go_at_call 19; refine (hCd.out _ hb5).mono ?_; rintro e w6 ⟨rfl, hb6⟩)
    | (go_at_call 17; refine (hIs.out _ hb6).mono ?_; rintro e w7 ⟨rfl, hb7⟩))
  all_goals (go_ret; exact ⟨by first | rfl | simp, hB.trans (hb7.mono hB.size)⟩)
theorem hwithinWalk (a s b : ByteArray) (w : World) (hw : Seat w) (ha : a.size ≤ 140737488351232) (hs : s.size ≤ 140737488351232) (hb : b.size ≤ 140737488351232) :
    Calls Tryd.prog 8 #[.string a, .string s, .string b] w fun e w' => e = .returned (.bool true) ∧ Below w.heap.size w w' := by
  rcases Nat.lt_or_ge 16777216 (a.size + s.size + b.size) with h | h
  · exact hwi_big a s b w hw ha hs hb h
  · rcases hr : readF s 0 with q | ⟨m, i, x, z⟩
    · rcases (read_app a s b).2.2 q hr with rfl | hq
      · by_cases h0 : 0 < s.size
        · exact hwi_none a s b w hw h hr h0
        · exact hwi_end a s b 0 w hw h hr (by omega)
      · exact hwi_end a s b q w hw h hr hq
    · exact hwi_ok a s b m i x z w hw h hr
end Go.Proofs.YtbnckhlfmjoikaaDoor
