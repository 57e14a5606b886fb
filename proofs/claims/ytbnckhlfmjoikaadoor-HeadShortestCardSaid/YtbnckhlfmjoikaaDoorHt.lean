/- The law HeadShortest, walked. -/
import Derived.Test.YtbnckhlfmjoikaaDoorHs
namespace Go.Proofs.YtbnckhlfmjoikaaDoor
open Go.RowKit
set_option maxRecDepth 100000
set_option linter.unusedVariables false
set_option linter.unusedSimpArgs false
set_option linter.unnecessarySimpa false

theorem hs_err (s : ByteArray) (q : Nat) (w : World) (hw : Seat w) (hs : s.size ≤ 140737488351232) (hr : readF s 0 = .error q) :
    Calls Tryd.prog 7 #[.string s] w fun e w' => e = .returned (.bool true) ∧ Below w.heap.size w w' := by
  have h1 := lives_any w hw
  have h2 : Hid (∀ W, Below w.heap.size w W → Calls Tryd.prog 14 #[.string s, .int .i64 0] W fun e w' => ∃ p, e = .returned (.tuple #[zeroH, .iface 62 (.pointer (some ⟨p, 0, none⟩))]) ∧ Wrong q (.iface 62 (.pointer (some ⟨p, 0, none⟩))) w' ∧ Below W.heap.size W w') := Lib.hid fun W hb =>
    read_wrong s 0 q W (hw.below hb) (by omega) (by omega) hr
  have heq := fun W => eqH4 0 0 0 0 0 0 0 0 W
  simp only [beq_self_eq_true, Bool.and_self] at heq
  clear hw hr
  go_enter Tryd.func7, Tryd.ntmps7
  go_upto_region 4 with (first
    | (go_at_call 18; refine h1.mono ?_; rintro e w1 ⟨rfl, hb1⟩)
    | (go_at_call 14; refine (h2.out _ hb1).mono ?_; rintro e w2 ⟨p, rfl, hW, hb2⟩))
  have L1 : Lies (w2.alloc (.cells zH 29)) w2.heap.size zH 29 := Array.getElem?_push_size
  have hC := wrong_code (hW.below ((Below.refl _ _).alloc (Nat.le_refl _) (.cells zH 29)))
  have hB : Below w.heap.size w (w2.alloc (.cells zH 29)) := (hb1.trans (hb2.mono hb1.size)).alloc (Nat.le_trans hb1.size hb2.size) _
  show Code.wp _ _ _ _ (w2.alloc (.cells zH 29))
  generalize (w2.alloc (.cells zH 29)) = W3 at L1 hC hB ⊢
  have r0 := L1.cell 0; have r1 := L1.cell 1; have r2 := L1.cell 2; have r3 := L1.cell 3
  simp at r0 r1 r2 r3
  clear L1 hW hb1 hb2 h1 h2
  go_wp2_with (go_at_call 19; refine hC.mono ?_; rintro e w5 ⟨rfl, hb5⟩)
  go_ret
  exact ⟨rfl, hB.trans (hb5.mono hB.size)⟩

theorem hs_seven (s : ByteArray) (c m i x : Int) (n : Nat) (w : World) (hw : Seat w) (hs : s.size ≤ 140737488351232) (hr : readF s 0 = .ok (m, i, x, (n : Int))) (h0 : 0 < s.size) (hc : at1 s 0 = c) (hm : c / 32 = m) (hi : c % 32 = i) (hn : 1 ≤ n) (hn9 : n ≤ 9) (hns : n ≤ s.size)
    (hcase : (m = 7 ∧ i ≠ 31) ∨ (i = 31 ∧ x = 0 ∧ n = 1)) :
    Calls Tryd.prog 7 #[.string s] w fun e w' => e = .returned (.bool true) ∧ Below w.heap.size w w' := by
  have h1 := lives_any w hw
  have h2 : Hid (∀ W, Below w.heap.size w W → Calls Tryd.prog 14 #[.string s, .int .i64 0] W fun e w' => e = .returned (.tuple #[.agg #[.int .u8 m, .int .u8 i, .int .u64 x, .int .i64 (n : Int)], .nilIface]) ∧ Below W.heap.size W w') := Lib.hid fun W hb =>
    read_is s 0 _ W (hw.below hb) (by omega) (by omega) hr
  have hr1 : c ≤ 255 := by have := at1_range s 0; omega
  have hr0 : 0 ≤ c := by have := (at1_in s 0).2 h0; omega
  have hix := fun W => idx_run s 0 h0 W
  rw [hc] at hix
  simp only [Int.ofNat_zero, Int.natCast_zero] at hix
  have ha : bits BinOp.and .u8 c 31 = i := by rw [and31 c hr0 hr1, hi]
  have hm0 : 0 ≤ m := by omega
  have hm1 : m ≤ 7 := by omega
  have hi0 : 0 ≤ i := by omega
  have hi1 : i ≤ 31 := by omega
  have n1 : ¬ (n : Int) < 1 := by omega
  have n9 : ¬ (9 : Int) < (n : Int) := by omega
  have nS : ¬ (s.size : Int) < (n : Int) := by omega
  clear hw hr hc
  go_enter Tryd.func7, Tryd.ntmps7
  go_upto_region 6 with (first
    | (go_at_call 18; refine h1.mono ?_; rintro e w1 ⟨rfl, hb1⟩)
    | (go_at_call 14; refine (h2.out _ hb1).mono ?_; rintro e w2 ⟨rfl, hb2⟩))
  have L1 : Lies (w2.alloc (.cells #[.int .u8 m, .int .u8 i, .int .u64 x, .int .i64 (n : Int)] 29)) w2.heap.size #[.int .u8 m, .int .u8 i, .int .u64 x, .int .i64 (n : Int)] 29 := Array.getElem?_push_size
  have hB : Below w.heap.size w (w2.alloc (.cells #[.int .u8 m, .int .u8 i, .int .u64 x, .int .i64 (n : Int)] 29)) := (hb1.trans (hb2.mono hb1.size)).alloc (Nat.le_trans hb1.size hb2.size) _
  show Code.wp _ _ _ _ (w2.alloc (.cells #[.int .u8 m, .int .u8 i, .int .u64 x, .int .i64 (n : Int)] 29))
  generalize (w2.alloc (.cells #[.int .u8 m, .int .u8 i, .int .u64 x, .int .i64 (n : Int)] 29)) = W3 at L1 hB ⊢
  have r0 := L1.cell 0; have r1 := L1.cell 1; have r2 := L1.cell 2; have r3 := L1.cell 3
  simp at r0 r1 r2 r3
  clear L1 hb1 hb2 h1 h2
  go_quiet (fail)
  rcases hcase with ⟨rfl, hne⟩ | ⟨rfl, rfl, hn1⟩
  · have hib : (i == 31) = false := by simpa using hne
    go_wp2
    go_ret
    exact ⟨rfl, hB.trans ((Aidz.below_drewN W3 nq).mono hB.size)⟩
  · subst hn1
    by_cases h7 : m = 7
    · subst h7
      go_wp2
      go_ret
      exact ⟨rfl, hB.trans ((Aidz.below_drewN W3 nq).mono hB.size)⟩
    · have h7b : (m == 7) = false := by simpa using h7
      go_wp2
      go_ret
      exact ⟨rfl, hB.trans ((Aidz.below_drewN W3 nq).mono hB.size)⟩

theorem hs_main_same (s : ByteArray) (c m i x : Int) (n : Nat) (w : World) (hw : Seat w) (hs : s.size ≤ 140737488351232) (hr : readF s 0 = .ok (m, i, x, (n : Int))) (h0 : 0 < s.size) (hc : at1 s 0 = c) (hm : c / 32 = m) (hi : c % 32 = i) (hn : 1 ≤ n) (hn9 : n ≤ 9) (hns : n ≤ s.size)
    (hm7 : m < 7) (hi31 : i < 31) (T : ByteArray) (h12 : ∀ W, Seat W → Calls Tryd.prog 12 #[.int .u8 m, .int .u64 x] W fun e w' => e = .returned (.tuple #[.string T, .bool true]) ∧ Below W.heap.size W w')
    (hT : T = s.extract 0 n) (hTz : T.size = n) :
    Calls Tryd.prog 7 #[.string s] w fun e w' => e = .returned (.bool true) ∧ Below w.heap.size w w' := by
  have h1 := lives_any w hw
  have h2 : Hid (∀ W, Below w.heap.size w W → Calls Tryd.prog 14 #[.string s, .int .i64 0] W fun e w' => e = .returned (.tuple #[.agg #[.int .u8 m, .int .u8 i, .int .u64 x, .int .i64 (n : Int)], .nilIface]) ∧ Below W.heap.size W w') := Lib.hid fun W hb =>
    read_is s 0 _ W (hw.below hb) (by omega) (by omega) hr
  have hr1 : c ≤ 255 := by have := at1_range s 0; omega
  have hr0 : 0 ≤ c := by have := (at1_in s 0).2 h0; omega
  have hix := fun W => idx_run s 0 h0 W
  rw [hc] at hix
  simp only [Int.ofNat_zero, Int.natCast_zero] at hix
  have ha : bits BinOp.and .u8 c 31 = i := by rw [and31 c hr0 hr1, hi]
  have hm0 : 0 ≤ m := by omega
  have hm1 : m ≤ 7 := by omega
  have hi0 : 0 ≤ i := by omega
  have hi1 : i ≤ 31 := by omega
  have n1 : ¬ (n : Int) < 1 := by omega
  have n9 : ¬ (9 : Int) < (n : Int) := by omega
  have nS : ¬ (s.size : Int) < (n : Int) := by omega
  have h3 : Hid (∀ W, Below w.heap.size w W → Calls Tryd.prog 12 #[.int .u8 m, .int .u64 x] W fun e w' => e = .returned (.tuple #[.string T, .bool true]) ∧ Below W.heap.size W w') := Lib.hid fun W hb => h12 W (hw.below hb)
  have hcr := fun W => cut_run s n hns W
  have h7b : (m == 7) = false := by simp; omega
  have hib : (i == 31) = false := by simp; omega
  rw [← hT] at hcr
  have hTi : (T.size : Int) = (n : Int) := by omega
  have e1 : ((T.size : Int) == (n : Int)) = true := by simp; omega
  clear hw hr hc h12
  go_enter Tryd.func7, Tryd.ntmps7
  go_upto_region 6 with (first
    | (go_at_call 18; refine h1.mono ?_; rintro e w1 ⟨rfl, hb1⟩)
    | (go_at_call 14; refine (h2.out _ hb1).mono ?_; rintro e w2 ⟨rfl, hb2⟩))
  have L1 : Lies (w2.alloc (.cells #[.int .u8 m, .int .u8 i, .int .u64 x, .int .i64 (n : Int)] 29)) w2.heap.size #[.int .u8 m, .int .u8 i, .int .u64 x, .int .i64 (n : Int)] 29 := Array.getElem?_push_size
  have hB : Below w.heap.size w (w2.alloc (.cells #[.int .u8 m, .int .u8 i, .int .u64 x, .int .i64 (n : Int)] 29)) := (hb1.trans (hb2.mono hb1.size)).alloc (Nat.le_trans hb1.size hb2.size) _
  show Code.wp _ _ _ _ (w2.alloc (.cells #[.int .u8 m, .int .u8 i, .int .u64 x, .int .i64 (n : Int)] 29))
  generalize (w2.alloc (.cells #[.int .u8 m, .int .u8 i, .int .u64 x, .int .i64 (n : Int)] 29)) = W3 at L1 hB ⊢
  have r0 := L1.cell 0; have r1 := L1.cell 1; have r2 := L1.cell 2; have r3 := L1.cell 3
  simp at r0 r1 r2 r3
  clear L1 hb1 hb2 h1 h2
  go_quiet (fail)
  have hBq : Below w.heap.size w (W3.drewN nq) := hB.trans ((Aidz.below_drewN W3 nq).mono hB.size)
  have h3q := h3.out _ hBq
  have hX : Hid (∀ W, Below (W3.drewN nq).heap.size (W3.drewN nq) W → W.cell? ⟨w2.heap.size, 3, none⟩ = some (.int .i64 (n : Int)) ∧ Below w.heap.size w W) := Lib.hid fun W h => ⟨(h.cell (World.block_lt_of_cell? (W3.drewN nq) _ (show (W3.drewN nq).cell? ⟨w2.heap.size, 3, none⟩ = _ from r3))).trans r3, hBq.trans (h.mono hBq.size)⟩
  go_upto_region 11 with (go_at_call 12; refine h3q.mono ?_; rintro e w5 ⟨rfl, hb5⟩)
  obtain ⟨q3, hB5⟩ := hX.out w5 hb5
  clear h3 h3q hX r0 r1 r2 r3 hb5 hBq hB
  go_quiet (fail)
  go_wp2
  go_ret
  exact ⟨by first | rfl | simp, hB5.trans ((Aidz.below_drewN w5 _).mono hB5.size)⟩

theorem hs_main_less (s : ByteArray) (c m i x : Int) (n : Nat) (w : World) (hw : Seat w) (hs : s.size ≤ 140737488351232) (hr : readF s 0 = .ok (m, i, x, (n : Int))) (h0 : 0 < s.size) (hc : at1 s 0 = c) (hm : c / 32 = m) (hi : c % 32 = i) (hn : 1 ≤ n) (hn9 : n ≤ 9) (hns : n ≤ s.size)
    (hm7 : m < 7) (hi31 : i < 31) (T : ByteArray) (h12 : ∀ W, Seat W → Calls Tryd.prog 12 #[.int .u8 m, .int .u64 x] W fun e w' => e = .returned (.tuple #[.string T, .bool true]) ∧ Below W.heap.size W w')
    (hT : T ≠ s.extract 0 n) (hTz : T.size < n) :
    Calls Tryd.prog 7 #[.string s] w fun e w' => e = .returned (.bool true) ∧ Below w.heap.size w w' := by
  have h1 := lives_any w hw
  have h2 : Hid (∀ W, Below w.heap.size w W → Calls Tryd.prog 14 #[.string s, .int .i64 0] W fun e w' => e = .returned (.tuple #[.agg #[.int .u8 m, .int .u8 i, .int .u64 x, .int .i64 (n : Int)], .nilIface]) ∧ Below W.heap.size W w') := Lib.hid fun W hb =>
    read_is s 0 _ W (hw.below hb) (by omega) (by omega) hr
  have hr1 : c ≤ 255 := by have := at1_range s 0; omega
  have hr0 : 0 ≤ c := by have := (at1_in s 0).2 h0; omega
  have hix := fun W => idx_run s 0 h0 W
  rw [hc] at hix
  simp only [Int.ofNat_zero, Int.natCast_zero] at hix
  have ha : bits BinOp.and .u8 c 31 = i := by rw [and31 c hr0 hr1, hi]
  have hm0 : 0 ≤ m := by omega
  have hm1 : m ≤ 7 := by omega
  have hi0 : 0 ≤ i := by omega
  have hi1 : i ≤ 31 := by omega
  have n1 : ¬ (n : Int) < 1 := by omega
  have n9 : ¬ (9 : Int) < (n : Int) := by omega
  have nS : ¬ (s.size : Int) < (n : Int) := by omega
  have h3 : Hid (∀ W, Below w.heap.size w W → Calls Tryd.prog 12 #[.int .u8 m, .int .u64 x] W fun e w' => e = .returned (.tuple #[.string T, .bool true]) ∧ Below W.heap.size W w') := Lib.hid fun W hb => h12 W (hw.below hb)
  have hcr := fun W => cut_run s n hns W
  have h7b : (m == 7) = false := by simp; omega
  have hib : (i == 31) = false := by simp; omega
  generalize s.extract 0 n = X at hcr hT
  have hse := fun W => eq_str T X W
  simp only [decide_eq_false hT] at hse
  have hse3 : (T.toList == X.toList) = false := by rw [← beq_toListBytes, ba_eq]; exact decide_eq_false hT
  have hse4 : (T == X) = false := by rw [ba_eq]; exact decide_eq_false hT
  have hTi : (T.size : Int) < (n : Int) := by omega
  have hle : (T.size : Int) ≤ (n : Int) := by omega
  have hleN : T.size ≤ n := by omega
  have hled : decide (T.size ≤ n) = true := by simpa using hleN
  have hledi : decide ((T.size : Int) ≤ (n : Int)) = true := by simpa using hleN
  have e2 : (T.size == n) = false := by simp; omega
  have e1 : ((T.size : Int) == (n : Int)) = false := by simp; omega
  clear hw hr hc h12
  go_enter Tryd.func7, Tryd.ntmps7
  go_upto_region 6 with (first
    | (go_at_call 18; refine h1.mono ?_; rintro e w1 ⟨rfl, hb1⟩)
    | (go_at_call 14; refine (h2.out _ hb1).mono ?_; rintro e w2 ⟨rfl, hb2⟩))
  have L1 : Lies (w2.alloc (.cells #[.int .u8 m, .int .u8 i, .int .u64 x, .int .i64 (n : Int)] 29)) w2.heap.size #[.int .u8 m, .int .u8 i, .int .u64 x, .int .i64 (n : Int)] 29 := Array.getElem?_push_size
  have hB : Below w.heap.size w (w2.alloc (.cells #[.int .u8 m, .int .u8 i, .int .u64 x, .int .i64 (n : Int)] 29)) := (hb1.trans (hb2.mono hb1.size)).alloc (Nat.le_trans hb1.size hb2.size) _
  show Code.wp _ _ _ _ (w2.alloc (.cells #[.int .u8 m, .int .u8 i, .int .u64 x, .int .i64 (n : Int)] 29))
  generalize (w2.alloc (.cells #[.int .u8 m, .int .u8 i, .int .u64 x, .int .i64 (n : Int)] 29)) = W3 at L1 hB ⊢
  have r0 := L1.cell 0; have r1 := L1.cell 1; have r2 := L1.cell 2; have r3 := L1.cell 3
  simp at r0 r1 r2 r3
  clear L1 hb1 hb2 h1 h2
  go_quiet (fail)
  have hBq : Below w.heap.size w (W3.drewN nq) := hB.trans ((Aidz.below_drewN W3 nq).mono hB.size)
  have h3q := h3.out _ hBq
  have hX : Hid (∀ W, Below (W3.drewN nq).heap.size (W3.drewN nq) W → W.cell? ⟨w2.heap.size, 3, none⟩ = some (.int .i64 (n : Int)) ∧ Below w.heap.size w W) := Lib.hid fun W h => ⟨(h.cell (World.block_lt_of_cell? (W3.drewN nq) _ (show (W3.drewN nq).cell? ⟨w2.heap.size, 3, none⟩ = _ from r3))).trans r3, hBq.trans (h.mono hBq.size)⟩
  go_upto_region 11 with (go_at_call 12; refine h3q.mono ?_; rintro e w5 ⟨rfl, hb5⟩)
  obtain ⟨q3, hB5⟩ := hX.out w5 hb5
  clear h3 h3q hX r0 r1 r2 r3 hb5 hBq hB
  go_quiet (fail)
  go_wp2
  go_ret
  exact ⟨by first | rfl | simp, hB5.trans ((Aidz.below_drewN w5 _).mono hB5.size)⟩

theorem hshortWalk (s : ByteArray) (w : World) (hw : Seat w) (hs : s.size ≤ 140737488351232) :
    Calls Tryd.prog 7 #[.string s] w fun e w' => e = .returned (.bool true) ∧ Below w.heap.size w w' := by
  rcases hr : readF s 0 with q | ⟨m, i, x, Z⟩
  · exact hs_err s q w hw hs hr
  obtain ⟨h0, hm, hi, z, rfl, hb, hz, hx⟩ := read_facts s m i x Z hr
  have hr1 := at1_range s 0
  have hr0 := (at1_in s 0).2 h0
  have hrd : readF s 0 = .ok (m, i, x, ((1 + z : Nat) : Int)) := by rw [hr, Int.natCast_add]; rfl
  have hz8 : z ≤ 8 := by
    have : behF m i ≤ 8 := by unfold behF; (repeat' split) <;> omega
    omega
  by_cases h31 : i = 31
  · subst h31
    have hz0 : z = 0 := by
      have : behF m 31 ≤ 0 := by unfold behF; rw [if_neg (by decide), if_neg (by decide), if_neg (by decide), if_neg (by decide), if_neg (by decide)]; split <;> omega
      omega
    subst hz0
    have hx0 : x = 0 := by
      rcases hx with ⟨h, _⟩ | ⟨_, h⟩
      · omega
      · exact h
    exact hs_seven s _ m 31 x (1 + 0) w hw hs hrd h0 rfl hm hi (by omega) (by omega) hz (.inr ⟨rfl, hx0, rfl⟩)
  by_cases h7 : m = 7
  · exact hs_seven s _ m i x (1 + z) w hw hs hrd h0 rfl hm hi (by omega) (by omega) hz (.inl ⟨h7, h31⟩)
  obtain ⟨x0, x1, j, v, hw1, hv, hsame⟩ := short_facts s m i x z (by omega) (by omega) (by omega) (by omega) (by omega) hb hz hx
  have hX := fun W hW => write_is m x W hW (by omega) x0 x1
  simp only [hw1, writeV] at hX
  by_cases e : v = z
  · exact hs_main_same s _ m i x (1 + z) w hw hs hrd h0 rfl hm hi (by omega) (by omega) hz (by omega) (by omega) _ hX (hsame e) (by rw [written_size]; omega)
  · refine hs_main_less s _ m i x (1 + z) w hw hs hrd h0 rfl hm hi (by omega) (by omega) hz (by omega) (by omega) _ hX (fun h => ?_) (by rw [written_size]; omega)
    have := congrArg ByteArray.size h
    rw [written_size, ByteArray.size_extract] at this
    omega
end Go.Proofs.YtbnckhlfmjoikaaDoor
