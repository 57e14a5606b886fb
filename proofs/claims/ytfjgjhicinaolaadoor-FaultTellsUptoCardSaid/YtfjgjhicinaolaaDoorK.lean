/- FaultShifts walked. -/
import Derived.Test.YtfjgjhicinaolaaDoorJ
import Derived.Lib.SmallJoins
import Derived.Deep.DeepFit
namespace Go.Proofs.YtfjgjhicinaolaaDoor
open Go.RowKit Go.Extern.Stop Go.Stop Go.Extern
set_option maxRecDepth 100000
set_option linter.unusedVariables false
set_option linter.unusedSimpArgs false
set_option linter.unnecessarySimpa false

/-- A Fault of the k-th. -/
def FS (k p : Nat) (n : Int) (s : ByteArray) : ET := .fault p n s (.sent k)
theorem fs_code (k p : Nat) (n : Int) (s : ByteArray) (h0 : 1 ≤ k) (h1 : k ≤ 11) : (FS k p n s).code = k := code_fs p n s k h0 h1
theorem inner_fs (oa : Addr) (k p : Nat) (n : Int) (s : ByteArray) (h0 : 1 ≤ k) (h1 : k ≤ 11) : innerT oa (FS k p n s).code = .sent k := by
  rw [fs_code k p n s h0 h1]
  unfold innerT
  rw [if_pos (by omega)]; simp

theorem shift_fs (a : Nat → Addr) (oa : Addr) (k p : Nat) (n d : Int) (s : ByteArray) (w : World) (hS : Seat a oa w) (h0 : 1 ≤ k) (h1 : k ≤ 11) (hh : Holds a w (FS k p n s)) :
    Calls Tryd.prog 18 #[.iface 41 (.pointer (some ⟨p, 0, none⟩)), .int .i64 d] w fun e w' => ∃ q, e = .returned (.iface 41 (.pointer (some ⟨q, 0, none⟩))) ∧ Hid (Holds a w' (FS k q (IntKind.i64.wrap (n + d)) s)) ∧ Below w.heap.size w w' := by
  refine (Shift_yes a oa (FS k p n s) d w hS hh rfl).mono ?_
  rintro e w' ⟨q, hq, he, hh, hb⟩
  rw [inner_fs oa k p n s h0 h1] at hh
  exact ⟨q, he, Lib.hid hh, hb⟩
theorem in_fs (a : Nat → Addr) (oa : Addr) (k p : Nat) (n : Int) (s t : ByteArray) (w : World) (hS : Seat a oa w) (h0 : 1 ≤ k) (h1 : k ≤ 11) (hh : Holds a w (FS k p n s)) (ht : t.size ≤ 2147483640) (hs : s.size ≤ 4611686018427387904) :
    Calls Tryd.prog 19 #[.iface 41 (.pointer (some ⟨p, 0, none⟩)), .string t] w fun e w' => ∃ q, e = .returned (.iface 41 (.pointer (some ⟨q, 0, none⟩))) ∧ Hid (Holds a w' (FS k q n (bs (stepS t) ++ s))) ∧ Below w.heap.size w w' := by
  refine (In_any a oa (FS k p n s) t w hS hh (by simp [FS]) ht hs).mono ?_
  rintro e w' ⟨q, hq, he, hh, hb⟩
  rw [inner_fs oa k p n s h0 h1] at hh
  exact ⟨q, he, Lib.hid hh, hb⟩
theorem same_fs (a : Nat → Addr) (k p q : Nat) (n : Int) (s : ByteArray) (w : World) (hE : Errs a w) (h0 : 1 ≤ k) (h1 : k ≤ 11) (hp : Holds a w (FS k p n s)) (hq : Holds a w (FS k q n s)) :
    Calls Tryd.prog 22 #[.iface 41 (.pointer (some ⟨p, 0, none⟩)), .iface 41 (.pointer (some ⟨q, 0, none⟩))] w fun e w' => e = .returned (.bool true) ∧ Below w.heap.size w w' :=
  same_yes a (FS k p n s) (FS k q n s) w hE hp hq (by rw [fs_code k p n s h0 h1, fs_code k q n s h0 h1]) rfl rfl rfl
theorem wrap_eq (x : Int) : IntKind.i64.wrap x = if 9223372036854775808 ≤ x % 18446744073709551616 then x % 18446744073709551616 - 18446744073709551616 else x % 18446744073709551616 := by
  unfold IntKind.wrap
  simp [IntKind.signed, IntKind.bits]
theorem wrap_l (x y : Int) : IntKind.i64.wrap (IntKind.i64.wrap x + y) = IntKind.i64.wrap (x + y) := by
  simp only [wrap_eq]
  split <;> split <;> split <;> omega
theorem wrap_r (x y : Int) : IntKind.i64.wrap (x + IntKind.i64.wrap y) = IntKind.i64.wrap (x + y) := by rw [Int.add_comm, wrap_l, Int.add_comm]
theorem wrap_id (x : Int) (h0 : -9223372036854775808 ≤ x) (h1 : x ≤ 9223372036854775807) : IntKind.i64.wrap x = x := by
  simp only [wrap_eq]
  split <;> omega
theorem w64_eq (x : Int) : wrap64 x = IntKind.i64.wrap x := by
  rw [wrap_eq]; unfold wrap64; split <;> omega
theorem below_dn {B : Nat} {w W : World} (h : Below B w W) (n : Nat) : Below B w (W.drewN n) := ⟨h.os, h.tape, h.output, h.size, h.block⟩
theorem tmod_range (c : Int) : -10 ≤ c.tmod 11 ∧ c.tmod 11 ≤ 10 := by
  have h1 := Int.tmod_lt_of_pos c (b := 11) (by omega)
  have h2 := Int.tmod_lt_of_pos (-c) (b := 11) (by omega)
  rw [Int.neg_tmod] at h2
  omega

def movedV (c n : Int) (s t : ByteArray) (x y : Int) : Value := .agg #[.int .i64 c, .int .i64 n, .string s, .string t, .int .i64 x, .int .i64 y]
theorem shiftsWalk (c n : Int) (s t : ByteArray) (x y : Int) (w : World) (hS : ∃ a oa, Seat a oa w) (hn0 : -9223372036854775808 ≤ n) (hn1 : n ≤ 9223372036854775807) (hs : s.size ≤ 140737488355328) (ht : t.size ≤ 2147483640) :
    Calls Tryd.prog 6 #[.agg #[.int .i64 c, .int .i64 n, .string s, .string t, .int .i64 x, .int .i64 y]] w fun e w' => e = .returned (.bool true) ∧ Below w.heap.size w w' := by
  obtain ⟨a, oa, hS⟩ := hS
  obtain ⟨m0, m1⟩ := tmod_range c
  obtain ⟨k, hk0, hk1, hk⟩ : ∃ k : Nat, 1 ≤ k ∧ k ≤ 11 ∧ ((1 + c.tmod 11 < 1 ∧ 1 + c.tmod 11 + 11 = k) ∨ (¬ 1 + c.tmod 11 < 1 ∧ 1 + c.tmod 11 = k)) := by
    by_cases h : 1 + c.tmod 11 < 1
    · exact ⟨(1 + c.tmod 11 + 11).toNat, by omega, by omega, .inl ⟨h, by omega⟩⟩
    · exact ⟨(1 + c.tmod 11).toNat, by omega, by omega, .inr ⟨h, by omega⟩⟩
  obtain ⟨xy, hxy⟩ : ∃ z, IntKind.i64.wrap (x + y) = z := ⟨_, rfl⟩
  obtain ⟨nx, hnx⟩ : ∃ z, IntKind.i64.wrap (n + x) = z := ⟨_, rfl⟩
  obtain ⟨nxy, hnxy⟩ : ∃ z, IntKind.i64.wrap (nx + y) = z := ⟨_, rfl⟩
  have hq : IntKind.i64.wrap (n + xy) = nxy := by rw [← hxy, ← hnxy, ← hnx, wrap_r, wrap_l, Int.add_assoc]
  have hz : IntKind.i64.wrap (n + 0) = n := by rw [Int.add_zero]; exact wrap_id _ (by omega) (by omega)
  have r1 : wrap64 (x + y) = xy := by rw [w64_eq]; exact hxy
  have r2 : wrap64 (n + x) = nx := by rw [w64_eq]; exact hnx
  have r3 : wrap64 (nx + y) = nxy := by rw [w64_eq]; exact hnxy
  obtain ⟨s2, hs2⟩ : ∃ s2, bs (stepS t) ++ s = s2 := ⟨_, rfl⟩
  have B : ∀ {W}, Below w.heap.size w W → Seat a oa W := fun hb => hS.below hb
  have KL : Hid (∀ W, Below w.heap.size w W → Calls Tryd.prog 14 #[] W fun e w' => e = .returned (.bool true) ∧ Below W.heap.size W w') := Lib.hid fun W hb => lives_any a oa W (B hb)
  have KN : Hid (∀ W, Below w.heap.size w W → Calls Tryd.prog 15 #[.int .i64 k, .int .i64 n, .string s] W fun e w' => ∃ q, e = .returned (.iface 41 (.pointer (some ⟨q, 0, none⟩))) ∧ Hid (Holds a w' (FS k q n s)) ∧ Below W.heap.size W w') := Lib.hid fun W hb => by
    refine (New_in a k n s W (B hb).e hk0 hk1).mono ?_
    rintro e w' ⟨q, _, he, hh, hb2⟩
    exact ⟨q, he, Lib.hid hh, hb2⟩
  have K1 : Hid (∀ W p, Below w.heap.size w W → Holds a W (FS k p n s) → Calls Tryd.prog 18 #[.iface 41 (.pointer (some ⟨p, 0, none⟩)), .int .i64 x] W fun e w' => ∃ q, e = .returned (.iface 41 (.pointer (some ⟨q, 0, none⟩))) ∧ Hid (Holds a w' (FS k q nx s)) ∧ Below W.heap.size W w') := Lib.hid fun W p hb hh => hnx ▸ shift_fs a oa k p n x s W (B hb) hk0 hk1 hh
  have K2 : Hid (∀ W p, Below w.heap.size w W → Holds a W (FS k p nx s) → Calls Tryd.prog 18 #[.iface 41 (.pointer (some ⟨p, 0, none⟩)), .int .i64 y] W fun e w' => ∃ q, e = .returned (.iface 41 (.pointer (some ⟨q, 0, none⟩))) ∧ Hid (Holds a w' (FS k q nxy s)) ∧ Below W.heap.size W w') := Lib.hid fun W p hb hh => hnxy ▸ shift_fs a oa k p nx y s W (B hb) hk0 hk1 hh
  have K3 : Hid (∀ W p, Below w.heap.size w W → Holds a W (FS k p n s) → Calls Tryd.prog 18 #[.iface 41 (.pointer (some ⟨p, 0, none⟩)), .int .i64 xy] W fun e w' => ∃ q, e = .returned (.iface 41 (.pointer (some ⟨q, 0, none⟩))) ∧ Hid (Holds a w' (FS k q nxy s)) ∧ Below W.heap.size W w') := Lib.hid fun W p hb hh => hq ▸ shift_fs a oa k p n xy s W (B hb) hk0 hk1 hh
  have K4 : Hid (∀ W p, Below w.heap.size w W → Holds a W (FS k p n s) → Calls Tryd.prog 18 #[.iface 41 (.pointer (some ⟨p, 0, none⟩)), .int .i64 0] W fun e w' => ∃ q, e = .returned (.iface 41 (.pointer (some ⟨q, 0, none⟩))) ∧ Hid (Holds a w' (FS k q n s)) ∧ Below W.heap.size W w') := Lib.hid fun W p hb hh => by
    have := shift_fs a oa k p n 0 s W (B hb) hk0 hk1 hh
    rwa [hz] at this
  have K5 : Hid (∀ W p, Below w.heap.size w W → Holds a W (FS k p nxy s) → Calls Tryd.prog 19 #[.iface 41 (.pointer (some ⟨p, 0, none⟩)), .string t] W fun e w' => ∃ q, e = .returned (.iface 41 (.pointer (some ⟨q, 0, none⟩))) ∧ Hid (Holds a w' (FS k q nxy s2)) ∧ Below W.heap.size W w') := Lib.hid fun W p hb hh => hs2 ▸ in_fs a oa k p nxy s t W (B hb) hk0 hk1 hh ht (by omega)
  have K6 : Hid (∀ W p, Below w.heap.size w W → Holds a W (FS k p n s) → Calls Tryd.prog 19 #[.iface 41 (.pointer (some ⟨p, 0, none⟩)), .string t] W fun e w' => ∃ q, e = .returned (.iface 41 (.pointer (some ⟨q, 0, none⟩))) ∧ Hid (Holds a w' (FS k q n s2)) ∧ Below W.heap.size W w') := Lib.hid fun W p hb hh => hs2 ▸ in_fs a oa k p n s t W (B hb) hk0 hk1 hh ht (by omega)
  have K7 : Hid (∀ W p, Below w.heap.size w W → Holds a W (FS k p n s2) → Calls Tryd.prog 18 #[.iface 41 (.pointer (some ⟨p, 0, none⟩)), .int .i64 xy] W fun e w' => ∃ q, e = .returned (.iface 41 (.pointer (some ⟨q, 0, none⟩))) ∧ Hid (Holds a w' (FS k q nxy s2)) ∧ Below W.heap.size W w') := Lib.hid fun W p hb hh => hq ▸ shift_fs a oa k p n xy s2 W (B hb) hk0 hk1 hh
  have KS : Hid (∀ W p q n s, Below w.heap.size w W → Holds a W (FS k p n s) → Holds a W (FS k q n s) → Calls Tryd.prog 22 #[.iface 41 (.pointer (some ⟨p, 0, none⟩)), .iface 41 (.pointer (some ⟨q, 0, none⟩))] W fun e w' => e = .returned (.bool true) ∧ Below W.heap.size W w') := Lib.hid fun W p q n s hb hp hq => same_fs a k p q n s W (B hb).e hk0 hk1 hp hq
  have KA : Hid (∀ W p n s, Below w.heap.size w W → Holds a W (FS k p n s) → Calls Tryd.prog 23 #[.iface 41 (.pointer (some ⟨p, 0, none⟩))] W fun e w' => e = .returned (.tuple #[.int .i64 n, .bool true]) ∧ Below W.heap.size W w') := Lib.hid fun W p n s hb hp => at_any a (FS k p n s) W (B hb).e hp
  have HK := Lib.hid hk
  have hb0 : Below w.heap.size w (w.alloc (.cells #[.int .i64 c, .int .i64 n, .string s, .string t, .int .i64 x, .int .i64 y] 48)) := (Below.refl _ _).alloc (Nat.le_refl _) _
  have HC : Hid (∀ W, Below (w.alloc (.cells #[.int .i64 c, .int .i64 n, .string s, .string t, .int .i64 x, .int .i64 y] 48)).heap.size (w.alloc (.cells #[.int .i64 c, .int .i64 n, .string s, .string t, .int .i64 x, .int .i64 y] 48)) W → W.cell? ⟨w.heap.size, 0, none⟩ = some (.int .i64 c) ∧ W.cell? ⟨w.heap.size, 1, none⟩ = some (.int .i64 n) ∧ W.cell? ⟨w.heap.size, 2, none⟩ = some (.string s) ∧ W.cell? ⟨w.heap.size, 3, none⟩ = some (.string t) ∧ W.cell? ⟨w.heap.size, 4, none⟩ = some (.int .i64 x) ∧ W.cell? ⟨w.heap.size, 5, none⟩ = some (.int .i64 y)) := Lib.hid fun W hb =>
    ⟨keep1 hb (by simp), keep1 hb (by simp), keep1 hb (by simp), keep1 hb (by simp), keep1 hb (by simp), keep1 hb (by simp)⟩
  clear hS B hxy hnx hnxy hq hz hs2 hn0 hn1 hs ht hk
  go_enter Tryd.func6, Tryd.ntmps6
  go_upto_region 1 with fail
  show Code.wp _ _ _ _ (w.alloc (.cells #[.int .i64 c, .int .i64 n, .string s, .string t, .int .i64 x, .int .i64 y] 48))
  generalize (w.alloc (.cells #[.int .i64 c, .int .i64 n, .string s, .string t, .int .i64 x, .int .i64 y] 48)) = w0 at hb0 HC ⊢
  have H0 : Hid (∀ W, Below w0.heap.size w0 W → Below w.heap.size w W) := Lib.hid fun W hb => trans_b hb0 hb
  have l0 := KL.out w0 hb0
  clear hb0
  go_upto_region 3 with (go_at_call 14; refine l0.mono ?_; rintro e w1 ⟨rfl, hb1⟩)
  clear l0
  obtain ⟨c0, c1, c2, c3, c4, c5⟩ := HC.out w1 hb1
  rcases HK.out with ⟨hk1, hk2⟩ | ⟨hk1, hk2⟩
  all_goals
    go_upto_region 6 with fail
    clear hk1 hk2 m0 m1 HK c0
    go_cut [4, 5] (fun x4 x5 W => x4 = .int .i64 x ∧ x5 = .int .i64 y ∧ Below w0.heap.size w0 W)
    case first =>
      go_quiet (fail)
      go_wp2_with fail
      go_meet
      exact ⟨rfl, rfl, below_dn hb1 _⟩
    case rest =>
      obtain ⟨rfl, rfl, hbc⟩ := hcut
      clear c1 c2 c3 c4 c5 hb1
      obtain ⟨c0, c1, c2, c3, c4, c5⟩ := HC.out wc hbc
      have kn := KN.out wc (H0.out _ hbc)
      clear c0 c3 c4 c5
      go_upto_region 8 with (go_at_call 15; refine kn.mono ?_; rintro e w2 ⟨p, rfl, hp, hb⟩; have hb2 := trans_b hbc hb; have k1 := K1.out w2 p (H0.out _ hb2) hp.out; clear hb)
      clear c1 c2 kn hbc
      go_wp2_with fail
      go_at_call 18
      refine k1.mono ?_
      rintro e w3 ⟨p3, rfl, hp3, hb⟩
      have hb3 := trans_b hb2 hb
      have hq3 := Lib.hid (hp.out.below hb)
      have k2 := K2.out w3 p3 (H0.out _ hb3) hp3.out
      clear k1 hb hb2 hp
      go_wp2_with fail
      go_at_call 18
      refine k2.mono ?_
      rintro e w4 ⟨p4, rfl, hp4, hb⟩
      have hb4 := trans_b hb3 hb
      have hq4 := Lib.hid (hq3.out.below hb)
      have k3 := K3.out w4 p (H0.out _ hb4) hq4.out
      clear k2 hb hb3 hp3 hq3
      go_wp2_with fail
      go_at_call 18
      refine k3.mono ?_
      rintro e w5 ⟨p5, rfl, hp5, hb⟩
      have hb5 := trans_b hb4 hb
      have hq5 := Lib.hid (hq4.out.below hb)
      have ht5 := Lib.hid (hp4.out.below hb)
      have k4 := KS.out w5 p4 p5 nxy s (H0.out _ hb5) ht5.out hp5.out
      clear k3 hb hb4 hp4 hq4
      go_wp2_with fail
      go_at_call 22
      refine k4.mono ?_
      rintro e w6 ⟨rfl, hb⟩
      have hb6 := trans_b hb5 hb
      have hq6 := Lib.hid (hq5.out.below hb)
      have ht6 := Lib.hid (ht5.out.below hb)
      have k5 := K4.out w6 p (H0.out _ hb6) hq6.out
      clear k4 hb hb5 hp5 hq5 ht5
      go_wp2_with fail
      go_at_call 18
      refine k5.mono ?_
      rintro e w7 ⟨p7, rfl, hp7, hb⟩
      have hb7 := trans_b hb6 hb
      have hq7 := Lib.hid (hq6.out.below hb)
      have ht7 := Lib.hid (ht6.out.below hb)
      have k6 := KS.out w7 p7 p n s (H0.out _ hb7) hp7.out hq7.out
      clear k5 hb hb6 hq6 ht6
      go_wp2_with fail
      go_at_call 22
      refine k6.mono ?_
      rintro e w8 ⟨rfl, hb⟩
      have hb8 := trans_b hb7 hb
      have hq8 := Lib.hid (hq7.out.below hb)
      have ht8 := Lib.hid (ht7.out.below hb)
      have k7 := K5.out w8 p4 (H0.out _ hb8) ht8.out
      clear k6 hb hb7 hp7 hq7 ht7
      obtain ⟨c0, c1, c2, c3, c4, c5⟩ := HC.out w8 hb8
      clear c0 c1 c2 c4 c5
      go_wp2_with fail
      go_at_call 19
      refine k7.mono ?_
      rintro e w9 ⟨p9, rfl, hp9, hb⟩
      have hb9 := trans_b hb8 hb
      have hq9 := Lib.hid (hq8.out.below hb)
      have k8 := K6.out w9 p (H0.out _ hb9) hq9.out
      clear k7 hb hb8 hq8 ht8 c3
      obtain ⟨c0, c1, c2, c3, c4, c5⟩ := HC.out w9 hb9
      clear c0 c1 c2 c4 c5
      go_wp2_with fail
      go_at_call 19
      refine k8.mono ?_
      rintro e w10 ⟨p10, rfl, hp10, hb⟩
      have hb10 := trans_b hb9 hb
      have ht10 := Lib.hid (hp9.out.below hb)
      have k9 := K7.out w10 p10 (H0.out _ hb10) hp10.out
      clear k8 hb hb9 hp9 hq9 c3
      go_wp2_with fail
      go_at_call 18
      refine k9.mono ?_
      rintro e w11 ⟨p11, rfl, hp11, hb⟩
      have hb11 := trans_b hb10 hb
      have ht11 := Lib.hid (ht10.out.below hb)
      have k10 := KA.out w11 p9 nxy s2 (H0.out _ hb11) ht11.out
      clear k9 hb hb10 hp10 ht10
      go_wp2_with fail
      go_at_call 23
      refine k10.mono ?_
      rintro e w12 ⟨rfl, hb⟩
      have hb12 := trans_b hb11 hb
      have ht12 := Lib.hid (ht11.out.below hb)
      have hp12 := Lib.hid (hp11.out.below hb)
      have k11 := KS.out w12 p9 p11 nxy s2 (H0.out _ hb12) ht12.out hp12.out
      clear k10 hb hb11 ht11 hp11
      go_wp2_with fail
      go_at_call 22
      refine k11.mono ?_
      rintro e w13 ⟨rfl, hb⟩
      have hb13 := trans_b hb12 hb
      obtain ⟨c0, c1, c2, c3, c4, c5⟩ := HC.out w13 hb13
      clear k11 hb hb12 ht12 hp12 c0 c2 c3 c4 c5
      go_wp2
      go_ret
      exact ⟨rfl, H0.out _ hb13⟩
end Go.Proofs.YtfjgjhicinaolaaDoor
