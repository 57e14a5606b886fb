/- FaultMoves: the walk. -/
import Derived.Test.YtfjgjhicinaolaaDoorZ3
import Derived.Deep.RegionLaw
import Derived.BigRegion
namespace Go.Proofs.YtfjgjhicinaolaaDoor
open Go.RowKit Go.Extern.Stop Go.Stop Go.Extern
set_option maxRecDepth 100000
set_option linter.unusedVariables false
set_option linter.unusedSimpArgs false
set_option linter.unnecessarySimpa false

theorem code_inner (p : Nat) (n : Int) (s : ByteArray) (oa : Addr) (c : Int) (hc : c = -1 ∨ (1 ≤ c ∧ c ≤ 11)) : (ET.fault p n s (innerT oa c)).code = c := by
  unfold innerT
  by_cases h : 1 ≤ c ∧ c ≤ 11
  · rw [if_pos h, code_fs p n s c.toNat (by omega) (by omega)]; omega
  · rw [if_neg h]
    obtain rfl : c = -1 := by omega
    rfl
/-- A Fault that was made of another error, in a block of its own. -/
def Stays (a : Nat → Addr) (oa : Addr) (p : Nat) (W : World) (ps : Nat) (cd x : Int) (q : ByteArray) : Prop := ps ≠ p ∧ Holds a W (.fault ps x q (innerT oa cd))
theorem Stays.go {a : Nat → Addr} {oa : Addr} {p : Nat} {W W' : World} {ps : Nat} {cd x : Int} {q : ByteArray} (h : Stays a oa p W ps cd x q) (hS : Seat a oa W') (hb : ∀ b, b ≠ p → b < W.heap.size → W'.heap[b]? = W.heap[b]?) : Stays a oa p W' ps cd x q := by
  obtain ⟨hne, h⟩ := h
  simp only [Holds] at h
  obtain ⟨h1, h2, h3, h4⟩ := h
  have hl : ps < W.heap.size := World.block_lt_of_cell? W ⟨ps, 0, none⟩ h1
  have e := hb ps hne hl
  exact ⟨hne, cell_agree e h1, cell_agree e h2, cell_agree e h3, innerT_holds hS.h cd⟩
theorem Stays.below {a : Nat → Addr} {oa : Addr} {p : Nat} {W W' : World} {ps : Nat} {cd x : Int} {q : ByteArray} (h : Stays a oa p W ps cd x q) (hb : Below W.heap.size W W') : Stays a oa p W' ps cd x q := ⟨h.1, h.2.below hb⟩
theorem Stays.tells {a : Nat → Addr} {oa : Addr} {p : Nat} {W : World} {ps : Nat} {cd x : Int} {q : ByteArray} (h : Stays a oa p W ps cd x q) (hE : Errs a W) (hc : cd = -1 ∨ (1 ≤ cd ∧ cd ≤ 11)) :
    Calls Tryd.prog 12 #[.iface 41 (.pointer (some ⟨ps, 0, none⟩)), .int .i64 cd, .int .i64 x, .string q, .bool true] W fun e w' => e = .returned (.bool true) ∧ Below W.heap.size W w' := by
  have := tells_yes a _ W hE h.2
  rw [code_inner _ _ _ _ _ hc] at this
  exact this
theorem Stays.has {a : Nat → Addr} {oa : Addr} {p : Nat} {W : World} {ps : Nat} {cd x : Int} {q : ByteArray} (h : Stays a oa p W ps cd x q) (hE : Errs a W) (hc : cd = -1 ∨ (1 ≤ cd ∧ cd ≤ 11)) :
    Calls Tryd.prog 17 #[.iface 41 (.pointer (some ⟨ps, 0, none⟩)), .int .i64 cd, .int .i64 x, .string q, .bool true] W fun e w' => e = .returned (.bool true) ∧ Below W.heap.size W w' := by
  have := has_yes a _ W hE h.2
  rw [code_inner _ _ _ _ _ hc] at this
  exact this
/-- The tree whose Fault lies at block p. -/
def TreeAt (a : Nat → Addr) (p : Nat) (v : Value) (bd : Nat) (W : World) : Prop := ∃ T' n' q' e' cs, Holds a W T' ∧ T'.val a = v ∧ T'.as = some (.fault p n' q' e') ∧ q'.size ≤ bd ∧ W.heap[p]? = some (.cells cs 45 (0, 0))
theorem TreeAt.below {a : Nat → Addr} {p : Nat} {v : Value} {bd : Nat} {W W' : World} (h : TreeAt a p v bd W) (hb : Below W.heap.size W W') : TreeAt a p v bd W' := by
  obtain ⟨T', n', q', e', cs, h1, h2, h3, h4, h5⟩ := h
  exact ⟨T', n', q', e', cs, h1.below hb, h2, h3, h4, (hb.block p (lt_of_blk h5)).trans h5⟩
theorem sz3 {a : Nat → Addr} {w : World} {p : Nat} {n : Int} {q : ByteArray} {e : ET} {cs : Array Value} (h : Holds a w (.fault p n q e)) (hc : w.heap[p]? = some (.cells cs 45 (0, 0))) : 2 < cs.size := by
  simp only [Holds] at h
  have h3 := h.2.2.1
  rw [cell_new hc] at h3
  exact (Array.getElem?_eq_some_iff.1 h3).1
/-- Written over, whole. -/
theorem TreeAt.spoilt {a : Nat → Addr} {p : Nat} {v : Value} {bd : Nat} {W W' : World} {T' e' : ET} {n' n2 : Int} {q' q2 : ByteArray} {cs : Array Value} (h1 : Holds a W T') (h2 : T'.val a = v) (h3 : T'.as = some (.fault p n' q' e'))
    (hb : ∀ b, b ≠ p → W'.heap[b]? = W.heap[b]?) (h0 : W'.heap[p]? = some (.cells cs 45 (0, 0))) (g0 : cs[0]? = some (.iface 94 (.pointer (some (a 10))))) (g1 : cs[1]? = some (.int .i64 n2)) (g2 : cs[2]? = some (.string q2)) (hq : q2.size ≤ bd) : TreeAt a p v bd W' := by
  obtain ⟨T2, t1, t2, t3, t4⟩ := spoil a W W' p n' n2 q' q2 e' (as_holds h1 h3).1 hb ⟨_, _, h0⟩ (by rw [cell_new h0]; exact g0) (by rw [cell_new h0]; exact g1) (by rw [cell_new h0]; exact g2) _ T' (Nat.le_refl _) h1
  exact ⟨T2, n2, q2, _, cs, t1, t2.trans h2, t4 h3, hq, h0⟩
theorem atK_no {d : Option (Option (Int × ByteArray))} (h : okK d = false) : atK d = 0 ∧ pathK d = ⟨#[]⟩ := by
  cases d with
  | none => exact ⟨rfl, rfl⟩
  | some x => cases x with
    | none => exact ⟨rfl, rfl⟩
    | some y => simp [okK] at h
theorem okO_yes {d : Option ET} (h : okO d = true) : ∃ p n s e, d = some (.fault p n s e) := by
  cases d with
  | none => simp [okO] at h
  | some F => cases F <;> simp [okO] at h; exact ⟨_, _, _, _, rfl⟩
theorem Like.range {N : ND} {T : ET} (h : Like N T) (h0 : N.isN = false) : N.codeR = -1 ∨ (1 ≤ N.codeR ∧ N.codeR ≤ 11) := by
  rw [← h.code]
  rcases code_cases T with ⟨h1, _⟩ | ⟨_, h2, _⟩ | ⟨_, c, h2, h3, h4, _⟩
  · rw [h.nil.1 h1] at h0; cases h0
  · exact .inl h2
  · right; omega
theorem nn_range (N : ND) (h0 : N.isN = false) : N.codeR = -1 ∨ (1 ≤ N.codeR ∧ N.codeR ≤ 11) := by
  unfold ND.codeR
  rw [if_neg (by simp [h0]), code_has]
  rcases codeF_range N.has 11 1 (by omega) with h | ⟨c, h, h1, h2, _⟩
  · exact .inl h
  · right; omega
/-- What holds between the turns. -/
structure MovI (a : Nat → Addr) (oa : Addr) (w : World) (p : Nat) (T : ET) (ps pi : Nat) (cd tox xa : Int) (qs qi : ByteArray) (bd : Nat) (W : World) : Prop where
  b : Below w.heap.size w W
  s : Stays a oa p W ps cd tox qs
  i : Stays a oa p W pi cd xa qi
  t : TreeAt a p (T.val a) bd W
theorem MovI.below {a : Nat → Addr} {oa : Addr} {w : World} {p : Nat} {T : ET} {ps pi : Nat} {cd tox xa : Int} {qs qi : ByteArray} {bd : Nat} {W W' : World} (h : MovI a oa w p T ps pi cd tox xa qs qi bd W) (hb : Below W.heap.size W W') : MovI a oa w p T ps pi cd tox xa qs qi bd W' :=
  ⟨trans_b h.b hb, h.s.below hb, h.i.below hb, h.t.below hb⟩

set_option maxHeartbeats 4000000 in
theorem moves_nil (N : ND) (k : Int) (st : ByteArray) (w : World) (a : Nat → Addr) (oa : Addr) (hS : Seat a oa w) (hI : In w N) (hz : N.tz ≤ 1048576) (hst : st.size ≤ 1048576) (h0 : N.isN = true) :
    Calls Tryd.prog 5 #[N.agg, .int .i64 k, .string st] w fun e w' => e = .returned (.bool true) ∧ Below w.heap.size w w' := by
  have hsz : N.sz ≤ 1048576 := Nat.le_trans (sz_tz N) hz
  have hE := hS.e
  have hb0 : Below w.heap.size w (w.alloc (.cells #[.int .i64 N.k, .int .i64 N.c, .int .i64 N.n, .string N.s, N.kids] 24)) := (Below.refl _ _).alloc (Nat.le_refl _) _
  have HSW : Hid (∀ W, Below w.heap.size w W → Seat a oa W) := Lib.hid fun W hW => hS.below hW
  have H9 : Hid (∀ W, Below w.heap.size w W → ∃ b, Calls Tryd.prog 9 #[.slice (some ⟨W.heap.size, 0, none⟩) 1 1] (W.alloc (.cells #[.int .i64 N.k, .int .i64 N.c, .int .i64 N.n, .string N.s, N.kids] 24)) fun e w' => e = .returned (.bool b) ∧ Below W.heap.size W w') := Lib.hid fun W hb => by
    have hbn : Below W.heap.size W (W.alloc (.cells #[.int .i64 N.k, .int .i64 N.c, .int .i64 N.n, .string N.s, N.kids] 24)) := (Below.refl _ _).alloc (Nat.le_refl _) _
    have hn := new_at W #[.int .i64 N.k, .int .i64 N.c, .int .i64 N.n, .string N.s, N.kids] 24
    obtain ⟨b, hc⟩ := beyond_any (some ⟨W.heap.size, 0, none⟩) 1 [N] (W.alloc (.cells #[.int .i64 N.k, .int .i64 N.c, .int .i64 N.n, .string N.s, N.kids] 24)) (by simp) (by omega) (.inr ⟨W.heap.size, 0, rfl, fun i hi j u hu => by
      obtain rfl : i = 0 := by simpa using hi
      rw [cell_new hn]
      simpa [ND.cells] using hu⟩) ⟨(hI.below hb).below hbn, trivial⟩ (by simpa [ND.szL] using hsz)
    exact ⟨b, hc.mono fun e w' ⟨h1, h2⟩ => ⟨h1, trans_b hbn h2⟩⟩
  have H10 : Hid (∀ W, Below w.heap.size w W → Calls Tryd.prog 10 #[N.agg] W fun e w' => ∃ T v, e = .returned v ∧ Hid (T.val a = v ∧ Foot a w.heap.size (fun _ => False) w' T ∧ Like N T) ∧ Below W.heap.size W w') := Lib.hid fun W hb => by
    refine (build_any a _ N W (Nat.le_refl _) (by omega) (hI.below hb) (hE.below hb)).mono ?_
    rintro e w' ⟨T, h1, h2, h3, h4⟩
    exact ⟨T, _, h1, Lib.hid ⟨rfl, h2.base hb.size, h3⟩, h4⟩
  have H11 : Hid (∀ W, Below w.heap.size w W → Calls Tryd.prog 11 #[N.agg] W fun e w' => e = .returned (.tuple #[.int .i64 (atK (fndK N.fnd)), .string (pathK (fndK N.fnd)), .bool (okK (fndK N.fnd))]) ∧ Below W.heap.size W w') := Lib.hid fun W hb => of_walk N W (hI.below hb)
  have H13 : Hid (∀ W, Below w.heap.size w W → Calls Tryd.prog 13 #[N.agg] W fun e w' => e = .returned (.int .i64 N.codeR) ∧ Below W.heap.size W w') := Lib.hid fun W hb => code_walk N W (hI.below hb)
  have H14 : Hid (∀ W, Below w.heap.size w W → Calls Tryd.prog 14 #[] W fun e w' => e = .returned (.bool true) ∧ Below W.heap.size W w') := Lib.hid fun W hb => lives_any a oa W (hS.below hb)
  have HBX := Lib.hid (box_cells N w)
  have hpz : (pathK (fndK N.fnd)).size ≤ 1048576 := Nat.le_trans (pathK_tz N) hz

  have hcd : N.codeR = 0 := by unfold ND.codeR; rw [if_pos h0]
  have HNL : Hid (∀ T, Like N T → T = .nil) := Lib.hid fun T h => h.nil.2 h0
  rw [hcd] at H13
  generalize atK (fndK N.fnd) = xa at *
  generalize pathK (fndK N.fnd) = xp at *
  generalize okK (fndK N.fnd) = xo at *
  unfold ND.agg at *
  clear hI hS hE hz hsz
  unfold ND.kids at *
  generalize N.l.length = m at *
  generalize N.k = nk at *
  generalize N.c = c at *
  generalize N.n = nn at *
  generalize N.s = s at *
  generalize N.A = A at *
  generalize N.cap = cap at *
  go_enter Tryd.func5, Tryd.ntmps5
  go_upto_region 1 with fail
  show Code.wp _ _ _ _ (w.alloc (.cells #[.int .i64 nk, .int .i64 c, .int .i64 nn, .string s, .slice A m cap] 24))
  generalize (w.alloc (.cells #[.int .i64 nk, .int .i64 c, .int .i64 nn, .string s, .slice A m cap] 24)) = w0 at HBX hb0 ⊢
  have HB0 := Lib.hid hb0
  obtain ⟨c0, c1, c2, c3, c4⟩ := HBX.out w0 (Below.refl _ _)
  obtain ⟨b, h9⟩ := H9.out w0 hb0
  clear H9 hb0
  cases b with
  | true =>
    go_wp2_with (go_at_call 9; refine h9.mono ?_; rintro e w1 ⟨rfl, hb1⟩)
    go_ret
    exact ⟨rfl, trans_b HB0.out hb1⟩
  | false =>
    go_upto_region 3 with (go_at_call 9; refine h9.mono ?_; rintro e w1 ⟨rfl, hb1⟩)
    obtain ⟨d0, d1, d2, d3, d4⟩ := HBX.out w1 hb1
    clear c0 c1 c2 c3 c4 h9
    have HB1 := Lib.hid (trans_b HB0.out hb1)
    go_upto_region 4 with (go_at_call 10; refine (H10.out _ HB1.out).mono ?_; rintro e w2 ⟨T, v, rfl, HT, hb2⟩)
    clear d0 d1 d2 d3 d4
    have hq := trans_b hb1 hb2
    have hr := Below.refl w2.heap.size w2
    have HB2 := Lib.hid (trans_b HB0.out hq)
    obtain ⟨d0, d1, d2, d3, d4⟩ := HBX.out _ hq
    clear H10 HB1 hb1 hb2
    go_upto_region 6 with (first | (go_at_call 13; refine (H13.out _ (trans_b HB0.out hq)).mono ?_; rintro e w3 ⟨rfl, hb⟩; replace hq := trans_b hq hb; replace hr := trans_b hr hb; clear hb d0 d1 d2 d3 d4; obtain ⟨d0, d1, d2, d3, d4⟩ := HBX.out _ hq) | (go_at_call 11; refine (H11.out _ (trans_b HB0.out hq)).mono ?_; rintro e w3 ⟨rfl, hb⟩; replace hq := trans_b hq hb; replace hr := trans_b hr hb; clear hb d0 d1 d2 d3 d4; obtain ⟨d0, d1, d2, d3, d4⟩ := HBX.out _ hq))
    clear d0 d1 d2 d3 d4 H11 H13 HBX
    obtain ⟨hv, hF, hL⟩ := HT.out
    obtain rfl := HNL.out T hL
    simp only [ET.val] at hv
    subst hv
    have h18 := Shift_no a .nil k _ (HSW.out _ (trans_b HB0.out hq)).e trivial rfl
    simp only [ET.val] at h18
    have h19 := fun W => In_nil W st
    go_wp2_with (first | (go_at_call 18; refine h18.mono ?_; rintro e w5 ⟨rfl, hb5⟩) | (go_at_call 19; refine (h19 _).mono ?_; rintro e w6 ⟨rfl, rfl⟩) | (go_at_call 14; refine (H14.out _ (trans_b HB0.out (trans_b hq hb5))).mono ?_; rintro e w7 ⟨rfl, hb7⟩))
    go_ret
    exact ⟨rfl, trans_b HB0.out (trans_b (trans_b hq hb5) hb7)⟩

set_option maxHeartbeats 4000000 in
theorem moves_no (N : ND) (k : Int) (st : ByteArray) (w : World) (a : Nat → Addr) (oa : Addr) (hS : Seat a oa w) (hI : In w N) (hz : N.tz ≤ 1048576) (hst : st.size ≤ 1048576) (h0 : N.isN = false) (ho : okK (fndK N.fnd) = false) :
    Calls Tryd.prog 5 #[N.agg, .int .i64 k, .string st] w fun e w' => e = .returned (.bool true) ∧ Below w.heap.size w w' := by
  have hsz : N.sz ≤ 1048576 := Nat.le_trans (sz_tz N) hz
  have hE := hS.e
  have hb0 : Below w.heap.size w (w.alloc (.cells #[.int .i64 N.k, .int .i64 N.c, .int .i64 N.n, .string N.s, N.kids] 24)) := (Below.refl _ _).alloc (Nat.le_refl _) _
  have HSW : Hid (∀ W, Below w.heap.size w W → Seat a oa W) := Lib.hid fun W hW => hS.below hW
  have H9 : Hid (∀ W, Below w.heap.size w W → ∃ b, Calls Tryd.prog 9 #[.slice (some ⟨W.heap.size, 0, none⟩) 1 1] (W.alloc (.cells #[.int .i64 N.k, .int .i64 N.c, .int .i64 N.n, .string N.s, N.kids] 24)) fun e w' => e = .returned (.bool b) ∧ Below W.heap.size W w') := Lib.hid fun W hb => by
    have hbn : Below W.heap.size W (W.alloc (.cells #[.int .i64 N.k, .int .i64 N.c, .int .i64 N.n, .string N.s, N.kids] 24)) := (Below.refl _ _).alloc (Nat.le_refl _) _
    have hn := new_at W #[.int .i64 N.k, .int .i64 N.c, .int .i64 N.n, .string N.s, N.kids] 24
    obtain ⟨b, hc⟩ := beyond_any (some ⟨W.heap.size, 0, none⟩) 1 [N] (W.alloc (.cells #[.int .i64 N.k, .int .i64 N.c, .int .i64 N.n, .string N.s, N.kids] 24)) (by simp) (by omega) (.inr ⟨W.heap.size, 0, rfl, fun i hi j u hu => by
      obtain rfl : i = 0 := by simpa using hi
      rw [cell_new hn]
      simpa [ND.cells] using hu⟩) ⟨(hI.below hb).below hbn, trivial⟩ (by simpa [ND.szL] using hsz)
    exact ⟨b, hc.mono fun e w' ⟨h1, h2⟩ => ⟨h1, trans_b hbn h2⟩⟩
  have H10 : Hid (∀ W, Below w.heap.size w W → Calls Tryd.prog 10 #[N.agg] W fun e w' => ∃ T v, e = .returned v ∧ Hid (T.val a = v ∧ Foot a w.heap.size (fun _ => False) w' T ∧ Like N T) ∧ Below W.heap.size W w') := Lib.hid fun W hb => by
    refine (build_any a _ N W (Nat.le_refl _) (by omega) (hI.below hb) (hE.below hb)).mono ?_
    rintro e w' ⟨T, h1, h2, h3, h4⟩
    exact ⟨T, _, h1, Lib.hid ⟨rfl, h2.base hb.size, h3⟩, h4⟩
  have H11 : Hid (∀ W, Below w.heap.size w W → Calls Tryd.prog 11 #[N.agg] W fun e w' => e = .returned (.tuple #[.int .i64 (atK (fndK N.fnd)), .string (pathK (fndK N.fnd)), .bool (okK (fndK N.fnd))]) ∧ Below W.heap.size W w') := Lib.hid fun W hb => of_walk N W (hI.below hb)
  have H13 : Hid (∀ W, Below w.heap.size w W → Calls Tryd.prog 13 #[N.agg] W fun e w' => e = .returned (.int .i64 N.codeR) ∧ Below W.heap.size W w') := Lib.hid fun W hb => code_walk N W (hI.below hb)
  have H14 : Hid (∀ W, Below w.heap.size w W → Calls Tryd.prog 14 #[] W fun e w' => e = .returned (.bool true) ∧ Below W.heap.size W w') := Lib.hid fun W hb => lives_any a oa W (hS.below hb)
  have HBX := Lib.hid (box_cells N w)
  have hpz : (pathK (fndK N.fnd)).size ≤ 1048576 := Nat.le_trans (pathK_tz N) hz

  have hrg := nn_range N h0
  have HLK : Hid (∀ T, Like N T → T ≠ .nil ∧ T.code = N.codeR ∧ okO T.as = false ∧ atO T.as = 0 ∧ pathO T.as = ⟨#[]⟩) := Lib.hid fun T h => ⟨fun e => (by rw [h.nil.1 e] at h0; cases h0), h.code, by rw [okO_K, h.fa, ho], by rw [atO_K, h.fa]; exact (atK_no ho).1, by rw [pathO_K, h.fa]; exact (atK_no ho).2⟩
  rw [ho, (atK_no ho).1, (atK_no ho).2] at H11
  clear hpz
  generalize N.codeR = cd at *
  unfold ND.agg at *
  clear hI hS hE hz hsz
  unfold ND.kids at *
  generalize N.l.length = m at *
  generalize N.k = nk at *
  generalize N.c = c at *
  generalize N.n = nn at *
  generalize N.s = s at *
  generalize N.A = A at *
  generalize N.cap = cap at *
  have hcd0 : (cd == 0) = false := by simp; omega
  have HRG := Lib.hid hrg
  clear hrg ho
  go_enter Tryd.func5, Tryd.ntmps5
  go_upto_region 1 with fail
  show Code.wp _ _ _ _ (w.alloc (.cells #[.int .i64 nk, .int .i64 c, .int .i64 nn, .string s, .slice A m cap] 24))
  generalize (w.alloc (.cells #[.int .i64 nk, .int .i64 c, .int .i64 nn, .string s, .slice A m cap] 24)) = w0 at HBX hb0 ⊢
  have HB0 := Lib.hid hb0
  obtain ⟨c0, c1, c2, c3, c4⟩ := HBX.out w0 (Below.refl _ _)
  obtain ⟨b, h9⟩ := H9.out w0 hb0
  clear H9 hb0
  cases b with
  | true =>
    go_wp2_with (go_at_call 9; refine h9.mono ?_; rintro e w1 ⟨rfl, hb1⟩)
    go_ret
    exact ⟨rfl, trans_b HB0.out hb1⟩
  | false =>
    go_upto_region 3 with (go_at_call 9; refine h9.mono ?_; rintro e w1 ⟨rfl, hb1⟩)
    obtain ⟨d0, d1, d2, d3, d4⟩ := HBX.out w1 hb1
    clear c0 c1 c2 c3 c4 h9
    have HB1 := Lib.hid (trans_b HB0.out hb1)
    go_upto_region 4 with (go_at_call 10; refine (H10.out _ HB1.out).mono ?_; rintro e w2 ⟨T, v, rfl, HT, hb2⟩)
    clear d0 d1 d2 d3 d4
    have hq := trans_b hb1 hb2
    have hr := Below.refl w2.heap.size w2
    have HB2 := Lib.hid (trans_b HB0.out hq)
    obtain ⟨d0, d1, d2, d3, d4⟩ := HBX.out _ hq
    clear H10 HB1 hb1 hb2
    go_upto_region 6 with (first | (go_at_call 13; refine (H13.out _ (trans_b HB0.out hq)).mono ?_; rintro e w3 ⟨rfl, hb⟩; replace hq := trans_b hq hb; replace hr := trans_b hr hb; clear hb d0 d1 d2 d3 d4; obtain ⟨d0, d1, d2, d3, d4⟩ := HBX.out _ hq) | (go_at_call 11; refine (H11.out _ (trans_b HB0.out hq)).mono ?_; rintro e w3 ⟨rfl, hb⟩; replace hq := trans_b hq hb; replace hr := trans_b hr hb; clear hb d0 d1 d2 d3 d4; obtain ⟨d0, d1, d2, d3, d4⟩ := HBX.out _ hq))
    clear d0 d1 d2 d3 d4 H11 H13 HBX
    obtain ⟨hv, hF, hL⟩ := HT.out
    obtain ⟨t1, t2, t3, t4, t5⟩ := HLK.out T hL
    obtain ⟨tT, uT, hv2⟩ := val_nil a T t1
    have hvv : v = .iface tT uT := hv.symm.trans hv2
    subst hvv
    have HTT : Hid (∀ W, Below w2.heap.size w2 W → Holds a W T) := Lib.hid fun W hW => (hF.below hW).holds
    have h18 := Shift_no a T k _ (HSW.out _ (trans_b HB0.out hq)).e (HTT.out _ hr) t3
    have HIN : Hid (∀ W, Below w2.heap.size w2 W → Calls Tryd.prog 19 #[.iface tT uT, .string st] W fun e w' => ∃ pi, e = .returned (.iface 41 (.pointer (some ⟨pi, 0, none⟩))) ∧ Hid (Stays a oa (pi + 1) w' pi cd 0 (bs (stepS st))) ∧ Below W.heap.size W w') := Lib.hid fun W hW => by
      have := In_any a oa T st W (HSW.out _ (trans_b HB2.out hW)) (HTT.out _ hW) t1 (by omega) (by rw [t5]; exact Nat.zero_le _)
      rw [t2, t4, t5] at this
      rw [← hv2]
      refine this.mono ?_
      rintro e w' ⟨q, h1, h2, h3, h4⟩
      have e0 : bs (stepS st) ++ (⟨#[]⟩ : ByteArray) = bs (stepS st) := by
        have : (⟨#[]⟩ : ByteArray) = bs [] := rfl
        rw [this, bs_append, List.append_nil]
      rw [e0] at h3
      exact ⟨q, h2, Lib.hid ⟨by omega, h3⟩, h4⟩
    have HE12 : Hid (∀ W, Below w2.heap.size w2 W → Calls Tryd.prog 12 #[.iface tT uT, .int .i64 cd, .int .i64 0, .string ⟨#[]⟩, .bool false] W fun e w' => e = .returned (.bool true) ∧ Below W.heap.size W w') := Lib.hid fun W hW => by
      have := tells_yes a T W (HSW.out _ (trans_b HB2.out hW)).e (HTT.out _ hW)
      rwa [t2, t3, t4, t5, hv2] at this
    have HE17 : Hid (∀ W, Below w2.heap.size w2 W → Calls Tryd.prog 17 #[.iface tT uT, .int .i64 cd, .int .i64 0, .string ⟨#[]⟩, .bool false] W fun e w' => e = .returned (.bool true) ∧ Below W.heap.size W w') := Lib.hid fun W hW => by
      have := has_yes a T W (HSW.out _ (trans_b HB2.out hW)).e (HTT.out _ hW)
      rwa [t2, t3, t4, t5, hv2] at this
    have HAS : Hid (∀ W, Below w2.heap.size w2 W → Calls Tryd.prog 21 #[.iface tT uT, .iface 43 (.pointer (some ⟨W.heap.size, 0, none⟩))] (W.alloc (.cells #[.pointer none] 41)) fun e w' => e = .returned (.bool T.as.isSome) ∧ w'.cell? ⟨W.heap.size, 0, none⟩ = some (.pointer none) ∧ Below W.heap.size W w') := Lib.hid fun W hW => by
      have := As_my a T W (HSW.out _ (trans_b HB2.out hW)).e (HTT.out _ hW)
      have hp : ptrO T.as = .pointer none := by
        cases hd : T.as with
        | none => rfl
        | some F =>
          obtain ⟨_, rfl | ⟨p, n, s, e, rfl⟩⟩ := as_holds (HTT.out _ hW) hd
          · rfl
          · rw [hd] at t3; simp [okO] at t3
      rw [hv2] at this
      refine this.mono ?_
      rintro e w' ⟨h1, h2, h3⟩
      exact ⟨h1, by rw [h2, hp], h3⟩
    have H20 : Hid (∀ W : World, Calls Tryd.prog 20 #[.string st] W fun e w' => e = .returned (.string (bs (stepS st))) ∧ Below W.heap.size W w') := Lib.hid fun W => step_doc st W (by omega)
    have hqz : (bs (stepS st)).size + (⟨#[]⟩ : ByteArray).size ≤ 9223372036854775807 := by
      rw [bs_size]
      have h1 := esc_len st.data.toList
      rw [size_list] at h1
      simp only [stepS, List.length_cons]
      show _ + 0 ≤ _
      omega
    have HQE : Hid (bs (stepS st) ++ (⟨#[]⟩ : ByteArray) = bs (stepS st)) := Lib.hid (by
      have : (⟨#[]⟩ : ByteArray) = bs [] := rfl
      rw [this, bs_append, List.append_nil])
    rw [hv2] at h18
    have H14b : Hid (∀ W, Below w2.heap.size w2 W → Calls Tryd.prog 14 #[] W fun e w' => e = .returned (.bool true) ∧ Below W.heap.size W w') := Lib.hid fun W hb => H14.out W (trans_b HB2.out hb)
    have HSE : Hid (∀ W, Below w2.heap.size w2 W → Errs a W) := Lib.hid fun W hW => (HSW.out _ (trans_b HB2.out hW)).e
    clear hv hF hL t1 t2 t3 t4 t5 hv2 HT HTT HLK hq H14 hst HSW
    generalize bs (stepS st) = qi at HIN H20 hqz HQE
    generalize T.as.isSome = bA at HAS
    go_upto_region 14 with (first | (go_at_call 18; refine h18.mono ?_; rintro e w5 ⟨rfl, hb⟩; replace hr := trans_b hr hb; clear hb) | (go_at_call 19; refine (HIN.out _ hr).mono ?_; rintro e w6 ⟨pi, rfl, HST, hb⟩; have hr6 := Lib.hid (trans_b hr hb); clear hb))
    have HI12 : Hid (∀ W, Below w6.heap.size w6 W → Calls Tryd.prog 12 #[.iface 41 (.pointer (some ⟨pi, 0, none⟩)), .int .i64 cd, .int .i64 0, .string (qi ++ ⟨#[]⟩), .bool true] W fun e w' => e = .returned (.bool true) ∧ Below W.heap.size W w') := Lib.hid fun W hW => by rw [HQE.out]; exact (HST.out.below hW).tells (HSE.out _ (trans_b hr6.out hW)) HRG.out
    have HI17 : Hid (∀ W, Below w6.heap.size w6 W → Calls Tryd.prog 17 #[.iface 41 (.pointer (some ⟨pi, 0, none⟩)), .int .i64 cd, .int .i64 0, .string (qi ++ ⟨#[]⟩), .bool true] W fun e w' => e = .returned (.bool true) ∧ Below W.heap.size W w') := Lib.hid fun W hW => by rw [HQE.out]; exact (HST.out.below hW).has (HSE.out _ (trans_b hr6.out hW)) HRG.out
    clear h18 hr HIN

    go_loopw [15] (fun i W => ∃ z : Int, i = .int .i64 z ∧ (z = 0 ∨ z = 1 ∨ z = 2) ∧ Hid (Below w6.heap.size w6 W)) (fun i _ => 2 - (intOf i).toNat)
    case atStart => exact ⟨0, rfl, .inl rfl, Lib.hid (Below.refl _ _)⟩
    case round =>
      obtain ⟨z, rfl, hz, HW⟩ := hrel
      rcases hz with rfl | rfl | rfl
      · have hX := HW.out
        clear HW
        cases bA with
        | true =>
          go_wp2_with (first | (go_at_call 12; with_reducible refine (HI12.out _ hX).mono ?_; rintro e wz ⟨rfl, hb⟩; replace hX := trans_b hX hb; clear hb) | (go_at_call 17; with_reducible refine (HI17.out _ hX).mono ?_; rintro e wz ⟨rfl, hb⟩; replace hX := trans_b hX hb; clear hb) | (go_at_call 12; with_reducible refine (HE12.out _ (trans_b hr6.out hX)).mono ?_; rintro e wz ⟨rfl, hb⟩; replace hX := trans_b hX hb; clear hb) | (go_at_call 17; with_reducible refine (HE17.out _ (trans_b hr6.out hX)).mono ?_; rintro e wz ⟨rfl, hb⟩; replace hX := trans_b hX hb; clear hb) | (go_at_call 20; with_reducible refine (H20.out _).mono ?_; rintro e wz ⟨rfl, hb⟩; replace hX := trans_b hX hb; clear hb) | (go_at_call 21; refine (HAS.out _ (trans_b hr6.out hX)).mono ?_; rintro e wz ⟨rfl, hcz, hb⟩; replace hX := trans_b hX hb; clear hb))
          have HW := Lib.hid hX
          go_roundw
          case rel => exact ⟨1, rfl, .inr (.inl rfl), HW⟩
          case measure => decide
        | false =>
          go_wp2_with (first | (go_at_call 12; with_reducible refine (HI12.out _ hX).mono ?_; rintro e wz ⟨rfl, hb⟩; replace hX := trans_b hX hb; clear hb) | (go_at_call 17; with_reducible refine (HI17.out _ hX).mono ?_; rintro e wz ⟨rfl, hb⟩; replace hX := trans_b hX hb; clear hb) | (go_at_call 12; with_reducible refine (HE12.out _ (trans_b hr6.out hX)).mono ?_; rintro e wz ⟨rfl, hb⟩; replace hX := trans_b hX hb; clear hb) | (go_at_call 17; with_reducible refine (HE17.out _ (trans_b hr6.out hX)).mono ?_; rintro e wz ⟨rfl, hb⟩; replace hX := trans_b hX hb; clear hb) | (go_at_call 20; with_reducible refine (H20.out _).mono ?_; rintro e wz ⟨rfl, hb⟩; replace hX := trans_b hX hb; clear hb) | (go_at_call 21; refine (HAS.out _ (trans_b hr6.out hX)).mono ?_; rintro e wz ⟨rfl, hcz, hb⟩; replace hX := trans_b hX hb; clear hb))
          have HW := Lib.hid hX
          go_roundw
          case rel => exact ⟨1, rfl, .inr (.inl rfl), HW⟩
          case measure => decide
      · have hX := HW.out
        clear HW
        cases bA with
        | true =>
          go_wp2_with (first | (go_at_call 12; with_reducible refine (HI12.out _ hX).mono ?_; rintro e wz ⟨rfl, hb⟩; replace hX := trans_b hX hb; clear hb) | (go_at_call 17; with_reducible refine (HI17.out _ hX).mono ?_; rintro e wz ⟨rfl, hb⟩; replace hX := trans_b hX hb; clear hb) | (go_at_call 12; with_reducible refine (HE12.out _ (trans_b hr6.out hX)).mono ?_; rintro e wz ⟨rfl, hb⟩; replace hX := trans_b hX hb; clear hb) | (go_at_call 17; with_reducible refine (HE17.out _ (trans_b hr6.out hX)).mono ?_; rintro e wz ⟨rfl, hb⟩; replace hX := trans_b hX hb; clear hb) | (go_at_call 20; with_reducible refine (H20.out _).mono ?_; rintro e wz ⟨rfl, hb⟩; replace hX := trans_b hX hb; clear hb) | (go_at_call 21; refine (HAS.out _ (trans_b hr6.out hX)).mono ?_; rintro e wz ⟨rfl, hcz, hb⟩; replace hX := trans_b hX hb; clear hb))
          have HW := Lib.hid hX
          go_roundw
          case rel => exact ⟨2, rfl, .inr (.inr rfl), HW⟩
          case measure => decide
        | false =>
          go_wp2_with (first | (go_at_call 12; with_reducible refine (HI12.out _ hX).mono ?_; rintro e wz ⟨rfl, hb⟩; replace hX := trans_b hX hb; clear hb) | (go_at_call 17; with_reducible refine (HI17.out _ hX).mono ?_; rintro e wz ⟨rfl, hb⟩; replace hX := trans_b hX hb; clear hb) | (go_at_call 12; with_reducible refine (HE12.out _ (trans_b hr6.out hX)).mono ?_; rintro e wz ⟨rfl, hb⟩; replace hX := trans_b hX hb; clear hb) | (go_at_call 17; with_reducible refine (HE17.out _ (trans_b hr6.out hX)).mono ?_; rintro e wz ⟨rfl, hb⟩; replace hX := trans_b hX hb; clear hb) | (go_at_call 20; with_reducible refine (H20.out _).mono ?_; rintro e wz ⟨rfl, hb⟩; replace hX := trans_b hX hb; clear hb) | (go_at_call 21; refine (HAS.out _ (trans_b hr6.out hX)).mono ?_; rintro e wz ⟨rfl, hcz, hb⟩; replace hX := trans_b hX hb; clear hb))
          have HW := Lib.hid hX
          go_roundw
          case rel => exact ⟨2, rfl, .inr (.inr rfl), HW⟩
          case measure => decide
      · have hX := HW.out
        go_wp2_with (go_at_call 14; refine (H14b.out _ (trans_b hr6.out hX)).mono ?_; rintro e wz ⟨rfl, hb⟩; replace hX := trans_b hX hb; clear hb)
        go_ret
        exact ⟨rfl, trans_b HB2.out (trans_b hr6.out hX)⟩

theorem set3 {cs : Array Value} (h : 2 < cs.size) (x0 x1 x2 : Value) : (((cs.setIfInBounds 1 x1).setIfInBounds 2 x2).setIfInBounds 0 x0)[0]? = some x0 ∧ (((cs.setIfInBounds 1 x1).setIfInBounds 2 x2).setIfInBounds 0 x0)[1]? = some x1 ∧ (((cs.setIfInBounds 1 x1).setIfInBounds 2 x2).setIfInBounds 0 x0)[2]? = some x2 := by
  have h1 : 0 < cs.size := by omega
  have h2 : 1 < cs.size := by omega
  refine ⟨?_, ?_, ?_⟩ <;> simp [Array.getElem?_setIfInBounds, h, h1, h2]
theorem w64_moves (x : Int) : wrap64 x = IntKind.i64.wrap x := by
  unfold IntKind.wrap wrap64
  simp [IntKind.signed, IntKind.bits]
  split <;> omega
set_option maxHeartbeats 4000000 in
theorem moves_yes (N : ND) (k : Int) (st : ByteArray) (w : World) (a : Nat → Addr) (oa : Addr) (hS : Seat a oa w) (hI : In w N) (hz : N.tz ≤ 1048576) (hst : st.size ≤ 1048576) (h0 : N.isN = false) (ho : okK (fndK N.fnd) = true) :
    Calls Tryd.prog 5 #[N.agg, .int .i64 k, .string st] w fun e w' => e = .returned (.bool true) ∧ Below w.heap.size w w' := by
  have hsz : N.sz ≤ 1048576 := Nat.le_trans (sz_tz N) hz
  have hE := hS.e
  have hb0 : Below w.heap.size w (w.alloc (.cells #[.int .i64 N.k, .int .i64 N.c, .int .i64 N.n, .string N.s, N.kids] 24)) := (Below.refl _ _).alloc (Nat.le_refl _) _
  have HSW : Hid (∀ W, Below w.heap.size w W → Seat a oa W) := Lib.hid fun W hW => hS.below hW
  have H9 : Hid (∀ W, Below w.heap.size w W → ∃ b, Calls Tryd.prog 9 #[.slice (some ⟨W.heap.size, 0, none⟩) 1 1] (W.alloc (.cells #[.int .i64 N.k, .int .i64 N.c, .int .i64 N.n, .string N.s, N.kids] 24)) fun e w' => e = .returned (.bool b) ∧ Below W.heap.size W w') := Lib.hid fun W hb => by
    have hbn : Below W.heap.size W (W.alloc (.cells #[.int .i64 N.k, .int .i64 N.c, .int .i64 N.n, .string N.s, N.kids] 24)) := (Below.refl _ _).alloc (Nat.le_refl _) _
    have hn := new_at W #[.int .i64 N.k, .int .i64 N.c, .int .i64 N.n, .string N.s, N.kids] 24
    obtain ⟨b, hc⟩ := beyond_any (some ⟨W.heap.size, 0, none⟩) 1 [N] (W.alloc (.cells #[.int .i64 N.k, .int .i64 N.c, .int .i64 N.n, .string N.s, N.kids] 24)) (by simp) (by omega) (.inr ⟨W.heap.size, 0, rfl, fun i hi j u hu => by
      obtain rfl : i = 0 := by simpa using hi
      rw [cell_new hn]
      simpa [ND.cells] using hu⟩) ⟨(hI.below hb).below hbn, trivial⟩ (by simpa [ND.szL] using hsz)
    exact ⟨b, hc.mono fun e w' ⟨h1, h2⟩ => ⟨h1, trans_b hbn h2⟩⟩
  have H10 : Hid (∀ W, Below w.heap.size w W → Calls Tryd.prog 10 #[N.agg] W fun e w' => ∃ T v, e = .returned v ∧ Hid (T.val a = v ∧ Foot a w.heap.size (fun _ => False) w' T ∧ Like N T) ∧ Below W.heap.size W w') := Lib.hid fun W hb => by
    refine (build_any a _ N W (Nat.le_refl _) (by omega) (hI.below hb) (hE.below hb)).mono ?_
    rintro e w' ⟨T, h1, h2, h3, h4⟩
    exact ⟨T, _, h1, Lib.hid ⟨rfl, h2.base hb.size, h3⟩, h4⟩
  have H11 : Hid (∀ W, Below w.heap.size w W → Calls Tryd.prog 11 #[N.agg] W fun e w' => e = .returned (.tuple #[.int .i64 (atK (fndK N.fnd)), .string (pathK (fndK N.fnd)), .bool (okK (fndK N.fnd))]) ∧ Below W.heap.size W w') := Lib.hid fun W hb => of_walk N W (hI.below hb)
  have H13 : Hid (∀ W, Below w.heap.size w W → Calls Tryd.prog 13 #[N.agg] W fun e w' => e = .returned (.int .i64 N.codeR) ∧ Below W.heap.size W w') := Lib.hid fun W hb => code_walk N W (hI.below hb)
  have H14 : Hid (∀ W, Below w.heap.size w W → Calls Tryd.prog 14 #[] W fun e w' => e = .returned (.bool true) ∧ Below W.heap.size W w') := Lib.hid fun W hb => lives_any a oa W (hS.below hb)
  have HBX := Lib.hid (box_cells N w)
  have hpz : (pathK (fndK N.fnd)).size ≤ 1048576 := Nat.le_trans (pathK_tz N) hz

  have hrg := nn_range N h0
  have HLK : Hid (∀ T, Like N T → T ≠ .nil ∧ T.code = N.codeR ∧ okO T.as = true ∧ atO T.as = atK (fndK N.fnd) ∧ pathO T.as = pathK (fndK N.fnd)) := Lib.hid fun T h => ⟨fun e => (by rw [h.nil.1 e] at h0; cases h0), h.code, by rw [okO_K, h.fa, ho], by rw [atO_K, h.fa], by rw [pathO_K, h.fa]⟩
  rw [ho] at H11
  clear ho
  generalize N.codeR = cd at *
  generalize atK (fndK N.fnd) = xa at *
  generalize pathK (fndK N.fnd) = xp at *
  unfold ND.agg at *
  clear hI hS hE hz hsz
  unfold ND.kids at *
  generalize N.l.length = m at *
  generalize N.k = nk at *
  generalize N.c = c at *
  generalize N.n = nn at *
  generalize N.s = s at *
  generalize N.A = A at *
  generalize N.cap = cap at *
  have hcd0 : (cd == 0) = false := by simp; omega
  have HRG := Lib.hid hrg
  have hw0 : 0 < w.heap.size := World.block_lt_of_cell? w _ ((HSW.out w (Below.refl _ _)).e.g 10 (by omega) (by omega))
  clear hrg
  go_enter Tryd.func5, Tryd.ntmps5
  go_upto_region 1 with fail
  show Code.wp _ _ _ _ (w.alloc (.cells #[.int .i64 nk, .int .i64 c, .int .i64 nn, .string s, .slice A m cap] 24))
  generalize (w.alloc (.cells #[.int .i64 nk, .int .i64 c, .int .i64 nn, .string s, .slice A m cap] 24)) = w0 at HBX hb0 ⊢
  have HB0 := Lib.hid hb0
  obtain ⟨c0, c1, c2, c3, c4⟩ := HBX.out w0 (Below.refl _ _)
  obtain ⟨b, h9⟩ := H9.out w0 hb0
  clear H9 hb0
  cases b with
  | true =>
    go_wp2_with (go_at_call 9; refine h9.mono ?_; rintro e w1 ⟨rfl, hb1⟩)
    go_ret
    exact ⟨rfl, trans_b HB0.out hb1⟩
  | false =>
    go_upto_region 3 with (go_at_call 9; refine h9.mono ?_; rintro e w1 ⟨rfl, hb1⟩)
    obtain ⟨d0, d1, d2, d3, d4⟩ := HBX.out w1 hb1
    clear c0 c1 c2 c3 c4 h9
    have HB1 := Lib.hid (trans_b HB0.out hb1)
    go_upto_region 4 with (go_at_call 10; refine (H10.out _ HB1.out).mono ?_; rintro e w2 ⟨T, v, rfl, HT, hb2⟩)
    clear d0 d1 d2 d3 d4
    have hq := trans_b hb1 hb2
    have hr := Below.refl w2.heap.size w2
    have HB2 := Lib.hid (trans_b HB0.out hq)
    obtain ⟨d0, d1, d2, d3, d4⟩ := HBX.out _ hq
    clear H10 HB1 hb1 hb2
    go_upto_region 6 with (first | (go_at_call 13; refine (H13.out _ (trans_b HB0.out hq)).mono ?_; rintro e w3 ⟨rfl, hb⟩; replace hq := trans_b hq hb; replace hr := trans_b hr hb; clear hb d0 d1 d2 d3 d4; obtain ⟨d0, d1, d2, d3, d4⟩ := HBX.out _ hq) | (go_at_call 11; refine (H11.out _ (trans_b HB0.out hq)).mono ?_; rintro e w3 ⟨rfl, hb⟩; replace hq := trans_b hq hb; replace hr := trans_b hr hb; clear hb d0 d1 d2 d3 d4; obtain ⟨d0, d1, d2, d3, d4⟩ := HBX.out _ hq))
    clear d0 d1 d2 d3 d4 H11 H13 HBX
    obtain ⟨hv, hF, hL⟩ := HT.out
    obtain ⟨t1, t2, t3, t4, t5⟩ := HLK.out T hL
    obtain ⟨p, n0, s0, e0, hd⟩ := okO_yes t3
    have hpw := foot_base hF hd
    obtain ⟨cs0, hblk0⟩ := hF.plain p n0 s0 e0 hd
    have hpl0 : p < w2.heap.size := lt_of_blk hblk0
    have hs0 : s0 = xp := by rw [hd] at t5; exact t5
    obtain ⟨tT, uT, hv2⟩ := val_nil a T t1
    have hvv : v = .iface tT uT := hv.symm.trans hv2
    subst hvv
    have HTT : Hid (∀ W, Below w2.heap.size w2 W → Holds a W T) := Lib.hid fun W hW => (hF.below hW).holds
    have HSE : Hid (∀ W, Below w2.heap.size w2 W → Seat a oa W) := Lib.hid fun W hW => HSW.out _ (trans_b HB2.out hW)
    have H18 : Hid (∀ W, Below w2.heap.size w2 W → Calls Tryd.prog 18 #[.iface tT uT, .int .i64 k] W fun e w' => ∃ ps, e = .returned (.iface 41 (.pointer (some ⟨ps, 0, none⟩))) ∧ Hid (Stays a oa p w' ps cd (wrap64 (xa + k)) xp) ∧ Below W.heap.size W w') := Lib.hid fun W hW => by
      have := Shift_yes a oa T k W (HSE.out _ hW) (HTT.out _ hW) t3
      rw [t2, t4, t5, ← w64_moves] at this
      rw [← hv2]
      refine this.mono ?_
      rintro e w' ⟨q, h1, h2, h3, h4⟩
      have := hW.size
      exact ⟨q, h2, Lib.hid ⟨by omega, h3⟩, h4⟩
    have HIN : Hid (∀ W, Below w2.heap.size w2 W → Calls Tryd.prog 19 #[.iface tT uT, .string st] W fun e w' => ∃ pi, e = .returned (.iface 41 (.pointer (some ⟨pi, 0, none⟩))) ∧ Hid (Stays a oa p w' pi cd xa (bs (stepS st) ++ xp)) ∧ Below W.heap.size W w') := Lib.hid fun W hW => by
      have := In_any a oa T st W (HSE.out _ hW) (HTT.out _ hW) t1 (by omega) (by rw [t5]; omega)
      rw [t2, t4, t5] at this
      rw [← hv2]
      refine this.mono ?_
      rintro e w' ⟨q, h1, h2, h3, h4⟩
      have := hW.size
      exact ⟨q, h2, Lib.hid ⟨by omega, h3⟩, h4⟩
    have H20 : Hid (∀ W : World, Calls Tryd.prog 20 #[.string st] W fun e w' => e = .returned (.string (bs (stepS st))) ∧ Below W.heap.size W w') := Lib.hid fun W => step_doc st W (by omega)
    have hqz : (bs (stepS st)).size + xp.size ≤ 9223372036854775807 := by
      rw [bs_size]
      have h1 := esc_len st.data.toList
      rw [size_list] at h1
      simp only [stepS, List.length_cons]
      omega
    have H14b : Hid (∀ W, Below w2.heap.size w2 W → Calls Tryd.prog 14 #[] W fun e w' => e = .returned (.bool true) ∧ Below W.heap.size W w') := Lib.hid fun W hb => H14.out W (trans_b HB2.out hb)
    have HE12 : Hid (∀ W, Seat a oa W → Holds a W T → Calls Tryd.prog 12 #[.iface tT uT, .int .i64 cd, .int .i64 xa, .string xp, .bool true] W fun e w' => e = .returned (.bool true) ∧ Below W.heap.size W w') := Lib.hid fun W hW hT => by
      have := tells_yes a T W hW.e hT
      rwa [t2, t3, t4, t5, hv2] at this
    have HTR : Hid (TreeAt a p (.iface tT uT) 1048576 w2) := Lib.hid ⟨T, n0, s0, e0, cs0, HTT.out _ (Below.refl _ _), hv2, hd, by rw [hs0]; exact hpz, hblk0⟩
    clear hv hF hL t1 t2 t3 t4 t5 hv2 HT HLK hq H14 hst hs0 hpz hd hblk0
    generalize bs (stepS st) = q0 at HIN H20 hqz
    go_upto_region 14 with (first | (go_at_call 18; refine (H18.out _ hr).mono ?_; rintro e w5 ⟨ps, rfl, HSS, hb⟩; replace hr := trans_b hr hb; have HB5 := Lib.hid hb; clear hb) | (go_at_call 19; refine (HIN.out _ hr).mono ?_; rintro e w6 ⟨pi, rfl, HST, hb⟩; have hr6 := Lib.hid (trans_b hr hb); have HB6 := Lib.hid hb; clear hb))
    clear hr HIN H18
    have hpl6 : p < w6.heap.size := Nat.lt_of_lt_of_le hpl0 hr6.out.size
    have HM0 : Hid (Below w.heap.size w w6 ∧ Stays a oa p w6 ps cd (wrap64 (xa + k)) xp ∧ Stays a oa p w6 pi cd xa (q0 ++ xp) ∧ TreeAt a p (.iface tT uT) 1048576 w6) := Lib.hid ⟨trans_b HB2.out hr6.out, HSS.out.below HB6.out, HST.out, HTR.out.below hr6.out⟩
    have HT0 : Hid ((0 : Int) = 0 → Holds a w6 T) := Lib.hid fun _ => HTT.out _ hr6.out
    clear HTT HTR
    go_loopw [15] (fun i W => ∃ z : Int, i = .int .i64 z ∧ (z = 0 ∨ z = 1 ∨ z = 2) ∧ Hid (w6.heap.size ≤ W.heap.size ∧ Below w.heap.size w W ∧ Stays a oa p W ps cd (wrap64 (xa + k)) xp ∧ Stays a oa p W pi cd xa (q0 ++ xp) ∧ TreeAt a p (.iface tT uT) (1048576 + 7 * z.toNat) W) ∧ Hid (z = 0 → Holds a W T)) (fun i _ => 2 - (intOf i).toNat)
    case atStart => exact ⟨0, rfl, .inl rfl, Lib.hid ⟨Nat.le_refl _, HM0.out⟩, HT0⟩
    case round =>
      clear HM0 HT0
      obtain ⟨z, rfl, hz, HM, HT0⟩ := hrel
      rcases hz with rfl | rfl | rfl
      · obtain ⟨hsz6, hBw, hSs, hSi, hTr⟩ := HM.out
        obtain ⟨T', n', q', e', cs, u1, u2, u3, u4, u5⟩ := hTr
        have hpl : p < wr.heap.size := Nat.lt_of_lt_of_le hpl6 hsz6
        have HBW := Lib.hid hBw
        have HSZ6 := Lib.hid hsz6
        have HSS2 := Lib.hid hSs
        have HSI2 := Lib.hid hSi
        have HSW2 : Hid (∀ W, Below wr.heap.size wr W → Seat a oa W) := Lib.hid fun W hW => HSW.out _ (trans_b HBW.out hW)
        have HS12 : Hid (∀ W, Below wr.heap.size wr W → Calls Tryd.prog 12 #[.iface 41 (.pointer (some ⟨ps, 0, none⟩)), .int .i64 cd, .int .i64 (wrap64 (xa + k)), .string xp, .bool true] W fun e w' => e = .returned (.bool true) ∧ Below W.heap.size W w') := Lib.hid fun W hW => (HSS2.out.below hW).tells (HSW2.out _ hW).e HRG.out
        have HS17 : Hid (∀ W, Below wr.heap.size wr W → Calls Tryd.prog 17 #[.iface 41 (.pointer (some ⟨ps, 0, none⟩)), .int .i64 cd, .int .i64 (wrap64 (xa + k)), .string xp, .bool true] W fun e w' => e = .returned (.bool true) ∧ Below W.heap.size W w') := Lib.hid fun W hW => (HSS2.out.below hW).has (HSW2.out _ hW).e HRG.out
        have HI12 : Hid (∀ W, Below wr.heap.size wr W → Calls Tryd.prog 12 #[.iface 41 (.pointer (some ⟨pi, 0, none⟩)), .int .i64 cd, .int .i64 xa, .string (q0 ++ xp), .bool true] W fun e w' => e = .returned (.bool true) ∧ Below W.heap.size W w') := Lib.hid fun W hW => (HSI2.out.below hW).tells (HSW2.out _ hW).e HRG.out
        have HI17 : Hid (∀ W, Below wr.heap.size wr W → Calls Tryd.prog 17 #[.iface 41 (.pointer (some ⟨pi, 0, none⟩)), .int .i64 cd, .int .i64 xa, .string (q0 ++ xp), .bool true] W fun e w' => e = .returned (.bool true) ∧ Below W.heap.size W w') := Lib.hid fun W hW => (HSI2.out.below hW).has (HSW2.out _ hW).e HRG.out
        have HE : Hid (∀ W, Below wr.heap.size wr W → Calls Tryd.prog 12 #[.iface tT uT, .int .i64 cd, .int .i64 xa, .string xp, .bool true] W fun e w' => e = .returned (.bool true) ∧ Below W.heap.size W w') := Lib.hid fun W hW => HE12.out W (HSW2.out _ hW) ((HT0.out rfl).below hW)
        have HAS : Hid (∀ W, Below wr.heap.size wr W → Calls Tryd.prog 21 #[.iface tT uT, .iface 43 (.pointer (some ⟨W.heap.size, 0, none⟩))] (W.alloc (.cells #[.pointer none] 41)) fun e w' => e = .returned (.bool true) ∧ w'.cell? ⟨W.heap.size, 0, none⟩ = some (.pointer (some ⟨p, 0, none⟩)) ∧ Below W.heap.size W w') := Lib.hid fun W hW => by
          have := As_my a T' W (HSW2.out _ hW).e (u1.below hW)
          rw [u2, u3] at this
          exact this
        have HU1 := Lib.hid u1
        have HU2 := Lib.hid u2
        have HU3 := Lib.hid u3
        have HU5 := Lib.hid u5
        have u6 : q'.size ≤ 1048576 := by simpa using u4
        have hqs : q'.size + 7 ≤ 9223372036854775807 := by omega
        have HU6 := Lib.hid u6
        have hX := Below.refl wr.heap.size wr
        clear hsz6 hBw hSs hSi HM HT0 u1 u2 u3 u4 u5 u6
        go_upto_region 22 with (first | (go_at_call 12; with_reducible refine (HI12.out _ hX).mono ?_; rintro e wz ⟨rfl, hb⟩; replace hX := trans_b hX hb; clear hb) | (go_at_call 17; with_reducible refine (HI17.out _ hX).mono ?_; rintro e wz ⟨rfl, hb⟩; replace hX := trans_b hX hb; clear hb) | (go_at_call 12; with_reducible refine (HS12.out _ hX).mono ?_; rintro e wz ⟨rfl, hb⟩; replace hX := trans_b hX hb; clear hb) | (go_at_call 17; with_reducible refine (HS17.out _ hX).mono ?_; rintro e wz ⟨rfl, hb⟩; replace hX := trans_b hX hb; clear hb) | (go_at_call 12; with_reducible refine (HE.out _ hX).mono ?_; rintro e wz ⟨rfl, hb⟩; replace hX := trans_b hX hb; clear hb) | (go_at_call 20; with_reducible refine (H20.out _).mono ?_; rintro e wz ⟨rfl, hb⟩; replace hX := trans_b hX hb; clear hb) | (go_at_call 21; refine (HAS.out _ hX).mono ?_; rintro e wf ⟨rfl, hcz, hb⟩; have hbf := Nat.lt_of_lt_of_le hpl hX.size; replace hX := trans_b hX hb; clear hb))
        have hblk : wf.heap[p]? = some (.cells cs 45 (0, 0)) := (hX.block p hpl).trans HU5.out
        have hTf := HU1.out.below hX
        have hFf := (as_holds hTf HU3.out).1
        have hcs := sz3 hFf hblk
        have hFf2 := hFf
        simp only [Holds] at hFf2
        obtain ⟨c0, c1, c2, _⟩ := hFf2
        have HC0 : Hid (∃ v0, cs[0]? = some v0) := Lib.hid ⟨_, by rw [cell_new hblk] at c0; exact c0⟩
        clear c0
        have f1 : wf.frozen? ⟨p, 1, none⟩ = false := Lib.frozen_of_heap hblk _
        have hgl : wf.cell? ⟨0, 0, none⟩ = some (.iface 94 (.pointer (some (a 10)))) := (HSW2.out _ hX).e.g 10 (by omega) (by omega)
        have k1 : ((wf.setCell ⟨p, 1, none⟩ (.int .i64 (wrap64 (n' + 1000)))).drew).heap[p]? = some (.cells (cs.setIfInBounds 1 (.int .i64 (wrap64 (n' + 1000)))) 45 (0, 0)) := heap_setCell_same wf p 1 cs 45 _ hblk
        have o1 : ∀ b, b ≠ p → ((wf.setCell ⟨p, 1, none⟩ (.int .i64 (wrap64 (n' + 1000)))).drew).heap[b]? = wf.heap[b]? := fun b hb => heap_setCell_other wf ⟨p, 1, none⟩ b _ hb
        have B1 : Below w.heap.size w ((wf.setCell ⟨p, 1, none⟩ (.int .i64 (wrap64 (n' + 1000)))).drew) := ((trans_b HBW.out hX).setCell (p := ⟨p, 1, none⟩) hpw _).drew
        have S1 : wf.heap.size = ((wf.setCell ⟨p, 1, none⟩ (.int .i64 (wrap64 (n' + 1000)))).drew).heap.size := by simp
        have HK1 := Lib.hid k1
        have HO1 := Lib.hid o1
        have HB1 := Lib.hid B1
        have HS1 := Lib.hid S1
        have HX2 := Lib.hid hX
        have HTF := Lib.hid hTf
        have HCS := Lib.hid hcs
        clear k1 o1 B1 S1 hX hTf hFf hcs hblk
        have hne : wz.heap.size ≠ p := Nat.ne_of_gt hbf
        have hn0 : (0 : Nat) ≠ p := by omega
        have HCW := Lib.hid hcz
        have HGW := Lib.hid hgl
        have HC2 : Hid (cs[2]? = some (.string q')) := Lib.hid (by rw [cell_new ((HX2.out.block p hpl).trans HU5.out)] at c2; exact c2)
        go_region
        go_upto_region 23 with fail
        clear c1 c2 f1 hcz hgl
        generalize (wf.setCell ⟨p, 1, none⟩ (.int .i64 (wrap64 (n' + 1000)))).drew = wg at *
        have hcz : wg.cell? ⟨wz.heap.size, 0, none⟩ = some (.pointer (some ⟨p, 0, none⟩)) := cell_agree (HO1.out _ hne) HCW.out
        have c2 : wg.cell? ⟨p, 2, none⟩ = some (.string q') := by rw [cell_new HK1.out, Array.getElem?_setIfInBounds_ne (by omega)]; exact HC2.out
        have f2 : wg.frozen? ⟨p, 2, none⟩ = false := Lib.frozen_of_heap HK1.out _
        have k2 : ((wg.setCell ⟨p, 2, none⟩ (.string (q' ++ ⟨#[47, 115, 112, 111, 105, 108, 116]⟩))).drew).heap[p]? = some (.cells ((cs.setIfInBounds 1 (.int .i64 (wrap64 (n' + 1000)))).setIfInBounds 2 (.string (q' ++ ⟨#[47, 115, 112, 111, 105, 108, 116]⟩))) 45 (0, 0)) := heap_setCell_same wg p 2 _ 45 _ HK1.out
        have o2 : ∀ b, b ≠ p → ((wg.setCell ⟨p, 2, none⟩ (.string (q' ++ ⟨#[47, 115, 112, 111, 105, 108, 116]⟩))).drew).heap[b]? = wg.heap[b]? := fun b hb => heap_setCell_other wg ⟨p, 2, none⟩ b _ hb
        have B2 : Below w.heap.size w ((wg.setCell ⟨p, 2, none⟩ (.string (q' ++ ⟨#[47, 115, 112, 111, 105, 108, 116]⟩))).drew) := (HB1.out.setCell (p := ⟨p, 2, none⟩) hpw _).drew
        have S2 : wg.heap.size = ((wg.setCell ⟨p, 2, none⟩ (.string (q' ++ ⟨#[47, 115, 112, 111, 105, 108, 116]⟩))).drew).heap.size := by simp
        have HK2 := Lib.hid k2
        have HO2 := Lib.hid o2
        have HB2b := Lib.hid B2
        have HS2 := Lib.hid S2
        clear k2 o2 B2 S2
        go_region
        go_upto_region 24 with fail
        clear c2 f2 hcz
        generalize (wg.setCell ⟨p, 2, none⟩ (.string (q' ++ ⟨#[47, 115, 112, 111, 105, 108, 116]⟩))).drew = wh at *
        have hcz : wh.cell? ⟨wz.heap.size, 0, none⟩ = some (.pointer (some ⟨p, 0, none⟩)) := cell_agree (HO2.out _ hne) (cell_agree (HO1.out _ hne) HCW.out)
        have hgl : wh.cell? ⟨0, 0, none⟩ = some (.iface 94 (.pointer (some (a 10)))) := cell_agree (HO2.out _ hn0) (cell_agree (HO1.out _ hn0) HGW.out)
        obtain ⟨v0, hv0⟩ := HC0.out
        have c0 : wh.cell? ⟨p, 0, none⟩ = some v0 := by rw [cell_new HK2.out, Array.getElem?_setIfInBounds_ne (by omega), Array.getElem?_setIfInBounds_ne (by omega)]; exact hv0
        have f0 : wh.frozen? ⟨p, 0, none⟩ = false := Lib.frozen_of_heap HK2.out _
        have k3 := heap_setCell_same wh p 0 _ 45 (.iface 94 (.pointer (some (a 10)))) HK2.out
        have o3 : ∀ b, b ≠ p → (wh.setCell ⟨p, 0, none⟩ (.iface 94 (.pointer (some (a 10))))).heap[b]? = wf.heap[b]? := fun b hb => (heap_setCell_other wh ⟨p, 0, none⟩ b _ hb).trans ((HO2.out b hb).trans (HO1.out b hb))
        have B3 : Below w.heap.size w (wh.setCell ⟨p, 0, none⟩ (.iface 94 (.pointer (some (a 10))))) := HB2b.out.setCell (p := ⟨p, 0, none⟩) hpw _
        have hst3 := HSW.out _ B3
        have HFIN : Hid (w6.heap.size ≤ (wh.setCell ⟨p, 0, none⟩ (.iface 94 (.pointer (some (a 10))))).heap.size ∧ Below w.heap.size w (wh.setCell ⟨p, 0, none⟩ (.iface 94 (.pointer (some (a 10))))) ∧ Stays a oa p (wh.setCell ⟨p, 0, none⟩ (.iface 94 (.pointer (some (a 10))))) ps cd (wrap64 (xa + k)) xp ∧ Stays a oa p (wh.setCell ⟨p, 0, none⟩ (.iface 94 (.pointer (some (a 10))))) pi cd xa (q0 ++ xp) ∧ TreeAt a p (.iface tT uT) (1048576 + 7 * (1 : Int).toNat) (wh.setCell ⟨p, 0, none⟩ (.iface 94 (.pointer (some (a 10)))))) := Lib.hid (by
          have hxs := HX2.out.size
          have h66 := HSZ6.out
          have e1 := HS1.out
          have e2 := HS2.out
          refine ⟨by simp; omega, B3, HSS2.out.go hst3 fun b h1 h2 => (o3 b h1).trans (HX2.out.block b h2), HSI2.out.go hst3 fun b h1 h2 => (o3 b h1).trans (HX2.out.block b h2), ?_⟩
          obtain ⟨g0, g1, g2⟩ := set3 HCS.out (.iface 94 (.pointer (some (a 10)))) (.int .i64 (wrap64 (n' + 1000))) (.string (q' ++ ⟨#[47, 115, 112, 111, 105, 108, 116]⟩))
          refine TreeAt.spoilt HTF.out HU2.out HU3.out o3 k3 g0 g1 g2 ?_
          have h6 := HU6.out
          have h7 : (q' ++ ⟨#[47, 115, 112, 111, 105, 108, 116]⟩ : ByteArray).size = q'.size + 7 := by rw [ByteArray.size_append]; rfl
          rw [h7]
          show _ ≤ 1048576 + 7 * 1
          omega)
        clear k3 o3 B3 hst3
        go_wp2
        go_roundw
        case rel => exact ⟨1, rfl, .inr (.inl rfl), HFIN, Lib.hid fun h => absurd h (by decide)⟩
        case measure => decide
      · obtain ⟨hsz6, hBw, hSs, hSi, hTr⟩ := HM.out
        obtain ⟨T', n', q', e', cs, u1, u2, u3, u4, u5⟩ := hTr
        have hpl : p < wr.heap.size := Nat.lt_of_lt_of_le hpl6 hsz6
        have HBW := Lib.hid hBw
        have HSZ6 := Lib.hid hsz6
        have HSS2 := Lib.hid hSs
        have HSI2 := Lib.hid hSi
        have HSW2 : Hid (∀ W, Below wr.heap.size wr W → Seat a oa W) := Lib.hid fun W hW => HSW.out _ (trans_b HBW.out hW)
        have HS12 : Hid (∀ W, Below wr.heap.size wr W → Calls Tryd.prog 12 #[.iface 41 (.pointer (some ⟨ps, 0, none⟩)), .int .i64 cd, .int .i64 (wrap64 (xa + k)), .string xp, .bool true] W fun e w' => e = .returned (.bool true) ∧ Below W.heap.size W w') := Lib.hid fun W hW => (HSS2.out.below hW).tells (HSW2.out _ hW).e HRG.out
        have HS17 : Hid (∀ W, Below wr.heap.size wr W → Calls Tryd.prog 17 #[.iface 41 (.pointer (some ⟨ps, 0, none⟩)), .int .i64 cd, .int .i64 (wrap64 (xa + k)), .string xp, .bool true] W fun e w' => e = .returned (.bool true) ∧ Below W.heap.size W w') := Lib.hid fun W hW => (HSS2.out.below hW).has (HSW2.out _ hW).e HRG.out
        have HI12 : Hid (∀ W, Below wr.heap.size wr W → Calls Tryd.prog 12 #[.iface 41 (.pointer (some ⟨pi, 0, none⟩)), .int .i64 cd, .int .i64 xa, .string (q0 ++ xp), .bool true] W fun e w' => e = .returned (.bool true) ∧ Below W.heap.size W w') := Lib.hid fun W hW => (HSI2.out.below hW).tells (HSW2.out _ hW).e HRG.out
        have HI17 : Hid (∀ W, Below wr.heap.size wr W → Calls Tryd.prog 17 #[.iface 41 (.pointer (some ⟨pi, 0, none⟩)), .int .i64 cd, .int .i64 xa, .string (q0 ++ xp), .bool true] W fun e w' => e = .returned (.bool true) ∧ Below W.heap.size W w') := Lib.hid fun W hW => (HSI2.out.below hW).has (HSW2.out _ hW).e HRG.out
        have HAS : Hid (∀ W, Below wr.heap.size wr W → Calls Tryd.prog 21 #[.iface tT uT, .iface 43 (.pointer (some ⟨W.heap.size, 0, none⟩))] (W.alloc (.cells #[.pointer none] 41)) fun e w' => e = .returned (.bool true) ∧ w'.cell? ⟨W.heap.size, 0, none⟩ = some (.pointer (some ⟨p, 0, none⟩)) ∧ Below W.heap.size W w') := Lib.hid fun W hW => by
          have := As_my a T' W (HSW2.out _ hW).e (u1.below hW)
          rw [u2, u3] at this
          exact this
        have HU1 := Lib.hid u1
        have HU2 := Lib.hid u2
        have HU3 := Lib.hid u3
        have HU5 := Lib.hid u5
        have u6 : q'.size ≤ 1048583 := by simpa using u4
        have hqs : q'.size + 7 ≤ 9223372036854775807 := by omega
        have HU6 := Lib.hid u6
        have hX := Below.refl wr.heap.size wr
        clear hsz6 hBw hSs hSi HM HT0 u1 u2 u3 u4 u5 u6
        go_upto_region 22 with (first | (go_at_call 12; with_reducible refine (HI12.out _ hX).mono ?_; rintro e wz ⟨rfl, hb⟩; replace hX := trans_b hX hb; clear hb) | (go_at_call 17; with_reducible refine (HI17.out _ hX).mono ?_; rintro e wz ⟨rfl, hb⟩; replace hX := trans_b hX hb; clear hb) | (go_at_call 12; with_reducible refine (HS12.out _ hX).mono ?_; rintro e wz ⟨rfl, hb⟩; replace hX := trans_b hX hb; clear hb) | (go_at_call 17; with_reducible refine (HS17.out _ hX).mono ?_; rintro e wz ⟨rfl, hb⟩; replace hX := trans_b hX hb; clear hb) | (go_at_call 20; with_reducible refine (H20.out _).mono ?_; rintro e wz ⟨rfl, hb⟩; replace hX := trans_b hX hb; clear hb) | (go_at_call 21; refine (HAS.out _ hX).mono ?_; rintro e wf ⟨rfl, hcz, hb⟩; have hbf := Nat.lt_of_lt_of_le hpl hX.size; replace hX := trans_b hX hb; clear hb))
        have hblk : wf.heap[p]? = some (.cells cs 45 (0, 0)) := (hX.block p hpl).trans HU5.out
        have hTf := HU1.out.below hX
        have hFf := (as_holds hTf HU3.out).1
        have hcs := sz3 hFf hblk
        have hFf2 := hFf
        simp only [Holds] at hFf2
        obtain ⟨c0, c1, c2, _⟩ := hFf2
        have HC0 : Hid (∃ v0, cs[0]? = some v0) := Lib.hid ⟨_, by rw [cell_new hblk] at c0; exact c0⟩
        clear c0
        have f1 : wf.frozen? ⟨p, 1, none⟩ = false := Lib.frozen_of_heap hblk _
        have hgl : wf.cell? ⟨0, 0, none⟩ = some (.iface 94 (.pointer (some (a 10)))) := (HSW2.out _ hX).e.g 10 (by omega) (by omega)
        have k1 : ((wf.setCell ⟨p, 1, none⟩ (.int .i64 (wrap64 (n' + 1000)))).drew).heap[p]? = some (.cells (cs.setIfInBounds 1 (.int .i64 (wrap64 (n' + 1000)))) 45 (0, 0)) := heap_setCell_same wf p 1 cs 45 _ hblk
        have o1 : ∀ b, b ≠ p → ((wf.setCell ⟨p, 1, none⟩ (.int .i64 (wrap64 (n' + 1000)))).drew).heap[b]? = wf.heap[b]? := fun b hb => heap_setCell_other wf ⟨p, 1, none⟩ b _ hb
        have B1 : Below w.heap.size w ((wf.setCell ⟨p, 1, none⟩ (.int .i64 (wrap64 (n' + 1000)))).drew) := ((trans_b HBW.out hX).setCell (p := ⟨p, 1, none⟩) hpw _).drew
        have S1 : wf.heap.size = ((wf.setCell ⟨p, 1, none⟩ (.int .i64 (wrap64 (n' + 1000)))).drew).heap.size := by simp
        have HK1 := Lib.hid k1
        have HO1 := Lib.hid o1
        have HB1 := Lib.hid B1
        have HS1 := Lib.hid S1
        have HX2 := Lib.hid hX
        have HTF := Lib.hid hTf
        have HCS := Lib.hid hcs
        clear k1 o1 B1 S1 hX hTf hFf hcs hblk
        have hne : wz.heap.size ≠ p := Nat.ne_of_gt hbf
        have hn0 : (0 : Nat) ≠ p := by omega
        have HCW := Lib.hid hcz
        have HGW := Lib.hid hgl
        have HC2 : Hid (cs[2]? = some (.string q')) := Lib.hid (by rw [cell_new ((HX2.out.block p hpl).trans HU5.out)] at c2; exact c2)
        go_region
        go_upto_region 23 with fail
        clear c1 c2 f1 hcz hgl
        generalize (wf.setCell ⟨p, 1, none⟩ (.int .i64 (wrap64 (n' + 1000)))).drew = wg at *
        have hcz : wg.cell? ⟨wz.heap.size, 0, none⟩ = some (.pointer (some ⟨p, 0, none⟩)) := cell_agree (HO1.out _ hne) HCW.out
        have c2 : wg.cell? ⟨p, 2, none⟩ = some (.string q') := by rw [cell_new HK1.out, Array.getElem?_setIfInBounds_ne (by omega)]; exact HC2.out
        have f2 : wg.frozen? ⟨p, 2, none⟩ = false := Lib.frozen_of_heap HK1.out _
        have k2 : ((wg.setCell ⟨p, 2, none⟩ (.string (q' ++ ⟨#[47, 115, 112, 111, 105, 108, 116]⟩))).drew).heap[p]? = some (.cells ((cs.setIfInBounds 1 (.int .i64 (wrap64 (n' + 1000)))).setIfInBounds 2 (.string (q' ++ ⟨#[47, 115, 112, 111, 105, 108, 116]⟩))) 45 (0, 0)) := heap_setCell_same wg p 2 _ 45 _ HK1.out
        have o2 : ∀ b, b ≠ p → ((wg.setCell ⟨p, 2, none⟩ (.string (q' ++ ⟨#[47, 115, 112, 111, 105, 108, 116]⟩))).drew).heap[b]? = wg.heap[b]? := fun b hb => heap_setCell_other wg ⟨p, 2, none⟩ b _ hb
        have B2 : Below w.heap.size w ((wg.setCell ⟨p, 2, none⟩ (.string (q' ++ ⟨#[47, 115, 112, 111, 105, 108, 116]⟩))).drew) := (HB1.out.setCell (p := ⟨p, 2, none⟩) hpw _).drew
        have S2 : wg.heap.size = ((wg.setCell ⟨p, 2, none⟩ (.string (q' ++ ⟨#[47, 115, 112, 111, 105, 108, 116]⟩))).drew).heap.size := by simp
        have HK2 := Lib.hid k2
        have HO2 := Lib.hid o2
        have HB2b := Lib.hid B2
        have HS2 := Lib.hid S2
        clear k2 o2 B2 S2
        go_region
        go_upto_region 24 with fail
        clear c2 f2 hcz
        generalize (wg.setCell ⟨p, 2, none⟩ (.string (q' ++ ⟨#[47, 115, 112, 111, 105, 108, 116]⟩))).drew = wh at *
        have hcz : wh.cell? ⟨wz.heap.size, 0, none⟩ = some (.pointer (some ⟨p, 0, none⟩)) := cell_agree (HO2.out _ hne) (cell_agree (HO1.out _ hne) HCW.out)
        have hgl : wh.cell? ⟨0, 0, none⟩ = some (.iface 94 (.pointer (some (a 10)))) := cell_agree (HO2.out _ hn0) (cell_agree (HO1.out _ hn0) HGW.out)
        obtain ⟨v0, hv0⟩ := HC0.out
        have c0 : wh.cell? ⟨p, 0, none⟩ = some v0 := by rw [cell_new HK2.out, Array.getElem?_setIfInBounds_ne (by omega), Array.getElem?_setIfInBounds_ne (by omega)]; exact hv0
        have f0 : wh.frozen? ⟨p, 0, none⟩ = false := Lib.frozen_of_heap HK2.out _
        have k3 := heap_setCell_same wh p 0 _ 45 (.iface 94 (.pointer (some (a 10)))) HK2.out
        have o3 : ∀ b, b ≠ p → (wh.setCell ⟨p, 0, none⟩ (.iface 94 (.pointer (some (a 10))))).heap[b]? = wf.heap[b]? := fun b hb => (heap_setCell_other wh ⟨p, 0, none⟩ b _ hb).trans ((HO2.out b hb).trans (HO1.out b hb))
        have B3 : Below w.heap.size w (wh.setCell ⟨p, 0, none⟩ (.iface 94 (.pointer (some (a 10))))) := HB2b.out.setCell (p := ⟨p, 0, none⟩) hpw _
        have hst3 := HSW.out _ B3
        have HFIN : Hid (w6.heap.size ≤ (wh.setCell ⟨p, 0, none⟩ (.iface 94 (.pointer (some (a 10))))).heap.size ∧ Below w.heap.size w (wh.setCell ⟨p, 0, none⟩ (.iface 94 (.pointer (some (a 10))))) ∧ Stays a oa p (wh.setCell ⟨p, 0, none⟩ (.iface 94 (.pointer (some (a 10))))) ps cd (wrap64 (xa + k)) xp ∧ Stays a oa p (wh.setCell ⟨p, 0, none⟩ (.iface 94 (.pointer (some (a 10))))) pi cd xa (q0 ++ xp) ∧ TreeAt a p (.iface tT uT) (1048576 + 7 * (2 : Int).toNat) (wh.setCell ⟨p, 0, none⟩ (.iface 94 (.pointer (some (a 10)))))) := Lib.hid (by
          have hxs := HX2.out.size
          have h66 := HSZ6.out
          have e1 := HS1.out
          have e2 := HS2.out
          refine ⟨by simp; omega, B3, HSS2.out.go hst3 fun b h1 h2 => (o3 b h1).trans (HX2.out.block b h2), HSI2.out.go hst3 fun b h1 h2 => (o3 b h1).trans (HX2.out.block b h2), ?_⟩
          obtain ⟨g0, g1, g2⟩ := set3 HCS.out (.iface 94 (.pointer (some (a 10)))) (.int .i64 (wrap64 (n' + 1000))) (.string (q' ++ ⟨#[47, 115, 112, 111, 105, 108, 116]⟩))
          refine TreeAt.spoilt HTF.out HU2.out HU3.out o3 k3 g0 g1 g2 ?_
          have h6 := HU6.out
          have h7 : (q' ++ ⟨#[47, 115, 112, 111, 105, 108, 116]⟩ : ByteArray).size = q'.size + 7 := by rw [ByteArray.size_append]; rfl
          rw [h7]
          show _ ≤ 1048576 + 7 * 2
          omega)
        clear k3 o3 B3 hst3
        go_wp2
        go_roundw
        case rel => exact ⟨2, rfl, .inr (.inr rfl), HFIN, Lib.hid fun h => absurd h (by decide)⟩
        case measure => decide
      · have hX := HM.out.2.1
        go_wp2_with (go_at_call 14; refine (lives_any a oa _ (HSW.out _ hX)).mono ?_; rintro e wz ⟨rfl, hb⟩)
        go_ret
        exact ⟨rfl, trans_b hX hb⟩

theorem movesWalk (N : ND) (k : Int) (st : ByteArray) (w : World) (hS : ∃ a oa, Seat a oa w) (hI : In w N) (hz : N.tz ≤ 1048576) (hst : st.size ≤ 1048576) :
    Calls Tryd.prog 5 #[N.agg, .int .i64 k, .string st] w fun e w' => e = .returned (.bool true) ∧ Below w.heap.size w w' := by
  obtain ⟨a, oa, hS⟩ := hS
  cases h0 : N.isN with
  | true => exact moves_nil N k st w a oa hS hI hz hst h0
  | false =>
    cases ho : okK (fndK N.fnd) with
    | true => exact moves_yes N k st w a oa hS hI hz hst h0 ho
    | false => exact moves_no N k st w a oa hS hI hz hst h0 ho
end Go.Proofs.YtfjgjhicinaolaaDoor
