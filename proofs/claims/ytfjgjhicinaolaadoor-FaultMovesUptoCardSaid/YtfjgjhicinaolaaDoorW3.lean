/- What build makes of a Node: the walks. -/
import Derived.Test.YtfjgjhicinaolaaDoorW2
import Derived.Laws.OwnMore
namespace Go.Proofs.YtfjgjhicinaolaaDoor
open Go.RowKit Go.Extern.Stop Go.Stop Go.Extern
set_option maxRecDepth 100000
set_option linter.unusedVariables false
set_option linter.unusedSimpArgs false
set_option linter.unnecessarySimpa false

/-- build of each of a list. -/
def Builds (a : Nat → Addr) (w : World) (l : List ND) : Prop := ∀ x, x ∈ l → ∀ W, Below w.heap.size w W → Calls Tryd.prog 10 #[x.agg] W (BuildPost a x W)
theorem Foot.base {a : Nat → Addr} {base base' : Nat} {w : World} {T : ET} (h : Foot a base (fun _ => False) w T) (hb : base' ≤ base) : Foot a base' (fun _ => False) w T := h.weaken hb fun _ _ h => h

/-- The value at the head of a row of Nodes. -/
theorem head_cells {w : World} {A : Option Addr} {x : ND} {l : List ND} (h : NRow w A (x :: l)) : ∃ b off, A = some ⟨b, off, none⟩ ∧ ∀ j u, x.cells[j]? = some u → w.cell? ⟨b, off + j, none⟩ = some u := by
  rcases h with h | ⟨b, off, e, h⟩
  · cases h
  · exact ⟨b, off, e, fun j u hu => by have := h 0 (by simp) j u hu; simpa using this⟩

def FirstPost (a : Nat → Addr) (l : List ND) (w : World) (e : Ending) (w' : World) : Prop :=
  ∃ T, e = .returned (T.val a) ∧ Foot a w.heap.size (fun _ => False) w' T ∧ LikeH l T ∧ Below w.heap.size w w'
theorem first_any (a : Nat → Addr) (A : Option Addr) (cap : Nat) (l : List ND) (w : World) (hl : l.length ≤ 9223372036854775807) (hr : NRow w A l) (hB : Builds a w l) :
    Calls Tryd.prog 33 #[.slice A l.length cap] w (FirstPost a l w) := by
  cases l with
  | nil =>
    have HP : Hid (FirstPost a [] w (.returned .nilIface) w) := Lib.hid ⟨.nil, rfl, foot_free a _ _ _ _ (fun _ => trivial), ⟨⟨fun _ => rfl, fun _ => rfl⟩, fun j _ _ => rfl, rfl⟩, Below.refl _ _⟩
    clear hr hB
    go_enter Tryd.func33, Tryd.ntmps33
    go_wp2
    go_ret
    exact HP.out
  | cons x l =>
    obtain ⟨b, off, rfl, hc⟩ := head_cells hr
    have hcall : Calls Tryd.prog 10 #[x.agg] w fun e w' => ∃ v, e = .returned v ∧ Hid (FirstPost a (x :: l) w (.returned v) w') := (hB x (by simp) w (Below.refl _ _)).mono fun e w' ⟨T, h1, h2, h3, h4⟩ => ⟨_, h1, Lib.hid ⟨T, rfl, h2, ⟨h3.nil, h3.has, h3.fa⟩, h4⟩⟩
    have d0 := hc 0 _ rfl
    have d1 := hc 1 _ rfl
    have d2 := hc 2 _ rfl
    have d3 := hc 3 _ rfl
    have d4 := hc 4 _ rfl
    simp only [Nat.add_zero] at d0
    have hlen : ((x :: l).length : Int) = (l.length : Int) + 1 := by simp
    have hlen2 : (x :: l).length = l.length + 1 := by simp
    rw [hlen2] at hl ⊢
    generalize l.length = m at hl ⊢
    unfold ND.agg at hcall
    clear hc hr hB hlen hlen2
    generalize FirstPost a (x :: l) w = FP at hcall ⊢
    generalize x.k = xk at d0 hcall
    generalize x.c = xc at d1 hcall
    generalize x.n = xn at d2 hcall
    generalize x.s = xs at d3 hcall
    generalize x.kids = xv at d4 hcall
    have hmi : (0 : Int) < (m : Int) + 1 := by omega
    go_enter Tryd.func33, Tryd.ntmps33
    go_wp2_with (go_at_call 10; refine hcall.mono ?_; rintro e w1 ⟨v, rfl, HP⟩)
    exact HP.out

theorem val_or (a : Nat → Addr) (T : ET) : T.val a = .nilIface ∨ ∃ t x, T.val a = .iface t x := by cases T <;> first | exact .inl rfl | exact .inr ⟨_, _, rfl⟩
/-- The simple kinds. -/
theorem build_nil (a : Nat → Addr) (N : ND) (w : World) (hE : Errs a w) (h : N.isN = true) : Calls Tryd.prog 10 #[N.agg] w (BuildPost a N w) := by
  have hb : Below w.heap.size w (w.alloc (.cells #[.int .i64 N.k, .int .i64 N.c, .int .i64 N.n, .string N.s, N.kids] 24)) := (Below.refl _ _).alloc (Nat.le_refl _) _
  have HP : Hid (∀ w', Below w.heap.size w w' → BuildPost a N w (.returned .nilIface) w') := Lib.hid fun w' hb => ⟨.nil, rfl, foot_free a _ _ _ _ (fun _ => trivial), like_nil N h, hb⟩
  have HL : Hid (∀ W, Below w.heap.size w W → (N.k = 1 → Calls Tryd.prog 31 #[.int .i64 N.c] W fun e w' => e = .returned .nilIface ∧ Below W.heap.size W w')) := Lib.hid fun W hb hk => law_out a N.c W (hE.below hb) (by
    unfold ND.isN at h; simp [hk] at h; omega)
  have hk : N.k < 1 ∨ 7 < N.k ∨ N.k = 1 := by unfold ND.isN at h; simp at h; omega
  unfold ND.agg
  generalize BuildPost a N w = BP at HP ⊢
  generalize N.kids = v at hb ⊢
  generalize N.k = k at hb hk HL ⊢
  generalize N.c = c at hb HL ⊢
  generalize N.n = n at hb ⊢
  generalize N.s = s at hb ⊢
  clear hE h
  have HB := Lib.hid hb
  rcases hk with hk | hk | hk
  · have t1 : (k == 1) = false := by simp; omega
    have t2 : (k == 2) = false := by simp; omega
    have t3 : (k == 3) = false := by simp; omega
    have t4 : (k == 4) = false := by simp; omega
    have t5 : (k == 5) = false := by simp; omega
    have t6 : (k == 6) = false := by simp; omega
    have t7 : (k == 7) = false := by simp; omega
    clear hk hb HL
    go_enter Tryd.func10, Tryd.ntmps10
    go_wp2
    exact HP.out _ HB.out
  · have t1 : (k == 1) = false := by simp; omega
    have t2 : (k == 2) = false := by simp; omega
    have t3 : (k == 3) = false := by simp; omega
    have t4 : (k == 4) = false := by simp; omega
    have t5 : (k == 5) = false := by simp; omega
    have t6 : (k == 6) = false := by simp; omega
    have t7 : (k == 7) = false := by simp; omega
    clear hk hb HL
    go_enter Tryd.func10, Tryd.ntmps10
    go_wp2
    exact HP.out _ HB.out
  · subst hk
    have hl := HL.out _ hb rfl
    clear hb HL
    go_enter Tryd.func10, Tryd.ntmps10
    go_wp2_with (go_at_call 31; refine hl.mono ?_; rintro e w1 ⟨rfl, hb1⟩)
    exact HP.out _ (trans_b HB.out hb1)
theorem build_plain (a : Nat → Addr) (N : ND) (w : World) (hE : Errs a w) (h : N.isN = false) (hk : N.k = 1 ∨ N.k = 2 ∨ N.k = 6 ∨ N.k = 7) : Calls Tryd.prog 10 #[N.agg] w (BuildPost a N w) := by
  have hb : Below w.heap.size w (w.alloc (.cells #[.int .i64 N.k, .int .i64 N.c, .int .i64 N.n, .string N.s, N.kids] 24)) := (Below.refl _ _).alloc (Nat.le_refl _) _
  have HP1 : Hid (N.k = 1 → ∀ W, Below w.heap.size w W → Calls Tryd.prog 31 #[.int .i64 N.c] W fun e w' => ∃ v, e = .returned v ∧ Hid (BuildPost a N w (.returned v) w')) := Lib.hid fun hk W hb => by
    obtain ⟨_, _, hc⟩ := isN_k N h
    have hc := hc hk
    have := law_in a N.c.toNat W (hE.below hb) (by omega) (by omega)
    rw [show ((N.c.toNat : Nat) : Int) = N.c by omega] at this
    exact this.mono fun e w' ⟨h1, h2⟩ => ⟨_, h1, Lib.hid ⟨.sent N.c.toNat, rfl, foot_free a _ _ _ _ (fun _ => by simp only [Holds]; omega), like_sent N h hk, trans_b hb h2⟩⟩
  have HP2 : Hid (N.k = 2 → ∀ W s, Below w.heap.size w W → Calls Tryd.prog 32 #[.string s] W fun e w' => ∃ v, e = .returned v ∧ Hid (BuildPost a N w (.returned v) w')) := Lib.hid fun hk W s hb => by
    refine (enew_any a s W (hE.below hb)).mono ?_
    rintro e w' ⟨ad, h1, h2, h3⟩
    exact ⟨_, h1, Lib.hid ⟨.other ad, rfl, h2.out.base hb.size, like_other N h hk ad, trans_b hb h3⟩⟩
  have HP6 : Hid (N.k = 6 → ∀ w', Below w.heap.size w w' → BuildPost a N w (.returned (.iface 41 (.pointer none))) w') := Lib.hid fun hk w' hb => ⟨.nilF, rfl, foot_free a _ _ _ _ (fun _ => trivial), like_nilF N h hk, hb⟩
  have HP7 : Hid (N.k = 7 → ∀ W, Below w.heap.size w W → BuildPost a N w (.returned (.iface 73 (.pointer (some ⟨W.heap.size, 0, none⟩)))) (W.alloc (.cells #[.int .i64 N.c] 75))) := Lib.hid fun hk W hb => ⟨.claim W.heap.size N.c, rfl, foot_claim hb.size N.c, like_claim N h hk _, hb.alloc hb.size _⟩
  unfold ND.agg
  generalize BuildPost a N w = BP at HP1 HP2 HP6 HP7 ⊢
  generalize N.kids = v at hb ⊢
  generalize N.k = k at hb hk HP1 HP2 HP6 HP7 ⊢
  generalize N.c = c at hb HP1 HP7 ⊢
  generalize N.n = n at hb ⊢
  generalize N.s = s at hb ⊢
  clear hE h
  have HB := Lib.hid hb
  rcases hk with rfl | rfl | rfl | rfl
  · have hl := HP1.out rfl _ hb
    clear hb
    go_enter Tryd.func10, Tryd.ntmps10
    go_wp2_with (go_at_call 31; refine hl.mono ?_; rintro e w1 ⟨v, rfl, HQ⟩)
    exact HQ.out
  · have hl := HP2.out rfl _ ⟨#[111, 116, 104, 101, 114]⟩ hb
    clear hb
    go_enter Tryd.func10, Tryd.ntmps10
    go_wp2_with (go_at_call 32; refine hl.mono ?_; rintro e w1 ⟨v, rfl, HQ⟩)
    exact HQ.out
  · clear hb
    go_enter Tryd.func10, Tryd.ntmps10
    go_wp2
    exact HP6.out trivial _ HB.out
  · have HQ := Lib.hid (HP7.out rfl _ hb)
    clear hb
    go_enter Tryd.func10, Tryd.ntmps10
    go_wp2
    simpa using HQ.out
theorem build_one (a : Nat → Addr) (N : ND) (w : World) (hI : In w N) (hB : Builds a w N.l) (h : N.isN = false) (hk : N.k = 4) : Calls Tryd.prog 10 #[N.agg] w (BuildPost a N w) := by
  have hb : Below w.heap.size w (w.alloc (.cells #[.int .i64 N.k, .int .i64 N.c, .int .i64 N.n, .string N.s, N.kids] 24)) := (Below.refl _ _).alloc (Nat.le_refl _) _
  obtain ⟨q1, q2, q3, q4⟩ := hI.parts
  have HF : Hid (∀ W, Below w.heap.size w W → Calls Tryd.prog 33 #[N.kids] W fun e w' => ∃ v, e = .returned v ∧ (v = .nilIface ∨ ∃ t x, v = .iface t x) ∧ Hid (BuildPost a N w (.returned (.iface 67 (.pointer (some ⟨w'.heap.size, 0, none⟩)))) (w'.alloc (.cells #[v] 69)))) := Lib.hid fun W hb => by
    refine (first_any a N.A N.cap N.l W (by omega) (q3.below hb) (fun x hx W' hW => hB x hx W' (trans_b hb hW))).mono ?_
    rintro e w' ⟨T, h1, h2, h3, h4⟩
    have h5 := trans_b hb h4
    exact ⟨_, h1, val_or a T, Lib.hid ⟨.one w'.heap.size T, rfl, foot_one (h2.base hb.size) h5.size, like_one N h hk _ T h3, h5.alloc h5.size _⟩⟩
  unfold ND.agg
  generalize BuildPost a N w = BP at HF ⊢
  generalize N.kids = v at hb HF ⊢
  generalize N.k = k at hb hk ⊢
  generalize N.c = c at hb ⊢
  generalize N.n = n at hb ⊢
  generalize N.s = s at hb ⊢
  subst hk
  have hl := HF.out _ hb
  clear hB h hI q1 q2 q3 q4 hb
  go_enter Tryd.func10, Tryd.ntmps10
  go_wp2_with fail
  go_at_call 33
  refine hl.mono ?_
  rintro e w1 ⟨v, rfl, hvc, HQ⟩
  rcases hvc with rfl | ⟨t, x, rfl⟩
  · go_wp2
    exact HQ.out
  · go_wp2
    exact HQ.out
theorem below_on2 {B : Nat} {w W w' : World} (h : Below B w W) (k : Below W.heap.size W w') (hB : B ≤ W.heap.size) (o : Obj) : Below B w (w'.alloc o) := (h.trans (k.mono hB)).alloc (Nat.le_trans hB k.size) o
theorem keep_new {W w' : World} (k : Below W.heap.size W w') {p : Addr} {v : Value} (h : W.cell? p = some v) (o : Obj) : (w'.alloc o).cell? p = some v := (World.cell?_alloc_lt _ _ p (Nat.lt_of_lt_of_le (World.block_lt_of_cell? W p h) k.size)).trans (keep1 k h)
theorem build_fault (a : Nat → Addr) (N : ND) (w : World) (hI : In w N) (hB : Builds a w N.l) (h : N.isN = false) (hk : N.k = 3) : Calls Tryd.prog 10 #[N.agg] w (BuildPost a N w) := by
  have hb : Below w.heap.size w (w.alloc (.cells #[.int .i64 N.k, .int .i64 N.c, .int .i64 N.n, .string N.s, N.kids] 24)) := (Below.refl _ _).alloc (Nat.le_refl _) _
  obtain ⟨q1, q2, q3, q4⟩ := hI.parts
  have HBX := Lib.hid (box_cells N w)
  have HF : Hid (∀ W, Below w.heap.size w W → Calls Tryd.prog 33 #[N.kids] W fun e w' => ∃ v, e = .returned v ∧ (hdN N.l = true → v = .nilIface) ∧ (hdN N.l = false → ∃ t x, v = .iface t x) ∧ Hid (BuildPost a N w (.returned (.iface 41 (.pointer (some ⟨w'.heap.size, 0, none⟩)))) (w'.alloc (.cells #[v, .int .i64 N.n, .string N.s] 45))) ∧ Below W.heap.size W w') := Lib.hid fun W hb => by
    refine (first_any a N.A N.cap N.l W (by omega) (q3.below hb) (fun x hx W' hW => hB x hx W' (trans_b hb hW))).mono ?_
    rintro e w' ⟨T, h1, h2, h3, h4⟩
    have h5 := trans_b hb h4
    exact ⟨_, h1, fun hh => by rw [h3.nil.2 hh]; rfl, fun hh => val_nil a T (fun hT => by rw [h3.nil.1 hT] at hh; cases hh), Lib.hid ⟨.fault w'.heap.size N.n N.s T, rfl, foot_fault (h2.base hb.size) h5.size _ _, like_fault N h hk _ T h3, h5.alloc h5.size _⟩, h4⟩
  unfold ND.agg
  generalize BuildPost a N w = BP at HF ⊢
  generalize hdN N.l = hd at HF
  generalize N.kids = v at hb HF HBX ⊢
  generalize N.k = k at hb hk HBX ⊢
  generalize N.c = c at hb HBX ⊢
  generalize N.n = n at hb HF HBX ⊢
  generalize N.s = s at hb HF HBX ⊢
  subst hk
  have HG : (Hid (∀ W, Below w.heap.size w W → Calls Tryd.prog 33 #[v] W fun e w' => e = .returned .nilIface ∧ Hid (BP (.returned (.iface 41 (.pointer (some ⟨w'.heap.size, 0, none⟩)))) (w'.alloc (.cells #[.nilIface, .int .i64 n, .string s] 45))) ∧ Below W.heap.size W w')) ∨ (Hid (∀ W, Below w.heap.size w W → Calls Tryd.prog 33 #[v] W fun e w' => ∃ t x, e = .returned (.iface t x) ∧ Hid (BP (.returned (.iface 41 (.pointer (some ⟨w'.heap.size, 0, none⟩)))) (w'.alloc (.cells #[.iface t x, .int .i64 n, .string s] 45))) ∧ Below W.heap.size W w')) := by
    cases hd with
    | true =>
      refine .inl (Lib.hid fun W hb => (HF.out W hb).mono ?_)
      rintro e w' ⟨u, h1, h2, h3, h4, h5⟩
      obtain rfl := h2 rfl
      exact ⟨h1, h4, h5⟩
    | false =>
      refine .inr (Lib.hid fun W hb => (HF.out W hb).mono ?_)
      rintro e w' ⟨u, h1, h2, h3, h4, h5⟩
      obtain ⟨t, x, rfl⟩ := h3 rfl
      exact ⟨t, x, h1, h4, h5⟩
  clear hB h hI q1 q2 q3 q4 HF
  rcases HG with HG | HG
  ·
    go_enter Tryd.func10, Tryd.ntmps10
    go_upto_region 1 with fail
    show Code.wp _ _ _ _ (w.alloc (.cells #[.int .i64 3, .int .i64 c, .int .i64 n, .string s, v] 24))
    generalize (w.alloc (.cells #[.int .i64 3, .int .i64 c, .int .i64 n, .string s, v] 24)) = w0 at HBX hb ⊢
    obtain ⟨c0, c1, c2, c3, c4⟩ := HBX.out w0 (Below.refl _ _)
    have HB2 : Hid (∀ W, Below w0.heap.size w0 W → Below w.heap.size w W) := Lib.hid fun W h => trans_b hb h
    clear hb
    go_upto_region 7 with fail
    go_cut [2] (fun x W => Hid (BP (.returned x) W))
    case first =>
      go_region_held3 (fun W => Below w0.heap.size w0 W ∧ W.cell? ⟨w.heap.size, 2, none⟩ = some (.int .i64 n) ∧ W.cell? ⟨w.heap.size, 3, none⟩ = some (.string s) ∧ W.cell? ⟨w.heap.size, 4, none⟩ = some v)
        (first | exact ⟨(Below.refl _ _).drew, c2, c3, c4⟩ | exact ⟨trans_b hbX hb7, keep1 hb7 x2, keep1 hb7 x3, keep1 hb7 x4⟩ | exact ⟨below_on2 hbX hb7 hbX.size _, keep_new hb7 x2 _, keep_new hb7 x3 _, keep_new hb7 x4 _⟩ | assumption)
        (first | (go_at_call 33; obtain ⟨hbX, x2, x3, x4⟩ := (‹Below w0.heap.size w0 _ ∧ _ ∧ _ ∧ _›); refine (HG.out _ (HB2.out _ hbX)).mono ?_; rintro e w4 ⟨rfl, HQ, hb7⟩))
      all_goals (go_wp2_with fail; go_meet; exact HQ)
    case rest =>
      clear c0 c1 c2 c3 c4
      go_wp2
      exact hcut.out
  ·
    go_enter Tryd.func10, Tryd.ntmps10
    go_upto_region 1 with fail
    show Code.wp _ _ _ _ (w.alloc (.cells #[.int .i64 3, .int .i64 c, .int .i64 n, .string s, v] 24))
    generalize (w.alloc (.cells #[.int .i64 3, .int .i64 c, .int .i64 n, .string s, v] 24)) = w0 at HBX hb ⊢
    obtain ⟨c0, c1, c2, c3, c4⟩ := HBX.out w0 (Below.refl _ _)
    have HB2 : Hid (∀ W, Below w0.heap.size w0 W → Below w.heap.size w W) := Lib.hid fun W h => trans_b hb h
    clear hb
    go_upto_region 7 with fail
    go_cut [2] (fun x W => Hid (BP (.returned x) W))
    case first =>
      go_region_held3 (fun W => Below w0.heap.size w0 W ∧ W.cell? ⟨w.heap.size, 2, none⟩ = some (.int .i64 n) ∧ W.cell? ⟨w.heap.size, 3, none⟩ = some (.string s) ∧ W.cell? ⟨w.heap.size, 4, none⟩ = some v)
        (first | exact ⟨(Below.refl _ _).drew, c2, c3, c4⟩ | exact ⟨trans_b hbX hb7, keep1 hb7 x2, keep1 hb7 x3, keep1 hb7 x4⟩ | exact ⟨below_on2 hbX hb7 hbX.size _, keep_new hb7 x2 _, keep_new hb7 x3 _, keep_new hb7 x4 _⟩ | assumption)
        (first | (go_at_call 33; obtain ⟨hbX, x2, x3, x4⟩ := (‹Below w0.heap.size w0 _ ∧ _ ∧ _ ∧ _›); refine (HG.out _ (HB2.out _ hbX)).mono ?_; rintro e w4 ⟨t, x, rfl, HQ, hb7⟩))
      all_goals (go_wp2_with fail; go_meet; exact HQ)
    case rest =>
      clear c0 c1 c2 c3 c4
      go_wp2
      exact hcut.out
end Go.Proofs.YtfjgjhicinaolaaDoor
