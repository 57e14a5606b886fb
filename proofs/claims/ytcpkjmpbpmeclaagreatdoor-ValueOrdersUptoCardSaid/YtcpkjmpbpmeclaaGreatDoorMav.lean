/- order.merge of pairs: the walk (the loads by run laws). -/
import Derived.Test.YtcpkjmpbpmeclaaGreatDoorMat
import Derived.Great.BuildSlice
namespace Go.Proofs.YtcpkjmpbpmeclaaGreatDoor
open Go.RowKit
set_option maxRecDepth 100000
set_option linter.unusedVariables false
set_option linter.unusedSimpArgs false
set_option linter.unnecessarySimpa false

theorem yieldsIf_run {P : Program} {ops : Array Oper} {S : World → Prop} {op : Oper} {a : Act} (hw : Region.wanted op (yielded ops a.tmps) = true) (ty : TypeId) (x : Operand) (ho : op.op = .load ty x)
  (p : Addr) (hx : a.eval x = .pointer (some p)) (v : Value) (hS : ∀ w, S w → Sem.run P (loadVar ty p) w = .ok v w) : YieldsIf P ops S op v a :=
 .inl ⟨hw, fun w hw' => by
  unfold execOp
  simp only [ho, hx, Instr.loadAt, Instr.sureAddr, Sem.run_bind, Sem.run_pure, Result.andThen_ok, hS w hw']⟩
theorem wpList_loadrun {P : Program} {ops : Array Oper} {rest : List Oper} {op : Oper} {a : Act} {w : World} {Q : Exit → Act → World → Prop} (hgd : op.guard = none) (ty : TypeId) (x : Operand) (ho : op.op = .load ty x)
  (p : Addr) (hx : a.eval x = .pointer (some p)) (v : Value) (hr : Sem.run P (loadVar ty p) w = .ok v w)
  (h : wpList P ops Q rest (a.put op.dst v) w) : wpList P ops Q (op :: rest) a w :=
 wpList_plain hgd fun K hK => by
  unfold Oper.wp execOp
  simp only [ho, hx, Instr.loadAt, Instr.sureAddr, Sem.run_bind, Sem.run_pure, Result.andThen_ok, hr]
  exact hK _ _ h
theorem buildp {ops : Array Oper} {rest : List Oper} {o : Oper} {a : Act} {w : World} {Q : Exit → Act → World → Prop} (hg : o.guard = none) (x : Operand) (ho : o.op = .buildSlice 119 1 #[(0, x)])
  (y : ELp) (X : Array Value) (hX : (encp y).toArray = X) (hx : a.eval x = .agg X)
  (h : wpList Tryz.prog ops Q rest (a.put o.dst (.slice (some ⟨w.heap.size, 0, none⟩) 1 1)) (w.alloc (.cells X 123))) : wpList Tryz.prog ops Q (o :: rest) a w := by
 obtain ⟨i0, hi, hz⟩ := Option.map_eq_some_iff.1 infop
 obtain ⟨z, hzz⟩ : ∃ z, i0.zero = some z := by
  have h1 : ((Tryz.prog.info? 123).bind (·.zero)).isSome = true := by kernel_rfl
  rw [hi] at h1
  exact Option.isSome_iff_exists.1 h1
 have hzs : z.cells.size = 17 := by
  have h1 : ((Tryz.prog.info? 123).bind (·.zero)).map (fun z => z.cells.size) = some 17 := by kernel_rfl
  rw [hi, Option.bind_some, hzz] at h1
  exact Option.some.inj h1
 refine wpList_buildSlice hg _ 123 1 _ ho X i0 z Tryz.underlying119 hi hzz (by rw [hz]; decide) (by rw [hz]; decide) ?_ h
 subst hX
 rw [hz]
 simp only [List.map_toArray, List.map_cons, List.map_nil, hx]
 have hs17 : (encp y).toArray.size = 17 := rfl
 obtain ⟨r, hr, hsz, hk⟩ := Great.fill_dense (s := 17) (by omega) [.agg (encp y).toArray] 0 ((Array.range (1 * 17)).map (z.cells[· % z.cells.size]!)) (fun v hv => by rw [List.mem_singleton.1 hv]; rfl) (by simp)
 refine hr.trans (congrArg some ?_)
 apply Array.ext_getElem?
 intro k
 rw [hk k]
 by_cases h17 : k < 17
 ·rw [if_pos (by simp; omega), show k / 17 - 0 = 0 by omega, show k % 17 = k by omega]
  rfl
 ·rw [if_neg (by simp; omega), Array.getElem?_eq_none (by simp; omega), Array.getElem?_eq_none (by omega)]
/-- What the order answers of elements. -/
def Cmpp (w0 : World) (c : ELp → ELp → Int) (L : List ELp) : Prop :=
 ∀ x ∈ L, ∀ y ∈ L, ∀ W, Below w0.heap.size w0 W → Calls Tryz.prog 128 #[argp x, argp y] W fun e w' => e = .returned (.int .i64 (c x y)) ∧ Below W.heap.size W w'
/-- While two lists are merged: 'm' stood there ahead, 'D' has been put behind it. -/
structure MergeIp (w0 w W : World) (gs go : Nat) (t : TypeId) (cs so : Nat) (D : List ELp) : Prop where
 b : Below w0.heap.size w0 W
 g : w.grownBy W (some gs)
 h : ∃ cur, W.heap[gs]? = some (.cells cur t (0, 0)) ∧ cur.size = cs
 r : ERowp W gs so D
 k : ∀ j, j < so → W.cell? ⟨gs, j, none⟩ = w.cell? ⟨gs, j, none⟩
theorem MergeIp.below {w0 w W W' : World} {gs go cs so : Nat} {t : TypeId} {D : List ELp} (h : MergeIp w0 w W gs go t cs so D) (hb : Below W.heap.size W W') : MergeIp w0 w W' gs go t cs so D := by
 obtain ⟨cur, h1, h2⟩ := h.h
 have hl := (Array.getElem?_eq_some_iff.1 h1).1
 exact ⟨trans_b h.b hb, grown_tr h.g ⟨hb.os, hb.tape, hb.output, hb.size, fun i hi _ => hb.block i hi⟩, ⟨cur, (hb.block gs hl).trans h1, h2⟩, h.r.keep (hb.block gs hl), fun j hj => (World.cell?_of_block (a := ⟨gs, j, none⟩) (hb.block gs hl)).trans (h.k j hj)⟩
theorem MergeIp.put {w0 w W : World} {gs go cs so : Nat} {t : TypeId} {D : List ELp} (h : MergeIp w0 w W gs go t cs so D) (hgs : w0.heap.size ≤ gs) (M : List ELp) (hfit : so + (D.length + M.length) * 17 ≤ cs) :
  MergeIp w0 w (W.setCells gs (so + D.length * 17) (M.flatMap encp)) gs go t cs so (D ++ M) := by
 obtain ⟨cur, h1, h2⟩ := h.h
 obtain ⟨cur', h3, h4⟩ := blk_setCells (M.flatMap encp) (so + D.length * 17) cur W h1
 have hb := below_setCells (M.flatMap encp) gs (so + D.length * 17) W h.b hgs
 have hsz : W.heap.size ≤ (W.setCells gs (so + D.length * 17) (M.flatMap encp)).heap.size := (below_setCells (M.flatMap encp) gs (so + D.length * 17) W (Below.refl gs W) (Nat.le_refl _)).size
 have hput := h.r.put (M := M) h1 (by omega)
 exact ⟨hb, grown_tr h.g ⟨hb.os.trans h.b.os.symm, hb.tape.trans h.b.tape.symm, hb.output.trans h.b.output.symm, hsz, fun i hi hne => World.heap_setCells_other _ _ _ _ hi (fun e => hne (by rw [e]))⟩, ⟨cur', h3, by omega⟩, hput, fun j hj => (World.cell?_setCells_out _ _ _ _ _ (fun _ _ => .inl (by show j < so + _; omega))).trans (h.k j hj)⟩
theorem newp (W : World) {y : ELp} {X : Array Value} (h : (encp y).toArray = X) (aa : Addr) (ha : some (⟨W.heap.size, 0, none⟩ : Addr) = some aa) (j : Nat) (u : Value) (hu : ([y].flatMap encp)[j]? = some u) : (W.alloc (.cells X 123)).cell? (aa.add j) = some u := by
 injection ha with ha
 subst ha
 subst h
 rw [List.flatMap_cons, List.flatMap_nil, List.append_nil] at hu
 rw [add_plain, cell_of_row _ _ _ _ _ _ (heap_alloc_new W _)]
 simpa using hu
set_option maxHeartbeats 8000000 in
theorem mergep_any (w0 w : World) (c : ELp → ELp → Int) (L A B : List ELp) (gs go cs so ao bo sc ac bc na nb : Nat) (t : TypeId) (hc : Cmpp w0  c L) (hAL : ∀ x ∈ A, x ∈ L) (hBL : ∀ x ∈ B, x ∈ L) (hgs : w0.heap.size ≤ gs) (hne : gs ≠ go) (hgo : go < w.heap.size)
  (hna : A.length = na) (hnb : B.length = nb) (hI : MergeIp w0 w w gs go t cs so []) (hA : ERowp w go ao A) (hB : ERowp w go bo B) (hac : na ≤ ac) (hbc : nb ≤ bc) (hsc : na + nb ≤ sc) (hfit : so + (na + nb) * 17 ≤ cs) (hbig : na + nb ≤ 2000000000) :
  Calls Tryz.prog 193 #[.slice (some ⟨gs, so, none⟩) 0 sc, .slice (some ⟨go, ao, none⟩) na ac, .slice (some ⟨go, bo, none⟩) nb bc, .func (.func 128) #[] #[]] w fun e w' => (∃ v, e = .returned v) ∧ MergeIp w0 w w' gs go t cs so (mergeL c A B) := by
 have HC := Lib.hid hc
 have HAB := Lib.hid (And.intro hAL hBL)
 have HI := Lib.hid hI
 have HA := Lib.hid hA
 have HB := Lib.hid hB
 have HNA := Lib.hid hna
 have HNB := Lib.hid hnb
 have HFIT := Lib.hid hfit
 have HGO := Lib.hid (And.intro hgs (And.intro hne hgo))
 obtain ⟨RES, hRES⟩ : ∃ RES, mergeL c A B = RES := ⟨_, rfl⟩
 have HRES := Lib.hid hRES
 rw [hRES]
 clear hc hAL hBL hI hA hB hna hnb hfit hRES hgs hne hgo
 go_enter Tryz.func193, Tryz.ntmps193
 go_wp2
 go_loopw [0, 1, 2] (fun t0 t1 t2 W => ∃ (A' B' D : List ELp) (na' nb' nd ao' bo' ac' bc' : Nat), t0 = .slice (some ⟨gs, so, none⟩) nd sc ∧ t1 = .slice (some ⟨go, ao', none⟩) na' ac' ∧ t2 = .slice (some ⟨go, bo', none⟩) nb' bc' ∧ na' ≤ ac' ∧ nb' ≤ bc' ∧ nd + na' + nb' = na + nb ∧
   Hid (A'.length = na' ∧ B'.length = nb' ∧ D.length = nd ∧ RES = D ++ mergeL c A' B' ∧ (∀ x ∈ A', x ∈ L) ∧ (∀ x ∈ B', x ∈ L) ∧ ERowp W go ao' A' ∧ ERowp W go bo' B' ∧ MergeIp w0 w W gs go t cs so D)) (fun _ t1 t2 _ => sliceLen t1 + sliceLen t2)
 case atStart => exact ⟨A, B, [], na, nb, 0, ao, bo, ac, bc, rfl, rfl, rfl, hac, hbc, by omega, Lib.hid ⟨HNA.out, HNB.out, rfl, by rw [List.nil_append]; exact HRES.out.symm, HAB.out.1, HAB.out.2, HA.out, HB.out, HI.out⟩⟩
 case round =>
  obtain ⟨A', B', D, na', nb', nd, ao', bo', ac', bc', rfl, rfl, rfl, hac', hbc', hnn, HH⟩ := hrel
  obtain ⟨a1, a2, a3, a4, a5, a6, a7, a8, a9⟩ := HH.out
  by_cases hz : 0 < na' ∧ 0 < nb'
  ·obtain ⟨hz1, hz2⟩ := hz
   obtain ⟨x, A2, rfl⟩ : ∃ x A2, A' = x :: A2 := by cases A' with | nil => simp at a1; omega | cons x A2 => exact ⟨x, A2, rfl⟩
   obtain ⟨y, B2, rfl⟩ : ∃ y B2, B' = y :: B2 := by cases B' with | nil => simp at a2; omega | cons y B2 => exact ⟨y, B2, rfl⟩
   obtain ⟨Xp, hXp⟩ : ∃ X, (encp x).toArray = X := ⟨_, rfl⟩
   obtain ⟨Xq, hXq⟩ : ∃ X, (encp y).toArray = X := ⟨_, rfl⟩
   have hp0 := a7 0 (by simp)
   have hq0 := a8 0 (by simp)
   have hlp : ∀ W, Below wr.heap.size wr W → Sem.run Tryz.prog (loadVar 123 ⟨go, ao', none⟩) W = .ok (.agg Xp) W := fun W hW => by
    rw [← hXp]
    refine run_loadVar_mid W go ao' 123 (encp x) _ (fun j v hv => ?_) Tryz.underlying123 rfl rfl
    have := hp0 j v hv
    rw [Nat.zero_mul, Nat.add_zero] at this
    exact keep1 hW this
   have hlq : ∀ W, Below wr.heap.size wr W → Sem.run Tryz.prog (loadVar 123 ⟨go, bo', none⟩) W = .ok (.agg Xq) W := fun W hW => by
    rw [← hXq]
    refine run_loadVar_mid W go bo' 123 (encp y) _ (fun j v hv => ?_) Tryz.underlying123 rfl rfl
    have := hq0 j v hv
    rw [Nat.zero_mul, Nat.add_zero] at this
    exact keep1 hW this
   have hcall := HC.out y (a6 y (by simp)) x (a5 x (by simp))
   rw [show argp y = .agg Xq by rw [← hXq]; rfl, show argp x = .agg Xp by rw [← hXp]; rfl] at hcall
   have HCALL := Lib.hid hcall
   have HXP := Lib.hid hXp
   have HXQ := Lib.hid hXq
   obtain ⟨z, hzz⟩ : ∃ z, c y x = z := ⟨_, rfl⟩
   have HZ := Lib.hid hzz
   rw [hzz] at HCALL
   clear hcall hXp hXq hzz hp0 hq0
   obtain ⟨na2, rfl⟩ : ∃ n, na' = n + 1 := ⟨na' - 1, by omega⟩
   obtain ⟨nb2, rfl⟩ : ∃ n, nb' = n + 1 := ⟨nb' - 1, by omega⟩
   have hb9 := Lib.hid a9.b
   have hg9 := Lib.hid a9.g
   clear a1 a2 a3 a4 a5 a6 a7 a8 a9
   by_cases hneg : z < 0
   ·have hnb : decide (z < 0) = true := decide_eq_true hneg
    have HBD : Hid (Below w0.heap.size w0 wr.drew) := Lib.hid (trans_b hb9.out (Below.refl _ _).drew)
    have HSD : Hid (Below wr.heap.size wr wr.drew) := Lib.hid (Below.refl _ _).drew
    go_upto_region 2 with fail
    refine wp_region_held_drew (S := fun X => Below wr.heap.size wr X) (by kernel_rfl) HSD.out (fun hH => ?_)
    refine wpAnyH_take (i := 0) (oi := _) (v := ?_) rfl (by kernel_rfl) (by kernel_rfl) (by kernel_rfl) (fun _ _ _ h => h) (Or.inl ⟨by rfl, ?_⟩) hH ?_
    rotate_left 1
    ·intro w hSw
     go_simp
     with_reducible rfl
    try simp only [LY]
    refine wpAnyH_take (i := 1) (oi := _) (v := ?_) rfl (by kernel_rfl) (by kernel_rfl) (by kernel_rfl) (fun _ _ _ h => h) (Or.inl ⟨by rfl, ?_⟩) hH ?_
    rotate_left 1
    ·intro w hSw
     go_simp
     with_reducible rfl
    try simp only [LY]
    refine wpAnyH_take (i := 2) (oi := _) (v := ?_) rfl (by kernel_rfl) (by kernel_rfl) (by kernel_rfl) (fun _ _ _ h => h) (Or.inl ⟨by rfl, ?_⟩) hH ?_
    rotate_left 1
    ·intro w hSw
     go_simp
     with_reducible rfl
    try simp only [LY]
    refine wpAnyH_take (i := 3) (oi := _) (v := .agg Xq) rfl (by kernel_rfl) (by kernel_rfl) (by kernel_rfl) (fun _ _ _ h => h) (yieldsIf_run (by rfl) _ _ rfl _ rfl _ hlq) hH ?_
    try simp only [LY]
    refine wpAnyH_take (i := 4) (oi := _) (v := ?_) rfl (by kernel_rfl) (by kernel_rfl) (by kernel_rfl) (fun _ _ _ h => h) (Or.inl ⟨by rfl, ?_⟩) hH ?_
    rotate_left 1
    ·intro w hSw
     go_simp
     with_reducible rfl
    try simp only [LY]
    refine wpAnyH_take (i := 5) (oi := _) (v := ?_) rfl (by kernel_rfl) (by kernel_rfl) (by kernel_rfl) (fun _ _ _ h => h) (Or.inl ⟨by rfl, ?_⟩) hH ?_
    rotate_left 1
    ·intro w hSw
     go_simp
     with_reducible rfl
    try simp only [LY]
    refine wpAnyH_take (i := 6) (oi := _) (v := .agg Xp) rfl (by kernel_rfl) (by kernel_rfl) (by kernel_rfl) (fun _ _ _ h => h) (yieldsIf_run (by rfl) _ _ rfl _ rfl _ hlp) hH ?_
    try simp only [LY]
    refine wpAnyH_ready (rs := [7]) (by kernel_rfl) (by simp) ?_
    refine AllReadyH.cons rfl (fun K hK => ?_) AllReadyH.nil
    go_simp
    go_at_call 128
    refine (HCALL.out _ HBD.out).mono ?_
    rintro e w1 ⟨rfl, hb1'⟩
    have hb1 := Lib.hid (trans_b hH hb1')
    clear hb1' hH
    go_wp2_with fail
    refine hK.out _ _ hb1.out (fun hH => ?_)
    clear hK K
    try simp only [LY]
    refine wpAnyH_take (i := 8) (oi := _) (v := ?_) rfl (by kernel_rfl) (by kernel_rfl) (by kernel_rfl) (fun _ _ _ h => h) (Or.inl ⟨by rfl, ?_⟩) hH ?_
    rotate_left 1
    ·intro w hSw
     go_simp
     with_reducible rfl
    try simp only [LY]
    refine wpAnyH_done (by kernel_rfl) ?_ _
    have hgo1 : w1.heap[go]? = wr.heap[go]? := hb1.out.block go (Nat.lt_of_lt_of_le HGO.out.2.2 hg9.out.size)
    have HM1 := Lib.hid (HH.out.2.2.2.2.2.2.2.2.below hb1.out)
    have HG1 := Lib.hid hgo1
    have HL1 := Lib.hid (hlq w1 hb1.out)
    clear hgo1 hH HBD HSD hlp hlq
    go_upto_region 3 with fail
    apply wp_region_lit
    refine wpList_plain rfl fun K hK => ?_
    go_simp
    refine hK _ _ ?_
    clear hK K
    try simp only [LY]
    refine wpList_plain rfl fun K hK => ?_
    go_simp
    refine hK _ _ ?_
    clear hK K
    try simp only [LY]
    refine wpList_plain rfl fun K hK => ?_
    go_simp
    refine hK _ _ ?_
    clear hK K
    try simp only [LY]
    refine wpList_loadrun rfl _ _ rfl _ rfl _ HL1.out ?_
    try simp only [LY]
    refine buildp rfl _ rfl y Xq HXQ.out rfl ?_
    try simp only [LY]
    obtain ⟨cur, hcur, hcs⟩ := (HM1.out.below ((Below.refl w1.heap.size w1).alloc (Nat.le_refl _) (.cells Xq 123))).h
    refine appp rfl _ _ rfl gs so nd sc rfl _ 1 1 [y] rfl rfl (fun h => by cases h) (newp w1 HXQ.out) cur t hcur (by omega) (by have := HFIT.out; omega) ?_
    try simp only [LY]
    have HM2 : Hid (MergeIp w0 w ((w1.alloc (.cells Xq 123)).setCells gs (so + nd * 17) ([y].flatMap encp)) gs go t cs so (D ++ [y])) := Lib.hid (by
     have h := (HM1.out.below ((Below.refl w1.heap.size w1).alloc (Nat.le_refl _) (.cells Xq 123))).put HGO.out.1 [y] (by have := HFIT.out; have := HH.out.2.2.1; simp only [List.length_cons, List.length_nil]; omega)
     have e1 : so + D.length * 17 = (so + nd * 17) := by have := HH.out.2.2.1; omega
     rw [e1] at h
     exact h)
    have HG2 : Hid (((w1.alloc (.cells Xq 123)).setCells gs (so + nd * 17) ([y].flatMap encp)).heap[go]? = wr.heap[go]?) := Lib.hid (by
     have hl : go < w1.heap.size := Nat.lt_of_lt_of_le (Nat.lt_of_lt_of_le HGO.out.2.2 hg9.out.size) hb1.out.size
     rw [World.heap_setCells_other _ _ _ _ (by simp; omega) (fun e => HGO.out.2.1 e.symm), Below.heap_alloc _ _ _ hl]
     exact HG1.out)
    generalize ((w1.alloc (.cells Xq 123)).setCells gs (so + nd * 17) ([y].flatMap encp)) = W4 at *
    obtain ⟨h1, h2, h3, h4, h5, h6, h7, h8, h9⟩ := HH.out
    clear hcur hcs HM1 HG1 HL1
    go_wp2
    have HR2 : RES = (D ++ [y]) ++ mergeL c (x :: A2) B2 := by
     rw [h4, mergeL_cons, if_pos (by rw [HZ.out]; exact hneg), List.append_assoc]
     rfl
    obtain ⟨bo2, hbo, hrow⟩ : ∃ bo2, (if bc' = 1 then some (⟨go, bo', none⟩ : Addr) else some ⟨go, bo' + 17, none⟩) = some ⟨go, bo2, none⟩ ∧ ERowp W4 go bo2 B2 := by
     by_cases hb1c : bc' = 1
     ·have : B2 = [] := List.eq_nil_of_length_eq_zero (by simp at h2; omega)
      subst this
      exact ⟨bo', by rw [if_pos hb1c], fun i hi => by simp at hi⟩
     ·refine ⟨bo' + 17, by rw [if_neg hb1c], ?_⟩
      have := (h8.keep HG2.out).drop (n := 1)
      simpa using this
    rw [hbo]
    refine ⟨⟨x :: A2, B2, D ++ [y], na2 + 1, nb2, nd + 1, ao', bo2, ac', bc' - 1, rfl, rfl, rfl, hac', by omega, by omega, Lib.hid ⟨h1, by simpa using h2, by simp [h3], HR2, h5, fun z hz => h6 z (List.mem_cons_of_mem _ hz), h7.keep HG2.out, hrow, HM2.out⟩⟩, ?_⟩
    show (na2 + 1) + nb2 < (na2 + 1) + (nb2 + 1)
    omega
   ·have hnb : decide (z < 0) = false := decide_eq_false hneg
    have HBD : Hid (Below w0.heap.size w0 wr.drew) := Lib.hid (trans_b hb9.out (Below.refl _ _).drew)
    have HSD : Hid (Below wr.heap.size wr wr.drew) := Lib.hid (Below.refl _ _).drew
    go_upto_region 2 with fail
    refine wp_region_held_drew (S := fun X => Below wr.heap.size wr X) (by kernel_rfl) HSD.out (fun hH => ?_)
    refine wpAnyH_take (i := 0) (oi := _) (v := ?_) rfl (by kernel_rfl) (by kernel_rfl) (by kernel_rfl) (fun _ _ _ h => h) (Or.inl ⟨by rfl, ?_⟩) hH ?_
    rotate_left 1
    ·intro w hSw
     go_simp
     with_reducible rfl
    try simp only [LY]
    refine wpAnyH_take (i := 1) (oi := _) (v := ?_) rfl (by kernel_rfl) (by kernel_rfl) (by kernel_rfl) (fun _ _ _ h => h) (Or.inl ⟨by rfl, ?_⟩) hH ?_
    rotate_left 1
    ·intro w hSw
     go_simp
     with_reducible rfl
    try simp only [LY]
    refine wpAnyH_take (i := 2) (oi := _) (v := ?_) rfl (by kernel_rfl) (by kernel_rfl) (by kernel_rfl) (fun _ _ _ h => h) (Or.inl ⟨by rfl, ?_⟩) hH ?_
    rotate_left 1
    ·intro w hSw
     go_simp
     with_reducible rfl
    try simp only [LY]
    refine wpAnyH_take (i := 3) (oi := _) (v := .agg Xq) rfl (by kernel_rfl) (by kernel_rfl) (by kernel_rfl) (fun _ _ _ h => h) (yieldsIf_run (by rfl) _ _ rfl _ rfl _ hlq) hH ?_
    try simp only [LY]
    refine wpAnyH_take (i := 4) (oi := _) (v := ?_) rfl (by kernel_rfl) (by kernel_rfl) (by kernel_rfl) (fun _ _ _ h => h) (Or.inl ⟨by rfl, ?_⟩) hH ?_
    rotate_left 1
    ·intro w hSw
     go_simp
     with_reducible rfl
    try simp only [LY]
    refine wpAnyH_take (i := 5) (oi := _) (v := ?_) rfl (by kernel_rfl) (by kernel_rfl) (by kernel_rfl) (fun _ _ _ h => h) (Or.inl ⟨by rfl, ?_⟩) hH ?_
    rotate_left 1
    ·intro w hSw
     go_simp
     with_reducible rfl
    try simp only [LY]
    refine wpAnyH_take (i := 6) (oi := _) (v := .agg Xp) rfl (by kernel_rfl) (by kernel_rfl) (by kernel_rfl) (fun _ _ _ h => h) (yieldsIf_run (by rfl) _ _ rfl _ rfl _ hlp) hH ?_
    try simp only [LY]
    refine wpAnyH_ready (rs := [7]) (by kernel_rfl) (by simp) ?_
    refine AllReadyH.cons rfl (fun K hK => ?_) AllReadyH.nil
    go_simp
    go_at_call 128
    refine (HCALL.out _ HBD.out).mono ?_
    rintro e w1 ⟨rfl, hb1'⟩
    have hb1 := Lib.hid (trans_b hH hb1')
    clear hb1' hH
    go_wp2_with fail
    refine hK.out _ _ hb1.out (fun hH => ?_)
    clear hK K
    try simp only [LY]
    refine wpAnyH_take (i := 8) (oi := _) (v := ?_) rfl (by kernel_rfl) (by kernel_rfl) (by kernel_rfl) (fun _ _ _ h => h) (Or.inl ⟨by rfl, ?_⟩) hH ?_
    rotate_left 1
    ·intro w hSw
     go_simp
     with_reducible rfl
    try simp only [LY]
    refine wpAnyH_done (by kernel_rfl) ?_ _
    have hgo1 : w1.heap[go]? = wr.heap[go]? := hb1.out.block go (Nat.lt_of_lt_of_le HGO.out.2.2 hg9.out.size)
    have HM1 := Lib.hid (HH.out.2.2.2.2.2.2.2.2.below hb1.out)
    have HG1 := Lib.hid hgo1
    have HL1 := Lib.hid (hlp w1 hb1.out)
    clear hgo1 hH HBD HSD hlp hlq
    go_upto_region 5 with fail
    apply wp_region_lit
    refine wpList_plain rfl fun K hK => ?_
    go_simp
    refine hK _ _ ?_
    clear hK K
    try simp only [LY]
    refine wpList_plain rfl fun K hK => ?_
    go_simp
    refine hK _ _ ?_
    clear hK K
    try simp only [LY]
    refine wpList_plain rfl fun K hK => ?_
    go_simp
    refine hK _ _ ?_
    clear hK K
    try simp only [LY]
    refine wpList_loadrun rfl _ _ rfl _ rfl _ HL1.out ?_
    try simp only [LY]
    refine buildp rfl _ rfl x Xp HXP.out rfl ?_
    try simp only [LY]
    obtain ⟨cur, hcur, hcs⟩ := (HM1.out.below ((Below.refl w1.heap.size w1).alloc (Nat.le_refl _) (.cells Xp 123))).h
    refine appp rfl _ _ rfl gs so nd sc rfl _ 1 1 [x] rfl rfl (fun h => by cases h) (newp w1 HXP.out) cur t hcur (by omega) (by have := HFIT.out; omega) ?_
    try simp only [LY]
    have HM2 : Hid (MergeIp w0 w ((w1.alloc (.cells Xp 123)).setCells gs (so + nd * 17) ([x].flatMap encp)) gs go t cs so (D ++ [x])) := Lib.hid (by
     have h := (HM1.out.below ((Below.refl w1.heap.size w1).alloc (Nat.le_refl _) (.cells Xp 123))).put HGO.out.1 [x] (by have := HFIT.out; have := HH.out.2.2.1; simp only [List.length_cons, List.length_nil]; omega)
     have e1 : so + D.length * 17 = (so + nd * 17) := by have := HH.out.2.2.1; omega
     rw [e1] at h
     exact h)
    have HG2 : Hid (((w1.alloc (.cells Xp 123)).setCells gs (so + nd * 17) ([x].flatMap encp)).heap[go]? = wr.heap[go]?) := Lib.hid (by
     have hl : go < w1.heap.size := Nat.lt_of_lt_of_le (Nat.lt_of_lt_of_le HGO.out.2.2 hg9.out.size) hb1.out.size
     rw [World.heap_setCells_other _ _ _ _ (by simp; omega) (fun e => HGO.out.2.1 e.symm), Below.heap_alloc _ _ _ hl]
     exact HG1.out)
    generalize ((w1.alloc (.cells Xp 123)).setCells gs (so + nd * 17) ([x].flatMap encp)) = W4 at *
    obtain ⟨h1, h2, h3, h4, h5, h6, h7, h8, h9⟩ := HH.out
    clear hcur hcs HM1 HG1 HL1
    go_wp2
    have HR2 : RES = (D ++ [x]) ++ mergeL c A2 (y :: B2) := by
     rw [h4, mergeL_cons, if_neg (by rw [HZ.out]; omega), List.append_assoc]
     rfl
    obtain ⟨ao2, hao, hrow⟩ : ∃ ao2, (if ac' = 1 then some (⟨go, ao', none⟩ : Addr) else some ⟨go, ao' + 17, none⟩) = some ⟨go, ao2, none⟩ ∧ ERowp W4 go ao2 A2 := by
     by_cases hb1c : ac' = 1
     ·have : A2 = [] := List.eq_nil_of_length_eq_zero (by simp at h1; omega)
      subst this
      exact ⟨ao', by rw [if_pos hb1c], fun i hi => by simp at hi⟩
     ·refine ⟨ao' + 17, by rw [if_neg hb1c], ?_⟩
      have := (h7.keep HG2.out).drop (n := 1)
      simpa using this
    rw [hao]
    refine ⟨⟨A2, y :: B2, D ++ [x], na2, nb2 + 1, nd + 1, ao2, bo', ac' - 1, bc', rfl, rfl, rfl, by omega, hbc', by omega, Lib.hid ⟨by simpa using h1, h2, by simp [h3], HR2, fun z hz => h5 z (List.mem_cons_of_mem _ hz), h6, hrow, h8.keep HG2.out, HM2.out⟩⟩, ?_⟩
    show na2 + (nb2 + 1) < (na2 + 1) + (nb2 + 1)
    omega
  ·have fin : ∀ (M : List ELp) (n oo cc : Nat), M.length = n → nd + n = na + nb → ERowp wr go oo M → RES = D ++ M → ∀ (ops : Array Oper) (rest : List Oper) (o : Oper) (a : Act) (Q : Exit → Act → World → Prop), o.guard = none → ∀ s x, o.op = Op.call { callee := Callee.builtin Builtin.append, args := #[s, x], argTypes := #[119, 119] } → a.eval s = .slice (some ⟨gs, so, none⟩) nd sc → a.eval x = .slice (some ⟨go, oo, none⟩) n cc →
     (∀ W2, Hid (MergeIp w0 w W2 gs go t cs so RES) → wpList Tryz.prog ops Q rest (a.put o.dst (.slice (some ⟨gs, so, none⟩) (nd + n) sc)) W2) → wpList Tryz.prog ops Q (o :: rest) a wr := fun M n oo cc hM hn hrow hR ops rest o a Q hg s x hop hs hx hK => by
    obtain ⟨cur, hcur, hcs⟩ := a9.h
    have hput := a9.put HGO.out.1 M (by have := HFIT.out; omega)
    have e1 : so + D.length * 17 = so + nd * 17 := by omega
    rw [e1, ← hR] at hput
    exact appp hg s x hop gs so nd sc hs _ n cc M hx hM (fun h => by cases h) (fun aa haa j u hu => by
     injection haa with haa
     subst haa
     rw [add_row]
     exact hrow.flat j u hu) cur t hcur (by omega) (by have := HFIT.out; omega) (hK _ (Lib.hid hput))
   by_cases h1 : 0 < na'
   ·have h2 : nb' = 0 := by omega
    subst h2
    have hB : B' = [] := List.eq_nil_of_length_eq_zero a2
    subst hB
    have HF := Lib.hid (fin A' na' ao' ac' a1 (by omega) a7 (by rw [a4, mergeL_nil2]))
    have hd1 : decide ((0 : Int) < (na' : Int)) = true := decide_eq_true (by omega)
    clear fin a1 a2 a3 a4 a5 a6 a7 a8 a9 HH
    go_wp2_with (at_builtin; refine HF.out _ _ _ _ _ rfl _ _ rfl rfl rfl ?_; intro W2 HM2)
    go_ret
    exact ⟨⟨_, rfl⟩, HM2.out⟩
   ·have h2 : na' = 0 := by omega
    subst h2
    have hA0 : A' = [] := List.eq_nil_of_length_eq_zero a1
    subst hA0
    have HF := Lib.hid (fin B' nb' bo' bc' a2 (by omega) a8 (by rw [a4, mergeL_nil]))
    by_cases h3 : nb' = 0
    ·subst h3
     have hB : B' = [] := List.eq_nil_of_length_eq_zero a2
     subst hB
     have HM0 : Hid (MergeIp w0 w wr gs go t cs so RES) := Lib.hid (by
      have e : RES = D := by rw [a4, mergeL_nil, List.append_nil]
      rw [e]
      exact a9)
     clear fin a1 a2 a3 a4 a5 a6 a7 a8 a9 HH HF
     go_wp2
     go_ret
     exact ⟨⟨_, rfl⟩, HM0.out⟩
    ·clear fin a1 a2 a3 a4 a5 a6 a7 a8 a9 HH
     go_wp2_with (at_builtin; refine HF.out _ _ _ _ _ rfl _ _ rfl rfl rfl ?_; intro W2 HM2)
     go_ret
     exact ⟨⟨_, rfl⟩, HM2.out⟩
end Go.Proofs.YtcpkjmpbpmeclaaGreatDoor
