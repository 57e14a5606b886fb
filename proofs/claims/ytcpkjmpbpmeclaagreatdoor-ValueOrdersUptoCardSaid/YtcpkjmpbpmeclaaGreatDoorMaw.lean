/- Xaa · Xbc: merged. -/
import Derived.Test.YtcpkjmpbpmeclaaGreatDoorMat
import Derived.Test.YtcpkjmpbpmeclaaGreatDoorMau
import Derived.Test.YtcpkjmpbpmeclaaGreatDoorMav
import Derived.RangeFuncWrites
import Derived.Deep.LoopGhost
import Derived.Laws.MakeOwn
namespace Go.Proofs.YtcpkjmpbpmeclaaGreatDoor
open Go.RowKit
set_option maxRecDepth 100000
set_option linter.unusedVariables false
set_option linter.unusedSimpArgs false
set_option linter.unnecessarySimpa false

/-- The blocks for the rounds' deferred calls: none has any. -/
def MarkOk (base : Nat) (W : World) (ds : List Deferred) : Prop :=
 ∃ Ds : List Nat, ds = Ds.map (fun D => { target := .collected D, args := #[] }) ∧ Ds.Nodup ∧ ∀ D ∈ Ds, base ≤ D ∧ W.heap[D]? = some (.deferred (some []))
theorem MarkOk.nil (base : Nat) (W : World) : MarkOk base W [] := ⟨[], rfl, List.nodup_nil, fun D h => by cases h⟩
theorem MarkOk.keep {base : Nat} {W W' : World} {ds : List Deferred} (h : MarkOk base W ds) (hk : ∀ (D : Nat), W.heap[D]? = some (.deferred (some [])) → W'.heap[D]? = some (.deferred (some []))) : MarkOk base W' ds := by
 obtain ⟨Ds, e, nd, hD⟩ := h
 exact ⟨Ds, e, nd, fun D hm => ⟨(hD D hm).1, hk D (hD D hm).2⟩⟩
theorem MarkOk.cons {base : Nat} {W : World} {ds : List Deferred} {D : Nat} (h : MarkOk base W ds) (hb : base ≤ D) (hD : W.heap[D]? = some (.deferred (some []))) (hnew : ∀ E, ({ target := .collected E, args := #[] } : Deferred) ∈ ds → E < D) :
  MarkOk base W ({ target := .collected D, args := #[] } :: ds) := by
 obtain ⟨Ds, rfl, nd, hE⟩ := h
 refine ⟨D :: Ds, rfl, List.nodup_cons.2 ⟨fun hm => ?_, nd⟩, fun E hm => ?_⟩
 ·exact Nat.lt_irrefl _ (hnew D (List.mem_map.2 ⟨D, hm, rfl⟩))
 ·rcases List.mem_cons.1 hm with rfl | hm
  ·exact ⟨hb, hD⟩
  ·exact hE E hm
theorem MarkOk.lt {base : Nat} {W : World} {ds : List Deferred} (h : MarkOk base W ds) : ∀ E, ({ target := .collected E, args := #[] } : Deferred) ∈ ds → E < W.heap.size := by
 obtain ⟨Ds, rfl, nd, hE⟩ := h
 intro E hm
 obtain ⟨D, hD, e⟩ := List.mem_map.1 hm
 injection e with e
 injection e with e
 subst e
 exact (Array.getElem?_eq_some_iff.1 (hE D hD).2).1
/-- The marks are shut at the end. -/
structure ShutM (base : Nat) (W W' : World) : Prop where
 b : Below base W W'
 c : ∀ (i : Nat) (cur : Array Value) (t : TypeId), W.heap[i]? = some (.cells cur t (0, 0)) → W'.heap[i]? = some (.cells cur t (0, 0))
theorem ShutM.trans {base : Nat} {A B C : World} (h : ShutM base A B) (k : ShutM base B C) : ShutM base A C := ⟨h.b.trans k.b, fun i cur t e => k.c i cur t (h.c i cur t e)⟩
theorem ShutM.put {base : Nat} {W : World} {D : Nat} (hb : base ≤ D) (hD : W.heap[D]? = some (.deferred (some []))) (o : Obj) : ShutM base W (W.putObj D o) := by
 have hl := (Array.getElem?_eq_some_iff.1 hD).1
 refine ⟨(Below.refl base W).grown (grownBy_putObj' W D o) (by omega) (fun k e => by cases e; omega), fun i cur t e => ?_⟩
 by_cases h : i = D
 ·subst h
  rw [hD] at e
  cases e
 ·exact (World.putObj_heap_other h).trans e
theorem leaves_marks {F : Fence} {n : Nat} {P : Program} {fn : Func} {tmps : Array Value} {R : Ending → World → Prop} {v : Value} {base : Nat} (hr : ∀ W', (results fn tmps).run P W' = .ok v W') :
  ∀ (ds : List Deferred) (W : World), MarkOk base W ds → (∀ W', ShutM base W W' → R (.returned v) W') → LeavesInM F n P fn tmps R ds .returning W
 | [], W, _, h => ⟨v, hr W, h W ⟨Below.refl _ _, fun _ _ _ e => e⟩⟩
 | d :: ds, W, hm, h => by
  obtain ⟨Ds, e, nd, hD⟩ := hm
  cases Ds with
  | nil => cases e
  | cons D Ds =>
   rw [List.map_cons] at e
   injection e with e1 e2
   subst e1
   subst e2
   have n1 := List.nodup_cons.1 nd
   refine ⟨by simp, .inl ⟨D, _, rfl, run_takeDeferred (hD D (by simp)).2, ?_⟩⟩
   refine leaves_marks hr _ _ ⟨Ds, rfl, n1.2, fun E hE => ⟨(hD E (by simp [hE])).1, (World.putObj_heap_other (fun e => n1.1 (by rw [← e]; exact hE))).trans (hD E (by simp [hE])).2⟩⟩ fun W' hs => h W' ((ShutM.put (hD D (by simp)).1 (hD D (by simp)).2 _).trans hs)
/-- Some numbers of a run one behind the other. -/
theorem take_of_drop {α : Type} (l : List α) (f n : Nat) : ((l.drop f).take n).length = min n (l.length - f) := by simp

theorem ERowi.piece {W : World} {g : Nat} {L : List ELi} (h : ERowi W g 0 L) (f n : Nat) : ERowi W g (f * 1) ((L.drop f).take n) := fun i hi => by
 have hi' : f + i < L.length := by simp at hi; omega
 have := h (f + i) hi'
 rw [List.getElem_take, List.getElem_drop]
 have e : 0 + (f + i) * 1 = f * 1 + i * 1 := by rw [Nat.zero_add, Nat.add_mul]
 rwa [e] at this
/-- While the pieces are merged: 'W1': the world ahead. -/
structure SortJi (w0 W1 W : World) (gb : Nat) (t : TypeId) (csz : Nat) (c' : ELi → ELi → Int) (n : Nat) (l : List ELi) (k : Nat) (on : Prop) : Prop where
 b : Below w0.heap.size w0 W
 g : W1.grownBy W (some gb)
 h : ∃ cur, W.heap[gb]? = some (.cells cur t (0, 0)) ∧ cur.size = csz
 m : on → ∃ M, ERowi W gb 0 M ∧ SortM c' n l k M
theorem SortJi.start {w0 W1 : World} {gb : Nat} {t : TypeId} {csz : Nat} (c' : ELi → ELi → Int) (n : Nat) (l : List ELi) (hb : Below w0.heap.size w0 W1) (hh : ∃ cur, W1.heap[gb]? = some (.cells cur t (0, 0)) ∧ cur.size = csz) (on : Prop) :
  SortJi w0 W1 W1 gb t csz c' n l 0 on := ⟨hb, ⟨rfl, rfl, rfl, Nat.le_refl _, fun _ _ _ => rfl⟩, hh, fun _ => ⟨[], fun i hi => by simp at hi, sortM_zero c' n l⟩⟩
theorem SortJi.turn {w0 W1 W W' : World} {gb : Nat} {t : TypeId} {csz : Nat} {c' : ELi → ELi → Int} {n : Nat} {l : List ELi} {k : Nat} {on : Prop} (h : SortJi w0 W1 W gb t csz c' n l k on) {row : Option Nat} (hg : W.grownBy W' row)
  (hrow : ∀ r, row = some r → W1.heap.size ≤ r ∧ r ≠ gb) (hw : w0.heap.size ≤ W1.heap.size) : SortJi w0 W1 W' gb t csz c' n l k on := by
 have hne : some gb ≠ row := fun e => (hrow gb e.symm).2 rfl
 obtain ⟨cur, h1, h2⟩ := h.h
 have hl := (Array.getElem?_eq_some_iff.1 h1).1
 have hk := hg.block gb hl hne
 refine ⟨h.b.grown hg (Nat.le_trans hw h.g.size) (fun r e => by have := (hrow r e).1; omega), ⟨hg.os.trans h.g.os, hg.tape.trans h.g.tape, hg.output.trans h.g.output, Nat.le_trans h.g.size hg.size, fun i hi hne' => (hg.block i (Nat.lt_of_lt_of_le hi h.g.size) fun e => by have := (hrow i e.symm).1; omega).trans (h.g.block i hi hne')⟩, ⟨cur, hk.trans h1, h2⟩, fun ho => ?_⟩
 obtain ⟨M, m1, m2⟩ := h.m ho
 exact ⟨M, m1.keep hk, m2⟩
/-- One piece more. -/
theorem SortJi.step {w0 W1 W W' : World} {gb go : Nat} {t : TypeId} {csz : Nat} {c c' : ELi → ELi → Int} {n : Nat} {l L : List ELi} {k x : Nat} {on on' : Prop} (h : SortJi w0 W1 W gb t csz c' n l k on) (hc : OrdC c') (hn : 0 < n) (hst : Stab c c' L) (hS : SortS c' n L l)
  (hM : MergeIi w0 W W' gb go t csz (x * (2 * n) * 1) (mergeL c ((l.drop (x * (2 * n))).take n) ((l.drop (x * (2 * n) + n)).take n))) (hx : x * (2 * n) < l.length) (hon : on' → on ∧ x = k) :
  SortJi w0 W1 W' gb t csz c' n l (k + 1) on' := by
 refine ⟨hM.b, grown_tr h.g hM.g, hM.h, fun ho => ?_⟩
 obtain ⟨h1, rfl⟩ := hon ho
 obtain ⟨M, m1, m2⟩ := h.m h1
 have hlen := sortM_len c' m2 (by omega)
 refine ⟨_, ERowi.app (fun i hi j u hu => ?_) ?_, sortM_next c c' hc n x L l M hn hst hS m2 hx⟩
 ·have hj : j < 1 := by have := (List.getElem?_eq_some_iff.1 hu).1; rwa [enci_len] at this
  have hlt : i * 1 + j < x * (2 * n) * 1 := by
   have := Nat.mul_le_mul_right 1 (show i + 1 ≤ x * (2 * n) by omega)
   rw [Nat.add_mul, Nat.one_mul] at this
   omega
  exact (hM.k (0 + i * 1 + j) (by omega)).trans (m1 i hi j u hu)
 ·rw [Nat.zero_add, hlen]
  exact hM.r
/-- All pieces are merged. -/
theorem SortJi.fin {w0 W1 W : World} {gb : Nat} {t : TypeId} {csz : Nat} {c' : ELi → ELi → Int} {n : Nat} {l L : List ELi} {k : Nat} {on : Prop} (h : SortJi w0 W1 W gb t csz c' n l k on) (ho : on) (hS : SortS c' n L l) (hk : l.length ≤ k * (2 * n)) :
  ∃ M, ERowi W gb 0 M ∧ SortS c' (2 * n) L M := by
 obtain ⟨M, m1, m2⟩ := h.m ho
 exact ⟨M, m1, sortM_end c' n k L l M hS m2 hk⟩

theorem ERowp.piece {W : World} {g : Nat} {L : List ELp} (h : ERowp W g 0 L) (f n : Nat) : ERowp W g (f * 17) ((L.drop f).take n) := fun i hi => by
 have hi' : f + i < L.length := by simp at hi; omega
 have := h (f + i) hi'
 rw [List.getElem_take, List.getElem_drop]
 have e : 0 + (f + i) * 17 = f * 17 + i * 17 := by rw [Nat.zero_add, Nat.add_mul]
 rwa [e] at this
/-- While the pieces are merged: 'W1': the world ahead. -/
structure SortJp (w0 W1 W : World) (gb : Nat) (t : TypeId) (csz : Nat) (c' : ELp → ELp → Int) (n : Nat) (l : List ELp) (k : Nat) (on : Prop) : Prop where
 b : Below w0.heap.size w0 W
 g : W1.grownBy W (some gb)
 h : ∃ cur, W.heap[gb]? = some (.cells cur t (0, 0)) ∧ cur.size = csz
 m : on → ∃ M, ERowp W gb 0 M ∧ SortM c' n l k M
theorem SortJp.start {w0 W1 : World} {gb : Nat} {t : TypeId} {csz : Nat} (c' : ELp → ELp → Int) (n : Nat) (l : List ELp) (hb : Below w0.heap.size w0 W1) (hh : ∃ cur, W1.heap[gb]? = some (.cells cur t (0, 0)) ∧ cur.size = csz) (on : Prop) :
  SortJp w0 W1 W1 gb t csz c' n l 0 on := ⟨hb, ⟨rfl, rfl, rfl, Nat.le_refl _, fun _ _ _ => rfl⟩, hh, fun _ => ⟨[], fun i hi => by simp at hi, sortM_zero c' n l⟩⟩
theorem SortJp.turn {w0 W1 W W' : World} {gb : Nat} {t : TypeId} {csz : Nat} {c' : ELp → ELp → Int} {n : Nat} {l : List ELp} {k : Nat} {on : Prop} (h : SortJp w0 W1 W gb t csz c' n l k on) {row : Option Nat} (hg : W.grownBy W' row)
  (hrow : ∀ r, row = some r → W1.heap.size ≤ r ∧ r ≠ gb) (hw : w0.heap.size ≤ W1.heap.size) : SortJp w0 W1 W' gb t csz c' n l k on := by
 have hne : some gb ≠ row := fun e => (hrow gb e.symm).2 rfl
 obtain ⟨cur, h1, h2⟩ := h.h
 have hl := (Array.getElem?_eq_some_iff.1 h1).1
 have hk := hg.block gb hl hne
 refine ⟨h.b.grown hg (Nat.le_trans hw h.g.size) (fun r e => by have := (hrow r e).1; omega), ⟨hg.os.trans h.g.os, hg.tape.trans h.g.tape, hg.output.trans h.g.output, Nat.le_trans h.g.size hg.size, fun i hi hne' => (hg.block i (Nat.lt_of_lt_of_le hi h.g.size) fun e => by have := (hrow i e.symm).1; omega).trans (h.g.block i hi hne')⟩, ⟨cur, hk.trans h1, h2⟩, fun ho => ?_⟩
 obtain ⟨M, m1, m2⟩ := h.m ho
 exact ⟨M, m1.keep hk, m2⟩
/-- One piece more. -/
theorem SortJp.step {w0 W1 W W' : World} {gb go : Nat} {t : TypeId} {csz : Nat} {c c' : ELp → ELp → Int} {n : Nat} {l L : List ELp} {k x : Nat} {on on' : Prop} (h : SortJp w0 W1 W gb t csz c' n l k on) (hc : OrdC c') (hn : 0 < n) (hst : Stab c c' L) (hS : SortS c' n L l)
  (hM : MergeIp w0 W W' gb go t csz (x * (2 * n) * 17) (mergeL c ((l.drop (x * (2 * n))).take n) ((l.drop (x * (2 * n) + n)).take n))) (hx : x * (2 * n) < l.length) (hon : on' → on ∧ x = k) :
  SortJp w0 W1 W' gb t csz c' n l (k + 1) on' := by
 refine ⟨hM.b, grown_tr h.g hM.g, hM.h, fun ho => ?_⟩
 obtain ⟨h1, rfl⟩ := hon ho
 obtain ⟨M, m1, m2⟩ := h.m h1
 have hlen := sortM_len c' m2 (by omega)
 refine ⟨_, ERowp.app (fun i hi j u hu => ?_) ?_, sortM_next c c' hc n x L l M hn hst hS m2 hx⟩
 ·have hj : j < 17 := by have := (List.getElem?_eq_some_iff.1 hu).1; rwa [encp_len] at this
  have hlt : i * 17 + j < x * (2 * n) * 17 := by
   have := Nat.mul_le_mul_right 17 (show i + 1 ≤ x * (2 * n) by omega)
   rw [Nat.add_mul, Nat.one_mul] at this
   omega
  exact (hM.k (0 + i * 17 + j) (by omega)).trans (m1 i hi j u hu)
 ·rw [Nat.zero_add, hlen]
  exact hM.r
/-- All pieces are merged. -/
theorem SortJp.fin {w0 W1 W : World} {gb : Nat} {t : TypeId} {csz : Nat} {c' : ELp → ELp → Int} {n : Nat} {l L : List ELp} {k : Nat} {on : Prop} (h : SortJp w0 W1 W gb t csz c' n l k on) (ho : on) (hS : SortS c' n L l) (hk : l.length ≤ k * (2 * n)) :
  ∃ M, ERowp W gb 0 M ∧ SortS c' (2 * n) L M := by
 obtain ⟨M, m1, m2⟩ := h.m ho
 exact ⟨M, m1, sortM_end c' n k L l M hS m2 hk⟩
end Go.Proofs.YtcpkjmpbpmeclaaGreatDoor
namespace Go.Proofs.YtcpkjmpbpmeclaaGreatDoor
open Go.RowKit
set_option maxRecDepth 100000
set_option linter.unusedVariables false
set_option linter.unusedSimpArgs false
set_option linter.unnecessarySimpa false

set_option maxHeartbeats 4000000 in
theorem sorti_none (q1 q2 : Nat) (A : Option Addr) (cap : Nat) (w : World) :
  Calls Tryz.prog 189 #[.slice A 0 cap, (.func (.func 190) #[] #[.pointer (some ⟨q1, 0, none⟩), .pointer (some ⟨q2, 0, none⟩)])] w fun e w' => (∃ A' c', e = .returned (.slice A' 0 c')) ∧ Below w.heap.size w w' := by
 obtain ⟨i0, z0, hi, hz0, hz1, hz2, hzs⟩ := infoi3
 have hmk : ∀ W : World, (Instr.makeSlice 93 (.int .i64 0) (.int .i64 0)).run Tryz.prog W = .ok (.slice (some ⟨W.heap.size, 0, none⟩) 0 0) (W.alloc (.cells #[] 3)) := fun W => by
  have h := run_make (P := Tryz.prog) W 93 3 i0 z0 Tryz.underlying93 hi hz0 .i64 .i64 0 0 (by omega) (by omega) (by omega) (by omega)
  rw [hz1] at h
  have e : madeCells z0.cells ((0 : Int).toNat * 1) = #[] := Array.eq_empty_of_size_eq_zero (by rw [size_madeCells]; simp)
  rw [e] at h
  exact h
 have qf : ∀ w : World, (binOp .eql 233 (.func (.func 190) #[] #[.pointer (some ⟨q1, 0, none⟩), .pointer (some ⟨q2, 0, none⟩)]) .nilFunc).run Tryz.prog w = .ok (.bool false) w := fun w => by kernel_rfl
 have HCL : Hid (∀ W, Below w.heap.size w W → Calls Tryz.prog 219 #[.slice A 0 cap] W fun e w' => (∃ A' c', e = .returned (.slice A' 0 c')) ∧ Below W.heap.size W w') :=
  Lib.hid fun W hW => clonei_none A cap W
 have hB0 : Hid (Below w.heap.size w (w.alloc (.cells #[(.func (.func 190) #[] #[.pointer (some ⟨q1, 0, none⟩), .pointer (some ⟨q2, 0, none⟩)])] 233))) := Lib.hid ((Below.refl _ w).alloc (Nat.le_refl _) _)
 clear hi hz0 hz1 hz2 hzs
 go_enter Tryz.func189, Tryz.ntmps189
 go_wp2_with (go_at_call 219; go_must (refine (HCL.out _ hB0.out).mono ?_); go_must (rintro e w1 ⟨⟨A', c', rfl⟩, hb1⟩; have HB1 := Lib.hid (trans_b hB0.out hb1); clear hb1))
 refine wp_loop_rounds 1 ?_
 rw [rounds_succ]
 go_wp2
 go_ret
 have hs := HB1.out.size
 exact ⟨⟨A', c', rfl⟩, (((HB1.out.alloc hs _).alloc (by simp; omega) _).alloc (by simp; omega) _).alloc (by simp; omega) _⟩

set_option maxHeartbeats 4000000 in
theorem sortp_none  (A : Option Addr) (cap : Nat) (w : World) :
  Calls Tryz.prog 130 #[.slice A 0 cap, (.func (.func 128) #[] #[])] w fun e w' => (∃ A' c', e = .returned (.slice A' 0 c')) ∧ Below w.heap.size w w' := by
 obtain ⟨i0, z0, hi, hz0, hz1, hz2, hzs⟩ := infop3
 have hmk : ∀ W : World, (Instr.makeSlice 119 (.int .i64 0) (.int .i64 0)).run Tryz.prog W = .ok (.slice (some ⟨W.heap.size, 0, none⟩) 0 0) (W.alloc (.cells #[] 123)) := fun W => by
  have h := run_make (P := Tryz.prog) W 119 123 i0 z0 Tryz.underlying119 hi hz0 .i64 .i64 0 0 (by omega) (by omega) (by omega) (by omega)
  rw [hz1] at h
  have e : madeCells z0.cells ((0 : Int).toNat * 17) = #[] := Array.eq_empty_of_size_eq_zero (by rw [size_madeCells]; simp)
  rw [e] at h
  exact h
 have qf : ∀ w : World, (binOp .eql 124 (.func (.func 128) #[] #[]) .nilFunc).run Tryz.prog w = .ok (.bool false) w := fun w => by kernel_rfl
 have HCL : Hid (∀ W, Below w.heap.size w W → Calls Tryz.prog 191 #[.slice A 0 cap] W fun e w' => (∃ A' c', e = .returned (.slice A' 0 c')) ∧ Below W.heap.size W w') :=
  Lib.hid fun W hW => clonep_none A cap W
 have hB0 : Hid (Below w.heap.size w (w.alloc (.cells #[(.func (.func 128) #[] #[])] 124))) := Lib.hid ((Below.refl _ w).alloc (Nat.le_refl _) _)
 clear hi hz0 hz1 hz2 hzs
 go_enter Tryz.func130, Tryz.ntmps130
 go_wp2_with (go_at_call 191; go_must (refine (HCL.out _ hB0.out).mono ?_); go_must (rintro e w1 ⟨⟨A', c', rfl⟩, hb1⟩; have HB1 := Lib.hid (trans_b hB0.out hb1); clear hb1))
 refine wp_loop_rounds 1 ?_
 rw [rounds_succ]
 go_wp2
 go_ret
 have hs := HB1.out.size
 exact ⟨⟨A', c', rfl⟩, (((HB1.out.alloc hs _).alloc (by simp; omega) _).alloc (by simp; omega) _).alloc (by simp; omega) _⟩
end Go.Proofs.YtcpkjmpbpmeclaaGreatDoor
