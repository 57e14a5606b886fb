/- Vcb · Vcc · Vcd · Vce: merged. -/
import Derived.Test.YtcpkjmpbpmeclaaGreatDoorMag
import Derived.Test.YtcpkjmpbpmeclaaGreatDoorMah
import Derived.Lib.SliceRun
namespace Go.Proofs.YtcpkjmpbpmeclaaGreatDoor
open Go.RowKit
set_option maxRecDepth 100000
set_option linter.unusedVariables false
set_option linter.unusedSimpArgs false
set_option linter.unnecessarySimpa false

theorem info_u32 : (Tryz.prog.info? 92).map (fun i => (i.zero, i.size, i.bytes)) = some (some (.int .u32 0), 1, 4) := by kernel_rfl
set_option maxHeartbeats 1000000 in
theorem cloneN_any (A : Option Addr) (c : Nat) (xs : List Int) (w : World) (hn : xs.length ≤ 1000000000) (hr : RK w .u32 A xs) (hA : A = none → xs = []) :
  Calls Tryz.prog 122 #[.slice A xs.length c] w fun e w' => ∃ v, e = .returned v ∧ Hid (Own w' w.heap.size 92 .u32 v xs) ∧ Below w.heap.size w w' := by
 have q22 : ∀ (w : World) (a : Option Addr) (n c n' c' : Nat), (binOp .eql 26 (.slice a n c) (.slice none n' c')).run Tryz.prog w = .ok (.bool a.isNone) w := fun w a n c n' c' => Lib.run_eql_slice_nil w _ _ a n c n' c' Tryz.underlying26
 cases A with
 | none =>
  obtain rfl := hA rfl
  clear hr hn
  go_enter Tryz.func122, Tryz.ntmps122
  go_wp2
  go_ret
  exact ⟨_, rfl, Lib.hid (Own.nil _ _ _ _), Below.refl _ _⟩
 | some a =>
  obtain ⟨i0, hi, hzz⟩ := Option.map_eq_some_iff.1 info_u32
  simp only [Prod.mk.injEq] at hzz
  obtain ⟨hz0, hz1, hz2⟩ := hzz
  have hc : ∀ j u, (numsK .u32 xs)[j]? = some u → w.cell? (a.add j) = some u := fun j u hu => by
   simp only [numsK, List.getElem?_map, Option.map_eq_some_iff] at hu
   obtain ⟨y, hy, rfl⟩ := hu
   have hj : j < xs.length := (List.getElem?_eq_some_iff.1 hy).1
   rcases hr with h | ⟨b, off, e, h⟩
   ·subst h; simp at hj
   ·injection e with e
    subst e
    have := h j hj
    rw [List.getD_eq_getElem?_getD, hy] at this
    unfold Addr.add
    split
    ·rename_i h0; rw [h0] at this; simpa using this
    ·exact this
  have HC := Lib.hid hc
  obtain ⟨n, hm⟩ : ∃ n, xs.length = n := ⟨_, rfl⟩
  have HM := Lib.hid hm
  rw [hm] at hn ⊢
  clear hc hr hA hm
  go_enter Tryz.func122, Tryz.ntmps122
  go_wp2_with (at_builtin; refine wpList_append_own _ rfl _ _ 26 rfl w.heap.size 92 i0 (.int .u32 0) 1 4 Tryz.underlying26 hi hz0 hz1 hz2 rfl (by decide) _ _ _ rfl (World.ownsRow_made w #[] 0 (Nat.le_refl _) (Nat.zero_le _) (by simp)) a n c (numsK .u32 xs) rfl ?qc1 ?qc2 ?qc3 ?qc4 ?qc5 ?qc6 ?_)
  case qc1 => rw [numsK_length, HM.out, Nat.mul_one]
  case qc2 =>
   intro j u hj
   exact Lib.cell?_alloc_some _ (HC.out j u hj)
  case qc3 => exact numsK_one _ _
  case qc4 => rw [Nat.zero_add]; unfold maxLen; omega
  case qc5 => rw [Nat.zero_add]; omega
  case qc6 => simp
  intro v' w1 hown hgrow hnil
  have HO : Hid (Own w1 w.heap.size 92 .u32 v' xs) := Lib.hid (by unfold Own; rw [HM.out]; simpa using hown)
  have HB : Hid (Below w.heap.size w w1) := Lib.hid (((Below.refl _ w).alloc (Nat.le_refl _) _).grown hgrow (by simp) (by intro k hk; simp [Value.ownBlock] at hk; omega))
  clear hown hgrow hnil
  go_wp2
  go_ret
  exact ⟨v', rfl, HO, HB.out⟩
set_option maxHeartbeats 1000000 in
theorem cloneV_any (A : Option Addr) (c : Nat) (l : List VT) (w : World) (hn : l.length ≤ 1000000000) (hr : VRow w A l) (hA : A = none → l = []) :
  Calls Tryz.prog 123 #[.slice A l.length c] w fun e w' => ∃ v, e = .returned v ∧ Hid (KRow w.heap.size w' v l) ∧ Below w.heap.size w w' := by
 have q22 : ∀ (w : World) (a : Option Addr) (n c n' c' : Nat), (binOp .eql 29 (.slice a n c) (.slice none n' c')).run Tryz.prog w = .ok (.bool a.isNone) w := fun w a n c n' c' => Lib.run_eql_slice_nil w _ _ a n c n' c' Tryz.underlying29
 cases A with
 | none =>
  obtain rfl := hA rfl
  clear hr hn
  go_enter Tryz.func123, Tryz.ntmps123
  go_wp2
  go_ret
  exact ⟨_, rfl, Lib.hid (.inl ⟨rfl, rfl⟩), Below.refl _ _⟩
 | some a =>
  obtain ⟨i0, hi, hzz⟩ := Option.map_eq_some_iff.1 info_value
  simp only [Prod.mk.injEq] at hzz
  obtain ⟨hz0, hz1, hz2⟩ := hzz
  have HC := Lib.hid fun j u hu => flat_cell rfl hr j u hu
  have HF := Lib.hid (flat_len l)
  obtain ⟨n, hm⟩ : ∃ n, l.length = n := ⟨_, rfl⟩
  have HM := Lib.hid hm
  rw [hm] at hn ⊢
  clear hr hA hm
  go_enter Tryz.func123, Tryz.ntmps123
  go_wp2_with (at_builtin; refine wpList_append_own _ rfl _ _ 29 rfl w.heap.size 31 i0 (.agg zeroV) 8 104 Tryz.underlying29 hi hz0 hz1 hz2 rfl (by decide) _ _ _ rfl (World.ownsRow_made w #[] 0 (Nat.le_refl _) (Nat.zero_le _) (by simp)) a n c (l.flatMap VT.cells) rfl ?qc1 ?qc2 ?qc3 ?qc4 ?qc5 ?qc6 ?_)
  case qc1 => rw [HF.out, HM.out]
  case qc2 =>
   intro j u hj
   exact Lib.cell?_alloc_some _ (HC.out j u hj)
  case qc3 =>
   intro u hu
   obtain ⟨x, hx, hu⟩ := List.mem_flatMap.1 hu
   simp only [VT.cells, List.mem_cons, List.not_mem_nil, or_false] at hu
   rcases hu with rfl | rfl | rfl | rfl | rfl | rfl | rfl | rfl <;> rfl
  case qc4 => rw [Nat.zero_add]; unfold maxLen; omega
  case qc5 => rw [Nat.zero_add]; omega
  case qc6 => simp
  intro v' w1 hown hgrow hnil
  have HO : Hid (KRow w.heap.size w1 v' l) := Lib.hid (krow_of_own (by rw [HM.out]; simpa using hown))
  have HB : Hid (Below w.heap.size w w1) := Lib.hid (((Below.refl _ w).alloc (Nat.le_refl _) _).grown hgrow (by simp) (by intro k hk; simp [Value.ownBlock] at hk; omega))
  clear hown hgrow hnil
  go_wp2
  go_ret
  exact ⟨v', rfl, HO, HB.out⟩
end Go.Proofs.YtcpkjmpbpmeclaaGreatDoor
namespace Go.Proofs.YtcpkjmpbpmeclaaGreatDoor
open Go.RowKit
set_option maxRecDepth 100000
set_option linter.unusedVariables false
set_option linter.unusedSimpArgs false
set_option linter.unnecessarySimpa false

/-- The eight cells of a block. -/
theorem blk8 {W : World} {p : Nat} {t : TypeId} {a0 a1 a2 a3 a4 a5 a6 a7 : Value} (h : W.heap[p]? = some (.cells #[a0, a1, a2, a3, a4, a5, a6, a7] t (0, 0))) :
  (W.cell? ⟨p, 0, none⟩ = some a0 ∧ W.cell? ⟨p, 1, none⟩ = some a1 ∧ W.cell? ⟨p, 2, none⟩ = some a2 ∧ W.cell? ⟨p, 3, none⟩ = some a3 ∧ W.cell? ⟨p, 4, none⟩ = some a4 ∧ W.cell? ⟨p, 5, none⟩ = some a5 ∧ W.cell? ⟨p, 6, none⟩ = some a6 ∧ W.cell? ⟨p, 7, none⟩ = some a7) ∧
   W.frozen? ⟨p, 0, none⟩ = false ∧ W.frozen? ⟨p, 1, none⟩ = false ∧ W.frozen? ⟨p, 2, none⟩ = false ∧ W.frozen? ⟨p, 3, none⟩ = false ∧ W.frozen? ⟨p, 4, none⟩ = false ∧ W.frozen? ⟨p, 5, none⟩ = false ∧ W.frozen? ⟨p, 6, none⟩ = false ∧ W.frozen? ⟨p, 7, none⟩ = false := by
 have c : ∀ j : Nat, W.cell? ⟨p, j, none⟩ = (#[a0, a1, a2, a3, a4, a5, a6, a7] : Array Value)[j]? := fun j => cell_of_row _ _ _ _ _ _ h
 have f : ∀ j : Nat, W.frozen? ⟨p, j, none⟩ = false := fun j => by simp [World.frozen?, h]
 exact ⟨⟨c 0, c 1, c 2, c 3, c 4, c 5, c 6, c 7⟩, f 0, f 1, f 2, f 3, f 4, f 5, f 6, f 7⟩
/-- Eight places of a block, one behind the other. -/
theorem row8 {W : World} {g : Nat} {cur : Array Value} {t : TypeId} (h : W.heap[g]? = some (.cells cur t (0, 0))) (o : Nat) (ho : o + 8 ≤ cur.size) :
  ∃ z0 z1 z2 z3 z4 z5 z6 z7 : Value, (W.cell? ⟨g, o, none⟩ = some z0 ∧ W.cell? ⟨g, o + 1, none⟩ = some z1 ∧ W.cell? ⟨g, o + 2, none⟩ = some z2 ∧ W.cell? ⟨g, o + 3, none⟩ = some z3 ∧ W.cell? ⟨g, o + 4, none⟩ = some z4 ∧ W.cell? ⟨g, o + 5, none⟩ = some z5 ∧ W.cell? ⟨g, o + 6, none⟩ = some z6 ∧ W.cell? ⟨g, o + 7, none⟩ = some z7) ∧
   W.frozen? ⟨g, o, none⟩ = false ∧ W.frozen? ⟨g, o + 1, none⟩ = false ∧ W.frozen? ⟨g, o + 2, none⟩ = false ∧ W.frozen? ⟨g, o + 3, none⟩ = false ∧ W.frozen? ⟨g, o + 4, none⟩ = false ∧ W.frozen? ⟨g, o + 5, none⟩ = false ∧ W.frozen? ⟨g, o + 6, none⟩ = false ∧ W.frozen? ⟨g, o + 7, none⟩ = false := by
 have c : ∀ j : Nat, j < 8 → ∃ z, W.cell? ⟨g, o + j, none⟩ = some z := fun j hj => ⟨_, (cell_of_row _ _ _ _ _ _ h).trans (Array.getElem?_eq_getElem (by omega))⟩
 have f : ∀ j : Nat, W.frozen? ⟨g, j, none⟩ = false := fun j => by simp [World.frozen?, h]
 obtain ⟨z0, e0⟩ := c 0 (by decide)
 obtain ⟨z1, e1⟩ := c 1 (by decide)
 obtain ⟨z2, e2⟩ := c 2 (by decide)
 obtain ⟨z3, e3⟩ := c 3 (by decide)
 obtain ⟨z4, e4⟩ := c 4 (by decide)
 obtain ⟨z5, e5⟩ := c 5 (by decide)
 obtain ⟨z6, e6⟩ := c 6 (by decide)
 obtain ⟨z7, e7⟩ := c 7 (by decide)
 exact ⟨z0, z1, z2, z3, z4, z5, z6, z7, ⟨e0, e1, e2, e3, e4, e5, e6, e7⟩, f _, f _, f _, f _, f _, f _, f _, f _⟩
theorem there_row {W : World} {g : Nat} {cur : Array Value} {t : TypeId} (h : W.heap[g]? = some (.cells cur t (0, 0))) (o n : Nat) (ho : o + n ≤ cur.size) : W.there g o n := fun i hi => by
 refine ⟨?_, by simp [World.frozen?, h]⟩
 rw [cell_of_row _ _ _ _ _ _ h, Array.getElem?_eq_getElem (by omega)]
 rfl
/-- One of a row is written over. -/
theorem krow_set {base : Nat} {W : World} {v : Value} {l : List VT} {g n cap : Nat} {pre post : List VT} {x T : VT} (h : KRow base W v l) (hv : v = .slice (some ⟨g, 0, none⟩) n cap) (hl : l = pre ++ x :: post) :
  KRow base (W.setCells g (pre.length * 8) T.cells) v (pre ++ T :: post) := by
 subst hl
 rcases h with ⟨e, h0⟩ | ⟨g', cap', cur, e, h1, h2, h3, h4, h5, h6⟩
 ·simp at h0
 ·have eg : g' = g := by rw [hv] at e; injection e with e1; injection e1 with e1; injection e1 with e1; exact e1.symm
  subst eg
  have hlen : (pre ++ x :: post).length = (pre ++ T :: post).length := by simp
  have hln : (pre ++ x :: post).length = pre.length + post.length + 1 := by simp; omega
  obtain ⟨cs', b1, b2⟩ := blk_setCells T.cells (pre.length * 8) cur W h2
  have hth : W.there g' (pre.length * 8) T.cells.length := there_row h2 _ _ (by show _ + 8 ≤ _; omega)
  refine .inr ⟨g', cap', cs', by rw [e, hlen], h1, b1, by omega, h4, by omega, fun i hi => ?_⟩
  by_cases hip : i = pre.length
  ·subst hip
   rw [List.getElem_append_right (Nat.le_refl _)]
   simp only [Nat.sub_self, List.getElem_cons_zero]
   exact World.rangeAt_setCells_same _ _ _ _ hth
  ·have hi' : i < (pre ++ x :: post).length := by omega
   have he : (pre ++ T :: post)[i] = (pre ++ x :: post)[i] := by
    rcases Nat.lt_or_ge i pre.length with h | h
    ·rw [List.getElem_append_left h, List.getElem_append_left h]
    ·obtain ⟨q, rfl⟩ : ∃ q, i = pre.length + (q + 1) := ⟨i - pre.length - 1, by omega⟩
     rw [List.getElem_append_right (by omega), List.getElem_append_right (by omega)]
     have : pre.length + (q + 1) - pre.length = q + 1 := by omega
     simp only [this, List.getElem_cons_succ]
   rw [he]
   refine World.rangeAt_setCells_apart (h6 i hi') _ _ _ (.inr ?_)
   have e8 : ((pre ++ x :: post)[i]).cells.length = 8 := rfl
   have e9 : T.cells.length = 8 := rfl
   omega
/-- While the kids are copied: 'w' the world ahead, 'M' and 'K' the lists of the copy, 'q' where the heap ended ahead of the kids' copies. -/
structure CopyI (w W : World) (q : Nat) (cs : Array Value) (mag : List Int) (M K : Value) (l TL : List VT) (j : Nat) : Prop where
 p : W.heap[w.heap.size]? = some (.cells cs 31 (0, 0))
 r : W.heap[w.heap.size + 1]? = some (.cells zeroV 31 (0, 0))
 m : Own W (w.heap.size + 2) 92 .u32 M mag
 k : KRow (w.heap.size + 2) W K (TL ++ l.drop j)
 len : TL.length = j
 c : TL.map VT.c = (l.take j).map VT.c
 ml : ∀ b, M.ownBlock = some b → b < q
 kl : ∀ b, K.ownBlock = some b → b < q ∧ M.ownBlock ≠ some b
 mine : ∀ T ∈ TL, Mine q W T
 nd : (VT.blsL TL).Nodup
 ql : q ≤ W.heap.size
 q2 : w.heap.size + 2 ≤ q
 b : Below w.heap.size w W
theorem CopyI.step {w W w1 : World} {q g n cap : Nat} {cs : Array Value} {mag : List Int} {M K : Value} {l TL : List VT} {j : Nat} {T : VT} (h : CopyI w W q cs mag M K l TL j) (hj : j < l.length) (hK : K = .slice (some ⟨g, 0, none⟩) n cap)
  (hb : Below W.heap.size W w1) (hT : Mine W.heap.size w1 T) (hc : T.c = (l[j]).c) : CopyI w (w1.setCells g (j * 8) T.cells) q cs mag M K l (TL ++ [T]) (j + 1) := by
 have hgo : K.ownBlock = some g := by rw [hK]; rfl
 have hgq := h.kl g hgo
 have hgl := (h.k.lt g hgo)
 have hs := hb.size
 have hq := h.ql
 have hq2 := h.q2
 have hsz : w1.heap.size ≤ (w1.setCells g (j * 8) T.cells).heap.size := (below_setCells T.cells g (j * 8) w1 (Below.refl g w1) (Nat.le_refl _)).size
 have hother : ∀ k, k < W.heap.size → k ≠ g → (w1.setCells g (j * 8) T.cells).heap[k]? = W.heap[k]? := fun k hk hne => (World.heap_setCells_other _ _ _ _ (by omega) hne).trans (hb.block k hk)
 have hp := (Array.getElem?_eq_some_iff.1 h.p).1
 have hr := (Array.getElem?_eq_some_iff.1 h.r).1
 have hd : l.drop j = l[j] :: l.drop (j + 1) := List.drop_eq_getElem_cons hj
 refine ⟨(hother _ hp (by omega)).trans h.p, (hother _ hr (by omega)).trans h.r, h.m.keepB fun b hm => hother b (by have := h.ml b hm; omega) (fun e => hgq.2 (by rw [← e]; exact hm)), ?_, by simp [h.len], ?_, h.ml, h.kl, fun S hS => ?_, ?_, by omega, h.q2, ?_⟩
 ·have hk1 : KRow (w.heap.size + 2) w1 K (TL ++ l.drop j) := h.k.keep fun b hm => hb.block b (h.k.lt b hm).2
  have := krow_set (T := T) hk1 hK (by rw [hd])
  rw [h.len] at this
  simpa using this
 ·rw [List.map_append, h.c, take_moreV l j hj, ← hc]; rfl
 ·rcases List.mem_append.1 hS with hS | hS
  ·have hm := h.mine S hS
   exact hm.keepB (Nat.le_refl _) (by omega) fun b hbm => hother b (hm.rg b hbm).2 (by have := hm.rg b hbm; omega)
  ·obtain rfl : S = T := by simpa using hS
   exact hT.keepB (by omega) hsz fun b hbm => World.heap_setCells_other _ _ _ _ (hT.rg b hbm).2 (by have := hT.rg b hbm; omega)
 ·rw [VT.blsL_app]
  refine List.nodup_append.2 ⟨h.nd, by simpa [VT.blsL] using hT.nd, fun b hb1 c hc2 e => ?_⟩
  subst e
  obtain ⟨S, hS, hSb⟩ := VT.blsL_of hb1
  have h1 := (h.mine S hS).rg b hSb
  have h2 : b ∈ T.bls := by simpa [VT.blsL] using hc2
  have := hT.rg b h2
  omega
 ·exact below_setCells _ _ _ _ (trans_b h.b hb) (by omega)
/-- The copy. -/
theorem CopyI.fin {w W : World} {q : Nat} {cs : Array Value} {v : VT} {M K : Value} {TL : List VT} {n : Nat} (h : CopyI w W q cs v.mag M K v.l TL n) (hn : v.l.length = n) (hok : v.ok) (vs : List Value) :
  ∃ T : VT, (.agg #[.int .i8 v.k, .int .u64 v.n, .bool v.neg, M, .int .u64 v.bits, .int .i8 v.ext, .string v.text, K] : Value) = T.agg ∧ Mine w.heap.size (W.setCells (w.heap.size + 1) 0 vs) T ∧ T.c = v.c := by
 have hd : TL ++ v.l.drop n = TL := by rw [List.drop_eq_nil_of_le (by omega), List.append_nil]
 have hk := h.k
 rw [hd] at hk
 obtain ⟨mA, mc, rfl⟩ : ∃ mA mc, M = .slice mA v.mag.length mc := by obtain ⟨A, c, e, _⟩ := h.m.slice; exact ⟨A, c, e⟩
 obtain ⟨A, cap, rfl⟩ : ∃ A cap, K = .slice A TL.length cap := by
  rcases hk with ⟨e, h0⟩ | ⟨g, cap, cur, e, _⟩
  ·exact ⟨none, 0, by rw [e, h0]; rfl⟩
  ·exact ⟨_, _, e⟩
 have hql := h.ql
 have hq2 := h.q2
 have hsz : W.heap.size ≤ (W.setCells (w.heap.size + 1) 0 vs).heap.size := (below_setCells vs (w.heap.size + 1) 0 W (Below.refl (w.heap.size + 1) W) (Nat.le_refl _)).size
 have hoth : ∀ b, w.heap.size + 2 ≤ b → b < W.heap.size → (W.setCells (w.heap.size + 1) 0 vs).heap[b]? = W.heap[b]? := fun b h1 h2 => World.heap_setCells_other _ _ _ _ h2 (by omega)
 have eb : ∀ (X : Option Addr) (n c : Nat), (Value.slice X n c).ownBlock.toList = (X.map Addr.block).toList := fun X n c => by cases X <;> rfl
 have hM : ∀ b, b ∈ (mA.map Addr.block).toList → (Value.slice mA v.mag.length mc).ownBlock = some b := fun b hb => by
  cases mA with
  | none => simp at hb
  | some a => simp at hb; subst hb; rfl
 have hK : ∀ b, b ∈ (A.map Addr.block).toList → (Value.slice A TL.length cap).ownBlock = some b := fun b hb => by
  cases A with
  | none => simp at hb
  | some a => simp at hb; subst hb; rfl
 have hlM : ∀ b, b ∈ (mA.map Addr.block).toList → w.heap.size + 2 ≤ b ∧ b < q := fun b hb => ⟨(World.ownsRow.lt h.m b (hM b hb)).1, h.ml b (hM b hb)⟩
 have hlK : ∀ b, b ∈ (A.map Addr.block).toList → w.heap.size + 2 ≤ b ∧ b < q := fun b hb => ⟨(hk.lt b (hK b hb)).1, (h.kl b (hK b hb)).1⟩
 have hlL : ∀ b, b ∈ VT.blsL TL → q ≤ b ∧ b < W.heap.size := fun b hb => by
  obtain ⟨S, hS, hSb⟩ := VT.blsL_of hb
  exact (h.mine S hS).rg b hSb
 refine ⟨.mk v.k v.n v.neg mA mc v.mag v.bits v.ext v.text A cap TL, rfl, ⟨?_, fun b hb => ?_, ?_⟩, ?_⟩
 ·show ((mA.map Addr.block).toList ++ ((A.map Addr.block).toList ++ VT.blsL TL)).Nodup
  refine List.nodup_append.2 ⟨by cases mA <;> simp, List.nodup_append.2 ⟨by cases A <;> simp, h.nd, fun b h1 c h2 e => ?_⟩, fun b h1 c h2 e => ?_⟩
  ·subst e
   have := hlK b h1
   have := hlL b h2
   omega
  ·subst e
   rcases List.mem_append.1 h2 with h2 | h2
   ·exact (h.kl b (hK b h2)).2 (hM b h1)
   ·have := hlM b h1
    have := hlL b h2
    omega
 ·have hb' : b ∈ (mA.map Addr.block).toList ++ ((A.map Addr.block).toList ++ VT.blsL TL) := hb
  rcases List.mem_append.1 hb' with hb | hb
  ·have := hlM b hb; omega
  ·rcases List.mem_append.1 hb with hb | hb
   ·have := hlK b hb; omega
   ·have := hlL b hb; omega
 ·refine AllV.eq.2 ⟨⟨hok, ?_, ?_⟩, AllVL.of fun T hT => ?_⟩
  ·exact (h.m.keepB fun b hb => hoth b (World.ownsRow.lt h.m b hb).1 (World.ownsRow.lt h.m b hb).2).lowB (by omega)
  ·exact (hk.keep fun b hb => hoth b (hk.lt b hb).1 (hk.lt b hb).2).low (by omega)
  ·have hm := h.mine T hT
   exact nodes_keep (by omega) _ T (Nat.le_refl _) (fun b hb => hoth b (by have := hm.rg b hb; omega) (hm.rg b hb).2) hm.all
 ·rw [VT.c_iff]
  refine ⟨rfl, rfl, rfl, rfl, rfl, rfl, rfl, ?_⟩
  show TL.map VT.c = _
  rw [h.c, List.take_of_length_le (by omega)]
end Go.Proofs.YtcpkjmpbpmeclaaGreatDoor
namespace Go.Proofs.YtcpkjmpbpmeclaaGreatDoor
open Go.RowKit
set_option maxRecDepth 100000
set_option linter.unusedVariables false
set_option linter.unusedSimpArgs false
set_option linter.unnecessarySimpa false

/-- Two cells of the parameter's block are written. -/
theorem copy_start {w w1 w2 : World} {a0 a1 a2 a4 a5 a6 x3 x7 M K : Value} {mag : List Int} {l : List VT}
  (h1 : Below ((w.alloc (.cells #[a0, a1, a2, x3, a4, a5, a6, x7] 31)).alloc (.cells zeroV 31)).heap.size ((w.alloc (.cells #[a0, a1, a2, x3, a4, a5, a6, x7] 31)).alloc (.cells zeroV 31)) w1)
  (hM : Own w1 ((w.alloc (.cells #[a0, a1, a2, x3, a4, a5, a6, x7] 31)).alloc (.cells zeroV 31)).heap.size 92 .u32 M mag)
  (h2 : Below (w1.setCell ⟨w.heap.size, 3, none⟩ M).heap.size (w1.setCell ⟨w.heap.size, 3, none⟩ M) w2) (hK : KRow (w1.setCell ⟨w.heap.size, 3, none⟩ M).heap.size w2 K l) :
  ∃ q, CopyI w (w2.setCell ⟨w.heap.size, 7, none⟩ K) q #[a0, a1, a2, M, a4, a5, a6, K] mag M K l [] 0 := by
 have e0 : ((w.alloc (.cells #[a0, a1, a2, x3, a4, a5, a6, x7] 31)).alloc (.cells zeroV 31)).heap.size = w.heap.size + 2 := by simp
 rw [e0] at h1 hM
 have e1 : (w1.setCell ⟨w.heap.size, 3, none⟩ M).heap.size = w1.heap.size := by simp
 rw [e1] at h2 hK
 have hP0 : ((w.alloc (.cells #[a0, a1, a2, x3, a4, a5, a6, x7] 31)).alloc (.cells zeroV 31)).heap[w.heap.size]? = some (.cells #[a0, a1, a2, x3, a4, a5, a6, x7] 31 (0, 0)) := by
  rw [Below.heap_alloc _ _ _ (by simp)]
  exact heap_alloc_new w _
 have hR0 : ((w.alloc (.cells #[a0, a1, a2, x3, a4, a5, a6, x7] 31)).alloc (.cells zeroV 31)).heap[w.heap.size + 1]? = some (.cells zeroV 31 (0, 0)) := by
  have := heap_alloc_new (w.alloc (.cells #[a0, a1, a2, x3, a4, a5, a6, x7] 31)) (.cells zeroV 31)
  simpa using this
 have s1 := h1.size
 rw [e0] at s1
 have hP1 := (h1.block w.heap.size (by omega)).trans hP0
 have hR1 := (h1.block (w.heap.size + 1) (by omega)).trans hR0
 have hP2 := heap_setCell_same w1 w.heap.size 3 _ _ M hP1
 have hR2 : (w1.setCell ⟨w.heap.size, 3, none⟩ M).heap[w.heap.size + 1]? = _ := (heap_setCell_other w1 ⟨w.heap.size, 3, none⟩ (w.heap.size + 1) M (by simp)).trans hR1
 have s2 := h2.size
 rw [e1] at s2
 have hP3 := (h2.block w.heap.size (by omega)).trans hP2
 have hR3 := (h2.block (w.heap.size + 1) (by omega)).trans hR2
 have hP4 := heap_setCell_same w2 w.heap.size 7 _ _ K hP3
 have hR4 : (w2.setCell ⟨w.heap.size, 7, none⟩ K).heap[w.heap.size + 1]? = _ := (heap_setCell_other w2 ⟨w.heap.size, 7, none⟩ (w.heap.size + 1) K (by simp)).trans hR3
 have hMlt := fun b hb => World.ownsRow.lt hM b hb
 have hKlt := fun b hb => hK.lt b hb
 have e4 : (w2.setCell ⟨w.heap.size, 7, none⟩ K).heap.size = w2.heap.size := by simp
 have hM4 : Own (w2.setCell ⟨w.heap.size, 7, none⟩ K) (w.heap.size + 2) 92 .u32 M mag := hM.keepB fun b hb => by
  have := hMlt b hb
  rw [heap_setCell_other w2 ⟨w.heap.size, 7, none⟩ b K (by show b ≠ w.heap.size; omega), h2.block b (by omega), heap_setCell_other w1 ⟨w.heap.size, 3, none⟩ b M (by show b ≠ w.heap.size; omega)]
 have hK4 : KRow (w.heap.size + 2) (w2.setCell ⟨w.heap.size, 7, none⟩ K) K l := (hK.keep fun b hb => by
  have := hKlt b hb
  exact heap_setCell_other w2 ⟨w.heap.size, 7, none⟩ b K (by show b ≠ w.heap.size; omega)).low (by omega)
 have hB : Below w.heap.size w (w2.setCell ⟨w.heap.size, 7, none⟩ K) := by
  have b1 : Below w.heap.size w w1 := (((Below.refl _ w).alloc (Nat.le_refl _) _).alloc (by simp) _).trans (h1.mono (by omega))
  have b2 : Below w.heap.size w (w1.setCell ⟨w.heap.size, 3, none⟩ M) := below_setCells [M] w.heap.size 3 w1 b1 (Nat.le_refl _)
  have b3 : Below w.heap.size w w2 := b2.trans (h2.mono (by omega))
  exact below_setCells [K] w.heap.size 7 w2 b3 (Nat.le_refl _)
 exact ⟨w2.heap.size, hP4, hR4, hM4, by simpa using hK4, rfl, by simp, fun b hb => by have := hMlt b hb; omega, fun b hb => ⟨(hKlt b hb).2, fun e => by have := hMlt b e; have := hKlt b hb; omega⟩, fun T hT => by simp at hT, by simp [VT.blsL], by omega, by omega, hB⟩
set_option maxHeartbeats 2000000 in
theorem copyW (k n bs ex : Int) (ng : Bool) (tx : ByteArray) (mA A : Option Addr) (ml mc m cp : Nat) (mag : List Int) (l : List VT) (Q : Value → World → Prop) (w : World) (hm : l.length = m) (hmx : m ≤ 1000000000)
  (HM : Hid (∀ W, Below w.heap.size w W → Calls Tryz.prog 122 #[.slice mA ml mc] W fun e w' => ∃ gA gc, e = .returned (.slice gA ml gc) ∧ Hid (Own w' W.heap.size 92 .u32 (.slice gA ml gc) mag) ∧ Below W.heap.size W w'))
  (HK : Hid (∀ W, Below w.heap.size w W → Calls Tryz.prog 123 #[.slice A m cp] W fun e w' => ∃ gA gc, e = .returned (.slice gA m gc) ∧ Hid (KRow W.heap.size w' (.slice gA m gc) l) ∧ Below W.heap.size W w'))
  (HC : Hid (∀ i (h : i < l.length) W, Below w.heap.size w W → Calls Tryz.prog 32 #[(l[i]).agg] W fun e w' => ∃ T : VT, e = .returned T.agg ∧ Hid (Mine W.heap.size w' T ∧ T.c = (l[i]).c) ∧ Below W.heap.size W w'))
  (HQ : Hid (∀ W q M K TL vs, CopyI w W q #[.int .i8 k, .int .u64 n, .bool ng, M, .int .u64 bs, .int .i8 ex, .string tx, K] mag M K l TL m → Q (.agg #[.int .i8 k, .int .u64 n, .bool ng, M, .int .u64 bs, .int .i8 ex, .string tx, K]) (W.setCells (w.heap.size + 1) 0 vs))) :
  Calls Tryz.prog 32 #[.agg #[.int .i8 k, .int .u64 n, .bool ng, .slice mA ml mc, .int .u64 bs, .int .i8 ex, .string tx, .slice A m cp]] w fun e w' => ∃ v, e = .returned v ∧ Q v w' ∧ Below w.heap.size w w' := by
 have HL := Lib.hid hm
 clear hm
 have hb0 : Below w.heap.size w ((w.alloc (.cells #[.int .i8 k, .int .u64 n, .bool ng, .slice mA ml mc, .int .u64 bs, .int .i8 ex, .string tx, .slice A m cp] 31)).alloc (.cells zeroV 31)) := ((Below.refl _ _).alloc (Nat.le_refl _) _).alloc (by simp) _
 have HB0 := Lib.hid hb0
 clear hb0
 have hP : ((w.alloc (.cells #[.int .i8 k, .int .u64 n, .bool ng, .slice mA ml mc, .int .u64 bs, .int .i8 ex, .string tx, .slice A m cp] 31)).alloc (.cells zeroV 31)).heap[w.heap.size]? = some (.cells #[.int .i8 k, .int .u64 n, .bool ng, .slice mA ml mc, .int .u64 bs, .int .i8 ex, .string tx, .slice A m cp] 31 (0, 0)) := by
  rw [Below.heap_alloc _ _ _ (by simp)]
  exact heap_alloc_new w _
 have HP := Lib.hid hP
 clear hP
 go_enter Tryz.func32, Tryz.ntmps32
 go_upto_region 1 with fail
 show Code.wp _ _ _ _ ((w.alloc (.cells #[.int .i8 k, .int .u64 n, .bool ng, .slice mA ml mc, .int .u64 bs, .int .i8 ex, .string tx, .slice A m cp] 31)).alloc (.cells zeroV 31))
 obtain ⟨W0, hW0⟩ : ∃ W0, ((w.alloc (.cells #[.int .i8 k, .int .u64 n, .bool ng, .slice mA ml mc, .int .u64 bs, .int .i8 ex, .string tx, .slice A m cp] 31)).alloc (.cells zeroV 31)) = W0 := ⟨_, rfl⟩
 have HW0 := Lib.hid hW0
 rw [hW0] at HB0 HP ⊢
 clear hW0
 obtain ⟨⟨c0, c1, c2, c3, c4, c5, c6, c7⟩, f0, f1, f2, f3, f4, f5, f6, f7⟩ := blk8 HP.out
 go_upto_region 4 with (first
  | (go_at_call 122; refine (HM.out _ HB0.out).mono ?_; rintro e w1 ⟨MA, MC, rfl, hM, hb1'⟩; have hb1 := Lib.hid hb1'; clear hb1'; obtain ⟨⟨u0, u1, u2, u3, u4, u5, u6, u7⟩, s0, s1, s2, s3, s4, s5, s6, s7⟩ := blk8 ((hb1.out.block _ (Array.getElem?_eq_some_iff.1 HP.out).1).trans HP.out))
  | (go_at_call 123; refine (HK.out (w1.setCell ⟨w.heap.size, 3, none⟩ (.slice MA ml MC)) (below_setCells [.slice MA ml MC] w.heap.size 3 w1 (trans_b HB0.out hb1.out) (Nat.le_refl _))).mono ?_; rintro e w2 ⟨KA, KC, rfl, hK, hb2'⟩; have hb2 := Lib.hid hb2'; clear hb2'; obtain ⟨⟨d0, d1, d2, d3, d4, d5, d6, d7⟩, g0, g1, g2, g3, g4, g5, g6, g7⟩ := blk8 ((hb2.out.block _ (by have := (Array.getElem?_eq_some_iff.1 HP.out).1; have := hb1.out.size; simp; omega)).trans (heap_setCell_same w1 w.heap.size 3 _ _ (.slice MA ml MC) ((hb1.out.block _ (Array.getElem?_eq_some_iff.1 HP.out).1).trans HP.out))))
  )
 have hst : ∃ q, CopyI w (w2.setCell ⟨w.heap.size, 7, none⟩ (.slice KA m KC)) q #[.int .i8 k, .int .u64 n, .bool ng, .slice MA ml MC, .int .u64 bs, .int .i8 ex, .string tx, .slice KA m KC] mag (.slice MA ml MC) (.slice KA m KC) l [] 0 := by
  have e := HW0.out
  subst e
  exact copy_start hb1.out hM.out hb2.out hK.out
 obtain ⟨q, hst⟩ := hst
 have HST := Lib.hid hst
 clear hst c0 c1 c2 c3 c4 c5 c6 c7 f0 f1 f2 f3 f4 f5 f6 f7 d0 d1 d2 d3 d4 d5 d6 d7 g0 g1 g2 g3 g4 g5 g6 g7 u0 u1 u2 u3 u4 u5 u6 u7 s0 s1 s2 s3 s4 s5 s6 s7 HM HK HB0 HP hM hb1 hb2 hK
 go_loopw [17] (fun i W => ∃ (j : Nat) (TL : List VT), j ≤ m ∧ i = .int .i64 j ∧ Hid (CopyI w W q #[.int .i8 k, .int .u64 n, .bool ng, .slice MA ml MC, .int .u64 bs, .int .i8 ex, .string tx, .slice KA m KC] mag (.slice MA ml MC) (.slice KA m KC) l TL j)) (fun i _ => m - (intOf i).toNat)
 case atStart => exact ⟨0, [], by omega, rfl, HST⟩
 case round =>
  obtain ⟨j, TL, hj, rfl, HI⟩ := hrel
  by_cases hlt : j < m
  ·have hjl : j < l.length := by rw [HL.out]; exact hlt
   have HJL := Lib.hid hjl
   have hk := HI.out.k
   obtain ⟨g, rfl⟩ : ∃ g, KA = some ⟨g, 0, none⟩ := by
    rcases hk with ⟨e, h0⟩ | ⟨g, cap, cur, e, _⟩
    ·have := HI.out.len
     simp at h0
     omega
    ·injection e with e1
     exact ⟨g, e1⟩
   obtain ⟨y, hy⟩ : ∃ y, l[j]'hjl = y := ⟨_, rfl⟩
   have hkj := HC.out j hjl
   rw [hy] at hkj
   have hlen : (TL ++ l.drop j).length = m := by rw [List.length_append, List.length_drop, HI.out.len, HL.out]; omega
   have hjl2 : j < (TL ++ l.drop j).length := by rw [hlen]; exact hlt
   have hel : (TL ++ l.drop j)[j] = y := by
    rw [← hy]
    rw [List.getElem_append_right (by rw [HI.out.len]; exact Nat.le_refl _)]
    simp only [HI.out.len, Nat.sub_self, List.getElem_drop, Nat.add_zero]
   obtain ⟨cap, cur, hcur, hsz, hcm, hrw⟩ : ∃ cap cur, wr.heap[g]? = some (.cells cur 31 (0, 0)) ∧ cur.size = cap * 8 ∧ m ≤ cap ∧ VRow wr (some ⟨g, 0, none⟩) (TL ++ l.drop j) := by
    rcases hk with ⟨e, _⟩ | ⟨g', cap, cur, e, h1, h2, h3, h4, h5, h6⟩
    ·cases e
    ·injection e with e1
     injection e1 with e1
     injection e1 with e1
     subst e1
     rw [hlen] at h3
     exact ⟨cap, cur, h2, h5, h3, .inr ⟨g, 0, rfl, fun i hi k u hu => by rw [Nat.zero_add]; exact h6 i hi k u hu⟩⟩
   have HCUR := Lib.hid hcur
   have HSZ := Lib.hid hsz
   have hgl := (Array.getElem?_eq_some_iff.1 hcur).1
   obtain ⟨b, off, xk, xn, xg, xmA, xml, xmc, xb, xe, xt, xA, xl, xc, hbo, r0, r1, r2, r3, r4, r5, r6, r7, hC⟩ := hrw.kid hjl2 (C := fun u => ∀ W, Below w.heap.size w W → Calls Tryz.prog 32 #[u] W fun e w' => ∃ T : VT, e = .returned T.agg ∧ Hid (Mine W.heap.size w' T ∧ T.c = y.c) ∧ Below W.heap.size W w') (by rw [hel]; exact hkj)
   injection hbo with hbo
   injection hbo with e1 e2 e3
   subst e1
   subst e2
   simp only [Nat.zero_add] at r0 r1 r2 r3 r4 r5 r6 r7
   have HCC := Lib.hid hC
   have HGL := Lib.hid hgl
   have p7 := (blk8 HI.out.p).1.2.2.2.2.2.2.2
   have HPL := Lib.hid (Array.getElem?_eq_some_iff.1 HI.out.p).1
   have HEND : Hid (∀ w1 T, Below wr.heap.size wr w1 → Mine wr.heap.size w1 T ∧ T.c = y.c → CopyI w (w1.setCells g (j * 8) T.cells) q #[.int .i8 k, .int .u64 n, .bool ng, .slice MA ml MC, .int .u64 bs, .int .i8 ex, .string tx, .slice (some ⟨g, 0, none⟩) m KC] mag (.slice MA ml MC) (.slice (some ⟨g, 0, none⟩) m KC) l (TL ++ [T]) (j + 1)) := Lib.hid fun w1 T h1 h2 => HI.out.step hjl rfl h1 h2.1 (by rw [hy]; exact h2.2)
   have HBI := Lib.hid HI.out.b
   have hfit : j * 8 + 8 ≤ cur.size := by rw [hsz]; omega
   have HFIT := Lib.hid hfit
   clear hfit hk hlen hjl2 hel hcur hsz hrw hgl hC HI hkj HJL hy hjl HC HST HQ
   go_upto_region 6 with fail
   go_region_law (go_simp; go_at_call 32; refine (HCC.out _ (by first | exact HBI.out | exact trans_b HBI.out (Below.refl _ _).drew)).mono ?_; rintro e w1 ⟨T, he, HT, hb1'⟩; have hb1 : Hid (Below wr.heap.size wr w1) := Lib.hid (by first | exact hb1' | exact ((Below.refl wr.heap.size wr).drew).trans hb1'); obtain ⟨t0, t1, t2, t3A, t3n, t3c, t4, t5, t6, t7A, t7n, t7c, hTa, hTc⟩ : ∃ t0 t1 t2 t3A t3n t3c t4 t5 t6 t7A t7n t7c, T.agg = .agg #[.int .i8 t0, .int .u64 t1, .bool t2, .slice t3A t3n t3c, .int .u64 t4, .int .i8 t5, .string t6, .slice t7A t7n t7c] ∧ T.cells = [.int .i8 t0, .int .u64 t1, .bool t2, .slice t3A t3n t3c, .int .u64 t4, .int .i8 t5, .string t6, .slice t7A t7n t7c] := ⟨_, _, _, _, _, _, _, _, _, _, _, _, rfl, rfl⟩; rw [hTa] at he; subst he; have HTC := Lib.hid hTc; clear hTc hTa hb1'; have q7 := keep1 hb1.out p7; obtain ⟨z0, z1, z2, z3, z4, z5, z6, z7, ⟨d0, d1, d2, d3, d4, d5, d6, d7⟩, g0, g1, g2, g3, g4, g5, g6, g7⟩ := row8 ((hb1.out.block _ HGL.out).trans HCUR.out) (j * 8) HFIT.out; clear r0 r1 r2 r3 r4 r5 r6 r7 p7)
   all_goals (
    have HE := HEND.out w1 T hb1.out HT.out
    rw [HTC.out] at HE
    have HE := Lib.hid HE
    clear d0 d1 d2 d3 d4 d5 d6 d7 g0 g1 g2 g3 g4 g5 g6 g7 q7
    go_wp2
    exact ⟨⟨j + 1, TL ++ [T], by omega, by go_num, HE⟩, by simp [intOf]; omega⟩)
  ·obtain rfl : j = m := by omega
   obtain ⟨⟨c0, c1, c2, c3, c4, c5, c6, c7⟩, f0, f1, f2, f3, f4, f5, f6, f7⟩ := blk8 HI.out.p
   obtain ⟨⟨d0, d1, d2, d3, d4, d5, d6, d7⟩, g0, g1, g2, g3, g4, g5, g6, g7⟩ := blk8 HI.out.r
   have hT2 : wr.there (w.heap.size + 1) 0 8 := there_row HI.out.r _ _ (Nat.le_refl _)
   have hLd := run_loadVar_mid (P := Tryz.prog) (wr.setCells (w.heap.size + 1) 0 [.int .i8 k, .int .u64 n, .bool ng, .slice MA ml MC, .int .u64 bs, .int .i8 ex, .string tx, .slice KA j KC]) (w.heap.size + 1) 0 31 [.int .i8 k, .int .u64 n, .bool ng, .slice MA ml MC, .int .u64 bs, .int .i8 ex, .string tx, .slice KA j KC] _ (World.rangeAt_setCells_same _ _ _ _ hT2) Tryz.underlying31 rfl size_value
   have hqq := HQ.out wr q (.slice MA ml MC) (.slice KA j KC) TL [.int .i8 k, .int .u64 n, .bool ng, .slice MA ml MC, .int .u64 bs, .int .i8 ex, .string tx, .slice KA j KC] HI.out
   have hBZ : Below w.heap.size w (wr.setCells (w.heap.size + 1) 0 [.int .i8 k, .int .u64 n, .bool ng, .slice MA ml MC, .int .u64 bs, .int .i8 ex, .string tx, .slice KA j KC]) := below_setCells _ _ 0 _ HI.out.b (Nat.le_succ _)
   have HQQ := Lib.hid hqq
   have HBZ := Lib.hid hBZ
   have HLD := Lib.hid hLd
   clear hT2 hLd hqq hBZ HI HC HST HQ
   go_wp2
   refine bodyPost_ret (v := .agg #[.int .i8 k, .int .u64 n, .bool ng, .slice MA ml MC, .int .u64 bs, .int .i8 ex, .string tx, .slice KA j KC]) ?_ rfl ⟨_, rfl, HQQ.out, HBZ.out⟩
   have hLd := HLD.out
   simp only [World.setCells, Nat.zero_add] at hLd
   simp [results, Tryz.results32, hLd, asAddr, Act.put]
end Go.Proofs.YtcpkjmpbpmeclaaGreatDoor
namespace Go.Proofs.YtcpkjmpbpmeclaaGreatDoor
open Go.RowKit
set_option maxRecDepth 100000
set_option linter.unusedVariables false
set_option linter.unusedSimpArgs false
set_option linter.unnecessarySimpa false

theorem copyV_n : ∀ (q : Nat) (v : VT) (w : World), v.sz ≤ q → v.sz ≤ 1000000000 → In w v →
  Calls Tryz.prog 32 #[v.agg] w fun e w' => ∃ T : VT, e = .returned T.agg ∧ Hid (Mine w.heap.size w' T ∧ T.c = v.c) ∧ Below w.heap.size w w'
 | 0, v, w, h, _, _ => by have := v.sz_pos; omega
 | q + 1, v, w, h, hz, hI => by
  have hln := VT.szL_len v.l
  have hs := VT.sz_l v
  have pv := hI.parts
  have h1 := copyW v.k v.n v.bits v.ext v.neg v.text v.mA v.A v.mag.length v.mcap v.l.length v.cap v.mag v.l (fun u w' => ∃ T : VT, u = T.agg ∧ Mine w.heap.size w' T ∧ T.c = v.c) w rfl (by omega)
   (Lib.hid fun W hW => (cloneN_any v.mA v.mcap v.mag W (by omega) (pv.mr.below hW) (fun e => by
     have := pv.mz e
     have := pv.ml
     exact List.eq_nil_of_length_eq_zero (by omega))).mono fun e w' ⟨u, e1, hO, hb⟩ => by
    obtain ⟨A, c, e2, _⟩ := hO.out.slice
    exact ⟨A, c, by rw [e1, e2], by rw [← e2]; exact hO, hb⟩)
   (Lib.hid fun W hW => (cloneV_any v.A v.cap v.l W (by omega) (pv.row.below hW) (fun e => by
     have := pv.lz e
     have := pv.ll
     exact List.eq_nil_of_length_eq_zero (by omega))).mono fun e w' ⟨u, e1, hO, hb⟩ => by
    obtain ⟨A, c, e2⟩ : ∃ A c, u = .slice A v.l.length c := by
     rcases hO.out with ⟨e, h0⟩ | ⟨g, cap, cur, e, _⟩
     ·exact ⟨none, 0, by rw [e, h0]; rfl⟩
     ·exact ⟨_, _, e⟩
    exact ⟨A, c, by rw [e1, e2], by rw [← e2]; exact hO, hb⟩)
   (Lib.hid fun i hi W hW => by
    have hm : v.l[i] ∈ v.l := List.getElem_mem hi
    have := VT.kid_sz hm
    exact copyV_n q _ W (by omega) (by omega) ((hI.kid hm).below hW))
   (Lib.hid fun W q M K TL vs hC => hC.fin rfl pv.ok vs)
  exact h1.mono fun e w' ⟨u, e1, ⟨T, e2, h2, h3⟩, hb⟩ => ⟨T, by rw [e1, e2], Lib.hid ⟨h2, h3⟩, hb⟩
theorem copyV_any (v : VT) (w : World) (hz : v.sz ≤ 1000000000) (hI : In w v) :
  Calls Tryz.prog 32 #[v.agg] w fun e w' => ∃ T : VT, e = .returned T.agg ∧ Hid (Mine w.heap.size w' T ∧ T.c = v.c) ∧ Below w.heap.size w w' := copyV_n _ v w (Nat.le_refl _) hz hI
end Go.Proofs.YtcpkjmpbpmeclaaGreatDoor
