/- Vyd · Vye: merged. -/
import Derived.Test.YtcpkjmpbpmeclaaGreatDoorMao
import Derived.Laws.EntriesVeiled
import Derived.Deep.DeepMust
namespace Go.Proofs.YtcpkjmpbpmeclaaGreatDoor
open Go.RowKit
set_option maxRecDepth 100000
set_option linter.unusedVariables false
set_option linter.unusedSimpArgs false
set_option linter.unnecessarySimpa false

/-- What walk answers. -/
def walkR : Option (List Nat) → Value
 | some r => .tuple #[.string (strU (pathB r)), .bool true]
 | none => .tuple #[.string ⟨#[]⟩, .bool false]
theorem winv_start (w : World) (N : FuncId) (a0 a1 a2 a3 a4 a5 a6 a7 : Value) :
  WInv w N [] ((((w.alloc (.cells #[a0, a1, a2, a3, a4, a5, a6, a7] 31)).alloc (.cells #[.func (.func N) #[] #[]] 86)).alloc (.cells #[.slice none 0 0] 93)).alloc (.cells #[visitF w.heap.size] 86)) := by
 have e : ∀ (X : World) (o : Obj), (X.alloc o).heap.size = X.heap.size + 1 := fun X o => by simp
 have old : ∀ (X : World) (o : Obj) (i : Nat), i < X.heap.size → (X.alloc o).heap[i]? = X.heap[i]? := fun X o i hi => Below.heap_alloc X o i hi
 have new : ∀ (X : World) (o : Obj) (i : Nat), i = X.heap.size → (X.alloc o).heap[i]? = some o := fun X o i hi => by rw [hi]; exact heap_alloc_new X o
 refine ⟨((((Below.refl _ w).alloc (Nat.le_refl _) _).alloc (by simp) _).alloc (by simp; omega) _).alloc (by simp; omega) _, ?_, ?_, ⟨.slice none 0 0, ?_, Own.nil _ _ _ _⟩, by simp⟩
 ·rw [old _ _ _ (by simp), old _ _ _ (by simp), new _ _ _ (by simp)]
 ·rw [new _ _ _ (by simp)]
 ·rw [old _ _ _ (by simp), new _ _ _ (by simp)]
set_option maxHeartbeats 4000000 in
theorem walkW (k n bs ex : Int) (ng : Bool) (tx : ByteArray) (mA A : Option Addr) (ml mc m cp : Nat) (N : FuncId) (q : Option (List Nat)) (w : World) (hq : ∀ r, q = some r → r.length ≤ 1000000000 ∧ ∀ n ∈ r, n ≤ 1000000000) (hP : Pow w)
  (HV : Hid (∀ W, WInv w N [] W → Calls Tryz.prog 134 #[.agg #[.int .i8 k, .int .u64 n, .bool ng, .slice mA ml mc, .int .u64 bs, .int .i8 ex, .string tx, .slice A m cp], .int .i64 0, .pointer (some ⟨w.heap.size + 1, 0, none⟩), .pointer (some ⟨w.heap.size + 2, 0, none⟩), .pointer (some ⟨w.heap.size + 3, 0, none⟩)] W fun e w' => e = .returned (.bool q.isSome) ∧ WInv w N (q.getD []) w')) :
  Calls Tryz.prog 46 #[.agg #[.int .i8 k, .int .u64 n, .bool ng, .slice mA ml mc, .int .u64 bs, .int .i8 ex, .string tx, .slice A m cp], .func (.func N) #[] #[]] w fun e w' => e = .returned (walkR q) ∧ Below w.heap.size w w' := by
 have hmf : ∀ (fn : Fn) (first cap : Array Value) (w : World), (Instr.makeFunc fn first cap).run Tryz.prog w = .ok (.func fn first cap) w := fun _ _ _ _ => rfl
 have HI := Lib.hid (winv_start w N (.int .i8 k) (.int .u64 n) (.bool ng) (.slice mA ml mc) (.int .u64 bs) (.int .i8 ex) (.string tx) (.slice A m cp))
 have HQ := Lib.hid hq
 have HP := Lib.hid hP
 clear hq hP
 go_enter Tryz.func46, Tryz.ntmps46
 go_upto_region 4 with fail
 rw [show w.heap.size + 1 + 1 + 1 = w.heap.size + 3 from rfl, show w.heap.size + 1 + 1 = w.heap.size + 2 from rfl]
 have hP0 := heap_alloc_new w (.cells #[.int .i8 k, .int .u64 n, .bool ng, .slice mA ml mc, .int .u64 bs, .int .i8 ex, .string tx, .slice A m cp] 31)
 have hP1 : ((((w.alloc (.cells #[.int .i8 k, .int .u64 n, .bool ng, .slice mA ml mc, .int .u64 bs, .int .i8 ex, .string tx, .slice A m cp] 31)).alloc (.cells #[.func (.func N) #[] #[]] 86)).alloc (.cells #[.slice none 0 0] 93)).alloc (.cells #[visitF w.heap.size] 86)).heap[w.heap.size]? = some (.cells #[.int .i8 k, .int .u64 n, .bool ng, .slice mA ml mc, .int .u64 bs, .int .i8 ex, .string tx, .slice A m cp] 31 (0, 0)) := by
  rw [Below.heap_alloc _ _ _ (by simp <;> omega), Below.heap_alloc _ _ _ (by simp <;> omega), Below.heap_alloc _ _ _ (by simp <;> omega)]
  exact hP0
 clear hP0
 show Code.wp _ _ _ _ ((((w.alloc (.cells #[.int .i8 k, .int .u64 n, .bool ng, .slice mA ml mc, .int .u64 bs, .int .i8 ex, .string tx, .slice A m cp] 31)).alloc (.cells #[.func (.func N) #[] #[]] 86)).alloc (.cells #[.slice none 0 0] 93)).alloc (.cells #[visitF w.heap.size] 86))
 generalize ((((w.alloc (.cells #[.int .i8 k, .int .u64 n, .bool ng, .slice mA ml mc, .int .u64 bs, .int .i8 ex, .string tx, .slice A m cp] 31)).alloc (.cells #[.func (.func N) #[] #[]] 86)).alloc (.cells #[.slice none 0 0] 93)).alloc (.cells #[visitF w.heap.size] 86)) = W0 at *
 obtain ⟨⟨c0, c1, c2, c3, c4, c5, c6, c7⟩, -⟩ := blk8 hP1
 have v1 : W0.cell? ⟨w.heap.size + 3, 0, none⟩ = some (.func (.func 134) #[] #[.pointer (some ⟨w.heap.size + 1, 0, none⟩), .pointer (some ⟨w.heap.size + 2, 0, none⟩), .pointer (some ⟨w.heap.size + 3, 0, none⟩)]) := (blk1 HI.out.v).1
 clear hP1 hmf
 cases q with
 | none =>
  go_wp2_with (go_at_call 134; go_must (refine (HV.out _ HI.out).mono ?_); go_must (rintro e w1 ⟨rfl, hI1⟩))
  go_ret2
  exact ⟨rfl, hI1.b⟩
 | some r =>
  have hrr := HQ.out r rfl
  have HRL := Lib.hid hrr.1
  have HRS := Lib.hid hrr.2
  clear hrr HQ
  go_wp2_with (go_at_call 134; go_must (refine (HV.out _ HI.out).mono ?_); go_must (rintro e w1 ⟨rfl, hI1'⟩; have HI1 : Hid (WInv w N r w1) := Lib.hid hI1'; clear hI1'; obtain ⟨sl, hs, hO⟩ := HI1.out.s; obtain ⟨sA, sc, hsl, hrk, -, -⟩ := hO.slice; rw [nums_len] at hsl; subst hsl; obtain ⟨y1, y2⟩ := blk1 hs; have y3 := keep1 ((Below.refl w1.heap.size w1).alloc (Nat.le_refl _) (.cells #[.pointer none, .slice none 0 0] 133)) y1; have HRK := Lib.hid hrk; clear c0 c1 c2 c3 c4 c5 c6 c7 v1 hs hO hrk))
  obtain ⟨np, hnp⟩ : ∃ np, r.length = np := ⟨_, rfl⟩
  have HNP := Lib.hid hnp
  rw [hnp] at y3 y1 ⊢
  have hnb := HRL.out
  rw [hnp] at hnb
  have hba : Below w1.heap.size w1 (w1.alloc (.cells #[.pointer none, .slice none 0 0] 133)) := (Below.refl _ _).alloc (Nat.le_refl _) _
  have HB1 := Lib.hid (bld_new 133 5 w1)
  have HBA := Lib.hid hba
  have HW1 := Lib.hid HI1.out.b
  clear hnp hba y1 y2 y3 HI1 HI HV HRL
  go_loopw [18] (fun i W => ∃ j : Nat, i = .int .i64 j ∧ j ≤ np ∧ Hid (Lib.IsBuilder 133 5 w1.heap.size w1.heap.size (Lib.byteCells (pathB (r.take j))) W) ∧ Hid (Below w1.heap.size w1 W ∧ w1.heap.size ≤ W.heap.size)) (fun i _ => np - (intOf i).toNat)
  case atStart => exact ⟨0, rfl, Nat.zero_le _, HB1, Lib.hid ⟨HBA.out, HBA.out.size⟩⟩
  case round =>
   obtain ⟨j, rfl, hj, HBL, HBW⟩ := hrel
   by_cases hlt : j < np
   ·have hjr : j < r.length := by rw [HNP.out]; exact hlt
    obtain ⟨b, off, rfl, hx⟩ := (HRK.out.below HBW.out.1).cell j (by rw [nums_len]; exact hjr)
    obtain ⟨x, hxx⟩ : ∃ x, r[j]'hjr = x := ⟨_, rfl⟩
    have hg : (nums r).getD j 0 = (x : Int) := by
     rw [List.getD_eq_getElem?_getD]
     simp [nums, hjr, hxx]
    rw [hg] at hx
    have hxb : x ≤ 1000000000 := HRS.out x (by rw [← hxx]; exact List.getElem_mem hjr)
    have HTK : Hid (pathB (r.take (j + 1)) = pathB (r.take j) ++ (47 :: decB x)) := Lib.hid (by
     rw [List.take_succ_eq_append_getElem hjr, pathB_app, hxx]
     simp [pathB])
    have HPL : Hid ((pathB (r.take j)).length ≤ 11000000000) := Lib.hid (by
     have h1 := pathB_len (r.take j) (fun n hn => by have := HRS.out n (List.mem_of_mem_take hn); omega)
     have h2 : (r.take j).length ≤ np := by rw [List.length_take]; omega
     omega)
    have HSZ : Hid (({ data := #[47] } ++ { data := (decB x).toArray } : ByteArray) = strU (47 :: decB x)) := Lib.hid (strU_app [47] (decB x))
    have HPJ := Lib.hid (HP.out.below (HW1.out.trans (HBW.out.1.mono HW1.out.size)))
    have HDL := Lib.hid (decB_len x (by omega))
    have hdl := HDL.out
    clear hjr hxx hg
    go_wp2_with (first
     | (go_at_call 126; go_must (refine (itoa_any x _ (by omega) HPJ.out).mono ?_); go_must (rintro e w3 ⟨rfl, hb3'⟩; have hb3 := Lib.hid hb3'; have HBL3 := Lib.hid (bld_kept HBL.out hb3'); clear hb3'))
     | (go_at_call 135; go_must (refine (bld_writeString w1.heap.size w1.heap.size _ _ _ HBL3.out (by rw [HSZ.out, strU_size, Lib.byteCells_length]; have := HPL.out; have := HDL.out; simp only [List.length_cons]; omega) (Nat.le_trans HBW.out.2 hb3.out.size)).mono ?_); go_must (rintro e w4 ⟨rfl, hB4, hb4⟩; have HBL4 : Hid (Lib.IsBuilder 133 5 w1.heap.size w1.heap.size (Lib.byteCells (pathB (r.take (j + 1)))) w4) := Lib.hid (by rw [HSZ.out, strU_cells, ← byteCells_app, ← HTK.out] at hB4; exact hB4); have HBW4 : Hid (Below w1.heap.size w1 w4 ∧ w1.heap.size ≤ w4.heap.size) := Lib.hid ⟨(HBW.out.1.trans (hb3.out.mono HBW.out.2)).trans hb4, Nat.le_trans (Nat.le_trans HBW.out.2 hb3.out.size) hb4.size⟩; clear hB4 hb4)))
    exact ⟨⟨j + 1, by go_num, by omega, HBL4, HBW4⟩, by simp [intOf]; omega⟩
   ·obtain rfl : j = np := by omega
    have HFUL : Hid (r.take j = r) := Lib.hid (List.take_of_length_le (by rw [HNP.out]; exact Nat.le_refl _))
    have HBL2 : Hid (Lib.IsBuilder 133 5 w1.heap.size w1.heap.size (Lib.byteCells (pathB r)) wr) := Lib.hid (by have := HBL.out; rwa [HFUL.out] at this)
    go_wp2_with (go_at_call 136; go_must (refine (Tryz.Builder_String_any w1.heap.size w1.heap.size (pathB r) _ HBL2.out HBW.out.2).mono ?_); go_must (rintro e w5 ⟨rfl, hb5⟩))
    go_ret2
    exact ⟨rfl, HW1.out.trans ((HBW.out.1.trans hb5).mono HW1.out.size)⟩
end Go.Proofs.YtcpkjmpbpmeclaaGreatDoor
namespace Go.Proofs.YtcpkjmpbpmeclaaGreatDoor
open Go.RowKit
set_option maxRecDepth 100000
set_option linter.unusedVariables false
set_option linter.unusedSimpArgs false
set_option linter.unnecessarySimpa false

theorem walk_any (v : VT) (N : FuncId) (p : VT → Nat → Bool) (eN : ∀ args w, (callFunc N args).run Tryz.prog w = .ok (.enter N args) w) (w : World) (hz : v.sz ≤ 1000000000) (hI : In w v) (hP : Pow w) (hC : WrongC w N p v.sz) :
  Calls Tryz.prog 46 #[v.agg, .func (.func N) #[] #[]] w fun e w' => e = .returned (walkR (badAt p v 0)) ∧ Below w.heap.size w w' := by
 refine walkW v.k v.n v.bits v.ext v.neg v.text v.mA v.A v.mag.length v.mcap v.l.length v.cap N (badAt p v 0) w (fun r hr => ?_) hP (Lib.hid fun W hW => ?_)
 ·obtain ⟨h1, h2⟩ := badAt_small p _ v 0 r (Nat.le_refl _) hr
  exact ⟨by omega, fun n hn => by have := h2 n hn; omega⟩
 ·exact visit_n w N p eN _ v 0 [] 0 W (Nat.le_refl _) hz rfl (by omega) (by simp; omega) hI hW hC
/-- The two questions of Check (and of Map): may the node not be; does it stand too deep. -/
theorem check1_any (v : VT) (z : Int) (b : Bool) (w : World) (hA : ∀ W, Below w.heap.size w W → Calls Tryz.prog 48 #[v.agg] W fun e w' => e = .returned (.bool b) ∧ Below W.heap.size W w') :
  Calls Tryz.prog 47 #[v.agg, .int .i64 z] w fun e w' => e = .returned (.bool (!b)) ∧ Below w.heap.size w w' := by
 have HA := Lib.hid hA
 clear hA
 have hba : Below w.heap.size w (w.alloc (.cells #[.int .i8 v.k, .int .u64 v.n, .bool v.neg, .slice v.mA v.mag.length v.mcap, .int .u64 v.bits, .int .i8 v.ext, .string v.text, .slice v.A v.l.length v.cap] 31)) := (Below.refl _ _).alloc (Nat.le_refl _) _
 have HB := Lib.hid hba
 clear hba
 unfold VT.agg VT.mags VT.kids at *
 generalize v.k = k at *
 generalize v.n = n at *
 generalize v.neg = ng at *
 generalize v.mag.length = ml at *
 generalize v.mA = mA at *
 generalize v.mcap = mc at *
 generalize v.bits = bs at *
 generalize v.ext = ex at *
 generalize v.text = tx at *
 generalize v.A = A at *
 generalize v.cap = cp at *
 generalize v.l.length = m at *
 go_enter Tryz.func47, Tryz.ntmps47
 go_wp2_with (go_at_call 48; go_must (refine (HA.out _ HB.out).mono ?_); go_must (rintro e w1 ⟨rfl, hb1⟩))
 go_ret
 exact ⟨rfl, trans_b HB.out hb1⟩
end Go.Proofs.YtcpkjmpbpmeclaaGreatDoor
