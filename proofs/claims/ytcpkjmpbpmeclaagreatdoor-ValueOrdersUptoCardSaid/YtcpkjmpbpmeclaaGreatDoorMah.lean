/- Vq · Vra · Vrb · Vrc · Vsa · Vta · Vtb · Vtc · Oaa: merged. -/
import Derived.Test.YtcpkjmpbpmeclaaGreatDoorMac
import Derived.Test.YtcpkjmpbpmeclaaGreatDoorMag
import Derived.Deep.MidRow
import Derived.Laws.CopyOwn
import Derived.Deep.Upon
import Derived.Laws.MathBits
namespace Go.Proofs.YtcpkjmpbpmeclaaGreatDoor
open Go.RowKit
set_option maxRecDepth 100000
set_option linter.unusedVariables false
set_option linter.unusedSimpArgs false
set_option linter.unnecessarySimpa false

/-- So many limbs are left behind the cut of noughts. -/
structure CutAt (xs : List Int) (n : Nat) : Prop where
 le : n ≤ xs.length
 zero : ∀ j, n ≤ j → j < xs.length → xs.getD j 0 = 0
 top : n = 0 ∨ xs.getD (n - 1) 0 ≠ 0
theorem magV_zero : ∀ xs : List Int, (∀ j, j < xs.length → xs.getD j 0 = 0) → magV xs = 0
 | [], _ => rfl
 | x :: l, h => by
  have h0 := h 0 (by simp)
  simp only [List.getD_cons_zero] at h0
  have hl := magV_zero l fun j hj => by
   have := h (j + 1) (by simp; omega)
   simpa using this
  simp [magV, h0, hl]
theorem magV_take : ∀ (xs : List Int) (n : Nat), (∀ j, n ≤ j → j < xs.length → xs.getD j 0 = 0) → magV (xs.take n) = magV xs
 | [], n, _ => by simp
 | x :: l, 0, h => by rw [List.take_zero]; exact (magV_zero _ fun j hj => h j (Nat.zero_le _) hj).symm
 | x :: l, n + 1, h => by
  simp only [List.take_succ_cons, magV]
  rw [magV_take l n fun j h1 h2 => by
   have := h (j + 1) (by omega) (by simp; omega)
   simpa using this]
theorem CutAt.mag {xs : List Int} {n : Nat} (h : CutAt xs n) : magV (xs.take n) = magV xs := magV_take xs n h.zero
theorem RK.take {w : World} {k : IntKind} {A : Option Addr} {xs : List Int} (h : RK w k A xs) (n : Nat) : RK w k A (xs.take n) := by
 rcases h with h | ⟨b, off, e, h⟩
 ·exact .inl (by simp [h])
 ·refine .inr ⟨b, off, e, fun j hj => ?_⟩
  rw [List.length_take] at hj
  rw [h j (by omega), List.getD_eq_getElem?_getD, List.getD_eq_getElem?_getD, List.getElem?_take, if_pos (by omega)]
set_option maxHeartbeats 1000000 in
theorem cut_any (A : Option Addr) (c : Nat) (xs : List Int) (w : World) (hn : xs.length ≤ 1000000000) (hc : xs.length ≤ c) (hc0 : A = none → c = 0) (hx : RK w .u32 A xs) :
  Calls Tryz.prog 212 #[.slice A xs.length c] w fun e w' => ∃ n, e = .returned (.slice A n n) ∧ CutAt xs n ∧ w = w' := by
 have hA' : A = none ∧ xs = [] ∨ (∃ a, A = some a ∧ xs = []) ∨ ∃ b off, A = some ⟨b, off, none⟩ ∧ ∀ j, j < xs.length → w.cell? ⟨b, off + j, none⟩ = some (.int .u32 (xs.getD j 0)) := by
  rcases hx with h | h
  ·cases A with
   | none => exact .inl ⟨rfl, h⟩
   | some a => exact .inr (.inl ⟨a, rfl, h⟩)
  ·exact .inr (.inr h)
 clear hx
 rcases hA' with ⟨rfl, rfl⟩ | ⟨a, rfl, rfl⟩ | ⟨b, off, rfl, hr⟩
 ·obtain rfl := hc0 rfl
  clear hn hc hc0
  go_enter Tryz.func212, Tryz.ntmps212
  go_wp2
  go_loopw [3] (fun i W => i = .int .i64 0 ∧ W = w) (fun i _ => 0)
  case atStart => exact ⟨rfl, rfl⟩
  case round =>
   obtain ⟨rfl, rfl⟩ := hrel
   go_wp2
   go_ret
   exact ⟨0, rfl, ⟨by simp, by simp, .inl rfl⟩, rfl⟩
 ·clear hn hc hc0
  go_enter Tryz.func212, Tryz.ntmps212
  go_wp2
  go_loopw [3] (fun i W => i = .int .i64 0 ∧ W = w) (fun i _ => 0)
  case atStart => exact ⟨rfl, rfl⟩
  case round =>
   obtain ⟨rfl, rfl⟩ := hrel
   go_wp2
   go_ret
   exact ⟨0, rfl, ⟨by simp, by simp, .inl rfl⟩, rfl⟩
 ·have HR := Lib.hid hr
  have HC := Lib.hid hc
  have HN := Lib.hid hn
  clear hr hc hc0 hn
  obtain ⟨m, hm⟩ : ∃ m, xs.length = m := ⟨_, rfl⟩
  rw [hm] at HC HN
  have HM := Lib.hid hm
  rw [hm]
  clear hm
  go_enter Tryz.func212, Tryz.ntmps212
  go_wp2
  go_loopw [3] (fun i W => ∃ n : Nat, i = .int .i64 n ∧ n ≤ m ∧ (∀ j, n ≤ j → j < xs.length → xs.getD j 0 = 0) ∧ W = w) (fun i _ => (intOf i).toNat)
  case atStart => exact ⟨m, rfl, Nat.le_refl _, fun j h1 h2 => by have := HM.out; omega, rfl⟩
  case round =>
   obtain ⟨n, rfl, hnm, hz, rfl⟩ := hrel
   have HZ := Lib.hid hz
   clear hz
   have hN := HN.out
   have hC := HC.out
   cases n with
   | zero =>
    go_wp2
    go_ret
    exact ⟨0, rfl, ⟨Nat.zero_le _, HZ.out, .inl rfl⟩, rfl⟩
   | succ n =>
    have hc1 := HR.out n (by rw [HM.out]; omega)
    obtain ⟨y, hy⟩ : ∃ y, xs.getD n 0 = y := ⟨_, rfl⟩
    rw [hy] at hc1
    have HY := Lib.hid hy
    clear hy
    have e1 : ((n + 1 : Nat) : Int) - 1 = n := by omega
    by_cases hy0 : y = 0
    ·subst hy0
     have HZ' : Hid (∀ j, n ≤ j → j < xs.length → xs.getD j 0 = 0) := Lib.hid fun j h1 h2 => by
      by_cases h : j = n
      ·rw [h]; exact HY.out
      ·exact HZ.out j (by omega) h2
     go_wp2
     exact ⟨⟨n, by go_num, by omega, HZ'.out, trivial⟩, by simp [intOf]⟩
    ·have hb0 : (y == 0) = false := by simpa using hy0
     have HY0 := Lib.hid hy0
     clear hy0
     go_wp2
     go_ret
     exact ⟨n + 1, rfl, ⟨by rw [HM.out]; omega, HZ.out, .inr (by rw [Nat.add_sub_cancel, HY.out]; exact HY0.out)⟩, rfl⟩

theorem make_nat (w : World) (n : Nat) (hn : n ≤ 1099511627776) : (Instr.makeSlice 26 (.int .i64 (n : Int)) (.int .i64 (n : Int))).run Tryz.prog w = .ok (.slice (some ⟨w.heap.size, 0, none⟩) n n) (w.alloc (.cells (numsK .u32 (List.replicate n 0)).toArray 92)) := by
 obtain ⟨i0, hi, hzz⟩ := Option.map_eq_some_iff.1 info_limb
 simp only [Prod.mk.injEq] at hzz
 obtain ⟨hz0, hz1, hz2⟩ := hzz
 rw [run_make (P := Tryz.prog) w 26 92 i0 (.int .u32 0) Tryz.underlying26 hi hz0 .i64 .i64 _ _ (by omega) (by omega) (by rw [hz2]; omega) (by omega), hz1]
 have e : ((n : Int)).toNat = n := by omega
 rw [e, Nat.mul_one]
 congr 3
 apply Array.ext'
 apply List.ext_getElem
 ·simp [madeCells, numsK, size_madeCells]
 ·intro i h1 h2
  have hz : (Value.int .u32 0).cells = #[.int .u32 0] := rfl
  simp [madeCells, numsK, hz, Nat.mod_one]
theorem add_row (b off j : Nat) : (⟨b, off, none⟩ : Addr).add j = ⟨b, off + j, none⟩ := by unfold Addr.add; split <;> simp_all
theorem info_limb1 : (Tryz.prog.info? 92).map (·.size) = some 1 := by kernel_rfl
theorem numsK_one (k : IntKind) (xs : List Int) : ∀ v ∈ numsK k xs, v.oneCell' = true := fun v hv => by
 obtain ⟨x, _, rfl⟩ := List.mem_map.1 hv
 rfl
theorem numsK_len (k : IntKind) (xs : List Int) : (numsK k xs).length = xs.length := by simp [numsK]
set_option maxHeartbeats 1000000 in
theorem norm_any (A : Option Addr) (c : Nat) (xs : List Int) (w : World) (hn : xs.length ≤ 1000000000) (hc : xs.length ≤ c) (hc0 : A = none → c = 0) (hx : RK w .u32 A xs) :
  Calls Tryz.prog 211 #[.slice A xs.length c] w fun e w' => ∃ n g, e = .returned (.slice (some ⟨g, 0, none⟩) n n) ∧ CutAt xs n ∧ w.heap.size ≤ g ∧ Hid (w'.heap[g]? = some (.cells (numsK .u32 (xs.take n)).toArray 92 (0, 0))) ∧ Below w.heap.size w w' := by
 have hcut := cut_any A c xs w hn hc hc0 hx
 have HX := Lib.hid hx
 have HN := Lib.hid hn
 clear hx hc hc0 hn
 go_enter Tryz.func211, Tryz.ntmps211
 go_upto_region 2 with (go_at_call 212; refine hcut.mono ?_; rintro e w1 ⟨n, rfl, hCut, rfl⟩)
 have HC := Lib.hid hCut
 have hle := hCut.le
 clear hCut hcut
 have hmk := make_nat w n (by have := HN.out; omega)
 go_wp2_with (with_reducible refine wpList_copy_splice rfl _ _ 26 26 rfl 92 Tryz.underlying26 info_limb1 _ _ _ _ _ _ rfl rfl w.heap.size 0 (numsK .u32 (List.replicate n 0)) 92 ?hg (numsK .u32 (xs.take n)) ?hn ?hpos ?hfit (numsK_one _ _) w.heap.size w ?hb (Nat.le_refl _) ?hk)
 case hg => exact heap_alloc_new w _
 case hn => rw [numsK_len, List.length_take, Nat.min_eq_left hle]; exact (Nat.min_self n).symm
 case hpos =>
  intro h0
  rw [numsK_len, List.length_take] at h0
  rcases HX.out with h | ⟨b, off, rfl, hr⟩
  ·rw [h] at h0; simp at h0
  ·refine ⟨⟨b, off, none⟩, rfl, fun j v hv => ?_⟩
   have hj : j < n := by have := (List.getElem?_eq_some_iff.1 hv).1; rw [numsK_len, List.length_take] at this; omega
   rw [add_row]
   refine (keep1 ((Below.refl _ _).alloc (Nat.le_refl _) _) (hr j (by omega))).trans ?_
   rw [← hv]
   unfold numsK
   rw [List.getElem?_map, List.getElem?_take, if_pos hj, List.getElem?_eq_getElem (by omega), List.getD_eq_getElem?_getD, List.getElem?_eq_getElem (by omega)]
   rfl
 case hfit => rw [numsK_len, numsK_len, List.length_take, List.length_replicate]; omega
 case hb => exact (Below.refl _ _).alloc (Nat.le_refl _) _
 case hk =>
  intro w2 hG hB
  go_wp2
  go_ret
  refine ⟨n, w.heap.size, rfl, HC.out, Nat.le_refl _, Lib.hid ?_, hB⟩
  rw [hG.out]
  have e : splice (numsK .u32 (List.replicate n 0)) 0 (numsK .u32 (xs.take n)) = numsK .u32 (xs.take n) := by
   unfold splice
   rw [numsK_len, List.length_take, Nat.min_eq_left hle, List.drop_of_length_le (by rw [numsK_len, List.length_replicate]; omega)]
   simp
  rw [e]
end Go.Proofs.YtcpkjmpbpmeclaaGreatDoor
namespace Go.Proofs.YtcpkjmpbpmeclaaGreatDoor
set_option linter.unusedVariables false
set_option linter.unusedSimpArgs false

def Limbs (xs : List Int) : Prop := ∀ x ∈ xs, 0 ≤ x ∧ x ≤ 4294967295
theorem Limbs.take {xs : List Int} (h : Limbs xs) (n : Nat) : Limbs (xs.take n) := fun x hx => h x (List.mem_of_mem_take hx)
theorem Limbs.at {xs : List Int} (h : Limbs xs) (k : Nat) : 0 ≤ xs.getD k 0 ∧ xs.getD k 0 ≤ 4294967295 := by
 by_cases hk : k < xs.length
 ·rw [List.getD_eq_getElem?_getD, List.getElem?_eq_getElem hk]
  exact h _ (List.getElem_mem hk)
 ·rw [List.getD_eq_getElem?_getD, List.getElem?_eq_none (by omega)]
  simp
def powB (k : Nat) : Int := (4294967296 : Int) ^ k
theorem powB_succ (k : Nat) : powB (k + 1) = 4294967296 * powB k := by unfold powB; rw [Int.pow_succ, Int.mul_comm]
theorem powB_pos : ∀ k, 0 < powB k
 | 0 => by decide
 | k + 1 => by have := powB_pos k; rw [powB_succ]; omega
theorem magV_bound : ∀ xs : List Int, Limbs xs → 0 ≤ magV xs ∧ magV xs < powB xs.length
 | [], _ => ⟨by simp [magV], by simp [magV, powB]⟩
 | x :: l, h => by
  obtain ⟨h1, h2⟩ := magV_bound l fun y hy => h y (List.mem_cons_of_mem _ hy)
  obtain ⟨h3, h4⟩ := h x (by simp)
  rw [List.length_cons, powB_succ]
  simp only [magV]
  omega
theorem magV_split : ∀ (xs : List Int) (k : Nat), k < xs.length → magV xs = magV (xs.take k) + powB k * (xs.getD k 0 + 4294967296 * magV (xs.drop (k + 1)))
 | x :: l, 0, _ => by simp [magV, powB]
 | x :: l, k + 1, h => by
  have := magV_split l k (by simpa using h)
  simp only [magV, List.take_succ_cons, List.drop_succ_cons, List.getD_cons_succ]
  rw [this, powB_succ, Int.mul_add, Int.mul_assoc]
  omega
theorem magV_lt {xs ys : List Int} (hx : Limbs xs) (hy : Limbs ys) (k : Nat) (h1 : k < xs.length) (h2 : k < ys.length) (hd : xs.drop (k + 1) = ys.drop (k + 1)) (hl : xs.getD k 0 < ys.getD k 0) : magV xs < magV ys := by
 rw [magV_split xs k h1, magV_split ys k h2, hd]
 obtain ⟨a1, a2⟩ := magV_bound (xs.take k) (hx.take k)
 obtain ⟨b1, b2⟩ := magV_bound (ys.take k) (hy.take k)
 rw [List.length_take, Nat.min_eq_left (by omega)] at a2
 have hp := powB_pos k
 generalize magV (ys.drop (k + 1)) = D at *
 generalize xs.getD k 0 = x at *
 generalize ys.getD k 0 = y at *
 generalize magV (xs.take k) = X at *
 generalize magV (ys.take k) = Y at *
 generalize powB k = P at *
 have e : P * (y + 4294967296 * D) = P * (x + 4294967296 * D) + P * (y - x) := by rw [← Int.mul_add]; congr 1; omega
 have : P * 1 ≤ P * (y - x) := Int.mul_le_mul_of_nonneg_left (by omega) (by omega)
 omega
theorem magV_low {xs : List Int} (hx : Limbs xs) (n : Nat) (hn : n + 1 = xs.length) (ht : xs.getD n 0 ≠ 0) : powB n ≤ magV xs := by
 rw [magV_split xs n (by omega), List.drop_of_length_le (by omega)]
 obtain ⟨a1, a2⟩ := magV_bound (xs.take n) (hx.take n)
 have h0 := (hx.at n).1
 have hp := powB_pos n
 simp only [magV]
 generalize xs.getD n 0 = x at *
 generalize magV (xs.take n) = X at *
 generalize powB n = P at *
 have : P * 1 ≤ P * (x + 4294967296 * 0) := Int.mul_le_mul_of_nonneg_left (by omega) (by omega)
 omega
theorem powB_le {m n : Nat} (h : m ≤ n) : powB m ≤ powB n := by
 induction h with
 | refl => exact Int.le_refl _
 | step _ ih => rw [powB_succ]; have := powB_pos m; omega
theorem getD_take {xs : List Int} {n k : Nat} (h : k < n) : (xs.take n).getD k 0 = xs.getD k 0 := by
 rw [List.getD_eq_getElem?_getD, List.getD_eq_getElem?_getD, List.getElem?_take, if_pos h]
/-- Fewer limbs: less. -/
theorem magV_len {xs ys : List Int} {m n : Nat} (hx : Limbs xs) (hy : Limbs ys) (hm : CutAt xs m) (hn : CutAt ys n) (h : m < n) : magV xs < magV ys := by
 rw [← hm.mag, ← hn.mag]
 have l1 : (xs.take m).length = m := by rw [List.length_take]; have := hm.le; omega
 have l2 : (ys.take n).length = n := by rw [List.length_take]; have := hn.le; omega
 obtain ⟨a1, a2⟩ := magV_bound (xs.take m) (hx.take m)
 have ht : (ys.take n).getD (n - 1) 0 ≠ 0 := by
  rw [getD_take (by omega)]
  exact hn.top.resolve_left (by omega)
 have := magV_low (hy.take n) (n - 1) (by omega) ht
 have := powB_le (m := m) (n := n - 1) (by omega)
 rw [l1] at a2
 omega
theorem cmpI_lt {a b : Int} (h : a < b) : cmpI a b = -1 := by unfold cmpI; rw [if_pos h]
theorem cmpI_gt {a b : Int} (h : b < a) : cmpI a b = 1 := by unfold cmpI; rw [if_neg (by omega), if_pos h]
theorem cmpMag_len {xs ys : List Int} {m n : Nat} (hx : Limbs xs) (hy : Limbs ys) (hm : CutAt xs m) (hn : CutAt ys n) (h : m ≠ n) : cmpI (m : Int) (n : Int) = cmpI (magV xs) (magV ys) := by
 rcases Nat.lt_or_gt_of_ne h with h | h
 ·rw [cmpI_lt (by omega), cmpI_lt (magV_len hx hy hm hn h)]
 ·rw [cmpI_gt (by omega), cmpI_gt (magV_len hy hx hn hm h)]
/-- Alike from k on. -/
def SameFrom (xs ys : List Int) (n k : Nat) : Prop := ∀ j, k ≤ j → j < n → xs.getD j 0 = ys.getD j 0
theorem SameFrom.drop {xs ys : List Int} {n k : Nat} (h : SameFrom xs ys n k) (h1 : n ≤ xs.length) (h2 : n ≤ ys.length) : (xs.take n).drop k = (ys.take n).drop k := by
 apply List.ext_getElem
 ·simp; omega
 ·intro i a b
  have hi : k + i < n := by simp at a; omega
  have := h (k + i) (by omega) hi
  rw [List.getD_eq_getElem?_getD, List.getD_eq_getElem?_getD, List.getElem?_eq_getElem (by omega), List.getElem?_eq_getElem (by omega)] at this
  simpa using this
theorem cmpMag_at {xs ys : List Int} {n : Nat} (hx : Limbs xs) (hy : Limbs ys) (hm : CutAt xs n) (hn : CutAt ys n) (k : Nat) (hk : k < n) (hs : SameFrom xs ys n (k + 1)) (hne : xs.getD k 0 ≠ ys.getD k 0) : cmpI (xs.getD k 0) (ys.getD k 0) = cmpI (magV xs) (magV ys) := by
 have l1 : (xs.take n).length = n := by rw [List.length_take]; have := hm.le; omega
 have l2 : (ys.take n).length = n := by rw [List.length_take]; have := hn.le; omega
 have hd := hs.drop hm.le hn.le
 have e1 := getD_take (xs := xs) hk
 have e2 := getD_take (xs := ys) hk
 rw [← hm.mag, ← hn.mag]
 rcases Int.lt_or_gt_of_ne hne with h | h
 ·rw [cmpI_lt h, cmpI_lt (magV_lt (hx.take n) (hy.take n) k (by omega) (by omega) hd (by rw [e1, e2]; exact h))]
 ·rw [cmpI_gt h, cmpI_gt (magV_lt (hy.take n) (hx.take n) k (by omega) (by omega) hd.symm (by rw [e1, e2]; exact h))]
theorem cmpMag_same {xs ys : List Int} {n : Nat} (hm : CutAt xs n) (hn : CutAt ys n) (hs : SameFrom xs ys n 0) : cmpI (magV xs) (magV ys) = 0 := by
 rw [cmpI_eq, ← hm.mag, ← hn.mag]
 have := hs.drop hm.le hn.le
 simpa using congrArg magV this
end Go.Proofs.YtcpkjmpbpmeclaaGreatDoor
namespace Go.Proofs.YtcpkjmpbpmeclaaGreatDoor
open Go.RowKit
set_option maxRecDepth 100000
set_option linter.unusedVariables false
set_option linter.unusedSimpArgs false
set_option linter.unnecessarySimpa false

/-- A list of limbs as an argument. -/
structure NatIn (w : World) (A : Option Addr) (c : Nat) (xs : List Int) : Prop where
 len : xs.length ≤ 1000000000
 cap : xs.length ≤ c
 nil0 : A = none → c = 0
 row : RK w .u32 A xs
 limbs : Limbs xs
theorem NatIn.below {w w1 : World} {A : Option Addr} {c : Nat} {xs : List Int} (h : NatIn w A c xs) (hb : Below w.heap.size w w1) : NatIn w1 A c xs := ⟨h.len, h.cap, h.nil0, h.row.below hb, h.limbs⟩
theorem NatIn.cut {w : World} {A : Option Addr} {c : Nat} {xs : List Int} (h : NatIn w A c xs) : Calls Tryz.prog 212 #[.slice A xs.length c] w fun e w' => ∃ n, e = .returned (.slice A n n) ∧ CutAt xs n ∧ w = w' := cut_any A c xs w h.len h.cap h.nil0 h.row
theorem _root_.Go.Proofs.YtcpkjmpbpmeclaaGreatDoor.RK.cell {w : World} {k : IntKind} {A : Option Addr} {xs : List Int} (h : RK w k A xs) (j : Nat) (hj : j < xs.length) : ∃ b off, A = some ⟨b, off, none⟩ ∧ w.cell? ⟨b, off + j, none⟩ = some (.int k (xs.getD j 0)) := by
 rcases h with h | ⟨b, off, e, h⟩
 ·rw [h] at hj; simp at hj
 ·exact ⟨b, off, e, h j hj⟩
set_option maxHeartbeats 1000000 in
theorem natCmp_any (A B : Option Addr) (c d : Nat) (xs ys : List Int) (w : World) (hx : NatIn w A c xs) (hy : NatIn w B d ys) :
  Calls Tryz.prog 154 #[.slice A xs.length c, .slice B ys.length d] w fun e w' => e = .returned (.int .i64 (cmpI (magV xs) (magV ys))) ∧ Below w.heap.size w w' := by
 have hc1 := hx.cut
 have hc2 := hy.cut
 have HX := Lib.hid hx
 have HY := Lib.hid hy
 obtain ⟨z, hz⟩ : ∃ z, cmpI (magV xs) (magV ys) = z := ⟨_, rfl⟩
 have HZ := Lib.hid hz
 rw [hz]
 obtain ⟨m, hm⟩ : ∃ m, xs.length = m := ⟨_, rfl⟩
 obtain ⟨n, hn⟩ : ∃ n, ys.length = n := ⟨_, rfl⟩
 rw [hm] at hc1
 rw [hn] at hc2
 rw [hm, hn]
 have hm1 : m ≤ 1000000000 := by have := hx.len; omega
 have hn1 : n ≤ 1000000000 := by have := hy.len; omega
 have HM := Lib.hid hm
 have HN := Lib.hid hn
 have C1 := Lib.hid hc1
 have C2 := Lib.hid hc2
 clear hx hy hz hm hn hc1 hc2
 go_enter Tryz.func154, Tryz.ntmps154
 go_upto_region 2 with (first
  | (go_at_call 212; with_reducible refine C1.out.mono ?_; rintro e w1 ⟨k1, rfl, hk1, rfl⟩)
  | (go_at_call 212; refine C2.out.mono ?_; rintro e w2 ⟨k2, rfl, hk2, rfl⟩))
 have K1 := Lib.hid hk1
 have K2 := Lib.hid hk2
 have l1 : k1 ≤ m := by have := hk1.le; have := HM.out; omega
 have l2 : k2 ≤ n := by have := hk2.le; have := HN.out; omega
 clear hk1 hk2
 by_cases he : k1 = k2
 ·subst he
  go_wp2
  go_loopw [23] (fun i W => ∃ j : Nat, i = .int .i64 j ∧ j ≤ k1 ∧ SameFrom xs ys k1 (k1 - j) ∧ Below w.heap.size w W) (fun i _ => k1 - (intOf i).toNat)
  case atStart => exact ⟨0, rfl, Nat.zero_le _, fun j h1 h2 => by omega, Below.refl _ _⟩
  case round =>
   obtain ⟨j, rfl, hj, hs, hb⟩ := hrel
   have HS := Lib.hid hs
   clear hs
   by_cases hlt : j < k1
   ·obtain ⟨k, hk⟩ : ∃ k, k1 - 1 - j = k := ⟨_, rfl⟩
    have hkk : (k1 : Int) - 1 - j = (k : Int) := by omega
    have hk' : k < k1 := by omega
    obtain ⟨b1, o1, rfl, hx1⟩ := (HX.out.below hb).row.cell k (by have := HM.out; omega)
    obtain ⟨b2, o2, rfl, hy1⟩ := (HY.out.below hb).row.cell k (by have := HN.out; omega)
    obtain ⟨x, hx⟩ : ∃ x, xs.getD k 0 = x := ⟨_, rfl⟩
    obtain ⟨y, hy⟩ : ∃ y, ys.getD k 0 = y := ⟨_, rfl⟩
    rw [hx] at hx1
    rw [hy] at hy1
    have HXX := Lib.hid hx
    have HYY := Lib.hid hy
    have HK := Lib.hid hk
    clear hx hy hk
    have q1 : (j : Int) < k1 := by omega
    have q2 : (0 : Int) ≤ k := by omega
    have q3 : (k : Int) < k1 := by omega
    by_cases hxy : x = y
    ·subst hxy
     have HS2 : Hid (SameFrom xs ys k1 (k1 - (j + 1))) := Lib.hid fun i h1 h2 => by
      by_cases h : i = k
      ·rw [h, HXX.out, HYY.out]
      ·exact HS.out i (by have := HK.out; omega) h2
     go_wp2_with (go_quiet (fail))
     exact ⟨⟨j + 1, by go_num, by omega, HS2.out, below_on hb (below_drewN _ _)⟩, by simp [intOf]; omega⟩
    ·have hb0 : (x == y) = false := by simpa using hxy
     have HZ2 : Hid (cmpI x y = z) := Lib.hid (by
      have := cmpMag_at HX.out.limbs HY.out.limbs K1.out K2.out k (by omega) (fun i h1 h2 => HS.out i (by have := HK.out; omega) h2) (by rw [HXX.out, HYY.out]; exact hxy)
      rw [HXX.out, HYY.out, HZ.out] at this
      exact this)
     clear hxy
     go_wp2_with (go_quiet ((go_at_call 214; exact quiet_add_same (gcL _ _ _))))
     go_ret
     exact ⟨by rw [HZ2.out]; rfl, below_on (below_on hb (below_drewN _ _)) (below_drewN _ _)⟩
   ·obtain rfl : j = k1 := by omega
    have HZ2 : Hid (z = 0) := Lib.hid (by
     have := cmpMag_same K1.out K2.out (fun i h1 h2 => HS.out i (by omega) h2)
     rw [HZ.out] at this
     exact this)
    clear hlt
    go_wp2
    go_ret
    exact ⟨by rw [HZ2.out]; rfl, hb⟩
 ·have he' : ((k1 : Int) == (k2 : Int)) = false := by simp; omega
  have HZ2 : Hid (cmpI (k1 : Int) k2 = z) := Lib.hid ((cmpMag_len HX.out.limbs HY.out.limbs K1.out K2.out he).trans HZ.out)
  clear he
  go_wp2_with (go_at_call 213; refine (gcI _ _ _).mono ?_; rintro e w1 ⟨rfl, rfl⟩)
  go_ret
  exact ⟨by rw [HZ2.out]; rfl, Below.refl _ _⟩
end Go.Proofs.YtcpkjmpbpmeclaaGreatDoor
namespace Go.Proofs.YtcpkjmpbpmeclaaGreatDoor
open Go.RowKit
set_option maxRecDepth 100000
set_option linter.unusedVariables false
set_option linter.unusedSimpArgs false
set_option linter.unnecessarySimpa false

/-- The sign of a whole number of these limbs. -/
def sgn (g : Bool) (xs : List Int) : Int := if magV xs = 0 then 0 else if g then -1 else 1
def wholeV (g : Bool) (xs : List Int) : Int := if g then -magV xs else magV xs
theorem magV_pos {xs : List Int} {n : Nat} (hx : Limbs xs) (h : CutAt xs n) : (n = 0 ↔ magV xs = 0) ∧ 0 ≤ magV xs := by
 have h1 := (magV_bound xs hx).1
 refine ⟨⟨fun e => ?_, fun e => ?_⟩, h1⟩
 ·subst e; rw [← h.mag]; rfl
 ·apply Classical.byContradiction
  intro hn
  have ht : (xs.take n).getD (n - 1) 0 ≠ 0 := by
   rw [getD_take (by omega)]
   exact h.top.resolve_left hn
  have := magV_low (hx.take n) (n - 1) (by rw [List.length_take]; have := h.le; omega) ht
  have := powB_pos (n - 1)
  rw [h.mag, e] at *
  omega
theorem numsK_row {w : World} {g : Nat} {k : IntKind} {xs : List Int} {t : TypeId} (h : w.heap[g]? = some (.cells (numsK k xs).toArray t (0, 0))) : RK w k (some ⟨g, 0, none⟩) xs := by
 refine .inr ⟨g, 0, rfl, fun j hj => ?_⟩
 rw [Nat.zero_add, cell_of_row _ _ _ _ _ _ h]
 unfold numsK
 rw [List.getElem?_toArray, List.getElem?_map, List.getElem?_eq_getElem hj, List.getD_eq_getElem?_getD, List.getElem?_eq_getElem hj]
 rfl
set_option maxHeartbeats 1000000 in
theorem signed_any (g : Bool) (A : Option Addr) (c : Nat) (xs : List Int) (w : World) (hx : NatIn w A c xs) :
  Calls Tryz.prog 153 #[.agg #[.bool g, .slice A xs.length c]] w fun e w' => ∃ s B n, e = .returned (.tuple #[.int .i8 s, .slice B n n]) ∧ Hid (s = sgn g xs ∧ n = (xs.take n).length ∧ CutAt xs n ∧ NatIn w' B n (xs.take n)) ∧ Below w.heap.size w w' := by
 have HNM : Hid (∀ W, Below w.heap.size w W → Calls Tryz.prog 211 #[.slice A xs.length c] W fun e w' => ∃ n g, e = .returned (.slice (some ⟨g, 0, none⟩) n n) ∧ CutAt xs n ∧ W.heap.size ≤ g ∧ Hid (w'.heap[g]? = some (.cells (numsK .u32 (xs.take n)).toArray 92 (0, 0))) ∧ Below W.heap.size W w') :=
  Lib.hid fun W hW => norm_any A c xs W hx.len hx.cap hx.nil0 (hx.row.below hW)
 have HX := Lib.hid hx
 have HB0 : Hid (Below w.heap.size w (w.alloc (.cells #[.bool g, .slice A xs.length c] 28))) := Lib.hid ((Below.refl _ _).alloc (Nat.le_refl _) _)
 have c0 : (w.alloc (.cells #[.bool g, .slice A xs.length c] 28)).cell? ⟨w.heap.size, 0, none⟩ = some (.bool g) := by
  rw [cell_of_row _ _ _ _ _ _ (heap_alloc_new w _)]; rfl
 obtain ⟨m, hm⟩ : ∃ m, xs.length = m := ⟨_, rfl⟩
 rw [hm] at HNM HB0 c0
 rw [hm]
 have HM := Lib.hid hm
 clear hm hx
 go_enter Tryz.func153, Tryz.ntmps153
 go_upto_region 2 with (go_at_call 211; refine (HNM.out _ HB0.out).mono ?_; rintro e w1 ⟨n, b, rfl, hC, hgb, HG, hb1⟩)
 have HC := Lib.hid hC
 have hc1 := keep1 hb1 c0
 have HB1 := Lib.hid hb1
 have hl : n = (xs.take n).length := by rw [List.length_take]; have := hC.le; omega
 have HL := Lib.hid hl
 have hnat : NatIn w1 (some ⟨b, 0, none⟩) n (xs.take n) := ⟨by have := HX.out.len; have := hC.le; omega, by omega, (by intro h; cases h), numsK_row HG.out, HX.out.limbs.take n⟩
 have HN := Lib.hid hnat
 have hp := magV_pos HX.out.limbs hC
 have HP := Lib.hid hp
 clear hC hb1 hgb hl hnat hp c0
 cases n with
 | zero =>
  have hs : sgn g xs = 0 := by unfold sgn; rw [if_pos (HP.out.1.1 rfl)]
  have HS := Lib.hid hs
  clear hs
  go_wp2
  go_ret2
  exact ⟨0, none, 0, rfl, Lib.hid ⟨HS.out.symm, rfl, HC.out, ⟨by simp, by simp, fun _ => rfl, .inl (by simp), HX.out.limbs.take 0⟩⟩, trans_b HB0.out HB1.out⟩
 | succ n =>
  have hs : sgn g xs = if g then -1 else 1 := by unfold sgn; rw [if_neg (fun e => by have := HP.out.1.2 e; omega)]
  have HFIN : Hid ((if g then (-1 : Int) else 1) = sgn g xs ∧ n + 1 = (xs.take (n + 1)).length ∧ CutAt xs (n + 1) ∧ NatIn w1 (some ⟨b, 0, none⟩) (n + 1) (xs.take (n + 1))) := Lib.hid ⟨hs.symm, HL.out, HC.out, HN.out⟩
  clear hs
  cases g with
  | true =>
   go_wp2
   go_ret2
   refine ⟨-1, some ⟨b, 0, none⟩, n + 1, rfl, Lib.hid ?_, trans_b HB0.out HB1.out⟩
   have := HFIN.out
   simpa using this
  | false =>
   go_wp2
   go_ret2
   refine ⟨1, some ⟨b, 0, none⟩, n + 1, rfl, Lib.hid ?_, trans_b HB0.out HB1.out⟩
   have := HFIN.out
   simpa using this
theorem sgn_range (g : Bool) (xs : List Int) : -1 ≤ sgn g xs ∧ sgn g xs ≤ 1 := by unfold sgn; (repeat' split) <;> omega
theorem cmpI_range (a b : Int) : -1 ≤ cmpI a b ∧ cmpI a b ≤ 1 := by unfold cmpI; (repeat' split) <;> omega
theorem cmpW (g h : Bool) (xs ys : List Int) (hx : Limbs xs) (hy : Limbs ys) :
  cmpI (wholeV g xs) (wholeV h ys) = if sgn g xs < sgn h ys then -1 else if sgn h ys < sgn g xs then 1 else sgn g xs * cmpI (magV xs) (magV ys) := by
 have h1 := (magV_bound xs hx).1
 have h2 := (magV_bound ys hy).1
 unfold wholeV sgn
 generalize magV xs = X at *
 generalize magV ys = Y at *
 cases g <;> cases h <;> simp only [if_true, Bool.false_eq_true, if_false] <;> by_cases hX : X = 0 <;> by_cases hY : Y = 0 <;> simp only [hX, hY, if_true, if_false] <;> unfold cmpI <;> (repeat' split) <;> omega
set_option maxHeartbeats 1000000 in
theorem wholeCmp_any (g h : Bool) (A B : Option Addr) (c d : Nat) (xs ys : List Int) (w : World) (hx : NatIn w A c xs) (hy : NatIn w B d ys) :
  Calls Tryz.prog 65 #[.agg #[.bool g, .slice A xs.length c], .agg #[.bool h, .slice B ys.length d]] w fun e w' => e = .returned (.int .i64 (cmpI (wholeV g xs) (wholeV h ys))) ∧ Below w.heap.size w w' := by
 have HS1 : Hid (∀ W, Below w.heap.size w W → Calls Tryz.prog 153 #[.agg #[.bool g, .slice A xs.length c]] W fun e w' => ∃ s B n, e = .returned (.tuple #[.int .i8 s, .slice B n n]) ∧ Hid (s = sgn g xs ∧ n = (xs.take n).length ∧ CutAt xs n ∧ NatIn w' B n (xs.take n)) ∧ Below W.heap.size W w') := Lib.hid fun W hW => signed_any g A c xs W (hx.below hW)
 have HS2 : Hid (∀ W, Below w.heap.size w W → Calls Tryz.prog 153 #[.agg #[.bool h, .slice B ys.length d]] W fun e w' => ∃ s B n, e = .returned (.tuple #[.int .i8 s, .slice B n n]) ∧ Hid (s = sgn h ys ∧ n = (ys.take n).length ∧ CutAt ys n ∧ NatIn w' B n (ys.take n)) ∧ Below W.heap.size W w') := Lib.hid fun W hW => signed_any h B d ys W (hy.below hW)
 have hw0 := cmpW g h xs ys hx.limbs hy.limbs
 obtain ⟨q, hq⟩ : ∃ q, cmpI (wholeV g xs) (wholeV h ys) = q := ⟨_, rfl⟩
 rw [hq] at hw0
 rw [hq]
 clear hq
 have HW := Lib.hid hw0
 clear hw0
 have HR1 := Lib.hid (sgn_range g xs)
 have HR2 := Lib.hid (sgn_range h ys)
 have HR3 := Lib.hid (cmpI_range (magV xs) (magV ys))
 have hb0 : Below w.heap.size w ((w.alloc (.cells #[.bool g, .slice A xs.length c] 28)).alloc (.cells #[.bool h, .slice B ys.length d] 28)) := ((Below.refl _ _).alloc (Nat.le_refl _) _).alloc (by simp) _
 have c0 : ((w.alloc (.cells #[.bool g, .slice A xs.length c] 28)).alloc (.cells #[.bool h, .slice B ys.length d] 28)).cell? ⟨w.heap.size, 0, none⟩ = some (.bool g) := by
  rw [World.cell?_alloc_lt _ _ ⟨w.heap.size, 0, none⟩ (by simp), cell_of_row _ _ _ _ _ _ (heap_alloc_new w _)]; rfl
 have c1 : ((w.alloc (.cells #[.bool g, .slice A xs.length c] 28)).alloc (.cells #[.bool h, .slice B ys.length d] 28)).cell? ⟨w.heap.size, 1, none⟩ = some (.slice A xs.length c) := by
  rw [World.cell?_alloc_lt _ _ ⟨w.heap.size, 1, none⟩ (by simp), cell_of_row _ _ _ _ _ _ (heap_alloc_new w _)]; rfl
 have d0 : ((w.alloc (.cells #[.bool g, .slice A xs.length c] 28)).alloc (.cells #[.bool h, .slice B ys.length d] 28)).cell? ⟨w.heap.size + 1, 0, none⟩ = some (.bool h) := by
  have := cell_of_row _ _ 0 _ _ _ (heap_alloc_new (w.alloc (.cells #[.bool g, .slice A xs.length c] 28)) (.cells #[.bool h, .slice B ys.length d] 28))
  simpa using this
 have d1 : ((w.alloc (.cells #[.bool g, .slice A xs.length c] 28)).alloc (.cells #[.bool h, .slice B ys.length d] 28)).cell? ⟨w.heap.size + 1, 1, none⟩ = some (.slice B ys.length d) := by
  have := cell_of_row _ _ 1 _ _ _ (heap_alloc_new (w.alloc (.cells #[.bool g, .slice A xs.length c] 28)) (.cells #[.bool h, .slice B ys.length d] 28))
  simpa using this
 obtain ⟨m, hm⟩ : ∃ m, xs.length = m := ⟨_, rfl⟩
 obtain ⟨n, hn⟩ : ∃ n, ys.length = n := ⟨_, rfl⟩
 rw [hm] at HS1
 rw [hn] at HS2
 rw [hm, hn] at hb0 c0 c1 d0 d1
 rw [hm, hn]
 clear hm hn hx hy
 go_enter Tryz.func65, Tryz.ntmps65
 go_upto_region 1 with fail
 show Code.wp _ _ _ _ ((w.alloc (.cells #[.bool g, .slice A m c] 28)).alloc (.cells #[.bool h, .slice B n d] 28))
 generalize (w.alloc (.cells #[.bool g, .slice A m c] 28)).alloc (.cells #[.bool h, .slice B n d] 28) = W at *
 have HB := Lib.hid hb0
 clear hb0
 go_upto_region 2 with (go_at_call 153; refine (HS1.out _ HB.out).mono ?_; rintro e w1 ⟨s, B1, n1, rfl, HH1, hb1⟩)
 have e0 := keep1 hb1 d0
 have e1 := keep1 hb1 d1
 have HB1 := Lib.hid (trans_b HB.out hb1)
 clear c0 c1 d0 d1 hb1
 go_upto_region 3 with (go_at_call 153; refine (HS2.out _ HB1.out).mono ?_; rintro e w2 ⟨t, B2, n2, rfl, HH2, hb2⟩)
 have HB2 := Lib.hid (trans_b HB1.out hb2)
 have hs1 : -1 ≤ s := by rw [HH1.out.1]; exact HR1.out.1
 have hs2 : s ≤ 1 := by rw [HH1.out.1]; exact HR1.out.2
 have hNC : Calls Tryz.prog 154 #[.slice B1 n1 n1, .slice B2 n2 n2] w2 fun e w' => e = .returned (.int .i64 (cmpI (magV xs) (magV ys))) ∧ Below w2.heap.size w2 w' := by
  have h1 := HH1.out.2.1
  have h2 := HH2.out.2.1
  have := natCmp_any B1 B2 n1 n2 (xs.take n1) (ys.take n2) w2 (HH1.out.2.2.2.below hb2) HH2.out.2.2.2
  rw [← h1, ← h2, HH1.out.2.2.1.mag, HH2.out.2.2.1.mag] at this
  exact this
 have HNC := Lib.hid hNC
 have HV : Hid (q = if s < t then -1 else if t < s then 1 else s * cmpI (magV xs) (magV ys)) := Lib.hid (by rw [HH1.out.1, HH2.out.1]; exact HW.out)
 clear hb2 hNC e0 e1 HW
 generalize cmpI (magV xs) (magV ys) = z at *
 have hz := HR3.out
 rcases Int.lt_trichotomy s t with hst | hst | hst
 ·have HQ : Hid (q = -1) := Lib.hid (by rw [HV.out, if_pos hst])
  have q1 : decide (s < t) = true := decide_eq_true hst
  clear hst hz
  go_wp2
  go_ret
  exact ⟨by rw [HQ.out]; rfl, HB2.out⟩
 ·have HQ : Hid (q = s * z) := Lib.hid (by rw [HV.out, if_neg (by omega), if_neg (by omega)])
  have q1 : decide (s < t) = false := decide_eq_false (by omega)
  have q2 : decide (t < s) = false := decide_eq_false (by omega)
  have hw : IntKind.i64.wrap (s * z) = s * z := by
   obtain rfl | rfl | rfl : s = -1 ∨ s = 0 ∨ s = 1 := by omega
   all_goals obtain rfl | rfl | rfl : z = -1 ∨ z = 0 ∨ z = 1 := by omega
   all_goals rfl
  have HST := Lib.hid hst
  clear hst hz
  go_wp2_with (go_at_call 154; refine HNC.out.mono ?_; rintro e w3 ⟨rfl, hb3⟩)
  go_ret
  exact ⟨by rw [HQ.out]; first | rfl | rw [hw], trans_b HB2.out hb3⟩
 ·have HQ : Hid (q = 1) := Lib.hid (by rw [HV.out, if_neg (by omega), if_pos hst])
  have q1 : decide (s < t) = false := decide_eq_false (by omega)
  have q2 : decide (t < s) = true := decide_eq_true hst
  clear hst hz
  go_wp2
  go_ret
  exact ⟨by rw [HQ.out]; rfl, HB2.out⟩
end Go.Proofs.YtcpkjmpbpmeclaaGreatDoor
namespace Go.Proofs.YtcpkjmpbpmeclaaGreatDoor
open Go.RowKit
set_option maxRecDepth 100000
set_option linter.unusedVariables false
set_option linter.unusedSimpArgs false
set_option linter.unnecessarySimpa false

/-- The table of shapes lies as the text lays it (its last row: what the program asks). -/
structure Shapes (w : World) : Prop where
 a6 : w.cell? ⟨12, 6, none⟩ = some (.int .i64 52)
 a7 : w.cell? ⟨12, 7, none⟩ = some (.int .i64 (-1074))
 a8 : w.cell? ⟨12, 8, none⟩ = some (.int .i64 11)
theorem Shapes.below {w w1 : World} (h : Shapes w) (hb : Below w.heap.size w w1) : Shapes w1 := ⟨keep1 hb h.a6, keep1 hb h.a7, keep1 hb h.a8⟩
theorem Shapes.lt {w : World} (h : Shapes w) : 12 < w.heap.size := World.block_lt_of_cell? w _ h.a6
theorem of_any (w : World) (h : Shapes w) : Calls Tryz.prog 215 #[] w fun e w' => e = .returned (.agg #[.int .i64 52, .int .i64 (-1074), .int .i64 11]) ∧ Below w.heap.size w w' := by
 obtain ⟨a6, a7, a8⟩ := h
 go_enter Tryz.func215, Tryz.ntmps215
 have hx : bits BinOp.xor IntKind.u64 (if IntKind.u64.signed = true then -1 else IntKind.u64.max) 0 = 18446744073709551615 := by decide
 go_upto_region 6 with fail
 have hB : Below w.heap.size w (w.alloc (.cells #[.int .i64 0, .int .i64 0, .int .i64 0] 274)) := (Below.refl _ _).alloc (Nat.le_refl _) _
 have b6 := keep1 hB a6
 have b7 := keep1 hB a7
 have b8 := keep1 hB a8
 have HB := Lib.hid hB
 clear hB a6 a7 a8 hx
 go_wp2
 refine bodyPost_ret (v := .agg #[.int .i64 52, .int .i64 (-1074), .int .i64 11]) ?_ rfl ⟨rfl, (Below.refl _ _).alloc (Nat.le_refl _) _⟩
 have hLd := run_loadVar_mid (P := Tryz.prog) (w.alloc (.cells #[.int .i64 52, .int .i64 (-1074), .int .i64 11] 274)) w.heap.size 0 274 [.int .i64 52, .int .i64 (-1074), .int .i64 11] _ (fun j u hu => by rw [Nat.zero_add, cell_of_row _ _ _ _ _ _ (heap_alloc_new w _)]; simpa using hu) Tryz.underlying274 rfl (by kernel_rfl)
 simp [results, Tryz.results215, hLd, asAddr, Act.put]
theorem shSign_any (w : World) : Calls Tryz.prog 216 #[.agg #[.int .i64 52, .int .i64 (-1074), .int .i64 11]] w fun e w' => e = .returned (.int .u64 9223372036854775808) ∧ Below w.heap.size w w' := by
 go_enter Tryz.func216, Tryz.ntmps216
 go_wp2
 go_ret
 exact ⟨rfl, (Below.refl _ _).alloc (Nat.le_refl _) _⟩
theorem bit_sign (x : Int) (h0 : 0 ≤ x) (h1 : x ≤ 18446744073709551615) : bits BinOp.and .u64 x 9223372036854775808 = (x / 9223372036854775808) * 9223372036854775808 := by
 have h2 : x < 18446744073709551616 := by omega
 go_bits2
theorem bit_size (x : Int) (h0 : 0 ≤ x) (h1 : x ≤ 18446744073709551615) : bits BinOp.andNot .u64 x 9223372036854775808 = x % 9223372036854775808 := by
 have h2 : x < 18446744073709551616 := by omega
 go_bits2
theorem split_any (x : Int) (w : World) (hS : Shapes w) (h0 : 0 ≤ x) (h1 : x ≤ 18446744073709551615) :
  Calls Tryz.prog 155 #[.int .u64 x] w fun e w' => e = .returned (.tuple #[.bool (decide (9223372036854775808 ≤ x)), .int .u64 (x % 9223372036854775808)]) ∧ Below w.heap.size w w' := by
 have H1 := Lib.hid (of_any w hS)
 have b1 := bit_sign x h0 h1
 have b2 := bit_size x h0 h1
 have b3 : ((x / 9223372036854775808) * 9223372036854775808 != 0) = decide (9223372036854775808 ≤ x) := by
  rw [Bool.eq_iff_iff]; simp; omega
 clear hS
 go_enter Tryz.func155, Tryz.ntmps155
 go_wp2_with (first
  | (go_at_call 215; refine H1.out.mono ?_; rintro e w1 ⟨rfl, hb1⟩)
  | (go_at_call 216; refine (shSign_any _).mono ?_; rintro e w2 ⟨rfl, hb2⟩))
 go_ret2
 exact ⟨rfl, trans_b hb1 hb2⟩
theorem tot_case (x y : Int) (h0 : 0 ≤ x) (h1 : x ≤ 18446744073709551615) (k0 : 0 ≤ y) (k1 : y ≤ 18446744073709551615) :
  cmpI (totK x) (totK y) = if 9223372036854775808 ≤ x then (if 9223372036854775808 ≤ y then cmpI y x else -1) else (if 9223372036854775808 ≤ y then 1 else cmpI x y) := by
 unfold totK cmpI
 (repeat' split) <;> omega
theorem total_any (x y : Int) (w : World) (hS : Shapes w) (h0 : 0 ≤ x) (h1 : x ≤ 18446744073709551615) (k0 : 0 ≤ y) (k1 : y ≤ 18446744073709551615) :
  Calls Tryz.prog 66 #[.int .u64 x, .int .u64 y] w fun e w' => e = .returned (.int .i64 (cmpI (totK x) (totK y))) ∧ Below w.heap.size w w' := by
 have H1 := Lib.hid (split_any x w hS h0 h1)
 have H2 : Hid (∀ W, Below w.heap.size w W → _) := Lib.hid fun W hW => split_any y W (hS.below hW) k0 k1
 rw [tot_case x y h0 h1 k0 k1]
 clear hS h0 h1 k0 k1
 rcases ex : decide (9223372036854775808 ≤ x) with _ | _ <;> rcases ey : decide (9223372036854775808 ≤ y) with _ | _
 all_goals (
  have hx := ex
  have hy := ey
  simp only [decide_eq_true_eq, decide_eq_false_iff_not] at hx hy
  have H1' := H1.out
  have H2' := H2.out
  rw [ex] at H1'
  rw [ey] at H2'
  have H3 := Lib.hid H1'
  have H4 := Lib.hid H2'
  first | rw [if_pos hx] | rw [if_neg hx]
  first | rw [if_pos hy] | rw [if_neg hy]
  clear H1 H2 H1' H2' ex ey hx hy
  go_enter Tryz.func66, Tryz.ntmps66
  go_upto_region 2 with (go_at_call 155; refine H3.out.mono ?_; rintro e w1 ⟨rfl, hb1⟩)
  go_wp2_with (first
   | (go_at_call 155; refine (H4.out _ hb1).mono ?_; rintro e w2 ⟨rfl, hb2⟩)
   | (go_at_call 63; refine (gcU _ _ _).mono ?_; rintro e w3 ⟨rfl, rfl⟩))
  go_ret
  exact ⟨rfl, trans_b hb1 hb2⟩)
end Go.Proofs.YtcpkjmpbpmeclaaGreatDoor
namespace Go.Proofs.YtcpkjmpbpmeclaaGreatDoor
open Go.RowKit
set_option maxRecDepth 100000
set_option linter.unusedVariables false
set_option linter.unusedSimpArgs false
set_option linter.unnecessarySimpa false

def orL : List Int → Int
 | [] => 0
 | z :: l => orI z (orL l)
theorem orL_at : ∀ (l : List Int) (i : Nat), (∀ j, j < i → l.getD j 0 = 0) → l.getD i 0 ≠ 0 → orL l = l.getD i 0
 | [], i, _, h => by simp at h
 | z :: l, 0, _, h => by simp only [List.getD_cons_zero] at *; exact orI_ne _ h
 | z :: l, i + 1, hz, h => by
  have h0 := hz 0 (by omega)
  simp only [List.getD_cons_zero, List.getD_cons_succ] at *
  subst h0
  rw [orL, orI_zero]
  exact orL_at l i (fun j hj => by have := hz (j + 1) (by omega); simpa using this) h
theorem orL_none : ∀ (l : List Int), (∀ j, j < l.length → l.getD j 0 = 0) → orL l = 0
 | [], _ => rfl
 | z :: l, hz => by
  have h0 := hz 0 (by simp)
  simp only [List.getD_cons_zero] at h0
  subst h0
  rw [orL, orI_zero]
  exact orL_none l fun j hj => by have := hz (j + 1) (by simpa using hj); simpa using this
set_option maxHeartbeats 1000000 in
theorem or_any (A : Option Addr) (c : Nat) (zs : List Int) (w : World) (hl : zs.length ≤ 1000000000) (hr : RK w .i64 A zs) :
  Calls Tryz.prog 61 #[.slice A zs.length c] w fun e w' => e = .returned (.int .i64 (orL zs)) ∧ w' = w := by
 have HR := Lib.hid hr
 obtain ⟨n, hn⟩ : ∃ n, zs.length = n := ⟨_, rfl⟩
 obtain ⟨v, hv⟩ : ∃ v, orL zs = v := ⟨_, rfl⟩
 rw [hn] at hl ⊢
 rw [hv]
 have HN := Lib.hid hn
 have HV := Lib.hid hv
 clear hr hn hv
 go_enter Tryz.func61, Tryz.ntmps61
 go_wp2
 go_loopw [8] (fun i W => ∃ j : Nat, i = .int .i64 j ∧ j ≤ n ∧ Hid (∀ i, i < j → zs.getD i 0 = 0) ∧ W = w) (fun i _ => n - (intOf i).toNat)
 case atStart => exact ⟨0, rfl, Nat.zero_le _, Lib.hid fun i hi => by omega, rfl⟩
 case round =>
  obtain ⟨j, rfl, hj, HZ, rfl⟩ := hrel
  by_cases hlt : j < n
  ·obtain ⟨b, off, rfl, hx⟩ := HR.out.cell j (by rw [HN.out]; exact hlt)
   obtain ⟨x, hxe⟩ : ∃ x, zs.getD j 0 = x := ⟨_, rfl⟩
   rw [hxe] at hx
   have HX := Lib.hid hxe
   clear hxe
   by_cases h0 : x = 0
   ·subst h0
    have HZ2 : Hid (∀ i, i < j + 1 → zs.getD i 0 = 0) := Lib.hid fun i hi => by
     by_cases h : i = j
     ·rw [h]; exact HX.out
     ·exact HZ.out i (by omega)
    go_wp2
    exact ⟨⟨j + 1, by go_num, by omega, HZ2, trivial⟩, by simp [intOf]; omega⟩
   ·have hb : (x != 0) = true := by simpa using h0
    have HV2 : Hid (v = x) := Lib.hid (by rw [← HV.out, orL_at zs j HZ.out (by rw [HX.out]; exact h0), HX.out])
    clear h0
    go_wp2
    go_ret
    exact ⟨by rw [HV2.out]; rfl, rfl⟩
  ·obtain rfl : j = n := by omega
   have HV2 : Hid (v = 0) := Lib.hid (by rw [← HV.out]; exact orL_none zs fun i hi => HZ.out i (by rw [HN.out] at hi; exact hi))
   clear hlt
   go_wp2
   go_ret
   exact ⟨by rw [HV2.out]; rfl, rfl⟩
/-- Alike up to a place. -/
theorem cmpVL_at : ∀ (l m : List VT) (i : Nat) (h1 : i < l.length) (h2 : i < m.length), (∀ j (a : j < l.length) (b : j < m.length), j < i → cmpV l[j] m[j] = 0) → cmpV l[i] m[i] ≠ 0 → cmpVL l m = cmpV l[i] m[i]
 | x :: l, y :: m, 0, _, _, _, h => by simp only [List.getElem_cons_zero] at *; rw [cmpVL, orI_ne _ h]
 | x :: l, y :: m, i + 1, h1, h2, hz, h => by
  have h0 := hz 0 (by simp) (by simp) (by omega)
  simp only [List.getElem_cons_zero, List.getElem_cons_succ] at *
  rw [cmpVL, h0, orI_zero]
  exact cmpVL_at l m i (by simpa using h1) (by simpa using h2) (fun j a b hj => by have := hz (j + 1) (by simpa using a) (by simpa using b) (by omega); simpa using this) h
theorem cmpVL_end : ∀ (l m : List VT), (∀ j (a : j < l.length) (b : j < m.length), cmpV l[j] m[j] = 0) → cmpVL l m = cmpI l.length m.length
 | [], [], _ => rfl
 | [], y :: m, _ => by rw [cmpVL, cmpI_lt]; simp
 | x :: l, [], _ => by rw [cmpVL, cmpI_gt]; simp
 | x :: l, y :: m, hz => by
  have h0 := hz 0 (by simp) (by simp)
  simp only [List.getElem_cons_zero] at h0
  rw [cmpVL, h0, orI_zero, cmpVL_end l m fun j a b => by have := hz (j + 1) (by simpa using a) (by simpa using b); simpa using this]
  simp only [List.length_cons, cmpI]
  (repeat' split) <;> omega
end Go.Proofs.YtcpkjmpbpmeclaaGreatDoor
namespace Go.Proofs.YtcpkjmpbpmeclaaGreatDoor
open Go.RowKit
set_option maxRecDepth 100000
set_option linter.unusedVariables false
set_option linter.unusedSimpArgs false
set_option linter.unnecessarySimpa false

set_option maxHeartbeats 2000000 in
theorem cmpFn_of (A B : Option Addr) (m n c d : Nat) (l r : List VT) (w : World) (hl : l.length = m) (hr : r.length = n) (hm : m ≤ 1000000000) (hn : n ≤ 1000000000) (hA : VRow w A l) (hB : VRow w B r)
  (hk : ∀ i (h1 : i < l.length) (h2 : i < r.length) W, Below w.heap.size w W → Calls Tryz.prog 23 #[(l[i]).agg, (r[i]).agg] W fun e w' => e = .returned (.int .i64 (cmpV (l[i]) (r[i]))) ∧ Below W.heap.size W w') :
  Calls Tryz.prog 68 #[.slice A m c, .slice B n d, .func (.func 23) #[] #[]] w fun e w' => e = .returned (.int .i64 (cmpVL l r)) ∧ Below w.heap.size w w' := by
 have HA := Lib.hid hA
 have HB := Lib.hid hB
 have HK := Lib.hid hk
 have HL := Lib.hid hl
 have HR := Lib.hid hr
 obtain ⟨z, hz⟩ : ∃ z, cmpVL l r = z := ⟨_, rfl⟩
 rw [hz]
 have HZ := Lib.hid hz
 clear hA hB hk hl hr hz
 go_enter Tryz.func68, Tryz.ntmps68
 go_wp2
 go_loopw [13] (fun i W => ∃ j : Nat, i = .int .i64 j ∧ j ≤ m ∧ j ≤ n ∧ Hid (∀ i (a : i < l.length) (b : i < r.length), i < j → cmpV l[i] r[i] = 0) ∧ Below w.heap.size w W) (fun i _ => m - (intOf i).toNat)
 case atStart => exact ⟨0, rfl, Nat.zero_le _, Nat.zero_le _, Lib.hid fun i a b h => by omega, Below.refl _ _⟩
 case round =>
  obtain ⟨j, rfl, hj, hjn, HS, hB⟩ := hrel
  by_cases hlt : j < m
  ·have hjl : j < l.length := by rw [HL.out]; exact hlt
   obtain ⟨b, off, xk, xn, xg, xmA, xml, xmc, xb, xe, xt, xA, xl, xc, rfl, r0, r1, r2, r3, r4, r5, r6, r7, hC⟩ := (HA.out.below hB).kid hjl (C := fun u => ∀ (h2 : j < r.length) W, Below w.heap.size w W → Calls Tryz.prog 23 #[u, (r[j]).agg] W fun e w' => e = .returned (.int .i64 (cmpV (l[j]) (r[j]))) ∧ Below W.heap.size W w') (fun h2 => HK.out j hjl h2)
   by_cases hlt2 : j < n
   ·have hjr : j < r.length := by rw [HR.out]; exact hlt2
    obtain ⟨b2, off2, yk, yn, yg, ymA, yml, ymc, yb, ye, yt, yA, yl, yc, rfl, s0, s1, s2, s3, s4, s5, s6, s7, hD⟩ := (HB.out.below hB).kid hjr (C := fun u => ∀ W, Below w.heap.size w W → Calls Tryz.prog 23 #[_, u] W fun e w' => e = .returned (.int .i64 (cmpV (l[j]) (r[j]))) ∧ Below W.heap.size W w') (hC hjr)
    have HD := Lib.hid hD
    obtain ⟨q, hq⟩ : ∃ q, cmpV l[j] r[j] = q := ⟨_, rfl⟩
    have HQ : Hid (∀ (a : j < l.length) (b : j < r.length), cmpV l[j] r[j] = q) := Lib.hid fun _ _ => hq
    rw [hq] at HD
    clear hC hD hq hjl hjr
    have hBA : Below w.heap.size w (wr.alloc (.cells #[.int .i8 xk, .int .u64 xn, .bool xg, .slice xmA xml xmc, .int .u64 xb, .int .i8 xe, .string xt, .slice xA xl xc] 31)) := hB.alloc hB.size _
    have hW1 : Below wr.heap.size wr (wr.alloc (.cells #[.int .i8 xk, .int .u64 xn, .bool xg, .slice xmA xml xmc, .int .u64 xb, .int .i8 xe, .string xt, .slice xA xl xc] 31)) := (Below.refl _ _).alloc (Nat.le_refl _) _
    have s0 := keep1 hW1 s0
    have s1 := keep1 hW1 s1
    have s2 := keep1 hW1 s2
    have s3 := keep1 hW1 s3
    have s4 := keep1 hW1 s4
    have s5 := keep1 hW1 s5
    have s6 := keep1 hW1 s6
    have s7 := keep1 hW1 s7
    clear hW1
    have hBB : Below w.heap.size w ((wr.alloc (.cells #[.int .i8 xk, .int .u64 xn, .bool xg, .slice xmA xml xmc, .int .u64 xb, .int .i8 xe, .string xt, .slice xA xl xc] 31)).alloc (.cells #[.int .i8 yk, .int .u64 yn, .bool yg, .slice ymA yml ymc, .int .u64 yb, .int .i8 ye, .string yt, .slice yA yl yc] 31)) := hBA.alloc hBA.size _
    have HBB := Lib.hid hBB
    clear hBA hBB
    by_cases h0 : q = 0
    ·subst h0
     have HS2 : Hid (∀ i (a : i < l.length) (b : i < r.length), i < j + 1 → cmpV l[i] r[i] = 0) := Lib.hid fun i a b h => by
      by_cases hi : i = j
      ·subst hi; exact HQ.out a b
      ·exact HS.out i a b (by omega)
     go_wp2_with (go_at_call 23; refine (HD.out _ HBB.out).mono ?_; rintro e w1 ⟨rfl, hb1⟩)
     exact ⟨⟨j + 1, by go_num, by omega, by omega, HS2, trans_b HBB.out hb1⟩, by simp [intOf]; omega⟩
    ·have hb0 : (q != 0) = true := by simpa using h0
     have HZ2 : Hid (z = q) := Lib.hid (by
      have a : j < l.length := by rw [HL.out]; exact hlt
      have b : j < r.length := by rw [HR.out]; exact hlt2
      rw [← HZ.out, cmpVL_at l r j a b (fun i a b h => HS.out i a b h) (by rw [HQ.out a b]; exact h0), HQ.out a b])
     clear h0
     go_wp2_with (go_at_call 23; refine (HD.out _ HBB.out).mono ?_; rintro e w1 ⟨rfl, hb1⟩)
     go_ret
     exact ⟨by rw [HZ2.out]; rfl, trans_b HBB.out hb1⟩
   ·have hBA : Below w.heap.size w (wr.alloc (.cells #[.int .i8 xk, .int .u64 xn, .bool xg, .slice xmA xml xmc, .int .u64 xb, .int .i8 xe, .string xt, .slice xA xl xc] 31)) := hB.alloc hB.size _
    have HZ2 : Hid (z = 1) := Lib.hid (by
     rw [← HZ.out, cmpVL_end l r fun i a b => HS.out i a b (by have := HR.out; omega), HL.out, HR.out]
     exact cmpI_gt (by omega))
    clear hC hjl
    go_wp2
    go_ret
    exact ⟨by rw [HZ2.out]; rfl, hBA⟩
  ·obtain rfl : j = m := by omega
   have HZ2 : Hid (z = if j < n then -1 else 0) := Lib.hid (by
    rw [← HZ.out, cmpVL_end l r fun i a b => HS.out i a b (by have := HL.out; omega), HL.out, HR.out]
    unfold cmpI
    (repeat' split) <;> omega)
   clear hlt
   by_cases hjn2 : j < n
   ·have HZ3 : Hid (z = -1) := Lib.hid (by rw [HZ2.out, if_pos hjn2])
    go_wp2
    go_ret
    exact ⟨by rw [HZ3.out]; rfl, hB⟩
   ·have HZ3 : Hid (z = 0) := Lib.hid (by rw [HZ2.out, if_neg hjn2])
    go_wp2
    go_ret
    exact ⟨by rw [HZ3.out]; rfl, hB⟩
end Go.Proofs.YtcpkjmpbpmeclaaGreatDoor
namespace Go.Proofs.YtcpkjmpbpmeclaaGreatDoor
open Go.RowKit
set_option maxRecDepth 100000
set_option linter.unusedVariables false
set_option linter.unusedSimpArgs false
set_option linter.unnecessarySimpa false

theorem box2_keep {w X Y : World} {a0 a1 a2 a3 a4 a5 a6 a7 b0 b1 b2 b3 b4 b5 b6 b7 : Value} (h : Below w.heap.size w X ∧ World.cell? X ⟨w.heap.size, 0, none⟩ = some (a0) ∧ World.cell? X ⟨w.heap.size, 1, none⟩ = some (a1) ∧ World.cell? X ⟨w.heap.size, 2, none⟩ = some (a2) ∧ World.cell? X ⟨w.heap.size, 3, none⟩ = some (a3) ∧ World.cell? X ⟨w.heap.size, 4, none⟩ = some (a4) ∧ World.cell? X ⟨w.heap.size, 5, none⟩ = some (a5) ∧ World.cell? X ⟨w.heap.size, 6, none⟩ = some (a6) ∧ World.cell? X ⟨w.heap.size, 7, none⟩ = some (a7) ∧ World.cell? X ⟨w.heap.size + 1, 0, none⟩ = some (b0) ∧ World.cell? X ⟨w.heap.size + 1, 1, none⟩ = some (b1) ∧ World.cell? X ⟨w.heap.size + 1, 2, none⟩ = some (b2) ∧ World.cell? X ⟨w.heap.size + 1, 3, none⟩ = some (b3) ∧ World.cell? X ⟨w.heap.size + 1, 4, none⟩ = some (b4) ∧ World.cell? X ⟨w.heap.size + 1, 5, none⟩ = some (b5) ∧ World.cell? X ⟨w.heap.size + 1, 6, none⟩ = some (b6) ∧ World.cell? X ⟨w.heap.size + 1, 7, none⟩ = some (b7)) (hb : Below X.heap.size X Y) : Below w.heap.size w Y ∧ World.cell? Y ⟨w.heap.size, 0, none⟩ = some (a0) ∧ World.cell? Y ⟨w.heap.size, 1, none⟩ = some (a1) ∧ World.cell? Y ⟨w.heap.size, 2, none⟩ = some (a2) ∧ World.cell? Y ⟨w.heap.size, 3, none⟩ = some (a3) ∧ World.cell? Y ⟨w.heap.size, 4, none⟩ = some (a4) ∧ World.cell? Y ⟨w.heap.size, 5, none⟩ = some (a5) ∧ World.cell? Y ⟨w.heap.size, 6, none⟩ = some (a6) ∧ World.cell? Y ⟨w.heap.size, 7, none⟩ = some (a7) ∧ World.cell? Y ⟨w.heap.size + 1, 0, none⟩ = some (b0) ∧ World.cell? Y ⟨w.heap.size + 1, 1, none⟩ = some (b1) ∧ World.cell? Y ⟨w.heap.size + 1, 2, none⟩ = some (b2) ∧ World.cell? Y ⟨w.heap.size + 1, 3, none⟩ = some (b3) ∧ World.cell? Y ⟨w.heap.size + 1, 4, none⟩ = some (b4) ∧ World.cell? Y ⟨w.heap.size + 1, 5, none⟩ = some (b5) ∧ World.cell? Y ⟨w.heap.size + 1, 6, none⟩ = some (b6) ∧ World.cell? Y ⟨w.heap.size + 1, 7, none⟩ = some (b7) := by
 obtain ⟨h0, p0, p1, p2, p3, p4, p5, p6, p7, q0, q1, q2, q3, q4, q5, q6, q7⟩ := h
 exact ⟨trans_b h0 hb, keep1 hb p0, keep1 hb p1, keep1 hb p2, keep1 hb p3, keep1 hb p4, keep1 hb p5, keep1 hb p6, keep1 hb p7, keep1 hb q0, keep1 hb q1, keep1 hb q2, keep1 hb q3, keep1 hb q4, keep1 hb q5, keep1 hb q6, keep1 hb q7⟩
theorem box2_alloc {w X : World} {o : Obj} {a0 a1 a2 a3 a4 a5 a6 a7 b0 b1 b2 b3 b4 b5 b6 b7 : Value} (h : Below w.heap.size w X ∧ World.cell? X ⟨w.heap.size, 0, none⟩ = some (a0) ∧ World.cell? X ⟨w.heap.size, 1, none⟩ = some (a1) ∧ World.cell? X ⟨w.heap.size, 2, none⟩ = some (a2) ∧ World.cell? X ⟨w.heap.size, 3, none⟩ = some (a3) ∧ World.cell? X ⟨w.heap.size, 4, none⟩ = some (a4) ∧ World.cell? X ⟨w.heap.size, 5, none⟩ = some (a5) ∧ World.cell? X ⟨w.heap.size, 6, none⟩ = some (a6) ∧ World.cell? X ⟨w.heap.size, 7, none⟩ = some (a7) ∧ World.cell? X ⟨w.heap.size + 1, 0, none⟩ = some (b0) ∧ World.cell? X ⟨w.heap.size + 1, 1, none⟩ = some (b1) ∧ World.cell? X ⟨w.heap.size + 1, 2, none⟩ = some (b2) ∧ World.cell? X ⟨w.heap.size + 1, 3, none⟩ = some (b3) ∧ World.cell? X ⟨w.heap.size + 1, 4, none⟩ = some (b4) ∧ World.cell? X ⟨w.heap.size + 1, 5, none⟩ = some (b5) ∧ World.cell? X ⟨w.heap.size + 1, 6, none⟩ = some (b6) ∧ World.cell? X ⟨w.heap.size + 1, 7, none⟩ = some (b7)) : Below w.heap.size w (X.alloc o) ∧ World.cell? (X.alloc o) ⟨w.heap.size, 0, none⟩ = some (a0) ∧ World.cell? (X.alloc o) ⟨w.heap.size, 1, none⟩ = some (a1) ∧ World.cell? (X.alloc o) ⟨w.heap.size, 2, none⟩ = some (a2) ∧ World.cell? (X.alloc o) ⟨w.heap.size, 3, none⟩ = some (a3) ∧ World.cell? (X.alloc o) ⟨w.heap.size, 4, none⟩ = some (a4) ∧ World.cell? (X.alloc o) ⟨w.heap.size, 5, none⟩ = some (a5) ∧ World.cell? (X.alloc o) ⟨w.heap.size, 6, none⟩ = some (a6) ∧ World.cell? (X.alloc o) ⟨w.heap.size, 7, none⟩ = some (a7) ∧ World.cell? (X.alloc o) ⟨w.heap.size + 1, 0, none⟩ = some (b0) ∧ World.cell? (X.alloc o) ⟨w.heap.size + 1, 1, none⟩ = some (b1) ∧ World.cell? (X.alloc o) ⟨w.heap.size + 1, 2, none⟩ = some (b2) ∧ World.cell? (X.alloc o) ⟨w.heap.size + 1, 3, none⟩ = some (b3) ∧ World.cell? (X.alloc o) ⟨w.heap.size + 1, 4, none⟩ = some (b4) ∧ World.cell? (X.alloc o) ⟨w.heap.size + 1, 5, none⟩ = some (b5) ∧ World.cell? (X.alloc o) ⟨w.heap.size + 1, 6, none⟩ = some (b6) ∧ World.cell? (X.alloc o) ⟨w.heap.size + 1, 7, none⟩ = some (b7) := box2_keep h ((Below.refl _ _).alloc (Nat.le_refl _) _)
theorem box2_new (w : World) (a0 a1 a2 a3 a4 a5 a6 a7 b0 b1 b2 b3 b4 b5 b6 b7 : Value) : Below w.heap.size w ((w.alloc (.cells #[a0, a1, a2, a3, a4, a5, a6, a7] 31)).alloc (.cells #[b0, b1, b2, b3, b4, b5, b6, b7] 31)) ∧ World.cell? ((w.alloc (.cells #[a0, a1, a2, a3, a4, a5, a6, a7] 31)).alloc (.cells #[b0, b1, b2, b3, b4, b5, b6, b7] 31)) ⟨w.heap.size, 0, none⟩ = some (a0) ∧ World.cell? ((w.alloc (.cells #[a0, a1, a2, a3, a4, a5, a6, a7] 31)).alloc (.cells #[b0, b1, b2, b3, b4, b5, b6, b7] 31)) ⟨w.heap.size, 1, none⟩ = some (a1) ∧ World.cell? ((w.alloc (.cells #[a0, a1, a2, a3, a4, a5, a6, a7] 31)).alloc (.cells #[b0, b1, b2, b3, b4, b5, b6, b7] 31)) ⟨w.heap.size, 2, none⟩ = some (a2) ∧ World.cell? ((w.alloc (.cells #[a0, a1, a2, a3, a4, a5, a6, a7] 31)).alloc (.cells #[b0, b1, b2, b3, b4, b5, b6, b7] 31)) ⟨w.heap.size, 3, none⟩ = some (a3) ∧ World.cell? ((w.alloc (.cells #[a0, a1, a2, a3, a4, a5, a6, a7] 31)).alloc (.cells #[b0, b1, b2, b3, b4, b5, b6, b7] 31)) ⟨w.heap.size, 4, none⟩ = some (a4) ∧ World.cell? ((w.alloc (.cells #[a0, a1, a2, a3, a4, a5, a6, a7] 31)).alloc (.cells #[b0, b1, b2, b3, b4, b5, b6, b7] 31)) ⟨w.heap.size, 5, none⟩ = some (a5) ∧ World.cell? ((w.alloc (.cells #[a0, a1, a2, a3, a4, a5, a6, a7] 31)).alloc (.cells #[b0, b1, b2, b3, b4, b5, b6, b7] 31)) ⟨w.heap.size, 6, none⟩ = some (a6) ∧ World.cell? ((w.alloc (.cells #[a0, a1, a2, a3, a4, a5, a6, a7] 31)).alloc (.cells #[b0, b1, b2, b3, b4, b5, b6, b7] 31)) ⟨w.heap.size, 7, none⟩ = some (a7) ∧ World.cell? ((w.alloc (.cells #[a0, a1, a2, a3, a4, a5, a6, a7] 31)).alloc (.cells #[b0, b1, b2, b3, b4, b5, b6, b7] 31)) ⟨w.heap.size + 1, 0, none⟩ = some (b0) ∧ World.cell? ((w.alloc (.cells #[a0, a1, a2, a3, a4, a5, a6, a7] 31)).alloc (.cells #[b0, b1, b2, b3, b4, b5, b6, b7] 31)) ⟨w.heap.size + 1, 1, none⟩ = some (b1) ∧ World.cell? ((w.alloc (.cells #[a0, a1, a2, a3, a4, a5, a6, a7] 31)).alloc (.cells #[b0, b1, b2, b3, b4, b5, b6, b7] 31)) ⟨w.heap.size + 1, 2, none⟩ = some (b2) ∧ World.cell? ((w.alloc (.cells #[a0, a1, a2, a3, a4, a5, a6, a7] 31)).alloc (.cells #[b0, b1, b2, b3, b4, b5, b6, b7] 31)) ⟨w.heap.size + 1, 3, none⟩ = some (b3) ∧ World.cell? ((w.alloc (.cells #[a0, a1, a2, a3, a4, a5, a6, a7] 31)).alloc (.cells #[b0, b1, b2, b3, b4, b5, b6, b7] 31)) ⟨w.heap.size + 1, 4, none⟩ = some (b4) ∧ World.cell? ((w.alloc (.cells #[a0, a1, a2, a3, a4, a5, a6, a7] 31)).alloc (.cells #[b0, b1, b2, b3, b4, b5, b6, b7] 31)) ⟨w.heap.size + 1, 5, none⟩ = some (b5) ∧ World.cell? ((w.alloc (.cells #[a0, a1, a2, a3, a4, a5, a6, a7] 31)).alloc (.cells #[b0, b1, b2, b3, b4, b5, b6, b7] 31)) ⟨w.heap.size + 1, 6, none⟩ = some (b6) ∧ World.cell? ((w.alloc (.cells #[a0, a1, a2, a3, a4, a5, a6, a7] 31)).alloc (.cells #[b0, b1, b2, b3, b4, b5, b6, b7] 31)) ⟨w.heap.size + 1, 7, none⟩ = some (b7) := by
 have e1 : (w.alloc (.cells #[a0, a1, a2, a3, a4, a5, a6, a7] 31)).heap.size = w.heap.size + 1 := by simp
 have h1 : ∀ j : Nat, (w.alloc (.cells #[a0, a1, a2, a3, a4, a5, a6, a7] 31)).cell? ⟨w.heap.size, j, none⟩ = (#[a0, a1, a2, a3, a4, a5, a6, a7] : Array Value)[j]? := fun j => cell_of_row _ _ _ _ _ _ (heap_alloc_new w _)
 have hb : Below (w.alloc (.cells #[a0, a1, a2, a3, a4, a5, a6, a7] 31)).heap.size (w.alloc (.cells #[a0, a1, a2, a3, a4, a5, a6, a7] 31)) ((w.alloc (.cells #[a0, a1, a2, a3, a4, a5, a6, a7] 31)).alloc (.cells #[b0, b1, b2, b3, b4, b5, b6, b7] 31)) := (Below.refl _ _).alloc (Nat.le_refl _) _
 have h2 : ∀ j : Nat, ((w.alloc (.cells #[a0, a1, a2, a3, a4, a5, a6, a7] 31)).alloc (.cells #[b0, b1, b2, b3, b4, b5, b6, b7] 31)).cell? ⟨w.heap.size + 1, j, none⟩ = (#[b0, b1, b2, b3, b4, b5, b6, b7] : Array Value)[j]? := fun j => by
  have := cell_of_row _ _ j _ _ _ (heap_alloc_new (w.alloc (.cells #[a0, a1, a2, a3, a4, a5, a6, a7] 31)) (.cells #[b0, b1, b2, b3, b4, b5, b6, b7] 31))
  rwa [e1] at this
 exact ⟨((Below.refl _ _).alloc (Nat.le_refl _) _).alloc (by simp) _, keep1 hb (h1 0), keep1 hb (h1 1), keep1 hb (h1 2), keep1 hb (h1 3), keep1 hb (h1 4), keep1 hb (h1 5), keep1 hb (h1 6), keep1 hb (h1 7), h2 0, h2 1, h2 2, h2 3, h2 4, h2 5, h2 6, h2 7⟩
theorem RK.new6 (X : World) (z1 z2 z3 z4 z5 z6 : Int) (t : TypeId) : RK (X.alloc (.cells #[.int .i64 z1, .int .i64 z2, .int .i64 z3, .int .i64 z4, .int .i64 z5, .int .i64 z6] t)) .i64 (some ⟨X.heap.size, 0, none⟩) [z1, z2, z3, z4, z5, z6] :=
 numsK_row (k := .i64) (xs := [z1, z2, z3, z4, z5, z6]) (heap_alloc_new X _)
set_option maxHeartbeats 4000000 in
theorem cmpW_walk (w : World) (k k2 n n2 bs bs2 ex ex2 z1 z2 z3 z4 z5 z6 v z : Int) (ng ng2 : Bool) (mA mA2 A A2 : Option Addr) (ml mc m cp ml2 mc2 m2 cp2 : Nat) (tx tx2 : ByteArray)
  (H1 : Hid (∀ W, Calls Tryz.prog 62 #[.int .i8 k, .int .i8 k2] W fun e w' => e = .returned (.int .i64 z1) ∧ w' = W))
  (H2 : Hid (∀ W, Calls Tryz.prog 63 #[.int .u64 n, .int .u64 n2] W fun e w' => e = .returned (.int .i64 z2) ∧ w' = W))
  (H3 : Hid (∀ W, Calls Tryz.prog 64 #[.int .i8 ex, .int .i8 ex2] W fun e w' => e = .returned (.int .i64 z3) ∧ w' = W))
  (H4 : Hid (∀ W, Below w.heap.size w W → Calls Tryz.prog 65 #[.agg #[.bool ng, .slice mA ml mc], .agg #[.bool ng2, .slice mA2 ml2 mc2]] W fun e w' => e = .returned (.int .i64 z4) ∧ Below W.heap.size W w'))
  (H5 : Hid (∀ W, Below w.heap.size w W → Calls Tryz.prog 66 #[.int .u64 bs, .int .u64 bs2] W fun e w' => e = .returned (.int .i64 z5) ∧ Below W.heap.size W w'))
  (H6 : Hid (∀ W, Calls Tryz.prog 67 #[.string tx, .string tx2] W fun e w' => e = .returned (.int .i64 z6) ∧ w' = W))
  (H7 : Hid (∀ X b, RK X .i64 (some ⟨b, 0, none⟩) [z1, z2, z3, z4, z5, z6] → Calls Tryz.prog 61 #[.slice (some ⟨b, 0, none⟩) 6 6] X fun e w' => e = .returned (.int .i64 v) ∧ w' = X))
  (H8 : Hid (∀ W, Below w.heap.size w W → Calls Tryz.prog 68 #[.slice A m cp, .slice A2 m2 cp2, .func (.func 23) #[] #[]] W fun e w' => e = .returned (.int .i64 z) ∧ Below W.heap.size W w')) :
  Calls Tryz.prog 23 #[.agg #[.int .i8 k, .int .u64 n, .bool ng, .slice mA ml mc, .int .u64 bs, .int .i8 ex, .string tx, .slice A m cp], .agg #[.int .i8 k2, .int .u64 n2, .bool ng2, .slice mA2 ml2 mc2, .int .u64 bs2, .int .i8 ex2, .string tx2, .slice A2 m2 cp2]] w fun e w' => e = .returned (.int .i64 (orI v z)) ∧ Below w.heap.size w w' := by
 have HS0 := Lib.hid (box2_new w (.int .i8 k) (.int .u64 n) (.bool ng) (.slice mA ml mc) (.int .u64 bs) (.int .i8 ex) (.string tx) (.slice A m cp) (.int .i8 k2) (.int .u64 n2) (.bool ng2) (.slice mA2 ml2 mc2) (.int .u64 bs2) (.int .i8 ex2) (.string tx2) (.slice A2 m2 cp2))
 obtain ⟨r, hr⟩ : ∃ r, orI v z = r := ⟨_, rfl⟩
 have HR := Lib.hid hr
 rw [hr]
 clear hr
 go_enter Tryz.func23, Tryz.ntmps23
 go_upto_region 1 with fail
 show Code.wp _ _ _ _ ((w.alloc (.cells #[.int .i8 k, .int .u64 n, .bool ng, .slice mA ml mc, .int .u64 bs, .int .i8 ex, .string tx, .slice A m cp] 31)).alloc (.cells #[.int .i8 k2, .int .u64 n2, .bool ng2, .slice mA2 ml2 mc2, .int .u64 bs2, .int .i8 ex2, .string tx2, .slice A2 m2 cp2] 31))
 generalize ((w.alloc (.cells #[.int .i8 k, .int .u64 n, .bool ng, .slice mA ml mc, .int .u64 bs, .int .i8 ex, .string tx, .slice A m cp] 31)).alloc (.cells #[.int .i8 k2, .int .u64 n2, .bool ng2, .slice mA2 ml2 mc2, .int .u64 bs2, .int .i8 ex2, .string tx2, .slice A2 m2 cp2] 31)) = W at *
 have HSD := Lib.hid (box2_keep HS0.out ((Below.refl W.heap.size W).drew))
 go_region_held3 (fun X => Below w.heap.size w X ∧ World.cell? X ⟨w.heap.size, 0, none⟩ = some (.int .i8 k) ∧ World.cell? X ⟨w.heap.size, 1, none⟩ = some (.int .u64 n) ∧ World.cell? X ⟨w.heap.size, 2, none⟩ = some (.bool ng) ∧ World.cell? X ⟨w.heap.size, 3, none⟩ = some (.slice mA ml mc) ∧ World.cell? X ⟨w.heap.size, 4, none⟩ = some (.int .u64 bs) ∧ World.cell? X ⟨w.heap.size, 5, none⟩ = some (.int .i8 ex) ∧ World.cell? X ⟨w.heap.size, 6, none⟩ = some (.string tx) ∧ World.cell? X ⟨w.heap.size, 7, none⟩ = some (.slice A m cp) ∧ World.cell? X ⟨w.heap.size + 1, 0, none⟩ = some (.int .i8 k2) ∧ World.cell? X ⟨w.heap.size + 1, 1, none⟩ = some (.int .u64 n2) ∧ World.cell? X ⟨w.heap.size + 1, 2, none⟩ = some (.bool ng2) ∧ World.cell? X ⟨w.heap.size + 1, 3, none⟩ = some (.slice mA2 ml2 mc2) ∧ World.cell? X ⟨w.heap.size + 1, 4, none⟩ = some (.int .u64 bs2) ∧ World.cell? X ⟨w.heap.size + 1, 5, none⟩ = some (.int .i8 ex2) ∧ World.cell? X ⟨w.heap.size + 1, 6, none⟩ = some (.string tx2) ∧ World.cell? X ⟨w.heap.size + 1, 7, none⟩ = some (.slice A2 m2 cp2))
  (first
   | with_reducible exact HSD.out
   | with_reducible exact HS1.out
   | with_reducible exact HS2.out
   | with_reducible exact box2_alloc HS2.out)
  (first
   | (go_at_call 62; refine (H1.out _).mono ?_; rintro e w0 ⟨rfl, rfl⟩)
   | (go_at_call 63; refine (H2.out _).mono ?_; rintro e w0 ⟨rfl, rfl⟩)
   | (go_at_call 64; refine (H3.out _).mono ?_; rintro e w0 ⟨rfl, rfl⟩)
   | (go_at_call 65; refine (H4.out _ HSD.out.1).mono ?_; rintro e w1 ⟨rfl, hb1⟩; have HS1 := Lib.hid (box2_keep HSD.out hb1); clear hb1)
   | (go_at_call 66; refine (H5.out _ HS1.out.1).mono ?_; rintro e w2 ⟨rfl, hb2⟩; have HS2 := Lib.hid (box2_keep HS1.out hb2); clear hb2)
   | (go_at_call 67; refine (H6.out _).mono ?_; rintro e w0 ⟨rfl, rfl⟩)
   | (go_at_call 61; refine (H7.out _ _ (RK.new6 _ _ _ _ _ _ _ _)).mono ?_; rintro e w0 ⟨rfl, rfl⟩))
 all_goals (
  have HS3 := Lib.hid (box2_alloc (o := .cells #[.int .i64 z1, .int .i64 z2, .int .i64 z3, .int .i64 z4, .int .i64 z5, .int .i64 z6] 3) HS2.out)
  have hB3 := Lib.hid HS3.out.1
  obtain ⟨_, _, _, _, _, _, _, _, c7, _, _, _, _, _, _, _, d7⟩ := HS3.out
  clear HS0 HSD HS1 HS2 HS3 H1 H2 H3 H4 H5 H6 H7
  by_cases h0 : v = 0
  ·subst h0
   have HRz : Hid (r = z) := Lib.hid (by rw [← HR.out, orI_zero])
   go_wp2_with (go_at_call 68; refine (H8.out _ hB3.out).mono ?_; rintro e w9 ⟨rfl, hb9⟩)
   go_ret
   exact ⟨by rw [HRz.out]; rfl, trans_b hB3.out hb9⟩
  ·have hv : (v != 0) = true := by simpa using h0
   have HRz : Hid (r = v) := Lib.hid (by rw [← HR.out, orI_ne _ h0])
   go_wp2
   go_ret
   exact ⟨by rw [HRz.out]; rfl, hB3.out⟩)
theorem orI_last (z : Int) : orI z 0 = z := by unfold orI; split <;> omega
theorem cmpV_any : ∀ (n : Nat) (a b : VT) (w : World), a.sz ≤ n → a.sz ≤ 1000000000 → b.sz ≤ 1000000000 → Shapes w → In w a → In w b →
  Calls Tryz.prog 23 #[a.agg, b.agg] w fun e w' => e = .returned (.int .i64 (cmpV a b)) ∧ Below w.heap.size w w' := by
 intro n
 induction n with
 | zero => intro a b w hn; have := a.sz_pos; omega
 | succ n ih =>
  intro a b w hn ha hb hs ia ib
  have pa := ia.parts
  have pb := ib.parts
  obtain ⟨ak, an, abits, aext, amag⟩ := pa.ok
  obtain ⟨bk, bn, bbits, bext, bmag⟩ := pb.ok
  have la : a.l.length ≤ a.sz := by rw [VT.sz_l]; have := VT.szL_len a.l; omega
  have lb : b.l.length ≤ b.sz := by rw [VT.sz_l]; have := VT.szL_len b.l; omega
  have ma : a.mag.length ≤ a.sz := by rw [VT.sz_l]; omega
  have mb : b.mag.length ≤ b.sz := by rw [VT.sz_l]; omega
  have hv : cmpV a b = orI (orL [cmpI a.k b.k, cmpI a.n b.n, cmpI a.ext b.ext, cmpI a.whole b.whole, cmpI (totK a.bits) (totK b.bits), cmpL (ints a.text) (ints b.text)]) (cmpVL a.l b.l) := by
   rw [cmpV_eq]
   simp only [orL, cmpN, orI_last]
  have na : NatIn w a.mA a.mcap a.mag := ⟨by omega, pa.ml, pa.mz, pa.mr, amag⟩
  have nb : NatIn w b.mA b.mcap b.mag := ⟨by omega, pb.ml, pb.mz, pb.mr, bmag⟩
  rw [hv]
  exact cmpW_walk w a.k b.k a.n b.n a.bits b.bits a.ext b.ext _ _ _ _ _ _ _ _ a.neg b.neg a.mA b.mA a.A b.A a.mag.length a.mcap a.l.length a.cap b.mag.length b.mcap b.l.length b.cap a.text b.text
   (Lib.hid fun W => gcK a.k b.k W) (Lib.hid fun W => gcU a.n b.n W) (Lib.hid fun W => gcE a.ext b.ext W)
   (Lib.hid fun W hW => wholeCmp_any a.neg b.neg a.mA b.mA a.mcap b.mcap a.mag b.mag W (na.below hW) (nb.below hW))
   (Lib.hid fun W hW => total_any a.bits b.bits W (hs.below hW) abits.1 abits.2 bbits.1 bbits.2)
   (Lib.hid fun W => gcS a.text b.text W)
   (Lib.hid fun X b0 hr => or_any _ 6 [_, _, _, _, _, _] X (by simp) hr)
   (Lib.hid fun W hW => cmpFn_of a.A b.A a.l.length b.l.length a.cap b.cap a.l b.l W rfl rfl (by omega) (by omega) (pa.row.below hW) (pb.row.below hW) fun i h1 h2 W2 hW2 =>
    ih _ _ W2 (by have := VT.kid_sz (List.getElem_mem h1); omega) (by have := VT.kid_sz (List.getElem_mem h1); omega) (by have := VT.kid_sz (List.getElem_mem h2); omega)
     (hs.below (trans_b hW hW2)) ((ia.kid (List.getElem_mem h1)).below (trans_b hW hW2)) ((ib.kid (List.getElem_mem h2)).below (trans_b hW hW2)))
end Go.Proofs.YtcpkjmpbpmeclaaGreatDoor
namespace Go.Proofs.YtcpkjmpbpmeclaaGreatDoor
set_option linter.unusedVariables false
set_option linter.unusedSimpArgs false

def magY : List Int → Int
 | [] => 0
 | x :: l => x + 256 * magY l
theorem magY_zero : ∀ xs : List Int, (∀ j, j < xs.length → xs.getD j 0 = 0) → magY xs = 0
 | [], _ => rfl
 | x :: l, h => by
  have h0 := h 0 (by simp)
  simp only [List.getD_cons_zero] at h0
  have hl := magY_zero l fun j hj => by
   have := h (j + 1) (by simp; omega)
   simpa using this
  simp [magY, h0, hl]
theorem magY_take : ∀ (xs : List Int) (n : Nat), (∀ j, n ≤ j → j < xs.length → xs.getD j 0 = 0) → magY (xs.take n) = magY xs
 | [], n, _ => by simp
 | x :: l, 0, h => by rw [List.take_zero]; exact (magY_zero _ fun j hj => h j (Nat.zero_le _) hj).symm
 | x :: l, n + 1, h => by
  simp only [List.take_succ_cons, magY]
  rw [magY_take l n fun j h1 h2 => by
   have := h (j + 1) (by omega) (by simp; omega)
   simpa using this]
theorem CutAt.magY {xs : List Int} {n : Nat} (h : CutAt xs n) : magY (xs.take n) = magY xs := magY_take xs n h.zero
def Bys (xs : List Int) : Prop := ∀ x ∈ xs, 0 ≤ x ∧ x ≤ 255
theorem Bys.take {xs : List Int} (h : Bys xs) (n : Nat) : Bys (xs.take n) := fun x hx => h x (List.mem_of_mem_take hx)
theorem Bys.at {xs : List Int} (h : Bys xs) (k : Nat) : 0 ≤ xs.getD k 0 ∧ xs.getD k 0 ≤ 255 := by
 by_cases hk : k < xs.length
 ·rw [List.getD_eq_getElem?_getD, List.getElem?_eq_getElem hk]
  exact h _ (List.getElem_mem hk)
 ·rw [List.getD_eq_getElem?_getD, List.getElem?_eq_none (by omega)]
  simp
def powY (k : Nat) : Int := (256 : Int) ^ k
theorem powY_succ (k : Nat) : powY (k + 1) = 256 * powY k := by unfold powY; rw [Int.pow_succ, Int.mul_comm]
theorem powY_pos : ∀ k, 0 < powY k
 | 0 => by decide
 | k + 1 => by have := powY_pos k; rw [powY_succ]; omega
theorem magY_bound : ∀ xs : List Int, Bys xs → 0 ≤ magY xs ∧ magY xs < powY xs.length
 | [], _ => ⟨by simp [magY], by simp [magY, powY]⟩
 | x :: l, h => by
  obtain ⟨h1, h2⟩ := magY_bound l fun y hy => h y (List.mem_cons_of_mem _ hy)
  obtain ⟨h3, h4⟩ := h x (by simp)
  rw [List.length_cons, powY_succ]
  simp only [magY]
  omega
theorem magY_split : ∀ (xs : List Int) (k : Nat), k < xs.length → magY xs = magY (xs.take k) + powY k * (xs.getD k 0 + 256 * magY (xs.drop (k + 1)))
 | x :: l, 0, _ => by simp [magY, powY]
 | x :: l, k + 1, h => by
  have := magY_split l k (by simpa using h)
  simp only [magY, List.take_succ_cons, List.drop_succ_cons, List.getD_cons_succ]
  rw [this, powY_succ, Int.mul_add, Int.mul_assoc]
  omega
theorem magY_lt {xs ys : List Int} (hx : Bys xs) (hy : Bys ys) (k : Nat) (h1 : k < xs.length) (h2 : k < ys.length) (hd : xs.drop (k + 1) = ys.drop (k + 1)) (hl : xs.getD k 0 < ys.getD k 0) : magY xs < magY ys := by
 rw [magY_split xs k h1, magY_split ys k h2, hd]
 obtain ⟨a1, a2⟩ := magY_bound (xs.take k) (hx.take k)
 obtain ⟨b1, b2⟩ := magY_bound (ys.take k) (hy.take k)
 rw [List.length_take, Nat.min_eq_left (by omega)] at a2
 have hp := powY_pos k
 generalize magY (ys.drop (k + 1)) = D at *
 generalize xs.getD k 0 = x at *
 generalize ys.getD k 0 = y at *
 generalize magY (xs.take k) = X at *
 generalize magY (ys.take k) = Y at *
 generalize powY k = P at *
 have e : P * (y + 256 * D) = P * (x + 256 * D) + P * (y - x) := by rw [← Int.mul_add]; congr 1; omega
 have : P * 1 ≤ P * (y - x) := Int.mul_le_mul_of_nonneg_left (by omega) (by omega)
 omega
theorem magY_low {xs : List Int} (hx : Bys xs) (n : Nat) (hn : n + 1 = xs.length) (ht : xs.getD n 0 ≠ 0) : powY n ≤ magY xs := by
 rw [magY_split xs n (by omega), List.drop_of_length_le (by omega)]
 obtain ⟨a1, a2⟩ := magY_bound (xs.take n) (hx.take n)
 have h0 := (hx.at n).1
 have hp := powY_pos n
 simp only [magY]
 generalize xs.getD n 0 = x at *
 generalize magY (xs.take n) = X at *
 generalize powY n = P at *
 have : P * 1 ≤ P * (x + 256 * 0) := Int.mul_le_mul_of_nonneg_left (by omega) (by omega)
 omega
theorem powY_le {m n : Nat} (h : m ≤ n) : powY m ≤ powY n := by
 induction h with
 | refl => exact Int.le_refl _
 | step _ ih => rw [powY_succ]; have := powY_pos m; omega
/-- Fewer bytes: less. -/
theorem magY_len {xs ys : List Int} {m n : Nat} (hx : Bys xs) (hy : Bys ys) (hm : CutAt xs m) (hn : CutAt ys n) (h : m < n) : magY xs < magY ys := by
 rw [← hm.magY, ← hn.magY]
 have l1 : (xs.take m).length = m := by rw [List.length_take]; have := hm.le; omega
 have l2 : (ys.take n).length = n := by rw [List.length_take]; have := hn.le; omega
 obtain ⟨a1, a2⟩ := magY_bound (xs.take m) (hx.take m)
 have ht : (ys.take n).getD (n - 1) 0 ≠ 0 := by
  rw [getD_take (by omega)]
  exact hn.top.resolve_left (by omega)
 have := magY_low (hy.take n) (n - 1) (by omega) ht
 have := powY_le (m := m) (n := n - 1) (by omega)
 rw [l1] at a2
 omega
theorem cmpByt_len {xs ys : List Int} {m n : Nat} (hx : Bys xs) (hy : Bys ys) (hm : CutAt xs m) (hn : CutAt ys n) (h : m ≠ n) : cmpI (m : Int) (n : Int) = cmpI (magY xs) (magY ys) := by
 rcases Nat.lt_or_gt_of_ne h with h | h
 ·rw [cmpI_lt (by omega), cmpI_lt (magY_len hx hy hm hn h)]
 ·rw [cmpI_gt (by omega), cmpI_gt (magY_len hy hx hn hm h)]
theorem cmpByt_at {xs ys : List Int} {n : Nat} (hx : Bys xs) (hy : Bys ys) (hm : CutAt xs n) (hn : CutAt ys n) (k : Nat) (hk : k < n) (hs : SameFrom xs ys n (k + 1)) (hne : xs.getD k 0 ≠ ys.getD k 0) : cmpI (xs.getD k 0) (ys.getD k 0) = cmpI (magY xs) (magY ys) := by
 have l1 : (xs.take n).length = n := by rw [List.length_take]; have := hm.le; omega
 have l2 : (ys.take n).length = n := by rw [List.length_take]; have := hn.le; omega
 have hd := hs.drop hm.le hn.le
 have e1 := getD_take (xs := xs) hk
 have e2 := getD_take (xs := ys) hk
 rw [← hm.magY, ← hn.magY]
 rcases Int.lt_or_gt_of_ne hne with h | h
 ·rw [cmpI_lt h, cmpI_lt (magY_lt (hx.take n) (hy.take n) k (by omega) (by omega) hd (by rw [e1, e2]; exact h))]
 ·rw [cmpI_gt h, cmpI_gt (magY_lt (hy.take n) (hx.take n) k (by omega) (by omega) hd.symm (by rw [e1, e2]; exact h))]
theorem cmpByt_same {xs ys : List Int} {n : Nat} (hm : CutAt xs n) (hn : CutAt ys n) (hs : SameFrom xs ys n 0) : cmpI (magY xs) (magY ys) = 0 := by
 rw [cmpI_eq, ← hm.magY, ← hn.magY]
 have := hs.drop hm.le hn.le
 simpa using congrArg magY this
theorem magY_app : ∀ l m : List Int, magY (l ++ m) = magY l + powY l.length * magY m
 | [], m => by simp [magY, powY]
 | x :: l, m => by
  simp only [List.cons_append, magY, List.length_cons, powY_succ]
  rw [magY_app l m, Int.mul_add, Int.mul_assoc]
  omega
/-- So many bytes of a number, the lowest first. -/
def byk : Nat → Int → List Int
 | 0, _ => []
 | k + 1, x => x % 256 :: byk k (x / 256)
theorem byk_len : ∀ k x, (byk k x).length = k
 | 0, _ => rfl
 | k + 1, x => by simp [byk, byk_len k]
theorem byk_bys : ∀ k x, Bys (byk k x)
 | 0, _ => fun y hy => by simp [byk] at hy
 | k + 1, x => fun y hy => by
  simp only [byk, List.mem_cons] at hy
  rcases hy with rfl | hy
  ·omega
  ·exact byk_bys k _ y hy
/-- The bytes of limbs. -/
def bytesL (xs : List Int) : List Int := xs.flatMap (byk 4)
theorem bytesL_len : ∀ xs, (bytesL xs).length = 4 * xs.length
 | [] => rfl
 | x :: l => by
  have := bytesL_len l
  unfold bytesL at *
  rw [List.flatMap_cons, List.length_append, this, byk_len, List.length_cons]
  omega
theorem bytesL_bys (xs : List Int) : Bys (bytesL xs) := fun y hy => by
 obtain ⟨x, _, h⟩ := List.mem_flatMap.1 hy
 exact byk_bys 4 x y h
theorem bytesL_mag : ∀ xs, Limbs xs → magY (bytesL xs) = magV xs
 | [], _ => rfl
 | x :: l, h => by
  have ih := bytesL_mag l fun y hy => h y (List.mem_cons_of_mem _ hy)
  obtain ⟨h1, h2⟩ := h x (by simp)
  unfold bytesL at *
  rw [List.flatMap_cons, magY_app, ih, byk_len]
  have e : powY 4 = 4294967296 := rfl
  rw [e]
  simp only [byk, magY, magV]
  omega
end Go.Proofs.YtcpkjmpbpmeclaaGreatDoor
