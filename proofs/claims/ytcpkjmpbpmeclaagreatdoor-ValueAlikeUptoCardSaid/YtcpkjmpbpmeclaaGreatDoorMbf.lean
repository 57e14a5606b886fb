/- ref14.Alone: what it answers. -/
import Derived.Test.YtcpkjmpbpmeclaaGreatDoorMRga
namespace Go.Proofs.YtcpkjmpbpmeclaaGreatDoor
open Go.RowKit
set_option maxRecDepth 100000
set_option linter.unusedVariables false
set_option linter.unusedSimpArgs false
set_option linter.unnecessarySimpa false

theorem bytes_nil (t : ByteArray) : (t.toList == (⟨#[]⟩ : ByteArray).toList) = decide (t.size = 0) := by
 rw [text_beq, decide_eq_decide]
 constructor
 ·rintro rfl; rfl
 ·intro h
  apply ByteArray.ext
  exact Array.eq_empty_of_size_eq_zero h
theorem tail_tl (ok : Bool) (n : Int) (g : Bool) (ml : Nat) (b e : Int) (t : ByteArray) (m : Nat) :
  tailB ok n g ml b e t m = tl ok (n == 0) (g == false) ((ml : Int) == ((0 : Nat) : Int)) (b == 0) (e == 0) (t.toList == (⟨#[]⟩ : ByteArray).toList) ((m : Int) == ((0 : Nat) : Int)) := by
 unfold tailB tl
 rw [bytes_nil]
 have e1 : ∀ x : Int, (x == 0) = decide (x = 0) := fun x => by by_cases h : x = 0 <;> simp [h]
 have e2 : ∀ x : Nat, ((x : Int) == ((0 : Nat) : Int)) = decide (x = 0) := fun x => by by_cases h : x = 0 <;> simp [h]
 rw [e1, e1, e1, e2, e2]
 cases g <;> rfl
theorem refAlone_any (v : VT) (w : World) (hz : v.sz ≤ 1000000000) (hI : In w v) :
  Calls Tryz.prog 142 #[v.agg] w fun e w' => e = .returned (.bool (alone v)) ∧ Below w.heap.size w w' := by
 have pv := hI.parts
 obtain ⟨hk, hn, hb, he, hm⟩ := pv.ok
 have hs := VT.sz_l v
 have hln := VT.szL_len v.l
 refine rAloneW v.k v.n v.bits v.ext v.neg v.text v.mA v.A v.mag.length v.mcap v.l.length v.cap (alone v) (decP (NormalI v.neg v.mag)) (decP (FloatF v.bits)) (decide (Utf.badF v.text = v.text.size)) (decP (RisingV v.l)) w
  (Lib.hid fun h => ?_) (Lib.hid fun h => ?_) (Lib.hid fun h => ?_) (Lib.hid fun h => ?_) (Lib.hid fun h => ?_) (Lib.hid fun h => ?_) (Lib.hid fun h => ?_) (Lib.hid fun h => ?_) (Lib.hid fun h => ?_) (Lib.hid fun h => ?_) (Lib.hid fun h => ?_)
  (Lib.hid fun h => alone_none v h)
  (Lib.hid fun _ W hW => rNormal_any v.neg v.mA v.mcap v.mag W (by omega) (pv.mr.below hW))
  (Lib.hid fun _ W hW => rFloat_any v.bits W hb.1 hb.2)
  (Lib.hid fun _ W hW => Utf.refIs_any v.text W (by omega))
  (Lib.hid fun _ W hW => rRising_of v.A _ v.cap v.l W rfl (by omega) (pv.row.below hW) fun i j h1 h2 W2 hW2 =>
   refCmp_any _ _ _ W2 (Nat.le_refl _) (by have := VT.kid_sz (List.getElem_mem h1); omega) (by have := VT.kid_sz (List.getElem_mem h2); omega) ((hI.kid (List.getElem_mem h1)).below (trans_b hW hW2)) ((hI.kid (List.getElem_mem h2)).below (trans_b hW hW2)))
  hn.1 (by omega) (by omega)
 ·rw [alone1 v h, tail_tl]
 ·rw [alone2 v h, tail_tl, show decide (v.n < 2) = decide (v.n ≤ 1) from decide_eq_decide.2 (by omega)]; simp
 ·rw [alone3 v h, tail_tl]; simp
 ·rw [alone4 v h, tail_tl]; simp
 ·rw [alone5 v h, tail_tl]; simp
 ·rw [alone6 v h, tail_tl]; simp
 ·rw [alone7 v h, tail_tl]; simp
 ·rw [alone8 v h, tail_tl]; simp
 ·have e : (decide (v.n ≠ 2) && (decide (v.n ≠ 3) && decide (v.l.length = 1))) = ((v.n != 2) && ((v.n != 3) && ((v.l.length : Int) == 1))) := by
   rw [Bool.eq_iff_iff]
   simp
   omega
  rw [alone9 v h, tail_tl, e]; simp
 ·have e : decP (SimpleN v.n) = (decide (v.n ≤ 19) || ((v.n == 23) || (decide (32 ≤ v.n) && decide (v.n ≤ 255)))) := by
   refine decP_of ?_
   unfold SimpleN
   simp
   omega
  rw [alone10 v h, tail_tl, e]; simp
 ·rw [alone11 v h, tail_tl]; simp
end Go.Proofs.YtcpkjmpbpmeclaaGreatDoor
