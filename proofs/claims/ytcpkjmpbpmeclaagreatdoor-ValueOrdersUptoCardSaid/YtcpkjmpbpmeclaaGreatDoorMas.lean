/- errors.Is told of any error; h.Code. -/
import Derived.Test.YtcpkjmpbpmeclaaGreatDoorMEm
import Derived.Test.YtcpkjmpbpmeclaaGreatDoorMar
import Derived.Handy
import Derived.BigQuiet
import Derived.Lib.Hide
import Derived.Outline
import Derived.Deep.MidRow
import Derived.Deep.RegionHeld3
import Derived.Deep.DeepCutAuto
namespace Go.Proofs.YtcpkjmpbpmeclaaGreatDoor
open Go.RowKit
set_option maxRecDepth 100000
set_option linter.unusedVariables false
set_option linter.unusedSimpArgs false
set_option linter.unnecessarySimpa false

/-- errors.Is at each of the eleven says whether it is the k-th. -/
def Tells (a : Nat → Addr) (k : Nat) (v : Value) (w : World) : Prop :=
 ∀ (j : Nat) (W : World), 1 ≤ j → j ≤ 11 → Below w.heap.size w W → Calls Tryz.prog 56 #[v, .iface 330 (.pointer (some (a j)))] W fun e w' => e = .returned (.bool (decide (j = k))) ∧ W = w'

theorem tells_sent (a : Nat → Addr) (k : Nat) (w : World) (hE : Errs a w) (h0 : 1 ≤ k) (h1 : k ≤ 11) : Tells a k (.iface 330 (.pointer (some (a k)))) w := by
 intro j W hj0 hj1 hb
 have hE' := hE.below hb
 by_cases e : j = k
 ·subst e
  refine (is_same (a j) W).mono ?_
  rintro e w' ⟨rfl, rfl⟩
  exact ⟨by simp, rfl⟩
 ·obtain ⟨c1, t1, g1⟩ := hE'.b k h0 h1
  obtain ⟨c2, t2, g2⟩ := hE'.b j hj0 hj1
  refine (is_other (a k) (a j) c1 c2 t1 t2 W (hE'.ne k j h0 h1 hj0 hj1 (Ne.symm e)) g1 g2).mono ?_
  rintro e' w' ⟨rfl, rfl⟩
  exact ⟨by simp [e], rfl⟩

theorem tells_fault (a : Nat → Addr) (k p : Nat) (w : World) (hE : Errs a w) (h0 : 1 ≤ k) (h1 : k ≤ 11) (hp : w.cell? ⟨p, 0, none⟩ = some (.iface 330 (.pointer (some (a k))))) :
  Tells a k (.iface 87 (.pointer (some ⟨p, 0, none⟩))) w := by
 intro j W hj0 hj1 hb
 have hE' := hE.below hb
 have hp' : W.cell? ⟨p, 0, none⟩ = some (.iface 330 (.pointer (some (a k)))) := (hb.cell (World.block_lt_of_cell? w _ hp)).trans hp
 by_cases e : j = k
 ·subst e
  refine (is_wrap_same p (a j) W hp').mono ?_
  rintro e w' ⟨rfl, rfl⟩
  exact ⟨by simp, rfl⟩
 ·obtain ⟨c1, t1, g1⟩ := hE'.b k h0 h1
  obtain ⟨c2, t2, g2⟩ := hE'.b j hj0 hj1
  refine (is_wrap_other p (a k) (a j) c1 c2 t1 t2 W hp' (hE'.ne k j h0 h1 hj0 hj1 (Ne.symm e)) g1 g2).mono ?_
  rintro e' w' ⟨rfl, rfl⟩
  exact ⟨by simp [e], rfl⟩

def sentA (a : Nat → Addr) : Array Value := #[.iface 330 (.pointer (some (a 1))), .iface 330 (.pointer (some (a 2))), .iface 330 (.pointer (some (a 3))), .iface 330 (.pointer (some (a 4))), .iface 330 (.pointer (some (a 5))), .iface 330 (.pointer (some (a 6))), .iface 330 (.pointer (some (a 7))), .iface 330 (.pointer (some (a 8))), .iface 330 (.pointer (some (a 9))), .iface 330 (.pointer (some (a 10))), .iface 330 (.pointer (some (a 11)))]
theorem sentA_at (a : Nat → Addr) (i : Nat) (h : i < 11) : (sentA a)[i]? = some (.iface 330 (.pointer (some (a (i + 1))))) := by
 rcases (by omega : i = 0 ∨ i = 1 ∨ i = 2 ∨ i = 3 ∨ i = 4 ∨ i = 5 ∨ i = 6 ∨ i = 7 ∨ i = 8 ∨ i = 9 ∨ i = 10) with rfl | rfl | rfl | rfl | rfl | rfl | rfl | rfl | rfl | rfl | rfl <;> rfl

theorem code_any (a : Nat → Addr) (k T : Nat) (p : Addr) (w : World) (hE : Errs a w) (h0 : 1 ≤ k) (h1 : k ≤ 11) (hT : Tells a k (.iface T (.pointer (some p))) w) :
  Calls Tryz.prog 20 #[.iface T (.pointer (some p))] w fun e w' => e = .returned (.int .i64 k) ∧ Below w.heap.size w w' := by
 have g1 : w.cell? ⟨0, 0, none⟩ = some (.iface 330 (.pointer (some (a 1)))) := hE.g 1 (by omega) (by omega)
 have g2 : w.cell? ⟨2, 0, none⟩ = some (.iface 330 (.pointer (some (a 2)))) := hE.g 2 (by omega) (by omega)
 have g3 : w.cell? ⟨3, 0, none⟩ = some (.iface 330 (.pointer (some (a 3)))) := hE.g 3 (by omega) (by omega)
 have g4 : w.cell? ⟨4, 0, none⟩ = some (.iface 330 (.pointer (some (a 4)))) := hE.g 4 (by omega) (by omega)
 have g5 : w.cell? ⟨1, 0, none⟩ = some (.iface 330 (.pointer (some (a 5)))) := hE.g 5 (by omega) (by omega)
 have g6 : w.cell? ⟨5, 0, none⟩ = some (.iface 330 (.pointer (some (a 6)))) := hE.g 6 (by omega) (by omega)
 have g7 : w.cell? ⟨6, 0, none⟩ = some (.iface 330 (.pointer (some (a 7)))) := hE.g 7 (by omega) (by omega)
 have g8 : w.cell? ⟨7, 0, none⟩ = some (.iface 330 (.pointer (some (a 8)))) := hE.g 8 (by omega) (by omega)
 have g9 : w.cell? ⟨8, 0, none⟩ = some (.iface 330 (.pointer (some (a 9)))) := hE.g 9 (by omega) (by omega)
 have g10 : w.cell? ⟨9, 0, none⟩ = some (.iface 330 (.pointer (some (a 10)))) := hE.g 10 (by omega) (by omega)
 have g11 : w.cell? ⟨10, 0, none⟩ = some (.iface 330 (.pointer (some (a 11)))) := hE.g 11 (by omega) (by omega)
 have hH := Lib.hid hT
 clear hT hE
 go_enter Tryz.func20, Tryz.ntmps20
 go_upto_region 4 with fail
 have hS : Below w.heap.size w (w.alloc (.cells (sentA a) 97)) := (Below.refl _ _).alloc (Nat.le_refl _) _
 have hC : ∀ i : Nat, i < 11 → (w.alloc (.cells (sentA a) 97)).cell? ⟨w.heap.size, i, none⟩ = some (.iface 330 (.pointer (some (a (i + 1))))) := fun i hi => by
  rw [World.cell?_alloc_new]; exact sentA_at a i hi
 have hI : ∀ i : Nat, i < 11 → Calls Tryz.prog 56 #[.iface T (.pointer (some p)), .iface 330 (.pointer (some (a (i + 1))))] (w.alloc (.cells (sentA a) 97)) fun e w' => e = .returned (.bool (decide (i + 1 = k))) ∧ (w.alloc (.cells (sentA a) 97)) = w' := fun i hi =>
  hH.out (i + 1) _ (by omega) (by omega) hS
 have hI := Lib.hid hI
 have hC := Lib.hid hC
 clear hH g1 g2 g3 g4 g5 g6 g7 g8 g9 g10 g11
 show Code.wp _ _ _ _ (w.alloc (.cells (sentA a) 97))
 generalize (w.alloc (.cells (sentA a) 97)) = W0 at hS hC hI ⊢
 go_wp2
 go_loopw [4, 5] (fun n i W => ∃ c : Nat, i = .int .i64 c ∧ c ≤ 11 ∧ n = .int .i64 (if k ≤ c then (k : Int) else -1) ∧ W0 = W) (fun _ i _ => 11 - (intOf i).toNat)
 case atStart => exact ⟨0, rfl, by omega, by rw [if_neg (by omega)], rfl⟩
 case round =>
  obtain ⟨c, rfl, hc, rfl, rfl⟩ := hrel
  by_cases h : c < 11
  ·have hC1 := hC.out c h
   have hI1 := hI.out c h
   have l1 : (c : Int) < 11 := by omega
   by_cases e : c + 1 = k
   ·subst e
    have e1 : ¬ c + 1 ≤ c := by omega
    simp only [decide_true] at hI1
    simp only [if_neg e1]
    go_wp2_with (go_at_call 56; refine hI1.mono ?_; rintro e w1 ⟨rfl, rfl⟩)
    exact ⟨⟨c + 1, by go_num, by omega, by simp, trivial⟩, by simp [intOf]; omega⟩
   ·have e1 : decide (c + 1 = k) = false := by simpa using e
    rw [e1] at hI1
    generalize hn : (if k ≤ c then (k : Int) else -1) = n
    have hn2 : (if k ≤ c + 1 then (k : Int) else -1) = n := by rw [← hn]; by_cases h3 : k ≤ c <;> simp [h3] <;> omega
    clear hn
    go_wp2_with (go_at_call 56; refine hI1.mono ?_; rintro e w1 ⟨rfl, rfl⟩)
    exact ⟨⟨c + 1, by go_num, by omega, by rw [hn2], trivial⟩, by simp [intOf]; omega⟩
  ·obtain rfl : c = 11 := by omega
   rw [if_pos h1]
   go_wp2
   go_ret
   exact ⟨rfl, hS⟩
theorem code_nil (w : World) : Calls Tryz.prog 20 #[.nilIface] w fun e w' => e = .returned (.int .i64 0) ∧ w = w' := by
 go_enter Tryz.func20, Tryz.ntmps20
 go_wp2
 go_ret
 exact ⟨rfl, rfl⟩

/-- An error with a place: the k-th, at, path. -/
structure IsF (a : Nat → Addr) (k : Nat) (at_ : Int) (path : ByteArray) (p : Nat) (w : World) : Prop where
 c0 : w.cell? ⟨p, 0, none⟩ = some (.iface 330 (.pointer (some (a k))))
 c1 : w.cell? ⟨p, 1, none⟩ = some (.int .i64 at_)
 c2 : w.cell? ⟨p, 2, none⟩ = some (.string path)
theorem IsF.below {a : Nat → Addr} {k p : Nat} {at_ : Int} {path : ByteArray} {w w1 : World} (h : IsF a k at_ path p w) (hb : Below w.heap.size w w1) : IsF a k at_ path p w1 :=
 have hl := World.block_lt_of_cell? w _ h.c0
 ⟨(hb.cell (p := ⟨p, 0, none⟩) hl).trans h.c0, (hb.cell (p := ⟨p, 1, none⟩) hl).trans h.c1, (hb.cell (p := ⟨p, 2, none⟩) hl).trans h.c2⟩
theorem code_fault (a : Nat → Addr) (k p : Nat) (at_ : Int) (path : ByteArray) (w : World) (hE : Errs a w) (h0 : 1 ≤ k) (h1 : k ≤ 11) (h : IsF a k at_ path p w) :
  Calls Tryz.prog 20 #[.iface 87 (.pointer (some ⟨p, 0, none⟩))] w fun e w' => e = .returned (.int .i64 k) ∧ Below w.heap.size w w' :=
 code_any a k 87 _ w hE h0 h1 (tells_fault a k p w hE h0 h1 h.c0)
theorem code_sent (a : Nat → Addr) (k : Nat) (w : World) (hE : Errs a w) (h0 : 1 ≤ k) (h1 : k ≤ 11) :
  Calls Tryz.prog 20 #[.iface 330 (.pointer (some (a k)))] w fun e w' => e = .returned (.int .i64 k) ∧ Below w.heap.size w w' :=
 code_any a k 330 _ w hE h0 h1 (tells_sent a k w hE h0 h1)

theorem is_sent (a : Nat → Addr) (k : Nat) (c : Int) (w : World) (hE : Errs a w) (h0 : 1 ≤ k) (h1 : k ≤ 11) :
  Calls Tryz.prog 119 #[.iface 330 (.pointer (some (a k))), .int .i64 c] w fun e w' => e = .returned (.bool ((k : Int) == c)) ∧ Below w.heap.size w w' := by
 have hc := code_sent a k w hE h0 h1
 clear hE
 go_enter Tryz.func119, Tryz.ntmps119
 go_wp2_with (go_at_call 20; refine hc.mono ?_; rintro e w1 ⟨rfl, hb⟩)
 go_ret
 exact ⟨rfl, hb⟩

theorem hit_any (p : Nat) (w : World) (hg : w.cell? ⟨11, 0, none⟩ = some (.iface 260 (.agg #[.pointer (some ⟨16, 36, none⟩)]))) :
  Calls Tryz.prog 132 #[.iface 87 (.pointer (some ⟨p, 0, none⟩)), .iface 129 (.pointer (some ⟨w.heap.size, 0, none⟩))] (w.alloc (.cells #[.pointer none] 87)) fun e w' =>
   e = .returned (.bool true) ∧ w'.cell? ⟨w.heap.size, 0, none⟩ = some (.pointer (some ⟨p, 0, none⟩)) ∧ Below w.heap.size w w' := by
 have hb0 : Below w.heap.size w (w.alloc (.cells #[.pointer none] 87)) := (Below.refl _ _).alloc (Nat.le_refl _) _
 refine (as_hit ⟨p, 0, none⟩ ⟨w.heap.size, 0, none⟩ (.pointer none) (w.alloc (.cells #[.pointer none] 87)) ((hb0.cell (World.block_lt_of_cell? w _ hg)).trans hg) (by simp) (by simp)).mono ?_
 rintro e w' ⟨rfl, rfl⟩
 unfold asW
 refine ⟨rfl, ?_, ?_⟩
 ·refine World.cell?_setCell_same _ _ _ (u := .pointer none) ?_
  rw [World.cell?_alloc_lt _ _ ⟨w.heap.size, 0, none⟩ (by simp; omega), World.cell?_alloc_lt _ _ ⟨w.heap.size, 0, none⟩ (by simp; omega), World.cell?_alloc_lt _ _ ⟨w.heap.size, 0, none⟩ (by simp; omega), World.cell?_alloc_lt _ _ ⟨w.heap.size, 0, none⟩ (by simp)]
  simp
 ·exact Below.setCell ((((hb0.alloc (by simp) _).alloc (by simp; omega) _).alloc (by simp; omega) _).alloc (by simp; omega) _) (by simp) _
theorem at_fault (a : Nat → Addr) (k p : Nat) (at_ : Int) (path : ByteArray) (w : World) (hE : Errs a w) (h : IsF a k at_ path p w) :
  Calls Tryz.prog 57 #[.iface 87 (.pointer (some ⟨p, 0, none⟩))] w fun e w' => e = .returned (.tuple #[.int .i64 at_, .bool true]) ∧ Below w.heap.size w w' := by
 have hA := hit_any p w hE.h
 have hc := h.c1
 have hl := World.block_lt_of_cell? w _ hc
 have hk : Hid (∀ W : World, Below w.heap.size w W → W.cell? ⟨p, 1, none⟩ = some (.int .i64 at_)) := Lib.hid fun W hb => (hb.cell hl).trans hc
 clear hE h hc
 go_enter Tryz.func57, Tryz.ntmps57
 go_wp2_with (go_at_call 132; refine hA.mono ?_; rintro e w1 ⟨rfl, h1, hb⟩; have h2 := hk.out w1 hb)
 go_ret2
 exact ⟨rfl, hb⟩
theorem path_fault (a : Nat → Addr) (k p : Nat) (at_ : Int) (path : ByteArray) (w : World) (hE : Errs a w) (h : IsF a k at_ path p w) :
  Calls Tryz.prog 42 #[.iface 87 (.pointer (some ⟨p, 0, none⟩))] w fun e w' => e = .returned (.tuple #[.string path, .bool true]) ∧ Below w.heap.size w w' := by
 have hA := hit_any p w hE.h
 have hc := h.c2
 have hl := World.block_lt_of_cell? w _ hc
 have hk : Hid (∀ W : World, Below w.heap.size w W → W.cell? ⟨p, 2, none⟩ = some (.string path)) := Lib.hid fun W hb => (hb.cell hl).trans hc
 clear hE h hc
 go_enter Tryz.func42, Tryz.ntmps42
 go_wp2_with (go_at_call 132; refine hA.mono ?_; rintro e w1 ⟨rfl, h1, hb⟩; have h2 := hk.out w1 hb)
 go_ret2
 exact ⟨rfl, hb⟩
theorem miss_any (e : Addr) (w : World) (hg : w.cell? ⟨11, 0, none⟩ = some (.iface 260 (.agg #[.pointer (some ⟨16, 36, none⟩)]))) :
  Calls Tryz.prog 132 #[.iface 330 (.pointer (some e)), .iface 129 (.pointer (some ⟨w.heap.size, 0, none⟩))] (w.alloc (.cells #[.pointer none] 87)) fun e w' =>
   e = .returned (.bool false) ∧ Below w.heap.size w w' := by
 have hb0 : Below w.heap.size w (w.alloc (.cells #[.pointer none] 87)) := (Below.refl _ _).alloc (Nat.le_refl _) _
 refine (as_miss e ⟨w.heap.size, 0, none⟩ (.pointer none) (w.alloc (.cells #[.pointer none] 87)) ((hb0.cell (World.block_lt_of_cell? w _ hg)).trans hg) (by simp) (by simp)).mono ?_
 rintro e w' ⟨rfl, rfl⟩
 unfold asW
 exact ⟨rfl, ((hb0.alloc (by simp) _).alloc (by simp; omega) _).alloc (by simp; omega) _⟩
theorem at_sent (a : Nat → Addr) (e : Addr) (w : World) (hE : Errs a w) :
  Calls Tryz.prog 57 #[.iface 330 (.pointer (some e))] w fun e w' => e = .returned (.tuple #[.int .i64 0, .bool false]) ∧ Below w.heap.size w w' := by
 have hA := miss_any e w hE.h
 clear hE
 go_enter Tryz.func57, Tryz.ntmps57
 go_wp2_with (go_at_call 132; refine hA.mono ?_; rintro e w1 ⟨rfl, hb⟩)
 go_ret2
 exact ⟨rfl, hb⟩
theorem path_sent (a : Nat → Addr) (e : Addr) (w : World) (hE : Errs a w) :
  Calls Tryz.prog 42 #[.iface 330 (.pointer (some e))] w fun e w' => e = .returned (.tuple #[.string ⟨#[]⟩, .bool false]) ∧ Below w.heap.size w w' := by
 have hA := miss_any e w hE.h
 clear hE
 go_enter Tryz.func42, Tryz.ntmps42
 go_wp2_with (go_at_call 132; refine hA.mono ?_; rintro e w1 ⟨rfl, hb⟩)
 go_ret2
 exact ⟨rfl, hb⟩
theorem at_nil (w : World) : Calls Tryz.prog 57 #[.nilIface] w fun e w' => e = .returned (.tuple #[.int .i64 0, .bool false]) ∧ Below w.heap.size w w' := by
 have hA := fun t w => as_nil t w
 go_enter Tryz.func57, Tryz.ntmps57
 go_wp2_with (go_at_call 132; refine (hA _ _).mono ?_; rintro e w1 ⟨rfl, rfl⟩)
 go_ret2
 exact ⟨rfl, (Below.refl _ _).alloc (Nat.le_refl _) _⟩

/-- h.IsAt of an error with a place and no path. -/
theorem isat_fault (a : Nat → Addr) (k p : Nat) (at_ : Int) (m : Int) (w : World) (hE : Errs a w) (h0 : 1 ≤ k) (h1 : k ≤ 11) (h : IsF a k at_ ⟨#[]⟩ p w) :
  Calls Tryz.prog 40 #[.iface 87 (.pointer (some ⟨p, 0, none⟩)), .int .i64 k, .int .i64 m] w fun e w' => e = .returned (.bool (at_ == m)) ∧ Below w.heap.size w w' := by
 have c1 : Hid (∀ W : World, Below w.heap.size w W → Calls Tryz.prog 20 #[.iface 87 (.pointer (some ⟨p, 0, none⟩))] W fun e w' => e = .returned (.int .i64 k) ∧ Below w.heap.size w w') := Lib.hid fun W hb =>
  (code_fault a k p at_ _ W (hE.below hb) h0 h1 (h.below hb)).mono fun e w' ⟨q, r⟩ => ⟨q, hb.trans (r.mono hb.size)⟩
 have c2 : Hid (∀ W : World, Below w.heap.size w W → Calls Tryz.prog 57 #[.iface 87 (.pointer (some ⟨p, 0, none⟩))] W fun e w' => e = .returned (.tuple #[.int .i64 at_, .bool true]) ∧ Below w.heap.size w w') := Lib.hid fun W hb =>
  (at_fault a k p at_ _ W (hE.below hb) (h.below hb)).mono fun e w' ⟨q, r⟩ => ⟨q, hb.trans (r.mono hb.size)⟩
 have c3 : Hid (∀ W : World, Below w.heap.size w W → Calls Tryz.prog 42 #[.iface 87 (.pointer (some ⟨p, 0, none⟩))] W fun e w' => e = .returned (.tuple #[.string ⟨#[]⟩, .bool true]) ∧ Below w.heap.size w w') := Lib.hid fun W hb =>
  (path_fault a k p at_ _ W (hE.below hb) (h.below hb)).mono fun e w' ⟨q, r⟩ => ⟨q, hb.trans (r.mono hb.size)⟩
 have hk : ((k : Int) == 0) = false := by simp; omega
 have hb0 := Below.refl w.heap.size w
 clear hE h
 go_enter Tryz.func40, Tryz.ntmps40
 go_wp2_with (first | (go_at_call 20; refine (c1.out _ hb0).mono ?_; rintro e w1 ⟨rfl, hb1⟩) | (go_at_call 57; refine (c2.out _ hb1).mono ?_; rintro e w2 ⟨rfl, hb2⟩) | (go_at_call 42; refine (c3.out _ hb2).mono ?_; rintro e w3 ⟨rfl, hb3⟩))
 all_goals (go_ret; exact ⟨by simp_all, hb3⟩)
end Go.Proofs.YtcpkjmpbpmeclaaGreatDoor
