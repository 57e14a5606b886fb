/- Vyf · Vxb · Vxd · Vxe · Vxi · Vza · Vzb · Vzc · Vzd · Oba · Oca · Oda · Oea · Ofa · Oga: merged. -/
import Derived.Test.YtcpkjmpbpmeclaaGreatDoorMap
import Derived.Test.YtcpkjmpbpmeclaaGreatDoorMaq
import Derived.Test.YtcpkjmpbpmeclaaGreatDoorMas
import Derived.Test.YtcpkjmpbpmeclaaGreatDoorMaa
import Derived.Deep.AppendSrc
import Derived.Deep.DeepMust
import Derived.OwnWalk
import Derived.Test.YtcpkjmpbpmeclaaGreatDoorMaj
import Derived.Test.YtcpkjmpbpmeclaaGreatDoorMah
import Derived.Test.YtcpkjmpbpmeclaaGreatDoorMag
namespace Go.Proofs.YtcpkjmpbpmeclaaGreatDoor
open Go.RowKit
set_option maxRecDepth 100000
set_option linter.unusedVariables false
set_option linter.unusedSimpArgs false
set_option linter.unnecessarySimpa false

/-- What the laid variables are. -/
structure Tabs (a : Nat → Addr) (w : World) : Prop where
 e : Errs a w
 s : Shapes w
 b : Bruijn w
 p : Pow w
theorem Tabs.below {a : Nat → Addr} {w w' : World} (h : Tabs a w) (hb : Below w.heap.size w w') : Tabs a w' := ⟨h.e.below hb, h.s.below hb, h.b.below hb, h.p.below hb⟩
theorem aloneT {a : Nat → Addr} (v : VT) (w W : World) (hz : v.sz ≤ 1000000000) (hT : Tabs a w) (hI : In w v) (hb : Below w.heap.size w W) :
  Calls Tryz.prog 48 #[v.agg] W fun e w' => e = .returned (.bool (alone v)) ∧ Below W.heap.size W w' :=
 alone_any v W hz (hT.s.below hb) (hI.below hb) fun _ W2 hb2 => float_any v.bits W2 (hT.s.below (trans_b hb hb2)) (hT.b.below (trans_b hb hb2)) hI.parts.ok.2.2.1.1 hI.parts.ok.2.2.1.2
theorem ck1_of (v : VT) (z : Int) (b : Bool) (w : World) (hA : ∀ W, Below w.heap.size w W → Calls Tryz.prog 48 #[v.agg] W fun e w' => e = .returned (.bool b) ∧ Below W.heap.size W w') :
  Calls Tryz.prog 47 #[v.agg, .int .i64 z] w fun e w' => e = .returned (.bool (!b)) ∧ Below w.heap.size w w' := by
 have HA := Lib.hid hA
 clear hA
 have hba : Below w.heap.size w (w.alloc (.cells #[.int .i8 v.k, .int .u64 v.n, .bool v.neg, .slice v.mA v.mag.length v.mcap, .int .u64 v.bits, .int .i8 v.ext, .string v.text, .slice v.A v.l.length v.cap] 31)) := (Below.refl _ _).alloc (Nat.le_refl _) _
 have HB := Lib.hid hba
 clear hba
 unfold VT.agg VT.mags VT.kids at *
 generalize v.k = k at *
 generalize v.n = n at *
 generalize v.neg = ng at *
 generalize v.mag.length = ml at *
 generalize v.mA = mA at *
 generalize v.mcap = mc at *
 generalize v.bits = bs at *
 generalize v.ext = ex at *
 generalize v.text = tx at *
 generalize v.A = A at *
 generalize v.cap = cp at *
 generalize v.l.length = m at *
 go_enter Tryz.func47, Tryz.ntmps47
 go_wp2_with (go_at_call 48; go_must (refine (HA.out _ HB.out).mono ?_); go_must (rintro e w1 ⟨rfl, hb1⟩))
 go_ret
 exact ⟨rfl, trans_b HB.out hb1⟩
theorem ck1_wrong {a : Nat → Addr} (w : World) (s : Nat) (hs : s ≤ 1000000000) (hT : Tabs a w) : WrongC w 47 notAlone s := fun x d z W hx hI hz hd hb =>
 ck1_of x z (alone x) W fun W2 hb2 => aloneT x w W2 (by omega) hT hI (trans_b hb hb2)
theorem ck1_enter : ∀ args w, (callFunc 47 args).run Tryz.prog w = .ok (.enter 47 args) w := Go.Proofs.enters_of Tryz.func47 (by kernel_rfl) rfl
theorem mp1_of (v : VT) (z : Int) (b : Bool) (w : World) (hA : ∀ W, Below w.heap.size w W → Calls Tryz.prog 48 #[v.agg] W fun e w' => e = .returned (.bool b) ∧ Below W.heap.size W w') :
  Calls Tryz.prog 125 #[v.agg, .int .i64 z] w fun e w' => e = .returned (.bool (!b)) ∧ Below w.heap.size w w' := by
 have HA := Lib.hid hA
 clear hA
 have hba : Below w.heap.size w (w.alloc (.cells #[.int .i8 v.k, .int .u64 v.n, .bool v.neg, .slice v.mA v.mag.length v.mcap, .int .u64 v.bits, .int .i8 v.ext, .string v.text, .slice v.A v.l.length v.cap] 31)) := (Below.refl _ _).alloc (Nat.le_refl _) _
 have HB := Lib.hid hba
 clear hba
 unfold VT.agg VT.mags VT.kids at *
 generalize v.k = k at *
 generalize v.n = n at *
 generalize v.neg = ng at *
 generalize v.mag.length = ml at *
 generalize v.mA = mA at *
 generalize v.mcap = mc at *
 generalize v.bits = bs at *
 generalize v.ext = ex at *
 generalize v.text = tx at *
 generalize v.A = A at *
 generalize v.cap = cp at *
 generalize v.l.length = m at *
 go_enter Tryz.func125, Tryz.ntmps125
 go_wp2_with (go_at_call 48; go_must (refine (HA.out _ HB.out).mono ?_); go_must (rintro e w1 ⟨rfl, hb1⟩))
 go_ret
 exact ⟨rfl, trans_b HB.out hb1⟩
theorem mp1_wrong {a : Nat → Addr} (w : World) (s : Nat) (hs : s ≤ 1000000000) (hT : Tabs a w) : WrongC w 125 notAlone s := fun x d z W hx hI hz hd hb =>
 mp1_of x z (alone x) W fun W2 hb2 => aloneT x w W2 (by omega) hT hI (trans_b hb hb2)
theorem mp1_enter : ∀ args w, (callFunc 125 args).run Tryz.prog w = .ok (.enter 125 args) w := Go.Proofs.enters_of Tryz.func125 (by kernel_rfl) rfl
theorem ck2_of (v : VT) (z : Int) (w : World) :
  Calls Tryz.prog 49 #[v.agg, .int .i64 z] w fun e w' => e = .returned (.bool (isC v.k && decide (128 ≤ z))) ∧ Below w.heap.size w w' := by
 have hba : Below w.heap.size w (w.alloc (.cells #[.int .i8 v.k, .int .u64 v.n, .bool v.neg, .slice v.mA v.mag.length v.mcap, .int .u64 v.bits, .int .i8 v.ext, .string v.text, .slice v.A v.l.length v.cap] 31)) := (Below.refl _ _).alloc (Nat.le_refl _) _
 have HB := Lib.hid hba
 have hcon : ∀ W, Calls Tryz.prog 50 #[v.agg] W fun e w' => e = .returned (.bool (isC v.k)) ∧ Below W.heap.size W w' := fun W => container_any _ _ _ _ _ _ _ _ W
 have HCON := Lib.hid hcon
 clear hba hcon
 unfold VT.agg VT.mags VT.kids at *
 generalize v.k = k at *
 generalize v.n = n at *
 generalize v.neg = ng at *
 generalize v.mag.length = ml at *
 generalize v.mA = mA at *
 generalize v.mcap = mc at *
 generalize v.bits = bs at *
 generalize v.ext = ex at *
 generalize v.text = tx at *
 generalize v.A = A at *
 generalize v.cap = cp at *
 generalize v.l.length = m at *
 generalize isC k = q at *
 cases q
 ·go_enter Tryz.func49, Tryz.ntmps49
  go_wp2_with (go_at_call 50; go_must (refine (HCON.out _).mono ?_); go_must (rintro e w1 ⟨rfl, hb1⟩))
  go_ret
  exact ⟨rfl, trans_b HB.out hb1⟩
 ·by_cases h : 128 ≤ z
  ·have hd : decide (128 ≤ z) = true := decide_eq_true h
   go_enter Tryz.func49, Tryz.ntmps49
   go_wp2_with (go_at_call 50; go_must (refine (HCON.out _).mono ?_); go_must (rintro e w1 ⟨rfl, hb1⟩))
   go_ret
   exact ⟨by rw [hd]; rfl, trans_b HB.out hb1⟩
  ·have hd : decide (128 ≤ z) = false := decide_eq_false h
   go_enter Tryz.func49, Tryz.ntmps49
   go_wp2_with (go_at_call 50; go_must (refine (HCON.out _).mono ?_); go_must (rintro e w1 ⟨rfl, hb1⟩))
   go_ret
   exact ⟨by rw [hd]; rfl, trans_b HB.out hb1⟩
theorem ck2_wrong (w : World) (s : Nat) : WrongC w 49 tooDeep s := fun x d z W hx hI hz hd hb => by
 have h := ck2_of x z W
 have e : (isC x.k && decide (128 ≤ z)) = tooDeep x d := by
  unfold tooDeep
  congr 1
  rw [hz]
  simp
  omega
 rwa [e] at h
theorem ck2_enter : ∀ args w, (callFunc 49 args).run Tryz.prog w = .ok (.enter 49 args) w := Go.Proofs.enters_of Tryz.func49 (by kernel_rfl) rfl
theorem mp2_of (v : VT) (z : Int) (w : World) :
  Calls Tryz.prog 127 #[v.agg, .int .i64 z] w fun e w' => e = .returned (.bool (isC v.k && decide (128 ≤ z))) ∧ Below w.heap.size w w' := by
 have hba : Below w.heap.size w (w.alloc (.cells #[.int .i8 v.k, .int .u64 v.n, .bool v.neg, .slice v.mA v.mag.length v.mcap, .int .u64 v.bits, .int .i8 v.ext, .string v.text, .slice v.A v.l.length v.cap] 31)) := (Below.refl _ _).alloc (Nat.le_refl _) _
 have HB := Lib.hid hba
 have hcon : ∀ W, Calls Tryz.prog 50 #[v.agg] W fun e w' => e = .returned (.bool (isC v.k)) ∧ Below W.heap.size W w' := fun W => container_any _ _ _ _ _ _ _ _ W
 have HCON := Lib.hid hcon
 clear hba hcon
 unfold VT.agg VT.mags VT.kids at *
 generalize v.k = k at *
 generalize v.n = n at *
 generalize v.neg = ng at *
 generalize v.mag.length = ml at *
 generalize v.mA = mA at *
 generalize v.mcap = mc at *
 generalize v.bits = bs at *
 generalize v.ext = ex at *
 generalize v.text = tx at *
 generalize v.A = A at *
 generalize v.cap = cp at *
 generalize v.l.length = m at *
 generalize isC k = q at *
 cases q
 ·go_enter Tryz.func127, Tryz.ntmps127
  go_wp2_with (go_at_call 50; go_must (refine (HCON.out _).mono ?_); go_must (rintro e w1 ⟨rfl, hb1⟩))
  go_ret
  exact ⟨rfl, trans_b HB.out hb1⟩
 ·by_cases h : 128 ≤ z
  ·have hd : decide (128 ≤ z) = true := decide_eq_true h
   go_enter Tryz.func127, Tryz.ntmps127
   go_wp2_with (go_at_call 50; go_must (refine (HCON.out _).mono ?_); go_must (rintro e w1 ⟨rfl, hb1⟩))
   go_ret
   exact ⟨by rw [hd]; rfl, trans_b HB.out hb1⟩
  ·have hd : decide (128 ≤ z) = false := decide_eq_false h
   go_enter Tryz.func127, Tryz.ntmps127
   go_wp2_with (go_at_call 50; go_must (refine (HCON.out _).mono ?_); go_must (rintro e w1 ⟨rfl, hb1⟩))
   go_ret
   exact ⟨by rw [hd]; rfl, trans_b HB.out hb1⟩
theorem mp2_wrong (w : World) (s : Nat) : WrongC w 127 tooDeep s := fun x d z W hx hI hz hd hb => by
 have h := mp2_of x z W
 have e : (isC x.k && decide (128 ≤ z)) = tooDeep x d := by
  unfold tooDeep
  congr 1
  rw [hz]
  simp
  omega
 rwa [e] at h
theorem mp2_enter : ∀ args w, (callFunc 127 args).run Tryz.prog w = .ok (.enter 127 args) w := Go.Proofs.enters_of Tryz.func127 (by kernel_rfl) rfl
/-- What Check answers. -/
def CheckR (a : Nat → Addr) (r : Option (Int × List Nat)) (w : World) (e : Ending) (w' : World) : Prop :=
 (r = none ∧ e = .returned .nilIface) ∨ ∃ (k : Nat) (p : List Nat) (b : Nat), r = some ((k : Int), p) ∧ 1 ≤ k ∧ k ≤ 11 ∧ e = .returned (.iface 87 (.pointer (some ⟨b, 0, none⟩))) ∧ w.heap.size ≤ b ∧ IsF a k 0 (strU (pathB p)) b w'
set_option maxHeartbeats 4000000 in
theorem check_any (a : Nat → Addr) (v : VT) (w : World) (hz : v.sz ≤ 1000000000) (hI : In w v) (hT : Tabs a w) :
  Calls Tryz.prog 16 #[v.agg] w fun e w' => CheckR a (checkV v) w e w' ∧ Below w.heap.size w w' := by
 have hba : Below w.heap.size w (w.alloc (.cells #[.int .i8 v.k, .int .u64 v.n, .bool v.neg, .slice v.mA v.mag.length v.mcap, .int .u64 v.bits, .int .i8 v.ext, .string v.text, .slice v.A v.l.length v.cap] 31)) := (Below.refl _ _).alloc (Nat.le_refl _) _
 have hP := heap_alloc_new w (.cells #[.int .i8 v.k, .int .u64 v.n, .bool v.neg, .slice v.mA v.mag.length v.mcap, .int .u64 v.bits, .int .i8 v.ext, .string v.text, .slice v.A v.l.length v.cap] 31)
 have HW1 : Hid (∀ W, Below w.heap.size w W → Calls Tryz.prog 46 #[v.agg, .func (.func 47) #[] #[]] W fun e w' => e = .returned (walkR (badAt notAlone v 0)) ∧ Below W.heap.size W w') := Lib.hid fun W hW =>
  walk_any v 47 notAlone ck1_enter W hz (hI.below hW) (hT.p.below hW) (ck1_wrong W v.sz hz (hT.below hW))
 have HW2 : Hid (∀ W, Below w.heap.size w W → Calls Tryz.prog 46 #[v.agg, .func (.func 49) #[] #[]] W fun e w' => e = .returned (walkR (badAt tooDeep v 0)) ∧ Below W.heap.size W w') := Lib.hid fun W hW =>
  walk_any v 49 tooDeep ck2_enter W hz (hI.below hW) (hT.p.below hW) (ck2_wrong W v.sz)
 obtain ⟨Q, hQ⟩ : ∃ Q, CheckR a (checkV v) w = Q := ⟨_, rfl⟩
 rw [hQ]
 unfold checkV at hQ
 have HE : Hid (∀ W, Below w.heap.size w W → W.cell? ⟨0, 0, none⟩ = some (.iface 330 (.pointer (some (a 1)))) ∧ W.cell? ⟨1, 0, none⟩ = some (.iface 330 (.pointer (some (a 5))))) := Lib.hid fun W hW => ⟨(hT.e.below hW).g 1 (by omega) (by omega), (hT.e.below hW).g 5 (by omega) (by omega)⟩
 have HQ1 : Hid (∀ r, badAt notAlone v 0 = some r → CheckR a (some (((1 : Nat) : Int), r)) w = Q) := Lib.hid fun r h => by rw [← hQ, h]; rfl
 have HQ5 : Hid (∀ r, badAt notAlone v 0 = none → badAt tooDeep v 0 = some r → CheckR a (some (((5 : Nat) : Int), r)) w = Q) := Lib.hid fun r h h2 => by rw [← hQ, h, h2]; rfl
 have HQ0 : Hid (badAt notAlone v 0 = none → badAt tooDeep v 0 = none → CheckR a none w = Q) := Lib.hid fun h h2 => by rw [← hQ, h, h2]
 have HP := Lib.hid hP
 have HB := Lib.hid hba
 generalize badAt notAlone v 0 = q1 at *
 generalize badAt tooDeep v 0 = q2 at *
 clear hba hP hQ hz hI hT
 unfold VT.agg VT.mags VT.kids at *
 generalize v.k = k at *
 generalize v.n = n at *
 generalize v.neg = ng at *
 generalize v.mag.length = ml at *
 generalize v.mA = mA at *
 generalize v.mcap = mc at *
 generalize v.bits = bs at *
 generalize v.ext = ex at *
 generalize v.text = tx at *
 generalize v.A = A at *
 generalize v.cap = cp at *
 generalize v.l.length = m at *
 go_enter Tryz.func16, Tryz.ntmps16
 go_upto_region 1 with fail
 show Code.wp _ _ _ _ (w.alloc (.cells #[.int .i8 k, .int .u64 n, .bool ng, .slice mA ml mc, .int .u64 bs, .int .i8 ex, .string tx, .slice A m cp] 31))
 generalize (w.alloc (.cells #[.int .i8 k, .int .u64 n, .bool ng, .slice mA ml mc, .int .u64 bs, .int .i8 ex, .string tx, .slice A m cp] 31)) = W0 at *
 obtain ⟨⟨c0, c1, c2, c3, c4, c5, c6, c7⟩, -⟩ := blk8 HP.out
 have fin : ∀ (k : Nat) (r : List Nat) (X : World), 1 ≤ k → k ≤ 11 → Below w.heap.size w X → (∀ e, (∃ b, e = .returned (.iface 87 (.pointer (some ⟨b, 0, none⟩))) ∧ b = X.heap.size) → CheckR a (some ((k : Int), r)) w e (X.alloc (.cells #[.iface 330 (.pointer (some (a k))), .int .i64 0, .string (strU (pathB r))] 89)) ∧ Below w.heap.size w (X.alloc (.cells #[.iface 330 (.pointer (some (a k))), .int .i64 0, .string (strU (pathB r))] 89))) := fun k r X h0 h1 hX e ⟨b, he, hbb⟩ => by
  subst hbb
  have hn := heap_alloc_new X (.cells #[.iface 330 (.pointer (some (a k))), .int .i64 0, .string (strU (pathB r))] 89)
  exact ⟨.inr ⟨k, r, X.heap.size, rfl, h0, h1, he, hX.size, ⟨cell_of_row _ _ _ _ _ _ hn, cell_of_row _ _ _ _ _ _ hn, cell_of_row _ _ _ _ _ _ hn⟩⟩, hX.alloc hX.size _⟩
 have HF := Lib.hid fin
 clear fin
 cases q1 with
 | some r =>
  go_wp2_with (go_at_call 46; go_must (refine (HW1.out _ HB.out).mono ?_); go_must (rintro e w1 ⟨rfl, hb1⟩; have HB1 := Lib.hid (trans_b HB.out hb1); obtain ⟨ge1, ge5⟩ := HE.out _ HB1.out; unfold walkR; clear hb1))
  have hh := HF.out 1 r w1 (by omega) (by omega) HB1.out (.returned (.iface 87 (.pointer (some ⟨w1.heap.size, 0, none⟩)))) ⟨_, rfl, rfl⟩
  rw [HQ1.out r (by first | rfl | trivial)] at hh
  go_ret
  exact hh
 | none =>
  cases q2 with
  | some r =>
   go_wp2_with (go_at_call 46; go_must (first
    | (with_reducible refine (HW1.out _ HB.out).mono ?_; rintro e w1 ⟨rfl, hb1⟩; have HB1 := Lib.hid (trans_b HB.out hb1); have c0 := keep1 hb1 c0; have c1 := keep1 hb1 c1; have c2 := keep1 hb1 c2; have c3 := keep1 hb1 c3; have c4 := keep1 hb1 c4; have c5 := keep1 hb1 c5; have c6 := keep1 hb1 c6; have c7 := keep1 hb1 c7; unfold walkR; clear hb1)
    | (with_reducible refine (HW2.out _ HB1.out).mono ?_; rintro e w2 ⟨rfl, hb2⟩; have HB2 := Lib.hid (trans_b HB1.out hb2); obtain ⟨ge1, ge5⟩ := HE.out _ HB2.out; unfold walkR; clear hb2)))
   have hh := HF.out 5 r w2 (by omega) (by omega) HB2.out (.returned (.iface 87 (.pointer (some ⟨w2.heap.size, 0, none⟩)))) ⟨_, rfl, rfl⟩
   rw [HQ5.out r (by first | rfl | trivial) (by first | rfl | trivial)] at hh
   go_ret
   exact hh
  | none =>
   go_wp2_with (go_at_call 46; go_must (first
    | (with_reducible refine (HW1.out _ HB.out).mono ?_; rintro e w1 ⟨rfl, hb1⟩; have HB1 := Lib.hid (trans_b HB.out hb1); have c0 := keep1 hb1 c0; have c1 := keep1 hb1 c1; have c2 := keep1 hb1 c2; have c3 := keep1 hb1 c3; have c4 := keep1 hb1 c4; have c5 := keep1 hb1 c5; have c6 := keep1 hb1 c6; have c7 := keep1 hb1 c7; unfold walkR; clear hb1)
    | (with_reducible refine (HW2.out _ HB1.out).mono ?_; rintro e w2 ⟨rfl, hb2⟩; have HB2 := Lib.hid (trans_b HB1.out hb2); unfold walkR; clear hb2)))
   have hh : CheckR a none w (.returned .nilIface) w2 := .inl ⟨rfl, rfl⟩
   rw [HQ0.out (by first | rfl | trivial) (by first | rfl | trivial)] at hh
   go_ret
   exact ⟨hh, HB2.out⟩
end Go.Proofs.YtcpkjmpbpmeclaaGreatDoor
namespace Go.Proofs.YtcpkjmpbpmeclaaGreatDoor
open Go.RowKit
set_option maxRecDepth 100000
set_option linter.unusedVariables false
set_option linter.unusedSimpArgs false
set_option linter.unnecessarySimpa false

abbrev ELi := Int
def enci (x : ELi) : List Value := [.int .i64 x]
def argi (x : ELi) : Value := .int .i64 x
theorem enci_len (x : ELi) : (enci x).length = 1 := rfl
theorem enci_one (x : ELi) : ∀ u ∈ enci x, u.oneCell' = true := fun u hu => by simp [enci] at hu; subst hu; rfl
theorem enci_parts (x : ELi) : ∃ p0 : Int, enci x = [.int .i64 p0] ∧ argi x = .int .i64 p0 := ⟨_, rfl, rfl⟩

/-- Elements one behind the other, from an offset of a block. -/
def ERowi (W : World) (g off : Nat) (L : List ELi) : Prop := ∀ i (h : i < L.length), W.rangeAt g (off + i * 1) (enci L[i])
theorem ERowi.keep {W W' : World} {g off : Nat} {L : List ELi} (h : ERowi W g off L) (hb : W'.heap[g]? = W.heap[g]?) : ERowi W' g off L :=
 fun i hi k u hu => (World.cell?_of_block (a := ⟨g, off + i * 1 + k, none⟩) hb).trans (h i hi k u hu)
theorem ERowi.drop {W : World} {g off n : Nat} {L : List ELi} (h : ERowi W g off L) : ERowi W g (off + n * 1) (L.drop n) := fun i hi => by
 have hi' : n + i < L.length := by rw [List.length_drop] at hi; omega
 have := h (n + i) hi'
 rw [List.getElem_drop]
 have e : off + n * 1 + i * 1 = off + (n + i) * 1 := by omega
 rw [e]
 exact this
theorem ERowi.app {W : World} {g off : Nat} {L M : List ELi} (h : ERowi W g off L) (h2 : ERowi W g (off + L.length * 1) M) : ERowi W g off (L ++ M) := fun i hi => by
 rcases Nat.lt_or_ge i L.length with h1 | h1
 ·rw [List.getElem_append_left h1]; exact h i h1
 ·rw [List.getElem_append_right h1]
  have := h2 (i - L.length) (by rw [List.length_append] at hi; omega)
  have e : off + L.length * 1 + (i - L.length) * 1 = off + i * 1 := by omega
  rwa [e] at this
/-- The cells of the first one. -/
theorem ERowi.first {W : World} {g off : Nat} {x : ELi} {L : List ELi} (h : ERowi W g off (x :: L)) : ∃ p0 : Int, enci x = [.int .i64 p0] ∧ argi x = .int .i64 p0 ∧ W.cell? ⟨g, off, none⟩ = some (.int .i64 p0) := by
 obtain ⟨p0, h1, h2⟩ := enci_parts x
 have hr := h 0 (by simp)
 simp only [List.getElem_cons_zero, Nat.zero_mul, Nat.add_zero, h1] at hr
 exact ⟨p0, h1, h2, hr 0 _ rfl⟩
theorem ERowi.flat {W : World} {g off : Nat} : ∀ {L : List ELi}, ERowi W g off L → ∀ j u, (L.flatMap enci)[j]? = some u → W.cell? ⟨g, off + j, none⟩ = some u
 | [], _, j, u, hu => by simp at hu
 | x :: L, h, j, u, hu => by
  have hx : (enci x).length = 1 := enci_len x
  rw [List.flatMap_cons] at hu
  rcases Nat.lt_or_ge j 1 with h1 | h1
  ·rw [List.getElem?_append_left (by omega)] at hu
   have := h 0 (by simp) j u hu
   simpa using this
  ·rw [List.getElem?_append_right (by omega), hx] at hu
   have hd : ERowi W g (off + 1) L := by have := h.drop (n := 1); simpa using this
   have := ERowi.flat hd (j - 1) u hu
   have e : off + 1 + (j - 1) = off + j := by omega
   rwa [e] at this
theorem flati_len : ∀ L : List ELi, (L.flatMap enci).length = L.length * 1
 | [] => rfl
 | x :: L => by rw [List.flatMap_cons, List.length_append, flati_len L, enci_len]; simp; omega
theorem flati_one (L : List ELi) : ∀ u ∈ L.flatMap enci, u.oneCell' = true := fun u hu => by
 obtain ⟨x, _, hx⟩ := List.mem_flatMap.1 hu
 exact enci_one x u hx
/-- Written behind the first ones. -/
theorem ERowi.put {W : World} {g off : Nat} {cur : Array Value} {t : TypeId} {L M : List ELi} (h : ERowi W g off L) (hg : W.heap[g]? = some (.cells cur t (0, 0))) (hfit : off + (L.length + M.length) * 1 ≤ cur.size) :
  ERowi (W.setCells g (off + L.length * 1) (M.flatMap enci)) g off (L ++ M) := by
 have hl := flati_len M
 have hth : W.there g (off + L.length * 1) (M.flatMap enci).length := there_row hg _ _ (by rw [hl]; omega)
 refine ERowi.app (fun i hi => ?_) fun i hi k u hu => ?_
 ·refine World.rangeAt_setCells_apart (h i hi) _ _ _ (.inr (.inl ?_))
  rw [enci_len]
  omega
 ·have hk : k < 1 := by have := (List.getElem?_eq_some_iff.1 hu).1; rwa [enci_len] at this
  have hs := World.rangeAt_setCells_same W g (off + L.length * 1) (M.flatMap enci) hth
  have hf : (M.flatMap enci)[i * 1 + k]? = some u := by
   clear hs hth hl hfit
   induction M generalizing i with
   | nil => simp at hi
   | cons x M ih =>
    rw [List.flatMap_cons]
    cases i with
    | zero =>
     rw [List.getElem?_append_left (by rw [enci_len]; omega)]
     simpa using hu
    | succ i =>
     rw [List.getElem?_append_right (by rw [enci_len]; omega), enci_len]
     have e : (i + 1) * 1 + k - 1 = i * 1 + k := by omega
     rw [e]
     exact ih i (by simpa using hi) (by simpa using hu)
  have := hs (i * 1 + k) u hf
  rwa [← Nat.add_assoc] at this
theorem infoi : (Tryz.prog.info? 3).map (fun i => i.size) = some 1 := by kernel_rfl
section
variable {ops : Array Oper} {rest : List Oper} {o : Oper} {a : Act} {Q : Exit → Act → World → Prop}
/-- append, where there is room. -/
theorem appi {w : World} (hg : o.guard = none) (s x : Operand) (hop : o.op = Op.call { callee := Callee.builtin Builtin.append, args := #[s, x], argTypes := #[93, 93] })
  (b off sLen sCap : Nat) (hs : a.eval s = .slice (some ⟨b, off, none⟩) sLen sCap) (ad : Option Addr) (n c : Nat) (M : List ELi) (hx : a.eval x = .slice ad n c) (hn : M.length = n) (hnone : ad = none → n = 0 ∧ c = 0)
  (hc : ∀ aa, ad = some aa → ∀ j u, (M.flatMap enci)[j]? = some u → w.cell? (aa.add j) = some u) (cur : Array Value) (t : TypeId) (hb : w.heap[b]? = some (.cells cur t (0, 0))) (hroom : sLen + n ≤ sCap) (hfit : off + (sLen + n) * 1 ≤ cur.size)
  (hK : wpList Tryz.prog ops Q rest (a.put o.dst (.slice (some ⟨b, off, none⟩) (sLen + n) sCap)) (w.setCells b (off + sLen * 1) (M.flatMap enci))) :
  wpList Tryz.prog ops Q (o :: rest) a w := by
 refine wpList_plain hg fun K hK' => ?_
 obtain ⟨i0, hi, hz⟩ := Option.map_eq_some_iff.1 infoi
 have hsrc : Src Tryz.prog i0.size 93 (.slice ad n c) n (M.flatMap enci) w := by
  cases ad with
  | none =>
   obtain ⟨rfl, rfl⟩ := hnone rfl
   have : M = [] := List.eq_nil_of_length_eq_zero hn
   subst this
   exact Src.ofNil w Tryz.underlying93 0
  | some aa => exact Src.ofSlice w Tryz.underlying93 aa n c _ (by rw [flati_len, hn, hz]) (hc aa rfl) (flati_one M)
 have hth : w.there b (off + sLen * 1) (M.flatMap enci).length := there_row hb _ _ (by rw [flati_len, hn]; omega)
 have hrun := run_append_room_src (P := Tryz.prog) w 93 93 o.type 3 i0 Tryz.underlying93 hi b off sLen sCap _ n _ hsrc hroom (fun j hj => by rw [hz]; exact (hth j hj).1) (fun j hj => by rw [hz]; exact (hth j hj).2)
 rw [hz] at hrun
 (try simp only [Nat.mul_one] at hK)
 unfold Oper.wp
 simp [execOp, hop, resolve, invoke, builtin, hs, hx, hrun, Result.andThen]
 exact hK' _ _ hK
end
end Go.Proofs.YtcpkjmpbpmeclaaGreatDoor
namespace Go.Proofs.YtcpkjmpbpmeclaaGreatDoor
open Go.RowKit
set_option maxRecDepth 100000
set_option linter.unusedVariables false
set_option linter.unusedSimpArgs false
set_option linter.unnecessarySimpa false

theorem grown_tr {w W W' : World} {row : Option Nat} (h : w.grownBy W row) (k : W.grownBy W' row) : w.grownBy W' row :=
 ⟨k.os.trans h.os, k.tape.trans h.tape, k.output.trans h.output, Nat.le_trans h.size k.size, fun i hi hne => (k.block i (Nat.lt_of_lt_of_le hi h.size) hne).trans (h.block i hi hne)⟩
def sliceLen : Value → Nat
 | .slice _ n _ => n
 | _ => 0
/-- What the order answers of elements. -/
def Cmpi (w0 : World) (q1 q2 : Nat) (c : ELi → ELi → Int) (L : List ELi) : Prop :=
 ∀ x ∈ L, ∀ y ∈ L, ∀ W, Below w0.heap.size w0 W → Calls Tryz.prog 190 #[argi x, argi y, .pointer (some ⟨q1, 0, none⟩), .pointer (some ⟨q2, 0, none⟩)] W fun e w' => e = .returned (.int .i64 (c x y)) ∧ Below W.heap.size W w'
/-- While two lists are merged: 'm' stood there ahead, 'D' has been put behind it. -/
structure MergeIi (w0 w W : World) (gs go : Nat) (t : TypeId) (cs so : Nat) (D : List ELi) : Prop where
 b : Below w0.heap.size w0 W
 g : w.grownBy W (some gs)
 h : ∃ cur, W.heap[gs]? = some (.cells cur t (0, 0)) ∧ cur.size = cs
 r : ERowi W gs so D
 k : ∀ j, j < so → W.cell? ⟨gs, j, none⟩ = w.cell? ⟨gs, j, none⟩
theorem MergeIi.below {w0 w W W' : World} {gs go cs so : Nat} {t : TypeId} {D : List ELi} (h : MergeIi w0 w W gs go t cs so D) (hb : Below W.heap.size W W') : MergeIi w0 w W' gs go t cs so D := by
 obtain ⟨cur, h1, h2⟩ := h.h
 have hl := (Array.getElem?_eq_some_iff.1 h1).1
 exact ⟨trans_b h.b hb, grown_tr h.g ⟨hb.os, hb.tape, hb.output, hb.size, fun i hi _ => hb.block i hi⟩, ⟨cur, (hb.block gs hl).trans h1, h2⟩, h.r.keep (hb.block gs hl), fun j hj => (World.cell?_of_block (a := ⟨gs, j, none⟩) (hb.block gs hl)).trans (h.k j hj)⟩
theorem MergeIi.put {w0 w W : World} {gs go cs so : Nat} {t : TypeId} {D : List ELi} (h : MergeIi w0 w W gs go t cs so D) (hgs : w0.heap.size ≤ gs) (M : List ELi) (hfit : so + (D.length + M.length) * 1 ≤ cs) :
  MergeIi w0 w (W.setCells gs (so + D.length * 1) (M.flatMap enci)) gs go t cs so (D ++ M) := by
 obtain ⟨cur, h1, h2⟩ := h.h
 obtain ⟨cur', h3, h4⟩ := blk_setCells (M.flatMap enci) (so + D.length * 1) cur W h1
 have hb := below_setCells (M.flatMap enci) gs (so + D.length * 1) W h.b hgs
 have hsz : W.heap.size ≤ (W.setCells gs (so + D.length * 1) (M.flatMap enci)).heap.size := (below_setCells (M.flatMap enci) gs (so + D.length * 1) W (Below.refl gs W) (Nat.le_refl _)).size
 have hput := h.r.put (M := M) h1 (by omega)
 exact ⟨hb, grown_tr h.g ⟨hb.os.trans h.b.os.symm, hb.tape.trans h.b.tape.symm, hb.output.trans h.b.output.symm, hsz, fun i hi hne => World.heap_setCells_other _ _ _ _ hi (fun e => hne (by rw [e]))⟩, ⟨cur', h3, by omega⟩, hput, fun j hj => (World.cell?_setCells_out _ _ _ _ _ (fun _ _ => .inl (by show j < so + _; omega))).trans (h.k j hj)⟩
theorem newi (W : World) {q0 : Int} {y : ELi} (h : enci y = [.int .i64 q0]) (aa : Addr) (ha : some (⟨W.heap.size, 0, none⟩ : Addr) = some aa) (j : Nat) (u : Value) (hu : ([y].flatMap enci)[j]? = some u) : (W.alloc (.cells #[.int .i64 q0] 3)).cell? (aa.add j) = some u := by
 injection ha with ha
 subst ha
 rw [List.flatMap_cons, List.flatMap_nil, List.append_nil, h] at hu
 rw [add_plain, cell_of_row _ _ _ _ _ _ (heap_alloc_new W _)]
 simpa using hu
set_option maxHeartbeats 8000000 in
theorem mergei_any (w0 w : World) (q1 q2 : Nat) (c : ELi → ELi → Int) (L A B : List ELi) (gs go cs so ao bo sc ac bc na nb : Nat) (t : TypeId) (hc : Cmpi w0 q1 q2 c L) (hAL : ∀ x ∈ A, x ∈ L) (hBL : ∀ x ∈ B, x ∈ L) (hgs : w0.heap.size ≤ gs) (hne : gs ≠ go) (hgo : go < w.heap.size)
  (hna : A.length = na) (hnb : B.length = nb) (hI : MergeIi w0 w w gs go t cs so []) (hA : ERowi w go ao A) (hB : ERowi w go bo B) (hac : na ≤ ac) (hbc : nb ≤ bc) (hsc : na + nb ≤ sc) (hfit : so + (na + nb) * 1 ≤ cs) (hbig : na + nb ≤ 2000000000) :
  Calls Tryz.prog 220 #[.slice (some ⟨gs, so, none⟩) 0 sc, .slice (some ⟨go, ao, none⟩) na ac, .slice (some ⟨go, bo, none⟩) nb bc, .func (.func 190) #[] #[.pointer (some ⟨q1, 0, none⟩), .pointer (some ⟨q2, 0, none⟩)]] w fun e w' => (∃ v, e = .returned v) ∧ MergeIi w0 w w' gs go t cs so (mergeL c A B) := by
 have HC := Lib.hid hc
 have HAB := Lib.hid (And.intro hAL hBL)
 have HI := Lib.hid hI
 have HA := Lib.hid hA
 have HB := Lib.hid hB
 have HNA := Lib.hid hna
 have HNB := Lib.hid hnb
 have HFIT := Lib.hid hfit
 have HGO := Lib.hid (And.intro hgs (And.intro hne hgo))
 obtain ⟨RES, hRES⟩ : ∃ RES, mergeL c A B = RES := ⟨_, rfl⟩
 have HRES := Lib.hid hRES
 rw [hRES]
 clear hc hAL hBL hI hA hB hna hnb hfit hRES hgs hne hgo
 go_enter Tryz.func220, Tryz.ntmps220
 go_wp2
 go_loopw [0, 1, 2] (fun t0 t1 t2 W => ∃ (A' B' D : List ELi) (na' nb' nd ao' bo' ac' bc' : Nat), t0 = .slice (some ⟨gs, so, none⟩) nd sc ∧ t1 = .slice (some ⟨go, ao', none⟩) na' ac' ∧ t2 = .slice (some ⟨go, bo', none⟩) nb' bc' ∧ na' ≤ ac' ∧ nb' ≤ bc' ∧ nd + na' + nb' = na + nb ∧
   Hid (A'.length = na' ∧ B'.length = nb' ∧ D.length = nd ∧ RES = D ++ mergeL c A' B' ∧ (∀ x ∈ A', x ∈ L) ∧ (∀ x ∈ B', x ∈ L) ∧ ERowi W go ao' A' ∧ ERowi W go bo' B' ∧ MergeIi w0 w W gs go t cs so D)) (fun _ t1 t2 _ => sliceLen t1 + sliceLen t2)
 case atStart => exact ⟨A, B, [], na, nb, 0, ao, bo, ac, bc, rfl, rfl, rfl, hac, hbc, by omega, Lib.hid ⟨HNA.out, HNB.out, rfl, by rw [List.nil_append]; exact HRES.out.symm, HAB.out.1, HAB.out.2, HA.out, HB.out, HI.out⟩⟩
 case round =>
  obtain ⟨A', B', D, na', nb', nd, ao', bo', ac', bc', rfl, rfl, rfl, hac', hbc', hnn, HH⟩ := hrel
  obtain ⟨a1, a2, a3, a4, a5, a6, a7, a8, a9⟩ := HH.out
  by_cases hz : 0 < na' ∧ 0 < nb'
  ·obtain ⟨hz1, hz2⟩ := hz
   obtain ⟨x, A2, rfl⟩ : ∃ x A2, A' = x :: A2 := by cases A' with | nil => simp at a1; omega | cons x A2 => exact ⟨x, A2, rfl⟩
   obtain ⟨y, B2, rfl⟩ : ∃ y B2, B' = y :: B2 := by cases B' with | nil => simp at a2; omega | cons y B2 => exact ⟨y, B2, rfl⟩
   obtain ⟨p0, px, pax, pcells⟩ := a7.first
   obtain ⟨q0, qx, qax, qcells⟩ := a8.first
   have hcall := HC.out y (a6 y (by simp)) x (a5 x (by simp))
   rw [pax, qax] at hcall
   have HCALL := Lib.hid hcall
   have HPX := Lib.hid px
   have HQX := Lib.hid qx
   obtain ⟨z, hzz⟩ : ∃ z, c y x = z := ⟨_, rfl⟩
   have HZ := Lib.hid hzz
   rw [hzz] at HCALL
   clear hcall px qx pax qax hzz
   have pc0 := pcells
   have qc0 := qcells
   obtain ⟨na2, rfl⟩ : ∃ n, na' = n + 1 := ⟨na' - 1, by omega⟩
   obtain ⟨nb2, rfl⟩ : ∃ n, nb' = n + 1 := ⟨nb' - 1, by omega⟩
   have hb9 := Lib.hid a9.b
   have hg9 := Lib.hid a9.g
   clear a1 a2 a3 a4 a5 a6 a7 a8 a9
   by_cases hneg : z < 0
   ·have hnb : decide (z < 0) = true := decide_eq_true hneg
    go_upto_region 2 with fail
    go_region_law (go_simp; go_at_call 190; refine (HCALL.out _ (by first | exact hb9.out | exact trans_b hb9.out (Below.refl _ _).drew)).mono ?_; rintro e w1 ⟨rfl, hb1'⟩; have hb1 : Hid (Below wr.heap.size wr w1) := Lib.hid (by first | exact hb1' | exact ((Below.refl wr.heap.size wr).drew).trans hb1'); clear hb1'; have pc0 := keep1 hb1.out pc0; have qc0 := keep1 hb1.out qc0)
    all_goals (
     have hgo1 : w1.heap[go]? = wr.heap[go]? := hb1.out.block go (Nat.lt_of_lt_of_le HGO.out.2.2 hg9.out.size)
     have HM1 := Lib.hid (HH.out.2.2.2.2.2.2.2.2.below hb1.out)
     have HG1 := Lib.hid hgo1
     clear hgo1
     go_upto_region 4 with (at_builtin; go_must (obtain ⟨cur, hcur, hcs⟩ := (HM1.out.below ((Below.refl w1.heap.size w1).alloc (Nat.le_refl _) (.cells #[.int .i64 q0] 3))).h; refine appi rfl _ _ rfl gs so nd sc rfl _ 1 1 [y] rfl rfl (fun h => by cases h) (newi w1 HQX.out) cur t hcur (by omega) (by have := HFIT.out; omega) ?_))
     have HM2 : Hid (MergeIi w0 w ((w1.alloc (.cells #[.int .i64 q0] 3)).setCells gs (so + nd) (enci y)) gs go t cs so (D ++ [y])) := Lib.hid (by
      have h := (HM1.out.below ((Below.refl w1.heap.size w1).alloc (Nat.le_refl _) (.cells #[.int .i64 q0] 3))).put HGO.out.1 [y] (by have := HFIT.out; have := HH.out.2.2.1; simp only [List.length_cons, List.length_nil]; omega)
      have e1 : so + D.length * 1 = (so + nd) := by have := HH.out.2.2.1; omega
      have e2 : [y].flatMap enci = enci y := by simp
      rw [e1, e2] at h
      exact h)
     have HG2 : Hid (((w1.alloc (.cells #[.int .i64 q0] 3)).setCells gs (so + nd) (enci y)).heap[go]? = wr.heap[go]?) := Lib.hid (by
      have hl : go < w1.heap.size := Nat.lt_of_lt_of_le (Nat.lt_of_lt_of_le HGO.out.2.2 hg9.out.size) hb1.out.size
      rw [World.heap_setCells_other _ _ _ _ (by simp; omega) (fun e => HGO.out.2.1 e.symm), Below.heap_alloc _ _ _ hl]
      exact HG1.out)
     generalize ((w1.alloc (.cells #[.int .i64 q0] 3)).setCells gs (so + nd) (enci y)) = W4 at *
     clear pc0 qc0
     obtain ⟨h1, h2, h3, h4, h5, h6, h7, h8, h9⟩ := HH.out
     clear hcur hcs
     go_wp2
     have HR2 : RES = (D ++ [y]) ++ mergeL c (x :: A2) B2 := by
      rw [h4, mergeL_cons, if_pos (by rw [HZ.out]; exact hneg), List.append_assoc]
      rfl
     obtain ⟨bo2, hbo, hrow⟩ : ∃ bo2, (if bc' = 1 then some (⟨go, bo', none⟩ : Addr) else some ⟨go, bo' + 1, none⟩) = some ⟨go, bo2, none⟩ ∧ ERowi W4 go bo2 B2 := by
      by_cases hb1c : bc' = 1
      ·have : B2 = [] := List.eq_nil_of_length_eq_zero (by simp at h2; omega)
       subst this
       exact ⟨bo', by rw [if_pos hb1c], fun i hi => by simp at hi⟩
      ·refine ⟨bo' + 1, by rw [if_neg hb1c], ?_⟩
       have := (h8.keep HG2.out).drop (n := 1)
       simpa using this
     rw [hbo]
     refine ⟨⟨x :: A2, B2, D ++ [y], na2 + 1, nb2, nd + 1, ao', bo2, ac', bc' - 1, rfl, rfl, rfl, hac', by omega, by omega, Lib.hid ⟨h1, by simpa using h2, by simp [h3], HR2, h5, fun z hz => h6 z (List.mem_cons_of_mem _ hz), h7.keep HG2.out, hrow, HM2.out⟩⟩, ?_⟩
     show (na2 + 1) + nb2 < (na2 + 1) + (nb2 + 1)
     omega)
   ·have hnb : decide (z < 0) = false := decide_eq_false hneg
    go_upto_region 2 with fail
    go_region_law (go_simp; go_at_call 190; refine (HCALL.out _ (by first | exact hb9.out | exact trans_b hb9.out (Below.refl _ _).drew)).mono ?_; rintro e w1 ⟨rfl, hb1'⟩; have hb1 : Hid (Below wr.heap.size wr w1) := Lib.hid (by first | exact hb1' | exact ((Below.refl wr.heap.size wr).drew).trans hb1'); clear hb1'; have pc0 := keep1 hb1.out pc0; have qc0 := keep1 hb1.out qc0)
    all_goals (
     have hgo1 : w1.heap[go]? = wr.heap[go]? := hb1.out.block go (Nat.lt_of_lt_of_le HGO.out.2.2 hg9.out.size)
     have HM1 := Lib.hid (HH.out.2.2.2.2.2.2.2.2.below hb1.out)
     have HG1 := Lib.hid hgo1
     clear hgo1
     go_upto_region 6 with (at_builtin; go_must (obtain ⟨cur, hcur, hcs⟩ := (HM1.out.below ((Below.refl w1.heap.size w1).alloc (Nat.le_refl _) (.cells #[.int .i64 p0] 3))).h; refine appi rfl _ _ rfl gs so nd sc rfl _ 1 1 [x] rfl rfl (fun h => by cases h) (newi w1 HPX.out) cur t hcur (by omega) (by have := HFIT.out; omega) ?_))
     have HM2 : Hid (MergeIi w0 w ((w1.alloc (.cells #[.int .i64 p0] 3)).setCells gs (so + nd) (enci x)) gs go t cs so (D ++ [x])) := Lib.hid (by
      have h := (HM1.out.below ((Below.refl w1.heap.size w1).alloc (Nat.le_refl _) (.cells #[.int .i64 p0] 3))).put HGO.out.1 [x] (by have := HFIT.out; have := HH.out.2.2.1; simp only [List.length_cons, List.length_nil]; omega)
      have e1 : so + D.length * 1 = (so + nd) := by have := HH.out.2.2.1; omega
      have e2 : [x].flatMap enci = enci x := by simp
      rw [e1, e2] at h
      exact h)
     have HG2 : Hid (((w1.alloc (.cells #[.int .i64 p0] 3)).setCells gs (so + nd) (enci x)).heap[go]? = wr.heap[go]?) := Lib.hid (by
      have hl : go < w1.heap.size := Nat.lt_of_lt_of_le (Nat.lt_of_lt_of_le HGO.out.2.2 hg9.out.size) hb1.out.size
      rw [World.heap_setCells_other _ _ _ _ (by simp; omega) (fun e => HGO.out.2.1 e.symm), Below.heap_alloc _ _ _ hl]
      exact HG1.out)
     generalize ((w1.alloc (.cells #[.int .i64 p0] 3)).setCells gs (so + nd) (enci x)) = W4 at *
     clear pc0 qc0
     obtain ⟨h1, h2, h3, h4, h5, h6, h7, h8, h9⟩ := HH.out
     clear hcur hcs
     go_wp2
     have HR2 : RES = (D ++ [x]) ++ mergeL c A2 (y :: B2) := by
      rw [h4, mergeL_cons, if_neg (by rw [HZ.out]; exact hneg), List.append_assoc]
      rfl
     obtain ⟨ao2, hao, hrow⟩ : ∃ ao2, (if ac' = 1 then some (⟨go, ao', none⟩ : Addr) else some ⟨go, ao' + 1, none⟩) = some ⟨go, ao2, none⟩ ∧ ERowi W4 go ao2 A2 := by
      by_cases hb1c : ac' = 1
      ·have : A2 = [] := List.eq_nil_of_length_eq_zero (by simp at h1; omega)
       subst this
       exact ⟨ao', by rw [if_pos hb1c], fun i hi => by simp at hi⟩
      ·refine ⟨ao' + 1, by rw [if_neg hb1c], ?_⟩
       have := (h7.keep HG2.out).drop (n := 1)
       simpa using this
     rw [hao]
     refine ⟨⟨A2, y :: B2, D ++ [x], na2, nb2 + 1, nd + 1, ao2, bo', ac' - 1, bc', rfl, rfl, rfl, by omega, hbc', by omega, Lib.hid ⟨by simpa using h1, h2, by simp [h3], HR2, fun z hz => h5 z (List.mem_cons_of_mem _ hz), h6, hrow, h8.keep HG2.out, HM2.out⟩⟩, ?_⟩
     show na2 + (nb2 + 1) < (na2 + 1) + (nb2 + 1)
     omega)
  ·have fin : ∀ (M : List ELi) (n oo cc : Nat), M.length = n → nd + n = na + nb → ERowi wr go oo M → RES = D ++ M → ∀ (ops : Array Oper) (rest : List Oper) (o : Oper) (a : Act) (Q : Exit → Act → World → Prop), o.guard = none → ∀ s x, o.op = Op.call { callee := Callee.builtin Builtin.append, args := #[s, x], argTypes := #[93, 93] } → a.eval s = .slice (some ⟨gs, so, none⟩) nd sc → a.eval x = .slice (some ⟨go, oo, none⟩) n cc →
     (∀ W2, Hid (MergeIi w0 w W2 gs go t cs so RES) → wpList Tryz.prog ops Q rest (a.put o.dst (.slice (some ⟨gs, so, none⟩) (nd + n) sc)) W2) → wpList Tryz.prog ops Q (o :: rest) a wr := fun M n oo cc hM hn hrow hR ops rest o a Q hg s x hop hs hx hK => by
    obtain ⟨cur, hcur, hcs⟩ := a9.h
    have hput := a9.put HGO.out.1 M (by have := HFIT.out; omega)
    have e1 : so + D.length * 1 = so + nd * 1 := by omega
    rw [e1, ← hR] at hput
    exact appi hg s x hop gs so nd sc hs _ n cc M hx hM (fun h => by cases h) (fun aa haa j u hu => by
     injection haa with haa
     subst haa
     rw [add_row]
     exact hrow.flat j u hu) cur t hcur (by omega) (by have := HFIT.out; omega) (hK _ (Lib.hid hput))
   by_cases h1 : 0 < na'
   ·have h2 : nb' = 0 := by omega
    subst h2
    have hB : B' = [] := List.eq_nil_of_length_eq_zero a2
    subst hB
    have HF := Lib.hid (fin A' na' ao' ac' a1 (by omega) a7 (by rw [a4, mergeL_nil2]))
    have hd1 : decide ((0 : Int) < (na' : Int)) = true := decide_eq_true (by omega)
    clear fin a1 a2 a3 a4 a5 a6 a7 a8 a9 HH
    go_wp2_with (at_builtin; refine HF.out _ _ _ _ _ rfl _ _ rfl rfl rfl ?_; intro W2 HM2)
    go_ret
    exact ⟨⟨_, rfl⟩, HM2.out⟩
   ·have h2 : na' = 0 := by omega
    subst h2
    have hA0 : A' = [] := List.eq_nil_of_length_eq_zero a1
    subst hA0
    have HF := Lib.hid (fin B' nb' bo' bc' a2 (by omega) a8 (by rw [a4, mergeL_nil]))
    by_cases h3 : nb' = 0
    ·subst h3
     have hB : B' = [] := List.eq_nil_of_length_eq_zero a2
     subst hB
     have HM0 : Hid (MergeIi w0 w wr gs go t cs so RES) := Lib.hid (by
      have e : RES = D := by rw [a4, mergeL_nil, List.append_nil]
      rw [e]
      exact a9)
     clear fin a1 a2 a3 a4 a5 a6 a7 a8 a9 HH HF
     go_wp2
     go_ret
     exact ⟨⟨_, rfl⟩, HM0.out⟩
    ·clear fin a1 a2 a3 a4 a5 a6 a7 a8 a9 HH
     go_wp2_with (at_builtin; refine HF.out _ _ _ _ _ rfl _ _ rfl rfl rfl ?_; intro W2 HM2)
     go_ret
     exact ⟨⟨_, rfl⟩, HM2.out⟩
end Go.Proofs.YtcpkjmpbpmeclaaGreatDoor
namespace Go.Proofs.YtcpkjmpbpmeclaaGreatDoor
open Go.RowKit
set_option maxRecDepth 100000
set_option linter.unusedVariables false
set_option linter.unusedSimpArgs false
set_option linter.unnecessarySimpa false

/-- A pair of a map with its number. -/
structure ELp where
 key : VT
 val : VT
 num : Int
def encp (x : ELp) : List Value := x.key.cells ++ (x.val.cells ++ [.int .i64 x.num])
def argp (x : ELp) : Value := .agg (encp x).toArray
theorem encp_len (x : ELp) : (encp x).length = 17 := rfl
theorem encp_one (x : ELp) : ∀ u ∈ encp x, u.oneCell' = true := fun u hu => by
 simp only [encp, VT.cells, List.mem_append, List.mem_cons, List.not_mem_nil, or_false] at hu
 rcases hu with (rfl | rfl | rfl | rfl | rfl | rfl | rfl | rfl) | (rfl | rfl | rfl | rfl | rfl | rfl | rfl | rfl) | rfl <;> rfl
theorem encp_parts (x : ELp) : ∃ p0 p1 p2 p3 p4 p5 p6 p7 p8 p9 p10 p11 p12 p13 p14 p15 p16 : Value, encp x = [p0, p1, p2, p3, p4, p5, p6, p7, p8, p9, p10, p11, p12, p13, p14, p15, p16] ∧ argp x = .agg #[p0, p1, p2, p3, p4, p5, p6, p7, p8, p9, p10, p11, p12, p13, p14, p15, p16] := ⟨_, _, _, _, _, _, _, _, _, _, _, _, _, _, _, _, _, rfl, rfl⟩

/-- Elements one behind the other, from an offset of a block. -/
def ERowp (W : World) (g off : Nat) (L : List ELp) : Prop := ∀ i (h : i < L.length), W.rangeAt g (off + i * 17) (encp L[i])
theorem ERowp.keep {W W' : World} {g off : Nat} {L : List ELp} (h : ERowp W g off L) (hb : W'.heap[g]? = W.heap[g]?) : ERowp W' g off L :=
 fun i hi k u hu => (World.cell?_of_block (a := ⟨g, off + i * 17 + k, none⟩) hb).trans (h i hi k u hu)
theorem ERowp.drop {W : World} {g off n : Nat} {L : List ELp} (h : ERowp W g off L) : ERowp W g (off + n * 17) (L.drop n) := fun i hi => by
 have hi' : n + i < L.length := by rw [List.length_drop] at hi; omega
 have := h (n + i) hi'
 rw [List.getElem_drop]
 have e : off + n * 17 + i * 17 = off + (n + i) * 17 := by omega
 rw [e]
 exact this
theorem ERowp.app {W : World} {g off : Nat} {L M : List ELp} (h : ERowp W g off L) (h2 : ERowp W g (off + L.length * 17) M) : ERowp W g off (L ++ M) := fun i hi => by
 rcases Nat.lt_or_ge i L.length with h1 | h1
 ·rw [List.getElem_append_left h1]; exact h i h1
 ·rw [List.getElem_append_right h1]
  have := h2 (i - L.length) (by rw [List.length_append] at hi; omega)
  have e : off + L.length * 17 + (i - L.length) * 17 = off + i * 17 := by omega
  rwa [e] at this
/-- The cells of the first one. -/
theorem ERowp.first {W : World} {g off : Nat} {x : ELp} {L : List ELp} (h : ERowp W g off (x :: L)) : ∃ p0 p1 p2 p3 p4 p5 p6 p7 p8 p9 p10 p11 p12 p13 p14 p15 p16 : Value, encp x = [p0, p1, p2, p3, p4, p5, p6, p7, p8, p9, p10, p11, p12, p13, p14, p15, p16] ∧ argp x = .agg #[p0, p1, p2, p3, p4, p5, p6, p7, p8, p9, p10, p11, p12, p13, p14, p15, p16] ∧ W.cell? ⟨g, off, none⟩ = some (p0) ∧ W.cell? ⟨g, off + 1, none⟩ = some (p1) ∧ W.cell? ⟨g, off + 2, none⟩ = some (p2) ∧ W.cell? ⟨g, off + 3, none⟩ = some (p3) ∧ W.cell? ⟨g, off + 4, none⟩ = some (p4) ∧ W.cell? ⟨g, off + 5, none⟩ = some (p5) ∧ W.cell? ⟨g, off + 6, none⟩ = some (p6) ∧ W.cell? ⟨g, off + 7, none⟩ = some (p7) ∧ W.cell? ⟨g, off + 8, none⟩ = some (p8) ∧ W.cell? ⟨g, off + 9, none⟩ = some (p9) ∧ W.cell? ⟨g, off + 10, none⟩ = some (p10) ∧ W.cell? ⟨g, off + 11, none⟩ = some (p11) ∧ W.cell? ⟨g, off + 12, none⟩ = some (p12) ∧ W.cell? ⟨g, off + 13, none⟩ = some (p13) ∧ W.cell? ⟨g, off + 14, none⟩ = some (p14) ∧ W.cell? ⟨g, off + 15, none⟩ = some (p15) ∧ W.cell? ⟨g, off + 16, none⟩ = some (p16) := by
 obtain ⟨p0, p1, p2, p3, p4, p5, p6, p7, p8, p9, p10, p11, p12, p13, p14, p15, p16, h1, h2⟩ := encp_parts x
 have hr := h 0 (by simp)
 simp only [List.getElem_cons_zero, Nat.zero_mul, Nat.add_zero, h1] at hr
 exact ⟨p0, p1, p2, p3, p4, p5, p6, p7, p8, p9, p10, p11, p12, p13, p14, p15, p16, h1, h2, hr 0 _ rfl, hr 1 _ rfl, hr 2 _ rfl, hr 3 _ rfl, hr 4 _ rfl, hr 5 _ rfl, hr 6 _ rfl, hr 7 _ rfl, hr 8 _ rfl, hr 9 _ rfl, hr 10 _ rfl, hr 11 _ rfl, hr 12 _ rfl, hr 13 _ rfl, hr 14 _ rfl, hr 15 _ rfl, hr 16 _ rfl⟩
theorem ERowp.flat {W : World} {g off : Nat} : ∀ {L : List ELp}, ERowp W g off L → ∀ j u, (L.flatMap encp)[j]? = some u → W.cell? ⟨g, off + j, none⟩ = some u
 | [], _, j, u, hu => by simp at hu
 | x :: L, h, j, u, hu => by
  have hx : (encp x).length = 17 := encp_len x
  rw [List.flatMap_cons] at hu
  rcases Nat.lt_or_ge j 17 with h1 | h1
  ·rw [List.getElem?_append_left (by omega)] at hu
   have := h 0 (by simp) j u hu
   simpa using this
  ·rw [List.getElem?_append_right (by omega), hx] at hu
   have hd : ERowp W g (off + 17) L := by have := h.drop (n := 1); simpa using this
   have := ERowp.flat hd (j - 17) u hu
   have e : off + 17 + (j - 17) = off + j := by omega
   rwa [e] at this
theorem flatp_len : ∀ L : List ELp, (L.flatMap encp).length = L.length * 17
 | [] => rfl
 | x :: L => by rw [List.flatMap_cons, List.length_append, flatp_len L, encp_len]; simp; omega
theorem flatp_one (L : List ELp) : ∀ u ∈ L.flatMap encp, u.oneCell' = true := fun u hu => by
 obtain ⟨x, _, hx⟩ := List.mem_flatMap.1 hu
 exact encp_one x u hx
/-- Written behind the first ones. -/
theorem ERowp.put {W : World} {g off : Nat} {cur : Array Value} {t : TypeId} {L M : List ELp} (h : ERowp W g off L) (hg : W.heap[g]? = some (.cells cur t (0, 0))) (hfit : off + (L.length + M.length) * 17 ≤ cur.size) :
  ERowp (W.setCells g (off + L.length * 17) (M.flatMap encp)) g off (L ++ M) := by
 have hl := flatp_len M
 have hth : W.there g (off + L.length * 17) (M.flatMap encp).length := there_row hg _ _ (by rw [hl]; omega)
 refine ERowp.app (fun i hi => ?_) fun i hi k u hu => ?_
 ·refine World.rangeAt_setCells_apart (h i hi) _ _ _ (.inr (.inl ?_))
  rw [encp_len]
  omega
 ·have hk : k < 17 := by have := (List.getElem?_eq_some_iff.1 hu).1; rwa [encp_len] at this
  have hs := World.rangeAt_setCells_same W g (off + L.length * 17) (M.flatMap encp) hth
  have hf : (M.flatMap encp)[i * 17 + k]? = some u := by
   clear hs hth hl hfit
   induction M generalizing i with
   | nil => simp at hi
   | cons x M ih =>
    rw [List.flatMap_cons]
    cases i with
    | zero =>
     rw [List.getElem?_append_left (by rw [encp_len]; omega)]
     simpa using hu
    | succ i =>
     rw [List.getElem?_append_right (by rw [encp_len]; omega), encp_len]
     have e : (i + 1) * 17 + k - 17 = i * 17 + k := by omega
     rw [e]
     exact ih i (by simpa using hi) (by simpa using hu)
  have := hs (i * 17 + k) u hf
  rwa [← Nat.add_assoc] at this
theorem infop : (Tryz.prog.info? 123).map (fun i => i.size) = some 17 := by kernel_rfl
section
variable {ops : Array Oper} {rest : List Oper} {o : Oper} {a : Act} {Q : Exit → Act → World → Prop}
/-- append, where there is room. -/
theorem appp {w : World} (hg : o.guard = none) (s x : Operand) (hop : o.op = Op.call { callee := Callee.builtin Builtin.append, args := #[s, x], argTypes := #[119, 119] })
  (b off sLen sCap : Nat) (hs : a.eval s = .slice (some ⟨b, off, none⟩) sLen sCap) (ad : Option Addr) (n c : Nat) (M : List ELp) (hx : a.eval x = .slice ad n c) (hn : M.length = n) (hnone : ad = none → n = 0 ∧ c = 0)
  (hc : ∀ aa, ad = some aa → ∀ j u, (M.flatMap encp)[j]? = some u → w.cell? (aa.add j) = some u) (cur : Array Value) (t : TypeId) (hb : w.heap[b]? = some (.cells cur t (0, 0))) (hroom : sLen + n ≤ sCap) (hfit : off + (sLen + n) * 17 ≤ cur.size)
  (hK : wpList Tryz.prog ops Q rest (a.put o.dst (.slice (some ⟨b, off, none⟩) (sLen + n) sCap)) (w.setCells b (off + sLen * 17) (M.flatMap encp))) :
  wpList Tryz.prog ops Q (o :: rest) a w := by
 refine wpList_plain hg fun K hK' => ?_
 obtain ⟨i0, hi, hz⟩ := Option.map_eq_some_iff.1 infop
 have hsrc : Src Tryz.prog i0.size 119 (.slice ad n c) n (M.flatMap encp) w := by
  cases ad with
  | none =>
   obtain ⟨rfl, rfl⟩ := hnone rfl
   have : M = [] := List.eq_nil_of_length_eq_zero hn
   subst this
   exact Src.ofNil w Tryz.underlying119 0
  | some aa => exact Src.ofSlice w Tryz.underlying119 aa n c _ (by rw [flatp_len, hn, hz]) (hc aa rfl) (flatp_one M)
 have hth : w.there b (off + sLen * 17) (M.flatMap encp).length := there_row hb _ _ (by rw [flatp_len, hn]; omega)
 have hrun := run_append_room_src (P := Tryz.prog) w 119 119 o.type 123 i0 Tryz.underlying119 hi b off sLen sCap _ n _ hsrc hroom (fun j hj => by rw [hz]; exact (hth j hj).1) (fun j hj => by rw [hz]; exact (hth j hj).2)
 rw [hz] at hrun
 (try simp only [Nat.mul_one] at hK)
 unfold Oper.wp
 simp [execOp, hop, resolve, invoke, builtin, hs, hx, hrun, Result.andThen]
 exact hK' _ _ hK
end
end Go.Proofs.YtcpkjmpbpmeclaaGreatDoor
namespace Go.Proofs.YtcpkjmpbpmeclaaGreatDoor
open Go.RowKit
set_option maxRecDepth 100000
set_option linter.unusedVariables false
set_option linter.unusedSimpArgs false
set_option linter.unnecessarySimpa false

theorem q22s (t : TypeId) (e : TypeId) (h : Tryz.prog.underlying t = some (.slice e)) : ∀ (w : World) (a : Option Addr) (n c n' c' : Nat), (binOp .eql t (.slice a n c) (.slice none n' c')).run Tryz.prog w = .ok (.bool a.isNone) w := fun w a n c n' c' => Lib.run_eql_slice_nil w _ _ a n c n' c' h
/-- A row that has been put together by append. -/
structure Rows (base : Nat) (w' : World) (m S : Nat) (t : TypeId) (v : Value) (gb cap csz : Nat) : Prop where
 v : v = .slice (some ⟨gb, 0, none⟩) m cap
 b : base ≤ gb
 h : ∃ cur, w'.heap[gb]? = some (.cells cur t (0, 0)) ∧ cur.size = csz
 z : m * S ≤ csz
 c : m ≤ cap

theorem flati_at : ∀ (l : List ELi) (i : Nat) (h : i < l.length) (j : Nat), j < 1 → (l.flatMap enci)[i * 1 + j]? = (enci l[i])[j]?
 | x :: l, 0, h, j, hj => by
  rw [List.flatMap_cons, Nat.zero_mul, Nat.zero_add, List.getElem?_append_left (by rw [enci_len]; exact hj)]
  rfl
 | x :: l, i + 1, h, j, hj => by
  have e : (i + 1) * 1 + j = (enci x).length + (i * 1 + j) := by rw [enci_len]; omega
  rw [List.flatMap_cons, e, List.getElem?_append_right (by omega), Nat.add_sub_cancel_left, flati_at l i (by simpa using h) j hj]
  rfl
theorem infoi3 : ∃ i0 z, Tryz.prog.info? 3 = some i0 ∧ i0.zero = some z ∧ i0.size = 1 ∧ i0.bytes = 8 ∧ z.cells.size = 1 := by
 have h1 : (Tryz.prog.info? 3).map (fun i => (i.zero.map (fun z => z.cells.size), i.size, i.bytes)) = some (some 1, 1, 8) := by kernel_rfl
 obtain ⟨i0, hi, hz⟩ := Option.map_eq_some_iff.1 h1
 simp only [Prod.mk.injEq] at hz
 obtain ⟨z, hzz, hzs⟩ := Option.map_eq_some_iff.1 hz.1
 exact ⟨i0, z, hi, hzz, hz.2.1, hz.2.2, hzs⟩
set_option maxHeartbeats 1000000 in
theorem clonei_any (g off c n : Nat) (L : List ELi) (w : World) (hm : L.length = n) (hne : 0 < n) (hn : n ≤ 1000000000) (hr : ERowi w g off L) :
  Calls Tryz.prog 219 #[.slice (some ⟨g, off, none⟩) n c] w fun e w' => ∃ v gb cap csz, e = .returned v ∧ Hid (Rows w.heap.size w' n 1 3 v gb cap csz ∧ ERowi w' gb 0 L) ∧ Below w.heap.size w w' := by
 have q22 := q22s 93 _ Tryz.underlying93
 obtain ⟨i0, z0, hi, hz0, hz1, hz2, hzs⟩ := infoi3
 have HC := Lib.hid fun j u hu => hr.flat j u hu
 have HM := Lib.hid hm
 clear hr hm
 go_enter Tryz.func219, Tryz.ntmps219
 go_wp2_with (at_builtin; refine wpList_append_own _ rfl _ _ 93 rfl w.heap.size 3 i0 z0 1 8 Tryz.underlying93 hi hz0 hz1 hz2 hzs (by decide) _ _ _ rfl (World.ownsRow_made w #[] 0 (Nat.le_refl _) (Nat.zero_le _) (by simp)) ⟨g, off, none⟩ n c (L.flatMap enci) rfl ?qc1 ?qc2 ?qc3 ?qc4 ?qc5 ?qc6 ?_)
 case qc1 => rw [flati_len, HM.out]
 case qc2 =>
  intro j u hj
  refine Lib.cell?_alloc_some _ ?_
  rw [add_row]
  exact HC.out j u hj
 case qc3 => exact flati_one L
 case qc4 => rw [Nat.zero_add]; unfold maxLen; omega
 case qc5 => rw [Nat.zero_add]; omega
 case qc6 => simp
 intro v' w1 hown hgrow hnil
 have HO : Hid (∃ gb cap csz, Rows w.heap.size w1 n 1 3 v' gb cap csz ∧ ERowi w1 gb 0 L) := Lib.hid (by
  (try rw [Nat.zero_add, List.nil_append] at hown)
  rcases hown.2 with ⟨e, h0⟩ | ⟨gb, cap, cur, e, h1, h2, h3, h4, h5, h6⟩
  ·omega
  ·refine ⟨gb, cap, cur.size, ⟨e, h1, ⟨cur, h2, rfl⟩, ?_, h3⟩, fun i hi j u hu => ?_⟩
   ·rw [h5]; exact Nat.mul_le_mul_right _ h3
   ·have hj : j < 1 := by have := (List.getElem?_eq_some_iff.1 hu).1; rwa [enci_len] at this
    have := hown.cells (g := gb) (by rw [e]; rfl) (i * 1 + j) u (by rw [flati_at L i hi j hj]; exact hu)
    rw [add_plain] at this
    rwa [Nat.zero_add])
 have HB : Hid (Below w.heap.size w w1) := Lib.hid (((Below.refl _ w).alloc (Nat.le_refl _) _).grown hgrow (by simp) (by intro k hk; simp [Value.ownBlock] at hk; omega))
 clear hown hgrow hnil
 go_wp2
 go_ret
 obtain ⟨gb, cap, csz, hR, hE⟩ := HO.out
 exact ⟨v', gb, cap, csz, rfl, Lib.hid ⟨hR, hE⟩, HB.out⟩
set_option maxHeartbeats 1000000 in
theorem clonei_none (A : Option Addr) (c : Nat) (w : World) :
  Calls Tryz.prog 219 #[.slice A 0 c] w fun e w' => (∃ A' c', e = .returned (.slice A' 0 c')) ∧ Below w.heap.size w w' := by
 have q22 := q22s 93 _ Tryz.underlying93
 obtain ⟨i0, z0, hi, hz0, hz1, hz2, hzs⟩ := infoi3
 cases A with
 | none =>
  go_enter Tryz.func219, Tryz.ntmps219
  go_wp2
  go_ret
  exact ⟨⟨_, _, rfl⟩, Below.refl _ _⟩
 | some a =>
  go_enter Tryz.func219, Tryz.ntmps219
  go_wp2_with (at_builtin; refine wpList_append_own _ rfl _ _ 93 rfl w.heap.size 3 i0 z0 1 8 Tryz.underlying93 hi hz0 hz1 hz2 hzs (by decide) _ _ _ rfl (World.ownsRow_made w #[] 0 (Nat.le_refl _) (Nat.zero_le _) (by simp)) a 0 c [] rfl (by simp) (fun j u hj => by simp at hj) (fun u hu => by simp at hu) (by simp [maxLen]) (by simp) (by simp) ?_)
  intro v' w1 hown hgrow hnil
  have HB : Hid (Below w.heap.size w w1) := Lib.hid (((Below.refl _ w).alloc (Nat.le_refl _) _).grown hgrow (by simp) (by intro k hk; simp [Value.ownBlock] at hk; omega))
  have HV : Hid (∃ A' c', v' = .slice A' 0 c') := Lib.hid (by
   rcases hown.2 with ⟨e, h0⟩ | ⟨gb, cap, cur, e, _⟩
   ·exact ⟨_, _, e⟩
   ·exact ⟨_, _, e⟩)
  clear hown hgrow hnil
  go_wp2
  go_ret
  obtain ⟨A', c', rfl⟩ := HV.out
  exact ⟨⟨A', c', rfl⟩, HB.out⟩

theorem flatp_at : ∀ (l : List ELp) (i : Nat) (h : i < l.length) (j : Nat), j < 17 → (l.flatMap encp)[i * 17 + j]? = (encp l[i])[j]?
 | x :: l, 0, h, j, hj => by
  rw [List.flatMap_cons, Nat.zero_mul, Nat.zero_add, List.getElem?_append_left (by rw [encp_len]; exact hj)]
  rfl
 | x :: l, i + 1, h, j, hj => by
  have e : (i + 1) * 17 + j = (encp x).length + (i * 17 + j) := by rw [encp_len]; omega
  rw [List.flatMap_cons, e, List.getElem?_append_right (by omega), Nat.add_sub_cancel_left, flatp_at l i (by simpa using h) j hj]
  rfl
theorem infop3 : ∃ i0 z, Tryz.prog.info? 123 = some i0 ∧ i0.zero = some z ∧ i0.size = 17 ∧ i0.bytes = 216 ∧ z.cells.size = 17 := by
 have h1 : (Tryz.prog.info? 123).map (fun i => (i.zero.map (fun z => z.cells.size), i.size, i.bytes)) = some (some 17, 17, 216) := by kernel_rfl
 obtain ⟨i0, hi, hz⟩ := Option.map_eq_some_iff.1 h1
 simp only [Prod.mk.injEq] at hz
 obtain ⟨z, hzz, hzs⟩ := Option.map_eq_some_iff.1 hz.1
 exact ⟨i0, z, hi, hzz, hz.2.1, hz.2.2, hzs⟩
set_option maxHeartbeats 1000000 in
theorem clonep_any (g off c n : Nat) (L : List ELp) (w : World) (hm : L.length = n) (hne : 0 < n) (hn : n ≤ 1000000000) (hr : ERowp w g off L) :
  Calls Tryz.prog 191 #[.slice (some ⟨g, off, none⟩) n c] w fun e w' => ∃ v gb cap csz, e = .returned v ∧ Hid (Rows w.heap.size w' n 17 123 v gb cap csz ∧ ERowp w' gb 0 L) ∧ Below w.heap.size w w' := by
 have q22 := q22s 119 _ Tryz.underlying119
 obtain ⟨i0, z0, hi, hz0, hz1, hz2, hzs⟩ := infop3
 have HC := Lib.hid fun j u hu => hr.flat j u hu
 have HM := Lib.hid hm
 clear hr hm
 go_enter Tryz.func191, Tryz.ntmps191
 go_wp2_with (at_builtin; refine wpList_append_own _ rfl _ _ 119 rfl w.heap.size 123 i0 z0 17 216 Tryz.underlying119 hi hz0 hz1 hz2 hzs (by decide) _ _ _ rfl (World.ownsRow_made w #[] 0 (Nat.le_refl _) (Nat.zero_le _) (by simp)) ⟨g, off, none⟩ n c (L.flatMap encp) rfl ?qc1 ?qc2 ?qc3 ?qc4 ?qc5 ?qc6 ?_)
 case qc1 => rw [flatp_len, HM.out]
 case qc2 =>
  intro j u hj
  refine Lib.cell?_alloc_some _ ?_
  rw [add_row]
  exact HC.out j u hj
 case qc3 => exact flatp_one L
 case qc4 => rw [Nat.zero_add]; unfold maxLen; omega
 case qc5 => rw [Nat.zero_add]; omega
 case qc6 => simp
 intro v' w1 hown hgrow hnil
 have HO : Hid (∃ gb cap csz, Rows w.heap.size w1 n 17 123 v' gb cap csz ∧ ERowp w1 gb 0 L) := Lib.hid (by
  (try rw [Nat.zero_add, List.nil_append] at hown)
  rcases hown.2 with ⟨e, h0⟩ | ⟨gb, cap, cur, e, h1, h2, h3, h4, h5, h6⟩
  ·omega
  ·refine ⟨gb, cap, cur.size, ⟨e, h1, ⟨cur, h2, rfl⟩, ?_, h3⟩, fun i hi j u hu => ?_⟩
   ·rw [h5]; exact Nat.mul_le_mul_right _ h3
   ·have hj : j < 17 := by have := (List.getElem?_eq_some_iff.1 hu).1; rwa [encp_len] at this
    have := hown.cells (g := gb) (by rw [e]; rfl) (i * 17 + j) u (by rw [flatp_at L i hi j hj]; exact hu)
    rw [add_plain] at this
    rwa [Nat.zero_add])
 have HB : Hid (Below w.heap.size w w1) := Lib.hid (((Below.refl _ w).alloc (Nat.le_refl _) _).grown hgrow (by simp) (by intro k hk; simp [Value.ownBlock] at hk; omega))
 clear hown hgrow hnil
 go_wp2
 go_ret
 obtain ⟨gb, cap, csz, hR, hE⟩ := HO.out
 exact ⟨v', gb, cap, csz, rfl, Lib.hid ⟨hR, hE⟩, HB.out⟩
set_option maxHeartbeats 1000000 in
theorem clonep_none (A : Option Addr) (c : Nat) (w : World) :
  Calls Tryz.prog 191 #[.slice A 0 c] w fun e w' => (∃ A' c', e = .returned (.slice A' 0 c')) ∧ Below w.heap.size w w' := by
 have q22 := q22s 119 _ Tryz.underlying119
 obtain ⟨i0, z0, hi, hz0, hz1, hz2, hzs⟩ := infop3
 cases A with
 | none =>
  go_enter Tryz.func191, Tryz.ntmps191
  go_wp2
  go_ret
  exact ⟨⟨_, _, rfl⟩, Below.refl _ _⟩
 | some a =>
  go_enter Tryz.func191, Tryz.ntmps191
  go_wp2_with (at_builtin; refine wpList_append_own _ rfl _ _ 119 rfl w.heap.size 123 i0 z0 17 216 Tryz.underlying119 hi hz0 hz1 hz2 hzs (by decide) _ _ _ rfl (World.ownsRow_made w #[] 0 (Nat.le_refl _) (Nat.zero_le _) (by simp)) a 0 c [] rfl (by simp) (fun j u hj => by simp at hj) (fun u hu => by simp at hu) (by simp [maxLen]) (by simp) (by simp) ?_)
  intro v' w1 hown hgrow hnil
  have HB : Hid (Below w.heap.size w w1) := Lib.hid (((Below.refl _ w).alloc (Nat.le_refl _) _).grown hgrow (by simp) (by intro k hk; simp [Value.ownBlock] at hk; omega))
  have HV : Hid (∃ A' c', v' = .slice A' 0 c') := Lib.hid (by
   rcases hown.2 with ⟨e, h0⟩ | ⟨gb, cap, cur, e, _⟩
   ·exact ⟨_, _, e⟩
   ·exact ⟨_, _, e⟩)
  clear hown hgrow hnil
  go_wp2
  go_ret
  obtain ⟨A', c', rfl⟩ := HV.out
  exact ⟨⟨A', c', rfl⟩, HB.out⟩
end Go.Proofs.YtcpkjmpbpmeclaaGreatDoor
namespace Go.Proofs.YtcpkjmpbpmeclaaGreatDoor
open Go.RowKit
set_option maxRecDepth 100000
set_option linter.unusedVariables false
set_option linter.unusedSimpArgs false
set_option linter.unnecessarySimpa false

/-- Where the search ends. -/
structure FoundAt (l : List VT) (x : VT) (i : Nat) (b : Bool) : Prop where
 le : i ≤ l.length
 lo : ∀ (h : i - 1 < l.length), 0 < i → cmpV (l[i - 1]) x < 0
 hi : ∀ (h : i < l.length), 0 ≤ cmpV (l[i]) x
 b : b = decP (∃ h : i < l.length, cmpV (l[i]) x = 0)
set_option maxHeartbeats 4000000 in
theorem search_of (A : Option Addr) (n c : Nat) (l : List VT) (x : VT) (k0 n0 bs ex : Int) (ng : Bool) (tx : ByteArray) (mA A2 : Option Addr) (ml mc m2 cp : Nat) (w : World) (hl : l.length = n) (hn : n ≤ 1000000000) (hr : VRow w A l)
  (hk : ∀ i (h1 : i < l.length) W, Below w.heap.size w W → Calls Tryz.prog 23 #[(l[i]).agg, .agg #[.int .i8 k0, .int .u64 n0, .bool ng, .slice mA ml mc, .int .u64 bs, .int .i8 ex, .string tx, .slice A2 m2 cp]] W fun e w' => e = .returned (.int .i64 (cmpV (l[i]) x)) ∧ Below W.heap.size W w') :
  Calls Tryz.prog 131 #[.slice A n c, .agg #[.int .i8 k0, .int .u64 n0, .bool ng, .slice mA ml mc, .int .u64 bs, .int .i8 ex, .string tx, .slice A2 m2 cp], .func (.func 23) #[] #[]] w fun e w' => (∃ (i : Nat) (b : Bool), e = .returned (.tuple #[.int .i64 (i : Nat), .bool b]) ∧ FoundAt l x i b) ∧ Below w.heap.size w w' := by
 have HR := Lib.hid hr
 have HK := Lib.hid hk
 have HL := Lib.hid hl
 have HP := Lib.hid (heap_alloc_new w (.cells #[.int .i8 k0, .int .u64 n0, .bool ng, .slice mA ml mc, .int .u64 bs, .int .i8 ex, .string tx, .slice A2 m2 cp] 31))
 have HBA : Hid (Below w.heap.size w (w.alloc (.cells #[.int .i8 k0, .int .u64 n0, .bool ng, .slice mA ml mc, .int .u64 bs, .int .i8 ex, .string tx, .slice A2 m2 cp] 31))) := Lib.hid ((Below.refl _ _).alloc (Nat.le_refl _) _)
 have hfn : ∀ W : World, (binOp BinOp.eql 47 (.func (.func 23) #[] #[]) .nilFunc).run Tryz.prog W = .ok (.bool false) W := fun W => by kernel_rfl
 obtain ⟨Q, hQ⟩ : ∃ Q : Ending → Prop, (fun e => ∃ (i : Nat) (b : Bool), e = .returned (.tuple #[.int .i64 (i : Nat), .bool b]) ∧ FoundAt l x i b) = Q := ⟨_, rfl⟩
 have HQ : Hid (∀ (i : Nat) (b : Bool), FoundAt l x i b → Q (.returned (.tuple #[.int .i64 (i : Nat), .bool b]))) := Lib.hid fun i b h => by rw [← hQ]; exact ⟨i, b, rfl, h⟩
 show Calls _ _ _ _ (fun e w' => (fun e => ∃ (i : Nat) (b : Bool), e = .returned (.tuple #[.int .i64 (i : Nat), .bool b]) ∧ FoundAt l x i b) e ∧ Below w.heap.size w w')
 rw [hQ]
 clear hr hk hl hQ
 go_enter Tryz.func131, Tryz.ntmps131
 go_upto_region 1 with fail
 show Code.wp _ _ _ _ (w.alloc (.cells #[.int .i8 k0, .int .u64 n0, .bool ng, .slice mA ml mc, .int .u64 bs, .int .i8 ex, .string tx, .slice A2 m2 cp] 31))
 generalize (w.alloc (.cells #[.int .i8 k0, .int .u64 n0, .bool ng, .slice mA ml mc, .int .u64 bs, .int .i8 ex, .string tx, .slice A2 m2 cp] 31)) = W0 at *
 go_wp2
 go_loopw [8, 9] (fun f t W => ∃ i j : Nat, f = .int .i64 (i : Nat) ∧ t = .int .i64 (j : Nat) ∧ i ≤ j ∧ j ≤ n ∧ Hid ((∀ (h : i - 1 < l.length), 0 < i → cmpV (l[i - 1]) x < 0) ∧ (∀ (h : j < l.length), 0 ≤ cmpV (l[j]) x)) ∧ Hid (Below w.heap.size w W ∧ Below W0.heap.size W0 W)) (fun f t _ => (intOf t).toNat - (intOf f).toNat)
 case atStart => exact ⟨0, n, rfl, rfl, Nat.zero_le _, Nat.le_refl _, Lib.hid ⟨fun _ h => absurd h (by omega), fun h => by have := HL.out; omega⟩, Lib.hid ⟨HBA.out, Below.refl _ _⟩⟩
 case round =>
  obtain ⟨i, j, rfl, rfl, hij, hjn, HS, HB⟩ := hrel
  obtain ⟨⟨c0, c1, c2, c3, c4, c5, c6, c7⟩, -⟩ := blk8 ((HB.out.2.block _ (Array.getElem?_eq_some_iff.1 HP.out).1).trans HP.out)
  by_cases hlt : i < j
  ·obtain ⟨q, hq⟩ : ∃ q, (i + j) / 2 = q := ⟨_, rfl⟩
   have hq2 : ((i : Int) + (j : Int)) / 2 = (q : Nat) := by omega
   have hqn : q < n := by omega
   have hql : q < l.length := by rw [HL.out]; exact hqn
   obtain ⟨z, hz⟩ : ∃ z, cmpV (l[q]'hql) x = z := ⟨_, rfl⟩
   obtain ⟨b, off, xk, xn, xg, xmA, xml, xmc, xb, xe, xt, xA, xl, xc, rfl, r0, r1, r2, r3, r4, r5, r6, r7, hC⟩ := (HR.out.below HB.out.1).kid hql (C := fun u => ∀ W, Below w.heap.size w W → Calls Tryz.prog 23 #[u, .agg #[.int .i8 k0, .int .u64 n0, .bool ng, .slice mA ml mc, .int .u64 bs, .int .i8 ex, .string tx, .slice A2 m2 cp]] W fun e w' => e = .returned (.int .i64 z) ∧ Below W.heap.size W w') (by have := HK.out q hql; rwa [hz] at this)
   have HZ : Hid (∀ h : q < l.length, cmpV l[q] x = z) := Lib.hid fun _ => hz
   have HD := Lib.hid hC
   have e7 : IntKind.i64.wrap (q : Int) = q := wraps_i64 _ (by omega) (by omega)
   clear hC hz hql
   by_cases hneg : z < 0
   ·have hzb : decide (z < 0) = true := decide_eq_true hneg
    have HS2 : Hid ((∀ (h : q + 1 - 1 < l.length), 0 < q + 1 → cmpV (l[q + 1 - 1]) x < 0) ∧ (∀ (h : j < l.length), 0 ≤ cmpV (l[j]) x)) := Lib.hid ⟨fun h _ => by
     have := HZ.out h
     rw [show cmpV (l[q + 1 - 1]'h) x = z from this]
     exact hneg, HS.out.2⟩
    go_upto_region 6 with fail
    go_region_law (go_simp; go_at_call 23; refine (HD.out _ (by first | exact HB.out.1 | exact trans_b HB.out.1 (Below.refl _ _).drew)).mono ?_; rintro e w1 ⟨rfl, hb1'⟩; have hb1 : Hid (Below wr.heap.size wr w1) := Lib.hid (by first | exact hb1' | exact ((Below.refl wr.heap.size wr).drew).trans hb1'); clear hb1')
    all_goals (
     clear r0 r1 r2 r3 r4 r5 r6 r7 c0 c1 c2 c3 c4 c5 c6 c7
     go_wp2
     exact ⟨⟨q + 1, j, by go_num, rfl, by omega, hjn, HS2, Lib.hid ⟨trans_b HB.out.1 hb1.out, trans_b HB.out.2 hb1.out⟩⟩, by simp [intOf]; omega⟩)
   ·have hzb : decide (z < 0) = false := decide_eq_false hneg
    have HS2 : Hid ((∀ (h : i - 1 < l.length), 0 < i → cmpV (l[i - 1]) x < 0) ∧ (∀ (h : q < l.length), 0 ≤ cmpV (l[q]) x)) := Lib.hid ⟨HS.out.1, fun h => by rw [HZ.out h]; omega⟩
    go_upto_region 6 with fail
    go_region_law (go_simp; go_at_call 23; refine (HD.out _ (by first | exact HB.out.1 | exact trans_b HB.out.1 (Below.refl _ _).drew)).mono ?_; rintro e w1 ⟨rfl, hb1'⟩; have hb1 : Hid (Below wr.heap.size wr w1) := Lib.hid (by first | exact hb1' | exact ((Below.refl wr.heap.size wr).drew).trans hb1'); clear hb1')
    all_goals (
     clear r0 r1 r2 r3 r4 r5 r6 r7 c0 c1 c2 c3 c4 c5 c6 c7
     go_wp2
     exact ⟨⟨i, q, rfl, by go_num, by omega, by omega, HS2, Lib.hid ⟨trans_b HB.out.1 hb1.out, trans_b HB.out.2 hb1.out⟩⟩, by simp [intOf]; omega⟩)
  ·obtain rfl : i = j := by omega
   by_cases hin : i < n
   ·have hql : i < l.length := by rw [HL.out]; exact hin
    obtain ⟨z, hz⟩ : ∃ z, cmpV (l[i]'hql) x = z := ⟨_, rfl⟩
    obtain ⟨b, off, xk, xn, xg, xmA, xml, xmc, xb, xe, xt, xA, xl, xc, rfl, r0, r1, r2, r3, r4, r5, r6, r7, hC⟩ := (HR.out.below HB.out.1).kid hql (C := fun u => ∀ W, Below w.heap.size w W → Calls Tryz.prog 23 #[u, .agg #[.int .i8 k0, .int .u64 n0, .bool ng, .slice mA ml mc, .int .u64 bs, .int .i8 ex, .string tx, .slice A2 m2 cp]] W fun e w' => e = .returned (.int .i64 z) ∧ Below W.heap.size W w') (by have := HK.out i hql; rwa [hz] at this)
    have HZ : Hid (∀ h : i < l.length, cmpV l[i] x = z) := Lib.hid fun _ => hz
    have HD := Lib.hid hC
    have HF : Hid (FoundAt l x i (z == 0)) := Lib.hid ⟨by rw [HL.out]; exact hjn, HS.out.1, HS.out.2, (decP_of (by
     rw [beq_iff_eq]
     exact ⟨fun h => ⟨hql, by rw [hz]; exact h⟩, fun ⟨h, h2⟩ => by rw [← hz]; exact h2⟩)).symm⟩
    clear hC hz hql
    have HKP : Hid (∀ Y Z : World, (Below w.heap.size w Y ∧ World.cell? Y ⟨w.heap.size, 0, none⟩ = some (.int .i8 k0) ∧ World.cell? Y ⟨w.heap.size, 1, none⟩ = some (.int .u64 n0) ∧ World.cell? Y ⟨w.heap.size, 2, none⟩ = some (.bool ng) ∧ World.cell? Y ⟨w.heap.size, 3, none⟩ = some (.slice mA ml mc) ∧ World.cell? Y ⟨w.heap.size, 4, none⟩ = some (.int .u64 bs) ∧ World.cell? Y ⟨w.heap.size, 5, none⟩ = some (.int .i8 ex) ∧ World.cell? Y ⟨w.heap.size, 6, none⟩ = some (.string tx) ∧ World.cell? Y ⟨w.heap.size, 7, none⟩ = some (.slice A2 m2 cp) ∧ World.cell? Y ⟨b, off + i * 8, none⟩ = some (.int .i8 xk) ∧ World.cell? Y ⟨b, off + i * 8 + 1, none⟩ = some (.int .u64 xn) ∧ World.cell? Y ⟨b, off + i * 8 + 2, none⟩ = some (.bool xg) ∧ World.cell? Y ⟨b, off + i * 8 + 3, none⟩ = some (.slice xmA xml xmc) ∧ World.cell? Y ⟨b, off + i * 8 + 4, none⟩ = some (.int .u64 xb) ∧ World.cell? Y ⟨b, off + i * 8 + 5, none⟩ = some (.int .i8 xe) ∧ World.cell? Y ⟨b, off + i * 8 + 6, none⟩ = some (.string xt) ∧ World.cell? Y ⟨b, off + i * 8 + 7, none⟩ = some (.slice xA xl xc)) → Below Y.heap.size Y Z → (Below w.heap.size w Z ∧ World.cell? Z ⟨w.heap.size, 0, none⟩ = some (.int .i8 k0) ∧ World.cell? Z ⟨w.heap.size, 1, none⟩ = some (.int .u64 n0) ∧ World.cell? Z ⟨w.heap.size, 2, none⟩ = some (.bool ng) ∧ World.cell? Z ⟨w.heap.size, 3, none⟩ = some (.slice mA ml mc) ∧ World.cell? Z ⟨w.heap.size, 4, none⟩ = some (.int .u64 bs) ∧ World.cell? Z ⟨w.heap.size, 5, none⟩ = some (.int .i8 ex) ∧ World.cell? Z ⟨w.heap.size, 6, none⟩ = some (.string tx) ∧ World.cell? Z ⟨w.heap.size, 7, none⟩ = some (.slice A2 m2 cp) ∧ World.cell? Z ⟨b, off + i * 8, none⟩ = some (.int .i8 xk) ∧ World.cell? Z ⟨b, off + i * 8 + 1, none⟩ = some (.int .u64 xn) ∧ World.cell? Z ⟨b, off + i * 8 + 2, none⟩ = some (.bool xg) ∧ World.cell? Z ⟨b, off + i * 8 + 3, none⟩ = some (.slice xmA xml xmc) ∧ World.cell? Z ⟨b, off + i * 8 + 4, none⟩ = some (.int .u64 xb) ∧ World.cell? Z ⟨b, off + i * 8 + 5, none⟩ = some (.int .i8 xe) ∧ World.cell? Z ⟨b, off + i * 8 + 6, none⟩ = some (.string xt) ∧ World.cell? Z ⟨b, off + i * 8 + 7, none⟩ = some (.slice xA xl xc))) := Lib.hid fun Y Z h hb => ⟨trans_b h.1 hb, keep1 hb h.2.1, keep1 hb h.2.2.1, keep1 hb h.2.2.2.1, keep1 hb h.2.2.2.2.1, keep1 hb h.2.2.2.2.2.1, keep1 hb h.2.2.2.2.2.2.1, keep1 hb h.2.2.2.2.2.2.2.1, keep1 hb h.2.2.2.2.2.2.2.2.1, keep1 hb h.2.2.2.2.2.2.2.2.2.1, keep1 hb h.2.2.2.2.2.2.2.2.2.2.1, keep1 hb h.2.2.2.2.2.2.2.2.2.2.2.1, keep1 hb h.2.2.2.2.2.2.2.2.2.2.2.2.1, keep1 hb h.2.2.2.2.2.2.2.2.2.2.2.2.2.1, keep1 hb h.2.2.2.2.2.2.2.2.2.2.2.2.2.2.1, keep1 hb h.2.2.2.2.2.2.2.2.2.2.2.2.2.2.2.1, keep1 hb h.2.2.2.2.2.2.2.2.2.2.2.2.2.2.2.2⟩
    have HS0 : Hid (Below w.heap.size w wr ∧ World.cell? wr ⟨w.heap.size, 0, none⟩ = some (.int .i8 k0) ∧ World.cell? wr ⟨w.heap.size, 1, none⟩ = some (.int .u64 n0) ∧ World.cell? wr ⟨w.heap.size, 2, none⟩ = some (.bool ng) ∧ World.cell? wr ⟨w.heap.size, 3, none⟩ = some (.slice mA ml mc) ∧ World.cell? wr ⟨w.heap.size, 4, none⟩ = some (.int .u64 bs) ∧ World.cell? wr ⟨w.heap.size, 5, none⟩ = some (.int .i8 ex) ∧ World.cell? wr ⟨w.heap.size, 6, none⟩ = some (.string tx) ∧ World.cell? wr ⟨w.heap.size, 7, none⟩ = some (.slice A2 m2 cp) ∧ World.cell? wr ⟨b, off + i * 8, none⟩ = some (.int .i8 xk) ∧ World.cell? wr ⟨b, off + i * 8 + 1, none⟩ = some (.int .u64 xn) ∧ World.cell? wr ⟨b, off + i * 8 + 2, none⟩ = some (.bool xg) ∧ World.cell? wr ⟨b, off + i * 8 + 3, none⟩ = some (.slice xmA xml xmc) ∧ World.cell? wr ⟨b, off + i * 8 + 4, none⟩ = some (.int .u64 xb) ∧ World.cell? wr ⟨b, off + i * 8 + 5, none⟩ = some (.int .i8 xe) ∧ World.cell? wr ⟨b, off + i * 8 + 6, none⟩ = some (.string xt) ∧ World.cell? wr ⟨b, off + i * 8 + 7, none⟩ = some (.slice xA xl xc)) := Lib.hid ⟨HB.out.1, c0, c1, c2, c3, c4, c5, c6, c7, r0, r1, r2, r3, r4, r5, r6, r7⟩
    have HSD := Lib.hid (HKP.out wr wr.drew HS0.out (Below.refl _ _).drew)
    clear r0 r1 r2 r3 r4 r5 r6 r7 c0 c1 c2 c3 c4 c5 c6 c7
    go_upto_region 9 with fail
    go_region_held3 (fun X => Below w.heap.size w X ∧ World.cell? X ⟨w.heap.size, 0, none⟩ = some (.int .i8 k0) ∧ World.cell? X ⟨w.heap.size, 1, none⟩ = some (.int .u64 n0) ∧ World.cell? X ⟨w.heap.size, 2, none⟩ = some (.bool ng) ∧ World.cell? X ⟨w.heap.size, 3, none⟩ = some (.slice mA ml mc) ∧ World.cell? X ⟨w.heap.size, 4, none⟩ = some (.int .u64 bs) ∧ World.cell? X ⟨w.heap.size, 5, none⟩ = some (.int .i8 ex) ∧ World.cell? X ⟨w.heap.size, 6, none⟩ = some (.string tx) ∧ World.cell? X ⟨w.heap.size, 7, none⟩ = some (.slice A2 m2 cp) ∧ World.cell? X ⟨b, off + i * 8, none⟩ = some (.int .i8 xk) ∧ World.cell? X ⟨b, off + i * 8 + 1, none⟩ = some (.int .u64 xn) ∧ World.cell? X ⟨b, off + i * 8 + 2, none⟩ = some (.bool xg) ∧ World.cell? X ⟨b, off + i * 8 + 3, none⟩ = some (.slice xmA xml xmc) ∧ World.cell? X ⟨b, off + i * 8 + 4, none⟩ = some (.int .u64 xb) ∧ World.cell? X ⟨b, off + i * 8 + 5, none⟩ = some (.int .i8 xe) ∧ World.cell? X ⟨b, off + i * 8 + 6, none⟩ = some (.string xt) ∧ World.cell? X ⟨b, off + i * 8 + 7, none⟩ = some (.slice xA xl xc))
     (first
      | with_reducible exact HSD.out
      | with_reducible exact HS1.out)
     (first
      | (go_at_call 23; refine (HD.out _ HSD.out.1).mono ?_; rintro e w1 ⟨rfl, hb1⟩; have HS1 := Lib.hid (HKP.out _ _ HSD.out hb1); clear hb1))
    all_goals (
     go_wp2
     go_ret2
     exact ⟨HQ.out i _ HF.out, HS1.out.1⟩)
   ·have HF : Hid (FoundAt l x i false) := Lib.hid ⟨by rw [HL.out]; exact hjn, HS.out.1, HS.out.2, (decP_no.2 fun ⟨h, _⟩ => by rw [HL.out] at h; omega).symm⟩
    have hib : decide ((i : Int) < (n : Int)) = false := decide_eq_false (by omega)
    go_upto_region 9 with fail
    go_quiet (fail)
    clear c0 c1 c2 c3 c4 c5 c6 c7
    go_wp2
    go_ret2
    exact ⟨HQ.out i _ HF.out, trans_b HB.out.1 (below_drewN _ _)⟩
end Go.Proofs.YtcpkjmpbpmeclaaGreatDoor
namespace Go.Proofs.YtcpkjmpbpmeclaaGreatDoor
open Go.RowKit
set_option maxRecDepth 100000
set_option linter.unusedVariables false
set_option linter.unusedSimpArgs false
set_option linter.unnecessarySimpa false

/-- Every second one, from the first on. -/
def evens {α : Type} : List α → List α
 | [] => []
 | [x] => [x]
 | x :: _ :: l => x :: evens l
theorem evens_len {α : Type} : ∀ l : List α, (evens l).length = (l.length + 1) / 2
 | [] => by simp [evens]
 | [x] => by simp [evens]
 | x :: y :: l => by simp only [evens, List.length_cons, evens_len l]; omega
theorem evens_get {α : Type} : ∀ (l : List α) (i : Nat) (h : i < (evens l).length) (h2 : 2 * i < l.length), (evens l)[i] = l[2 * i]
 | [x], 0, h, h2 => rfl
 | [x], i + 1, h, h2 => by simp at h2
 | x :: y :: l, 0, h, h2 => rfl
 | x :: y :: l, i + 1, h, h2 => by
  have h3 : 2 * i < l.length := by simp at h2; omega
  have e : 2 * (i + 1) = 2 * i + 1 + 1 := by omega
  simp only [evens, List.getElem_cons_succ, e]
  exact evens_get l i (by simpa [evens] using h) h3
theorem evens_bound {α : Type} (l : List α) (i : Nat) (h : i < (evens l).length) : 2 * i < l.length := by rw [evens_len] at h; omega
/-- In keys that rise a search ends at the key, if it is there. -/
theorem found_iff {l : List VT} {x : VT} {i : Nat} {b : Bool} (hr : ∀ i (h : i + 1 < l.length), cmpV (l[i]'(by omega)) (l[i + 1]) < 0) (h : FoundAt l x i b) : b = true ↔ ∃ (k : Nat) (hk : k < l.length), cmpV (l[k]) x = 0 := by
 have mono : ∀ (d i : Nat) (h : i + d < l.length), cmpV (l[i]'(by omega)) (l[i + d]) ≤ 0 := by
  intro d
  induction d with
  | zero => intro i hi; have := cmpV_self l[i]; simp only [Nat.add_zero]; omega
  | succ d ih =>
   intro i hi
   have h1 := ih i (by omega)
   have h2 := hr (i + d) (by omega)
   have := (cmpV_tri (l[i]'(by omega)) (l[i + d]'(by omega)) (l[i + (d + 1)])).1 h1 (by have := h2; simp only [Nat.add_assoc] at this; omega)
   exact this.1
 rw [h.b, decP_iff]
 constructor
 ·rintro ⟨h1, h2⟩; exact ⟨i, h1, h2⟩
 ·rintro ⟨k, hk, hk2⟩
  rcases Nat.lt_or_ge k i with hlt | hge
  ·exfalso
   have hi := h.le
   have h1 := h.lo (by omega) (by omega)
   have h2 := mono (i - 1 - k) k (by omega)
   have e : k + (i - 1 - k) = i - 1 := by omega
   have h3 : cmpV l[k] (l[i - 1]'(by omega)) ≤ 0 := by simpa only [e] using h2
   have h4 := (cmpV_tri l[k] (l[i - 1]'(by omega)) x).1 h3 (by omega)
   have h5 := h4.2 hk2
   omega
  ·have hi : i < l.length := by omega
   refine ⟨hi, ?_⟩
   have h1 := h.hi hi
   have h2 := mono (k - i) i (by omega)
   have e : i + (k - i) = k := by omega
   have h3 : cmpV (l[i]'hi) l[k] ≤ 0 := by simpa only [e] using h2
   have h4 := (cmpV_tri (l[i]'hi) l[k] x).1 h3 (by omega)
   omega
/-- What Find finds. -/
def FindP (m key : VT) : Prop := m.k = 8 ∧ checkV m = none ∧ checkV key = none
theorem find_rising {m : VT} (hk : m.k = 8) (hc : checkV m = none) : RisingV m.l := by
 have h1 : badAt notAlone m 0 = none := by
  unfold checkV at hc
  split at hc
  ·cases hc
  ·assumption
 rw [badAt_eq] at h1
 split at h1
 ·cases h1
 ·rename_i h2
  have h3 : alone m = true := by
   unfold notAlone at h2
   simpa using h2
  have h4 := ((alone_iff m).1 h3).1
  unfold KindOk at h4
  rcases h4 with h | ⟨h, _⟩ | ⟨h, _⟩ | ⟨h, _⟩ | ⟨h, _⟩ | h | h | ⟨_, h⟩ | ⟨h, _⟩ | ⟨h, _⟩ | h <;> first | exact h | omega
/-- What Find answers. -/
def FindR (m key : VT) (w : World) (e : Ending) (w' : World) : Prop :=
 (∃ (i : Nat) (h : 2 * i + 1 < m.l.length) (T : VT), FindP m key ∧ cmpV (m.l[2 * i]'(by omega)) key = 0 ∧ e = .returned (.tuple #[T.agg, .bool true]) ∧ Mine w.heap.size w' T ∧ T.c = (m.l[2 * i + 1]).c) ∨
 ((FindP m key → ∀ (i : Nat) (h : 2 * i < m.l.length), cmpV (m.l[2 * i]) key ≠ 0) ∧ e = .returned (.tuple #[.agg zeroV, .bool false]))
end Go.Proofs.YtcpkjmpbpmeclaaGreatDoor
namespace Go.Proofs.YtcpkjmpbpmeclaaGreatDoor
open Go.RowKit
set_option maxRecDepth 100000
set_option linter.unusedVariables false
set_option linter.unusedSimpArgs false
set_option linter.unnecessarySimpa false

/-- The blocks of Find's own: both arguments, the result. -/
structure Bk3 (w W : World) (c1 c2 : Array Value) : Prop where
 p : W.heap[w.heap.size]? = some (.cells c1 31 (0, 0))
 k : W.heap[w.heap.size + 1]? = some (.cells c2 31 (0, 0))
 r : W.heap[w.heap.size + 2]? = some (.cells zeroV 31 (0, 0))
 b : Below w.heap.size w W
theorem Bk3.keep {w W W' : World} {c1 c2 : Array Value} (h : Bk3 w W c1 c2) (hb : Below W.heap.size W W') : Bk3 w W' c1 c2 :=
 ⟨(hb.block _ (Array.getElem?_eq_some_iff.1 h.p).1).trans h.p, (hb.block _ (Array.getElem?_eq_some_iff.1 h.k).1).trans h.k, (hb.block _ (Array.getElem?_eq_some_iff.1 h.r).1).trans h.r, trans_b h.b hb⟩
theorem Bk3.start (w : World) (c1 c2 : Array Value) : Bk3 w (((w.alloc (.cells c1 31)).alloc (.cells c2 31)).alloc (.cells zeroV 31)) c1 c2 := by
 have old : ∀ (X : World) (o : Obj) (i : Nat), i < X.heap.size → (X.alloc o).heap[i]? = X.heap[i]? := fun X o i hi => Below.heap_alloc X o i hi
 have new : ∀ (X : World) (o : Obj) (i : Nat), i = X.heap.size → (X.alloc o).heap[i]? = some o := fun X o i hi => by rw [hi]; exact heap_alloc_new X o
 refine ⟨?_, ?_, ?_, (((Below.refl _ w).alloc (Nat.le_refl _) _).alloc (by simp) _).alloc (by simp; omega) _⟩
 ·rw [old _ _ _ (by simp <;> omega), old _ _ _ (by simp <;> omega), new _ _ _ rfl]
 ·rw [old _ _ _ (by simp <;> omega), new _ _ _ (by simp)]
 ·rw [new _ _ _ (by simp)]
theorem find_load {w W : World} {c1 c2 : Array Value} (h : Bk3 w W c1 c2) (vs : List Value) (hl : vs.length = 8) :
  Sem.run Tryz.prog (loadVar 31 ⟨w.heap.size + 2, 0, none⟩) (W.setCells (w.heap.size + 2) 0 vs) = .ok (.agg vs.toArray) (W.setCells (w.heap.size + 2) 0 vs) ∧ Below w.heap.size w (W.setCells (w.heap.size + 2) 0 vs) := by
 have hT2 : W.there (w.heap.size + 2) 0 vs.length := there_row h.r _ _ (by rw [hl]; exact Nat.le_refl _)
 exact ⟨run_loadVar_mid (P := Tryz.prog) (W.setCells (w.heap.size + 2) 0 vs) (w.heap.size + 2) 0 31 vs _ (World.rangeAt_setCells_same _ _ _ _ hT2) Tryz.underlying31 rfl (by rw [size_value, hl]), below_setCells _ _ 0 _ h.b (by omega)⟩
theorem checkR_some {a : Nat → Addr} {q : Int × List Nat} {w w' : World} {e : Ending} (h : CheckR a (some q) w e w') : ∃ b, e = .returned (.iface 87 (.pointer (some ⟨b, 0, none⟩))) := by
 rcases h with ⟨h, _⟩ | ⟨k, p, b, _, _, _, h, _⟩
 ·cases h
 ·exact ⟨b, h⟩
theorem checkR_none {a : Nat → Addr} {w w' : World} {e : Ending} (h : CheckR a none w e w') : e = .returned .nilIface := by
 rcases h with ⟨_, h⟩ | ⟨k, p, b, h, _⟩
 ·exact h
 ·cases h
set_option maxHeartbeats 8000000 in
theorem findW (k n bs ex k2 n2 bs2 ex2 : Int) (ng ng2 : Bool) (tx tx2 : ByteArray) (mA A mA2 A2 : Option Addr) (ml mc m cp ml2 mc2 m2 cp2 : Nat) (l : List VT) (a : Nat → Addr) (r1 r2 : Option (Int × List Nat)) (F : Nat → Bool → Prop) (Q : Ending → World → Prop) (w : World) (hlm : l.length = m) (hm : m ≤ 1000000000) (hr : VRow w A l)
  (HM : Hid (∀ W, Below w.heap.size w W → Calls Tryz.prog 16 #[.agg #[.int .i8 k, .int .u64 n, .bool ng, .slice mA ml mc, .int .u64 bs, .int .i8 ex, .string tx, .slice A m cp]] W fun e w' => CheckR a r1 W e w' ∧ Below W.heap.size W w'))
  (HKY : Hid (∀ W, Below w.heap.size w W → Calls Tryz.prog 16 #[.agg #[.int .i8 k2, .int .u64 n2, .bool ng2, .slice mA2 ml2 mc2, .int .u64 bs2, .int .i8 ex2, .string tx2, .slice A2 m2 cp2]] W fun e w' => CheckR a r2 W e w' ∧ Below W.heap.size W w'))
  (HSR : Hid (∀ W A n c, (k = 8 ∧ r1 = none ∧ r2 = none) → n = (evens l).length → Below w.heap.size w W → VRow W A (evens l) → Calls Tryz.prog 131 #[.slice A n c, .agg #[.int .i8 k2, .int .u64 n2, .bool ng2, .slice mA2 ml2 mc2, .int .u64 bs2, .int .i8 ex2, .string tx2, .slice A2 m2 cp2], .func (.func 23) #[] #[]] W fun e w' => (∃ (i : Nat) (b : Bool), e = .returned (.tuple #[.int .i64 (i : Nat), .bool b]) ∧ F i b) ∧ Below W.heap.size W w'))
  (HF : Hid (∀ i, F i true → 2 * i + 1 < m)) (HF0 : Hid (∀ i, F i false → ∀ w', Q (.returned (.tuple #[.agg zeroV, .bool false])) w'))
  (HCP : Hid (∀ i (h : i < l.length) W, Below w.heap.size w W → Calls Tryz.prog 32 #[(l[i]).agg] W fun e w' => ∃ T : VT, e = .returned T.agg ∧ Hid (Mine W.heap.size w' T ∧ T.c = (l[i]).c) ∧ Below W.heap.size W w'))
  (HF1 : Hid (∀ i (h : 2 * i + 1 < l.length), F i true → ∀ W w' T vs, Below w.heap.size w W → w.heap.size + 3 ≤ W.heap.size → Mine W.heap.size w' T → T.c = (l[2 * i + 1]).c → Q (.returned (.tuple #[T.agg, .bool true])) (w'.setCells (w.heap.size + 2) 0 vs)))
  (HQ0 : Hid (¬ (k = 8 ∧ r1 = none ∧ r2 = none) → ∀ w', Q (.returned (.tuple #[.agg zeroV, .bool false])) w')) :
  Calls Tryz.prog 36 #[.agg #[.int .i8 k, .int .u64 n, .bool ng, .slice mA ml mc, .int .u64 bs, .int .i8 ex, .string tx, .slice A m cp], .agg #[.int .i8 k2, .int .u64 n2, .bool ng2, .slice mA2 ml2 mc2, .int .u64 bs2, .int .i8 ex2, .string tx2, .slice A2 m2 cp2]] w fun e w' => Q e w' ∧ Below w.heap.size w w' := by
 have HB := Lib.hid (Bk3.start w #[.int .i8 k, .int .u64 n, .bool ng, .slice mA ml mc, .int .u64 bs, .int .i8 ex, .string tx, .slice A m cp] #[.int .i8 k2, .int .u64 n2, .bool ng2, .slice mA2 ml2 mc2, .int .u64 bs2, .int .i8 ex2, .string tx2, .slice A2 m2 cp2])
 have HR := Lib.hid hr
 have HL := Lib.hid hlm
 clear hr hlm
 go_enter Tryz.func36, Tryz.ntmps36
 go_upto_region 1 with fail
 rw [show w.heap.size + 1 + 1 = w.heap.size + 2 from rfl]
 show Code.wp _ _ _ _ (((w.alloc (.cells #[.int .i8 k, .int .u64 n, .bool ng, .slice mA ml mc, .int .u64 bs, .int .i8 ex, .string tx, .slice A m cp] 31)).alloc (.cells #[.int .i8 k2, .int .u64 n2, .bool ng2, .slice mA2 ml2 mc2, .int .u64 bs2, .int .i8 ex2, .string tx2, .slice A2 m2 cp2] 31)).alloc (.cells zeroV 31))
 generalize (((w.alloc (.cells #[.int .i8 k, .int .u64 n, .bool ng, .slice mA ml mc, .int .u64 bs, .int .i8 ex, .string tx, .slice A m cp] 31)).alloc (.cells #[.int .i8 k2, .int .u64 n2, .bool ng2, .slice mA2 ml2 mc2, .int .u64 bs2, .int .i8 ex2, .string tx2, .slice A2 m2 cp2] 31)).alloc (.cells zeroV 31)) = W0 at *
 obtain ⟨⟨c0, c1, c2, c3, c4, c5, c6, c7⟩, -⟩ := blk8 HB.out.p
 obtain ⟨⟨d0, d1, d2, d3, d4, d5, d6, d7⟩, -⟩ := blk8 HB.out.k
 obtain ⟨⟨e0, e1, e2, e3, e4, e5, e6, e7⟩, g0, g1, g2, g3, g4, g5, g6, g7⟩ := blk8 HB.out.r
 by_cases hk : k = 8
 ·subst hk
  cases r1 with
  | some q =>
   have HNO := Lib.hid (HQ0.out (fun h => by cases h.2.1))
   go_wp2_with (go_at_call 16; go_must (first
    | (with_reducible refine (HM.out _ HB.out.b).mono ?_; rintro e w1 ⟨HE1, hb1⟩; have HB := Lib.hid (HB.out.keep hb1); obtain ⟨⟨c0, c1, c2, c3, c4, c5, c6, c7⟩, -⟩ := blk8 HB.out.p; obtain ⟨⟨d0, d1, d2, d3, d4, d5, d6, d7⟩, -⟩ := blk8 HB.out.k; obtain ⟨⟨e0, e1, e2, e3, e4, e5, e6, e7⟩, g0, g1, g2, g3, g4, g5, g6, g7⟩ := blk8 HB.out.r; obtain ⟨b1, rfl⟩ := checkR_some HE1; clear hb1)
    | (with_reducible refine (HKY.out _ HB.out.b).mono ?_; rintro e w2 ⟨HE2, hb2⟩; have HB := Lib.hid (HB.out.keep hb2); obtain ⟨⟨c0, c1, c2, c3, c4, c5, c6, c7⟩, -⟩ := blk8 HB.out.p; obtain ⟨⟨d0, d1, d2, d3, d4, d5, d6, d7⟩, -⟩ := blk8 HB.out.k; obtain ⟨⟨e0, e1, e2, e3, e4, e5, e6, e7⟩, g0, g1, g2, g3, g4, g5, g6, g7⟩ := blk8 HB.out.r; obtain ⟨b2, rfl⟩ := checkR_some HE2; clear hb2)))
   obtain ⟨hLd, hBZ⟩ := find_load HB.out [.int .i8 0, .int .u64 0, .bool false, .slice none 0 0, .int .u64 0, .int .i8 0, .string ⟨#[]⟩, .slice none 0 0] rfl
   refine bodyPost_ret (v := .tuple #[.agg #[.int .i8 0, .int .u64 0, .bool false, .slice none 0 0, .int .u64 0, .int .i8 0, .string ⟨#[]⟩, .slice none 0 0], .bool false]) ?_ rfl ⟨HNO.out _, hBZ⟩
   simp only [World.setCells, Nat.zero_add] at hLd
   simp [results, Tryz.results36, hLd, asAddr, Act.put]
  | none =>
   cases r2 with
   | some q =>
    have HNO := Lib.hid (HQ0.out (fun h => by cases h.2.2))
    go_wp2_with (go_at_call 16; go_must (first
     | (with_reducible refine (HM.out _ HB.out.b).mono ?_; rintro e w1 ⟨HE1, hb1⟩; have HB := Lib.hid (HB.out.keep hb1); obtain ⟨⟨c0, c1, c2, c3, c4, c5, c6, c7⟩, -⟩ := blk8 HB.out.p; obtain ⟨⟨d0, d1, d2, d3, d4, d5, d6, d7⟩, -⟩ := blk8 HB.out.k; obtain ⟨⟨e0, e1, e2, e3, e4, e5, e6, e7⟩, g0, g1, g2, g3, g4, g5, g6, g7⟩ := blk8 HB.out.r; obtain rfl := checkR_none HE1; clear hb1)
     | (with_reducible refine (HKY.out _ HB.out.b).mono ?_; rintro e w2 ⟨HE2, hb2⟩; have HB := Lib.hid (HB.out.keep hb2); obtain ⟨⟨c0, c1, c2, c3, c4, c5, c6, c7⟩, -⟩ := blk8 HB.out.p; obtain ⟨⟨d0, d1, d2, d3, d4, d5, d6, d7⟩, -⟩ := blk8 HB.out.k; obtain ⟨⟨e0, e1, e2, e3, e4, e5, e6, e7⟩, g0, g1, g2, g3, g4, g5, g6, g7⟩ := blk8 HB.out.r; obtain ⟨b2, rfl⟩ := checkR_some HE2; clear hb2)))
    obtain ⟨hLd, hBZ⟩ := find_load HB.out [.int .i8 0, .int .u64 0, .bool false, .slice none 0 0, .int .u64 0, .int .i8 0, .string ⟨#[]⟩, .slice none 0 0] rfl
    refine bodyPost_ret (v := .tuple #[.agg #[.int .i8 0, .int .u64 0, .bool false, .slice none 0 0, .int .u64 0, .int .i8 0, .string ⟨#[]⟩, .slice none 0 0], .bool false]) ?_ rfl ⟨HNO.out _, hBZ⟩
    simp only [World.setCells, Nat.zero_add] at hLd
    simp [results, Tryz.results36, hLd, asAddr, Act.put]
   | none =>
    go_wp2_with (go_at_call 16; go_must (first
     | (with_reducible refine (HM.out _ HB.out.b).mono ?_; rintro e w1 ⟨HE1, hb1⟩; have HB := Lib.hid (HB.out.keep hb1); obtain ⟨⟨c0, c1, c2, c3, c4, c5, c6, c7⟩, -⟩ := blk8 HB.out.p; obtain ⟨⟨d0, d1, d2, d3, d4, d5, d6, d7⟩, -⟩ := blk8 HB.out.k; obtain ⟨⟨e0, e1, e2, e3, e4, e5, e6, e7⟩, g0, g1, g2, g3, g4, g5, g6, g7⟩ := blk8 HB.out.r; obtain rfl := checkR_none HE1; clear hb1)
     | (with_reducible refine (HKY.out _ HB.out.b).mono ?_; rintro e w2 ⟨HE2, hb2⟩; have HB := Lib.hid (HB.out.keep hb2); obtain ⟨⟨c0, c1, c2, c3, c4, c5, c6, c7⟩, -⟩ := blk8 HB.out.p; obtain ⟨⟨d0, d1, d2, d3, d4, d5, d6, d7⟩, -⟩ := blk8 HB.out.k; obtain ⟨⟨e0, e1, e2, e3, e4, e5, e6, e7⟩, g0, g1, g2, g3, g4, g5, g6, g7⟩ := blk8 HB.out.r; obtain rfl := checkR_none HE2; clear hb2)))
    clear HE1 HE2 c0 c1 c2 c3 c4 c5 c6 c7 d0 d1 d2 d3 d4 d5 d6 d7 e0 e1 e2 e3 e4 e5 e6 e7 g0 g1 g2 g3 g4 g5 g6 g7 HM HKY HQ0
    obtain ⟨i0, hi, hzz⟩ := Option.map_eq_some_iff.1 info_value
    simp only [Prod.mk.injEq] at hzz
    obtain ⟨hz0, hz1, hz2⟩ := hzz
    have HII := Lib.hid hi
    have HZ0 := Lib.hid hz0
    have HZ1 := Lib.hid hz1
    have HZ2 := Lib.hid hz2
    have hs3 := (Array.getElem?_eq_some_iff.1 HB.out.r).1
    have HST : Hid (w2.ownsRow (w.heap.size + 3) 31 8 (.slice none 0 0) 0 (((evens l).take 0).flatMap VT.cells) ∧ 0 ≤ (evens l).length ∧ w.heap.size + 3 ≤ w2.heap.size) := Lib.hid ⟨World.ownsRow_nil _ _ _ _, Nat.zero_le _, hs3⟩
    clear hi hz0 hz1 hz2 hs3
    go_loopw [6, 7] (fun v i W => ∃ (p j : Nat), i = .int .i64 (p : Nat) ∧ Hid (p = 2 * j) ∧ p ≤ m + 1 ∧ Hid (Bk3 w W #[.int .i8 8, .int .u64 n, .bool ng, .slice mA ml mc, .int .u64 bs, .int .i8 ex, .string tx, .slice A m cp] #[.int .i8 k2, .int .u64 n2, .bool ng2, .slice mA2 ml2 mc2, .int .u64 bs2, .int .i8 ex2, .string tx2, .slice A2 m2 cp2]) ∧ Hid (W.ownsRow (w.heap.size + 3) 31 8 v j (((evens l).take j).flatMap VT.cells) ∧ j ≤ (evens l).length ∧ w.heap.size + 3 ≤ W.heap.size)) (fun _ i _ => m + 2 - (intOf i).toNat)
    case atStart => exact ⟨0, 0, rfl, Lib.hid rfl, by omega, HB, HST⟩
    case round =>
     obtain ⟨p, j, rfl, HPJ, hp, HBW, HO⟩ := hrel
     clear HB HST
     by_cases hlt : p < m
     ·have hpl : p < l.length := by rw [HL.out]; exact hlt
      obtain ⟨b, off, xk, xn, xg, xmA, xml, xmc, xb, xe, xt, xA, xl, xc, rfl, r0, r1, r2, r3, r4, r5, r6, r7, hC⟩ := (HR.out.below HBW.out.b).kid hpl (C := fun u => ∀ cs, u = .agg cs → cs.toList = (l[p]).cells) (fun cs h => by injection h with h; rw [← h]; rfl)
      have hcells : [.int .i8 xk, .int .u64 xn, .bool xg, .slice xmA xml xmc, .int .u64 xb, .int .i8 xe, .string xt, .slice xA xl xc] = (l[p]'hpl).cells := hC _ rfl
      have hje : j < (evens l).length := by rw [evens_len]; have := HPJ.out; have := HL.out; omega
      have hnew : ((evens l).take (j + 1)).flatMap VT.cells = ((evens l).take j).flatMap VT.cells ++ [.int .i8 xk, .int .u64 xn, .bool xg, .slice xmA xml xmc, .int .u64 xb, .int .i8 xe, .string xt, .slice xA xl xc] := by
       have h2 : 2 * j < l.length := by have := HPJ.out; omega
       have e : (evens l)[j] = l[p]'hpl := by
        rw [evens_get l j hje h2]
        have := HPJ.out
        subst this
        rfl
       rw [List.take_succ_eq_append_getElem hje, List.flatMap_append, e, hcells]
       simp
      have HN := Lib.hid hnew
      have HJE := Lib.hid hje
      obtain ⟨⟨c0, c1, c2, c3, c4, c5, c6, c7⟩, -⟩ := blk8 HBW.out.p
      have hlen := evens_len l
      have hjb : j ≤ 1000000000 := by have := HL.out; omega
      have HJB := Lib.hid hjb
      clear hC hcells hnew hje hpl hlen
      go_wp2_with (at_builtin; go_must (refine wpList_append_own _ rfl _ _ 29 rfl (w.heap.size + 3) 31 i0 (.agg zeroV) 8 104 Tryz.underlying29 HII.out HZ0.out HZ1.out HZ2.out rfl (by decide) _ j (((evens l).take j).flatMap VT.cells) rfl (World.ownsRow.alloc HO.out.1 _) ⟨wr.heap.size, 0, none⟩ 1 1 [.int .i8 xk, .int .u64 xn, .bool xg, .slice xmA xml xmc, .int .u64 xb, .int .i8 xe, .string xt, .slice xA xl xc] rfl rfl ?qc1 ?qc2 ?qc3 ?qc4 ?qc5 ?_))
      case qc1 =>
       intro q u hq
       rw [add_plain, cell_of_row _ _ _ _ _ _ (heap_alloc_new wr _)]
       simpa using hq
      case qc2 =>
       intro u hu
       simp only [List.mem_cons, List.not_mem_nil, or_false] at hu
       rcases hu with rfl | rfl | rfl | rfl | rfl | rfl | rfl | rfl <;> rfl
      case qc3 => unfold maxLen; have := HJB.out; omega
      case qc4 => have := HJB.out; omega
      case qc5 => have := HO.out.2.2; simp; omega
      intro v1 w5 hown hgrow _
      have hold : ∀ q, q < w.heap.size + 3 → w5.heap[q]? = wr.heap[q]? := fun q hq => by
       have h1 : q < wr.heap.size := Nat.lt_of_lt_of_le hq HO.out.2.2
       refine (hgrow.block q (by simp; omega) (fun e => ?_)).trans (Below.heap_alloc _ _ _ h1)
       have := (World.ownsRow.lt HO.out.1 q e.symm).1
       omega
      have hsz5 : wr.heap.size ≤ w5.heap.size := Nat.le_trans (by simp) hgrow.size
      have HBW5 : Hid (Bk3 w w5 #[.int .i8 8, .int .u64 n, .bool ng, .slice mA ml mc, .int .u64 bs, .int .i8 ex, .string tx, .slice (some ⟨b, off, none⟩) m cp] #[.int .i8 k2, .int .u64 n2, .bool ng2, .slice mA2 ml2 mc2, .int .u64 bs2, .int .i8 ex2, .string tx2, .slice A2 m2 cp2]) := Lib.hid ⟨(hold _ (by omega)).trans HBW.out.p, (hold _ (by omega)).trans HBW.out.k, (hold _ (by omega)).trans HBW.out.r,
       ⟨hgrow.os.trans HBW.out.b.os, hgrow.tape.trans HBW.out.b.tape, hgrow.output.trans HBW.out.b.output, Nat.le_trans HBW.out.b.size hsz5, fun q hq => (hold q (by omega)).trans (HBW.out.b.block q hq)⟩⟩
      have HO5 : Hid (w5.ownsRow (w.heap.size + 3) 31 8 v1 (j + 1) (((evens l).take (j + 1)).flatMap VT.cells) ∧ j + 1 ≤ (evens l).length ∧ w.heap.size + 3 ≤ w5.heap.size) := Lib.hid ⟨by rw [HN.out]; exact hown, HJE.out, Nat.le_trans HO.out.2.2 hsz5⟩
      have HPJ5 : Hid (p + 2 = 2 * (j + 1)) := Lib.hid (by have := HPJ.out; omega)
      clear hown hgrow hold c0 c1 c2 c3 c4 c5 c6 c7 r0 r1 r2 r3 r4 r5 r6 r7
      go_wp2
      exact ⟨⟨p + 2, j + 1, by go_num, HPJ5, by omega, HBW5, HO5⟩, by simp [intOf]; omega⟩
     ·have hjl : j = (evens l).length := by
       have h1 := evens_len l
       have h2 := HPJ.out
       have h3 := HO.out.2.1
       have h4 := HL.out
       omega
      have hkr : KRow (w.heap.size + 3) wr u6 (evens l) := krow_of_own (by
       have h := HO.out.1
       rw [hjl, List.take_of_length_le (Nat.le_refl _)] at h
       exact h)
      obtain ⟨gA, gc, hu6, hvr⟩ : ∃ gA gc, u6 = .slice gA j gc ∧ VRow wr gA (evens l) := by
       rcases hkr with ⟨e, h0⟩ | ⟨g, cap, cur, e, _, _, _, _, _, h6⟩
       ·exact ⟨none, 0, by rw [e, hjl, h0]; rfl, .inl h0⟩
       ·exact ⟨some ⟨g, 0, none⟩, cap, by rw [e, hjl], .inr ⟨g, 0, rfl, fun i hi q u hu => by rw [Nat.zero_add]; exact h6 i hi q u hu⟩⟩
      have HS := Lib.hid (HSR.out wr gA j gc (by simp) hjl HBW.out.b hvr)
      subst hu6
      obtain ⟨⟨c0, c1, c2, c3, c4, c5, c6, c7⟩, -⟩ := blk8 HBW.out.p
      obtain ⟨⟨d0, d1, d2, d3, d4, d5, d6, d7⟩, -⟩ := blk8 HBW.out.k
      have h3s := Lib.hid HO.out.2.2
      clear hkr hvr hjl HO HPJ
      go_upto_region 9 with (go_at_call 131; go_must (refine HS.out.mono ?_); go_must (rintro e w6 ⟨⟨i, b, rfl, hF⟩, hb6⟩; have HB6 := Lib.hid (HBW.out.keep hb6); have HFF := Lib.hid hF; have h6s := Lib.hid hb6.size; clear hb6 hF))
      clear c0 c1 c2 c3 c4 c5 c6 c7 d0 d1 d2 d3 d4 d5 d6 d7
      obtain ⟨⟨c0, c1, c2, c3, c4, c5, c6, c7⟩, -⟩ := blk8 HB6.out.p
      obtain ⟨⟨e0, e1, e2, e3, e4, e5, e6, e7⟩, g0, g1, g2, g3, g4, g5, g6, g7⟩ := blk8 HB6.out.r
      cases b with
      | false =>
       have HNO := Lib.hid (HF0.out i HFF.out)
       go_wp2
       obtain ⟨hLd, hBZ⟩ := find_load HB6.out [.int .i8 0, .int .u64 0, .bool false, .slice none 0 0, .int .u64 0, .int .i8 0, .string ⟨#[]⟩, .slice none 0 0] rfl
       refine bodyPost_ret (v := .tuple #[.agg #[.int .i8 0, .int .u64 0, .bool false, .slice none 0 0, .int .u64 0, .int .i8 0, .string ⟨#[]⟩, .slice none 0 0], .bool false]) ?_ rfl ⟨HNO.out _, hBZ⟩
       simp only [World.setCells, Nat.zero_add] at hLd
       simp [results, Tryz.results36, hLd, asAddr, Act.put]
      | true =>
       have hlt2 := HF.out i HFF.out
       obtain ⟨q, hq⟩ : ∃ q, 2 * i + 1 = q := ⟨_, rfl⟩
       have hqi : 2 * (i : Int) + 1 = (q : Nat) := by omega
       rw [hq] at hlt2
       have hql : q < l.length := by rw [HL.out]; exact hlt2
       have HF1i : Hid (∀ W w' T vs, Below w.heap.size w W → w.heap.size + 3 ≤ W.heap.size → Mine W.heap.size w' T → T.c = (l[q]'hql).c → Q (.returned (.tuple #[T.agg, .bool true])) (w'.setCells (w.heap.size + 2) 0 vs)) := Lib.hid (by
        subst hq
        exact HF1.out i hql HFF.out)
       obtain ⟨y, hy⟩ : ∃ y, l[q]'hql = y := ⟨_, rfl⟩
       have hcp := HCP.out q hql
       rw [hy] at hcp HF1i
       obtain ⟨b, off, xk, xn, xg, xmA, xml, xmc, xb, xe, xt, xA, xl, xc, rfl, r0, r1, r2, r3, r4, r5, r6, r7, hC⟩ := (HR.out.below HB6.out.b).kid hql (C := fun u => ∀ W, Below w.heap.size w W → Calls Tryz.prog 32 #[u] W fun e w' => ∃ T : VT, e = .returned T.agg ∧ Hid (Mine W.heap.size w' T ∧ T.c = y.c) ∧ Below W.heap.size W w') (by rw [hy]; exact hcp)
       have HC := Lib.hid hC
       have hqb : q ≤ 1000000000 := by omega
       clear hC hcp hy hql hq HS HSR HCP HF HF0 HF1
       go_wp2_with (go_at_call 32; go_must (refine (HC.out _ HB6.out.b).mono ?_); go_must (rintro e w7 ⟨T, he, HT, hb7⟩; obtain ⟨t0, t1, t2, t3A, t3n, t3c, t4, t5, t6, t7A, t7n, t7c, hTa⟩ : ∃ t0 t1 t2 t3A t3n t3c t4 t5 t6 t7A t7n t7c, T.agg = .agg #[.int .i8 t0, .int .u64 t1, .bool t2, .slice t3A t3n t3c, .int .u64 t4, .int .i8 t5, .string t6, .slice t7A t7n t7c] := ⟨_, _, _, _, _, _, _, _, _, _, _, _, rfl⟩; rw [hTa] at he; subst he; have HTA := Lib.hid hTa; have HB7 := Lib.hid (HB6.out.keep hb7); obtain ⟨⟨z0, z1, z2, z3, z4, z5, z6, z7⟩, y0, y1, y2, y3, y4, y5, y6, y7⟩ := blk8 HB7.out.r; clear hb7 hTa c0 c1 c2 c3 c4 c5 c6 c7 r0 r1 r2 r3 r4 r5 r6 r7 e0 e1 e2 e3 e4 e5 e6 e7 g0 g1 g2 g3 g4 g5 g6 g7))
       obtain ⟨hLd, hBZ⟩ := find_load HB7.out [.int .i8 t0, .int .u64 t1, .bool t2, .slice t3A t3n t3c, .int .u64 t4, .int .i8 t5, .string t6, .slice t7A t7n t7c] rfl
       have hQ := HF1i.out w6 w7 T [.int .i8 t0, .int .u64 t1, .bool t2, .slice t3A t3n t3c, .int .u64 t4, .int .i8 t5, .string t6, .slice t7A t7n t7c] HB6.out.b (Nat.le_trans h3s.out h6s.out) HT.out.1 HT.out.2
       rw [HTA.out] at hQ
       refine bodyPost_ret (v := .tuple #[.agg #[.int .i8 t0, .int .u64 t1, .bool t2, .slice t3A t3n t3c, .int .u64 t4, .int .i8 t5, .string t6, .slice t7A t7n t7c], .bool true]) ?_ rfl ⟨hQ, hBZ⟩
       simp only [World.setCells, Nat.zero_add] at hLd
       simp [results, Tryz.results36, hLd, asAddr, Act.put]
 ·have hkb : (k != 8) = true := by simpa using hk
  have HNO := Lib.hid (HQ0.out (fun h => hk h.1))
  obtain ⟨hLd, hBZ⟩ := find_load HB.out [.int .i8 0, .int .u64 0, .bool false, .slice none 0 0, .int .u64 0, .int .i8 0, .string ⟨#[]⟩, .slice none 0 0] rfl
  have HLD := Lib.hid hLd
  have HBZ := Lib.hid hBZ
  clear hLd hBZ
  go_wp2
  refine bodyPost_ret (v := .tuple #[.agg #[.int .i8 0, .int .u64 0, .bool false, .slice none 0 0, .int .u64 0, .int .i8 0, .string ⟨#[]⟩, .slice none 0 0], .bool false]) ?_ rfl ⟨HNO.out _, HBZ.out⟩
  have hLd := HLD.out
  simp only [World.setCells, Nat.zero_add] at hLd
  simp [results, Tryz.results36, hLd, asAddr, Act.put]
end Go.Proofs.YtcpkjmpbpmeclaaGreatDoor
namespace Go.Proofs.YtcpkjmpbpmeclaaGreatDoor
open Go.RowKit
set_option maxRecDepth 100000
set_option linter.unusedVariables false
set_option linter.unusedSimpArgs false
set_option linter.unnecessarySimpa false

theorem Mine.put {base : Nat} {W : World} {T : VT} (h : Mine base W T) (g o : Nat) (hg : g < base) (vs : List Value) : Mine base (W.setCells g o vs) T :=
 h.keepB (Nat.le_refl _) (below_setCells vs g o W (Below.refl g W) (Nat.le_refl _)).size fun b hb => World.heap_setCells_other _ _ _ _ (h.rg b hb).2 (by have := h.rg b hb; omega)
theorem find_any (a : Nat → Addr) (m key : VT) (w : World) (hz : m.sz ≤ 1000000000) (hz2 : key.sz ≤ 1000000000) (hI : In w m) (hI2 : In w key) (hT : Tabs a w) :
  Calls Tryz.prog 36 #[m.agg, key.agg] w fun e w' => FindR m key w e w' ∧ Below w.heap.size w w' := by
 have hln := VT.szL_len m.l
 have hs := VT.sz_l m
 have pm := hI.parts
 by_cases hG : FindP m key
 ·have hris := find_rising hG.1 hG.2.1
  have hup : ∀ i (h : i + 1 < (evens m.l).length), cmpV ((evens m.l)[i]'(by omega)) ((evens m.l)[i + 1]) < 0 := fun i h => by
   have h1 := evens_bound m.l (i + 1) h
   rw [evens_get m.l i (by omega) (by omega), evens_get m.l (i + 1) h h1]
   have h2 := hris.2 (2 * i) (by omega) (by omega)
   exact h2
  refine findW m.k m.n m.bits m.ext key.k key.n key.bits key.ext m.neg key.neg m.text key.text m.mA m.A key.mA key.A m.mag.length m.mcap m.l.length m.cap key.mag.length key.mcap key.l.length key.cap m.l a (checkV m) (checkV key)
   (fun i b => FoundAt (evens m.l) key i b) (FindR m key w) w rfl (by omega) pm.row
   (Lib.hid fun W hW => check_any a m W hz (hI.below hW) (hT.below hW)) (Lib.hid fun W hW => check_any a key W hz2 (hI2.below hW) (hT.below hW))
   (Lib.hid fun W A n c hd hn hW hr => ?_) (Lib.hid fun i hi => ?_) (Lib.hid fun i hi w' => ?_) (Lib.hid fun i hi W hW => ?_) (Lib.hid fun i h hf W w' T vs hW h3 hM hc => ?_) (Lib.hid fun hno w' => ?_)
  ·subst hn
   have hel := evens_len m.l
   refine search_of A _ c (evens m.l) key key.k key.n key.bits key.ext key.neg key.text key.mA key.A key.mag.length key.mcap key.l.length key.cap W rfl (by omega) hr fun i h1 W2 hW2 => ?_
   have hb := evens_bound m.l i h1
   have hm : (evens m.l)[i] ∈ m.l := by rw [evens_get m.l i h1 hb]; exact List.getElem_mem hb
   have := VT.kid_sz hm
   exact cmpV_any _ _ _ W2 (Nat.le_refl _) (by omega) hz2 (hT.s.below (trans_b hW hW2)) ((hI.kid hm).below (trans_b hW hW2)) (hI2.below (trans_b hW hW2))
  ·obtain ⟨k, hk, _⟩ := (found_iff hup hi).1 rfl
   have h1 := decP_iff.1 (hi.b.symm.trans rfl)
   obtain ⟨h1, _⟩ := h1
   rw [evens_len] at h1
   have := hris.1
   omega
  ·refine .inr ⟨fun _ j hj hz0 => ?_, rfl⟩
   have hje : j < (evens m.l).length := by rw [evens_len]; omega
   have := (found_iff hup hi).2 ⟨j, hje, by rw [evens_get m.l j hje hj]; exact hz0⟩
   cases this
  ·have hm : m.l[i] ∈ m.l := List.getElem_mem hi
   have := VT.kid_sz hm
   exact copyV_any _ W (by omega) ((hI.kid hm).below hW)
  ·obtain ⟨h1, h2⟩ := decP_iff.1 (hf.b.symm.trans rfl)
   rw [evens_get m.l i h1 (by omega)] at h2
   exact .inl ⟨i, h, T, hG, h2, rfl, (hM.put _ _ (by omega) vs).low hW.size, hc⟩
  ·exact absurd hG hno
 ·have hdead : ∀ {P : Prop}, (m.k = 8 ∧ checkV m = none ∧ checkV key = none) → P := fun h => absurd h hG
  refine findW m.k m.n m.bits m.ext key.k key.n key.bits key.ext m.neg key.neg m.text key.text m.mA m.A key.mA key.A m.mag.length m.mcap m.l.length m.cap key.mag.length key.mcap key.l.length key.cap m.l a (checkV m) (checkV key)
   (fun i b => FoundAt (evens m.l) key i b ∧ FindP m key) (FindR m key w) w rfl (by omega) pm.row
   (Lib.hid fun W hW => check_any a m W hz (hI.below hW) (hT.below hW)) (Lib.hid fun W hW => check_any a key W hz2 (hI2.below hW) (hT.below hW))
   (Lib.hid fun W A n c hd hn hW hr => absurd hd hG) (Lib.hid fun i hi => absurd hi.2 hG) (Lib.hid fun i hi w' => absurd hi.2 hG) (Lib.hid fun i hi W hW => ?_) (Lib.hid fun i h hf => absurd hf.2 hG) (Lib.hid fun hno w' => .inr ⟨fun h => absurd h hG, rfl⟩)
  ·have hm : m.l[i] ∈ m.l := List.getElem_mem hi
   have := VT.kid_sz hm
   exact copyV_any _ W (by omega) ((hI.kid hm).below hW)
end Go.Proofs.YtcpkjmpbpmeclaaGreatDoor
namespace Go.Proofs.YtcpkjmpbpmeclaaGreatDoor
open Go.RowKit
set_option maxRecDepth 100000
set_option linter.unusedVariables false
set_option linter.unusedSimpArgs false
set_option linter.unnecessarySimpa false

def lenS : Value → Nat | .slice _ n _ => n | _ => 0
set_option maxHeartbeats 1000000 in
theorem trim_any (g off c m : Nat) (xs : List Int) (w : World) (hm : xs.length = m) (hn : m ≤ 4000000000) (hc : m ≤ c) (hx : RK w .i64 (some ⟨g, off, none⟩) xs) :
  Calls Tryz.prog 239 #[.slice (some ⟨g, off, none⟩) m c] w fun e w' => ∃ n, e = .returned (.slice (some ⟨g, off, none⟩) n c) ∧ CutAt xs n ∧ w = w' := by
 have HR : Hid (∀ j, j < m → w.cell? ⟨g, off + j, none⟩ = some (.int .i64 (xs.getD j 0))) := Lib.hid fun j hj => by
  rcases hx with h | ⟨b, o, e, h⟩
  ·subst h; simp at hm; omega
  ·cases e; exact h j (by omega)
 have HC := Lib.hid hc
 have HM := Lib.hid hm
 clear hx hc hm
 go_enter Tryz.func239, Tryz.ntmps239
 go_wp2
 go_loopw [0] (fun s W => ∃ n : Nat, s = .slice (some ⟨g, off, none⟩) n c ∧ n ≤ m ∧ (∀ j, n ≤ j → j < xs.length → xs.getD j 0 = 0) ∧ W = w) (fun s _ => lenS s)
 case atStart => exact ⟨m, rfl, Nat.le_refl _, fun j h1 h2 => by have := HM.out; omega, rfl⟩
 case round =>
  obtain ⟨n, rfl, hnm, hz, rfl⟩ := hrel
  have HZ := Lib.hid hz
  clear hz
  have hC := HC.out
  cases n with
  | zero =>
   go_wp2
   go_ret
   exact ⟨0, rfl, ⟨Nat.zero_le _, HZ.out, .inl rfl⟩, rfl⟩
  | succ n =>
   have hc1 := HR.out n (by omega)
   obtain ⟨y, hy⟩ : ∃ y, xs.getD n 0 = y := ⟨_, rfl⟩
   rw [hy] at hc1
   have HY := Lib.hid hy
   clear hy
   have e1 : ((n + 1 : Nat) : Int) - 1 = n := by omega
   by_cases hy0 : y = 0
   ·subst hy0
    have HZ' : Hid (∀ j, n ≤ j → j < xs.length → xs.getD j 0 = 0) := Lib.hid fun j h1 h2 => by
     by_cases h : j = n
     ·rw [h]; exact HY.out
     ·exact HZ.out j (by omega) h2
    go_wp2
    exact ⟨⟨n, by go_num, by omega, HZ'.out, trivial⟩, by simp [lenS]⟩
   ·have hb0 : (y == 0) = false := by simpa using hy0
    have HY0 := Lib.hid hy0
    clear hy0
    go_wp2
    go_ret
    exact ⟨n + 1, rfl, ⟨by rw [HM.out]; omega, HZ.out, .inr (by rw [Nat.add_sub_cancel, HY.out]; exact HY0.out)⟩, rfl⟩
/-- While bytes are put behind one another. -/
structure BytI (w W : World) (g N : Nat) (L : List Int) : Prop where
 b : Below w.heap.size w W
 row : ERowi W g 0 L
 blk : ∃ cur, W.heap[g]? = some (.cells cur 3 (0, 0)) ∧ cur.size = N
theorem BytI.below {w W W' : World} {g N : Nat} {L : List Int} (h : BytI w W g N L) (hb : Below W.heap.size W W') : BytI w W' g N L := by
 obtain ⟨cur, h1, h2⟩ := h.blk
 have hl := (Array.getElem?_eq_some_iff.1 h1).1
 exact ⟨trans_b h.b hb, h.row.keep (hb.block g hl), ⟨cur, (hb.block g hl).trans h1, h2⟩⟩
theorem BytI.put {w W : World} {g N : Nat} {L : List Int} (h : BytI w W g N L) (hg : w.heap.size ≤ g) (x : Int) (nd : Nat) (hn : L.length = nd) (hfit : nd < N) : BytI w (W.setCells g nd (enci x)) g N (L ++ [x]) := by
 obtain ⟨cur, h1, h2⟩ := h.blk
 obtain ⟨cur', h3, h4⟩ := blk_setCells (enci x) nd cur W h1
 have hp := h.row.put (M := [x]) h1 (by simp; omega)
 have e : 0 + L.length * 1 = nd := by omega
 have e2 : [x].flatMap enci = enci x := by simp
 rw [e, e2] at hp
 exact ⟨below_setCells _ _ _ _ h.b hg, hp, ⟨cur', h3, by omega⟩⟩
theorem ERowi.rk {W : World} {g : Nat} {L : List Int} (h : ERowi W g 0 L) : RK W .i64 (some ⟨g, 0, none⟩) L := .inr ⟨g, 0, rfl, fun j hj => by
 have := h j hj 0 _ rfl
 rw [List.getD_eq_getElem?_getD, List.getElem?_eq_getElem hj]
 simpa using this⟩
theorem info_int3 : (Tryz.prog.info? 3).map (fun i => (i.zero, i.size, i.bytes)) = some (some (.int .i64 0), 1, 8) := by kernel_rfl
theorem make_ints (W : World) (l N : Nat) (hl : l ≤ N) (hN : N ≤ 1099511627776) : ∃ cs : Array Value, cs.size = N ∧ (Instr.makeSlice 93 (.int .i64 (l : Nat)) (.int .i64 (N : Nat))).run Tryz.prog W = .ok (.slice (some ⟨W.heap.size, 0, none⟩) l N) (W.alloc (.cells cs 3)) := by
 obtain ⟨i0, hi, hzz⟩ := Option.map_eq_some_iff.1 info_int3
 simp only [Prod.mk.injEq] at hzz
 obtain ⟨hz0, hz1, hz2⟩ := hzz
 refine ⟨madeCells (Value.int .i64 0).cells (N * 1), ?_, ?_⟩
 ·rw [size_madeCells]; omega
 ·rw [run_make (P := Tryz.prog) W 93 3 i0 (.int .i64 0) Tryz.underlying93 hi hz0 .i64 .i64 _ _ (by omega) (by omega) (by rw [hz2]; omega) (by omega), hz1]
  rfl
theorem take_bytes (xs : List Int) (i : Nat) (hi : i < xs.length) : bytesL (xs.take (i + 1)) = bytesL (xs.take i) ++ byk 4 (xs.getD i 0) := by
 rw [take_more xs i hi]
 unfold bytesL
 rw [List.flatMap_append]
 simp
set_option maxHeartbeats 4000000 in
theorem bytes_any (A : Option Addr) (c m : Nat) (xs : List Int) (w : World) (hm : xs.length = m) (hx : NatIn w A c xs) :
  Calls Tryz.prog 209 #[.slice A m c] w fun e w' => ∃ g n N ys, e = .returned (.slice (some ⟨g, 0, none⟩) n N) ∧ n ≤ N ∧ n ≤ 4 * m ∧ Hid (w.heap.size ≤ g ∧ ys.length = n ∧ Bys ys ∧ CutAt ys n ∧ magY ys = magV xs ∧ RK w' .i64 (some ⟨g, 0, none⟩) ys) ∧ Below w.heap.size w w' := by
 have hm1 : m ≤ 1000000000 := by have := hx.len; omega
 have HX := Lib.hid hx
 have HM := Lib.hid hm
 obtain ⟨N, hN⟩ : ∃ N, 4 * m = N := ⟨_, rfl⟩
 have hN' : 4 * (m : Int) = (N : Int) := by omega
 obtain ⟨cs, hcs, hmk⟩ := make_ints w 0 N (Nat.zero_le _) (by omega)
 have hmk' : (Instr.makeSlice 93 (.int .i64 0) (.int .i64 (N : Nat))).run Tryz.prog w = .ok (.slice (some ⟨w.heap.size, 0, none⟩) 0 N) (w.alloc (.cells cs 3)) := hmk
 have HN := Lib.hid hN
 have HS0 : Hid (BytI w (w.alloc (.cells cs 3)) w.heap.size N []) := Lib.hid ⟨(Below.refl _ _).alloc (Nat.le_refl _) _, fun i hi => by simp at hi, cs, heap_alloc_new w _, hcs⟩
 have hNb : N ≤ 4000000000 := by omega
 clear hx hm hN hmk hcs
 go_enter Tryz.func209, Tryz.ntmps209
 go_upto_region 2 with fail
 generalize w.alloc (.cells cs 3) = W0 at *
 go_wp2
 go_loopw [3, 4, 5, 6] (fun t3 t4 t5 t6 W => ∃ (i nd : Nat) (L : List Int), t4 = .int .i64 i ∧ i ≤ m ∧ t3 = .slice (some ⟨w.heap.size, 0, none⟩) nd N ∧ Hid (nd = 4 * i ∧ L.length = nd ∧ L = bytesL (xs.take i) ∧ BytI w W w.heap.size N L)) (fun _ t4 _ _ _ => m - (intOf t4).toNat)
 case atStart => exact ⟨0, 0, [], rfl, Nat.zero_le _, rfl, Lib.hid ⟨rfl, rfl, rfl, HS0.out⟩⟩
 case round =>
  obtain ⟨i, nd, L, rfl, hi, rfl, HH⟩ := hrel
  have HXW := Lib.hid (HX.out.row.below HH.out.2.2.2.b)
  by_cases hlt : i < m
  ·obtain ⟨b1, o1, rfl, hx1⟩ := HXW.out.cell i (by have := HM.out; omega)
   obtain ⟨x, hx⟩ : ∃ x, xs.getD i 0 = x := ⟨_, rfl⟩
   rw [hx] at hx1
   have HXX := Lib.hid hx
   have hxb : 0 ≤ x ∧ x ≤ 4294967295 := by rw [← hx]; exact HX.out.limbs.at i
   obtain ⟨hx0, hx2⟩ := hxb
   have HT := Lib.hid (take_bytes xs i (by have := HM.out; omega))
   rw [hx] at HT
   have hnd0 := Lib.hid (HH.out.1)
   clear hx
   go_upto_region 7 with fail
   have HI0 := Lib.hid HH.out.2.2.2
   have HL0 := Lib.hid (And.intro HH.out.2.1 HH.out.2.2.1)
   clear HH HXW hx1
   go_loopw [3, 5, 6] (fun t3 t5 t6 V => ∃ (j nd2 : Nat) (L2 : List Int) (y : Int), t6 = .int .i64 j ∧ j ≤ 4 ∧ t5 = .int .i64 y ∧ 0 ≤ y ∧ y ≤ 4294967295 ∧ t3 = .slice (some ⟨w.heap.size, 0, none⟩) nd2 N ∧ Hid (nd2 = 4 * i + j ∧ L2.length = nd2 ∧ L2 ++ byk (4 - j) y = bytesL (xs.take (i + 1)) ∧ BytI w V w.heap.size N L2)) (fun _ _ t6 _ => 4 - (intOf t6).toNat)
   case atStart => exact ⟨0, nd, L, x, rfl, by omega, rfl, hx0, hx2, rfl, Lib.hid ⟨by have := hnd0.out; omega, HL0.out.1, by rw [HT.out, HL0.out.2], HI0.out⟩⟩
   case round =>
    obtain ⟨j, nd2, L2, y, rfl, hj, rfl, hy0, hy2, rfl, H2⟩ := hrel
    by_cases hj4 : j < 4
    ·obtain ⟨r, hr⟩ : ∃ r, y % 256 = r := ⟨_, rfl⟩
     obtain ⟨q, hq⟩ : ∃ q, y / 256 = q := ⟨_, rfl⟩
     have hr1 : y.tmod 256 = r := by rw [Int.tmod_eq_emod_of_nonneg (by omega)]; exact hr
     have hq1 : y.tdiv 256 = q := by rw [Int.tdiv_eq_ediv_of_nonneg (by omega)]; exact hq
     have hrb : 0 ≤ r ∧ r ≤ 255 := by omega
     obtain ⟨hr0, hr2⟩ := hrb
     have hqb : 0 ≤ q ∧ q ≤ 4294967295 := by omega
     obtain ⟨hq0, hq2⟩ := hqb
     have HRQ := Lib.hid (And.intro hr hq)
     clear hr hq
     have hnb : nd2 < N := by have := HN.out; have := H2.out.1; omega
     go_upto_region 10 with (at_builtin; go_must (obtain ⟨cur, hcur, hcs⟩ := (H2.out.2.2.2.below ((Below.refl _ _).alloc (Nat.le_refl _) (.cells #[.int .i64 r] 3))).blk; refine appi rfl _ _ rfl w.heap.size 0 nd2 N rfl _ 1 1 [r] rfl rfl (fun h => by cases h) (newi _ rfl) cur 3 hcur (by omega) (by omega) ?_))
     have HP := Lib.hid ((H2.out.2.2.2.below ((Below.refl _ _).alloc (Nat.le_refl _) (.cells #[.int .i64 r] 3))).put (Nat.le_refl _) r nd2 H2.out.2.1 hnb)
     clear hcur hcs
     generalize ((wr.alloc (.cells #[.int .i64 r] 3)).setCells w.heap.size nd2 (enci r)) = V2 at *
     go_wp2
     refine ⟨⟨j + 1, nd2 + 1, L2 ++ [r], q, by go_num, by omega, rfl, hq0, hq2, rfl, Lib.hid ⟨by have := H2.out.1; omega, by simp [H2.out.2.1], ?_, HP.out⟩⟩, by simp [intOf]; omega⟩
     rw [← H2.out.2.2.1, List.append_assoc, show 4 - j = (4 - (j + 1)) + 1 by omega, byk, HRQ.out.1, HRQ.out.2]
     rfl
    ·obtain rfl : j = 4 := by omega
     go_wp2
     exact ⟨⟨i + 1, nd2, L2, by go_num, by omega, rfl, Lib.hid ⟨by have := H2.out.1; omega, H2.out.2.1, by rw [← H2.out.2.2.1]; simp [byk], H2.out.2.2.2⟩⟩, by simp [intOf]; omega⟩
  ·obtain rfl : i = m := by omega
   have HB : Hid (L = bytesL xs) := Lib.hid (by rw [HH.out.2.2.1, List.take_of_length_le (by have := HM.out; omega)])
   have HI := Lib.hid HH.out.2.2.2
   have hnd : nd ≤ N := by have := HN.out; have := HH.out.1; omega
   have HND := Lib.hid (And.intro HH.out.1 HH.out.2.1)
   clear HH HXW
   go_wp2_with (go_at_call 239; refine (trim_any w.heap.size 0 N nd L _ HND.out.2 (by omega) hnd HI.out.row.rk).mono ?_; rintro e w1 ⟨n, rfl, hcut, rfl⟩)
   go_ret
   have hle := hcut.le
   have hl : (L.take n).length = n := by rw [List.length_take]; omega
   refine ⟨w.heap.size, n, N, L.take n, rfl, by have := HND.out.2; omega, by have := HND.out; omega, Lib.hid ⟨Nat.le_refl _, hl, ?_, ⟨by omega, fun j h1 h2 => by omega, ?_⟩, ?_, HI.out.row.rk.take n⟩, HI.out.b⟩
   ·rw [HB.out]; exact (bytesL_bys xs).take n
   ·rcases hcut.top with h | h
    ·exact .inl h
    ·by_cases h0 : n = 0
     ·exact .inl h0
     ·exact .inr (by rw [getD_take (by omega)]; exact h)
   ·rw [hcut.magY, HB.out, bytesL_mag xs HX.out.limbs]
end Go.Proofs.YtcpkjmpbpmeclaaGreatDoor
namespace Go.Proofs.YtcpkjmpbpmeclaaGreatDoor
open Go.RowKit
set_option linter.unusedVariables false
set_option linter.unusedSimpArgs false

/-- The limb at a place, of the bytes from i on. -/
def limAt (ys : List Int) (i j : Nat) : Int := magY ((ys.take (4 * j + 4)).drop (max i (4 * j)))
def limA (ys : List Int) (K i : Nat) : List Int := (List.range K).map (limAt ys i)
theorem limA_len (ys : List Int) (K i : Nat) : (limA ys K i).length = K := by simp [limA]
theorem limA_get (ys : List Int) (K i j : Nat) (hj : j < K) : (limA ys K i).getD j 0 = limAt ys i j := by
 unfold limA
 rw [List.getD_eq_getElem?_getD, List.getElem?_map, List.getElem?_range hj]
 rfl
theorem limAt_here (ys : List Int) (i : Nat) (hi : i < ys.length) : limAt ys i (i / 4) = ys.getD i 0 + 256 * limAt ys (i + 1) (i / 4) := by
 unfold limAt
 rw [show max i (4 * (i / 4)) = i by omega, show max (i + 1) (4 * (i / 4)) = i + 1 by omega]
 have hl : i < (ys.take (4 * (i / 4) + 4)).length := by rw [List.length_take]; omega
 rw [List.drop_eq_getElem_cons hl]
 simp only [magY]
 rw [List.getD_eq_getElem?_getD, List.getElem?_eq_getElem hi, List.getElem_take]
 rfl
theorem limAt_other (ys : List Int) (i j : Nat) (h : j ≠ i / 4) : limAt ys i j = limAt ys (i + 1) j := by
 unfold limAt
 rcases Nat.lt_or_gt_of_ne h with h | h
 ·rw [List.drop_of_length_le (by rw [List.length_take]; omega), List.drop_of_length_le (by rw [List.length_take]; omega)]
 ·rw [show max i (4 * j) = max (i + 1) (4 * j) by omega]
theorem limAt_end (ys : List Int) (j : Nat) : limAt ys ys.length j = 0 := by
 unfold limAt
 rw [List.drop_of_length_le (by rw [List.length_take]; omega)]
 rfl
theorem limAt_bound (ys : List Int) (hb : Bys ys) (i j : Nat) : 0 ≤ limAt ys i j ∧ limAt ys i j ≤ 4294967295 := by
 unfold limAt
 obtain ⟨h1, h2⟩ := magY_bound ((ys.take (4 * j + 4)).drop (max i (4 * j))) fun x hx => hb x (List.mem_of_mem_take (List.mem_of_mem_drop hx))
 have h3 : powY ((ys.take (4 * j + 4)).drop (max i (4 * j))).length ≤ powY 4 := powY_le (by rw [List.length_drop, List.length_take]; omega)
 have e : powY 4 = 4294967296 := rfl
 omega
theorem limA_start (ys : List Int) (K : Nat) : limA ys K ys.length = List.replicate K 0 := by
 apply List.ext_getElem
 ·simp [limA]
 ·intro j h1 h2
  simp [limA, limAt_end]
theorem limA_step (ys : List Int) (K i : Nat) (hi : i < ys.length) (hK : ys.length ≤ 4 * K) : (limA ys K (i + 1)).set (i / 4) (limAt ys (i + 1) (i / 4) * 256 + ys.getD i 0) = limA ys K i := by
 apply List.ext_getElem
 ·simp [limA]
 ·intro j h1 h2
  rw [List.getElem_set]
  by_cases e : i / 4 = j
  ·subst e
   rw [if_pos rfl]
   simp only [limA, List.getElem_map, List.getElem_range]
   rw [limAt_here ys i hi]
   omega
  ·rw [if_neg e]
   simp only [limA, List.getElem_map, List.getElem_range]
   exact (limAt_other ys i j (fun h => e h.symm)).symm
def limB : Nat → List Int → List Int
 | 0, _ => []
 | K + 1, ys => magY (ys.take 4) :: limB K (ys.drop 4)
theorem limB_len : ∀ K ys, (limB K ys).length = K
 | 0, _ => rfl
 | K + 1, ys => by simp [limB, limB_len K]
theorem limB_get : ∀ (K : Nat) (ys : List Int) (j : Nat), j < K → (limB K ys).getD j 0 = magY ((ys.drop (4 * j)).take 4)
 | K + 1, ys, 0, _ => by simp [limB]
 | K + 1, ys, j + 1, h => by
  simp only [limB, List.getD_cons_succ]
  rw [limB_get K _ j (by omega), List.drop_drop, show 4 + 4 * j = 4 * (j + 1) by omega]
theorem limA_all (ys : List Int) (K : Nat) : limA ys K 0 = limB K ys := by
 apply List.ext_getElem
 ·rw [limB_len]; simp [limA]
 ·intro j h1 h2
  have hj : j < K := by rw [limB_len] at h2; exact h2
  have := limB_get K ys j hj
  rw [List.getD_eq_getElem?_getD, List.getElem?_eq_getElem h2, Option.getD_some] at this
  rw [this]
  simp only [limA, List.getElem_map, List.getElem_range, limAt]
  rw [show max 0 (4 * j) = 4 * j by omega, List.drop_take, show 4 * j + 4 - 4 * j = 4 by omega]
theorem limB_mag : ∀ (K : Nat) (ys : List Int), ys.length ≤ 4 * K → magV (limB K ys) = magY ys
 | 0, ys, h => by
  obtain rfl : ys = [] := List.eq_nil_of_length_eq_zero (by omega)
  rfl
 | K + 1, ys, h => by
  simp only [limB, magV]
  rw [limB_mag K _ (by rw [List.length_drop]; omega)]
  have e := magY_app (ys.take 4) (ys.drop 4)
  rw [List.take_append_drop] at e
  rw [e]
  by_cases h4 : 4 ≤ ys.length
  ·rw [List.length_take, Nat.min_eq_left h4]
   rfl
  ·rw [List.drop_of_length_le (by omega)]
   simp [magY]
theorem limB_limbs (K : Nat) (ys : List Int) (hb : Bys ys) : Limbs (limB K ys) := fun x hx => by
 rw [← limA_all] at hx
 obtain ⟨j, _, rfl⟩ := List.mem_map.1 hx
 exact limAt_bound ys hb 0 j
/-- No nought stands at the end, if none stood at the bytes' end. -/
theorem limB_top (ys : List Int) (n : Nat) (hl : ys.length = n) (hc : CutAt ys n) (hb : Bys ys) : CutAt (limB ((n + 3) / 4) ys) ((n + 3) / 4) := by
 refine ⟨by rw [limB_len]; exact Nat.le_refl _, fun j h1 h2 => by rw [limB_len] at h2; omega, ?_⟩
 rcases hc.top with h | h
 ·subst h; exact .inl rfl
 ·by_cases h0 : n = 0
  ·subst h0; exact .inl rfl
  ·right
   rw [limB_get _ _ _ (by omega)]
   intro hz
   have hd : ys.length ≤ 4 * ((n + 3) / 4 - 1) + 4 := by omega
   have hn : 4 * ((n + 3) / 4 - 1) < ys.length := by omega
   rw [List.take_of_length_le (by rw [List.length_drop]; omega)] at hz
   have := magY_low (xs := ys.drop (4 * ((n + 3) / 4 - 1))) (fun x hx => hb x (List.mem_of_mem_drop hx)) (ys.length - 4 * ((n + 3) / 4 - 1) - 1) (by rw [List.length_drop]; omega) (by
    rw [List.getD_eq_getElem?_getD, List.getElem?_drop, show 4 * ((n + 3) / 4 - 1) + (ys.length - 4 * ((n + 3) / 4 - 1) - 1) = n - 1 by omega, ← List.getD_eq_getElem?_getD]
    exact h)
   have := powY_pos (ys.length - 4 * ((n + 3) / 4 - 1) - 1)
   omega
end Go.Proofs.YtcpkjmpbpmeclaaGreatDoor
namespace Go.Proofs.YtcpkjmpbpmeclaaGreatDoor
open Go.RowKit
set_option maxRecDepth 100000
set_option linter.unusedVariables false
set_option linter.unusedSimpArgs false
set_option linter.unnecessarySimpa false

theorem numsK_rep (n : Nat) : (numsK .u32 (List.replicate n 0)).toArray = (numsK .u32 (List.replicate n 0)).toArray := rfl
theorem CutAt.uniq {xs : List Int} {n m : Nat} (h : CutAt xs n) (k : CutAt xs m) : n = m := by
 have one : ∀ {n m : Nat}, CutAt xs n → CutAt xs m → ¬ n < m := fun {n m} h k hlt => by
  rcases k.top with e | e
  ·omega
  ·exact e (h.zero (m - 1) (by omega) (by have := k.le; omega))
 have := one h k
 have := one k h
 omega
theorem cut_ex (xs : List Int) : ∃ n, CutAt xs n := by
 have key : ∀ k, k ≤ xs.length → (∀ j, k ≤ j → j < xs.length → xs.getD j 0 = 0) → ∃ n, CutAt xs n := by
  intro k
  induction k with
  | zero => exact fun _ h => ⟨0, Nat.zero_le _, h, .inl rfl⟩
  | succ k ih =>
   intro hk h
   by_cases h0 : xs.getD k 0 = 0
   ·exact ih (by omega) fun j h1 h2 => by
     by_cases e : j = k
     ·rw [e]; exact h0
     ·exact h j (by omega) h2
   ·exact ⟨k + 1, hk, h, .inr (by simpa using h0)⟩
 exact key xs.length (Nat.le_refl _) fun j h1 h2 => by omega
def LimbsP (w : World) (n : Nat) (ys : List Int) (e : Ending) (w' : World) : Prop := ∃ h k zs, e = .returned (.slice (some ⟨h, 0, none⟩) k k) ∧ Hid (w.heap.size ≤ h ∧ k = (n + 3) / 4 ∧ zs.length = k ∧ Limbs zs ∧ CutAt zs k ∧ magV zs = magY ys ∧ w'.heap[h]? = some (.cells (numsK .u32 zs).toArray 92 (0, 0))) ∧ Below w.heap.size w w'
set_option maxHeartbeats 4000000 in
theorem limbs_walk (g q n N : Nat) (ys : List Int) (w : World) (hl : ys.length = n) (hn : n ≤ 4000000000) (hb : Bys ys) (hc : CutAt ys n) (hr : RK w .i64 (some ⟨g, 0, none⟩) ys)
  (HT : Hid (Calls Tryz.prog 239 #[.slice (some ⟨g, 0, none⟩) q N] w fun e w' => e = .returned (.slice (some ⟨g, 0, none⟩) n N) ∧ w = w')) :
  Calls Tryz.prog 238 #[.slice (some ⟨g, 0, none⟩) q N] w (LimbsP w n ys) := by
 unfold LimbsP
 have HR : Hid (∀ j, j < n → w.cell? ⟨g, j, none⟩ = some (.int .i64 (ys.getD j 0))) := Lib.hid fun j hj => by
  rcases hr with h | ⟨b, o, e, h⟩
  ·subst h; simp at hl; omega
  ·cases e
   have := h j (by omega)
   rwa [Nat.zero_add] at this
 obtain ⟨K, hK⟩ : ∃ K, (n + 3) / 4 = K := ⟨_, rfl⟩
 have hK1 : ((n : Int) + 3).tdiv 4 = (K : Nat) := by rw [Int.tdiv_eq_ediv_of_nonneg (by omega)]; omega
 have hKb : K ≤ 1099511627776 := by omega
 have hmk := make_nat w K hKb
 have HL := Lib.hid hl
 have HB := Lib.hid hb
 have HC := Lib.hid hc
 have HK := Lib.hid hK
 have HI0 : Hid (ShlI w (w.alloc (.cells (numsK .u32 (List.replicate K 0)).toArray 92)) w.heap.size K (limA ys K n)) := Lib.hid (by
  have e : limA ys K n = List.replicate K 0 := by rw [← hl]; exact limA_start ys K
  rw [e]
  exact ⟨heap_alloc_new w _, by simp, fun z hz => by rw [List.eq_of_mem_replicate hz]; omega, (Below.refl _ _).alloc (Nat.le_refl _) _, Nat.le_refl _⟩)
 clear hl hb hc hr hK
 go_enter Tryz.func238, Tryz.ntmps238
 go_upto_region 3 with (go_at_call 239; refine HT.out.mono ?_; rintro e w1 ⟨rfl, rfl⟩)
 generalize (w.alloc (.cells (numsK .u32 (List.replicate K 0)).toArray 92)) = W0 at *
 go_wp2
 go_loopw [4] (fun t4 W => ∃ (i : Nat) (z : Int), t4 = .int .i64 z ∧ z + 1 = (i : Nat) ∧ i ≤ n ∧ Hid (ShlI w W w.heap.size K (limA ys K i))) (fun t4 _ => (intOf t4 + 1).toNat)
 case atStart => exact ⟨n, _, rfl, by omega, Nat.le_refl _, HI0⟩
 case round =>
  obtain ⟨i, z, rfl, hz, hi, HH⟩ := hrel
  clear HI0
  cases i with
  | zero =>
   obtain rfl : z = -1 := by omega
   go_wp2
   go_ret
   refine ⟨w.heap.size, K, limB K ys, rfl, Lib.hid ⟨Nat.le_refl _, HK.out.symm, limB_len _ _, limB_limbs _ _ HB.out, ?_, limB_mag _ _ (by have := HL.out; have := HK.out; omega), ?_⟩, HH.out.b⟩
   ·have := limB_top ys n HL.out HC.out HB.out
    rwa [HK.out] at this
   ·rw [← limA_all]; exact HH.out.h
  | succ i =>
   obtain rfl : z = (i : Nat) := by omega
   obtain ⟨q, hq⟩ : ∃ q, i / 4 = q := ⟨_, rfl⟩
   have hq1 : (i : Int).tdiv 4 = (q : Nat) := by rw [Int.tdiv_eq_ediv_of_nonneg (by omega)]; omega
   have hqK : q < K := by have := HK.out; omega
   have HQ := Lib.hid hq
   obtain ⟨y, hy⟩ : ∃ y, ys.getD i 0 = y := ⟨_, rfl⟩
   have hc1 := keep1 HH.out.b (HR.out i (by omega))
   rw [hy] at hc1
   have hyb : 0 ≤ y ∧ y ≤ 255 := by rw [← hy]; exact HB.out.at i
   obtain ⟨hy0, hy1⟩ := hyb
   obtain ⟨x, hx⟩ : ∃ x, limAt ys (i + 1) q = x := ⟨_, rfl⟩
   have hc2 : wr.cell? ⟨w.heap.size, q, none⟩ = some (.int .u32 x) := by
    rw [cell_of_row _ _ _ _ _ _ HH.out.h]
    have hg := limA_get ys K (i + 1) q hqK
    rw [hx, List.getD_eq_getElem?_getD, List.getElem?_eq_getElem (by rw [limA_len]; exact hqK), Option.getD_some] at hg
    simp only [numsK, List.getElem?_toArray, List.getElem?_map]
    rw [List.getElem?_eq_getElem (by rw [limA_len]; exact hqK), hg]
    rfl
   have hf2 : wr.frozen? ⟨w.heap.size, q, none⟩ = false := by simp [World.frozen?, HH.out.h]
   have hxb : 0 ≤ x ∧ x ≤ 4294967295 := by rw [← hx]; exact limAt_bound ys HB.out _ _
   have hsum : 0 ≤ x * 256 + y ∧ x * 256 + y ≤ 4294967295 := by
    have := limAt_here ys i (by have := HL.out; omega)
    rw [hq, hx, hy] at this
    have h2 := limAt_bound ys HB.out i q
    omega
   have hx256 : 0 ≤ x * 256 ∧ x * 256 ≤ 4294967295 := by omega
   obtain ⟨hx0, hx1⟩ := hxb
   obtain ⟨hs0, hs1⟩ := hsum
   obtain ⟨hm0, hm1⟩ := hx256
   have e1 : IntKind.u32.wrap (x * 256) = x * 256 := by rw [IntKind.wrap_u32]; omega
   have e2 : IntKind.u32.wrap y = y := by rw [IntKind.wrap_u32]; omega
   have e3 : IntKind.u32.wrap (x * 256 + y) = x * 256 + y := by rw [IntKind.wrap_u32]; omega
   have HS : Hid ((limA ys K (i + 1)).set q (x * 256 + y) = limA ys K i) := Lib.hid (by
    have := limA_step ys K i (by have := HL.out; omega) (by have := HL.out; have := HK.out; omega)
    rwa [hq, hx, hy] at this)
   have hi1 : i < n := by omega
   clear hq hy hx hz
   go_upto_region 6 with fail
   go_region
   all_goals (
    have HI2 := Lib.hid (HH.out.set q (x * 256 + y) hs0 hs1)
    have HI3 : Hid (ShlI w ((wr.setCell ⟨w.heap.size, q, none⟩ (.int .u32 (x * 256 + y))).drew) w.heap.size K (limA ys K i)) := Lib.hid (by
     have h := HI2.out
     rw [HS.out] at h
     exact h.drew 1)
    go_wp2
    exact ⟨⟨i, _, by go_num, by omega, by omega, HI3⟩, by simp [intOf]⟩)
theorem limbs_any (g n N : Nat) (ys : List Int) (w : World) (hl : ys.length = n) (hn : n ≤ 4000000000) (hnN : n ≤ N) (hb : Bys ys) (hc : CutAt ys n) (hr : RK w .i64 (some ⟨g, 0, none⟩) ys) :
  Calls Tryz.prog 238 #[.slice (some ⟨g, 0, none⟩) n N] w (LimbsP w n ys) :=
 limbs_walk g n n N ys w hl hn hb hc hr (Lib.hid ((trim_any g 0 N n ys w hl hn hnN hr).mono fun e w' ⟨n', h1, h2, h3⟩ => by
  obtain rfl := CutAt.uniq h2 hc
  exact ⟨h1, h3⟩))
/-- Of bytes with noughts at their end, too. -/
theorem limbs_gen (g n N : Nat) (ys : List Int) (w : World) (hl : ys.length = n) (hn : n ≤ 4000000000) (hnN : n ≤ N) (hb : Bys ys) (hr : RK w .i64 (some ⟨g, 0, none⟩) ys) :
  Calls Tryz.prog 238 #[.slice (some ⟨g, 0, none⟩) n N] w fun e w' => ∃ m, m ≤ n ∧ LimbsP w m ys e w' := by
 obtain ⟨m, hm⟩ := cut_ex ys
 have hle := hm.le
 have hl2 : (ys.take m).length = m := by rw [List.length_take]; omega
 refine (limbs_walk g n m N (ys.take m) w hl2 (by omega) (hb.take m) ⟨by omega, fun j h1 h2 => by omega, ?_⟩ (hr.take m) (Lib.hid ((trim_any g 0 N n ys w hl hn hnN hr).mono fun e w' ⟨n', h1, h2, h3⟩ => by
  obtain rfl := CutAt.uniq h2 hm
  exact ⟨h1, h3⟩))).mono fun e w' h => ⟨m, by omega, by unfold LimbsP at h ⊢; rwa [hm.magY] at h⟩
 rcases hm.top with h | h
 ·exact .inl h
 ·by_cases h0 : m = 0
  ·exact .inl h0
  ·exact .inr (by rw [getD_take (by omega)]; exact h)
end Go.Proofs.YtcpkjmpbpmeclaaGreatDoor
namespace Go.Proofs.YtcpkjmpbpmeclaaGreatDoor
open Go.RowKit
set_option maxRecDepth 100000
set_option linter.unusedVariables false
set_option linter.unusedSimpArgs false
set_option linter.unnecessarySimpa false

/-- A number without noughts at its end, in a block of its own. -/
structure NormI (w' : World) (B h k : Nat) (xs zs : List Int) : Prop where
 ge : B ≤ h
 len : zs.length = k
 lim : Limbs zs
 cut : CutAt zs k
 mag : magV zs = magV xs
 blk : w'.heap[h]? = some (.cells (numsK .u32 zs).toArray 92 (0, 0))
 le : k ≤ xs.length
theorem NormI.nat {w' : World} {B h k : Nat} {xs zs : List Int} (H : NormI w' B h k xs zs) (hx : xs.length ≤ 1000000000) : NatIn w' (some ⟨h, 0, none⟩) k zs := ⟨by have := H.len; have := H.le; omega, by have := H.len; omega, (fun e => by cases e), numsK_row H.blk, H.lim⟩
theorem NormI.pos {w' : World} {B h k : Nat} {xs zs : List Int} (H : NormI w' B h k xs zs) : (k = 0 ↔ magV xs = 0) ∧ 0 ≤ magV xs := by
 have := magV_pos H.lim H.cut
 rwa [H.mag] at this
set_option maxHeartbeats 1000000 in
theorem refNorm1_any (A : Option Addr) (c m : Nat) (xs : List Int) (w : World) (hm : xs.length = m) (hx : NatIn w A c xs) :
  Calls Tryz.prog 236 #[.slice A m c] w fun e w' => ∃ h k zs, e = .returned (.slice (some ⟨h, 0, none⟩) k k) ∧ Hid (NormI w' w.heap.size h k xs zs) ∧ Below w.heap.size w w' := by
 have HX := Lib.hid hx
 have HM := Lib.hid hm
 have hm1 : m ≤ 1000000000 := by have := hx.len; omega
 clear hx hm
 go_enter Tryz.func236, Tryz.ntmps236
 go_wp2_with (first
  | (go_at_call 209; refine (bytes_any A c m xs _ HM.out HX.out).mono ?_; rintro e w1 ⟨g, n, N, ys, rfl, hnN, hn4, HY, hb1⟩; have HB1 := Lib.hid hb1; clear hb1)
  | (go_at_call 238; refine (limbs_any g n N ys _ HY.out.2.1 (by omega) hnN HY.out.2.2.1 HY.out.2.2.2.1 HY.out.2.2.2.2.2).mono ?_; rintro e w2 ⟨h, k, zs, rfl, HZ, hb2⟩))
 go_ret
 obtain ⟨z1, z2, z3, z4, z5, z6, z7⟩ := HZ.out
 exact ⟨h, k, zs, rfl, Lib.hid ⟨Nat.le_trans HB1.out.size z1, z3, z4, z5, by rw [z6, HY.out.2.2.2.2.1], z7, by have := HM.out; omega⟩, trans_b HB1.out hb2⟩
theorem pick_below (g : Bool) (k : Nat) (xs : List Int) (h : (k = 0 ↔ magV xs = 0) ∧ 0 ≤ magV xs) : (if g then decide (0 < k) else false) = decide (wholeV g xs < 0) := by
 unfold wholeV
 cases g
 ·simp; omega
 ·simp only [if_true]
  rw [decide_eq_decide]
  omega
set_option maxHeartbeats 4000000 in
theorem refNorm3_any (g : Bool) (A : Option Addr) (c m : Nat) (xs : List Int) (w : World) (hm : xs.length = m) (hx : NatIn w A c xs) :
  Calls Tryz.prog 208 #[.agg #[.bool g, .slice A m c]] w fun e w' => ∃ h k zs, e = .returned (.agg #[.bool (decide (wholeV g xs < 0)), .slice (some ⟨h, 0, none⟩) k k]) ∧ Hid (NormI w' w.heap.size h k xs zs) ∧ Below w.heap.size w w' := by
 obtain ⟨W0, hW0, hb0, hx0, hr0⟩ : ∃ W, ((w.alloc (.cells #[.bool g, .slice A m c] 28)).alloc (.cells #[.bool false, .slice none 0 0] 28)) = W ∧ Below w.heap.size w W ∧ W.heap[w.heap.size]? = some (.cells #[.bool g, .slice A m c] 28 (0, 0)) ∧ W.heap[w.heap.size + 1]? = some (.cells #[.bool false, .slice none 0 0] 28 (0, 0)) := by
  refine ⟨_, rfl, ((Below.refl _ _).alloc (Nat.le_refl _) _).alloc (by simp) _, ?_, ?_⟩
  ·rw [Below.heap_alloc _ _ _ (by simp), heap_alloc_new w _]
  ·have := heap_alloc_new (w.alloc (.cells #[.bool g, .slice A m c] 28)) (.cells #[.bool false, .slice none 0 0] 28)
   simpa using this
 have HX := Lib.hid hx
 have HM := Lib.hid hm
 have hm1 : m ≤ 1000000000 := by have := hx.len; omega
 have HB0 := Lib.hid hb0
 have HR0 := Lib.hid hr0
 obtain ⟨c0, c1, _, _⟩ := blk2 hx0
 obtain ⟨bb, hbb⟩ : ∃ bb, decide (wholeV g xs < 0) = bb := ⟨_, rfl⟩
 have HBB := Lib.hid hbb
 rw [hbb]
 clear hx hm hb0 hr0 hx0 hbb
 go_enter Tryz.func208, Tryz.ntmps208
 go_upto_region 1 with fail
 clear hW0
 go_upto_region 2 with (go_at_call 236; refine (refNorm1_any A c m xs _ HM.out (HX.out.below HB0.out)).mono ?_; rintro e w1 ⟨h, k, zs, rfl, HZ, hb1⟩)
 have d0 := keep1 hb1 c0
 have hR1 := (hb1.block _ (Array.getElem?_eq_some_iff.1 HR0.out).1).trans HR0.out
 have HR1 := Lib.hid hR1
 obtain ⟨r0, r1, f0, f1⟩ := blk2 hR1
 have HB1 := Lib.hid hb1
 have HP : Hid ((if g then decide (0 < k) else false) = bb) := Lib.hid ((pick_below g k xs HZ.out.pos).trans HBB.out)
 clear c0 c1 hb1 hR1
 have hT2 : w1.there (w.heap.size + 1) 0 2 := there_row HR1.out _ _ (Nat.le_refl _)
 have hLd := run_loadVar_mid (P := Tryz.prog) (w1.setCells (w.heap.size + 1) 0 [.bool bb, .slice (some ⟨h, 0, none⟩) k k]) (w.heap.size + 1) 0 28 [.bool bb, .slice (some ⟨h, 0, none⟩) k k] _ (World.rangeAt_setCells_same _ _ _ _ hT2) Tryz.underlying28 rfl size_int
 have hBZ : Below w.heap.size w (w1.setCells (w.heap.size + 1) 0 [.bool bb, .slice (some ⟨h, 0, none⟩) k k]) := below_setCells _ _ 0 _ (trans_b HB0.out HB1.out) (Nat.le_succ _)
 have hNI : Hid (NormI (w1.setCells (w.heap.size + 1) 0 [.bool bb, .slice (some ⟨h, 0, none⟩) k k]) w.heap.size h k xs zs) := Lib.hid ⟨Nat.le_trans HB0.out.size HZ.out.ge, HZ.out.len, HZ.out.lim, HZ.out.cut, HZ.out.mag, (World.heap_setCells_other _ _ _ _ (Array.getElem?_eq_some_iff.1 HZ.out.blk).1 (by have := HZ.out.ge; have := (Array.getElem?_eq_some_iff.1 HR0.out).1; omega)).trans HZ.out.blk, HZ.out.le⟩
 cases g with
 | true =>
  have hp := HP.out
  rw [if_pos rfl] at hp
  subst hp
  go_wp2
  refine bodyPost_ret (v := .agg #[.bool (decide (0 < k)), .slice (some ⟨h, 0, none⟩) k k]) ?_ rfl (by first | exact ⟨h, k, zs, rfl, hNI, hBZ⟩ | exact ⟨h, k, rfl, ⟨zs, hNI⟩, hBZ⟩ | exact ⟨h, k, rfl, zs, hNI, hBZ⟩)
  simp only [World.setCells, Nat.zero_add] at hLd
  simp [results, Tryz.results208, hLd, asAddr, Act.put]
 | false =>
  have hp := HP.out
  rw [if_neg (by simp)] at hp
  subst hp
  go_wp2
  refine bodyPost_ret (v := .agg #[.bool false, .slice (some ⟨h, 0, none⟩) k k]) ?_ rfl (by first | exact ⟨h, k, zs, rfl, hNI, hBZ⟩ | exact ⟨h, k, rfl, ⟨zs, hNI⟩, hBZ⟩ | exact ⟨h, k, rfl, zs, hNI, hBZ⟩)
  simp only [World.setCells, Nat.zero_add] at hLd
  simp [results, Tryz.results208, hLd, asAddr, Act.put]
theorem below_any (g : Bool) (A : Option Addr) (c m : Nat) (xs : List Int) (w : World) (hm : xs.length = m) (hx : NatIn w A c xs) :
  Calls Tryz.prog 147 #[.agg #[.bool g, .slice A m c]] w fun e w' => e = .returned (.bool (decide (wholeV g xs < 0))) ∧ Below w.heap.size w w' := by
 have HX := Lib.hid hx
 have HM := Lib.hid hm
 have hb0 : Below w.heap.size w (w.alloc (.cells #[.bool g, .slice A m c] 28)) := (Below.refl _ _).alloc (Nat.le_refl _) _
 have HB0 := Lib.hid hb0
 have h0 := heap_alloc_new w (.cells #[.bool g, .slice A m c] 28)
 obtain ⟨c0, c1, _, _⟩ := blk2 h0
 obtain ⟨bb, hbb⟩ : ∃ bb, decide (wholeV g xs < 0) = bb := ⟨_, rfl⟩
 have HBB := Lib.hid hbb
 rw [hbb]
 have hfld : ∀ (h k : Nat) (W : World), Sem.run Tryz.prog (Instr.field 28 (.agg #[.bool bb, .slice (some ⟨h, 0, none⟩) k k]) 0) W = .ok (.bool bb) W := fun _ _ _ => rfl
 clear hx hm hb0 h0 hbb
 go_enter Tryz.func147, Tryz.ntmps147
 go_wp2_with (go_at_call 208; refine (refNorm3_any g A c m xs _ HM.out (HX.out.below HB0.out)).mono ?_; rintro e w1 ⟨h, k, zs, rfl, HZ, hb1⟩; rw [HBB.out])
 go_ret
 exact ⟨rfl, trans_b HB0.out hb1⟩
end Go.Proofs.YtcpkjmpbpmeclaaGreatDoor
namespace Go.Proofs.YtcpkjmpbpmeclaaGreatDoor
open Go.RowKit
set_option maxRecDepth 100000
set_option linter.unusedVariables false
set_option linter.unusedSimpArgs false
set_option linter.unnecessarySimpa false

set_option maxHeartbeats 4000000 in
theorem refCmp1_any (A B : Option Addr) (c d m n : Nat) (xs ys : List Int) (w : World) (hm : xs.length = m) (hn : ys.length = n) (hx : NatIn w A c xs) (hy : NatIn w B d ys) :
  Calls Tryz.prog 148 #[.slice A m c, .slice B n d] w fun e w' => e = .returned (.int .i64 (cmpI (magV xs) (magV ys))) ∧ Below w.heap.size w w' := by
 have HX := Lib.hid hx
 have HY := Lib.hid hy
 have HM := Lib.hid hm
 have HN := Lib.hid hn
 obtain ⟨z, hz⟩ : ∃ z, cmpI (magV xs) (magV ys) = z := ⟨_, rfl⟩
 have HZ := Lib.hid hz
 have hm1 : m ≤ 1000000000 := by have := hx.len; omega
 have hn1 : n ≤ 1000000000 := by have := hy.len; omega
 rw [hz]
 clear hx hy hz hm hn
 go_enter Tryz.func148, Tryz.ntmps148
 go_upto_region 3 with (first
  | (go_at_call 209; with_reducible refine (bytes_any A c m xs _ HM.out HX.out).mono ?_; rintro e w1 ⟨g1, k1, N1, X, rfl, hkN1, hk41, H1, hb1⟩; have HB1 := Lib.hid hb1; clear hb1)
  | (go_at_call 209; refine (bytes_any B d n ys _ HN.out (HY.out.below HB1.out)).mono ?_; rintro e w2 ⟨g2, k2, N2, Y, rfl, hkN2, hk42, H2, hb2⟩; have HB2 := Lib.hid hb2; clear hb2))
 have HBB := Lib.hid (trans_b HB1.out HB2.out)
 have hEq : cmpI (magV xs) (magV ys) = cmpI (magY X) (magY Y) := by rw [H1.out.2.2.2.2.1, H2.out.2.2.2.2.1]
 rw [HZ.out] at hEq
 have HE := Lib.hid hEq.symm
 clear hEq
 by_cases he : k1 = k2
 ·subst he
  go_wp2
  go_loopw [7] (fun t W => ∃ (i : Nat) (q : Int), t = .int .i64 q ∧ q + 1 = (i : Nat) ∧ i ≤ k1 ∧ SameFrom X Y k1 i ∧ Below w2.heap.size w2 W) (fun t _ => (intOf t + 1).toNat)
  case atStart => exact ⟨k1, _, rfl, by omega, Nat.le_refl _, fun j h1 h2 => by omega, Below.refl _ _⟩
  case round =>
   obtain ⟨i, q, rfl, hq, hi, hs, hb⟩ := hrel
   have HS := Lib.hid hs
   clear hs
   cases i with
   | zero =>
    obtain rfl : q = -1 := by omega
    have HZ2 : Hid (z = 0) := Lib.hid (by
     rw [← HE.out]
     exact cmpByt_same H1.out.2.2.2.1 H2.out.2.2.2.1 HS.out)
    go_wp2
    go_ret
    exact ⟨by rw [HZ2.out]; rfl, trans_b HBB.out hb⟩
   | succ i =>
    obtain rfl : q = (i : Nat) := by omega
    obtain ⟨b1, o1, e1, hx1⟩ := (H1.out.2.2.2.2.2.below (trans_b HB2.out hb)).cell i (by have := H1.out.2.1; omega)
    cases e1
    obtain ⟨b2, o2, e2, hy1⟩ := (H2.out.2.2.2.2.2.below hb).cell i (by have := H2.out.2.1; omega)
    cases e2
    rw [Nat.zero_add] at hx1 hy1
    obtain ⟨x, hx⟩ : ∃ x, X.getD i 0 = x := ⟨_, rfl⟩
    obtain ⟨y, hy⟩ : ∃ y, Y.getD i 0 = y := ⟨_, rfl⟩
    rw [hx] at hx1
    rw [hy] at hy1
    have HXX := Lib.hid hx
    have HYY := Lib.hid hy
    have hik : i < k1 := by omega
    clear hx hy hq
    by_cases hxy : x = y
    ·subst hxy
     have HS2 : Hid (SameFrom X Y k1 i) := Lib.hid fun j h1 h2 => by
      by_cases h : j = i
      ·rw [h, HXX.out, HYY.out]
      ·exact HS.out j (by omega) h2
     go_wp2_with (go_quiet (fail))
     exact ⟨⟨i, _, by go_num, by omega, by omega, HS2.out, below_on hb (below_drewN _ _)⟩, by simp [intOf]⟩
    ·have hb0 : (x == y) = false := by simpa using hxy
     have HZ2 : Hid (cmpI x y = z) := Lib.hid (by
      have := cmpByt_at H1.out.2.2.1 H2.out.2.2.1 H1.out.2.2.2.1 H2.out.2.2.2.1 i hik HS.out (by rw [HXX.out, HYY.out]; exact hxy)
      rw [HXX.out, HYY.out, HE.out] at this
      exact this)
     by_cases hlt : x < y
     ·have hlb : decide (x < y) = true := decide_eq_true hlt
      have HZ3 : Hid (z = -1) := Lib.hid (by rw [← HZ2.out, cmpI_lt hlt])
      clear hxy
      go_wp2_with (go_quiet (fail))
      go_ret
      exact ⟨by rw [HZ3.out]; rfl, trans_b HBB.out (by first | exact below_on hb (below_drewN _ _) | exact below_on (below_on hb (below_drewN _ _)) (below_drewN _ _))⟩
     ·have hlb : decide (x < y) = false := decide_eq_false hlt
      have HZ3 : Hid (z = 1) := Lib.hid (by rw [← HZ2.out, cmpI_gt (by omega)])
      clear hxy
      go_wp2_with (go_quiet (fail))
      go_ret
      exact ⟨by rw [HZ3.out]; rfl, trans_b HBB.out (by first | exact below_on hb (below_drewN _ _) | exact below_on (below_on hb (below_drewN _ _)) (below_drewN _ _))⟩
 ·have he' : ((k1 : Int) == (k2 : Int)) = false := by simp; omega
  have HZ2 : Hid (cmpI (k1 : Int) k2 = z) := Lib.hid ((cmpByt_len H1.out.2.2.1 H2.out.2.2.1 H1.out.2.2.2.1 H2.out.2.2.2.1 he).trans HE.out)
  by_cases hlt : k1 < k2
  ·have HZ3 : Hid (z = -1) := Lib.hid (by rw [← HZ2.out, cmpI_lt (by omega)])
   clear he
   go_wp2
   go_ret
   exact ⟨by rw [HZ3.out]; rfl, HBB.out⟩
  ·have HZ3 : Hid (z = 1) := Lib.hid (by rw [← HZ2.out, cmpI_gt (by omega)])
   clear he
   go_wp2
   go_ret
   exact ⟨by rw [HZ3.out]; rfl, HBB.out⟩
set_option maxHeartbeats 4000000 in
theorem refCmp3_any (g h : Bool) (A B : Option Addr) (c d m n : Nat) (xs ys : List Int) (w : World) (hm : xs.length = m) (hn : ys.length = n) (hx : NatIn w A c xs) (hy : NatIn w B d ys) :
  Calls Tryz.prog 59 #[.agg #[.bool g, .slice A m c], .agg #[.bool h, .slice B n d]] w fun e w' => e = .returned (.int .i64 (cmpI (wholeV g xs) (wholeV h ys))) ∧ Below w.heap.size w w' := by
 obtain ⟨W0, hW0, hb0, hx0, hy0⟩ : ∃ W, ((w.alloc (.cells #[.bool g, .slice A m c] 28)).alloc (.cells #[.bool h, .slice B n d] 28)) = W ∧ Below w.heap.size w W ∧ W.heap[w.heap.size]? = some (.cells #[.bool g, .slice A m c] 28 (0, 0)) ∧ W.heap[w.heap.size + 1]? = some (.cells #[.bool h, .slice B n d] 28 (0, 0)) := by
  refine ⟨_, rfl, ((Below.refl _ _).alloc (Nat.le_refl _) _).alloc (by simp) _, ?_, ?_⟩
  ·rw [Below.heap_alloc _ _ _ (by simp), heap_alloc_new w _]
  ·have := heap_alloc_new (w.alloc (.cells #[.bool g, .slice A m c] 28)) (.cells #[.bool h, .slice B n d] 28)
   simpa using this
 have p1 : 0 ≤ magV xs := (magV_bound xs hx.limbs).1
 have p2 : 0 ≤ magV ys := (magV_bound ys hy.limbs).1
 have HB1 : Hid (∀ W, Below W0.heap.size W0 W → Calls Tryz.prog 147 #[.agg #[.bool g, .slice A m c]] W fun e w' => e = .returned (.bool (decide (wholeV g xs < 0))) ∧ Below W.heap.size W w') := Lib.hid fun W hW => below_any g A c m xs W hm (hx.below (trans_b hb0 hW))
 have HB2 : Hid (∀ W, Below W0.heap.size W0 W → Calls Tryz.prog 147 #[.agg #[.bool h, .slice B n d]] W fun e w' => e = .returned (.bool (decide (wholeV h ys < 0))) ∧ Below W.heap.size W w') := Lib.hid fun W hW => below_any h B d n ys W hn (hy.below (trans_b hb0 hW))
 have HC1 : Hid (∀ W, Below W0.heap.size W0 W → Calls Tryz.prog 148 #[.slice A m c, .slice B n d] W fun e w' => e = .returned (.int .i64 (cmpI (magV xs) (magV ys))) ∧ Below W.heap.size W w') := Lib.hid fun W hW => refCmp1_any A B c d m n xs ys W hm hn (hx.below (trans_b hb0 hW)) (hy.below (trans_b hb0 hW))
 have HC2 : Hid (∀ W, Below W0.heap.size W0 W → Calls Tryz.prog 148 #[.slice B n d, .slice A m c] W fun e w' => e = .returned (.int .i64 (cmpI (magV ys) (magV xs))) ∧ Below W.heap.size W w') := Lib.hid fun W hW => refCmp1_any B A d c n m ys xs W hn hm (hy.below (trans_b hb0 hW)) (hx.below (trans_b hb0 hW))
 have key : cmpI (wholeV g xs) (wholeV h ys) = if wholeV g xs < 0 then (if wholeV h ys < 0 then cmpI (magV ys) (magV xs) else -1) else (if wholeV h ys < 0 then 1 else cmpI (magV xs) (magV ys)) := by
  unfold wholeV cmpI
  cases g <;> cases h <;> simp only [if_true, Bool.false_eq_true, if_false] <;> (repeat' split) <;> omega
 have HK := Lib.hid key
 have HB0 := Lib.hid hb0
 obtain ⟨c0, c1, _, _⟩ := blk2 hx0
 obtain ⟨d0, d1, _, _⟩ := blk2 hy0
 obtain ⟨z, hz⟩ : ∃ z, cmpI (wholeV g xs) (wholeV h ys) = z := ⟨_, rfl⟩
 rw [hz]
 rw [hz] at HK
 have hBW : Below W0.heap.size W0 W0 := Below.refl _ _
 clear hx hy hm hn hb0 hx0 hy0 key hz p1 p2
 have walk : ∀ p q : Bool, decide (wholeV g xs < 0) = p → decide (wholeV h ys < 0) = q → Calls Tryz.prog 59 #[.agg #[.bool g, .slice A m c], .agg #[.bool h, .slice B n d]] w fun e w' => e = .returned (.int .i64 z) ∧ Below w.heap.size w w' := by
  intro p q hp hq
  rw [hp] at HB1
  rw [hq] at HB2
  cases p <;> cases q
  ·have hz : z = cmpI (magV xs) (magV ys) := by have := HK.out; rwa [if_neg (of_decide_eq_false hp), if_neg (of_decide_eq_false hq)] at this
   have HC := HC1
   rw [← hz] at HC
   clear hp hq HK hz HC1 HC2
   go_enter Tryz.func59, Tryz.ntmps59
   go_wp2_with (first
    | (go_at_call 147; with_reducible refine (HB1.out _ hBW).mono ?_; rintro e w1 ⟨rfl, hb1⟩; replace hBW := trans_b hBW hb1; replace c0 := keep1 hb1 c0; replace c1 := keep1 hb1 c1; replace d0 := keep1 hb1 d0; replace d1 := keep1 hb1 d1)
    | (go_at_call 147; refine (HB2.out _ hBW).mono ?_; rintro e w1 ⟨rfl, hb1⟩; replace hBW := trans_b hBW hb1; replace c0 := keep1 hb1 c0; replace c1 := keep1 hb1 c1; replace d0 := keep1 hb1 d0; replace d1 := keep1 hb1 d1)
    | (go_at_call 148; refine (HC.out _ hBW).mono ?_; rintro e w1 ⟨rfl, hb1⟩; replace hBW := trans_b hBW hb1))
   go_ret
   exact ⟨rfl, trans_b HB0.out hBW⟩
  ·have hz : z = 1 := by have := HK.out; rwa [if_neg (of_decide_eq_false hp), if_pos (of_decide_eq_true hq)] at this
   have HZ := Lib.hid hz
   have HC := HC1
   clear hp hq HK hz HC1 HC2
   go_enter Tryz.func59, Tryz.ntmps59
   go_wp2_with (first
    | (go_at_call 147; with_reducible refine (HB1.out _ hBW).mono ?_; rintro e w1 ⟨rfl, hb1⟩; replace hBW := trans_b hBW hb1; replace c0 := keep1 hb1 c0; replace c1 := keep1 hb1 c1; replace d0 := keep1 hb1 d0; replace d1 := keep1 hb1 d1)
    | (go_at_call 147; refine (HB2.out _ hBW).mono ?_; rintro e w1 ⟨rfl, hb1⟩; replace hBW := trans_b hBW hb1; replace c0 := keep1 hb1 c0; replace c1 := keep1 hb1 c1; replace d0 := keep1 hb1 d0; replace d1 := keep1 hb1 d1)
    | (go_at_call 148; refine (HC.out _ hBW).mono ?_; rintro e w1 ⟨rfl, hb1⟩; replace hBW := trans_b hBW hb1))
   go_ret
   exact ⟨by rw [HZ.out]; rfl, trans_b HB0.out hBW⟩
  ·have hz : z = -1 := by have := HK.out; rwa [if_pos (of_decide_eq_true hp), if_neg (of_decide_eq_false hq)] at this
   have HZ := Lib.hid hz
   have HC := HC1
   clear hp hq HK hz HC1 HC2
   go_enter Tryz.func59, Tryz.ntmps59
   go_wp2_with (first
    | (go_at_call 147; with_reducible refine (HB1.out _ hBW).mono ?_; rintro e w1 ⟨rfl, hb1⟩; replace hBW := trans_b hBW hb1; replace c0 := keep1 hb1 c0; replace c1 := keep1 hb1 c1; replace d0 := keep1 hb1 d0; replace d1 := keep1 hb1 d1)
    | (go_at_call 147; refine (HB2.out _ hBW).mono ?_; rintro e w1 ⟨rfl, hb1⟩; replace hBW := trans_b hBW hb1; replace c0 := keep1 hb1 c0; replace c1 := keep1 hb1 c1; replace d0 := keep1 hb1 d0; replace d1 := keep1 hb1 d1)
    | (go_at_call 148; refine (HC.out _ hBW).mono ?_; rintro e w1 ⟨rfl, hb1⟩; replace hBW := trans_b hBW hb1))
   go_ret
   exact ⟨by rw [HZ.out]; rfl, trans_b HB0.out hBW⟩
  ·have hz : z = cmpI (magV ys) (magV xs) := by have := HK.out; rwa [if_pos (of_decide_eq_true hp), if_pos (of_decide_eq_true hq)] at this
   have HC := HC2
   rw [← hz] at HC
   clear hp hq HK hz HC1 HC2
   go_enter Tryz.func59, Tryz.ntmps59
   go_wp2_with (first
    | (go_at_call 147; with_reducible refine (HB1.out _ hBW).mono ?_; rintro e w1 ⟨rfl, hb1⟩; replace hBW := trans_b hBW hb1; replace c0 := keep1 hb1 c0; replace c1 := keep1 hb1 c1; replace d0 := keep1 hb1 d0; replace d1 := keep1 hb1 d1)
    | (go_at_call 147; refine (HB2.out _ hBW).mono ?_; rintro e w1 ⟨rfl, hb1⟩; replace hBW := trans_b hBW hb1; replace c0 := keep1 hb1 c0; replace c1 := keep1 hb1 c1; replace d0 := keep1 hb1 d0; replace d1 := keep1 hb1 d1)
    | (go_at_call 148; refine (HC.out _ hBW).mono ?_; rintro e w1 ⟨rfl, hb1⟩; replace hBW := trans_b hBW hb1))
   go_ret
   exact ⟨rfl, trans_b HB0.out hBW⟩
 exact walk _ _ rfl rfl
end Go.Proofs.YtcpkjmpbpmeclaaGreatDoor
namespace Go.Proofs.YtcpkjmpbpmeclaaGreatDoor
open Go.RowKit
set_option maxRecDepth 100000
set_option linter.unusedVariables false
set_option linter.unusedSimpArgs false
set_option linter.unnecessarySimpa false

def sgB (less more : Bool) : Int := if less then -1 else if more then 1 else 0
theorem sign_any (less more : Bool) (w : World) : Calls Tryz.prog 58 #[.bool less, .bool more] w fun e w' => e = .returned (.int .i64 (sgB less more)) ∧ w = w' := by
 unfold sgB
 cases less <;> cases more <;> (
  go_enter Tryz.func58, Tryz.ntmps58
  go_wp2
  go_ret
  exact ⟨rfl, rfl⟩)
theorem sgB_cmpI (x y : Int) : sgB (decide (x < y)) (decide (y < x)) = cmpI x y := by
 unfold sgB cmpI
 simp
theorem sgB_cmpL (x y : ByteArray) : sgB (Op.bytesLess x.data.toList y.data.toList) (Op.bytesLess y.data.toList x.data.toList) = cmpL (ints x) (ints y) := by
 have h1 := cmpL_less x.data.toList y.data.toList
 have h2 := cmpL_less y.data.toList x.data.toList
 have o := cmpL_ord (ints x) (ints y)
 have e1 : ints x = x.data.toList.map fun c => (c.toNat : Int) := rfl
 have e2 : ints y = y.data.toList.map fun c => (c.toNat : Int) := rfl
 rw [← e1, ← e2] at h1 h2
 obtain ⟨a1, a2⟩ := h1
 obtain ⟨b1, b2⟩ := h2
 have an := o.anti
 have lo := o.lo
 have hi := o.hi
 unfold sgB
 by_cases c1 : cmpL (ints x) (ints y) = -1
 ·rw [if_pos (a1.1 c1), c1]
 ·have : ¬ Op.bytesLess x.data.toList y.data.toList = true := fun h => c1 (a1.2 h)
  rw [if_neg this]
  by_cases c2 : cmpL (ints y) (ints x) = -1
  ·rw [if_pos (b1.1 c2)]; omega
  ·have : ¬ Op.bytesLess y.data.toList x.data.toList = true := fun h => c2 (b1.2 h)
   rw [if_neg this]; omega
def tw : Nat → Int
 | 0 => 1
 | k + 1 => 2 * tw k
theorem tw_pos : ∀ k, 1 ≤ tw k
 | 0 => by decide
 | k + 1 => by have := tw_pos k; unfold tw; omega
theorem tw_le {m n : Nat} (h : m ≤ n) : tw m ≤ tw n := by
 induction h with
 | refl => exact Int.le_refl _
 | @step k _ ih => have := tw_pos k; show tw m ≤ 2 * tw k; omega
theorem refSign_any (w : World) : Calls Tryz.prog 210 #[.int .i64 64] w fun e w' => e = .returned (.int .u64 9223372036854775808) ∧ w = w' := by
 go_enter Tryz.func210, Tryz.ntmps210
 go_wp2
 go_loopw [3, 4] (fun t3 t4 W => ∃ (k : Nat) (y : Int), t4 = .int .i64 (k : Nat) ∧ 1 ≤ k ∧ k ≤ 64 ∧ t3 = .int .u64 y ∧ Hid (y = tw (k - 1)) ∧ W = w) (fun _ t4 _ => 64 - (intOf t4).toNat)
 case atStart => exact ⟨1, 1, rfl, by omega, by omega, rfl, Lib.hid rfl, rfl⟩
 case round =>
  obtain ⟨k, y, rfl, hk1, hk, rfl, hy, rfl⟩ := hrel
  by_cases hlt : k < 64
  ·have hy1 : 0 ≤ y ∧ y ≤ 4611686018427387904 := by
    have h := hy.out
    have h1 := tw_le (m := k - 1) (n := 62) (by omega)
    have h2 := tw_pos (k - 1)
    have h3 : tw 62 = 4611686018427387904 := by decide
    omega
   obtain ⟨hy0, hy2⟩ := hy1
   have e1 : IntKind.u64.wrap (2 * y) = 2 * y := by rw [IntKind.wrap_u64]; omega
   have HT : Hid (2 * y = tw (k + 1 - 1)) := Lib.hid (by
    obtain ⟨j, rfl⟩ : ∃ j, k = j + 1 := ⟨k - 1, by omega⟩
    have := hy.out
    simp only [Nat.add_sub_cancel] at this ⊢
    rw [this]
    rfl)
   go_wp2
   exact ⟨⟨k + 1, 2 * y, by go_num, by omega, by omega, rfl, HT, trivial⟩, by simp [intOf]; omega⟩
  ·obtain rfl : k = 64 := by omega
   have : y = 9223372036854775808 := by
    have h := hy.out
    have h3 : tw (64 - 1) = 9223372036854775808 := by decide
    omega
   subst this
   clear hy
   go_wp2
   go_ret
   exact ⟨rfl, rfl⟩
theorem refNeg_any (x : Int) (w : World) : Calls Tryz.prog 149 #[.int .i64 64, .int .u64 x] w fun e w' => e = .returned (.bool (decide (9223372036854775808 ≤ x))) ∧ w = w' := by
 go_enter Tryz.func149, Tryz.ntmps149
 go_wp2_with (go_at_call 210; refine (refSign_any _).mono ?_; rintro e w1 ⟨rfl, rfl⟩)
 go_ret
 exact ⟨rfl, rfl⟩
theorem tot_cmp (x y : Int) (h0 : 0 ≤ x) (h1 : x ≤ 18446744073709551615) (k0 : 0 ≤ y) (k1 : y ≤ 18446744073709551615) : cmpI (totK x) (totK y) =
  if 9223372036854775808 ≤ x then (if 9223372036854775808 ≤ y then cmpI y x else -1) else (if 9223372036854775808 ≤ y then 1 else cmpI x y) := by
 unfold cmpI totK
 (repeat' split) <;> omega
theorem refTotal_any (x y : Int) (w : World) (h0 : 0 ≤ x) (h1 : x ≤ 18446744073709551615) (k0 : 0 ≤ y) (k1 : y ≤ 18446744073709551615) :
  Calls Tryz.prog 60 #[.int .i64 64, .int .u64 x, .int .u64 y] w fun e w' => e = .returned (.int .i64 (cmpI (totK x) (totK y))) ∧ w = w' := by
 have key := tot_cmp x y h0 h1 k0 k1
 obtain ⟨z, hz⟩ : ∃ z, cmpI (totK x) (totK y) = z := ⟨_, rfl⟩
 rw [hz] at key ⊢
 have HK := Lib.hid key
 have HN1 : Hid (∀ W, Calls Tryz.prog 149 #[.int .i64 64, .int .u64 x] W fun e w' => e = .returned (.bool (decide (9223372036854775808 ≤ x))) ∧ W = w') := Lib.hid fun W => refNeg_any x W
 have HN2 : Hid (∀ W, Calls Tryz.prog 149 #[.int .i64 64, .int .u64 y] W fun e w' => e = .returned (.bool (decide (9223372036854775808 ≤ y))) ∧ W = w') := Lib.hid fun W => refNeg_any y W
 clear hz key h0 h1 k0 k1
 have walk : ∀ p q l m : Bool, decide (9223372036854775808 ≤ x) = p → decide (9223372036854775808 ≤ y) = q → decide (x < y) = l → decide (y < x) = m → Calls Tryz.prog 60 #[.int .i64 64, .int .u64 x, .int .u64 y] w fun e w' => e = .returned (.int .i64 z) ∧ w = w' := by
  intro p q l m hp hq hl hm
  rw [hp] at HN1
  rw [hq] at HN2
  have hz : z = if p then (if q then sgB m l else -1) else (if q then 1 else sgB l m) := by
   have h := HK.out
   rw [← sgB_cmpI x y, ← sgB_cmpI y x, hl, hm] at h
   rw [h, ← hp, ← hq]
   simp
  have HZ := Lib.hid hz
  have both : ¬ (l = true ∧ m = true) := fun ⟨e1, e2⟩ => by
   have := of_decide_eq_true (hl.trans e1)
   have := of_decide_eq_true (hm.trans e2)
   omega
  clear hz HK hp hq
  cases p <;> cases q <;> cases l <;> cases m <;> first | exact absurd ⟨rfl, rfl⟩ both | (
   go_enter Tryz.func60, Tryz.ntmps60
   go_wp2_with (first
    | (go_at_call 149; with_reducible refine (HN1.out _).mono ?_; rintro e w1 ⟨rfl, rfl⟩)
    | (go_at_call 149; refine (HN2.out _).mono ?_; rintro e w1 ⟨rfl, rfl⟩))
   go_ret
   exact ⟨by rw [HZ.out]; rfl, rfl⟩)
 exact walk _ _ _ _ rfl rfl rfl rfl
end Go.Proofs.YtcpkjmpbpmeclaaGreatDoor
