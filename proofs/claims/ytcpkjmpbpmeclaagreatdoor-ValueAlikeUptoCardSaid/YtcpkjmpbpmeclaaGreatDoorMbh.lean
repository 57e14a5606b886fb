/- Ria · Rib · Rja · Rpa: merged. -/
import Derived.Test.YtcpkjmpbpmeclaaGreatDoorMbf
import Derived.Test.YtcpkjmpbpmeclaaGreatDoorMbg
import Derived.Test.YtcpkjmpbpmeclaaGreatDoorMax
import Derived.Test.YtcpkjmpbpmeclaaGreatDoorMav
import Derived.Test.YtcpkjmpbpmeclaaGreatDoorMai
import Derived.Test.YtcpkjmpbpmeclaaGreatDoorMbd
import Derived.Test.YtcpkjmpbpmeclaaGreatDoorMao
namespace Go.Proofs.YtcpkjmpbpmeclaaGreatDoor
open Go.RowKit
set_option maxRecDepth 100000
set_option linter.unusedVariables false
set_option linter.unusedSimpArgs false
set_option linter.unnecessarySimpa false

/-- What is kept while the kids are gone through. -/
structure SW (w0 w X : World) (cs : Array Value) (sv : Value) (pre : List Nat) : Prop where
 b : Below w0.heap.size w0 X
 box : X.heap[w.heap.size]? = some (.cells cs 31 (0, 0))
 own : Own X w0.heap.size 3 .i64 sv (nums pre)
 g : w.grownBy X sv.ownBlock
 sb : ∀ j, sv.ownBlock = some j → j < w.heap.size
theorem grown_below {X Y : World} {o : Option Nat} (h : Below X.heap.size X Y) : X.grownBy Y o := ⟨h.os, h.tape, h.output, h.size, fun k hk _ => h.block k hk⟩
theorem grown_trans {X Y Z : World} {o : Option Nat} (h : X.grownBy Y o) (k : Y.grownBy Z o) : X.grownBy Z o :=
 ⟨k.os.trans h.os, k.tape.trans h.tape, k.output.trans h.output, Nat.le_trans h.size k.size, fun i hi hne => (k.block i (Nat.lt_of_lt_of_le hi h.size) hne).trans (h.block i hi hne)⟩
theorem SW.below {w0 w X Y : World} {cs : Array Value} {sv : Value} {pre : List Nat} (h : SW w0 w X cs sv pre) (hb : Below X.heap.size X Y) : SW w0 w Y cs sv pre :=
 ⟨trans_b h.b hb, (hb.block _ (Array.getElem?_eq_some_iff.1 h.box).1).trans h.box, h.own.kept hb, grown_trans h.g (grown_below hb), h.sb⟩
theorem SW.grown {w0 w X Y : World} {cs : Array Value} {sv : Value} {pre : List Nat} (h : SW w0 w X cs sv pre) (hg : X.grownBy Y sv.ownBlock) (ho : Own Y w0.heap.size 3 .i64 sv (nums pre)) : SW w0 w Y cs sv pre :=
 ⟨h.b.grown hg h.b.size (fun j hj => Own.lt ho j hj), (hg.block _ (Array.getElem?_eq_some_iff.1 h.box).1 (fun e => by have := h.sb _ e.symm; omega)).trans h.box, ho, grown_trans h.g hg, h.sb⟩
theorem SW.new {w0 w : World} {sv : Value} {pre : List Nat} (cs : Array Value) (hb : Below w0.heap.size w0 w) (ho : Own w w0.heap.size 3 .i64 sv (nums pre)) : SW w0 w (w.alloc (.cells cs 31)) cs sv pre := by
 have h : Below w.heap.size w (w.alloc (.cells cs 31)) := (Below.refl _ _).alloc (Nat.le_refl _) _
 exact ⟨trans_b hb h, heap_alloc_new w _, ho.kept h, grown_below h, fun j hj => (World.ownsRow.lt ho j hj).2⟩
theorem vrow_load {w : World} {A : Option Addr} {l : List VT} (h : VRow w A l) (i : Nat) (hi : i < l.length) : ∃ b off, A = some ⟨b, off, none⟩ ∧ ∀ X, Below w.heap.size w X → Sem.run Tryz.prog (loadVar 31 ⟨b, off + i * 8, none⟩) X = .ok (l[i]).agg X := by
 rcases h with h | ⟨b, off, e, h⟩
 ·subst h; simp at hi
 ·exact ⟨b, off, e, fun X hX => run_loadVar_mid X b (off + i * 8) 31 (l[i]).cells _ (fun j v hv => keep1 hX (h i hi j v hv)) Tryz.underlying31 rfl size_value⟩
/-- What wrong and deep answer. -/
def WrongQ (B : Nat) (q : Option (List Nat)) (pre : List Nat) (p : Value) (bad : Bool) (w' : World) : Prop :=
 match q with
 | some r => bad = true ∧ Own w' B 3 .i64 p (nums (pre ++ r))
 | none => bad = false
def WrongP (w0 w : World) (q : Option (List Nat)) (pre : List Nat) (sv : Value) (e : Ending) (w' : World) : Prop :=
 ∃ p bad, e = .returned (.tuple #[p, .bool bad]) ∧ Hid (WrongQ w0.heap.size q pre p bad w') ∧ Own w' w0.heap.size 3 .i64 sv (nums pre) ∧ w.grownBy w' sv.ownBlock
set_option maxHeartbeats 8000000 in
theorem rWrongW (w0 w : World) (k n bs ex : Int) (ng : Bool) (tx : ByteArray) (mA A : Option Addr) (ml mc m cp D np : Nat) (l : List VT) (pre : List Nat) (sA : Option Addr) (sc : Nat) (al : Bool) (q : Option (List Nat))
  (hq : q = if al then badAtL notAlone l D 0 else some []) (hlm : l.length = m) (hm : m ≤ 1000000000) (hnp : pre.length = np) (hnp2 : np ≤ 2000000000) (hb : Below w0.heap.size w0 w) (hr : VRow w0 A l) (ho : Own w w0.heap.size 3 .i64 (.slice sA np sc) (nums pre))
  (HA : Hid (∀ W, Below w0.heap.size w0 W → Calls Tryz.prog 142 #[.agg #[.int .i8 k, .int .u64 n, .bool ng, .slice mA ml mc, .int .u64 bs, .int .i8 ex, .string tx, .slice A m cp]] W fun e w' => e = .returned (.bool al) ∧ Below W.heap.size W w'))
  (HK : Hid (∀ i (h : i < l.length) (X : World) (g cap : Nat), Below w0.heap.size w0 X → Own X w0.heap.size 3 .i64 (.slice (some ⟨g, 0, none⟩) (np + 1) cap) (nums (pre ++ [i])) → Calls Tryz.prog 53 #[(l[i]).agg, .slice (some ⟨g, 0, none⟩) (np + 1) cap] X (WrongP w0 X (badAt notAlone (l[i]) D) (pre ++ [i]) (.slice (some ⟨g, 0, none⟩) (np + 1) cap)))) :
  Calls Tryz.prog 53 #[.agg #[.int .i8 k, .int .u64 n, .bool ng, .slice mA ml mc, .int .u64 bs, .int .i8 ex, .string tx, .slice A m cp], .slice sA np sc] w (WrongP w0 w q pre (.slice sA np sc)) := by
 have HS0 := Lib.hid (SW.new #[.int .i8 k, .int .u64 n, .bool ng, .slice mA ml mc, .int .u64 bs, .int .i8 ex, .string tx, .slice A m cp] hb ho)
 have HR := Lib.hid hr
 have HL := Lib.hid hlm
 have HNP := Lib.hid hnp
 have HQ := Lib.hid hq
 obtain ⟨sv, hsv⟩ : ∃ sv : Value, .slice sA np sc = sv := ⟨_, rfl⟩
 have HSV := Lib.hid hsv.symm
 rw [hsv] at HS0 ⊢
 clear hb ho hr hlm hnp hq hsv
 go_enter Tryz.func53, Tryz.ntmps53
 go_upto_region 1 with fail
 show Code.wp _ _ _ _ (w.alloc (.cells #[.int .i8 k, .int .u64 n, .bool ng, .slice mA ml mc, .int .u64 bs, .int .i8 ex, .string tx, .slice A m cp] 31))
 generalize (w.alloc (.cells #[.int .i8 k, .int .u64 n, .bool ng, .slice mA ml mc, .int .u64 bs, .int .i8 ex, .string tx, .slice A m cp] 31)) = W0 at *
 obtain ⟨⟨c0, c1, c2, c3, c4, c5, c6, c7⟩, _⟩ := blk8 HS0.out.box
 have HQ0 : Hid (al = false → q = some []) := Lib.hid fun h => by rw [HQ.out, h]; rfl
 have HQ1 : Hid (al = true → badAtL notAlone l D 0 = q) := Lib.hid fun h => by rw [HQ.out, h]; rfl
 cases al with
 | false =>
  have HV := Lib.hid (HQ0.out rfl)
  clear HQ0 HQ1 HQ HK
  go_wp2_with (go_at_call 142; go_must (refine (HA.out _ HS0.out.b).mono ?_); go_must (rintro e w1 ⟨rfl, hb1⟩))
  go_ret2
  have h1 := HS0.out.below hb1
  refine ⟨sv, true, rfl, Lib.hid ?_, h1.own, h1.g⟩
  rw [HV.out]
  exact ⟨rfl, by simpa using h1.own⟩
 | true =>
  have HV := Lib.hid (HQ1.out rfl)
  clear HQ0 HQ1 HQ
  go_upto_region 3 with (go_at_call 142; go_must (refine (HA.out _ HS0.out.b).mono ?_); go_must (rintro e w1 ⟨rfl, hb1⟩))
  have HS1 := Lib.hid (HS0.out.below hb1)
  clear hb1 HS0 c0 c1 c2 c3 c4 c5 c6 c7
  go_wp2
  go_loopw [6] (fun t6 W => ∃ j : Nat, t6 = .int .i64 j ∧ j ≤ m ∧ Hid (badAtL notAlone (l.drop j) D j = q) ∧ Hid (SW w0 w W #[.int .i8 k, .int .u64 n, .bool ng, .slice mA ml mc, .int .u64 bs, .int .i8 ex, .string tx, .slice A m cp] sv pre)) (fun t6 _ => m - (intOf t6).toNat)
  case atStart => exact ⟨0, rfl, Nat.zero_le _, Lib.hid (by rw [List.drop_zero]; exact HV.out), HS1⟩
  case round =>
   obtain ⟨j, rfl, hj, HJ, HS⟩ := hrel
   obtain ⟨⟨_, _, _, _, _, _, _, c7⟩, _⟩ := blk8 HS.out.box
   by_cases hlt : j < m
   ·have hjl : j < l.length := by rw [HL.out]; exact hlt
    obtain ⟨qq, hqq⟩ : ∃ qq, badAt notAlone (l[j]'hjl) D = qq := ⟨_, rfl⟩
    have hkj := HK.out j hjl
    rw [hqq] at hkj
    have HKJ := Lib.hid hkj
    obtain ⟨bA, off, hA, hld⟩ := vrow_load HR.out j hjl
    subst hA
    have HLD := Lib.hid hld
    have HX1 : Hid (∀ x, qq = some x → q = some (j :: x)) := Lib.hid fun x hx => by rw [← HJ.out]; exact badAtL_some hjl (hqq.trans hx)
    have HX2 : Hid (qq = none → badAtL notAlone (l.drop (j + 1)) D (j + 1) = q) := Lib.hid fun hx => by rw [← HJ.out]; exact (badAtL_none hjl (hqq.trans hx)).symm
    obtain ⟨Tj, hTj⟩ : ∃ T, l[j] = T := ⟨_, rfl⟩
    rw [hTj] at HKJ HLD
    clear hkj hld hqq hTj hjl HJ
    go_upto_region 6 with fail
    refine wp_region_held_drew (S := fun X => SW w0 w X _ sv pre) (by kernel_rfl) (HS.out.below (Below.refl _ wr).drew) (fun hH => ?_)
    generalize wr.drew = Y0 at *
    refine wpAnyH_take (i := 0) (oi := _) (v := ?_) rfl (by kernel_rfl) (by kernel_rfl) (by kernel_rfl) (fun _ _ _ h => h) (Or.inl ⟨by rfl, ?_⟩) hH ?_
    rotate_left 1
    ·intro Y hSY
     skip
     go_simp
     with_reducible rfl
    try simp only [LY]
    refine wpAnyH_take (i := 1) (oi := _) (v := ?_) rfl (by kernel_rfl) (by kernel_rfl) (by kernel_rfl) (fun _ _ _ h => h) (Or.inl ⟨by rfl, ?_⟩) hH ?_
    rotate_left 1
    ·intro Y hSY
     have s7 := (blk8 hSY.box).1.2.2.2.2.2.2.2
     go_simp
     with_reducible rfl
    try simp only [LY]
    refine wpAnyH_take (i := 2) (oi := _) (v := ?_) rfl (by kernel_rfl) (by kernel_rfl) (by kernel_rfl) (fun _ _ _ h => h) (Or.inl ⟨by rfl, ?_⟩) hH ?_
    rotate_left 1
    ·intro Y hSY
     skip
     go_simp
     with_reducible rfl
    try simp only [LY]
    refine wpAnyH_take (i := 3) (oi := _) (v := ?_) rfl (by kernel_rfl) (by kernel_rfl) (by kernel_rfl) (fun _ _ _ h => h) (Or.inl ⟨by rfl, ?_⟩) hH ?_
    rotate_left 1
    ·intro Y hSY
     skip
     go_simp
     with_reducible rfl
    try simp only [LY]
    refine wpAnyH_take (i := 4) (oi := _) (v := Tj.agg) rfl (by kernel_rfl) (by kernel_rfl) (by kernel_rfl) (fun _ _ _ h => h) (yieldsIf_run (by rfl) _ _ rfl _ rfl _ (fun Y hY => HLD.out Y hY.b)) hH ?_
    try simp only [LY]
    refine wpAnyH_take (i := 5) (oi := _) (v := ?_) rfl (by kernel_rfl) (by kernel_rfl) (by kernel_rfl) (fun _ _ _ h => h) (Or.inl ⟨by rfl, ?_⟩) hH ?_
    rotate_left 1
    ·intro Y hSY
     skip
     go_simp
     with_reducible rfl
    try simp only [LY]
    refine wpAnyH_take (i := 6) (oi := _) (v := ?_) rfl (by kernel_rfl) (by kernel_rfl) (by kernel_rfl) (fun _ _ _ h => h) (Or.inl ⟨by rfl, ?_⟩) hH ?_
    rotate_left 1
    ·intro Y hSY
     skip
     go_simp
     with_reducible rfl
    try simp only [LY]
    refine wpAnyH_ready (rs := [7]) (by kernel_rfl) (by simp) ?_
    refine AllReadyH.cons rfl (fun K hK => ?_) AllReadyH.nil
    go_simp
    refine hK.out _ _ (hH.below ((Below.refl _ _).alloc (Nat.le_refl _) _)) (fun hH => ?_)
    clear hK K
    try simp only [LY]
    refine wpAnyH_ready (rs := [8]) (by kernel_rfl) (by simp) ?_
    refine AllReadyH.cons rfl (fun K hK => ?_) AllReadyH.nil
    obtain ⟨i0, z0, hi, hz0, hz1, hz2, hzs⟩ := infop_int
    refine step_tight _ rfl (.tmp 26) (.tmp 28) 93 rfl w0.heap.size 3 i0 z0 1 8 Tryz.underlying93 hi hz0 hz1 hz2 hzs (by decide) sv np (numsK .i64 (nums pre)) rfl (by have := hH.own; unfold Own at this; rwa [nums_len, HNP.out] at this) ⟨Y0.heap.size, 0, none⟩ 1 [.int .i64 (j : Int)] rfl rfl (fun a u hu => ?_) (fun u hu => by simp at hu; subst hu; rfl) (by omega) (by decide) hH.b.size ?_
    ·match a, hu with
     | 0, hu => simp at hu; subst hu; rw [add_plain]; simp
    intro g cap w1 hown1 ht1
    have HO1 : Hid (Own w1 w0.heap.size 3 .i64 (.slice (some ⟨g, 0, none⟩) (np + 1) cap) (nums (pre ++ [j]))) := Lib.hid (by unfold Own; rw [nums_app, List.length_append, nums_len, HNP.out, numsK_append]; exact hown1)
    have HT1 := Lib.hid ht1
    have HS7 := Lib.hid hH
    have hS1 := hH.grown (tight_grown ht1) (own_tight hH.own (by rw [nums_len]; exact HNP.out) ht1 (y := (j : Int)) (by have := HO1.out; rwa [nums_app] at this))
    refine hK.out _ _ hS1 (fun hH => ?_)
    clear hK K hown1 ht1 hi hz0 hz1 hz2 hzs
    try simp only [LY]
    refine wpAnyH_ready (rs := [9]) (by kernel_rfl) (by simp) ?_
    refine AllReadyH.cons rfl (fun K hK => ?_) AllReadyH.nil
    go_simp
    go_at_call 53
    refine (HKJ.out _ g cap hH.b HO1.out).mono ?_
    rintro e w2 ⟨p, bad, rfl, HQ2, hO2, hg2⟩
    obtain ⟨hO3, hG3⟩ := own_back (y := (j : Int)) HS7.out.own (by rw [nums_len]; exact HNP.out) HT1.out (by rwa [nums_app] at hO2) hg2
    have HS2 := Lib.hid (HS7.out.grown hG3 hO3)
    clear hO2 hg2 hO3 hG3
    go_wp2_with fail
    refine hK.out _ _ HS2.out (fun hH => ?_)
    clear hK K
    try simp only [LY]
    refine wpAnyH_take (i := 10) (oi := _) (v := ?_) rfl (by kernel_rfl) (by kernel_rfl) (by kernel_rfl) (fun _ _ _ h => h) (Or.inl ⟨by rfl, ?_⟩) hH ?_
    rotate_left 1
    ·intro Y hSY
     skip
     go_simp
     with_reducible rfl
    try simp only [LY]
    refine wpAnyH_take (i := 11) (oi := _) (v := ?_) rfl (by kernel_rfl) (by kernel_rfl) (by kernel_rfl) (fun _ _ _ h => h) (Or.inl ⟨by rfl, ?_⟩) hH ?_
    rotate_left 1
    ·intro Y hSY
     skip
     go_simp
     with_reducible rfl
    try simp only [LY]
    refine wpAnyH_take (i := 12) (oi := _) (v := ?_) rfl (by kernel_rfl) (by kernel_rfl) (by kernel_rfl) (fun _ _ _ h => h) (Or.inl ⟨by rfl, ?_⟩) hH ?_
    rotate_left 1
    ·intro Y hSY
     skip
     go_simp
     with_reducible rfl
    try simp only [LY]
    refine wpAnyH_take (i := 13) (oi := _) (v := ?_) rfl (by kernel_rfl) (by kernel_rfl) (by kernel_rfl) (fun _ _ _ h => h) (Or.inl ⟨by rfl, ?_⟩) hH ?_
    rotate_left 1
    ·intro Y hSY
     skip
     go_simp
     with_reducible rfl
    try simp only [LY]
    refine wpAnyH_take (i := 14) (oi := _) (v := ?_) rfl (by kernel_rfl) (by kernel_rfl) (by kernel_rfl) (fun _ _ _ h => h) (Or.inl ⟨by rfl, ?_⟩) hH ?_
    rotate_left 1
    ·intro Y hSY
     skip
     go_simp
     with_reducible rfl
    try simp only [LY]
    refine wpAnyH_done (by kernel_rfl) ?_ _
    clear hH HS7 HT1
    cases bad with
    | true =>
     go_wp2
     go_ret2
     cases hqq : qq with
     | some x =>
      have h := HQ2.out
      rw [hqq] at h
      refine ⟨p, true, rfl, Lib.hid ?_, HS2.out.own, HS2.out.g⟩
      rw [HX1.out x hqq]
      exact ⟨rfl, by have := h.2; rwa [List.append_assoc] at this⟩
     | none => have h := HQ2.out; rw [hqq] at h; cases h
    | false =>
     have HN : Hid (qq = none) := Lib.hid (by
      cases hqq : qq with
      | some x => have h := HQ2.out; rw [hqq] at h; cases h.1
      | none => rfl)
     have HJ2 := Lib.hid (HX2.out HN.out)
     clear HQ2 HX1 HX2
     go_wp2
     exact ⟨⟨j + 1, by go_num, by omega, HJ2, HS2⟩, by simp [intOf]; omega⟩
   ·obtain rfl : j = m := by omega
    have HN : Hid (q = none) := Lib.hid (by rw [← HJ.out]; exact badAtL_end (by rw [HL.out]; exact Nat.le_refl _))
    clear hlt HJ
    go_wp2
    go_ret2
    refine ⟨.slice none 0 0, false, rfl, Lib.hid ?_, HS.out.own, HS.out.g⟩
    rw [HN.out]
    exact rfl
end Go.Proofs.YtcpkjmpbpmeclaaGreatDoor
namespace Go.Proofs.YtcpkjmpbpmeclaaGreatDoor
open Go.RowKit
set_option maxRecDepth 100000
set_option linter.unusedVariables false
set_option linter.unusedSimpArgs false
set_option linter.unnecessarySimpa false

set_option maxHeartbeats 8000000 in
theorem rDeepW (w0 w : World) (k n bs ex : Int) (ng : Bool) (tx : ByteArray) (mA A : Option Addr) (ml mc m cp D np : Nat) (l : List VT) (pre : List Nat) (sA : Option Addr) (sc : Nat) (q : Option (List Nat))
    (hq : q = if isC k then (if 128 ≤ np then some [] else badAtL tooDeep l D 0) else none) (hlm : l.length = m) (hm : m ≤ 1000000000) (hnp : pre.length = np) (hnp2 : np ≤ 2000000000) (hb : Below w0.heap.size w0 w) (hr : VRow w0 A l) (ho : Own w w0.heap.size 3 .i64 (.slice sA np sc) (nums pre))
    (HK : Hid (∀ i (h : i < l.length) (X : World) (g cap : Nat), Below w0.heap.size w0 X → Own X w0.heap.size 3 .i64 (.slice (some ⟨g, 0, none⟩) (np + 1) cap) (nums (pre ++ [i])) → Calls Tryz.prog 55 #[(l[i]).agg, .slice (some ⟨g, 0, none⟩) (np + 1) cap] X (WrongP w0 X (badAt tooDeep (l[i]) D) (pre ++ [i]) (.slice (some ⟨g, 0, none⟩) (np + 1) cap)))) :
    Calls Tryz.prog 55 #[.agg #[.int .i8 k, .int .u64 n, .bool ng, .slice mA ml mc, .int .u64 bs, .int .i8 ex, .string tx, .slice A m cp], .slice sA np sc] w (WrongP w0 w q pre (.slice sA np sc)) := by
  have HS0 := Lib.hid (SW.new #[.int .i8 k, .int .u64 n, .bool ng, .slice mA ml mc, .int .u64 bs, .int .i8 ex, .string tx, .slice A m cp] hb ho)
  have HR := Lib.hid hr
  have HL := Lib.hid hlm
  have HNP := Lib.hid hnp
  have HQ := Lib.hid hq
  obtain ⟨sv, hsv⟩ : ∃ sv : Value, .slice sA np sc = sv := ⟨_, rfl⟩
  have HSV := Lib.hid hsv.symm
  rw [hsv] at HS0 ⊢
  clear hb ho hr hlm hnp hq hsv
  go_enter Tryz.func55, Tryz.ntmps55
  go_upto_region 1 with fail
  show Code.wp _ _ _ _ (w.alloc (.cells #[.int .i8 k, .int .u64 n, .bool ng, .slice mA ml mc, .int .u64 bs, .int .i8 ex, .string tx, .slice A m cp] 31))
  generalize (w.alloc (.cells #[.int .i8 k, .int .u64 n, .bool ng, .slice mA ml mc, .int .u64 bs, .int .i8 ex, .string tx, .slice A m cp] 31)) = W0 at *
  obtain ⟨⟨c0, c1, c2, c3, c4, c5, c6, c7⟩, _⟩ := blk8 HS0.out.box
  have HC : Hid (∀ W, Calls Tryz.prog 144 #[.agg #[.int .i8 k, .int .u64 n, .bool ng, .slice mA ml mc, .int .u64 bs, .int .i8 ex, .string tx, .slice A m cp]] W fun e w' => e = .returned (.bool (isC k)) ∧ Below W.heap.size W w') := Lib.hid fun W => refContainer_any _ _ _ _ _ _ _ _ W
  have HQ0 : Hid (isC k = false → q = none) := Lib.hid fun h => by rw [HQ.out, h]; rfl
  have HQ1 : Hid (isC k = true → 128 ≤ np → q = some []) := Lib.hid fun h h2 => by rw [HQ.out, h, if_pos rfl, if_pos h2]
  have HQ2 : Hid (isC k = true → ¬ 128 ≤ np → badAtL tooDeep l D 0 = q) := Lib.hid fun h h2 => by rw [HQ.out, h, if_pos rfl, if_neg h2]
  generalize isC k = ic at *
  cases ic with
  | false =>
    have HV := Lib.hid (HQ0.out rfl)
    clear HQ0 HQ1 HQ2 HQ HK
    go_wp2_with (go_at_call 144; go_must (refine (HC.out _).mono ?_); go_must (rintro e w1 ⟨rfl, hb1⟩))
    go_ret2
    have h1 := HS0.out.below hb1
    refine ⟨.slice none 0 0, false, rfl, Lib.hid ?_, h1.own, h1.g⟩
    rw [HV.out]
    exact rfl
  | true =>
   by_cases h128 : 128 ≤ np
   · have HV := Lib.hid (HQ1.out rfl h128)
     have hd : decide ((128 : Int) ≤ (np : Int)) = true := decide_eq_true (by omega)
     have hsv := HSV.out
     subst hsv
     clear HQ0 HQ1 HQ2 HQ HK h128
     go_wp2_with (go_at_call 144; go_must (refine (HC.out _).mono ?_); go_must (rintro e w1 ⟨rfl, hb1⟩))
     go_ret2
     have h1 := HS0.out.below hb1
     refine ⟨.slice sA np sc, true, rfl, Lib.hid ?_, h1.own, h1.g⟩
     rw [HV.out]
     exact ⟨rfl, by simpa using h1.own⟩
   · have HV := Lib.hid (HQ2.out rfl h128)
     have hd : decide ((128 : Int) ≤ (np : Int)) = false := decide_eq_false (by omega)
     have hsv := HSV.out
     subst hsv
     clear HQ0 HQ1 HQ2 HQ h128
     go_upto_region 5 with (go_at_call 144; go_must (refine (HC.out _).mono ?_); go_must (rintro e w1 ⟨rfl, hb1⟩))
     have HS1 := Lib.hid (HS0.out.below hb1)
     clear hb1 HS0 c0 c1 c2 c3 c4 c5 c6 c7
     go_wp2
     go_loopw [6] (fun t6 W => ∃ j : Nat, t6 = .int .i64 j ∧ j ≤ m ∧ Hid (badAtL tooDeep (l.drop j) D j = q) ∧ Hid (SW w0 w W #[.int .i8 k, .int .u64 n, .bool ng, .slice mA ml mc, .int .u64 bs, .int .i8 ex, .string tx, .slice A m cp] (.slice sA np sc) pre)) (fun t6 _ => m - (intOf t6).toNat)
     case atStart => exact ⟨0, rfl, Nat.zero_le _, Lib.hid (by rw [List.drop_zero]; exact HV.out), HS1⟩
     case round =>
       obtain ⟨j, rfl, hj, HJ, HS⟩ := hrel
       obtain ⟨⟨_, _, _, _, _, _, _, c7⟩, _⟩ := blk8 HS.out.box
       by_cases hlt : j < m
       · have hjl : j < l.length := by rw [HL.out]; exact hlt
         obtain ⟨qq, hqq⟩ : ∃ qq, badAt tooDeep (l[j]'hjl) D = qq := ⟨_, rfl⟩
         have hkj := HK.out j hjl
         rw [hqq] at hkj
         have HKJ := Lib.hid hkj
         obtain ⟨bA, off, hA, hld⟩ := vrow_load HR.out j hjl
         subst hA
         have HLD := Lib.hid hld
         have HX1 : Hid (∀ x, qq = some x → q = some (j :: x)) := Lib.hid fun x hx => by rw [← HJ.out]; exact badAtL_some hjl (hqq.trans hx)
         have HX2 : Hid (qq = none → badAtL tooDeep (l.drop (j + 1)) D (j + 1) = q) := Lib.hid fun hx => by rw [← HJ.out]; exact (badAtL_none hjl (hqq.trans hx)).symm
         obtain ⟨Tj, hTj⟩ : ∃ T, l[j] = T := ⟨_, rfl⟩
         rw [hTj] at HKJ HLD
         clear hkj hld hqq hTj hjl HJ
         go_upto_region 8 with fail
         refine wp_region_held_drew (S := fun X => SW w0 w X _ (.slice sA np sc) pre) (by kernel_rfl) (HS.out.below (Below.refl _ wr).drew) (fun hH => ?_)
         generalize wr.drew = Y0 at *
         refine wpAnyH_take (i := 0) (oi := _) (v := ?_) rfl (by kernel_rfl) (by kernel_rfl) (by kernel_rfl) (fun _ _ _ h => h) (Or.inl ⟨by rfl, ?_⟩) hH ?_
         rotate_left 1
         · intro Y hSY
           skip
           go_simp
           with_reducible rfl
         try simp only [LY]
         refine wpAnyH_take (i := 1) (oi := _) (v := ?_) rfl (by kernel_rfl) (by kernel_rfl) (by kernel_rfl) (fun _ _ _ h => h) (Or.inl ⟨by rfl, ?_⟩) hH ?_
         rotate_left 1
         · intro Y hSY
           have s7 := (blk8 hSY.box).1.2.2.2.2.2.2.2
           go_simp
           with_reducible rfl
         try simp only [LY]
         refine wpAnyH_take (i := 2) (oi := _) (v := ?_) rfl (by kernel_rfl) (by kernel_rfl) (by kernel_rfl) (fun _ _ _ h => h) (Or.inl ⟨by rfl, ?_⟩) hH ?_
         rotate_left 1
         · intro Y hSY
           skip
           go_simp
           with_reducible rfl
         try simp only [LY]
         refine wpAnyH_take (i := 3) (oi := _) (v := ?_) rfl (by kernel_rfl) (by kernel_rfl) (by kernel_rfl) (fun _ _ _ h => h) (Or.inl ⟨by rfl, ?_⟩) hH ?_
         rotate_left 1
         · intro Y hSY
           skip
           go_simp
           with_reducible rfl
         try simp only [LY]
         refine wpAnyH_take (i := 4) (oi := _) (v := Tj.agg) rfl (by kernel_rfl) (by kernel_rfl) (by kernel_rfl) (fun _ _ _ h => h) (yieldsIf_run (by rfl) _ _ rfl _ rfl _ (fun Y hY => HLD.out Y hY.b)) hH ?_
         try simp only [LY]
         refine wpAnyH_take (i := 5) (oi := _) (v := ?_) rfl (by kernel_rfl) (by kernel_rfl) (by kernel_rfl) (fun _ _ _ h => h) (Or.inl ⟨by rfl, ?_⟩) hH ?_
         rotate_left 1
         · intro Y hSY
           skip
           go_simp
           with_reducible rfl
         try simp only [LY]
         refine wpAnyH_take (i := 6) (oi := _) (v := ?_) rfl (by kernel_rfl) (by kernel_rfl) (by kernel_rfl) (fun _ _ _ h => h) (Or.inl ⟨by rfl, ?_⟩) hH ?_
         rotate_left 1
         · intro Y hSY
           skip
           go_simp
           with_reducible rfl
         try simp only [LY]
         refine wpAnyH_ready (rs := [7]) (by kernel_rfl) (by simp) ?_
         refine AllReadyH.cons rfl (fun K hK => ?_) AllReadyH.nil
         go_simp
         refine hK.out _ _ (hH.below ((Below.refl _ _).alloc (Nat.le_refl _) _)) (fun hH => ?_)
         clear hK K
         try simp only [LY]
         refine wpAnyH_ready (rs := [8]) (by kernel_rfl) (by simp) ?_
         refine AllReadyH.cons rfl (fun K hK => ?_) AllReadyH.nil
         obtain ⟨i0, z0, hi, hz0, hz1, hz2, hzs⟩ := infop_int
         refine step_tight _ rfl (.tmp 29) (.tmp 31) 93 rfl w0.heap.size 3 i0 z0 1 8 Tryz.underlying93 hi hz0 hz1 hz2 hzs (by decide) (.slice sA np sc) np (numsK .i64 (nums pre)) rfl (by have := hH.own; unfold Own at this; rwa [nums_len, HNP.out] at this) ⟨Y0.heap.size, 0, none⟩ 1 [.int .i64 (j : Int)] rfl rfl (fun a u hu => ?_) (fun u hu => by simp at hu; subst hu; rfl) (by omega) (by decide) hH.b.size ?_
         · match a, hu with
           | 0, hu => simp at hu; subst hu; rw [add_plain]; simp
         intro g cap w1 hown1 ht1
         have HO1 : Hid (Own w1 w0.heap.size 3 .i64 (.slice (some ⟨g, 0, none⟩) (np + 1) cap) (nums (pre ++ [j]))) := Lib.hid (by unfold Own; rw [nums_app, List.length_append, nums_len, HNP.out, numsK_append]; exact hown1)
         have HT1 := Lib.hid ht1
         have HS7 := Lib.hid hH
         have hS1 := hH.grown (tight_grown ht1) (own_tight hH.own (by rw [nums_len]; exact HNP.out) ht1 (y := (j : Int)) (by have := HO1.out; rwa [nums_app] at this))
         refine hK.out _ _ hS1 (fun hH => ?_)
         clear hK K hown1 ht1 hi hz0 hz1 hz2 hzs
         try simp only [LY]
         refine wpAnyH_ready (rs := [9]) (by kernel_rfl) (by simp) ?_
         refine AllReadyH.cons rfl (fun K hK => ?_) AllReadyH.nil
         go_simp
         go_at_call 55
         refine (HKJ.out _ g cap hH.b HO1.out).mono ?_
         rintro e w2 ⟨p, bad, rfl, HQ2, hO2, hg2⟩
         obtain ⟨hO3, hG3⟩ := own_back (y := (j : Int)) HS7.out.own (by rw [nums_len]; exact HNP.out) HT1.out (by rwa [nums_app] at hO2) hg2
         have HS2 := Lib.hid (HS7.out.grown hG3 hO3)
         clear hO2 hg2 hO3 hG3
         go_wp2_with fail
         refine hK.out _ _ HS2.out (fun hH => ?_)
         clear hK K
         try simp only [LY]
         refine wpAnyH_take (i := 10) (oi := _) (v := ?_) rfl (by kernel_rfl) (by kernel_rfl) (by kernel_rfl) (fun _ _ _ h => h) (Or.inl ⟨by rfl, ?_⟩) hH ?_
         rotate_left 1
         · intro Y hSY
           skip
           go_simp
           with_reducible rfl
         try simp only [LY]
         refine wpAnyH_take (i := 11) (oi := _) (v := ?_) rfl (by kernel_rfl) (by kernel_rfl) (by kernel_rfl) (fun _ _ _ h => h) (Or.inl ⟨by rfl, ?_⟩) hH ?_
         rotate_left 1
         · intro Y hSY
           skip
           go_simp
           with_reducible rfl
         try simp only [LY]
         refine wpAnyH_take (i := 12) (oi := _) (v := ?_) rfl (by kernel_rfl) (by kernel_rfl) (by kernel_rfl) (fun _ _ _ h => h) (Or.inl ⟨by rfl, ?_⟩) hH ?_
         rotate_left 1
         · intro Y hSY
           skip
           go_simp
           with_reducible rfl
         try simp only [LY]
         refine wpAnyH_take (i := 13) (oi := _) (v := ?_) rfl (by kernel_rfl) (by kernel_rfl) (by kernel_rfl) (fun _ _ _ h => h) (Or.inl ⟨by rfl, ?_⟩) hH ?_
         rotate_left 1
         · intro Y hSY
           skip
           go_simp
           with_reducible rfl
         try simp only [LY]
         refine wpAnyH_take (i := 14) (oi := _) (v := ?_) rfl (by kernel_rfl) (by kernel_rfl) (by kernel_rfl) (fun _ _ _ h => h) (Or.inl ⟨by rfl, ?_⟩) hH ?_
         rotate_left 1
         · intro Y hSY
           skip
           go_simp
           with_reducible rfl
         try simp only [LY]
         refine wpAnyH_done (by kernel_rfl) ?_ _
         clear hH HS7 HT1
         cases bad with
         | true =>
           go_wp2
           go_ret2
           cases hqq : qq with
           | some x =>
             have h := HQ2.out
             rw [hqq] at h
             refine ⟨p, true, rfl, Lib.hid ?_, HS2.out.own, HS2.out.g⟩
             rw [HX1.out x hqq]
             exact ⟨rfl, by have := h.2; rwa [List.append_assoc] at this⟩
           | none => have h := HQ2.out; rw [hqq] at h; cases h
         | false =>
           have HN : Hid (qq = none) := Lib.hid (by
             cases hqq : qq with
             | some x => have h := HQ2.out; rw [hqq] at h; cases h.1
             | none => rfl)
           have HJ2 := Lib.hid (HX2.out HN.out)
           clear HQ2 HX1 HX2
           go_wp2
           exact ⟨⟨j + 1, by go_num, by omega, HJ2, HS2⟩, by simp [intOf]; omega⟩
       · obtain rfl : j = m := by omega
         have HN : Hid (q = none) := Lib.hid (by rw [← HJ.out]; exact badAtL_end (by rw [HL.out]; exact Nat.le_refl _))
         clear hlt HJ
         go_wp2
         go_ret2
         refine ⟨.slice none 0 0, false, rfl, Lib.hid ?_, HS.out.own, HS.out.g⟩
         rw [HN.out]
         exact rfl
end Go.Proofs.YtcpkjmpbpmeclaaGreatDoor
namespace Go.Proofs.YtcpkjmpbpmeclaaGreatDoor
open Go.RowKit
set_option maxRecDepth 100000
set_option linter.unusedVariables false
set_option linter.unusedSimpArgs false
set_option linter.unnecessarySimpa false

theorem rWrong_n (w0 : World) : ∀ (t : Nat) (v : VT) (D np : Nat) (pre : List Nat) (sA : Option Addr) (sc : Nat) (w : World), v.sz ≤ t → v.sz ≤ 1000000000 → pre.length = np → np + v.sz ≤ 2000000000 → In w0 v → Below w0.heap.size w0 w →
  Own w w0.heap.size 3 .i64 (.slice sA np sc) (nums pre) → Calls Tryz.prog 53 #[v.agg, .slice sA np sc] w (WrongP w0 w (badAt notAlone v D) pre (.slice sA np sc))
 | 0, v, _, _, _, _, _, _, h, _, _, _, _, _, _ => by have := v.sz_pos; omega
 | t + 1, v, D, np, pre, sA, sc, w, ht, hz, hnp, hs, hI, hb, ho => by
  have pv := hI.parts
  have hsz := VT.sz_l v
  have hln := VT.szL_len v.l
  refine rWrongW w0 w v.k v.n v.bits v.ext v.neg v.text v.mA v.A v.mag.length v.mcap v.l.length v.cap (if isC v.k then D + 1 else D) np v.l pre sA sc (alone v) _ ?_ rfl (by omega) hnp (by omega) hb pv.row ho
   (Lib.hid fun W hW => refAlone_any v W hz (hI.below hW)) (Lib.hid fun i hi X g cap hX hO => ?_)
  ·rw [badAt_eq]
   unfold notAlone
   cases alone v <;> rfl
  ·have hm := List.getElem_mem hi
   have hk := VT.kid_sz hm
   exact rWrong_n w0 t _ _ (np + 1) (pre ++ [i]) _ cap X (by omega) (by omega) (by simp [hnp]) (by omega) (hI.kid hm) hX hO
theorem rDeep_n (w0 : World) : ∀ (t : Nat) (v : VT) (np : Nat) (pre : List Nat) (sA : Option Addr) (sc : Nat) (w : World), v.sz ≤ t → v.sz ≤ 1000000000 → pre.length = np → np + v.sz ≤ 2000000000 → In w0 v → AllV Alone v → Below w0.heap.size w0 w →
  Own w w0.heap.size 3 .i64 (.slice sA np sc) (nums pre) → Calls Tryz.prog 55 #[v.agg, .slice sA np sc] w (WrongP w0 w (badAt tooDeep v np) pre (.slice sA np sc))
 | 0, v, _, _, _, _, _, h, _, _, _, _, _, _, _ => by have := v.sz_pos; omega
 | t + 1, v, np, pre, sA, sc, w, ht, hz, hnp, hs, hI, ha, hb, ho => by
  have pv := hI.parts
  have hsz := VT.sz_l v
  have hln := VT.szL_len v.l
  obtain ⟨a1, a2⟩ := AllV.eq.1 ha
  refine rDeepW w0 w v.k v.n v.bits v.ext v.neg v.text v.mA v.A v.mag.length v.mcap v.l.length v.cap (np + 1) np v.l pre sA sc _ ?_ rfl (by omega) hnp (by omega) hb pv.row ho (Lib.hid fun i hi X g cap hX hO => ?_)
  ·rw [badAt_eq]
   unfold tooDeep
   cases hc : isC v.k with
   | false =>
    rw [alone_leaf a1 hc]
    simp [badAtL]
   | true => simp
  ·have hm := List.getElem_mem hi
   have hk := VT.kid_sz hm
   exact rDeep_n w0 t _ (np + 1) (pre ++ [i]) _ cap X (by omega) (by omega) (by simp [hnp]) (by omega) (hI.kid hm) (a2.mem hm) hX hO
end Go.Proofs.YtcpkjmpbpmeclaaGreatDoor
namespace Go.Proofs.YtcpkjmpbpmeclaaGreatDoor
open Go.RowKit
set_option maxRecDepth 100000
set_option linter.unusedVariables false
set_option linter.unusedSimpArgs false
set_option linter.unnecessarySimpa false

/-- The document's fault: number, place, path. -/
abbrev faultC (k at_ : Int) (s : ByteArray) : Array Value := #[.int .i64 k, .int .i64 at_, .string s]
def faultA : Option (Int × List Nat) → Value
 | some (k, r) => .agg (faultC k 0 (strU (pathB r)))
 | none => .agg (faultC 0 0 ⟨#[]⟩)
theorem nums_nil : nums [] = [] := rfl
/-- The boxes of Check: the value, the fault. -/
structure CkW (w W : World) (cs : Array Value) : Prop where
 b : Below w.heap.size w W
 hv : W.heap[w.heap.size]? = some (.cells cs 31 (0, 0))
 hf : W.heap[w.heap.size + 1]? = some (.cells (faultC 0 0 ⟨#[]⟩) 42 (0, 0))
theorem CkW.below {w W W' : World} {cs : Array Value} (h : CkW w W cs) (hb : Below W.heap.size W W') : CkW w W' cs :=
 ⟨trans_b h.b hb, (hb.block _ (Array.getElem?_eq_some_iff.1 h.hv).1).trans h.hv, (hb.block _ (Array.getElem?_eq_some_iff.1 h.hf).1).trans h.hf⟩
theorem CkW.new (w : World) (cs : Array Value) : CkW w ((w.alloc (.cells cs 31)).alloc (.cells (faultC 0 0 ⟨#[]⟩) 42)) cs := by
 refine ⟨((Below.refl _ _).alloc (Nat.le_refl _) _).alloc (by simp) _, ?_, ?_⟩
 ·rw [Below.heap_alloc _ _ _ (by simp), heap_alloc_new w _]
 ·have := heap_alloc_new (w.alloc (.cells cs 31)) (.cells (faultC 0 0 ⟨#[]⟩) 42)
  simpa using this
theorem size_fault : (Tryz.prog.info? 42).map (·.size) = some 3 := by kernel_rfl
theorem CkW.load {w W : World} {cs : Array Value} (h : CkW w W cs) (k at_ : Int) (s : ByteArray) :
  Sem.run Tryz.prog (loadVar 42 ⟨w.heap.size + 1, 0, none⟩) (((W.setCell ⟨w.heap.size + 1, 0, none⟩ (.int .i64 k)).setCell ⟨w.heap.size + 1, 1, none⟩ (.int .i64 at_)).setCell ⟨w.heap.size + 1, 2, none⟩ (.string s)) = .ok (.agg (faultC k at_ s)) (((W.setCell ⟨w.heap.size + 1, 0, none⟩ (.int .i64 k)).setCell ⟨w.heap.size + 1, 1, none⟩ (.int .i64 at_)).setCell ⟨w.heap.size + 1, 2, none⟩ (.string s)) ∧
   Below w.heap.size w (((W.setCell ⟨w.heap.size + 1, 0, none⟩ (.int .i64 k)).setCell ⟨w.heap.size + 1, 1, none⟩ (.int .i64 at_)).setCell ⟨w.heap.size + 1, 2, none⟩ (.string s)) := by
 have hT2 : W.there (w.heap.size + 1) 0 3 := there_row h.hf _ _ (Nat.le_refl _)
 have hLd := run_loadVar_mid (P := Tryz.prog) (W.setCells (w.heap.size + 1) 0 [.int .i64 k, .int .i64 at_, .string s]) (w.heap.size + 1) 0 42 [.int .i64 k, .int .i64 at_, .string s] _ (World.rangeAt_setCells_same _ _ _ _ hT2) Tryz.underlying42 rfl size_fault
 exact ⟨hLd, below_setCells [.int .i64 k, .int .i64 at_, .string s] _ 0 _ h.b (Nat.le_succ _)⟩
theorem blk3 {W : World} {p : Nat} {t : TypeId} {a b c : Value} (h : W.heap[p]? = some (.cells #[a, b, c] t (0, 0))) : (W.cell? ⟨p, 0, none⟩ = some a ∧ W.cell? ⟨p, 1, none⟩ = some b ∧ W.cell? ⟨p, 2, none⟩ = some c) ∧ W.frozen? ⟨p, 0, none⟩ = false ∧ W.frozen? ⟨p, 1, none⟩ = false ∧ W.frozen? ⟨p, 2, none⟩ = false :=
 ⟨⟨cell_of_row _ _ _ _ _ _ h, cell_of_row _ _ _ _ _ _ h, cell_of_row _ _ _ _ _ _ h⟩, by simp [World.frozen?, h], by simp [World.frozen?, h], by simp [World.frozen?, h]⟩
theorem wrongQ_row {B : Nat} {r : List Nat} {p : Value} {bad : Bool} {W : World} (h : WrongQ B (some r) [] p bad W) : bad = true ∧ ∃ A c, p = .slice A r.length c ∧ RK W .i64 A (nums r) := by
 obtain ⟨h1, h2⟩ := h
 obtain ⟨A, c, e, hr, -⟩ := h2.slice
 rw [List.nil_append] at e hr
 exact ⟨h1, A, c, by rw [e, nums_len], hr⟩
set_option maxHeartbeats 4000000 in
theorem refCheckW (w : World) (k n bs ex : Int) (ng : Bool) (tx : ByteArray) (mA A : Option Addr) (ml mc m cp : Nat) (q1 q2 : Option (List Nat)) (Q : Value → Prop)
  (hq1 : ∀ r, q1 = some r → r.length ≤ 1000000000 ∧ ∀ x ∈ r, x ≤ 1000000000) (hq2 : ∀ r, q2 = some r → r.length ≤ 1000000000 ∧ ∀ x ∈ r, x ≤ 1000000000)
  (H1 : Hid (∀ W, Below w.heap.size w W → Calls Tryz.prog 53 #[.agg #[.int .i8 k, .int .u64 n, .bool ng, .slice mA ml mc, .int .u64 bs, .int .i8 ex, .string tx, .slice A m cp], .slice none 0 0] W fun e w' => ∃ p bad, e = .returned (.tuple #[p, .bool bad]) ∧ Hid (WrongQ w.heap.size q1 [] p bad w') ∧ Below W.heap.size W w'))
  (H2 : Hid (q1 = none → ∀ W, Below w.heap.size w W → Calls Tryz.prog 55 #[.agg #[.int .i8 k, .int .u64 n, .bool ng, .slice mA ml mc, .int .u64 bs, .int .i8 ex, .string tx, .slice A m cp], .slice none 0 0] W fun e w' => ∃ p bad, e = .returned (.tuple #[p, .bool bad]) ∧ Hid (WrongQ w.heap.size q2 [] p bad w') ∧ Below W.heap.size W w'))
  (HQ1 : Hid (∀ r, q1 = some r → Q (.agg (faultC 1 0 (strU (pathB r)))))) (HQ2 : Hid (∀ r, q1 = none → q2 = some r → Q (.agg (faultC 5 0 (strU (pathB r)))))) (HQ3 : Hid (q1 = none → q2 = none → Q (.agg (faultC 0 0 ⟨#[]⟩)))) :
  Calls Tryz.prog 19 #[.agg #[.int .i8 k, .int .u64 n, .bool ng, .slice mA ml mc, .int .u64 bs, .int .i8 ex, .string tx, .slice A m cp]] w fun e w' => ∃ v, e = .returned v ∧ Q v ∧ Below w.heap.size w w' := by
 have HS0 := Lib.hid (CkW.new w #[.int .i8 k, .int .u64 n, .bool ng, .slice mA ml mc, .int .u64 bs, .int .i8 ex, .string tx, .slice A m cp])
 have HB1 := Lib.hid hq1
 have HB2 := Lib.hid hq2
 clear hq1 hq2
 go_enter Tryz.func19, Tryz.ntmps19
 go_upto_region 1 with fail
 show Code.wp _ _ _ _ ((w.alloc (.cells #[.int .i8 k, .int .u64 n, .bool ng, .slice mA ml mc, .int .u64 bs, .int .i8 ex, .string tx, .slice A m cp] 31)).alloc (.cells (faultC 0 0 ⟨#[]⟩) 42))
 generalize ((w.alloc (.cells #[.int .i8 k, .int .u64 n, .bool ng, .slice mA ml mc, .int .u64 bs, .int .i8 ex, .string tx, .slice A m cp] 31)).alloc (.cells (faultC 0 0 ⟨#[]⟩) 42)) = W0 at *
 obtain ⟨⟨c0, c1, c2, c3, c4, c5, c6, c7⟩, _⟩ := blk8 HS0.out.hv
 go_upto_region 2 with (go_at_call 53; go_must (refine (H1.out _ HS0.out.b).mono ?_); go_must (rintro e w1 ⟨p1, bad1, rfl, HW1, hb1⟩; have HS1 := Lib.hid (HS0.out.below hb1); clear hb1 c0 c1 c2 c3 c4 c5 c6 c7))
 cases q1 with
 | some r =>
  obtain ⟨rfl, A1, cc, rfl, hrow⟩ := wrongQ_row HW1.out
  have HROW := Lib.hid hrow
  clear hrow HS0 H1 H2 HQ2 HQ3 HW1
  have HPA : Hid (∀ W, Below w1.heap.size w1 W → Calls Tryz.prog 54 #[.slice A1 r.length cc] W fun e w' => e = .returned (.string (strU (pathB r))) ∧ Below W.heap.size W w') := Lib.hid fun W hW => refPath_any A1 _ cc r W rfl (HB1.out r rfl).1 (fun x hx => by have := (HB1.out r rfl).2 x hx; omega) (HROW.out.below hW)
  have HV := Lib.hid (HQ1.out r (by first | rfl | trivial))
  generalize strU (pathB r) = sp at *
  obtain ⟨rn, hrn⟩ : ∃ rn, r.length = rn := ⟨_, rfl⟩
  rw [hrn] at HPA ⊢
  clear hrn
  go_upto_region 3 with fail
  go_wp2_with (go_at_call 54; go_must (refine (HPA.out _ (Below.refl _ _)).mono ?_); go_must (rintro e w9 ⟨rfl, hb9⟩; have HS9 := Lib.hid (HS1.out.below hb9); clear hb9; obtain ⟨⟨d0, d1, d2⟩, f0, f1, f2⟩ := blk3 HS9.out.hf))
  obtain ⟨hLd, hB⟩ := HS9.out.load 1 0 sp
  refine bodyPost_ret (v := .agg #[.int .i64 1, .int .i64 0, .string sp]) ?_ rfl ⟨_, rfl, HV.out, hB⟩
  simp [results, Tryz.results19, hLd, asAddr, Act.put]
 | none =>
  have hbad := HW1.out
  simp only [WrongQ] at hbad
  subst hbad
  have H2 := Lib.hid (H2.out rfl)
  obtain ⟨⟨c0, c1, c2, c3, c4, c5, c6, c7⟩, _⟩ := blk8 HS1.out.hv
  clear HS0 HW1 H1 HQ1
  go_upto_region 5 with (go_at_call 55; go_must (refine (H2.out _ HS1.out.b).mono ?_); go_must (rintro e w2 ⟨p2, bad2, rfl, HW2, hb2⟩; have HS2 := Lib.hid (HS1.out.below hb2); clear hb2 c0 c1 c2 c3 c4 c5 c6 c7))
  cases q2 with
  | some r =>
   obtain ⟨rfl, A1, cc, rfl, hrow⟩ := wrongQ_row HW2.out
   have HROW := Lib.hid hrow
   clear hrow HW2 H2 HQ3 HS1
   have HPA : Hid (∀ W, Below w2.heap.size w2 W → Calls Tryz.prog 54 #[.slice A1 r.length cc] W fun e w' => e = .returned (.string (strU (pathB r))) ∧ Below W.heap.size W w') := Lib.hid fun W hW => refPath_any A1 _ cc r W rfl (HB2.out r rfl).1 (fun x hx => by have := (HB2.out r rfl).2 x hx; omega) (HROW.out.below hW)
   have HV := Lib.hid (HQ2.out r (by first | rfl | trivial) (by first | rfl | trivial))
   generalize strU (pathB r) = sp at *
   obtain ⟨rn, hrn⟩ : ∃ rn, r.length = rn := ⟨_, rfl⟩
   rw [hrn] at HPA ⊢
   clear hrn
   go_upto_region 6 with fail
   go_wp2_with (go_at_call 54; go_must (refine (HPA.out _ (Below.refl _ _)).mono ?_); go_must (rintro e w9 ⟨rfl, hb9⟩; have HS9 := Lib.hid (HS2.out.below hb9); clear hb9; obtain ⟨⟨d0, d1, d2⟩, f0, f1, f2⟩ := blk3 HS9.out.hf))
   obtain ⟨hLd, hB⟩ := HS9.out.load 5 0 sp
   refine bodyPost_ret (v := .agg #[.int .i64 5, .int .i64 0, .string sp]) ?_ rfl ⟨_, rfl, HV.out, hB⟩
   simp [results, Tryz.results19, hLd, asAddr, Act.put]
  | none =>
   have hbad := HW2.out
   simp only [WrongQ] at hbad
   subst hbad
   have HV := Lib.hid (HQ3.out (by first | rfl | trivial) (by first | rfl | trivial))
   obtain ⟨⟨d0, d1, d2⟩, f0, f1, f2⟩ := blk3 HS2.out.hf
   clear HW2 H2 HQ2
   go_wp2
   obtain ⟨hLd, hB⟩ := HS2.out.load 0 0 ⟨#[]⟩
   refine bodyPost_ret (v := .agg #[.int .i64 0, .int .i64 0, .string ⟨#[]⟩]) ?_ rfl ⟨_, rfl, HV.out, hB⟩
   simp [results, Tryz.results19, hLd, asAddr, Act.put]
theorem wrongP_below {w W w' : World} {q : Option (List Nat)} {e : Ending} (h : WrongP w W q [] (.slice none 0 0) e w') : ∃ p bad, e = .returned (.tuple #[p, .bool bad]) ∧ Hid (WrongQ w.heap.size q [] p bad w') ∧ Below W.heap.size W w' := by
 obtain ⟨p, bad, e1, h1, _, hg⟩ := h
 exact ⟨p, bad, e1, h1, ⟨hg.os, hg.tape, hg.output, hg.size, fun i hi => hg.block i hi (by simp [Value.ownBlock])⟩⟩
theorem refCheck_any (v : VT) (w : World) (hz : v.sz ≤ 1000000000) (hI : In w v) :
  Calls Tryz.prog 19 #[v.agg] w fun e w' => e = .returned (faultA (checkV v)) ∧ Below w.heap.size w w' := by
 have sm : ∀ (p : VT → Nat → Bool) (r : List Nat), badAt p v 0 = some r → r.length ≤ 1000000000 ∧ ∀ x ∈ r, x ≤ 1000000000 := fun p r h => by
  have := badAt_small p _ v 0 r (Nat.le_refl _) h
  exact ⟨by omega, fun x hx => by have := this.2 x hx; omega⟩
 refine (refCheckW w v.k v.n v.bits v.ext v.neg v.text v.mA v.A v.mag.length v.mcap v.l.length v.cap (badAt notAlone v 0) (badAt tooDeep v 0) (fun u => u = faultA (checkV v)) (sm _) (sm _)
  (Lib.hid fun W hW => (rWrong_n w _ v 0 0 [] none 0 W (Nat.le_refl _) hz rfl (by omega) hI hW (Own.nil _ _ _ _)).mono fun e w' h => wrongP_below h)
  (Lib.hid fun hq W hW => (rDeep_n w _ v 0 [] none 0 W (Nat.le_refl _) hz rfl (by omega) hI (all_alone_n _ v 0 (Nat.le_refl _) hq) hW (Own.nil _ _ _ _)).mono fun e w' h => wrongP_below h)
  (Lib.hid fun r h => ?_) (Lib.hid fun r h h2 => ?_) (Lib.hid fun h h2 => ?_)).mono fun e w' ⟨u, e1, e2, hb⟩ => ⟨by rw [e1, e2], hb⟩
 ·unfold checkV; rw [h]; rfl
 ·unfold checkV; rw [h, h2]; rfl
 ·unfold checkV; rw [h, h2]; rfl
theorem faultA_code (v : VT) (w : World) : ∃ (k : Int) (s : ByteArray), faultA (checkV v) = .agg (faultC k 0 s) ∧ (k == 0) = goodV v ∧ (goodV v = false → k = 1 ∨ k = 5) := by
 unfold goodV checkV
 cases badAt notAlone v 0 with
 | some r => exact ⟨1, _, rfl, rfl, fun _ => .inl rfl⟩
 | none =>
  cases badAt tooDeep v 0 with
  | some r => exact ⟨5, _, rfl, rfl, fun _ => .inr rfl⟩
  | none => exact ⟨0, _, rfl, rfl, fun h => by simp at h⟩
theorem refGoodW (k n bs ex : Int) (ng : Bool) (tx : ByteArray) (mA A : Option Addr) (ml mc m cp : Nat) (w : World) (c : Int) (s : ByteArray) (g : Bool) (hg : (c == 0) = g)
  (HC : Hid (∀ W, Below w.heap.size w W → Calls Tryz.prog 19 #[.agg #[.int .i8 k, .int .u64 n, .bool ng, .slice mA ml mc, .int .u64 bs, .int .i8 ex, .string tx, .slice A m cp]] W fun e w' => e = .returned (.agg #[.int .i64 c, .int .i64 0, .string s]) ∧ Below W.heap.size W w')) :
  Calls Tryz.prog 33 #[.agg #[.int .i8 k, .int .u64 n, .bool ng, .slice mA ml mc, .int .u64 bs, .int .i8 ex, .string tx, .slice A m cp]] w fun e w' => e = .returned (.bool g) ∧ Below w.heap.size w w' := by
 have hf : ∀ W, Sem.run Tryz.prog (Instr.field 42 (.agg #[.int .i64 c, .int .i64 0, .string s]) 0) W = .ok (.int .i64 c) W := fun _ => rfl
 have HB0 : Hid (Below w.heap.size w (w.alloc (.cells #[.int .i8 k, .int .u64 n, .bool ng, .slice mA ml mc, .int .u64 bs, .int .i8 ex, .string tx, .slice A m cp] 31))) := Lib.hid ((Below.refl _ _).alloc (Nat.le_refl _) _)
 go_enter Tryz.func33, Tryz.ntmps33
 go_wp2_with (go_at_call 19; go_must (refine (HC.out _ HB0.out).mono ?_); go_must (rintro e w1 ⟨rfl, hb1⟩))
 go_ret
 exact ⟨rfl, trans_b HB0.out hb1⟩
theorem refGood_any (v : VT) (w : World) (hz : v.sz ≤ 1000000000) (hI : In w v) :
  Calls Tryz.prog 33 #[v.agg] w fun e w' => e = .returned (.bool (goodV v)) ∧ Below w.heap.size w w' := by
 obtain ⟨k, s, e1, e2, _⟩ := faultA_code v w
 exact refGoodW v.k v.n v.bits v.ext v.neg v.text v.mA v.A v.mag.length v.mcap v.l.length v.cap w k s _ e2 (Lib.hid fun W hW => by
  have := refCheck_any v W hz (hI.below hW)
  rwa [e1] at this)
end Go.Proofs.YtcpkjmpbpmeclaaGreatDoor
