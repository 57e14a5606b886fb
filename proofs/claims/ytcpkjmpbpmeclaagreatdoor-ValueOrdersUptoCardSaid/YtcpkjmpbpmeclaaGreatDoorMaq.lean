/- Faa · Fab · Fac · Fad · Fae · Faf · Fag: merged. -/
import Derived.Test.YtcpkjmpbpmeclaaGreatDoorMae
import Derived.Test.YtcpkjmpbpmeclaaGreatDoorMah
import Derived.Test.YtcpkjmpbpmeclaaGreatDoorMShelf
import Derived.Deep.DeepMust
import Derived.Laws.CopyOwn
import Derived.Test.YtcpkjmpbpmeclaaGreatDoorMaj
namespace Go.Proofs.YtcpkjmpbpmeclaaGreatDoor
open Go.RowKit
set_option maxRecDepth 100000
set_option linter.unusedVariables false
set_option linter.unusedSimpArgs false
set_option linter.unnecessarySimpa false

/-- The table of math/bits lies as its text lays it. -/
def Bruijn (w : World) : Prop := Go.Proofs.TabAt 14 Lib.deBruijn64tab w
theorem Bruijn.below {w w' : World} (h : Bruijn w) (hb : Below w.heap.size w w') : Bruijn w' := fun j hj => keep1 hb (h j hj)
theorem tz64_any (x : Nat) (hx : x < 18446744073709551616) (hx0 : x ≠ 0) (w : World) (hT : Bruijn w) :
  Calls Tryz.prog 246 #[.int .u64 x] w fun e w' => e = .returned (.int .i64 (Lib.ctz 64 x : Nat)) ∧ w' = w :=
 Tryz.bits_TrailingZeros64 x hx w fun _ => hT
theorem shInf_any (w : World) : Calls Tryz.prog 225 #[.agg #[.int .i64 52, .int .i64 (-1074), .int .i64 11]] w fun e w' => e = .returned (.int .u64 9218868437227405312) ∧ Below w.heap.size w w' := by
 have hba : Below w.heap.size w (w.alloc (.cells #[.int .i64 52, .int .i64 (-1074), .int .i64 11] 274)) := (Below.refl _ _).alloc (Nat.le_refl _) _
 have h0 := heap_alloc_new w (.cells #[.int .i64 52, .int .i64 (-1074), .int .i64 11] 274)
 have c : ∀ j : Nat, (w.alloc (.cells #[.int .i64 52, .int .i64 (-1074), .int .i64 11] 274)).cell? ⟨w.heap.size, j, none⟩ = (#[.int .i64 52, .int .i64 (-1074), .int .i64 11] : Array Value)[j]? := fun j => cell_of_row _ _ _ _ _ _ h0
 have c0 := c 0
 have c1 := c 1
 have c2 := c 2
 have HB := Lib.hid hba
 clear c h0 hba
 go_enter Tryz.func225, Tryz.ntmps225
 go_upto_region 1 with fail
 show Code.wp _ _ _ _ (w.alloc (.cells #[.int .i64 52, .int .i64 (-1074), .int .i64 11] 274))
 generalize (w.alloc (.cells #[.int .i64 52, .int .i64 (-1074), .int .i64 11] 274)) = W at *
 simp at c0 c1 c2
 go_region_law (go_simp; go_at_call 216; refine (shSign_any _).mono ?_; rintro e w1 ⟨rfl, hb1'⟩; have hb1 : Hid (Below W.heap.size W w1) := Lib.hid (by first | exact hb1' | exact ((Below.refl W.heap.size W).drew).trans hb1'); have d0 := keep1 hb1.out c0; clear hb1')
 all_goals (
  go_wp2
  go_ret
  exact ⟨rfl, trans_b HB.out hb1.out⟩)
end Go.Proofs.YtcpkjmpbpmeclaaGreatDoor
namespace Go.Proofs.YtcpkjmpbpmeclaaGreatDoor
open Go.RowKit
set_option maxRecDepth 100000
set_option linter.unusedVariables false
set_option linter.unusedSimpArgs false
set_option linter.unnecessarySimpa false

/-- The class of a pattern. -/
def clsF (b : Int) : Int := if 9218868437227405312 < sizeF b then 5 else if sizeF b = 9218868437227405312 then 4 else if sizeF b = 0 then 1 else if sizeF b < 4503599627370496 then 2 else 3
theorem sizeF_mod (x : Int) (h0 : 0 ≤ x) (h1 : x ≤ 18446744073709551615) : x % 9223372036854775808 = (sizeF x : Nat) := by
 unfold sizeF
 split <;> omega
theorem sizeF_lt (x : Int) (h0 : 0 ≤ x) (h1 : x ≤ 18446744073709551615) : sizeF x < 9223372036854775808 := by
 unfold sizeF
 split <;> omega
abbrev shp : List Value := [.int .i64 52, .int .i64 (-1074), .int .i64 11]
theorem size_shape : (Tryz.prog.info? 274).map (·.size) = some 3 := by kernel_rfl
set_option maxHeartbeats 2000000 in
theorem class_any (x : Int) (w : World) (hS : Shapes w) (h0 : 0 ≤ x) (h1 : x ≤ 18446744073709551615) :
  Calls Tryz.prog 199 #[.int .u64 x] w fun e w' => e = .returned (.int .i8 (clsF x)) ∧ Below w.heap.size w w' := by
 have HOF := Lib.hid (of_any w hS)
 have HSP : Hid (∀ W, Below w.heap.size w W → Calls Tryz.prog 155 #[.int .u64 x] W fun e w' => e = .returned (.tuple #[.bool (decide (9223372036854775808 ≤ x)), .int .u64 (sizeF x : Nat)]) ∧ Below W.heap.size W w') := Lib.hid fun W hW => by
  have := split_any x W (hS.below hW) h0 h1
  rwa [sizeF_mod x h0 h1] at this
 have hlt := sizeF_lt x h0 h1
 obtain ⟨r, hr⟩ : ∃ r, clsF x = r := ⟨_, rfl⟩
 rw [hr]
 unfold clsF at hr
 generalize sizeF x = s at *
 generalize decide (9223372036854775808 ≤ x) = sg at *
 have HR := Lib.hid hr
 clear hS h0 h1 hr
 go_enter Tryz.func199, Tryz.ntmps199
 go_upto_region 2 with (go_at_call 215; refine HOF.out.mono ?_; rintro e w1 ⟨rfl, hb1'⟩; have hb1 := Lib.hid hb1'; clear hb1')
 show Code.wp _ _ _ _ (w1.alloc (.cells #[.int .i64 52, .int .i64 (-1074), .int .i64 11] 274))
 have hba : Below w1.heap.size w1 (w1.alloc (.cells #[.int .i64 52, .int .i64 (-1074), .int .i64 11] 274)) := (Below.refl _ _).alloc (Nat.le_refl _) _
 have c : ∀ j : Nat, (w1.alloc (.cells #[.int .i64 52, .int .i64 (-1074), .int .i64 11] 274)).cell? ⟨w1.heap.size, j, none⟩ = (#[.int .i64 52, .int .i64 (-1074), .int .i64 11] : Array Value)[j]? := fun j => cell_of_row _ _ _ _ _ _ (heap_alloc_new w1 _)
 have c0 := c 0
 have c1 := c 1
 have c2 := c 2
 have HB := Lib.hid (trans_b hb1.out hba)
 clear c hba hb1 HOF
 generalize (w1.alloc (.cells #[.int .i64 52, .int .i64 (-1074), .int .i64 11] 274)) = W at *
 simp at c0 c1 c2
 have hINF : ∀ W, Calls Tryz.prog 225 #[.agg #[.int .i64 52, .int .i64 (-1074), .int .i64 11]] W fun e w' => e = .returned (.int .u64 9218868437227405312) ∧ Below W.heap.size W w' := shInf_any
 have HINF := Lib.hid hINF
 clear hINF
 by_cases k1 : 9218868437227405312 < s
 ·skip
  have HV : Hid (r = 5) := Lib.hid (by rw [← HR.out, if_pos k1])
  clear HR
  go_wp2_with (first
   | (go_at_call 155; refine (HSP.out _ HB.out).mono ?_; rintro e w2 ⟨rfl, hb2⟩; have HB := Lib.hid (trans_b HB.out hb2); have c0 := keep1 hb2 c0; have c1 := keep1 hb2 c1; have c2 := keep1 hb2 c2)
   | (go_at_call 225; refine (HINF.out _).mono ?_; rintro e w3 ⟨rfl, hb3⟩; have HB := Lib.hid (trans_b HB.out hb3); have c0 := keep1 hb3 c0; have c1 := keep1 hb3 c1; have c2 := keep1 hb3 c2))
  go_ret
  exact ⟨by rw [HV.out]; rfl, HB.out⟩
 ·by_cases k2 : s = 9218868437227405312
  ·subst k2
   have HV : Hid (r = 4) := Lib.hid (by rw [← HR.out, if_neg k1, if_pos rfl])
   clear HR
   go_wp2_with (first
    | (go_at_call 155; refine (HSP.out _ HB.out).mono ?_; rintro e w2 ⟨rfl, hb2⟩; have HB := Lib.hid (trans_b HB.out hb2); have c0 := keep1 hb2 c0; have c1 := keep1 hb2 c1; have c2 := keep1 hb2 c2)
    | (go_at_call 225; refine (HINF.out _).mono ?_; rintro e w3 ⟨rfl, hb3⟩; have HB := Lib.hid (trans_b HB.out hb3); have c0 := keep1 hb3 c0; have c1 := keep1 hb3 c1; have c2 := keep1 hb3 c2))
   go_ret
   exact ⟨by rw [HV.out]; rfl, HB.out⟩
  ·have k2b : ((s : Int) == 9218868437227405312) = false := by simp only [beq_eq_false_iff_ne, ne_eq]; omega
   by_cases k3 : s = 0
   ·subst k3
    have HV : Hid (r = 1) := Lib.hid (by rw [← HR.out, if_neg k1, if_neg k2, if_pos rfl])
    clear HR
    go_wp2_with (first
     | (go_at_call 155; refine (HSP.out _ HB.out).mono ?_; rintro e w2 ⟨rfl, hb2⟩; have HB := Lib.hid (trans_b HB.out hb2); have c0 := keep1 hb2 c0; have c1 := keep1 hb2 c1; have c2 := keep1 hb2 c2)
     | (go_at_call 225; refine (HINF.out _).mono ?_; rintro e w3 ⟨rfl, hb3⟩; have HB := Lib.hid (trans_b HB.out hb3); have c0 := keep1 hb3 c0; have c1 := keep1 hb3 c1; have c2 := keep1 hb3 c2))
    go_ret
    exact ⟨by rw [HV.out]; rfl, HB.out⟩
   ·have k3b : ((s : Int) == 0) = false := by simp only [beq_eq_false_iff_ne, ne_eq]; omega
    by_cases k4 : s < 4503599627370496
    ·have k4b : (s : Int) / 4503599627370496 = 0 := by omega
     have HV : Hid (r = 2) := Lib.hid (by rw [← HR.out, if_neg k1, if_neg k2, if_neg k3, if_pos k4])
     clear HR
     go_wp2_with (first
      | (go_at_call 155; refine (HSP.out _ HB.out).mono ?_; rintro e w2 ⟨rfl, hb2⟩; have HB := Lib.hid (trans_b HB.out hb2); have c0 := keep1 hb2 c0; have c1 := keep1 hb2 c1; have c2 := keep1 hb2 c2)
      | (go_at_call 225; refine (HINF.out _).mono ?_; rintro e w3 ⟨rfl, hb3⟩; have HB := Lib.hid (trans_b HB.out hb3); have c0 := keep1 hb3 c0; have c1 := keep1 hb3 c1; have c2 := keep1 hb3 c2))
     go_ret
     exact ⟨by rw [HV.out]; rfl, HB.out⟩
    ·have k4b : ((s : Int) / 4503599627370496 == 0) = false := by simp only [beq_eq_false_iff_ne, ne_eq]; omega
     have HV : Hid (r = 3) := Lib.hid (by rw [← HR.out, if_neg k1, if_neg k2, if_neg k3, if_neg k4])
     clear HR
     go_wp2_with (first
      | (go_at_call 155; refine (HSP.out _ HB.out).mono ?_; rintro e w2 ⟨rfl, hb2⟩; have HB := Lib.hid (trans_b HB.out hb2); have c0 := keep1 hb2 c0; have c1 := keep1 hb2 c1; have c2 := keep1 hb2 c2)
      | (go_at_call 225; refine (HINF.out _).mono ?_; rintro e w3 ⟨rfl, hb3⟩; have HB := Lib.hid (trans_b HB.out hb3); have c0 := keep1 hb3 c0; have c1 := keep1 hb3 c1; have c2 := keep1 hb3 c2))
     go_ret
     exact ⟨by rw [HV.out]; rfl, HB.out⟩
end Go.Proofs.YtcpkjmpbpmeclaaGreatDoor
namespace Go.Proofs.YtcpkjmpbpmeclaaGreatDoor
open Go.RowKit
set_option maxRecDepth 100000
set_option linter.unusedVariables false
set_option linter.unusedSimpArgs false
set_option linter.unnecessarySimpa false

theorem bit_frac (s : Int) (h0 : 0 ≤ s) (h1 : s < 9223372036854775808) : bits BinOp.and .u64 s 4503599627370495 = s % 4503599627370496 := by
  have h2 : s < 18446744073709551616 := by omega
  go_bits2
theorem bit_lead (s : Int) (h0 : 0 ≤ s) (h1 : s < 4503599627370496) : bits BinOp.or .u64 s 4503599627370496 = s + 4503599627370496 := by
  have h2 : s < 18446744073709551616 := by omega
  go_bits2
theorem results_tmp4 {fn : Func} {t u v x : Tmp} (h : fn.results = #[.tmp t, .tmp u, .tmp v, .tmp x]) (tmps : Array Value) (P : Program) (w : World) :
    (results fn tmps).run P w = .ok (.tuple #[tmps.getD t undef, tmps.getD u undef, tmps.getD v undef, tmps.getD x undef]) w := by
  simp [results, h]
theorem ctzFrom_le : ∀ f x, Lib.ctzFrom f x ≤ f
  | 0, x => by simp [Lib.ctzFrom]
  | f + 1, x => by
    unfold Lib.ctzFrom
    split
    · omega
    · have := ctzFrom_le f (x / 2); omega
theorem ctz_le (x : Nat) : Lib.ctz 64 x ≤ 64 := by
  unfold Lib.ctz
  split
  · exact Nat.le_refl _
  · exact ctzFrom_le _ _
theorem div_pow0 (s t : Nat) : 0 ≤ (s : Int) / 2 ^ t := Int.ediv_nonneg (by omega) (Int.pow_nonneg (by decide))
theorem div_pow1 (s t : Nat) (h : s ≤ 18446744073709551615) : (s : Int) / 2 ^ t ≤ 18446744073709551615 := Int.le_trans (Int.ediv_le_self _ (by omega)) (by omega)
/-- What Parts answers (of its number no more than its bounds). -/
def PartsP (x : Int) (e : Ending) : Prop :=
  ∃ (g : Bool) (m : Int), 0 ≤ m ∧ m ≤ 18446744073709551615 ∧
    ((9218868437227405312 ≤ sizeF x ∧ e = .returned (.tuple #[.bool false, .int .u64 0, .int .i64 0, .bool false])) ∨
     (sizeF x < 9218868437227405312 ∧ sizeF x = 0 ∧ e = .returned (.tuple #[.bool g, .int .u64 0, .int .i64 0, .bool true])) ∨
     (sizeF x < 9218868437227405312 ∧ sizeF x ≠ 0 ∧ e = .returned (.tuple #[.bool g, .int .u64 m, .int .i64 (partE (sizeF x) + (Lib.ctz 64 (partM (sizeF x)) : Nat)), .bool true])))
set_option maxHeartbeats 4000000 in
theorem parts_any (x : Int) (w : World) (hS : Shapes w) (hT : Bruijn w) (h0 : 0 ≤ x) (h1 : x ≤ 18446744073709551615) :
    Calls Tryz.prog 226 #[.int .u64 x] w fun e w' => PartsP x e ∧ Below w.heap.size w w' := by
  have HOF := Lib.hid (of_any w hS)
  have HSP : Hid (∀ W, Below w.heap.size w W → Calls Tryz.prog 155 #[.int .u64 x] W fun e w' => e = .returned (.tuple #[.bool (decide (9223372036854775808 ≤ x)), .int .u64 (sizeF x : Nat)]) ∧ Below W.heap.size W w') := Lib.hid fun W hW => by
    have := split_any x W (hS.below hW) h0 h1
    rwa [sizeF_mod x h0 h1] at this
  have HT : Hid (∀ W, Below w.heap.size w W → Bruijn W) := Lib.hid fun W hW => hT.below hW
  have hlt := sizeF_lt x h0 h1
  obtain ⟨Q, hQ⟩ : ∃ Q, PartsP x = Q := ⟨_, rfl⟩
  rw [hQ]
  have HQ1 : Hid (9218868437227405312 ≤ sizeF x → Q (.returned (.tuple #[.bool false, .int .u64 0, .int .i64 0, .bool false]))) := Lib.hid fun h => by rw [← hQ]; exact ⟨false, 0, by decide, by decide, .inl ⟨h, rfl⟩⟩
  have HQ2 : Hid (∀ g, sizeF x = 0 → Q (.returned (.tuple #[.bool g, .int .u64 0, .int .i64 0, .bool true]))) := Lib.hid fun g h => by rw [← hQ]; exact ⟨g, 0, by decide, by decide, .inr (.inl ⟨by rw [h]; decide, h, rfl⟩)⟩
  have HQ3 : Hid (∀ g m z, sizeF x < 9218868437227405312 → sizeF x ≠ 0 → 0 ≤ m → m ≤ 18446744073709551615 → z = partE (sizeF x) + (Lib.ctz 64 (partM (sizeF x)) : Nat) → Q (.returned (.tuple #[.bool g, .int .u64 m, .int .i64 z, .bool true]))) := Lib.hid fun g m z h1 h2 h3 h4 h5 => by rw [← hQ, h5]; exact ⟨g, m, h3, h4, .inr (.inr ⟨h1, h2, rfl⟩)⟩
  clear hQ
  generalize sizeF x = s at *
  generalize decide (9223372036854775808 ≤ x) = sg at *
  clear hS hT h0 h1
  go_enter Tryz.func226, Tryz.ntmps226
  go_upto_region 2 with (go_at_call 215; refine HOF.out.mono ?_; rintro e w1 ⟨rfl, hb1'⟩; have hb1 := Lib.hid hb1'; clear hb1')
  show Code.wp _ _ _ _ (w1.alloc (.cells #[.int .i64 52, .int .i64 (-1074), .int .i64 11] 274))
  have hba : Below w1.heap.size w1 (w1.alloc (.cells #[.int .i64 52, .int .i64 (-1074), .int .i64 11] 274)) := (Below.refl _ _).alloc (Nat.le_refl _) _
  have c : ∀ j : Nat, (w1.alloc (.cells #[.int .i64 52, .int .i64 (-1074), .int .i64 11] 274)).cell? ⟨w1.heap.size, j, none⟩ = (#[.int .i64 52, .int .i64 (-1074), .int .i64 11] : Array Value)[j]? := fun j => cell_of_row _ _ _ _ _ _ (heap_alloc_new w1 _)
  have c0 := c 0
  have c1 := c 1
  have c2 := c 2
  have HB := Lib.hid (trans_b hb1.out hba)
  clear c hba hb1 HOF
  generalize (w1.alloc (.cells #[.int .i64 52, .int .i64 (-1074), .int .i64 11] 274)) = W at *
  simp at c0 c1 c2
  have hINF : ∀ W, Calls Tryz.prog 225 #[.agg #[.int .i64 52, .int .i64 (-1074), .int .i64 11]] W fun e w' => e = .returned (.int .u64 9218868437227405312) ∧ Below W.heap.size W w' := shInf_any
  have HINF := Lib.hid hINF
  clear hINF
  by_cases k1 : 9218868437227405312 ≤ s
  · have HV := Lib.hid k1
    have k1i : (9218868437227405312 : Int) ≤ (s : Int) := by omega
    clear k1
    go_wp2_with (first
      | (go_at_call 155; refine (HSP.out _ HB.out).mono ?_; rintro e w2 ⟨rfl, hb2⟩; have HB := Lib.hid (trans_b HB.out hb2); have c0 := keep1 hb2 c0; have c1 := keep1 hb2 c1; have c2 := keep1 hb2 c2)
      | (go_at_call 225; refine (HINF.out _).mono ?_; rintro e w3 ⟨rfl, hb3⟩; have HB := Lib.hid (trans_b HB.out hb3); have c0 := keep1 hb3 c0; have c1 := keep1 hb3 c1; have c2 := keep1 hb3 c2))
    (try simp only [Exit.inBlock, Exit.then]); refine bodyPost_ret (results_tmp4 rfl _ _ _) rfl ?_
    exact ⟨HQ1.out HV.out, HB.out⟩
  · by_cases k2 : s = 0
    · subst k2
      go_wp2_with (first
      | (go_at_call 155; refine (HSP.out _ HB.out).mono ?_; rintro e w2 ⟨rfl, hb2⟩; have HB := Lib.hid (trans_b HB.out hb2); have c0 := keep1 hb2 c0; have c1 := keep1 hb2 c1; have c2 := keep1 hb2 c2)
      | (go_at_call 225; refine (HINF.out _).mono ?_; rintro e w3 ⟨rfl, hb3⟩; have HB := Lib.hid (trans_b HB.out hb3); have c0 := keep1 hb3 c0; have c1 := keep1 hb3 c1; have c2 := keep1 hb3 c2))
      (try simp only [Exit.inBlock, Exit.then]); refine bodyPost_ret (results_tmp4 rfl _ _ _) rfl ?_
      exact ⟨HQ2.out sg (by first | rfl | trivial), HB.out⟩
    · have k2b : ((s : Int) == 0) = false := by simp only [beq_eq_false_iff_ne, ne_eq]; omega
      have HK1 : Hid (s < 9218868437227405312) := Lib.hid (by omega)
      have HK2 := Lib.hid k2
      have k1i : ¬ (9218868437227405312 : Int) ≤ (s : Int) := by omega
      have hge : decide ((9218868437227405312 : Int) ≤ (s : Int)) = false := decide_eq_false k1i
      clear k1 k2 hlt k1i
      by_cases k3 : s < 4503599627370496
      · have k4 : (s : Int) / 4503599627370496 = 0 := by omega
        have HM : Hid (partM s = s ∧ partE s = -1074) := Lib.hid ⟨by unfold partM; rw [if_pos k3], by unfold partE; rw [if_pos k3]⟩
        clear k3
        go_upto_region 7 with (first
      | (go_at_call 155; refine (HSP.out _ HB.out).mono ?_; rintro e w2 ⟨rfl, hb2⟩; have HB := Lib.hid (trans_b HB.out hb2); have c0 := keep1 hb2 c0; have c1 := keep1 hb2 c1; have c2 := keep1 hb2 c2)
      | (go_at_call 225; refine (HINF.out _).mono ?_; rintro e w3 ⟨rfl, hb3⟩; have HB := Lib.hid (trans_b HB.out hb3); have c0 := keep1 hb3 c0; have c1 := keep1 hb3 c1; have c2 := keep1 hb3 c2))
        go_quiet (fail)
        have HBd := Lib.hid (trans_b HB.out (below_drewN w3 nq))
        have HTZ : Hid (∀ W, Below w.heap.size w W → Calls Tryz.prog 246 #[.int .u64 (s : Nat)] W fun e w' => e = .returned (.int .i64 (Lib.ctz 64 s : Nat)) ∧ w' = W) := Lib.hid fun W hW => tz64_any s (by have := HK1.out; omega) HK2.out W (HT.out W hW)
        have HTB : Hid (Lib.ctz 64 s ≤ 64) := Lib.hid (ctz_le _)
        obtain ⟨tz, htz⟩ : ∃ tz, Lib.ctz 64 s = tz := ⟨_, rfl⟩
        have HTE := Lib.hid htz
        rw [htz] at HTZ HTB
        have htb := HTB.out
        clear htz
        go_upto_region 13 with (go_at_call 246; go_must (refine (HTZ.out _ HBd.out).mono ?_); go_must (rintro e w5 ⟨rfl, rfl⟩))
        go_quiet (fail)
        go_wp2
        (try simp only [Exit.inBlock, Exit.then]); refine bodyPost_ret (results_tmp4 rfl _ _ _) rfl ?_
        refine ⟨HQ3.out _ _ _ HK1.out HK2.out (div_pow0 _ _) (div_pow1 _ _ (by have := HK1.out; omega)) (by rw [HM.out.1, HM.out.2, HTE.out]), trans_b HBd.out (below_drewN _ _)⟩
      · obtain ⟨kk, hkk⟩ : ∃ kk, s / 4503599627370496 = kk := ⟨_, rfl⟩
        obtain ⟨ff, hff⟩ : ∃ ff, s % 4503599627370496 = ff := ⟨_, rfl⟩
        have HM : Hid (partM s = ff + 4503599627370496 ∧ partE s = (kk : Nat) - 1075) := Lib.hid ⟨by unfold partM; rw [if_neg k3, hff], by unfold partE; rw [if_neg k3, hkk]⟩
        have k4 : (s : Int) / 4503599627370496 = (kk : Nat) := by omega
        have hkb : 1 ≤ kk ∧ kk ≤ 2046 := by have := HK1.out; omega
        obtain ⟨hk0, hk1⟩ := hkb
        have hk4 : decide (0 < (kk : Int)) = true := decide_eq_true (by omega)
        have hbit1 : bits BinOp.and .u64 (s : Int) 4503599627370495 = (ff : Nat) := by rw [bit_frac _ (by omega) (by have := HK1.out; omega)]; omega
        have hbit2 : bits BinOp.or .u64 (ff : Int) 4503599627370496 = ((ff + 4503599627370496 : Nat) : Int) := by rw [bit_lead _ (by omega) (by omega)]; omega
        have HFB : Hid (ff < 4503599627370496) := Lib.hid (by omega)
        clear k3 hkk hff
        go_upto_region 7 with (first
      | (go_at_call 155; refine (HSP.out _ HB.out).mono ?_; rintro e w2 ⟨rfl, hb2⟩; have HB := Lib.hid (trans_b HB.out hb2); have c0 := keep1 hb2 c0; have c1 := keep1 hb2 c1; have c2 := keep1 hb2 c2)
      | (go_at_call 225; refine (HINF.out _).mono ?_; rintro e w3 ⟨rfl, hb3⟩; have HB := Lib.hid (trans_b HB.out hb3); have c0 := keep1 hb3 c0; have c1 := keep1 hb3 c1; have c2 := keep1 hb3 c2))
        go_quiet (fail)
        have HBd := Lib.hid (trans_b HB.out (below_drewN w3 nq))
        have c0 : (w3.drewN nq).cell? ⟨w1.heap.size, 0, none⟩ = _ := keep1 (below_drewN w3 nq) c0
        obtain ⟨w4, hw4⟩ : ∃ w4, w4 = w3.drewN nq := ⟨_, rfl⟩
        rw [← hw4] at HBd c0 ⊢
        clear hw4
        obtain ⟨mm, hmm⟩ : ∃ mm, ff + 4503599627370496 = mm := ⟨_, rfl⟩
        rw [hmm] at hbit2 HM
        have HMB : Hid (0 < mm ∧ mm < 9007199254740992) := Lib.hid (by have := HFB.out; omega)
        have HTZ : Hid (∀ W, Below w.heap.size w W → Calls Tryz.prog 246 #[.int .u64 (mm : Nat)] W fun e w' => e = .returned (.int .i64 (Lib.ctz 64 mm : Nat)) ∧ w' = W) := Lib.hid fun W hW => tz64_any mm (by have := HMB.out; omega) (by have := HMB.out; omega) W (HT.out W hW)
        have HTB : Hid (Lib.ctz 64 mm ≤ 64) := Lib.hid (ctz_le _)
        obtain ⟨tz, htz⟩ : ∃ tz, Lib.ctz 64 mm = tz := ⟨_, rfl⟩
        have HTE := Lib.hid htz
        rw [htz] at HTZ HTB
        have htb := HTB.out
        clear htz hmm
        go_upto_region 10 with fail
        go_quiet (fail)
        have HBe := Lib.hid (trans_b HBd.out (below_drewN w4 nq))
        go_upto_region 13 with (go_at_call 246; go_must (refine (HTZ.out _ HBe.out).mono ?_); go_must (rintro e w5 ⟨rfl, rfl⟩))
        go_quiet (fail)
        go_wp2
        (try simp only [Exit.inBlock, Exit.then]); refine bodyPost_ret (results_tmp4 rfl _ _ _) rfl ?_
        refine ⟨HQ3.out _ _ _ HK1.out HK2.out (div_pow0 _ _) (div_pow1 _ _ (by have := HMB.out; omega)) (by rw [HM.out.1, HM.out.2, HTE.out]; omega), trans_b HBe.out (below_drewN _ _)⟩
end Go.Proofs.YtcpkjmpbpmeclaaGreatDoor
namespace Go.Proofs.YtcpkjmpbpmeclaaGreatDoor
open Go.RowKit
set_option maxRecDepth 100000
set_option linter.unusedVariables false
set_option linter.unusedSimpArgs false
set_option linter.unnecessarySimpa false

/-- A number made: no more than so many limbs. -/
def NatOut (w : World) (K : Nat) (v : Value) : Prop := ∃ A xs, v = .slice A xs.length xs.length ∧ xs.length ≤ K ∧ NatIn w A xs.length xs
theorem NatOut.below {w w1 : World} {K : Nat} {v : Value} (h : NatOut w K v) (hb : Below w.heap.size w w1) : NatOut w1 K v := by
 obtain ⟨A, xs, h1, h2, h3⟩ := h
 exact ⟨A, xs, h1, h2, h3.below hb⟩
theorem natOut_cut {w : World} {A : Option Addr} {c n : Nat} {xs : List Int} (h : NatIn w A c xs) (hc : CutAt xs n) : NatOut w xs.length (.slice A n n) := by
 have hn : (xs.take n).length = n := by rw [List.length_take]; have := hc.le; omega
 refine ⟨A, xs.take n, by rw [hn], by rw [hn]; exact hc.le, ⟨by rw [hn]; have := hc.le; have := h.len; omega, by rw [hn]; exact Nat.le_refl _, fun e => ?_, h.row.take n, h.limbs.take n⟩⟩
 rw [hn]
 have h1 := h.nil0 e
 have h2 := h.cap
 have := hc.le
 omega
theorem from_any (x : Int) (w : World) (h0 : 0 ≤ x) (h1 : x ≤ 18446744073709551615) :
  Calls Tryz.prog 228 #[.int .u64 x] w fun e w' => ∃ A n, e = .returned (.slice A n n) ∧ Hid (NatOut w' 2 (.slice A n n)) ∧ Below w.heap.size w w' := by
 have hba : Below w.heap.size w (w.alloc (.cells #[.int .u32 (x % 4294967296), .int .u32 (x / 4294967296)] 92)) := (Below.refl _ _).alloc (Nat.le_refl _) _
 have hin : NatIn (w.alloc (.cells #[.int .u32 (x % 4294967296), .int .u32 (x / 4294967296)] 92)) (some ⟨w.heap.size, 0, none⟩) 2 [x % 4294967296, x / 4294967296] :=
  ⟨by simp, by simp, (fun h => by cases h), numsK_row (k := .u32) (xs := [x % 4294967296, x / 4294967296]) (heap_alloc_new w _), fun y hy => by simp at hy; omega⟩
 have hcut := hin.cut
 have HIN := Lib.hid hin
 have HB := Lib.hid hba
 have HC := Lib.hid hcut
 clear hba hin hcut
 go_enter Tryz.func228, Tryz.ntmps228
 go_wp2_with (go_at_call 212; go_must (refine HC.out.mono ?_); go_must (rintro e w1 ⟨n, rfl, hC, rfl⟩))
 go_ret
 exact ⟨_, n, rfl, Lib.hid (natOut_cut HIN.out hC), HB.out⟩
theorem bitLenAux_le : ∀ f x, Lib.bitLenAux f x ≤ f
 | 0, x => by simp [Lib.bitLenAux]
 | f + 1, x => by
  unfold Lib.bitLenAux
  split
  ·omega
  ·have := bitLenAux_le f (x / 2); omega
/-- How many bits: no more is asked than that it is few. -/
theorem len_any (A : Option Addr) (c : Nat) (xs : List Int) (w : World) (h : NatIn w A c xs) :
  Calls Tryz.prog 247 #[.slice A xs.length c] w fun e w' => ∃ z : Nat, e = .returned (.int .i64 (z : Nat)) ∧ z ≤ 32 * xs.length + 64 ∧ w' = w := by
 have hcut := h.cut
 have HN := Lib.hid h
 have HC := Lib.hid hcut
 obtain ⟨m, hm⟩ : ∃ m, xs.length = m := ⟨_, rfl⟩
 have HM := Lib.hid hm
 have hml : m ≤ 1000000000 := by rw [← hm]; exact h.len
 rw [hm] at HC ⊢
 clear hcut h hm
 go_enter Tryz.func247, Tryz.ntmps247
 go_upto_region 2 with (go_at_call 212; go_must (refine HC.out.mono ?_); go_must (rintro e w1 ⟨n, rfl, hC, rfl⟩))
 have HCU := Lib.hid hC
 have hnm : n ≤ m := by rw [← HM.out]; exact hC.le
 clear hC
 cases n with
 | zero =>
  go_wp2
  go_ret
  exact ⟨0, rfl, by omega, rfl⟩
 | succ n =>
  have e0 : (((n + 1 : Nat) : Int) == 0) = false := by simp only [beq_eq_false_iff_ne, ne_eq]; omega
  have e1 : ((n + 1 : Nat) : Int) - 1 = n := by omega
  obtain ⟨b, off, rfl, hx⟩ := HN.out.row.cell n (by rw [HM.out]; omega)
  obtain ⟨y, hy⟩ : ∃ y, xs.getD n 0 = y := ⟨_, rfl⟩
  rw [hy] at hx
  have hyb : 0 ≤ y ∧ y ≤ 4294967295 := HN.out.limbs y (by
   rw [← hy, List.getD_eq_getElem?_getD, List.getElem?_eq_getElem (by rw [HM.out]; omega)]
   exact List.getElem_mem _)
  have HYB := Lib.hid hyb
  have HBL : Hid (Lib.bitLen y.toNat ≤ 64) := Lib.hid (bitLenAux_le 64 _)
  have H32 : Hid (∀ W, Calls Tryz.prog 261 #[.int .u32 y] W fun e w' => e = .returned (.int .i64 (Lib.bitLen y.toNat : Nat)) ∧ w' = W) := Lib.hid fun W => Tryz.bits_Len32 y W HYB.out.1 HYB.out.2
  generalize Lib.bitLen y.toNat = bl at *
  have hbl := HBL.out
  clear hy hyb
  go_wp2_with (go_at_call 261; go_must (refine (H32.out _).mono ?_); go_must (rintro e w2 ⟨rfl, rfl⟩))
  go_ret
  exact ⟨32 * n + bl, by go_num, by omega, rfl⟩
end Go.Proofs.YtcpkjmpbpmeclaaGreatDoor
namespace Go.Proofs.YtcpkjmpbpmeclaaGreatDoor
open Go.RowKit
set_option maxRecDepth 100000
set_option linter.unusedVariables false
set_option linter.unusedSimpArgs false
set_option linter.unnecessarySimpa false

theorem wraps_i64b (n : Int) (h₀ : 0 ≤ n) (h₁ : n < 2 ^ 40) : IntKind.i64.wrap n = n := by
 rw [IntKind.wrap_i64]; omega
theorem bits32 (o : BinOp) (x y : Int) : 0 ≤ bits o .u32 x y ∧ bits o .u32 x y ≤ 4294967295 := by
 have h : ∀ z, 0 ≤ IntKind.u32.wrap z ∧ IntKind.u32.wrap z ≤ 4294967295 := fun z => by rw [IntKind.wrap_u32]; omega
 unfold bits
 split <;> first | exact h _ | (split <;> exact h _)
/-- Limbs in a block of their own, being shifted. -/
structure ShlI (w W : World) (g L : Nat) (ys : List Int) : Prop where
 h : W.heap[g]? = some (.cells (numsK .u32 ys).toArray 92 (0, 0))
 len : ys.length = L
 lim : Limbs ys
 b : Below w.heap.size w W
 gb : w.heap.size ≤ g
theorem ShlI.drew {w W : World} {g L : Nat} {ys : List Int} (h : ShlI w W g L ys) (n : Nat) : ShlI w (W.drewN n) g L ys := ⟨h.h, h.len, h.lim, trans_b h.b (below_drewN W n), h.gb⟩
theorem ShlI.set {w W : World} {g L : Nat} {ys : List Int} (h : ShlI w W g L ys) (k : Nat) (y : Int) (h0 : 0 ≤ y) (h1 : y ≤ 4294967295) : ShlI w (W.setCell ⟨g, k, none⟩ (.int .u32 y)) g L (ys.set k y) := by
 refine ⟨?_, by simp [h.len], fun z hz => ?_, below_setCells [.int .u32 y] g k W h.b h.gb, h.gb⟩
 ·rw [heap_setCell_same W g k _ _ _ h.h]
  congr 2
  apply Array.ext'
  simp [numsK, List.map_set]
 ·rcases List.mem_or_eq_of_mem_set hz with hz | rfl
  ·exact h.lim z hz
  ·exact ⟨h0, h1⟩
theorem ShlI.cell {w W : World} {g L : Nat} {ys : List Int} (h : ShlI w W g L ys) (k : Nat) (hk : k < L) : ∃ y, W.cell? ⟨g, k, none⟩ = some (.int .u32 y) ∧ W.frozen? ⟨g, k, none⟩ = false ∧ 0 ≤ y ∧ y ≤ 4294967295 := by
 have hk' : k < ys.length := by rw [h.len]; exact hk
 have hl := h.lim ys[k] (List.getElem_mem hk')
 refine ⟨ys[k], ?_, by simp [World.frozen?, h.h], hl.1, hl.2⟩
 rw [cell_of_row _ _ _ _ _ _ h.h]
 simp [numsK, hk']
set_option maxHeartbeats 4000000 in
theorem shl_any (A : Option Addr) (c E Q R : Nat) (xs : List Int) (w : World) (h : NatIn w A c xs) (hx : xs.length ≤ 2) (hE : E ≤ 2000) (hQ : E / 32 = Q) (hR : E % 32 = R) :
  Calls Tryz.prog 227 #[.slice A xs.length c, .int .i64 (E : Nat)] w fun e w' => ∃ v b, e = .returned (.tuple #[v, .bool b]) ∧ Hid (NatOut w' 100 v) ∧ Below w.heap.size w w' := by
 have hcut := h.cut
 have HN := Lib.hid h
 have HC := Lib.hid hcut
 obtain ⟨m0, hm⟩ : ∃ m, xs.length = m := ⟨_, rfl⟩
 have HM := Lib.hid hm
 rw [hm] at hx HC ⊢
 clear hcut h hm
 go_enter Tryz.func227, Tryz.ntmps227
 go_upto_region 2 with (go_at_call 212; go_must (refine HC.out.mono ?_); go_must (rintro e w1 ⟨n, rfl, hC, rfl⟩))
 have HCU := Lib.hid hC
 have hnm : n ≤ m0 := by rw [← HM.out]; exact hC.le
 have hout := natOut_cut HN.out hC
 obtain ⟨A2, zs, hzz, hz2, hzin⟩ := hout
 injection hzz with hz1 hz3 hz4
 subst hz1
 have hzl : zs.length = n := hz3.symm
 clear hC hz3 hz4
 have HZ := Lib.hid hzin
 have HLen := Lib.hid (len_any A n zs w (by rw [hzl] at hzin; exact hzin))
 have HZL := Lib.hid hzl
 rw [hzl] at HLen
 clear hzin hzl hz2
 have hzp : (0 : Int) ≤ (E : Int) := by omega
 by_cases hn0 : n = 0
 ·subst hn0
  have HO : Hid (NatOut w 100 (.slice none 0 0)) := Lib.hid ⟨none, [], rfl, by simp, ⟨by simp, by simp, fun _ => rfl, .inl rfl, fun y hy => by simp at hy⟩⟩
  go_wp2
  go_ret2
  exact ⟨_, _, rfl, HO, Below.refl _ _⟩
 ·have e0 : ((n : Int) == 0) = false := by simp only [beq_eq_false_iff_ne, ne_eq]; omega
  have hQb : Q ≤ 62 := by omega
  have hq1 : (E : Int).tdiv 32 = (Q : Nat) := by rw [Int.tdiv_eq_ediv_of_nonneg (by omega)]; omega
  have hq2 : (E : Int) / 32 = (Q : Nat) := by omega
  have hr1 : (E : Int).tmod 32 = (R : Nat) := by rw [Int.tmod_eq_emod_of_nonneg (by omega)]; omega
  have hr2 : (E : Int) % 32 = (R : Nat) := by omega
  obtain ⟨L, hL⟩ : ∃ L, Q + n + 1 = L := ⟨_, rfl⟩
  have hl1 : (Q : Int) + (n : Int) + 1 = (L : Nat) := by omega
  have hmk := make_nat w L (by omega)
  have HLL := Lib.hid hL
  have HRB : Hid (R < 32) := Lib.hid (by omega)
  clear hL hQ hR hn0
  go_upto_region 9 with (go_at_call 247; go_must (refine HLen.out.mono ?_); go_must (rintro e w2 ⟨z, rfl, hz, rfl⟩))
  have hfL : Q ≤ L ∧ L - Q = n + 1 := by have := HLL.out; omega
  obtain ⟨hQL, hLQ⟩ := hfL
  have HLQ := Lib.hid hLQ
  go_wp2_with (with_reducible refine wpList_copy_splice rfl _ _ 26 26 rfl 92 Tryz.underlying26 info_limb1 _ _ _ _ _ _ rfl rfl w2.heap.size Q (numsK .u32 (List.replicate L 0)) 92 ?hg (numsK .u32 zs) ?hn ?hpos ?hfit (numsK_one _ _) w2.heap.size w2 ?hb (Nat.le_refl _) ?hk)
  case hg => exact heap_alloc_new w2 _
  case hn => rw [numsK_len, HZL.out]; exact (Nat.min_eq_left (Nat.le_succ n)).symm
  case hpos =>
   intro h0
   rw [numsK_len] at h0
   rcases HZ.out.row with h | ⟨b, off, rfl, hr⟩
   ·rw [h] at h0; simp at h0
   ·refine ⟨⟨b, off, none⟩, rfl, fun j v hv => ?_⟩
    have hj : j < zs.length := by have := (List.getElem?_eq_some_iff.1 hv).1; rwa [numsK_len] at this
    rw [add_row]
    refine (keep1 ((Below.refl _ _).alloc (Nat.le_refl _) _) (hr j hj)).trans ?_
    rw [← hv]
    unfold numsK
    rw [List.getElem?_map, List.getElem?_eq_getElem hj, List.getD_eq_getElem?_getD, List.getElem?_eq_getElem hj]
    rfl
  case hfit => rw [numsK_len, numsK_len, List.length_replicate, HZL.out]; have := HLQ.out; omega
  case hb => exact (Below.refl _ _).alloc (Nat.le_refl _) _
  case hk =>
   intro w4 hG hB
   have HI : Hid (ShlI w2 w4 w2.heap.size L (splice (List.replicate L 0) Q zs)) := Lib.hid ⟨by
     rw [hG.out]
     congr 3
     simp [splice, numsK], by
     have := HLQ.out
     rw [length_splice _ _ _ (by rw [HZL.out, List.length_replicate]; omega), List.length_replicate], fun y hy => by
     unfold splice at hy
     rcases List.mem_append.1 hy with hy | hy
     ·have := List.mem_of_mem_take hy
      simp at this
      omega
     ·rcases List.mem_append.1 hy with hy | hy
      ·exact HZ.out.limbs y hy
      ·have := List.mem_of_mem_drop hy
       simp at this
       omega, hB, Nat.le_refl _⟩
   have hLB : L ≤ 100 := by have := HLQ.out; omega
   have hFIN : ∀ W ys, ShlI w2 W w2.heap.size L ys → NatIn W (some ⟨w2.heap.size, 0, none⟩) L ys := fun W ys h => ⟨by rw [h.len]; omega, by rw [h.len]; exact Nat.le_refl _, (fun e => by cases e), by have := numsK_row (k := .u32) (xs := ys) h.h; exact this, h.lim⟩
   have HFIN := Lib.hid hFIN
   have HLB := Lib.hid hLB
   clear hFIN HN HZ HZL HCU HM HLen HC hG hB hmk
   by_cases hR0 : R = 0
   ·subst hR0
    have HCT : Hid (Calls Tryz.prog 212 #[.slice (some ⟨w2.heap.size, 0, none⟩) L L] w4 fun e w' => ∃ n, e = .returned (.slice (some ⟨w2.heap.size, 0, none⟩) n n) ∧ NatOut w4 100 (.slice (some ⟨w2.heap.size, 0, none⟩) n n) ∧ w4 = w') := Lib.hid (by
     have h1 := HFIN.out w4 _ HI.out
     have h2 := h1.cut
     rw [HI.out.len] at h2
     exact h2.mono fun e w' ⟨n, e1, e2, e3⟩ => ⟨n, e1, by obtain ⟨A, xs, a1, a2, a3⟩ := natOut_cut h1 e2; exact ⟨A, xs, a1, by rw [HI.out.len] at a2; omega, a3⟩, e3⟩)
    go_wp2_with (go_at_call 212; go_must (refine HCT.out.mono ?_); go_must (rintro e w5 ⟨n5, rfl, hO5, rfl⟩))
    go_ret2
    exact ⟨_, _, rfl, Lib.hid hO5, HI.out.b⟩
   ·have hr0 : decide ((0 : Int) < (R : Int)) = true := decide_eq_true (by omega)
    go_wp2
    go_loopw [43] (fun i W => ∃ (j : Nat) (ys : List Int), i = .int .i64 j ∧ j ≤ L ∧ Hid (ShlI w2 W w2.heap.size L ys)) (fun i _ => L - (intOf i).toNat)
    case atStart => exact ⟨0, _, rfl, Nat.zero_le _, HI⟩
    case round =>
     obtain ⟨j, ys, rfl, hj, HJ⟩ := hrel
     clear HI
     by_cases hlt : j < L
     ·obtain ⟨k, hk⟩ : ∃ k, L - 1 - j = k := ⟨_, rfl⟩
      have hkk : (L : Int) - 1 - (j : Int) = (k : Nat) := by omega
      have hkL : k < L := by omega
      obtain ⟨y, c1, f1, y0, y1⟩ := HJ.out.cell k hkL
      clear hk
      go_upto_region 17 with fail
      obtain ⟨V, hV⟩ : ∃ V, y * 2 ^ R % 4294967296 = V := ⟨_, rfl⟩
      rw [hV]
      have hVb : 0 ≤ V ∧ V ≤ 4294967295 := by omega
      have HI5 := Lib.hid (HJ.out.set k V hVb.1 hVb.2)
      clear c1 f1 hV
      generalize (wr.setCell ⟨w2.heap.size, k, none⟩ (.int .u32 V)) = W5 at *
      by_cases hk0 : k = 0
      ·subst hk0
       go_wp2
       exact ⟨⟨j + 1, _, by go_num, by omega, HI5⟩, by simp [intOf]; omega⟩
      ·obtain ⟨k1, rfl⟩ : ∃ k1, k = k1 + 1 := ⟨k - 1, by omega⟩
       have hkp : decide ((0 : Int) < ((k1 + 1 : Nat) : Int)) = true := decide_eq_true (by omega)
       have e1 : ((k1 + 1 : Nat) : Int) - 1 = k1 := by omega
       obtain ⟨S, hS⟩ : ∃ S, 32 - R = S := ⟨_, rfl⟩
       have e2 : (32 : Int) - (R : Int) = (S : Nat) := by have := HRB.out; omega
       have hSb : S ≤ 32 := by omega
       obtain ⟨y2, c2, f2, y20, y21⟩ := HI5.out.cell (k1 + 1) hkL
       obtain ⟨y3, c3, f3, y30, y31⟩ := HI5.out.cell k1 (by omega)
       have hk1L : k1 < L := by omega
       have e3 : IntKind.i64.wrap (k1 : Int) = k1 := wraps_i64b _ (by omega) (by omega)
       have e4 : IntKind.i64.wrap (S : Int) = S := wraps_i64b _ (by omega) (by omega)
       clear hS hk0
       go_upto_region 18 with fail
       go_region
       all_goals (
        have HI6 := Lib.hid (HI5.out.set (k1 + 1) (bits .or .u32 y2 (y3 / 2 ^ S)) (bits32 _ _ _).1 (bits32 _ _ _).2)
        have HI7 : Hid (ShlI w2 ((W5.setCell ⟨w2.heap.size, k1 + 1, none⟩ (.int .u32 (bits .or .u32 y2 (y3 / 2 ^ S)))).drew) w2.heap.size L ((ys.set (k1 + 1) V).set (k1 + 1) (bits .or .u32 y2 (y3 / 2 ^ S)))) := Lib.hid ⟨HI6.out.h, HI6.out.len, HI6.out.lim, trans_b HI6.out.b (Below.refl _ _).drew, HI6.out.gb⟩
        clear c2 f2 c3 f3 HI6
        go_wp2
        exact ⟨⟨j + 1, _, by go_num, by omega, HI7⟩, by simp [intOf]; omega⟩)
     ·obtain rfl : j = L := by omega
      have HCT : Hid (Calls Tryz.prog 212 #[.slice (some ⟨w2.heap.size, 0, none⟩) j j] wr fun e w' => ∃ n, e = .returned (.slice (some ⟨w2.heap.size, 0, none⟩) n n) ∧ NatOut wr 100 (.slice (some ⟨w2.heap.size, 0, none⟩) n n) ∧ wr = w') := Lib.hid (by
       have h1 := HFIN.out wr _ HJ.out
       have h2 := h1.cut
       rw [HJ.out.len] at h2
       exact h2.mono fun e w' ⟨n, e1, e2, e3⟩ => ⟨n, e1, by obtain ⟨A, xs, a1, a2, a3⟩ := natOut_cut h1 e2; exact ⟨A, xs, a1, by rw [HJ.out.len] at a2; have := HLB.out; omega, a3⟩, e3⟩)
      go_wp2_with (go_at_call 212; go_must (refine HCT.out.mono ?_); go_must (rintro e w5 ⟨n5, rfl, hO5, rfl⟩))
      go_ret2
      exact ⟨_, _, rfl, Lib.hid hO5, HJ.out.b⟩
end Go.Proofs.YtcpkjmpbpmeclaaGreatDoor
namespace Go.Proofs.YtcpkjmpbpmeclaaGreatDoor
open Go.RowKit
set_option maxRecDepth 100000
set_option linter.unusedVariables false
set_option linter.unusedSimpArgs false
set_option linter.unnecessarySimpa false

theorem made_any (s : Int) (A : Option Addr) (n : Nat) (w : World) :
  Calls Tryz.prog 248 #[.int .i8 s, .slice A n n] w fun e w' => ∃ b, e = .returned (.agg #[.bool b, .slice A n n]) ∧ Below w.heap.size w w' := by
 have key : ∀ b : Bool, ∃ HL : Hid (Sem.run Tryz.prog (loadVar 28 ⟨w.heap.size, 0, none⟩) (w.alloc (.cells #[.bool b, .slice A n n] 28)) = .ok (.agg #[.bool b, .slice A n n]) (w.alloc (.cells #[.bool b, .slice A n n] 28))), Below w.heap.size w (w.alloc (.cells #[.bool b, .slice A n n] 28)) := fun b => by
  refine ⟨Lib.hid ?_, (Below.refl _ _).alloc (Nat.le_refl _) _⟩
  exact run_loadVar_mid (P := Tryz.prog) (w.alloc (.cells #[.bool b, .slice A n n] 28)) w.heap.size 0 28 [.bool b, .slice A n n] _ (fun j u hu => by rw [Nat.zero_add, cell_of_row _ _ _ _ _ _ (heap_alloc_new w _)]; simpa using hu) Tryz.underlying28 rfl size_int
 have HK := Lib.hid key
 clear key
 by_cases h1 : s = -1
 ·subst h1
  by_cases h2 : n = 0
  ·subst h2
   go_enter Tryz.func248, Tryz.ntmps248
   go_wp2
   obtain ⟨HL, hb⟩ := HK.out false
   refine bodyPost_ret (v := .agg #[.bool false, .slice A 0 0]) ?_ rfl ⟨false, rfl, hb⟩
   have hLd := HL.out
   simp [results, Tryz.results248, hLd, asAddr, Act.put]
  ·have h2b : decide ((0 : Int) < (n : Int)) = true := decide_eq_true (by omega)
   go_enter Tryz.func248, Tryz.ntmps248
   go_wp2
   obtain ⟨HL, hb⟩ := HK.out (decide (0 < n))
   refine bodyPost_ret (v := .agg #[.bool (decide (0 < n)), .slice A n n]) ?_ rfl ⟨_, rfl, hb⟩
   have hLd := HL.out
   simp [results, Tryz.results248, hLd, asAddr, Act.put]
 ·have h1b : (s == -1) = false := by simpa using h1
  go_enter Tryz.func248, Tryz.ntmps248
  go_wp2
  obtain ⟨HL, hb⟩ := HK.out false
  refine bodyPost_ret (v := .agg #[.bool false, .slice A n n]) ?_ rfl ⟨false, rfl, hb⟩
  have hLd := HL.out
  simp [results, Tryz.results248, hLd, asAddr, Act.put]
set_option maxHeartbeats 2000000 in
theorem wnorm_any (g : Bool) (A : Option Addr) (c : Nat) (xs : List Int) (w : World) (hx : NatIn w A c xs) :
  Calls Tryz.prog 229 #[.agg #[.bool g, .slice A xs.length c]] w fun e w' => ∃ b B n, e = .returned (.agg #[.bool b, .slice B n n]) ∧ Below w.heap.size w w' := by
 have HS : Hid (∀ W, Below w.heap.size w W → Calls Tryz.prog 153 #[.agg #[.bool g, .slice A xs.length c]] W fun e w' => ∃ s B n, e = .returned (.tuple #[.int .i8 s, .slice B n n]) ∧ Below W.heap.size W w') := Lib.hid fun W hW => (signed_any g A c xs W (hx.below hW)).mono fun e w' ⟨s, B, n, h1, h2, h3⟩ => ⟨s, B, n, h1, h3⟩
 obtain ⟨m, hm⟩ : ∃ m, xs.length = m := ⟨_, rfl⟩
 rw [hm] at HS ⊢
 clear hm hx
 have hR0 : ((w.alloc (.cells #[.bool g, .slice A m c] 28)).alloc (.cells #[.bool false, .slice none 0 0] 28)).heap[w.heap.size + 1]? = some (.cells #[.bool false, .slice none 0 0] 28 (0, 0)) := by
  have := heap_alloc_new (w.alloc (.cells #[.bool g, .slice A m c] 28)) (.cells #[.bool false, .slice none 0 0] 28)
  simpa using this
 have hb0 : Below w.heap.size w ((w.alloc (.cells #[.bool g, .slice A m c] 28)).alloc (.cells #[.bool false, .slice none 0 0] 28)) := ((Below.refl _ _).alloc (Nat.le_refl _) _).alloc (by simp) _
 have HR0 := Lib.hid hR0
 have HB0 := Lib.hid hb0
 clear hR0 hb0
 go_enter Tryz.func229, Tryz.ntmps229
 go_wp2_with (first
  | (go_at_call 153; go_must (refine (HS.out _ HB0.out).mono ?_); go_must (rintro e w1 ⟨s, B, n, rfl, hb1⟩; have HB1 := Lib.hid hb1; clear hb1))
  | (go_at_call 248; go_must (refine (made_any s B n _).mono ?_); go_must (rintro e w2 ⟨b, rfl, hb2⟩; have hR2 := (hb2.block _ (by have := (Array.getElem?_eq_some_iff.1 HR0.out).1; have := HB1.out.size; omega)).trans ((HB1.out.block _ (Array.getElem?_eq_some_iff.1 HR0.out).1).trans HR0.out); have d0 : w2.cell? ⟨w.heap.size + 1, 0, none⟩ = some (.bool false) := cell_of_row _ _ _ _ _ _ hR2; have d1 : w2.cell? ⟨w.heap.size + 1, 1, none⟩ = some (.slice none 0 0) := cell_of_row _ _ _ _ _ _ hR2; have g0 : w2.frozen? ⟨w.heap.size + 1, 0, none⟩ = false := (by simp [World.frozen?, hR2]); have g1 : w2.frozen? ⟨w.heap.size + 1, 1, none⟩ = false := (by simp [World.frozen?, hR2]); have HR2 := Lib.hid hR2; have HB2 := Lib.hid hb2; clear hR2 hb2)))
 have hT2 : w2.there (w.heap.size + 1) 0 2 := there_row HR2.out _ _ (Nat.le_refl _)
 have hLd := run_loadVar_mid (P := Tryz.prog) (w2.setCells (w.heap.size + 1) 0 [.bool b, .slice B n n]) (w.heap.size + 1) 0 28 [.bool b, .slice B n n] _ (World.rangeAt_setCells_same _ _ _ _ hT2) Tryz.underlying28 rfl size_int
 have hBZ : Below w.heap.size w (w2.setCells (w.heap.size + 1) 0 [.bool b, .slice B n n]) := below_setCells _ _ 0 _ (trans_b (trans_b HB0.out HB1.out) HB2.out) (Nat.le_succ _)
 refine bodyPost_ret (v := .agg #[.bool b, .slice B n n]) ?_ rfl ⟨b, B, n, rfl, hBZ⟩
 simp only [World.setCells, Nat.zero_add] at hLd
 simp [results, Tryz.results229, hLd, asAddr, Act.put]
end Go.Proofs.YtcpkjmpbpmeclaaGreatDoor
namespace Go.Proofs.YtcpkjmpbpmeclaaGreatDoor
open Go.RowKit
set_option maxRecDepth 100000
set_option linter.unusedVariables false
set_option linter.unusedSimpArgs false
set_option linter.unnecessarySimpa false

/-- The pattern is that of a whole number. -/
def IntQ (x : Int) : Prop := sizeF x < 9218868437227405312 ∧ WholeF (sizeF x)
/-- What Int answers: some number, and whether it is one. -/
def IntRes (r : Bool) (e : Ending) : Prop := ∃ b B n, e = .returned (.tuple #[.agg #[.bool b, .slice B n n], .bool r])
abbrev zeroI : Array Value := #[.bool false, .slice none 0 0]
theorem blk2 {W : World} {p : Nat} {t : TypeId} {a b : Value} (h : W.heap[p]? = some (.cells #[a, b] t (0, 0))) : W.cell? ⟨p, 0, none⟩ = some a ∧ W.cell? ⟨p, 1, none⟩ = some b ∧ W.frozen? ⟨p, 0, none⟩ = false ∧ W.frozen? ⟨p, 1, none⟩ = false :=
 ⟨cell_of_row _ _ _ _ _ _ h, cell_of_row _ _ _ _ _ _ h, by simp [World.frozen?, h], by simp [World.frozen?, h]⟩
theorem int_load {w W : World} (hR : W.heap[w.heap.size]? = some (.cells zeroI 28 (0, 0))) (hb : Below w.heap.size w W) (b : Bool) (B : Option Addr) (n : Nat) :
  Sem.run Tryz.prog (loadVar 28 ⟨w.heap.size, 0, none⟩) ((W.setCell ⟨w.heap.size, 0, none⟩ (.bool b)).setCell ⟨w.heap.size, 1, none⟩ (.slice B n n)) = .ok (.agg #[.bool b, .slice B n n]) ((W.setCell ⟨w.heap.size, 0, none⟩ (.bool b)).setCell ⟨w.heap.size, 1, none⟩ (.slice B n n)) ∧
   Below w.heap.size w ((W.setCell ⟨w.heap.size, 0, none⟩ (.bool b)).setCell ⟨w.heap.size, 1, none⟩ (.slice B n n)) := by
 have hT2 : W.there w.heap.size 0 2 := there_row hR _ _ (Nat.le_refl _)
 have hLd := run_loadVar_mid (P := Tryz.prog) (W.setCells w.heap.size 0 [.bool b, .slice B n n]) w.heap.size 0 28 [.bool b, .slice B n n] _ (World.rangeAt_setCells_same _ _ _ _ hT2) Tryz.underlying28 rfl size_int
 have hBZ : Below w.heap.size w (W.setCells w.heap.size 0 [.bool b, .slice B n n]) := below_setCells _ _ 0 _ hb (Nat.le_refl _)
 exact ⟨hLd, hBZ⟩
set_option maxHeartbeats 4000000 in
theorem int_any (x : Int) (w : World) (hS : Shapes w) (hT : Bruijn w) (h0 : 0 ≤ x) (h1 : x ≤ 18446744073709551615) :
  Calls Tryz.prog 200 #[.int .u64 x] w fun e w' => IntRes (decP (IntQ x)) e ∧ Below w.heap.size w w' := by
 obtain ⟨r, hr⟩ : ∃ r, decP (IntQ x) = r := ⟨_, rfl⟩
 rw [hr]
 have HP : Hid (∀ W, Below w.heap.size w W → Calls Tryz.prog 226 #[.int .u64 x] W fun e w' => ∃ (g : Bool) (m z : Int) (ok : Bool), e = .returned (.tuple #[.bool g, .int .u64 m, .int .i64 z, .bool ok]) ∧ Hid (0 ≤ m ∧ m ≤ 18446744073709551615 ∧ z ≤ 1100 ∧ -2000 ≤ z ∧ ((ok = false ∧ r = false) ∨ (ok = true ∧ r = decide (0 ≤ z)))) ∧ Below W.heap.size W w') := Lib.hid fun W hW => by
  refine (parts_any x W (hS.below hW) (hT.below hW) h0 h1).mono ?_
  rintro e w' ⟨⟨g, m, hm0, hm1, hh⟩, hb⟩
  rcases hh with ⟨k1, rfl⟩ | ⟨k1, k2, rfl⟩ | ⟨k1, k2, rfl⟩
  ·exact ⟨false, 0, 0, false, rfl, Lib.hid ⟨by decide, by decide, by decide, by decide, .inl ⟨rfl, by rw [← hr]; exact decP_no.2 fun h => by have := h.1; omega⟩⟩, hb⟩
  ·exact ⟨g, 0, 0, true, rfl, Lib.hid ⟨by decide, by decide, by decide, by decide, .inr ⟨rfl, by rw [← hr]; exact decP_of (by simp; exact ⟨k1, .inl k2⟩)⟩⟩, hb⟩
  ·have hc := ctz_le (partM (sizeF x))
   have he : -1074 ≤ partE (sizeF x) ∧ partE (sizeF x) ≤ 1000 := by
    unfold partE
    split <;> omega
   exact ⟨g, m, _, true, rfl, Lib.hid ⟨hm0, hm1, by omega, by omega, .inr ⟨rfl, by
    rw [← hr]
    refine decP_of ?_
    simp only [decide_eq_true_eq]
    exact ⟨fun h => ⟨k1, .inr h⟩, fun h => by rcases h.2 with h | h; exact absurd h k2; exact h⟩⟩⟩, hb⟩
 have hR0 : (w.alloc (.cells zeroI 28)).heap[w.heap.size]? = some (.cells zeroI 28 (0, 0)) := heap_alloc_new w _
 have hb0 : Below w.heap.size w (w.alloc (.cells zeroI 28)) := (Below.refl _ _).alloc (Nat.le_refl _) _
 have HR0 := Lib.hid hR0
 have HB0 := Lib.hid hb0
 clear hS hT h0 h1 hr hR0 hb0
 go_enter Tryz.func200, Tryz.ntmps200
 go_upto_region 2 with (go_at_call 226; go_must (refine (HP.out _ HB0.out).mono ?_); go_must (rintro e w1 ⟨g, m, z, ok, rfl, HH, hb1⟩))
 have HR1 := Lib.hid ((hb1.block _ (Array.getElem?_eq_some_iff.1 HR0.out).1).trans HR0.out)
 have HB1 := Lib.hid (trans_b HB0.out hb1)
 clear hb1
 obtain ⟨c0, c1, f0, f1⟩ := blk2 HR1.out
 have HM0 := Lib.hid HH.out.1
 have HM1 := Lib.hid HH.out.2.1
 have hz1 := HH.out.2.2.1
 have hz2 := HH.out.2.2.2.1
 rcases HH.out.2.2.2.2 with ⟨hok, hrr⟩ | ⟨hok, hrr⟩
 ·subst hok
  have HV := Lib.hid hrr
  obtain ⟨hL, hB⟩ := int_load HR1.out HB1.out false none 0
  have HL := Lib.hid hL
  have HB := Lib.hid hB
  clear hL hB HH hrr
  go_wp2
  refine bodyPost_ret (v := .tuple #[.agg #[.bool false, .slice none 0 0], .bool false]) ?_ rfl ⟨⟨false, none, 0, by rw [HV.out]⟩, HB.out⟩
  have hLd := HL.out
  simp [results, Tryz.results200, hLd, asAddr, Act.put]
 ·subst hok
  by_cases hz : 0 ≤ z
  ·have HV : Hid (r = true) := Lib.hid (by rw [hrr]; simpa using hz)
   obtain ⟨E, rfl⟩ : ∃ E : Nat, z = E := ⟨z.toNat, by omega⟩
   have hzb : decide (((E : Nat) : Int) < 0) = false := decide_eq_false (by omega)
   clear HH hrr hz
   go_wp2_with (first
    | (go_at_call 228; go_must (refine (from_any m _ HM0.out HM1.out).mono ?_); go_must (rintro e w2 ⟨A, n, rfl, HN, hb2⟩; have HR2 := Lib.hid ((hb2.block _ (Array.getElem?_eq_some_iff.1 HR1.out).1).trans HR1.out); have HB2 := Lib.hid (trans_b HB1.out hb2); clear hb2))
    | (go_at_call 227; go_must (obtain ⟨A', xs, hv, hx2, hxi⟩ := HN.out; injection hv with hv1 hv2 hv3; subst hv1; subst hv2; refine (shl_any A xs.length E (E / 32) (E % 32) xs _ hxi hx2 (by omega) rfl rfl).mono ?_); go_must (rintro e w3 ⟨v3, b3, rfl, HN3, hb3⟩; have HR3 := Lib.hid ((hb3.block _ (Array.getElem?_eq_some_iff.1 HR2.out).1).trans HR2.out); have HB3 := Lib.hid (trans_b HB2.out hb3); obtain ⟨A3, ys, hv3, hy3, hyi⟩ := HN3.out; subst hv3; have HYI := Lib.hid hyi; clear hb3 hyi hxi hy3 hx2))
    | (go_at_call 229; go_must (refine (wnorm_any g A3 ys.length ys _ HYI.out).mono ?_); go_must (rintro e w4 ⟨b, B, n4, rfl, hb4⟩; have HR4 := Lib.hid ((hb4.block _ (Array.getElem?_eq_some_iff.1 HR3.out).1).trans HR3.out); have HB4 := Lib.hid (trans_b HB3.out hb4); clear hb4; obtain ⟨d0, d1, g0, g1⟩ := blk2 HR4.out)))
   obtain ⟨hLd, hB⟩ := int_load HR4.out HB4.out b B n4
   refine bodyPost_ret (v := .tuple #[.agg #[.bool b, .slice B n4 n4], .bool true]) ?_ rfl ⟨⟨b, B, n4, by rw [HV.out]⟩, hB⟩
   simp [results, Tryz.results200, hLd, asAddr, Act.put]
  ·have HV : Hid (r = false) := Lib.hid (by rw [hrr]; simpa using hz)
   have hzb : decide (z < 0) = true := decide_eq_true (by omega)
   obtain ⟨hL, hB⟩ := int_load HR1.out HB1.out false none 0
   have HL := Lib.hid hL
   have HB := Lib.hid hB
   clear hL hB HH hrr
   go_wp2
   refine bodyPost_ret (v := .tuple #[.agg #[.bool false, .slice none 0 0], .bool false]) ?_ rfl ⟨⟨false, none, 0, by rw [HV.out]⟩, HB.out⟩
   have hLd := HL.out
   simp [results, Tryz.results200, hLd, asAddr, Act.put]
theorem float_dec (x : Int) (h0 : 0 ≤ x) (h1 : x ≤ 18446744073709551615) :
  decP (FloatF x) = if clsF x = 5 then decide (x = 9221120237041090560) else if clsF x = 4 then true else !decP (IntQ x) := by
 refine decP_of ?_
 unfold clsF FloatF
 by_cases k1 : 9218868437227405312 < sizeF x
 ·simp [k1]
  omega
 ·by_cases k2 : sizeF x = 9218868437227405312
  ·simp [k2]
  ·have e1 : (if 9218868437227405312 < sizeF x then (5 : Int) else if sizeF x = 9218868437227405312 then 4 else if sizeF x = 0 then 1 else if sizeF x < 4503599627370496 then 2 else 3) ≠ 5 ∧ (if 9218868437227405312 < sizeF x then (5 : Int) else if sizeF x = 9218868437227405312 then 4 else if sizeF x = 0 then 1 else if sizeF x < 4503599627370496 then 2 else 3) ≠ 4 := by
    constructor <;> (repeat' split) <;> omega
   rw [if_neg e1.1, if_neg e1.2]
   have hlt : sizeF x < 9218868437227405312 := by omega
   rw [Bool.not_eq_true', decP_no]
   unfold IntQ
   constructor
   ·intro h; exact .inr (.inr ⟨hlt, fun hw => h ⟨hlt, hw⟩⟩)
   ·rintro (h | h | h)
    ·omega
    ·omega
    ·exact fun hw => h.2 hw.2
set_option maxHeartbeats 2000000 in
theorem float_any (x : Int) (w : World) (hS : Shapes w) (hT : Bruijn w) (h0 : 0 ≤ x) (h1 : x ≤ 18446744073709551615) :
  Calls Tryz.prog 138 #[.int .u64 x] w fun e w' => e = .returned (.bool (decP (FloatF x))) ∧ Below w.heap.size w w' := by
 have HD := Lib.hid (float_dec x h0 h1)
 have HCL := Lib.hid (class_any x w hS h0 h1)
 have HIN : Hid (∀ W, Below w.heap.size w W → Calls Tryz.prog 200 #[.int .u64 x] W fun e w' => IntRes (decP (IntQ x)) e ∧ Below W.heap.size W w') := Lib.hid fun W hW => int_any x W (hS.below hW) (hT.below hW) h0 h1
 generalize decP (FloatF x) = r at *
 generalize decP (IntQ x) = q at *
 generalize clsF x = c at *
 clear hS hT h0 h1
 by_cases k1 : c = 5
 ·subst k1
  by_cases k2 : x = 9221120237041090560
  ·have HV : Hid (r = true) := Lib.hid (by rw [HD.out]; simp [k2])
   have k2b : (x == 9221120237041090560) = true := by simpa using k2
   clear k2
   go_enter Tryz.func138, Tryz.ntmps138
   go_wp2_with (go_at_call 199; go_must (refine HCL.out.mono ?_); go_must (rintro e w1 ⟨rfl, hb1⟩))
   go_ret
   exact ⟨by rw [HV.out]; rfl, hb1⟩
  ·have HV : Hid (r = false) := Lib.hid (by rw [HD.out]; simp [k2])
   have k2b : (x == 9221120237041090560) = false := by simpa using k2
   clear k2
   go_enter Tryz.func138, Tryz.ntmps138
   go_wp2_with (go_at_call 199; go_must (refine HCL.out.mono ?_); go_must (rintro e w1 ⟨rfl, hb1⟩))
   go_ret
   exact ⟨by rw [HV.out]; rfl, hb1⟩
 ·have k1b : (c == 5) = false := by simpa using k1
  by_cases k2 : c = 4
  ·subst k2
   have HV : Hid (r = true) := Lib.hid (by rw [HD.out]; simp)
   go_enter Tryz.func138, Tryz.ntmps138
   go_wp2_with (go_at_call 199; go_must (refine HCL.out.mono ?_); go_must (rintro e w1 ⟨rfl, hb1⟩))
   go_ret
   exact ⟨by rw [HV.out]; rfl, hb1⟩
  ·have k2b : (c == 4) = false := by simpa using k2
   have HV : Hid (r = !q) := Lib.hid (by rw [HD.out, if_neg k1, if_neg k2])
   clear k1 k2
   go_enter Tryz.func138, Tryz.ntmps138
   go_wp2_with (first
    | (go_at_call 199; go_must (refine HCL.out.mono ?_); go_must (rintro e w1 ⟨rfl, hb1⟩))
    | (go_at_call 200; go_must (refine (HIN.out _ hb1).mono ?_); go_must (rintro e w2 ⟨⟨b, B, n, rfl⟩, hb2⟩)))
   go_ret
   exact ⟨by rw [HV.out]; rfl, trans_b (trans_b hb1 hb2) ((Below.refl _ _).alloc (Nat.le_refl _) _)⟩
end Go.Proofs.YtcpkjmpbpmeclaaGreatDoor
