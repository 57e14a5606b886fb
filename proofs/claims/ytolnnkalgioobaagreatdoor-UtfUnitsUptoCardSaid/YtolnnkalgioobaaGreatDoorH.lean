/- The document's First tells what utf.First tells. -/
import Derived.Test.YtolnnkalgioobaaGreatDoorG
namespace Go.Proofs.YtolnnkalgioobaaGreatDoor
open Go.RowKit
set_option maxRecDepth 100000
set_option linter.unusedVariables false
set_option linter.unusedSimpArgs false
set_option linter.unnecessarySimpa false

def stP (s : ByteArray) (a : Nat) (p : Int) : Prop := ∀ j, j < (encL p).length → at1 s (a + j) = (encL p).getD j 0
theorem st1 (s : ByteArray) (a : Nat) (p : Int) (h : p < 128) : (stP s a p ↔ at1 s a = p) ∧ (encL p).length = 1 := by
  have e : encL p = [p] := by unfold encL; rw [if_pos h]
  unfold stP
  rw [e]
  refine ⟨⟨fun k => k 0 (by simp), fun k j hj => ?_⟩, rfl⟩
  match j, hj with
  | 0, _ => exact k
theorem st2 (s : ByteArray) (a : Nat) (p : Int) (h : ¬ p < 128) (h2 : p < 2048) : (stP s a p ↔ at1 s a = 192 + p / 64 ∧ at1 s (a + 1) = 128 + p % 64) ∧ (encL p).length = 2 := by
  have e : encL p = [192 + p / 64, 128 + p % 64] := by unfold encL; rw [if_neg h, if_pos h2]
  unfold stP
  rw [e]
  refine ⟨⟨fun k => ⟨k 0 (by simp), k 1 (by simp)⟩, fun k j hj => ?_⟩, rfl⟩
  match j, hj with
  | 0, _ => exact k.1
  | 1, _ => exact k.2
theorem st3 (s : ByteArray) (a : Nat) (p : Int) (h : ¬ p < 128) (h2 : ¬ p < 2048) (h3 : p < 65536) : (stP s a p ↔ at1 s a = 224 + p / 4096 ∧ at1 s (a + 1) = 128 + p / 64 % 64 ∧ at1 s (a + 2) = 128 + p % 64) ∧ (encL p).length = 3 := by
  have e : encL p = [224 + p / 4096, 128 + p / 64 % 64, 128 + p % 64] := by unfold encL; rw [if_neg h, if_neg h2, if_pos h3]
  unfold stP
  rw [e]
  refine ⟨⟨fun k => ⟨k 0 (by simp), k 1 (by simp), k 2 (by simp)⟩, fun k j hj => ?_⟩, rfl⟩
  match j, hj with
  | 0, _ => exact k.1
  | 1, _ => exact k.2.1
  | 2, _ => exact k.2.2
theorem st4 (s : ByteArray) (a : Nat) (p : Int) (h : ¬ p < 128) (h2 : ¬ p < 2048) (h3 : ¬ p < 65536) : (stP s a p ↔ at1 s a = 240 + p / 262144 ∧ at1 s (a + 1) = 128 + p / 4096 % 64 ∧ at1 s (a + 2) = 128 + p / 64 % 64 ∧ at1 s (a + 3) = 128 + p % 64) ∧ (encL p).length = 4 := by
  have e : encL p = [240 + p / 262144, 128 + p / 4096 % 64, 128 + p / 64 % 64, 128 + p % 64] := by unfold encL; rw [if_neg h, if_neg h2, if_neg h3]
  unfold stP
  rw [e]
  refine ⟨⟨fun k => ⟨k 0 (by simp), k 1 (by simp), k 2 (by simp), k 3 (by simp)⟩, fun k j hj => ?_⟩, rfl⟩
  match j, hj with
  | 0, _ => exact k.1
  | 1, _ => exact k.2.1
  | 2, _ => exact k.2.2.1
  | 3, _ => exact k.2.2.2

def stepV (a : Nat) (c : Int) : Option (Int × Nat) → Value
  | none => .agg #[.int .i64 a, .int .i64 1, .int .i64 c, .bool false]
  | some (p, n) => .agg #[.int .i64 a, .int .i64 n, .int .i64 p, .bool true]

/-- The step where the bytes' bits say P. -/
def goodP (s : ByteArray) (a n : Nat) (P : Int) : Prop := isPt P = true ∧ stP s a P ∧ (encL P).length = n
theorem rf_of (s : ByteArray) (a n : Nat) (c P : Int) (w : World) (hs : s.size ≤ 140737488351232) (hc : at1 s a = c) (hn : sizeF c = n) (h1 : 1 ≤ n) (h4 : n ≤ 4) (hfit : a + n ≤ s.size)
    (hbits : ∀ W, Calls Tryz.prog 115 #[.string s, .int .i64 a, .int .i64 n] W fun e w' => e = .returned (.int .i64 P) ∧ Below W.heap.size W w') (h0 : 0 ≤ P) (hP1 : P < 2097152)
    (d : Option (Int × Nat)) (hd : d = none ∧ ¬ goodP s a n P ∨ d = some (P, n) ∧ goodP s a n P) :
    Calls Tryz.prog 86 #[.string s, .int .i64 a] w fun e w' => e = .returned (stepV a c d) ∧ Below w.heap.size w w' := by
  rcases hd with ⟨rfl, hg⟩ | ⟨rfl, hp, hst, hl⟩
  · have hlt : (a : Int) < (s.size : Int) := by omega
    rcases hp : isPt P with _ | _
    · exact rf_noPt s a n c P w hs hc hlt hn h1 hfit h4 hbits hp
    · by_cases hst : stP s a P
      · by_cases hl : (encL P).length = n
        · exact absurd ⟨hp, hst, hl⟩ hg
        · exact rf_noLen s a n c P w hs hc hlt hn h1 hfit h4 hbits h0 hP1 hp (decide_eq_true hst) hl
      · exact rf_noSt s a n c P w hs hc hlt hn h1 hfit h4 hbits h0 hP1 hp (decide_eq_false hst)
  · exact rf_yes s a n c P w hs hc hn h1 hfit hbits h0 hP1 hp (decide_eq_true hst) hl
theorem isPt_iff (p : Int) : isPt p = true ↔ 0 ≤ p ∧ p ≤ 1114111 ∧ (p < 55296 ∨ 57343 < p) := by simp [isPt, and_assoc]
theorem cont_no (x : Int) (h : cont x = false) : ¬ (128 ≤ x ∧ x < 192) := fun k => by rw [(cont_iff x).2 k] at h; cases h

theorem refFirst_any (s : ByteArray) (a : Nat) (w : World) (hs : s.size ≤ 140737488351232) (ha : a < s.size) :
    Calls Tryz.prog 86 #[.string s, .int .i64 a] w fun e w' => e = .returned (stepV a (at1 s a) (decS s a)) ∧ Below w.heap.size w w' := by
  have hr := at1_range s a
  have hr1 := at1_range s (a + 1)
  have hr2 := at1_range s (a + 2)
  have hr3 := at1_range s (a + 3)
  have hi0 := at1_in s a
  have hi1 := at1_in s (a + 1)
  have hi2 := at1_in s (a + 2)
  have hi3 := at1_in s (a + 3)
  have hlt : (a : Int) < (s.size : Int) := by omega
  have T1 := st1 s a
  have T2 := st2 s a
  have T3 := st3 s a
  have T4 := st4 s a
  unfold decS
  obtain ⟨c, hc⟩ : ∃ c, at1 s a = c := ⟨_, rfl⟩
  obtain ⟨x, hx⟩ : ∃ c, at1 s (a + 1) = c := ⟨_, rfl⟩
  obtain ⟨y, hy⟩ : ∃ c, at1 s (a + 2) = c := ⟨_, rfl⟩
  obtain ⟨z, hz⟩ : ∃ c, at1 s (a + 3) = c := ⟨_, rfl⟩
  rw [hc] at hr hi0 T1 T2 T3 T4
  rw [hx] at hr1 hi1 T2 T3 T4
  rw [hy] at hr2 hi2 T3 T4
  rw [hz] at hr3 hi3 T4
  rw [hc, hx, hy, hz]
  unfold dec4
  rw [if_neg (by omega)]
  by_cases h1 : c < 128
  · rw [if_pos h1]
    refine rf_of s a 1 c (c % 128) w hs hc (by unfold sizeF; rw [if_pos h1]; rfl) (by omega) (by omega) (by omega) (fun W => bits1 s a c W hs hc (by omega) (by omega)) (by omega) (by omega) _ (.inr ⟨by rw [show c % 128 = c from by omega], ?_⟩)
    rw [show c % 128 = c from by omega]
    exact ⟨(isPt_iff c).2 (by omega), (T1 c h1).1.2 rfl, (T1 c h1).2⟩
  rw [if_neg h1]
  by_cases h2 : c < 192
  · rw [if_pos h2]
    exact rf_no0 s a 0 c w hs hc hlt (by unfold sizeF; rw [if_neg h1, if_pos h2]; rfl) rfl
  rw [if_neg h2]
  by_cases h3 : c < 224
  · rw [if_pos h3]
    have hsz : sizeF c = (2 : Nat) := by unfold sizeF; rw [if_neg h1, if_neg h2, if_pos h3]; rfl
    by_cases hfit : a + 2 ≤ s.size
    · refine rf_of s a 2 c (c % 32 * 64 + x % 64) w hs hc hsz (by omega) (by omega) hfit (fun W => bits2 s a c x W hs hc hx (by omega) hfit) (by omega) (by omega) _ ?_
      unfold goodP
      by_cases hp : c % 32 * 64 + x % 64 < 128
      · left
        have t := T1 _ hp
        refine ⟨?_, fun ⟨_, k, _⟩ => by have := t.1.1 k; omega⟩
        rcases hcx : cont x with _ | _
        · rfl
        · have := (cont_iff x).1 hcx
          simp only [if_true]
          rw [if_neg (by omega)]
      · have t := T2 _ hp (by omega)
        rcases hcx : cont x with _ | _
        · left
          refine ⟨rfl, fun ⟨_, k, _⟩ => ?_⟩
          have := t.1.1 k
          exact cont_no x hcx (by omega)
        · right
          have hxx := (cont_iff x).1 hcx
          simp only [if_true]
          rw [if_pos (by omega), show (c - 192) * 64 + (x - 128) = c % 32 * 64 + x % 64 from by omega]
          exact ⟨rfl, (isPt_iff _).2 (by omega), t.1.2 (by omega), t.2⟩
    · have hcx : cont x = false := by simp [cont]; omega
      rw [hcx]
      exact rf_noFit s a 2 c w hs hc hlt hsz (by omega) (by omega) (by omega)
  rw [if_neg h3]
  by_cases h4 : c < 240
  · rw [if_pos h4]
    have hsz : sizeF c = (3 : Nat) := by unfold sizeF; rw [if_neg h1, if_neg h2, if_neg h3, if_pos h4]; rfl
    by_cases hfit : a + 3 ≤ s.size
    · refine rf_of s a 3 c ((c % 16 * 64 + x % 64) * 64 + y % 64) w hs hc hsz (by omega) (by omega) hfit (fun W => bits3 s a c x y W hs hc hx hy (by omega) hfit) (by omega) (by omega) _ ?_
      unfold goodP
      have hpi := isPt_iff ((c % 16 * 64 + x % 64) * 64 + y % 64)
      rcases hcc : cont x && cont y with _ | _
      · left
        simp only [Bool.false_eq_true, if_false]
        refine ⟨trivial, fun ⟨_, k, hl⟩ => ?_⟩
        have hno : ¬ ((128 ≤ x ∧ x < 192) ∧ 128 ≤ y ∧ y < 192) := fun q => by
          rw [(cont_iff x).2 q.1, (cont_iff y).2 q.2] at hcc; cases hcc
        by_cases p1 : (c % 16 * 64 + x % 64) * 64 + y % 64 < 128
        · have := (T1 _ p1).2; omega
        · by_cases p2 : (c % 16 * 64 + x % 64) * 64 + y % 64 < 2048
          · have := (T2 _ p1 p2).2; omega
          · have := (T3 _ p1 p2 (by omega)).1.1 k
            omega
      · simp only [Bool.and_eq_true] at hcc
        have hxx := (cont_iff x).1 hcc.1
        have hyy := (cont_iff y).1 hcc.2
        simp only [if_true]
        rw [show ((c - 224) * 64 + (x - 128)) * 64 + (y - 128) = (c % 16 * 64 + x % 64) * 64 + y % 64 from by omega]
        by_cases p2 : 2048 ≤ (c % 16 * 64 + x % 64) * 64 + y % 64
        · have t := T3 _ (by omega) (by omega) (show (c % 16 * 64 + x % 64) * 64 + y % 64 < 65536 by omega)
          rcases hq : isPt ((c % 16 * 64 + x % 64) * 64 + y % 64) with _ | _
          · left
            simp
          · right
            simp only [Bool.and_true, decide_eq_true_eq, if_pos p2]
            exact ⟨trivial, trivial, t.1.2 (by omega), t.2⟩
        · left
          simp only [Bool.and_eq_true, decide_eq_true_eq, p2, false_and, if_false]
          refine ⟨trivial, fun ⟨_, k, hl⟩ => ?_⟩
          by_cases p1 : (c % 16 * 64 + x % 64) * 64 + y % 64 < 128
          · have := (T1 _ p1).2; omega
          · have := (T2 _ p1 (by omega)).2; omega
    · have hcx : (cont x && cont y) = false := by
        rcases hcc : cont x && cont y with _ | _
        · rfl
        · simp only [Bool.and_eq_true] at hcc
          have hyy := (cont_iff y).1 hcc.2
          omega
      rw [hcx]
      exact rf_noFit s a 3 c w hs hc hlt hsz (by omega) (by omega) (by omega)
  rw [if_neg h4]
  by_cases h5 : c < 248
  · rw [if_pos h5]
    have hsz : sizeF c = (4 : Nat) := by unfold sizeF; rw [if_neg h1, if_neg h2, if_neg h3, if_neg h4, if_pos h5]; rfl
    by_cases hfit : a + 4 ≤ s.size
    · refine rf_of s a 4 c (((c % 8 * 64 + x % 64) * 64 + y % 64) * 64 + z % 64) w hs hc hsz (by omega) (by omega) hfit (fun W => bits4 s a c x y z W hs hc hx hy hz (by omega) hfit) (by omega) (by omega) _ ?_
      unfold goodP
      have hpi := isPt_iff (((c % 8 * 64 + x % 64) * 64 + y % 64) * 64 + z % 64)
      rcases hcc : cont x && cont y && cont z with _ | _
      · left
        simp only [Bool.false_eq_true, if_false]
        refine ⟨trivial, fun ⟨_, k, hl⟩ => ?_⟩
        have hno : ¬ ((128 ≤ x ∧ x < 192) ∧ (128 ≤ y ∧ y < 192) ∧ 128 ≤ z ∧ z < 192) := fun q => by
          rw [(cont_iff x).2 q.1, (cont_iff y).2 q.2.1, (cont_iff z).2 q.2.2] at hcc; cases hcc
        by_cases p1 : ((c % 8 * 64 + x % 64) * 64 + y % 64) * 64 + z % 64 < 128
        · have := (T1 _ p1).2; omega
        · by_cases p2 : ((c % 8 * 64 + x % 64) * 64 + y % 64) * 64 + z % 64 < 2048
          · have := (T2 _ p1 p2).2; omega
          · by_cases p3 : ((c % 8 * 64 + x % 64) * 64 + y % 64) * 64 + z % 64 < 65536
            · have := (T3 _ p1 p2 p3).2; omega
            · have := (T4 _ p1 p2 p3).1.1 k
              omega
      · simp only [Bool.and_eq_true] at hcc
        have hxx := (cont_iff x).1 hcc.1.1
        have hyy := (cont_iff y).1 hcc.1.2
        have hzz := (cont_iff z).1 hcc.2
        simp only [if_true]
        rw [show (((c - 240) * 64 + (x - 128)) * 64 + (y - 128)) * 64 + (z - 128) = ((c % 8 * 64 + x % 64) * 64 + y % 64) * 64 + z % 64 from by omega]
        by_cases p2 : 65536 ≤ ((c % 8 * 64 + x % 64) * 64 + y % 64) * 64 + z % 64
        · have t := T4 (((c % 8 * 64 + x % 64) * 64 + y % 64) * 64 + z % 64) (by omega) (by omega) (by omega)
          rcases hq : isPt (((c % 8 * 64 + x % 64) * 64 + y % 64) * 64 + z % 64) with _ | _
          · left
            simp
          · right
            simp only [Bool.and_true, decide_eq_true_eq, if_pos p2]
            exact ⟨trivial, trivial, t.1.2 (by omega), t.2⟩
        · left
          simp only [Bool.and_eq_true, decide_eq_true_eq, p2, false_and, if_false]
          refine ⟨trivial, fun ⟨_, k, hl⟩ => ?_⟩
          by_cases p1 : ((c % 8 * 64 + x % 64) * 64 + y % 64) * 64 + z % 64 < 128
          · have := (T1 _ p1).2; omega
          · by_cases p4 : ((c % 8 * 64 + x % 64) * 64 + y % 64) * 64 + z % 64 < 2048
            · have := (T2 _ p1 p4).2; omega
            · have := (T3 _ p1 p4 (by omega)).2; omega
    · have hcx : (cont x && cont y && cont z) = false := by
        rcases hcc : cont x && cont y && cont z with _ | _
        · rfl
        · simp only [Bool.and_eq_true] at hcc
          have hzz := (cont_iff z).1 hcc.2
          omega
      rw [hcx]
      exact rf_noFit s a 4 c w hs hc hlt hsz (by omega) (by omega) (by omega)
  rw [if_neg h5]
  exact rf_no0 s a 0 c w hs hc hlt (by unfold sizeF; rw [if_neg h1, if_neg h2, if_neg h3, if_neg h4, if_neg h5]; rfl) rfl
end Go.Proofs.YtolnnkalgioobaaGreatDoor
