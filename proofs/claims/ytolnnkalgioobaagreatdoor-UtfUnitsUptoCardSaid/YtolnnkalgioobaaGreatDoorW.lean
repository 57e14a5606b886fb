/- What the bytes of a step are; strings that have the same steps; a string put together of two. -/
import Derived.Test.YtolnnkalgioobaaGreatDoorV
namespace Go.Proofs.YtolnnkalgioobaaGreatDoor
open Go.RowKit
set_option maxRecDepth 100000
set_option linter.unusedVariables false
set_option linter.unusedSimpArgs false
set_option linter.unnecessarySimpa false

theorem dec4_bytes {c x y z p : Int} {n : Nat} (h : dec4 c x y z = some (p, n)) :
    n = 1 ∧ c = p ∧ p < 128 ∨ n = 2 ∧ c = 192 + p / 64 ∧ x = 128 + p % 64 ∧ 128 ≤ p ∧ p < 2048 ∨
    n = 3 ∧ c = 224 + p / 4096 ∧ x = 128 + p / 64 % 64 ∧ y = 128 + p % 64 ∧ 2048 ≤ p ∧ p < 65536 ∨
    n = 4 ∧ c = 240 + p / 262144 ∧ x = 128 + p / 4096 % 64 ∧ y = 128 + p / 64 % 64 ∧ z = 128 + p % 64 ∧ 65536 ≤ p := by
  unfold dec4 at h
  repeat' split at h
  all_goals first
    | (cases h; done)
    | (obtain ⟨rfl, rfl⟩ := Prod.mk.inj (Option.some.inj h)
       simp only [isPt, cont, Bool.and_eq_true, Bool.or_eq_true, decide_eq_true_eq] at *
       simp only [true_and]
       omega)
theorem cont_yes {x : Int} (h0 : 128 ≤ x) (h1 : x < 192) : cont x = true := (cont_iff x).2 ⟨h0, h1⟩
theorem dec4_of1 (p x y z : Int) (h : isPt p = true) (h1 : p < 128) : dec4 p x y z = some (p, 1) := by
  have := (isPt_iff p).1 h
  unfold dec4
  rw [if_neg (by omega), if_pos h1]
theorem dec4_of2 (p y z : Int) (h : 128 ≤ p) (h1 : p < 2048) : dec4 (192 + p / 64) (128 + p % 64) y z = some (p, 2) := by
  unfold dec4
  rw [if_neg (by omega), if_neg (by omega), if_neg (by omega), if_pos (by omega), if_pos (cont_yes (by omega) (by omega)), if_pos (by omega)]
  congr 2
  omega
theorem dec4_of3 (p z : Int) (hp : isPt p = true) (h : 2048 ≤ p) (h1 : p < 65536) : dec4 (224 + p / 4096) (128 + p / 64 % 64) (128 + p % 64) z = some (p, 3) := by
  unfold dec4
  rw [if_neg (by omega), if_neg (by omega), if_neg (by omega), if_neg (by omega), if_pos (by omega), cont_yes (by omega) (by omega), cont_yes (by omega) (by omega)]
  have e : (224 + p / 4096 - 224) * 64 + (128 + p / 64 % 64 - 128) = p / 64 := by omega
  have e2 : ((224 + p / 4096 - 224) * 64 + (128 + p / 64 % 64 - 128)) * 64 + (128 + p % 64 - 128) = p := by omega
  rw [e2, hp]
  simp only [Bool.and_self, if_true, Bool.and_true, decide_eq_true_eq]
  rw [if_pos h]
theorem dec4_of4 (p : Int) (hp : isPt p = true) (h : 65536 ≤ p) : dec4 (240 + p / 262144) (128 + p / 4096 % 64) (128 + p / 64 % 64) (128 + p % 64) = some (p, 4) := by
  have hq := (isPt_iff p).1 hp
  unfold dec4
  rw [if_neg (by omega), if_neg (by omega), if_neg (by omega), if_neg (by omega), if_neg (by omega), if_pos (by omega), cont_yes (by omega) (by omega), cont_yes (by omega) (by omega), cont_yes (by omega) (by omega)]
  have e2 : (((240 + p / 262144 - 240) * 64 + (128 + p / 4096 % 64 - 128)) * 64 + (128 + p / 64 % 64 - 128)) * 64 + (128 + p % 64 - 128) = p := by omega
  rw [e2, hp]
  simp only [Bool.and_self, if_true, Bool.and_true, decide_eq_true_eq]
  rw [if_pos h]
/-- A step is told by its own bytes alone. -/
theorem decS_same {s t : ByteArray} {a b n : Nat} {p : Int} (h : decS s a = some (p, n)) (he : ∀ j, j < n → at1 s (a + j) = at1 t (b + j)) : decS t b = some (p, n) := by
  unfold decS at h ⊢
  have hp := (dec4_some h).1
  rcases dec4_bytes h with ⟨rfl, h1, h2⟩ | ⟨rfl, h1, h2, h3⟩ | ⟨rfl, h1, h2, h3, h4⟩ | ⟨rfl, h1, h2, h3, h4, h5⟩
  · have e0 := he 0 (by omega)
    simp only [Nat.add_zero] at e0
    rw [← e0, h1]
    exact dec4_of1 _ _ _ _ hp h2
  · have e0 := he 0 (by omega)
    have e1 := he 1 (by omega)
    simp only [Nat.add_zero] at e0
    rw [← e0, ← e1, h1, h2]
    exact dec4_of2 _ _ _ h3.1 h3.2
  · have e0 := he 0 (by omega)
    have e1 := he 1 (by omega)
    have e2 := he 2 (by omega)
    simp only [Nat.add_zero] at e0
    rw [← e0, ← e1, ← e2, h1, h2, h3]
    exact dec4_of3 _ _ hp h4.1 h4.2
  · have e0 := he 0 (by omega)
    have e1 := he 1 (by omega)
    have e2 := he 2 (by omega)
    have e3 := he 3 (by omega)
    simp only [Nat.add_zero] at e0
    rw [← e0, ← e1, ← e2, ← e3, h1, h2, h3, h4]
    exact dec4_of4 _ hp h5
/-- The same code point: the same bytes. -/
theorem decS_bytes {s t : ByteArray} {a b n m : Nat} {p : Int} (h : decS s a = some (p, n)) (k : decS t b = some (p, m)) : n = m ∧ ∀ j, j < n → at1 s (a + j) = at1 t (b + j) := by
  unfold decS at h k
  have en : n = m := by rw [dec4_size h, dec4_size k]
  subst en
  refine ⟨rfl, ?_⟩
  rcases dec4_bytes h with ⟨rfl, h1, h2⟩ | ⟨rfl, h1, h2, h3⟩ | ⟨rfl, h1, h2, h3, h4⟩ | ⟨rfl, h1, h2, h3, h4, h5⟩ <;>
    rcases dec4_bytes k with ⟨e, k1, k2⟩ | ⟨e, k1, k2, k3⟩ | ⟨e, k1, k2, k3, k4⟩ | ⟨e, k1, k2, k3, k4, k5⟩ <;> first | (cases e; done) | skip
  · intro j hj
    obtain rfl : j = 0 := by omega
    rw [Nat.add_zero, Nat.add_zero, h1, k1]
  · intro j hj
    rcases (by omega : j = 0 ∨ j = 1) with rfl | rfl
    · rw [Nat.add_zero, Nat.add_zero, h1, k1]
    · rw [h2, k2]
  · intro j hj
    rcases (by omega : j = 0 ∨ j = 1 ∨ j = 2) with rfl | rfl | rfl
    · rw [Nat.add_zero, Nat.add_zero, h1, k1]
    · rw [h2, k2]
    · rw [h3, k3]
  · intro j hj
    rcases (by omega : j = 0 ∨ j = 1 ∨ j = 2 ∨ j = 3) with rfl | rfl | rfl | rfl
    · rw [Nat.add_zero, Nat.add_zero, h1, k1]
    · rw [h2, k2]
    · rw [h3, k3]
    · rw [h4, k4]
theorem weightR_inj {x y : RStep} (hx : okR x) (hy : okR y) (h : weightR x = weightR y) : x.good = y.good ∧ x.point = y.point ∧ x.size = y.size := by
  obtain ⟨a, n, p, g⟩ := x
  obtain ⟨b, m, u, k⟩ := y
  unfold okR at hx hy
  unfold weightR at h
  rcases g with _ | _ <;> rcases k with _ | _ <;> simp only [Bool.false_eq_true, if_false, if_true, isPt_iff, Bool.true_eq_false] at hx hy h ⊢
  · refine ⟨trivial, ?_⟩; omega
  · exfalso
    split at h <;> omega
  · exfalso
    split at h <;> omega
  · have e : p = u := by
      split at h <;> split at h <;> omega
    subst e
    exact ⟨trivial, rfl, by rw [hx.2, hy.2]⟩
theorem at1_none {s : ByteArray} {a : Nat} (h : s.size ≤ a) : at1 s a = -1 := by
  have h1 := at1_range s a
  have h2 := at1_in s a
  omega
theorem rstep_bytes {s t : ByteArray} {a b : Nat} (ha : a < s.size) (hb : b < t.size) (h : weightR (rstep s a) = weightR (rstep t b)) :
    (rstep s a).size = (rstep t b).size ∧ ∀ j, j < (rstep s a).size → at1 s (a + j) = at1 t (b + j) := by
  obtain ⟨e1, e2, e3⟩ := weightR_inj (rstep_ok s a ha) (rstep_ok t b hb) h
  refine ⟨e3, ?_⟩
  clear h e3
  unfold rstep at e1 e2 ⊢
  rcases h1 : decS s a with _ | ⟨p, n⟩ <;> rcases h2 : decS t b with _ | ⟨q, m⟩ <;> rw [h1, h2] at e1 e2 <;> simp only at e1 e2 ⊢
  · intro j hj
    obtain rfl : j = 0 := by omega
    simpa using e2
  · cases e1
  · cases e1
  · subst e2
    exact (decS_bytes h1 h2).2
theorem at1_ext {s t : ByteArray} (h : s.size = t.size) (he : ∀ j, at1 s j = at1 t j) : s = t := by
  have e : ints s = ints t := by
    apply List.ext_getElem (by rw [ints_length, ints_length, h])
    intro j h1 h2
    rw [ints_length] at h1 h2
    have a1 := ints_at s j h1
    have a2 := ints_at t j h2
    have a3 := he j
    unfold at1 at a3
    rw [dif_pos h1, dif_pos h2] at a3
    rw [List.getD_eq_getElem?_getD, List.getElem?_eq_getElem (by rw [ints_length]; exact h1)] at a1
    rw [List.getD_eq_getElem?_getD, List.getElem?_eq_getElem (by rw [ints_length]; exact h2)] at a2
    simp only [Option.getD_some] at a1 a2
    rw [a1, a2, a3]
  rw [← strOfNums_ints s, ← strOfNums_ints t, e]
theorem cmpK_zero (s t : ByteArray) : ∀ k a, a ≤ s.size → a ≤ t.size → s.size ≤ a + k → cmpK k s t a = 0 → s.size = t.size ∧ ∀ j, a ≤ j → at1 s j = at1 t j
  | k, a, ha, ha2, hk, h => by
    by_cases hlt : a < s.size ∧ a < t.size
    · obtain ⟨h1, h2⟩ := hlt
      obtain ⟨k, rfl⟩ : ∃ q, k = q + 1 := ⟨k - 1, by omega⟩
      have f1 := rstep_fit s a h1
      have f2 := rstep_fit t a h2
      rw [cmpK, if_pos ⟨h1, h2⟩, weigh_rstep, weigh_rstep] at h
      simp only at h
      by_cases hx : weightR (rstep s a) < weightR (rstep t a)
      · rw [if_pos hx] at h; cases h
      · by_cases hy : weightR (rstep t a) < weightR (rstep s a)
        · rw [if_neg hx, if_pos hy] at h; cases h
        · rw [if_neg hx, if_neg hy] at h
          obtain ⟨e1, e2⟩ := rstep_bytes h1 h2 (by omega)
          rw [← e1, Nat.min_self] at h
          obtain ⟨q1, q2⟩ := cmpK_zero s t k _ (by omega) (by omega) (by omega) h
          refine ⟨q1, fun j hj => ?_⟩
          by_cases hjj : a + (rstep s a).size ≤ j
          · exact q2 j hjj
          · have := e2 (j - a) (by omega)
            rwa [show a + (j - a) = j from by omega] at this
    · rw [cmpK_end s t a hlt] at h
      unfold cmpE at h
      by_cases h1 : s.size < t.size
      · rw [if_pos h1] at h; cases h
      · by_cases h2 : t.size < s.size
        · rw [if_neg h1, if_pos h2] at h; cases h
        · refine ⟨by omega, fun j hj => ?_⟩
          rw [at1_none (by omega), at1_none (by omega)]
theorem cmpF_zero (s t : ByteArray) : cmpF s t = 0 ↔ s = t := by
  constructor
  · intro h
    obtain ⟨h1, h2⟩ := cmpK_zero s t _ 0 (by omega) (by omega) (by omega) h
    exact at1_ext h1 fun j => h2 j (Nat.zero_le _)
  · rintro rfl
    rw [cmpF_eq, cmpLL_self]
/-! ### The order of lists -/
theorem cmpLL_flip : ∀ x y : List Int, cmpLL y x = - cmpLL x y
  | [], [] => rfl
  | [], _ :: _ => rfl
  | _ :: _, [] => rfl
  | x :: xs, y :: ys => by
    have ih := cmpLL_flip xs ys
    rw [cmpLL, cmpLL]
    by_cases h1 : x < y
    · rw [if_neg (by omega), if_pos h1, if_pos h1]; rfl
    · by_cases h2 : y < x
      · rw [if_pos h2, if_neg h1, if_pos h2]
      · rw [if_neg h2, if_neg h1, if_neg h1, if_neg h2, ih]
theorem cmpLL_range : ∀ x y : List Int, cmpLL x y = -1 ∨ cmpLL x y = 0 ∨ cmpLL x y = 1
  | [], [] => .inr (.inl rfl)
  | [], _ :: _ => .inl rfl
  | _ :: _, [] => .inr (.inr rfl)
  | x :: xs, y :: ys => by
    have ih := cmpLL_range xs ys
    rw [cmpLL]
    (repeat' split) <;> simp [ih]
theorem cmpLL_trans : ∀ x y z : List Int, cmpLL x y ≤ 0 → cmpLL y z ≤ 0 → cmpLL x z ≤ 0
  | [], _, [], _, _ => by simp [cmpLL]
  | [], _, _ :: _, _, _ => by simp [cmpLL]
  | _ :: _, [], _, h, _ => by simp [cmpLL] at h
  | _ :: _, _ :: _, [], _, h => by simp [cmpLL] at h
  | x :: xs, y :: ys, z :: zs, h, k => by
    have ih := cmpLL_trans xs ys zs
    rw [cmpLL] at h k ⊢
    by_cases h1 : x < y
    · by_cases k1 : y < z
      · rw [if_pos (by omega)]; omega
      · by_cases k2 : z < y
        · rw [if_neg k1, if_pos k2] at k; omega
        · rw [if_pos (by omega)]; omega
    · by_cases h2 : y < x
      · rw [if_neg h1, if_pos h2] at h; omega
      · rw [if_neg h1, if_neg h2] at h
        by_cases k1 : y < z
        · rw [if_pos (by omega)]; omega
        · by_cases k2 : z < y
          · rw [if_neg k1, if_pos k2] at k; omega
          · rw [if_neg k1, if_neg k2] at k
            rw [if_neg (by omega), if_neg (by omega)]
            exact ih h k
theorem cmpLL_app : ∀ l x y : List Int, cmpLL (l ++ x) (l ++ y) = cmpLL x y
  | [], _, _ => rfl
  | a :: l, x, y => by
    rw [List.cons_append, List.cons_append, cmpLL, if_neg (by omega), if_neg (by omega)]
    exact cmpLL_app l x y
end Go.Proofs.YtolnnkalgioobaaGreatDoor
