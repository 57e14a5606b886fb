/- The bytes of code points; texts there and back; what units say. -/
import Derived.Laws.Cover4
import Derived.Laws.RangeAny
import Derived.Test.YtolnnkalgioobaaGreatDoorZb
namespace Go.Proofs.YtolnnkalgioobaaGreatDoor
open Go.RowKit
set_option maxRecDepth 100000
set_option linter.unusedVariables false
set_option linter.unusedSimpArgs false
set_option linter.unnecessarySimpa false

def textL (l : List Int) : List Int := l.flatMap encL
theorem textL_cons (p : Int) (l : List Int) : textL (p :: l) = encL p ++ textL l := by simp [textL]
theorem textL_app (l m : List Int) : textL (l ++ m) = textL l ++ textL m := by simp [textL]
theorem textL_snoc (l : List Int) (p : Int) : textL (l ++ [p]) = textL l ++ encL p := by simp [textL]
theorem encL_255 (p : Int) (h0 : 0 ≤ p) (h1 : p ≤ 1114111) : Bytes (encL p) := by
  intro y hy
  unfold encL at hy
  (repeat' split at hy) <;> simp only [List.mem_cons, List.not_mem_nil, or_false] at hy <;> omega
theorem textL_255 : ∀ l : List Int, (∀ p ∈ l, 0 ≤ p ∧ p ≤ 1114111) → Bytes (textL l)
  | [], _ => by intro y hy; simp [textL] at hy
  | p :: l, h => by
    rw [textL_cons]
    exact (encL_255 p (h p (by simp)).1 (h p (by simp)).2).app (textL_255 l fun q hq => h q (by simp [hq]))
theorem textL_len : ∀ l : List Int, (textL l).length ≤ 4 * l.length
  | [] => by simp [textL]
  | p :: l => by
    have := textL_len l
    have h := encL_len p
    rw [textL_cons, List.length_append, List.length_cons]
    omega
theorem pts_bounds {l : List Int} (h : ∀ p ∈ l, isPt p = true) : ∀ p ∈ l, 0 ≤ p ∧ p ≤ 1114111 := fun p hp => by
  have := (isPt_iff p).1 (h p hp)
  omega
theorem at1_nums (xs : List Int) (hb : Bytes xs) (j : Nat) (h : j < xs.length) : at1 (strOfNums xs) j = xs.getD j 0 := by
  have hz : j < (strOfNums xs).size := by rw [strOfNums_size]; exact h
  have := ints_at (strOfNums xs) j hz
  rw [ints_strOfNums hb] at this
  unfold at1
  rw [dif_pos hz, this]
theorem enc_dec (p : Int) (hp : isPt p = true) : decS (strOfNums (encL p)) 0 = some (p, (encL p).length) := by
  have hq := (isPt_iff p).1 hp
  have hb := encL_255 p hq.1 (by omega)
  have hst : stP (strOfNums (encL p)) 0 p := fun j hj => by rw [Nat.zero_add]; exact at1_nums _ hb j hj
  by_cases h1 : p < 128
  · have t := st1 (strOfNums (encL p)) 0 p h1
    have k := t.1.1 hst
    rw [t.2]
    unfold decS
    rw [k]
    exact dec4_of1 _ _ _ _ hp h1
  · by_cases h2 : p < 2048
    · have t := st2 (strOfNums (encL p)) 0 p h1 h2
      have k := t.1.1 hst
      rw [t.2]
      unfold decS
      rw [k.1, k.2]
      exact dec4_of2 _ _ _ (by omega) h2
    · by_cases h3 : p < 65536
      · have t := st3 (strOfNums (encL p)) 0 p h1 h2 h3
        have k := t.1.1 hst
        rw [t.2]
        unfold decS
        rw [k.1, k.2.1, k.2.2]
        exact dec4_of3 _ _ hp (by omega) h3
      · have t := st4 (strOfNums (encL p)) 0 p h1 h2 h3
        have k := t.1.1 hst
        rw [t.2]
        unfold decS
        rw [k.1, k.2.1, k.2.2.1, k.2.2.2]
        exact dec4_of4 _ hp (by omega)
theorem text_end (s : ByteArray) (a : Nat) (h : a = s.size) : TextAt s a [] := by
  subst h
  exact .done
theorem enc_text (p : Int) (hp : isPt p = true) : TextAt (strOfNums (encL p)) 0 [p] :=
  .step (enc_dec p hp) (text_end _ _ (by rw [strOfNums_size, Nat.zero_add]))
theorem text_of : ∀ l : List Int, (∀ p ∈ l, isPt p = true) → TextAt (strOfNums (textL l)) 0 l
  | [], _ => text_end _ _ (by rw [strOfNums_size]; rfl)
  | p :: l, h => by
    have ih := text_of l fun q hq => h q (by simp [hq])
    rw [textL_cons, ← strOfNums_app]
    exact (enc_text p (h p (by simp))).app ih
theorem text_same {s t : ByteArray} {l : List Int} (h : TextAt s 0 l) (k : TextAt t 0 l) : s = t := by
  rw [← cmpF_zero, cmpF_eq, codesF_text h, codesF_text k, cmpLL_self]
theorem text_back {s : ByteArray} {l : List Int} (h : TextAt s 0 l) : strOfNums (textL l) = s := text_same (text_of l h.pts) h

/-! ### The model's own reading of a string -/
theorem at1_get (s : ByteArray) (k : Nat) (h : k < s.size) : at1 s k = ((s.get! k).toNat : Int) := by
  unfold at1
  rw [dif_pos h]
  have : s.get! k = s[k]'h := get_at s k h
  rw [this]
theorem valid_of (P : Nat) (h : isPt (P : Int) = true) : Utf8.valid (P : Int) = true := by
  have := (isPt_iff _).1 h
  unfold Utf8.valid
  simp only [Bool.or_eq_true, Bool.and_eq_true, decide_eq_true_eq]
  omega
theorem decode_of {s : ByteArray} {pos n : Nat} {p : Int} (h : decS s pos = some (p, n)) : Utf8.decode s pos = (p.toNat, n) := by
  obtain ⟨hp, hn1, hn4, hfit⟩ := decS_some h
  have hpp := (isPt_iff p).1 hp
  obtain ⟨P, rfl⟩ := Int.eq_ofNat_of_zero_le hpp.1
  have hv := valid_of P hp
  unfold decS at h
  have g : ∀ k, k < n → at1 s (pos + k) = ((s.get! (pos + k)).toNat : Int) := fun k hk => at1_get s _ (by omega)
  obtain ⟨b0, e0⟩ : ∃ b, (s.get! (pos + 0)).toNat = b := ⟨_, rfl⟩
  obtain ⟨b1, e1⟩ : ∃ b, (s.get! (pos + 1)).toNat = b := ⟨_, rfl⟩
  obtain ⟨b2, e2⟩ : ∃ b, (s.get! (pos + 2)).toNat = b := ⟨_, rfl⟩
  obtain ⟨b3, e3⟩ : ∃ b, (s.get! (pos + 3)).toNat = b := ⟨_, rfl⟩
  have g0 : 0 < n → at1 s pos = (b0 : Int) := fun h => by have := g 0 h; rw [e0] at this; exact this
  have g1 : 1 < n → at1 s (pos + 1) = (b1 : Int) := fun h => by have := g 1 h; rw [e1] at this; exact this
  have g2 : 2 < n → at1 s (pos + 2) = (b2 : Int) := fun h => by have := g 2 h; rw [e2] at this; exact this
  have g3 : 3 < n → at1 s (pos + 3) = (b3 : Int) := fun h => by have := g 3 h; rw [e3] at this; exact this
  unfold Utf8.decode
  simp only [e0, e1, e2, e3]
  clear e0 e1 e2 e3 g
  rcases dec4_bytes h with ⟨rfl, h1, h2⟩ | ⟨rfl, h1, h2, h3⟩ | ⟨rfl, h1, h2, h3, h4⟩ | ⟨rfl, h1, h2, h3, h4, h5⟩
  · replace g0 := g0 (by omega)
    rw [h1] at g0
    rw [if_pos (by omega)]
    exact Prod.ext (by show _ = (P : Int).toNat; omega) rfl
  · replace g0 := g0 (by omega)
    replace g1 := g1 (by omega)
    rw [h1] at g0
    rw [h2] at g1
    rw [if_neg (by omega), if_pos (by simp only [Bool.and_eq_true, beq_iff_eq, decide_eq_true_eq]; omega), if_pos (by omega)]
    exact Prod.ext (by show _ = (P : Int).toNat; omega) rfl
  · replace g0 := g0 (by omega)
    replace g1 := g1 (by omega)
    replace g2 := g2 (by omega)
    rw [h1] at g0
    rw [h2] at g1
    rw [h3] at g2
    have q0 : b0 % 16 = P / 4096 := by omega
    have q1 : b1 % 64 = P / 64 % 64 := by omega
    have q2 : b2 % 64 = P % 64 := by omega
    have hP : P / 4096 * 4096 + P / 64 % 64 * 64 + P % 64 = P := by omega
    have e : b0 % 16 * 4096 + b1 % 64 * 64 + b2 % 64 = P := by rw [q0, q1, q2, hP]
    rw [if_neg (by omega), if_neg (by intro hh; simp only [Bool.and_eq_true, beq_iff_eq, decide_eq_true_eq] at hh; omega), if_pos (by simp only [Bool.and_eq_true, beq_iff_eq, decide_eq_true_eq]; omega), e, hv]
    rw [if_pos (by simp; omega)]
    rfl
  · replace g0 := g0 (by omega)
    replace g1 := g1 (by omega)
    replace g2 := g2 (by omega)
    replace g3 := g3 (by omega)
    rw [h1] at g0
    rw [h2] at g1
    rw [h3] at g2
    rw [h4] at g3
    have q0 : b0 % 8 = P / 262144 := by omega
    have q1 : b1 % 64 = P / 4096 % 64 := by omega
    have q2 : b2 % 64 = P / 64 % 64 := by omega
    have q3 : b3 % 64 = P % 64 := by omega
    have hP : P / 262144 * 262144 + P / 4096 % 64 * 4096 + P / 64 % 64 * 64 + P % 64 = P := by omega
    have e : b0 % 8 * 262144 + b1 % 64 * 4096 + b2 % 64 * 64 + b3 % 64 = P := by rw [q0, q1, q2, q3, hP]
    rw [if_neg (by omega), if_neg (by intro hh; simp only [Bool.and_eq_true, beq_iff_eq, decide_eq_true_eq] at hh; omega), if_neg (by intro hh; simp only [Bool.and_eq_true, beq_iff_eq, decide_eq_true_eq] at hh; omega), if_pos (by simp only [Bool.and_eq_true, beq_iff_eq, decide_eq_true_eq]; omega), e, hv]
    rw [if_pos (by simp; omega)]
    rfl
theorem encode_is (p : Int) (hp : isPt p = true) : Utf8.encode p = strOfNums (encL p) := by
  have hpp := (isPt_iff p).1 hp
  obtain ⟨P, rfl⟩ := Int.eq_ofNat_of_zero_le hpp.1
  have hv := valid_of P hp
  have e4 : ((P : Int) / 64).toNat = P / 64 ∧ ((P : Int) / 64 % 64).toNat = P / 64 % 64 ∧ ((P : Int) % 64).toNat = P % 64 := by omega
  unfold Utf8.encode encL strOfNums
  simp only [hv, if_true, Int.toNat_natCast]
  by_cases h1 : P < 128
  · rw [if_pos h1, if_pos (by omega)]
    rfl
  · by_cases h2 : P < 2048
    · rw [if_neg h1, if_pos h2, if_neg (by omega), if_pos (by omega)]
      simp only [List.map_cons, List.map_nil]
      rw [show ((192 : Int) + (P : Int) / 64).toNat = 192 + P / 64 from by omega, show ((128 : Int) + (P : Int) % 64).toNat = 128 + P % 64 from by omega]
    · by_cases h3 : P < 65536
      · rw [if_neg h1, if_neg h2, if_pos h3, if_neg (by omega), if_neg (by omega), if_pos (by omega)]
        simp only [List.map_cons, List.map_nil]
        rw [show ((224 : Int) + (P : Int) / 4096).toNat = 224 + P / 4096 from by omega, show ((128 : Int) + (P : Int) / 64 % 64).toNat = 128 + P / 64 % 64 from by omega, show ((128 : Int) + (P : Int) % 64).toNat = 128 + P % 64 from by omega]
      · rw [if_neg h1, if_neg h2, if_neg h3, if_neg (by omega), if_neg (by omega), if_neg (by omega)]
        simp only [List.map_cons, List.map_nil]
        rw [show ((240 : Int) + (P : Int) / 262144).toNat = 240 + P / 262144 from by omega, show ((128 : Int) + (P : Int) / 4096 % 64).toNat = 128 + P / 4096 % 64 from by omega, show ((128 : Int) + (P : Int) / 64 % 64).toNat = 128 + P / 64 % 64 from by omega, show ((128 : Int) + (P : Int) % 64).toNat = 128 + P % 64 from by omega]
theorem runes_is (l : List Int) (h : ∀ p ∈ l, isPt p = true) : runesBytes l = strOfNums (textL l) := by
  have key : ∀ (l : List Int) (ys : List Int), (∀ p ∈ l, isPt p = true) → l.foldl (fun r n => r ++ Utf8.encode n) (strOfNums ys) = strOfNums (ys ++ textL l) := by
    intro l
    induction l with
    | nil => intro ys _; simp [textL]
    | cons p l ih =>
      intro ys h
      rw [List.foldl_cons, encode_is p (h p (by simp)), strOfNums_app, ih _ fun q hq => h q (by simp [hq]), textL_cons, List.append_assoc]
  unfold runesBytes
  have := key l [] h
  have e : strOfNums [] = ByteArray.empty := rfl
  rw [e] at this
  simpa using this

/-! ### What code units say -/
/-- h: the first of a pair, whose second is waited for; 0: none is. -/
def fuP : Int → List Int → Option (List Int)
  | h, [] => if 0 < h then none else some []
  | h, u :: l =>
    if 56320 ≤ u ∧ u ≤ 57343 then (if 0 < h then (fuP 0 l).map ((65536 + (h - 55296) * 1024 + u - 56320) :: ·) else none)
    else if 0 < h then none
    else if 55296 ≤ u ∧ u < 56320 then fuP u l
    else (fuP 0 l).map (u :: ·)
theorem fuP_units : ∀ l : List Int, (∀ p ∈ l, isPt p = true) → fuP 0 (unitsPs l) = some l
  | [], _ => rfl
  | p :: l, h => by
    have ih := fuP_units l fun q hq => h q (by simp [hq])
    have hp := (isPt_iff p).1 (h p (by simp))
    rw [unitsPs_cons]
    unfold unitsL
    by_cases h1 : p < 65536
    · rw [if_pos h1, List.singleton_append, fuP, if_neg (by omega), if_neg (by omega), if_neg (by omega), ih]
      rfl
    · rw [if_neg h1]
      simp only [List.cons_append, List.nil_append]
      rw [fuP, if_neg (by omega), if_neg (by omega), if_pos (by omega), fuP, if_pos (by omega), if_pos (by omega), ih]
      simp only [Option.map_some]
      congr 2
      omega
theorem fuP_back : ∀ (u : List Int) (h : Int) (l : List Int), (∀ x ∈ u, 0 ≤ x ∧ x ≤ 65535) → (h = 0 ∨ 55296 ≤ h ∧ h < 56320) → fuP h u = some l →
    (∀ p ∈ l, isPt p = true) ∧ (if 0 < h then h :: u else u) = unitsPs l
  | [], h, l, hu, hh, e => by
    rw [fuP] at e
    by_cases h1 : 0 < h
    · rw [if_pos h1] at e; cases e
    · rw [if_neg h1] at e
      obtain rfl := Option.some.inj e
      rw [if_neg h1]
      exact ⟨(fun p hp => by cases hp), rfl⟩
  | x :: u, h, l, hu, hh, e => by
    have hx := hu x (by simp)
    have hu' : ∀ y ∈ u, 0 ≤ y ∧ y ≤ 65535 := fun y hy => hu y (by simp [hy])
    rw [fuP] at e
    by_cases h1 : 56320 ≤ x ∧ x ≤ 57343
    · rw [if_pos h1] at e
      by_cases h2 : 0 < h
      · rw [if_pos h2] at e ⊢
        rcases hf : fuP 0 u with _ | m
        · rw [hf] at e; cases e
        · rw [hf] at e
          obtain rfl := Option.some.inj e
          obtain ⟨k1, k2⟩ := fuP_back u 0 m hu' (.inl rfl) hf
          rw [if_neg (by omega)] at k2
          refine ⟨fun p hp => ?_, ?_⟩
          · rcases List.mem_cons.1 hp with rfl | hp
            · exact (isPt_iff _).2 (by omega)
            · exact k1 p hp
          · rw [unitsPs_cons, ← k2]
            unfold unitsL
            rw [if_neg (by omega)]
            simp only [List.cons_append, List.nil_append]
            congr 2
            · omega
            · omega
      · rw [if_neg h2] at e; cases e
    · rw [if_neg h1] at e
      by_cases h2 : 0 < h
      · rw [if_pos h2] at e; cases e
      · rw [if_neg h2] at e ⊢
        by_cases h3 : 55296 ≤ x ∧ x < 56320
        · rw [if_pos h3] at e
          obtain ⟨k1, k2⟩ := fuP_back u x l hu' (.inr h3) e
          rw [if_pos (by omega)] at k2
          exact ⟨k1, k2⟩
        · rw [if_neg h3] at e
          rcases hf : fuP 0 u with _ | m
          · rw [hf] at e; cases e
          · rw [hf] at e
            obtain rfl := Option.some.inj e
            obtain ⟨k1, k2⟩ := fuP_back u 0 m hu' (.inl rfl) hf
            rw [if_neg (by omega)] at k2
            refine ⟨fun p hp => ?_, ?_⟩
            · rcases List.mem_cons.1 hp with rfl | hp
              · exact (isPt_iff _).2 (by omega)
              · exact k1 p hp
            · rw [unitsPs_cons, ← k2]
              unfold unitsL
              rw [if_pos (by omega)]
              rfl
theorem fuP_len : ∀ (u : List Int) (h : Int) (l : List Int), fuP h u = some l → l.length ≤ u.length
  | [], h, l, e => by
    rw [fuP] at e
    by_cases h1 : 0 < h
    · rw [if_pos h1] at e; cases e
    · rw [if_neg h1] at e
      obtain rfl := Option.some.inj e
      simp
  | x :: u, h, l, e => by
    rw [fuP] at e
    have ih := fuP_len u
    rw [List.length_cons]
    (repeat' split at e) <;> first
      | (cases e; done)
      | (have := ih _ _ e; omega)
      | (rcases hf : fuP 0 u with _ | m
         · rw [hf] at e; cases e
         · rw [hf] at e
           obtain rfl := Option.some.inj e
           have := ih _ _ hf
           rw [List.length_cons]
           omega)
def highs (l : List Int) : Nat := (l.filter fun p => decide (65535 < p)).length
theorem highs_snoc (l : List Int) (p : Int) : highs (l ++ [p]) = highs l + if 65535 < p then 1 else 0 := by
  unfold highs
  rw [List.filter_append, List.length_append]
  by_cases h : 65535 < p <;> simp [h]
theorem units_highs : ∀ l : List Int, (unitsPs l).length = l.length + highs l
  | [] => rfl
  | p :: l => by
    have ih := units_highs l
    have e : highs (p :: l) = (if 65535 < p then 1 else 0) + highs l := by
      unfold highs
      by_cases h : 65535 < p <;> simp [h] <;> omega
    rw [unitsPs_cons, List.length_append, List.length_cons, ih, e]
    unfold unitsL
    by_cases h : p < 65536
    · rw [if_pos h, if_neg (by omega)]
      simp; omega
    · rw [if_neg h, if_pos (by omega)]
      simp; omega
end Go.Proofs.YtolnnkalgioobaaGreatDoor
