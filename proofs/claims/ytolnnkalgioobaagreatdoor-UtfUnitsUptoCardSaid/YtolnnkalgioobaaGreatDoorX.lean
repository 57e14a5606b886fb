/- Texts: their code points; texts put together; the order of texts. -/
import Derived.Test.YtolnnkalgioobaaGreatDoorW
namespace Go.Proofs.YtolnnkalgioobaaGreatDoor
open Go.RowKit
set_option maxRecDepth 100000
set_option linter.unusedVariables false
set_option linter.unusedSimpArgs false
set_option linter.unnecessarySimpa false

theorem at1_app_l {a b : ByteArray} {i : Nat} (h : i < a.size) : at1 (a ++ b) i = at1 a i := by
  unfold at1
  rw [dif_pos h, dif_pos (by rw [ByteArray.size_append]; omega)]
  rw [ByteArray.getElem_append_left h]
theorem at1_app_r (a b : ByteArray) (i : Nat) : at1 (a ++ b) (a.size + i) = at1 b i := by
  unfold at1
  by_cases h : i < b.size
  · rw [dif_pos h, dif_pos (by rw [ByteArray.size_append]; omega)]
    rw [ByteArray.getElem_append_right (by omega)]
    simp only [show a.size + i - a.size = i from by omega]
  · rw [dif_neg h, dif_neg (by rw [ByteArray.size_append]; omega)]
theorem decS_app_r (a b : ByteArray) (i : Nat) : decS (a ++ b) (a.size + i) = decS b i := by
  unfold decS
  rw [at1_app_r, Nat.add_assoc, at1_app_r, Nat.add_assoc, at1_app_r, Nat.add_assoc, at1_app_r]
theorem decS_app_l {a : ByteArray} (b : ByteArray) {i n : Nat} {p : Int} (h : decS a i = some (p, n)) : decS (a ++ b) i = some (p, n) :=
  decS_same h fun j hj => (at1_app_l (by have := decS_some h; omega)).symm
/-- From a place on the string is a text, of these code points. -/
inductive TextAt (s : ByteArray) : Nat → List Int → Prop
  | done : TextAt s s.size []
  | step {a n : Nat} {p : Int} {l : List Int} : decS s a = some (p, n) → TextAt s (a + n) l → TextAt s a (p :: l)
theorem TextAt.le {s : ByteArray} {a : Nat} {l : List Int} (h : TextAt s a l) : a ≤ s.size := by
  induction h with
  | done => omega
  | step hd _ ih => omega
theorem TextAt.pts {s : ByteArray} {a : Nat} {l : List Int} (h : TextAt s a l) : ∀ p ∈ l, isPt p = true := by
  induction h with
  | done => intro p h; cases h
  | step hd _ ih =>
    intro p h
    rcases List.mem_cons.1 h with rfl | h
    · exact (decS_some hd).1
    · exact ih p h
theorem TextAt.len {s : ByteArray} {a : Nat} {l : List Int} (h : TextAt s a l) : a + l.length ≤ s.size := by
  induction h with
  | done => simp
  | step hd _ ih =>
    have := decS_some hd
    simp only [List.length_cons]
    omega
theorem TextAt.one {s : ByteArray} {a : Nat} {l m : List Int} (h : TextAt s a l) (k : TextAt s a m) : l = m := by
  induction h generalizing m with
  | done =>
    cases k with
    | done => rfl
    | step hd _ => have := decS_some hd; omega
  | step hd _ ih =>
    cases k with
    | done => have := decS_some hd; omega
    | step hd2 k2 =>
      rw [hd] at hd2
      obtain ⟨rfl, rfl⟩ := Prod.mk.inj (Option.some.inj hd2)
      rw [ih k2]
theorem TextAt.right (a : ByteArray) {b : ByteArray} {i : Nat} {l : List Int} (h : TextAt b i l) : TextAt (a ++ b) (a.size + i) l := by
  induction h with
  | done => rw [← ByteArray.size_append]; exact .done
  | step hd _ ih => exact .step (by rw [decS_app_r]; exact hd) (by rw [Nat.add_assoc]; exact ih)
theorem TextAt.app {a b : ByteArray} {i : Nat} {l m : List Int} (h : TextAt a i l) (k : TextAt b 0 m) : TextAt (a ++ b) i (l ++ m) := by
  induction h with
  | done => exact k.right a
  | step hd _ ih => exact .step (decS_app_l b hd) ih
theorem TextAt.bad {s : ByteArray} {a k : Nat} {l : List Int} (h : TextAt s a l) (hk : s.size ≤ a + k) : badK k s a = s.size := by
  induction h generalizing k with
  | done => exact badK_end (by omega) k
  | step hd h ih =>
    have := decS_some hd
    have := h.le
    obtain ⟨k, rfl⟩ : ∃ q, k = q + 1 := ⟨k - 1, by omega⟩
    rw [badK_some hd]
    exact ih (by omega)
theorem textAt_of_bad {s : ByteArray} : ∀ k a, a ≤ s.size → s.size ≤ a + k → badK k s a = s.size → TextAt s a ((stepsK k s a).map fun x => x.1.2)
  | k, a, ha, hk, hb => by
    by_cases hlt : a < s.size
    · obtain ⟨k, rfl⟩ : ∃ q, k = q + 1 := ⟨k - 1, by omega⟩
      rcases hd : decS s a with _ | ⟨p, n⟩
      · rw [badK_none hd] at hb; omega
      · have hds := decS_some hd
        rw [badK_some hd] at hb
        rw [stepsK_some hd, List.map_cons]
        exact .step hd (textAt_of_bad k (a + n) (by omega) (by omega) hb)
    · obtain rfl : a = s.size := by omega
      rw [stepsK_none (decS_end (by omega))]
      exact .done
/-- The code points that the steps tell. -/
def ptsF (s : ByteArray) : List Int := (stepsF s).map fun x => x.1.2
theorem ptsF_text {s : ByteArray} (h : badF s = s.size) : TextAt s 0 (ptsF s) := textAt_of_bad _ 0 (by omega) (by omega) h
theorem bad_of_text {s : ByteArray} {l : List Int} (h : TextAt s 0 l) : badF s = s.size := h.bad (by omega)
theorem ptsF_of {s : ByteArray} {l : List Int} (h : TextAt s 0 l) : ptsF s = l := (ptsF_text (bad_of_text h)).one h
def unitsPs (l : List Int) : List Int := l.flatMap unitsL
theorem unitsOf_pts (s : ByteArray) : unitsOf (stepsF s) = unitsPs (ptsF s) := by
  unfold unitsOf unitsPs ptsF
  rw [List.flatMap_map]
/-! ### Code lists -/
theorem rsteps_fuel (s : ByteArray) : ∀ k m a, s.size ≤ a + k → s.size ≤ a + m → rsteps k s a = rsteps m s a
  | k, m, a, hk, hm => by
    by_cases hlt : a < s.size
    · obtain ⟨k, rfl⟩ : ∃ q, k = q + 1 := ⟨k - 1, by omega⟩
      obtain ⟨m, rfl⟩ : ∃ q, m = q + 1 := ⟨m - 1, by omega⟩
      have := rstep_fit s a hlt
      rw [rsteps_cons hlt, rsteps_cons hlt, rsteps_fuel s k m _ (by omega) (by omega)]
    · rw [rsteps_end hlt, rsteps_end hlt]
def cf (s : ByteArray) (a : Nat) : List Int := codesL (rsteps s.size s a)
theorem cf_end {s : ByteArray} {a : Nat} (h : ¬ a < s.size) : cf s a = [] := by unfold cf; rw [rsteps_end h]; rfl
theorem cf_cons {s : ByteArray} {a : Nat} (h : a < s.size) : cf s a = codeL (rstep s a) ++ cf s (a + (rstep s a).size) := by
  have := rstep_fit s a h
  unfold cf
  rw [rsteps_fuel s s.size (s.size + 1) a (by omega) (by omega), rsteps_cons h, codesL_cons]
theorem cf_zero (s : ByteArray) : codesF s = cf s 0 := rfl
theorem cf_right (a b : ByteArray) : ∀ k i, b.size ≤ i + k → cf (a ++ b) (a.size + i) = cf b i
  | k, i, hk => by
    by_cases h : i < b.size
    · obtain ⟨k, rfl⟩ : ∃ q, k = q + 1 := ⟨k - 1, by omega⟩
      have h2 : a.size + i < (a ++ b).size := by rw [ByteArray.size_append]; omega
      have e : (rstep (a ++ b) (a.size + i)).size = (rstep b i).size ∧ codeL (rstep (a ++ b) (a.size + i)) = codeL (rstep b i) := by
        unfold rstep
        rw [decS_app_r, at1_app_r]
        rcases decS b i with _ | ⟨p, n⟩ <;> exact ⟨rfl, rfl⟩
      have := rstep_fit b i h
      rw [cf_cons h, cf_cons h2, e.1, e.2, Nat.add_assoc, cf_right a b k _ (by omega)]
    · have h2 : ¬ a.size + i < (a ++ b).size := by rw [ByteArray.size_append]; omega
      rw [cf_end h, cf_end h2]
theorem codeL_pt {a n : Nat} {p : Int} (hp : isPt p = true) : codeL ⟨a, n, p, true⟩ = unitsL p := by
  unfold codeL unitsL
  simp
theorem TextAt.cf_app {a : ByteArray} (b : ByteArray) {i : Nat} {l : List Int} (h : TextAt a i l) : cf (a ++ b) i = unitsPs l ++ cf b 0 := by
  induction h with
  | done => have := cf_right a b b.size 0 (by omega); simpa [unitsPs] using this
  | step hd _ ih =>
    have hds := decS_some hd
    have h2 := decS_app_l b hd
    have hds2 := decS_some h2
    rw [cf_cons (by omega)]
    have e : ∀ i p n, decS (a ++ b) i = some (p, n) → rstep (a ++ b) i = ⟨i, n, p, true⟩ := fun i p n h => by unfold rstep; rw [h]
    rw [e _ _ _ h2, codeL_pt hds.1, ih]
    simp [unitsPs]
theorem TextAt.cf {a : ByteArray} {i : Nat} {l : List Int} (h : TextAt a i l) : cf a i = unitsPs l := by
  have h0 : a ++ ByteArray.empty = a := by simp
  have := h.cf_app ByteArray.empty
  rw [h0] at this
  rw [this, cf_end (by simp), List.append_nil]
theorem codesF_text {a : ByteArray} {l : List Int} (h : TextAt a 0 l) : codesF a = unitsPs l := h.cf
theorem codesF_app {a : ByteArray} (b : ByteArray) {l : List Int} (h : TextAt a 0 l) : codesF (a ++ b) = codesF a ++ codesF b := by
  rw [codesF_text h]
  exact h.cf_app b
/-! ### The order of texts -/
def aboveF (p q : Int) : Bool := if 65535 < p ∧ 57344 ≤ q ∧ q ≤ 65535 then false else if 65535 < q ∧ 57344 ≤ p ∧ p ≤ 65535 then true else decide (q < p)
theorem cmp_units {p q : Int} (hp : isPt p = true) (hq : isPt q = true) (h : p ≠ q) (r s : List Int) :
    cmpLL (unitsL p ++ r) (unitsL q ++ s) = if aboveF p q = true then 1 else -1 := by
  have hp' := (isPt_iff p).1 hp
  have hq' := (isPt_iff q).1 hq
  have key : ∀ c : Bool, aboveF p q = c → cmpLL (unitsL p ++ r) (unitsL q ++ s) = (if c = true then 1 else -1) := by
    intro c hc
    unfold aboveF at hc
    unfold unitsL
    by_cases h1 : p < 65536 <;> by_cases h2 : q < 65536
    · rw [if_pos h1, if_pos h2, List.singleton_append, List.singleton_append, cmpLL]
      rw [if_neg (by omega), if_neg (by omega)] at hc
      by_cases h3 : p < q
      · rw [if_pos h3]
        rw [decide_eq_false (by omega)] at hc
        subst hc; rfl
      · rw [if_neg h3, if_pos (by omega)]
        rw [decide_eq_true (by omega)] at hc
        subst hc; rfl
    · rw [if_pos h1, if_neg h2, List.singleton_append, List.cons_append, cmpLL]
      rw [if_neg (by omega)] at hc
      by_cases h3 : 57344 ≤ p
      · rw [if_pos (by omega)] at hc
        subst hc
        rw [if_neg (by omega), if_pos (by omega)]; rfl
      · rw [if_neg (by omega), decide_eq_false (by omega)] at hc
        subst hc
        rw [if_pos (by omega)]; rfl
    · rw [if_neg h1, if_pos h2, List.singleton_append, List.cons_append, cmpLL]
      by_cases h3 : 57344 ≤ q
      · rw [if_pos (by omega)] at hc
        subst hc
        rw [if_pos (by omega)]; rfl
      · rw [if_neg (by omega), if_neg (by omega), decide_eq_true (by omega)] at hc
        subst hc
        rw [if_neg (by omega), if_pos (by omega)]; rfl
    · rw [if_neg h1, if_neg h2]
      simp only [List.cons_append, List.nil_append, cmpLL]
      rw [if_neg (by omega), if_neg (by omega)] at hc
      by_cases h3 : p < q
      · rw [decide_eq_false (by omega)] at hc
        subst hc
        by_cases h4 : (p - 65536) / 1024 < (q - 65536) / 1024
        · rw [if_pos (by omega)]; rfl
        · rw [if_neg (by omega), if_neg (by omega), if_pos (by omega)]; rfl
      · rw [decide_eq_true (by omega)] at hc
        subst hc
        by_cases h4 : (q - 65536) / 1024 < (p - 65536) / 1024
        · rw [if_neg (by omega), if_pos (by omega)]; rfl
        · rw [if_neg (by omega), if_neg (by omega), if_neg (by omega), if_pos (by omega)]; rfl
  exact key _ rfl
theorem unitsPs_cons (p : Int) (l : List Int) : unitsPs (p :: l) = unitsL p ++ unitsPs l := by simp [unitsPs]
theorem unitsPs_app (l m : List Int) : unitsPs (l ++ m) = unitsPs l ++ unitsPs m := by simp [unitsPs]
theorem unitsPs_ne {l : List Int} (h : l ≠ []) : unitsPs l ≠ [] := by
  cases l with
  | nil => exact absurd rfl h
  | cons p l =>
    rw [unitsPs_cons]
    intro e
    exact unitsL_ne p (List.append_eq_nil_iff.1 e).1
/-- Where two lists of code points first differ. -/
theorem cmp_diff {l m : List Int} {i : Nat} (hl : ∀ p ∈ l, isPt p = true) (hm : ∀ p ∈ m, isPt p = true) (h1 : i < l.length) (h2 : i < m.length) (he : l.take i = m.take i) (hd : l.getD i 0 ≠ m.getD i 0) :
    cmpLL (unitsPs l) (unitsPs m) = if aboveF (l.getD i 0) (m.getD i 0) = true then 1 else -1 := by
  have e1 : l = l.take i ++ l.getD i 0 :: l.drop (i + 1) := by
    conv => lhs; rw [← List.take_append_drop i l, List.drop_eq_getElem_cons h1]
    simp [List.getD_eq_getElem?_getD, List.getElem?_eq_getElem h1]
  have e2 : m = m.take i ++ m.getD i 0 :: m.drop (i + 1) := by
    conv => lhs; rw [← List.take_append_drop i m, List.drop_eq_getElem_cons h2]
    simp [List.getD_eq_getElem?_getD, List.getElem?_eq_getElem h2]
  have p1 : isPt (l.getD i 0) = true := hl _ (by rw [List.getD_eq_getElem?_getD, List.getElem?_eq_getElem h1]; exact List.getElem_mem h1)
  have p2 : isPt (m.getD i 0) = true := hm _ (by rw [List.getD_eq_getElem?_getD, List.getElem?_eq_getElem h2]; exact List.getElem_mem h2)
  have key : ∀ (a : List Int) (p q : Int) (r s : List Int), isPt p = true → isPt q = true → p ≠ q → cmpLL (unitsPs (a ++ p :: r)) (unitsPs (a ++ q :: s)) = if aboveF p q = true then 1 else -1 := by
    intro a p q r s hp hq hpq
    rw [unitsPs_app, unitsPs_app, cmpLL_app, unitsPs_cons, unitsPs_cons]
    exact cmp_units hp hq hpq _ _
  have := key (l.take i) (l.getD i 0) (m.getD i 0) (l.drop (i + 1)) (m.drop (i + 1)) p1 p2 hd
  rw [← e1] at this
  rw [he, ← e2] at this
  exact this
theorem cmp_same {l m : List Int} {i : Nat} (h : ¬ (i < l.length ∧ i < m.length)) (h1 : i ≤ l.length) (h2 : i ≤ m.length) (he : l.take i = m.take i) :
    cmpLL (unitsPs l) (unitsPs m) = if l.length < m.length then -1 else if m.length < l.length then 1 else 0 := by
  have e1 := (List.take_append_drop i l).symm
  have e2 := (List.take_append_drop i m).symm
  have key : cmpLL (unitsPs l) (unitsPs m) = cmpLL (unitsPs (l.drop i)) (unitsPs (m.drop i)) := by
    conv => lhs; rw [e1, e2]
    rw [unitsPs_app, unitsPs_app, he, cmpLL_app]
  rw [key]
  by_cases k1 : i < l.length
  · have k2 : m.length ≤ i := by omega
    rw [List.drop_of_length_le k2, if_neg (by omega), if_pos (by omega)]
    exact cmpLL_r _ (unitsPs_ne (by intro e; have := congrArg List.length e; simp at this; omega))
  · rw [List.drop_of_length_le (by omega : l.length ≤ i)]
    by_cases k2 : i < m.length
    · rw [if_pos (by omega)]
      exact cmpLL_l _ (unitsPs_ne (by intro e; have := congrArg List.length e; simp at this; omega))
    · rw [List.drop_of_length_le (by omega : m.length ≤ i), if_neg (by omega), if_neg (by omega)]
      rfl
end Go.Proofs.YtolnnkalgioobaaGreatDoor
