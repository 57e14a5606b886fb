/- Vu · Vxj: merged. -/
import Derived.Test.YtcpkjmpbpmeclaaGreatDoorMac
import Derived.Test.YtcpkjmpbpmeclaaGreatDoorMad
import Derived.Lib.TrailingZeros
namespace Go.Proofs.YtcpkjmpbpmeclaaGreatDoor
open Go.RowKit
set_option maxRecDepth 100000
set_option linter.unusedVariables false
set_option linter.unusedSimpArgs false
set_option linter.unnecessarySimpa false

/-- Of a whole number: is it in normal form? -/
def NormalI (neg : Bool) (xs : List Int) : Prop := (xs = [] ∧ neg = false) ∨ (xs ≠ [] ∧ xs.getD (xs.length - 1) 0 ≠ 0)
/-- The pattern without its sign, as a natural number. -/
def sizeF (b : Int) : Nat := if b < 9223372036854775808 then b.toNat else (b - 9223372036854775808).toNat
/-- The digits and the power of a pattern that is finite and not 0. -/
def partM (s : Nat) : Nat := if s < 4503599627370496 then s else s % 4503599627370496 + 4503599627370496
def partE (s : Nat) : Int := if s < 4503599627370496 then -1074 else (s / 4503599627370496 : Nat) - 1075
/-- Is the finite pattern a whole number? -/
def WholeF (s : Nat) : Prop := s = 0 ∨ 0 ≤ partE s + (Lib.ctz 64 (partM s) : Nat)
def FloatF (b : Int) : Prop :=
 (9218868437227405312 < sizeF b ∧ b = 9221120237041090560) ∨ sizeF b = 9218868437227405312 ∨ (sizeF b < 9218868437227405312 ∧ ¬ WholeF (sizeF b))
/-- Do keys rise? -/
def RisingV (l : List VT) : Prop := l.length % 2 = 0 ∧ ∀ i (h : i + 2 < l.length), i % 2 = 0 → cmpV (l[i]'(by omega)) (l[i + 2]) < 0
def SimpleN (n : Int) : Prop := n < 20 ∨ n = 23 ∨ (32 ≤ n ∧ n < 256)
/-- What its kind asks. -/
def KindOk (v : VT) : Prop :=
 v.k = 1 ∨ (v.k = 2 ∧ v.n < 2) ∨ (v.k = 3 ∧ NormalI v.neg v.mag) ∨ (v.k = 4 ∧ FloatF v.bits) ∨ (v.k = 5 ∧ Utf.badF v.text = v.text.size) ∨ v.k = 6 ∨ v.k = 7 ∨
  (v.k = 8 ∧ RisingV v.l) ∨ (v.k = 9 ∧ v.n ≠ 2 ∧ v.n ≠ 3 ∧ v.l.length = 1) ∨ (v.k = 10 ∧ SimpleN v.n) ∨ v.k = 11
/-- What its kind does not use is nothing. -/
structure RestOk (v : VT) : Prop where
 n : v.k ≠ 2 → v.k ≠ 9 → v.k ≠ 10 → v.n = 0
 int : v.k ≠ 3 → v.neg = false ∧ v.mag = []
 bits : v.k ≠ 4 → v.bits = 0
 ext : v.k ≠ 11 → v.ext = 0
 text : v.k ≠ 5 → v.k ≠ 6 → v.k ≠ 11 → v.text.size = 0
 kids : v.k ≠ 7 → v.k ≠ 8 → v.k ≠ 9 → v.l = []
def Alone (v : VT) : Prop := KindOk v ∧ RestOk v
open Classical in
noncomputable def decP (p : Prop) : Bool := decide p
theorem decP_iff {p : Prop} : decP p = true ↔ p := by simp [decP]
theorem decP_no {p : Prop} : decP p = false ↔ ¬ p := by simp [decP]
theorem decP_of {p : Prop} {b : Bool} (h : b = true ↔ p) : decP p = b := by
 cases b
 ·exact decP_no.2 fun k => by have := h.2 k; cases this
 ·exact decP_iff.2 (h.1 rfl)
noncomputable def alone (v : VT) : Bool := decP (Alone v)
theorem alone_iff (v : VT) : alone v = true ↔ Alone v := decP_iff
theorem alone_no (v : VT) : alone v = false ↔ ¬ Alone v := decP_no
/- The way to the first node, each ahead of its kids, of which 'p' holds ('d': so many containers stand around). -/
mutual
def badAt (p : VT → Nat → Bool) : VT → Nat → Option (List Nat)
 | .mk k n neg mA mcap mag bits ext text A cap l, d =>
  if p (.mk k n neg mA mcap mag bits ext text A cap l) d then some []
  else badAtL p l (if isC k then d + 1 else d) 0
def badAtL (p : VT → Nat → Bool) : List VT → Nat → Nat → Option (List Nat)
 | [], _, _ => none
 | x :: l, d, i => match badAt p x d with
  | some r => some (i :: r)
  | none => badAtL p l d (i + 1)
end
theorem badAt_eq (p : VT → Nat → Bool) (v : VT) (d : Nat) : badAt p v d = if p v d then some [] else badAtL p v.l (if isC v.k then d + 1 else d) 0 := by cases v; rfl
theorem badAtL_cons (p : VT → Nat → Bool) (x : VT) (l : List VT) (d i : Nat) : badAtL p (x :: l) d i = match badAt p x d with | some r => some (i :: r) | none => badAtL p l d (i + 1) := rfl
/-- The rest behind the first ones. -/
theorem badAtL_some {p : VT → Nat → Bool} {l : List VT} {d i : Nat} (h : i < l.length) {r : List Nat} (hr : badAt p l[i] d = some r) : badAtL p (l.drop i) d i = some (i :: r) := by
 rw [List.drop_eq_getElem_cons h, badAtL_cons, hr]
theorem badAtL_none {p : VT → Nat → Bool} {l : List VT} {d i : Nat} (h : i < l.length) (hr : badAt p l[i] d = none) : badAtL p (l.drop i) d i = badAtL p (l.drop (i + 1)) d (i + 1) := by
 rw [List.drop_eq_getElem_cons h, badAtL_cons, hr]
theorem badAtL_end {p : VT → Nat → Bool} {l : List VT} {d i : Nat} (h : l.length ≤ i) : badAtL p (l.drop i) d i = none := by
 rw [List.drop_eq_nil_of_le h]
 rfl
noncomputable def notAlone (v : VT) (_ : Nat) : Bool := !alone v
def tooDeep (v : VT) (d : Nat) : Bool := isC v.k && decide (128 ≤ d)
/-- The number of the error and the way to the node. -/
noncomputable def checkV (v : VT) : Option (Int × List Nat) :=
 match badAt notAlone v 0 with
 | some r => some (1, r)
 | none => match badAt tooDeep v 0 with
  | some r => some (5, r)
  | none => none
noncomputable def goodV (v : VT) : Bool := (checkV v).isNone
end Go.Proofs.YtcpkjmpbpmeclaaGreatDoor
namespace Go.Proofs.YtcpkjmpbpmeclaaGreatDoor
set_option maxRecDepth 100000
set_option linter.unusedVariables false
set_option linter.unusedSimpArgs false
set_option linter.unnecessarySimpa false

theorem c_k (v : VT) : v.c.k = v.k := by rw [VT.c_eq]; rfl
theorem c_n (v : VT) : v.c.n = v.n := by rw [VT.c_eq]; rfl
theorem c_neg (v : VT) : v.c.neg = v.neg := by rw [VT.c_eq]; rfl
theorem c_mag (v : VT) : v.c.mag = v.mag := by rw [VT.c_eq]; rfl
theorem c_bits (v : VT) : v.c.bits = v.bits := by rw [VT.c_eq]; rfl
theorem c_ext (v : VT) : v.c.ext = v.ext := by rw [VT.c_eq]; rfl
theorem c_text (v : VT) : v.c.text = v.text := by rw [VT.c_eq]; rfl
theorem rising_c (l : List VT) : RisingV (l.map VT.c) ↔ RisingV l := by
 unfold RisingV
 simp only [List.length_map, List.getElem_map, cmpV_c]
theorem kind_c (v : VT) : KindOk v.c ↔ KindOk v := by
 unfold KindOk
 rw [c_k, c_n, c_neg, c_mag, c_bits, c_text, c_l, rising_c, List.length_map]
theorem rest_c (v : VT) : RestOk v.c ↔ RestOk v := by
 have e : v.c.l = [] ↔ v.l = [] := by rw [c_l, List.map_eq_nil_iff]
 constructor
 ·rintro ⟨h1, h2, h3, h4, h5, h6⟩
  rw [c_k] at h1 h2 h3 h4 h5 h6
  rw [c_n] at h1
  rw [c_neg, c_mag] at h2
  rw [c_bits] at h3
  rw [c_ext] at h4
  rw [c_text] at h5
  rw [e] at h6
  exact ⟨h1, h2, h3, h4, h5, h6⟩
 ·rintro ⟨h1, h2, h3, h4, h5, h6⟩
  refine ⟨?_, ?_, ?_, ?_, ?_, ?_⟩ <;> rw [c_k]
  ·rwa [c_n]
  ·rwa [c_neg, c_mag]
  ·rwa [c_bits]
  ·rwa [c_ext]
  ·rwa [c_text]
  ·rwa [e]
theorem alone_c (v : VT) : alone v.c = alone v := by
 unfold alone Alone
 rw [show (KindOk v.c ∧ RestOk v.c) = (KindOk v ∧ RestOk v) from propext (and_congr (kind_c v) (rest_c v))]
theorem badAt_c_n {p : VT → Nat → Bool} (hp : ∀ x d, p x.c d = p x d) : ∀ (n : Nat) (v : VT) (d : Nat), v.sz ≤ n → badAt p v.c d = badAt p v d
 | 0, v, d, h => by have := v.sz_pos; omega
 | n + 1, v, d, h => by
  have key : ∀ (l : List VT) (d i : Nat), (∀ x ∈ l, x.sz ≤ n) → badAtL p (l.map VT.c) d i = badAtL p l d i := by
   intro l
   induction l with
   | nil => intro d i _; rfl
   | cons x l ih =>
    intro d i hl
    rw [List.map_cons, badAtL_cons, badAtL_cons, badAt_c_n hp n x d (hl x (by simp)), ih d (i + 1) fun y hy => hl y (by simp [hy])]
  rw [badAt_eq, badAt_eq p v, hp, c_k, c_l, key]
  intro x hx
  have := VT.kid_sz hx
  omega
theorem badAt_c {p : VT → Nat → Bool} (hp : ∀ x d, p x.c d = p x d) (v : VT) (d : Nat) : badAt p v.c d = badAt p v d := badAt_c_n hp _ v d (Nat.le_refl _)
theorem checkV_c (v : VT) : checkV v.c = checkV v := by
 unfold checkV
 rw [badAt_c (fun x d => by unfold notAlone; rw [alone_c]), badAt_c (fun x d => by unfold tooDeep; rw [c_k])]
theorem checkV_same {a b : VT} (h : a.c = b.c) : checkV a = checkV b := by rw [← checkV_c a, h, checkV_c]
theorem depth_c_n : ∀ (n : Nat) (v : VT), v.sz ≤ n → v.c.depth = v.depth
 | 0, v, h => by have := v.sz_pos; omega
 | n + 1, v, h => by
  have key : ∀ (l : List VT), (∀ x ∈ l, x.sz ≤ n) → VT.depthL (l.map VT.c) = VT.depthL l := by
   intro l
   induction l with
   | nil => intro _; rfl
   | cons x l ih =>
    intro hl
    have e1 := depth_c_n n x (hl x (by simp))
    have e2 := ih fun y hy => hl y (by simp [hy])
    simp only [List.map_cons, VT.depthL, e1, e2]
  have e := key v.l fun x hx => by have := VT.kid_sz hx; omega
  rw [VT.depth_eq, VT.depth_eq v, c_k, c_l, e]
theorem depth_c (v : VT) : v.c.depth = v.depth := depth_c_n _ v (Nat.le_refl _)
end Go.Proofs.YtcpkjmpbpmeclaaGreatDoor
