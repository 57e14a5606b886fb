/- Va · Vk · Vd · Vp · Ve · Vf: merged. -/
import Derived.Test.YtcpkjmpbpmeclaaGreatDoorProg
import Derived.Test.YtcpkjmpbpmeclaaGreatDoorMab
import Derived.Deep.RegionHeld3
import Derived.Deep.DeepCutAuto
import Derived.Outline
namespace Go.Proofs.YtcpkjmpbpmeclaaGreatDoor
open Go.RowKit
set_option maxRecDepth 100000
set_option linter.unusedVariables false
set_option linter.unusedSimpArgs false
set_option linter.unnecessarySimpa false

theorem LY : (∀ {α : Type} {xs : List α} {i : Nat} (h : i < xs.toArray.size), xs.toArray[i] = xs[i]'(by simpa using h)) ∧ (∀ {α : Type} (a : α) (l : List α) (i : Nat) (h : i + 1 < (a :: l).length), (a :: l)[i + 1] = l[i]'(by simpa using h)) ∧ (∀ {α : Type} (a : α) (l : List α) (h : 0 < (a :: l).length), (a :: l)[0] = a) ∧ (∀ {α : Type} (l : List α) (i : Nat) (x : α), l.toArray.setIfInBounds i x = (l.set i x).toArray) ∧ (∀ {α : Type} {a b : α} {l : List α}, (a :: l).set 0 b = b :: l) ∧ (∀ {α : Type} {a b : α} {l : List α} {n : Nat}, (a :: l).set (n + 1) b = a :: l.set n b) ∧ (∀ (a : Act) (v : Value), a.put none v = a) ∧ (∀ (a : Act) (d : Tmp) (v : Value), a.put (some d) v = { a with tmps := a.tmps.setIfInBounds d v }) :=
 ⟨fun h => List.getElem_toArray h, fun a l i h => List.getElem_cons_succ a l i h, fun a l h => rfl, fun l i x => List.setIfInBounds_toArray l i x, fun {α a b l} => List.set_cons_zero, fun {α a b l n} => List.set_cons_succ, fun a v => rfl, fun a d v => rfl⟩
/-- A value, with where its limbs and its kids lie. -/
inductive VT where
 | mk (k n : Int) (neg : Bool) (mA : Option Addr) (mcap : Nat) (mag : List Int) (bits ext : Int) (text : ByteArray) (A : Option Addr) (cap : Nat) (l : List VT)
def VT.k : VT → Int | .mk k _ _ _ _ _ _ _ _ _ _ _ => k
def VT.n : VT → Int | .mk _ n _ _ _ _ _ _ _ _ _ _ => n
def VT.neg : VT → Bool | .mk _ _ neg _ _ _ _ _ _ _ _ _ => neg
def VT.mA : VT → Option Addr | .mk _ _ _ mA _ _ _ _ _ _ _ _ => mA
def VT.mcap : VT → Nat | .mk _ _ _ _ mcap _ _ _ _ _ _ _ => mcap
def VT.mag : VT → List Int | .mk _ _ _ _ _ mag _ _ _ _ _ _ => mag
def VT.bits : VT → Int | .mk _ _ _ _ _ _ bits _ _ _ _ _ => bits
def VT.ext : VT → Int | .mk _ _ _ _ _ _ _ ext _ _ _ _ => ext
def VT.text : VT → ByteArray | .mk _ _ _ _ _ _ _ _ text _ _ _ => text
def VT.A : VT → Option Addr | .mk _ _ _ _ _ _ _ _ _ A _ _ => A
def VT.cap : VT → Nat | .mk _ _ _ _ _ _ _ _ _ _ cap _ => cap
def VT.l : VT → List VT | .mk _ _ _ _ _ _ _ _ _ _ _ l => l
def VT.mags (v : VT) : Value := .slice v.mA v.mag.length v.mcap
def VT.kids (v : VT) : Value := .slice v.A v.l.length v.cap
def VT.cells (v : VT) : List Value := [.int .i8 v.k, .int .u64 v.n, .bool v.neg, v.mags, .int .u64 v.bits, .int .i8 v.ext, .string v.text, v.kids]
abbrev VT.agg (v : VT) : Value := .agg #[.int .i8 v.k, .int .u64 v.n, .bool v.neg, v.mags, .int .u64 v.bits, .int .i8 v.ext, .string v.text, v.kids]
mutual
def VT.sz : VT → Nat
 | .mk _ _ _ _ _ mag _ _ text _ _ l => VT.szL l + mag.length + text.size + 1
def VT.szL : List VT → Nat
 | [] => 0
 | v :: l => v.sz + VT.szL l
end
theorem VT.szL_mem {v : VT} : ∀ {l : List VT}, v ∈ l → v.sz ≤ VT.szL l
 | x :: l, h => by
  rcases List.mem_cons.1 h with rfl | h
  ·simp [VT.szL]
  ·have := VT.szL_mem h; simp [VT.szL]; omega
theorem VT.sz_l (v : VT) : v.sz = VT.szL v.l + v.mag.length + v.text.size + 1 := by cases v; rfl
theorem VT.sz_pos (v : VT) : 1 ≤ v.sz := by rw [VT.sz_l]; omega
theorem VT.szL_len : ∀ l : List VT, l.length ≤ VT.szL l
 | [] => by simp
 | v :: l => by have := VT.szL_len l; have := v.sz_pos; simp [VT.szL]; omega
theorem VT.szL_app : ∀ l m : List VT, VT.szL (l ++ m) = VT.szL l + VT.szL m
 | [], m => by simp [VT.szL]
 | v :: l, m => by simp [VT.szL, VT.szL_app l m]; omega
theorem VT.kid_sz {v x : VT} (h : x ∈ v.l) : x.sz < v.sz := by have := VT.szL_mem h; rw [VT.sz_l v]; omega

/-- Values one behind the other. -/
def VRow (w : World) (A : Option Addr) (l : List VT) : Prop :=
 l = [] ∨ ∃ b off, A = some ⟨b, off, none⟩ ∧ ∀ i (h : i < l.length) j u, (l[i]).cells[j]? = some u → w.cell? ⟨b, off + i * 8 + j, none⟩ = some u
/-- The numbers are of their kinds. -/
def U64 (n : Int) : Prop := 0 ≤ n ∧ n ≤ 18446744073709551615
def VT.ok (v : VT) : Prop := (-128 ≤ v.k ∧ v.k ≤ 127) ∧ U64 v.n ∧ U64 v.bits ∧ (-128 ≤ v.ext ∧ v.ext ≤ 127) ∧ ∀ x ∈ v.mag, 0 ≤ x ∧ x ≤ 4294967295
mutual
def In (w : World) : VT → Prop
 | .mk k n neg mA mcap mag bits ext text A cap l => (VT.mk k n neg mA mcap mag bits ext text A cap l).ok ∧ mag.length ≤ mcap ∧ RK w .u32 mA mag ∧ l.length ≤ cap ∧ cap ≤ 9223372036854775807 ∧ VRow w A l ∧ InL w l ∧ (mA = none → mcap = 0) ∧ (A = none → cap = 0)
def InL (w : World) : List VT → Prop
 | [] => True
 | v :: l => In w v ∧ InL w l
end
structure InP (w : World) (v : VT) : Prop where
 ok : v.ok
 ml : v.mag.length ≤ v.mcap
 mr : RK w .u32 v.mA v.mag
 ll : v.l.length ≤ v.cap
 lc : v.cap ≤ 9223372036854775807
 row : VRow w v.A v.l
 kids : InL w v.l
 mz : v.mA = none → v.mcap = 0
 lz : v.A = none → v.cap = 0
theorem In.parts {w : World} {v : VT} (h : In w v) : InP w v := by cases v; exact ⟨h.1, h.2.1, h.2.2.1, h.2.2.2.1, h.2.2.2.2.1, h.2.2.2.2.2.1, h.2.2.2.2.2.2.1, h.2.2.2.2.2.2.2.1, h.2.2.2.2.2.2.2.2⟩
theorem In.mk {w : World} {v : VT} (h : InP w v) : In w v := by cases v; exact ⟨h.ok, h.ml, h.mr, h.ll, h.lc, h.row, h.kids, h.mz, h.lz⟩
theorem InL.mem {w : World} {v : VT} : ∀ {l : List VT}, InL w l → v ∈ l → In w v
 | x :: l, h, hm => by
  simp only [InL] at h
  rcases List.mem_cons.1 hm with rfl | hm
  ·exact h.1
  ·exact InL.mem h.2 hm
theorem InL.of {w : World} : ∀ {l : List VT}, (∀ v, v ∈ l → In w v) → InL w l
 | [], _ => by simp [InL]
 | x :: l, h => by simp only [InL]; exact ⟨h x (by simp), InL.of fun v hv => h v (List.mem_cons_of_mem _ hv)⟩
theorem keep1 {w w1 : World} (hb : Below w.heap.size w w1) {p : Addr} {v : Value} (h : w.cell? p = some v) : w1.cell? p = some v := (hb.cell (World.block_lt_of_cell? w p h)).trans h
theorem trans_b {w W w' : World} (h : Below w.heap.size w W) (k : Below W.heap.size W w') : Below w.heap.size w w' := h.trans (k.mono h.size)
theorem VRow.below {w w1 : World} {A : Option Addr} {l : List VT} (h : VRow w A l) (hb : Below w.heap.size w w1) : VRow w1 A l := by
 rcases h with h | ⟨b, off, e, h⟩
 ·exact .inl h
 ·exact .inr ⟨b, off, e, fun i hi j u hu => keep1 hb (h i hi j u hu)⟩
theorem In.below_n {w w1 : World} (hb : Below w.heap.size w w1) : ∀ (n : Nat) (v : VT), v.sz ≤ n → In w v → In w1 v := by
 intro n
 induction n with
 | zero => intro v hv; have := v.sz_pos; omega
 | succ n ih =>
  intro v hv h
  have p := h.parts
  rw [VT.sz_l] at hv
  exact In.mk ⟨p.ok, p.ml, p.mr.below hb, p.ll, p.lc, p.row.below hb, InL.of (fun x hx => ih x (by have := VT.szL_mem hx; omega) (p.kids.mem hx)), p.mz, p.lz⟩
theorem In.below {w w1 : World} {v : VT} (h : In w v) (hb : Below w.heap.size w w1) : In w1 v := In.below_n hb _ v (Nat.le_refl _) h
theorem InL.below {w w1 : World} {l : List VT} (h : InL w l) (hb : Below w.heap.size w w1) : InL w1 l := InL.of fun v hv => (h.mem hv).below hb
theorem In.kid {w : World} {v x : VT} (h : In w v) (hx : x ∈ v.l) : In w x := h.parts.kids.mem hx
/-- The eight cells of one of a row. -/
theorem VRow.at {w : World} {A : Option Addr} {l : List VT} (h : VRow w A l) (i : Nat) (hi : i < l.length) : ∃ b off, A = some ⟨b, off, none⟩ ∧
  w.cell? ⟨b, off + i * 8, none⟩ = some (.int .i8 (l[i]).k) ∧ w.cell? ⟨b, off + i * 8 + 1, none⟩ = some (.int .u64 (l[i]).n) ∧ w.cell? ⟨b, off + i * 8 + 2, none⟩ = some (.bool (l[i]).neg) ∧
  w.cell? ⟨b, off + i * 8 + 3, none⟩ = some (l[i]).mags ∧ w.cell? ⟨b, off + i * 8 + 4, none⟩ = some (.int .u64 (l[i]).bits) ∧ w.cell? ⟨b, off + i * 8 + 5, none⟩ = some (.int .i8 (l[i]).ext) ∧
  w.cell? ⟨b, off + i * 8 + 6, none⟩ = some (.string (l[i]).text) ∧ w.cell? ⟨b, off + i * 8 + 7, none⟩ = some (l[i]).kids := by
 rcases h with h | ⟨b, off, e, h⟩
 ·rw [h] at hi; simp at hi
 ·exact ⟨b, off, e, h i hi 0 _ rfl, h i hi 1 _ rfl, h i hi 2 _ rfl, h i hi 3 _ rfl, h i hi 4 _ rfl, h i hi 5 _ rfl, h i hi 6 _ rfl, h i hi 7 _ rfl⟩

noncomputable instance vtDec : DecidableEq VT := fun _ _ => Classical.propDecidable _
/-! ### The content alone -/
mutual
def VT.c : VT → VT
 | .mk k n neg _ _ mag bits ext text _ _ l => .mk k n neg none 0 mag bits ext text none 0 (VT.cL l)
def VT.cL : List VT → List VT
 | [] => []
 | v :: l => v.c :: VT.cL l
end
theorem VT.cL_map : ∀ l : List VT, VT.cL l = l.map VT.c
 | [] => rfl
 | v :: l => by simp [VT.cL, VT.cL_map l]
theorem VT.c_eq (v : VT) : v.c = .mk v.k v.n v.neg none 0 v.mag v.bits v.ext v.text none 0 (v.l.map VT.c) := by cases v; simp [VT.c, VT.cL_map, VT.k, VT.n, VT.neg, VT.mag, VT.bits, VT.ext, VT.text, VT.l]
/-- Two of one content. -/
theorem VT.c_iff (v w : VT) : v.c = w.c ↔ v.k = w.k ∧ v.n = w.n ∧ v.neg = w.neg ∧ v.mag = w.mag ∧ v.bits = w.bits ∧ v.ext = w.ext ∧ v.text = w.text ∧ v.l.map VT.c = w.l.map VT.c := by
 rw [VT.c_eq, VT.c_eq]
 constructor
 ·intro h
  injection h with h1 h2 h3 h4 h5 h6 h7 h8 h9 h10 h11 h12
  exact ⟨h1, h2, h3, h6, h7, h8, h9, h12⟩
 ·rintro ⟨h1, h2, h3, h6, h7, h8, h9, h12⟩
  rw [h1, h2, h3, h6, h7, h8, h9, h12]
end Go.Proofs.YtcpkjmpbpmeclaaGreatDoor
namespace Go.Proofs.YtcpkjmpbpmeclaaGreatDoor
open Go.RowKit
set_option maxRecDepth 100000
set_option linter.unusedVariables false
set_option linter.unusedSimpArgs false
set_option linter.unnecessarySimpa false

def cmpI (x y : Int) : Int := if x < y then -1 else if y < x then 1 else 0
def orI (a b : Int) : Int := if a = 0 then b else a
theorem orI_zero (b : Int) : orI 0 b = b := by simp [orI]
theorem orI_ne {a : Int} (b : Int) (h : a ≠ 0) : orI a b = a := by simp [orI, h]
/-- What an order of two keeps when they change places, and with a third. -/
structure Ord2 (x y : Int) : Prop where
 anti : y = -x
 lo : -1 ≤ x
 hi : x ≤ 1
/-- x: a to b, y: b to c, z: a to c. -/
def Tri (x y z : Int) : Prop := (x ≤ 0 → y ≤ 0 → z ≤ 0 ∧ (z = 0 → x = 0 ∧ y = 0)) ∧ (0 ≤ x → 0 ≤ y → 0 ≤ z ∧ (z = 0 → x = 0 ∧ y = 0))
theorem cmpI_ord (x y : Int) : Ord2 (cmpI x y) (cmpI y x) := by
 unfold cmpI
 refine ⟨?_, ?_, ?_⟩ <;> (repeat' split) <;> omega
theorem cmpI_tri (a b c : Int) : Tri (cmpI a b) (cmpI b c) (cmpI a c) := by
 unfold cmpI Tri
 (repeat' split) <;> omega
theorem cmpI_eq (x y : Int) : cmpI x y = 0 ↔ x = y := by unfold cmpI; (repeat' split) <;> omega
theorem cmpI_self (x : Int) : cmpI x x = 0 := (cmpI_eq x x).2 rfl
theorem orI_ord {x y x' y' : Int} (h : Ord2 x y) (k : Ord2 x' y') : Ord2 (orI x x') (orI y y') := by
 obtain ⟨h1, h2, h3⟩ := h
 obtain ⟨k1, k2, k3⟩ := k
 unfold orI
 refine ⟨?_, ?_, ?_⟩ <;> (repeat' split) <;> omega
theorem orI_tri {x y z x' y' z' : Int} (h : Tri x y z) (k : Tri x' y' z') : Tri (orI x x') (orI y y') (orI z z') := by
 unfold Tri at *
 unfold orI
 (repeat' split) <;> omega
/-- The bytes of a text, as numbers. -/
def cmpL : List Int → List Int → Int
 | [], [] => 0
 | [], _ :: _ => -1
 | _ :: _, [] => 1
 | x :: l, y :: m => orI (cmpI x y) (cmpL l m)
theorem cmpL_ord : ∀ l m, Ord2 (cmpL l m) (cmpL m l)
 | [], [] => ⟨by simp [cmpL], by simp [cmpL], by simp [cmpL]⟩
 | [], _ :: _ => ⟨by simp [cmpL], by simp [cmpL], by simp [cmpL]⟩
 | _ :: _, [] => ⟨by simp [cmpL], by simp [cmpL], by simp [cmpL]⟩
 | x :: l, y :: m => orI_ord (cmpI_ord x y) (cmpL_ord l m)
theorem cmpL_tri : ∀ l m n, Tri (cmpL l m) (cmpL m n) (cmpL l n)
 | [], [], [] => by simp [cmpL, Tri]
 | [], [], _ :: _ => by simp [cmpL, Tri]
 | [], _ :: _, [] => by simp [cmpL, Tri]
 | [], y :: m, z :: n => by
  obtain ⟨h1, h2, h3⟩ := orI_ord (cmpI_ord y z) (cmpL_ord m n)
  simp only [cmpL, Tri] at *
  omega
 | _ :: _, [], [] => by simp [cmpL, Tri]
 | x :: l, [], z :: n => by
  obtain ⟨h1, h2, h3⟩ := orI_ord (cmpI_ord x z) (cmpL_ord l n)
  simp only [cmpL, Tri] at *
  omega
 | x :: l, y :: m, [] => by
  obtain ⟨h1, h2, h3⟩ := orI_ord (cmpI_ord x y) (cmpL_ord l m)
  simp only [cmpL, Tri] at *
  omega
 | x :: l, y :: m, z :: n => orI_tri (cmpI_tri x y z) (cmpL_tri l m n)
theorem cmpL_eq : ∀ l m, cmpL l m = 0 ↔ l = m
 | [], [] => by simp [cmpL]
 | [], _ :: _ => by simp [cmpL]
 | _ :: _, [] => by simp [cmpL]
 | x :: l, y :: m => by
  have h1 := cmpI_eq x y
  have h2 := cmpL_eq l m
  simp only [cmpL, orI, List.cons.injEq]
  by_cases h : cmpI x y = 0
  ·rw [if_pos h, h2]; simp [h1.1 h]
  ·rw [if_neg h]
   constructor
   ·intro e; exact absurd e h
   ·rintro ⟨e, _⟩; exact absurd (h1.2 e) h
/-- The number that limbs say, the lowest first. -/
def magV : List Int → Int
 | [] => 0
 | x :: l => x + 4294967296 * magV l
def VT.whole (v : VT) : Int := if v.neg then -magV v.mag else magV v.mag
/-- Where a pattern stands among all. -/
def totK (b : Int) : Int := if b < 9223372036854775808 then b else 9223372036854775807 - b
/-- All but the kids. -/
def cmpN (a b : VT) : Int := orI (cmpI a.k b.k) (orI (cmpI a.n b.n) (orI (cmpI a.ext b.ext) (orI (cmpI a.whole b.whole) (orI (cmpI (totK a.bits) (totK b.bits)) (cmpL (ints a.text) (ints b.text))))))
mutual
def cmpV : VT → VT → Int
 | .mk k n neg mA mcap mag bits ext text A cap l, b => orI (cmpN (.mk k n neg mA mcap mag bits ext text A cap l) b) (cmpVL l b.l)
def cmpVL : List VT → List VT → Int
 | [], [] => 0
 | [], _ :: _ => -1
 | _ :: _, [] => 1
 | x :: l, y :: m => orI (cmpV x y) (cmpVL l m)
end
theorem cmpV_eq (a b : VT) : cmpV a b = orI (cmpN a b) (cmpVL a.l b.l) := by cases a; rfl
theorem cmpN_ord (a b : VT) : Ord2 (cmpN a b) (cmpN b a) :=
 orI_ord (cmpI_ord _ _) (orI_ord (cmpI_ord _ _) (orI_ord (cmpI_ord _ _) (orI_ord (cmpI_ord _ _) (orI_ord (cmpI_ord _ _) (cmpL_ord _ _)))))
theorem cmpN_tri (a b c : VT) : Tri (cmpN a b) (cmpN b c) (cmpN a c) :=
 orI_tri (cmpI_tri _ _ _) (orI_tri (cmpI_tri _ _ _) (orI_tri (cmpI_tri _ _ _) (orI_tri (cmpI_tri _ _ _) (orI_tri (cmpI_tri _ _ _) (cmpL_tri _ _ _)))))
theorem cmpVL_ord_of : ∀ l m : List VT, (∀ x ∈ l, ∀ y, Ord2 (cmpV x y) (cmpV y x)) → Ord2 (cmpVL l m) (cmpVL m l)
 | [], [], _ => ⟨by simp [cmpVL], by simp [cmpVL], by simp [cmpVL]⟩
 | [], _ :: _, _ => ⟨by simp [cmpVL], by simp [cmpVL], by simp [cmpVL]⟩
 | _ :: _, [], _ => ⟨by simp [cmpVL], by simp [cmpVL], by simp [cmpVL]⟩
 | x :: l, y :: m, h => by
  simp only [cmpVL]
  exact orI_ord (h x (by simp) y) (cmpVL_ord_of l m fun z hz => h z (by simp [hz]))
theorem cmpV_ord_n : ∀ (n : Nat) (a b : VT), a.sz ≤ n → Ord2 (cmpV a b) (cmpV b a)
 | 0, a, b, h => by have := a.sz_pos; omega
 | n + 1, a, b, h => by
  rw [cmpV_eq, cmpV_eq]
  exact orI_ord (cmpN_ord a b) (cmpVL_ord_of _ _ fun x hx y => cmpV_ord_n n x y (by have := VT.kid_sz hx; omega))
theorem cmpV_ord (a b : VT) : Ord2 (cmpV a b) (cmpV b a) := cmpV_ord_n _ a b (Nat.le_refl _)
theorem cmpVL_ord (l m : List VT) : Ord2 (cmpVL l m) (cmpVL m l) := cmpVL_ord_of l m fun x _ y => cmpV_ord x y
theorem cmpVL_tri_of : ∀ l m n : List VT, (∀ x ∈ l, ∀ y z, Tri (cmpV x y) (cmpV y z) (cmpV x z)) → Tri (cmpVL l m) (cmpVL m n) (cmpVL l n)
 | [], [], [], _ => by simp [cmpVL, Tri]
 | [], [], _ :: _, _ => by simp [cmpVL, Tri]
 | [], _ :: _, [], _ => by simp [cmpVL, Tri]
 | [], y :: m, z :: n, _ => by
  obtain ⟨h1, h2, h3⟩ := cmpVL_ord (y :: m) (z :: n)
  generalize cmpVL (y :: m) (z :: n) = q at *
  simp only [cmpVL, Tri] at *
  omega
 | _ :: _, [], [], _ => by simp [cmpVL, Tri]
 | x :: l, [], z :: n, _ => by
  obtain ⟨h1, h2, h3⟩ := cmpVL_ord (x :: l) (z :: n)
  generalize cmpVL (x :: l) (z :: n) = q at *
  simp only [cmpVL, Tri] at *
  omega
 | x :: l, y :: m, [], _ => by
  obtain ⟨h1, h2, h3⟩ := cmpVL_ord (x :: l) (y :: m)
  generalize cmpVL (x :: l) (y :: m) = q at *
  simp only [cmpVL, Tri] at *
  omega
 | x :: l, y :: m, z :: n, h => by
  simp only [cmpVL]
  exact orI_tri (h x (by simp) y z) (cmpVL_tri_of l m n fun w hw => h w (by simp [hw]))
theorem cmpV_tri_n : ∀ (n : Nat) (a b c : VT), a.sz ≤ n → Tri (cmpV a b) (cmpV b c) (cmpV a c)
 | 0, a, b, c, h => by have := a.sz_pos; omega
 | n + 1, a, b, c, h => by
  rw [cmpV_eq, cmpV_eq, cmpV_eq]
  exact orI_tri (cmpN_tri a b c) (cmpVL_tri_of _ _ _ fun x hx y z => cmpV_tri_n n x y z (by have := VT.kid_sz hx; omega))
theorem cmpV_tri (a b c : VT) : Tri (cmpV a b) (cmpV b c) (cmpV a c) := cmpV_tri_n _ a b c (Nat.le_refl _)
theorem cmpV_self (a : VT) : cmpV a a = 0 := by have := (cmpV_ord a a).anti; omega
/-- The order asks for the content alone. -/
theorem whole_c (v : VT) : v.c.whole = v.whole := by rw [VT.c_eq]; rfl
theorem cmpN_c (a b : VT) : cmpN a.c b.c = cmpN a b := by
 have e : ∀ v : VT, v.c.k = v.k ∧ v.c.n = v.n ∧ v.c.ext = v.ext ∧ v.c.bits = v.bits ∧ v.c.text = v.text := fun v => by rw [VT.c_eq]; exact ⟨rfl, rfl, rfl, rfl, rfl⟩
 obtain ⟨a1, a2, a3, a4, a5⟩ := e a
 obtain ⟨b1, b2, b3, b4, b5⟩ := e b
 unfold cmpN
 rw [a1, a2, a3, a4, a5, b1, b2, b3, b4, b5, whole_c, whole_c]
theorem c_l (v : VT) : v.c.l = v.l.map VT.c := by rw [VT.c_eq]; rfl
theorem cmpVL_c_of : ∀ l m : List VT, (∀ x ∈ l, ∀ y, cmpV x.c y.c = cmpV x y) → cmpVL (l.map VT.c) (m.map VT.c) = cmpVL l m
 | [], [], _ => rfl
 | [], _ :: _, _ => rfl
 | _ :: _, [], _ => rfl
 | x :: l, y :: m, h => by
  simp only [List.map_cons, cmpVL]
  rw [h x (by simp) y, cmpVL_c_of l m fun z hz => h z (by simp [hz])]
theorem cmpV_c_n : ∀ (n : Nat) (a b : VT), a.sz ≤ n → cmpV a.c b.c = cmpV a b
 | 0, a, b, h => by have := a.sz_pos; omega
 | n + 1, a, b, h => by
  rw [cmpV_eq, cmpV_eq, cmpN_c, c_l, c_l, cmpVL_c_of _ _ fun x hx y => cmpV_c_n n x y (by have := VT.kid_sz hx; omega)]
theorem cmpV_c (a b : VT) : cmpV a.c b.c = cmpV a b := cmpV_c_n _ a b (Nat.le_refl _)
theorem cmpV_same {a b a' b' : VT} (ha : a.c = a'.c) (hb : b.c = b'.c) : cmpV a b = cmpV a' b' := by rw [← cmpV_c a b, ← cmpV_c a' b', ha, hb]
end Go.Proofs.YtcpkjmpbpmeclaaGreatDoor
namespace Go.Proofs.YtcpkjmpbpmeclaaGreatDoor
open Go.RowKit
set_option maxRecDepth 100000
set_option linter.unusedVariables false
set_option linter.unusedSimpArgs false
set_option linter.unnecessarySimpa false

def isC (k : Int) : Bool := k == 7 || k == 8 || k == 9
mutual
def VT.depth : VT → Nat
 | .mk k _ _ _ _ _ _ _ _ _ _ l => if isC k then VT.depthL l + 1 else 0
def VT.depthL : List VT → Nat
 | [] => 0
 | v :: l => max v.depth (VT.depthL l)
end
mutual
def VT.nodes : VT → Nat
 | .mk _ _ _ _ _ _ _ _ _ _ _ l => 1 + VT.nodesL l
def VT.nodesL : List VT → Nat
 | [] => 0
 | v :: l => v.nodes + VT.nodesL l
end
theorem VT.depth_eq (v : VT) : v.depth = if isC v.k then VT.depthL v.l + 1 else 0 := by cases v; rfl
theorem VT.nodes_eq (v : VT) : v.nodes = 1 + VT.nodesL v.l := by cases v; rfl
theorem VT.depthL_app : ∀ l m, VT.depthL (l ++ m) = max (VT.depthL l) (VT.depthL m)
 | [], m => by simp [VT.depthL]
 | v :: l, m => by simp only [List.cons_append, VT.depthL, VT.depthL_app l m]; omega
theorem VT.nodesL_app : ∀ l m, VT.nodesL (l ++ m) = VT.nodesL l + VT.nodesL m
 | [], m => by simp [VT.nodesL]
 | v :: l, m => by simp only [List.cons_append, VT.nodesL, VT.nodesL_app l m]; omega
theorem VT.depthL_snoc (l : List VT) (v : VT) : VT.depthL (l ++ [v]) = max (VT.depthL l) v.depth := by rw [VT.depthL_app]; simp [VT.depthL]
theorem VT.nodesL_snoc (l : List VT) (v : VT) : VT.nodesL (l ++ [v]) = VT.nodesL l + v.nodes := by rw [VT.nodesL_app]; simp [VT.nodesL]
theorem VT.nodesL_le_of : ∀ l : List VT, (∀ x ∈ l, x.nodes ≤ x.sz) → VT.nodesL l ≤ VT.szL l
 | [], _ => by simp [VT.nodesL, VT.szL]
 | v :: l, h => by have := VT.nodesL_le_of l fun x hx => h x (by simp [hx]); have := h v (by simp); simp only [VT.nodesL, VT.szL]; omega
theorem VT.nodes_le_n : ∀ (n : Nat) (v : VT), v.sz ≤ n → v.nodes ≤ v.sz
 | 0, v, h => by have := v.sz_pos; omega
 | n + 1, v, h => by
  have := VT.nodesL_le_of v.l fun x hx => VT.nodes_le_n n x (by have := VT.kid_sz hx; omega)
  rw [VT.nodes_eq, VT.sz_l]
  omega
theorem VT.nodes_le (v : VT) : v.nodes ≤ v.sz := VT.nodes_le_n _ v (Nat.le_refl _)
theorem VT.depthL_le_of : ∀ l : List VT, (∀ x ∈ l, x.depth ≤ x.sz) → VT.depthL l ≤ VT.szL l
 | [], _ => by simp [VT.depthL, VT.szL]
 | v :: l, h => by have := VT.depthL_le_of l fun x hx => h x (by simp [hx]); have := h v (by simp); simp only [VT.depthL, VT.szL]; omega
theorem VT.depth_le_n : ∀ (n : Nat) (v : VT), v.sz ≤ n → v.depth ≤ v.sz
 | 0, v, h => by have := v.sz_pos; omega
 | n + 1, v, h => by
  have := VT.depthL_le_of v.l fun x hx => VT.depth_le_n n x (by have := VT.kid_sz hx; omega)
  rw [VT.depth_eq, VT.sz_l]
  split <;> omega
theorem VT.depth_le (v : VT) : v.depth ≤ v.sz := VT.depth_le_n _ v (Nat.le_refl _)
theorem VT.take_snoc (l : List VT) (i : Nat) (h : i < l.length) : l.take (i + 1) = l.take i ++ [l[i]] := List.take_succ_eq_append_getElem h
end Go.Proofs.YtcpkjmpbpmeclaaGreatDoor
namespace Go.Proofs.YtcpkjmpbpmeclaaGreatDoor
open Go.RowKit
set_option maxRecDepth 100000
set_option linter.unusedVariables false
set_option linter.unusedSimpArgs false
set_option linter.unnecessarySimpa false

theorem isNaNK (x : Int) (w : World) : Calls Tryz.prog 150 #[.int .i8 x] w fun e w' => e = .returned (.bool false) ∧ w' = w := by
 go_enter Tryz.func150, Tryz.ntmps150
 go_wp2
 go_ret
 exact ⟨rfl, rfl⟩
theorem gcK (x y : Int) (w : World) : Calls Tryz.prog 62 #[.int .i8 x, .int .i8 y] w fun e w' => e = .returned (.int .i64 (cmpI x y)) ∧ w' = w := by
 unfold cmpI
 rcases Int.lt_trichotomy x y with h | h | h
 ·have h1 : decide (x < y) = true := decide_eq_true h
  rw [if_pos h]
  have H := Lib.hid h
  clear h
  go_enter Tryz.func62, Tryz.ntmps62
  go_wp2_with (go_at_call 150; refine (isNaNK _ _).mono ?_; rintro e w1 ⟨rfl, rfl⟩)
  go_ret
  exact ⟨rfl, rfl⟩
 ·subst h
  rw [if_neg (Int.lt_irrefl x), if_neg (Int.lt_irrefl x)]
  have h1 : decide (x < x) = false := decide_eq_false (Int.lt_irrefl x)
  go_enter Tryz.func62, Tryz.ntmps62
  go_wp2_with (go_at_call 150; refine (isNaNK _ _).mono ?_; rintro e w1 ⟨rfl, rfl⟩)
  go_ret
  exact ⟨rfl, rfl⟩
 ·have h0 : ¬ x < y := by omega
  have h1 : decide (x < y) = false := decide_eq_false h0
  have h2 : decide (y < x) = true := decide_eq_true h
  rw [if_neg h0, if_pos h]
  have H := Lib.hid h
  have H0 := Lib.hid h0
  clear h h0
  go_enter Tryz.func62, Tryz.ntmps62
  go_wp2_with (go_at_call 150; refine (isNaNK _ _).mono ?_; rintro e w1 ⟨rfl, rfl⟩)
  go_ret
  exact ⟨rfl, rfl⟩

theorem isNaNU (x : Int) (w : World) : Calls Tryz.prog 151 #[.int .u64 x] w fun e w' => e = .returned (.bool false) ∧ w' = w := by
 go_enter Tryz.func151, Tryz.ntmps151
 go_wp2
 go_ret
 exact ⟨rfl, rfl⟩
theorem gcU (x y : Int) (w : World) : Calls Tryz.prog 63 #[.int .u64 x, .int .u64 y] w fun e w' => e = .returned (.int .i64 (cmpI x y)) ∧ w' = w := by
 unfold cmpI
 rcases Int.lt_trichotomy x y with h | h | h
 ·have h1 : decide (x < y) = true := decide_eq_true h
  rw [if_pos h]
  have H := Lib.hid h
  clear h
  go_enter Tryz.func63, Tryz.ntmps63
  go_wp2_with (go_at_call 151; refine (isNaNU _ _).mono ?_; rintro e w1 ⟨rfl, rfl⟩)
  go_ret
  exact ⟨rfl, rfl⟩
 ·subst h
  rw [if_neg (Int.lt_irrefl x), if_neg (Int.lt_irrefl x)]
  have h1 : decide (x < x) = false := decide_eq_false (Int.lt_irrefl x)
  go_enter Tryz.func63, Tryz.ntmps63
  go_wp2_with (go_at_call 151; refine (isNaNU _ _).mono ?_; rintro e w1 ⟨rfl, rfl⟩)
  go_ret
  exact ⟨rfl, rfl⟩
 ·have h0 : ¬ x < y := by omega
  have h1 : decide (x < y) = false := decide_eq_false h0
  have h2 : decide (y < x) = true := decide_eq_true h
  rw [if_neg h0, if_pos h]
  have H := Lib.hid h
  have H0 := Lib.hid h0
  clear h h0
  go_enter Tryz.func63, Tryz.ntmps63
  go_wp2_with (go_at_call 151; refine (isNaNU _ _).mono ?_; rintro e w1 ⟨rfl, rfl⟩)
  go_ret
  exact ⟨rfl, rfl⟩

theorem isNaNE (x : Int) (w : World) : Calls Tryz.prog 152 #[.int .i8 x] w fun e w' => e = .returned (.bool false) ∧ w' = w := by
 go_enter Tryz.func152, Tryz.ntmps152
 go_wp2
 go_ret
 exact ⟨rfl, rfl⟩
theorem gcE (x y : Int) (w : World) : Calls Tryz.prog 64 #[.int .i8 x, .int .i8 y] w fun e w' => e = .returned (.int .i64 (cmpI x y)) ∧ w' = w := by
 unfold cmpI
 rcases Int.lt_trichotomy x y with h | h | h
 ·have h1 : decide (x < y) = true := decide_eq_true h
  rw [if_pos h]
  have H := Lib.hid h
  clear h
  go_enter Tryz.func64, Tryz.ntmps64
  go_wp2_with (go_at_call 152; refine (isNaNE _ _).mono ?_; rintro e w1 ⟨rfl, rfl⟩)
  go_ret
  exact ⟨rfl, rfl⟩
 ·subst h
  rw [if_neg (Int.lt_irrefl x), if_neg (Int.lt_irrefl x)]
  have h1 : decide (x < x) = false := decide_eq_false (Int.lt_irrefl x)
  go_enter Tryz.func64, Tryz.ntmps64
  go_wp2_with (go_at_call 152; refine (isNaNE _ _).mono ?_; rintro e w1 ⟨rfl, rfl⟩)
  go_ret
  exact ⟨rfl, rfl⟩
 ·have h0 : ¬ x < y := by omega
  have h1 : decide (x < y) = false := decide_eq_false h0
  have h2 : decide (y < x) = true := decide_eq_true h
  rw [if_neg h0, if_pos h]
  have H := Lib.hid h
  have H0 := Lib.hid h0
  clear h h0
  go_enter Tryz.func64, Tryz.ntmps64
  go_wp2_with (go_at_call 152; refine (isNaNE _ _).mono ?_; rintro e w1 ⟨rfl, rfl⟩)
  go_ret
  exact ⟨rfl, rfl⟩

theorem isNaNI (x : Int) (w : World) : Calls Tryz.prog 240 #[.int .i64 x] w fun e w' => e = .returned (.bool false) ∧ w' = w := by
 go_enter Tryz.func240, Tryz.ntmps240
 go_wp2
 go_ret
 exact ⟨rfl, rfl⟩
theorem gcI (x y : Int) (w : World) : Calls Tryz.prog 213 #[.int .i64 x, .int .i64 y] w fun e w' => e = .returned (.int .i64 (cmpI x y)) ∧ w' = w := by
 unfold cmpI
 rcases Int.lt_trichotomy x y with h | h | h
 ·have h1 : decide (x < y) = true := decide_eq_true h
  rw [if_pos h]
  have H := Lib.hid h
  clear h
  go_enter Tryz.func213, Tryz.ntmps213
  go_wp2_with (go_at_call 240; refine (isNaNI _ _).mono ?_; rintro e w1 ⟨rfl, rfl⟩)
  go_ret
  exact ⟨rfl, rfl⟩
 ·subst h
  rw [if_neg (Int.lt_irrefl x), if_neg (Int.lt_irrefl x)]
  have h1 : decide (x < x) = false := decide_eq_false (Int.lt_irrefl x)
  go_enter Tryz.func213, Tryz.ntmps213
  go_wp2_with (go_at_call 240; refine (isNaNI _ _).mono ?_; rintro e w1 ⟨rfl, rfl⟩)
  go_ret
  exact ⟨rfl, rfl⟩
 ·have h0 : ¬ x < y := by omega
  have h1 : decide (x < y) = false := decide_eq_false h0
  have h2 : decide (y < x) = true := decide_eq_true h
  rw [if_neg h0, if_pos h]
  have H := Lib.hid h
  have H0 := Lib.hid h0
  clear h h0
  go_enter Tryz.func213, Tryz.ntmps213
  go_wp2_with (go_at_call 240; refine (isNaNI _ _).mono ?_; rintro e w1 ⟨rfl, rfl⟩)
  go_ret
  exact ⟨rfl, rfl⟩

theorem isNaNL (x : Int) (w : World) : Calls Tryz.prog 241 #[.int .u32 x] w fun e w' => e = .returned (.bool false) ∧ w' = w := by
 go_enter Tryz.func241, Tryz.ntmps241
 go_wp2
 go_ret
 exact ⟨rfl, rfl⟩
theorem gcL (x y : Int) (w : World) : Calls Tryz.prog 214 #[.int .u32 x, .int .u32 y] w fun e w' => e = .returned (.int .i64 (cmpI x y)) ∧ w' = w := by
 unfold cmpI
 rcases Int.lt_trichotomy x y with h | h | h
 ·have h1 : decide (x < y) = true := decide_eq_true h
  rw [if_pos h]
  have H := Lib.hid h
  clear h
  go_enter Tryz.func214, Tryz.ntmps214
  go_wp2_with (go_at_call 241; refine (isNaNL _ _).mono ?_; rintro e w1 ⟨rfl, rfl⟩)
  go_ret
  exact ⟨rfl, rfl⟩
 ·subst h
  rw [if_neg (Int.lt_irrefl x), if_neg (Int.lt_irrefl x)]
  have h1 : decide (x < x) = false := decide_eq_false (Int.lt_irrefl x)
  go_enter Tryz.func214, Tryz.ntmps214
  go_wp2_with (go_at_call 241; refine (isNaNL _ _).mono ?_; rintro e w1 ⟨rfl, rfl⟩)
  go_ret
  exact ⟨rfl, rfl⟩
 ·have h0 : ¬ x < y := by omega
  have h1 : decide (x < y) = false := decide_eq_false h0
  have h2 : decide (y < x) = true := decide_eq_true h
  rw [if_neg h0, if_pos h]
  have H := Lib.hid h
  have H0 := Lib.hid h0
  clear h h0
  go_enter Tryz.func214, Tryz.ntmps214
  go_wp2_with (go_at_call 241; refine (isNaNL _ _).mono ?_; rintro e w1 ⟨rfl, rfl⟩)
  go_ret
  exact ⟨rfl, rfl⟩

theorem cmpL_less : ∀ a b : List UInt8, (cmpL (a.map fun x => (x.toNat : Int)) (b.map fun x => (x.toNat : Int)) = -1 ↔ Op.bytesLess a b = true) ∧ (cmpL (a.map fun x => (x.toNat : Int)) (b.map fun x => (x.toNat : Int)) = 0 ↔ a = b)
 | [], [] => by simp [cmpL, Op.bytesLess]
 | [], y :: m => by simp [cmpL, Op.bytesLess]
 | x :: l, [] => by simp [cmpL, Op.bytesLess]
 | x :: l, y :: m => by
  obtain ⟨h1, h2⟩ := cmpL_less l m
  have ho : ∀ q : Int, orI q (cmpL (l.map fun x => (x.toNat : Int)) (m.map fun x => (x.toNat : Int))) = if q = 0 then cmpL (l.map fun x => (x.toNat : Int)) (m.map fun x => (x.toNat : Int)) else q := fun q => rfl
  simp only [List.map_cons, cmpL, Op.bytesLess, List.cons.injEq, ho]
  by_cases h : x = y
  ·subst h
   rw [cmpI_self]
   simp [h1, h2]
  ·have hne : ¬ x.toNat = y.toNat := fun e => h (UInt8.toNat_inj.1 e)
   by_cases hl : x < y
   ·have := UInt8.lt_iff_toNat_lt.1 hl
    have e : cmpI (x.toNat : Int) (y.toNat : Int) = -1 := by unfold cmpI; rw [if_pos (by omega)]
    rw [e]
    simp [hl, h]
   ·have hge : ¬ x.toNat < y.toNat := fun e => hl (UInt8.lt_iff_toNat_lt.2 e)
    have e : cmpI (x.toNat : Int) (y.toNat : Int) = 1 := by unfold cmpI; rw [if_neg (by omega), if_pos (by omega)]
    rw [e]
    simp [hl, h]
theorem isNaNS (x : ByteArray) (w : World) : Calls Tryz.prog 156 #[.string x] w fun e w' => e = .returned (.bool false) ∧ w' = w := by
 have h1 : (x.toList == x.toList) = true := by simp
 go_enter Tryz.func156, Tryz.ntmps156
 go_wp2
 go_ret
 exact ⟨rfl, rfl⟩
theorem gcS (x y : ByteArray) (w : World) : Calls Tryz.prog 67 #[.string x, .string y] w fun e w' => e = .returned (.int .i64 (cmpL (ints x) (ints y))) ∧ w' = w := by
 have hc : cmpL (ints x) (ints y) = if Op.bytesLess x.toList y.toList = true then -1 else if (x.toList == y.toList) = true then 0 else 1 := by
  obtain ⟨h1, h2⟩ := cmpL_less x.toList y.toList
  obtain ⟨h3, h4, h5⟩ := cmpL_ord (ints x) (ints y)
  rw [ByteArray.toList_eq, ByteArray.toList_eq] at *
  unfold ints at *
  (repeat' split)
  ·exact h1.2 (by assumption)
  ·rename_i h; exact h2.2 (eq_of_beq h)
  ·rename_i p q
   have p1 : ¬ cmpL (x.data.toList.map fun x => (x.toNat : Int)) (y.data.toList.map fun x => (x.toNat : Int)) = -1 := fun e => p (h1.1 e)
   have q1 : ¬ cmpL (x.data.toList.map fun x => (x.toNat : Int)) (y.data.toList.map fun x => (x.toNat : Int)) = 0 := fun e => q (by rw [h2.1 e]; simp)
   omega
 rw [hc]
 clear hc
 have hg : ∀ W, Sem.run Tryz.prog (binOp .gtr 9 (.string x) (.string y)) W = .ok (.bool (!(Op.bytesLess x.toList y.toList || (x.toList == y.toList)))) W := fun W => rfl
 rcases h1 : Op.bytesLess x.toList y.toList with _ | _
 ·rcases h2 : (x.toList == y.toList) with _ | _ <;> rw [h1, h2] at hg <;> clear h2
  ·go_enter Tryz.func67, Tryz.ntmps67
   go_wp2_with (go_at_call 156; refine (isNaNS _ _).mono ?_; rintro e w1 ⟨rfl, rfl⟩)
   go_ret
   exact ⟨rfl, rfl⟩
  ·go_enter Tryz.func67, Tryz.ntmps67
   go_wp2_with (go_at_call 156; refine (isNaNS _ _).mono ?_; rintro e w1 ⟨rfl, rfl⟩)
   go_ret
   exact ⟨rfl, rfl⟩
 ·clear hg
  go_enter Tryz.func67, Tryz.ntmps67
  go_wp2_with (go_at_call 156; refine (isNaNS _ _).mono ?_; rintro e w1 ⟨rfl, rfl⟩)
  go_ret
  exact ⟨rfl, rfl⟩
end Go.Proofs.YtcpkjmpbpmeclaaGreatDoor
namespace Go.Proofs.YtcpkjmpbpmeclaaGreatDoor
open Go.RowKit
set_option maxRecDepth 100000
set_option linter.unusedVariables false
set_option linter.unusedSimpArgs false
set_option linter.unnecessarySimpa false

theorem container_any (k : Int) (x1 x2 x3 x4 x5 x6 x7 : Value) (w : World) : Calls Tryz.prog 50 #[.agg #[.int .i8 k, x1, x2, x3, x4, x5, x6, x7]] w fun e w' => e = .returned (.bool (isC k)) ∧ Below w.heap.size w w' := by
 have hb : Below w.heap.size w (w.alloc (.cells #[.int .i8 k, x1, x2, x3, x4, x5, x6, x7] 31)) := (Below.refl _ _).alloc (Nat.le_refl _) _
 unfold isC
 rcases h7 : (k == 7) with _ | _
 ·rcases h8 : (k == 8) with _ | _
  ·go_enter Tryz.func50, Tryz.ntmps50
   go_wp2
   go_ret
   exact ⟨by simp, hb⟩
  ·go_enter Tryz.func50, Tryz.ntmps50
   go_wp2
   go_ret
   exact ⟨by simp, hb⟩
 ·go_enter Tryz.func50, Tryz.ntmps50
  go_wp2
  go_ret
  exact ⟨by simp, hb⟩
theorem refContainer_any (k : Int) (x1 x2 x3 x4 x5 x6 x7 : Value) (w : World) : Calls Tryz.prog 144 #[.agg #[.int .i8 k, x1, x2, x3, x4, x5, x6, x7]] w fun e w' => e = .returned (.bool (isC k)) ∧ Below w.heap.size w w' := by
 have hb : Below w.heap.size w (w.alloc (.cells #[.int .i8 k, x1, x2, x3, x4, x5, x6, x7] 31)) := (Below.refl _ _).alloc (Nat.le_refl _) _
 unfold isC
 rcases h7 : (k == 7) with _ | _
 ·rcases h8 : (k == 8) with _ | _
  ·go_enter Tryz.func144, Tryz.ntmps144
   go_wp2
   go_ret
   exact ⟨by simp, hb⟩
  ·go_enter Tryz.func144, Tryz.ntmps144
   go_wp2
   go_ret
   exact ⟨by simp, hb⟩
 ·go_enter Tryz.func144, Tryz.ntmps144
  go_wp2
  go_ret
  exact ⟨by simp, hb⟩
/-- A kid's cells, and what is called with it. -/
theorem VRow.kid {w : World} {A : Option Addr} {l : List VT} (h : VRow w A l) {i : Nat} (hi : i < l.length) {C : Value → Prop} (hc : C (l[i]).agg) : ∃ b off k n ng mA ml mc bs ex tx kA kl kc, A = some ⟨b, off, none⟩ ∧
  w.cell? ⟨b, off + i * 8, none⟩ = some (.int .i8 k) ∧ w.cell? ⟨b, off + i * 8 + 1, none⟩ = some (.int .u64 n) ∧ w.cell? ⟨b, off + i * 8 + 2, none⟩ = some (.bool ng) ∧
  w.cell? ⟨b, off + i * 8 + 3, none⟩ = some (.slice mA ml mc) ∧ w.cell? ⟨b, off + i * 8 + 4, none⟩ = some (.int .u64 bs) ∧ w.cell? ⟨b, off + i * 8 + 5, none⟩ = some (.int .i8 ex) ∧
  w.cell? ⟨b, off + i * 8 + 6, none⟩ = some (.string tx) ∧ w.cell? ⟨b, off + i * 8 + 7, none⟩ = some (.slice kA kl kc) ∧
  C (.agg #[.int .i8 k, .int .u64 n, .bool ng, .slice mA ml mc, .int .u64 bs, .int .i8 ex, .string tx, .slice kA kl kc]) := by
 obtain ⟨b, off, e, h0, h1, h2, h3, h4, h5, h6, h7⟩ := h.at i hi
 exact ⟨b, off, _, _, _, _, _, _, _, _, _, _, _, _, e, h0, h1, h2, h3, h4, h5, h6, h7, hc⟩
set_option maxHeartbeats 1000000 in
theorem depth_n : ∀ (q : Nat) (v : VT) (w : World), v.sz ≤ q → v.sz ≤ 1000000000 → In w v →
  Calls Tryz.prog 38 #[v.agg] w fun e w' => e = .returned (.int .i64 (v.depth : Nat)) ∧ Below w.heap.size w w'
 | 0, v, w, h, _, _ => by have := v.sz_pos; omega
 | q + 1, v, w, h, hz, hI => by
  have p := hI.parts
  have hlen := VT.szL_len v.l
  have hdl : ∀ i, VT.depthL (v.l.take i) ≤ 1000000000 := fun i => by
   have h1 := VT.depthL_le_of (v.l.take i) fun x _ => x.depth_le
   have h2 : VT.szL (v.l.take i) ≤ VT.szL v.l := by
    conv => rhs; rw [← List.take_append_drop i v.l]
    rw [VT.szL_app]; omega
   rw [VT.sz_l] at hz; omega
  have HK : Hid (∀ i (hi : i < v.l.length) W, Below w.heap.size w W → Calls Tryz.prog 38 #[(v.l[i]).agg] W fun e w' => e = .returned (.int .i64 ((v.l[i]).depth : Nat)) ∧ Below W.heap.size W w') := Lib.hid fun i hi W hW =>
   depth_n q _ W (by have := VT.kid_sz (List.getElem_mem hi); omega) (by have := VT.kid_sz (List.getElem_mem hi); omega) ((hI.kid (List.getElem_mem hi)).below hW)
  have HROW := Lib.hid p.row
  have HTK : Hid (∀ i (hi : i < v.l.length), VT.depthL (v.l.take (i + 1)) = max (VT.depthL (v.l.take i)) (v.l[i]).depth) := Lib.hid fun i hi => by rw [VT.take_snoc _ _ hi, VT.depthL_snoc]
  have HD : Hid (v.depth = if isC v.k then VT.depthL v.l + 1 else 0) := Lib.hid v.depth_eq
  have HE : Hid (v.l.take v.l.length = v.l) := Lib.hid List.take_length
  have hln : v.l.length ≤ 1000000000 := by rw [VT.sz_l] at hz; omega
  have hcn := fun W => container_any v.k (.int .u64 v.n) (.bool v.neg) v.mags (.int .u64 v.bits) (.int .i8 v.ext) (.string v.text) v.kids W
  unfold VT.agg
  unfold VT.mags VT.kids at *
  obtain ⟨dv, hdv⟩ : ∃ dv, v.depth = dv := ⟨_, rfl⟩
  rw [hdv] at HD ⊢
  clear p hI hz h hlen hdv
  generalize v.k = k at *
  generalize v.n = n at *
  generalize v.neg = ng at *
  generalize v.mag.length = ml at *
  generalize v.mA = mA at *
  generalize v.mcap = mc at *
  generalize v.bits = bs at *
  generalize v.ext = ex at *
  generalize v.text = tx at *
  generalize v.A = A at *
  generalize v.cap = cp at *
  generalize hL : v.l = l at *
  clear hL
  obtain ⟨m, hm⟩ : ∃ m, l.length = m := ⟨_, rfl⟩
  rw [hm] at hln hcn HE ⊢
  have HM := Lib.hid hm
  clear hm
  have hb0 : Below w.heap.size w (w.alloc (.cells #[.int .i8 k, .int .u64 n, .bool ng, .slice mA ml mc, .int .u64 bs, .int .i8 ex, .string tx, .slice A m cp] 31)) := (Below.refl _ _).alloc (Nat.le_refl _) _
  have hbx : (w.alloc (.cells #[.int .i8 k, .int .u64 n, .bool ng, .slice mA ml mc, .int .u64 bs, .int .i8 ex, .string tx, .slice A m cp] 31)).cell? ⟨w.heap.size, 7, none⟩ = some (.slice A m cp) := by rw [cell_of_row _ _ _ _ _ _ (heap_alloc_new w _)]; rfl
  rcases hc : isC k with _ | _
  ·rw [hc] at hcn
   have hz : dv = 0 := by rw [HD.out, hc]; rfl
   have HZ := Lib.hid hz
   clear hz hc
   go_enter Tryz.func38, Tryz.ntmps38
   go_wp2_with (go_at_call 50; refine (hcn _).mono ?_; rintro e w1 ⟨rfl, hb1⟩)
   go_ret
   exact ⟨by rw [HZ.out]; rfl, trans_b hb0 hb1⟩
  ·rw [hc] at hcn
   have HD2 : Hid (dv = VT.depthL l + 1) := Lib.hid (by rw [HD.out, hc]; rfl)
   clear hc HD
   go_enter Tryz.func38, Tryz.ntmps38
   go_upto_region 5 with (go_at_call 50; refine (hcn _).mono ?_; rintro e w1 ⟨rfl, hb1⟩; have hbx1 := keep1 hb1 hbx)
   have hB1 : Below w.heap.size w w1 := trans_b hb0 hb1
   clear hb0 hb1 hbx hbx1 hcn
   go_loopw [3, 5, 12] (fun dd _ i W => ∃ j : Nat, j ≤ m ∧ i = .int .i64 j ∧ dd = .int .i64 (VT.depthL (l.take j) : Nat) ∧ Below w.heap.size w W) (fun _ _ i _ => m - (intOf i).toNat)
   case atStart => exact ⟨0, by omega, rfl, by simp [VT.depthL], hB1⟩
   case round =>
    obtain ⟨j, hj, rfl, rfl, hB⟩ := hrel
    by_cases hlt : j < m
    ·have hjl : j < l.length := by rw [HM.out]; exact hlt
     obtain ⟨b, off, xk, xn, xg, xmA, xml, xmc, xb, xe, xt, xA, xl, xc, rfl, r0, r1, r2, r3, r4, r5, r6, r7, hC⟩ := (HROW.out.below hB).kid hjl (C := fun u => ∀ W, Below w.heap.size w W → Calls Tryz.prog 38 #[u] W fun e w' => e = .returned (.int .i64 ((l[j]).depth : Nat)) ∧ Below W.heap.size W w') (HK.out j hjl)
     have HC := Lib.hid hC
     have tk := Lib.hid (HTK.out j hjl)
     have dl1 := hdl j
     have dl2 := hdl (j + 1)
     rw [tk.out] at dl2
     generalize (l[j]).depth = dj at *
     generalize VT.depthL (l.take j) = dd at *
     clear hC hjl hdl
     have hB2 : Below w.heap.size w (wr.alloc (.cells #[.int .i8 xk, .int .u64 xn, .bool xg, .slice xmA xml xmc, .int .u64 xb, .int .i8 xe, .string xt, .slice xA xl xc] 31)) := hB.alloc hB.size _
     have hmx : max (dd : Int) (dj : Int) = ((max dd dj : Nat) : Int) := by omega
     go_wp2_with (go_at_call 38; refine (HC.out _ hB2).mono ?_; rintro e w2 ⟨rfl, hb2⟩)
     exact ⟨⟨j + 1, by omega, by go_num, by rw [tk.out]; first | rfl | (congr 1; omega), trans_b hB2 hb2⟩, by simp [intOf]; omega⟩
    ·obtain rfl : j = m := by omega
     have hdj := hdl j
     rw [HE.out] at hdj ⊢
     clear hlt
     go_wp2
     go_ret
     exact ⟨by rw [HD2.out]; rfl, hB⟩
theorem depth_any (v : VT) (w : World) (hz : v.sz ≤ 1000000000) (hI : In w v) : Calls Tryz.prog 38 #[v.agg] w fun e w' => e = .returned (.int .i64 (v.depth : Nat)) ∧ Below w.heap.size w w' := depth_n _ v w (Nat.le_refl _) hz hI
end Go.Proofs.YtcpkjmpbpmeclaaGreatDoor
namespace Go.Proofs.YtcpkjmpbpmeclaaGreatDoor
open Go.RowKit
set_option maxRecDepth 100000
set_option linter.unusedVariables false
set_option linter.unusedSimpArgs false
set_option linter.unnecessarySimpa false

set_option maxHeartbeats 1000000 in
theorem nodes_n : ∀ (q : Nat) (v : VT) (w : World), v.sz ≤ q → v.sz ≤ 1000000000 → In w v →
  Calls Tryz.prog 39 #[v.agg] w fun e w' => e = .returned (.int .i64 (v.nodes : Nat)) ∧ Below w.heap.size w w'
 | 0, v, w, h, _, _ => by have := v.sz_pos; omega
 | q + 1, v, w, h, hz, hI => by
  have p := hI.parts
  have hlen := VT.szL_len v.l
  have hdl : ∀ i, VT.nodesL (v.l.take i) ≤ 1000000000 := fun i => by
   have h1 := VT.nodesL_le_of (v.l.take i) fun x _ => x.nodes_le
   have h2 : VT.szL (v.l.take i) ≤ VT.szL v.l := by
    conv => rhs; rw [← List.take_append_drop i v.l]
    rw [VT.szL_app]; omega
   rw [VT.sz_l] at hz; omega
  have HK : Hid (∀ i (hi : i < v.l.length) W, Below w.heap.size w W → Calls Tryz.prog 39 #[(v.l[i]).agg] W fun e w' => e = .returned (.int .i64 ((v.l[i]).nodes : Nat)) ∧ Below W.heap.size W w') := Lib.hid fun i hi W hW =>
   nodes_n q _ W (by have := VT.kid_sz (List.getElem_mem hi); omega) (by have := VT.kid_sz (List.getElem_mem hi); omega) ((hI.kid (List.getElem_mem hi)).below hW)
  have HROW := Lib.hid p.row
  have HTK : Hid (∀ i (hi : i < v.l.length), VT.nodesL (v.l.take (i + 1)) = VT.nodesL (v.l.take i) + (v.l[i]).nodes) := Lib.hid fun i hi => by rw [VT.take_snoc _ _ hi, VT.nodesL_snoc]
  have HD : Hid (v.nodes = 1 + VT.nodesL v.l) := Lib.hid v.nodes_eq
  have HE : Hid (v.l.take v.l.length = v.l) := Lib.hid List.take_length
  have hln : v.l.length ≤ 1000000000 := by rw [VT.sz_l] at hz; omega
  have hdm : v.nodes ≤ 1000000000 := by have := v.nodes_le; omega
  unfold VT.agg
  unfold VT.mags VT.kids at *
  obtain ⟨dv, hdv⟩ : ∃ dv, v.nodes = dv := ⟨_, rfl⟩
  rw [hdv] at HD hdm ⊢
  clear p hI hz h hlen hdv
  generalize v.k = k at *
  generalize v.n = n at *
  generalize v.neg = ng at *
  generalize v.mag.length = ml at *
  generalize v.mA = mA at *
  generalize v.mcap = mc at *
  generalize v.bits = bs at *
  generalize v.ext = ex at *
  generalize v.text = tx at *
  generalize v.A = A at *
  generalize v.cap = cp at *
  generalize hL : v.l = l at *
  clear hL
  obtain ⟨m, hm⟩ : ∃ m, l.length = m := ⟨_, rfl⟩
  rw [hm] at hln HE ⊢
  have HM := Lib.hid hm
  clear hm
  have hb0 : Below w.heap.size w (w.alloc (.cells #[.int .i8 k, .int .u64 n, .bool ng, .slice mA ml mc, .int .u64 bs, .int .i8 ex, .string tx, .slice A m cp] 31)) := (Below.refl _ _).alloc (Nat.le_refl _) _
  have hbx : (w.alloc (.cells #[.int .i8 k, .int .u64 n, .bool ng, .slice mA ml mc, .int .u64 bs, .int .i8 ex, .string tx, .slice A m cp] 31)).cell? ⟨w.heap.size, 7, none⟩ = some (.slice A m cp) := by rw [cell_of_row _ _ _ _ _ _ (heap_alloc_new w _)]; rfl
  have HD2 : Hid (dv = 1 + VT.nodesL l) := HD
  clear HD
  go_enter Tryz.func39, Tryz.ntmps39
  go_upto_region 3 with fail
  show Code.wp _ _ _ _ (w.alloc (.cells #[.int .i8 k, .int .u64 n, .bool ng, .slice mA ml mc, .int .u64 bs, .int .i8 ex, .string tx, .slice A m cp] 31))
  generalize (w.alloc (.cells #[.int .i8 k, .int .u64 n, .bool ng, .slice mA ml mc, .int .u64 bs, .int .i8 ex, .string tx, .slice A m cp] 31)) = w1 at hb0 hbx ⊢
  have hbx1 := hbx
  have hB1 := hb0
  clear hb0 hbx
  go_loopw [3, 5, 9] (fun dd _ i W => ∃ j : Nat, j ≤ m ∧ i = .int .i64 j ∧ dd = .int .i64 ((1 + VT.nodesL (l.take j) : Nat) : Int) ∧ Below w.heap.size w W ∧ W.cell? ⟨w.heap.size, 7, none⟩ = some (.slice A m cp)) (fun dd _ i _ => m - (intOf i).toNat)
  case atStart => exact ⟨0, by omega, rfl, by simp [VT.nodesL], hB1, hbx1⟩
  case round =>
   obtain ⟨j, hj, rfl, rfl, hB, hx⟩ := hrel
   by_cases hlt : j < m
   ·have hjl : j < l.length := by rw [HM.out]; exact hlt
    have hbl := World.block_lt_of_cell? _ _ hx
    obtain ⟨b, off, xk, xn, xg, xmA, xml, xmc, xb, xe, xt, xA, xl, xc, rfl, r0, r1, r2, r3, r4, r5, r6, r7, hC⟩ := (HROW.out.below hB).kid hjl (C := fun u => ∀ W, Below w.heap.size w W → Calls Tryz.prog 39 #[u] W fun e w' => e = .returned (.int .i64 ((l[j]).nodes : Nat)) ∧ Below W.heap.size W w') (HK.out j hjl)
    have HC := Lib.hid hC
    have tk := Lib.hid (HTK.out j hjl)
    have dl1 := hdl j
    have dl2 := hdl (j + 1)
    rw [tk.out] at dl2
    generalize (l[j]).nodes = dj at *
    generalize VT.nodesL (l.take j) = dd at *
    clear hC hjl hdl
    have hB2 : Below w.heap.size w (wr.alloc (.cells #[.int .i8 xk, .int .u64 xn, .bool xg, .slice xmA xml xmc, .int .u64 xb, .int .i8 xe, .string xt, .slice xA xl xc] 31)) := hB.alloc hB.size _
    have hx2 := keep1 ((Below.refl _ _).alloc (Nat.le_refl _) (.cells #[.int .i8 xk, .int .u64 xn, .bool xg, .slice xmA xml xmc, .int .u64 xb, .int .i8 xe, .string xt, .slice xA xl xc] 31)) hx
    have hmx : max (dd : Int) (dj : Int) = ((max dd dj : Nat) : Int) := by omega
    go_wp2_with (go_at_call 39; refine (HC.out _ hB2).mono ?_; rintro e w2 ⟨rfl, hb2⟩)
    exact ⟨⟨j + 1, by omega, by go_num, by rw [tk.out]; congr 1; omega, trans_b hB2 hb2, keep1 hb2 hx2⟩, by simp [intOf]; omega⟩
   ·obtain rfl : j = m := by omega
    have hdj := hdl j
    rw [HE.out] at hdj ⊢
    clear hlt
    go_wp2
    go_ret
    exact ⟨by rw [HD2.out]; rfl, hB⟩
theorem nodes_any (v : VT) (w : World) (hz : v.sz ≤ 1000000000) (hI : In w v) : Calls Tryz.prog 39 #[v.agg] w fun e w' => e = .returned (.int .i64 (v.nodes : Nat)) ∧ Below w.heap.size w w' := nodes_n _ v w (Nat.le_refl _) hz hI
set_option maxHeartbeats 1000000 in
theorem refDepth_n : ∀ (q : Nat) (v : VT) (w : World), v.sz ≤ q → v.sz ≤ 1000000000 → In w v →
  Calls Tryz.prog 70 #[v.agg] w fun e w' => e = .returned (.int .i64 (v.depth : Nat)) ∧ Below w.heap.size w w'
 | 0, v, w, h, _, _ => by have := v.sz_pos; omega
 | q + 1, v, w, h, hz, hI => by
  have p := hI.parts
  have hlen := VT.szL_len v.l
  have hdl : ∀ i, VT.depthL (v.l.take i) ≤ 1000000000 := fun i => by
   have h1 := VT.depthL_le_of (v.l.take i) fun x _ => x.depth_le
   have h2 : VT.szL (v.l.take i) ≤ VT.szL v.l := by
    conv => rhs; rw [← List.take_append_drop i v.l]
    rw [VT.szL_app]; omega
   rw [VT.sz_l] at hz; omega
  have HK : Hid (∀ i (hi : i < v.l.length) W, Below w.heap.size w W → Calls Tryz.prog 70 #[(v.l[i]).agg] W fun e w' => e = .returned (.int .i64 ((v.l[i]).depth : Nat)) ∧ Below W.heap.size W w') := Lib.hid fun i hi W hW =>
   refDepth_n q _ W (by have := VT.kid_sz (List.getElem_mem hi); omega) (by have := VT.kid_sz (List.getElem_mem hi); omega) ((hI.kid (List.getElem_mem hi)).below hW)
  have HROW := Lib.hid p.row
  have HTK : Hid (∀ i (hi : i < v.l.length), VT.depthL (v.l.take (i + 1)) = max (VT.depthL (v.l.take i)) (v.l[i]).depth) := Lib.hid fun i hi => by rw [VT.take_snoc _ _ hi, VT.depthL_snoc]
  have HD : Hid (v.depth = if isC v.k then VT.depthL v.l + 1 else 0) := Lib.hid v.depth_eq
  have HE : Hid (v.l.take v.l.length = v.l) := Lib.hid List.take_length
  have hln : v.l.length ≤ 1000000000 := by rw [VT.sz_l] at hz; omega
  have hdm : v.depth ≤ 1000000000 := by have := v.depth_le; omega
  have hcn := fun W => refContainer_any v.k (.int .u64 v.n) (.bool v.neg) v.mags (.int .u64 v.bits) (.int .i8 v.ext) (.string v.text) v.kids W
  unfold VT.agg
  unfold VT.mags VT.kids at *
  obtain ⟨dv, hdv⟩ : ∃ dv, v.depth = dv := ⟨_, rfl⟩
  rw [hdv] at HD hdm ⊢
  clear p hI hz h hlen hdv
  generalize v.k = k at *
  generalize v.n = n at *
  generalize v.neg = ng at *
  generalize v.mag.length = ml at *
  generalize v.mA = mA at *
  generalize v.mcap = mc at *
  generalize v.bits = bs at *
  generalize v.ext = ex at *
  generalize v.text = tx at *
  generalize v.A = A at *
  generalize v.cap = cp at *
  generalize hL : v.l = l at *
  clear hL
  obtain ⟨m, hm⟩ : ∃ m, l.length = m := ⟨_, rfl⟩
  rw [hm] at hln hcn HE ⊢
  have HM := Lib.hid hm
  clear hm
  have hb0 : Below w.heap.size w (w.alloc (.cells #[.int .i8 k, .int .u64 n, .bool ng, .slice mA ml mc, .int .u64 bs, .int .i8 ex, .string tx, .slice A m cp] 31)) := (Below.refl _ _).alloc (Nat.le_refl _) _
  have hbx : (w.alloc (.cells #[.int .i8 k, .int .u64 n, .bool ng, .slice mA ml mc, .int .u64 bs, .int .i8 ex, .string tx, .slice A m cp] 31)).cell? ⟨w.heap.size, 7, none⟩ = some (.slice A m cp) := by rw [cell_of_row _ _ _ _ _ _ (heap_alloc_new w _)]; rfl
  rcases hc : isC k with _ | _
  ·rw [hc] at hcn
   have hz : dv = 0 := by rw [HD.out, hc]; rfl
   have HZ := Lib.hid hz
   clear hz hc
   go_enter Tryz.func70, Tryz.ntmps70
   go_wp2_with (go_at_call 144; refine (hcn _).mono ?_; rintro e w1 ⟨rfl, hb1⟩)
   go_ret
   exact ⟨by rw [HZ.out]; rfl, trans_b hb0 hb1⟩
  ·rw [hc] at hcn
   have HD2 : Hid (dv = VT.depthL l + 1) := Lib.hid (by rw [HD.out, hc]; rfl)
   clear hc HD
   go_enter Tryz.func70, Tryz.ntmps70
   go_upto_region 5 with (go_at_call 144; refine (hcn _).mono ?_; rintro e w1 ⟨rfl, hb1⟩; have hbx1 := keep1 hb1 hbx)
   have hB1 : Below w.heap.size w w1 := trans_b hb0 hb1
   clear hb0 hb1 hbx hcn
   go_loopw [3, 4] (fun dd i W => ∃ j : Nat, j ≤ m ∧ i = .int .i64 j ∧ dd = .int .i64 ((VT.depthL (l.take j) : Nat) : Int) ∧ Below w.heap.size w W ∧ W.cell? ⟨w.heap.size, 7, none⟩ = some (.slice A m cp)) (fun dd i _ => m - (intOf i).toNat)
   case atStart => exact ⟨0, by omega, rfl, by simp [VT.depthL], hB1, hbx1⟩
   case round =>
    obtain ⟨j, hj, rfl, rfl, hB, hx⟩ := hrel
    by_cases hlt : j < m
    ·have hjl : j < l.length := by rw [HM.out]; exact hlt
     have hbl := World.block_lt_of_cell? _ _ hx
     obtain ⟨b, off, xk, xn, xg, xmA, xml, xmc, xb, xe, xt, xA, xl, xc, rfl, r0, r1, r2, r3, r4, r5, r6, r7, hC⟩ := (HROW.out.below hB).kid hjl (C := fun u => ∀ W, Below w.heap.size w W → Calls Tryz.prog 70 #[u] W fun e w' => e = .returned (.int .i64 ((l[j]).depth : Nat)) ∧ Below W.heap.size W w') (HK.out j hjl)
     have HC := Lib.hid hC
     have tk := Lib.hid (HTK.out j hjl)
     have dl1 := hdl j
     have dl2 := hdl (j + 1)
     rw [tk.out] at dl2
     generalize (l[j]).depth = dj at *
     generalize VT.depthL (l.take j) = dd at *
     clear hC hjl hdl
     have hmx : max (dd : Int) (dj : Int) = ((max dd dj : Nat) : Int) := by omega
     go_wp2_with (go_at_call 70; refine (HC.out _ hB).mono ?_; rintro e w2 ⟨rfl, hb2⟩)
     exact ⟨⟨j + 1, by omega, by go_num, by rw [tk.out]; congr 1; omega, trans_b hB hb2, keep1 hb2 hx⟩, by simp [intOf]; omega⟩
    ·obtain rfl : j = m := by omega
     have hdj := hdl j
     rw [HE.out] at hdj ⊢
     clear hlt
     go_wp2
     go_ret
     exact ⟨by rw [HD2.out]; rfl, hB⟩
theorem refDepth_any (v : VT) (w : World) (hz : v.sz ≤ 1000000000) (hI : In w v) : Calls Tryz.prog 70 #[v.agg] w fun e w' => e = .returned (.int .i64 (v.depth : Nat)) ∧ Below w.heap.size w w' := refDepth_n _ v w (Nat.le_refl _) hz hI
set_option maxHeartbeats 1000000 in
theorem refNodes_n : ∀ (q : Nat) (v : VT) (w : World), v.sz ≤ q → v.sz ≤ 1000000000 → In w v →
  Calls Tryz.prog 71 #[v.agg] w fun e w' => e = .returned (.int .i64 (v.nodes : Nat)) ∧ Below w.heap.size w w'
 | 0, v, w, h, _, _ => by have := v.sz_pos; omega
 | q + 1, v, w, h, hz, hI => by
  have p := hI.parts
  have hlen := VT.szL_len v.l
  have hdl : ∀ i, VT.nodesL (v.l.take i) ≤ 1000000000 := fun i => by
   have h1 := VT.nodesL_le_of (v.l.take i) fun x _ => x.nodes_le
   have h2 : VT.szL (v.l.take i) ≤ VT.szL v.l := by
    conv => rhs; rw [← List.take_append_drop i v.l]
    rw [VT.szL_app]; omega
   rw [VT.sz_l] at hz; omega
  have HK : Hid (∀ i (hi : i < v.l.length) W, Below w.heap.size w W → Calls Tryz.prog 71 #[(v.l[i]).agg] W fun e w' => e = .returned (.int .i64 ((v.l[i]).nodes : Nat)) ∧ Below W.heap.size W w') := Lib.hid fun i hi W hW =>
   refNodes_n q _ W (by have := VT.kid_sz (List.getElem_mem hi); omega) (by have := VT.kid_sz (List.getElem_mem hi); omega) ((hI.kid (List.getElem_mem hi)).below hW)
  have HROW := Lib.hid p.row
  have HTK : Hid (∀ i (hi : i < v.l.length), VT.nodesL (v.l.take (i + 1)) = VT.nodesL (v.l.take i) + (v.l[i]).nodes) := Lib.hid fun i hi => by rw [VT.take_snoc _ _ hi, VT.nodesL_snoc]
  have HD : Hid (v.nodes = 1 + VT.nodesL v.l) := Lib.hid v.nodes_eq
  have HE : Hid (v.l.take v.l.length = v.l) := Lib.hid List.take_length
  have hln : v.l.length ≤ 1000000000 := by rw [VT.sz_l] at hz; omega
  have hdm : v.nodes ≤ 1000000000 := by have := v.nodes_le; omega
  unfold VT.agg
  unfold VT.mags VT.kids at *
  obtain ⟨dv, hdv⟩ : ∃ dv, v.nodes = dv := ⟨_, rfl⟩
  rw [hdv] at HD hdm ⊢
  clear p hI hz h hlen hdv
  generalize v.k = k at *
  generalize v.n = n at *
  generalize v.neg = ng at *
  generalize v.mag.length = ml at *
  generalize v.mA = mA at *
  generalize v.mcap = mc at *
  generalize v.bits = bs at *
  generalize v.ext = ex at *
  generalize v.text = tx at *
  generalize v.A = A at *
  generalize v.cap = cp at *
  generalize hL : v.l = l at *
  clear hL
  obtain ⟨m, hm⟩ : ∃ m, l.length = m := ⟨_, rfl⟩
  rw [hm] at hln HE ⊢
  have HM := Lib.hid hm
  clear hm
  have hb0 : Below w.heap.size w (w.alloc (.cells #[.int .i8 k, .int .u64 n, .bool ng, .slice mA ml mc, .int .u64 bs, .int .i8 ex, .string tx, .slice A m cp] 31)) := (Below.refl _ _).alloc (Nat.le_refl _) _
  have hbx : (w.alloc (.cells #[.int .i8 k, .int .u64 n, .bool ng, .slice mA ml mc, .int .u64 bs, .int .i8 ex, .string tx, .slice A m cp] 31)).cell? ⟨w.heap.size, 7, none⟩ = some (.slice A m cp) := by rw [cell_of_row _ _ _ _ _ _ (heap_alloc_new w _)]; rfl
  have HD2 : Hid (dv = 1 + VT.nodesL l) := HD
  clear HD
  go_enter Tryz.func71, Tryz.ntmps71
  go_upto_region 3 with fail
  show Code.wp _ _ _ _ (w.alloc (.cells #[.int .i8 k, .int .u64 n, .bool ng, .slice mA ml mc, .int .u64 bs, .int .i8 ex, .string tx, .slice A m cp] 31))
  generalize (w.alloc (.cells #[.int .i8 k, .int .u64 n, .bool ng, .slice mA ml mc, .int .u64 bs, .int .i8 ex, .string tx, .slice A m cp] 31)) = w1 at hb0 hbx ⊢
  have hbx1 := hbx
  have hB1 := hb0
  clear hb0 hbx
  go_loopw [3, 4] (fun dd i W => ∃ j : Nat, j ≤ m ∧ i = .int .i64 j ∧ dd = .int .i64 ((1 + VT.nodesL (l.take j) : Nat) : Int) ∧ Below w.heap.size w W ∧ W.cell? ⟨w.heap.size, 7, none⟩ = some (.slice A m cp)) (fun dd i _ => m - (intOf i).toNat)
  case atStart => exact ⟨0, by omega, rfl, by simp [VT.nodesL], hB1, hbx1⟩
  case round =>
   obtain ⟨j, hj, rfl, rfl, hB, hx⟩ := hrel
   by_cases hlt : j < m
   ·have hjl : j < l.length := by rw [HM.out]; exact hlt
    have hbl := World.block_lt_of_cell? _ _ hx
    obtain ⟨b, off, xk, xn, xg, xmA, xml, xmc, xb, xe, xt, xA, xl, xc, rfl, r0, r1, r2, r3, r4, r5, r6, r7, hC⟩ := (HROW.out.below hB).kid hjl (C := fun u => ∀ W, Below w.heap.size w W → Calls Tryz.prog 71 #[u] W fun e w' => e = .returned (.int .i64 ((l[j]).nodes : Nat)) ∧ Below W.heap.size W w') (HK.out j hjl)
    have HC := Lib.hid hC
    have tk := Lib.hid (HTK.out j hjl)
    have dl1 := hdl j
    have dl2 := hdl (j + 1)
    rw [tk.out] at dl2
    generalize (l[j]).nodes = dj at *
    generalize VT.nodesL (l.take j) = dd at *
    clear hC hjl hdl
    have hmx : max (dd : Int) (dj : Int) = ((max dd dj : Nat) : Int) := by omega
    go_wp2_with (go_at_call 71; refine (HC.out _ hB).mono ?_; rintro e w2 ⟨rfl, hb2⟩)
    exact ⟨⟨j + 1, by omega, by go_num, by rw [tk.out]; congr 1; omega, trans_b hB hb2, keep1 hb2 hx⟩, by simp [intOf]; omega⟩
   ·obtain rfl : j = m := by omega
    have hdj := hdl j
    rw [HE.out] at hdj ⊢
    clear hlt
    go_wp2
    go_ret
    exact ⟨by rw [HD2.out]; rfl, hB⟩
theorem refNodes_any (v : VT) (w : World) (hz : v.sz ≤ 1000000000) (hI : In w v) : Calls Tryz.prog 71 #[v.agg] w fun e w' => e = .returned (.int .i64 (v.nodes : Nat)) ∧ Below w.heap.size w w' := refNodes_n _ v w (Nat.le_refl _) hz hI
end Go.Proofs.YtcpkjmpbpmeclaaGreatDoor
