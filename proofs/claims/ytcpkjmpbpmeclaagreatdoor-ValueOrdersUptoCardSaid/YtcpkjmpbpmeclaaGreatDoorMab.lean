/- Small laws over any program: lists of numbers in memory, an append of one element, strings made of bytes, builders, draws. -/
import Derived.Handy
import Derived.BigQuiet
import Derived.Lib.Hide
import Derived.Lib.Builder
import Derived.Laws.BytesArg
import Derived.Laws.RangeString
import Derived.Laws.MakeOwn
import Derived.Laws.AppendOwn
import Derived.Laws.BitsLemmas
import Derived.Laws.BitsAllLaws
import Derived.OwnWalk
namespace Go.Proofs.YtcpkjmpbpmeclaaGreatDoor
open Go.RowKit
set_option maxRecDepth 100000
set_option linter.unusedVariables false

def numsK (k : IntKind) (xs : List Int) : List Value := xs.map (Value.int k)
theorem numsK_length (k : IntKind) (xs : List Int) : (numsK k xs).length = xs.length := by simp [numsK]
theorem numsK_append (k : IntKind) (xs ys : List Int) : numsK k (xs ++ ys) = numsK k xs ++ numsK k ys := by simp [numsK]

def Bytes (xs : List Int) : Prop := ∀ x ∈ xs, 0 ≤ x ∧ x ≤ 255
theorem Bytes.nil : Bytes [] := fun _ h => by cases h
theorem Bytes.app {xs ys : List Int} (h : Bytes xs) (k : Bytes ys) : Bytes (xs ++ ys) := fun x hx => by
 rcases List.mem_append.1 hx with hx | hx
 ·exact h x hx
 ·exact k x hx
theorem Bytes.one {x : Int} (h0 : 0 ≤ x) (h1 : x ≤ 255) : Bytes [x] := fun y hy => by simp at hy; subst hy; exact ⟨h0, h1⟩
theorem Bytes.cons {x : Int} {xs : List Int} (h0 : 0 ≤ x) (h1 : x ≤ 255) (h : Bytes xs) : Bytes (x :: xs) := Bytes.app (Bytes.one h0 h1) h
theorem Bytes.at {xs : List Int} (h : Bytes xs) (k : Nat) : 0 ≤ xs.getD k 0 ∧ xs.getD k 0 ≤ 255 := by
 by_cases hk : k < xs.length
 ·rw [List.getD_eq_getElem?_getD, List.getElem?_eq_getElem hk]
  exact h _ (List.getElem_mem hk)
 ·rw [List.getD_eq_getElem?_getD, List.getElem?_eq_none (by omega)]
  simp

/-- What a walk reads of a list of numbers: its elements lie in a row. -/
def RK (w : World) (k : IntKind) (A : Option Addr) (xs : List Int) : Prop :=
 xs = [] ∨ ∃ b off, A = some ⟨b, off, none⟩ ∧ ∀ j, j < xs.length → w.cell? ⟨b, off + j, none⟩ = some (.int k (xs.getD j 0))

theorem RK.below {w w1 : World} {k : IntKind} {A : Option Addr} {xs : List Int} (h : RK w k A xs) (hb : Below w.heap.size w w1) : RK w1 k A xs := by
 rcases h with h | ⟨b, off, e, h⟩
 ·exact .inl h
 ·exact .inr ⟨b, off, e, fun j hj => (hb.cell (World.block_lt_of_cell? w _ (h j hj))).trans (h j hj)⟩

theorem take_snoc (xs : List Int) (k : Nat) (h : k < xs.length) : xs.take (k + 1) = xs.take k ++ [xs.getD k 0] := by
 rw [List.take_succ_eq_append_getElem h, List.getD_eq_getElem?_getD, List.getElem?_eq_getElem h]
 rfl

theorem add_plain (g j : Nat) : (⟨g, 0, none⟩ : Addr).add j = ⟨g, j, none⟩ := by unfold Addr.add; split <;> simp_all

theorem below_drewN (w : World) (n : Nat) : Below w.heap.size w (w.drewN n) := ⟨rfl, rfl, rfl, Nat.le_refl _, fun _ _ => rfl⟩
theorem below_then {B : Nat} {w w1 w2 : World} (h : Below B w w1) (hB : B ≤ w1.heap.size) (k : Below w1.heap.size w1 w2) : Below B w w2 := h.trans (k.mono hB)
theorem below_on {w w1 w2 : World} (h : Below w.heap.size w w1) (k : Below w1.heap.size w1 w2) : Below w.heap.size w w2 := h.trans (k.mono h.size)
theorem quiet_add_same {P : Program} {f : FuncId} {args : Array Value} {w : World} {a n : Nat} {v : Value}
  (h : Calls P f args (w.drewN (a + n)) fun e w' => e = .returned v ∧ w' = w.drewN (a + n)) :
  Calls P f args (w.drewN (a + n)) fun e w'' => e = .returned v ∧ ∃ m, w'' = w.drewN (a + m) :=
 h.mono fun _ _ ⟨he, hm⟩ => ⟨he, n, hm⟩
theorem iter_below (w : World) (s : ByteArray) (pos : Nat) : Below w.heap.size w (w.iter s pos) := (Below.refl _ _).alloc (Nat.le_refl _) _

theorem strOfNums_app (xs ys : List Int) : strOfNums xs ++ strOfNums ys = strOfNums (xs ++ ys) := by
 apply ByteArray.ext
 simp [strOfNums]
theorem size_one (a : Int) : (strOfNums [a]).size = 1 := by simp [strOfNums_size]
theorem strOfNums_inj {xs ys : List Int} (hx : Bytes xs) (hy : Bytes ys) (h : strOfNums xs = strOfNums ys) : xs = ys := by
 have h1 : xs.map (fun n => UInt8.ofNat n.toNat) = ys.map fun n => UInt8.ofNat n.toNat := by
  have := congrArg (fun s => s.data.toList) h
  simpa [strOfNums] using this
 have h2 : (xs.map fun n => UInt8.ofNat n.toNat).map (fun u => (u.toNat : Int)) = (ys.map fun n => UInt8.ofNat n.toNat).map fun u => (u.toNat : Int) := by rw [h1]
 have back : ∀ zs, Bytes zs → (zs.map fun n => UInt8.ofNat n.toNat).map (fun u => (u.toNat : Int)) = zs := by
  intro zs hz
  rw [List.map_map]
  conv => rhs; rw [← List.map_id zs]
  apply List.map_congr_left
  intro x hx
  have := hz x hx
  simp
  omega
 rw [back xs hx, back ys hy] at h2
 exact h2
/-- The bytes of a string, as numbers. -/
def ints (s : ByteArray) : List Int := s.data.toList.map fun u => (u.toNat : Int)
theorem ints_bytes (s : ByteArray) : Bytes (ints s) := fun x hx => by
 obtain ⟨u, _, rfl⟩ := List.mem_map.1 hx
 have := u.toNat_lt
 omega
theorem ints_length (s : ByteArray) : (ints s).length = s.size := by
 unfold ints
 rw [List.length_map, Array.length_toList]
 rfl
theorem strOfNums_ints (s : ByteArray) : strOfNums (ints s) = s := by
 apply ByteArray.ext
 apply Array.ext'
 simp only [strOfNums, ints, List.map_map]
 conv => rhs; rw [← List.map_id s.data.toList]
 apply List.map_congr_left
 intro u _
 simp
theorem ints_strOfNums {xs : List Int} (h : Bytes xs) : ints (strOfNums xs) = xs :=
 strOfNums_inj (ints_bytes _) h (strOfNums_ints _)
theorem ints_at (s : ByteArray) (k : Nat) (h : k < s.size) : (ints s).getD k 0 = ((s[k]'h).toNat : Int) := by
 have h2 : k < s.data.toList.length := by rw [Array.length_toList]; exact h
 simp only [ints, List.getD_eq_getElem?_getD, List.getElem?_map, List.getElem?_eq_getElem h2]
 rfl

theorem conv_RK {P : Program} {src dst e : TypeId} (hs : P.underlying src = some (.slice e)) (he : P.underlying e = some (.int .u8)) (hd : P.underlying dst = some .string)
  {W : World} {A : Option Addr} {xs : List Int} (c : Nat) (h : RK W .u8 A xs) (hA : xs = [] → A = none ∨ ∃ b off, A = some ⟨b, off, none⟩) :
  (convert src dst (.slice A xs.length c)).run P W = .ok (.string (strOfNums xs)) W := by
 rcases h with rfl | ⟨b, off, rfl, h⟩
 ·rcases hA rfl with rfl | ⟨b, off, rfl⟩
  ·exact run_convert_bytes_nil W src e hs he 0 c dst hd
  ·exact run_convert_bytes_arg W src e hs he b off 0 c [] rfl (fun i hi => by omega) dst hd
 ·exact run_convert_bytes_arg W src e hs he b off _ c xs rfl h dst hd

/-! ### A row of the call's own -/
def Own (W : World) (B : Nat) (e : TypeId) (k : IntKind) (v : Value) (xs : List Int) : Prop := W.ownsRow B e 1 v xs.length (numsK k xs)
theorem Own.nil (W : World) (B : Nat) (e : TypeId) (k : IntKind) : Own W B e k (.slice none 0 0) [] := ⟨by simp [numsK], .inl ⟨rfl, rfl⟩⟩
theorem Own.slice {W : World} {B : Nat} {e : TypeId} {k : IntKind} {v : Value} {xs : List Int} (h : Own W B e k v xs) :
  ∃ A c, v = .slice A xs.length c ∧ RK W k A xs ∧ xs.length ≤ c ∧ (A = none ∨ ∃ b off, A = some ⟨b, off, none⟩) := by
 rcases h.2 with ⟨rfl, h0⟩ | ⟨g, cap, cur, rfl, hb, hh, h1, h2, h3⟩
 ·have : xs = [] := List.eq_nil_of_length_eq_zero h0
  subst this
  exact ⟨none, 0, rfl, .inl rfl, by simp, .inl rfl⟩
 ·refine ⟨some ⟨g, 0, none⟩, cap, rfl, .inr ⟨g, 0, rfl, fun j hj => ?_⟩, h1, .inr ⟨g, 0, rfl⟩⟩
  have hc := h.cells (g := g) rfl j (.int k (xs.getD j 0)) (by simp [numsK, List.getElem?_eq_getElem hj, List.getD_eq_getElem?_getD])
  rw [add_plain] at hc
  simpa using hc
theorem Own.kept {W W1 : World} {B : Nat} {e : TypeId} {k : IntKind} {v : Value} {xs : List Int} (h : Own W B e k v xs) (hb : Below W.heap.size W W1) : Own W1 B e k v xs :=
 World.ownsRow.kept h (row := none) ⟨hb.os, hb.tape, hb.output, hb.size, fun i hi _ => hb.block i hi⟩ (by cases v.ownBlock <;> simp)
theorem Own.lt {W : World} {B : Nat} {e : TypeId} {k : IntKind} {v : Value} {xs : List Int} (h : Own W B e k v xs) (j : Nat) (hj : v.ownBlock = some j) : B ≤ j := (World.ownsRow.lt h j hj).1

section
variable {P : Program} {ops : Array Oper} {rest : List Oper} {o : Oper} {a : Act} {Q : Exit → Act → World → Prop}
/-- append(v, y), v a row of the call's own; 'w0' is the world in which the call began. -/
theorem app1 {w0 W : World} (B : Nat) (hgd : o.guard = none) (s x : Operand) (t e : TypeId) (k : IntKind) (bytes : Nat)
  (ho : o.op = .call { callee := .builtin .append, args := #[s, x], argTypes := #[t, t] })
  (ht : P.underlying t = some (.slice e)) (hinfo : (P.info? e).map (fun i => (i.zero, i.size, i.bytes)) = some (some (.int k 0), 1, bytes))
  (v : Value) (xs : List Int) (y : Int) (hs : a.eval s = v) (hx : a.eval x = .slice (some ⟨W.heap.size, 0, none⟩) 1 1)
  (HO : Own W B e k v xs) (HB : Below B w0 W) (hbase : B ≤ W.heap.size) (hl63 : xs.length + 1 ≤ 9223372036854775807) (hl : (xs.length + 1) * bytes ≤ 140737488355328)
  (h : ∀ v1 w1, Own w1 B e k v1 (xs ++ [y]) → Below B w0 w1 → W.grownBy w1 v.ownBlock → wpList P ops Q rest (a.put o.dst v1) w1) :
  wpList P ops Q (o :: rest) a (W.alloc (.cells #[.int k y] e)) := by
 obtain ⟨i0, hi, hzz⟩ := Option.map_eq_some_iff.1 hinfo
 simp only [Prod.mk.injEq] at hzz
 obtain ⟨hz0, hz1, hz2⟩ := hzz
 refine wpList_append_own _ hgd s x t ho B e i0 (.int k 0) 1 bytes ht hi hz0 hz1 hz2 rfl (by omega) v xs.length (numsK k xs) hs (World.ownsRow.alloc HO _) ⟨W.heap.size, 0, none⟩ 1 1 [.int k y] hx rfl
  (fun j u hj => by
   match j, hj with
   | 0, hj => simp at hj; subst hj; rw [add_plain]; simp) (fun u hu => by simp at hu; subst hu; rfl) (by simp only [maxLen]; omega) hl (by simp; omega) ?_
 intro v1 w1 hown hg _
 refine h v1 w1 (by unfold Own; rw [numsK_append, List.length_append]; exact hown) ((HB.alloc hbase _).grown hg (by simp; omega) (fun j hj => Own.lt HO j hj)) ?_
 exact ⟨hg.os, hg.tape, hg.output, Nat.le_trans (by simp) hg.size, fun i hi hne => (hg.block i (by simp; omega) hne).trans (Below.heap_alloc W _ i hi)⟩
end

/-! ### Builders -/
theorem bld_kept {T e B b : Nat} {bs : List Value} {w w1 : World} (h : Lib.IsBuilder T e B b bs w) (hb : Below w.heap.size w w1) : Lib.IsBuilder T e B b bs w1 := by
 have go : ∀ p, Lib.BuilderAt T e B b p bs w → Lib.BuilderAt T e B b p bs w1 := by
  intro p h
  have hlt := h.lt
  obtain ⟨hB, v, hh, ho, hn⟩ := h
  exact ⟨hB, v, (hb.block b hlt).trans hh, ho.kept (row := none) ⟨hb.os, hb.tape, hb.output, hb.size, fun i hi _ => hb.block i hi⟩ (by cases v.ownBlock <;> simp), hn⟩
 rcases h with h | h
 ·exact .inl (go _ h)
 ·exact .inr (go _ h)
theorem bld_new (T e : Nat) (w : World) : Lib.IsBuilder T e w.heap.size w.heap.size [] (w.alloc (.cells #[.pointer none, .slice none 0 0] T)) := by
 refine .inl ⟨Nat.le_refl _, .slice none 0 0, ?_, ⟨by simp, .inl ⟨rfl, rfl⟩⟩, by simp [Value.ownBlock]⟩
 exact Array.getElem?_push_size
end Go.Proofs.YtcpkjmpbpmeclaaGreatDoor
