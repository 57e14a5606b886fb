/- Xda · Xdb · Xea: merged. -/
import Derived.Test.YtcpkjmpbpmeclaaGreatDoorMay
import Derived.Test.YtcpkjmpbpmeclaaGreatDoorMaj
import Derived.Deep.AppendLies
import Derived.Test.YtcpkjmpbpmeclaaGreatDoorMat
namespace Go.Proofs.YtcpkjmpbpmeclaaGreatDoor
open Go.RowKit
set_option maxRecDepth 100000
set_option linter.unusedVariables false
set_option linter.unusedSimpArgs false
set_option linter.unnecessarySimpa false

/-- The blocks of pairs' own. -/
def PL (L : List ELp) : List Nat := L.flatMap fun x => x.key.bls ++ x.val.bls
theorem PL_app (L M : List ELp) : PL (L ++ M) = PL L ++ PL M := by simp [PL]
theorem PL_mem {L : List ELp} {x : ELp} {b : Nat} (hx : x ∈ L) (hb : b ∈ x.key.bls ∨ b ∈ x.val.bls) : b ∈ PL L := List.mem_flatMap.2 ⟨x, hx, List.mem_append.2 hb⟩
theorem PL_of {L : List ELp} {b : Nat} (h : b ∈ PL L) : ∃ x ∈ L, b ∈ x.key.bls ∨ b ∈ x.val.bls := by
 obtain ⟨x, hx, hb⟩ := List.mem_flatMap.1 h
 exact ⟨x, hx, List.mem_append.1 hb⟩
/-- Pairs whose values are the call's own, each list in a block of its own. -/
structure MineP (base : Nat) (W : World) (L : List ELp) : Prop where
 m : ∀ x ∈ L, Mine base W x.key ∧ Mine base W x.val
 nd : (PL L).Nodup
theorem MineP.rg {base : Nat} {W : World} {L : List ELp} (h : MineP base W L) {b : Nat} (hb : b ∈ PL L) : base ≤ b ∧ b < W.heap.size := by
 obtain ⟨x, hx, hb | hb⟩ := PL_of hb
 ·exact (h.m x hx).1.rg b hb
 ·exact (h.m x hx).2.rg b hb
theorem MineP.keepB {base : Nat} {W W' : World} {L : List ELp} (h : MineP base W L) (hs : W.heap.size ≤ W'.heap.size) (hk : ∀ b ∈ PL L, W'.heap[b]? = W.heap[b]?) : MineP base W' L :=
 ⟨fun x hx => ⟨(h.m x hx).1.keepB (Nat.le_refl _) hs fun b hb => hk b (PL_mem hx (.inl hb)), (h.m x hx).2.keepB (Nat.le_refl _) hs fun b hb => hk b (PL_mem hx (.inr hb))⟩, h.nd⟩
theorem MineP.below {base : Nat} {W W' : World} {L : List ELp} (h : MineP base W L) (hb : Below W.heap.size W W') : MineP base W' L := h.keepB hb.size fun b hm => hb.block b (h.rg hm).2
theorem MineP.perm {base : Nat} {W : World} {L R : List ELp} (h : MineP base W L) (hp : R.Perm L) : MineP base W R :=
 ⟨fun x hx => h.m x (hp.mem_iff.1 hx), (hp.flatMap_right _).nodup_iff.2 h.nd⟩
theorem MineP.snoc {base : Nat} {W w1 w2 : World} {L : List ELp} {x : ELp} (h : MineP base W L) (hbs : base ≤ W.heap.size) (b1 : Below W.heap.size W w1) (m1 : Mine W.heap.size w1 x.key) (b2 : Below w1.heap.size w1 w2) (m2 : Mine w1.heap.size w2 x.val) : MineP base w2 (L ++ [x]) := by
 have hL := (h.below b1).below b2
 have s1 := b1.size
 have s2 := b2.size
 have k1 := m1.keep b2
 refine ⟨fun y hy => ?_, ?_⟩
 ·rcases List.mem_append.1 hy with hy | hy
  ·exact hL.m y hy
  ·obtain rfl : y = x := by simpa using hy
   exact ⟨k1.low hbs, m2.low (by omega)⟩
 ·rw [PL_app]
  refine List.nodup_append.2 ⟨h.nd, ?_, fun b hb c hc e => ?_⟩
  ·have e : PL [x] = x.key.bls ++ x.val.bls := by simp [PL]
   rw [e]
   refine List.nodup_append.2 ⟨m1.nd, m2.nd, fun b hb c hc e => ?_⟩
   have := m1.rg b hb
   have := m2.rg c hc
   omega
  ·have h1 := h.rg hb
   obtain ⟨y, hy, hd⟩ := PL_of hc
   obtain rfl : y = x := by simpa using hy
   rcases hd with hd | hd
   ·have := m1.rg c hd; omega
   ·have := m2.rg c hd; omega
/-- What the pairs are, of a list of keys and values in turn. -/
def PairsOf (l : List VT) (L : List ELp) : Prop := ∀ j (h : j < L.length), ∃ h2 : 2 * j + 1 < l.length, (L[j]).key.c = (l[2 * j]'(by omega)).c ∧ (L[j]).val.c = (l[2 * j + 1]).c ∧ (L[j]).num = (j : Nat)
theorem PairsOf.snoc {l : List VT} {L : List ELp} {x : ELp} (h : PairsOf l L) (h2 : 2 * L.length + 1 < l.length) (hk : x.key.c = (l[2 * L.length]'(by omega)).c) (hv : x.val.c = (l[2 * L.length + 1]).c) (hn : x.num = (L.length : Nat)) : PairsOf l (L ++ [x]) := fun j hj => by
 rw [List.length_append] at hj
 by_cases e : j < L.length
 ·obtain ⟨a1, a2⟩ := h j e
  refine ⟨a1, ?_⟩
  rw [List.getElem_append_left e]
  exact a2
 ·have e2 : j = L.length := by simp at hj; omega
  subst e2
  refine ⟨h2, ?_⟩
  rw [List.getElem_append_right (Nat.le_refl _)]
  simp only [Nat.sub_self, List.getElem_cons_zero]
  exact ⟨hk, hv, hn⟩
/-- While the pairs are put together. -/
structure Prs (base : Nat) (W : World) (v : Value) (l : List VT) (L : List ELp) : Prop where
 row : W.ownsRow base 123 17 v L.length (L.flatMap encp)
 mine : MineP base W L
 kc : PairsOf l L
 ap : ∀ b, v.ownBlock = some b → b ∉ PL L
theorem Prs.nil (base : Nat) (W : World) (l : List VT) : Prs base W (.slice none 0 0) l [] := ⟨World.ownsRow_nil _ _ _ _, ⟨fun x hx => by simp at hx, by simp [PL]⟩, fun j hj => by simp at hj, fun b hb => by simp [Value.ownBlock] at hb⟩
theorem grown_of_below {W W' : World} (h : Below W.heap.size W W') : W.grownBy W' none := ⟨h.os, h.tape, h.output, h.size, fun k hk _ => h.block k hk⟩
theorem owns_below {W W' : World} {base n size : Nat} {e : TypeId} {v : Value} {xs : List Value} (h : W.ownsRow base e size v n xs) (hb : Below W.heap.size W W') : W'.ownsRow base e size v n xs :=
 h.kept (grown_of_below hb) (by cases hv : v.ownBlock <;> simp)
theorem Prs.below {base : Nat} {W W' : World} {v : Value} {l : List VT} {L : List ELp} (h : Prs base W v l L) (hb : Below W.heap.size W W') : Prs base W' v l L :=
 ⟨owns_below h.row hb, h.mine.below hb, h.kc, h.ap⟩
theorem Prs.step {base g cap : Nat} {W w1 w2 w4 : World} {v : Value} {l : List VT} {L : List ELp} {x : ELp} {o : Obj} (h : Prs base W v l L) (hbs : base ≤ W.heap.size) (b1 : Below W.heap.size W w1) (m1 : Mine W.heap.size w1 x.key) (b2 : Below w1.heap.size w1 w2) (m2 : Mine w1.heap.size w2 x.val)
  (hown : w4.ownsRow base 123 17 (.slice (some ⟨g, 0, none⟩) (L.length + 1) cap) (L.length + 1) (L.flatMap encp ++ encp x)) (hg : (w2.alloc o).grownBy w4 v.ownBlock) (hl : v.ownBlock = some g ∨ g = w2.heap.size + 1)
  (h2 : 2 * L.length + 1 < l.length) (hk : x.key.c = (l[2 * L.length]'(by omega)).c) (hv : x.val.c = (l[2 * L.length + 1]).c) (hn : x.num = (L.length : Nat)) :
  Prs base w4 (.slice (some ⟨g, 0, none⟩) (L.length + 1) cap) l (L ++ [x]) := by
 have hm := h.mine.snoc hbs b1 m1 b2 m2
 have s1 := b1.size
 have s2 := b2.size
 have hvL : ∀ b, v.ownBlock = some b → b < W.heap.size := fun b hb => (World.ownsRow.lt h.row b hb).2
 have hnew : ∀ b, b ∈ PL (L ++ [x]) → v.ownBlock ≠ some b := fun b hb e => by
  rw [PL_app] at hb
  rcases List.mem_append.1 hb with hb | hb
  ·exact h.ap b e hb
  ·have := hvL b e
   obtain ⟨y, hy, hd⟩ := PL_of hb
   obtain rfl : y = x := by simpa using hy
   rcases hd with hd | hd
   ·have := m1.rg b hd; omega
   ·have := m2.rg b hd; omega
 refine ⟨by simpa using hown, hm.keepB (by have := hg.size; simp at this; omega) fun b hb => ?_, h.kc.snoc h2 hk hv hn, fun b hb hm2 => ?_⟩
 ·have := (hm.rg hb).2
  exact (hg.block b (by simp; omega) (fun e => hnew b hb e.symm)).trans (Below.heap_alloc _ _ _ this)
 ·have e : g = b := by simpa [Value.ownBlock] using hb
  subst e
  rcases hl with hl | hl
  ·exact hnew g hm2 hl
  ·have := (hm.rg hm2).2
   omega
/-- The cells of pairs without their numbers. -/
def kvs (R : List ELp) : List VT := R.flatMap fun x => [x.key, x.val]
theorem kvs_app (R S : List ELp) : kvs (R ++ S) = kvs R ++ kvs S := by simp [kvs]
theorem kvs_len (R : List ELp) : (kvs R).length = 2 * R.length := by
 induction R with
 | nil => rfl
 | cons x R ih => show (x.key :: x.val :: kvs R).length = _; simp only [List.length_cons, ih]; omega
theorem kvs_mem {R : List ELp} {y : VT} (h : y ∈ kvs R) : ∃ x ∈ R, y = x.key ∨ y = x.val := by
 obtain ⟨x, hx, hy⟩ := List.mem_flatMap.1 h
 exact ⟨x, hx, by simpa using hy⟩
theorem blsL_kvs (R : List ELp) : VT.blsL (kvs R) = PL R := by
 induction R with
 | nil => rfl
 | cons x R ih => show VT.blsL (x.key :: x.val :: kvs R) = (x.key.bls ++ x.val.bls) ++ PL R; simp only [VT.blsL, ih, List.append_assoc]
/-- While the map's kids are put together: 'gs': the pairs in order, 'bm': the map's box. -/
structure FinP (base : Nat) (W : World) (gs bm : Nat) (A : Option Addr) (cap : Nat) (R : List ELp) (k : Nat) : Prop where
 kr : W.ownsRow base 31 8 (.slice A (2 * k) cap) (2 * k) ((kvs (R.take k)).flatMap VT.cells)
 mine : MineP base W R
 ap : ∀ a, A = some a → a.block ∉ PL R ∧ a.block ≠ bm ∧ a.block ≠ gs
 box : W.heap[bm]? = some (.cells #[.int .i8 8, .int .u64 0, .bool false, .slice none 0 0, .int .u64 0, .int .i8 0, .string ⟨#[]⟩, .slice A (2 * k) cap] 31 (0, 0))
 src : ERowp W gs 0 R
 gl : gs < W.heap.size
 sb : bm ∉ PL R ∧ gs ≠ bm ∧ base ≤ bm
theorem FinP.below {base gs bm cap k : Nat} {W W' : World} {A : Option Addr} {R : List ELp} (h : FinP base W gs bm A cap R k) (hb : Below W.heap.size W W') : FinP base W' gs bm A cap R k :=
 ⟨owns_below h.kr hb, h.mine.below hb, h.ap, (hb.block bm (Array.getElem?_eq_some_iff.1 h.box).1).trans h.box, h.src.keep (hb.block gs h.gl), Nat.lt_of_lt_of_le h.gl hb.size, h.sb⟩
theorem FinP.step {base gs bm cap cap' g k : Nat} {W W2 W3 : World} {A : Option Addr} {R : List ELp} (h : FinP base W gs bm A cap R k) (hk : k < R.length) (hb : Below W.heap.size W W2)
  (hown : W3.ownsRow base 31 8 (.slice (some ⟨g, 0, none⟩) (2 * k + 2) cap') (2 * k + 2) ((kvs (R.take k)).flatMap VT.cells ++ ((R[k]).key.cells ++ (R[k]).val.cells))) (hg : W2.grownBy W3 (A.map Addr.block)) (hl : A.map Addr.block = some g ∨ g = W2.heap.size) (hlt : g < W3.heap.size) :
  FinP base (W3.setCell ⟨bm, 7, none⟩ (.slice (some ⟨g, 0, none⟩) (2 * k + 2) cap')) gs bm (some ⟨g, 0, none⟩) cap' R (k + 1) := by
 have h2 := h.below hb
 have hbm := (Array.getElem?_eq_some_iff.1 h2.box).1
 have hAb : ∀ b, A.map Addr.block = some b → b ∉ PL R ∧ b ≠ bm ∧ b ≠ gs := fun b e => by
  cases A with
  | none => cases e
  | some a => injection e with e; subst e; exact h.ap a rfl
 have hg1 : g ∉ PL R ∧ g ≠ bm ∧ g ≠ gs := by
  rcases hl with hl | hl
  ·exact hAb g hl
  ·exact ⟨fun hm => by have := (h2.mine.rg hm).2; omega, by omega, by have := h2.gl; omega⟩
 have k3 : ∀ b, b < W2.heap.size → (b ∈ PL R ∨ b = bm ∨ b = gs) → W3.heap[b]? = W2.heap[b]? := fun b h1 hx => hg.block b h1 fun e => by
  have := hAb b e.symm
  rcases hx with hx | rfl | rfl
  ·exact this.1 hx
  ·exact this.2.1 rfl
  ·exact this.2.2 rfl
 have kS : ∀ b, b ≠ bm → (W3.setCell ⟨bm, 7, none⟩ (.slice (some ⟨g, 0, none⟩) (2 * k + 2) cap')).heap[b]? = W3.heap[b]? := fun b hne => Below.heap_setCell _ _ _ _ hne
 have hsz : (W3.setCell ⟨bm, 7, none⟩ (.slice (some ⟨g, 0, none⟩) (2 * k + 2) cap')).heap.size = W3.heap.size := by simp
 have hgg : W3.grownBy (W3.setCell ⟨bm, 7, none⟩ (.slice (some ⟨g, 0, none⟩) (2 * k + 2) cap')) (some bm) := ⟨rfl, rfl, rfl, by rw [hsz]; exact Nat.le_refl _, fun b _ hne => kS b (fun e => hne (by rw [e]))⟩
 refine ⟨?_, h2.mine.keepB (by rw [hsz]; exact hg.size) fun b hm => (kS b (fun e => h.sb.1 (e ▸ hm))).trans (k3 b (h2.mine.rg hm).2 (.inl hm)), fun a e => by injection e with e; subst e; exact hg1, ?_, h2.src.keep ((kS gs h.sb.2.1).trans (k3 gs h2.gl (.inr (.inr rfl)))), by rw [hsz]; exact Nat.lt_of_lt_of_le h2.gl hg.size, h.sb⟩
 ·have e : (kvs (R.take (k + 1))).flatMap VT.cells = (kvs (R.take k)).flatMap VT.cells ++ ((R[k]).key.cells ++ (R[k]).val.cells) := by
   rw [List.take_succ_eq_append_getElem hk, kvs_app, List.flatMap_append]
   simp [kvs]
  rw [e]
  exact hown.kept hgg (.inr (by simp [Value.ownBlock]; exact hg1.2.1))
 ·have hb3 := (k3 bm hbm (.inr (.inl rfl))).trans h2.box
  have := heap_setCell_same W3 bm 7 _ _ (.slice (some ⟨g, 0, none⟩) (2 * k + 2) cap') hb3
  rw [this]
  rfl
/-- The map's value. -/
def mapT (A : Option Addr) (cap : Nat) (R : List ELp) : VT := .mk 8 0 false none 0 [] 0 0 ⟨#[]⟩ A cap (kvs R)
theorem FinP.fin {base gs bm cap : Nat} {W : World} {A : Option Addr} {R : List ELp} (h : FinP base W gs bm A cap R R.length) : Mine base W (mapT A cap R) := by
 have hkr := h.kr
 rw [List.take_length] at hkr
 have hko : KRow base W (.slice A (2 * R.length) cap) (kvs R) := krow_of_own (by rw [kvs_len]; exact hkr)
 have hA : ∀ b, A.map Addr.block = some b → base ≤ b ∧ b < W.heap.size := fun b e => World.ownsRow.lt hkr b (by cases A with | none => cases e | some a => exact e)
 have eb : (mapT A cap R).bls = (A.map Addr.block).toList ++ PL R := by rw [VT.bls_eq]; show [] ++ (_ ++ VT.blsL (kvs R)) = _; rw [blsL_kvs]; rfl
 have hmem : ∀ b, b ∈ (A.map Addr.block).toList → A.map Addr.block = some b := fun b hb => by simpa using hb
 refine ⟨?_, fun b hb => ?_, AllV.eq.2 ⟨⟨⟨⟨by show (-128 : Int) ≤ 8; omega, by show (8 : Int) ≤ 127; omega⟩, ⟨by show (0 : Int) ≤ 0; omega, by show (0 : Int) ≤ 18446744073709551615; omega⟩, ⟨by show (0 : Int) ≤ 0; omega, by show (0 : Int) ≤ 18446744073709551615; omega⟩, ⟨by show (-128 : Int) ≤ 0; omega, by show (0 : Int) ≤ 127; omega⟩, fun x hx => by cases hx⟩, Own.nil _ _ _ _, ?_⟩, AllVL.of fun y hy => ?_⟩⟩
 ·rw [eb]
  refine List.nodup_append.2 ⟨by cases A <;> simp, h.mine.nd, fun b hb c hc e => ?_⟩
  subst e
  cases A with
  | none => simp at hb
  | some a => simp at hb; subst hb; exact (h.ap a rfl).1 hc
 ·rw [eb] at hb
  rcases List.mem_append.1 hb with hb | hb
  ·exact hA b (hmem b hb)
  ·exact h.mine.rg hb
 ·show KRow base W (.slice A (kvs R).length cap) (kvs R)
  rw [kvs_len]
  exact hko
 ·obtain ⟨x, hx, rfl | rfl⟩ := kvs_mem hy
  ·exact (h.mine.m x hx).1.all
  ·exact (h.mine.m x hx).2.all
end Go.Proofs.YtcpkjmpbpmeclaaGreatDoor
namespace Go.Proofs.YtcpkjmpbpmeclaaGreatDoor
open Go.RowKit
set_option maxRecDepth 100000
set_option linter.unusedVariables false
set_option linter.unusedSimpArgs false
set_option linter.unnecessarySimpa false

/-- Is one of the first ones too deep? -/
def DeepTo (dp : Nat → Nat) (i : Nat) (b : Bool) : Prop := b = true ↔ ∃ j, j < i ∧ 128 ≤ dp j
/-- The result's box is a value that is nothing. -/
structure SZ (w X : World) : Prop where
 b : Below w.heap.size w X
 z : X.heap[w.heap.size]? = some (.cells zeroV 31 (0, 0))
theorem SZ.new (w : World) : SZ w (w.alloc (.cells zeroV 31)) := ⟨(Below.refl _ w).alloc (Nat.le_refl _) _, heap_alloc_new w _⟩
theorem SZ.call {w X X1 : World} (h : SZ w X) (hb : Below X.heap.size X X1) : SZ w X1 := ⟨trans_b h.b hb, (hb.block _ (Array.getElem?_eq_some_iff.1 h.z).1).trans h.z⟩
theorem SZ.drew {w X : World} (h : SZ w X) : SZ w X.drew := h.call (Below.refl _ _).drew
theorem SZ.alloc {w X : World} (h : SZ w X) (o : Obj) : SZ w (X.alloc o) := h.call ((Below.refl _ X).alloc (Nat.le_refl _) _)
theorem SZ.grown {w X X1 : World} {row : Option Nat} (h : SZ w X) (hg : X.grownBy X1 row) (hr : ∀ r, row = some r → w.heap.size < r) : SZ w X1 :=
 ⟨h.b.grown hg h.b.size (fun r e => Nat.le_of_lt (hr r e)), (hg.block _ (Array.getElem?_eq_some_iff.1 h.z).1 (fun e => Nat.lt_irrefl _ (hr _ e.symm))).trans h.z⟩
theorem SZ.there {w X : World} (h : SZ w X) : X.there w.heap.size 0 zeroV.size := there_row h.z 0 _ (by simp)
theorem setCells_row {g : Nat} {t : TypeId} : ∀ (vs : List Value) (o : Nat) (cs : Array Value) (w : World), w.heap[g]? = some (.cells cs t (0, 0)) → o + vs.length ≤ cs.size → ∃ cs', (w.setCells g o vs).heap[g]? = some (.cells cs' t (0, 0)) ∧ cs'.toList = cs.toList.take o ++ vs ++ cs.toList.drop (o + vs.length)
 | [], o, cs, w, h, _ => ⟨cs, h, by simp⟩
 | v :: vs, o, cs, w, h, hl => by
  rw [List.length_cons] at hl
  obtain ⟨cs', h1, h2⟩ := setCells_row vs (o + 1) _ _ (heap_setCell_same w g o cs t v h) (by simp; omega)
  refine ⟨cs', h1, h2.trans ?_⟩
  have ho : o < cs.toList.length := by simp; omega
  simp only [Array.toList_setIfInBounds]
  rw [List.take_set, List.drop_set, if_pos (by omega), List.take_succ_eq_append_getElem ho, List.set_append, if_neg (by simp; omega)]
  have e : o - (cs.toList.take o).length = 0 := by simp; omega
  rw [e]
  simp [Nat.add_assoc, Nat.add_comm 1]
theorem SZ.store {w X : World} (h : SZ w X) : SZ w (X.setCells w.heap.size 0 zeroV.toList) := by
 obtain ⟨cs', h1, h2⟩ := setCells_row zeroV.toList 0 zeroV X h.z (by simp)
 have e : cs' = zeroV := Array.toList_inj.1 (by rw [h2]; rfl)
 subst e
 exact ⟨below_setCells _ _ 0 _ h.b (Nat.le_refl _), h1⟩
theorem SZ.kept {w X : World} (i : Nat) (hi : i < X.heap.size) (hne : i ≠ w.heap.size) : (X.setCells w.heap.size 0 zeroV.toList).heap[i]? = X.heap[i]? := World.heap_setCells_other _ _ _ _ hi hne
theorem SZ.load {w X : World} (h : SZ w X) : Sem.run Tryz.prog (loadVar 31 ⟨w.heap.size, 0, none⟩) X = .ok (.agg zeroV) X :=
 run_loadVar_mid X w.heap.size 0 31 zeroV.toList _ (fun j v hv => by rw [Nat.zero_add, cell_of_row _ _ _ _ _ _ h.z]; simpa using hv) Tryz.underlying31 rfl size_value
/-- The store of nothing into the result's box. -/
theorem step_zero {ops : Array Oper} {o : Oper} {a : Act} {K : Act → World → Prop} {Q : Exit → Act → World → Prop} {E : Prop} {w W : World} (hgd : o.guard = none) (x y : Operand) (ho : o.op = .store 31 x y)
  (hx : a.eval x = .pointer (some ⟨w.heap.size, 0, none⟩)) (hy : a.eval y = .agg zeroV) (hS : SZ w W) (h : K (a.put o.dst undef) (W.setCells w.heap.size 0 zeroV.toList)) :
  if Region.wanted o (yielded ops a.tmps) = true then Oper.wp Tryz.prog o a W K Q else E := by
 rw [if_pos (by simp [Region.wanted, hgd])]
 exact wp_store_mid 31 x y ho w.heap.size 0 zeroV hx hy hS.there size_value (by kernel_rfl) h
theorem size_setCells' : ∀ (vs : List Value) (g o : Nat) (W : World), (W.setCells g o vs).heap.size = W.heap.size
 | [], g, o, W => rfl
 | v :: vs, g, o, W => (size_setCells' vs g (o + 1) _).trans (by simp)
/-- What has been boxed, ahead of the store and behind it. -/
theorem boxed1 {w W : World} (hS : SZ w W) (C : Array Value) (t : TypeId) : ((W.alloc (.cells C t)).setCells w.heap.size 0 zeroV.toList).heap[W.heap.size]? = some (.cells C t (0, 0)) :=
 (SZ.kept _ (by simp) (by have := (Array.getElem?_eq_some_iff.1 hS.z).1; omega)).trans (heap_alloc_new _ _)
theorem boxed2 {w W : World} (C : Array Value) (t : TypeId) : ((W.setCells w.heap.size 0 zeroV.toList).alloc (.cells C t)).heap[W.heap.size]? = some (.cells C t (0, 0)) := by
 have h := heap_alloc_new (W.setCells w.heap.size 0 zeroV.toList) (.cells C t)
 rwa [size_setCells'] at h
/-- One value of a list is loaded. -/
theorem val_load {w X : World} {b off i : Nat} {l : List VT} (h : VRow w (some ⟨b, off, none⟩) l) (hb : Below w.heap.size w X) (hi : i < l.length) : Sem.run Tryz.prog (loadVar 31 ⟨b, off + i * 8, none⟩) X = .ok (l[i]).agg X := by
 rcases h with h | ⟨b', off', e, h⟩
 ·subst h; simp at hi
 ·injection e with e
  injection e with e1 e2
  subst e1
  subst e2
  exact run_loadVar_mid X b (off + i * 8) 31 (l[i]).cells _ (fun j v hv => keep1 hb (h i hi j v hv)) Tryz.underlying31 rfl size_value
/-- A list of one pair. -/
theorem step_buildp {ops : Array Oper} {o : Oper} {a : Act} {K : Act → World → Prop} {Q : Exit → Act → World → Prop} {E : Prop} {w : World} (hg : o.guard = none) (x : Operand) (ho : o.op = .buildSlice 119 1 #[(0, x)])
  (y : ELp) (X : Array Value) (hX : (encp y).toArray = X) (hx : a.eval x = .agg X)
  (h : K (a.put o.dst (.slice (some ⟨w.heap.size, 0, none⟩) 1 1)) (w.alloc (.cells X 123))) : if Region.wanted o (yielded ops a.tmps) = true then Oper.wp Tryz.prog o a w K Q else E := by
 obtain ⟨i0, hi, hz⟩ := Option.map_eq_some_iff.1 infop
 obtain ⟨z, hzz⟩ : ∃ z, i0.zero = some z := by
  have h1 : ((Tryz.prog.info? 123).bind (·.zero)).isSome = true := by kernel_rfl
  rw [hi] at h1
  exact Option.isSome_iff_exists.1 h1
 have hzs : z.cells.size = 17 := by
  have h1 : ((Tryz.prog.info? 123).bind (·.zero)).map (fun z => z.cells.size) = some 17 := by kernel_rfl
  rw [hi, Option.bind_some, hzz] at h1
  exact Option.some.inj h1
 rw [if_pos (by simp [Region.wanted, hg])]
 refine wp_buildSlice _ 123 1 _ ho X i0 z Tryz.underlying119 hi hzz (by rw [hz]; decide) (by rw [hz]; decide) ?_ h
 subst hX
 rw [hz]
 simp only [List.map_toArray, List.map_cons, List.map_nil, hx]
 have hs17 : (encp y).toArray.size = 17 := rfl
 obtain ⟨r, hr, hsz, hk⟩ := Great.fill_dense (s := 17) (by omega) [.agg (encp y).toArray] 0 ((Array.range (1 * 17)).map (z.cells[· % z.cells.size]!)) (fun v hv => by rw [List.mem_singleton.1 hv]; rfl) (by simp)
 refine hr.trans (congrArg some ?_)
 apply Array.ext_getElem?
 intro k
 rw [hk k]
 by_cases h17 : k < 17
 ·rw [if_pos (by simp; omega), show k / 17 - 0 = 0 by omega, show k % 17 = k by omega]
  rfl
 ·rw [if_neg (by simp; omega), Array.getElem?_eq_none (by simp; omega), Array.getElem?_eq_none (by omega)]
theorem ownBlock_map (A : Option Addr) (n c : Nat) : (Value.slice A n c).ownBlock = A.map Addr.block := by cases A <;> rfl
/-- The result's box, and a cell beside. -/
structure SC (w : World) (g o : Nat) (u : Value) (X : World) : Prop where
 z : SZ w X
 c : X.cell? ⟨g, o, none⟩ = some u
 n : g ≠ w.heap.size
theorem SC.call {w X X1 : World} {g o : Nat} {u : Value} (h : SC w g o u X) (hb : Below X.heap.size X X1) : SC w g o u X1 := ⟨h.z.call hb, keep1 hb h.c, h.n⟩
theorem SC.drew {w X : World} {g o : Nat} {u : Value} (h : SC w g o u X) : SC w g o u X.drew := h.call (Below.refl _ _).drew
theorem SC.alloc {w X : World} {g o : Nat} {u : Value} (h : SC w g o u X) (ob : Obj) : SC w g o u (X.alloc ob) := h.call ((Below.refl _ X).alloc (Nat.le_refl _) _)
theorem SC.store {w X : World} {g o : Nat} {u : Value} (h : SC w g o u X) : SC w g o u (X.setCells w.heap.size 0 zeroV.toList) :=
 ⟨h.z.store, (World.cell?_of_block (a := ⟨g, o, none⟩) (SZ.kept g (World.block_lt_of_cell? X _ h.c) h.n)).trans h.c, h.n⟩
/-- A block that has been made and written over whole. -/
theorem set_new (W : World) (Z X : Array Value) (t : TypeId) (hz : Z.size = X.size) : ((W.alloc (.cells Z t)).setCells W.heap.size 0 X.toList).heap[W.heap.size]? = some (.cells X t (0, 0)) := by
 obtain ⟨cs', h1, h2⟩ := setCells_row X.toList 0 Z _ (heap_alloc_new W (.cells Z t)) (by simp; omega)
 have e : cs' = X := Array.toList_inj.1 (by rw [h2]; simp; omega)
 rw [e] at h1
 exact h1
theorem key_load {X : World} {b : Nat} {x : ELp} (h : X.heap[b]? = some (.cells (encp x).toArray 123 (0, 0))) : Sem.run Tryz.prog (loadVar 31 ⟨b, 0, none⟩) X = .ok x.key.agg X :=
 run_loadVar_mid X b 0 31 x.key.cells _ (fun j v hv => by
  rw [Nat.zero_add, cell_of_row _ _ _ _ _ _ h, List.getElem?_toArray]
  unfold encp
  rw [List.getElem?_append_left (List.getElem?_eq_some_iff.1 hv).1]
  exact hv) Tryz.underlying31 rfl size_value
theorem val8_load {X : World} {b : Nat} {x : ELp} (h : X.heap[b]? = some (.cells (encp x).toArray 123 (0, 0))) : Sem.run Tryz.prog (loadVar 31 ⟨b, 8, none⟩) X = .ok x.val.agg X :=
 run_loadVar_mid X b 8 31 x.val.cells _ (fun j v hv => by
  have hj : j < 8 := (List.getElem?_eq_some_iff.1 hv).1
  have e8 : x.key.cells.length = 8 := rfl
  rw [cell_of_row _ _ _ _ _ _ h, List.getElem?_toArray]
  unfold encp
  rw [List.getElem?_append_right (by omega), e8, show 8 + j - 8 = j by omega, List.getElem?_append_left (by exact hj)]
  exact hv) Tryz.underlying31 rfl size_value
/-- The new error's cells. -/
def FC (v : Value) (at_ : Int) (s : ByteArray) : Array Value := #[v, .int .i64 at_, .string s]
theorem isF_of {a : Nat → Addr} {k b : Nat} {at_ : Int} {s : ByteArray} {X : World} (h : X.heap[b]? = some (.cells (FC (.iface 330 (.pointer (some (a k)))) at_ s) 89 (0, 0))) : IsF a k at_ s b X :=
 ⟨cell_of_row _ _ _ _ _ _ h, cell_of_row _ _ _ _ _ _ h, cell_of_row _ _ _ _ _ _ h⟩
/-- The error's cells, boxed ahead of the store and behind it. -/
theorem isF1 {a : Nat → Addr} {k : Nat} {at_ : Int} {s : ByteArray} {w W : World} (hS : SZ w W) : IsF a k at_ s W.heap.size (((W.alloc (.cells #[.iface 330 (.pointer (some (a k))), .int .i64 at_, .string s] 89)).drew).setCells w.heap.size 0 [.int .i8 0, .int .u64 0, .bool false, .slice none 0 0, .int .u64 0, .int .i8 0, .string ⟨#[]⟩, .slice none 0 0]) :=
 isF_of (boxed1 (W := W.drew) hS.drew _ _)
theorem isF2 {a : Nat → Addr} {k : Nat} {at_ : Int} {s : ByteArray} {w W : World} : IsF a k at_ s W.heap.size ((W.drew.setCells w.heap.size 0 [.int .i8 0, .int .u64 0, .bool false, .slice none 0 0, .int .u64 0, .int .i8 0, .string ⟨#[]⟩, .slice none 0 0]).alloc (.cells #[.iface 330 (.pointer (some (a k))), .int .i64 at_, .string s] 89)) :=
 isF_of (boxed2 (W := W.drew) _ _)
theorem isF1n {a : Nat → Addr} {k : Nat} {at_ : Int} {s : ByteArray} {w W : World} (hS : SZ w W) : IsF a k at_ s W.heap.size ((W.alloc (.cells #[.iface 330 (.pointer (some (a k))), .int .i64 at_, .string s] 89)).setCells w.heap.size 0 [.int .i8 0, .int .u64 0, .bool false, .slice none 0 0, .int .u64 0, .int .i8 0, .string ⟨#[]⟩, .slice none 0 0]) :=
 isF_of (boxed1 hS _ _)
theorem isF2n {a : Nat → Addr} {k : Nat} {at_ : Int} {s : ByteArray} {w W : World} : IsF a k at_ s W.heap.size ((W.setCells w.heap.size 0 [.int .i8 0, .int .u64 0, .bool false, .slice none 0 0, .int .u64 0, .int .i8 0, .string ⟨#[]⟩, .slice none 0 0]).alloc (.cells #[.iface 330 (.pointer (some (a k))), .int .i64 at_, .string s] 89)) :=
 isF_of (boxed2 _ _)
theorem isF0 {a : Nat → Addr} {k : Nat} {at_ : Int} {s : ByteArray} {W : World} : IsF a k at_ s W.heap.size (W.alloc (.cells #[.iface 330 (.pointer (some (a k))), .int .i64 at_, .string s] 89)) :=
 isF_of (heap_alloc_new _ _)
theorem path_cons (i : Nat) (r : List Nat) : (({ data := #[47] } : ByteArray) ++ ⟨(decB i).toArray⟩) ++ strU (pathB r) = strU (pathB (i :: r)) := by
 have e : (({ data := #[47] } : ByteArray) ++ ⟨(decB i).toArray⟩) = strU (47 :: decB i) := strU_app [47] (decB i)
 rw [e, strU_app, pathB_cons]
end Go.Proofs.YtcpkjmpbpmeclaaGreatDoor
namespace Go.Proofs.YtcpkjmpbpmeclaaGreatDoor
open Go.RowKit
set_option maxRecDepth 100000
set_option linter.unusedVariables false
set_option linter.unusedSimpArgs false
set_option linter.unnecessarySimpa false

def textC (s : ByteArray) : VT := .mk 5 0 false none 0 [] 0 0 s none 0 []
def wholeC (n : Int) : VT := .mk 3 0 false none 0 (if n = 0 then [] else [n]) 0 0 ⟨#[]⟩ none 0 []
theorem textC_in (s : ByteArray) (W : World) : In W (textC s) :=
 In.mk ⟨⟨⟨by show (-128 : Int) ≤ 5; omega, by show (5 : Int) ≤ 127; omega⟩, ⟨by show (0 : Int) ≤ 0; omega, by show (0 : Int) ≤ 18446744073709551615; omega⟩, ⟨by show (0 : Int) ≤ 0; omega, by show (0 : Int) ≤ 18446744073709551615; omega⟩, ⟨by show (-128 : Int) ≤ 0; omega, by show (0 : Int) ≤ 127; omega⟩, fun x hx => by cases hx⟩,
  Nat.le_refl _, .inl rfl, Nat.le_refl _, by show (0 : Nat) ≤ _; omega, .inl rfl, trivial, fun _ => rfl, fun _ => rfl⟩
theorem text_any (s : ByteArray) (w : World) : Calls Tryz.prog 51 #[.string s] w fun e w' => e = .returned (textC s).agg ∧ Below w.heap.size w w' := by
 go_enter Tryz.func51, Tryz.ntmps51
 go_wp2
 have hLd : Sem.run Tryz.prog (loadVar 31 ⟨w.heap.size, 0, none⟩) (w.alloc (.cells #[.int .i8 5, .int .u64 0, .bool false, .slice none 0 0, .int .u64 0, .int .i8 0, .string s, .slice none 0 0] 31)) = .ok (textC s).agg (w.alloc (.cells #[.int .i8 5, .int .u64 0, .bool false, .slice none 0 0, .int .u64 0, .int .i8 0, .string s, .slice none 0 0] 31)) :=
  run_loadVar_mid _ w.heap.size 0 31 (textC s).cells _ (fun j v hv => by
   rw [Nat.zero_add, cell_of_row _ _ _ _ _ _ (heap_alloc_new w _), List.getElem?_toArray]
   exact hv) Tryz.underlying31 rfl size_value
 refine bodyPost_ret (v := (textC s).agg) ?_ rfl ⟨rfl, (Below.refl _ w).alloc (Nat.le_refl _) _⟩
 simp [results, Tryz.results51, hLd, asAddr, Act.put]
theorem wholeP_in (p : Nat) (n : Int) (hn : 0 ≤ n) (hn2 : n ≤ 4294967295) (W : World) (h : W.heap[p]? = some (.cells #[.int .u32 n] 92 (0, 0))) : In W (.mk 3 0 false (some ⟨p, 0, none⟩) 1 [n] 0 0 ⟨#[]⟩ none 0 []) :=
 In.mk ⟨⟨⟨by show (-128 : Int) ≤ 3; omega, by show (3 : Int) ≤ 127; omega⟩, ⟨by show (0 : Int) ≤ 0; omega, by show (0 : Int) ≤ 18446744073709551615; omega⟩, ⟨by show (0 : Int) ≤ 0; omega, by show (0 : Int) ≤ 18446744073709551615; omega⟩, ⟨by show (-128 : Int) ≤ 0; omega, by show (0 : Int) ≤ 127; omega⟩, fun x hx => by
   have hx : x ∈ [n] := hx
   rw [List.mem_singleton] at hx
   subst hx
   exact ⟨hn, hn2⟩⟩,
  Nat.le_refl _, .inr ⟨p, 0, rfl, fun i hi => by
   have hi : i < 1 := hi
   obtain rfl : i = 0 := by omega
   exact cell_of_row _ _ _ _ _ _ h⟩, Nat.le_refl _, by show (0 : Nat) ≤ _; omega, .inl rfl, trivial, fun e => by (cases e), fun _ => rfl⟩
theorem whole0_in (W : World) : In W (wholeC 0) :=
 In.mk ⟨⟨⟨by show (-128 : Int) ≤ 3; omega, by show (3 : Int) ≤ 127; omega⟩, ⟨by show (0 : Int) ≤ 0; omega, by show (0 : Int) ≤ 18446744073709551615; omega⟩, ⟨by show (0 : Int) ≤ 0; omega, by show (0 : Int) ≤ 18446744073709551615; omega⟩, ⟨by show (-128 : Int) ≤ 0; omega, by show (0 : Int) ≤ 127; omega⟩, fun x hx => by cases hx⟩,
  Nat.le_refl _, .inl rfl, Nat.le_refl _, by show (0 : Nat) ≤ _; omega, .inl rfl, trivial, fun _ => rfl, fun _ => rfl⟩
theorem whole0_any (w : World) : Calls Tryz.prog 52 #[.int .u32 0] w fun e w' => ∃ T : VT, e = .returned T.agg ∧ Hid (In w' T ∧ T.c = wholeC 0) ∧ Below w.heap.size w w' := by
 go_enter Tryz.func52, Tryz.ntmps52
 go_wp2
 have hLd : Sem.run Tryz.prog (loadVar 31 ⟨w.heap.size, 0, none⟩) (w.alloc (.cells #[.int .i8 3, .int .u64 0, .bool false, .slice none 0 0, .int .u64 0, .int .i8 0, .string ⟨#[]⟩, .slice none 0 0] 31)) = .ok (wholeC 0).agg (w.alloc (.cells #[.int .i8 3, .int .u64 0, .bool false, .slice none 0 0, .int .u64 0, .int .i8 0, .string ⟨#[]⟩, .slice none 0 0] 31)) :=
  run_loadVar_mid _ w.heap.size 0 31 (wholeC 0).cells _ (fun j v hv => by
   rw [Nat.zero_add, cell_of_row _ _ _ _ _ _ (heap_alloc_new w _), List.getElem?_toArray]
   exact hv) Tryz.underlying31 rfl size_value
 refine bodyPost_ret (v := (wholeC 0).agg) ?_ rfl ⟨wholeC 0, rfl, Lib.hid ⟨whole0_in _, by rw [VT.c_eq]; rfl⟩, (Below.refl _ w).alloc (Nat.le_refl _) _⟩
 simp [results, Tryz.results52, hLd, asAddr, Act.put]
theorem whole_any (n : Int) (hn : 0 < n) (hn2 : n ≤ 4294967295) (w : World) : Calls Tryz.prog 52 #[.int .u32 n] w fun e w' => ∃ T : VT, e = .returned T.agg ∧ Hid (In w' T ∧ T.c = wholeC n) ∧ Below w.heap.size w w' := by
 have hne : ¬ n = 0 := by omega
 have hnb : (n == 0) = false := by simp; omega
 go_enter Tryz.func52, Tryz.ntmps52
 go_wp2
 have h2 := heap_alloc_new (w.alloc (.cells #[.int .i8 3, .int .u64 0, .bool false, .slice (some ⟨w.heap.size + 1, 0, none⟩) 1 1, .int .u64 0, .int .i8 0, .string ⟨#[]⟩, .slice none 0 0] 31)) (.cells #[.int .u32 n] 92)
 rw [World.size_alloc] at h2
 have hLd : Sem.run Tryz.prog (loadVar 31 ⟨w.heap.size, 0, none⟩) ((w.alloc (.cells #[.int .i8 3, .int .u64 0, .bool false, .slice (some ⟨w.heap.size + 1, 0, none⟩) 1 1, .int .u64 0, .int .i8 0, .string ⟨#[]⟩, .slice none 0 0] 31)).alloc (.cells #[.int .u32 n] 92)) = .ok ((VT.mk 3 0 false (some ⟨w.heap.size + 1, 0, none⟩) 1 [n] 0 0 ⟨#[]⟩ none 0 [])).agg ((w.alloc (.cells #[.int .i8 3, .int .u64 0, .bool false, .slice (some ⟨w.heap.size + 1, 0, none⟩) 1 1, .int .u64 0, .int .i8 0, .string ⟨#[]⟩, .slice none 0 0] 31)).alloc (.cells #[.int .u32 n] 92)) :=
  run_loadVar_mid _ w.heap.size 0 31 ((VT.mk 3 0 false (some ⟨w.heap.size + 1, 0, none⟩) 1 [n] 0 0 ⟨#[]⟩ none 0 [])).cells _ (fun j v hv => by
   rw [Nat.zero_add, cell_of_row _ _ _ _ _ _ ((Below.heap_alloc _ _ _ (by simp)).trans (heap_alloc_new w _)), List.getElem?_toArray]
   exact hv) Tryz.underlying31 rfl size_value
 refine bodyPost_ret (v := ((VT.mk 3 0 false (some ⟨w.heap.size + 1, 0, none⟩) 1 [n] 0 0 ⟨#[]⟩ none 0 [])).agg) ?_ rfl ⟨(VT.mk 3 0 false (some ⟨w.heap.size + 1, 0, none⟩) 1 [n] 0 0 ⟨#[]⟩ none 0 []), rfl, Lib.hid ⟨wholeP_in _ n (by omega) hn2 _ h2, by rw [VT.c_eq]; unfold wholeC; rw [if_neg hne]; rfl⟩, ((Below.refl _ w).alloc (Nat.le_refl _) _).alloc (by simp) _⟩
 simp [results, Tryz.results52, hLd, asAddr, Act.put]
set_option maxHeartbeats 1000000 in
theorem ispath_fault (a : Nat → Addr) (k p : Nat) (path q : ByteArray) (w : World) (hE : Errs a w) (h0 : 1 ≤ k) (h1 : k ≤ 11) (h : IsF a k 0 path p w) :
  Calls Tryz.prog 21 #[.iface 87 (.pointer (some ⟨p, 0, none⟩)), .int .i64 k, .string q] w fun e w' => e = .returned (.bool (decide (path = q))) ∧ Below w.heap.size w w' := by
 have c1 : Hid (∀ W : World, Below w.heap.size w W → Calls Tryz.prog 20 #[.iface 87 (.pointer (some ⟨p, 0, none⟩))] W fun e w' => e = .returned (.int .i64 k) ∧ Below w.heap.size w w') := Lib.hid fun W hb =>
  (code_fault a k p 0 _ W (hE.below hb) h0 h1 (h.below hb)).mono fun e w' ⟨q, r⟩ => ⟨q, hb.trans (r.mono hb.size)⟩
 have c2 : Hid (∀ W : World, Below w.heap.size w W → Calls Tryz.prog 57 #[.iface 87 (.pointer (some ⟨p, 0, none⟩))] W fun e w' => e = .returned (.tuple #[.int .i64 0, .bool true]) ∧ Below w.heap.size w w') := Lib.hid fun W hb =>
  (at_fault a k p 0 _ W (hE.below hb) (h.below hb)).mono fun e w' ⟨q, r⟩ => ⟨q, hb.trans (r.mono hb.size)⟩
 have c3 : Hid (∀ W : World, Below w.heap.size w W → Calls Tryz.prog 42 #[.iface 87 (.pointer (some ⟨p, 0, none⟩))] W fun e w' => e = .returned (.tuple #[.string path, .bool true]) ∧ Below w.heap.size w w') := Lib.hid fun W hb =>
  (path_fault a k p 0 _ W (hE.below hb) (h.below hb)).mono fun e w' ⟨q, r⟩ => ⟨q, hb.trans (r.mono hb.size)⟩
 have hk : ((k : Int) == 0) = false := by simp; omega
 have hb0 := Below.refl w.heap.size w
 clear hE h
 go_enter Tryz.func21, Tryz.ntmps21
 go_wp2_with (first | (go_at_call 20; refine (c1.out _ hb0).mono ?_; rintro e w1 ⟨rfl, hb1⟩) | (go_at_call 57; refine (c2.out _ hb1).mono ?_; rintro e w2 ⟨rfl, hb2⟩) | (go_at_call 42; refine (c3.out _ hb2).mono ?_; rintro e w3 ⟨rfl, hb3⟩))
 go_ret
 exact ⟨by rw [text_beq]; rfl, hb3⟩
end Go.Proofs.YtcpkjmpbpmeclaaGreatDoor
