/- The Book: lists that were made ahead of it are kept one by one. -/
import Derived.Test.YtolnnkalgioobaaGreatDoorBuh
namespace Go.Proofs.YtolnnkalgioobaaGreatDoor
open Go.RowKit
set_option maxRecDepth 100000
set_option linter.unusedVariables false
set_option linter.unusedSimpArgs false
set_option linter.unnecessarySimpa false

structure Lst where
  A : Option Addr
  len : Nat
  cap : Nat
  xs : List Int
def Lst.v (l : Lst) : Value := .slice l.A l.len l.cap
def entsOf (L : Nat → Lst) : Nat → Ents
  | 0 => Ents.none
  | m + 1 => (entsOf L m).push (L m).A (L m).len (L m).cap
theorem entsOf_N (L : Nat → Lst) : ∀ m, (entsOf L m).N = m
  | 0 => rfl
  | m + 1 => by show (entsOf L m).N + 1 = m + 1; rw [entsOf_N L m]
theorem entsOf_l (L : Nat → Lst) : ∀ m j, j < m → (entsOf L m).l j = (L j).v
  | 0, j, h => by omega
  | m + 1, j, h => by
    show ((entsOf L m).push _ _ _).l j = _
    rw [Ents.push_l, entsOf_N]
    by_cases e : j = m
    · rw [if_pos e, e]; rfl
    · rw [if_neg e]; exact entsOf_l L m j (by omega)
/-- M lists, each in a row of its own, no two in one block, none at or behind p. -/
structure Lists (W : World) (B p M : Nat) (L : Nat → Lst) : Prop where
  own : ∀ j, j < M → Own W B 52 .u16 (L j).v (L j).xs ∧ (L j).xs.length = (L j).len ∧ (L j).len ≤ 100000000000 ∧ ∀ i, (L j).v.ownBlock = some i → i < p
  ne : ∀ i j, i < M → j < M → i ≠ j → ∀ g, (L i).v.ownBlock = some g → (L j).v.ownBlock ≠ some g
theorem Lists.keeps {S : Nat → Prop} {W W1 : World} {B p M : Nat} {L : Nat → Lst} (h : Lists W B p M L) (hk : Keeps S W W1) (hS : ∀ i, S i → p ≤ i) : Lists W1 B p M L :=
  ⟨fun j hj => by
    obtain ⟨h1, h2, h3, h4⟩ := h.own j hj
    exact ⟨own_on h1 fun i hi => hk.block i (World.ownsRow.lt h1 i hi).2 (fun hs => by have := hS i hs; have := h4 i hi; omega), h2, h3, h4⟩, h.ne⟩
structure Kept (W : World) (B p M m : Nat) (L : Nat → Lst) (v : Value) : Prop where
  f : Fills W B p (entsOf L m) v
  v : ∀ i, v.ownBlock = some i → p ≤ i
  l : Lists W B p M L
theorem Kept.start {W : World} {B p M : Nat} {L : Nat → Lst} (h : Lists W B p M L) (hb : BookAt W p 0 (one4 (.slice none 0 0))) (hB : B ≤ W.heap.size) : Kept W B p M 0 L (.slice none 0 0) :=
  ⟨Fills.begin hb hB, by simp [Value.ownBlock], h⟩
theorem Kept.step {w w' : World} {B p M m : Nat} {L : Nat → Lst} {v : Value} (h : Kept w B p M m L v) (hm : m < M) (hM : M ≤ 1000)
    (hk : KeepPost p (entsOf L m).N (entsOf L m).N B (one4 v) (rowCells (entsOf L m) (entsOf L m).N) (L m).v w w') : (∃ v', Kept w' B p M (m + 1) L v') ∧ Keeps (fun k => p ≤ k) w w' := by
  obtain ⟨h1, h2, h3, h4⟩ := h.l.own m hm
  obtain ⟨v', k1, k2⟩ := h.f.push2 h1 h2 h3 (by rw [entsOf_N]; omega) (fun i hi => ⟨by have := h4 i hi; omega, fun e => by have := h.v i e; have := h4 i hi; omega, fun j hj e => by
    rw [entsOf_N] at hj
    rw [entsOf_l L m j hj] at e
    exact h.l.ne m j hm (by omega) (by omega) i hi e⟩) hk
  have hkk : Keeps (fun k => p ≤ k) w w' := hk.k.mono fun k _ hh => by
    rcases hh with rfl | hh
    · exact Nat.le_refl _
    · exact h.v k hh.symm
  exact ⟨⟨v', k1, fun i hi => by rcases k2 i hi with e | e; exact h.v i e; have := h.f.bk.lt; omega, h.l.keeps hkk fun i hi => hi⟩, hkk⟩
theorem Kept.call {W : World} {B p M m : Nat} {L : Nat → Lst} {v : Value} (h : Kept W B p M m L v) :
    Calls Tryz.prog 22 #[.pointer (some ⟨p, 0, none⟩), (L m).v] W fun e w' => e = .returned (.tuple #[]) ∧ KeepPost p (entsOf L m).N (entsOf L m).N B (one4 v) (rowCells (entsOf L m) (entsOf L m).N) (L m).v W w' :=
  fills_keep h.f (L m).A (L m).len (L m).cap
theorem Kept.apart {W : World} {B p M m : Nat} {L : Nat → Lst} {v : Value} (h : Kept W B p M m L v) (hm : 0 < m) :
    Calls Tryz.prog 13 #[.pointer (some ⟨p, 0, none⟩)] W fun e w' => e = .returned (.bool true) ∧ Below B W w' :=
  fills_apart h.f (by rw [entsOf_N]; exact hm)
end Go.Proofs.YtolnnkalgioobaaGreatDoor
