/- The Book: what it is while it is being filled. -/
import Derived.Test.YtolnnkalgioobaaGreatDoorBug
namespace Go.Proofs.YtolnnkalgioobaaGreatDoor
open Go.RowKit
set_option maxRecDepth 100000
set_option linter.unusedVariables false
set_option linter.unusedSimpArgs false
set_option linter.unnecessarySimpa false

def rowCells (E : Ents) : Nat → List Value
  | 0 => []
  | k + 1 => rowCells E k ++ [E.l k, .slice none 0 0, .int .i64 ((E.n k : Nat) : Int)]
theorem rowCells_len (E : Ents) : ∀ k, (rowCells E k).length = k * 3
  | 0 => rfl
  | k + 1 => by simp [rowCells, rowCells_len E k]; omega
theorem rowCells_at (E : Ents) : ∀ k j, j < k → (rowCells E k)[j * 3]? = some (E.l j) ∧ (rowCells E k)[j * 3 + 1]? = some (.slice none 0 0) ∧ (rowCells E k)[j * 3 + 2]? = some (.int .i64 ((E.n j : Nat) : Int))
  | 0, j, h => by omega
  | k + 1, j, h => by
    have hl := rowCells_len E k
    by_cases e : j = k
    · subst e
      simp only [rowCells]
      refine ⟨?_, ?_, ?_⟩
      · rw [List.getElem?_append_right (by omega), hl, Nat.sub_self]; rfl
      · rw [List.getElem?_append_right (by omega), hl, Nat.add_sub_cancel_left]; rfl
      · rw [List.getElem?_append_right (by omega), hl, Nat.add_sub_cancel_left]; rfl
    · obtain ⟨h1, h2, h3⟩ := rowCells_at E k j (by omega)
      simp only [rowCells]
      refine ⟨?_, ?_, ?_⟩
      · rw [List.getElem?_append_left (by omega)]; exact h1
      · rw [List.getElem?_append_left (by omega)]; exact h2
      · rw [List.getElem?_append_left (by omega)]; exact h3
def one4 (v : Value) : Nat → Value := fun k => if k = 7 then v else .slice none 0 0
structure Fills (w : World) (B p : Nat) (E : Ents) (v : Value) : Prop where
  bk : BookAt w p E.N (one4 v)
  hB : B ≤ w.heap.size
  row : w.ownsRow B 118 3 v E.N (rowCells E E.N)
  own : ∀ j, j < E.N → ∃ xs, Own w B 52 .u16 (E.l j) xs ∧ xs.length = E.len j
  ne : ∀ i j, i < E.N → j < E.N → i ≠ j → ∀ g, (E.l i).ownBlock = some g → (E.l j).ownBlock ≠ some g
  lp : ∀ j, j < E.N → (E.l j).ownBlock ≠ some p
  vp : v.ownBlock ≠ some p
  lv : ∀ j g, j < E.N → (E.l j).ownBlock = some g → v.ownBlock ≠ some g
  n : ∀ j, E.n j = j + 1
  len : ∀ j, j < E.N → E.len j ≤ 100000000000
  N : E.N ≤ 100000
def Ents.none : Ents := ⟨0, fun _ => .none, fun _ => 0, fun _ => 0, fun j => j + 1⟩
def Ents.push (E : Ents) (A : Option Addr) (len cap : Nat) : Ents := ⟨E.N + 1, fun j => if j = E.N then A else E.A j, fun j => if j = E.N then len else E.len j, fun j => if j = E.N then cap else E.cap j, E.n⟩
theorem Ents.push_l (E : Ents) (A : Option Addr) (len cap : Nat) (j : Nat) : (E.push A len cap).l j = if j = E.N then .slice A len cap else E.l j := by
  simp only [Ents.l, Ents.push]; split <;> rfl
theorem rowCells_push (E : Ents) (A : Option Addr) (len cap : Nat) : ∀ k, k ≤ E.N → rowCells (E.push A len cap) k = rowCells E k
  | 0, _ => rfl
  | k + 1, h => by
    simp only [rowCells]
    rw [rowCells_push E A len cap k (by omega), Ents.push_l, if_neg (by omega)]
    rfl
theorem Fills.below {w w1 : World} {B p : Nat} {E : Ents} {v : Value} (h : Fills w B p E v) (hb : Below w.heap.size w w1) : Fills w1 B p E v :=
  ⟨(hb.block p h.bk.lt).trans h.bk, Nat.le_trans h.hB hb.size, World.ownsRow.kept h.row (row := none) ⟨hb.os, hb.tape, hb.output, hb.size, fun i hi _ => hb.block i hi⟩ (by cases v.ownBlock <;> simp), fun j hj => by obtain ⟨xs, h1, h2⟩ := h.own j hj; exact ⟨xs, h1.kept hb, h2⟩, h.ne, h.lp, h.vp, h.lv, h.n, h.len, h.N⟩
theorem Fills.begin {w : World} {B p : Nat} (hb : BookAt w p 0 (one4 (.slice .none 0 0))) (hB : B ≤ w.heap.size) : Fills w B p Ents.none (.slice .none 0 0) :=
  ⟨hb, hB, World.ownsRow_nil _ _ _ _, fun j hj => absurd hj (Nat.not_lt_zero j), fun i j hi => absurd hi (Nat.not_lt_zero i), fun j hj => absurd hj (Nat.not_lt_zero j), by simp [Value.ownBlock], fun j g hj => absurd hj (Nat.not_lt_zero j), fun j => rfl, fun j hj => absurd hj (Nat.not_lt_zero j), Nat.zero_le _⟩
theorem own_low {W : World} {B B' : Nat} {v : Value} {xs : List Int} (h : Own W B 52 .u16 v xs) (hb : B' ≤ B) : Own W B' 52 .u16 v xs := by
  refine ⟨h.1, ?_⟩
  rcases h.2 with h2 | ⟨g, cap, cur, rfl, h1, r⟩
  · exact .inl h2
  · exact .inr ⟨g, cap, cur, rfl, Nat.le_trans hb h1, r⟩
/-- One more list. -/
theorem Fills.push2 {w w' : World} {B p : Nat} {E : Ents} {v : Value} (h : Fills w B p E v) {A : Option Addr} {len cap : Nat} {xs : List Int} (ho : Own w B 52 .u16 (.slice A len cap) xs) (hx : xs.length = len) (hl : len ≤ 100000000000)
    (hN : E.N + 1 ≤ 100000) (hnew : ∀ i, (Value.slice A len cap).ownBlock = some i → i ≠ p ∧ v.ownBlock ≠ some i ∧ ∀ j, j < E.N → (E.l j).ownBlock ≠ some i)
    (hk : KeepPost p E.N E.N B (one4 v) (rowCells E E.N) (.slice A len cap) w w') : ∃ v', Fills w' B p (E.push A len cap) v' ∧ ∀ i, v'.ownBlock = some i → v.ownBlock = some i ∨ w.heap.size ≤ i := by
  obtain ⟨g, cap1, k1, k2, k3⟩ := hk.ex
  have hS : ∀ i, (∀ j, j < E.N → (E.l j).ownBlock = some i → ¬ (i = p ∨ some i = (one4 v 7).ownBlock)) := fun i j hj hi hh => by
    rcases hh with hh | hh
    · exact h.lp j hj (by rw [hi, hh])
    · exact h.lv j i hj hi hh.symm
  have hlt : ∀ j i, j < E.N → (E.l j).ownBlock = some i → i < w.heap.size := fun j i hj hi => by
    obtain ⟨xs, h1, _⟩ := h.own j hj
    exact (World.ownsRow.lt h1 i hi).2
  have hlt2 : ∀ i, (Value.slice A len cap).ownBlock = some i → i < w.heap.size := fun i hi => (World.ownsRow.lt ho i hi).2
  have hplt := h.bk.lt
  have hgp : g ≠ p := by
    rintro rfl
    rcases k3 with k3 | k3
    · exact h.vp k3
    · omega
  have hown : ∀ {B2 : Nat} {u : Value} {ys : List Int}, Own w B2 52 .u16 u ys → (∀ i, u.ownBlock = some i → ¬ (i = p ∨ some i = (one4 v 7).ownBlock)) → Own w' B2 52 .u16 u ys := fun ho hh => own_on ho fun i hi => hk.k.block i (World.ownsRow.lt ho i hi).2 (hh i hi)
  have hfresh : ∀ i, (Value.slice A len cap).ownBlock = some i → ¬ (i = p ∨ some i = (one4 v 7).ownBlock) := fun i hi hh => by
    obtain ⟨q1, q2, _⟩ := hnew i hi
    rcases hh with hh | hh
    · exact q1 hh
    · exact q2 hh.symm
  refine ⟨.slice (some ⟨g, 0, none⟩) (E.N + 1) cap1, ⟨?_, by have := h.hB; have := hk.k.size; omega, ?_, fun j hj => ?_, fun i j hi hj hij g1 hg1 => ?_, fun j hj => ?_, ?_, fun j g1 hj hg1 => ?_, h.n, fun j hj => ?_, hN⟩, fun i hi => ?_⟩
  · have : upd (one4 v) 7 (.slice (some ⟨g, 0, none⟩) (E.N + 1) cap1) = one4 (.slice (some ⟨g, 0, none⟩) (E.N + 1) cap1) := by
      funext k; simp only [upd, one4]; split <;> rfl
    rw [← this]
    exact k1
  · have e1 : rowCells (E.push A len cap) (E.N + 1) = rowCells E E.N ++ [.slice A len cap, .slice .none 0 0, .int .i64 ((E.N + 1 : Nat) : Int)] := by
      simp only [rowCells]
      rw [rowCells_push E A len cap E.N (Nat.le_refl _), Ents.push_l, if_pos rfl]
      simp only [Ents.push]
      rw [h.n]
    show w'.ownsRow B 118 3 _ (E.N + 1) (rowCells (E.push A len cap) (E.N + 1))
    rw [e1]
    exact k2
  · rw [Ents.push_l]
    by_cases e : j = E.N
    · rw [if_pos e]
      exact ⟨xs, hown ho hfresh, by simp only [Ents.push]; rw [if_pos e]; exact hx⟩
    · rw [if_neg e]
      have hj' : j < E.N := by simp only [Ents.push] at hj; omega
      obtain ⟨ys, h1, h2⟩ := h.own j hj'
      exact ⟨ys, hown h1 (fun i hi => hS i j hj' hi), by simp only [Ents.push]; rw [if_neg e]; exact h2⟩
  · have hi' : i < E.N + 1 := hi
    have hj' : j < E.N + 1 := hj
    rw [Ents.push_l] at hg1 ⊢
    by_cases e : i = E.N
    · rw [if_pos e] at hg1
      rw [if_neg (by omega)]
      exact (hnew g1 hg1).2.2 j (by omega)
    · rw [if_neg e] at hg1
      by_cases e2 : j = E.N
      · rw [if_pos e2]
        intro h2
        exact (hnew g1 h2).2.2 i (by omega) hg1
      · rw [if_neg e2]
        exact h.ne i j (by omega) (by omega) hij g1 hg1
  · have hj' : j < E.N + 1 := hj
    rw [Ents.push_l]
    by_cases e : j = E.N
    · rw [if_pos e]
      intro h2
      exact hfresh p h2 (.inl rfl)
    · rw [if_neg e]
      exact h.lp j (by omega)
  · simp only [Value.ownBlock, ne_eq, Option.some.injEq]
    exact hgp
  · have hj' : j < E.N + 1 := hj
    simp only [Value.ownBlock, ne_eq, Option.some.injEq]
    rintro rfl
    rw [Ents.push_l] at hg1
    by_cases e : j = E.N
    · rw [if_pos e] at hg1
      rcases k3 with k3 | k3
      · exact hfresh g hg1 (.inr k3.symm)
      · have := hlt2 g hg1; omega
    · rw [if_neg e] at hg1
      rcases k3 with k3 | k3
      · exact h.lv j g (by omega) hg1 k3
      · have := hlt j g (by omega) hg1; omega
  · have hj' : j < E.N + 1 := hj
    simp only [Ents.push]
    by_cases e : j = E.N
    · rw [if_pos e]; exact hl
    · rw [if_neg e]; exact h.len j (by omega)
  · simp only [Value.ownBlock, Option.some.injEq] at hi
    subst hi
    exact k3
theorem Fills.push {w0 w w' : World} {B p : Nat} {E : Ents} {v : Value} (h0 : Fills w0 B p E v) (hb : Below w0.heap.size w0 w) {A : Option Addr} {len cap : Nat} {xs : List Int} (ho : Own w w0.heap.size 52 .u16 (.slice A len cap) xs) (hx : xs.length = len) (hl : len ≤ 100000000000)
    (hN : E.N + 1 ≤ 100000) (hk : KeepPost p E.N E.N B (one4 v) (rowCells E E.N) (.slice A len cap) w w') : ∃ v', Fills w' B p (E.push A len cap) v' := by
  obtain ⟨v', h1, _⟩ := (h0.below hb).push2 (own_low ho h0.hB) hx hl hN (fun i hi => by
    have h1 := (World.ownsRow.lt ho i hi).1
    refine ⟨by rintro rfl; have := h0.bk.lt; omega, fun e => by have := (World.ownsRow.lt h0.row i e).2; omega, fun j hj e => ?_⟩
    obtain ⟨ys, h2, _⟩ := h0.own j hj
    have := (World.ownsRow.lt h2 i e).2
    omega) hk
  exact ⟨v', h1⟩
theorem Fills.shelf {w : World} {B p : Nat} {E : Ents} {v : Value} (h : Fills w B p E v) (hN : 0 < E.N) : ∃ q cp, v = .slice (some ⟨q, 0, none⟩) E.N cp ∧ B ≤ q ∧ Shelf E p q B cp E.N (one4 v) w := by
  rcases h.row.2 with ⟨_, h0⟩ | ⟨q, cp, cur, hv, hBq, hc, r1, r2, r3, r4⟩
  · omega
  · have hvq : v.ownBlock = some q := by rw [hv]; rfl
    refine ⟨q, cp, hv, hBq, h.bk, hv, fun k h1 h2 h3 => by simp only [one4]; rw [if_neg h3], ⟨cur, hc⟩, fun j hj => ?_, h.own, ⟨h.ne, ?_, ?_⟩, ?_, fun j g hj hg => ?_, ?_, by have := h.N; omega, fun j hj => by have := h.N; rw [h.n]; omega, h.len⟩
    · obtain ⟨h1, h2, h3⟩ := rowCells_at E E.N j hj
      have hcell := h.row.cells hvq
      have q1 := hcell _ _ h1
      have q2 := hcell _ _ h2
      have q3 := hcell _ _ h3
      rw [add_plain] at q1 q2 q3
      exact ⟨q1, q2, q3⟩
    · rintro ⟨j, hj, hg⟩
      exact h.lp j hj hg
    · rintro ⟨j, hj, hg⟩
      exact h.lv j q hj hg hvq
    · rintro rfl
      exact h.vp hvq
    · obtain ⟨xs, h1, _⟩ := h.own j hj
      exact (World.ownsRow.lt h1 g hg).2
    · exact h.hB
/-- The Book's own answer. -/
theorem fills_apart {w : World} {B p : Nat} {E : Ents} {v : Value} (h : Fills w B p E v) (hN : 0 < E.N) :
    Calls Tryz.prog 13 #[.pointer (some ⟨p, 0, none⟩)] w fun e w' => e = .returned (.bool true) ∧ Below B w w' := by
  obtain ⟨q, cp, hv, hBq, hs⟩ := h.shelf hN
  refine (apart_any E p q B cp E.N (one4 v) w hs).mono ?_
  rintro e w' ⟨rfl, hk⟩
  refine ⟨rfl, hk.toBelow (fun k _ hh => ?_) hs.B⟩
  rcases hh with ⟨j, hj, hg⟩ | rfl
  · obtain ⟨xs, h1, _⟩ := h.own j hj
    exact (World.ownsRow.lt h1 k hg).1
  · exact hBq
theorem fills_keep {w : World} {B p : Nat} {E : Ents} {v : Value} (h : Fills w B p E v) (A : Option Addr) (len cap : Nat) :
    Calls Tryz.prog 22 #[.pointer (some ⟨p, 0, none⟩), .slice A len cap] w fun e w' => e = .returned (.tuple #[]) ∧ KeepPost p E.N E.N B (one4 v) (rowCells E E.N) (.slice A len cap) w w' :=
  keeps_any p E.N E.N B (one4 v) (rowCells E E.N) A len cap w h.bk h.hB h.row h.vp (by have := h.N; omega) (by have := h.N; omega)
end Go.Proofs.YtolnnkalgioobaaGreatDoor
