/- Vxa · Vxh · Vxk: merged. -/
import Derived.Handy
namespace Go.Proofs.YtcpkjmpbpmeclaaGreatDoor
set_option maxRecDepth 100000
set_option linter.unusedVariables false
set_option linter.unusedSimpArgs false
set_option linter.unnecessarySimpa false

section
variable {α : Type} (c : α → α → Int)
/-- Two lists in order as one. -/
def mergeL : List α → List α → List α
 | [], b => b
 | x :: a, [] => x :: a
 | x :: a, y :: b => if c y x < 0 then y :: mergeL (x :: a) b else x :: mergeL a (y :: b)
termination_by a b => a.length + b.length
theorem mergeL_nil (b : List α) : mergeL c [] b = b := by rw [mergeL]
theorem mergeL_nil2 (a : List α) : mergeL c a [] = a := by cases a <;> rw [mergeL]
theorem mergeL_cons (x y : α) (a b : List α) : mergeL c (x :: a) (y :: b) = if c y x < 0 then y :: mergeL c (x :: a) b else x :: mergeL c a (y :: b) := by rw [mergeL]
theorem mergeL_perm : ∀ (n : Nat) (a b : List α), a.length + b.length ≤ n → (mergeL c a b).Perm (a ++ b)
 | n, [], b, h => by rw [mergeL_nil]; exact List.Perm.refl _
 | n, x :: a, [], h => by rw [mergeL_nil2]; simp
 | 0, x :: a, y :: b, h => by simp at h
 | n + 1, x :: a, y :: b, h => by
  rw [mergeL_cons]
  split
  ·have := mergeL_perm n (x :: a) b (by simp at h ⊢; omega)
   exact (this.cons y).trans (List.perm_middle.symm)
  ·exact (mergeL_perm n a (y :: b) (by simp at h ⊢; omega)).cons x
theorem mergeL_len (a b : List α) : (mergeL c a b).length = a.length + b.length := by
 have := (mergeL_perm c _ a b (Nat.le_refl _)).length_eq
 simpa using this
/-- None is above one that stands behind it. -/
def SortedC (l : List α) : Prop := l.Pairwise fun x y => c x y ≤ 0
structure OrdC (c : α → α → Int) : Prop where
 anti : ∀ x y, c y x = - c x y
 tri : ∀ x y z, c x y ≤ 0 → c y z ≤ 0 → c x z ≤ 0
theorem mergeL_sorted (hc : OrdC c) : ∀ (n : Nat) (a b : List α), a.length + b.length ≤ n → SortedC c a → SortedC c b → SortedC c (mergeL c a b)
 | n, [], b, h, ha, hb => by rw [mergeL_nil]; exact hb
 | n, x :: a, [], h, ha, hb => by rw [mergeL_nil2]; exact ha
 | 0, x :: a, y :: b, h, ha, hb => by simp at h
 | n + 1, x :: a, y :: b, h, ha, hb => by
  have a1 := List.pairwise_cons.1 ha
  have b1 := List.pairwise_cons.1 hb
  rw [mergeL_cons]
  split
  ·rename_i hlt
   refine List.pairwise_cons.2 ⟨fun z hz => ?_, mergeL_sorted hc n (x :: a) b (by simp at h ⊢; omega) ha b1.2⟩
   rcases List.mem_append.1 ((mergeL_perm c _ _ _ (Nat.le_refl _)).mem_iff.1 hz) with hz | hz
   ·rcases List.mem_cons.1 hz with rfl | hz
    ·omega
    ·exact hc.tri _ _ _ (by omega) (a1.1 z hz)
   ·exact b1.1 z hz
  ·rename_i hlt
   refine List.pairwise_cons.2 ⟨fun z hz => ?_, mergeL_sorted hc n a (y :: b) (by simp at h ⊢; omega) a1.2 hb⟩
   have hxy : c x y ≤ 0 := by have := hc.anti x y; omega
   rcases List.mem_append.1 ((mergeL_perm c _ _ _ (Nat.le_refl _)).mem_iff.1 hz) with hz | hz
   ·exact a1.1 z hz
   ·rcases List.mem_cons.1 hz with rfl | hz
    ·exact hxy
    ·exact hc.tri _ _ _ hxy (b1.1 z hz)
/-- All pieces of one size are in order. -/
def RunsC (n : Nat) (l : List α) : Prop := ∀ k, SortedC c ((l.drop (k * n)).take n)
theorem runs_one (l : List α) : RunsC c 1 l := fun k => by
 unfold SortedC
 have : ((l.drop (k * 1)).take 1).length ≤ 1 := by simp; omega
 match h : (l.drop (k * 1)).take 1, this with
 | [], _ => exact List.Pairwise.nil
 | [x], _ => simp
/-- What stands when pieces up to 'from' (a multiple of 2 n) have been merged. -/
def MergedTo (n : Nat) (l : List α) (k : Nat) (m : List α) : Prop :=
 m.length = min (k * (2 * n)) l.length ∧ m.Perm (l.take (k * (2 * n))) ∧ ∀ j, SortedC c ((m.drop (j * (2 * n))).take (2 * n))
theorem merged_zero (n : Nat) (l : List α) : MergedTo c n l 0 [] := ⟨by simp, by simp, fun j => by simp [SortedC]⟩
theorem merged_next (hc : OrdC c) (n k : Nat) (l m : List α) (hn : 0 < n) (hr : RunsC c n l) (h : MergedTo c n l k m) (hk : k * (2 * n) < l.length) :
  MergedTo c n l (k + 1) (m ++ mergeL c ((l.drop (k * (2 * n))).take n) ((l.drop (k * (2 * n) + n)).take n)) := by
 obtain ⟨h1, h2, h3⟩ := h
 have e0 : k * (2 * n) = (2 * k) * n := by rw [Nat.mul_comm 2 k, Nat.mul_assoc]
 have e1 : (k + 1) * (2 * n) = k * (2 * n) + 2 * n := by rw [Nat.add_mul, Nat.one_mul]
 have hml : m.length = k * (2 * n) := by rw [h1]; omega
 have ha := hr (2 * k)
 have hb := hr (2 * k + 1)
 have e2 : (2 * k + 1) * n = k * (2 * n) + n := by rw [Nat.add_mul, ← e0]; omega
 rw [← e0] at ha
 rw [e2] at hb
 have hq : ∀ j, j < k → j * (2 * n) + 2 * n ≤ k * (2 * n) := fun j hj => by
  have := Nat.mul_le_mul_right (2 * n) (show j + 1 ≤ k from hj)
  rwa [Nat.add_mul, Nat.one_mul] at this
 have hq2 : ∀ j, k < j → k * (2 * n) + 2 * n ≤ j * (2 * n) := fun j hj => by
  have := Nat.mul_le_mul_right (2 * n) (show k + 1 ≤ j from hj)
  rwa [Nat.add_mul, Nat.one_mul] at this
 have hqe : ∀ j, j = k → j * (2 * n) = k * (2 * n) := fun j hj => by rw [hj]
 unfold MergedTo
 rw [e1]
 clear e0 e1 e2
 generalize k * (2 * n) = q at *
 have hs := mergeL_sorted c hc _ _ _ (Nat.le_refl _) ha hb
 have hp := mergeL_perm c _ ((l.drop q).take n) ((l.drop (q + n)).take n) (Nat.le_refl _)
 have hl2 := mergeL_len c ((l.drop q).take n) ((l.drop (q + n)).take n)
 have split2 : l.take (q + 2 * n) = l.take q ++ ((l.drop q).take n ++ (l.drop (q + n)).take n) := by
  rw [show q + 2 * n = q + (n + n) from by omega, List.take_add, List.take_add, List.drop_drop]
 refine ⟨?_, ?_, fun j => ?_⟩
 ·simp only [List.length_append, hl2, List.length_take, List.length_drop]
  omega
 ·rw [split2]
  exact List.Perm.append h2 hp
 ·by_cases hj : j < k
  ·have := hq j hj
   rw [List.drop_append_of_le_length (by omega), List.take_append_of_le_length (by simp; omega)]
   exact h3 j
  ·by_cases he : j = k
   ·rw [hqe j he, List.drop_append, List.drop_eq_nil_of_le (by omega), hml, Nat.sub_self, List.drop_zero, List.nil_append]
    exact List.Pairwise.sublist (List.take_sublist _ _) hs
   ·have := hq2 j (by omega)
    rw [List.drop_eq_nil_of_le (by simp only [List.length_append, hl2, List.length_take, List.length_drop]; omega)]
    simp [SortedC]
/-- All pieces merged. -/
theorem merged_end (n k : Nat) (l m : List α) (h : MergedTo c n l k m) (hk : l.length ≤ k * (2 * n)) : m.length = l.length ∧ m.Perm l ∧ RunsC c (2 * n) m := by
 obtain ⟨h1, h2, h3⟩ := h
 rw [List.take_of_length_le hk] at h2
 exact ⟨by omega, h2, h3⟩
theorem runs_whole (n : Nat) (l : List α) (h : RunsC c n l) (hn : l.length ≤ n) : SortedC c l := by
 have := h 0
 rwa [Nat.zero_mul, List.drop_zero, List.take_of_length_le hn] at this
end
end Go.Proofs.YtcpkjmpbpmeclaaGreatDoor
namespace Go.Proofs.YtcpkjmpbpmeclaaGreatDoor
set_option maxRecDepth 100000
set_option linter.unusedVariables false
set_option linter.unusedSimpArgs false
set_option linter.unnecessarySimpa false

section
variable {α : Type} (c c' : α → α → Int)
theorem mergeL_same : ∀ (n : Nat) (a b : List α), a.length + b.length ≤ n → (∀ x ∈ a, ∀ y ∈ b, c y x < 0 ↔ c' y x < 0) → mergeL c a b = mergeL c' a b
 | n, [], b, h, _ => by rw [mergeL_nil, mergeL_nil]
 | n, x :: a, [], h, _ => by rw [mergeL_nil2, mergeL_nil2]
 | 0, x :: a, y :: b, h, _ => by simp at h
 | n + 1, x :: a, y :: b, h, hs => by
  rw [mergeL_cons, mergeL_cons]
  have h1 := hs x (by simp) y (by simp)
  have e1 := mergeL_same n (x :: a) b (by simp at h ⊢; omega) fun u hu v hv => hs u hu v (List.mem_cons_of_mem _ hv)
  have e2 := mergeL_same n a (y :: b) (by simp at h ⊢; omega) fun u hu v hv => hs u (List.mem_cons_of_mem _ hu) v hv
  by_cases h2 : c y x < 0
  ·rw [if_pos h2, if_pos (h1.1 h2), e1]
  ·rw [if_neg h2, if_neg (fun h => h2 (h1.2 h)), e2]
/-- Of two that stand one behind the other both orders say alike whether the later is below. -/
def Stab (L : List α) : Prop := ∀ i j (hi : i < L.length) (hj : j < L.length), i < j → (c L[j] L[i] < 0 ↔ c' L[j] L[i] < 0)
/-- Piece by piece the same elements. -/
def PiecesP (n : Nat) (L l : List α) : Prop := l.length = L.length ∧ ∀ k, ((l.drop (k * n)).take n).Perm ((L.drop (k * n)).take n)
/-- In order piece by piece. -/
def SortS (n : Nat) (L l : List α) : Prop := RunsC c' n l ∧ PiecesP n L l
theorem sort_start (L : List α) : SortS c' 1 L L := ⟨runs_one c' L, rfl, fun _ => List.Perm.refl _⟩
/-- The pieces ahead of number k of twice the size are merged. -/
def SortM (n : Nat) (l : List α) (k : Nat) (m : List α) : Prop :=
 MergedTo c' n l k m ∧ ∀ j, j < k → ((m.drop (j * (2 * n))).take (2 * n)).Perm ((l.drop (j * (2 * n))).take (2 * n))
theorem sortM_zero (n : Nat) (l : List α) : SortM c' n l 0 [] := ⟨merged_zero c' n l, fun j hj => absurd hj (Nat.not_lt_zero _)⟩
theorem piece_get {L : List α} {q n : Nat} {x : α} (h : x ∈ (L.drop q).take n) : ∃ i, ∃ hi : i < L.length, L[i] = x ∧ q ≤ i ∧ i < q + n := by
 obtain ⟨i, hi, e⟩ := List.mem_iff_getElem.1 h
 rw [List.length_take, List.length_drop] at hi
 refine ⟨q + i, by omega, ?_, by omega, by omega⟩
 rw [List.getElem_take, List.getElem_drop] at e
 exact e
theorem sortM_next (hc : OrdC c') (n k : Nat) (L l m : List α) (hn : 0 < n) (hst : Stab c c' L) (hS : SortS c' n L l) (h : SortM c' n l k m) (hk : k * (2 * n) < l.length) :
  SortM c' n l (k + 1) (m ++ mergeL c ((l.drop (k * (2 * n))).take n) ((l.drop (k * (2 * n) + n)).take n)) := by
 obtain ⟨h1, h2⟩ := h
 obtain ⟨s1, s2, s3⟩ := hS
 have p1 := s3 (2 * k)
 have p2 := s3 (2 * k + 1)
 have e0 : (2 * k) * n = k * (2 * n) := by rw [Nat.mul_comm 2 k, Nat.mul_assoc]
 have e2 : (2 * k + 1) * n = k * (2 * n) + n := by rw [Nat.add_mul, e0]; omega
 rw [e0] at p1
 rw [e2] at p2
 have hsame : mergeL c ((l.drop (k * (2 * n))).take n) ((l.drop (k * (2 * n) + n)).take n) = mergeL c' ((l.drop (k * (2 * n))).take n) ((l.drop (k * (2 * n) + n)).take n) :=
  mergeL_same c c' _ _ _ (Nat.le_refl _) fun x hx y hy => by
   obtain ⟨i, hi, rfl, hi1, hi2⟩ := piece_get (p1.mem_iff.1 hx)
   obtain ⟨j, hj, rfl, hj1, hj2⟩ := piece_get (p2.mem_iff.1 hy)
   exact hst i j hi hj (by omega)
 rw [hsame]
 refine ⟨merged_next c' hc n k l m hn s1 h1 hk, fun j hj => ?_⟩
 have hml : m.length = k * (2 * n) := by have := h1.1; omega
 have hl2 := mergeL_len c' ((l.drop (k * (2 * n))).take n) ((l.drop (k * (2 * n) + n)).take n)
 have hp := mergeL_perm c' _ ((l.drop (k * (2 * n))).take n) ((l.drop (k * (2 * n) + n)).take n) (Nat.le_refl _)
 by_cases hjk : j < k
 ·have hq : j * (2 * n) + 2 * n ≤ k * (2 * n) := by
   have := Nat.mul_le_mul_right (2 * n) (show j + 1 ≤ k from hjk)
   rwa [Nat.add_mul, Nat.one_mul] at this
  rw [List.drop_append_of_le_length (by omega), List.take_append_of_le_length (by simp; omega)]
  exact h2 j hjk
 ·obtain rfl : j = k := by omega
  rw [List.drop_append, List.drop_eq_nil_of_le (by omega), hml, Nat.sub_self, List.drop_zero, List.nil_append]
  rw [List.take_of_length_le (by rw [hl2]; simp only [List.length_take]; omega)]
  refine hp.trans ?_
  rw [show 2 * n = n + n by omega, List.take_add, List.drop_drop]
theorem pieces_double {n : Nat} {L l : List α} (h : PiecesP n L l) : PiecesP (2 * n) L l := ⟨h.1, fun k => by
 have p1 := h.2 (2 * k)
 have p2 := h.2 (2 * k + 1)
 have e0 : (2 * k) * n = k * (2 * n) := by rw [Nat.mul_comm 2 k, Nat.mul_assoc]
 have e2 : (2 * k + 1) * n = k * (2 * n) + n := by rw [Nat.add_mul, e0]; omega
 rw [e0] at p1
 rw [e2] at p2
 generalize k * (2 * n) = q at *
 rw [show 2 * n = n + n by omega, List.take_add, List.take_add, List.drop_drop, List.drop_drop]
 exact p1.append p2⟩
theorem sortM_end (n k : Nat) (L l m : List α) (hS : SortS c' n L l) (h : SortM c' n l k m) (hk : l.length ≤ k * (2 * n)) : SortS c' (2 * n) L m := by
 obtain ⟨h1, h2⟩ := h
 obtain ⟨e1, e2, e3⟩ := merged_end c' n k l m h1 hk
 have hd := pieces_double hS.2
 refine ⟨e3, by rw [e1]; exact hd.1, fun j => ?_⟩
 by_cases hj : j < k
 ·exact (h2 j hj).trans (hd.2 j)
 ·have hq : k * (2 * n) ≤ j * (2 * n) := Nat.mul_le_mul_right _ (by omega)
  rw [List.drop_eq_nil_of_le (by omega), List.drop_eq_nil_of_le (by have := hd.1; omega)]
theorem sortS_whole (n : Nat) (L l : List α) (h : SortS c' n L l) (hn : L.length ≤ n) : SortedC c' l ∧ l.Perm L := by
 obtain ⟨h1, h2, h3⟩ := h
 refine ⟨runs_whole c' n l h1 (by omega), ?_⟩
 have := h3 0
 rwa [Nat.zero_mul, List.drop_zero, List.drop_zero, List.take_of_length_le (by omega), List.take_of_length_le hn] at this
theorem sortM_len {n k : Nat} {l m : List α} (h : SortM c' n l k m) (hk : k * (2 * n) ≤ l.length) : m.length = k * (2 * n) := by
 have := h.1.1
 omega
end
end Go.Proofs.YtcpkjmpbpmeclaaGreatDoor
namespace Go.Proofs.YtcpkjmpbpmeclaaGreatDoor
set_option maxRecDepth 100000
set_option linter.unusedVariables false
set_option linter.unusedSimpArgs false
set_option linter.unnecessarySimpa false

section
variable {α : Type} (c : α → α → Int)
theorem OrdC.self {c : α → α → Int} (h : OrdC c) (x : α) : c x x = 0 := by have := h.anti x x; omega
theorem OrdC.lt_le {c : α → α → Int} (h : OrdC c) {x y z : α} (h1 : c x y < 0) (h2 : c y z ≤ 0) : c x z < 0 := by
 have a1 := h.tri x y z (by omega) h2
 have a2 := h.anti x z
 have a3 := h.anti x y
 rcases Int.lt_or_lt_of_ne (a := c x z) (b := 0) |> fun f => (Decidable.em (c x z = 0)).imp id f with h0 | h0 | h0
 ·have := h.tri y z x h2 (by omega)
  omega
 ·exact h0
 ·omega
theorem OrdC.le_lt {c : α → α → Int} (h : OrdC c) {x y z : α} (h1 : c x y ≤ 0) (h2 : c y z < 0) : c x z < 0 := by
 have a1 := h.tri x y z h1 (by omega)
 have a2 := h.anti x z
 have a3 := h.anti y z
 rcases Int.lt_or_lt_of_ne (a := c x z) (b := 0) |> fun f => (Decidable.em (c x z = 0)).imp id f with h0 | h0 | h0
 ·have := h.tri z x y (by omega) h1
  omega
 ·exact h0
 ·omega
theorem OrdC.eq_eq {c : α → α → Int} (h : OrdC c) {x y z : α} (h1 : c x y = 0) (h2 : c y z = 0) : c x z = 0 := by
 have a1 := h.tri x y z (by omega) (by omega)
 have a2 := h.tri z y x (by have := h.anti y z; omega) (by have := h.anti x y; omega)
 have a3 := h.anti x z
 omega
/-- Places, by what stands there and then by their number. -/
def lexI (g : Int → α) (x y : Int) : Int := if c (g x) (g y) = 0 then x - y else c (g x) (g y)
theorem lexI_ord {c : α → α → Int} (h : OrdC c) (g : Int → α) : OrdC (lexI c g) := by
 refine ⟨fun x y => ?_, fun x y z h1 h2 => ?_⟩
 ·have := h.anti (g x) (g y)
  unfold lexI
  by_cases h0 : c (g x) (g y) = 0
  ·rw [if_pos h0, if_pos (by omega)]; omega
  ·rw [if_neg h0, if_neg (by omega)]; exact this
 ·unfold lexI at h1 h2 ⊢
  by_cases hx : c (g x) (g y) = 0
  ·rw [if_pos hx] at h1
   by_cases hy : c (g y) (g z) = 0
   ·rw [if_pos hy] at h2
    rw [if_pos (h.eq_eq hx hy)]
    omega
   ·rw [if_neg hy] at h2
    have := h.le_lt (x := g x) (y := g y) (z := g z) (by omega) (by omega)
    rw [if_neg (by omega)]
    omega
  ·rw [if_neg hx] at h1
   have hz : c (g y) (g z) ≤ 0 := by
    by_cases hy : c (g y) (g z) = 0
    ·omega
    ·rwa [if_neg hy] at h2
   have := h.lt_le (x := g x) (y := g y) (z := g z) (by omega) hz
   rw [if_neg (by omega)]
   omega
theorem lexI_le {c : α → α → Int} {g : Int → α} {x y : Int} (h : lexI c g x y ≤ 0) : c (g x) (g y) ≤ 0 := by
 unfold lexI at h
 by_cases h0 : c (g x) (g y) = 0
 ·omega
 ·rwa [if_neg h0] at h
/-- The numbers below n. -/
def numsI (n : Nat) : List Int := (List.range n).map fun i : Nat => (i : Int)
theorem numsI_len (n : Nat) : (numsI n).length = n := by simp [numsI]
theorem numsI_get (n i : Nat) (h : i < (numsI n).length) : (numsI n)[i] = (i : Int) := by simp [numsI]
theorem numsI_mem {n : Nat} {x : Int} : x ∈ numsI n ↔ ∃ i : Nat, i < n ∧ x = i := by
 simp only [numsI, List.mem_map, List.mem_range]
 exact ⟨fun ⟨i, h, e⟩ => ⟨i, h, e.symm⟩, fun ⟨i, h, e⟩ => ⟨i, h, e.symm⟩⟩
theorem numsI_nodup (n : Nat) : (numsI n).Nodup := by
 unfold numsI
 rw [List.Nodup, List.pairwise_map]
 exact List.Pairwise.imp (fun {a b} (h : a ≠ b) => by intro e; exact h (Int.ofNat.inj e)) (List.nodup_range)
theorem lexI_stab {c : α → α → Int} (g : Int → α) (n : Nat) : Stab (fun x y => c (g x) (g y)) (lexI c g) (numsI n) := fun i j hi hj hij => by
 rw [numsI_get, numsI_get]
 unfold lexI
 by_cases h0 : c (g (j : Int)) (g (i : Int)) = 0
 ·rw [if_pos h0]
  exact ⟨fun h => absurd h (by show ¬ c _ _ < 0; omega), fun h => absurd h (by omega)⟩
 ·rw [if_neg h0]
/-- Which number is found: the first one that is alike an earlier one. -/
def TwiceAt (g : Int → α) (n : Nat) (f : Int) : Prop :=
 (f = -1 ∧ ∀ i j : Nat, i < j → j < n → c (g i) (g j) ≠ 0) ∨
 (∃ j : Nat, f = j ∧ j < n ∧ (∃ i : Nat, i < j ∧ c (g i) (g j) = 0) ∧ ∀ i k : Nat, i < k → k < j → c (g i) (g k) ≠ 0)
/-- What the first k pairs of neighbours tell. -/
def TwiceI (g : Int → α) (P : List Int) (k : Nat) (f : Int) : Prop :=
 (f = -1 ∧ ∀ j, j < k → ∀ h : j + 1 < P.length, c (g P[j]) (g P[j + 1]) ≠ 0) ∨
 (0 ≤ f ∧ (∃ j, j < k ∧ ∃ h : j + 1 < P.length, c (g P[j]) (g P[j + 1]) = 0 ∧ P[j + 1] = f) ∧ ∀ j, j < k → ∀ h : j + 1 < P.length, c (g P[j]) (g P[j + 1]) = 0 → f ≤ P[j + 1])
theorem twiceI_zero (g : Int → α) (P : List Int) : TwiceI c g P 0 (-1) := .inl ⟨rfl, fun j h => absurd h (Nat.not_lt_zero _)⟩
theorem twiceI_hit {g : Int → α} {P : List Int} {k : Nat} {f : Int} (h : TwiceI c g P k f) (hk : k + 1 < P.length) (hc : c (g P[k]) (g P[k + 1]) = 0) (hp : 0 ≤ P[k + 1]) (hf : f < 0 ∨ P[k + 1] < f) : TwiceI c g P (k + 1) P[k + 1] := by
 refine .inr ⟨hp, ⟨k, Nat.lt_succ_self _, hk, hc, rfl⟩, fun j hj hjl he => ?_⟩
 by_cases e : j = k
 ·subst e; exact Int.le_refl _
 ·rcases h with ⟨rfl, h⟩ | ⟨h0, _, h⟩
  ·exact absurd he (h j (by omega) hjl)
  ·have := h j (by omega) hjl he
   omega
theorem twiceI_miss {g : Int → α} {P : List Int} {k : Nat} {f : Int} (h : TwiceI c g P k f) (hc : ∀ hk : k + 1 < P.length, c (g P[k]) (g P[k + 1]) = 0 → 0 ≤ f ∧ f ≤ P[k + 1]) : TwiceI c g P (k + 1) f := by
 rcases h with ⟨rfl, h⟩ | ⟨h0, ⟨i, h1, h2⟩, h⟩
 ·refine .inl ⟨rfl, fun j hj hjl he => ?_⟩
  by_cases e : j = k
  ·subst e; have := (hc hjl he).1; omega
  ·exact h j (by omega) hjl he
 ·refine .inr ⟨h0, ⟨i, by omega, h2⟩, fun j hj hjl he => ?_⟩
  by_cases e : j = k
  ·subst e; exact (hc hjl he).2
  ·exact h j (by omega) hjl he
/-- Neighbours in order are alike just where a number is alike an earlier one. -/
theorem adj_iff {c : α → α → Int} (hc : OrdC c) (g : Int → α) (n : Nat) (P : List Int) (hs : SortedC (lexI c g) P) (hp : P.Perm (numsI n)) (m : Nat) (hm : m < n) :
  (∃ j, ∃ h : j + 1 < P.length, c (g P[j]) (g P[j + 1]) = 0 ∧ P[j + 1] = (m : Int)) ↔ ∃ i : Nat, i < m ∧ c (g i) (g m) = 0 := by
 have hnd : P.Nodup := hp.nodup_iff.2 (numsI_nodup n)
 have hpw := List.pairwise_iff_getElem.1 hs
 have hne := List.pairwise_iff_getElem.1 hnd
 constructor
 ·rintro ⟨j, h, h0, e⟩
  have h1 := hpw j (j + 1) (by omega) h (by omega)
  have h2 := hne j (j + 1) (by omega) h (by omega)
  obtain ⟨i, hi, ei⟩ := numsI_mem.1 (hp.mem_iff.1 (List.getElem_mem (show j < P.length by omega)))
  unfold lexI at h1
  rw [if_pos h0] at h1
  rw [ei, e] at h1 h2 h0
  exact ⟨i, by omega, h0⟩
 ·rintro ⟨i, hi, h0⟩
  obtain ⟨k, hk, ek⟩ := List.mem_iff_getElem.1 (hp.mem_iff.2 (numsI_mem.2 ⟨m, hm, rfl⟩))
  obtain ⟨q, hq, eq⟩ := List.mem_iff_getElem.1 (hp.mem_iff.2 (numsI_mem.2 ⟨i, by omega, rfl⟩))
  have hqk : q < k := by
   rcases Nat.lt_trichotomy q k with h | h | h
   ·exact h
   ·subst h
    rw [ek] at eq
    omega
   ·have := hpw k q hk hq h
    unfold lexI at this
    rw [ek, eq, if_pos (by have := hc.anti (g (i : Int)) (g (m : Int)); omega)] at this
    omega
  obtain ⟨j, rfl⟩ : ∃ j, k = j + 1 := ⟨k - 1, by omega⟩
  refine ⟨j, hk, ?_, ek⟩
  have a1 := lexI_le (hpw j (j + 1) (by omega) hk (by omega))
  have a2 : c (g P[q]) (g P[j]) ≤ 0 := by
   by_cases e : q = j
   ·subst e; have := hc.self (g P[q]); omega
   ·exact lexI_le (hpw q j hq (by omega) (by omega))
  have a3 : c (g P[q]) (g P[j + 1]) = 0 := by rw [eq, ek]; exact h0
  have := hc.le_lt (x := g P[q]) (y := g P[j]) (z := g P[j + 1]) a2
  omega
theorem twice_end {c : α → α → Int} (hc : OrdC c) (g : Int → α) (n : Nat) (P : List Int) (hs : SortedC (lexI c g) P) (hp : P.Perm (numsI n)) (k : Nat) (hk : P.length ≤ k + 1) (f : Int) (h : TwiceI c g P k f) : TwiceAt c g n f := by
 have hlen : P.length = n := by have := hp.length_eq; rwa [numsI_len] at this
 have hadj := adj_iff hc g n P hs hp
 rcases h with ⟨rfl, h⟩ | ⟨h0, ⟨j, hj, hjl, he, rfl⟩, h⟩
 ·refine .inl ⟨rfl, fun i j hij hj h0 => ?_⟩
  obtain ⟨q, hq, hz, _⟩ := (hadj j hj).2 ⟨i, hij, h0⟩
  exact h q (by omega) hq hz
 ·obtain ⟨m, hm, em⟩ := numsI_mem.1 (hp.mem_iff.1 (List.getElem_mem hjl))
  refine .inr ⟨m, em, hm, (hadj m hm).1 ⟨j, hjl, he, em⟩, fun i q hiq hqm hz => ?_⟩
  obtain ⟨r, hr, hz2, er⟩ := (hadj q (by omega)).2 ⟨i, hiq, hz⟩
  have := h r (by omega) hr hz2
  rw [er, em] at this
  omega
theorem sorted_unique {c : α → α → Int} (hc : OrdC c) : ∀ (a b : List α), SortedC c a → SortedC c b → a.Perm b → (∀ x ∈ a, ∀ y ∈ a, c x y = 0 → x = y) → a = b
 | [], b, _, _, hp, _ => (List.nil_perm.1 hp).symm
 | x :: a, [], _, _, hp, _ => absurd hp.length_eq (by simp)
 | x :: a, y :: b, ha, hb, hp, hu => by
  have a1 := List.pairwise_cons.1 ha
  have b1 := List.pairwise_cons.1 hb
  have hy : y ∈ x :: a := hp.mem_iff.2 (by simp)
  have hx : x ∈ y :: b := hp.mem_iff.1 (by simp)
  have h1 : c x y ≤ 0 := by
   rcases List.mem_cons.1 hy with rfl | h
   ·exact Int.le_of_eq (hc.self _)
   ·exact a1.1 y h
  have h2 : c y x ≤ 0 := by
   rcases List.mem_cons.1 hx with rfl | h
   ·exact Int.le_of_eq (hc.self _)
   ·exact b1.1 x h
  have e := hu x (by simp) y hy (by have := hc.anti x y; omega)
  subst e
  rw [sorted_unique hc a b a1.2 b1.2 (List.perm_cons _ |>.1 hp) fun u hu1 v hv1 => hu u (List.mem_cons_of_mem _ hu1) v (List.mem_cons_of_mem _ hv1)]
end
end Go.Proofs.YtcpkjmpbpmeclaaGreatDoor
