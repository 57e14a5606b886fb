/- Errors as trees; what errors.Is says of each. -/
import Derived.Test.YtfjgjhicinaolaaDoorM
import Derived.Test.YtfjgjhicinaolaaDoorN
import Derived.Handy
import Derived.BigQuiet
import Derived.Lib.Hide
import Derived.Outline
import Derived.Deep.MidRow
import Derived.Deep.RegionHeld3
import Derived.Deep.DeepCutAuto
import Derived.Deep.LoopGhost
namespace Go.Proofs.YtfjgjhicinaolaaDoor
open Go.RowKit Go.Extern.Stop Go.Stop Go.Extern
set_option maxRecDepth 100000
set_option linter.unusedVariables false
set_option linter.unusedSimpArgs false
set_option linter.unnecessarySimpa false

/-- An error: what it is made of. -/
inductive ET where
  | nil
  | sent (k : Nat)
  | other (ad : Addr)
  | fault (p : Nat) (n : Int) (s : ByteArray) (e : ET)
  | one (p : Nat) (e : ET)
  | many (p : Nat) (l : List ET)
  | nilF
  | claim (p : Nat) (c : Int)

mutual
def ET.sz : ET → Nat
  | .fault _ _ _ e => e.sz + 1
  | .one _ e => e.sz + 1
  | .many _ l => ET.szL l + 1
  | _ => 1
def ET.szL : List ET → Nat
  | [] => 0
  | e :: l => e.sz + ET.szL l
end
theorem ET.szL_mem {e : ET} : ∀ {l : List ET}, e ∈ l → e.sz ≤ ET.szL l
  | x :: l, h => by
    rcases List.mem_cons.1 h with rfl | h
    · simp [ET.szL]
    · have := ET.szL_mem h; simp [ET.szL]; omega
theorem ET.sz_pos (e : ET) : 1 ≤ e.sz := by cases e <;> simp [ET.sz]

def ET.val (a : Nat → Addr) : ET → Value
  | .nil => .nilIface
  | .sent k => .iface 94 (.pointer (some (a k)))
  | .other ad => .iface 94 (.pointer (some ad))
  | .fault p _ _ _ => .iface 41 (.pointer (some ⟨p, 0, none⟩))
  | .one p _ => .iface 67 (.pointer (some ⟨p, 0, none⟩))
  | .many p _ => .iface 70 (.pointer (some ⟨p, 0, none⟩))
  | .nilF => .iface 41 (.pointer none)
  | .claim p _ => .iface 73 (.pointer (some ⟨p, 0, none⟩))

/-- A slice that reads as a list. -/
def RowAt (w : World) (v : Value) (xs : List Value) : Prop :=
  (v = .slice none 0 0 ∧ xs = []) ∨ ∃ g c, v = .slice (some ⟨g, 0, none⟩) xs.length c ∧ xs.length ≤ c ∧ c ≤ 9223372036854775807 ∧ ∀ i x, xs[i]? = some x → w.cell? ⟨g, i, none⟩ = some x
theorem RowAt.below {w w1 : World} {v : Value} {xs : List Value} (h : RowAt w v xs) (hb : Below w.heap.size w w1) : RowAt w1 v xs := by
  rcases h with h | ⟨g, c, h1, h2, h3, h4⟩
  · exact .inl h
  · exact .inr ⟨g, c, h1, h2, h3, fun i x hx => (hb.cell (p := ⟨g, i, none⟩) (World.block_lt_of_cell? w ⟨g, i, none⟩ (h4 i x hx))).trans (h4 i x hx)⟩

mutual
/-- The error lies in memory. -/
def Holds (a : Nat → Addr) (w : World) : ET → Prop
  | .nil => True
  | .sent k => 1 ≤ k ∧ k ≤ 11
  | .other ad => (∃ c t, w.heap[ad.block]? = some (.cells c t (0, 0))) ∧ ∀ k, 1 ≤ k → k ≤ 11 → ad ≠ a k
  | .fault p n s e => w.cell? ⟨p, 0, none⟩ = some (e.val a) ∧ w.cell? ⟨p, 1, none⟩ = some (.int .i64 n) ∧ w.cell? ⟨p, 2, none⟩ = some (.string s) ∧ Holds a w e
  | .one p e => w.cell? ⟨p, 0, none⟩ = some (e.val a) ∧ Holds a w e
  | .many p l => (∃ v, w.cell? ⟨p, 0, none⟩ = some v ∧ RowAt w v (l.map (ET.val a))) ∧ HoldsL a w l
  | .nilF => True
  | .claim p c => w.cell? ⟨p, 0, none⟩ = some (.int .i64 c)
def HoldsL (a : Nat → Addr) (w : World) : List ET → Prop
  | [] => True
  | e :: l => Holds a w e ∧ HoldsL a w l
end
theorem HoldsL.mem {a : Nat → Addr} {w : World} {e : ET} : ∀ {l : List ET}, HoldsL a w l → e ∈ l → Holds a w e
  | x :: l, h, hm => by
    simp only [HoldsL] at h
    rcases List.mem_cons.1 hm with rfl | hm
    · exact h.1
    · exact HoldsL.mem h.2 hm
theorem HoldsL.of {a : Nat → Addr} {w : World} : ∀ {l : List ET}, (∀ e, e ∈ l → Holds a w e) → HoldsL a w l
  | [], _ => by simp [HoldsL]
  | x :: l, h => by simp only [HoldsL]; exact ⟨h x (by simp), HoldsL.of fun e he => h e (List.mem_cons_of_mem _ he)⟩
theorem keep1 {w w1 : World} (hb : Below w.heap.size w w1) {p : Addr} {v : Value} (h : w.cell? p = some v) : w1.cell? p = some v := (hb.cell (World.block_lt_of_cell? w p h)).trans h
theorem Holds.below_n {a : Nat → Addr} {w w1 : World} (hb : Below w.heap.size w w1) : ∀ (n : Nat) (T : ET), T.sz ≤ n → Holds a w T → Holds a w1 T := by
  intro n
  induction n with
  | zero => intro T hT; have := T.sz_pos; omega
  | succ n ih =>
    intro T hT h
    cases T with
    | nil => trivial
    | sent k => simpa only [Holds] using h
    | other ad =>
      simp only [Holds] at h ⊢
      obtain ⟨⟨c, t, e⟩, h2⟩ := h
      have hl : ad.block < w.heap.size := by
        rcases Nat.lt_or_ge ad.block w.heap.size with h' | h'
        · exact h'
        · simp [Array.getElem?_eq_none h'] at e
      exact ⟨⟨c, t, (hb.block _ hl).trans e⟩, h2⟩
    | fault p k s e =>
      simp only [Holds] at h ⊢
      simp only [ET.sz] at hT
      exact ⟨keep1 hb h.1, keep1 hb h.2.1, keep1 hb h.2.2.1, ih e (by omega) h.2.2.2⟩
    | one p e =>
      simp only [Holds] at h ⊢
      simp only [ET.sz] at hT
      exact ⟨keep1 hb h.1, ih e (by omega) h.2⟩
    | many p l =>
      simp only [Holds] at h ⊢
      simp only [ET.sz] at hT
      obtain ⟨⟨v, h1, h2⟩, h3⟩ := h
      exact ⟨⟨v, keep1 hb h1, h2.below hb⟩, HoldsL.of fun e he => ih e (by have := ET.szL_mem he; omega) (h3.mem he)⟩
    | nilF => trivial
    | claim p c => simp only [Holds] at h ⊢; exact keep1 hb h
theorem Holds.below {a : Nat → Addr} {w w1 : World} {T : ET} (h : Holds a w T) (hb : Below w.heap.size w w1) : Holds a w1 T := Holds.below_n hb _ T (Nat.le_refl _) h

mutual
/-- errors.Is at the j-th. -/
def ET.has : ET → Nat → Bool
  | .sent k, j => decide (j = k)
  | .fault _ _ _ e, j => e.has j
  | .one _ e, j => e.has j
  | .many _ l, j => ET.hasL l j
  | .claim _ c, j => decide ((j : Int) = c)
  | _, _ => false
def ET.hasL : List ET → Nat → Bool
  | [], _ => false
  | e :: l, j => e.has j || ET.hasL l j
end
theorem ET.hasL_any (l : List ET) (j : Nat) : ET.hasL l j = l.any (fun e => e.has j) := by
  induction l with
  | nil => rfl
  | cons e l ih => simp [ET.hasL, ih]

end Go.Proofs.YtfjgjhicinaolaaDoor
