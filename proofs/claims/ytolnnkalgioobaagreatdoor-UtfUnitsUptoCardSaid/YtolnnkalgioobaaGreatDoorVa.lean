/- The walk of Utfunits: the plain part. -/
import Derived.Test.YtolnnkalgioobaaGreatDoorBui
import Derived.Test.YtolnnkalgioobaaGreatDoorBuj
import Derived.Test.YtolnnkalgioobaaGreatDoorTc
namespace Go.Proofs.YtolnnkalgioobaaGreatDoor
open Go.RowKit
set_option maxRecDepth 100000
set_option linter.unusedVariables false
set_option linter.unusedSimpArgs false
set_option linter.unnecessarySimpa false

/-- The text of a list, or the empty one and false. -/
def TellPost (T : ByteArray) (b : Bool) (w : World) (e : Ending) (w' : World) : Prop := e = .returned (.tuple #[.string T, .bool b]) ∧ Below w.heap.size w w'
/-- Both texts of a list. -/
theorem tells_both (l : List Int) (hn : l.length ≤ 1048576) (hb : ∀ x ∈ l, 0 ≤ x ∧ x ≤ 65535) : ∃ (T : ByteArray) (b : Bool), ∀ (A : Option Addr) (c : Nat) (W : World), RK W .u16 A l →
    Calls Tryz.prog 19 #[.slice A l.length c] W (TellPost T b W) ∧ Calls Tryz.prog 20 #[.slice A l.length c] W (TellPost T b W) := by
  rcases hf : fuP 0 l with _ | m
  · exact ⟨⟨#[]⟩, false, fun A c W hr => ⟨(refFromUnits_any A l.length c l W rfl hr hn hb).mono fun e w' h => ⟨h.1 hf, h.2.2⟩, (FromUnits_any A l.length c l W rfl hr (by omega) hb).mono fun e w' h => ⟨h.1 hf, h.2.2⟩⟩⟩
  · exact ⟨strOfNums (textL m), true, fun A c W hr => ⟨(refFromUnits_any A l.length c l W rfl hr hn hb).mono fun e w' h => ⟨h.2.1 m hf, h.2.2⟩, (FromUnits_any A l.length c l W rfl hr (by omega) hb).mono fun e w' h => ⟨h.2.1 m hf, h.2.2⟩⟩⟩
theorem lit_ok : badF ⟨#[240, 159, 152, 128, 98]⟩ = (⟨#[240, 159, 152, 128, 98]⟩ : ByteArray).size := by decide
theorem lit_is : unitsPs (ptsF ⟨#[240, 159, 152, 128, 98]⟩) = [55357, 56832, 98] := by decide
theorem lit_prog (w : World) : Calls Tryz.prog 16 #[.string ⟨#[240, 159, 152, 128, 98]⟩] w (ListPost 52 .u16 [55357, 56832, 98] true w) := by
  have h := progUnits_any ⟨#[240, 159, 152, 128, 98]⟩ w (by decide)
  rw [lit_is] at h
  simp only [lrOf, lit_ok, if_true, decide_true] at h
  exact h
theorem lit_same (A : Option Addr) (c : Nat) (w : World) (hr : RK w .u16 A [55357, 56832, 98]) : Calls Tryz.prog 17 #[.slice A 3 c, .slice (some ⟨w.heap.size, 0, none⟩) 3 3] (w.alloc (.cells #[.int .u16 55357, .int .u16 56832, .int .u16 98] 52)) fun e w' => e = .returned (.bool true) ∧ Below w.heap.size w w' := by
  have hl : RK (w.alloc (.cells #[.int .u16 55357, .int .u16 56832, .int .u16 98] 52)) .u16 (some ⟨w.heap.size, 0, none⟩) [55357, 56832, 98] := .inr ⟨w.heap.size, 0, rfl, fun j hj => by
    rw [Nat.zero_add, Lib.cell_of_heap (heap_alloc_new w (.cells #[.int .u16 55357, .int .u16 56832, .int .u16 98] 52))]
    match j, hj with
    | 0, _ => rfl
    | 1, _ => rfl
    | 2, _ => rfl⟩
  refine (same_any A _ 3 c 3 [55357, 56832, 98] [55357, 56832, 98] _ rfl rfl (by decide) (hr.below ((Below.refl _ _).alloc (Nat.le_refl _) _)) hl).mono ?_
  rintro e w' ⟨rfl, hb⟩
  exact ⟨by simp, ((Below.refl _ _).alloc (Nat.le_refl _) _).trans (hb.mono (by simp))⟩
/-- While the copy is turned. -/
def TurnI (w W : World) (B g n : Nat) : Prop := Keeps (fun k => k = g) w W ∧ ∃ zs, Own W B 52 .u16 (.slice (some ⟨g, 0, none⟩) n (n + 1)) zs ∧ zs.length = n ∧ ∀ x ∈ zs, 0 ≤ x ∧ x ≤ 65535
theorem TurnI.at {w W : World} {B g n : Nat} (h : TurnI w W B g n) (i : Nat) (hi : i < n) : ∃ x, W.cell? ⟨g, i, none⟩ = some (.int .u16 x) ∧ 0 ≤ x ∧ x ≤ 65535 := by
  obtain ⟨_, zs, h1, h2, h3⟩ := h
  have ho : W.ownsRow B 52 1 (.slice (some ⟨g, 0, none⟩) n (n + 1)) n (numsK .u16 zs) := by rw [← h2] at h1 ⊢; exact h1
  have hiz : i < zs.length := by omega
  refine ⟨zs.getD i 0, ?_, ?_⟩
  · rw [ho.cellAt i (by omega)]
    simp [numsK, List.getElem?_eq_getElem hiz, List.getD_eq_getElem?_getD]
  · rw [List.getD_eq_getElem?_getD, List.getElem?_eq_getElem hiz]
    exact h3 _ (List.getElem_mem hiz)
theorem TurnI.free {w W : World} {B g n : Nat} (h : TurnI w W B g n) (i : Nat) : W.frozen? ⟨g, i, none⟩ = false := by
  obtain ⟨_, zs, h1, h2, h3⟩ := h
  have ho : W.ownsRow B 52 1 (.slice (some ⟨g, 0, none⟩) n (n + 1)) n (numsK .u16 zs) := by rw [← h2] at h1 ⊢; exact h1
  exact ho.frozenAt i
theorem TurnI.set {w W : World} {B g n : Nat} (h : TurnI w W B g n) (i : Nat) (x : Int) (hx : 0 ≤ x ∧ x ≤ 65535) : TurnI w (W.setCell ⟨g, i, none⟩ (.int .u16 x)) B g n := by
  obtain ⟨h0, zs, h1, h2, h3⟩ := h
  have ho : W.ownsRow B 52 1 (.slice (some ⟨g, 0, none⟩) n (n + 1)) n (numsK .u16 zs) := by rw [← h2] at h1 ⊢; exact h1
  refine ⟨h0.set g i _ (.inl rfl), zs.set i x, ?_, by simp [h2], fun y hy => ?_⟩
  · unfold Own
    rw [List.length_set, h2]
    have : numsK .u16 (zs.set i x) = (numsK .u16 zs).set i (.int .u16 x) := by simp [numsK, List.map_set]
    rw [this]
    exact (ho.stored i _).1
  · rcases List.mem_or_eq_of_mem_set hy with hy | rfl
    · exact h3 y hy
    · exact hx
theorem TurnI.below {w W W1 : World} {B g n : Nat} (h : TurnI w W B g n) (hb : Below W.heap.size W W1) : TurnI w W1 B g n := by
  obtain ⟨h0, zs, h1, h2, h3⟩ := h
  exact ⟨h0.below hb, zs, h1.kept hb, h2, h3⟩
def pick4 (a b c t : Lst) : Nat → Lst := fun j => if j = 0 then a else if j = 1 then b else if j = 2 then c else t
/-- The four lists that are kept. -/
theorem four {W : World} {B p h1 h2 h3 : Nat} {a b c t : Lst} (oa : Own W B 52 .u16 a.v a.xs) (ob : Own W B 52 .u16 b.v b.xs) (oc : Own W B 52 .u16 c.v c.xs) (ot : Own W B 52 .u16 t.v t.xs)
    (la : a.xs.length = a.len ∧ a.len ≤ 100000000000) (lb : b.xs.length = b.len ∧ b.len ≤ 100000000000) (lc : c.xs.length = c.len ∧ c.len ≤ 100000000000) (lt : t.xs.length = t.len ∧ t.len ≤ 100000000000)
    (pa : ∀ i, a.v.ownBlock = some i → i < h1) (pb : ∀ i, b.v.ownBlock = some i → h1 ≤ i ∧ i < h2) (pc : ∀ i, c.v.ownBlock = some i → h2 ≤ i ∧ i < h3) (pt : ∀ i, t.v.ownBlock = some i → h3 ≤ i ∧ i < p)
    (o1 : h1 ≤ h2) (o2 : h2 ≤ h3) (o3 : h3 ≤ p) : Lists W B p 4 (pick4 a b c t) := by
  have four_of : ∀ {P : Nat → Prop}, P 0 → P 1 → P 2 → P 3 → ∀ j, j < 4 → P j := fun h0 h1 h2 h3 j hj => by
    match j, hj with
    | 0, _ => exact h0
    | 1, _ => exact h1
    | 2, _ => exact h2
    | 3, _ => exact h3
  refine ⟨four_of ⟨oa, la.1, la.2, fun i hi => ?_⟩ ⟨ob, lb.1, lb.2, fun i hi => ?_⟩ ⟨oc, lc.1, lc.2, fun i hi => ?_⟩ ⟨ot, lt.1, lt.2, fun i hi => (pt i hi).2⟩, fun i j hi hj hij g hg hg2 => ?_⟩
  · have := pa i hi; omega
  · have := pb i hi; omega
  · have := pc i hi; omega
  · have e : ∀ k, k < 4 → ∀ x, (pick4 a b c t k).v.ownBlock = some x → (k = 0 ∧ x < h1) ∨ (k = 1 ∧ h1 ≤ x ∧ x < h2) ∨ (k = 2 ∧ h2 ≤ x ∧ x < h3) ∨ (k = 3 ∧ h3 ≤ x) :=
      four_of (fun x hx => .inl ⟨rfl, pa x hx⟩) (fun x hx => .inr (.inl ⟨rfl, pb x hx⟩)) (fun x hx => .inr (.inr (.inl ⟨rfl, pc x hx⟩))) (fun x hx => .inr (.inr (.inr ⟨rfl, (pt x hx).1⟩)))
    have e1 := e i hi g hg
    have e2 := e j hj g hg2
    omega
end Go.Proofs.YtolnnkalgioobaaGreatDoor

