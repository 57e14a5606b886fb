/- The Book: Apart. -/
import Derived.Test.YtolnnkalgioobaaGreatDoorBuf
namespace Go.Proofs.YtolnnkalgioobaaGreatDoor
open Go.RowKit
set_option maxRecDepth 100000
set_option linter.unusedVariables false
set_option linter.unusedSimpArgs false
set_option linter.unnecessarySimpa false

/-- A Book that keeps N lists, each in a row of the call's own, no two in one block. -/
structure Shelf (E : Ents) (p q B cp n : Nat) (f : Nat → Value) (w : World) : Prop where
  bk : BookAt w p n f
  f4 : f 7 = .slice (some ⟨q, 0, none⟩) E.N cp
  fk : ∀ k, 1 ≤ k → k ≤ 14 → k ≠ 7 → f k = .slice none 0 0
  blk : ∃ cur, w.heap[q]? = some (.cells cur 118 (0, 0))
  row : E.Row w q (fun _ => .slice none 0 0)
  own : ∀ j, j < E.N → ∃ xs, Own w B 52 .u16 (E.l j) xs ∧ xs.length = E.len j
  ap : E.Apart p q
  pq : p ≠ q
  lt : ∀ j g, j < E.N → (E.l j).ownBlock = some g → g < w.heap.size
  B : B ≤ w.heap.size
  N : E.N ≤ 1000000
  n : ∀ j, j < E.N → E.n j ≤ 1000000
  len : ∀ j, j < E.N → E.len j ≤ 100000000000
theorem Shelf.q {E : Ents} {p q B cp n : Nat} {f : Nat → Value} {w : World} (h : Shelf E p q B cp n f w) : q < w.heap.size := by
  obtain ⟨cur, hc⟩ := h.blk
  exact (Array.getElem?_eq_some_iff.1 hc).1
theorem apart_any (E : Ents) (p q B cp n : Nat) (f : Nat → Value) (w : World) (h : Shelf E p q B cp n f w) :
    Calls Tryz.prog 13 #[.pointer (some ⟨p, 0, none⟩)] w fun e w' => e = .returned (.bool true) ∧ Keeps (fun k => E.S k ∨ k = q) w w' := by
  have hpS : ¬ (fun k => E.S k ∨ k = q) p := by rintro (h1 | h1); exact h.ap.p h1; exact h.pq h1
  have hb : ∀ W, Keeps (fun k => E.S k ∨ k = q) w W → W.cell? ⟨p, 7, none⟩ = some (.slice (some ⟨q, 0, none⟩) E.N cp) := fun W hW => by
    rw [← h.f4]; exact (h.bk.kept hW hpS).cell 7 (by decide) (by decide)
  have HC : Hid (∀ W, Keeps (fun k => E.S k ∨ k = q) w W → ∀ k, 1 ≤ k → k ≤ 14 → k ≠ 7 → W.cell? ⟨p, k, none⟩ = some (.slice none 0 0)) := Lib.hid fun W hW k h1 h2 h3 => by
    rw [← h.fk k h1 h2 h3]; exact (h.bk.kept hW hpS).cell k h1 h2
  have hk0 : Keeps (fun k => E.S k ∨ k = q) w w := Keeps.refl _ _
  have HF := Lib.hid (fill_any E p q B (some ⟨q, 0, none⟩) cp (fun _ => .slice none 0 0) w (hb w hk0) (fun _ => rfl) h.row (fun _ _ => ⟨_, _, _, rfl⟩) h.own h.ap h.N h.n (fun j hj => by have := h.len j hj; omega))
  have HK1 : Hid (∀ w1, FillI E B w w1 E.N → Keeps (fun k => E.S k ∨ k = q) w w1) := Lib.hid fun w1 h1 => h1.1.mono fun k _ hs => .inl hs
  have HK2 : Hid (∀ w1 w2, Keeps (fun k => E.S k ∨ k = q) w w1 → (∃ lg', GrowI E q B w1 w2 E.N lg') → Keeps (fun k => E.S k ∨ k = q) w w2) := Lib.hid fun w1 w2 h1 ⟨lg, h2⟩ => h1.trans h2.k
  have HGROW : Hid (∀ w1, FillI E B w w1 E.N → Calls Tryz.prog 54 #[.pointer (some ⟨p, 0, none⟩)] w1 fun e w' => e = .returned (.tuple #[]) ∧ ∃ lg', GrowI E q B w1 w' E.N lg') := Lib.hid fun w1 h1 => by
    have hsz := h1.1.size
    refine grow_any E p q B cp (fun _ => .slice none 0 0) w1 (hb w1 (HK1.out w1 h1)) ⟨Keeps.refl _ _, ?_, h.row.kept h1.1 h.ap.q, fun j hj _ => ?_, fun j hj => by omega⟩ h.ap h.pq (by have := h.B; omega) (fun j g hj hg => by have := h.lt j g hj hg; omega) (by have := h.q; omega) h.N h.n h.len
    · obtain ⟨cur, hc⟩ := h.blk
      exact ⟨cur, (h1.1.block q h.q h.ap.q).trans hc⟩
    · obtain ⟨xs, hx1, hx2, hx3⟩ := h1.2 j hj
      exact ⟨by rw [← hx3 hj]; exact hx1, rfl⟩
  have HLOOK : Hid (∀ w1 w2, Keeps (fun k => E.S k ∨ k = q) w w2 → (∃ lg', GrowI E q B w1 w2 E.N lg') → Calls Tryz.prog 68 #[.pointer (some ⟨p, 0, none⟩)] w2 fun e w' => e = .returned (.bool true) ∧ Below w2.heap.size w2 w') := Lib.hid fun w1 w2 h1 ⟨lg, h2⟩ =>
    look_any E p q B cp lg w1 w2 (hb w2 h1) h2 h.N h.n h.len
  clear h hpS hb
  go_enter Tryz.func13, Tryz.ntmps13
  go_wp2_with (first
    | (go_at_call 34; refine (fill_none_34 p _ (HC.out _ (by assumption) 1 (by decide) (by decide) (by decide))).mono ?_; rintro e wn ⟨rfl, rfl⟩)
    | (go_at_call 48; refine (grow_none_48 p _ (HC.out _ (by assumption) 1 (by decide) (by decide) (by decide))).mono ?_; rintro e wn ⟨rfl, rfl⟩)
    | (go_at_call 62; refine (look_none_62 p _ (HC.out _ (by assumption) 1 (by decide) (by decide) (by decide))).mono ?_; rintro e wn ⟨rfl, rfl⟩)
    | (go_at_call 35; refine (fill_none_35 p _ (HC.out _ (by assumption) 2 (by decide) (by decide) (by decide))).mono ?_; rintro e wn ⟨rfl, rfl⟩)
    | (go_at_call 49; refine (grow_none_49 p _ (HC.out _ (by assumption) 2 (by decide) (by decide) (by decide))).mono ?_; rintro e wn ⟨rfl, rfl⟩)
    | (go_at_call 63; refine (look_none_63 p _ (HC.out _ (by assumption) 2 (by decide) (by decide) (by decide))).mono ?_; rintro e wn ⟨rfl, rfl⟩)
    | (go_at_call 36; refine (fill_none_36 p _ (HC.out _ (by assumption) 3 (by decide) (by decide) (by decide))).mono ?_; rintro e wn ⟨rfl, rfl⟩)
    | (go_at_call 50; refine (grow_none_50 p _ (HC.out _ (by assumption) 3 (by decide) (by decide) (by decide))).mono ?_; rintro e wn ⟨rfl, rfl⟩)
    | (go_at_call 64; refine (look_none_64 p _ (HC.out _ (by assumption) 3 (by decide) (by decide) (by decide))).mono ?_; rintro e wn ⟨rfl, rfl⟩)
    | (go_at_call 37; refine (fill_none_37 p _ (HC.out _ (by assumption) 4 (by decide) (by decide) (by decide))).mono ?_; rintro e wn ⟨rfl, rfl⟩)
    | (go_at_call 51; refine (grow_none_51 p _ (HC.out _ (by assumption) 4 (by decide) (by decide) (by decide))).mono ?_; rintro e wn ⟨rfl, rfl⟩)
    | (go_at_call 65; refine (look_none_65 p _ (HC.out _ (by assumption) 4 (by decide) (by decide) (by decide))).mono ?_; rintro e wn ⟨rfl, rfl⟩)
    | (go_at_call 38; refine (fill_none_38 p _ (HC.out _ (by assumption) 5 (by decide) (by decide) (by decide))).mono ?_; rintro e wn ⟨rfl, rfl⟩)
    | (go_at_call 52; refine (grow_none_52 p _ (HC.out _ (by assumption) 5 (by decide) (by decide) (by decide))).mono ?_; rintro e wn ⟨rfl, rfl⟩)
    | (go_at_call 66; refine (look_none_66 p _ (HC.out _ (by assumption) 5 (by decide) (by decide) (by decide))).mono ?_; rintro e wn ⟨rfl, rfl⟩)
    | (go_at_call 39; refine (fill_none_39 p _ (HC.out _ (by assumption) 6 (by decide) (by decide) (by decide))).mono ?_; rintro e wn ⟨rfl, rfl⟩)
    | (go_at_call 53; refine (grow_none_53 p _ (HC.out _ (by assumption) 6 (by decide) (by decide) (by decide))).mono ?_; rintro e wn ⟨rfl, rfl⟩)
    | (go_at_call 67; refine (look_none_67 p _ (HC.out _ (by assumption) 6 (by decide) (by decide) (by decide))).mono ?_; rintro e wn ⟨rfl, rfl⟩)
    | (go_at_call 40; refine HF.out.mono ?_; rintro e w1 ⟨rfl, h1⟩; have hk1 := HK1.out w1 h1; have HG := Lib.hid (HGROW.out w1 h1); clear h1 HF)
    | (go_at_call 54; refine HG.out.mono ?_; rintro e w2 ⟨rfl, h2⟩; have hk2 := HK2.out w1 w2 hk1 h2; have HLK := Lib.hid (HLOOK.out w1 w2 hk2 h2); clear h2 HG)
    | (go_at_call 68; refine HLK.out.mono ?_; rintro e w3 ⟨rfl, h3⟩; have hk3 := hk2.below h3; clear h3 HLK)
    | (go_at_call 41; refine (fill_none_41 p _ (HC.out _ (by assumption) 8 (by decide) (by decide) (by decide))).mono ?_; rintro e wn ⟨rfl, rfl⟩)
    | (go_at_call 55; refine (grow_none_55 p _ (HC.out _ (by assumption) 8 (by decide) (by decide) (by decide))).mono ?_; rintro e wn ⟨rfl, rfl⟩)
    | (go_at_call 69; refine (look_none_69 p _ (HC.out _ (by assumption) 8 (by decide) (by decide) (by decide))).mono ?_; rintro e wn ⟨rfl, rfl⟩)
    | (go_at_call 42; refine (fill_none_42 p _ (HC.out _ (by assumption) 9 (by decide) (by decide) (by decide))).mono ?_; rintro e wn ⟨rfl, rfl⟩)
    | (go_at_call 56; refine (grow_none_56 p _ (HC.out _ (by assumption) 9 (by decide) (by decide) (by decide))).mono ?_; rintro e wn ⟨rfl, rfl⟩)
    | (go_at_call 70; refine (look_none_70 p _ (HC.out _ (by assumption) 9 (by decide) (by decide) (by decide))).mono ?_; rintro e wn ⟨rfl, rfl⟩)
    | (go_at_call 43; refine (fill_none_43 p _ (HC.out _ (by assumption) 10 (by decide) (by decide) (by decide))).mono ?_; rintro e wn ⟨rfl, rfl⟩)
    | (go_at_call 57; refine (grow_none_57 p _ (HC.out _ (by assumption) 10 (by decide) (by decide) (by decide))).mono ?_; rintro e wn ⟨rfl, rfl⟩)
    | (go_at_call 71; refine (look_none_71 p _ (HC.out _ (by assumption) 10 (by decide) (by decide) (by decide))).mono ?_; rintro e wn ⟨rfl, rfl⟩)
    | (go_at_call 44; refine (fill_none_44 p _ (HC.out _ (by assumption) 11 (by decide) (by decide) (by decide))).mono ?_; rintro e wn ⟨rfl, rfl⟩)
    | (go_at_call 58; refine (grow_none_58 p _ (HC.out _ (by assumption) 11 (by decide) (by decide) (by decide))).mono ?_; rintro e wn ⟨rfl, rfl⟩)
    | (go_at_call 72; refine (look_none_72 p _ (HC.out _ (by assumption) 11 (by decide) (by decide) (by decide))).mono ?_; rintro e wn ⟨rfl, rfl⟩)
    | (go_at_call 45; refine (fill_none_45 p _ (HC.out _ (by assumption) 12 (by decide) (by decide) (by decide))).mono ?_; rintro e wn ⟨rfl, rfl⟩)
    | (go_at_call 59; refine (grow_none_59 p _ (HC.out _ (by assumption) 12 (by decide) (by decide) (by decide))).mono ?_; rintro e wn ⟨rfl, rfl⟩)
    | (go_at_call 73; refine (look_none_73 p _ (HC.out _ (by assumption) 12 (by decide) (by decide) (by decide))).mono ?_; rintro e wn ⟨rfl, rfl⟩)
    | (go_at_call 46; refine (fill_none_46 p _ (HC.out _ (by assumption) 13 (by decide) (by decide) (by decide))).mono ?_; rintro e wn ⟨rfl, rfl⟩)
    | (go_at_call 60; refine (grow_none_60 p _ (HC.out _ (by assumption) 13 (by decide) (by decide) (by decide))).mono ?_; rintro e wn ⟨rfl, rfl⟩)
    | (go_at_call 74; refine (look_none_74 p _ (HC.out _ (by assumption) 13 (by decide) (by decide) (by decide))).mono ?_; rintro e wn ⟨rfl, rfl⟩)
    | (go_at_call 47; refine (fill_none_47 p _ (HC.out _ (by assumption) 14 (by decide) (by decide) (by decide))).mono ?_; rintro e wn ⟨rfl, rfl⟩)
    | (go_at_call 61; refine (grow_none_61 p _ (HC.out _ (by assumption) 14 (by decide) (by decide) (by decide))).mono ?_; rintro e wn ⟨rfl, rfl⟩)
    | (go_at_call 75; refine (look_none_75 p _ (HC.out _ (by assumption) 14 (by decide) (by decide) (by decide))).mono ?_; rintro e wn ⟨rfl, rfl⟩))
  go_ret
  exact ⟨rfl, hk3⟩
end Go.Proofs.YtolnnkalgioobaaGreatDoor
