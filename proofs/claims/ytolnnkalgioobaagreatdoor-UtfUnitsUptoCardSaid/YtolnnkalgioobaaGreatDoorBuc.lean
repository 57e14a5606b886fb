/- The Book: all lists are filled with their marks. -/
import Derived.Test.YtolnnkalgioobaaGreatDoorBub
import Derived.Laws.OwnMore
namespace Go.Proofs.YtolnnkalgioobaaGreatDoor
open Go.RowKit
set_option maxRecDepth 100000
set_option linter.unusedVariables false
set_option linter.unusedSimpArgs false
set_option linter.unnecessarySimpa false

/-- What is held: N lists. -/
structure Ents where
  N : Nat
  A : Nat → Option Addr
  len : Nat → Nat
  cap : Nat → Nat
  n : Nat → Nat
def Ents.l (E : Ents) (j : Nat) : Value := .slice (E.A j) (E.len j) (E.cap j)
/-- Three cells for each, in block q. -/
def Ents.Row (E : Ents) (W : World) (q : Nat) (lg : Nat → Value) : Prop :=
  ∀ j, j < E.N → W.cell? ⟨q, j * 3, none⟩ = some (E.l j) ∧ W.cell? ⟨q, j * 3 + 1, none⟩ = some (lg j) ∧ W.cell? ⟨q, j * 3 + 2, none⟩ = some (.int .i64 (E.n j))
def Ents.S (E : Ents) (k : Nat) : Prop := ∃ j, j < E.N ∧ (E.l j).ownBlock = some k
/-- No two in one block, none in the Book's own ones. -/
structure Ents.Apart (E : Ents) (p q : Nat) : Prop where
  ne : ∀ i j, i < E.N → j < E.N → i ≠ j → ∀ g, (E.l i).ownBlock = some g → (E.l j).ownBlock ≠ some g
  p : ¬ E.S p
  q : ¬ E.S q
def Ents.mks (E : Ents) (j : Nat) : List Int := List.replicate (E.len j) (mkB (E.n j))
def FillI (E : Ents) (B : Nat) (w W : World) (m : Nat) : Prop :=
  Keeps E.S w W ∧ ∀ j, j < E.N → ∃ xs, Own W B 52 .u16 (E.l j) xs ∧ xs.length = E.len j ∧ (j < m → xs = E.mks j)
def FillJ (E : Ents) (B : Nat) (w W : World) (m k : Nat) : Prop :=
  Keeps E.S w W ∧ ∀ j, j < E.N → ∃ xs, Own W B 52 .u16 (E.l j) xs ∧ xs.length = E.len j ∧ (j < m → xs = E.mks j) ∧ (j = m → xs.take k = List.replicate k (mkB (E.n j)))
theorem FillI.start {E : Ents} {B : Nat} {w W : World} {m : Nat} (h : FillI E B w W m) : FillJ E B w W m 0 :=
  ⟨h.1, fun j hj => by obtain ⟨xs, h1, h2, h3⟩ := h.2 j hj; exact ⟨xs, h1, h2, h3, fun _ => by simp⟩⟩
theorem FillJ.stop {E : Ents} {B : Nat} {w W : World} {m : Nat} (h : FillJ E B w W m (E.len m)) : FillI E B w W (m + 1) :=
  ⟨h.1, fun j hj => by
    obtain ⟨xs, h1, h2, h3, h4⟩ := h.2 j hj
    refine ⟨xs, h1, h2, fun hl => ?_⟩
    rcases Nat.lt_or_ge j m with hlt | hge
    · exact h3 hlt
    · obtain rfl : j = m := by omega
      have := h4 rfl
      rwa [← h2, List.take_length, h2] at this⟩
theorem FillI.below {E : Ents} {B : Nat} {w W W1 : World} {m : Nat} (h : FillI E B w W m) (hb : Below W.heap.size W W1) : FillI E B w W1 m :=
  ⟨h.1.below hb, fun j hj => by obtain ⟨xs, h1, h2, h3⟩ := h.2 j hj; exact ⟨xs, h1.kept hb, h2, h3⟩⟩
theorem FillJ.drew {E : Ents} {B : Nat} {w W : World} {m k : Nat} (h : FillJ E B w W m k) : FillJ E B w W.drew m k :=
  ⟨h.1.below ((Below.refl _ _).drew), fun j hj => by obtain ⟨xs, h1, h2, h3⟩ := h.2 j hj; exact ⟨xs, h1.kept ((Below.refl _ _).drew), h2, h3⟩⟩
/-- The current list lies somewhere if it is not empty. -/
theorem FillJ.at {E : Ents} {B : Nat} {w W : World} {m k : Nat} (h : FillJ E B w W m k) (hm : m < E.N) (hk : k < E.len m) :
    ∃ g, E.A m = some ⟨g, 0, none⟩ ∧ (E.l m).ownBlock = some g ∧ g < W.heap.size ∧ B ≤ g ∧ (∃ z, W.cell? ⟨g, k, none⟩ = some (.int .u16 z)) ∧ W.frozen? ⟨g, k, none⟩ = false := by
  obtain ⟨xs, h1, h2, h3, h4⟩ := h.2 m hm
  obtain ⟨g, cap, hf, hbg, hlt⟩ := h1.form (by omega)
  have hf2 := hf
  simp only [Ents.l, Value.slice.injEq] at hf2
  obtain ⟨e1, e2, e3⟩ := hf2
  have ho : W.ownsRow B 52 1 (.slice (some ⟨g, 0, none⟩) xs.length cap) xs.length (numsK .u16 xs) := by rw [← hf]; exact h1
  refine ⟨g, e1, by rw [hf]; rfl, hlt, hbg, ⟨xs.getD k 0, ?_⟩, ho.frozenAt k⟩
  rw [ho.cellAt k (by omega)]
  simp [numsK, List.getElem?_eq_getElem (show k < xs.length by omega), List.getD_eq_getElem?_getD]
theorem FillJ.set {E : Ents} {B : Nat} {w W : World} {p q m k g : Nat} (h : FillJ E B w W m k) (hA : E.Apart p q) (hm : m < E.N) (hk : k < E.len m) (hg : E.A m = some ⟨g, 0, none⟩) :
    FillJ E B w (W.setCell ⟨g, k, none⟩ (.int .u16 (mkB (E.n m)))) m (k + 1) := by
  have hgb : (E.l m).ownBlock = some g := by simp [Ents.l, hg, Value.ownBlock]
  refine ⟨h.1.set g k _ (.inl ⟨m, hm, hgb⟩), fun j hj => ?_⟩
  obtain ⟨xs, h1, h2, h3, h4⟩ := h.2 j hj
  by_cases e : j = m
  · subst e
    have hv : E.l j = .slice (some ⟨g, 0, none⟩) xs.length (E.cap j) := by simp [Ents.l, hg, h2]
    have ho : W.ownsRow B 52 1 (.slice (some ⟨g, 0, none⟩) xs.length (E.cap j)) xs.length (numsK .u16 xs) := by rw [← hv]; exact h1
    have hst := (ho.stored k (.int .u16 (mkB (E.n j)))).1
    refine ⟨xs.set k (mkB (E.n j)), ?_, by simp [h2], fun hl => by omega, fun _ => ?_⟩
    · unfold Own
      rw [hv, List.length_set]
      have : numsK .u16 (xs.set k (mkB (E.n j))) = (numsK .u16 xs).set k (.int .u16 (mkB (E.n j))) := by simp [numsK, List.map_set]
      rw [this]
      exact hst
    · rw [List.take_set, List.take_succ_eq_append_getElem (by omega), h4 rfl, List.set_append]
      simp [List.replicate_succ', h2]
  · have hne : (E.l j).ownBlock ≠ some g := hA.ne m j hm hj (Ne.symm e) g hgb
    refine ⟨xs, ?_, h2, h3, fun e2 => absurd e2 e⟩
    exact World.ownsRow.kept h1 (row := some g) ⟨rfl, rfl, rfl, by simp, fun i hi hne => Below.heap_setCell _ _ _ _ (by rintro rfl; exact hne rfl)⟩ (.inr hne)
theorem Ents.Row.kept {E : Ents} {W W1 : World} {q : Nat} {lg : Nat → Value} {S : Nat → Prop} (h : E.Row W q lg) (hk : Keeps S W W1) (hq : ¬ S q) : E.Row W1 q lg := fun j hj =>
  ⟨hk.cell (h j hj).1 hq, hk.cell (h j hj).2.1 hq, hk.cell (h j hj).2.2 hq⟩
theorem fill_any (E : Ents) (p q B : Nat) (Q : Option Addr) (cp : Nat) (lg : Nat → Value) (w : World) (hb : w.cell? ⟨p, 7, none⟩ = some (.slice Q E.N cp)) (hQ : 0 < E.N → Q = some ⟨q, 0, none⟩) (hr : E.Row w q lg) (hlg : ∀ j, j < E.N → ∃ a n c, lg j = .slice a n c)
    (ho : ∀ j, j < E.N → ∃ xs, Own w B 52 .u16 (E.l j) xs ∧ xs.length = E.len j) (hA : E.Apart p q) (hN : E.N ≤ 1000000) (hn : ∀ j, j < E.N → E.n j ≤ 1000000) (hl : ∀ j, j < E.N → E.len j ≤ 1000000000000) :
    Calls Tryz.prog 40 #[.pointer (some ⟨p, 0, none⟩)] w fun e w' => e = .returned (.tuple #[]) ∧ FillI E B w w' E.N := by
  have HR := Lib.hid hr
  have HA := Lib.hid hA
  have HL := Lib.hid hl
  have HNN := Lib.hid hn
  have HQ := Lib.hid hQ
  have HLG := Lib.hid hlg
  have H0 : Hid (FillI E B w w 0) := Lib.hid ⟨Keeps.refl _ _, fun j hj => by obtain ⟨xs, h1, h2⟩ := ho j hj; exact ⟨xs, h1, h2, fun h => by omega⟩⟩
  have hbp : Hid (∀ W, Keeps E.S w W → W.cell? ⟨p, 7, none⟩ = some (.slice Q E.N cp)) := Lib.hid fun W h => h.cell hb hA.p
  clear hr hA hl hn hQ ho hb hlg
  generalize hNN : E.N = N at *
  go_enter Tryz.func40, Tryz.ntmps40
  go_wp2
  go_loopw [2] (fun i W => ∃ m : Nat, m ≤ N ∧ i = .int .i64 m ∧ Hid (FillI E B w W m)) (fun i _ => N - (intOf i).toNat)
  case atStart => exact ⟨0, by omega, rfl, H0⟩
  case round =>
    obtain ⟨m, hm, rfl, HI⟩ := hrel
    have cb := hbp.out wr HI.out.1
    by_cases hlt : m < N
    · obtain rfl := HQ.out (by omega)
      obtain ⟨r0, r1, r2⟩ := (HR.out.kept HI.out.1 HA.out.q) m (by rw [hNN]; exact hlt)
      obtain ⟨la, ln, lc, el⟩ := HLG.out m hlt
      rw [el] at r1
      simp only [Ents.l] at r0
      have hnm := HNN.out m hlt
      have hlm := HL.out m hlt
      obtain ⟨am, ha⟩ : ∃ a, E.A m = a := ⟨_, rfl⟩
      obtain ⟨lm, hlen⟩ : ∃ a, E.len m = a := ⟨_, rfl⟩
      obtain ⟨cm, hc⟩ : ∃ a, E.cap m = a := ⟨_, rfl⟩
      obtain ⟨nm, hn⟩ : ∃ a, E.n m = a := ⟨_, rfl⟩
      rw [ha, hlen, hc] at r0
      rw [hn] at r2 hnm
      rw [hlen] at hlm
      have HA1 := Lib.hid ha
      have HLE := Lib.hid hlen
      have HNE := Lib.hid hn
      clear ha hlen hc hn el
      go_upto_region 5 with fail
      have HI1 : Hid (FillJ E B w (wr.alloc (Obj.cells #[Value.slice am lm cm, Value.slice la ln lc, Value.int IntKind.i64 nm] 118)) m 0) := Lib.hid ((HI.out.below ((Below.refl _ _).alloc (Nat.le_refl _) _)).start)
      have L0 : (wr.alloc (Obj.cells #[Value.slice am lm cm, Value.slice la ln lc, Value.int IntKind.i64 nm] 118)).cell? ⟨wr.heap.size, 0, none⟩ = some (Value.slice am lm cm) := by rw [cell_of_row _ _ _ _ _ _ (heap_alloc_new wr _)]; rfl
      have L2 : (wr.alloc (Obj.cells #[Value.slice am lm cm, Value.slice la ln lc, Value.int IntKind.i64 nm] 118)).cell? ⟨wr.heap.size, 2, none⟩ = some (Value.int IntKind.i64 nm) := by rw [cell_of_row _ _ _ _ _ _ (heap_alloc_new wr _)]; rfl
      have HH : Hid (∀ j g, j < N → E.A j = some ⟨g, 0, none⟩ → g ≠ wr.heap.size) := Lib.hid fun j g hj hg e => by
        obtain ⟨xs, h1, _⟩ := HI.out.2 j (by rw [hNN]; exact hj)
        have := (World.ownsRow.lt h1 g (by simp [Ents.l, hg, Value.ownBlock])).2
        omega
      have hcut : ∃ g, g = wr.heap.size := ⟨_, rfl⟩
      clear cb r0 r1 r2 HI
      generalize hW : wr.alloc (Obj.cells #[Value.slice am lm cm, Value.slice la ln lc, Value.int IntKind.i64 nm] 118) = W0 at *
      clear hW
      generalize wr.heap.size = H at *
      go_loopw [4] (fun k W => ∃ kk : Nat, kk ≤ lm ∧ k = .int .i64 kk ∧ Hid (FillJ E B w W m kk) ∧ W.cell? ⟨H, 0, none⟩ = some (Value.slice am lm cm) ∧ W.cell? ⟨H, 2, none⟩ = some (Value.int IntKind.i64 nm)) (fun k _ => lm - (intOf k).toNat)
      case atStart => exact ⟨0, by omega, rfl, HI1, L0, L2⟩
      case round =>
        obtain ⟨k, hk, rfl, HJ, c0, c2⟩ := hrel
        by_cases hlk : k < lm
        · obtain ⟨g, hg, _, _, _, ⟨z, hz⟩, hf⟩ := HJ.out.at (by rw [hNN]; exact hlt) (by rw [HLE.out]; exact hlk)
          have hgH := HH.out m g hlt hg
          have HJ2 := Lib.hid (HJ.out.set HA.out (by rw [hNN]; exact hlt) (by rw [HLE.out]; exact hlk) hg)
          obtain rfl : am = some ⟨g, 0, none⟩ := by rw [← HA1.out]; exact hg
          have hmk := mkB_range nm hnm
          rw [HNE.out] at HJ2
          generalize hmv : mkB nm = mv at *
          go_upto_region 7 with fail
          go_region_law (first | (go_simp; go_at_call 80; refine (bkmark_any nm _ hnm).mono ?_; rintro e w2 ⟨rfl, rfl⟩; rw [hmv]))
          all_goals (
            first | go_wp2 | (go_goals; fail) | skip
            try go_roundw
            case rel => exact ⟨k + 1, by omega, by go_num, Lib.hid HJ2.out.drew, (World.cell?_setCell_far _ _ _ _ hgH).trans c0, (World.cell?_setCell_far _ _ _ _ hgH).trans c2⟩
            case measure => (simp only [intOf]; omega))
        · obtain rfl : k = lm := by omega
          have HE := HJ.out
          rw [← HLE.out] at HE
          have HI2 := Lib.hid HE.stop
          go_wp2
          exact ⟨⟨m + 1, by omega, by go_num, HI2⟩, by simp [intOf]; omega⟩
    · obtain rfl : m = N := by omega
      go_wp2
      go_end0
      exact ⟨rfl, HI.out⟩
end Go.Proofs.YtolnnkalgioobaaGreatDoor
