/- The Book: all lists are looked at. -/
import Derived.Test.YtolnnkalgioobaaGreatDoorBue
namespace Go.Proofs.YtolnnkalgioobaaGreatDoor
open Go.RowKit
set_option maxRecDepth 100000
set_option linter.unusedVariables false
set_option linter.unusedSimpArgs false
set_option linter.unnecessarySimpa false

/-- What one turn reads. -/
structure Looks (W : World) (am : Option Addr) (lm g : Nat) (mv : Int) : Prop where
  long : ∀ k, k < lm + 70 → W.cell? ⟨g, k, none⟩ = some (.int .u16 mv)
  l : lm = 0 ∨ ∃ b off, am = some ⟨b, off, none⟩ ∧ ∀ k, k < lm → W.cell? ⟨b, off + k, none⟩ = some (.int .u16 mv)
theorem Looks.below {W W1 : World} {am : Option Addr} {lm g : Nat} {mv : Int} (h : Looks W am lm g mv) (hb : Below W.heap.size W W1) : Looks W1 am lm g mv :=
  ⟨fun k hk => (hb.cell (World.block_lt_of_cell? W _ (h.long k hk))).trans (h.long k hk), by
    rcases h.l with h1 | ⟨b, off, e, h1⟩
    · exact .inl h1
    · exact .inr ⟨b, off, e, fun k hk => (hb.cell (World.block_lt_of_cell? W _ (h1 k hk))).trans (h1 k hk)⟩⟩
theorem Grown.looks {E : Ents} {w W : World} {j : Nat} {v : Value} (h : Grown E w W j v) : ∃ g c, v = .slice (some ⟨g, 0, none⟩) (E.len j + 70) c ∧ Looks W (E.A j) (E.len j) g (mkB (E.n j)) := by
  obtain ⟨g, c, rfl, h1, h2, h3, h4⟩ := h
  refine ⟨g, c, rfl, ⟨fun k hk => ?_, ?_⟩⟩
  · rcases h1 with h1 | ⟨b, off, e, h1⟩
    · simp at h1
    · obtain ⟨rfl, rfl⟩ : g = b ∧ 0 = off := by simpa using e
      have := h1 k (by simpa using hk)
      rw [Nat.zero_add] at this
      rw [this]
      simp [List.getD_eq_getElem?_getD, List.getElem?_replicate, hk]
  · rcases h4 with h4 | ⟨b, off, e, h4⟩
    · left; simpa [Ents.mks] using h4
    · refine .inr ⟨b, off, e, fun k hk => ?_⟩
      rw [h4 k (by simpa [Ents.mks] using hk)]
      simp [Ents.mks, List.getD_eq_getElem?_getD, List.getElem?_replicate, hk]
theorem look_any (E : Ents) (p q B cp : Nat) (lg : Nat → Value) (w0 w : World) (hb : w.cell? ⟨p, 7, none⟩ = some (.slice (some ⟨q, 0, none⟩) E.N cp)) (hI : GrowI E q B w0 w E.N lg)
    (hN : E.N ≤ 1000000) (hn : ∀ j, j < E.N → E.n j ≤ 1000000) (hl : ∀ j, j < E.N → E.len j ≤ 100000000000) :
    Calls Tryz.prog 68 #[.pointer (some ⟨p, 0, none⟩)] w fun e w' => e = .returned (.bool true) ∧ Below w.heap.size w w' := by
  have HL := Lib.hid hl
  have HNN := Lib.hid hn
  have HR : Hid (∀ m, m < E.N → ∃ g c, w.cell? ⟨q, m * 3, none⟩ = some (E.l m) ∧ w.cell? ⟨q, m * 3 + 1, none⟩ = some (.slice (some ⟨g, 0, none⟩) (E.len m + 70) c) ∧ w.cell? ⟨q, m * 3 + 2, none⟩ = some (.int .i64 (E.n m)) ∧ Looks w (E.A m) (E.len m) g (mkB (E.n m))) := Lib.hid fun m hm => by
    obtain ⟨g, c, e, h1⟩ := (hI.new m hm).looks
    obtain ⟨h2, h3, h4⟩ := hI.row m hm
    exact ⟨g, c, h2, by rw [h3, e], h4, h1⟩
  clear hl hn hI
  generalize hNN : E.N = N at *
  go_enter Tryz.func68, Tryz.ntmps68
  go_wp2
  go_loopw [3] (fun i W => ∃ (m : Nat), m ≤ N ∧ i = .int .i64 m ∧ Below w.heap.size w W) (fun i _ => N - (intOf i).toNat)
  case atStart => exact ⟨0, by omega, rfl, Below.refl _ _⟩
  case round =>
    obtain ⟨m, hm, rfl, hB⟩ := hrel
    have keep : ∀ a v, w.cell? a = some v → wr.cell? a = some v := fun a v h => (hB.cell (World.block_lt_of_cell? w a h)).trans h
    have cb := keep _ _ hb
    by_cases hlt : m < N
    · obtain ⟨g, c, r0, r1, r2, hK⟩ := HR.out m hlt
      replace r0 := keep _ _ r0
      replace r1 := keep _ _ r1
      replace r2 := keep _ _ r2
      have hK1 : Hid (∀ o, Looks (wr.alloc o) (E.A m) (E.len m) g (mkB (E.n m))) := Lib.hid fun o => hK.below (hB.alloc hB.size o)
      clear hK keep
      simp only [Ents.l] at r0
      have hnm := HNN.out m hlt
      have hlm := HL.out m hlt
      generalize E.A m = am at *
      generalize E.len m = lm at *
      generalize E.cap m = cm at *
      generalize E.n m = nm at *
      have hne : (((lm + 70 : Nat) : Int) != (lm : Int) + 70) = false := by simp
      go_upto_region 8 with fail
      have L := hK1.out (Obj.cells #[Value.slice am lm cm, Value.slice (some ⟨g, 0, none⟩) (lm + 70) c, Value.int IntKind.i64 nm] 118)
      have L0 : (wr.alloc (Obj.cells #[Value.slice am lm cm, Value.slice (some ⟨g, 0, none⟩) (lm + 70) c, Value.int IntKind.i64 nm] 118)).cell? ⟨wr.heap.size, 0, none⟩ = some (Value.slice am lm cm) := by rw [cell_of_row _ _ _ _ _ _ (heap_alloc_new wr _)]; rfl
      have L1 : (wr.alloc (Obj.cells #[Value.slice am lm cm, Value.slice (some ⟨g, 0, none⟩) (lm + 70) c, Value.int IntKind.i64 nm] 118)).cell? ⟨wr.heap.size, 1, none⟩ = some (Value.slice (some ⟨g, 0, none⟩) (lm + 70) c) := by rw [cell_of_row _ _ _ _ _ _ (heap_alloc_new wr _)]; rfl
      have L2 : (wr.alloc (Obj.cells #[Value.slice am lm cm, Value.slice (some ⟨g, 0, none⟩) (lm + 70) c, Value.int IntKind.i64 nm] 118)).cell? ⟨wr.heap.size, 2, none⟩ = some (Value.int IntKind.i64 nm) := by rw [cell_of_row _ _ _ _ _ _ (heap_alloc_new wr _)]; rfl
      have hB1 := hB.alloc hB.size (Obj.cells #[Value.slice am lm cm, Value.slice (some ⟨g, 0, none⟩) (lm + 70) c, Value.int IntKind.i64 nm] 118)
      clear cb r0 r1 r2 hb hK1 hB
      generalize hW : wr.alloc (Obj.cells #[Value.slice am lm cm, Value.slice (some ⟨g, 0, none⟩) (lm + 70) c, Value.int IntKind.i64 nm] 118) = W0 at *
      clear hW
      generalize wr.heap.size = H at *
      have hmk := mkB_range nm hnm
      have HIS : Hid (∀ W, Calls Tryz.prog 83 #[.int .u16 (mkB nm), .int .i64 (nm : Int)] W fun e w' => e = .returned (.bool true) ∧ w' = W) := Lib.hid fun W => (bkis_any nm W hnm).mono fun _ _ h => ⟨h.1, h.2.symm⟩
      generalize hmv : mkB nm = mv at *
      clear hmv
      go_loopw [5] (fun i W => ∃ (k : Nat), k ≤ lm + 70 ∧ i = .int .i64 k ∧ Below W0.heap.size W0 W) (fun i _ => lm + 70 - (intOf i).toNat)
      case atStart => exact ⟨0, by omega, rfl, Below.refl _ _⟩
      case round =>
        obtain ⟨k, hk, rfl, hB⟩ := hrel
        have keep : ∀ a v, W0.cell? a = some v → wr.cell? a = some v := fun a v h => (hB.cell (World.block_lt_of_cell? W0 a h)).trans h
        have c0 := keep _ _ L0
        have c1 := keep _ _ L1
        have c2 := keep _ _ L2
        by_cases hlk : k < lm + 70
        · have cg := keep _ _ (L.long k hlk)
          by_cases hlk2 : k < lm
          · obtain ⟨b, off, rfl, hl⟩ : ∃ b off, am = some ⟨b, off, none⟩ ∧ ∀ k, k < lm → W0.cell? ⟨b, off + k, none⟩ = some (.int .u16 mv) := by
              rcases L.l with h | h
              · omega
              · exact h
            have cl := keep _ _ (hl k hlk2)
            clear hl keep
            go_upto_region 10 with fail
            go_quiet ((go_at_call 83; first | exact Calls.quiet_of_same (HIS.out _) | exact quiet_add_same (HIS.out _)))
            go_wp2
            exact ⟨⟨k + 1, by omega, by go_num, below_on hB (below_drewN _ _)⟩, by simp [intOf]; omega⟩
          · clear keep
            go_upto_region 10 with fail
            go_quiet ((go_at_call 83; first | exact Calls.quiet_of_same (HIS.out _) | exact quiet_add_same (HIS.out _)))
            go_wp2
            exact ⟨⟨k + 1, by omega, by go_num, below_on hB (below_drewN _ _)⟩, by simp [intOf]; omega⟩
        · obtain rfl : k = lm + 70 := by omega
          go_wp2
          exact ⟨⟨m + 1, by omega, by go_num, below_on hB1 hB⟩, by simp [intOf]; omega⟩
    · obtain rfl : m = N := by omega
      go_wp2
      go_ret
      exact ⟨rfl, hB⟩
end Go.Proofs.YtolnnkalgioobaaGreatDoor
