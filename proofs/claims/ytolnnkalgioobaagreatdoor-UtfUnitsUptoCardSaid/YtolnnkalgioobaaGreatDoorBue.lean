/- The Book: all lists grow: the walk. -/
import Derived.Test.YtolnnkalgioobaaGreatDoorBud
namespace Go.Proofs.YtolnnkalgioobaaGreatDoor
open Go.RowKit
set_option maxRecDepth 100000
set_option linter.unusedVariables false
set_option linter.unusedSimpArgs false
set_option linter.unnecessarySimpa false

theorem info_elem : (Tryz.prog.info? 52).map (fun i => (i.zero, i.size, i.bytes)) = some (some (.int .u16 0), 1, 2) := by kernel_rfl
theorem news_one (w : World) (u : Value) (t : TypeId) : ∀ j x, [u][j]? = some x → (w.alloc (.cells #[u] t)).cell? ((⟨w.heap.size, 0, none⟩ : Addr).add j) = some x :=
  World.news_of_block (heap_alloc_new w (.cells #[u] t))
theorem grow_any (E : Ents) (p q B cp : Nat) (lg : Nat → Value) (w : World) (hb : w.cell? ⟨p, 7, none⟩ = some (.slice (some ⟨q, 0, none⟩) E.N cp)) (hI : GrowI E q B w w 0 lg) (hA : E.Apart p q) (hpq : p ≠ q) (hBw : B ≤ w.heap.size)
    (hlt : ∀ j g, j < E.N → (E.l j).ownBlock = some g → g < w.heap.size) (hq : q < w.heap.size) (hN : E.N ≤ 1000000) (hn : ∀ j, j < E.N → E.n j ≤ 1000000) (hl : ∀ j, j < E.N → E.len j ≤ 100000000000) :
    Calls Tryz.prog 54 #[.pointer (some ⟨p, 0, none⟩)] w fun e w' => e = .returned (.tuple #[]) ∧ ∃ lg', GrowI E q B w w' E.N lg' := by
  obtain ⟨i0, hi, hzz⟩ := Option.map_eq_some_iff.1 info_elem
  simp only [Prod.mk.injEq] at hzz
  obtain ⟨hz0, hz1, hz2⟩ := hzz
  have HA := Lib.hid hA
  have HL := Lib.hid hl
  have HNN := Lib.hid hn
  have HLT := Lib.hid hlt
  have HQ := Lib.hid hq
  have H0 := Lib.hid hI
  have hbp : Hid (∀ W, Keeps (fun k => E.S k ∨ k = q) w W → W.cell? ⟨p, 7, none⟩ = some (.slice (some ⟨q, 0, none⟩) E.N cp)) := Lib.hid fun W h => h.cell hb (by rintro (h | h); exact hA.p h; exact hpq h)
  clear hA hl hn hlt hq hI hb
  generalize hNN : E.N = N at *
  go_enter Tryz.func54, Tryz.ntmps54
  go_wp2
  go_loopw [2] (fun i W => ∃ (m : Nat) (lg : Nat → Value), m ≤ N ∧ i = .int .i64 m ∧ Hid (GrowI E q B w W m lg)) (fun i _ => N - (intOf i).toNat)
  case atStart => exact ⟨0, lg, by omega, rfl, H0⟩
  case round =>
    obtain ⟨m, lg, hm, rfl, HI⟩ := hrel
    have cb := hbp.out wr HI.out.k
    by_cases hlt : m < N
    · obtain ⟨r0, r1, r2⟩ := HI.out.row m (by rw [hNN]; exact hlt)
      rw [(HI.out.old m (by rw [hNN]; exact hlt) (Nat.le_refl _)).2] at r1
      simp only [Ents.l] at r0
      have hnm := HNN.out m hlt
      have hlm := HL.out m hlt
      have HSW : Hid (w.heap.size ≤ wr.heap.size) := Lib.hid HI.out.k.size
      have HST : Hid (∀ o, GrowJ E q B w (wr.alloc o) m 0 (wr.heap.size + 1) (E.l m) lg) := Lib.hid fun o => HI.out.start (by rw [hNN]; exact hlt) HQ.out (by rw [hNN]; exact HLT.out) o
      simp only [Ents.l] at HST
      obtain ⟨am, ha⟩ : ∃ a, E.A m = a := ⟨_, rfl⟩
      obtain ⟨lm, hlen⟩ : ∃ a, E.len m = a := ⟨_, rfl⟩
      obtain ⟨cm, hc⟩ : ∃ a, E.cap m = a := ⟨_, rfl⟩
      obtain ⟨nm, hn⟩ : ∃ a, E.n m = a := ⟨_, rfl⟩
      rw [ha, hlen, hc] at r0 HST
      rw [hn] at r2 hnm
      rw [hlen] at hlm
      have HA1 := Lib.hid ha
      have HLE := Lib.hid hlen
      have HNE := Lib.hid hn
      clear ha hlen hc hn
      go_upto_region 6 with fail
      have L2 : (wr.alloc (Obj.cells #[Value.slice am lm cm, Value.slice none 0 0, Value.int IntKind.i64 nm] 118)).cell? ⟨wr.heap.size, 2, none⟩ = some (Value.int IntKind.i64 nm) := by rw [cell_of_row _ _ _ _ _ _ (heap_alloc_new wr _)]; rfl
      have HJ0 := Lib.hid (HST.out (Obj.cells #[Value.slice am lm cm, Value.slice none 0 0, Value.int IntKind.i64 nm] 118))
      clear cb r0 r1 r2 HI HST
      generalize hW : wr.alloc (Obj.cells #[Value.slice am lm cm, Value.slice none 0 0, Value.int IntKind.i64 nm] 118) = W0 at *
      clear hW
      have HM : Hid (m < E.N) := Lib.hid (by rw [hNN]; exact hlt)
      generalize wr.heap.size = H at *
      go_loopw [4, 5] (fun v k W => ∃ (u : Value) (i : Nat), u = v ∧ i ≤ 70 ∧ k = .int .i64 i ∧ Hid (GrowJ E q B w W m i (H + 1) u lg) ∧ W.cell? ⟨H, 2, none⟩ = some (Value.int IntKind.i64 nm)) (fun _ k _ => 70 - (intOf k).toNat)
      case atStart => exact ⟨_, 0, rfl, by omega, rfl, HJ0, L2⟩
      case round =>
        obtain ⟨v, i, rfl, hi70, rfl, HJ, c2⟩ := hrel
        have hBR : B ≤ wr.heap.size := by have := HJ.out.lo; omega
        by_cases hlk : i < 70
        · have hmk := mkB_range nm hnm
          have HO : Hid (wr.ownsRow B 52 1 v (lm + i) (numsK .u16 (List.replicate (lm + i) (mkB nm)))) := Lib.hid (by
            have h := HJ.out.cur
            unfold Own at h
            rw [HLE.out, HNE.out, List.length_replicate] at h
            exact h)
          have HFIN : Hid (∀ g cap W2, W2.ownsRow B 52 1 (.slice (some ⟨g, 0, none⟩) (lm + i + 1) cap) (lm + i + 1) (numsK .u16 (List.replicate (lm + i) (mkB nm)) ++ [.int .u16 (mkB nm)]) → Tight (wr.alloc (.cells #[.int .u16 (mkB nm)] 52)) W2 v (lm + i) g cap →
              GrowJ E q B w W2 m (i + 1) (H + 1) (.slice (some ⟨g, 0, none⟩) (lm + i + 1) cap) lg ∧ W2.cell? ⟨H, 2, none⟩ = some (Value.int IntKind.i64 nm)) := Lib.hid fun g cap W2 h1 h2 => by
            have e1 := HLE.out
            have e2 := HNE.out
            subst e1 e2
            exact ⟨HJ.out.step HA.out (by rw [hNN]; exact HLT.out) HQ.out HM.out h1 h2, (World.cell?_of_block (a := ⟨H, 2, none⟩) (HJ.out.local (by rw [hNN]; exact HLT.out) HM.out h2 H HSW.out (by omega))).trans c2⟩
          clear HJ
          generalize hmv : mkB nm = mv at *
          go_wp2_with (first | (go_at_call 80; refine (bkmark_any nm _ hnm).mono ?_; rintro e w2 ⟨rfl, rfl⟩; rw [hmv]) | (at_builtin; refine wpList_tight _ rfl (.tmp 28) (.tmp 32) 48 rfl B 52 i0 (.int .u16 0) 1 2 Tryz.underlying48 hi hz0 hz1 hz2 rfl (by decide) v (lm + i) _ rfl (World.ownsRow.alloc HO.out _) ⟨wr.heap.size, 0, none⟩ 1 [.int .u16 mv] rfl rfl (news_one _ _ _) (by intro u hu; simp at hu; subst hu; rfl) (by omega) (by decide) (by simp; omega) ?_; intro g cap w4 ho4 ht4; have HF := Lib.hid (HFIN.out g cap w4 ho4 ht4); clear ho4 ht4))
          exact ⟨⟨_, i + 1, rfl, by omega, by go_num, Lib.hid HF.out.1, HF.out.2⟩, by simp [intOf]; omega⟩
        · obtain rfl : i = 70 := by omega
          obtain ⟨g, c, rfl, hbg, hgl⟩ := World.ownsRow.form HJ.out.cur (by simp)
          rw [List.length_replicate] at HJ
          have HI2 := Lib.hid (HJ.out.stop HA.out (by rw [hNN]; exact HLT.out) HQ.out HM.out)
          have cb := hbp.out wr HJ.out.k
          obtain ⟨r0, r1, r2⟩ := HJ.out.row m HM.out
          have hfz : wr.frozen? ⟨q, m * 3 + 1, none⟩ = false := by
            obtain ⟨cur, hc⟩ := HJ.out.blk
            exact Lib.frozen_of_heap hc _
          simp only [List.length_replicate] at *
          rw [HLE.out] at HI2
          simp only [HLE.out] at *
          clear HJ
          go_wp2
          exact ⟨⟨m + 1, _, by omega, by go_num, HI2⟩, by simp [intOf]; omega⟩
    · obtain rfl : m = N := by omega
      go_wp2
      go_end0
      exact ⟨rfl, lg, HI.out⟩
end Go.Proofs.YtolnnkalgioobaaGreatDoor
