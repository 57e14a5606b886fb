/- Xcb · Xcc: merged. -/
import Derived.Test.YtcpkjmpbpmeclaaGreatDoorMay
import Derived.Test.YtcpkjmpbpmeclaaGreatDoorMae
section
/- order.Twice of pairs (printed by genXC1.py). -/
namespace Go.Proofs.YtcpkjmpbpmeclaaGreatDoor
open Go.RowKit
set_option maxRecDepth 100000
set_option linter.unusedVariables false
set_option linter.unusedSimpArgs false
set_option linter.unnecessarySimpa false

/-- While the places are numbered: 'q2': the box of the list, 'q1' of the order. -/
structure Plc (w W : World) (q1 q2 gp g off cap i m : Nat) : Prop where
  b : Below w.heap.size w W
  c1 : Boxed W q1 124 (.func (.func 128) #[] #[])
  c2 : Boxed W q2 119 (.slice (some ⟨g, off, none⟩) m cap)
  h : ∃ cur, W.heap[gp]? = some (.cells cur 3 (0, 0)) ∧ cur.size = m ∧ ∀ j, j < i → cur[j]? = some (.int .i64 (j : Nat))
  d : w.heap.size ≤ gp ∧ q1 ≠ gp ∧ q2 ≠ gp
theorem Plc.put {w W : World} {q1 q2 gp g off cap i m : Nat} (h : Plc w W q1 q2 gp g off cap i m) (hi : i < m) : Plc w (W.setCell ⟨gp, i, none⟩ (.int .i64 (i : Nat))) q1 q2 gp g off cap (i + 1) m := by
  obtain ⟨cur, h1, h2, h3⟩ := h.h
  have hd := h.d
  have hg : W.grownBy (W.setCell ⟨gp, i, none⟩ (.int .i64 (i : Nat))) (some gp) := ⟨rfl, rfl, rfl, (KeepsWalks.setCell W _ _).size, fun k _ hk => Below.heap_setCell _ _ _ k (fun e => hk (by rw [e]))⟩
  refine ⟨h.b.grown hg h.b.size (fun k e => by injection e with e; omega), Eq.trans (Below.heap_setCell _ _ _ _ hd.2.1) h.c1, Eq.trans (Below.heap_setCell _ _ _ _ hd.2.2) h.c2, ⟨_, heap_setCell_same W gp i cur _ _ h1, by rw [Array.size_setIfInBounds]; exact h2, fun j hj => ?_⟩, hd⟩
  rw [Array.getElem?_setIfInBounds]
  by_cases e : i = j
  · subst e
    rw [if_pos rfl, if_pos (by omega)]
  · rw [if_neg e]
    exact h3 j (by omega)
theorem Plc.row {w W : World} {q1 q2 gp g off cap m : Nat} (h : Plc w W q1 q2 gp g off cap m m) : ERowi W gp 0 (numsI m) := fun i hi k u hu => by
  obtain ⟨cur, h1, h2, h3⟩ := h.h
  have hk : k < 1 := by have := (List.getElem?_eq_some_iff.1 hu).1; rwa [enci_len] at this
  obtain rfl : k = 0 := by omega
  rw [numsI_get] at hu
  simp only [enci, List.getElem?_cons_zero, Option.some.injEq] at hu
  subst hu
  rw [cell_of_row _ _ _ _ _ _ h1, show 0 + i * 1 + 0 = i by omega]
  exact h3 i (by rw [numsI_len] at hi; exact hi)
/-- While neighbours are held against each other: 'Ws': the world behind the sorting. -/
structure Twc (Ws W : World) (c : ELp → ELp → Int) (gf : Int → ELp) (R : List Int) (k : Nat) (f : Int) : Prop where
  b : Below Ws.heap.size Ws W
  t : TwiceI c gf R k f
set_option maxHeartbeats 16000000 in
theorem twiceW (g off cap m : Nat) (c : ELp → ELp → Int) (L : List ELp) (w : World) (gf : Int → ELp) (hL : L.length = m) (hm0 : 0 < m) (hm1 : m ≤ 1000000000) (hr : ERowp w g off L) (hc : Cmpp w c L) (hO : OrdC c) (hg : ∀ (i : Nat) (h : i < L.length), gf (i : Int) = L[i]) :
    Calls Tryz.prog 129 #[.slice (some ⟨g, off, none⟩) m cap, .func (.func 128) #[] #[]] w fun e w' => ∃ f : Int, e = .returned (.int .i64 f) ∧ Hid (TwiceAt c gf m f) ∧ Below w.heap.size w w' := by
  obtain ⟨i0, z0, hi, hz0, hz1, hz2, hzs⟩ := infoi3
  obtain ⟨Z, hZ⟩ : ∃ Z, madeCells z0.cells (m * 1) = Z := ⟨_, rfl⟩
  have hZs : Z.size = m := by rw [← hZ, size_madeCells, Nat.mul_one]
  have hmk : ∀ W : World, (Instr.makeSlice 93 (.int .i64 (m : Nat)) (.int .i64 (m : Nat))).run Tryz.prog W = .ok (.slice (some ⟨W.heap.size, 0, none⟩) m m) (W.alloc (.cells Z 3)) := fun W => by
    have h := run_make (P := Tryz.prog) W 93 3 i0 z0 Tryz.underlying93 hi hz0 .i64 .i64 (m : Nat) (m : Nat) (by omega) (by omega) (by rw [hz2]; omega) (by omega)
    rw [Int.toNat_natCast, hz1, hZ] at h
    exact h
  have qf : ∀ w : World, (binOp .eql 124 (.func (.func 128) #[] #[]) .nilFunc).run Tryz.prog w = .ok (.bool false) w := fun w => by kernel_rfl
  have HZS := Lib.hid hZs
  have HC := Lib.hid hc
  have HO := Lib.hid hO
  have HR := Lib.hid hr
  have HG := Lib.hid hg
  have HL := Lib.hid hL
  clear hZ hi hz0 hz1 hz2 hzs hr hc hO hg hL hZs
  go_enter Tryz.func129, Tryz.ntmps129
  go_wp2
  have P0 : Hid (Plc w (((w.alloc (.cells #[.slice (some ⟨g, off, none⟩) m cap] 119)).alloc (.cells #[.func (.func 128) #[] #[]] 124)).alloc (.cells Z 3)) (w.heap.size + 1) w.heap.size (w.heap.size + 1 + 1) g off cap 0 m) := Lib.hid (by
    have old : ∀ (X : World) (o : Obj) (i : Nat), i < X.heap.size → (X.alloc o).heap[i]? = X.heap[i]? := fun X o i hi => Below.heap_alloc X o i hi
    have new : ∀ (X : World) (o : Obj) (i : Nat), i = X.heap.size → (X.alloc o).heap[i]? = some o := fun X o i hi => by rw [hi]; exact heap_alloc_new X o
    refine ⟨((((Below.refl _ w).alloc (Nat.le_refl _) _).alloc (by simp) _).alloc (by simp; omega) _), ?_, ?_, ⟨Z, ?_, HZS.out, fun j hj => absurd hj (Nat.not_lt_zero _)⟩, by omega, by omega, by omega⟩
    · unfold Boxed
      rw [old _ _ _ (by simp <;> omega), new _ _ _ (by simp)]
    · unfold Boxed
      rw [old _ _ _ (by simp <;> omega), old _ _ _ (by simp <;> omega), new _ _ _ rfl]
    · rw [new _ _ _ (by simp)])
  generalize (((w.alloc (.cells #[.slice (some ⟨g, off, none⟩) m cap] 119)).alloc (.cells #[.func (.func 128) #[] #[]] 124)).alloc (.cells Z 3)) = W0 at *
  generalize w.heap.size + 1 + 1 = gp at *
  generalize hq1 : w.heap.size + 1 = q1 at *
  go_loopw [16] (fun t W => ∃ i : Nat, t = .int .i64 (i : Nat) ∧ i ≤ m ∧ Hid (Plc w W q1 w.heap.size gp g off cap i m)) (fun t _ => m - (intOf t).toNat)
  case atStart => exact ⟨0, rfl, Nat.zero_le _, P0⟩
  case round =>
    obtain ⟨i, rfl, him, HP⟩ := hrel
    by_cases hlt : i < m
    · have hlt2 : (i : Int) < (m : Int) := by omega
      have hi0 : (0 : Int) ≤ (i : Int) := by omega
      obtain ⟨cur, h1, h2, h3⟩ := HP.out.h
      have hcl : ∃ v, wr.cell? ⟨gp, i, none⟩ = some v := ⟨_, (cell_of_row _ _ _ _ _ _ h1).trans (Array.getElem?_eq_getElem (by omega))⟩
      obtain ⟨v0, hcl⟩ := hcl
      have hfr : wr.frozen? ⟨gp, i, none⟩ = false := by simp [World.frozen?, h1]
      have HP2 := Lib.hid (HP.out.put hlt)
      clear h1 h2 h3
      go_wp2
      go_roundw
      case rel => exact ⟨i + 1, by go_num, hlt, HP2⟩
      case measure => simp [intOf]; omega
    · obtain rfl : i = m := by omega
      have HRW := Lib.hid HP.out.row
      have bQ1 := HP.out.c1
      have bQ2 := HP.out.c2
      have hpb := Lib.hid HP.out.b
      have hpd := HP.out.d
      have HCM : Hid (Cmpi wr q1 w.heap.size (fun x y => c (gf x) (gf y)) (numsI i)) := Lib.hid (twice1_any c L wr q1 w.heap.size g off i cap gf bQ1.cell bQ2.cell (fun j hj k u hu => keep1 hpb.out (HR.out j hj k u hu)) HL.out (fun x hx y hy W hW => HC.out x hx y hy W (trans_b hpb.out hW)) HG.out)
      have HSO : Hid (Calls Tryz.prog 189 #[.slice (some ⟨gp, 0, none⟩) i i, .func (.func 190) #[] #[.pointer (some ⟨q1, 0, none⟩), .pointer (some ⟨w.heap.size, 0, none⟩)]] wr fun e w' => ∃ gb cap' csz R, e = .returned (.slice (some ⟨gb, 0, none⟩) i cap') ∧
          Hid (wr.heap.size ≤ gb ∧ (∃ cur, w'.heap[gb]? = some (.cells cur 3 (0, 0)) ∧ cur.size = csz) ∧ ERowi w' gb 0 R ∧ SortedC (lexI c gf) R ∧ R.Perm (numsI i)) ∧ Below wr.heap.size wr w') :=
        Lib.hid (sorti_any q1 w.heap.size gp 0 i i (fun x y => c (gf x) (gf y)) (lexI c gf) (numsI i) wr (numsI_len i) hm0 hm1 HRW.out HCM.out (lexI_ord HO.out gf) (lexI_stab gf i))
      have cQ1 := bQ1.cell
      have cQ2 := bQ2.cell
      clear bQ1 bQ2 HCM HRW
      go_wp2_with (go_at_call 189; go_must (refine HSO.out.mono ?_); go_must (rintro e w1 ⟨gb, cp, csz, R, rfl, HR1, hb1⟩; have HB1 := Lib.hid hb1; clear hb1))
      have hlr : R.length = i := by have := HR1.out.2.2.2.2.length_eq; rwa [numsI_len] at this
      have HLR := Lib.hid hlr
      clear hlr
      obtain ⟨W2, rfl⟩ : ∃ W2, W2 = wr := ⟨_, rfl⟩
      go_loopw [7, 8] (fun t u W => ∃ (f : Int) (j : Nat), t = .int .i64 f ∧ u = .int .i64 (j : Nat) ∧ 1 ≤ j ∧ j ≤ i ∧ -1 ≤ f ∧ f ≤ 1000000000 ∧ Hid (Twc w1 W c gf R (j - 1) f)) (fun _ u _ => i - (intOf u).toNat)
      case atStart => exact ⟨-1, 1, rfl, rfl, Nat.le_refl _, hm0, by omega, by omega, Lib.hid ⟨Below.refl _ _, twiceI_zero c gf R⟩⟩
      case round =>
        obtain ⟨f, j, rfl, rfl, hj1, hji, hf1, hf2, HT⟩ := hrel
        by_cases hlt : j < i
        · obtain ⟨k, rfl⟩ : ∃ k, j = k + 1 := ⟨j - 1, by omega⟩
          obtain ⟨hk1, hk2⟩ : k < R.length ∧ k + 1 < R.length := by have := HLR.out; omega
          obtain ⟨a, ha, hae⟩ := numsI_mem.1 (HR1.out.2.2.2.2.mem_iff.1 (List.getElem_mem hk1))
          obtain ⟨b, hb, hbe⟩ := numsI_mem.1 (HR1.out.2.2.2.2.mem_iff.1 (List.getElem_mem hk2))
          have hBW : Below W2.heap.size W2 wr := trans_b HB1.out HT.out.b
          have c1 := keep1 hBW cQ1
          have c2 := keep1 hBW cQ2
          have r1 := HR1.out.2.2.1 k hk1 0 (.int .i64 a) (by rw [hae]; rfl)
          have r2 := HR1.out.2.2.1 (k + 1) hk2 0 (.int .i64 b) (by rw [hbe]; rfl)
          have c3 : wr.cell? ⟨gb, k, none⟩ = some (.int .i64 (a : Nat)) := keep1 HT.out.b (by rw [show 0 + k * 1 + 0 = k by omega] at r1; exact r1)
          have c4 : wr.cell? ⟨gb, k + 1, none⟩ = some (.int .i64 (b : Nat)) := keep1 HT.out.b (by rw [show 0 + (k + 1) * 1 + 0 = k + 1 by omega] at r2; exact r2)
          have hBW0 : Below w.heap.size w wr := trans_b hpb.out hBW
          have haL : a < L.length := by have := HL.out; omega
          have hbL : b < L.length := by have := HL.out; omega
          have hlp : ∀ W, Below wr.heap.size wr W → Sem.run Tryz.prog (loadVar 123 ⟨g, off + a * 17, none⟩) W = .ok (.agg (encp L[a]).toArray) W := fun W hW => pair_load (m := i) HR.out (trans_b hBW0 hW) haL
          have hlq : ∀ W, Below wr.heap.size wr W → Sem.run Tryz.prog (loadVar 123 ⟨g, off + b * 17, none⟩) W = .ok (.agg (encp L[b]).toArray) W := fun W hW => pair_load (m := i) HR.out (trans_b hBW0 hW) hbL
          obtain ⟨z, hz⟩ : ∃ z, c (L[a]'haL) (L[b]'hbL) = z := ⟨_, rfl⟩
          have HCALL : Hid (∀ W, Below wr.heap.size wr W → Calls Tryz.prog 128 #[.agg (encp L[a]).toArray, .agg (encp L[b]).toArray] W fun e w' => e = .returned (.int .i64 z) ∧ Below W.heap.size W w') := Lib.hid fun W hW => by
            rw [← hz]
            exact HC.out _ (List.getElem_mem haL) _ (List.getElem_mem hbL) W (trans_b hBW0 hW)
          have HZ : Hid (c (gf R[k]) (gf R[k + 1]) = z) := Lib.hid (by rw [hae, hbe, HG.out a haL, HG.out b hbL]; exact hz)
          have HAB : Hid (R[k + 1] = (b : Int)) := Lib.hid hbe
          generalize (encp L[a]).toArray = Xp at *
          generalize (encp L[b]).toArray = Xq at *
          have HBD : Hid (Below wr.heap.size wr wr.drew) := Lib.hid (Below.refl _ _).drew
          have HW0 := Lib.hid hBW0
          clear r1 r2 hae hbe hz hBW hBW0 haL hbL
          have HT1 : Hid (TwiceI c gf R k f) := Lib.hid HT.out.t
          have hwk : IntKind.i64.wrap (k : Int) = k := wraps_i64 _ (by omega) (by omega)
          have hk0 : (0 : Int) ≤ (k : Int) := by omega
          have hk10 : (0 : Int) ≤ (k : Int) + 1 := by omega
          have hki : (k : Int) < (i : Int) := by omega
          have hki1 : (k : Int) + 1 < (i : Int) := by omega
          have ha0 : (0 : Int) ≤ (a : Int) := by omega
          have hai : (a : Int) < (i : Int) := by omega
          have hb0 : (0 : Int) ≤ (b : Int) := by omega
          have hbi : (b : Int) < (i : Int) := by omega
          by_cases hzz : z = 0
          · subst hzz
            by_cases hfn : f < 0
            · have hfb : decide (f < 0) = true := decide_eq_true hfn
              have HT2 : Hid (TwiceI c gf R (k + 1) (b : Int)) := Lib.hid (by rw [← HAB.out]; exact twiceI_hit c HT1.out hk2 HZ.out (by rw [HAB.out]; omega) (.inl hfn))
              go_upto_region 14 with fail
              refine wp_region_held_drew (S := fun X => Below wr.heap.size wr X) (by kernel_rfl) HBD.out (fun hH => ?_)
              refine wpAnyH_take (i := 0) (oi := _) (v := ?_) rfl (by kernel_rfl) (by kernel_rfl) (by kernel_rfl) (fun _ _ _ h => h) (Or.inl ⟨by rfl, ?_⟩) hH ?_
              rotate_left 1
              · intro Y hSY
                have s1 := keep1 hSY c1; have s2 := keep1 hSY c2; have s3 := keep1 hSY c3; have s4 := keep1 hSY c4
                go_simp
                with_reducible rfl
              try simp only [List.getElem_toArray, List.getElem_cons_succ, List.getElem_cons_zero, Act.put, List.setIfInBounds_toArray, List.set_cons_zero, List.set_cons_succ]
              refine wpAnyH_take (i := 1) (oi := _) (v := ?_) rfl (by kernel_rfl) (by kernel_rfl) (by kernel_rfl) (fun _ _ _ h => h) (Or.inl ⟨by rfl, ?_⟩) hH ?_
              rotate_left 1
              · intro Y hSY
                have s1 := keep1 hSY c1; have s2 := keep1 hSY c2; have s3 := keep1 hSY c3; have s4 := keep1 hSY c4
                go_simp
                with_reducible rfl
              try simp only [List.getElem_toArray, List.getElem_cons_succ, List.getElem_cons_zero, Act.put, List.setIfInBounds_toArray, List.set_cons_zero, List.set_cons_succ]
              refine wpAnyH_take (i := 2) (oi := _) (v := ?_) rfl (by kernel_rfl) (by kernel_rfl) (by kernel_rfl) (fun _ _ _ h => h) (Or.inl ⟨by rfl, ?_⟩) hH ?_
              rotate_left 1
              · intro Y hSY
                have s1 := keep1 hSY c1; have s2 := keep1 hSY c2; have s3 := keep1 hSY c3; have s4 := keep1 hSY c4
                go_simp
                with_reducible rfl
              try simp only [List.getElem_toArray, List.getElem_cons_succ, List.getElem_cons_zero, Act.put, List.setIfInBounds_toArray, List.set_cons_zero, List.set_cons_succ]
              refine wpAnyH_take (i := 3) (oi := _) (v := ?_) rfl (by kernel_rfl) (by kernel_rfl) (by kernel_rfl) (fun _ _ _ h => h) (Or.inl ⟨by rfl, ?_⟩) hH ?_
              rotate_left 1
              · intro Y hSY
                have s1 := keep1 hSY c1; have s2 := keep1 hSY c2; have s3 := keep1 hSY c3; have s4 := keep1 hSY c4
                go_simp
                with_reducible rfl
              try simp only [List.getElem_toArray, List.getElem_cons_succ, List.getElem_cons_zero, Act.put, List.setIfInBounds_toArray, List.set_cons_zero, List.set_cons_succ]
              refine wpAnyH_take (i := 4) (oi := _) (v := ?_) rfl (by kernel_rfl) (by kernel_rfl) (by kernel_rfl) (fun _ _ _ h => h) (Or.inl ⟨by rfl, ?_⟩) hH ?_
              rotate_left 1
              · intro Y hSY
                have s1 := keep1 hSY c1; have s2 := keep1 hSY c2; have s3 := keep1 hSY c3; have s4 := keep1 hSY c4
                go_simp
                with_reducible rfl
              try simp only [List.getElem_toArray, List.getElem_cons_succ, List.getElem_cons_zero, Act.put, List.setIfInBounds_toArray, List.set_cons_zero, List.set_cons_succ]
              refine wpAnyH_take (i := 5) (oi := _) (v := ?_) rfl (by kernel_rfl) (by kernel_rfl) (by kernel_rfl) (fun _ _ _ h => h) (Or.inl ⟨by rfl, ?_⟩) hH ?_
              rotate_left 1
              · intro Y hSY
                have s1 := keep1 hSY c1; have s2 := keep1 hSY c2; have s3 := keep1 hSY c3; have s4 := keep1 hSY c4
                go_simp
                with_reducible rfl
              try simp only [List.getElem_toArray, List.getElem_cons_succ, List.getElem_cons_zero, Act.put, List.setIfInBounds_toArray, List.set_cons_zero, List.set_cons_succ]
              refine wpAnyH_take (i := 6) (oi := _) (v := ?_) rfl (by kernel_rfl) (by kernel_rfl) (by kernel_rfl) (fun _ _ _ h => h) (Or.inl ⟨by rfl, ?_⟩) hH ?_
              rotate_left 1
              · intro Y hSY
                have s1 := keep1 hSY c1; have s2 := keep1 hSY c2; have s3 := keep1 hSY c3; have s4 := keep1 hSY c4
                go_simp
                with_reducible rfl
              try simp only [List.getElem_toArray, List.getElem_cons_succ, List.getElem_cons_zero, Act.put, List.setIfInBounds_toArray, List.set_cons_zero, List.set_cons_succ]
              refine wpAnyH_take (i := 7) (oi := _) (v := ?_) rfl (by kernel_rfl) (by kernel_rfl) (by kernel_rfl) (fun _ _ _ h => h) (Or.inl ⟨by rfl, ?_⟩) hH ?_
              rotate_left 1
              · intro Y hSY
                have s1 := keep1 hSY c1; have s2 := keep1 hSY c2; have s3 := keep1 hSY c3; have s4 := keep1 hSY c4
                go_simp
                with_reducible rfl
              try simp only [List.getElem_toArray, List.getElem_cons_succ, List.getElem_cons_zero, Act.put, List.setIfInBounds_toArray, List.set_cons_zero, List.set_cons_succ]
              refine wpAnyH_take (i := 8) (oi := _) (v := .agg Xp) rfl (by kernel_rfl) (by kernel_rfl) (by kernel_rfl) (fun _ _ _ h => h) (yieldsIf_run (by rfl) _ _ rfl _ rfl _ (fun Y hY => hlp Y hY)) hH ?_
              try simp only [List.getElem_toArray, List.getElem_cons_succ, List.getElem_cons_zero, Act.put, List.setIfInBounds_toArray, List.set_cons_zero, List.set_cons_succ]
              refine wpAnyH_take (i := 9) (oi := _) (v := ?_) rfl (by kernel_rfl) (by kernel_rfl) (by kernel_rfl) (fun _ _ _ h => h) (Or.inl ⟨by rfl, ?_⟩) hH ?_
              rotate_left 1
              · intro Y hSY
                have s1 := keep1 hSY c1; have s2 := keep1 hSY c2; have s3 := keep1 hSY c3; have s4 := keep1 hSY c4
                go_simp
                with_reducible rfl
              try simp only [List.getElem_toArray, List.getElem_cons_succ, List.getElem_cons_zero, Act.put, List.setIfInBounds_toArray, List.set_cons_zero, List.set_cons_succ]
              refine wpAnyH_take (i := 10) (oi := _) (v := ?_) rfl (by kernel_rfl) (by kernel_rfl) (by kernel_rfl) (fun _ _ _ h => h) (Or.inl ⟨by rfl, ?_⟩) hH ?_
              rotate_left 1
              · intro Y hSY
                have s1 := keep1 hSY c1; have s2 := keep1 hSY c2; have s3 := keep1 hSY c3; have s4 := keep1 hSY c4
                go_simp
                with_reducible rfl
              try simp only [List.getElem_toArray, List.getElem_cons_succ, List.getElem_cons_zero, Act.put, List.setIfInBounds_toArray, List.set_cons_zero, List.set_cons_succ]
              refine wpAnyH_take (i := 11) (oi := _) (v := ?_) rfl (by kernel_rfl) (by kernel_rfl) (by kernel_rfl) (fun _ _ _ h => h) (Or.inl ⟨by rfl, ?_⟩) hH ?_
              rotate_left 1
              · intro Y hSY
                have s1 := keep1 hSY c1; have s2 := keep1 hSY c2; have s3 := keep1 hSY c3; have s4 := keep1 hSY c4
                go_simp
                with_reducible rfl
              try simp only [List.getElem_toArray, List.getElem_cons_succ, List.getElem_cons_zero, Act.put, List.setIfInBounds_toArray, List.set_cons_zero, List.set_cons_succ]
              refine wpAnyH_take (i := 12) (oi := _) (v := ?_) rfl (by kernel_rfl) (by kernel_rfl) (by kernel_rfl) (fun _ _ _ h => h) (Or.inl ⟨by rfl, ?_⟩) hH ?_
              rotate_left 1
              · intro Y hSY
                have s1 := keep1 hSY c1; have s2 := keep1 hSY c2; have s3 := keep1 hSY c3; have s4 := keep1 hSY c4
                go_simp
                with_reducible rfl
              try simp only [List.getElem_toArray, List.getElem_cons_succ, List.getElem_cons_zero, Act.put, List.setIfInBounds_toArray, List.set_cons_zero, List.set_cons_succ]
              refine wpAnyH_take (i := 13) (oi := _) (v := ?_) rfl (by kernel_rfl) (by kernel_rfl) (by kernel_rfl) (fun _ _ _ h => h) (Or.inl ⟨by rfl, ?_⟩) hH ?_
              rotate_left 1
              · intro Y hSY
                have s1 := keep1 hSY c1; have s2 := keep1 hSY c2; have s3 := keep1 hSY c3; have s4 := keep1 hSY c4
                go_simp
                with_reducible rfl
              try simp only [List.getElem_toArray, List.getElem_cons_succ, List.getElem_cons_zero, Act.put, List.setIfInBounds_toArray, List.set_cons_zero, List.set_cons_succ]
              refine wpAnyH_take (i := 14) (oi := _) (v := ?_) rfl (by kernel_rfl) (by kernel_rfl) (by kernel_rfl) (fun _ _ _ h => h) (Or.inl ⟨by rfl, ?_⟩) hH ?_
              rotate_left 1
              · intro Y hSY
                have s1 := keep1 hSY c1; have s2 := keep1 hSY c2; have s3 := keep1 hSY c3; have s4 := keep1 hSY c4
                go_simp
                with_reducible rfl
              try simp only [List.getElem_toArray, List.getElem_cons_succ, List.getElem_cons_zero, Act.put, List.setIfInBounds_toArray, List.set_cons_zero, List.set_cons_succ]
              refine wpAnyH_take (i := 15) (oi := _) (v := .agg Xq) rfl (by kernel_rfl) (by kernel_rfl) (by kernel_rfl) (fun _ _ _ h => h) (yieldsIf_run (by rfl) _ _ rfl _ rfl _ (fun Y hY => hlq Y hY)) hH ?_
              try simp only [List.getElem_toArray, List.getElem_cons_succ, List.getElem_cons_zero, Act.put, List.setIfInBounds_toArray, List.set_cons_zero, List.set_cons_succ]
              refine wpAnyH_ready (rs := [16]) (by kernel_rfl) (by simp) ?_
              refine AllReadyH.cons rfl (fun K hK => ?_) AllReadyH.nil
              go_simp
              go_at_call 128
              refine (HCALL.out _ HBD.out).mono ?_
              rintro e w1 ⟨rfl, hb1'⟩
              have hb1 := Lib.hid (trans_b hH hb1')
              clear hb1' hH
              go_wp2_with fail
              refine hK.out _ _ hb1.out (fun hH => ?_)
              clear hK K
              try simp only [List.getElem_toArray, List.getElem_cons_succ, List.getElem_cons_zero, Act.put, List.setIfInBounds_toArray, List.set_cons_zero, List.set_cons_succ]
              refine wpAnyH_take (i := 17) (oi := _) (v := ?_) rfl (by kernel_rfl) (by kernel_rfl) (by kernel_rfl) (fun _ _ _ h => h) (Or.inl ⟨by rfl, ?_⟩) hH ?_
              rotate_left 1
              · intro Y hSY
                have s1 := keep1 hSY c1; have s2 := keep1 hSY c2; have s3 := keep1 hSY c3; have s4 := keep1 hSY c4
                go_simp
                with_reducible rfl
              try simp only [List.getElem_toArray, List.getElem_cons_succ, List.getElem_cons_zero, Act.put, List.setIfInBounds_toArray, List.set_cons_zero, List.set_cons_succ]
              refine wpAnyH_take (i := 18) (oi := _) (v := ?_) rfl (by kernel_rfl) (by kernel_rfl) (by kernel_rfl) (fun _ _ _ h => h) (Or.inl ⟨by rfl, ?_⟩) hH ?_
              rotate_left 1
              · intro Y hSY
                have s1 := keep1 hSY c1; have s2 := keep1 hSY c2; have s3 := keep1 hSY c3; have s4 := keep1 hSY c4
                go_simp
                with_reducible rfl
              try simp only [List.getElem_toArray, List.getElem_cons_succ, List.getElem_cons_zero, Act.put, List.setIfInBounds_toArray, List.set_cons_zero, List.set_cons_succ]
              refine wpAnyH_take (i := 19) (oi := _) (v := ?_) rfl (by kernel_rfl) (by kernel_rfl) (by kernel_rfl) (fun _ _ _ h => h) (Or.inl ⟨by rfl, ?_⟩) hH ?_
              rotate_left 1
              · intro Y hSY
                have s1 := keep1 hSY c1; have s2 := keep1 hSY c2; have s3 := keep1 hSY c3; have s4 := keep1 hSY c4
                go_simp
                with_reducible rfl
              try simp only [List.getElem_toArray, List.getElem_cons_succ, List.getElem_cons_zero, Act.put, List.setIfInBounds_toArray, List.set_cons_zero, List.set_cons_succ]
              refine wpAnyH_take (i := 20) (oi := _) (v := ?_) rfl (by kernel_rfl) (by kernel_rfl) (by kernel_rfl) (fun _ _ _ h => h) (Or.inl ⟨by rfl, ?_⟩) hH ?_
              rotate_left 1
              · intro Y hSY
                have s1 := keep1 hSY c1; have s2 := keep1 hSY c2; have s3 := keep1 hSY c3; have s4 := keep1 hSY c4
                go_simp
                with_reducible rfl
              try simp only [List.getElem_toArray, List.getElem_cons_succ, List.getElem_cons_zero, Act.put, List.setIfInBounds_toArray, List.set_cons_zero, List.set_cons_succ]
              refine wpAnyH_take (i := 21) (oi := _) (v := ?_) rfl (by kernel_rfl) (by kernel_rfl) (by kernel_rfl) (fun _ _ _ h => h) (Or.inl ⟨by rfl, ?_⟩) hH ?_
              rotate_left 1
              · intro Y hSY
                have s1 := keep1 hSY c1; have s2 := keep1 hSY c2; have s3 := keep1 hSY c3; have s4 := keep1 hSY c4
                go_simp
                with_reducible rfl
              try simp only [List.getElem_toArray, List.getElem_cons_succ, List.getElem_cons_zero, Act.put, List.setIfInBounds_toArray, List.set_cons_zero, List.set_cons_succ]
              refine wpAnyH_take (i := 22) (oi := _) (v := undef) rfl (by kernel_rfl) (by kernel_rfl) (by kernel_rfl) (fun _ _ _ h => h) (Or.inr ⟨by rfl, rfl⟩) hH ?_
              try simp only [List.getElem_toArray, List.getElem_cons_succ, List.getElem_cons_zero, Act.put, List.setIfInBounds_toArray, List.set_cons_zero, List.set_cons_succ]
              refine wpAnyH_take (i := 23) (oi := _) (v := undef) rfl (by kernel_rfl) (by kernel_rfl) (by kernel_rfl) (fun _ _ _ h => h) (Or.inr ⟨by rfl, rfl⟩) hH ?_
              try simp only [List.getElem_toArray, List.getElem_cons_succ, List.getElem_cons_zero, Act.put, List.setIfInBounds_toArray, List.set_cons_zero, List.set_cons_succ]
              refine wpAnyH_take (i := 24) (oi := _) (v := undef) rfl (by kernel_rfl) (by kernel_rfl) (by kernel_rfl) (fun _ _ _ h => h) (Or.inr ⟨by rfl, rfl⟩) hH ?_
              try simp only [List.getElem_toArray, List.getElem_cons_succ, List.getElem_cons_zero, Act.put, List.setIfInBounds_toArray, List.set_cons_zero, List.set_cons_succ]
              refine wpAnyH_take (i := 25) (oi := _) (v := undef) rfl (by kernel_rfl) (by kernel_rfl) (by kernel_rfl) (fun _ _ _ h => h) (Or.inr ⟨by rfl, rfl⟩) hH ?_
              try simp only [List.getElem_toArray, List.getElem_cons_succ, List.getElem_cons_zero, Act.put, List.setIfInBounds_toArray, List.set_cons_zero, List.set_cons_succ]
              refine wpAnyH_take (i := 26) (oi := _) (v := undef) rfl (by kernel_rfl) (by kernel_rfl) (by kernel_rfl) (fun _ _ _ h => h) (Or.inr ⟨by rfl, rfl⟩) hH ?_
              try simp only [List.getElem_toArray, List.getElem_cons_succ, List.getElem_cons_zero, Act.put, List.setIfInBounds_toArray, List.set_cons_zero, List.set_cons_succ]
              refine wpAnyH_take (i := 27) (oi := _) (v := undef) rfl (by kernel_rfl) (by kernel_rfl) (by kernel_rfl) (fun _ _ _ h => h) (Or.inr ⟨by rfl, rfl⟩) hH ?_
              try simp only [List.getElem_toArray, List.getElem_cons_succ, List.getElem_cons_zero, Act.put, List.setIfInBounds_toArray, List.set_cons_zero, List.set_cons_succ]
              refine wpAnyH_take (i := 28) (oi := _) (v := ?_) rfl (by kernel_rfl) (by kernel_rfl) (by kernel_rfl) (fun _ _ _ h => h) (Or.inl ⟨by rfl, ?_⟩) hH ?_
              rotate_left 1
              · intro Y hSY
                have s1 := keep1 hSY c1; have s2 := keep1 hSY c2; have s3 := keep1 hSY c3; have s4 := keep1 hSY c4
                go_simp
                with_reducible rfl
              try simp only [List.getElem_toArray, List.getElem_cons_succ, List.getElem_cons_zero, Act.put, List.setIfInBounds_toArray, List.set_cons_zero, List.set_cons_succ]
              refine wpAnyH_take (i := 29) (oi := _) (v := ?_) rfl (by kernel_rfl) (by kernel_rfl) (by kernel_rfl) (fun _ _ _ h => h) (Or.inl ⟨by rfl, ?_⟩) hH ?_
              rotate_left 1
              · intro Y hSY
                have s1 := keep1 hSY c1; have s2 := keep1 hSY c2; have s3 := keep1 hSY c3; have s4 := keep1 hSY c4
                go_simp
                with_reducible rfl
              try simp only [List.getElem_toArray, List.getElem_cons_succ, List.getElem_cons_zero, Act.put, List.setIfInBounds_toArray, List.set_cons_zero, List.set_cons_succ]
              refine wpAnyH_done (by kernel_rfl) ?_ _
              have c4' := keep1 hb1.out c4
              go_wp2
              go_roundw
              case rel => exact ⟨(b : Int), k + 1 + 1, by go_num, by go_num, by omega, by omega, by omega, by omega, Lib.hid ⟨trans_b HT.out.b hb1.out, HT2.out⟩⟩
              case measure => simp [intOf]; omega
            · have hfb : decide (f < 0) = false := decide_eq_false hfn
              by_cases hbf : (b : Int) < f
              · have hbb : decide ((b : Int) < f) = true := decide_eq_true hbf
                have HT2 : Hid (TwiceI c gf R (k + 1) (b : Int)) := Lib.hid (by rw [← HAB.out]; exact twiceI_hit c HT1.out hk2 HZ.out (by rw [HAB.out]; omega) (.inr (by rw [HAB.out]; exact hbf)))
                go_upto_region 14 with fail
                refine wp_region_held_drew (S := fun X => Below wr.heap.size wr X) (by kernel_rfl) HBD.out (fun hH => ?_)
                refine wpAnyH_take (i := 0) (oi := _) (v := ?_) rfl (by kernel_rfl) (by kernel_rfl) (by kernel_rfl) (fun _ _ _ h => h) (Or.inl ⟨by rfl, ?_⟩) hH ?_
                rotate_left 1
                · intro Y hSY
                  have s1 := keep1 hSY c1; have s2 := keep1 hSY c2; have s3 := keep1 hSY c3; have s4 := keep1 hSY c4
                  go_simp
                  with_reducible rfl
                try simp only [List.getElem_toArray, List.getElem_cons_succ, List.getElem_cons_zero, Act.put, List.setIfInBounds_toArray, List.set_cons_zero, List.set_cons_succ]
                refine wpAnyH_take (i := 1) (oi := _) (v := ?_) rfl (by kernel_rfl) (by kernel_rfl) (by kernel_rfl) (fun _ _ _ h => h) (Or.inl ⟨by rfl, ?_⟩) hH ?_
                rotate_left 1
                · intro Y hSY
                  have s1 := keep1 hSY c1; have s2 := keep1 hSY c2; have s3 := keep1 hSY c3; have s4 := keep1 hSY c4
                  go_simp
                  with_reducible rfl
                try simp only [List.getElem_toArray, List.getElem_cons_succ, List.getElem_cons_zero, Act.put, List.setIfInBounds_toArray, List.set_cons_zero, List.set_cons_succ]
                refine wpAnyH_take (i := 2) (oi := _) (v := ?_) rfl (by kernel_rfl) (by kernel_rfl) (by kernel_rfl) (fun _ _ _ h => h) (Or.inl ⟨by rfl, ?_⟩) hH ?_
                rotate_left 1
                · intro Y hSY
                  have s1 := keep1 hSY c1; have s2 := keep1 hSY c2; have s3 := keep1 hSY c3; have s4 := keep1 hSY c4
                  go_simp
                  with_reducible rfl
                try simp only [List.getElem_toArray, List.getElem_cons_succ, List.getElem_cons_zero, Act.put, List.setIfInBounds_toArray, List.set_cons_zero, List.set_cons_succ]
                refine wpAnyH_take (i := 3) (oi := _) (v := ?_) rfl (by kernel_rfl) (by kernel_rfl) (by kernel_rfl) (fun _ _ _ h => h) (Or.inl ⟨by rfl, ?_⟩) hH ?_
                rotate_left 1
                · intro Y hSY
                  have s1 := keep1 hSY c1; have s2 := keep1 hSY c2; have s3 := keep1 hSY c3; have s4 := keep1 hSY c4
                  go_simp
                  with_reducible rfl
                try simp only [List.getElem_toArray, List.getElem_cons_succ, List.getElem_cons_zero, Act.put, List.setIfInBounds_toArray, List.set_cons_zero, List.set_cons_succ]
                refine wpAnyH_take (i := 4) (oi := _) (v := ?_) rfl (by kernel_rfl) (by kernel_rfl) (by kernel_rfl) (fun _ _ _ h => h) (Or.inl ⟨by rfl, ?_⟩) hH ?_
                rotate_left 1
                · intro Y hSY
                  have s1 := keep1 hSY c1; have s2 := keep1 hSY c2; have s3 := keep1 hSY c3; have s4 := keep1 hSY c4
                  go_simp
                  with_reducible rfl
                try simp only [List.getElem_toArray, List.getElem_cons_succ, List.getElem_cons_zero, Act.put, List.setIfInBounds_toArray, List.set_cons_zero, List.set_cons_succ]
                refine wpAnyH_take (i := 5) (oi := _) (v := ?_) rfl (by kernel_rfl) (by kernel_rfl) (by kernel_rfl) (fun _ _ _ h => h) (Or.inl ⟨by rfl, ?_⟩) hH ?_
                rotate_left 1
                · intro Y hSY
                  have s1 := keep1 hSY c1; have s2 := keep1 hSY c2; have s3 := keep1 hSY c3; have s4 := keep1 hSY c4
                  go_simp
                  with_reducible rfl
                try simp only [List.getElem_toArray, List.getElem_cons_succ, List.getElem_cons_zero, Act.put, List.setIfInBounds_toArray, List.set_cons_zero, List.set_cons_succ]
                refine wpAnyH_take (i := 6) (oi := _) (v := ?_) rfl (by kernel_rfl) (by kernel_rfl) (by kernel_rfl) (fun _ _ _ h => h) (Or.inl ⟨by rfl, ?_⟩) hH ?_
                rotate_left 1
                · intro Y hSY
                  have s1 := keep1 hSY c1; have s2 := keep1 hSY c2; have s3 := keep1 hSY c3; have s4 := keep1 hSY c4
                  go_simp
                  with_reducible rfl
                try simp only [List.getElem_toArray, List.getElem_cons_succ, List.getElem_cons_zero, Act.put, List.setIfInBounds_toArray, List.set_cons_zero, List.set_cons_succ]
                refine wpAnyH_take (i := 7) (oi := _) (v := ?_) rfl (by kernel_rfl) (by kernel_rfl) (by kernel_rfl) (fun _ _ _ h => h) (Or.inl ⟨by rfl, ?_⟩) hH ?_
                rotate_left 1
                · intro Y hSY
                  have s1 := keep1 hSY c1; have s2 := keep1 hSY c2; have s3 := keep1 hSY c3; have s4 := keep1 hSY c4
                  go_simp
                  with_reducible rfl
                try simp only [List.getElem_toArray, List.getElem_cons_succ, List.getElem_cons_zero, Act.put, List.setIfInBounds_toArray, List.set_cons_zero, List.set_cons_succ]
                refine wpAnyH_take (i := 8) (oi := _) (v := .agg Xp) rfl (by kernel_rfl) (by kernel_rfl) (by kernel_rfl) (fun _ _ _ h => h) (yieldsIf_run (by rfl) _ _ rfl _ rfl _ (fun Y hY => hlp Y hY)) hH ?_
                try simp only [List.getElem_toArray, List.getElem_cons_succ, List.getElem_cons_zero, Act.put, List.setIfInBounds_toArray, List.set_cons_zero, List.set_cons_succ]
                refine wpAnyH_take (i := 9) (oi := _) (v := ?_) rfl (by kernel_rfl) (by kernel_rfl) (by kernel_rfl) (fun _ _ _ h => h) (Or.inl ⟨by rfl, ?_⟩) hH ?_
                rotate_left 1
                · intro Y hSY
                  have s1 := keep1 hSY c1; have s2 := keep1 hSY c2; have s3 := keep1 hSY c3; have s4 := keep1 hSY c4
                  go_simp
                  with_reducible rfl
                try simp only [List.getElem_toArray, List.getElem_cons_succ, List.getElem_cons_zero, Act.put, List.setIfInBounds_toArray, List.set_cons_zero, List.set_cons_succ]
                refine wpAnyH_take (i := 10) (oi := _) (v := ?_) rfl (by kernel_rfl) (by kernel_rfl) (by kernel_rfl) (fun _ _ _ h => h) (Or.inl ⟨by rfl, ?_⟩) hH ?_
                rotate_left 1
                · intro Y hSY
                  have s1 := keep1 hSY c1; have s2 := keep1 hSY c2; have s3 := keep1 hSY c3; have s4 := keep1 hSY c4
                  go_simp
                  with_reducible rfl
                try simp only [List.getElem_toArray, List.getElem_cons_succ, List.getElem_cons_zero, Act.put, List.setIfInBounds_toArray, List.set_cons_zero, List.set_cons_succ]
                refine wpAnyH_take (i := 11) (oi := _) (v := ?_) rfl (by kernel_rfl) (by kernel_rfl) (by kernel_rfl) (fun _ _ _ h => h) (Or.inl ⟨by rfl, ?_⟩) hH ?_
                rotate_left 1
                · intro Y hSY
                  have s1 := keep1 hSY c1; have s2 := keep1 hSY c2; have s3 := keep1 hSY c3; have s4 := keep1 hSY c4
                  go_simp
                  with_reducible rfl
                try simp only [List.getElem_toArray, List.getElem_cons_succ, List.getElem_cons_zero, Act.put, List.setIfInBounds_toArray, List.set_cons_zero, List.set_cons_succ]
                refine wpAnyH_take (i := 12) (oi := _) (v := ?_) rfl (by kernel_rfl) (by kernel_rfl) (by kernel_rfl) (fun _ _ _ h => h) (Or.inl ⟨by rfl, ?_⟩) hH ?_
                rotate_left 1
                · intro Y hSY
                  have s1 := keep1 hSY c1; have s2 := keep1 hSY c2; have s3 := keep1 hSY c3; have s4 := keep1 hSY c4
                  go_simp
                  with_reducible rfl
                try simp only [List.getElem_toArray, List.getElem_cons_succ, List.getElem_cons_zero, Act.put, List.setIfInBounds_toArray, List.set_cons_zero, List.set_cons_succ]
                refine wpAnyH_take (i := 13) (oi := _) (v := ?_) rfl (by kernel_rfl) (by kernel_rfl) (by kernel_rfl) (fun _ _ _ h => h) (Or.inl ⟨by rfl, ?_⟩) hH ?_
                rotate_left 1
                · intro Y hSY
                  have s1 := keep1 hSY c1; have s2 := keep1 hSY c2; have s3 := keep1 hSY c3; have s4 := keep1 hSY c4
                  go_simp
                  with_reducible rfl
                try simp only [List.getElem_toArray, List.getElem_cons_succ, List.getElem_cons_zero, Act.put, List.setIfInBounds_toArray, List.set_cons_zero, List.set_cons_succ]
                refine wpAnyH_take (i := 14) (oi := _) (v := ?_) rfl (by kernel_rfl) (by kernel_rfl) (by kernel_rfl) (fun _ _ _ h => h) (Or.inl ⟨by rfl, ?_⟩) hH ?_
                rotate_left 1
                · intro Y hSY
                  have s1 := keep1 hSY c1; have s2 := keep1 hSY c2; have s3 := keep1 hSY c3; have s4 := keep1 hSY c4
                  go_simp
                  with_reducible rfl
                try simp only [List.getElem_toArray, List.getElem_cons_succ, List.getElem_cons_zero, Act.put, List.setIfInBounds_toArray, List.set_cons_zero, List.set_cons_succ]
                refine wpAnyH_take (i := 15) (oi := _) (v := .agg Xq) rfl (by kernel_rfl) (by kernel_rfl) (by kernel_rfl) (fun _ _ _ h => h) (yieldsIf_run (by rfl) _ _ rfl _ rfl _ (fun Y hY => hlq Y hY)) hH ?_
                try simp only [List.getElem_toArray, List.getElem_cons_succ, List.getElem_cons_zero, Act.put, List.setIfInBounds_toArray, List.set_cons_zero, List.set_cons_succ]
                refine wpAnyH_ready (rs := [16]) (by kernel_rfl) (by simp) ?_
                refine AllReadyH.cons rfl (fun K hK => ?_) AllReadyH.nil
                go_simp
                go_at_call 128
                refine (HCALL.out _ HBD.out).mono ?_
                rintro e w1 ⟨rfl, hb1'⟩
                have hb1 := Lib.hid (trans_b hH hb1')
                clear hb1' hH
                go_wp2_with fail
                refine hK.out _ _ hb1.out (fun hH => ?_)
                clear hK K
                try simp only [List.getElem_toArray, List.getElem_cons_succ, List.getElem_cons_zero, Act.put, List.setIfInBounds_toArray, List.set_cons_zero, List.set_cons_succ]
                refine wpAnyH_take (i := 17) (oi := _) (v := ?_) rfl (by kernel_rfl) (by kernel_rfl) (by kernel_rfl) (fun _ _ _ h => h) (Or.inl ⟨by rfl, ?_⟩) hH ?_
                rotate_left 1
                · intro Y hSY
                  have s1 := keep1 hSY c1; have s2 := keep1 hSY c2; have s3 := keep1 hSY c3; have s4 := keep1 hSY c4
                  go_simp
                  with_reducible rfl
                try simp only [List.getElem_toArray, List.getElem_cons_succ, List.getElem_cons_zero, Act.put, List.setIfInBounds_toArray, List.set_cons_zero, List.set_cons_succ]
                refine wpAnyH_take (i := 18) (oi := _) (v := ?_) rfl (by kernel_rfl) (by kernel_rfl) (by kernel_rfl) (fun _ _ _ h => h) (Or.inl ⟨by rfl, ?_⟩) hH ?_
                rotate_left 1
                · intro Y hSY
                  have s1 := keep1 hSY c1; have s2 := keep1 hSY c2; have s3 := keep1 hSY c3; have s4 := keep1 hSY c4
                  go_simp
                  with_reducible rfl
                try simp only [List.getElem_toArray, List.getElem_cons_succ, List.getElem_cons_zero, Act.put, List.setIfInBounds_toArray, List.set_cons_zero, List.set_cons_succ]
                refine wpAnyH_take (i := 19) (oi := _) (v := ?_) rfl (by kernel_rfl) (by kernel_rfl) (by kernel_rfl) (fun _ _ _ h => h) (Or.inl ⟨by rfl, ?_⟩) hH ?_
                rotate_left 1
                · intro Y hSY
                  have s1 := keep1 hSY c1; have s2 := keep1 hSY c2; have s3 := keep1 hSY c3; have s4 := keep1 hSY c4
                  go_simp
                  with_reducible rfl
                try simp only [List.getElem_toArray, List.getElem_cons_succ, List.getElem_cons_zero, Act.put, List.setIfInBounds_toArray, List.set_cons_zero, List.set_cons_succ]
                refine wpAnyH_take (i := 20) (oi := _) (v := ?_) rfl (by kernel_rfl) (by kernel_rfl) (by kernel_rfl) (fun _ _ _ h => h) (Or.inl ⟨by rfl, ?_⟩) hH ?_
                rotate_left 1
                · intro Y hSY
                  have s1 := keep1 hSY c1; have s2 := keep1 hSY c2; have s3 := keep1 hSY c3; have s4 := keep1 hSY c4
                  go_simp
                  with_reducible rfl
                try simp only [List.getElem_toArray, List.getElem_cons_succ, List.getElem_cons_zero, Act.put, List.setIfInBounds_toArray, List.set_cons_zero, List.set_cons_succ]
                refine wpAnyH_take (i := 21) (oi := _) (v := ?_) rfl (by kernel_rfl) (by kernel_rfl) (by kernel_rfl) (fun _ _ _ h => h) (Or.inl ⟨by rfl, ?_⟩) hH ?_
                rotate_left 1
                · intro Y hSY
                  have s1 := keep1 hSY c1; have s2 := keep1 hSY c2; have s3 := keep1 hSY c3; have s4 := keep1 hSY c4
                  go_simp
                  with_reducible rfl
                try simp only [List.getElem_toArray, List.getElem_cons_succ, List.getElem_cons_zero, Act.put, List.setIfInBounds_toArray, List.set_cons_zero, List.set_cons_succ]
                refine wpAnyH_take (i := 22) (oi := _) (v := ?_) rfl (by kernel_rfl) (by kernel_rfl) (by kernel_rfl) (fun _ _ _ h => h) (Or.inl ⟨by rfl, ?_⟩) hH ?_
                rotate_left 1
                · intro Y hSY
                  have s1 := keep1 hSY c1; have s2 := keep1 hSY c2; have s3 := keep1 hSY c3; have s4 := keep1 hSY c4
                  go_simp
                  with_reducible rfl
                try simp only [List.getElem_toArray, List.getElem_cons_succ, List.getElem_cons_zero, Act.put, List.setIfInBounds_toArray, List.set_cons_zero, List.set_cons_succ]
                refine wpAnyH_take (i := 23) (oi := _) (v := ?_) rfl (by kernel_rfl) (by kernel_rfl) (by kernel_rfl) (fun _ _ _ h => h) (Or.inl ⟨by rfl, ?_⟩) hH ?_
                rotate_left 1
                · intro Y hSY
                  have s1 := keep1 hSY c1; have s2 := keep1 hSY c2; have s3 := keep1 hSY c3; have s4 := keep1 hSY c4
                  go_simp
                  with_reducible rfl
                try simp only [List.getElem_toArray, List.getElem_cons_succ, List.getElem_cons_zero, Act.put, List.setIfInBounds_toArray, List.set_cons_zero, List.set_cons_succ]
                refine wpAnyH_take (i := 24) (oi := _) (v := ?_) rfl (by kernel_rfl) (by kernel_rfl) (by kernel_rfl) (fun _ _ _ h => h) (Or.inl ⟨by rfl, ?_⟩) hH ?_
                rotate_left 1
                · intro Y hSY
                  have s1 := keep1 hSY c1; have s2 := keep1 hSY c2; have s3 := keep1 hSY c3; have s4 := keep1 hSY c4
                  go_simp
                  with_reducible rfl
                try simp only [List.getElem_toArray, List.getElem_cons_succ, List.getElem_cons_zero, Act.put, List.setIfInBounds_toArray, List.set_cons_zero, List.set_cons_succ]
                refine wpAnyH_take (i := 25) (oi := _) (v := ?_) rfl (by kernel_rfl) (by kernel_rfl) (by kernel_rfl) (fun _ _ _ h => h) (Or.inl ⟨by rfl, ?_⟩) hH ?_
                rotate_left 1
                · intro Y hSY
                  have s1 := keep1 hSY c1; have s2 := keep1 hSY c2; have s3 := keep1 hSY c3; have s4 := keep1 hSY c4
                  go_simp
                  with_reducible rfl
                try simp only [List.getElem_toArray, List.getElem_cons_succ, List.getElem_cons_zero, Act.put, List.setIfInBounds_toArray, List.set_cons_zero, List.set_cons_succ]
                refine wpAnyH_take (i := 26) (oi := _) (v := ?_) rfl (by kernel_rfl) (by kernel_rfl) (by kernel_rfl) (fun _ _ _ h => h) (Or.inl ⟨by rfl, ?_⟩) hH ?_
                rotate_left 1
                · intro Y hSY
                  have s1 := keep1 hSY c1; have s2 := keep1 hSY c2; have s3 := keep1 hSY c3; have s4 := keep1 hSY c4
                  go_simp
                  with_reducible rfl
                try simp only [List.getElem_toArray, List.getElem_cons_succ, List.getElem_cons_zero, Act.put, List.setIfInBounds_toArray, List.set_cons_zero, List.set_cons_succ]
                refine wpAnyH_take (i := 27) (oi := _) (v := ?_) rfl (by kernel_rfl) (by kernel_rfl) (by kernel_rfl) (fun _ _ _ h => h) (Or.inl ⟨by rfl, ?_⟩) hH ?_
                rotate_left 1
                · intro Y hSY
                  have s1 := keep1 hSY c1; have s2 := keep1 hSY c2; have s3 := keep1 hSY c3; have s4 := keep1 hSY c4
                  go_simp
                  with_reducible rfl
                try simp only [List.getElem_toArray, List.getElem_cons_succ, List.getElem_cons_zero, Act.put, List.setIfInBounds_toArray, List.set_cons_zero, List.set_cons_succ]
                refine wpAnyH_take (i := 28) (oi := _) (v := ?_) rfl (by kernel_rfl) (by kernel_rfl) (by kernel_rfl) (fun _ _ _ h => h) (Or.inl ⟨by rfl, ?_⟩) hH ?_
                rotate_left 1
                · intro Y hSY
                  have s1 := keep1 hSY c1; have s2 := keep1 hSY c2; have s3 := keep1 hSY c3; have s4 := keep1 hSY c4
                  go_simp
                  with_reducible rfl
                try simp only [List.getElem_toArray, List.getElem_cons_succ, List.getElem_cons_zero, Act.put, List.setIfInBounds_toArray, List.set_cons_zero, List.set_cons_succ]
                refine wpAnyH_take (i := 29) (oi := _) (v := ?_) rfl (by kernel_rfl) (by kernel_rfl) (by kernel_rfl) (fun _ _ _ h => h) (Or.inl ⟨by rfl, ?_⟩) hH ?_
                rotate_left 1
                · intro Y hSY
                  have s1 := keep1 hSY c1; have s2 := keep1 hSY c2; have s3 := keep1 hSY c3; have s4 := keep1 hSY c4
                  go_simp
                  with_reducible rfl
                try simp only [List.getElem_toArray, List.getElem_cons_succ, List.getElem_cons_zero, Act.put, List.setIfInBounds_toArray, List.set_cons_zero, List.set_cons_succ]
                refine wpAnyH_done (by kernel_rfl) ?_ _
                have c4' := keep1 hb1.out c4
                go_wp2
                go_roundw
                case rel => exact ⟨(b : Int), k + 1 + 1, by go_num, by go_num, by omega, by omega, by omega, by omega, Lib.hid ⟨trans_b HT.out.b hb1.out, HT2.out⟩⟩
                case measure => simp [intOf]; omega
              · have hbb : decide ((b : Int) < f) = false := decide_eq_false hbf
                have HT2 : Hid (TwiceI c gf R (k + 1) f) := Lib.hid (twiceI_miss c HT1.out fun _ _ => ⟨by omega, by rw [HAB.out]; omega⟩)
                go_upto_region 14 with fail
                refine wp_region_held_drew (S := fun X => Below wr.heap.size wr X) (by kernel_rfl) HBD.out (fun hH => ?_)
                refine wpAnyH_take (i := 0) (oi := _) (v := ?_) rfl (by kernel_rfl) (by kernel_rfl) (by kernel_rfl) (fun _ _ _ h => h) (Or.inl ⟨by rfl, ?_⟩) hH ?_
                rotate_left 1
                · intro Y hSY
                  have s1 := keep1 hSY c1; have s2 := keep1 hSY c2; have s3 := keep1 hSY c3; have s4 := keep1 hSY c4
                  go_simp
                  with_reducible rfl
                try simp only [List.getElem_toArray, List.getElem_cons_succ, List.getElem_cons_zero, Act.put, List.setIfInBounds_toArray, List.set_cons_zero, List.set_cons_succ]
                refine wpAnyH_take (i := 1) (oi := _) (v := ?_) rfl (by kernel_rfl) (by kernel_rfl) (by kernel_rfl) (fun _ _ _ h => h) (Or.inl ⟨by rfl, ?_⟩) hH ?_
                rotate_left 1
                · intro Y hSY
                  have s1 := keep1 hSY c1; have s2 := keep1 hSY c2; have s3 := keep1 hSY c3; have s4 := keep1 hSY c4
                  go_simp
                  with_reducible rfl
                try simp only [List.getElem_toArray, List.getElem_cons_succ, List.getElem_cons_zero, Act.put, List.setIfInBounds_toArray, List.set_cons_zero, List.set_cons_succ]
                refine wpAnyH_take (i := 2) (oi := _) (v := ?_) rfl (by kernel_rfl) (by kernel_rfl) (by kernel_rfl) (fun _ _ _ h => h) (Or.inl ⟨by rfl, ?_⟩) hH ?_
                rotate_left 1
                · intro Y hSY
                  have s1 := keep1 hSY c1; have s2 := keep1 hSY c2; have s3 := keep1 hSY c3; have s4 := keep1 hSY c4
                  go_simp
                  with_reducible rfl
                try simp only [List.getElem_toArray, List.getElem_cons_succ, List.getElem_cons_zero, Act.put, List.setIfInBounds_toArray, List.set_cons_zero, List.set_cons_succ]
                refine wpAnyH_take (i := 3) (oi := _) (v := ?_) rfl (by kernel_rfl) (by kernel_rfl) (by kernel_rfl) (fun _ _ _ h => h) (Or.inl ⟨by rfl, ?_⟩) hH ?_
                rotate_left 1
                · intro Y hSY
                  have s1 := keep1 hSY c1; have s2 := keep1 hSY c2; have s3 := keep1 hSY c3; have s4 := keep1 hSY c4
                  go_simp
                  with_reducible rfl
                try simp only [List.getElem_toArray, List.getElem_cons_succ, List.getElem_cons_zero, Act.put, List.setIfInBounds_toArray, List.set_cons_zero, List.set_cons_succ]
                refine wpAnyH_take (i := 4) (oi := _) (v := ?_) rfl (by kernel_rfl) (by kernel_rfl) (by kernel_rfl) (fun _ _ _ h => h) (Or.inl ⟨by rfl, ?_⟩) hH ?_
                rotate_left 1
                · intro Y hSY
                  have s1 := keep1 hSY c1; have s2 := keep1 hSY c2; have s3 := keep1 hSY c3; have s4 := keep1 hSY c4
                  go_simp
                  with_reducible rfl
                try simp only [List.getElem_toArray, List.getElem_cons_succ, List.getElem_cons_zero, Act.put, List.setIfInBounds_toArray, List.set_cons_zero, List.set_cons_succ]
                refine wpAnyH_take (i := 5) (oi := _) (v := ?_) rfl (by kernel_rfl) (by kernel_rfl) (by kernel_rfl) (fun _ _ _ h => h) (Or.inl ⟨by rfl, ?_⟩) hH ?_
                rotate_left 1
                · intro Y hSY
                  have s1 := keep1 hSY c1; have s2 := keep1 hSY c2; have s3 := keep1 hSY c3; have s4 := keep1 hSY c4
                  go_simp
                  with_reducible rfl
                try simp only [List.getElem_toArray, List.getElem_cons_succ, List.getElem_cons_zero, Act.put, List.setIfInBounds_toArray, List.set_cons_zero, List.set_cons_succ]
                refine wpAnyH_take (i := 6) (oi := _) (v := ?_) rfl (by kernel_rfl) (by kernel_rfl) (by kernel_rfl) (fun _ _ _ h => h) (Or.inl ⟨by rfl, ?_⟩) hH ?_
                rotate_left 1
                · intro Y hSY
                  have s1 := keep1 hSY c1; have s2 := keep1 hSY c2; have s3 := keep1 hSY c3; have s4 := keep1 hSY c4
                  go_simp
                  with_reducible rfl
                try simp only [List.getElem_toArray, List.getElem_cons_succ, List.getElem_cons_zero, Act.put, List.setIfInBounds_toArray, List.set_cons_zero, List.set_cons_succ]
                refine wpAnyH_take (i := 7) (oi := _) (v := ?_) rfl (by kernel_rfl) (by kernel_rfl) (by kernel_rfl) (fun _ _ _ h => h) (Or.inl ⟨by rfl, ?_⟩) hH ?_
                rotate_left 1
                · intro Y hSY
                  have s1 := keep1 hSY c1; have s2 := keep1 hSY c2; have s3 := keep1 hSY c3; have s4 := keep1 hSY c4
                  go_simp
                  with_reducible rfl
                try simp only [List.getElem_toArray, List.getElem_cons_succ, List.getElem_cons_zero, Act.put, List.setIfInBounds_toArray, List.set_cons_zero, List.set_cons_succ]
                refine wpAnyH_take (i := 8) (oi := _) (v := .agg Xp) rfl (by kernel_rfl) (by kernel_rfl) (by kernel_rfl) (fun _ _ _ h => h) (yieldsIf_run (by rfl) _ _ rfl _ rfl _ (fun Y hY => hlp Y hY)) hH ?_
                try simp only [List.getElem_toArray, List.getElem_cons_succ, List.getElem_cons_zero, Act.put, List.setIfInBounds_toArray, List.set_cons_zero, List.set_cons_succ]
                refine wpAnyH_take (i := 9) (oi := _) (v := ?_) rfl (by kernel_rfl) (by kernel_rfl) (by kernel_rfl) (fun _ _ _ h => h) (Or.inl ⟨by rfl, ?_⟩) hH ?_
                rotate_left 1
                · intro Y hSY
                  have s1 := keep1 hSY c1; have s2 := keep1 hSY c2; have s3 := keep1 hSY c3; have s4 := keep1 hSY c4
                  go_simp
                  with_reducible rfl
                try simp only [List.getElem_toArray, List.getElem_cons_succ, List.getElem_cons_zero, Act.put, List.setIfInBounds_toArray, List.set_cons_zero, List.set_cons_succ]
                refine wpAnyH_take (i := 10) (oi := _) (v := ?_) rfl (by kernel_rfl) (by kernel_rfl) (by kernel_rfl) (fun _ _ _ h => h) (Or.inl ⟨by rfl, ?_⟩) hH ?_
                rotate_left 1
                · intro Y hSY
                  have s1 := keep1 hSY c1; have s2 := keep1 hSY c2; have s3 := keep1 hSY c3; have s4 := keep1 hSY c4
                  go_simp
                  with_reducible rfl
                try simp only [List.getElem_toArray, List.getElem_cons_succ, List.getElem_cons_zero, Act.put, List.setIfInBounds_toArray, List.set_cons_zero, List.set_cons_succ]
                refine wpAnyH_take (i := 11) (oi := _) (v := ?_) rfl (by kernel_rfl) (by kernel_rfl) (by kernel_rfl) (fun _ _ _ h => h) (Or.inl ⟨by rfl, ?_⟩) hH ?_
                rotate_left 1
                · intro Y hSY
                  have s1 := keep1 hSY c1; have s2 := keep1 hSY c2; have s3 := keep1 hSY c3; have s4 := keep1 hSY c4
                  go_simp
                  with_reducible rfl
                try simp only [List.getElem_toArray, List.getElem_cons_succ, List.getElem_cons_zero, Act.put, List.setIfInBounds_toArray, List.set_cons_zero, List.set_cons_succ]
                refine wpAnyH_take (i := 12) (oi := _) (v := ?_) rfl (by kernel_rfl) (by kernel_rfl) (by kernel_rfl) (fun _ _ _ h => h) (Or.inl ⟨by rfl, ?_⟩) hH ?_
                rotate_left 1
                · intro Y hSY
                  have s1 := keep1 hSY c1; have s2 := keep1 hSY c2; have s3 := keep1 hSY c3; have s4 := keep1 hSY c4
                  go_simp
                  with_reducible rfl
                try simp only [List.getElem_toArray, List.getElem_cons_succ, List.getElem_cons_zero, Act.put, List.setIfInBounds_toArray, List.set_cons_zero, List.set_cons_succ]
                refine wpAnyH_take (i := 13) (oi := _) (v := ?_) rfl (by kernel_rfl) (by kernel_rfl) (by kernel_rfl) (fun _ _ _ h => h) (Or.inl ⟨by rfl, ?_⟩) hH ?_
                rotate_left 1
                · intro Y hSY
                  have s1 := keep1 hSY c1; have s2 := keep1 hSY c2; have s3 := keep1 hSY c3; have s4 := keep1 hSY c4
                  go_simp
                  with_reducible rfl
                try simp only [List.getElem_toArray, List.getElem_cons_succ, List.getElem_cons_zero, Act.put, List.setIfInBounds_toArray, List.set_cons_zero, List.set_cons_succ]
                refine wpAnyH_take (i := 14) (oi := _) (v := ?_) rfl (by kernel_rfl) (by kernel_rfl) (by kernel_rfl) (fun _ _ _ h => h) (Or.inl ⟨by rfl, ?_⟩) hH ?_
                rotate_left 1
                · intro Y hSY
                  have s1 := keep1 hSY c1; have s2 := keep1 hSY c2; have s3 := keep1 hSY c3; have s4 := keep1 hSY c4
                  go_simp
                  with_reducible rfl
                try simp only [List.getElem_toArray, List.getElem_cons_succ, List.getElem_cons_zero, Act.put, List.setIfInBounds_toArray, List.set_cons_zero, List.set_cons_succ]
                refine wpAnyH_take (i := 15) (oi := _) (v := .agg Xq) rfl (by kernel_rfl) (by kernel_rfl) (by kernel_rfl) (fun _ _ _ h => h) (yieldsIf_run (by rfl) _ _ rfl _ rfl _ (fun Y hY => hlq Y hY)) hH ?_
                try simp only [List.getElem_toArray, List.getElem_cons_succ, List.getElem_cons_zero, Act.put, List.setIfInBounds_toArray, List.set_cons_zero, List.set_cons_succ]
                refine wpAnyH_ready (rs := [16]) (by kernel_rfl) (by simp) ?_
                refine AllReadyH.cons rfl (fun K hK => ?_) AllReadyH.nil
                go_simp
                go_at_call 128
                refine (HCALL.out _ HBD.out).mono ?_
                rintro e w1 ⟨rfl, hb1'⟩
                have hb1 := Lib.hid (trans_b hH hb1')
                clear hb1' hH
                go_wp2_with fail
                refine hK.out _ _ hb1.out (fun hH => ?_)
                clear hK K
                try simp only [List.getElem_toArray, List.getElem_cons_succ, List.getElem_cons_zero, Act.put, List.setIfInBounds_toArray, List.set_cons_zero, List.set_cons_succ]
                refine wpAnyH_take (i := 17) (oi := _) (v := ?_) rfl (by kernel_rfl) (by kernel_rfl) (by kernel_rfl) (fun _ _ _ h => h) (Or.inl ⟨by rfl, ?_⟩) hH ?_
                rotate_left 1
                · intro Y hSY
                  have s1 := keep1 hSY c1; have s2 := keep1 hSY c2; have s3 := keep1 hSY c3; have s4 := keep1 hSY c4
                  go_simp
                  with_reducible rfl
                try simp only [List.getElem_toArray, List.getElem_cons_succ, List.getElem_cons_zero, Act.put, List.setIfInBounds_toArray, List.set_cons_zero, List.set_cons_succ]
                refine wpAnyH_take (i := 18) (oi := _) (v := ?_) rfl (by kernel_rfl) (by kernel_rfl) (by kernel_rfl) (fun _ _ _ h => h) (Or.inl ⟨by rfl, ?_⟩) hH ?_
                rotate_left 1
                · intro Y hSY
                  have s1 := keep1 hSY c1; have s2 := keep1 hSY c2; have s3 := keep1 hSY c3; have s4 := keep1 hSY c4
                  go_simp
                  with_reducible rfl
                try simp only [List.getElem_toArray, List.getElem_cons_succ, List.getElem_cons_zero, Act.put, List.setIfInBounds_toArray, List.set_cons_zero, List.set_cons_succ]
                refine wpAnyH_take (i := 19) (oi := _) (v := ?_) rfl (by kernel_rfl) (by kernel_rfl) (by kernel_rfl) (fun _ _ _ h => h) (Or.inl ⟨by rfl, ?_⟩) hH ?_
                rotate_left 1
                · intro Y hSY
                  have s1 := keep1 hSY c1; have s2 := keep1 hSY c2; have s3 := keep1 hSY c3; have s4 := keep1 hSY c4
                  go_simp
                  with_reducible rfl
                try simp only [List.getElem_toArray, List.getElem_cons_succ, List.getElem_cons_zero, Act.put, List.setIfInBounds_toArray, List.set_cons_zero, List.set_cons_succ]
                refine wpAnyH_take (i := 20) (oi := _) (v := ?_) rfl (by kernel_rfl) (by kernel_rfl) (by kernel_rfl) (fun _ _ _ h => h) (Or.inl ⟨by rfl, ?_⟩) hH ?_
                rotate_left 1
                · intro Y hSY
                  have s1 := keep1 hSY c1; have s2 := keep1 hSY c2; have s3 := keep1 hSY c3; have s4 := keep1 hSY c4
                  go_simp
                  with_reducible rfl
                try simp only [List.getElem_toArray, List.getElem_cons_succ, List.getElem_cons_zero, Act.put, List.setIfInBounds_toArray, List.set_cons_zero, List.set_cons_succ]
                refine wpAnyH_take (i := 21) (oi := _) (v := ?_) rfl (by kernel_rfl) (by kernel_rfl) (by kernel_rfl) (fun _ _ _ h => h) (Or.inl ⟨by rfl, ?_⟩) hH ?_
                rotate_left 1
                · intro Y hSY
                  have s1 := keep1 hSY c1; have s2 := keep1 hSY c2; have s3 := keep1 hSY c3; have s4 := keep1 hSY c4
                  go_simp
                  with_reducible rfl
                try simp only [List.getElem_toArray, List.getElem_cons_succ, List.getElem_cons_zero, Act.put, List.setIfInBounds_toArray, List.set_cons_zero, List.set_cons_succ]
                refine wpAnyH_take (i := 22) (oi := _) (v := ?_) rfl (by kernel_rfl) (by kernel_rfl) (by kernel_rfl) (fun _ _ _ h => h) (Or.inl ⟨by rfl, ?_⟩) hH ?_
                rotate_left 1
                · intro Y hSY
                  have s1 := keep1 hSY c1; have s2 := keep1 hSY c2; have s3 := keep1 hSY c3; have s4 := keep1 hSY c4
                  go_simp
                  with_reducible rfl
                try simp only [List.getElem_toArray, List.getElem_cons_succ, List.getElem_cons_zero, Act.put, List.setIfInBounds_toArray, List.set_cons_zero, List.set_cons_succ]
                refine wpAnyH_take (i := 23) (oi := _) (v := ?_) rfl (by kernel_rfl) (by kernel_rfl) (by kernel_rfl) (fun _ _ _ h => h) (Or.inl ⟨by rfl, ?_⟩) hH ?_
                rotate_left 1
                · intro Y hSY
                  have s1 := keep1 hSY c1; have s2 := keep1 hSY c2; have s3 := keep1 hSY c3; have s4 := keep1 hSY c4
                  go_simp
                  with_reducible rfl
                try simp only [List.getElem_toArray, List.getElem_cons_succ, List.getElem_cons_zero, Act.put, List.setIfInBounds_toArray, List.set_cons_zero, List.set_cons_succ]
                refine wpAnyH_take (i := 24) (oi := _) (v := ?_) rfl (by kernel_rfl) (by kernel_rfl) (by kernel_rfl) (fun _ _ _ h => h) (Or.inl ⟨by rfl, ?_⟩) hH ?_
                rotate_left 1
                · intro Y hSY
                  have s1 := keep1 hSY c1; have s2 := keep1 hSY c2; have s3 := keep1 hSY c3; have s4 := keep1 hSY c4
                  go_simp
                  with_reducible rfl
                try simp only [List.getElem_toArray, List.getElem_cons_succ, List.getElem_cons_zero, Act.put, List.setIfInBounds_toArray, List.set_cons_zero, List.set_cons_succ]
                refine wpAnyH_take (i := 25) (oi := _) (v := ?_) rfl (by kernel_rfl) (by kernel_rfl) (by kernel_rfl) (fun _ _ _ h => h) (Or.inl ⟨by rfl, ?_⟩) hH ?_
                rotate_left 1
                · intro Y hSY
                  have s1 := keep1 hSY c1; have s2 := keep1 hSY c2; have s3 := keep1 hSY c3; have s4 := keep1 hSY c4
                  go_simp
                  with_reducible rfl
                try simp only [List.getElem_toArray, List.getElem_cons_succ, List.getElem_cons_zero, Act.put, List.setIfInBounds_toArray, List.set_cons_zero, List.set_cons_succ]
                refine wpAnyH_take (i := 26) (oi := _) (v := ?_) rfl (by kernel_rfl) (by kernel_rfl) (by kernel_rfl) (fun _ _ _ h => h) (Or.inl ⟨by rfl, ?_⟩) hH ?_
                rotate_left 1
                · intro Y hSY
                  have s1 := keep1 hSY c1; have s2 := keep1 hSY c2; have s3 := keep1 hSY c3; have s4 := keep1 hSY c4
                  go_simp
                  with_reducible rfl
                try simp only [List.getElem_toArray, List.getElem_cons_succ, List.getElem_cons_zero, Act.put, List.setIfInBounds_toArray, List.set_cons_zero, List.set_cons_succ]
                refine wpAnyH_take (i := 27) (oi := _) (v := ?_) rfl (by kernel_rfl) (by kernel_rfl) (by kernel_rfl) (fun _ _ _ h => h) (Or.inl ⟨by rfl, ?_⟩) hH ?_
                rotate_left 1
                · intro Y hSY
                  have s1 := keep1 hSY c1; have s2 := keep1 hSY c2; have s3 := keep1 hSY c3; have s4 := keep1 hSY c4
                  go_simp
                  with_reducible rfl
                try simp only [List.getElem_toArray, List.getElem_cons_succ, List.getElem_cons_zero, Act.put, List.setIfInBounds_toArray, List.set_cons_zero, List.set_cons_succ]
                refine wpAnyH_take (i := 28) (oi := _) (v := ?_) rfl (by kernel_rfl) (by kernel_rfl) (by kernel_rfl) (fun _ _ _ h => h) (Or.inl ⟨by rfl, ?_⟩) hH ?_
                rotate_left 1
                · intro Y hSY
                  have s1 := keep1 hSY c1; have s2 := keep1 hSY c2; have s3 := keep1 hSY c3; have s4 := keep1 hSY c4
                  go_simp
                  with_reducible rfl
                try simp only [List.getElem_toArray, List.getElem_cons_succ, List.getElem_cons_zero, Act.put, List.setIfInBounds_toArray, List.set_cons_zero, List.set_cons_succ]
                refine wpAnyH_take (i := 29) (oi := _) (v := ?_) rfl (by kernel_rfl) (by kernel_rfl) (by kernel_rfl) (fun _ _ _ h => h) (Or.inl ⟨by rfl, ?_⟩) hH ?_
                rotate_left 1
                · intro Y hSY
                  have s1 := keep1 hSY c1; have s2 := keep1 hSY c2; have s3 := keep1 hSY c3; have s4 := keep1 hSY c4
                  go_simp
                  with_reducible rfl
                try simp only [List.getElem_toArray, List.getElem_cons_succ, List.getElem_cons_zero, Act.put, List.setIfInBounds_toArray, List.set_cons_zero, List.set_cons_succ]
                refine wpAnyH_done (by kernel_rfl) ?_ _
                go_wp2
                go_roundw
                case rel => exact ⟨f, k + 1 + 1, by go_num, by go_num, by omega, by omega, by omega, by omega, Lib.hid ⟨trans_b HT.out.b hb1.out, HT2.out⟩⟩
                case measure => simp [intOf]; omega
          · have hzb : decide (z = 0) = false := decide_eq_false hzz
            have hzb2 : (z == (0 : Int)) = false := beq_eq_false_iff_ne.2 hzz
            have HT2 : Hid (TwiceI c gf R (k + 1) f) := Lib.hid (twiceI_miss c HT1.out fun _ h0 => absurd (HZ.out.symm.trans h0) hzz)
            go_upto_region 14 with fail
            refine wp_region_held_drew (S := fun X => Below wr.heap.size wr X) (by kernel_rfl) HBD.out (fun hH => ?_)
            refine wpAnyH_take (i := 0) (oi := _) (v := ?_) rfl (by kernel_rfl) (by kernel_rfl) (by kernel_rfl) (fun _ _ _ h => h) (Or.inl ⟨by rfl, ?_⟩) hH ?_
            rotate_left 1
            · intro Y hSY
              have s1 := keep1 hSY c1; have s2 := keep1 hSY c2; have s3 := keep1 hSY c3; have s4 := keep1 hSY c4
              go_simp
              with_reducible rfl
            try simp only [List.getElem_toArray, List.getElem_cons_succ, List.getElem_cons_zero, Act.put, List.setIfInBounds_toArray, List.set_cons_zero, List.set_cons_succ]
            refine wpAnyH_take (i := 1) (oi := _) (v := ?_) rfl (by kernel_rfl) (by kernel_rfl) (by kernel_rfl) (fun _ _ _ h => h) (Or.inl ⟨by rfl, ?_⟩) hH ?_
            rotate_left 1
            · intro Y hSY
              have s1 := keep1 hSY c1; have s2 := keep1 hSY c2; have s3 := keep1 hSY c3; have s4 := keep1 hSY c4
              go_simp
              with_reducible rfl
            try simp only [List.getElem_toArray, List.getElem_cons_succ, List.getElem_cons_zero, Act.put, List.setIfInBounds_toArray, List.set_cons_zero, List.set_cons_succ]
            refine wpAnyH_take (i := 2) (oi := _) (v := ?_) rfl (by kernel_rfl) (by kernel_rfl) (by kernel_rfl) (fun _ _ _ h => h) (Or.inl ⟨by rfl, ?_⟩) hH ?_
            rotate_left 1
            · intro Y hSY
              have s1 := keep1 hSY c1; have s2 := keep1 hSY c2; have s3 := keep1 hSY c3; have s4 := keep1 hSY c4
              go_simp
              with_reducible rfl
            try simp only [List.getElem_toArray, List.getElem_cons_succ, List.getElem_cons_zero, Act.put, List.setIfInBounds_toArray, List.set_cons_zero, List.set_cons_succ]
            refine wpAnyH_take (i := 3) (oi := _) (v := ?_) rfl (by kernel_rfl) (by kernel_rfl) (by kernel_rfl) (fun _ _ _ h => h) (Or.inl ⟨by rfl, ?_⟩) hH ?_
            rotate_left 1
            · intro Y hSY
              have s1 := keep1 hSY c1; have s2 := keep1 hSY c2; have s3 := keep1 hSY c3; have s4 := keep1 hSY c4
              go_simp
              with_reducible rfl
            try simp only [List.getElem_toArray, List.getElem_cons_succ, List.getElem_cons_zero, Act.put, List.setIfInBounds_toArray, List.set_cons_zero, List.set_cons_succ]
            refine wpAnyH_take (i := 4) (oi := _) (v := ?_) rfl (by kernel_rfl) (by kernel_rfl) (by kernel_rfl) (fun _ _ _ h => h) (Or.inl ⟨by rfl, ?_⟩) hH ?_
            rotate_left 1
            · intro Y hSY
              have s1 := keep1 hSY c1; have s2 := keep1 hSY c2; have s3 := keep1 hSY c3; have s4 := keep1 hSY c4
              go_simp
              with_reducible rfl
            try simp only [List.getElem_toArray, List.getElem_cons_succ, List.getElem_cons_zero, Act.put, List.setIfInBounds_toArray, List.set_cons_zero, List.set_cons_succ]
            refine wpAnyH_take (i := 5) (oi := _) (v := ?_) rfl (by kernel_rfl) (by kernel_rfl) (by kernel_rfl) (fun _ _ _ h => h) (Or.inl ⟨by rfl, ?_⟩) hH ?_
            rotate_left 1
            · intro Y hSY
              have s1 := keep1 hSY c1; have s2 := keep1 hSY c2; have s3 := keep1 hSY c3; have s4 := keep1 hSY c4
              go_simp
              with_reducible rfl
            try simp only [List.getElem_toArray, List.getElem_cons_succ, List.getElem_cons_zero, Act.put, List.setIfInBounds_toArray, List.set_cons_zero, List.set_cons_succ]
            refine wpAnyH_take (i := 6) (oi := _) (v := ?_) rfl (by kernel_rfl) (by kernel_rfl) (by kernel_rfl) (fun _ _ _ h => h) (Or.inl ⟨by rfl, ?_⟩) hH ?_
            rotate_left 1
            · intro Y hSY
              have s1 := keep1 hSY c1; have s2 := keep1 hSY c2; have s3 := keep1 hSY c3; have s4 := keep1 hSY c4
              go_simp
              with_reducible rfl
            try simp only [List.getElem_toArray, List.getElem_cons_succ, List.getElem_cons_zero, Act.put, List.setIfInBounds_toArray, List.set_cons_zero, List.set_cons_succ]
            refine wpAnyH_take (i := 7) (oi := _) (v := ?_) rfl (by kernel_rfl) (by kernel_rfl) (by kernel_rfl) (fun _ _ _ h => h) (Or.inl ⟨by rfl, ?_⟩) hH ?_
            rotate_left 1
            · intro Y hSY
              have s1 := keep1 hSY c1; have s2 := keep1 hSY c2; have s3 := keep1 hSY c3; have s4 := keep1 hSY c4
              go_simp
              with_reducible rfl
            try simp only [List.getElem_toArray, List.getElem_cons_succ, List.getElem_cons_zero, Act.put, List.setIfInBounds_toArray, List.set_cons_zero, List.set_cons_succ]
            refine wpAnyH_take (i := 8) (oi := _) (v := .agg Xp) rfl (by kernel_rfl) (by kernel_rfl) (by kernel_rfl) (fun _ _ _ h => h) (yieldsIf_run (by rfl) _ _ rfl _ rfl _ (fun Y hY => hlp Y hY)) hH ?_
            try simp only [List.getElem_toArray, List.getElem_cons_succ, List.getElem_cons_zero, Act.put, List.setIfInBounds_toArray, List.set_cons_zero, List.set_cons_succ]
            refine wpAnyH_take (i := 9) (oi := _) (v := ?_) rfl (by kernel_rfl) (by kernel_rfl) (by kernel_rfl) (fun _ _ _ h => h) (Or.inl ⟨by rfl, ?_⟩) hH ?_
            rotate_left 1
            · intro Y hSY
              have s1 := keep1 hSY c1; have s2 := keep1 hSY c2; have s3 := keep1 hSY c3; have s4 := keep1 hSY c4
              go_simp
              with_reducible rfl
            try simp only [List.getElem_toArray, List.getElem_cons_succ, List.getElem_cons_zero, Act.put, List.setIfInBounds_toArray, List.set_cons_zero, List.set_cons_succ]
            refine wpAnyH_take (i := 10) (oi := _) (v := ?_) rfl (by kernel_rfl) (by kernel_rfl) (by kernel_rfl) (fun _ _ _ h => h) (Or.inl ⟨by rfl, ?_⟩) hH ?_
            rotate_left 1
            · intro Y hSY
              have s1 := keep1 hSY c1; have s2 := keep1 hSY c2; have s3 := keep1 hSY c3; have s4 := keep1 hSY c4
              go_simp
              with_reducible rfl
            try simp only [List.getElem_toArray, List.getElem_cons_succ, List.getElem_cons_zero, Act.put, List.setIfInBounds_toArray, List.set_cons_zero, List.set_cons_succ]
            refine wpAnyH_take (i := 11) (oi := _) (v := ?_) rfl (by kernel_rfl) (by kernel_rfl) (by kernel_rfl) (fun _ _ _ h => h) (Or.inl ⟨by rfl, ?_⟩) hH ?_
            rotate_left 1
            · intro Y hSY
              have s1 := keep1 hSY c1; have s2 := keep1 hSY c2; have s3 := keep1 hSY c3; have s4 := keep1 hSY c4
              go_simp
              with_reducible rfl
            try simp only [List.getElem_toArray, List.getElem_cons_succ, List.getElem_cons_zero, Act.put, List.setIfInBounds_toArray, List.set_cons_zero, List.set_cons_succ]
            refine wpAnyH_take (i := 12) (oi := _) (v := ?_) rfl (by kernel_rfl) (by kernel_rfl) (by kernel_rfl) (fun _ _ _ h => h) (Or.inl ⟨by rfl, ?_⟩) hH ?_
            rotate_left 1
            · intro Y hSY
              have s1 := keep1 hSY c1; have s2 := keep1 hSY c2; have s3 := keep1 hSY c3; have s4 := keep1 hSY c4
              go_simp
              with_reducible rfl
            try simp only [List.getElem_toArray, List.getElem_cons_succ, List.getElem_cons_zero, Act.put, List.setIfInBounds_toArray, List.set_cons_zero, List.set_cons_succ]
            refine wpAnyH_take (i := 13) (oi := _) (v := ?_) rfl (by kernel_rfl) (by kernel_rfl) (by kernel_rfl) (fun _ _ _ h => h) (Or.inl ⟨by rfl, ?_⟩) hH ?_
            rotate_left 1
            · intro Y hSY
              have s1 := keep1 hSY c1; have s2 := keep1 hSY c2; have s3 := keep1 hSY c3; have s4 := keep1 hSY c4
              go_simp
              with_reducible rfl
            try simp only [List.getElem_toArray, List.getElem_cons_succ, List.getElem_cons_zero, Act.put, List.setIfInBounds_toArray, List.set_cons_zero, List.set_cons_succ]
            refine wpAnyH_take (i := 14) (oi := _) (v := ?_) rfl (by kernel_rfl) (by kernel_rfl) (by kernel_rfl) (fun _ _ _ h => h) (Or.inl ⟨by rfl, ?_⟩) hH ?_
            rotate_left 1
            · intro Y hSY
              have s1 := keep1 hSY c1; have s2 := keep1 hSY c2; have s3 := keep1 hSY c3; have s4 := keep1 hSY c4
              go_simp
              with_reducible rfl
            try simp only [List.getElem_toArray, List.getElem_cons_succ, List.getElem_cons_zero, Act.put, List.setIfInBounds_toArray, List.set_cons_zero, List.set_cons_succ]
            refine wpAnyH_take (i := 15) (oi := _) (v := .agg Xq) rfl (by kernel_rfl) (by kernel_rfl) (by kernel_rfl) (fun _ _ _ h => h) (yieldsIf_run (by rfl) _ _ rfl _ rfl _ (fun Y hY => hlq Y hY)) hH ?_
            try simp only [List.getElem_toArray, List.getElem_cons_succ, List.getElem_cons_zero, Act.put, List.setIfInBounds_toArray, List.set_cons_zero, List.set_cons_succ]
            refine wpAnyH_ready (rs := [16]) (by kernel_rfl) (by simp) ?_
            refine AllReadyH.cons rfl (fun K hK => ?_) AllReadyH.nil
            go_simp
            go_at_call 128
            refine (HCALL.out _ HBD.out).mono ?_
            rintro e w1 ⟨rfl, hb1'⟩
            have hb1 := Lib.hid (trans_b hH hb1')
            clear hb1' hH
            go_wp2_with fail
            refine hK.out _ _ hb1.out (fun hH => ?_)
            clear hK K
            try simp only [List.getElem_toArray, List.getElem_cons_succ, List.getElem_cons_zero, Act.put, List.setIfInBounds_toArray, List.set_cons_zero, List.set_cons_succ]
            refine wpAnyH_take (i := 17) (oi := _) (v := ?_) rfl (by kernel_rfl) (by kernel_rfl) (by kernel_rfl) (fun _ _ _ h => h) (Or.inl ⟨by rfl, ?_⟩) hH ?_
            rotate_left 1
            · intro Y hSY
              have s1 := keep1 hSY c1; have s2 := keep1 hSY c2; have s3 := keep1 hSY c3; have s4 := keep1 hSY c4
              go_simp
              with_reducible rfl
            try simp only [List.getElem_toArray, List.getElem_cons_succ, List.getElem_cons_zero, Act.put, List.setIfInBounds_toArray, List.set_cons_zero, List.set_cons_succ]
            refine wpAnyH_take (i := 18) (oi := _) (v := ?_) rfl (by kernel_rfl) (by kernel_rfl) (by kernel_rfl) (fun _ _ _ h => h) (Or.inl ⟨by rfl, ?_⟩) hH ?_
            rotate_left 1
            · intro Y hSY
              have s1 := keep1 hSY c1; have s2 := keep1 hSY c2; have s3 := keep1 hSY c3; have s4 := keep1 hSY c4
              go_simp
              with_reducible rfl
            try simp only [List.getElem_toArray, List.getElem_cons_succ, List.getElem_cons_zero, Act.put, List.setIfInBounds_toArray, List.set_cons_zero, List.set_cons_succ]
            refine wpAnyH_take (i := 19) (oi := _) (v := undef) rfl (by kernel_rfl) (by kernel_rfl) (by kernel_rfl) (fun _ _ _ h => h) (Or.inr ⟨by rfl, rfl⟩) hH ?_
            try simp only [List.getElem_toArray, List.getElem_cons_succ, List.getElem_cons_zero, Act.put, List.setIfInBounds_toArray, List.set_cons_zero, List.set_cons_succ]
            refine wpAnyH_take (i := 20) (oi := _) (v := undef) rfl (by kernel_rfl) (by kernel_rfl) (by kernel_rfl) (fun _ _ _ h => h) (Or.inr ⟨by rfl, rfl⟩) hH ?_
            try simp only [List.getElem_toArray, List.getElem_cons_succ, List.getElem_cons_zero, Act.put, List.setIfInBounds_toArray, List.set_cons_zero, List.set_cons_succ]
            refine wpAnyH_take (i := 21) (oi := _) (v := undef) rfl (by kernel_rfl) (by kernel_rfl) (by kernel_rfl) (fun _ _ _ h => h) (Or.inr ⟨by rfl, rfl⟩) hH ?_
            try simp only [List.getElem_toArray, List.getElem_cons_succ, List.getElem_cons_zero, Act.put, List.setIfInBounds_toArray, List.set_cons_zero, List.set_cons_succ]
            refine wpAnyH_take (i := 22) (oi := _) (v := undef) rfl (by kernel_rfl) (by kernel_rfl) (by kernel_rfl) (fun _ _ _ h => h) (Or.inr ⟨by rfl, rfl⟩) hH ?_
            try simp only [List.getElem_toArray, List.getElem_cons_succ, List.getElem_cons_zero, Act.put, List.setIfInBounds_toArray, List.set_cons_zero, List.set_cons_succ]
            refine wpAnyH_take (i := 23) (oi := _) (v := undef) rfl (by kernel_rfl) (by kernel_rfl) (by kernel_rfl) (fun _ _ _ h => h) (Or.inr ⟨by rfl, rfl⟩) hH ?_
            try simp only [List.getElem_toArray, List.getElem_cons_succ, List.getElem_cons_zero, Act.put, List.setIfInBounds_toArray, List.set_cons_zero, List.set_cons_succ]
            refine wpAnyH_take (i := 24) (oi := _) (v := undef) rfl (by kernel_rfl) (by kernel_rfl) (by kernel_rfl) (fun _ _ _ h => h) (Or.inr ⟨by rfl, rfl⟩) hH ?_
            try simp only [List.getElem_toArray, List.getElem_cons_succ, List.getElem_cons_zero, Act.put, List.setIfInBounds_toArray, List.set_cons_zero, List.set_cons_succ]
            refine wpAnyH_take (i := 25) (oi := _) (v := undef) rfl (by kernel_rfl) (by kernel_rfl) (by kernel_rfl) (fun _ _ _ h => h) (Or.inr ⟨by rfl, rfl⟩) hH ?_
            try simp only [List.getElem_toArray, List.getElem_cons_succ, List.getElem_cons_zero, Act.put, List.setIfInBounds_toArray, List.set_cons_zero, List.set_cons_succ]
            refine wpAnyH_take (i := 26) (oi := _) (v := undef) rfl (by kernel_rfl) (by kernel_rfl) (by kernel_rfl) (fun _ _ _ h => h) (Or.inr ⟨by rfl, rfl⟩) hH ?_
            try simp only [List.getElem_toArray, List.getElem_cons_succ, List.getElem_cons_zero, Act.put, List.setIfInBounds_toArray, List.set_cons_zero, List.set_cons_succ]
            refine wpAnyH_take (i := 27) (oi := _) (v := undef) rfl (by kernel_rfl) (by kernel_rfl) (by kernel_rfl) (fun _ _ _ h => h) (Or.inr ⟨by rfl, rfl⟩) hH ?_
            try simp only [List.getElem_toArray, List.getElem_cons_succ, List.getElem_cons_zero, Act.put, List.setIfInBounds_toArray, List.set_cons_zero, List.set_cons_succ]
            refine wpAnyH_take (i := 28) (oi := _) (v := undef) rfl (by kernel_rfl) (by kernel_rfl) (by kernel_rfl) (fun _ _ _ h => h) (Or.inr ⟨by rfl, rfl⟩) hH ?_
            try simp only [List.getElem_toArray, List.getElem_cons_succ, List.getElem_cons_zero, Act.put, List.setIfInBounds_toArray, List.set_cons_zero, List.set_cons_succ]
            refine wpAnyH_take (i := 29) (oi := _) (v := ?_) rfl (by kernel_rfl) (by kernel_rfl) (by kernel_rfl) (fun _ _ _ h => h) (Or.inl ⟨by rfl, ?_⟩) hH ?_
            rotate_left 1
            · intro Y hSY
              have s1 := keep1 hSY c1; have s2 := keep1 hSY c2; have s3 := keep1 hSY c3; have s4 := keep1 hSY c4
              go_simp
              with_reducible rfl
            try simp only [List.getElem_toArray, List.getElem_cons_succ, List.getElem_cons_zero, Act.put, List.setIfInBounds_toArray, List.set_cons_zero, List.set_cons_succ]
            refine wpAnyH_done (by kernel_rfl) ?_ _
            go_wp2
            go_roundw
            case rel => exact ⟨f, k + 1 + 1, by go_num, by go_num, by omega, by omega, by omega, by omega, Lib.hid ⟨trans_b HT.out.b hb1.out, HT2.out⟩⟩
            case measure => simp [intOf]; omega
        · have HE : Hid (TwiceAt c gf i f) := Lib.hid (twice_end HO.out gf i R HR1.out.2.2.2.1 HR1.out.2.2.2.2 (j - 1) (by have := HLR.out; omega) f HT.out.t)
          have hBf : Below w.heap.size w wr := trans_b hpb.out (trans_b HB1.out HT.out.b)
          have HBF := Lib.hid hBf
          clear hBf
          go_wp2
          go_ret
          exact ⟨f, rfl, HE, HBF.out⟩
end Go.Proofs.YtcpkjmpbpmeclaaGreatDoor
end
section
/- order.Twice of nothing; the order of pairs. -/
namespace Go.Proofs.YtcpkjmpbpmeclaaGreatDoor
open Go.RowKit
set_option maxRecDepth 100000
set_option linter.unusedVariables false
set_option linter.unusedSimpArgs false
set_option linter.unnecessarySimpa false

set_option maxHeartbeats 4000000 in
theorem twice_none (A : Option Addr) (cap : Nat) (w : World) :
    Calls Tryz.prog 129 #[.slice A 0 cap, .func (.func 128) #[] #[]] w fun e w' => e = .returned (.int .i64 (-1)) ∧ Below w.heap.size w w' := by
  obtain ⟨i0, z0, hi, hz0, hz1, hz2, hzs⟩ := infoi3
  have hmk : ∀ W : World, (Instr.makeSlice 93 (.int .i64 0) (.int .i64 0)).run Tryz.prog W = .ok (.slice (some ⟨W.heap.size, 0, none⟩) 0 0) (W.alloc (.cells #[] 3)) := fun W => by
    have h := run_make (P := Tryz.prog) W 93 3 i0 z0 Tryz.underlying93 hi hz0 .i64 .i64 0 0 (by omega) (by omega) (by omega) (by omega)
    rw [hz1] at h
    have e : madeCells z0.cells ((0 : Int).toNat * 1) = #[] := Array.eq_empty_of_size_eq_zero (by rw [size_madeCells]; simp)
    rw [e] at h
    exact h
  have qf : ∀ w : World, (binOp .eql 124 (.func (.func 128) #[] #[]) .nilFunc).run Tryz.prog w = .ok (.bool false) w := fun w => by kernel_rfl
  have HB : Hid (Below w.heap.size w (((w.alloc (.cells #[.slice A 0 cap] 119)).alloc (.cells #[.func (.func 128) #[] #[]] 124)).alloc (.cells #[] 3))) := Lib.hid ((((Below.refl _ w).alloc (Nat.le_refl _) _).alloc (by simp) _).alloc (by simp; omega) _)
  clear hi hz0 hz1 hz2 hzs
  go_enter Tryz.func129, Tryz.ntmps129
  go_wp2
  refine wp_loop_rounds 1 ?_
  rw [rounds_succ]
  go_wp2_with (go_at_call 189; go_must (refine (sorti_none _ _ _ _ _).mono ?_); go_must (rintro e w1 ⟨⟨A', c', rfl⟩, hb1⟩; have HB1 := Lib.hid (trans_b HB.out hb1); clear hb1))
  refine wp_loop_rounds 1 ?_
  rw [rounds_succ]
  go_wp2
  go_ret
  exact ⟨rfl, HB1.out⟩
/-- Pairs by their keys. -/
def pairC (x y : ELp) : Int := cmpV x.key y.key
theorem pairC_ord : OrdC pairC :=
  ⟨fun x y => by have := (cmpV_ord x.key y.key).anti; unfold pairC; omega, fun x y z h1 h2 => ((cmpV_tri x.key y.key z.key).1 h1 h2).1⟩
theorem pairC_stab (L : List ELp) : Stab pairC pairC L := fun _ _ _ _ _ => Iff.rfl
set_option maxHeartbeats 4000000 in
theorem map3W (X0 X1 Y0 Y1 : Array Value) (z : Int) (w : World) (hl0 : ∀ W, W.heap[w.heap.size]? = some (.cells X0 123 (0, 0)) → Sem.run Tryz.prog (loadVar 31 ⟨w.heap.size, 0, none⟩) W = .ok (.agg Y0) W)
    (hl1 : ∀ W, W.heap[w.heap.size + 1]? = some (.cells X1 123 (0, 0)) → Sem.run Tryz.prog (loadVar 31 ⟨w.heap.size + 1, 0, none⟩) W = .ok (.agg Y1) W)
    (HC : Hid (∀ W, Below w.heap.size w W → Calls Tryz.prog 23 #[.agg Y0, .agg Y1] W fun e w' => e = .returned (.int .i64 z) ∧ Below W.heap.size W w')) :
    Calls Tryz.prog 128 #[.agg X0, .agg X1] w fun e w' => e = .returned (.int .i64 z) ∧ Below w.heap.size w w' := by
  have HB : Hid (Below w.heap.size w ((w.alloc (.cells X0 123)).alloc (.cells X1 123))) := Lib.hid (((Below.refl _ w).alloc (Nat.le_refl _) _).alloc (by simp) _)
  have h0 := hl0 ((w.alloc (.cells X0 123)).alloc (.cells X1 123)) (by rw [Below.heap_alloc _ _ _ (by simp)]; exact heap_alloc_new _ _)
  have h1 := hl1 ((w.alloc (.cells X0 123)).alloc (.cells X1 123)) (by have h := heap_alloc_new (w.alloc (.cells X0 123)) (.cells X1 123); rwa [World.size_alloc] at h)
  have H0 := Lib.hid h0
  have H1 := Lib.hid h1
  clear hl0 hl1 h0 h1
  go_enter Tryz.func128, Tryz.ntmps128
  go_upto_region 1 with fail
  generalize ((w.alloc (.cells X0 123)).alloc (.cells X1 123)) = W1 at *
  apply wp_region_lit
  refine wpList_plain rfl fun K hK => ?_
  go_simp
  refine hK _ _ ?_
  clear hK K
  try simp only [List.getElem_toArray, List.getElem_cons_succ, List.getElem_cons_zero, Act.put, List.setIfInBounds_toArray, List.set_cons_zero, List.set_cons_succ]
  refine wpList_plain rfl fun K hK => ?_
  go_simp
  refine hK _ _ ?_
  clear hK K
  try simp only [List.getElem_toArray, List.getElem_cons_succ, List.getElem_cons_zero, Act.put, List.setIfInBounds_toArray, List.set_cons_zero, List.set_cons_succ]
  refine wpList_loadrun rfl _ _ rfl _ rfl _ H0.out ?_
  try simp only [List.getElem_toArray, List.getElem_cons_succ, List.getElem_cons_zero, Act.put, List.setIfInBounds_toArray, List.set_cons_zero, List.set_cons_succ]
  refine wpList_plain rfl fun K hK => ?_
  go_simp
  refine hK _ _ ?_
  clear hK K
  try simp only [List.getElem_toArray, List.getElem_cons_succ, List.getElem_cons_zero, Act.put, List.setIfInBounds_toArray, List.set_cons_zero, List.set_cons_succ]
  refine wpList_plain rfl fun K hK => ?_
  go_simp
  refine hK _ _ ?_
  clear hK K
  try simp only [List.getElem_toArray, List.getElem_cons_succ, List.getElem_cons_zero, Act.put, List.setIfInBounds_toArray, List.set_cons_zero, List.set_cons_succ]
  refine wpList_loadrun rfl _ _ rfl _ rfl _ H1.out ?_
  try simp only [List.getElem_toArray, List.getElem_cons_succ, List.getElem_cons_zero, Act.put, List.setIfInBounds_toArray, List.set_cons_zero, List.set_cons_succ]
  go_wp2_with (go_at_call 23; go_must (refine (HC.out _ HB.out).mono ?_); go_must (rintro e w1 ⟨rfl, hb1⟩; have HB1 := Lib.hid (trans_b HB.out hb1); clear hb1))
  go_ret
  exact ⟨rfl, HB1.out⟩
theorem map3_any (w0 : World) (L : List ELp) (hS : Shapes w0) (hz : ∀ x ∈ L, x.key.sz ≤ 1000000000 ∧ In w0 x.key) : Cmpp w0 pairC L := by
  intro x hx y hy W hW
  have hld : ∀ (p : ELp) (b : Nat) (W' : World), W'.heap[b]? = some (.cells (encp p).toArray 123 (0, 0)) → Sem.run Tryz.prog (loadVar 31 ⟨b, 0, none⟩) W' = .ok p.key.agg W' := fun p b W' h =>
    run_loadVar_mid W' b 0 31 p.key.cells _ (fun j v hv => by
      rw [Nat.zero_add, cell_of_row _ _ _ _ _ _ h]
      have hj : j < 8 := (List.getElem?_eq_some_iff.1 hv).1
      rw [List.getElem?_toArray]
      unfold encp
      rw [List.getElem?_append_left (by exact hj)]
      exact hv) Tryz.underlying31 rfl size_value
  exact map3W (encp x).toArray (encp y).toArray _ _ _ W (fun W' h => hld x _ W' h) (fun W' h => hld y _ W' h) (Lib.hid fun W2 hW2 => cmpV_any _ _ _ W2 (Nat.le_refl _) (hz x hx).1 (hz y hy).1 (hS.below (trans_b hW hW2)) ((hz x hx).2.below (trans_b hW hW2)) ((hz y hy).2.below (trans_b hW hW2)))
end Go.Proofs.YtcpkjmpbpmeclaaGreatDoor
end
