/- utf.Text; wrong. -/
import Derived.Lib.OthersKept
import Derived.Test.YtolnnkalgioobaaGreatDoorZn
namespace Go.Proofs.YtolnnkalgioobaaGreatDoor
open Go.RowKit
set_option maxRecDepth 100000
set_option linter.unusedVariables false
set_option linter.unusedSimpArgs false
set_option linter.unnecessarySimpa false

theorem own_not_iter {W : World} {B : Nat} {e : TypeId} {k : IntKind} {v : Value} {xs : List Int} {I : Nat} {T : ByteArray} {pos : Nat} (h : Own W B e k v xs) (hi : W.heap[I]? = some (.stringIter T pos)) : v.ownBlock ≠ some I := by
  rcases h.2 with ⟨rfl, _⟩ | ⟨g, cap, cur, rfl, _, hh, _⟩
  · simp [Value.ownBlock]
  · intro e2
    obtain rfl : g = I := by simpa [Value.ownBlock] using e2
    rw [hi] at hh
    cases hh
theorem own_iterAt {W : World} {B : Nat} {e : TypeId} {k : IntKind} {v : Value} {xs : List Int} {I : Nat} {T : ByteArray} {pos : Nat} (h : Own W B e k v xs) (hi : W.heap[I]? = some (.stringIter T pos)) (pos' : Nat) : Own (W.iterAt I T pos') B e k v xs :=
  World.ownsRow.kept h (row := some I) ⟨rfl, rfl, rfl, by rw [Lib.iterAt_size]; exact Nat.le_refl _, fun i hi2 hne => Lib.iterAt_other W I i T pos' (fun e => hne (by rw [e]))⟩ (.inr (own_not_iter h hi))
theorem make65 (w : World) (n : Nat) (hn : n ≤ 140737488351232) : ∃ w1, (Instr.makeSlice 67 (.int .i64 0) (.int .i64 (n : Int))).run Tryz.prog w = .ok (.slice (some ⟨w.heap.size, 0, none⟩) 0 n) w1 ∧
    Own w1 w.heap.size 5 .u8 (.slice (some ⟨w.heap.size, 0, none⟩) 0 n) [] ∧ Below w.heap.size w w1 := by
  obtain ⟨i0, hi, hz0, hz1, hz2⟩ := info_parts info5
  obtain ⟨w1, h1, h2, h3⟩ := run_make_own (P := Tryz.prog) w w.heap.size 67 5 i0 (.int .u8 0) 1 Tryz.underlying67 hi hz0 hz1 .i64 .i64 n (by rw [hz2]; omega) (by simp [maxLen]; omega) (Nat.le_refl _)
  exact ⟨w1, h1, h2, ⟨h3.os, h3.tape, h3.output, h3.size, fun k hk => h3.block k hk (by simp)⟩⟩
theorem runes_conv (A : Option Addr) (c : Nat) (l : List Int) (w : World) (hr : RK w .i32 A l) (hp : ∀ p ∈ l, isPt p = true) :
    (convert 22 9 (.slice A l.length c)).run Tryz.prog w = .ok (.string (strOfNums (textL l))) w := by
  rcases hr with rfl | ⟨b, off, rfl, h⟩
  · rcases A with _ | a
    · rw [run_convert_runes_nil w 22 9 21 _ _ Tryz.underlying22 Tryz.underlying21 Tryz.underlying9]
      rfl
    · rw [run_convert_runes w 22 9 21 a _ c [] (by simp) Tryz.underlying22 Tryz.underlying21 Tryz.underlying9 (fun j hj => by simp at hj)]
      rfl
  · rw [run_convert_runes w 22 9 21 ⟨b, off, none⟩ _ c l (Nat.le_refl _) Tryz.underlying22 Tryz.underlying21 Tryz.underlying9 (fun j hj => by rw [Addr.add_mid]; exact h j hj), List.take_length, runes_is l hp]

theorem Text_bad (A : Option Addr) (n c : Nat) (l : List Int) (w : World) (hl : l.length = n) (hr : RK w .i32 A l) (hn : n ≤ 2097152) (hb : ∃ p ∈ l, isPt p = false) :
    Calls Tryz.prog 10 #[.slice A n c] w fun e w' => e = .returned (.tuple #[.string ⟨#[]⟩, .bool false]) ∧ Below w.heap.size w w' := by
  have HL := Lib.hid hl
  have HR := Lib.hid hr
  have HB := Lib.hid hb
  clear hl hr hb
  go_enter Tryz.func10, Tryz.ntmps10
  go_wp2
  go_loopw [11] (fun i W => ∃ j : Nat, i = .int .i64 j ∧ j ≤ n ∧ Hid (∀ k, k < j → isPt (l.getD k 0) = true) ∧ W = w) (fun i _ => n - (intOf i).toNat)
  case atStart => exact ⟨0, rfl, by omega, (fun k hk => by omega), rfl⟩
  case round =>
    obtain ⟨j, rfl, hj, hA, rfl⟩ := hrel
    by_cases hlt : j < n
    · have hjl : j < l.length := by rw [HL.out]; exact hlt
      rcases HR.out with h0 | ⟨b, off, rfl, hc⟩
      · rw [h0] at hjl; simp at hjl
      have e1 := hc j hjl
      have hA2 := fun (h : isPt (l.getD j 0) = true) => (Lib.hid fun k (hk : k < j + 1) => by
        rcases Nat.lt_or_ge k j with h2 | h2
        · exact hA.out k h2
        · obtain rfl : k = j := by omega
          exact h : Hid (∀ k, k < j + 1 → isPt (l.getD k 0) = true))
      generalize l.getD j 0 = p at e1 hA2
      have HA2 := Lib.hid hA2
      have cp := fun W => point_any p W
      clear hc hjl hA2
      rcases hp : isPt p with _ | _
      · rw [hp] at cp
        clear hp
        go_wp2_with (go_at_call 30; refine (cp _).mono ?_; rintro e w1 ⟨rfl, rfl⟩)
        go_ret2
        exact ⟨rfl, Below.refl _ _⟩
      · have H2 := HA2.out hp
        rw [hp] at cp
        clear hp
        go_wp2_with (go_at_call 30; refine (cp _).mono ?_; rintro e w1 ⟨rfl, rfl⟩)
        exact ⟨⟨j + 1, by go_num, by omega, H2, trivial⟩, by simp [intOf]; omega⟩
    · exfalso
      obtain ⟨p, hp, hno⟩ := HB.out
      obtain ⟨k, hk, rfl⟩ := List.getElem_of_mem hp
      have h1 := hA.out k (by rw [HL.out] at hk; omega)
      rw [List.getD_eq_getElem?_getD, List.getElem?_eq_getElem hk, Option.getD_some, hno] at h1
      cases h1

set_option maxHeartbeats 2000000 in
theorem Text_good (A : Option Addr) (n c : Nat) (l : List Int) (w : World) (hl : l.length = n) (hr : RK w .i32 A l) (hn : n ≤ 2097152) (hp : ∀ p ∈ l, isPt p = true) :
    Calls Tryz.prog 10 #[.slice A n c] w fun e w' => e = .returned (.tuple #[.string (strOfNums (textL l)), .bool true]) ∧ Below w.heap.size w w' := by
  obtain ⟨w1, hmk, hO1, hb1⟩ := make65 w n (by omega)
  have hcv := runes_conv A c l w1 (hr.below hb1) hp
  rw [hl] at hcv
  have hT := Lib.hid (text_of l hp)
  have hsz : (strOfNums (textL l)).size ≤ 8388608 := by rw [strOfNums_size]; have := textL_len l; omega
  have HTXT := Lib.hid (show textL l = textL l from rfl)
  obtain ⟨T, hTe⟩ : ∃ T, strOfNums (textL l) = T := ⟨_, rfl⟩
  rw [hTe] at hcv hsz hT ⊢
  have HTE := Lib.hid hTe
  have HL := Lib.hid hl
  have HR := Lib.hid hr
  have HP := Lib.hid hp
  clear hl hr hp hTe HTXT
  go_enter Tryz.func10, Tryz.ntmps10
  go_wp2
  go_loopw [11] (fun i W => ∃ j : Nat, i = .int .i64 j ∧ j ≤ n ∧ W = w) (fun i _ => n - (intOf i).toNat)
  case atStart => exact ⟨0, rfl, by omega, rfl⟩
  case round =>
    obtain ⟨j, rfl, hj, hWw⟩ := hrel
    obtain rfl : w = wr := hWw.symm
    by_cases hlt : j < n
    · have hjl : j < l.length := by rw [HL.out]; exact hlt
      rcases HR.out with h0 | ⟨b, off, rfl, hc⟩
      · rw [h0] at hjl; simp at hjl
      have e1 := hc j hjl
      have hpt : isPt (l.getD j 0) = true := HP.out _ (by rw [List.getD_eq_getElem?_getD, List.getElem?_eq_getElem hjl]; exact List.getElem_mem hjl)
      generalize l.getD j 0 = p at e1 hpt
      have cp := fun W => point_any p W
      rw [hpt] at cp
      clear hc hjl hpt hmk hcv
      go_wp2_with (go_at_call 30; refine (cp _).mono ?_; rintro e w1 ⟨rfl, rfl⟩)
      exact ⟨⟨j + 1, by go_num, by omega, trivial⟩, by simp [intOf]; omega⟩
    · obtain rfl : j = n := by omega
      have hit0 := World.iter_heap w1 T 0
      have hbI : Below w.heap.size w (w1.iter T 0) := below_on hb1 (iter_below _ _ _)
      have hOI : Own (w1.iter T 0) w.heap.size 5 .u8 (.slice (some ⟨w.heap.size, 0, none⟩) 0 j) [] := hO1.kept (iter_below _ _ _)
      have hIl := hb1.size
      obtain ⟨I, hI⟩ : ∃ I, w1.heap.size = I := ⟨_, rfl⟩
      have hrg := run_range_string (P := Tryz.prog) w1 9 T Tryz.underlying9
      rw [hI] at hrg hit0 hIl
      obtain ⟨W0, hW0⟩ : ∃ W0, w1.iter T 0 = W0 := ⟨_, rfl⟩
      rw [hW0] at hrg hit0 hbI hOI
      clear hlt hW0 hI hO1 hb1
      go_wp2
      go_loopw [6] (fun v W => ∃ (pos : Nat) (done rest : List Int), Hid (Own W w.heap.size 5 .u8 v (textL done)) ∧ Hid (l = done ++ rest) ∧ Hid (TextAt T pos rest) ∧ Hid (W.heap[I]? = some (.stringIter T pos)) ∧ Below w.heap.size w W) (fun _ W => T.size - W.iterPos I)
      case atStart => exact ⟨0, [], l, hOI, rfl, hT.out, hit0, hbI⟩
      case round =>
        obtain ⟨pos, done, rest, hO, hD, hTx, hit, hB⟩ := hrel
        have hipos : wr.iterPos I = pos := by unfold World.iterPos; rw [hit.out]
        have HIP := Lib.hid hipos
        clear hipos
        have hll := hTx.out.le
        have hdl : done.length ≤ 2097152 := by have := congrArg List.length hD.out; rw [HL.out, List.length_append] at this; omega
        have htl := textL_len done
        cases rest with
        | nil =>
          have hpos : pos = T.size := by cases hTx.out; rfl
          have hend := Lib.run_next_end_at (P := Tryz.prog) wr I T pos 0 hit.out (by omega)
          have hdone : l = done := by rw [hD.out, List.append_nil]
          obtain ⟨A2, c2, rfl, hRK, _, hA2⟩ := hO.out.slice
          have hcv2 := conv_RK (P := Tryz.prog) (src := 67) (dst := 9) (e := 5) Tryz.underlying67 Tryz.underlying5 Tryz.underlying9 c2 hRK (fun _ => hA2)
          rw [← hdone, HTE.out] at hcv2
          rw [← hdone]
          clear hpos hdone hRK hA2 hdl htl hll
          go_wp2
          go_ret2
          exact ⟨rfl, hB⟩
        | cons p rest =>
          obtain ⟨m, hdec, htx⟩ : ∃ m, decS T pos = some (p, m) ∧ TextAt T (pos + m) rest := by
            cases hTx.out with
            | step h1 h2 => exact ⟨_, h1, h2⟩
          have hds := decS_some hdec
          have hpp := (isPt_iff p).1 hds.1
          have hnx := Lib.run_next_any_at (P := Tryz.prog) wr I T pos 0 hit.out (by omega)
          rw [decode_of hdec] at hnx
          simp only at hnx
          rw [show ((p.toNat : Nat) : Int) = p from by omega] at hnx
          have hOi := own_iterAt hO.out hit.out (pos + m)
          have hiI := Lib.iterAt_heap wr I T pos (pos + m) hit.out
          have hBi := Lib.below_iterAt hB hIl T (pos + m)
          generalize wr.iterAt I T (pos + m) = wi at hnx hOi hiI hBi
          have cput := put_any w.heap.size _ (textL done) p wi hOi hBi.size hpp.1 (by omega) (by omega)
          have HOi := Lib.hid hOi
          have HiI := Lib.hid hiI
          have HTX := Lib.hid htx
          have HD2 : Hid (l = (done ++ [p]) ++ rest) := Lib.hid (by rw [hD.out]; simp)
          have hstep : T.size - (pos + m) < T.size - pos := by omega
          obtain ⟨p0, p1, _⟩ := hpp
          clear hdec hds hOi hiI htx hTx hO hit hdl htl hll hD
          go_wp2_with (go_at_call 31; refine cput.mono ?_; rintro e w2 ⟨v2, rfl, hO2, tmp, hg2⟩)
          have hlI : I < wi.heap.size := (Array.getElem?_eq_some_iff.1 HiI.out).1
          have hi2 : w2.heap[I]? = some (.stringIter T (pos + m)) := (hg2.block I (by simp; omega) (Ne.symm (own_not_iter HOi.out HiI.out))).trans ((Below.heap_alloc wi _ I hlI).trans HiI.out)
          have hip2 : w2.iterPos I = pos + m := by unfold World.iterPos; rw [hi2]
          refine ⟨⟨pos + m, done ++ [p], rest, by show Own _ _ _ _ _ _; rw [textL_snoc]; exact hO2, HD2.out, HTX.out, hi2, (hBi.alloc hBi.size _).grown hg2 (by have := hBi.size; simp; omega) (fun j hj => Own.lt HOi.out j hj)⟩, ?_⟩
          rw [hip2, HIP.out]
          exact hstep
end Go.Proofs.YtolnnkalgioobaaGreatDoor
