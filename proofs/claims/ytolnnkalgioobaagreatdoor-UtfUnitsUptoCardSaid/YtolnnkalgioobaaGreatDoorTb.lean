/- The document's Text, FromUnits. -/
import Derived.Test.YtolnnkalgioobaaGreatDoorTa
import Derived.Test.YtolnnkalgioobaaGreatDoorZp
import Derived.Deep.RegionLaw
namespace Go.Proofs.YtolnnkalgioobaaGreatDoor
open Go.RowKit
set_option maxRecDepth 100000
set_option linter.unusedVariables false
set_option linter.unusedSimpArgs false
set_option linter.unnecessarySimpa false

theorem info5b : (Tryz.prog.info? 5).map (fun i => (i.zero, i.size, i.bytes)) = some (some (.int .u8 0), 1, 1) := by kernel_rfl
theorem lit_rk {w : World} {g : Nat} {ys : List Int} (h : w.heap[g]? = some (.cells (numsK .u8 ys).toArray 5 (0, 0))) : RK w .u8 (some ⟨g, 0, none⟩) ys := .inr ⟨g, 0, rfl, fun j hj => by
  rw [Lib.cell_of_heap h, Nat.zero_add]
  simp [numsK, List.getElem?_eq_getElem hj, List.getD_eq_getElem?_getD]⟩
def allPt (l : List Int) : Bool := l.all isPt
def TextPost (l : List Int) (w : World) (e : Ending) (w' : World) : Prop :=
  e = .returned (.tuple #[.string (if allPt l then strOfNums (textL l) else ⟨#[]⟩), .bool (allPt l)]) ∧ Below w.heap.size w w'
theorem refText_any (A : Option Addr) (n c : Nat) (l : List Int) (w : World) (hl : l.length = n) (hr : RK w .i32 A l) (hn : n ≤ 1048576) (hb : ∀ x ∈ l, -2147483648 ≤ x ∧ x ≤ 2147483647) :
    Calls Tryz.prog 9 #[.slice A n c] w (TextPost l w) := by
  obtain ⟨i0, hi, hz0, hz1, hz2⟩ := info_parts info5b
  have HL := Lib.hid hl
  have HR := Lib.hid hr
  have HU := Lib.hid hb
  obtain ⟨q, hq⟩ : ∃ q, TextPost l w = q := ⟨_, rfl⟩
  have HNO : Hid (∀ W, Below w.heap.size w W → allPt l = false → q (.returned (.tuple #[.string ⟨#[]⟩, .bool false])) W) := Lib.hid fun W hW h => by rw [← hq]; exact ⟨by rw [h]; rfl, hW⟩
  have HYES : Hid (∀ W, Below w.heap.size w W → allPt l = true → q (.returned (.tuple #[.string (strOfNums (textL l)), .bool true])) W) := Lib.hid fun W hW h => by rw [← hq]; exact ⟨by rw [h]; rfl, hW⟩
  rw [hq]
  clear hl hr hb hq
  go_enter Tryz.func9, Tryz.ntmps9
  go_wp2
  go_loopw [4, 5] (fun v i W => ∃ j : Nat, i = .int .i64 j ∧ j ≤ n ∧ Hid (Own W w.heap.size 5 .u8 v (textL (l.take j))) ∧ Hid (∀ k, k < j → isPt (l.getD k 0) = true) ∧ Below w.heap.size w W) (fun _ i _ => n - (intOf i).toNat)
  case atStart => exact ⟨0, rfl, by omega, Own.nil _ _ _ _, fun k hk => by omega, Below.refl _ _⟩
  case round =>
    obtain ⟨j, rfl, hj, hO, hP, hB⟩ := hrel
    by_cases hlt : j < n
    · have hjl : j < l.length := by rw [HL.out]; exact hlt
      rcases HR.out.below hB with h0 | ⟨b, off, rfl, hc⟩
      · rw [h0] at hjl; simp at hjl
      have e1 := hc j hjl
      have hmem : l.getD j 0 ∈ l := by rw [List.getD_eq_getElem?_getD, List.getElem?_eq_getElem hjl]; exact List.getElem_mem hjl
      have hx := HU.out _ hmem
      have tk : Hid (l.take (j + 1) = l.take j ++ [l.getD j 0]) := Lib.hid (by rw [List.take_succ_eq_append_getElem hjl]; simp [List.getD_eq_getElem?_getD, List.getElem?_eq_getElem hjl])
      have hP2 : Hid (isPt (l.getD j 0) = true → ∀ k, k < j + 1 → isPt (l.getD k 0) = true) := Lib.hid fun h k hk => by
        rcases Nat.lt_or_ge k j with h2 | h2
        · exact hP.out k h2
        · obtain rfl : k = j := by omega
          exact h
      have hno : Hid (isPt (l.getD j 0) = false → allPt l = false) := Lib.hid fun h => by
        unfold allPt
        rw [List.all_eq_false]
        exact ⟨_, hmem, by rw [h]; simp⟩
      have htl : (textL (l.take j)).length ≤ 4194304 := by have := textL_len (l.take j); rw [List.length_take] at this; omega
      generalize l.getD j 0 = p at e1 hx tk hP2 hno
      obtain ⟨x0, x1⟩ := hx
      have cp := fun W => refPoint_any p W
      clear hc hjl hmem
      rcases hp : isPt p with _ | _
      · rw [hp] at cp
        have hno2 := Lib.hid (hno.out hp)
        clear hp hP2 hno
        go_wp2_with (go_at_call 28; refine (cp _).mono ?_; rintro e w1 ⟨rfl, rfl⟩)
        exact HNO.out _ hB hno2.out
      · rw [hp] at cp
        have hpp := (isPt_iff p).1 hp
        have HP2 := Lib.hid (hP2.out hp)
        have cen := fun W => enc_any p W hpp.1 (by omega)
        have hel := encL_len p
        obtain ⟨ys, hys⟩ : ∃ ys, encL p = ys := ⟨_, rfl⟩
        rw [hys] at cen hel
        have HYS := Lib.hid hys
        clear hp hP2 hno hys hpp
        go_wp2_with (first
          | (go_at_call 28; refine (cp _).mono ?_; rintro e w1 ⟨rfl, rfl⟩)
          | (go_at_call 29; refine (cen _).mono ?_; rintro e w2 ⟨g, rfl, hg, hgw, hb2⟩; have hlr := Lib.hid (lit_rk hg); have hOk := Lib.hid (hO.out.kept hb2); clear hg)
          | (at_builtin; refine wpList_append_any _ rfl (.tmp 19) (.tmp 25) 67 rfl w.heap.size 5 i0 (.int .u8 0) 1 1 Tryz.underlying67 hi hz0 hz1 hz2 rfl (by decide) _ _ _ rfl hOk.out _ (some ⟨g, 0, none⟩) ys.length ys.length _ rfl hlr.out.reads (nums_one _ _) (by simp only [maxLen]; omega) (by omega) (by have := hB.size; have := hb2.size; omega) ?_; intro v3 w3 ho3 hg3 hat3))
        have hO3 : Hid (Own w3 w.heap.size 5 .u8 v3 (textL (l.take (j + 1)))) := Lib.hid (by rw [tk.out, textL_snoc, HYS.out]; unfold Own; rw [List.length_append, numsK_append]; exact ho3)
        exact ⟨⟨j + 1, by go_num, by omega, hO3, HP2, (below_on hB hb2).grown hg3 (below_on hB hb2).size (fun k hk => Own.lt hOk.out k hk)⟩, by simp [intOf]; omega⟩
    · obtain rfl : j = n := by omega
      have hall : Hid (allPt l = true) := Lib.hid (by
        unfold allPt
        rw [List.all_eq_true]
        intro p hp
        obtain ⟨k, hk, rfl⟩ := List.getElem_of_mem hp
        have := hP.out k (by rw [← HL.out]; exact hk)
        rwa [List.getD_eq_getElem?_getD, List.getElem?_eq_getElem hk, Option.getD_some] at this)
      have hdone : Hid (l.take j = l) := Lib.hid (List.take_of_length_le (by rw [HL.out]; exact Nat.le_refl _))
      obtain ⟨A2, c2, rfl, hRK, _, hA2⟩ := hO.out.slice
      have hcv2 := conv_RK (P := Tryz.prog) (src := 67) (dst := 9) (e := 5) Tryz.underlying67 Tryz.underlying5 Tryz.underlying9 c2 hRK (fun _ => hA2)
      rw [hdone.out] at hcv2 ⊢
      clear hRK hA2 hlt
      go_wp2
      exact HYES.out _ hB hall.out
end Go.Proofs.YtolnnkalgioobaaGreatDoor
