/- The walk of the document's Codes. -/
import Derived.Test.YtolnnkalgioobaaGreatDoorR
namespace Go.Proofs.YtolnnkalgioobaaGreatDoor
open Go.RowKit
set_option maxRecDepth 100000
set_option linter.unusedVariables false
set_option linter.unusedSimpArgs false
set_option linter.unnecessarySimpa false

theorem codes_step {w W w3 : World} {v : Value} {xs : List Int} {g : Nat} {cur : Array Value} {tmp : Obj} (hB : Below w.heap.size w W) (hO : Own W w.heap.size 3 .i64 v xs) (hG : W.heap[g]? = some (.cells cur 61 (0, 0)))
    (hg1 : (W.alloc tmp).grownBy w3 v.ownBlock) : w3.heap[g]? = some (.cells cur 61 (0, 0)) ∧ Below w.heap.size w w3 := by
  have hlt : g < W.heap.size := (Array.getElem?_eq_some_iff.1 hG).1
  refine ⟨(hg1.block g (by simp; omega) (fun e => ?_)).trans ((Below.heap_alloc W _ g hlt).trans hG), (hB.alloc hB.size _).grown hg1 (by have := hB.size; simp; omega) (fun j hj => (World.ownsRow.lt hO j hj).1)⟩
  rcases hO.2 with ⟨rfl, _⟩ | ⟨g2, cap, cur2, rfl, _, hh, _⟩
  · simp [Value.ownBlock] at e
  · obtain rfl : g = g2 := by simpa [Value.ownBlock] using e
    rw [hG] at hh
    simp at hh
theorem codes_from (s : ByteArray) (L : List RStep) (w : World) (hL : L.length ≤ 1048576) (hpt : ∀ x ∈ L, 0 ≤ x.point ∧ x.point ≤ 1114111)
    (hst : Calls Tryz.prog 24 #[.string s] w fun e w' => ∃ v, e = .returned v ∧ w'.ownsRow w.heap.size 61 4 v L.length (rowOf L) ∧ Below w.heap.size w w') :
    Calls Tryz.prog 78 #[.string s] w fun e w' => ∃ v, e = .returned v ∧ Own w' w.heap.size 3 .i64 v (codesL L) ∧ Below w.heap.size w w' := by
  obtain ⟨i0, hi, hz0, hz1, hz2⟩ := info_parts info3
  go_enter Tryz.func78, Tryz.ntmps78
  go_upto_region 2 with (go_at_call 24; refine hst.mono ?_; rintro e w1 ⟨v, rfl, hv, hb1⟩)
  rcases hv.2 with ⟨rfl, h0⟩ | ⟨g, cap, cur, rfl, hg, hh, hc1, hc2, hc3, hc4⟩
  · have hnil : L = [] := List.eq_nil_of_length_eq_zero h0
    go_wp2
    go_loopw [4, 5] (fun v i W => v = .slice none 0 0 ∧ i = .int .i64 0 ∧ W = w1) (fun _ _ _ => 0)
    case atStart => exact ⟨rfl, rfl, rfl⟩
    case round =>
      obtain ⟨rfl, rfl, rfl⟩ := hrel
      go_wp2
      go_ret
      exact ⟨_, rfl, by rw [hnil]; exact Own.nil _ _ _ _, hb1⟩
  · have HV := Lib.hid hv
    have HPT := Lib.hid hpt
    have HC : Hid (∀ j u, (rowOf L)[j]? = some u → cur[j]? = some u) := fun j u hu => by
      rw [← hc4] at hu
      rw [List.getElem?_take] at hu
      split at hu
      · simpa using hu
      · cases hu
    clear hv hpt hc1 hc2 hc3 hc4
    go_wp2
    go_loopw [4, 5] (fun v i W => ∃ j : Nat, i = .int .i64 j ∧ j ≤ L.length ∧ Hid (Own W w.heap.size 3 .i64 v (codesL (L.take j))) ∧ Hid (W.heap[g]? = some (.cells cur 61 (0, 0))) ∧ Below w.heap.size w W) (fun _ i _ => L.length - (intOf i).toNat)
    case atStart => exact ⟨0, rfl, by omega, Own.nil _ _ _ _, hh, hb1⟩
    case round =>
      obtain ⟨j, rfl, hj, hO, hG, hB⟩ := hrel
      by_cases hlt : j < L.length
      · have r := rowOf_get L j hlt
        have c2 : wr.cell? ⟨g, j * 4 + 2, none⟩ = some (.int .i64 (L[j]'hlt).point) := by rw [Lib.cell_of_heap hG.out]; exact HC.out _ _ r.1
        have c3 : wr.cell? ⟨g, j * 4 + 3, none⟩ = some (.bool (L[j]'hlt).good) := by rw [Lib.cell_of_heap hG.out]; exact HC.out _ _ r.2
        have pt := HPT.out _ (List.getElem_mem hlt)
        have tk : Hid (L.take (j + 1) = L.take j ++ [L[j]'hlt]) := List.take_succ_eq_append_getElem hlt
        generalize L[j]'hlt = x at c2 c3 pt tk
        obtain ⟨xa, xn, p, gd⟩ := x
        simp only at c2 c3 pt
        obtain ⟨p0, p1⟩ := pt
        have hlen : (codesL (L.take j)).length ≤ 2097152 := by have := codesL_len (L.take j); rw [List.length_take] at this; omega
        rcases gd with _ | _
        · go_wp2_with (at_builtin; refine wpList_append_own _ rfl (.tmp 38) (.tmp 41) 77 rfl w.heap.size 3 i0 (.int .i64 0) 1 8 Tryz.underlying77 hi hz0 hz1 hz2 rfl (by omega) _ (codesL (L.take j)).length (numsK .i64 (codesL (L.take j))) rfl (World.ownsRow.alloc hO.out _) ⟨wr.heap.size, 0, none⟩ 1 1 (numsK .i64 [65536 + p]) rfl rfl (new_cells wr .i64 3 [65536 + p]) (fun u hu => by obtain ⟨x, _, rfl⟩ := List.mem_map.1 hu; rfl) (by simp only [maxLen]; omega) (by omega) (by have := hB.size; simp; omega) ?_; intro v1 w3 ho1 hg1 _)
          obtain ⟨hG3, hB3⟩ := codes_step hB hO.out hG.out hg1
          exact ⟨⟨j + 1, by go_num, by omega, by show World.ownsRow _ _ _ _ _ _ _; rw [tk.out, codesL_snoc, show codeL ⟨xa, xn, p, false⟩ = [65536 + p] from rfl, numsK_append, List.length_append]; exact ho1, hG3, hB3⟩, by simp [intOf]; omega⟩
        · by_cases hp : p < 65536
          · go_wp2_with (at_builtin; refine wpList_append_own _ rfl (.tmp 46) (.tmp 48) 77 rfl w.heap.size 3 i0 (.int .i64 0) 1 8 Tryz.underlying77 hi hz0 hz1 hz2 rfl (by omega) _ (codesL (L.take j)).length (numsK .i64 (codesL (L.take j))) rfl (World.ownsRow.alloc hO.out _) ⟨wr.heap.size, 0, none⟩ 1 1 (numsK .i64 [p]) rfl rfl (new_cells wr .i64 3 [p]) (fun u hu => by obtain ⟨x, _, rfl⟩ := List.mem_map.1 hu; rfl) (by simp only [maxLen]; omega) (by omega) (by have := hB.size; simp; omega) ?_; intro v1 w3 ho1 hg1 _)
            obtain ⟨hG3, hB3⟩ := codes_step hB hO.out hG.out hg1
            exact ⟨⟨j + 1, by go_num, by omega, by show World.ownsRow _ _ _ _ _ _ _; rw [tk.out, codesL_snoc, show codeL ⟨xa, xn, p, true⟩ = [p] from by unfold codeL; simp; omega, numsK_append, List.length_append]; exact ho1, hG3, hB3⟩, by simp [intOf]; omega⟩
          · have hp2 : 65536 ≤ p := by omega
            have hpd : decide (p < 65536) = false := by simp; omega
            clear hp
            go_wp2_with (at_builtin; refine wpList_append_own _ rfl (.tmp 20) (.tmp 29) 77 rfl w.heap.size 3 i0 (.int .i64 0) 1 8 Tryz.underlying77 hi hz0 hz1 hz2 rfl (by omega) _ (codesL (L.take j)).length (numsK .i64 (codesL (L.take j))) rfl (World.ownsRow.alloc hO.out _) ⟨wr.heap.size, 0, none⟩ 2 2 (numsK .i64 [55296 + (p - 65536) / 1024, 56320 + (p - 65536) % 1024]) rfl rfl (new_cells wr .i64 3 [55296 + (p - 65536) / 1024, 56320 + (p - 65536) % 1024]) (fun u hu => by obtain ⟨x, _, rfl⟩ := List.mem_map.1 hu; rfl) (by simp only [maxLen]; omega) (by omega) (by have := hB.size; simp; omega) ?_; intro v1 w3 ho1 hg1 _)
            obtain ⟨hG3, hB3⟩ := codes_step hB hO.out hG.out hg1
            exact ⟨⟨j + 1, by go_num, by omega, by show World.ownsRow _ _ _ _ _ _ _; rw [tk.out, codesL_snoc, show codeL ⟨xa, xn, p, true⟩ = [55296 + (p - 65536) / 1024, 56320 + (p - 65536) % 1024] from by unfold codeL; simp; omega, numsK_append, List.length_append]; exact ho1, hG3, hB3⟩, by simp [intOf]; omega⟩
      · obtain rfl : j = L.length := by omega
        have ht : L.take L.length = L := List.take_length
        have HT := Lib.hid ht
        clear ht hlt
        go_wp2
        go_ret
        exact ⟨_, rfl, by have := hO.out; rw [HT.out] at this; exact this, hB⟩
end Go.Proofs.YtolnnkalgioobaaGreatDoor
