/- utf.units, utf.Units. -/
import Derived.Test.YtolnnkalgioobaaGreatDoorK
namespace Go.Proofs.YtolnnkalgioobaaGreatDoor
open Go.RowKit Go.Shelf
attribute [local go_sem] Oper.semAt_some
set_option maxRecDepth 100000
set_option linter.unusedVariables false
set_option linter.unusedSimpArgs false
set_option linter.unnecessarySimpa false

theorem info60 : (Tryz.prog.info? 52).map (fun i => (i.zero, i.size, i.bytes)) = some (some (.int .u16 0), 1, 2) := by kernel_rfl
def unitsL (p : Int) : List Int := if p < 65536 then [p] else [55296 + (p - 65536) / 1024, 56320 + (p - 65536) % 1024]
theorem new_cells (W : World) (k : IntKind) (e : TypeId) (ys : List Int) (j : Nat) (u : Value) (h : (numsK k ys)[j]? = some u) : (W.alloc (.cells (numsK k ys).toArray e)).cell? ((⟨W.heap.size, 0, none⟩ : Addr).add j) = some u := by
  rw [add_plain, Lib.cell_of_heap (show (W.alloc (.cells (numsK k ys).toArray e)).heap[W.heap.size]? = some (.cells (numsK k ys).toArray e (0, 0)) from Array.getElem?_push_size)]
  simpa using h
theorem units_any (B : Nat) (v : Value) (xs : List Int) (p : Int) (W : World) (hO : Own W B 52 .u16 v xs) (hB : B ≤ W.heap.size) (h0 : 0 ≤ p) (h1 : p ≤ 1114111) (hl : xs.length ≤ 35184372088832) :
    Calls Tryz.prog 79 #[v, .int .i32 p] W fun e w' => ∃ v' tmp, e = .returned v' ∧ Own w' B 52 .u16 v' (xs ++ unitsL p) ∧ (W.alloc tmp).grownBy w' v.ownBlock := by
  obtain ⟨i0, hi, hz0, hz1, hz2⟩ := info_parts info60
  unfold unitsL
  have hOH := Lib.hid hO
  clear hO
  by_cases hp : p < 65536
  · rw [if_pos hp]
    have u1 := IntWalk.u16_in p (by omega)
    go_enter Tryz.func79, Tryz.ntmps79
    go_wp2_with (at_builtin; refine wpList_append_own _ rfl (.tmp 7) (.tmp 10) 48 rfl B 52 i0 (.int .u16 0) 1 2 Tryz.underlying48 hi hz0 hz1 hz2 rfl (by omega) v xs.length (numsK .u16 xs) rfl (World.ownsRow.alloc hOH.out _) ⟨W.heap.size, 0, none⟩ 1 1 (numsK .u16 [p]) rfl rfl (new_cells W .u16 52 [p]) (fun u hu => by obtain ⟨x, _, rfl⟩ := List.mem_map.1 hu; rfl) (by simp only [maxLen]; omega) (by omega) (by simp; omega) ?_; intro v1 w1 ho1 hg1 _)
    go_ret
    exact ⟨v1, .cells #[.int .u16 p] 52, rfl, by unfold Own; rw [numsK_append, List.length_append]; exact ho1, hg1⟩
  · rw [if_neg hp]
    have hpd : decide (p < 65536) = false := by simp; omega
    have e2 : bits BinOp.and .i32 (p - 65536) 1023 = (p - 65536) % 1024 := bits_mask .i32 24 (by decide) wraps_i32 10 (by decide) _ (by omega) (by omega)
    have u1 := IntWalk.u16_in (55296 + (p - 65536) / 1024) (by omega)
    have u2 := IntWalk.u16_in (56320 + (p - 65536) % 1024) (by omega)
    have hp2 : 65536 ≤ p := by omega
    clear hp
    go_enter Tryz.func79, Tryz.ntmps79
    go_wp2_with (at_builtin; refine wpList_append_own _ rfl (.tmp 14) (.tmp 23) 48 rfl B 52 i0 (.int .u16 0) 1 2 Tryz.underlying48 hi hz0 hz1 hz2 rfl (by omega) v xs.length (numsK .u16 xs) rfl (World.ownsRow.alloc hOH.out _) ⟨W.heap.size, 0, none⟩ 2 2 (numsK .u16 [55296 + (p - 65536) / 1024, 56320 + (p - 65536) % 1024]) rfl rfl (new_cells W .u16 52 [55296 + (p - 65536) / 1024, 56320 + (p - 65536) % 1024]) (fun u hu => by obtain ⟨x, _, rfl⟩ := List.mem_map.1 hu; rfl) (by simp only [maxLen]; omega) (by omega) (by simp; omega) ?_; intro v1 w1 ho1 hg1 _)
    go_ret
    exact ⟨v1, .cells #[.int .u16 (55296 + (p - 65536) / 1024), .int .u16 (56320 + (p - 65536) % 1024)] 52, rfl, by unfold Own; rw [numsK_append, List.length_append]; exact ho1, hg1⟩
end Go.Proofs.YtolnnkalgioobaaGreatDoor
