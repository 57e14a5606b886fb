/- The walk of the document's Steps. -/
import Derived.Test.YtolnnkalgioobaaGreatDoorP
namespace Go.Proofs.YtolnnkalgioobaaGreatDoor
open Go.RowKit
set_option maxRecDepth 100000
set_option linter.unusedVariables false
set_option linter.unusedSimpArgs false
set_option linter.unnecessarySimpa false

theorem new_vals (W : World) (e : TypeId) (ys : List Value) (g : Nat) (hg : g = W.heap.size) (j : Nat) (u : Value) (h : ys[j]? = some u) : (W.alloc (.cells ys.toArray e)).cell? ((⟨g, 0, none⟩ : Addr).add j) = some u := by
  subst hg
  rw [add_plain, Lib.cell_of_heap (show (W.alloc (.cells ys.toArray e)).heap[W.heap.size]? = some (.cells ys.toArray e (0, 0)) from Array.getElem?_push_size)]
  simpa using h
theorem rsteps_end {s : ByteArray} {a : Nat} (h : ¬ a < s.size) : ∀ k, rsteps k s a = []
  | 0 => rfl
  | k + 1 => by rw [rsteps, if_neg h]
theorem refSteps_any (s : ByteArray) (w : World) (hs : s.size ≤ 1048576) :
    Calls Tryz.prog 24 #[.string s] w fun e w' => ∃ v, e = .returned v ∧ w'.ownsRow w.heap.size 61 4 v (rsteps s.size s 0).length (rowOf (rsteps s.size s 0)) ∧ Below w.heap.size w w' := by
  obtain ⟨i0, hi, hz0, hz1, hz2⟩ := info_parts info27
  go_enter Tryz.func24, Tryz.ntmps24
  go_wp2
  go_loopw [3, 4] (fun v i W => ∃ (a k : Nat) (l : List RStep), i = .int .i64 a ∧ a ≤ s.size ∧ s.size ≤ a + k ∧ l.length ≤ a ∧ Hid (rsteps s.size s 0 = l ++ rsteps k s a) ∧ Hid (W.ownsRow w.heap.size 61 4 v l.length (rowOf l)) ∧ Below w.heap.size w W) (fun _ i _ => s.size - (intOf i).toNat)
  case atStart => exact ⟨0, s.size, [], rfl, by omega, by omega, by simp, rfl, World.ownsRow_nil _ _ _ _, Below.refl _ _⟩
  case round =>
    obtain ⟨a, k, l, rfl, ha, hk, hl, hR, hO, hB⟩ := hrel
    by_cases hlt : a < s.size
    · have hf := fun w => refFirst_any s a w (by omega) hlt
      have hlt2 : (a : Int) < (s.size : Int) := by omega
      have hfit := rstep_fit s a hlt
      obtain ⟨k, rfl⟩ : ∃ q, k = q + 1 := ⟨k - 1, by omega⟩
      have hR2 : Hid (rsteps s.size s 0 = (l ++ [rstep s a]) ++ rsteps k s (a + (rstep s a).size)) := Lib.hid (by rw [hR.out, rsteps, if_pos hlt]; simp)
      rw [rstep_agg] at hf
      clear hR hlt
      generalize rstep s a = x at *
      obtain ⟨a', n, p, g⟩ := x
      simp only [rcells] at hf
      simp only at hfit hR2
      obtain ⟨f1, f2, f3⟩ := hfit
      go_wp2_with (first
        | (go_at_call 86; refine (hf _).mono ?_; rintro e w1 ⟨rfl, hb1⟩)
        | (at_builtin; refine wpList_append_own _ rfl (.tmp 13) (.tmp 15) 58 rfl w.heap.size 61 i0 (.agg #[.int .i64 0, .int .i64 0, .int .i64 0, .bool false]) 4 32 Tryz.underlying58 hi hz0 hz1 hz2 rfl (by omega) _ l.length (rowOf l) rfl (World.ownsRow.alloc (World.ownsRow.alloc (hO.out.kept (row := none) ⟨hb1.os, hb1.tape, hb1.output, hb1.size, fun i hi _ => hb1.block i hi⟩ (by cases u3.ownBlock <;> simp)) _) _) ⟨w1.heap.size + 1, 0, none⟩ 1 1 [.int .i64 a', .int .i64 n, .int .i64 p, .bool g] rfl rfl (new_vals _ 61 [.int .i64 a', .int .i64 n, .int .i64 p, .bool g] _ (by simp)) (fun u hu => by simp only [List.mem_cons, List.not_mem_nil, or_false] at hu; rcases hu with rfl | rfl | rfl | rfl <;> rfl) (by simp only [maxLen]; omega) (by omega) (by have := hB.size; have := hb1.size; simp; omega) ?_; intro v1 w3 ho1 hg1 _; have hblk : w3.heap[w1.heap.size]? = some (.cells #[.int .i64 a', .int .i64 n, .int .i64 p, .bool g] 61 (0, 0)) := (hg1.block _ (by simp; omega) (fun e => by have := (World.ownsRow.lt hO.out _ e.symm).2; have := hb1.size; omega)).trans ((Below.heap_alloc _ _ _ (by simp)).trans Array.getElem?_push_size); have hcell : w3.cell? ⟨w1.heap.size, 1, none⟩ = some (.int .i64 n) := (by rw [Lib.cell_of_heap hblk]; rfl)))
      have hB1 := below_on hB hb1
      exact ⟨⟨a + n, k, l ++ [⟨a', n, p, g⟩], by go_num, f3, by omega, by simp; omega, hR2, by show World.ownsRow _ _ _ _ _ _ _; rw [List.length_append, rowOf_snoc]; exact ho1,
        ((hB1.alloc hB1.size _).alloc (by have := hB1.size; simp; omega) _).grown hg1 (by have := hB1.size; simp; omega) (fun j hj => (World.ownsRow.lt hO.out j hj).1)⟩, by simp [intOf]; omega⟩
    · have hres : rsteps s.size s 0 = l := by rw [hR.out, rsteps_end hlt]; simp
      have HRes := Lib.hid hres
      have hge : ¬ ((a : Int) < (s.size : Int)) := by omega
      clear hres hlt hR
      go_wp2
      go_ret
      exact ⟨_, rfl, by rw [HRes.out]; exact hO.out, hB⟩
end Go.Proofs.YtolnnkalgioobaaGreatDoor
