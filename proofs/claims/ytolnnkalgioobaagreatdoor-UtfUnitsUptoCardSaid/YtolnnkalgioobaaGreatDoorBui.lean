/- A copy of a list with a mark behind it; is it still that. -/
import Derived.Test.YtolnnkalgioobaaGreatDoorBuh
import Derived.Test.YtolnnkalgioobaaGreatDoorJ
namespace Go.Proofs.YtolnnkalgioobaaGreatDoor
open Go.RowKit
set_option maxRecDepth 100000
set_option linter.unusedVariables false
set_option linter.unusedSimpArgs false
set_option linter.unnecessarySimpa false

theorem same_any (A B : Option Addr) (n c d : Nat) (xs ys : List Int) (w : World) (hx : xs.length = n) (hy : ys.length = n) (hn : n ≤ 140737488351232) (hrx : RK w .u16 A xs) (hry : RK w .u16 B ys) :
    Calls Tryz.prog 17 #[.slice A n c, .slice B n d] w fun e w' => e = .returned (.bool (decide (xs = ys))) ∧ Below w.heap.size w w' := sameU_eq A B n c d xs ys w hx hy hn hrx hry
/-- The mark behind a copy. -/
def spareM : Int := mkB 777777
theorem mark_spare (w : World) : Calls Tryz.prog 80 #[.int .i64 777777] w fun e w' => e = .returned (.int .u16 spareM) ∧ w = w' := bkmark_any 777777 w (by omega)
theorem is_spare (w : World) : Calls Tryz.prog 83 #[.int .u16 spareM, .int .i64 777777] w fun e w' => e = .returned (.bool true) ∧ w = w' := bkis_any 777777 w (by omega)
theorem make_full (w : World) (n : Nat) (hn : n ≤ 1099511627776) : (Instr.makeSlice 48 (.int .i64 ((n : Int) + 1)) (.int .i64 ((n : Int) + 1))).run Tryz.prog w = .ok (.slice (some ⟨w.heap.size, 0, none⟩) (n + 1) (n + 1)) (w.alloc (.cells (numsK .u16 (List.replicate (n + 1) 0)).toArray 52)) := by
  obtain ⟨i0, hi, hzz⟩ := Option.map_eq_some_iff.1 info_elem
  simp only [Prod.mk.injEq] at hzz
  obtain ⟨hz0, hz1, hz2⟩ := hzz
  rw [run_make (P := Tryz.prog) w 48 52 i0 (.int .u16 0) Tryz.underlying48 hi hz0 .i64 .i64 _ _ (by omega) (by omega) (by rw [hz2]; omega) (by omega), hz1]
  have e : ((n : Int) + 1).toNat = n + 1 := by omega
  rw [e, Nat.mul_one]
  congr 3
  apply Array.ext'
  apply List.ext_getElem
  · simp [madeCells, numsK, size_madeCells]
  · intro i h1 h2
    have hz : (Value.int .u16 0).cells = #[.int .u16 0] := rfl
    simp [madeCells, numsK, hz, Nat.mod_one]
/-- The copy while it is filled. -/
def filled (xs : List Int) (k : Nat) : Array Value := (numsK .u16 (xs.take k ++ List.replicate (xs.length + 1 - k) 0)).toArray
theorem filled_at (xs : List Int) (k : Nat) (h : k ≤ xs.length) : (filled xs k)[k]? = some (.int .u16 0) := by
  unfold filled numsK
  have hl : (xs.take k).length = k := by rw [List.length_take]; omega
  rw [List.getElem?_toArray, List.getElem?_map, List.getElem?_append_right (by omega), List.getElem?_replicate, if_pos (by omega)]
  rfl
theorem filled_set (xs : List Int) (k : Nat) (h : k ≤ xs.length) (b : Int) : (filled xs k).setIfInBounds k (.int .u16 b) = (numsK .u16 ((xs.take k ++ [b]) ++ List.replicate (xs.length - k) 0)).toArray := by
  unfold filled numsK
  have hl : (xs.take k).length = k := by rw [List.length_take]; omega
  rw [List.setIfInBounds_toArray, ← List.map_set]
  congr 2
  rw [List.set_append_right _ _ (by omega), hl, Nat.sub_self, show xs.length + 1 - k = (xs.length - k) + 1 from by omega, List.replicate_succ, List.set_cons_zero, List.append_assoc]
  rfl
theorem take_more (xs : List Int) (k : Nat) (h : k < xs.length) : xs.take (k + 1) = xs.take k ++ [xs.getD k 0] := by
  rw [List.take_succ_eq_append_getElem h, List.getD_eq_getElem?_getD, List.getElem?_eq_getElem h]
  rfl
theorem filled_step (xs : List Int) (k : Nat) (h : k < xs.length) : (filled xs k).setIfInBounds k (.int .u16 (xs.getD k 0)) = filled xs (k + 1) := by
  rw [filled_set xs k (by omega), ← take_more xs k h]
  unfold filled
  rw [show xs.length + 1 - (k + 1) = xs.length - k from by omega]
theorem filled_end (xs : List Int) (m : Int) : (filled xs xs.length).setIfInBounds xs.length (.int .u16 m) = (numsK .u16 (xs ++ [m])).toArray := by
  rw [filled_set xs _ (Nat.le_refl _)]
  simp
/-- A block of its own that holds the list, and a mark behind it. -/
def TwinPost (n : Nat) (xs : List Int) (w : World) (e : Ending) (w' : World) : Prop :=
  ∃ g, e = .returned (.slice (some ⟨g, 0, none⟩) n (n + 1)) ∧ w.heap.size ≤ g ∧ w'.heap[g]? = some (.cells (numsK .u16 (xs ++ [spareM])).toArray 52 (0, 0)) ∧ Below w.heap.size w w'
theorem twin_any (A : Option Addr) (c n : Nat) (xs : List Int) (w : World) (hl : xs.length = n) (hn : n ≤ 1099511627776) (hx : RK w .u16 A xs) : Calls Tryz.prog 18 #[.slice A n c] w (TwinPost n xs w) := by
  have hmk := make_full w n hn
  have hX := Lib.hid hx
  have HL := Lib.hid hl
  have hf0 : (numsK .u16 (List.replicate (n + 1) 0)).toArray = filled xs 0 := by simp [filled, hl]
  rw [hf0] at hmk
  have HFE := Lib.hid (fun m => filled_end xs m)
  have HFA := Lib.hid (fun k (h : k ≤ n) => filled_at xs k (by rw [hl]; exact h))
  have HFS := Lib.hid (fun k (h : k < n) => filled_step xs k (by rw [hl]; exact h))
  rw [hl] at HFE
  have hsm := fun W => mark_spare W
  obtain ⟨sm, hse⟩ : ∃ sm, spareM = sm := ⟨_, rfl⟩
  rw [hse] at hsm
  have HSE := Lib.hid hse
  clear hx hl hf0 hse
  go_enter Tryz.func18, Tryz.ntmps18
  go_wp2
  go_loopw [4] (fun i W => ∃ k : Nat, k ≤ n ∧ i = .int .i64 k ∧ W = w.alloc (.cells (filled xs k) 52)) (fun i _ => n - (intOf i).toNat)
  case atStart => exact ⟨0, by omega, rfl, rfl⟩
  case round =>
    obtain ⟨k, hk, rfl, rfl⟩ := hrel
    have hat := HFA.out k hk
    by_cases hlt : k < n
    · rcases hX.out with h0 | ⟨bx, ox, rfl, hcx⟩
      · have := HL.out; subst h0; simp at this; omega
      have c1 := hcx k (by rw [HL.out]; exact hlt)
      have d1 : (w.alloc (.cells (filled xs k) 52)).cell? ⟨bx, ox + k, none⟩ = some (.int .u16 (xs.getD k 0)) := by rw [World.cell?_alloc_lt _ _ _ (World.block_lt_of_cell? w _ c1)]; exact c1
      have hst := Lib.hid (HFS.out k hlt)
      obtain ⟨x, hx⟩ : ∃ x, xs.getD k 0 = x := ⟨_, rfl⟩
      rw [hx] at d1
      have HX := Lib.hid hx
      clear c1 hcx hx
      go_wp2
      exact ⟨⟨k + 1, by omega, by go_num, by rw [← hst.out, HX.out]⟩, by simp [intOf]; omega⟩
    · obtain rfl : k = n := by omega
      have hfe := Lib.hid (HFE.out sm)
      go_wp2_with (go_at_call 80; refine (hsm _).mono ?_; rintro e w1 ⟨rfl, rfl⟩)
      go_ret
      refine ⟨w.heap.size, rfl, Nat.le_refl _, ?_, (Below.refl _ _).alloc (Nat.le_refl _) _⟩
      rw [hfe.out, HSE.out]
      exact Array.getElem?_push_size
theorem twin_rk {w : World} {g : Nat} {xs : List Int} {m : Int} (h : w.heap[g]? = some (.cells (numsK .u16 (xs ++ [m])).toArray 52 (0, 0))) : RK w .u16 (some ⟨g, 0, none⟩) xs := .inr ⟨g, 0, rfl, fun j hj => by
    rw [Lib.cell_of_heap h]
    have hj2 : j < (xs.map (Value.int .u16)).length := by simpa using hj
    simp only [numsK, List.map_append, List.getElem?_toArray, Nat.zero_add]
    rw [List.getElem?_append_left hj2, List.getElem?_map, List.getElem?_eq_getElem hj, List.getD_eq_getElem?_getD, List.getElem?_eq_getElem hj]
    rfl⟩
theorem twin_own {w : World} {g : Nat} {xs : List Int} {m : Int} (B : Nat) (hB : B ≤ g) (hl : xs.length ≤ 1099511627776) (h : w.heap[g]? = some (.cells (numsK .u16 (xs ++ [m])).toArray 52 (0, 0))) : Own w B 52 .u16 (.slice (some ⟨g, 0, none⟩) xs.length (xs.length + 1)) xs := by
  refine ⟨by simp [numsK], .inr ⟨g, xs.length + 1, _, rfl, hB, h, by omega, by simp only [maxLen]; omega, by simp [numsK], ?_⟩⟩
  simp [numsK, List.take_append]
theorem left_yes (g : Nat) (B : Option Addr) (d n : Nat) (xs : List Int) (w : World) (hl : xs.length = n) (hn : n ≤ 1099511627776) (hg : w.heap[g]? = some (.cells (numsK .u16 (xs ++ [spareM])).toArray 52 (0, 0))) (hy : RK w .u16 B xs) :
    Calls Tryz.prog 21 #[.slice (some ⟨g, 0, none⟩) n (n + 1), .slice B n d] w fun e w' => e = .returned (.bool true) ∧ Below w.heap.size w w' := by
  have hx := twin_rk hg
  have hlt : g < w.heap.size := (Array.getElem?_eq_some_iff.1 hg).1
  have hm : w.cell? ⟨g, n, none⟩ = some (.int .u16 spareM) := by
    rw [Lib.cell_of_heap hg, ← hl]
    simp [numsK]
  have hc := same_any (some ⟨g, 0, none⟩) B n (n + 1) d xs xs w hl hl (by omega) hx hy
  rw [decide_eq_true (rfl : xs = xs)] at hc
  have his := fun W => is_spare W
  generalize spareM = sm at *
  have HG := Lib.hid hg
  clear hx hy hg hl
  go_enter Tryz.func21, Tryz.ntmps21
  go_wp2_with (first
    | (go_at_call 17; refine hc.mono ?_; rintro e w1 ⟨rfl, hb1⟩; have hm1 : w1.cell? ⟨g, n, none⟩ = some (.int .u16 sm) := (hb1.cell (p := ⟨g, n, none⟩) hlt).trans hm)
    | (go_at_call 83; refine (his _).mono ?_; rintro e w2 ⟨rfl, rfl⟩))
  go_ret
  exact ⟨rfl, hb1⟩
end Go.Proofs.YtolnnkalgioobaaGreatDoor
