/- What base.Sum32 answers of any list. -/
import Derived.Test.YtjnmjgpkicbbdaaGreatDoorG
import Derived.Deep.MidRow
import Derived.Laws.Cover3
import Derived.Laws.Rows
namespace Go.Proofs.YtjnmjgpkicbbdaaGreatDoor
open Go.RowKit
set_option maxRecDepth 100000
set_option linter.unusedVariables false
set_option linter.unusedSimpArgs false

theorem size27 : (Tryz.prog.info? 51).map (·.size) = some 32 := by kernel_rfl

theorem range_RK {w : World} {b off : Nat} {xs : List Int} (h : ∀ j, j < xs.length → w.cell? ⟨b, off + j, none⟩ = some (.int .u8 (xs.getD j 0))) : w.rangeAt b off (numsK .u8 xs) := by
  intro j v hv
  have hj : j < xs.length := by have := (List.getElem?_eq_some_iff.1 hv).1; simpa [numsK] using this
  rw [h j hj, ← hv]
  simp [numsK, List.getElem?_eq_getElem hj, List.getD_eq_getElem?_getD]

theorem range_alloc {w : World} {b off : Nat} {cs : List Value} (h : w.rangeAt b off cs) (hlt : b < w.heap.size) (o : Obj) : (w.alloc o).rangeAt b off cs := fun j v hv => by
  rw [World.cell?_alloc_lt _ _ _ (show (⟨b, off + j, none⟩ : Addr).block < w.heap.size from hlt)]
  exact h j v hv
theorem below_setCells {B : Nat} {w0 : World} : ∀ (vs : List Value) (g o : Nat) (w : World), Below B w0 w → B ≤ g → Below B w0 (w.setCells g o vs)
  | [], _, _, _, h, _ => h
  | v :: r, g, o, w, h, hg => by
    rw [World.setCells]
    exact below_setCells r g (o + 1) _ (h.setCell (p := ⟨g, o, none⟩) hg v) hg
abbrev zeros32 : Array Value := #[.int .u8 0, .int .u8 0, .int .u8 0, .int .u8 0, .int .u8 0, .int .u8 0, .int .u8 0, .int .u8 0, .int .u8 0, .int .u8 0, .int .u8 0, .int .u8 0, .int .u8 0, .int .u8 0, .int .u8 0, .int .u8 0, .int .u8 0, .int .u8 0, .int .u8 0, .int .u8 0, .int .u8 0, .int .u8 0, .int .u8 0, .int .u8 0, .int .u8 0, .int .u8 0, .int .u8 0, .int .u8 0, .int .u8 0, .int .u8 0, .int .u8 0, .int .u8 0]
theorem there_new (w : World) : (w.alloc (.cells zeros32 51)).there w.heap.size 0 32 := by
  intro j hj
  have hh : (w.alloc (.cells zeros32 51)).heap[w.heap.size]? = some (.cells zeros32 51 (0, 0)) := Array.getElem?_push_size
  refine ⟨?_, Lib.frozen_of_heap hh _⟩
  rw [Lib.cell_of_heap hh, Array.getElem?_eq_getElem (show 0 + j < zeros32.size by have : zeros32.size = 32 := rfl; omega)]
  rfl

theorem sum_yes (b off c : Nat) (xs : List Int) (w : World) (hl : xs.length = 32) (hc : ∀ j, j < xs.length → w.cell? ⟨b, off + j, none⟩ = some (.int .u8 (xs.getD j 0))) :
    Calls Tryz.prog 59 #[.slice (some ⟨b, off, none⟩) 32 c] w fun e w' => e = .returned (.tuple #[.agg (numsK .u8 xs).toArray, .bool true]) ∧ Below w.heap.size w w' := by
  have hcs : (numsK .u8 xs).length = 32 := by rw [numsK_length, hl]
  have hr : w.rangeAt b off (numsK .u8 xs) := range_RK hc
  have hlt : b < w.heap.size := World.block_lt_of_cell? w _ (hc 0 (by omega))
  have HR := Lib.hid hr
  have HCS := Lib.hid hcs
  have H1 : Hid (∀ v ∈ numsK .u8 xs, v.oneCell' = true) := fun v hv => by
    obtain ⟨x, _, rfl⟩ := List.mem_map.1 hv
    rfl
  have hT : Hid ((w.alloc (.cells zeros32 51)).there w.heap.size 0 (numsK .u8 xs).toArray.size) := Lib.hid (by rw [show (numsK .u8 xs).toArray.size = 32 from by simp [hcs]]; exact there_new w)
  have hZ : Hid ((Tryz.prog.info? 51).map (·.size) = some (numsK .u8 xs).toArray.size) := Lib.hid (by rw [size27, show (numsK .u8 xs).toArray.size = 32 from by simp [hcs]])
  have harr := fun (W : World) => run_arrayAt (P := Tryz.prog) (w := W) 51 5 32 (some ⟨b, off, none⟩) 32 c Tryz.underlying51 (by omega)
  clear hc hl hr hcs
  go_enter Tryz.func59, Tryz.ntmps59
  go_wp2_with (first
    | (with_reducible refine wpList_load_mid rfl 51 (.tmp 9) rfl b off rfl (numsK .u8 xs) _ (range_alloc HR.out hlt _) Tryz.underlying51 rfl (by rw [size27, HCS.out]) ?_)
    | (with_reducible refine wpList_store_mid rfl 51 (.tmp 2) (.tmp 10) rfl w.heap.size 0 (numsK .u8 xs).toArray rfl rfl hT.out hZ.out (all_oneCell_toArray H1.out) ?_))
  have hLd := run_loadVar_mid (P := Tryz.prog) ((w.alloc (.cells zeros32 51)).setCells w.heap.size 0 (numsK .u8 xs)) w.heap.size 0 51 (numsK .u8 xs) _ (World.rangeAt_setCells_same _ _ _ _ (by rw [HCS.out]; exact there_new w)) Tryz.underlying51 rfl (by rw [size27, HCS.out])
  refine bodyPost_ret (v := .tuple #[.agg (numsK .u8 xs).toArray, .bool true]) ?_ rfl ⟨rfl, ?_⟩
  · simp [results, Tryz.results59, hLd, asAddr]
  · exact below_setCells _ _ _ _ ((Below.refl _ _).alloc (Nat.le_refl _) _) (Nat.le_refl _)

theorem sum_no (A : Option Addr) (n c : Nat) (w : World) (hn : n ≠ 32) :
    Calls Tryz.prog 59 #[.slice A n c] w fun e w' => e = .returned (.tuple #[.agg (numsK .u8 (List.replicate 32 0)).toArray, .bool false]) ∧ Below w.heap.size w w' := by
  have hb : ((n : Int) != 32) = true := by simp; omega
  have hT : Hid ((w.alloc (.cells zeros32 51)).there w.heap.size 0 zeros32.size) := Lib.hid (there_new w)
  have hZ : Hid ((Tryz.prog.info? 51).map (·.size) = some zeros32.size) := Lib.hid size27
  have hA : Hid (zeros32.all (·.oneCell') = true) := Lib.hid (by kernel_rfl)
  go_enter Tryz.func59, Tryz.ntmps59
  go_upto_region 2 with fail
  have hBW : Below w.heap.size w (w.alloc (.cells zeros32 51)) := (Below.refl _ _).alloc (Nat.le_refl _) _
  show Code.wp _ _ _ _ (w.alloc (.cells zeros32 51))
  generalize w.alloc (.cells zeros32 51) = W at hT hBW ⊢
  apply wp_region_lit
  go_step
  go_step
  go_step
  with_reducible refine wpList_store_mid rfl 51 (.tmp 2) (.tmp 7) rfl w.heap.size 0 zeros32 rfl rfl hT.out hZ.out hA.out ?_
  have hLd := run_loadVar_mid (P := Tryz.prog) (W.setCells w.heap.size 0 zeros32.toList) w.heap.size 0 51 zeros32.toList _ (World.rangeAt_setCells_same _ _ _ _ hT.out) Tryz.underlying51 rfl size27
  have hBZ := below_setCells zeros32.toList w.heap.size 0 W hBW (Nat.le_refl _)
  generalize W.setCells w.heap.size 0 zeros32.toList = W2 at hLd hBZ ⊢
  go_wp2
  refine bodyPost_ret (v := .tuple #[.agg zeros32.toList.toArray, .bool false]) ?_ rfl ⟨rfl, hBZ⟩
  simp only [results, Tryz.results59]
  generalize zeros32.toList.toArray = Z at hLd ⊢
  simp [hLd, asAddr]
end Go.Proofs.YtjnmjgpkicbbdaaGreatDoor
