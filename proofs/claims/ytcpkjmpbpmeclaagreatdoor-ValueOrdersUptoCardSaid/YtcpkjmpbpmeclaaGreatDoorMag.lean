/- Vi · Vj · Vl · Vm · Vn · Vca: merged. -/
import Derived.Test.YtcpkjmpbpmeclaaGreatDoorMaf
import Derived.Deep.MidRow
import Derived.Deep.Upon
import Derived.Deep.RegionLaw
namespace Go.Proofs.YtcpkjmpbpmeclaaGreatDoor
open Go.RowKit
set_option maxRecDepth 100000
set_option linter.unusedVariables false
set_option linter.unusedSimpArgs false
set_option linter.unnecessarySimpa false

/-- The mark behind a copy of limbs; the one behind a copy of values. -/
def limbM : Int := 2148261425
def markCells : List Value := [.int .i8 99, .int .u64 777777, .bool false, .slice none 0 0, .int .u64 0, .int .i8 0, .string ⟨#[]⟩, .slice none 0 0]
theorem info_limb : (Tryz.prog.info? 92).map (fun i => (i.zero, i.size, i.bytes)) = some (some (.int .u32 0), 1, 4) := by kernel_rfl
theorem markLimb_any (w : World) : Calls Tryz.prog 159 #[.int .i64 777777] w fun e w' => e = .returned (.int .u32 limbM) ∧ w = w' := by
 unfold limbM
 go_enter Tryz.func159, Tryz.ntmps159
 go_wp2
 go_ret
 exact ⟨rfl, rfl⟩
theorem make_limbs (w : World) (n : Nat) (hn : n ≤ 1099511627776) : (Instr.makeSlice 26 (.int .i64 ((n : Int) + 1)) (.int .i64 ((n : Int) + 1))).run Tryz.prog w = .ok (.slice (some ⟨w.heap.size, 0, none⟩) (n + 1) (n + 1)) (w.alloc (.cells (numsK .u32 (List.replicate (n + 1) 0)).toArray 92)) := by
 obtain ⟨i0, hi, hzz⟩ := Option.map_eq_some_iff.1 info_limb
 simp only [Prod.mk.injEq] at hzz
 obtain ⟨hz0, hz1, hz2⟩ := hzz
 rw [run_make (P := Tryz.prog) w 26 92 i0 (.int .u32 0) Tryz.underlying26 hi hz0 .i64 .i64 _ _ (by omega) (by omega) (by rw [hz2]; omega) (by omega), hz1]
 have e : ((n : Int) + 1).toNat = n + 1 := by omega
 rw [e, Nat.mul_one]
 congr 3
 apply Array.ext'
 apply List.ext_getElem
 ·simp [madeCells, numsK, size_madeCells]
 ·intro i h1 h2
  have hz : (Value.int .u32 0).cells = #[.int .u32 0] := rfl
  simp [madeCells, numsK, hz, Nat.mod_one]
/-- The copy while it is filled. -/
def filled (xs : List Int) (k : Nat) : Array Value := (numsK .u32 (xs.take k ++ List.replicate (xs.length + 1 - k) 0)).toArray
theorem filled_at (xs : List Int) (k : Nat) (h : k ≤ xs.length) : (filled xs k)[k]? = some (.int .u32 0) := by
 unfold filled numsK
 have hl : (xs.take k).length = k := by rw [List.length_take]; omega
 rw [List.getElem?_toArray, List.getElem?_map, List.getElem?_append_right (by omega), List.getElem?_replicate, if_pos (by omega)]
 rfl
theorem filled_set (xs : List Int) (k : Nat) (h : k ≤ xs.length) (b : Int) : (filled xs k).setIfInBounds k (.int .u32 b) = (numsK .u32 ((xs.take k ++ [b]) ++ List.replicate (xs.length - k) 0)).toArray := by
 unfold filled numsK
 have hl : (xs.take k).length = k := by rw [List.length_take]; omega
 rw [List.setIfInBounds_toArray, ← List.map_set]
 congr 2
 rw [List.set_append_right _ _ (by omega), hl, Nat.sub_self, show xs.length + 1 - k = (xs.length - k) + 1 from by omega, List.replicate_succ, List.set_cons_zero, List.append_assoc]
 rfl
theorem filled_step (xs : List Int) (k : Nat) (h : k < xs.length) : (filled xs k).setIfInBounds k (.int .u32 (xs.getD k 0)) = filled xs (k + 1) := by
 rw [filled_set xs k (by omega), ← take_more xs k h]
 unfold filled
 rw [show xs.length + 1 - (k + 1) = xs.length - k from by omega]
theorem filled_end (xs : List Int) (m : Int) : (filled xs xs.length).setIfInBounds xs.length (.int .u32 m) = (numsK .u32 (xs ++ [m])).toArray := by
 rw [filled_set xs _ (Nat.le_refl _)]
 simp
/-- A block of its own that holds the list, and a mark behind it. -/
def TwinNPost (n : Nat) (xs : List Int) (w : World) (e : Ending) (w' : World) : Prop :=
 ∃ g, e = .returned (.slice (some ⟨g, 0, none⟩) n (n + 1)) ∧ w.heap.size ≤ g ∧ w'.heap[g]? = some (.cells (numsK .u32 (xs ++ [limbM])).toArray 92 (0, 0)) ∧ Below w.heap.size w w'
theorem twinN_any (A : Option Addr) (c n : Nat) (xs : List Int) (w : World) (hl : xs.length = n) (hn : n ≤ 1099511627776) (hx : RK w .u32 A xs) : Calls Tryz.prog 133 #[.slice A n c] w (TwinNPost n xs w) := by
 have hmk := make_limbs w n hn
 have hX := Lib.hid hx
 have HL := Lib.hid hl
 have hf0 : (numsK .u32 (List.replicate (n + 1) 0)).toArray = filled xs 0 := by simp [filled, hl]
 rw [hf0] at hmk
 have HFE := Lib.hid (fun m => filled_end xs m)
 have HFA := Lib.hid (fun k (h : k ≤ n) => filled_at xs k (by rw [hl]; exact h))
 have HFS := Lib.hid (fun k (h : k < n) => filled_step xs k (by rw [hl]; exact h))
 rw [hl] at HFE
 have hsm := fun W => markLimb_any W
 obtain ⟨sm, hse⟩ : ∃ sm, limbM = sm := ⟨_, rfl⟩
 rw [hse] at hsm
 have HSE := Lib.hid hse
 clear hx hl hf0 hse
 go_enter Tryz.func133, Tryz.ntmps133
 go_wp2
 go_loopw [4] (fun i W => ∃ k : Nat, k ≤ n ∧ i = .int .i64 k ∧ W = w.alloc (.cells (filled xs k) 92)) (fun i _ => n - (intOf i).toNat)
 case atStart => exact ⟨0, by omega, rfl, rfl⟩
 case round =>
  obtain ⟨k, hk, rfl, rfl⟩ := hrel
  have hat := HFA.out k hk
  by_cases hlt : k < n
  ·rcases hX.out with h0 | ⟨bx, ox, rfl, hcx⟩
   ·have := HL.out; subst h0; simp at this; omega
   have c1 := hcx k (by rw [HL.out]; exact hlt)
   have d1 : (w.alloc (.cells (filled xs k) 92)).cell? ⟨bx, ox + k, none⟩ = some (.int .u32 (xs.getD k 0)) := by rw [World.cell?_alloc_lt _ _ _ (World.block_lt_of_cell? w _ c1)]; exact c1
   have hst := Lib.hid (HFS.out k hlt)
   obtain ⟨x, hx⟩ : ∃ x, xs.getD k 0 = x := ⟨_, rfl⟩
   rw [hx] at d1
   have HX := Lib.hid hx
   clear c1 hcx hx
   go_wp2
   exact ⟨⟨k + 1, by omega, by go_num, by rw [← hst.out, HX.out]⟩, by simp [intOf]; omega⟩
  ·obtain rfl : k = n := by omega
   have hfe := Lib.hid (HFE.out sm)
   go_wp2_with (go_at_call 159; refine (hsm _).mono ?_; rintro e w1 ⟨rfl, rfl⟩)
   go_ret
   refine ⟨w.heap.size, rfl, Nat.le_refl _, ?_, (Below.refl _ _).alloc (Nat.le_refl _) _⟩
   rw [hfe.out, HSE.out]
   exact Array.getElem?_push_size
theorem twinN_rk {w : World} {g : Nat} {xs : List Int} {m : Int} (h : w.heap[g]? = some (.cells (numsK .u32 (xs ++ [m])).toArray 92 (0, 0))) : RK w .u32 (some ⟨g, 0, none⟩) xs := .inr ⟨g, 0, rfl, fun j hj => by
  rw [Lib.cell_of_heap h]
  have hj2 : j < (xs.map (Value.int .u32)).length := by simpa using hj
  simp only [numsK, List.map_append, List.getElem?_toArray, Nat.zero_add]
  rw [List.getElem?_append_left hj2, List.getElem?_map, List.getElem?_eq_getElem hj, List.getD_eq_getElem?_getD, List.getElem?_eq_getElem hj]
  rfl⟩

theorem below_setCells {B : Nat} {w0 : World} : ∀ (vs : List Value) (g o : Nat) (w : World), Below B w0 w → B ≤ g → Below B w0 (w.setCells g o vs)
 | [], g, o, w, h, hg => h
 | v :: r, g, o, w, h, hg => by
  rw [World.setCells]
  exact below_setCells r g (o + 1) _ (h.setCell (p := ⟨g, o, none⟩) hg v) hg
theorem size_int : (Tryz.prog.info? 28).map (·.size) = some 2 := by kernel_rfl
theorem size_value : (Tryz.prog.info? 31).map (·.size) = some 8 := by kernel_rfl
theorem there_new (w : World) (cs : Array Value) (t : TypeId) : (w.alloc (.cells cs t)).there w.heap.size 0 cs.size := fun j hj => by
 refine ⟨?_, Lib.frozen_of_heap (heap_alloc_new w _) _⟩
 rw [Nat.zero_add, cell_of_row _ _ _ _ _ _ (heap_alloc_new w _)]
 simp [hj]
theorem there_keep {w w1 : World} {g o n : Nat} (h : w.there g o n) (hg : w1.heap[g]? = w.heap[g]?) : w1.there g o n := fun j hj => by
 obtain ⟨h1, h2⟩ := h j hj
 exact ⟨by rw [World.cell?_of_block (a := ⟨g, o + j, none⟩) hg]; exact h1, by rw [World.frozen?_of_block (a := ⟨g, o + j, none⟩) hg]; exact h2⟩
set_option maxHeartbeats 1000000 in
theorem twinI_any (g : Bool) (A : Option Addr) (n c : Nat) (xs : List Int) (w : World) (hl : xs.length = n) (hn : n ≤ 1000000000) (hx : RK w .u32 A xs) :
  Calls Tryz.prog 45 #[.agg #[.bool g, .slice A n c]] w fun e w' => ∃ b, e = .returned (.agg #[.bool g, .slice (some ⟨b, 0, none⟩) n (n + 1)]) ∧ w.heap.size ≤ b ∧ w'.heap[b]? = some (.cells (numsK .u32 (xs ++ [limbM])).toArray 92 (0, 0)) ∧ Below w.heap.size w w' := by
 have hb0 : Below w.heap.size w ((w.alloc (.cells #[.bool g, .slice A n c] 28)).alloc (.cells #[.bool false, .slice none 0 0] 28)) := ((Below.refl _ _).alloc (Nat.le_refl _) _).alloc (by simp) _
 have hs1 : (w.alloc (.cells #[.bool g, .slice A n c] 28)).heap.size = w.heap.size + 1 := by simp
 have c0 : ((w.alloc (.cells #[.bool g, .slice A n c] 28)).alloc (.cells #[.bool false, .slice none 0 0] 28)).cell? ⟨w.heap.size, 0, none⟩ = some (.bool g) := by
  rw [World.cell?_alloc_lt _ _ ⟨w.heap.size, 0, none⟩ (by simp), cell_of_row _ _ _ _ _ _ (heap_alloc_new w _)]; rfl
 have c1 : ((w.alloc (.cells #[.bool g, .slice A n c] 28)).alloc (.cells #[.bool false, .slice none 0 0] 28)).cell? ⟨w.heap.size, 1, none⟩ = some (.slice A n c) := by
  rw [World.cell?_alloc_lt _ _ ⟨w.heap.size, 1, none⟩ (by simp), cell_of_row _ _ _ _ _ _ (heap_alloc_new w _)]; rfl
 have ht := there_new (w.alloc (.cells #[.bool g, .slice A n c] 28)) #[.bool false, .slice none 0 0] 28
 have hbl := (Array.getElem?_eq_some_iff.1 (heap_alloc_new (w.alloc (.cells #[.bool g, .slice A n c] 28)) (.cells #[.bool false, .slice none 0 0] 28))).1
 rw [hs1] at ht hbl
 go_enter Tryz.func45, Tryz.ntmps45
 go_upto_region 1 with fail
 show Code.wp _ _ _ _ ((w.alloc (.cells #[.bool g, .slice A n c] 28)).alloc (.cells #[.bool false, .slice none 0 0] 28))
 generalize (w.alloc (.cells #[.bool g, .slice A n c] 28)).alloc (.cells #[.bool false, .slice none 0 0] 28) = W at *
 have HT := Lib.hid ht
 have HX := Lib.hid (hx.below hb0)
 have HL := Lib.hid hl
 have HB := Lib.hid hb0
 have HBL := Lib.hid hbl
 clear hs1 ht hx hl hb0 hbl
 have e0 := (HT.out 0 (by decide))
 have e1 := (HT.out 1 (by decide))
 go_region_law (go_simp; go_at_call 133; refine (twinN_any A c n xs _ HL.out (by omega) (by first | exact HX.out | exact HX.out.below ((Below.refl _ _).drew))).mono ?_; rintro e w1 ⟨b, rfl, hgb, hg, hb1'⟩; have hb1 : Hid (Below W.heap.size W w1) := Lib.hid (((Below.refl W.heap.size W).drew).trans hb1'); have d0 := keep1 hb1.out c0; obtain ⟨u0, u1⟩ := there_keep HT.out (hb1.out.block _ HBL.out) 0 (by decide); obtain ⟨u2, u3⟩ := there_keep HT.out (hb1.out.block _ HBL.out) 1 (by decide); obtain ⟨z0, u0⟩ := Option.isSome_iff_exists.1 u0; obtain ⟨z1, u2⟩ := Option.isSome_iff_exists.1 u2; have HG := Lib.hid hg; have HGB : Hid (W.heap.size ≤ b) := Lib.hid hgb; clear hb1' hg hgb)
 all_goals (
  have hT2 : w1.there (w.heap.size + 1) 0 2 := there_keep HT.out (hb1.out.block _ HBL.out)
  have hLd := run_loadVar_mid (P := Tryz.prog) (w1.setCells (w.heap.size + 1) 0 [.bool g, .slice (some ⟨b, 0, none⟩) n (n + 1)]) (w.heap.size + 1) 0 28 [.bool g, .slice (some ⟨b, 0, none⟩) n (n + 1)] _ (World.rangeAt_setCells_same _ _ _ _ hT2) Tryz.underlying28 rfl size_int
  have hBZ : Below w.heap.size w (w1.setCells (w.heap.size + 1) 0 [.bool g, .slice (some ⟨b, 0, none⟩) n (n + 1)]) := below_setCells _ _ _ _ (trans_b HB.out hb1.out) (by omega)
  have hG2 : (w1.setCells (w.heap.size + 1) 0 [.bool g, .slice (some ⟨b, 0, none⟩) n (n + 1)]).heap[b]? = some (.cells (numsK .u32 (xs ++ [limbM])).toArray 92 (0, 0)) :=
   (World.heap_setCells_other _ _ _ _ (Array.getElem?_eq_some_iff.1 HG.out).1 (by have := HGB.out; have := HBL.out; omega)).trans HG.out
  have hgb2 : w.heap.size ≤ b := by have := HGB.out; have := HBL.out; omega
  clear u0 u1 u2 u3 d0 e0 e1 c0 c1
  go_wp2
  refine bodyPost_ret (v := .agg #[.bool g, .slice (some ⟨b, 0, none⟩) n (n + 1)]) ?_ rfl ⟨b, rfl, hgb2, hG2, hBZ⟩
  simp only [World.setCells, Nat.zero_add] at hLd
  simp [results, Tryz.results45, hLd, asAddr, Act.put])
end Go.Proofs.YtcpkjmpbpmeclaaGreatDoor
namespace Go.Proofs.YtcpkjmpbpmeclaaGreatDoor
open Go.RowKit
set_option maxRecDepth 100000
set_option linter.unusedVariables false
set_option linter.unusedSimpArgs false
set_option linter.unnecessarySimpa false

abbrev zeroV : Array Value := #[.int .i8 0, .int .u64 0, .bool false, .slice none 0 0, .int .u64 0, .int .i8 0, .string ⟨#[]⟩, .slice none 0 0]
theorem markValue_any (w : World) : Calls Tryz.prog 116 #[.int .i64 777777] w fun e w' => e = .returned (.agg markCells.toArray) ∧ Below w.heap.size w w' := by
 have hb : Below w.heap.size w (w.alloc (.cells markCells.toArray 31)) := (Below.refl _ _).alloc (Nat.le_refl _) _
 have hrg : (w.alloc (.cells markCells.toArray 31)).rangeAt w.heap.size 0 markCells := fun k v hv => by
  rw [Nat.zero_add, cell_of_row _ _ _ _ _ _ (heap_alloc_new w _)]
  simpa using hv
 have hLd := run_loadVar_mid (P := Tryz.prog) (w.alloc (.cells markCells.toArray 31)) w.heap.size 0 31 markCells _ hrg Tryz.underlying31 rfl size_value
 simp only [markCells, List.toArray] at hLd
 clear hrg
 have HLd := Lib.hid hLd
 clear hLd
 go_enter Tryz.func116, Tryz.ntmps116
 go_wp2
 have hLd := HLd.out
 refine bodyPost_ret (v := .agg markCells.toArray) ?_ rfl ⟨rfl, hb⟩
 simp [results, Tryz.results116, hLd, asAddr, Act.put, markCells]
mutual
def AllV (P : VT → Prop) : VT → Prop
 | .mk k n neg mA mcap mag bits ext text A cap l => P (.mk k n neg mA mcap mag bits ext text A cap l) ∧ AllVL P l
def AllVL (P : VT → Prop) : List VT → Prop
 | [] => True
 | v :: l => AllV P v ∧ AllVL P l
end
theorem AllV.eq {P : VT → Prop} {v : VT} : AllV P v ↔ P v ∧ AllVL P v.l := by cases v; exact Iff.rfl
theorem AllVL.of {P : VT → Prop} : ∀ {l : List VT}, (∀ v ∈ l, AllV P v) → AllVL P l
 | [], _ => trivial
 | x :: l, h => ⟨h x (by simp), AllVL.of fun v hv => h v (List.mem_cons_of_mem _ hv)⟩
theorem AllVL.mem {P : VT → Prop} {v : VT} : ∀ {l : List VT}, AllVL P l → v ∈ l → AllV P v
 | x :: l, h, hm => by
  rcases List.mem_cons.1 hm with rfl | hm
  ·exact h.1
  ·exact AllVL.mem h.2 hm
/-- Marks behind both lists of a node. -/
structure MarkP (W : World) (v : VT) : Prop where
 m : ∃ b off, v.mA = some ⟨b, off, none⟩ ∧ W.cell? ⟨b, off + v.mag.length, none⟩ = some (.int .u32 limbM)
 mc : v.mcap = v.mag.length + 1
 k : ∃ b off, v.A = some ⟨b, off, none⟩ ∧ W.rangeAt b (off + v.l.length * 8) markCells
 kc : v.cap = v.l.length + 1
def InM (W : World) (v : VT) : Prop := In W v ∧ AllV (MarkP W) v
def Foot (base : Nat) (w : World) (T : VT) : Prop := ∀ W', (∀ k, base ≤ k → k < w.heap.size → W'.heap[k]? = w.heap[k]?) → InM W' T
theorem Foot.here {base : Nat} {w : World} {T : VT} (h : Foot base w T) : InM w T := h w fun _ _ _ => rfl
theorem Foot.keep {base : Nat} {w w1 : World} {T : VT} (h : Foot base w T) (hs : w.heap.size ≤ w1.heap.size) (hb : ∀ k, base ≤ k → k < w.heap.size → w1.heap[k]? = w.heap[k]?) : Foot base w1 T :=
 fun W' hW => h W' fun k h1 h2 => (hW k h1 (by omega)).trans (hb k h1 h2)
theorem Foot.low {base base' : Nat} {w : World} {T : VT} (h : Foot base w T) (hb : base' ≤ base) : Foot base' w T := fun W' hW => h W' fun k h1 h2 => hW k (by omega) h2
/-- What TwinValues answers for a list. -/
structure TwinL (base : Nat) (l : List VT) (n : Nat) (e : Ending) (w' : World) (g : Nat) (TL : List VT) : Prop where
 e : e = .returned (.slice (some ⟨g, 0, none⟩) n (n + 1))
 gb : base ≤ g
 len : TL.length = n
 c : TL.map VT.c = l.map VT.c
 foot : ∀ W', (∀ k, base ≤ k → k < w'.heap.size → W'.heap[k]? = w'.heap[k]?) → (∀ i (h : i < TL.length), W'.rangeAt g (i * 8) (TL[i]).cells) ∧ W'.rangeAt g (n * 8) markCells ∧ ∀ T ∈ TL, InM W' T
theorem info_value : (Tryz.prog.info? 31).map (fun i => (i.zero, i.size, i.bytes)) = some (some (.agg zeroV), 8, 104) := by kernel_rfl
theorem cells_one (T : VT) : T.cells.toArray.all (·.oneCell') = true := all_oneCell_toArray fun v hv => by
 simp only [VT.cells, List.mem_cons, List.not_mem_nil, or_false] at hv
 rcases hv with rfl | rfl | rfl | rfl | rfl | rfl | rfl | rfl <;> rfl
theorem make_values (w : World) (n : Nat) (hn : n ≤ 1000000000) : ∃ cs : Array Value, cs.size = (n + 1) * 8 ∧ (Instr.makeSlice 29 (.int .i64 ((n : Int) + 1)) (.int .i64 ((n : Int) + 1))).run Tryz.prog w = .ok (.slice (some ⟨w.heap.size, 0, none⟩) (n + 1) (n + 1)) (w.alloc (.cells cs 31)) := by
 obtain ⟨i0, hi, hzz⟩ := Option.map_eq_some_iff.1 info_value
 simp only [Prod.mk.injEq] at hzz
 obtain ⟨hz0, hz1, hz2⟩ := hzz
 have e : ((n : Int) + 1).toNat = n + 1 := by omega
 refine ⟨madeCells zeroV ((n + 1) * 8), size_madeCells _ _, ?_⟩
 rw [run_make (P := Tryz.prog) w 29 31 i0 (.agg zeroV) Tryz.underlying29 hi hz0 .i64 .i64 _ _ (by omega) (by omega) (by rw [hz2]; omega) (by omega), hz1, e]
 rfl
/-- While the copy is filled. -/
structure TwinI (w W : World) (g n : Nat) (l TL : List VT) (j : Nat) : Prop where
 len : TL.length = j
 c : TL.map VT.c = (l.take j).map VT.c
 there : W.there g 0 ((n + 1) * 8)
 row : ∀ i (h : i < TL.length), W.rangeAt g (i * 8) (TL[i]).cells
 foot : ∀ T ∈ TL, Foot (g + 1) W T
 b : Below w.heap.size w W
 gb : w.heap.size ≤ g
 lt : g < W.heap.size
theorem TwinI.step {w W w1 : World} {g n : Nat} {l TL : List VT} {j : Nat} {T : VT} (h : TwinI w W g n l TL j) (hj : j < n) (hl : j < l.length) (hb : Below W.heap.size W w1) (hT : Foot W.heap.size w1 T) (hc : T.c = (l[j]).c) :
  TwinI w (w1.setCells g (j * 8) T.cells) g n l (TL ++ [T]) (j + 1) := by
 have hth : w1.there g 0 ((n + 1) * 8) := there_keep h.there (hb.block g h.lt)
 have hthj : w1.there g (j * 8) T.cells.length := fun i hi => by
  have hi' : i < 8 := hi
  have := hth (j * 8 + i) (by omega)
  rw [Nat.zero_add] at this
  exact this
 have hother : ∀ k, k < w1.heap.size → k ≠ g → (w1.setCells g (j * 8) T.cells).heap[k]? = w1.heap[k]? := fun k hk hne => World.heap_setCells_other _ _ _ _ hk hne
 have hsz : w1.heap.size ≤ (w1.setCells g (j * 8) T.cells).heap.size := (below_setCells T.cells g (j * 8) w1 (Below.refl g w1) (Nat.le_refl _)).size
 have hbs := hb.size
 have hlt := h.lt
 refine ⟨by simp [h.len], ?_, World.there_setCells hth _ _ _, fun i hi => ?_, fun S hS => ?_, ?_, h.gb, by omega⟩
 ·rw [List.map_append, h.c, take_moreV l j hl, ← hc]; rfl
 ·rcases Nat.lt_or_ge i TL.length with h1 | h1
  ·rw [List.getElem_append_left h1]
   have hr : w1.rangeAt g (i * 8) (TL[i]).cells := fun k v hv => (World.cell?_of_block (a := ⟨g, i * 8 + k, none⟩) (hb.block g h.lt)).trans (h.row i h1 k v hv)
   refine World.rangeAt_setCells_apart hr _ _ _ (.inr (.inl ?_))
   have : (TL[i]).cells.length = 8 := rfl
   have := h.len
   omega
  ·have hi2 : i = TL.length := by simp at hi; omega
   subst hi2
   rw [List.getElem_append_right (Nat.le_refl _)]
   simp only [Nat.sub_self, List.getElem_cons_zero]
   rw [h.len]
   exact World.rangeAt_setCells_same _ _ _ _ hthj
 ·rcases List.mem_append.1 hS with hS | hS
  ·exact (h.foot S hS).keep (by omega) fun k h1 h2 => (hother k (by omega) (by omega)).trans (hb.block k h2)
  ·obtain rfl : S = T := by simpa using hS
   exact (hT.low (base' := g + 1) (by omega)).keep hsz fun k h1 h2 => hother k h2 (by omega)
 ·exact below_setCells _ _ _ _ (trans_b h.b hb) h.gb
end Go.Proofs.YtcpkjmpbpmeclaaGreatDoor
namespace Go.Proofs.YtcpkjmpbpmeclaaGreatDoor
open Go.RowKit
set_option maxRecDepth 100000
set_option linter.unusedVariables false
set_option linter.unusedSimpArgs false
set_option linter.unnecessarySimpa false

theorem TwinI.fin {w W w1 : World} {g n : Nat} {l TL : List VT} (h : TwinI w W g n l TL n) (hl : l.length = n) (hb : Below W.heap.size W w1) :
  TwinL w.heap.size l n (.returned (.slice (some ⟨g, 0, none⟩) n (n + 1))) (w1.setCells g (n * 8) markCells) g TL ∧ Below w.heap.size w (w1.setCells g (n * 8) markCells) := by
 have hth : w1.there g 0 ((n + 1) * 8) := there_keep h.there (hb.block g h.lt)
 have hthn : w1.there g (n * 8) markCells.length := fun i hi => by
  have hi' : i < 8 := hi
  have := hth (n * 8 + i) (by omega)
  rw [Nat.zero_add] at this
  exact this
 have hbs := hb.size
 have hlt := h.lt
 have hgb := h.gb
 have hsz : w1.heap.size ≤ (w1.setCells g (n * 8) markCells).heap.size := (below_setCells markCells g (n * 8) w1 (Below.refl g w1) (Nat.le_refl _)).size
 have hB : Below w.heap.size w (w1.setCells g (n * 8) markCells) := below_setCells _ _ _ _ (trans_b h.b hb) h.gb
 refine ⟨⟨rfl, h.gb, h.len, ?_, fun W' hW => ⟨fun i hi => ?_, ?_, fun T hT => ?_⟩⟩, hB⟩
 ·rw [h.c, List.take_of_length_le (by omega)]
 ·have e := hW g h.gb (by omega)
  have hr : w1.rangeAt g (i * 8) (TL[i]).cells := fun k v hv => (World.cell?_of_block (a := ⟨g, i * 8 + k, none⟩) (hb.block g h.lt)).trans (h.row i hi k v hv)
  have h2 := World.rangeAt_setCells_apart hr g (n * 8) markCells (.inr (.inl (by have : (TL[i]).cells.length = 8 := rfl; have := h.len; omega)))
  exact fun k v hv => (World.cell?_of_block (a := ⟨g, i * 8 + k, none⟩) e).trans (h2 k v hv)
 ·have e := hW g h.gb (by omega)
  have h2 := World.rangeAt_setCells_same w1 g (n * 8) markCells hthn
  exact fun k v hv => (World.cell?_of_block (a := ⟨g, n * 8 + k, none⟩) e).trans (h2 k v hv)
 ·refine h.foot T hT W' fun k h1 h2 => ?_
  rw [hW k (by omega) (by omega), World.heap_setCells_other _ _ _ _ (by omega) (by omega)]
  exact hb.block k h2
set_option maxHeartbeats 1000000 in
theorem twinVs_of (A : Option Addr) (n c : Nat) (l : List VT) (w : World) (hl : l.length = n) (hn : n ≤ 1000000000) (hr : VRow w A l)
  (hk : ∀ i (hi : i < l.length) W, Below w.heap.size w W → Calls Tryz.prog 15 #[(l[i]).agg] W fun e w' => ∃ T : VT, e = .returned T.agg ∧ Hid (Foot W.heap.size w' T ∧ T.c = (l[i]).c) ∧ Below W.heap.size W w') :
  Calls Tryz.prog 28 #[.slice A n c] w fun e w' => ∃ g TL, TwinL w.heap.size l n e w' g TL ∧ Below w.heap.size w w' := by
 obtain ⟨cs, hcs, hmk⟩ := make_values w n hn
 have H0 : Hid (TwinI w (w.alloc (.cells cs 31)) w.heap.size n l [] 0) := Lib.hid ⟨rfl, by simp, by rw [← hcs]; exact there_new w cs _, fun i hi => by simp at hi, fun T hT => by simp at hT, (Below.refl _ _).alloc (Nat.le_refl _) _, Nat.le_refl _, by simp⟩
 have HR := Lib.hid hr
 have HL := Lib.hid hl
 have HK := Lib.hid hk
 have hmv : ∀ W, Calls Tryz.prog 116 #[.int .i64 777777] W fun e w' => e = .returned (.agg #[.int .i8 99, .int .u64 777777, .bool false, .slice none 0 0, .int .u64 0, .int .i8 0, .string ⟨#[]⟩, .slice none 0 0]) ∧ Below W.heap.size W w' := fun W => markValue_any W
 have HZ : Hid ((Tryz.prog.info? 31).map (·.size) = some (#[.int .i8 99, .int .u64 777777, .bool false, .slice none 0 0, .int .u64 0, .int .i8 0, .string ⟨#[]⟩, .slice none 0 0] : Array Value).size) := Lib.hid size_value
 have HA : Hid ((#[.int .i8 99, .int .u64 777777, .bool false, .slice none 0 0, .int .u64 0, .int .i8 0, .string ⟨#[]⟩, .slice none 0 0] : Array Value).all (·.oneCell') = true) := Lib.hid (by kernel_rfl)
 clear hr hl hk hcs
 go_enter Tryz.func28, Tryz.ntmps28
 go_wp2
 go_loopw [4] (fun i W => ∃ (j : Nat) (TL : List VT), j ≤ n ∧ i = .int .i64 j ∧ Hid (TwinI w W w.heap.size n l TL j)) (fun i _ => n - (intOf i).toNat)
 case atStart => exact ⟨0, [], by omega, rfl, H0⟩
 case round =>
  obtain ⟨j, TL, hj, rfl, HI⟩ := hrel
  by_cases hlt : j < n
  ·have hjl : j < l.length := by rw [HL.out]; exact hlt
   have hj1 : j < n + 1 := by omega
   obtain ⟨y, hy⟩ : ∃ y, l[j]'hjl = y := ⟨_, rfl⟩
   have HJL := Lib.hid hjl
   have hKj := HK.out j hjl
   rw [hy] at hKj
   have hrow := (HR.out.below HI.out.b).kid hjl (C := fun u => ∀ W, Below w.heap.size w W → Calls Tryz.prog 15 #[u] W fun e w' => ∃ T : VT, e = .returned T.agg ∧ Hid (Foot W.heap.size w' T ∧ T.c = y.c) ∧ Below W.heap.size W w') (by rw [hy]; exact hKj)
   obtain ⟨b, off, xk, xn, xg, xmA, xml, xmc, xb, xe, xt, xA, xl, xc, rfl, r0, r1, r2, r3, r4, r5, r6, r7, hC⟩ := hrow
   have HC := Lib.hid hC
   have HY : Hid (∀ h : j < l.length, l[j] = y) := Lib.hid fun _ => hy
   clear hC hy hjl hKj
   go_wp2_with (first
    | (go_at_call 15; refine (HC.out _ HI.out.b).mono ?_; rintro e w1 ⟨T, rfl, HT, hb1⟩; have HTH : Hid (w1.there w.heap.size (j * 8) (#[.int .i8 T.k, .int .u64 T.n, .bool T.neg, T.mags, .int .u64 T.bits, .int .i8 T.ext, .string T.text, T.kids] : Array Value).size) := Lib.hid (fun i hi => by have hi' : i < 8 := hi; have := there_keep HI.out.there (hb1.block _ HI.out.lt) (j * 8 + i) (by omega); rw [Nat.zero_add] at this; exact this); have HZT : Hid ((Tryz.prog.info? 31).map (·.size) = some (#[.int .i8 T.k, .int .u64 T.n, .bool T.neg, T.mags, .int .u64 T.bits, .int .i8 T.ext, .string T.text, T.kids] : Array Value).size) := Lib.hid size_value; have HAT : Hid ((#[.int .i8 T.k, .int .u64 T.n, .bool T.neg, T.mags, .int .u64 T.bits, .int .i8 T.ext, .string T.text, T.kids] : Array Value).all (·.oneCell') = true) := Lib.hid (cells_one T))
    | (with_reducible refine wpList_store_mid rfl 31 (.tmp 22) (.tmp 21) rfl w.heap.size (j * 8) #[.int .i8 T.k, .int .u64 T.n, .bool T.neg, T.mags, .int .u64 T.bits, .int .i8 T.ext, .string T.text, T.kids] rfl rfl HTH.out HZT.out HAT.out ?_))
   exact ⟨⟨j + 1, TL ++ [T], by omega, by go_num, Lib.hid (HI.out.step hlt HJL.out hb1 HT.out.1 (by rw [HY.out HJL.out]; exact HT.out.2))⟩, by simp [intOf]; omega⟩
  ·obtain rfl : j = n := by omega
   have HTH : Hid (∀ w1, Below wr.heap.size wr w1 → w1.there w.heap.size (j * 8) (#[.int .i8 99, .int .u64 777777, .bool false, .slice none 0 0, .int .u64 0, .int .i8 0, .string ⟨#[]⟩, .slice none 0 0] : Array Value).size) := Lib.hid fun w1 hb1 i hi => by
    have hi' : i < 8 := hi
    have := there_keep HI.out.there (hb1.block _ HI.out.lt) (j * 8 + i) (by omega)
    rw [Nat.zero_add] at this
    exact this
   clear hlt
   go_wp2_with (first
    | (go_at_call 116; refine (hmv _).mono ?_; rintro e w1 ⟨rfl, hb1⟩; have HT1 := Lib.hid (HTH.out w1 hb1))
    | (with_reducible refine wpList_store_mid rfl 31 (.tmp 27) (.tmp 26) rfl w.heap.size (j * 8) #[.int .i8 99, .int .u64 777777, .bool false, .slice none 0 0, .int .u64 0, .int .i8 0, .string ⟨#[]⟩, .slice none 0 0] rfl rfl HT1.out HZ.out HA.out ?_))
   go_ret
   exact ⟨w.heap.size, TL, HI.out.fin HL.out hb1⟩
end Go.Proofs.YtcpkjmpbpmeclaaGreatDoor
namespace Go.Proofs.YtcpkjmpbpmeclaaGreatDoor
open Go.RowKit
set_option maxRecDepth 100000
set_option linter.unusedVariables false
set_option linter.unusedSimpArgs false
set_option linter.unnecessarySimpa false

theorem twin_made {w W w1 w2 : World} {v : VT} {b g : Nat} {TL : List VT} {e : Ending} {p : Nat} (hI : In w v) (hW : Below w.heap.size w W) (h1 : Below W.heap.size W w1) (hgb : W.heap.size ≤ b)
  (hg : w1.heap[b]? = some (.cells (numsK .u32 (v.mag ++ [limbM])).toArray 92 (0, 0))) (hL : TwinL w1.heap.size v.l v.l.length e w2 g TL) (h2 : Below w1.heap.size w1 w2) (hp : p < W.heap.size) (hpw : w.heap.size ≤ p) (hlc : v.l.length + 1 ≤ 9223372036854775807) (vs : List Value) :
  ∃ T : VT, (.agg #[.int .i8 v.k, .int .u64 v.n, .bool v.neg, .slice (some ⟨b, 0, none⟩) v.mag.length (v.mag.length + 1), .int .u64 v.bits, .int .i8 v.ext, .string v.text, .slice (some ⟨g, 0, none⟩) v.l.length (v.l.length + 1)] : Value) = T.agg ∧ Foot w.heap.size (w2.setCells p 0 vs) T ∧ T.c = v.c := by
 have s1 := h1.size
 have s2 := h2.size
 have sW := hW.size
 have hb1 : b < w1.heap.size := (Array.getElem?_eq_some_iff.1 hg).1
 refine ⟨.mk v.k v.n v.neg (some ⟨b, 0, none⟩) (v.mag.length + 1) v.mag v.bits v.ext v.text (some ⟨g, 0, none⟩) (v.l.length + 1) TL, ?_, fun W' hW' => ?_, ?_⟩
 ·show _ = (.agg _ : Value)
  simp [VT.agg, VT.mags, VT.kids, VT.k, VT.n, VT.neg, VT.mA, VT.mcap, VT.mag, VT.bits, VT.ext, VT.text, VT.A, VT.cap, VT.l, hL.len]
 ·have hsz : w2.heap.size ≤ (w2.setCells p 0 vs).heap.size := (below_setCells vs p 0 w2 (Below.refl p w2) (Nat.le_refl _)).size
  have hag : ∀ k, w.heap.size ≤ k → k < w2.heap.size → k ≠ p → W'.heap[k]? = w2.heap[k]? := fun k k1 k2 k3 => (hW' k k1 (by omega)).trans (World.heap_setCells_other _ _ _ _ k2 k3)
  obtain ⟨f1, f2, f3⟩ := hL.foot W' fun k k1 k2 => hag k (by omega) k2 (by omega)
  have hgw : W'.heap[b]? = some (.cells (numsK .u32 (v.mag ++ [limbM])).toArray 92 (0, 0)) := (hag b (by omega) (by omega) (by omega)).trans ((h2.block b hb1).trans hg)
  have pv := hI.parts
  have hin : In W' (.mk v.k v.n v.neg (some ⟨b, 0, none⟩) (v.mag.length + 1) v.mag v.bits v.ext v.text (some ⟨g, 0, none⟩) (v.l.length + 1) TL) :=
   In.mk ⟨pv.ok, Nat.le_succ _, twinN_rk hgw, by show TL.length ≤ _; rw [hL.len]; exact Nat.le_succ _, hlc, .inr ⟨g, 0, rfl, fun i hi j u hu => by
    have := f1 i hi j u hu
    rw [Nat.zero_add]
    exact this⟩, InL.of (fun T hT => (f3 T hT).1), (fun h => by cases h), (fun h => by cases h)⟩
  refine ⟨hin, AllV.eq.2 ⟨⟨⟨b, 0, rfl, ?_⟩, rfl, ⟨g, 0, rfl, ?_⟩, by show v.l.length + 1 = TL.length + 1; rw [hL.len]⟩, AllVL.of fun T hT => (f3 T hT).2⟩⟩
  ·show W'.cell? ⟨b, 0 + v.mag.length, none⟩ = _
   rw [Lib.cell_of_heap hgw]
   simp [numsK]
  ·show W'.rangeAt g (0 + TL.length * 8) markCells
   rw [hL.len, Nat.zero_add]
   exact f2
 ·rw [VT.c_iff]
  exact ⟨rfl, rfl, rfl, rfl, rfl, rfl, rfl, hL.c⟩
theorem there8 {W w1 w2 : World} {p : Nat} (h : W.there p 0 8) (hp : p < W.heap.size) (h1 : Below W.heap.size W w1) (h2 : Below w1.heap.size w1 w2) :
  ∃ z0 z1 z2 z3 z4 z5 z6 z7 : Value, (w2.cell? ⟨p, 0, none⟩ = some z0 ∧ w2.cell? ⟨p, 1, none⟩ = some z1 ∧ w2.cell? ⟨p, 2, none⟩ = some z2 ∧ w2.cell? ⟨p, 3, none⟩ = some z3 ∧ w2.cell? ⟨p, 4, none⟩ = some z4 ∧ w2.cell? ⟨p, 5, none⟩ = some z5 ∧ w2.cell? ⟨p, 6, none⟩ = some z6 ∧ w2.cell? ⟨p, 7, none⟩ = some z7) ∧
   w2.frozen? ⟨p, 0, none⟩ = false ∧ w2.frozen? ⟨p, 1, none⟩ = false ∧ w2.frozen? ⟨p, 2, none⟩ = false ∧ w2.frozen? ⟨p, 3, none⟩ = false ∧ w2.frozen? ⟨p, 4, none⟩ = false ∧ w2.frozen? ⟨p, 5, none⟩ = false ∧ w2.frozen? ⟨p, 6, none⟩ = false ∧ w2.frozen? ⟨p, 7, none⟩ = false := by
 have g := there_keep (there_keep h (h1.block _ hp)) (h2.block _ (Nat.lt_of_lt_of_le hp h1.size))
 have f : ∀ k, k < 8 → (∃ z, w2.cell? ⟨p, k, none⟩ = some z) ∧ w2.frozen? ⟨p, k, none⟩ = false := fun k hk => by
  have := g k hk
  rw [Nat.zero_add] at this
  exact ⟨Option.isSome_iff_exists.1 this.1, this.2⟩
 obtain ⟨⟨z0, a0⟩, b0⟩ := f 0 (by decide)
 obtain ⟨⟨z1, a1⟩, b1⟩ := f 1 (by decide)
 obtain ⟨⟨z2, a2⟩, b2⟩ := f 2 (by decide)
 obtain ⟨⟨z3, a3⟩, b3⟩ := f 3 (by decide)
 obtain ⟨⟨z4, a4⟩, b4⟩ := f 4 (by decide)
 obtain ⟨⟨z5, a5⟩, b5⟩ := f 5 (by decide)
 obtain ⟨⟨z6, a6⟩, b6⟩ := f 6 (by decide)
 obtain ⟨⟨z7, a7⟩, b7⟩ := f 7 (by decide)
 exact ⟨z0, z1, z2, z3, z4, z5, z6, z7, ⟨a0, a1, a2, a3, a4, a5, a6, a7⟩, b0, b1, b2, b3, b4, b5, b6, b7⟩
theorem store8 {w w2 : World} {b0 b1 b2 b3 b4 b5 b6 b7 c0 c1 c2 c3 c4 c5 c6 c7 : Value} (h : Below w.heap.size w w2 ∧ World.cell? w2 ⟨w.heap.size, 0, none⟩ = some c0 ∧ World.cell? w2 ⟨w.heap.size, 1, none⟩ = some c1 ∧ World.cell? w2 ⟨w.heap.size, 2, none⟩ = some c2 ∧ World.cell? w2 ⟨w.heap.size, 3, none⟩ = some c3 ∧ World.cell? w2 ⟨w.heap.size, 4, none⟩ = some c4 ∧ World.cell? w2 ⟨w.heap.size, 5, none⟩ = some c5 ∧ World.cell? w2 ⟨w.heap.size, 6, none⟩ = some c6 ∧ World.cell? w2 ⟨w.heap.size, 7, none⟩ = some c7) :
  Below w.heap.size w ((((((((w2.setCell ⟨w.heap.size + 1, 0, none⟩ b0).setCell ⟨w.heap.size + 1, 1, none⟩ b1).setCell ⟨w.heap.size + 1, 2, none⟩ b2).setCell ⟨w.heap.size + 1, 3, none⟩ b3).setCell ⟨w.heap.size + 1, 4, none⟩ b4).setCell ⟨w.heap.size + 1, 5, none⟩ b5).setCell ⟨w.heap.size + 1, 6, none⟩ b6).setCell ⟨w.heap.size + 1, 7, none⟩ b7) ∧ World.cell? ((((((((w2.setCell ⟨w.heap.size + 1, 0, none⟩ b0).setCell ⟨w.heap.size + 1, 1, none⟩ b1).setCell ⟨w.heap.size + 1, 2, none⟩ b2).setCell ⟨w.heap.size + 1, 3, none⟩ b3).setCell ⟨w.heap.size + 1, 4, none⟩ b4).setCell ⟨w.heap.size + 1, 5, none⟩ b5).setCell ⟨w.heap.size + 1, 6, none⟩ b6).setCell ⟨w.heap.size + 1, 7, none⟩ b7) ⟨w.heap.size, 0, none⟩ = some c0 ∧ World.cell? ((((((((w2.setCell ⟨w.heap.size + 1, 0, none⟩ b0).setCell ⟨w.heap.size + 1, 1, none⟩ b1).setCell ⟨w.heap.size + 1, 2, none⟩ b2).setCell ⟨w.heap.size + 1, 3, none⟩ b3).setCell ⟨w.heap.size + 1, 4, none⟩ b4).setCell ⟨w.heap.size + 1, 5, none⟩ b5).setCell ⟨w.heap.size + 1, 6, none⟩ b6).setCell ⟨w.heap.size + 1, 7, none⟩ b7) ⟨w.heap.size, 1, none⟩ = some c1 ∧ World.cell? ((((((((w2.setCell ⟨w.heap.size + 1, 0, none⟩ b0).setCell ⟨w.heap.size + 1, 1, none⟩ b1).setCell ⟨w.heap.size + 1, 2, none⟩ b2).setCell ⟨w.heap.size + 1, 3, none⟩ b3).setCell ⟨w.heap.size + 1, 4, none⟩ b4).setCell ⟨w.heap.size + 1, 5, none⟩ b5).setCell ⟨w.heap.size + 1, 6, none⟩ b6).setCell ⟨w.heap.size + 1, 7, none⟩ b7) ⟨w.heap.size, 2, none⟩ = some c2 ∧ World.cell? ((((((((w2.setCell ⟨w.heap.size + 1, 0, none⟩ b0).setCell ⟨w.heap.size + 1, 1, none⟩ b1).setCell ⟨w.heap.size + 1, 2, none⟩ b2).setCell ⟨w.heap.size + 1, 3, none⟩ b3).setCell ⟨w.heap.size + 1, 4, none⟩ b4).setCell ⟨w.heap.size + 1, 5, none⟩ b5).setCell ⟨w.heap.size + 1, 6, none⟩ b6).setCell ⟨w.heap.size + 1, 7, none⟩ b7) ⟨w.heap.size, 3, none⟩ = some c3 ∧ World.cell? ((((((((w2.setCell ⟨w.heap.size + 1, 0, none⟩ b0).setCell ⟨w.heap.size + 1, 1, none⟩ b1).setCell ⟨w.heap.size + 1, 2, none⟩ b2).setCell ⟨w.heap.size + 1, 3, none⟩ b3).setCell ⟨w.heap.size + 1, 4, none⟩ b4).setCell ⟨w.heap.size + 1, 5, none⟩ b5).setCell ⟨w.heap.size + 1, 6, none⟩ b6).setCell ⟨w.heap.size + 1, 7, none⟩ b7) ⟨w.heap.size, 4, none⟩ = some c4 ∧ World.cell? ((((((((w2.setCell ⟨w.heap.size + 1, 0, none⟩ b0).setCell ⟨w.heap.size + 1, 1, none⟩ b1).setCell ⟨w.heap.size + 1, 2, none⟩ b2).setCell ⟨w.heap.size + 1, 3, none⟩ b3).setCell ⟨w.heap.size + 1, 4, none⟩ b4).setCell ⟨w.heap.size + 1, 5, none⟩ b5).setCell ⟨w.heap.size + 1, 6, none⟩ b6).setCell ⟨w.heap.size + 1, 7, none⟩ b7) ⟨w.heap.size, 5, none⟩ = some c5 ∧ World.cell? ((((((((w2.setCell ⟨w.heap.size + 1, 0, none⟩ b0).setCell ⟨w.heap.size + 1, 1, none⟩ b1).setCell ⟨w.heap.size + 1, 2, none⟩ b2).setCell ⟨w.heap.size + 1, 3, none⟩ b3).setCell ⟨w.heap.size + 1, 4, none⟩ b4).setCell ⟨w.heap.size + 1, 5, none⟩ b5).setCell ⟨w.heap.size + 1, 6, none⟩ b6).setCell ⟨w.heap.size + 1, 7, none⟩ b7) ⟨w.heap.size, 6, none⟩ = some c6 ∧ World.cell? ((((((((w2.setCell ⟨w.heap.size + 1, 0, none⟩ b0).setCell ⟨w.heap.size + 1, 1, none⟩ b1).setCell ⟨w.heap.size + 1, 2, none⟩ b2).setCell ⟨w.heap.size + 1, 3, none⟩ b3).setCell ⟨w.heap.size + 1, 4, none⟩ b4).setCell ⟨w.heap.size + 1, 5, none⟩ b5).setCell ⟨w.heap.size + 1, 6, none⟩ b6).setCell ⟨w.heap.size + 1, 7, none⟩ b7) ⟨w.heap.size, 7, none⟩ = some c7 := by
 have e : ((((((((w2.setCell ⟨w.heap.size + 1, 0, none⟩ b0).setCell ⟨w.heap.size + 1, 1, none⟩ b1).setCell ⟨w.heap.size + 1, 2, none⟩ b2).setCell ⟨w.heap.size + 1, 3, none⟩ b3).setCell ⟨w.heap.size + 1, 4, none⟩ b4).setCell ⟨w.heap.size + 1, 5, none⟩ b5).setCell ⟨w.heap.size + 1, 6, none⟩ b6).setCell ⟨w.heap.size + 1, 7, none⟩ b7) = w2.setCells (w.heap.size + 1) 0 [b0, b1, b2, b3, b4, b5, b6, b7] := rfl
 rw [e]
 have hf : ∀ j, (w2.setCells (w.heap.size + 1) 0 [b0, b1, b2, b3, b4, b5, b6, b7]).cell? ⟨w.heap.size, j, none⟩ = w2.cell? ⟨w.heap.size, j, none⟩ := fun j => World.cell?_setCells_out (w.heap.size + 1) _ 0 w2 ⟨w.heap.size, j, none⟩ (fun e _ => by simp at e)
 rw [hf 0, hf 1, hf 2, hf 3, hf 4, hf 5, hf 6, hf 7]
 exact ⟨below_setCells _ _ 0 _ h.1 (Nat.le_succ _), h.2⟩
set_option maxHeartbeats 1000000 in
theorem twinV_of (v : VT) (w : World) (hz : v.sz ≤ 1000000000) (hI : In w v)
  (hk : ∀ W, Below w.heap.size w W → Calls Tryz.prog 28 #[v.kids] W fun e w' => ∃ g TL, TwinL W.heap.size v.l v.l.length e w' g TL ∧ Below W.heap.size W w') :
  Calls Tryz.prog 15 #[v.agg] w fun e w' => ∃ T : VT, e = .returned T.agg ∧ Hid (Foot w.heap.size w' T ∧ T.c = v.c) ∧ Below w.heap.size w w' := by
 have hln := VT.szL_len v.l
 have hs := VT.sz_l v
 have HMK : Hid (∀ (W w1 w2 : World) (b g : Nat) (TL : List VT) (e : Ending) (p : Nat) (vs : List Value), Below w.heap.size w W → Below W.heap.size W w1 → W.heap.size ≤ b → w1.heap[b]? = some (.cells (numsK .u32 (v.mag ++ [limbM])).toArray 92 (0, 0)) → TwinL w1.heap.size v.l v.l.length e w2 g TL → Below w1.heap.size w1 w2 → p < W.heap.size → w.heap.size ≤ p →
   ∃ T : VT, (.agg #[.int .i8 v.k, .int .u64 v.n, .bool v.neg, .slice (some ⟨b, 0, none⟩) v.mag.length (v.mag.length + 1), .int .u64 v.bits, .int .i8 v.ext, .string v.text, .slice (some ⟨g, 0, none⟩) v.l.length (v.l.length + 1)] : Value) = T.agg ∧ Foot w.heap.size (w2.setCells p 0 vs) T ∧ T.c = v.c) :=
  Lib.hid fun W w1 w2 b g TL e p vs a1 a2 a3 a4 a5 a6 a7 a8 => twin_made hI a1 a2 a3 a4 a5 a6 a7 a8 (by omega) vs
 have HTI : Hid (∀ W, Below w.heap.size w W → Calls Tryz.prog 45 #[.agg #[.bool v.neg, .slice v.mA v.mag.length v.mcap]] W fun e w' => ∃ b, e = .returned (.agg #[.bool v.neg, .slice (some ⟨b, 0, none⟩) v.mag.length (v.mag.length + 1)]) ∧ W.heap.size ≤ b ∧ w'.heap[b]? = some (.cells (numsK .u32 (v.mag ++ [limbM])).toArray 92 (0, 0)) ∧ Below W.heap.size W w') :=
  Lib.hid fun W hW => twinI_any v.neg v.mA _ v.mcap v.mag W rfl (by omega) (hI.parts.mr.below hW)
 have HTV := Lib.hid hk
 clear hk hI hz hln hs
 generalize v.c = vc at *
 generalize v.mag ++ [limbM] = mg at *
 unfold VT.kids at HTV
 show Calls _ _ #[.agg #[.int .i8 v.k, .int .u64 v.n, .bool v.neg, .slice v.mA v.mag.length v.mcap, .int .u64 v.bits, .int .i8 v.ext, .string v.text, .slice v.A v.l.length v.cap]] _ _
 generalize v.k = k at *
 generalize v.n = n at *
 generalize v.neg = ng at *
 generalize v.mag.length = ml at *
 generalize v.mA = mA at *
 generalize v.mcap = mc at *
 generalize v.bits = bs at *
 generalize v.ext = ex at *
 generalize v.text = tx at *
 generalize v.A = A at *
 generalize v.cap = cp at *
 generalize v.l = l at *
 generalize l.length = m at *
 have hs1 : (w.alloc (.cells #[.int .i8 k, .int .u64 n, .bool ng, .slice mA ml mc, .int .u64 bs, .int .i8 ex, .string tx, .slice A m cp] 31)).heap.size = w.heap.size + 1 := by simp
 have hb0 : Below w.heap.size w ((w.alloc (.cells #[.int .i8 k, .int .u64 n, .bool ng, .slice mA ml mc, .int .u64 bs, .int .i8 ex, .string tx, .slice A m cp] 31)).alloc (.cells zeroV 31)) := ((Below.refl _ _).alloc (Nat.le_refl _) _).alloc (by simp) _
 have hrg : ((w.alloc (.cells #[.int .i8 k, .int .u64 n, .bool ng, .slice mA ml mc, .int .u64 bs, .int .i8 ex, .string tx, .slice A m cp] 31)).alloc (.cells zeroV 31)).rangeAt w.heap.size 0 [.int .i8 k, .int .u64 n, .bool ng, .slice mA ml mc, .int .u64 bs, .int .i8 ex, .string tx, .slice A m cp] := World.rangeAt_alloc (fun j u hu => by rw [Nat.zero_add, cell_of_row _ _ _ _ _ _ (heap_alloc_new w _)]; simpa using hu) _
 have ht := there_new (w.alloc (.cells #[.int .i8 k, .int .u64 n, .bool ng, .slice mA ml mc, .int .u64 bs, .int .i8 ex, .string tx, .slice A m cp] 31)) zeroV 31
 have hbl := (Array.getElem?_eq_some_iff.1 (heap_alloc_new (w.alloc (.cells #[.int .i8 k, .int .u64 n, .bool ng, .slice mA ml mc, .int .u64 bs, .int .i8 ex, .string tx, .slice A m cp] 31)) (.cells zeroV 31))).1
 rw [hs1] at ht hbl
 go_enter Tryz.func15, Tryz.ntmps15
 go_upto_region 1 with fail
 show Code.wp _ _ _ _ ((w.alloc (.cells #[.int .i8 k, .int .u64 n, .bool ng, .slice mA ml mc, .int .u64 bs, .int .i8 ex, .string tx, .slice A m cp] 31)).alloc (.cells zeroV 31))
 generalize ((w.alloc (.cells #[.int .i8 k, .int .u64 n, .bool ng, .slice mA ml mc, .int .u64 bs, .int .i8 ex, .string tx, .slice A m cp] 31)).alloc (.cells zeroV 31)) = W at *
 have HT : Hid (W.there (w.heap.size + 1) 0 8) := Lib.hid ht
 have HB := Lib.hid hb0
 have HBL := Lib.hid hbl
 have c0 := hrg 0 _ rfl
 have c1 := hrg 1 _ rfl
 have c2 := hrg 2 _ rfl
 have c3 := hrg 3 _ rfl
 have c4 := hrg 4 _ rfl
 have c5 := hrg 5 _ rfl
 have c6 := hrg 6 _ rfl
 have c7 := hrg 7 _ rfl
 simp only [Nat.zero_add] at c0 c1 c2 c3 c4 c5 c6 c7
 clear hs1 ht hb0 hbl hrg
 have HSB := HB.out
 have hfar : Hid (∀ (X : World) (vs : List Value) (j : Nat), (X.setCells (w.heap.size + 1) 0 vs).cell? ⟨w.heap.size, j, none⟩ = X.cell? ⟨w.heap.size, j, none⟩) := Lib.hid fun X vs j => World.cell?_setCells_out (w.heap.size + 1) vs 0 X ⟨w.heap.size, j, none⟩ (fun e _ => by simp at e)
 have HSD : Hid (Below w.heap.size w W.drew ∧ W.drew.cell? ⟨w.heap.size, 0, none⟩ = some (.int .i8 k) ∧ W.drew.cell? ⟨w.heap.size, 1, none⟩ = some (.int .u64 n) ∧ W.drew.cell? ⟨w.heap.size, 2, none⟩ = some (.bool ng) ∧ W.drew.cell? ⟨w.heap.size, 3, none⟩ = some (.slice mA ml mc) ∧ W.drew.cell? ⟨w.heap.size, 4, none⟩ = some (.int .u64 bs) ∧ W.drew.cell? ⟨w.heap.size, 5, none⟩ = some (.int .i8 ex) ∧ W.drew.cell? ⟨w.heap.size, 6, none⟩ = some (.string tx) ∧ W.drew.cell? ⟨w.heap.size, 7, none⟩ = some (.slice A m cp)) := Lib.hid ⟨HSB.drew, c0, c1, c2, c3, c4, c5, c6, c7⟩
 go_region_held3 (fun X => Below w.heap.size w X ∧ X.cell? ⟨w.heap.size, 0, none⟩ = some (.int .i8 k) ∧ X.cell? ⟨w.heap.size, 1, none⟩ = some (.int .u64 n) ∧ X.cell? ⟨w.heap.size, 2, none⟩ = some (.bool ng) ∧ X.cell? ⟨w.heap.size, 3, none⟩ = some (.slice mA ml mc) ∧ X.cell? ⟨w.heap.size, 4, none⟩ = some (.int .u64 bs) ∧ X.cell? ⟨w.heap.size, 5, none⟩ = some (.int .i8 ex) ∧ X.cell? ⟨w.heap.size, 6, none⟩ = some (.string tx) ∧ X.cell? ⟨w.heap.size, 7, none⟩ = some (.slice A m cp))
  (first
   | with_reducible exact ⟨HSB, c0, c1, c2, c3, c4, c5, c6, c7⟩
   | with_reducible exact HSD.out
   | with_reducible exact ⟨trans_b HSB hb1.out, keep1 hb1.out c0, keep1 hb1.out c1, keep1 hb1.out c2, keep1 hb1.out c3, keep1 hb1.out c4, keep1 hb1.out c5, keep1 hb1.out c6, keep1 hb1.out c7⟩
   | with_reducible exact ⟨trans_b (trans_b HSB hb1.out) hb2, keep1 hb2 (keep1 hb1.out c0), keep1 hb2 (keep1 hb1.out c1), keep1 hb2 (keep1 hb1.out c2), keep1 hb2 (keep1 hb1.out c3), keep1 hb2 (keep1 hb1.out c4), keep1 hb2 (keep1 hb1.out c5), keep1 hb2 (keep1 hb1.out c6), keep1 hb2 (keep1 hb1.out c7)⟩
   | with_reducible exact store8 ⟨trans_b (trans_b HSB hb1.out) hb2, keep1 hb2 (keep1 hb1.out c0), keep1 hb2 (keep1 hb1.out c1), keep1 hb2 (keep1 hb1.out c2), keep1 hb2 (keep1 hb1.out c3), keep1 hb2 (keep1 hb1.out c4), keep1 hb2 (keep1 hb1.out c5), keep1 hb2 (keep1 hb1.out c6), keep1 hb2 (keep1 hb1.out c7)⟩
   | (trace_state; fail))
  (first
   | (go_at_call 45; refine (HTI.out _ (by first | exact HSB | exact HSB.drew)).mono ?_; rintro e w1 ⟨b, rfl, hgb, hg, hb1'⟩; have hb1 : Hid (Below W.heap.size W w1) := Lib.hid (by first | exact hb1' | exact ((Below.refl W.heap.size W).drew).trans hb1'); have HG := Lib.hid hg; have HGB : Hid (W.heap.size ≤ b) := Lib.hid hgb; clear hb1' hg hgb)
   | (go_at_call 28; refine (HTV.out _ (trans_b HSB hb1.out)).mono ?_; rintro e w2 ⟨g, TL, HTL', hb2⟩; have HTL := Lib.hid HTL'; have he := HTL'.e; subst he; clear HTL'; obtain ⟨z0, z1, z2, z3, z4, z5, z6, z7, ⟨s0, s1, s2, s3, s4, s5, s6, s7⟩, t0, t1, t2, t3, t4, t5, t6, t7⟩ := there8 HT.out HBL.out hb1.out hb2; clear hfar))
 all_goals (
  have he := HTL.out.e
  have hT2 : w2.there (w.heap.size + 1) 0 8 := there_keep (there_keep HT.out (hb1.out.block _ HBL.out)) (hb2.block _ (Nat.lt_of_lt_of_le HBL.out hb1.out.size))
  have hLd := run_loadVar_mid (P := Tryz.prog) (w2.setCells (w.heap.size + 1) 0 [.int .i8 k, .int .u64 n, .bool ng, .slice (some ⟨b, 0, none⟩) ml (ml + 1), .int .u64 bs, .int .i8 ex, .string tx, .slice (some ⟨g, 0, none⟩) m (m + 1)]) (w.heap.size + 1) 0 31 [.int .i8 k, .int .u64 n, .bool ng, .slice (some ⟨b, 0, none⟩) ml (ml + 1), .int .u64 bs, .int .i8 ex, .string tx, .slice (some ⟨g, 0, none⟩) m (m + 1)] _ (World.rangeAt_setCells_same _ _ _ _ hT2) Tryz.underlying31 rfl size_value
  obtain ⟨T, hTa, hTf, hTc⟩ := HMK.out W w1 w2 b g TL _ (w.heap.size + 1) [.int .i8 k, .int .u64 n, .bool ng, .slice (some ⟨b, 0, none⟩) ml (ml + 1), .int .u64 bs, .int .i8 ex, .string tx, .slice (some ⟨g, 0, none⟩) m (m + 1)] HB.out hb1.out HGB.out HG.out HTL.out hb2 HBL.out (Nat.le_succ _)
  have hBZ : Below w.heap.size w (w2.setCells (w.heap.size + 1) 0 [.int .i8 k, .int .u64 n, .bool ng, .slice (some ⟨b, 0, none⟩) ml (ml + 1), .int .u64 bs, .int .i8 ex, .string tx, .slice (some ⟨g, 0, none⟩) m (m + 1)]) := below_setCells _ _ 0 _ (trans_b (trans_b HB.out hb1.out) hb2) (Nat.le_succ _)
  have HF : Hid (Foot w.heap.size (w2.setCells (w.heap.size + 1) 0 [.int .i8 k, .int .u64 n, .bool ng, .slice (some ⟨b, 0, none⟩) ml (ml + 1), .int .u64 bs, .int .i8 ex, .string tx, .slice (some ⟨g, 0, none⟩) m (m + 1)]) T ∧ T.c = vc) := Lib.hid ⟨hTf, hTc⟩
  have HTA := Lib.hid hTa
  have HZ := Lib.hid hBZ
  have HL := Lib.hid hLd
  clear s0 s1 s2 s3 s4 s5 s6 s7 t0 t1 t2 t3 t4 t5 t6 t7 c0 c1 c2 c3 c4 c5 c6 c7 hTf hTc hBZ hLd hTa hT2 he HSD
  go_wp2
  refine bodyPost_ret (v := T.agg) ?_ rfl ⟨T, rfl, HF, HZ.out⟩
  have hLd := HL.out
  simp only [World.setCells, Nat.zero_add] at hLd
  rw [← HTA.out]
  simp [results, Tryz.results15, hLd, asAddr, Act.put])
end Go.Proofs.YtcpkjmpbpmeclaaGreatDoor
namespace Go.Proofs.YtcpkjmpbpmeclaaGreatDoor
open Go.RowKit
theorem twinV_n : ∀ (q : Nat) (v : VT) (w : World), v.sz ≤ q → v.sz ≤ 1000000000 → In w v →
  Calls Tryz.prog 15 #[v.agg] w fun e w' => ∃ T : VT, e = .returned T.agg ∧ Hid (Foot w.heap.size w' T ∧ T.c = v.c) ∧ Below w.heap.size w w'
 | 0, v, w, h, _, _ => by have := v.sz_pos; omega
 | q + 1, v, w, h, hz, hI => by
  have hln := VT.szL_len v.l
  have hs := VT.sz_l v
  have pv := hI.parts
  refine twinV_of v w hz hI fun W hW => ?_
  refine twinVs_of v.A _ v.cap v.l W rfl (by omega) (pv.row.below hW) fun i hi W2 hW2 => ?_
  have hm : v.l[i] ∈ v.l := List.getElem_mem hi
  have := VT.kid_sz hm
  exact twinV_n q _ W2 (by omega) (by omega) ((hI.kid hm).below (trans_b hW hW2))
theorem twinV_any (v : VT) (w : World) (hz : v.sz ≤ 1000000000) (hI : In w v) :
  Calls Tryz.prog 15 #[v.agg] w fun e w' => ∃ T : VT, e = .returned T.agg ∧ Hid (Foot w.heap.size w' T ∧ T.c = v.c) ∧ Below w.heap.size w w' := twinV_n _ v w (Nat.le_refl _) hz hI
end Go.Proofs.YtcpkjmpbpmeclaaGreatDoor
namespace Go.Proofs.YtcpkjmpbpmeclaaGreatDoor
open Go.RowKit
set_option maxRecDepth 100000
set_option linter.unusedVariables false
set_option linter.unusedSimpArgs false
set_option linter.unnecessarySimpa false

mutual
def VT.bls : VT → List Nat
 | .mk _ _ _ mA _ _ _ _ _ A _ l => (mA.map Addr.block).toList ++ ((A.map Addr.block).toList ++ VT.blsL l)
def VT.blsL : List VT → List Nat
 | [] => []
 | v :: l => v.bls ++ VT.blsL l
end
theorem VT.bls_eq (v : VT) : v.bls = (v.mA.map Addr.block).toList ++ ((v.A.map Addr.block).toList ++ VT.blsL v.l) := by cases v; rfl
theorem VT.blsL_mem {x : VT} {b : Nat} : ∀ {l : List VT}, x ∈ l → b ∈ x.bls → b ∈ VT.blsL l
 | y :: l, h, hb => by
  simp only [VT.blsL, List.mem_append]
  rcases List.mem_cons.1 h with rfl | h
  ·exact .inl hb
  ·exact .inr (VT.blsL_mem h hb)
theorem VT.blsL_of {b : Nat} : ∀ {l : List VT}, b ∈ VT.blsL l → ∃ x ∈ l, b ∈ x.bls
 | y :: l, h => by
  simp only [VT.blsL, List.mem_append] at h
  rcases h with h | h
  ·exact ⟨y, by simp, h⟩
  ·obtain ⟨x, hx, hb⟩ := VT.blsL_of h
   exact ⟨x, List.mem_cons_of_mem _ hx, hb⟩
theorem VT.blsL_app : ∀ l m : List VT, VT.blsL (l ++ m) = VT.blsL l ++ VT.blsL m
 | [], m => rfl
 | x :: l, m => by simp [VT.blsL, VT.blsL_app l m]
theorem VT.blsL_nodup {x : VT} : ∀ {l : List VT}, x ∈ l → (VT.blsL l).Nodup → x.bls.Nodup
 | y :: l, h, hn => by
  simp only [VT.blsL] at hn
  have := List.nodup_append.1 hn
  rcases List.mem_cons.1 h with rfl | h
  ·exact this.1
  ·exact VT.blsL_nodup h this.2.1
/-- A row of values in a block of its own. -/
def KRow (base : Nat) (W : World) (v : Value) (l : List VT) : Prop :=
 (v = .slice none 0 0 ∧ l = []) ∨
 ∃ g cap cur, v = .slice (some ⟨g, 0, none⟩) l.length cap ∧ base ≤ g ∧ W.heap[g]? = some (.cells cur 31 (0, 0)) ∧ l.length ≤ cap ∧ cap ≤ maxLen ∧ cur.size = cap * 8 ∧
  ∀ i (h : i < l.length), W.rangeAt g (i * 8) (l[i]).cells
theorem KRow.keep {base : Nat} {W W' : World} {v : Value} {l : List VT} (h : KRow base W v l) (hb : ∀ b, v.ownBlock = some b → W'.heap[b]? = W.heap[b]?) : KRow base W' v l := by
 rcases h with h | ⟨g, cap, cur, rfl, h1, h2, h3, h4, h5, h6⟩
 ·exact .inl h
 ·have e := hb g rfl
  exact .inr ⟨g, cap, cur, rfl, h1, e.trans h2, h3, h4, h5, fun i hi k u hu => (World.cell?_of_block (a := ⟨g, i * 8 + k, none⟩) e).trans (h6 i hi k u hu)⟩
theorem KRow.lt {base : Nat} {W : World} {v : Value} {l : List VT} (h : KRow base W v l) (b : Nat) (hb : v.ownBlock = some b) : base ≤ b ∧ b < W.heap.size := by
 rcases h with ⟨rfl, _⟩ | ⟨g, cap, cur, rfl, h1, h2, _⟩
 ·simp [Value.ownBlock] at hb
 ·simp [Value.ownBlock] at hb
  subst hb
  exact ⟨h1, (Array.getElem?_eq_some_iff.1 h2).1⟩
theorem KRow.low {base base' : Nat} {W : World} {v : Value} {l : List VT} (h : KRow base W v l) (hb : base' ≤ base) : KRow base' W v l := by
 rcases h with h | ⟨g, cap, cur, e, h1, h2⟩
 ·exact .inl h
 ·exact .inr ⟨g, cap, cur, e, by omega, h2⟩
theorem Own.keepB {base : Nat} {W W' : World} {e : TypeId} {k : IntKind} {v : Value} {xs : List Int} (h : Own W base e k v xs) (hb : ∀ b, v.ownBlock = some b → W'.heap[b]? = W.heap[b]?) : Own W' base e k v xs := by
 refine ⟨h.1, ?_⟩
 rcases h.2 with h | ⟨g, cap, cur, rfl, h1, h2, h3⟩
 ·exact .inl h
 ·exact .inr ⟨g, cap, cur, rfl, h1, (hb g rfl).trans h2, h3⟩
theorem Own.lowB {base base' : Nat} {W : World} {e : TypeId} {k : IntKind} {v : Value} {xs : List Int} (h : Own W base e k v xs) (hb : base' ≤ base) : Own W base' e k v xs := by
 refine ⟨h.1, ?_⟩
 rcases h.2 with h | ⟨g, cap, cur, e, h1, h2⟩
 ·exact .inl h
 ·exact .inr ⟨g, cap, cur, e, by omega, h2⟩
/-- A node whose lists are of the call's own. -/
structure NodeP (base : Nat) (W : World) (v : VT) : Prop where
 ok : v.ok
 m : Own W base 92 .u32 v.mags v.mag
 k : KRow base W v.kids v.l
theorem VT.mA_mem {v : VT} {b : Nat} (h : v.mags.ownBlock = some b) : b ∈ v.bls := by
 rw [VT.bls_eq]
 unfold VT.mags at h
 cases hm : v.mA with
 | none => rw [hm] at h; simp [Value.ownBlock] at h
 | some a => rw [hm] at h; simp [Value.ownBlock] at h; subst h; simp
theorem VT.A_mem {v : VT} {b : Nat} (h : v.kids.ownBlock = some b) : b ∈ v.bls := by
 rw [VT.bls_eq]
 unfold VT.kids at h
 cases hm : v.A with
 | none => rw [hm] at h; simp [Value.ownBlock] at h
 | some a => rw [hm] at h; simp [Value.ownBlock] at h; subst h; simp
theorem VT.l_mem {v x : VT} {b : Nat} (hx : x ∈ v.l) (h : b ∈ x.bls) : b ∈ v.bls := by
 rw [VT.bls_eq]
 simp only [List.mem_append]
 exact .inr (.inr (VT.blsL_mem hx h))
theorem nodes_keep {base base' : Nat} {W W' : World} (hbb : base' ≤ base) : ∀ (n : Nat) (v : VT), v.sz ≤ n → (∀ b ∈ v.bls, W'.heap[b]? = W.heap[b]?) → AllV (NodeP base W) v → AllV (NodeP base' W') v
 | 0, v, h, _, _ => by have := v.sz_pos; omega
 | n + 1, v, h, hb, ha => by
  obtain ⟨⟨h1, h2, h3⟩, h4⟩ := AllV.eq.1 ha
  exact AllV.eq.2 ⟨⟨h1, (h2.keepB fun b e => hb b (VT.mA_mem e)).lowB hbb, (h3.keep fun b e => hb b (VT.A_mem e)).low hbb⟩,
   AllVL.of fun x hx => nodes_keep hbb n x (by have := VT.kid_sz hx; omega) (fun b e => hb b (VT.l_mem hx e)) (h4.mem hx)⟩
/-- A value whose lists are the call's own, each in a block of its own. -/
structure Mine (base : Nat) (W : World) (T : VT) : Prop where
 nd : T.bls.Nodup
 rg : ∀ b ∈ T.bls, base ≤ b ∧ b < W.heap.size
 all : AllV (NodeP base W) T
theorem Mine.keepB {base base' : Nat} {W W' : World} {T : VT} (h : Mine base W T) (hbb : base' ≤ base) (hs : W.heap.size ≤ W'.heap.size) (hb : ∀ b ∈ T.bls, W'.heap[b]? = W.heap[b]?) : Mine base' W' T :=
 ⟨h.nd, fun b hm => by have := h.rg b hm; omega, nodes_keep hbb _ T (Nat.le_refl _) hb h.all⟩
theorem Mine.keep {base : Nat} {W W' : World} {T : VT} (h : Mine base W T) (hb : Below W.heap.size W W') : Mine base W' T :=
 h.keepB (Nat.le_refl _) hb.size fun b hm => hb.block b (h.rg b hm).2
theorem Mine.low {base base' : Nat} {W : World} {T : VT} (h : Mine base W T) (hb : base' ≤ base) : Mine base' W T := h.keepB hb (Nat.le_refl _) fun _ _ => rfl
theorem NodeP.inP {base : Nat} {W : World} {v : VT} (h : NodeP base W v) (hk : InL W v.l) : InP W v := by
 obtain ⟨A, c, e, r, le, _⟩ := h.m.slice
 have hm : v.mA = A ∧ v.mcap = c := by
  unfold VT.mags at e
  injection e with e1 e2 e3
  exact ⟨e1, e3⟩
 have hmz : v.mA = none → v.mcap = 0 := fun hA => by
  rcases h.m.2 with ⟨e, _⟩ | ⟨g, cap, cur, e, _⟩
  ·unfold VT.mags at e; injection e
  ·unfold VT.mags at e; injection e with e1; rw [hA] at e1; cases e1
 have hkk : v.l.length ≤ v.cap ∧ v.cap ≤ 9223372036854775807 ∧ VRow W v.A v.l ∧ (v.A = none → v.cap = 0) := by
  rcases h.k with ⟨e, hl⟩ | ⟨g, cap, cur, e, h1, h2, h3, h4, h5, h6⟩
  ·unfold VT.kids at e
   injection e with e1 e2 e3
   rw [hl, e3]
   exact ⟨Nat.le_refl _, by omega, .inl rfl, fun _ => rfl⟩
  ·unfold VT.kids at e
   injection e with e1 e2 e3
   rw [e3, e1]
   refine ⟨h3, by unfold maxLen at h4; exact h4, .inr ⟨g, 0, rfl, fun i hi j u hu => ?_⟩, fun hA => by cases hA⟩
   rw [Nat.zero_add]
   exact h6 i hi j u hu
 exact ⟨h.ok, by rw [hm.2]; exact le, by rw [hm.1]; exact r, hkk.1, hkk.2.1, hkk.2.2.1, hk, hmz, hkk.2.2.2⟩
theorem nodes_in {base : Nat} {W : World} : ∀ (n : Nat) (v : VT), v.sz ≤ n → AllV (NodeP base W) v → In W v
 | 0, v, h, _ => by have := v.sz_pos; omega
 | n + 1, v, h, ha => by
  obtain ⟨h1, h4⟩ := AllV.eq.1 ha
  exact In.mk (h1.inP (InL.of fun x hx => nodes_in n x (by have := VT.kid_sz hx; omega) (h4.mem hx)))
theorem Mine.in_ {base : Nat} {W : World} {T : VT} (h : Mine base W T) : In W T := nodes_in _ T (Nat.le_refl _) h.all
theorem Mine.kid {base : Nat} {W : World} {T x : VT} (h : Mine base W T) (hx : x ∈ T.l) : Mine base W x :=
 ⟨by have := h.nd; rw [VT.bls_eq] at this; exact VT.blsL_nodup hx (List.nodup_append.1 (List.nodup_append.1 this).2.1).2.1, fun b hb => h.rg b (VT.l_mem hx hb), (AllV.eq.1 h.all).2.mem hx⟩
/-- The cells of values, one behind the other. -/
theorem flat_at : ∀ (l : List VT) (i : Nat) (h : i < l.length) (j : Nat), j < 8 → (l.flatMap VT.cells)[i * 8 + j]? = (l[i]).cells[j]?
 | x :: l, 0, h, j, hj => by
  rw [List.flatMap_cons, Nat.zero_mul, Nat.zero_add, List.getElem?_append_left (by exact hj)]
  rfl
 | x :: l, i + 1, h, j, hj => by
  have e : (i + 1) * 8 + j = x.cells.length + (i * 8 + j) := by show _ = 8 + _; omega
  rw [List.flatMap_cons, e, List.getElem?_append_right (by omega), Nat.add_sub_cancel_left, flat_at l i (by simpa using h) j hj]
  rfl
theorem flat_len : ∀ l : List VT, (l.flatMap VT.cells).length = l.length * 8
 | [] => rfl
 | x :: l => by rw [List.flatMap_cons, List.length_append, flat_len l]; show 8 + _ = _; simp; omega
theorem flat_cell {w : World} {A : Option Addr} {a : Addr} {l : List VT} (hA : A = some a) (h : VRow w A l) (j : Nat) (u : Value) (hu : (l.flatMap VT.cells)[j]? = some u) : w.cell? (a.add j) = some u := by
 have hj : j < l.length * 8 := by rw [← flat_len]; exact (List.getElem?_eq_some_iff.1 hu).1
 rcases h with h | ⟨b, off, e, h⟩
 ·subst h; simp at hj
 ·rw [hA] at e
  injection e with e
  subst e
  have e1 : j = j / 8 * 8 + j % 8 := by omega
  have hi : j / 8 < l.length := by omega
  rw [e1, flat_at l _ hi _ (by omega)] at hu
  have := h _ hi _ _ hu
  rw [Nat.add_assoc, ← e1] at this
  unfold Addr.add
  split
  ·rename_i h0; rw [h0] at this; simpa using this
  ·exact this
theorem krow_of_own {base : Nat} {W : World} {v : Value} {l : List VT} (h : W.ownsRow base 31 8 v l.length (l.flatMap VT.cells)) : KRow base W v l := by
 rcases h.2 with ⟨e, h0⟩ | ⟨g, cap, cur, e, h1, h2, h3, h4, h5, h6⟩
 ·exact .inl ⟨e, List.eq_nil_of_length_eq_zero h0⟩
 ·refine .inr ⟨g, cap, cur, e, h1, h2, h3, h4, h5, fun i hi j u hu => ?_⟩
  have hj : j < 8 := (List.getElem?_eq_some_iff.1 hu).1
  have := h.cells (g := g) (by rw [e]; rfl) (i * 8 + j) u (by rw [flat_at l i hi j hj]; exact hu)
  rwa [add_plain] at this
theorem blk_setCells {g : Nat} {t : TypeId} : ∀ (vs : List Value) (o : Nat) (cs : Array Value) (w : World), w.heap[g]? = some (.cells cs t (0, 0)) → ∃ cs', (w.setCells g o vs).heap[g]? = some (.cells cs' t (0, 0)) ∧ cs'.size = cs.size
 | [], o, cs, w, h => ⟨cs, h, rfl⟩
 | v :: vs, o, cs, w, h => by
  obtain ⟨cs', h1, h2⟩ := blk_setCells vs (o + 1) _ _ (heap_setCell_same w g o cs t v h)
  exact ⟨cs', h1, by rw [h2]; simp⟩
end Go.Proofs.YtcpkjmpbpmeclaaGreatDoor
