/- The document's First. -/
import Derived.Test.YtolnnkalgioobaaGreatDoorE
import Derived.Deep.MidRow
import Derived.Deep.RegionHeld3
import Derived.Deep.DeepCutAuto
import Derived.Outline
namespace Go.Proofs.YtolnnkalgioobaaGreatDoor
open Go.RowKit
set_option maxRecDepth 100000
set_option linter.unusedVariables false
set_option linter.unusedSimpArgs false
set_option linter.unnecessarySimpa false

theorem encL_bytes (p : Int) (h0 : 0 ≤ p) : ∀ y ∈ encL p, 0 ≤ y := by
  intro y hy
  unfold encL at hy
  (repeat' split at hy) <;> simp only [List.mem_cons, List.not_mem_nil, or_false] at hy <;> omega
theorem encL_len (p : Int) : 1 ≤ (encL p).length ∧ (encL p).length ≤ 4 := by
  unfold encL
  (repeat' split) <;> simp
theorem size27 : (Tryz.prog.info? 61).map (·.size) = some 4 := by kernel_rfl
theorem lit_row {w : World} {g : Nat} {ys : List Int} (h : w.heap[g]? = some (.cells (numsK .u8 ys).toArray 5 (0, 0))) : RK w .u8 (some ⟨g, 0, none⟩) ys :=
  .inr ⟨g, 0, rfl, fun j hj => by
    rw [Lib.cell_of_heap h]
    simp [numsK, List.getElem?_eq_getElem hj, List.getD_eq_getElem?_getD]⟩
theorem there_blk {w : World} {b : Nat} {cs : Array Value} {t : TypeId} (h : w.heap[b]? = some (.cells cs t (0, 0))) (n : Nat) (hn : n = cs.size) : w.there b 0 n := by
  intro j hj
  refine ⟨?_, Lib.frozen_of_heap h _⟩
  rw [Lib.cell_of_heap h, Array.getElem?_eq_getElem (show 0 + j < cs.size by omega)]
  rfl
theorem enc_row (p : Int) (w : World) (h0 : 0 ≤ p) (h1 : p < 2097152) : Calls Tryz.prog 29 #[.int .i64 p] w fun e w' => ∃ g, e = .returned (.slice (some ⟨g, 0, none⟩) (encL p).length (encL p).length) ∧ RK w' .u8 (some ⟨g, 0, none⟩) (encL p) ∧ Below w.heap.size w w' :=
  (enc_any p w h0 h1).mono fun e w' ⟨g, e1, h, _, hb⟩ => ⟨g, e1, lit_row h, hb⟩

theorem below_setCells {B : Nat} {w0 : World} : ∀ (vs : List Value) (g o : Nat) (w : World), Below B w0 w → B ≤ g → Below B w0 (w.setCells g o vs)
  | [], _, _, _, h, _ => h
  | v :: r, g, o, w, h, hg => by
    rw [World.setCells]
    exact below_setCells r g (o + 1) _ (h.setCell (p := ⟨g, o, none⟩) hg v) hg

theorem rf_yes (s : ByteArray) (a n : Nat) (c P : Int) (w : World) (hs : s.size ≤ 140737488351232) (hc : at1 s a = c) (hn : sizeF c = n) (hn1 : 1 ≤ n) (hfit : a + n ≤ s.size)
    (hbits : ∀ W, Calls Tryz.prog 115 #[.string s, .int .i64 a, .int .i64 n] W fun e w' => e = .returned (.int .i64 P) ∧ Below W.heap.size W w') (h0 : 0 ≤ P) (h1 : P < 2097152)
    (hp : isPt P = true) (hst : decide (∀ j, j < (encL P).length → at1 s (a + j) = (encL P).getD j 0) = true) (hlen : (encL P).length = n) :
    Calls Tryz.prog 86 #[.string s, .int .i64 a] w fun e w' => e = .returned (.agg #[.int .i64 a, .int .i64 n, .int .i64 P, .bool true]) ∧ Below w.heap.size w w' := by
  have hi := fun W => idx_run s a (by omega) W
  have hsz := fun w => size_any c w
  have hpt := fun w => refPoint_any P w
  have hel := encL_len P
  have hst2 := fun (A : Option Addr) (W : World) (h : RK W .u8 A (encL P)) => stands_any s a A (encL P).length (encL P).length (encL P) W rfl h (by omega) hs (by omega) hel.1 (encL_bytes P h0)
  rw [hst] at hst2
  rw [hc] at hi
  rw [hn] at hsz
  rw [hp] at hpt
  have hen := fun W => enc_row P W h0 h1
  rw [hlen] at hst2 hen
  have hpos : (0 : Int) < (n : Int) := by omega
  have hle : (a : Int) + (n : Int) ≤ (s.size : Int) := by omega
  have hlt : (a : Int) < (s.size : Int) := by omega
  have hT0 : Hid (∀ W : World, Below (w.heap.size + 1) (w.alloc (.cells #[.int .i64 0, .int .i64 0, .int .i64 0, .bool false] 61)) W → W.there w.heap.size 0 4 ∧ Below w.heap.size w W) := fun W hb =>
    ⟨there_blk (b := w.heap.size) (cs := #[.int .i64 0, .int .i64 0, .int .i64 0, .bool false]) (t := 61) ((hb.block _ (by omega)).trans Array.getElem?_push_size) 4 rfl, Below.trans ((Below.refl _ _).alloc (Nat.le_refl _) _) (hb.mono (by omega))⟩
  clear hst hlen hc hn hel hp
  go_enter Tryz.func86, Tryz.ntmps86
  go_upto_region 3 with (go_at_call 114; refine (hsz _).mono ?_; rintro e w1 ⟨rfl, rfl⟩)
  have hb0 : Below (w.heap.size + 1) (w.alloc (.cells #[.int .i64 0, .int .i64 0, .int .i64 0, .bool false] 61)) (w.alloc (.cells #[.int .i64 0, .int .i64 0, .int .i64 0, .bool false] 61)) := Below.refl _ _
  have hsz1 : w.heap.size + 1 ≤ (w.alloc (.cells #[.int .i64 0, .int .i64 0, .int .i64 0, .bool false] 61)).heap.size := by simp
  generalize (w.alloc (.cells #[.int .i64 0, .int .i64 0, .int .i64 0, .bool false] 61)) = w0 at hb0 hsz1 hT0 ⊢
  go_upto_region 4 with (go_at_call 115; refine (hbits _).mono ?_; rintro e w1 ⟨rfl, hb1⟩)
  have hB1 : Below (w.heap.size + 1) w0 w1 := hb0.trans (hb1.mono hsz1)
  have hs1 := hB1.size
  go_upto_region 5 with (first
    | (go_at_call 28; refine (hpt _).mono ?_; rintro e w2 ⟨rfl, rfl⟩)
    | (go_at_call 29; refine (hen w1).mono ?_; rintro e w2 ⟨g, rfl, hrow, hb2⟩)
    | (go_at_call 116; refine (hst2 _ _ hrow).mono ?_; rintro e w3 ⟨rfl, hb3⟩)
    | (go_at_call 29; refine (hen w3).mono ?_; rintro e w4 ⟨g4, rfl, _, hb4⟩))
  have hB4 : Below (w.heap.size + 1) w0 w4 := hB1.trans ((below_on (below_on hb2 hb3) hb4).mono (by omega))
  obtain ⟨hT, hB⟩ := hT0.out w4 hB4
  have HT : Hid (w4.there w.heap.size 0 (#[.int .i64 a, .int .i64 n, .int .i64 P, .bool true] : Array Value).size) := Lib.hid hT
  have HZ : Hid ((Tryz.prog.info? 61).map (·.size) = some (#[.int .i64 a, .int .i64 n, .int .i64 P, .bool true] : Array Value).size) := Lib.hid size27
  have HA : Hid ((#[.int .i64 a, .int .i64 n, .int .i64 P, .bool true] : Array Value).all (·.oneCell') = true) := Lib.hid (all_oneCell_toArray (cs := [.int .i64 a, .int .i64 n, .int .i64 P, .bool true]) (fun v hv => by simp only [List.mem_cons, List.not_mem_nil, or_false] at hv; rcases hv with rfl | rfl | rfl | rfl <;> rfl))
  clear hT0 hb0 hsz1 hb1 hB1 hs1 hrow hb2 hb3 hb4 hB4
  go_wp2_with (with_reducible refine wpList_store_mid rfl 61 (.tmp 4) (.tmp 44) rfl w.heap.size 0 #[.int .i64 a, .int .i64 n, .int .i64 P, .bool true] rfl rfl HT.out HZ.out HA.out ?_)
  have hLd := run_loadVar_mid (P := Tryz.prog) (w4.setCells w.heap.size 0 [.int .i64 a, .int .i64 n, .int .i64 P, .bool true]) w.heap.size 0 61 [.int .i64 a, .int .i64 n, .int .i64 P, .bool true] _ (World.rangeAt_setCells_same _ _ _ _ HT.out) Tryz.underlying61 rfl size27
  have hBZ := below_setCells [.int .i64 a, .int .i64 n, .int .i64 P, .bool true] w.heap.size 0 w4 hB (Nat.le_refl _)
  refine bodyPost_ret (v := .agg #[.int .i64 a, .int .i64 n, .int .i64 P, .bool true]) ?_ rfl ⟨rfl, hBZ⟩
  simp [results, Tryz.results86, hLd, asAddr, Act.put]
end Go.Proofs.YtolnnkalgioobaaGreatDoor
