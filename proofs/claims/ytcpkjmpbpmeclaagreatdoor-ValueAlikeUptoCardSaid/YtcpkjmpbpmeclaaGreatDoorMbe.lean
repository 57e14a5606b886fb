/- Uf · Ug · Uh · Ui: merged. -/
import Derived.Test.YtcpkjmpbpmeclaaGreatDoorMad
import Derived.Deep.MidRow
import Derived.Deep.RegionHeld3
import Derived.Deep.DeepCutAuto
import Derived.Outline
namespace Go.Proofs.YtcpkjmpbpmeclaaGreatDoor.Utf
open Go.RowKit
set_option maxRecDepth 100000
set_option linter.unusedVariables false
set_option linter.unusedSimpArgs false
set_option linter.unnecessarySimpa false

theorem encL_bytes (p : Int) (h0 : 0 ≤ p) : ∀ y ∈ encL p, 0 ≤ y := by
 intro y hy
 unfold encL at hy
 (repeat' split at hy) <;> simp only [List.mem_cons, List.not_mem_nil, or_false] at hy <;> omega
theorem encL_len (p : Int) : 1 ≤ (encL p).length ∧ (encL p).length ≤ 4 := by
 unfold encL
 (repeat' split) <;> simp
theorem size27 : (Tryz.prog.info? 314).map (·.size) = some 4 := by kernel_rfl
theorem lit_row {w : World} {g : Nat} {ys : List Int} (h : w.heap[g]? = some (.cells (numsK .u8 ys).toArray 5 (0, 0))) : RK w .u8 (some ⟨g, 0, none⟩) ys :=
 .inr ⟨g, 0, rfl, fun j hj => by
  rw [Lib.cell_of_heap h]
  simp [numsK, List.getElem?_eq_getElem hj, List.getD_eq_getElem?_getD]⟩
theorem there_blk {w : World} {b : Nat} {cs : Array Value} {t : TypeId} (h : w.heap[b]? = some (.cells cs t (0, 0))) (n : Nat) (hn : n = cs.size) : w.there b 0 n := by
 intro j hj
 refine ⟨?_, Lib.frozen_of_heap h _⟩
 rw [Lib.cell_of_heap h, Array.getElem?_eq_getElem (show 0 + j < cs.size by omega)]
 rfl
theorem enc_row (p : Int) (w : World) (h0 : 0 ≤ p) (h1 : p < 2097152) : Calls Tryz.prog 269 #[.int .i64 p] w fun e w' => ∃ g, e = .returned (.slice (some ⟨g, 0, none⟩) (encL p).length (encL p).length) ∧ RK w' .u8 (some ⟨g, 0, none⟩) (encL p) ∧ Below w.heap.size w w' :=
 (enc_any p w h0 h1).mono fun e w' ⟨g, e1, h, _, hb⟩ => ⟨g, e1, lit_row h, hb⟩

theorem below_setCells {B : Nat} {w0 : World} : ∀ (vs : List Value) (g o : Nat) (w : World), Below B w0 w → B ≤ g → Below B w0 (w.setCells g o vs)
 | [], _, _, _, h, _ => h
 | v :: r, g, o, w, h, hg => by
  rw [World.setCells]
  exact below_setCells r g (o + 1) _ (h.setCell (p := ⟨g, o, none⟩) hg v) hg

theorem rf_yes (s : ByteArray) (a n : Nat) (c P : Int) (w : World) (hs : s.size ≤ 140737488351232) (hc : at1 s a = c) (hn : sizeF c = n) (hn1 : 1 ≤ n) (hfit : a + n ≤ s.size)
  (hbits : ∀ W, Calls Tryz.prog 266 #[.string s, .int .i64 a, .int .i64 n] W fun e w' => e = .returned (.int .i64 P) ∧ Below W.heap.size W w') (h0 : 0 ≤ P) (h1 : P < 2097152)
  (hp : isPt P = true) (hst : decide (∀ j, j < (encL P).length → at1 s (a + j) = (encL P).getD j 0) = true) (hlen : (encL P).length = n) :
  Calls Tryz.prog 255 #[.string s, .int .i64 a] w fun e w' => e = .returned (.agg #[.int .i64 a, .int .i64 n, .int .i64 P, .bool true]) ∧ Below w.heap.size w w' := by
 have hi := fun W => idx_run s a (by omega) W
 have hsz := fun w => size_any c w
 have hpt := fun w => refPoint_any P w
 have hel := encL_len P
 have hst2 := fun (A : Option Addr) (W : World) (h : RK W .u8 A (encL P)) => stands_any s a A (encL P).length (encL P).length (encL P) W rfl h (by omega) hs (by omega) hel.1 (encL_bytes P h0)
 rw [hst] at hst2
 rw [hc] at hi
 rw [hn] at hsz
 rw [hp] at hpt
 have hen := fun W => enc_row P W h0 h1
 rw [hlen] at hst2 hen
 have hpos : (0 : Int) < (n : Int) := by omega
 have hle : (a : Int) + (n : Int) ≤ (s.size : Int) := by omega
 have hlt : (a : Int) < (s.size : Int) := by omega
 have hT0 : Hid (∀ W : World, Below (w.heap.size + 1) (w.alloc (.cells #[.int .i64 0, .int .i64 0, .int .i64 0, .bool false] 314)) W → W.there w.heap.size 0 4 ∧ Below w.heap.size w W) := fun W hb =>
  ⟨there_blk (b := w.heap.size) (cs := #[.int .i64 0, .int .i64 0, .int .i64 0, .bool false]) (t := 314) ((hb.block _ (by omega)).trans Array.getElem?_push_size) 4 rfl, Below.trans ((Below.refl _ _).alloc (Nat.le_refl _) _) (hb.mono (by omega))⟩
 clear hst hlen hc hn hel hp
 go_enter Tryz.func255, Tryz.ntmps255
 go_upto_region 3 with (go_at_call 265; refine (hsz _).mono ?_; rintro e w1 ⟨rfl, rfl⟩)
 have hb0 : Below (w.heap.size + 1) (w.alloc (.cells #[.int .i64 0, .int .i64 0, .int .i64 0, .bool false] 314)) (w.alloc (.cells #[.int .i64 0, .int .i64 0, .int .i64 0, .bool false] 314)) := Below.refl _ _
 have hsz1 : w.heap.size + 1 ≤ (w.alloc (.cells #[.int .i64 0, .int .i64 0, .int .i64 0, .bool false] 314)).heap.size := by simp
 generalize (w.alloc (.cells #[.int .i64 0, .int .i64 0, .int .i64 0, .bool false] 314)) = w0 at hb0 hsz1 hT0 ⊢
 go_upto_region 4 with (go_at_call 266; refine (hbits _).mono ?_; rintro e w1 ⟨rfl, hb1⟩)
 have hB1 : Below (w.heap.size + 1) w0 w1 := hb0.trans (hb1.mono hsz1)
 have hs1 := hB1.size
 go_upto_region 5 with (first
  | (go_at_call 267; refine (hpt _).mono ?_; rintro e w2 ⟨rfl, rfl⟩)
  | (go_at_call 269; refine (hen w1).mono ?_; rintro e w2 ⟨g, rfl, hrow, hb2⟩)
  | (go_at_call 268; refine (hst2 _ _ hrow).mono ?_; rintro e w3 ⟨rfl, hb3⟩)
  | (go_at_call 269; refine (hen w3).mono ?_; rintro e w4 ⟨g4, rfl, _, hb4⟩))
 have hB4 : Below (w.heap.size + 1) w0 w4 := hB1.trans ((below_on (below_on hb2 hb3) hb4).mono (by omega))
 obtain ⟨hT, hB⟩ := hT0.out w4 hB4
 have HT : Hid (w4.there w.heap.size 0 (#[.int .i64 a, .int .i64 n, .int .i64 P, .bool true] : Array Value).size) := Lib.hid hT
 have HZ : Hid ((Tryz.prog.info? 314).map (·.size) = some (#[.int .i64 a, .int .i64 n, .int .i64 P, .bool true] : Array Value).size) := Lib.hid size27
 have HA : Hid ((#[.int .i64 a, .int .i64 n, .int .i64 P, .bool true] : Array Value).all (·.oneCell') = true) := Lib.hid (all_oneCell_toArray (cs := [.int .i64 a, .int .i64 n, .int .i64 P, .bool true]) (fun v hv => by simp only [List.mem_cons, List.not_mem_nil, or_false] at hv; rcases hv with rfl | rfl | rfl | rfl <;> rfl))
 clear hT0 hb0 hsz1 hb1 hB1 hs1 hrow hb2 hb3 hb4 hB4
 go_wp2_with (with_reducible refine wpList_store_mid rfl 314 (.tmp 4) (.tmp 44) rfl w.heap.size 0 #[.int .i64 a, .int .i64 n, .int .i64 P, .bool true] rfl rfl HT.out HZ.out HA.out ?_)
 have hLd := run_loadVar_mid (P := Tryz.prog) (w4.setCells w.heap.size 0 [.int .i64 a, .int .i64 n, .int .i64 P, .bool true]) w.heap.size 0 314 [.int .i64 a, .int .i64 n, .int .i64 P, .bool true] _ (World.rangeAt_setCells_same _ _ _ _ HT.out) Tryz.underlying314 rfl size27
 have hBZ := below_setCells [.int .i64 a, .int .i64 n, .int .i64 P, .bool true] w.heap.size 0 w4 hB (Nat.le_refl _)
 refine bodyPost_ret (v := .agg #[.int .i64 a, .int .i64 n, .int .i64 P, .bool true]) ?_ rfl ⟨rfl, hBZ⟩
 simp [results, Tryz.results255, hLd, asAddr, Act.put]
end Go.Proofs.YtcpkjmpbpmeclaaGreatDoor.Utf
namespace Go.Proofs.YtcpkjmpbpmeclaaGreatDoor.Utf
open Go.RowKit
set_option maxRecDepth 100000
set_option linter.unusedVariables false
set_option linter.unusedSimpArgs false
set_option linter.unnecessarySimpa false

theorem rf_no0 (s : ByteArray) (a n : Nat) (c : Int) (w : World) (hs : s.size ≤ 140737488351232) (hc : at1 s a = c) (hlt : (a : Int) < (s.size : Int)) (hn : sizeF c = n) (h0 : n = 0) :
  Calls Tryz.prog 255 #[.string s, .int .i64 a] w fun e w' => e = .returned (.agg #[.int .i64 a, .int .i64 1, .int .i64 c, .bool false]) ∧ Below w.heap.size w w' := by
 have hi := fun W => idx_run s a (by omega) W
 have hsz := fun w => size_any c w
 have hr1 : c ≤ 255 := by have := at1_range s a; omega
 have hr0 : 0 ≤ c := by have := (at1_in s a).2 (by omega); omega
 rw [hc] at hi
 rw [hn] at hsz
 have hT0 : Hid (∀ W : World, Below (w.heap.size + 1) (w.alloc (.cells #[.int .i64 0, .int .i64 0, .int .i64 0, .bool false] 314)) W → W.there w.heap.size 0 4 ∧ Below w.heap.size w W) := fun W hb =>
  ⟨there_blk (b := w.heap.size) (cs := #[.int .i64 0, .int .i64 0, .int .i64 0, .bool false]) (t := 314) ((hb.block _ (by omega)).trans Array.getElem?_push_size) 4 rfl, Below.trans ((Below.refl _ _).alloc (Nat.le_refl _) _) (hb.mono (by omega))⟩
 subst h0
 clear hc hn
 go_enter Tryz.func255, Tryz.ntmps255
 go_upto_region 2 with (go_at_call 265; refine (hsz _).mono ?_; rintro e w1 ⟨rfl, rfl⟩)
 have hb0 : Below (w.heap.size + 1) (w.alloc (.cells #[.int .i64 0, .int .i64 0, .int .i64 0, .bool false] 314)) (w.alloc (.cells #[.int .i64 0, .int .i64 0, .int .i64 0, .bool false] 314)) := Below.refl _ _
 have hsz1 : w.heap.size + 1 ≤ (w.alloc (.cells #[.int .i64 0, .int .i64 0, .int .i64 0, .bool false] 314)).heap.size := by simp
 show Code.wp _ _ _ _ (w.alloc (.cells #[.int .i64 0, .int .i64 0, .int .i64 0, .bool false] 314))
 generalize (w.alloc (.cells #[.int .i64 0, .int .i64 0, .int .i64 0, .bool false] 314)) = w0 at hb0 hsz1 hT0 ⊢
 obtain ⟨hT, hB⟩ := hT0.out w0 hb0
 have HT : Hid (w0.there w.heap.size 0 (#[.int .i64 a, .int .i64 1, .int .i64 c, .bool false] : Array Value).size) := Lib.hid hT
 have HZ : Hid ((Tryz.prog.info? 314).map (·.size) = some (#[.int .i64 a, .int .i64 1, .int .i64 c, .bool false] : Array Value).size) := Lib.hid size27
 have HA : Hid ((#[.int .i64 a, .int .i64 1, .int .i64 c, .bool false] : Array Value).all (·.oneCell') = true) := Lib.hid (all_oneCell_toArray (cs := [.int .i64 a, .int .i64 1, .int .i64 c, .bool false]) (fun v hv => by simp only [List.mem_cons, List.not_mem_nil, or_false] at hv; rcases hv with rfl | rfl | rfl | rfl <;> rfl))
 clear hT0 hb0 hsz1
 go_wp2_with (with_reducible refine wpList_store_mid rfl 314 (.tmp 4) (.tmp 50) rfl w.heap.size 0 #[.int .i64 a, .int .i64 1, .int .i64 c, .bool false] rfl rfl HT.out HZ.out HA.out ?_)
 have hLd := run_loadVar_mid (P := Tryz.prog) (w0.setCells w.heap.size 0 [.int .i64 a, .int .i64 1, .int .i64 c, .bool false]) w.heap.size 0 314 [.int .i64 a, .int .i64 1, .int .i64 c, .bool false] _ (World.rangeAt_setCells_same _ _ _ _ HT.out) Tryz.underlying314 rfl size27
 have hBZ := below_setCells [.int .i64 a, .int .i64 1, .int .i64 c, .bool false] w.heap.size 0 w0 hB (Nat.le_refl _)
 refine bodyPost_ret (v := .agg #[.int .i64 a, .int .i64 1, .int .i64 c, .bool false]) ?_ rfl ⟨rfl, hBZ⟩
 simp [results, Tryz.results255, hLd, asAddr, Act.put]
theorem rf_noFit (s : ByteArray) (a n : Nat) (c : Int) (w : World) (hs : s.size ≤ 140737488351232) (hc : at1 s a = c) (hlt : (a : Int) < (s.size : Int)) (hn : sizeF c = n) (h1 : 1 ≤ n) (h2 : s.size < a + n) (h4 : n ≤ 4) :
  Calls Tryz.prog 255 #[.string s, .int .i64 a] w fun e w' => e = .returned (.agg #[.int .i64 a, .int .i64 1, .int .i64 c, .bool false]) ∧ Below w.heap.size w w' := by
 have hi := fun W => idx_run s a (by omega) W
 have hsz := fun w => size_any c w
 have hr1 : c ≤ 255 := by have := at1_range s a; omega
 have hr0 : 0 ≤ c := by have := (at1_in s a).2 (by omega); omega
 rw [hc] at hi
 rw [hn] at hsz
 have hT0 : Hid (∀ W : World, Below (w.heap.size + 1) (w.alloc (.cells #[.int .i64 0, .int .i64 0, .int .i64 0, .bool false] 314)) W → W.there w.heap.size 0 4 ∧ Below w.heap.size w W) := fun W hb =>
  ⟨there_blk (b := w.heap.size) (cs := #[.int .i64 0, .int .i64 0, .int .i64 0, .bool false]) (t := 314) ((hb.block _ (by omega)).trans Array.getElem?_push_size) 4 rfl, Below.trans ((Below.refl _ _).alloc (Nat.le_refl _) _) (hb.mono (by omega))⟩
 have hpos : (0 : Int) < (n : Int) := by omega
 have hle : (s.size : Int) < (a : Int) + (n : Int) := by omega
 have hpos2 : 0 < n := h1
 clear hc hn h1
 go_enter Tryz.func255, Tryz.ntmps255
 go_upto_region 2 with (go_at_call 265; refine (hsz _).mono ?_; rintro e w1 ⟨rfl, rfl⟩)
 have hb0 : Below (w.heap.size + 1) (w.alloc (.cells #[.int .i64 0, .int .i64 0, .int .i64 0, .bool false] 314)) (w.alloc (.cells #[.int .i64 0, .int .i64 0, .int .i64 0, .bool false] 314)) := Below.refl _ _
 have hsz1 : w.heap.size + 1 ≤ (w.alloc (.cells #[.int .i64 0, .int .i64 0, .int .i64 0, .bool false] 314)).heap.size := by simp
 show Code.wp _ _ _ _ (w.alloc (.cells #[.int .i64 0, .int .i64 0, .int .i64 0, .bool false] 314))
 generalize (w.alloc (.cells #[.int .i64 0, .int .i64 0, .int .i64 0, .bool false] 314)) = w0 at hb0 hsz1 hT0 ⊢
 obtain ⟨hT, hB⟩ := hT0.out w0 hb0
 have HT : Hid (w0.there w.heap.size 0 (#[.int .i64 a, .int .i64 1, .int .i64 c, .bool false] : Array Value).size) := Lib.hid hT
 have HZ : Hid ((Tryz.prog.info? 314).map (·.size) = some (#[.int .i64 a, .int .i64 1, .int .i64 c, .bool false] : Array Value).size) := Lib.hid size27
 have HA : Hid ((#[.int .i64 a, .int .i64 1, .int .i64 c, .bool false] : Array Value).all (·.oneCell') = true) := Lib.hid (all_oneCell_toArray (cs := [.int .i64 a, .int .i64 1, .int .i64 c, .bool false]) (fun v hv => by simp only [List.mem_cons, List.not_mem_nil, or_false] at hv; rcases hv with rfl | rfl | rfl | rfl <;> rfl))
 clear hT0 hb0 hsz1
 go_wp2_with (with_reducible refine wpList_store_mid rfl 314 (.tmp 4) (.tmp 50) rfl w.heap.size 0 #[.int .i64 a, .int .i64 1, .int .i64 c, .bool false] rfl rfl HT.out HZ.out HA.out ?_)
 have hLd := run_loadVar_mid (P := Tryz.prog) (w0.setCells w.heap.size 0 [.int .i64 a, .int .i64 1, .int .i64 c, .bool false]) w.heap.size 0 314 [.int .i64 a, .int .i64 1, .int .i64 c, .bool false] _ (World.rangeAt_setCells_same _ _ _ _ HT.out) Tryz.underlying314 rfl size27
 have hBZ := below_setCells [.int .i64 a, .int .i64 1, .int .i64 c, .bool false] w.heap.size 0 w0 hB (Nat.le_refl _)
 refine bodyPost_ret (v := .agg #[.int .i64 a, .int .i64 1, .int .i64 c, .bool false]) ?_ rfl ⟨rfl, hBZ⟩
 simp [results, Tryz.results255, hLd, asAddr, Act.put]
theorem rf_noPt (s : ByteArray) (a n : Nat) (c P : Int) (w : World) (hs : s.size ≤ 140737488351232) (hc : at1 s a = c) (hlt : (a : Int) < (s.size : Int)) (hn : sizeF c = n) (h1 : 1 ≤ n) (hfit : a + n ≤ s.size) (h4 : n ≤ 4) (hbits : ∀ W, Calls Tryz.prog 266 #[.string s, .int .i64 a, .int .i64 n] W fun e w' => e = .returned (.int .i64 P) ∧ Below W.heap.size W w') (hp : isPt P = false) :
  Calls Tryz.prog 255 #[.string s, .int .i64 a] w fun e w' => e = .returned (.agg #[.int .i64 a, .int .i64 1, .int .i64 c, .bool false]) ∧ Below w.heap.size w w' := by
 have hi := fun W => idx_run s a (by omega) W
 have hsz := fun w => size_any c w
 have hr1 : c ≤ 255 := by have := at1_range s a; omega
 have hr0 : 0 ≤ c := by have := (at1_in s a).2 (by omega); omega
 rw [hc] at hi
 rw [hn] at hsz
 have hT0 : Hid (∀ W : World, Below (w.heap.size + 1) (w.alloc (.cells #[.int .i64 0, .int .i64 0, .int .i64 0, .bool false] 314)) W → W.there w.heap.size 0 4 ∧ Below w.heap.size w W) := fun W hb =>
  ⟨there_blk (b := w.heap.size) (cs := #[.int .i64 0, .int .i64 0, .int .i64 0, .bool false]) (t := 314) ((hb.block _ (by omega)).trans Array.getElem?_push_size) 4 rfl, Below.trans ((Below.refl _ _).alloc (Nat.le_refl _) _) (hb.mono (by omega))⟩
 have hpos : (0 : Int) < (n : Int) := by omega
 have hle : (a : Int) + (n : Int) ≤ (s.size : Int) := by omega
 have hpt := fun w => refPoint_any P w
 rw [hp] at hpt
 clear hc hn hp
 go_enter Tryz.func255, Tryz.ntmps255
 go_upto_region 2 with (go_at_call 265; refine (hsz _).mono ?_; rintro e w1 ⟨rfl, rfl⟩)
 have hb0 : Below (w.heap.size + 1) (w.alloc (.cells #[.int .i64 0, .int .i64 0, .int .i64 0, .bool false] 314)) (w.alloc (.cells #[.int .i64 0, .int .i64 0, .int .i64 0, .bool false] 314)) := Below.refl _ _
 have hsz1 : w.heap.size + 1 ≤ (w.alloc (.cells #[.int .i64 0, .int .i64 0, .int .i64 0, .bool false] 314)).heap.size := by simp
 show Code.wp _ _ _ _ (w.alloc (.cells #[.int .i64 0, .int .i64 0, .int .i64 0, .bool false] 314))
 generalize (w.alloc (.cells #[.int .i64 0, .int .i64 0, .int .i64 0, .bool false] 314)) = w0 at hb0 hsz1 hT0 ⊢
 go_upto_region 4 with (go_at_call 266; refine (hbits _).mono ?_; rintro e w1 ⟨rfl, hb1⟩)
 have hB1 : Below (w.heap.size + 1) w0 w1 := hb0.trans (hb1.mono hsz1)
 have hs1 := hB1.size
 go_upto_region 6 with (go_at_call 267; refine (hpt _).mono ?_; rintro e w2 ⟨rfl, rfl⟩)
 obtain ⟨hT, hB⟩ := hT0.out w1 hB1
 have HT : Hid (w1.there w.heap.size 0 (#[.int .i64 a, .int .i64 1, .int .i64 c, .bool false] : Array Value).size) := Lib.hid hT
 have HZ : Hid ((Tryz.prog.info? 314).map (·.size) = some (#[.int .i64 a, .int .i64 1, .int .i64 c, .bool false] : Array Value).size) := Lib.hid size27
 have HA : Hid ((#[.int .i64 a, .int .i64 1, .int .i64 c, .bool false] : Array Value).all (·.oneCell') = true) := Lib.hid (all_oneCell_toArray (cs := [.int .i64 a, .int .i64 1, .int .i64 c, .bool false]) (fun v hv => by simp only [List.mem_cons, List.not_mem_nil, or_false] at hv; rcases hv with rfl | rfl | rfl | rfl <;> rfl))
 clear hT0 hb0 hsz1 hb1 hB1 hs1
 go_wp2_with (with_reducible refine wpList_store_mid rfl 314 (.tmp 4) (.tmp 50) rfl w.heap.size 0 #[.int .i64 a, .int .i64 1, .int .i64 c, .bool false] rfl rfl HT.out HZ.out HA.out ?_)
 have hLd := run_loadVar_mid (P := Tryz.prog) (w1.setCells w.heap.size 0 [.int .i64 a, .int .i64 1, .int .i64 c, .bool false]) w.heap.size 0 314 [.int .i64 a, .int .i64 1, .int .i64 c, .bool false] _ (World.rangeAt_setCells_same _ _ _ _ HT.out) Tryz.underlying314 rfl size27
 have hBZ := below_setCells [.int .i64 a, .int .i64 1, .int .i64 c, .bool false] w.heap.size 0 w1 hB (Nat.le_refl _)
 refine bodyPost_ret (v := .agg #[.int .i64 a, .int .i64 1, .int .i64 c, .bool false]) ?_ rfl ⟨rfl, hBZ⟩
 simp [results, Tryz.results255, hLd, asAddr, Act.put]
theorem rf_noSt (s : ByteArray) (a n : Nat) (c P : Int) (w : World) (hs : s.size ≤ 140737488351232) (hc : at1 s a = c) (hlt : (a : Int) < (s.size : Int)) (hn : sizeF c = n) (h1 : 1 ≤ n) (hfit : a + n ≤ s.size) (h4 : n ≤ 4) (hbits : ∀ W, Calls Tryz.prog 266 #[.string s, .int .i64 a, .int .i64 n] W fun e w' => e = .returned (.int .i64 P) ∧ Below W.heap.size W w') (h0 : 0 ≤ P) (hP1 : P < 2097152) (hp : isPt P = true) (hst : decide (∀ j, j < (encL P).length → at1 s (a + j) = (encL P).getD j 0) = false) :
  Calls Tryz.prog 255 #[.string s, .int .i64 a] w fun e w' => e = .returned (.agg #[.int .i64 a, .int .i64 1, .int .i64 c, .bool false]) ∧ Below w.heap.size w w' := by
 have hi := fun W => idx_run s a (by omega) W
 have hsz := fun w => size_any c w
 have hr1 : c ≤ 255 := by have := at1_range s a; omega
 have hr0 : 0 ≤ c := by have := (at1_in s a).2 (by omega); omega
 rw [hc] at hi
 rw [hn] at hsz
 have hT0 : Hid (∀ W : World, Below (w.heap.size + 1) (w.alloc (.cells #[.int .i64 0, .int .i64 0, .int .i64 0, .bool false] 314)) W → W.there w.heap.size 0 4 ∧ Below w.heap.size w W) := fun W hb =>
  ⟨there_blk (b := w.heap.size) (cs := #[.int .i64 0, .int .i64 0, .int .i64 0, .bool false]) (t := 314) ((hb.block _ (by omega)).trans Array.getElem?_push_size) 4 rfl, Below.trans ((Below.refl _ _).alloc (Nat.le_refl _) _) (hb.mono (by omega))⟩
 have hpos : (0 : Int) < (n : Int) := by omega
 have hle : (a : Int) + (n : Int) ≤ (s.size : Int) := by omega
 have hpt := fun w => refPoint_any P w
 rw [hp] at hpt
 have hel := encL_len P
 have hst2 := fun (A : Option Addr) (W : World) (h : RK W .u8 A (encL P)) => stands_any s a A (encL P).length (encL P).length (encL P) W rfl h (by omega) hs (by omega) hel.1 (encL_bytes P h0)
 rw [hst] at hst2
 have hen := fun W => enc_row P W h0 hP1
 obtain ⟨m, hm⟩ : ∃ m, (encL P).length = m := ⟨_, rfl⟩
 rw [hm] at hst2 hen
 clear hc hn hp hst hel hm
 go_enter Tryz.func255, Tryz.ntmps255
 go_upto_region 2 with (go_at_call 265; refine (hsz _).mono ?_; rintro e w1 ⟨rfl, rfl⟩)
 have hb0 : Below (w.heap.size + 1) (w.alloc (.cells #[.int .i64 0, .int .i64 0, .int .i64 0, .bool false] 314)) (w.alloc (.cells #[.int .i64 0, .int .i64 0, .int .i64 0, .bool false] 314)) := Below.refl _ _
 have hsz1 : w.heap.size + 1 ≤ (w.alloc (.cells #[.int .i64 0, .int .i64 0, .int .i64 0, .bool false] 314)).heap.size := by simp
 show Code.wp _ _ _ _ (w.alloc (.cells #[.int .i64 0, .int .i64 0, .int .i64 0, .bool false] 314))
 generalize (w.alloc (.cells #[.int .i64 0, .int .i64 0, .int .i64 0, .bool false] 314)) = w0 at hb0 hsz1 hT0 ⊢
 go_upto_region 4 with (go_at_call 266; refine (hbits _).mono ?_; rintro e w1 ⟨rfl, hb1⟩)
 have hB1 : Below (w.heap.size + 1) w0 w1 := hb0.trans (hb1.mono hsz1)
 have hs1 := hB1.size
 go_upto_region 6 with (first
  | (go_at_call 267; refine (hpt _).mono ?_; rintro e w2 ⟨rfl, rfl⟩)
  | (go_at_call 269; refine (hen w1).mono ?_; rintro e w2 ⟨g, rfl, hrow, hb2⟩)
  | (go_at_call 268; refine (hst2 _ _ hrow).mono ?_; rintro e w3 ⟨rfl, hb3⟩))
 have hB3 : Below (w.heap.size + 1) w0 w3 := hB1.trans ((below_on hb2 hb3).mono (by omega))
 obtain ⟨hT, hB⟩ := hT0.out w3 hB3
 have HT : Hid (w3.there w.heap.size 0 (#[.int .i64 a, .int .i64 1, .int .i64 c, .bool false] : Array Value).size) := Lib.hid hT
 have HZ : Hid ((Tryz.prog.info? 314).map (·.size) = some (#[.int .i64 a, .int .i64 1, .int .i64 c, .bool false] : Array Value).size) := Lib.hid size27
 have HA : Hid ((#[.int .i64 a, .int .i64 1, .int .i64 c, .bool false] : Array Value).all (·.oneCell') = true) := Lib.hid (all_oneCell_toArray (cs := [.int .i64 a, .int .i64 1, .int .i64 c, .bool false]) (fun v hv => by simp only [List.mem_cons, List.not_mem_nil, or_false] at hv; rcases hv with rfl | rfl | rfl | rfl <;> rfl))
 clear hT0 hb0 hsz1 hb1 hB1 hs1 hrow hb2 hb3 hB3
 go_wp2_with (with_reducible refine wpList_store_mid rfl 314 (.tmp 4) (.tmp 50) rfl w.heap.size 0 #[.int .i64 a, .int .i64 1, .int .i64 c, .bool false] rfl rfl HT.out HZ.out HA.out ?_)
 have hLd := run_loadVar_mid (P := Tryz.prog) (w3.setCells w.heap.size 0 [.int .i64 a, .int .i64 1, .int .i64 c, .bool false]) w.heap.size 0 314 [.int .i64 a, .int .i64 1, .int .i64 c, .bool false] _ (World.rangeAt_setCells_same _ _ _ _ HT.out) Tryz.underlying314 rfl size27
 have hBZ := below_setCells [.int .i64 a, .int .i64 1, .int .i64 c, .bool false] w.heap.size 0 w3 hB (Nat.le_refl _)
 refine bodyPost_ret (v := .agg #[.int .i64 a, .int .i64 1, .int .i64 c, .bool false]) ?_ rfl ⟨rfl, hBZ⟩
 simp [results, Tryz.results255, hLd, asAddr, Act.put]
theorem rf_noLen (s : ByteArray) (a n : Nat) (c P : Int) (w : World) (hs : s.size ≤ 140737488351232) (hc : at1 s a = c) (hlt : (a : Int) < (s.size : Int)) (hn : sizeF c = n) (h1 : 1 ≤ n) (hfit : a + n ≤ s.size) (h4 : n ≤ 4) (hbits : ∀ W, Calls Tryz.prog 266 #[.string s, .int .i64 a, .int .i64 n] W fun e w' => e = .returned (.int .i64 P) ∧ Below W.heap.size W w') (h0 : 0 ≤ P) (hP1 : P < 2097152) (hp : isPt P = true) (hst : decide (∀ j, j < (encL P).length → at1 s (a + j) = (encL P).getD j 0) = true) (hne : (encL P).length ≠ n) :
  Calls Tryz.prog 255 #[.string s, .int .i64 a] w fun e w' => e = .returned (.agg #[.int .i64 a, .int .i64 1, .int .i64 c, .bool false]) ∧ Below w.heap.size w w' := by
 have hi := fun W => idx_run s a (by omega) W
 have hsz := fun w => size_any c w
 have hr1 : c ≤ 255 := by have := at1_range s a; omega
 have hr0 : 0 ≤ c := by have := (at1_in s a).2 (by omega); omega
 rw [hc] at hi
 rw [hn] at hsz
 have hT0 : Hid (∀ W : World, Below (w.heap.size + 1) (w.alloc (.cells #[.int .i64 0, .int .i64 0, .int .i64 0, .bool false] 314)) W → W.there w.heap.size 0 4 ∧ Below w.heap.size w W) := fun W hb =>
  ⟨there_blk (b := w.heap.size) (cs := #[.int .i64 0, .int .i64 0, .int .i64 0, .bool false]) (t := 314) ((hb.block _ (by omega)).trans Array.getElem?_push_size) 4 rfl, Below.trans ((Below.refl _ _).alloc (Nat.le_refl _) _) (hb.mono (by omega))⟩
 have hpos : (0 : Int) < (n : Int) := by omega
 have hle : (a : Int) + (n : Int) ≤ (s.size : Int) := by omega
 have hpt := fun w => refPoint_any P w
 rw [hp] at hpt
 have hel := encL_len P
 have hst2 := fun (A : Option Addr) (W : World) (h : RK W .u8 A (encL P)) => stands_any s a A (encL P).length (encL P).length (encL P) W rfl h (by omega) hs (by omega) hel.1 (encL_bytes P h0)
 rw [hst] at hst2
 have hen := fun W => enc_row P W h0 hP1
 obtain ⟨m, hm⟩ : ∃ m, (encL P).length = m := ⟨_, rfl⟩
 rw [hm] at hst2 hen
 have hmn : ((m : Int) == (n : Int)) = false := by simp; omega
 clear hc hn hp hst hel hm hne
 go_enter Tryz.func255, Tryz.ntmps255
 go_upto_region 2 with (go_at_call 265; refine (hsz _).mono ?_; rintro e w1 ⟨rfl, rfl⟩)
 have hb0 : Below (w.heap.size + 1) (w.alloc (.cells #[.int .i64 0, .int .i64 0, .int .i64 0, .bool false] 314)) (w.alloc (.cells #[.int .i64 0, .int .i64 0, .int .i64 0, .bool false] 314)) := Below.refl _ _
 have hsz1 : w.heap.size + 1 ≤ (w.alloc (.cells #[.int .i64 0, .int .i64 0, .int .i64 0, .bool false] 314)).heap.size := by simp
 show Code.wp _ _ _ _ (w.alloc (.cells #[.int .i64 0, .int .i64 0, .int .i64 0, .bool false] 314))
 generalize (w.alloc (.cells #[.int .i64 0, .int .i64 0, .int .i64 0, .bool false] 314)) = w0 at hb0 hsz1 hT0 ⊢
 go_upto_region 4 with (go_at_call 266; refine (hbits _).mono ?_; rintro e w1 ⟨rfl, hb1⟩)
 have hB1 : Below (w.heap.size + 1) w0 w1 := hb0.trans (hb1.mono hsz1)
 have hs1 := hB1.size
 go_upto_region 6 with (first
  | (go_at_call 267; refine (hpt _).mono ?_; rintro e w2 ⟨rfl, rfl⟩)
  | (go_at_call 269; refine (hen w1).mono ?_; rintro e w2 ⟨g, rfl, hrow, hb2⟩)
  | (go_at_call 268; refine (hst2 _ _ hrow).mono ?_; rintro e w3 ⟨rfl, hb3⟩)
  | (go_at_call 269; refine (hen w3).mono ?_; rintro e w4 ⟨g4, rfl, _, hb4⟩))
 have hB4 : Below (w.heap.size + 1) w0 w4 := hB1.trans ((below_on (below_on hb2 hb3) hb4).mono (by omega))
 obtain ⟨hT, hB⟩ := hT0.out w4 hB4
 have HT : Hid (w4.there w.heap.size 0 (#[.int .i64 a, .int .i64 1, .int .i64 c, .bool false] : Array Value).size) := Lib.hid hT
 have HZ : Hid ((Tryz.prog.info? 314).map (·.size) = some (#[.int .i64 a, .int .i64 1, .int .i64 c, .bool false] : Array Value).size) := Lib.hid size27
 have HA : Hid ((#[.int .i64 a, .int .i64 1, .int .i64 c, .bool false] : Array Value).all (·.oneCell') = true) := Lib.hid (all_oneCell_toArray (cs := [.int .i64 a, .int .i64 1, .int .i64 c, .bool false]) (fun v hv => by simp only [List.mem_cons, List.not_mem_nil, or_false] at hv; rcases hv with rfl | rfl | rfl | rfl <;> rfl))
 clear hT0 hb0 hsz1 hb1 hB1 hs1 hrow hb2 hb3 hb4 hB4
 go_wp2_with (with_reducible refine wpList_store_mid rfl 314 (.tmp 4) (.tmp 50) rfl w.heap.size 0 #[.int .i64 a, .int .i64 1, .int .i64 c, .bool false] rfl rfl HT.out HZ.out HA.out ?_)
 have hLd := run_loadVar_mid (P := Tryz.prog) (w4.setCells w.heap.size 0 [.int .i64 a, .int .i64 1, .int .i64 c, .bool false]) w.heap.size 0 314 [.int .i64 a, .int .i64 1, .int .i64 c, .bool false] _ (World.rangeAt_setCells_same _ _ _ _ HT.out) Tryz.underlying314 rfl size27
 have hBZ := below_setCells [.int .i64 a, .int .i64 1, .int .i64 c, .bool false] w.heap.size 0 w4 hB (Nat.le_refl _)
 refine bodyPost_ret (v := .agg #[.int .i64 a, .int .i64 1, .int .i64 c, .bool false]) ?_ rfl ⟨rfl, hBZ⟩
 simp [results, Tryz.results255, hLd, asAddr, Act.put]
end Go.Proofs.YtcpkjmpbpmeclaaGreatDoor.Utf
namespace Go.Proofs.YtcpkjmpbpmeclaaGreatDoor.Utf
open Go.RowKit
set_option maxRecDepth 100000
set_option linter.unusedVariables false
set_option linter.unusedSimpArgs false
set_option linter.unnecessarySimpa false

def stP (s : ByteArray) (a : Nat) (p : Int) : Prop := ∀ j, j < (encL p).length → at1 s (a + j) = (encL p).getD j 0
theorem st1 (s : ByteArray) (a : Nat) (p : Int) (h : p < 128) : (stP s a p ↔ at1 s a = p) ∧ (encL p).length = 1 := by
 have e : encL p = [p] := by unfold encL; rw [if_pos h]
 unfold stP
 rw [e]
 refine ⟨⟨fun k => k 0 (by simp), fun k j hj => ?_⟩, rfl⟩
 match j, hj with
 | 0, _ => exact k
theorem st2 (s : ByteArray) (a : Nat) (p : Int) (h : ¬ p < 128) (h2 : p < 2048) : (stP s a p ↔ at1 s a = 192 + p / 64 ∧ at1 s (a + 1) = 128 + p % 64) ∧ (encL p).length = 2 := by
 have e : encL p = [192 + p / 64, 128 + p % 64] := by unfold encL; rw [if_neg h, if_pos h2]
 unfold stP
 rw [e]
 refine ⟨⟨fun k => ⟨k 0 (by simp), k 1 (by simp)⟩, fun k j hj => ?_⟩, rfl⟩
 match j, hj with
 | 0, _ => exact k.1
 | 1, _ => exact k.2
theorem st3 (s : ByteArray) (a : Nat) (p : Int) (h : ¬ p < 128) (h2 : ¬ p < 2048) (h3 : p < 65536) : (stP s a p ↔ at1 s a = 224 + p / 4096 ∧ at1 s (a + 1) = 128 + p / 64 % 64 ∧ at1 s (a + 2) = 128 + p % 64) ∧ (encL p).length = 3 := by
 have e : encL p = [224 + p / 4096, 128 + p / 64 % 64, 128 + p % 64] := by unfold encL; rw [if_neg h, if_neg h2, if_pos h3]
 unfold stP
 rw [e]
 refine ⟨⟨fun k => ⟨k 0 (by simp), k 1 (by simp), k 2 (by simp)⟩, fun k j hj => ?_⟩, rfl⟩
 match j, hj with
 | 0, _ => exact k.1
 | 1, _ => exact k.2.1
 | 2, _ => exact k.2.2
theorem st4 (s : ByteArray) (a : Nat) (p : Int) (h : ¬ p < 128) (h2 : ¬ p < 2048) (h3 : ¬ p < 65536) : (stP s a p ↔ at1 s a = 240 + p / 262144 ∧ at1 s (a + 1) = 128 + p / 4096 % 64 ∧ at1 s (a + 2) = 128 + p / 64 % 64 ∧ at1 s (a + 3) = 128 + p % 64) ∧ (encL p).length = 4 := by
 have e : encL p = [240 + p / 262144, 128 + p / 4096 % 64, 128 + p / 64 % 64, 128 + p % 64] := by unfold encL; rw [if_neg h, if_neg h2, if_neg h3]
 unfold stP
 rw [e]
 refine ⟨⟨fun k => ⟨k 0 (by simp), k 1 (by simp), k 2 (by simp), k 3 (by simp)⟩, fun k j hj => ?_⟩, rfl⟩
 match j, hj with
 | 0, _ => exact k.1
 | 1, _ => exact k.2.1
 | 2, _ => exact k.2.2.1
 | 3, _ => exact k.2.2.2

def stepV (a : Nat) (c : Int) : Option (Int × Nat) → Value
 | none => .agg #[.int .i64 a, .int .i64 1, .int .i64 c, .bool false]
 | some (p, n) => .agg #[.int .i64 a, .int .i64 n, .int .i64 p, .bool true]

/-- The step where the bytes' bits say P. -/
def goodP (s : ByteArray) (a n : Nat) (P : Int) : Prop := isPt P = true ∧ stP s a P ∧ (encL P).length = n
theorem rf_of (s : ByteArray) (a n : Nat) (c P : Int) (w : World) (hs : s.size ≤ 140737488351232) (hc : at1 s a = c) (hn : sizeF c = n) (h1 : 1 ≤ n) (h4 : n ≤ 4) (hfit : a + n ≤ s.size)
  (hbits : ∀ W, Calls Tryz.prog 266 #[.string s, .int .i64 a, .int .i64 n] W fun e w' => e = .returned (.int .i64 P) ∧ Below W.heap.size W w') (h0 : 0 ≤ P) (hP1 : P < 2097152)
  (d : Option (Int × Nat)) (hd : d = none ∧ ¬ goodP s a n P ∨ d = some (P, n) ∧ goodP s a n P) :
  Calls Tryz.prog 255 #[.string s, .int .i64 a] w fun e w' => e = .returned (stepV a c d) ∧ Below w.heap.size w w' := by
 rcases hd with ⟨rfl, hg⟩ | ⟨rfl, hp, hst, hl⟩
 ·have hlt : (a : Int) < (s.size : Int) := by omega
  rcases hp : isPt P with _ | _
  ·exact rf_noPt s a n c P w hs hc hlt hn h1 hfit h4 hbits hp
  ·by_cases hst : stP s a P
   ·by_cases hl : (encL P).length = n
    ·exact absurd ⟨hp, hst, hl⟩ hg
    ·exact rf_noLen s a n c P w hs hc hlt hn h1 hfit h4 hbits h0 hP1 hp (decide_eq_true hst) hl
   ·exact rf_noSt s a n c P w hs hc hlt hn h1 hfit h4 hbits h0 hP1 hp (decide_eq_false hst)
 ·exact rf_yes s a n c P w hs hc hn h1 hfit hbits h0 hP1 hp (decide_eq_true hst) hl
theorem isPt_iff (p : Int) : isPt p = true ↔ 0 ≤ p ∧ p ≤ 1114111 ∧ (p < 55296 ∨ 57343 < p) := by simp [isPt, and_assoc]
theorem cont_no (x : Int) (h : cont x = false) : ¬ (128 ≤ x ∧ x < 192) := fun k => by rw [(cont_iff x).2 k] at h; cases h

theorem refFirst_any (s : ByteArray) (a : Nat) (w : World) (hs : s.size ≤ 140737488351232) (ha : a < s.size) :
  Calls Tryz.prog 255 #[.string s, .int .i64 a] w fun e w' => e = .returned (stepV a (at1 s a) (decS s a)) ∧ Below w.heap.size w w' := by
 have hr := at1_range s a
 have hr1 := at1_range s (a + 1)
 have hr2 := at1_range s (a + 2)
 have hr3 := at1_range s (a + 3)
 have hi0 := at1_in s a
 have hi1 := at1_in s (a + 1)
 have hi2 := at1_in s (a + 2)
 have hi3 := at1_in s (a + 3)
 have hlt : (a : Int) < (s.size : Int) := by omega
 have T1 := st1 s a
 have T2 := st2 s a
 have T3 := st3 s a
 have T4 := st4 s a
 unfold decS
 obtain ⟨c, hc⟩ : ∃ c, at1 s a = c := ⟨_, rfl⟩
 obtain ⟨x, hx⟩ : ∃ c, at1 s (a + 1) = c := ⟨_, rfl⟩
 obtain ⟨y, hy⟩ : ∃ c, at1 s (a + 2) = c := ⟨_, rfl⟩
 obtain ⟨z, hz⟩ : ∃ c, at1 s (a + 3) = c := ⟨_, rfl⟩
 rw [hc] at hr hi0 T1 T2 T3 T4
 rw [hx] at hr1 hi1 T2 T3 T4
 rw [hy] at hr2 hi2 T3 T4
 rw [hz] at hr3 hi3 T4
 rw [hc, hx, hy, hz]
 unfold dec4
 rw [if_neg (by omega)]
 by_cases h1 : c < 128
 ·rw [if_pos h1]
  refine rf_of s a 1 c (c % 128) w hs hc (by unfold sizeF; rw [if_pos h1]; rfl) (by omega) (by omega) (by omega) (fun W => bits1 s a c W hs hc (by omega) (by omega)) (by omega) (by omega) _ (.inr ⟨by rw [show c % 128 = c from by omega], ?_⟩)
  rw [show c % 128 = c from by omega]
  exact ⟨(isPt_iff c).2 (by omega), (T1 c h1).1.2 rfl, (T1 c h1).2⟩
 rw [if_neg h1]
 by_cases h2 : c < 192
 ·rw [if_pos h2]
  exact rf_no0 s a 0 c w hs hc hlt (by unfold sizeF; rw [if_neg h1, if_pos h2]; rfl) rfl
 rw [if_neg h2]
 by_cases h3 : c < 224
 ·rw [if_pos h3]
  have hsz : sizeF c = (2 : Nat) := by unfold sizeF; rw [if_neg h1, if_neg h2, if_pos h3]; rfl
  by_cases hfit : a + 2 ≤ s.size
  ·refine rf_of s a 2 c (c % 32 * 64 + x % 64) w hs hc hsz (by omega) (by omega) hfit (fun W => bits2 s a c x W hs hc hx (by omega) hfit) (by omega) (by omega) _ ?_
   unfold goodP
   by_cases hp : c % 32 * 64 + x % 64 < 128
   ·left
    have t := T1 _ hp
    refine ⟨?_, fun ⟨_, k, _⟩ => by have := t.1.1 k; omega⟩
    rcases hcx : cont x with _ | _
    ·rfl
    ·have := (cont_iff x).1 hcx
     simp only [if_true]
     rw [if_neg (by omega)]
   ·have t := T2 _ hp (by omega)
    rcases hcx : cont x with _ | _
    ·left
     refine ⟨rfl, fun ⟨_, k, _⟩ => ?_⟩
     have := t.1.1 k
     exact cont_no x hcx (by omega)
    ·right
     have hxx := (cont_iff x).1 hcx
     simp only [if_true]
     rw [if_pos (by omega), show (c - 192) * 64 + (x - 128) = c % 32 * 64 + x % 64 from by omega]
     exact ⟨rfl, (isPt_iff _).2 (by omega), t.1.2 (by omega), t.2⟩
  ·have hcx : cont x = false := by simp [cont]; omega
   rw [hcx]
   exact rf_noFit s a 2 c w hs hc hlt hsz (by omega) (by omega) (by omega)
 rw [if_neg h3]
 by_cases h4 : c < 240
 ·rw [if_pos h4]
  have hsz : sizeF c = (3 : Nat) := by unfold sizeF; rw [if_neg h1, if_neg h2, if_neg h3, if_pos h4]; rfl
  by_cases hfit : a + 3 ≤ s.size
  ·refine rf_of s a 3 c ((c % 16 * 64 + x % 64) * 64 + y % 64) w hs hc hsz (by omega) (by omega) hfit (fun W => bits3 s a c x y W hs hc hx hy (by omega) hfit) (by omega) (by omega) _ ?_
   unfold goodP
   have hpi := isPt_iff ((c % 16 * 64 + x % 64) * 64 + y % 64)
   rcases hcc : cont x && cont y with _ | _
   ·left
    simp only [Bool.false_eq_true, if_false]
    refine ⟨trivial, fun ⟨_, k, hl⟩ => ?_⟩
    have hno : ¬ ((128 ≤ x ∧ x < 192) ∧ 128 ≤ y ∧ y < 192) := fun q => by
     rw [(cont_iff x).2 q.1, (cont_iff y).2 q.2] at hcc; cases hcc
    by_cases p1 : (c % 16 * 64 + x % 64) * 64 + y % 64 < 128
    ·have := (T1 _ p1).2; omega
    ·by_cases p2 : (c % 16 * 64 + x % 64) * 64 + y % 64 < 2048
     ·have := (T2 _ p1 p2).2; omega
     ·have := (T3 _ p1 p2 (by omega)).1.1 k
      omega
   ·simp only [Bool.and_eq_true] at hcc
    have hxx := (cont_iff x).1 hcc.1
    have hyy := (cont_iff y).1 hcc.2
    simp only [if_true]
    rw [show ((c - 224) * 64 + (x - 128)) * 64 + (y - 128) = (c % 16 * 64 + x % 64) * 64 + y % 64 from by omega]
    by_cases p2 : 2048 ≤ (c % 16 * 64 + x % 64) * 64 + y % 64
    ·have t := T3 _ (by omega) (by omega) (show (c % 16 * 64 + x % 64) * 64 + y % 64 < 65536 by omega)
     rcases hq : isPt ((c % 16 * 64 + x % 64) * 64 + y % 64) with _ | _
     ·left
      simp
     ·right
      simp only [Bool.and_true, decide_eq_true_eq, if_pos p2]
      exact ⟨trivial, trivial, t.1.2 (by omega), t.2⟩
    ·left
     simp only [Bool.and_eq_true, decide_eq_true_eq, p2, false_and, if_false]
     refine ⟨trivial, fun ⟨_, k, hl⟩ => ?_⟩
     by_cases p1 : (c % 16 * 64 + x % 64) * 64 + y % 64 < 128
     ·have := (T1 _ p1).2; omega
     ·have := (T2 _ p1 (by omega)).2; omega
  ·have hcx : (cont x && cont y) = false := by
    rcases hcc : cont x && cont y with _ | _
    ·rfl
    ·simp only [Bool.and_eq_true] at hcc
     have hyy := (cont_iff y).1 hcc.2
     omega
   rw [hcx]
   exact rf_noFit s a 3 c w hs hc hlt hsz (by omega) (by omega) (by omega)
 rw [if_neg h4]
 by_cases h5 : c < 248
 ·rw [if_pos h5]
  have hsz : sizeF c = (4 : Nat) := by unfold sizeF; rw [if_neg h1, if_neg h2, if_neg h3, if_neg h4, if_pos h5]; rfl
  by_cases hfit : a + 4 ≤ s.size
  ·refine rf_of s a 4 c (((c % 8 * 64 + x % 64) * 64 + y % 64) * 64 + z % 64) w hs hc hsz (by omega) (by omega) hfit (fun W => bits4 s a c x y z W hs hc hx hy hz (by omega) hfit) (by omega) (by omega) _ ?_
   unfold goodP
   have hpi := isPt_iff (((c % 8 * 64 + x % 64) * 64 + y % 64) * 64 + z % 64)
   rcases hcc : cont x && cont y && cont z with _ | _
   ·left
    simp only [Bool.false_eq_true, if_false]
    refine ⟨trivial, fun ⟨_, k, hl⟩ => ?_⟩
    have hno : ¬ ((128 ≤ x ∧ x < 192) ∧ (128 ≤ y ∧ y < 192) ∧ 128 ≤ z ∧ z < 192) := fun q => by
     rw [(cont_iff x).2 q.1, (cont_iff y).2 q.2.1, (cont_iff z).2 q.2.2] at hcc; cases hcc
    by_cases p1 : ((c % 8 * 64 + x % 64) * 64 + y % 64) * 64 + z % 64 < 128
    ·have := (T1 _ p1).2; omega
    ·by_cases p2 : ((c % 8 * 64 + x % 64) * 64 + y % 64) * 64 + z % 64 < 2048
     ·have := (T2 _ p1 p2).2; omega
     ·by_cases p3 : ((c % 8 * 64 + x % 64) * 64 + y % 64) * 64 + z % 64 < 65536
      ·have := (T3 _ p1 p2 p3).2; omega
      ·have := (T4 _ p1 p2 p3).1.1 k
       omega
   ·simp only [Bool.and_eq_true] at hcc
    have hxx := (cont_iff x).1 hcc.1.1
    have hyy := (cont_iff y).1 hcc.1.2
    have hzz := (cont_iff z).1 hcc.2
    simp only [if_true]
    rw [show (((c - 240) * 64 + (x - 128)) * 64 + (y - 128)) * 64 + (z - 128) = ((c % 8 * 64 + x % 64) * 64 + y % 64) * 64 + z % 64 from by omega]
    by_cases p2 : 65536 ≤ ((c % 8 * 64 + x % 64) * 64 + y % 64) * 64 + z % 64
    ·have t := T4 (((c % 8 * 64 + x % 64) * 64 + y % 64) * 64 + z % 64) (by omega) (by omega) (by omega)
     rcases hq : isPt (((c % 8 * 64 + x % 64) * 64 + y % 64) * 64 + z % 64) with _ | _
     ·left
      simp
     ·right
      simp only [Bool.and_true, decide_eq_true_eq, if_pos p2]
      exact ⟨trivial, trivial, t.1.2 (by omega), t.2⟩
    ·left
     simp only [Bool.and_eq_true, decide_eq_true_eq, p2, false_and, if_false]
     refine ⟨trivial, fun ⟨_, k, hl⟩ => ?_⟩
     by_cases p1 : ((c % 8 * 64 + x % 64) * 64 + y % 64) * 64 + z % 64 < 128
     ·have := (T1 _ p1).2; omega
     ·by_cases p4 : ((c % 8 * 64 + x % 64) * 64 + y % 64) * 64 + z % 64 < 2048
      ·have := (T2 _ p1 p4).2; omega
      ·have := (T3 _ p1 p4 (by omega)).2; omega
  ·have hcx : (cont x && cont y && cont z) = false := by
    rcases hcc : cont x && cont y && cont z with _ | _
    ·rfl
    ·simp only [Bool.and_eq_true] at hcc
     have hzz := (cont_iff z).1 hcc.2
     omega
   rw [hcx]
   exact rf_noFit s a 4 c w hs hc hlt hsz (by omega) (by omega) (by omega)
 rw [if_neg h5]
 exact rf_no0 s a 0 c w hs hc hlt (by unfold sizeF; rw [if_neg h1, if_neg h2, if_neg h3, if_neg h4, if_neg h5]; rfl) rfl
end Go.Proofs.YtcpkjmpbpmeclaaGreatDoor.Utf
namespace Go.Proofs.YtcpkjmpbpmeclaaGreatDoor.Utf
open Go.RowKit
set_option maxRecDepth 100000
set_option linter.unusedVariables false
set_option linter.unusedSimpArgs false
set_option linter.unnecessarySimpa false

theorem refBad_any (s : ByteArray) (w : World) (hs : s.size ≤ 140737488351232) :
  Calls Tryz.prog 235 #[.string s] w fun e w' => e = .returned (.int .i64 (badF s : Nat)) ∧ Below w.heap.size w w' := by
 go_enter Tryz.func235, Tryz.ntmps235
 go_wp2
 go_loopw [3] (fun i W => ∃ a k : Nat, i = .int .i64 a ∧ a ≤ s.size ∧ s.size ≤ a + k ∧ badF s = badK k s a ∧ Below w.heap.size w W) (fun i _ => s.size - (intOf i).toNat)
 case atStart => exact ⟨0, s.size, rfl, by omega, by omega, rfl, Below.refl _ _⟩
 case round =>
  obtain ⟨a, k, rfl, ha, hk, hb, hB⟩ := hrel
  by_cases hlt : a < s.size
  ·have hf := fun w => refFirst_any s a w hs hlt
   have hlt2 : (a : Int) < (s.size : Int) := by omega
   have hBs := hB.size
   rcases hd : decS s a with _ | ⟨p, n⟩
   ·rw [hd] at hf
    rw [badK_none hd] at hb
    have HB := Lib.hid hb
    clear hb hd hlt
    simp only [stepV] at hf
    go_wp2_with (go_at_call 255; refine (hf _).mono ?_; rintro e w1 ⟨rfl, hb1⟩)
    go_ret
    exact ⟨by rw [HB.out]; rfl, (below_on hB hb1).alloc (by have := hb1.size; omega) _⟩
   ·rw [hd] at hf
    have hds := decS_some hd
    obtain ⟨k, rfl⟩ : ∃ q, k = q + 1 := ⟨k - 1, by omega⟩
    rw [badK_some hd] at hb
    have HB := Lib.hid hb
    obtain ⟨_, hn1, hn4, han⟩ := hds
    clear hb hd hlt
    simp only [stepV] at hf
    go_wp2_with (go_at_call 255; refine (hf _).mono ?_; rintro e w1 ⟨rfl, hb1⟩)
    exact ⟨⟨a + n, k, by go_num, by omega, by omega, HB.out, (below_on hB hb1).alloc (by have := hb1.size; omega) _⟩, by simp [intOf]; omega⟩
  ·rw [badK_end (by omega)] at hb
   obtain rfl : a = s.size := by omega
   have HB := Lib.hid hb
   clear hb
   go_wp2
   go_ret
   exact ⟨by rw [HB.out]; rfl, hB⟩

/-- What a step weighs. -/
theorem refIs_any (s : ByteArray) (w : World) (hs : s.size ≤ 140737488351232) : Calls Tryz.prog 204 #[.string s] w fun e w' => e = .returned (.bool (decide (badF s = s.size))) ∧ Below w.heap.size w w' := by
 have hb := refBad_any s w hs
 have e : ((badF s : Int) == (s.size : Int)) = decide (badF s = s.size) := by
  by_cases h : badF s = s.size
  ·rw [h]; simp
  ·simp only [h, decide_false, beq_eq_false_iff_ne]; omega
 generalize decide (badF s = s.size) = b at *
 generalize badF s = x at *
 go_enter Tryz.func204, Tryz.ntmps204
 go_wp2_with (go_at_call 235; refine hb.mono ?_; rintro e w1 ⟨rfl, hb1⟩)
 go_ret
 exact ⟨rfl, hb1⟩
end Go.Proofs.YtcpkjmpbpmeclaaGreatDoor.Utf
