/- The document's First where it tells no step. -/
import Derived.Test.YtolnnkalgioobaaGreatDoorF
namespace Go.Proofs.YtolnnkalgioobaaGreatDoor
open Go.RowKit
set_option maxRecDepth 100000
set_option linter.unusedVariables false
set_option linter.unusedSimpArgs false
set_option linter.unnecessarySimpa false

theorem rf_no0 (s : ByteArray) (a n : Nat) (c : Int) (w : World) (hs : s.size ≤ 140737488351232) (hc : at1 s a = c) (hlt : (a : Int) < (s.size : Int)) (hn : sizeF c = n) (h0 : n = 0) :
    Calls Tryz.prog 86 #[.string s, .int .i64 a] w fun e w' => e = .returned (.agg #[.int .i64 a, .int .i64 1, .int .i64 c, .bool false]) ∧ Below w.heap.size w w' := by
  have hi := fun W => idx_run s a (by omega) W
  have hsz := fun w => size_any c w
  have hr1 : c ≤ 255 := by have := at1_range s a; omega
  have hr0 : 0 ≤ c := by have := (at1_in s a).2 (by omega); omega
  rw [hc] at hi
  rw [hn] at hsz
  have hT0 : Hid (∀ W : World, Below (w.heap.size + 1) (w.alloc (.cells #[.int .i64 0, .int .i64 0, .int .i64 0, .bool false] 61)) W → W.there w.heap.size 0 4 ∧ Below w.heap.size w W) := fun W hb =>
    ⟨there_blk (b := w.heap.size) (cs := #[.int .i64 0, .int .i64 0, .int .i64 0, .bool false]) (t := 61) ((hb.block _ (by omega)).trans Array.getElem?_push_size) 4 rfl, Below.trans ((Below.refl _ _).alloc (Nat.le_refl _) _) (hb.mono (by omega))⟩
  subst h0
  clear hc hn
  go_enter Tryz.func86, Tryz.ntmps86
  go_upto_region 2 with (go_at_call 114; refine (hsz _).mono ?_; rintro e w1 ⟨rfl, rfl⟩)
  have hb0 : Below (w.heap.size + 1) (w.alloc (.cells #[.int .i64 0, .int .i64 0, .int .i64 0, .bool false] 61)) (w.alloc (.cells #[.int .i64 0, .int .i64 0, .int .i64 0, .bool false] 61)) := Below.refl _ _
  have hsz1 : w.heap.size + 1 ≤ (w.alloc (.cells #[.int .i64 0, .int .i64 0, .int .i64 0, .bool false] 61)).heap.size := by simp
  show Code.wp _ _ _ _ (w.alloc (.cells #[.int .i64 0, .int .i64 0, .int .i64 0, .bool false] 61))
  generalize (w.alloc (.cells #[.int .i64 0, .int .i64 0, .int .i64 0, .bool false] 61)) = w0 at hb0 hsz1 hT0 ⊢
  obtain ⟨hT, hB⟩ := hT0.out w0 hb0
  have HT : Hid (w0.there w.heap.size 0 (#[.int .i64 a, .int .i64 1, .int .i64 c, .bool false] : Array Value).size) := Lib.hid hT
  have HZ : Hid ((Tryz.prog.info? 61).map (·.size) = some (#[.int .i64 a, .int .i64 1, .int .i64 c, .bool false] : Array Value).size) := Lib.hid size27
  have HA : Hid ((#[.int .i64 a, .int .i64 1, .int .i64 c, .bool false] : Array Value).all (·.oneCell') = true) := Lib.hid (all_oneCell_toArray (cs := [.int .i64 a, .int .i64 1, .int .i64 c, .bool false]) (fun v hv => by simp only [List.mem_cons, List.not_mem_nil, or_false] at hv; rcases hv with rfl | rfl | rfl | rfl <;> rfl))
  clear hT0 hb0 hsz1
  go_wp2_with (with_reducible refine wpList_store_mid rfl 61 (.tmp 4) (.tmp 50) rfl w.heap.size 0 #[.int .i64 a, .int .i64 1, .int .i64 c, .bool false] rfl rfl HT.out HZ.out HA.out ?_)
  have hLd := run_loadVar_mid (P := Tryz.prog) (w0.setCells w.heap.size 0 [.int .i64 a, .int .i64 1, .int .i64 c, .bool false]) w.heap.size 0 61 [.int .i64 a, .int .i64 1, .int .i64 c, .bool false] _ (World.rangeAt_setCells_same _ _ _ _ HT.out) Tryz.underlying61 rfl size27
  have hBZ := below_setCells [.int .i64 a, .int .i64 1, .int .i64 c, .bool false] w.heap.size 0 w0 hB (Nat.le_refl _)
  refine bodyPost_ret (v := .agg #[.int .i64 a, .int .i64 1, .int .i64 c, .bool false]) ?_ rfl ⟨rfl, hBZ⟩
  simp [results, Tryz.results86, hLd, asAddr, Act.put]
theorem rf_noFit (s : ByteArray) (a n : Nat) (c : Int) (w : World) (hs : s.size ≤ 140737488351232) (hc : at1 s a = c) (hlt : (a : Int) < (s.size : Int)) (hn : sizeF c = n) (h1 : 1 ≤ n) (h2 : s.size < a + n) (h4 : n ≤ 4) :
    Calls Tryz.prog 86 #[.string s, .int .i64 a] w fun e w' => e = .returned (.agg #[.int .i64 a, .int .i64 1, .int .i64 c, .bool false]) ∧ Below w.heap.size w w' := by
  have hi := fun W => idx_run s a (by omega) W
  have hsz := fun w => size_any c w
  have hr1 : c ≤ 255 := by have := at1_range s a; omega
  have hr0 : 0 ≤ c := by have := (at1_in s a).2 (by omega); omega
  rw [hc] at hi
  rw [hn] at hsz
  have hT0 : Hid (∀ W : World, Below (w.heap.size + 1) (w.alloc (.cells #[.int .i64 0, .int .i64 0, .int .i64 0, .bool false] 61)) W → W.there w.heap.size 0 4 ∧ Below w.heap.size w W) := fun W hb =>
    ⟨there_blk (b := w.heap.size) (cs := #[.int .i64 0, .int .i64 0, .int .i64 0, .bool false]) (t := 61) ((hb.block _ (by omega)).trans Array.getElem?_push_size) 4 rfl, Below.trans ((Below.refl _ _).alloc (Nat.le_refl _) _) (hb.mono (by omega))⟩
  have hpos : (0 : Int) < (n : Int) := by omega
  have hle : (s.size : Int) < (a : Int) + (n : Int) := by omega
  have hpos2 : 0 < n := h1
  clear hc hn h1
  go_enter Tryz.func86, Tryz.ntmps86
  go_upto_region 2 with (go_at_call 114; refine (hsz _).mono ?_; rintro e w1 ⟨rfl, rfl⟩)
  have hb0 : Below (w.heap.size + 1) (w.alloc (.cells #[.int .i64 0, .int .i64 0, .int .i64 0, .bool false] 61)) (w.alloc (.cells #[.int .i64 0, .int .i64 0, .int .i64 0, .bool false] 61)) := Below.refl _ _
  have hsz1 : w.heap.size + 1 ≤ (w.alloc (.cells #[.int .i64 0, .int .i64 0, .int .i64 0, .bool false] 61)).heap.size := by simp
  show Code.wp _ _ _ _ (w.alloc (.cells #[.int .i64 0, .int .i64 0, .int .i64 0, .bool false] 61))
  generalize (w.alloc (.cells #[.int .i64 0, .int .i64 0, .int .i64 0, .bool false] 61)) = w0 at hb0 hsz1 hT0 ⊢
  obtain ⟨hT, hB⟩ := hT0.out w0 hb0
  have HT : Hid (w0.there w.heap.size 0 (#[.int .i64 a, .int .i64 1, .int .i64 c, .bool false] : Array Value).size) := Lib.hid hT
  have HZ : Hid ((Tryz.prog.info? 61).map (·.size) = some (#[.int .i64 a, .int .i64 1, .int .i64 c, .bool false] : Array Value).size) := Lib.hid size27
  have HA : Hid ((#[.int .i64 a, .int .i64 1, .int .i64 c, .bool false] : Array Value).all (·.oneCell') = true) := Lib.hid (all_oneCell_toArray (cs := [.int .i64 a, .int .i64 1, .int .i64 c, .bool false]) (fun v hv => by simp only [List.mem_cons, List.not_mem_nil, or_false] at hv; rcases hv with rfl | rfl | rfl | rfl <;> rfl))
  clear hT0 hb0 hsz1
  go_wp2_with (with_reducible refine wpList_store_mid rfl 61 (.tmp 4) (.tmp 50) rfl w.heap.size 0 #[.int .i64 a, .int .i64 1, .int .i64 c, .bool false] rfl rfl HT.out HZ.out HA.out ?_)
  have hLd := run_loadVar_mid (P := Tryz.prog) (w0.setCells w.heap.size 0 [.int .i64 a, .int .i64 1, .int .i64 c, .bool false]) w.heap.size 0 61 [.int .i64 a, .int .i64 1, .int .i64 c, .bool false] _ (World.rangeAt_setCells_same _ _ _ _ HT.out) Tryz.underlying61 rfl size27
  have hBZ := below_setCells [.int .i64 a, .int .i64 1, .int .i64 c, .bool false] w.heap.size 0 w0 hB (Nat.le_refl _)
  refine bodyPost_ret (v := .agg #[.int .i64 a, .int .i64 1, .int .i64 c, .bool false]) ?_ rfl ⟨rfl, hBZ⟩
  simp [results, Tryz.results86, hLd, asAddr, Act.put]
theorem rf_noPt (s : ByteArray) (a n : Nat) (c P : Int) (w : World) (hs : s.size ≤ 140737488351232) (hc : at1 s a = c) (hlt : (a : Int) < (s.size : Int)) (hn : sizeF c = n) (h1 : 1 ≤ n) (hfit : a + n ≤ s.size) (h4 : n ≤ 4) (hbits : ∀ W, Calls Tryz.prog 115 #[.string s, .int .i64 a, .int .i64 n] W fun e w' => e = .returned (.int .i64 P) ∧ Below W.heap.size W w') (hp : isPt P = false) :
    Calls Tryz.prog 86 #[.string s, .int .i64 a] w fun e w' => e = .returned (.agg #[.int .i64 a, .int .i64 1, .int .i64 c, .bool false]) ∧ Below w.heap.size w w' := by
  have hi := fun W => idx_run s a (by omega) W
  have hsz := fun w => size_any c w
  have hr1 : c ≤ 255 := by have := at1_range s a; omega
  have hr0 : 0 ≤ c := by have := (at1_in s a).2 (by omega); omega
  rw [hc] at hi
  rw [hn] at hsz
  have hT0 : Hid (∀ W : World, Below (w.heap.size + 1) (w.alloc (.cells #[.int .i64 0, .int .i64 0, .int .i64 0, .bool false] 61)) W → W.there w.heap.size 0 4 ∧ Below w.heap.size w W) := fun W hb =>
    ⟨there_blk (b := w.heap.size) (cs := #[.int .i64 0, .int .i64 0, .int .i64 0, .bool false]) (t := 61) ((hb.block _ (by omega)).trans Array.getElem?_push_size) 4 rfl, Below.trans ((Below.refl _ _).alloc (Nat.le_refl _) _) (hb.mono (by omega))⟩
  have hpos : (0 : Int) < (n : Int) := by omega
  have hle : (a : Int) + (n : Int) ≤ (s.size : Int) := by omega
  have hpt := fun w => refPoint_any P w
  rw [hp] at hpt
  clear hc hn hp
  go_enter Tryz.func86, Tryz.ntmps86
  go_upto_region 2 with (go_at_call 114; refine (hsz _).mono ?_; rintro e w1 ⟨rfl, rfl⟩)
  have hb0 : Below (w.heap.size + 1) (w.alloc (.cells #[.int .i64 0, .int .i64 0, .int .i64 0, .bool false] 61)) (w.alloc (.cells #[.int .i64 0, .int .i64 0, .int .i64 0, .bool false] 61)) := Below.refl _ _
  have hsz1 : w.heap.size + 1 ≤ (w.alloc (.cells #[.int .i64 0, .int .i64 0, .int .i64 0, .bool false] 61)).heap.size := by simp
  show Code.wp _ _ _ _ (w.alloc (.cells #[.int .i64 0, .int .i64 0, .int .i64 0, .bool false] 61))
  generalize (w.alloc (.cells #[.int .i64 0, .int .i64 0, .int .i64 0, .bool false] 61)) = w0 at hb0 hsz1 hT0 ⊢
  go_upto_region 4 with (go_at_call 115; refine (hbits _).mono ?_; rintro e w1 ⟨rfl, hb1⟩)
  have hB1 : Below (w.heap.size + 1) w0 w1 := hb0.trans (hb1.mono hsz1)
  have hs1 := hB1.size
  go_upto_region 6 with (go_at_call 28; refine (hpt _).mono ?_; rintro e w2 ⟨rfl, rfl⟩)
  obtain ⟨hT, hB⟩ := hT0.out w1 hB1
  have HT : Hid (w1.there w.heap.size 0 (#[.int .i64 a, .int .i64 1, .int .i64 c, .bool false] : Array Value).size) := Lib.hid hT
  have HZ : Hid ((Tryz.prog.info? 61).map (·.size) = some (#[.int .i64 a, .int .i64 1, .int .i64 c, .bool false] : Array Value).size) := Lib.hid size27
  have HA : Hid ((#[.int .i64 a, .int .i64 1, .int .i64 c, .bool false] : Array Value).all (·.oneCell') = true) := Lib.hid (all_oneCell_toArray (cs := [.int .i64 a, .int .i64 1, .int .i64 c, .bool false]) (fun v hv => by simp only [List.mem_cons, List.not_mem_nil, or_false] at hv; rcases hv with rfl | rfl | rfl | rfl <;> rfl))
  clear hT0 hb0 hsz1 hb1 hB1 hs1
  go_wp2_with (with_reducible refine wpList_store_mid rfl 61 (.tmp 4) (.tmp 50) rfl w.heap.size 0 #[.int .i64 a, .int .i64 1, .int .i64 c, .bool false] rfl rfl HT.out HZ.out HA.out ?_)
  have hLd := run_loadVar_mid (P := Tryz.prog) (w1.setCells w.heap.size 0 [.int .i64 a, .int .i64 1, .int .i64 c, .bool false]) w.heap.size 0 61 [.int .i64 a, .int .i64 1, .int .i64 c, .bool false] _ (World.rangeAt_setCells_same _ _ _ _ HT.out) Tryz.underlying61 rfl size27
  have hBZ := below_setCells [.int .i64 a, .int .i64 1, .int .i64 c, .bool false] w.heap.size 0 w1 hB (Nat.le_refl _)
  refine bodyPost_ret (v := .agg #[.int .i64 a, .int .i64 1, .int .i64 c, .bool false]) ?_ rfl ⟨rfl, hBZ⟩
  simp [results, Tryz.results86, hLd, asAddr, Act.put]
theorem rf_noSt (s : ByteArray) (a n : Nat) (c P : Int) (w : World) (hs : s.size ≤ 140737488351232) (hc : at1 s a = c) (hlt : (a : Int) < (s.size : Int)) (hn : sizeF c = n) (h1 : 1 ≤ n) (hfit : a + n ≤ s.size) (h4 : n ≤ 4) (hbits : ∀ W, Calls Tryz.prog 115 #[.string s, .int .i64 a, .int .i64 n] W fun e w' => e = .returned (.int .i64 P) ∧ Below W.heap.size W w') (h0 : 0 ≤ P) (hP1 : P < 2097152) (hp : isPt P = true) (hst : decide (∀ j, j < (encL P).length → at1 s (a + j) = (encL P).getD j 0) = false) :
    Calls Tryz.prog 86 #[.string s, .int .i64 a] w fun e w' => e = .returned (.agg #[.int .i64 a, .int .i64 1, .int .i64 c, .bool false]) ∧ Below w.heap.size w w' := by
  have hi := fun W => idx_run s a (by omega) W
  have hsz := fun w => size_any c w
  have hr1 : c ≤ 255 := by have := at1_range s a; omega
  have hr0 : 0 ≤ c := by have := (at1_in s a).2 (by omega); omega
  rw [hc] at hi
  rw [hn] at hsz
  have hT0 : Hid (∀ W : World, Below (w.heap.size + 1) (w.alloc (.cells #[.int .i64 0, .int .i64 0, .int .i64 0, .bool false] 61)) W → W.there w.heap.size 0 4 ∧ Below w.heap.size w W) := fun W hb =>
    ⟨there_blk (b := w.heap.size) (cs := #[.int .i64 0, .int .i64 0, .int .i64 0, .bool false]) (t := 61) ((hb.block _ (by omega)).trans Array.getElem?_push_size) 4 rfl, Below.trans ((Below.refl _ _).alloc (Nat.le_refl _) _) (hb.mono (by omega))⟩
  have hpos : (0 : Int) < (n : Int) := by omega
  have hle : (a : Int) + (n : Int) ≤ (s.size : Int) := by omega
  have hpt := fun w => refPoint_any P w
  rw [hp] at hpt
  have hel := encL_len P
  have hst2 := fun (A : Option Addr) (W : World) (h : RK W .u8 A (encL P)) => stands_any s a A (encL P).length (encL P).length (encL P) W rfl h (by omega) hs (by omega) hel.1 (encL_bytes P h0)
  rw [hst] at hst2
  have hen := fun W => enc_row P W h0 hP1
  obtain ⟨m, hm⟩ : ∃ m, (encL P).length = m := ⟨_, rfl⟩
  rw [hm] at hst2 hen
  clear hc hn hp hst hel hm
  go_enter Tryz.func86, Tryz.ntmps86
  go_upto_region 2 with (go_at_call 114; refine (hsz _).mono ?_; rintro e w1 ⟨rfl, rfl⟩)
  have hb0 : Below (w.heap.size + 1) (w.alloc (.cells #[.int .i64 0, .int .i64 0, .int .i64 0, .bool false] 61)) (w.alloc (.cells #[.int .i64 0, .int .i64 0, .int .i64 0, .bool false] 61)) := Below.refl _ _
  have hsz1 : w.heap.size + 1 ≤ (w.alloc (.cells #[.int .i64 0, .int .i64 0, .int .i64 0, .bool false] 61)).heap.size := by simp
  show Code.wp _ _ _ _ (w.alloc (.cells #[.int .i64 0, .int .i64 0, .int .i64 0, .bool false] 61))
  generalize (w.alloc (.cells #[.int .i64 0, .int .i64 0, .int .i64 0, .bool false] 61)) = w0 at hb0 hsz1 hT0 ⊢
  go_upto_region 4 with (go_at_call 115; refine (hbits _).mono ?_; rintro e w1 ⟨rfl, hb1⟩)
  have hB1 : Below (w.heap.size + 1) w0 w1 := hb0.trans (hb1.mono hsz1)
  have hs1 := hB1.size
  go_upto_region 6 with (first
    | (go_at_call 28; refine (hpt _).mono ?_; rintro e w2 ⟨rfl, rfl⟩)
    | (go_at_call 29; refine (hen w1).mono ?_; rintro e w2 ⟨g, rfl, hrow, hb2⟩)
    | (go_at_call 116; refine (hst2 _ _ hrow).mono ?_; rintro e w3 ⟨rfl, hb3⟩))
  have hB3 : Below (w.heap.size + 1) w0 w3 := hB1.trans ((below_on hb2 hb3).mono (by omega))
  obtain ⟨hT, hB⟩ := hT0.out w3 hB3
  have HT : Hid (w3.there w.heap.size 0 (#[.int .i64 a, .int .i64 1, .int .i64 c, .bool false] : Array Value).size) := Lib.hid hT
  have HZ : Hid ((Tryz.prog.info? 61).map (·.size) = some (#[.int .i64 a, .int .i64 1, .int .i64 c, .bool false] : Array Value).size) := Lib.hid size27
  have HA : Hid ((#[.int .i64 a, .int .i64 1, .int .i64 c, .bool false] : Array Value).all (·.oneCell') = true) := Lib.hid (all_oneCell_toArray (cs := [.int .i64 a, .int .i64 1, .int .i64 c, .bool false]) (fun v hv => by simp only [List.mem_cons, List.not_mem_nil, or_false] at hv; rcases hv with rfl | rfl | rfl | rfl <;> rfl))
  clear hT0 hb0 hsz1 hb1 hB1 hs1 hrow hb2 hb3 hB3
  go_wp2_with (with_reducible refine wpList_store_mid rfl 61 (.tmp 4) (.tmp 50) rfl w.heap.size 0 #[.int .i64 a, .int .i64 1, .int .i64 c, .bool false] rfl rfl HT.out HZ.out HA.out ?_)
  have hLd := run_loadVar_mid (P := Tryz.prog) (w3.setCells w.heap.size 0 [.int .i64 a, .int .i64 1, .int .i64 c, .bool false]) w.heap.size 0 61 [.int .i64 a, .int .i64 1, .int .i64 c, .bool false] _ (World.rangeAt_setCells_same _ _ _ _ HT.out) Tryz.underlying61 rfl size27
  have hBZ := below_setCells [.int .i64 a, .int .i64 1, .int .i64 c, .bool false] w.heap.size 0 w3 hB (Nat.le_refl _)
  refine bodyPost_ret (v := .agg #[.int .i64 a, .int .i64 1, .int .i64 c, .bool false]) ?_ rfl ⟨rfl, hBZ⟩
  simp [results, Tryz.results86, hLd, asAddr, Act.put]
theorem rf_noLen (s : ByteArray) (a n : Nat) (c P : Int) (w : World) (hs : s.size ≤ 140737488351232) (hc : at1 s a = c) (hlt : (a : Int) < (s.size : Int)) (hn : sizeF c = n) (h1 : 1 ≤ n) (hfit : a + n ≤ s.size) (h4 : n ≤ 4) (hbits : ∀ W, Calls Tryz.prog 115 #[.string s, .int .i64 a, .int .i64 n] W fun e w' => e = .returned (.int .i64 P) ∧ Below W.heap.size W w') (h0 : 0 ≤ P) (hP1 : P < 2097152) (hp : isPt P = true) (hst : decide (∀ j, j < (encL P).length → at1 s (a + j) = (encL P).getD j 0) = true) (hne : (encL P).length ≠ n) :
    Calls Tryz.prog 86 #[.string s, .int .i64 a] w fun e w' => e = .returned (.agg #[.int .i64 a, .int .i64 1, .int .i64 c, .bool false]) ∧ Below w.heap.size w w' := by
  have hi := fun W => idx_run s a (by omega) W
  have hsz := fun w => size_any c w
  have hr1 : c ≤ 255 := by have := at1_range s a; omega
  have hr0 : 0 ≤ c := by have := (at1_in s a).2 (by omega); omega
  rw [hc] at hi
  rw [hn] at hsz
  have hT0 : Hid (∀ W : World, Below (w.heap.size + 1) (w.alloc (.cells #[.int .i64 0, .int .i64 0, .int .i64 0, .bool false] 61)) W → W.there w.heap.size 0 4 ∧ Below w.heap.size w W) := fun W hb =>
    ⟨there_blk (b := w.heap.size) (cs := #[.int .i64 0, .int .i64 0, .int .i64 0, .bool false]) (t := 61) ((hb.block _ (by omega)).trans Array.getElem?_push_size) 4 rfl, Below.trans ((Below.refl _ _).alloc (Nat.le_refl _) _) (hb.mono (by omega))⟩
  have hpos : (0 : Int) < (n : Int) := by omega
  have hle : (a : Int) + (n : Int) ≤ (s.size : Int) := by omega
  have hpt := fun w => refPoint_any P w
  rw [hp] at hpt
  have hel := encL_len P
  have hst2 := fun (A : Option Addr) (W : World) (h : RK W .u8 A (encL P)) => stands_any s a A (encL P).length (encL P).length (encL P) W rfl h (by omega) hs (by omega) hel.1 (encL_bytes P h0)
  rw [hst] at hst2
  have hen := fun W => enc_row P W h0 hP1
  obtain ⟨m, hm⟩ : ∃ m, (encL P).length = m := ⟨_, rfl⟩
  rw [hm] at hst2 hen
  have hmn : ((m : Int) == (n : Int)) = false := by simp; omega
  clear hc hn hp hst hel hm hne
  go_enter Tryz.func86, Tryz.ntmps86
  go_upto_region 2 with (go_at_call 114; refine (hsz _).mono ?_; rintro e w1 ⟨rfl, rfl⟩)
  have hb0 : Below (w.heap.size + 1) (w.alloc (.cells #[.int .i64 0, .int .i64 0, .int .i64 0, .bool false] 61)) (w.alloc (.cells #[.int .i64 0, .int .i64 0, .int .i64 0, .bool false] 61)) := Below.refl _ _
  have hsz1 : w.heap.size + 1 ≤ (w.alloc (.cells #[.int .i64 0, .int .i64 0, .int .i64 0, .bool false] 61)).heap.size := by simp
  show Code.wp _ _ _ _ (w.alloc (.cells #[.int .i64 0, .int .i64 0, .int .i64 0, .bool false] 61))
  generalize (w.alloc (.cells #[.int .i64 0, .int .i64 0, .int .i64 0, .bool false] 61)) = w0 at hb0 hsz1 hT0 ⊢
  go_upto_region 4 with (go_at_call 115; refine (hbits _).mono ?_; rintro e w1 ⟨rfl, hb1⟩)
  have hB1 : Below (w.heap.size + 1) w0 w1 := hb0.trans (hb1.mono hsz1)
  have hs1 := hB1.size
  go_upto_region 6 with (first
    | (go_at_call 28; refine (hpt _).mono ?_; rintro e w2 ⟨rfl, rfl⟩)
    | (go_at_call 29; refine (hen w1).mono ?_; rintro e w2 ⟨g, rfl, hrow, hb2⟩)
    | (go_at_call 116; refine (hst2 _ _ hrow).mono ?_; rintro e w3 ⟨rfl, hb3⟩)
    | (go_at_call 29; refine (hen w3).mono ?_; rintro e w4 ⟨g4, rfl, _, hb4⟩))
  have hB4 : Below (w.heap.size + 1) w0 w4 := hB1.trans ((below_on (below_on hb2 hb3) hb4).mono (by omega))
  obtain ⟨hT, hB⟩ := hT0.out w4 hB4
  have HT : Hid (w4.there w.heap.size 0 (#[.int .i64 a, .int .i64 1, .int .i64 c, .bool false] : Array Value).size) := Lib.hid hT
  have HZ : Hid ((Tryz.prog.info? 61).map (·.size) = some (#[.int .i64 a, .int .i64 1, .int .i64 c, .bool false] : Array Value).size) := Lib.hid size27
  have HA : Hid ((#[.int .i64 a, .int .i64 1, .int .i64 c, .bool false] : Array Value).all (·.oneCell') = true) := Lib.hid (all_oneCell_toArray (cs := [.int .i64 a, .int .i64 1, .int .i64 c, .bool false]) (fun v hv => by simp only [List.mem_cons, List.not_mem_nil, or_false] at hv; rcases hv with rfl | rfl | rfl | rfl <;> rfl))
  clear hT0 hb0 hsz1 hb1 hB1 hs1 hrow hb2 hb3 hb4 hB4
  go_wp2_with (with_reducible refine wpList_store_mid rfl 61 (.tmp 4) (.tmp 50) rfl w.heap.size 0 #[.int .i64 a, .int .i64 1, .int .i64 c, .bool false] rfl rfl HT.out HZ.out HA.out ?_)
  have hLd := run_loadVar_mid (P := Tryz.prog) (w4.setCells w.heap.size 0 [.int .i64 a, .int .i64 1, .int .i64 c, .bool false]) w.heap.size 0 61 [.int .i64 a, .int .i64 1, .int .i64 c, .bool false] _ (World.rangeAt_setCells_same _ _ _ _ HT.out) Tryz.underlying61 rfl size27
  have hBZ := below_setCells [.int .i64 a, .int .i64 1, .int .i64 c, .bool false] w.heap.size 0 w4 hB (Nat.le_refl _)
  refine bodyPost_ret (v := .agg #[.int .i64 a, .int .i64 1, .int .i64 c, .bool false]) ?_ rfl ⟨rfl, hBZ⟩
  simp [results, Tryz.results86, hLd, asAddr, Act.put]
end Go.Proofs.YtolnnkalgioobaaGreatDoor
