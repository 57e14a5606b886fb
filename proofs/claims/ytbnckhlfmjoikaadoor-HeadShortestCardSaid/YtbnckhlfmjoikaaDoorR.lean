/- head.Read: the first byte, and further. -/
import Derived.Test.YtbnckhlfmjoikaaDoorQ
namespace Go.Proofs.YtbnckhlfmjoikaaDoor
open Go.RowKit
set_option maxRecDepth 100000
set_option linter.unusedVariables false
set_option linter.unusedSimpArgs false
set_option linter.unnecessarySimpa false

theorem read_direct (s : ByteArray) (n : Nat) (c m i : Int) (w : World) (hs : s.size ≤ 140737488351232) (hn : n < s.size) (hc : at1 s n = c) (hm : c / 32 = m) (hi : c % 32 = i) (h24 : i < 24) :
    Calls Tryd.prog 14 #[.string s, .int .i64 n] w fun e w' => e = .returned (.tuple #[.agg #[.int .u8 m, .int .u8 i, .int .u64 i, .int .i64 1], .nilIface]) ∧ Below w.heap.size w w' := by
  have hix := fun W => idx_run s n hn W
  have hr1 : c ≤ 255 := by have := at1_range s n; omega
  have hr0 : 0 ≤ c := by have := (at1_in s n).2 hn; omega
  rw [hc] at hix
  have ha : bits BinOp.and .u8 c 31 = i := by rw [and31 c hr0 hr1, hi]
  have hm0 : 0 ≤ m := by omega
  have hm1 : m ≤ 7 := by omega
  have hi0 : 0 ≤ i := by omega
  have h0 : ¬ (n : Int) < 0 := by omega
  have hlt : (n : Int) < (s.size : Int) := by omega
  clear hc hn hi
  go_enter Tryd.func14, Tryd.ntmps14
  go_wp2
  go_region
  go_wp2
  have hLd := load_at ((w.alloc (.cells #[.int .u8 m, .int .u8 i, .int .u64 i, .int .i64 1] 29)).alloc (.cells #[.int .u8 m, .int .u8 i, .int .u64 i, .int .i64 1] 29)).drew w.heap.size m i i 1 ((Below.heap_alloc (w.alloc (.cells #[.int .u8 m, .int .u8 i, .int .u64 i, .int .i64 1] 29)) _ _ (by simp)).trans Array.getElem?_push_size)
  refine bodyPost_ret (v := .tuple #[.agg #[.int .u8 m, .int .u8 i, .int .u64 i, .int .i64 1], .nilIface]) ?_ rfl ⟨rfl, ((((Below.refl _ _).alloc (Nat.le_refl _) _)).alloc (by simp) _).drew⟩
  simp [results, Tryd.results14, hLd, asAddr, Act.put]

def hdW (w : World) (m i : Int) : World := ((w.alloc (.cells zH 29)).alloc (.cells #[.int .u8 m, .int .u8 i, .int .u64 0, .int .i64 1] 29)).drew
theorem below_hd (w : World) (m i : Int) : Below w.heap.size w (hdW w m i) := (((Below.refl _ _).alloc (Nat.le_refl _) _).alloc (by simp) _).drew

theorem size_hd (w : World) (m i : Int) : (hdW w m i).heap.size = w.heap.size + 2 := by show ((w.alloc _).alloc _).heap.size = _; simp
theorem blk_hd (w : World) (m i : Int) : (hdW w m i).heap[w.heap.size]? = some (.cells zH 29 (0, 0)) := (Below.heap_alloc (w.alloc (.cells zH 29)) _ _ (by simp)).trans Array.getElem?_push_size
theorem there_hd {w W : World} {m i : Int} (h : Below (hdW w m i).heap.size (hdW w m i) W) (vs : Array Value) (hn : vs.size = 4) : W.there w.heap.size 0 vs.size :=
  there_blk (cs := zH) (t := 29) ((h.block _ (by rw [size_hd]; omega)).trans (blk_hd w m i)) _ hn
theorem below_of_hd {w W : World} {m i : Int} (h : Below (hdW w m i).heap.size (hdW w m i) W) : Below w.heap.size w W := (below_hd w m i).trans (h.mono (by rw [size_hd]; omega))

/-- sizes says that none stands behind. -/
theorem read_none9 (a : Nat → Addr) (s : ByteArray) (n : Nat) (c m i : Int) (w : World) (hE : Errs a w) (hS : w.cell? ⟨0, (i - 24).toNat, none⟩ = some (.int .i64 9)) (hs : s.size ≤ 140737488351232) (hn : n < s.size) (hc : at1 s n = c) (hm : c / 32 = m) (hi : c % 32 = i) (h24 : 24 ≤ i) :
    Calls Tryd.prog 14 #[.string s, .int .i64 n] w fun e w' => ∃ p, e = .returned (.tuple #[zeroH, .iface 62 (.pointer (some ⟨p, 0, none⟩))]) ∧ IsF a 3 n ⟨#[]⟩ p w' ∧ Below w.heap.size w w' := by
  have hN : Hid (∀ W : World, Below w.heap.size w W → Calls Tryd.prog 25 #[.int .i64 3, .int .i64 n, .string ⟨#[]⟩] W fun e w' => ∃ p, W.heap.size ≤ p ∧ e = .returned (.iface 62 (.pointer (some ⟨p, 0, none⟩))) ∧ IsF a 3 n ⟨#[]⟩ p w' ∧ Below W.heap.size W w') := Lib.hid fun W hb =>
    new_any a 3 n ⟨#[]⟩ W (hE.below hb) (by omega) (by omega)
  have HZ : Hid ((Tryd.prog.info? 29).map (·.size) = some zH.size) := Lib.hid size29
  have HA : Hid (zH.all (·.oneCell') = true) := Lib.hid (one4 0 0 0 0)
  have hl := World.block_lt_of_cell? w _ hS
  have hix := fun W => idx_run s n hn W
  have hr1 : c ≤ 255 := by have := at1_range s n; omega
  have hr0 : 0 ≤ c := by have := (at1_in s n).2 hn; omega
  rw [hc] at hix
  have ha : bits BinOp.and .u8 c 31 = i := by rw [and31 c hr0 hr1, hi]
  have hm0 : 0 ≤ m := by omega
  have hm1 : m ≤ 7 := by omega
  have hi1 : i ≤ 31 := by omega
  have h0 : ¬ (n : Int) < 0 := by omega
  have hlt : (n : Int) < (s.size : Int) := by omega
  obtain ⟨j, rfl⟩ : ∃ j : Nat, i = 24 + (j : Int) := ⟨(i - 24).toNat, by omega⟩
  have hj : (24 + (j : Int) - 24).toNat = j := by omega
  rw [hj] at hS
  clear hc hn hi hE hj
  go_enter Tryd.func14, Tryd.ntmps14
  go_wp2
  go_region
  go_wp2_with (first
    | (go_at_call 25; refine (hN.out _ (below_hd w m (24 + (j : Int)))).mono ?_; rintro e w1 ⟨p, hp, rfl, hF, hb⟩; have HT := Lib.hid (there_hd hb zH rfl))
    | (with_reducible refine wpList_store_mid rfl 29 (.tmp 4) (.tmp 64) rfl w.heap.size 0 zH rfl rfl HT.out HZ.out HA.out ?_))
  have hLd := load4 w1 w.heap.size 0 0 0 0 HT.out
  refine bodyPost_ret (v := .tuple #[zeroH, .iface 62 (.pointer (some ⟨p, 0, none⟩))]) ?_ rfl ⟨p, rfl, hF.setCells _ _ _ (by rw [size_hd] at hp; omega), below_setCells _ _ _ _ (below_of_hd hb) (Nat.le_refl _)⟩
  simp [results, Tryd.results14, hLd, asAddr, Act.put]
/-- 31, and no such head. -/
theorem read_none31 (a : Nat → Addr) (s : ByteArray) (n : Nat) (c m : Int) (w : World) (hE : Errs a w) (hS : w.cell? ⟨0, 7, none⟩ = some (.int .i64 0)) (hs : s.size ≤ 140737488351232) (hn : n < s.size) (hc : at1 s n = c) (hm : c / 32 = m) (hi : c % 32 = 31)
    (ho : (decide (2 ≤ m) && decide (m ≤ 5) || decide (m = 7)) = false) :
    Calls Tryd.prog 14 #[.string s, .int .i64 n] w fun e w' => ∃ p, e = .returned (.tuple #[zeroH, .iface 62 (.pointer (some ⟨p, 0, none⟩))]) ∧ IsF a 3 n ⟨#[]⟩ p w' ∧ Below w.heap.size w w' := by
  have hN : Hid (∀ W : World, Below w.heap.size w W → Calls Tryd.prog 25 #[.int .i64 3, .int .i64 n, .string ⟨#[]⟩] W fun e w' => ∃ p, W.heap.size ≤ p ∧ e = .returned (.iface 62 (.pointer (some ⟨p, 0, none⟩))) ∧ IsF a 3 n ⟨#[]⟩ p w' ∧ Below W.heap.size W w') := Lib.hid fun W hb =>
    new_any a 3 n ⟨#[]⟩ W (hE.below hb) (by omega) (by omega)
  have HZ : Hid ((Tryd.prog.info? 29).map (·.size) = some zH.size) := Lib.hid size29
  have HA : Hid (zH.all (·.oneCell') = true) := Lib.hid (one4 0 0 0 0)
  have hl := World.block_lt_of_cell? w _ hS
  have hix := fun W => idx_run s n hn W
  have hr1 : c ≤ 255 := by have := at1_range s n; omega
  have hr0 : 0 ≤ c := by have := (at1_in s n).2 hn; omega
  rw [hc] at hix
  have ha : bits BinOp.and .u8 c 31 = 31 := by rw [and31 c hr0 hr1, hi]
  have hm0 : 0 ≤ m := by omega
  have hm1 : m ≤ 7 := by omega
  have h0 : ¬ (n : Int) < 0 := by omega
  have hlt : (n : Int) < (s.size : Int) := by omega
  have hop := fun W => opens_any m W hm0 hm1
  simp only [ho] at hop
  clear hc hn hi hE ho
  go_enter Tryd.func14, Tryd.ntmps14
  go_wp2
  go_region
  go_wp2_with (first
    | (go_at_call 26; refine (hop _).mono ?_; rintro e w1 ⟨rfl, rfl⟩)
    | (go_at_call 25; refine (hN.out _ (below_hd w m 31)).mono ?_; rintro e w1 ⟨p, hp, rfl, hF, hb⟩; have HT := Lib.hid (there_hd hb zH rfl))
    | (with_reducible refine wpList_store_mid rfl 29 (.tmp 4) (.tmp 64) rfl w.heap.size 0 zH rfl rfl HT.out HZ.out HA.out ?_))
  have hLd := load4 w1 w.heap.size 0 0 0 0 HT.out
  refine bodyPost_ret (v := .tuple #[zeroH, .iface 62 (.pointer (some ⟨p, 0, none⟩))]) ?_ rfl ⟨p, rfl, hF.setCells _ _ _ (by rw [size_hd] at hp; omega), below_setCells _ _ _ _ (below_of_hd hb) (Nat.le_refl _)⟩
  simp [results, Tryd.results14, hLd, asAddr, Act.put]
/-- Too short. -/
theorem read_short (a : Nat → Addr) (s : ByteArray) (n : Nat) (c m i : Int) (z : Nat) (w : World) (hE : Errs a w) (hS : w.cell? ⟨0, (i - 24).toNat, none⟩ = some (.int .i64 z)) (hs : s.size ≤ 140737488351232) (hn : n < s.size) (hc : at1 s n = c) (hm : c / 32 = m) (hi : c % 32 = i) (h24 : 24 ≤ i)
    (hi31 : i < 31) (hz : z < 9) (hsh : s.size < n + 1 + z) :
    Calls Tryd.prog 14 #[.string s, .int .i64 n] w fun e w' => ∃ p, e = .returned (.tuple #[zeroH, .iface 62 (.pointer (some ⟨p, 0, none⟩))]) ∧ IsF a 3 s.size ⟨#[]⟩ p w' ∧ Below w.heap.size w w' := by
  have hN : Hid (∀ W : World, Below w.heap.size w W → Calls Tryd.prog 25 #[.int .i64 3, .int .i64 s.size, .string ⟨#[]⟩] W fun e w' => ∃ p, W.heap.size ≤ p ∧ e = .returned (.iface 62 (.pointer (some ⟨p, 0, none⟩))) ∧ IsF a 3 s.size ⟨#[]⟩ p w' ∧ Below W.heap.size W w') := Lib.hid fun W hb =>
    new_any a 3 s.size ⟨#[]⟩ W (hE.below hb) (by omega) (by omega)
  have HZ : Hid ((Tryd.prog.info? 29).map (·.size) = some zH.size) := Lib.hid size29
  have HA : Hid (zH.all (·.oneCell') = true) := Lib.hid (one4 0 0 0 0)
  have hl := World.block_lt_of_cell? w _ hS
  have hix := fun W => idx_run s n hn W
  have hr1 : c ≤ 255 := by have := at1_range s n; omega
  have hr0 : 0 ≤ c := by have := (at1_in s n).2 hn; omega
  rw [hc] at hix
  have ha : bits BinOp.and .u8 c 31 = i := by rw [and31 c hr0 hr1, hi]
  have hm0 : 0 ≤ m := by omega
  have hm1 : m ≤ 7 := by omega
  have h0 : ¬ (n : Int) < 0 := by omega
  have hlt : (n : Int) < (s.size : Int) := by omega
  have hz9 : ((z : Int) == 9) = false := by simp; omega
  have hi31b : (i == 31) = false := by simp; omega
  have hsh2 : (s.size : Int) - (n : Int) - 1 < (z : Int) := by omega
  obtain ⟨j, rfl⟩ : ∃ j : Nat, i = 24 + (j : Int) := ⟨(i - 24).toNat, by omega⟩
  have hj : (24 + (j : Int) - 24).toNat = j := by omega
  rw [hj] at hS
  clear hc hn hi hE hj hsh hz
  go_enter Tryd.func14, Tryd.ntmps14
  go_wp2
  go_region
  go_wp2_with (first
    | (go_at_call 25; refine (hN.out _ (below_hd w m (24 + (j : Int)))).mono ?_; rintro e w1 ⟨p, hp, rfl, hF, hb⟩; have HT := Lib.hid (there_hd hb zH rfl))
    | (with_reducible refine wpList_store_mid rfl 29 (.tmp 4) (.tmp 74) rfl w.heap.size 0 zH rfl rfl HT.out HZ.out HA.out ?_))
  have hLd := load4 w1 w.heap.size 0 0 0 0 HT.out
  refine bodyPost_ret (v := .tuple #[zeroH, .iface 62 (.pointer (some ⟨p, 0, none⟩))]) ?_ rfl ⟨p, rfl, hF.setCells _ _ _ (by rw [size_hd] at hp; omega), below_setCells _ _ _ _ (below_of_hd hb) (Nat.le_refl _)⟩
  simp [results, Tryd.results14, hLd, asAddr, Act.put]
end Go.Proofs.YtbnckhlfmjoikaaDoor
