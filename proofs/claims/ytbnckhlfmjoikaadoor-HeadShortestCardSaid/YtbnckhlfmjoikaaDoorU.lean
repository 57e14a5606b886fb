/- The document's Read. (printed by wip/head/genU.py) -/
import Derived.Test.YtbnckhlfmjoikaaDoorT
namespace Go.Proofs.YtbnckhlfmjoikaaDoor
open Go.RowKit
set_option maxRecDepth 100000
set_option linter.unusedVariables false
set_option linter.unusedSimpArgs false
set_option linter.unnecessarySimpa false

theorem size35 : (Tryd.prog.info? 35).map (·.size) = some 3 := by kernel_rfl
abbrev fltA (k q : Int) : Array Value := #[.int .i64 k, .int .i64 q, .string ⟨#[]⟩]
theorem loadF_at (w : World) (g : Nat) (k q : Int) (h : w.heap[g]? = some (.cells (fltA k q) 35 (0, 0))) : (loadVar 35 ⟨g, 0, none⟩).run Tryd.prog w = .ok (.agg (fltA k q)) w :=
  run_loadVar_mid (P := Tryd.prog) w g 0 35 [.int .i64 k, .int .i64 q, .string ⟨#[]⟩] _ (fun j v hv => by rw [Lib.cell_of_heap h, Nat.zero_add, List.getElem?_toArray]; exact hv) Tryd.underlying35 rfl size35
abbrev rW (w : World) (a b c d k q : Int) : World := (w.alloc (.cells #[.int .u8 a, .int .u8 b, .int .u64 c, .int .i64 d] 29)).alloc (.cells (fltA k q) 35)
theorem rW_a (w : World) (a b c d k q : Int) : (loadVar 29 ⟨w.heap.size, 0, none⟩).run Tryd.prog (rW w a b c d k q) = .ok (.agg #[.int .u8 a, .int .u8 b, .int .u64 c, .int .i64 d]) (rW w a b c d k q) :=
  load_at _ _ _ _ _ _ ((Below.heap_alloc (w.alloc (.cells #[.int .u8 a, .int .u8 b, .int .u64 c, .int .i64 d] 29)) _ _ (by simp)).trans Array.getElem?_push_size)
theorem rW_b (w : World) (a b c d k q : Int) : (loadVar 35 ⟨w.heap.size + 1, 0, none⟩).run Tryd.prog (rW w a b c d k q) = .ok (.agg (fltA k q)) (rW w a b c d k q) := by
  refine loadF_at _ _ _ _ ?_
  have := Array.getElem?_push_size (xs := (w.alloc (.cells #[.int .u8 a, .int .u8 b, .int .u64 c, .int .i64 d] 29)).heap) (x := Obj.cells (fltA k q) 35)
  rwa [World.size_alloc] at this
theorem rW_below (w : World) (a b c d k q : Int) : Below w.heap.size w (rW w a b c d k q) := ((Below.refl _ _).alloc (Nat.le_refl _) _).alloc (by simp) _
/-- The answer. -/
abbrev rans (x : Int × Int × Int × Int) (k q : Int) : Ending := .returned (.tuple #[headV x, .agg (fltA k q)])

theorem rread_arg (s : ByteArray) (n : Int) (w : World) (hs : s.size ≤ 140737488351232) (hn : n < 0 ∨ (s.size : Int) < n) :
    Calls Tryd.prog 15 #[.string s, .int .i64 n] w fun e w' => e = rans (0, 0, 0, 0) 1 0 ∧ Below w.heap.size w w' := by
  rcases hn with hn | hn
  · go_enter Tryd.func15, Tryd.ntmps15
    go_wp2
    have hA := rW_a w 0 0 0 0 1 0
    have hB := rW_b w 0 0 0 0 1 0
    refine bodyPost_ret (v := .tuple #[headV (0, 0, 0, 0), .agg (fltA 1 0)]) ?_ rfl ⟨rfl, rW_below w 0 0 0 0 1 0⟩
    simp [results, Tryd.results15, hA, hB, asAddr, Act.put, headV]
  · have h0 : ¬ n < 0 := by omega
    go_enter Tryd.func15, Tryd.ntmps15
    go_wp2
    have hA := rW_a w 0 0 0 0 1 0
    have hB := rW_b w 0 0 0 0 1 0
    refine bodyPost_ret (v := .tuple #[headV (0, 0, 0, 0), .agg (fltA 1 0)]) ?_ rfl ⟨rfl, rW_below w 0 0 0 0 1 0⟩
    simp [results, Tryd.results15, hA, hB, asAddr, Act.put, headV]

theorem rread_end (s : ByteArray) (n : Nat) (w : World) (hs : s.size ≤ 140737488351232) (hn : s.size = n) :
    Calls Tryd.prog 15 #[.string s, .int .i64 n] w fun e w' => e = rans (0, 0, 0, 0) 3 n ∧ Below w.heap.size w w' := by
  have h0 : ¬ (n : Int) < 0 := by omega
  go_enter Tryd.func15, Tryd.ntmps15
  go_wp2
  have hA := rW_a w 0 0 0 0 3 n
  have hB := rW_b w 0 0 0 0 3 n
  refine bodyPost_ret (v := .tuple #[headV (0, 0, 0, 0), .agg (fltA 3 n)]) ?_ rfl ⟨rfl, rW_below w 0 0 0 0 3 n⟩
  simp [results, Tryd.results15, hA, hB, asAddr, Act.put, headV]

theorem rread_none (s : ByteArray) (n : Nat) (c m i : Int) (w : World) (hs : s.size ≤ 140737488351232) (hn : n < s.size) (hc : at1 s n = c) (hm : c / 32 = m) (hi : c % 32 = i) (hb : behF m i = -1) :
    Calls Tryd.prog 15 #[.string s, .int .i64 n] w fun e w' => e = rans (0, 0, 0, 0) 3 n ∧ Below w.heap.size w w' := by
  have hix := fun W => idx_run s n hn W
  have hr1 : c ≤ 255 := by have := at1_range s n; omega
  have hr0 : 0 ≤ c := by have := (at1_in s n).2 hn; omega
  rw [hc] at hix
  have hm0 : 0 ≤ m := by omega
  have hm1 : m ≤ 7 := by omega
  have hi0 : 0 ≤ i := by omega
  have hi1 : i ≤ 31 := by omega
  have h0 : ¬ (n : Int) < 0 := by omega
  have hlt : (n : Int) < (s.size : Int) := by omega
  have hbe := fun W => behind_any m i W hm0 hm1 hi0 hi1
  rw [hb] at hbe
  have hd : c.tdiv 32 = m := by rw [Int.tdiv_eq_ediv_of_nonneg hr0]; exact hm
  have hmo : c.tmod 32 = i := by rw [Int.tmod_eq_emod_of_nonneg hr0]; exact hi
  clear hc hb
  go_enter Tryd.func15, Tryd.ntmps15
  go_wp2_with (go_at_call 27; refine (hbe _).mono ?_; rintro e w1 ⟨rfl, rfl⟩)
  have hA := rW_a w 0 0 0 0 3 n
  have hB := rW_b w 0 0 0 0 3 n
  refine bodyPost_ret (v := .tuple #[headV (0, 0, 0, 0), .agg (fltA 3 n)]) ?_ rfl ⟨rfl, rW_below w 0 0 0 0 3 n⟩
  simp [results, Tryd.results15, hA, hB, asAddr, Act.put, headV]

theorem rread_short (s : ByteArray) (n : Nat) (c m i : Int) (w : World) (hs : s.size ≤ 140737488351232) (hn : n < s.size) (hc : at1 s n = c) (hm : c / 32 = m) (hi : c % 32 = i) (z : Nat) (hb : behF m i = z) (hsh : s.size < n + 1 + z) :
    Calls Tryd.prog 15 #[.string s, .int .i64 n] w fun e w' => e = rans (0, 0, 0, 0) 3 s.size ∧ Below w.heap.size w w' := by
  have hix := fun W => idx_run s n hn W
  have hr1 : c ≤ 255 := by have := at1_range s n; omega
  have hr0 : 0 ≤ c := by have := (at1_in s n).2 hn; omega
  rw [hc] at hix
  have hm0 : 0 ≤ m := by omega
  have hm1 : m ≤ 7 := by omega
  have hi0 : 0 ≤ i := by omega
  have hi1 : i ≤ 31 := by omega
  have h0 : ¬ (n : Int) < 0 := by omega
  have hlt : (n : Int) < (s.size : Int) := by omega
  have hbe := fun W => behind_any m i W hm0 hm1 hi0 hi1
  rw [hb] at hbe
  have hd : c.tdiv 32 = m := by rw [Int.tdiv_eq_ediv_of_nonneg hr0]; exact hm
  have hmo : c.tmod 32 = i := by rw [Int.tmod_eq_emod_of_nonneg hr0]; exact hi
  have hsh2 : (s.size : Int) - (n : Int) - 1 < (z : Int) := by omega
  have hz0 : ¬ (z : Int) < 0 := by omega
  clear hc hb hsh
  go_enter Tryd.func15, Tryd.ntmps15
  go_wp2_with (go_at_call 27; refine (hbe _).mono ?_; rintro e w1 ⟨rfl, rfl⟩)
  have hA := rW_a w 0 0 0 0 3 s.size
  have hB := rW_b w 0 0 0 0 3 s.size
  refine bodyPost_ret (v := .tuple #[headV (0, 0, 0, 0), .agg (fltA 3 s.size)]) ?_ rfl ⟨rfl, rW_below w 0 0 0 0 3 s.size⟩
  simp [results, Tryd.results15, hA, hB, asAddr, Act.put, headV]

theorem rread_direct (s : ByteArray) (n : Nat) (c m i : Int) (w : World) (hs : s.size ≤ 140737488351232) (hn : n < s.size) (hc : at1 s n = c) (hm : c / 32 = m) (hi : c % 32 = i) (hb : behF m i = 0) (hi24 : i < 24) :
    Calls Tryd.prog 15 #[.string s, .int .i64 n] w fun e w' => e = rans (m, i, i, 1) 0 0 ∧ Below w.heap.size w w' := by
  have hix := fun W => idx_run s n hn W
  have hr1 : c ≤ 255 := by have := at1_range s n; omega
  have hr0 : 0 ≤ c := by have := (at1_in s n).2 hn; omega
  rw [hc] at hix
  have hm0 : 0 ≤ m := by omega
  have hm1 : m ≤ 7 := by omega
  have hi0 : 0 ≤ i := by omega
  have hi1 : i ≤ 31 := by omega
  have h0 : ¬ (n : Int) < 0 := by omega
  have hlt : (n : Int) < (s.size : Int) := by omega
  have hbe := fun W => behind_any m i W hm0 hm1 hi0 hi1
  rw [hb] at hbe
  have hd : c.tdiv 32 = m := by rw [Int.tdiv_eq_ediv_of_nonneg hr0]; exact hm
  have hmo : c.tmod 32 = i := by rw [Int.tmod_eq_emod_of_nonneg hr0]; exact hi
  have hsh2 : ¬ (s.size : Int) - (n : Int) - 1 < 0 := by omega
  clear hc hb
  go_enter Tryd.func15, Tryd.ntmps15
  go_wp2_with (go_at_call 27; refine (hbe _).mono ?_; rintro e w1 ⟨rfl, rfl⟩)
  refine wp_loop_rounds 1 ?_
  rw [rounds_succ]
  go_wp2
  have hA := rW_a w m i i 1 0 0
  have hB := rW_b w m i i 1 0 0
  refine bodyPost_ret (v := .tuple #[headV (m, i, i, 1), .agg (fltA 0 0)]) ?_ rfl ⟨rfl, rW_below w m i i 1 0 0⟩
  simp [results, Tryd.results15, hA, hB, asAddr, Act.put, headV]

set_option maxHeartbeats 1000000 in
theorem rread_loop (s : ByteArray) (n : Nat) (c m i : Int) (w : World) (hs : s.size ≤ 140737488351232) (hn : n < s.size) (hc : at1 s n = c) (hm : c / 32 = m) (hi : c % 32 = i) (z : Nat) (hb : behF m i = z) (hi24 : ¬ i < 24) (hz : z ≤ 8) (hsh : n + 1 + z ≤ s.size) :
    Calls Tryd.prog 15 #[.string s, .int .i64 n] w fun e w' => e = rans (m, i, numF s (n + 1) z, 1 + z) 0 0 ∧ Below w.heap.size w w' := by
  have hix := fun W => idx_run s n hn W
  have hr1 : c ≤ 255 := by have := at1_range s n; omega
  have hr0 : 0 ≤ c := by have := (at1_in s n).2 hn; omega
  rw [hc] at hix
  have hm0 : 0 ≤ m := by omega
  have hm1 : m ≤ 7 := by omega
  have hi0 : 0 ≤ i := by omega
  have hi1 : i ≤ 31 := by omega
  have h0 : ¬ (n : Int) < 0 := by omega
  have hlt : (n : Int) < (s.size : Int) := by omega
  have hbe := fun W => behind_any m i W hm0 hm1 hi0 hi1
  rw [hb] at hbe
  have hd : c.tdiv 32 = m := by rw [Int.tdiv_eq_ediv_of_nonneg hr0]; exact hm
  have hmo : c.tmod 32 = i := by rw [Int.tmod_eq_emod_of_nonneg hr0]; exact hi
  have hsh2 : ¬ (s.size : Int) - (n : Int) - 1 < (z : Int) := by omega
  have hz0 : ¬ (z : Int) < 0 := by omega
  have hnl := fun k (hk : k ≤ z) => numF_lt s (n + 1) k (by omega)
  have hat := fun (k : Nat) (hk : k < z) (W : World) => idx_run s (n + (k + 1)) (by omega) W
  clear hc hb
  go_enter Tryd.func15, Tryd.ntmps15
  go_wp2_with (go_at_call 27; refine (hbe _).mono ?_; rintro e w1 ⟨rfl, rfl⟩)
  go_loopw [9, 10] (fun x i W => ∃ k : Nat, i = .int .i64 ((k : Int) + 1) ∧ k ≤ z ∧ x = .int .u64 (numF s (n + 1) k) ∧ rW w 0 0 0 0 0 0 = W) (fun _ i _ => z + 1 - (intOf i).toNat)
  case atStart => exact ⟨0, rfl, by omega, rfl, rfl⟩
  case round =>
    obtain ⟨k, rfl, hk, rfl, rfl⟩ := hrel
    by_cases hk2 : k < z
    · have l2 : (k : Int) + 1 ≤ (z : Int) := by omega
      have hx := hnl k hk
      have ha1 := hat k hk2
      have e1 : (((n + (k + 1) : Nat)) : Int) = (n : Int) + ((k : Int) + 1) := by omega
      rw [e1] at ha1
      have e2 : n + 1 + k = n + (k + 1) := by omega
      have hbr := at1_range s (n + (k + 1))
      have hb0 := (at1_in s (n + (k + 1))).2 (by omega)
      have hnum : Hid (256 * numF s (n + 1) k + at1 s (n + (k + 1)) = numF s (n + 1) (k + 1)) := Lib.hid (by rw [numF, e2]; omega)
      have hx1 : numF s (n + 1) k < 256 ^ 7 := by
        have hp : (256 : Int) ^ k ≤ 256 ^ 7 := by
          rcases (by omega : k = 0 ∨ k = 1 ∨ k = 2 ∨ k = 3 ∨ k = 4 ∨ k = 5 ∨ k = 6 ∨ k = 7) with rfl | rfl | rfl | rfl | rfl | rfl | rfl | rfl <;> decide
        omega
      generalize numF s (n + 1) k = x at *
      generalize at1 s (n + (k + 1)) = b at *
      obtain ⟨hx0, _⟩ := hx
      obtain ⟨_, hb1⟩ := hbr
      clear hnl hat e1 e2
      go_wp2
      exact ⟨⟨k + 1, by go_num, by omega, by rw [hnum.out], trivial⟩, by simp [intOf]; omega⟩
    · obtain rfl : k = z := by omega
      have l2 : ¬ (k : Int) + 1 ≤ (k : Int) := by omega
      have hx := hnl k hk
      clear hnl hat
      go_wp2
      have hA := rW_a w m i (numF s (n + 1) k) (1 + (k : Int)) 0 0
      have hB := rW_b w m i (numF s (n + 1) k) (1 + (k : Int)) 0 0
      refine bodyPost_ret (v := .tuple #[headV (m, i, (numF s (n + 1) k), (1 + (k : Int))), .agg (fltA 0 0)]) ?_ rfl ⟨rfl, rW_below w m i (numF s (n + 1) k) (1 + (k : Int)) 0 0⟩
      simp [results, Tryd.results15, hA, hB, asAddr, Act.put, headV]
end Go.Proofs.YtbnckhlfmjoikaaDoor
