import Derived.Test.YtbnckhlfmjoikaaDoorProg
import Derived.WalkKit
import Derived.KernelRfl
import Derived.Laws.BytesArg
import Derived.RowKit3
import Derived.Lib.Hide
namespace Go.Proofs.YtbnckhlfmjoikaaDoor
open Go.RowKit
set_option maxRecDepth 100000

theorem strOfNums_app (xs ys : List Int) : strOfNums xs ++ strOfNums ys = strOfNums (xs ++ ys) := by
  apply ByteArray.ext
  simp [strOfNums]

theorem conv1 (W : World) (x : Int) : (convert 57 9 (.slice (some ⟨W.heap.size, 0, none⟩) 1 1)).run Tryd.prog (W.alloc (.cells #[.int .u8 x] 5)) = .ok (.string (strOfNums [x])) (W.alloc (.cells #[.int .u8 x] 5)) :=
  run_convert_bytes_arg _ 57 5 Tryd.underlying57 Tryd.underlying5 _ 0 1 1 [x] rfl (fun i hi => by
    obtain rfl : i = 0 := by omega
    simp) 9 Tryd.underlying9

theorem first_any (m i : Int) (w : World) (h0 : 0 ≤ m) (h1 : m ≤ 7) (h2 : 0 ≤ i) (h3 : i < 32) :
    Calls Tryd.prog 23 #[.int .u8 m, .int .i64 i] w fun e w' => e = .returned (.string (strOfNums [32 * m + i])) ∧ Below w.heap.size w w' := by
  have hc := conv1
  go_enter Tryd.func23, Tryd.ntmps23
  go_wp2
  go_ret
  exact ⟨rfl, (Below.refl _ _).alloc (Nat.le_refl _) _⟩

/-- The lowest k bytes of x, the highest first. -/
def beS : Nat → Int → List Int
  | 0, _ => []
  | k + 1, x => x / 256 ^ k % 256 :: beS k x

theorem beS_len (k : Nat) (x : Int) : (beS k x).length = k := by induction k with
  | zero => rfl
  | succ k ih => simp [beS, ih]

theorem size_one (a : Int) : (strOfNums [a]).size = 1 := by simp [strOfNums_size]

theorem bytes_any (x : Int) (n : Nat) (w : World) (h0 : 0 ≤ x) (h1 : x ≤ 18446744073709551615) (h2 : n ≤ 8) :
    Calls Tryd.prog 24 #[.int .u64 x, .int .i64 n] w fun e w' => e = .returned (.string (strOfNums (beS n x))) ∧ Below w.heap.size w w' := by
  have hc := conv1
  have hs1 := size_one
  go_enter Tryd.func24, Tryd.ntmps24
  go_wp2
  go_loopw [0, 5, 6] (fun y s i W => ∃ k : Nat, k ≤ n ∧ i = .int .i64 k ∧ y = .int .u64 (x / 256 ^ k) ∧ s = .string (strOfNums (beS k x)) ∧ Below w.heap.size w W) (fun _ _ i _ => n - (intOf i).toNat)
  case atStart => exact ⟨0, by omega, rfl, by simp, rfl, Below.refl _ _⟩
  case round =>
    obtain ⟨k, hk, rfl, rfl, rfl, hb⟩ := hrel
    have hsz : (strOfNums (beS k x)).size ≤ 8 := by rw [strOfNums_size, beS_len]; omega
    have hy0 : 0 ≤ x / 256 ^ k := Int.ediv_nonneg h0 (Int.pow_nonneg (by decide))
    have hy1 : x / 256 ^ k ≤ 18446744073709551615 := Int.le_trans (Int.ediv_le_self _ h0) h1
    have hyS : Hid (x / 256 ^ k / 256 = x / 256 ^ (k + 1)) := by
      show _ = _
      rw [Int.pow_succ, Int.ediv_ediv_of_nonneg (Int.pow_nonneg (by decide))]
    generalize hy : x / 256 ^ k = y at *
    have HY : Hid (x / 256 ^ k = y) := hy
    clear hy
    go_wp2
    · exact ⟨⟨k + 1, by omega, rfl, by rw [← hyS.out], by rw [strOfNums_app]; simp [beS, HY.out], hb.alloc hb.size _⟩, by simp [intOf]; omega⟩
    · go_ret
      obtain rfl : k = n := by omega
      exact ⟨rfl, hb⟩
end Go.Proofs.YtbnckhlfmjoikaaDoor
