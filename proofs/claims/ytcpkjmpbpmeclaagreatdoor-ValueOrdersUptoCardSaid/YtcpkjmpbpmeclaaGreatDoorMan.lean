/- strconv.Itoa; a path as a text. -/
import Derived.Test.YtcpkjmpbpmeclaaGreatDoorMam
import Derived.Lib.AppendIntMem
namespace Go.Proofs.YtcpkjmpbpmeclaaGreatDoor
open Go.RowKit
set_option maxRecDepth 100000
set_option linter.unusedVariables false
set_option linter.unusedSimpArgs false
set_option linter.unnecessarySimpa false

/-- The library's table of powers of ten lies as its text lays it. -/
def Pow (w : World) : Prop := Lib.TabIs Tryz.prog w "internal/strconv.uint64pow10" .u64 Lib.pow10Tab
theorem Pow.below {w w' : World} (h : Pow w) (hb : Below w.heap.size w w') : Pow w' := by
 have hgn : Tryz.prog.globalNamed "internal/strconv.uint64pow10" = some 13 := by kernel_rfl
 unfold Pow Lib.TabIs World.var? at h ⊢
 rw [hgn] at h ⊢
 simp only [Option.bind_some] at h ⊢
 have hlt : 13 < w.heap.size := by
  rcases Nat.lt_or_ge 13 w.heap.size with h' | h'
  ·exact h'
  ·rw [Array.getElem?_eq_none h'] at h; cases h
 rw [hb.block _ hlt]
 exact h
/-- The decimal digits of a number, as bytes. -/
def decB (n : Nat) : List UInt8 := Lib.itoa (n : Int)
theorem itoa_any (n : Nat) (w : World) (hn : n ≤ 9223372036854775807) (hp : Pow w) :
  Calls Tryz.prog 126 #[.int .i64 (n : Nat)] w fun e w' => e = .returned (.string ⟨(decB n).toArray⟩) ∧ Below w.heap.size w w' :=
 (Tryz.strconv_Itoa (n : Int) (by omega) (by omega) w hp).mono fun e w' ⟨h1, k, os, h2⟩ => ⟨h1, by rw [h2]; exact Lib.below_grow _ w (Nat.le_refl _) k os⟩
/-- A path: the numbers of kids, each behind a stroke. -/
def pathB (l : List Nat) : List UInt8 := l.flatMap fun n => 47 :: decB n
theorem pathB_cons (n : Nat) (l : List Nat) : pathB (n :: l) = 47 :: decB n ++ pathB l := by simp [pathB]
theorem pathB_app (l m : List Nat) : pathB (l ++ m) = pathB l ++ pathB m := by simp [pathB]
def strU (l : List UInt8) : ByteArray := ⟨l.toArray⟩
theorem strU_app (l m : List UInt8) : strU l ++ strU m = strU (l ++ m) := by
 apply ByteArray.ext
 simp [strU]
theorem strU_cells (l : List UInt8) : Lib.strCells (strU l) = Lib.byteCells l := by simp [Lib.strCells_eq, strU]
theorem strU_size (l : List UInt8) : (strU l).size = l.length := by simp [strU, ByteArray.size]
theorem byteCells_app (l m : List UInt8) : Lib.byteCells (l ++ m) = Lib.byteCells l ++ Lib.byteCells m := by simp [Lib.byteCells]
theorem dec_len : ∀ (k u : Nat), u < 10 ^ (k + 1) → (Lib.decDigits u).length ≤ k + 1
 | 0, u, h => by rw [Lib.decDigits_one (by simpa using h)]; simp
 | k + 1, u, h => by
  by_cases h10 : u < 10
  ·rw [Lib.decDigits_one h10]; simp
  ·rw [Lib.decDigits, dif_neg h10, List.length_append]
   have := dec_len k (u / 10) (by rw [Nat.pow_succ] at h; omega)
   simp only [List.length_cons, List.length_nil]
   omega
theorem decB_len (n : Nat) (h : n ≤ 2000000000) : (decB n).length ≤ 10 := by
 unfold decB Lib.itoa
 rw [if_neg (by omega)]
 exact dec_len 9 _ (by omega)
theorem pathB_len : ∀ (l : List Nat), (∀ n ∈ l, n ≤ 2000000000) → (pathB l).length ≤ 11 * l.length
 | [], _ => by simp [pathB]
 | n :: l, h => by
  have h1 := decB_len n (h n (by simp))
  have h2 := pathB_len l fun m hm => h m (by simp [hm])
  rw [pathB_cons]
  simp only [List.length_append, List.length_cons]
  omega
end Go.Proofs.YtcpkjmpbpmeclaaGreatDoor
