/- The order of texts, and cruciblelaw11.less. -/
import Derived.Test.YtjnmjgpkicbbdaaR
import Derived.Laws.Cover1
namespace Go.Proofs.Ytjnmjgpkicbbdaa
open Go.RowKit
set_option maxRecDepth 100000
set_option linter.unusedVariables false
set_option linter.unusedSimpArgs false

def ord (a b : ByteArray) : Int := if Op.bytesLess a.toList b.toList then -1 else if !(Op.bytesLess a.toList b.toList || a.toList == b.toList) then 1 else 0
theorem less_any (a b : ByteArray) (w : World) : Calls Try.prog 17 #[.string a, .string b] w fun e w' => e = .returned (.int .i64 (ord a b)) ∧ Below w.heap.size w w' := by
  rcases h1 : Op.bytesLess a.toList b.toList with _ | _
  · rcases h2 : (a.toList == b.toList) with _ | _
    · have ho : ord a b = 1 := by unfold ord; rw [h1, h2]; rfl
      rw [ho]
      go_enter Try.func17, Try.ntmps17
      go_wp2
      go_ret
      exact ⟨rfl, Below.refl _ _⟩
    · have ho : ord a b = 0 := by unfold ord; rw [h1, h2]; rfl
      rw [ho]
      go_enter Try.func17, Try.ntmps17
      go_wp2
      go_ret
      exact ⟨rfl, Below.refl _ _⟩
  · have ho : ord a b = -1 := by unfold ord; rw [h1]; rfl
    rw [ho]
    go_enter Try.func17, Try.ntmps17
    go_wp2
    go_ret
    exact ⟨rfl, Below.refl _ _⟩

theorem toList_nums (xs : List Int) : (strOfNums xs).toList = xs.map fun n => UInt8.ofNat n.toNat := by
  rw [Lib.toList_data]
  simp [strOfNums]
theorem u8_lt (a b : Int) (ha : 0 ≤ a ∧ a ≤ 255) (hb : 0 ≤ b ∧ b ≤ 255) : (UInt8.ofNat a.toNat < UInt8.ofNat b.toNat) ↔ a < b := by
  rw [UInt8.lt_iff_toNat_lt]
  simp
  omega
theorem u8_eq (a b : Int) (ha : 0 ≤ a ∧ a ≤ 255) (hb : 0 ≤ b ∧ b ≤ 255) : (UInt8.ofNat a.toNat = UInt8.ofNat b.toNat) ↔ a = b := by
  rw [← UInt8.toNat_inj]
  simp
  omega
def lessL : List Int → List Int → Bool
  | _, [] => false
  | [], _ :: _ => true
  | a :: x, b :: y => decide (a < b) || (decide (a = b) && lessL x y)
theorem less_nums : ∀ xs ys, Bytes xs → Bytes ys → Op.bytesLess (xs.map fun n => UInt8.ofNat n.toNat) (ys.map fun n => UInt8.ofNat n.toNat) = lessL xs ys
  | [], [], _, _ => rfl
  | x :: xs, [], _, _ => rfl
  | [], y :: ys, _, _ => rfl
  | x :: xs, y :: ys, hx, hy => by
    have h1 := hx x (by simp)
    have h2 := hy y (by simp)
    have ih := less_nums xs ys (fun z hz => hx z (by simp [hz])) (fun z hz => hy z (by simp [hz]))
    simp only [List.map_cons, Op.bytesLess, lessL, ih]
    congr 1
    · exact decide_eq_decide.2 (u8_lt x y h1 h2)
    · congr 1
      have := u8_eq x y h1 h2
      by_cases e : x = y
      · subst e; simp
      · have : ¬ UInt8.ofNat x.toNat = UInt8.ofNat y.toNat := fun h => e (this.1 h)
        simp [e, this]
theorem eq_nums (xs ys : List Int) (hx : Bytes xs) (hy : Bytes ys) : ((strOfNums xs).toList == (strOfNums ys).toList) = decide (xs = ys) := by
  by_cases e : xs = ys
  · subst e; simp
  · have : ¬ (strOfNums xs).toList = (strOfNums ys).toList := fun h => e (strOfNums_inj hx hy (by
      apply ByteArray.ext
      apply Array.ext'
      rw [Lib.toList_data, Lib.toList_data] at h
      exact h))
    simp [e, this]
theorem ord_nums (xs ys : List Int) (hx : Bytes xs) (hy : Bytes ys) : ord (strOfNums xs) (strOfNums ys) = if lessL xs ys then -1 else if !(lessL xs ys || decide (xs = ys)) then 1 else 0 := by
  unfold ord
  rw [eq_nums xs ys hx hy, toList_nums, toList_nums, less_nums xs ys hx hy]
theorem dg_lt (a b : Int) (ha : 0 ≤ a) (ha1 : a < 16) (hb : 0 ≤ b) (hb1 : b < 16) : (dg a < dg b ↔ a < b) ∧ (dg a = dg b ↔ a = b) := by
  unfold dg
  split <;> split <;> omega
theorem lessL_hex : ∀ xs ys, Bytes xs → Bytes ys → lessL (hexL xs) (hexL ys) = lessL xs ys
  | [], [], _, _ => rfl
  | x :: xs, [], _, _ => rfl
  | [], y :: ys, _, _ => rfl
  | x :: xs, y :: ys, hx, hy => by
    have h1 := hx x (by simp)
    have h2 := hy y (by simp)
    have ih := lessL_hex xs ys (fun z hz => hx z (by simp [hz])) (fun z hz => hy z (by simp [hz]))
    have d1 := dg_lt (x / 16) (y / 16) (by omega) (by omega) (by omega) (by omega)
    have d2 := dg_lt (x % 16) (y % 16) (by omega) (by omega) (by omega) (by omega)
    simp only [hexL, lessL, ih]
    rw [decide_eq_decide.2 d1.1, decide_eq_decide.2 d1.2, decide_eq_decide.2 d2.1, decide_eq_decide.2 d2.2]
    rcases lessL xs ys with _ | _
    · simp only [Bool.and_false, Bool.or_false]
      rw [← Bool.decide_and, ← Bool.decide_or]
      exact decide_eq_decide.2 (by omega)
    · simp only [Bool.and_true]
      rw [← Bool.decide_or, ← Bool.decide_and, ← Bool.decide_or, ← Bool.decide_or]
      exact decide_eq_decide.2 (by omega)
theorem ord_hex (xs ys : List Int) (hx : Bytes xs) (hy : Bytes ys) : ord (strOfNums (hexL xs)) (strOfNums (hexL ys)) = ord (strOfNums xs) (strOfNums ys) := by
  rw [ord_nums _ _ (hexL_bytes xs hx) (hexL_bytes ys hy), ord_nums _ _ hx hy, lessL_hex xs ys hx hy]
  have : decide (hexL xs = hexL ys) = decide (xs = ys) := decide_eq_decide.2 ⟨hexL_inj hx hy, fun e => by rw [e]⟩
  rw [this]
theorem conv_empty (x : Addr) (c : Nat) (W : World) : (convert 22 9 (.slice (some x) 0 c)).run Try.prog W = .ok (.string (strOfNums [])) W := by
  have hl : (loadCells x 0).run Try.prog W = .ok (([] : List Int).map (Value.int .u8)).toArray W := by
    have := run_loadCells_list (P := Try.prog) W x [] (fun j v hj => by simp at hj)
    simpa using this
  rw [run_convert_bytes_string W 22 9 5 _ 0 c Try.underlying22 Try.underlying5 Try.underlying9, run_bytesToString W _ 0 c [] hl, foldl_push_bytes]
  simp [strOfNums, ByteArray.empty, ByteArray.emptyWithCapacity]
  rfl
/-- string(b) of a list that came in. -/
theorem conv_row {W : World} {A : Option Addr} {xs : List Int} {n : Nat} (c : Nat) (h : RK W .u8 A xs) (hl : xs.length = n) : (convert 22 9 (.slice A n c)).run Try.prog W = .ok (.string (strOfNums xs)) W := by
  subst hl
  rcases h with rfl | ⟨b, off, rfl, h⟩
  · rcases A with _ | x
    · exact run_convert_bytes_nil W 22 5 Try.underlying22 Try.underlying5 0 c 9 Try.underlying9
    · exact conv_empty x c W
  · exact conv_RK (P := Try.prog) (src := 22) (dst := 9) (e := 5) Try.underlying22 Try.underlying5 Try.underlying9 c (.inr ⟨b, off, rfl, h⟩) (fun _ => .inr ⟨b, off, rfl⟩)
end Go.Proofs.Ytjnmjgpkicbbdaa
