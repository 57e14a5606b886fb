/- What the document says of a text of three code points: cruciblelaw09.lives. -/
import Derived.Test.YtolnnkalgioobaaGreatDoorM
namespace Go.Proofs.YtolnnkalgioobaaGreatDoor
open Go.RowKit
set_option maxRecDepth 100000
set_option linter.unusedVariables false
set_option linter.unusedSimpArgs false
set_option linter.unnecessarySimpa false

theorem l_first : decS ⟨#[97, 240, 159, 152, 128]⟩ 1 = some (128512, 4) := by decide
theorem l_good : badF ⟨#[195, 169, 240, 159, 152, 128]⟩ = (⟨#[195, 169, 240, 159, 152, 128]⟩ : ByteArray).size := by decide
theorem l_units : unitsOf (stepsF ⟨#[195, 169, 240, 159, 152, 128]⟩) = [233, 55357, 56832] := by decide
theorem l_bad : badF ⟨#[97, 195]⟩ = 1 := by decide
theorem l_cmp : cmpF ⟨#[240, 159, 152, 128]⟩ ⟨#[239, 172, 128]⟩ = -1 := by decide

theorem live_1 (w : World) : Calls Tryz.prog 76 #[.string ⟨#[97, 240, 159, 152, 128]⟩, .int .i64 1] w fun e w' => e = .returned (yesV 128512 4) ∧ w = w' := by
  have := first_any ⟨#[97, 240, 159, 152, 128]⟩ 1 w (by decide)
  rw [l_first] at this
  exact this
theorem live_2 (w : World) : Calls Tryz.prog 16 #[.string ⟨#[195, 169, 240, 159, 152, 128]⟩] w fun e w' => ∃ A c, e = .returned (.tuple #[.slice A 3 c, .bool true]) ∧ RK w' .u16 A [233, 55357, 56832] ∧ Below w.heap.size w w' := by
  refine (Units_good _ w (by decide) l_good).mono ?_
  rintro e w' ⟨v, rfl, ho, hb⟩
  rw [l_units] at ho
  obtain ⟨A, c, rfl, hr, _, _⟩ := ho.slice
  exact ⟨A, c, rfl, hr, hb⟩
theorem live_3 (w : World) : Calls Tryz.prog 25 #[.string ⟨#[97, 195]⟩] w fun e w' => e = .returned (.int .i64 1) ∧ w = w' := by
  have := bad_any ⟨#[97, 195]⟩ w (by decide)
  rw [l_bad] at this
  exact this
theorem live_4 (w : World) : Calls Tryz.prog 77 #[.string ⟨#[240, 159, 152, 128]⟩, .string ⟨#[239, 172, 128]⟩] w fun e w' => e = .returned (.int .i64 (-1)) ∧ w = w' := by
  have := cmp_any ⟨#[240, 159, 152, 128]⟩ ⟨#[239, 172, 128]⟩ w (by decide) (by decide)
  rw [l_cmp] at this
  exact this
theorem nums_get (k : IntKind) (xs : List Int) (j : Nat) (hj : j < xs.length) : (numsK k xs)[j]? = some (.int k (xs.getD j 0)) := by
  simp [numsK, List.getElem?_eq_getElem hj, List.getD_eq_getElem?_getD]
theorem live_5 (A : Option Addr) (c : Nat) (w : World) (hr : RK w .u16 A [233, 55357, 56832]) : Calls Tryz.prog 17 #[.slice A 3 c, .slice (some ⟨w.heap.size, 0, none⟩) 3 3] (w.alloc (.cells #[.int .u16 233, .int .u16 55357, .int .u16 56832] 52)) fun e w' => e = .returned (.bool true) ∧ Below (w.alloc (.cells #[.int .u16 233, .int .u16 55357, .int .u16 56832] 52)).heap.size (w.alloc (.cells #[.int .u16 233, .int .u16 55357, .int .u16 56832] 52)) w' := by
  have hr1 : RK (w.alloc (.cells #[.int .u16 233, .int .u16 55357, .int .u16 56832] 52)) .u16 A [233, 55357, 56832] := hr.below ((Below.refl _ _).alloc (Nat.le_refl _) _)
  have hr2 : RK (w.alloc (.cells #[.int .u16 233, .int .u16 55357, .int .u16 56832] 52)) .u16 (some ⟨w.heap.size, 0, none⟩) [233, 55357, 56832] := .inr ⟨w.heap.size, 0, rfl, fun j hj => by
    have h2 := new_cells w .u16 52 [233, 55357, 56832] j (.int .u16 (([233, 55357, 56832] : List Int).getD j 0)) (nums_get _ _ j hj)
    rw [add_plain] at h2
    rw [Nat.zero_add]
    exact h2⟩
  have := sameU_eq A (some ⟨w.heap.size, 0, none⟩) 3 c 3 [233, 55357, 56832] [233, 55357, 56832] _ rfl rfl (by decide) hr1 hr2
  simpa using this
theorem lives_any (w : World) : Calls Tryz.prog 14 #[] w fun e w' => e = .returned (.bool true) ∧ Below w.heap.size w w' := by
  go_enter Tryz.func14, Tryz.ntmps14
  go_wp2_with (first
    | (go_at_call 76; refine (live_1 _).mono ?_; rintro e w1 ⟨rfl, rfl⟩)
    | (go_at_call 16; refine (live_2 _).mono ?_; rintro e w2 ⟨A, c, rfl, hA, hb2⟩)
    | (go_at_call 17; refine (live_5 A c w2 hA).mono ?_; rintro e w3 ⟨rfl, hb3⟩)
    | (go_at_call 25; refine (live_3 _).mono ?_; rintro e w4 ⟨rfl, rfl⟩)
    | (go_at_call 77; refine (live_4 _).mono ?_; rintro e w5 ⟨rfl, rfl⟩))
  go_ret
  exact ⟨rfl, (hb2.alloc hb2.size _).trans (hb3.mono (by have := hb2.size; simp; omega))⟩
end Go.Proofs.YtolnnkalgioobaaGreatDoor
