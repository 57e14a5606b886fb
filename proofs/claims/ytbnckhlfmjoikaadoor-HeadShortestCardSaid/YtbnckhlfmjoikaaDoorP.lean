/- fault.New; head.opens; ref.behind; head.Read. -/
import Derived.Test.YtbnckhlfmjoikaaDoorO
import Derived.Laws.BytesArg
namespace Go.Proofs.YtbnckhlfmjoikaaDoor
open Go.RowKit
set_option maxRecDepth 100000
set_option linter.unusedVariables false
set_option linter.unusedSimpArgs false
set_option linter.unnecessarySimpa false

theorem sentinel_any (a : Nat → Addr) (k : Nat) (w : World) (hE : Errs a w) (h0 : 1 ≤ k) (h1 : k ≤ 11) :
    Calls Tryd.prog 31 #[.int .i64 k] w fun e w' => e = .returned (.iface 99 (.pointer (some (a k)))) ∧ Below w.heap.size w w' := by
  have g1 : w.cell? ⟨1, 0, none⟩ = some (.iface 99 (.pointer (some (a 1)))) := hE.g 1 (by omega) (by omega)
  have g2 : w.cell? ⟨2, 0, none⟩ = some (.iface 99 (.pointer (some (a 2)))) := hE.g 2 (by omega) (by omega)
  have g3 : w.cell? ⟨3, 0, none⟩ = some (.iface 99 (.pointer (some (a 3)))) := hE.g 3 (by omega) (by omega)
  have g4 : w.cell? ⟨4, 0, none⟩ = some (.iface 99 (.pointer (some (a 4)))) := hE.g 4 (by omega) (by omega)
  have g5 : w.cell? ⟨5, 0, none⟩ = some (.iface 99 (.pointer (some (a 5)))) := hE.g 5 (by omega) (by omega)
  have g6 : w.cell? ⟨6, 0, none⟩ = some (.iface 99 (.pointer (some (a 6)))) := hE.g 6 (by omega) (by omega)
  have g7 : w.cell? ⟨7, 0, none⟩ = some (.iface 99 (.pointer (some (a 7)))) := hE.g 7 (by omega) (by omega)
  have g8 : w.cell? ⟨8, 0, none⟩ = some (.iface 99 (.pointer (some (a 8)))) := hE.g 8 (by omega) (by omega)
  have g9 : w.cell? ⟨9, 0, none⟩ = some (.iface 99 (.pointer (some (a 9)))) := hE.g 9 (by omega) (by omega)
  have g10 : w.cell? ⟨10, 0, none⟩ = some (.iface 99 (.pointer (some (a 10)))) := hE.g 10 (by omega) (by omega)
  have g11 : w.cell? ⟨11, 0, none⟩ = some (.iface 99 (.pointer (some (a 11)))) := hE.g 11 (by omega) (by omega)
  have hk0 : (1 : Int) ≤ (k : Int) := by omega
  have hk1 : (k : Int) ≤ 11 := by omega
  clear hE
  go_enter Tryd.func31, Tryd.ntmps31
  go_upto_region 2 with fail
  have hS : Below w.heap.size w (w.alloc (.cells (sentA a) 60)) := (Below.refl _ _).alloc (Nat.le_refl _) _
  have hC : (w.alloc (.cells (sentA a) 60)).cell? ⟨w.heap.size, k - 1, none⟩ = some (.iface 99 (.pointer (some (a k)))) := by
    rw [World.cell?_alloc_new, sentA_at a (k - 1) (by omega), show k - 1 + 1 = k by omega]
  obtain ⟨c, rfl⟩ : ∃ c, k = c + 1 := ⟨k - 1, by omega⟩
  simp only [Nat.add_sub_cancel] at hC
  clear g1 g2 g3 g4 g5 g6 g7 g8 g9 g10 g11
  show Code.wp _ _ _ _ (w.alloc (.cells (sentA a) 60))
  generalize (w.alloc (.cells (sentA a) 60)) = W0 at hS hC ⊢
  go_wp2
  go_ret
  exact ⟨rfl, hS⟩

theorem new_any (a : Nat → Addr) (k : Nat) (at_ : Int) (path : ByteArray) (w : World) (hE : Errs a w) (h0 : 1 ≤ k) (h1 : k ≤ 11) :
    Calls Tryd.prog 25 #[.int .i64 k, .int .i64 at_, .string path] w fun e w' => ∃ p, w.heap.size ≤ p ∧ e = .returned (.iface 62 (.pointer (some ⟨p, 0, none⟩))) ∧ IsF a k at_ path p w' ∧ Below w.heap.size w w' := by
  have hc := sentinel_any a k w hE h0 h1
  clear hE
  go_enter Tryd.func25, Tryd.ntmps25
  go_wp2_with (go_at_call 31; refine hc.mono ?_; rintro e w1 ⟨rfl, hb⟩)
  go_ret
  exact ⟨_, hb.size, rfl, ⟨by simp, by simp, by simp⟩, hb.alloc hb.size _⟩

theorem opens_any (m : Int) (w : World) (h0 : 0 ≤ m) (h1 : m ≤ 7) :
    Calls Tryd.prog 26 #[.int .u8 m] w fun e w' => e = .returned (.bool (decide (2 ≤ m) && decide (m ≤ 5) || decide (m = 7))) ∧ w = w' := by
  rcases (by omega : m = 0 ∨ m = 1 ∨ m = 2 ∨ m = 3 ∨ m = 4 ∨ m = 5 ∨ m = 6 ∨ m = 7) with rfl | rfl | rfl | rfl | rfl | rfl | rfl | rfl <;>
  · go_enter Tryd.func26, Tryd.ntmps26
    go_wp2
    go_ret
    exact ⟨rfl, rfl⟩
/-- How many bytes stand behind the first one; -1: none does. -/
def behF (m i : Int) : Int := if i < 24 then 0 else if i = 24 then 1 else if i = 25 then 2 else if i = 26 then 4 else if i = 27 then 8 else if decide (i = 31) && (decide (2 ≤ m) && decide (m ≤ 5) || decide (m = 7)) then 0 else -1
theorem behind_any (m i : Int) (w : World) (h0 : 0 ≤ m) (h1 : m ≤ 7) (i0 : 0 ≤ i) (i1 : i ≤ 31) :
    Calls Tryd.prog 27 #[.int .i64 m, .int .i64 i] w fun e w' => e = .returned (.int .i64 (behF m i)) ∧ w = w' := by
  by_cases c0 : i < 24
  · have e : behF m i = 0 := by rw [behF, if_pos c0]
    rw [e]
    go_enter Tryd.func27, Tryd.ntmps27
    go_wp2
    go_ret
    exact ⟨rfl, rfl⟩
  rcases (by omega : i = 24 ∨ i = 25 ∨ i = 26 ∨ i = 27 ∨ i = 28 ∨ i = 29 ∨ i = 30 ∨ i = 31) with rfl | rfl | rfl | rfl | rfl | rfl | rfl | rfl
  iterate 7
    · go_enter Tryd.func27, Tryd.ntmps27
      go_wp2
      go_ret
      exact ⟨rfl, rfl⟩
  clear c0
  rcases (by omega : m = 0 ∨ m = 1 ∨ m = 2 ∨ m = 3 ∨ m = 4 ∨ m = 5 ∨ m = 6 ∨ m = 7) with rfl | rfl | rfl | rfl | rfl | rfl | rfl | rfl <;>
  · go_enter Tryd.func27, Tryd.ntmps27
    go_wp2
    go_ret
    exact ⟨rfl, rfl⟩
end Go.Proofs.YtbnckhlfmjoikaaDoor
