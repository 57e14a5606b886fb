/- What base.number answers: the place of a letter in an alphabet of ASCII letters, or -1. -/
import Derived.Test.YtjnmjgpkicbbdaaGreatDoorProg
import Derived.Test.YtjnmjgpkicbbdaaGreatDoorAid
import Derived.Handy
import Derived.BigQuiet
import Derived.Lib.Hide
import Derived.Laws.BytesArg
import Derived.Laws.RangeString
namespace Go.Proofs.YtjnmjgpkicbbdaaGreatDoor
open Go.RowKit
set_option maxRecDepth 100000
set_option linter.unusedVariables false

/-- The first place from pos on at which a byte stands; -1: at none. -/
def numFrom (s : ByteArray) (c : Int) (pos : Nat) : Int :=
  if h : pos < s.size then (if ((s[pos]'h).toNat : Int) = c then (pos : Int) else numFrom s c (pos + 1)) else -1
termination_by s.size - pos

theorem number_any (s : ByteArray) (c : Int) (w : World) (hs : ∀ (k : Nat) (h : k < s.size), (s[k]'h).toNat < 128) (hz : s.size ≤ 100) (h0 : 0 ≤ c) (h1 : c ≤ 255) :
    Calls Tryz.prog 14 #[.string s, .int .u8 c] w fun e w' => e = .returned (.int .i64 (numFrom s c 0)) ∧ Below w.heap.size w w' := by
  have hS := Lib.hid hs
  clear hs
  go_enter Tryz.func14, Tryz.ntmps14
  go_wp2
  go_loopw [4, 5, 6] (fun a b d w' => ∃ pos : Nat, w' = w.iter s pos ∧ pos ≤ s.size ∧ numFrom s c pos = numFrom s c 0) (fun _ _ _ w' => s.size - w'.iterPos w.heap.size)
  case atStart => exact ⟨0, rfl, by omega, rfl⟩
  case round =>
    obtain ⟨pos, rfl, hp, hn⟩ := hrel
    have HN := Lib.hid hn
    clear hn
    by_cases hlt : pos < s.size
    · have hnx := fun ty => run_next_ascii (P := Tryz.prog) w s pos ty hlt (hS.out pos hlt)
      by_cases he : ((s[pos]'hlt).toNat : Int) = c
      · have hb : (((s[pos]'hlt).toNat : Int) == c) = true := by simp [he]
        have hv : numFrom s c pos = pos := by rw [numFrom, dif_pos hlt, if_pos he]
        have HV := Lib.hid hv
        clear hv
        go_wp2
        go_ret
        exact ⟨by rw [← HN.out, HV.out]; rfl, iter_below _ _ _⟩
      · have hb : (((s[pos]'hlt).toNat : Int) == c) = false := by simp [he]
        have hv : numFrom s c pos = numFrom s c (pos + 1) := by rw [numFrom, dif_pos hlt, if_neg he]
        have HV := Lib.hid hv
        clear hv
        go_wp2
        exact ⟨⟨pos + 1, rfl, by omega, by rw [← HV.out, HN.out]⟩, by simp; omega⟩
    · have hnx := fun ty => run_next_end (P := Tryz.prog) w s pos ty hlt
      have hv : numFrom s c pos = -1 := by rw [numFrom, dif_neg hlt]
      have HV := Lib.hid hv
      clear hv
      go_wp2
      go_ret
      exact ⟨by rw [← HN.out, HV.out]; rfl, iter_below _ _ _⟩
end Go.Proofs.YtjnmjgpkicbbdaaGreatDoor
