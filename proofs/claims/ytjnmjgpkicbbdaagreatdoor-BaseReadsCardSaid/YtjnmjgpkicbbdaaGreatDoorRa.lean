/- The document's reading of letters: the number of a letter. -/
import Derived.Test.YtjnmjgpkicbbdaaGreatDoorX
import Derived.Deep.DeepCutAuto
import Derived.Deep.RegionHeld3
import Derived.BigQuiet
import Derived.Outline
namespace Go.Proofs.YtjnmjgpkicbbdaaGreatDoor
open Go.RowKit
set_option maxRecDepth 100000
set_option linter.unusedVariables false
set_option linter.unusedSimpArgs false
set_option linter.unnecessarySimpa false

def sAt (s : ByteArray) (k : Nat) : Int := if h : k < s.size then (s[k].toNat : Int) else 0
theorem sAt_run (s : ByteArray) (k : Nat) (h : k < s.size) (W : World) : (Instr.index 9 (.string s) (.int .i64 (k : Int))).run Tryz.prog W = .ok (.int .u8 (sAt s k)) W := by
  rw [run_index_string W 9 s .i64 k Tryz.underlying9]
  unfold sAt
  simp [h]
/-- The last place of a letter; 0: there is none. -/
def lastIn (al : ByteArray) (c : Int) : Nat → Int
  | 0 => 0
  | k + 1 => if sAt al k = c then (k : Int) else lastIn al c k
theorem lastIn_range (al : ByteArray) (c : Int) : ∀ k, 0 ≤ lastIn al c k ∧ lastIn al c k ≤ k
  | 0 => ⟨Int.le_refl _, Int.le_refl _⟩
  | k + 1 => by
    have := lastIn_range al c k
    simp only [lastIn]
    split <;> omega
def bits4 (x : Int) : List Int := [x / 8 % 2, x / 4 % 2, x / 2 % 2, x % 2]
def bits6 (x : Int) : List Int := [x / 32 % 2, x / 16 % 2, x / 8 % 2, x / 4 % 2, x / 2 % 2, x % 2]
end Go.Proofs.YtjnmjgpkicbbdaaGreatDoor
