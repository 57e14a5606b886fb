/-
  No cell of these rows narrows 'for every input' (looked for: loops, veiled, ifaces, maps, wideKeys, modest, calm, conditions, laid).
  DERIVED. THE GIVEN ROWS OF THIS SEAT. 5 by the template 'for every input the law returns true; each argument reads behind the call as it read before'; 0 by the template 'total and deterministic' (their statements: YtjnmjgpkicbbdaaTotals.lean).
  GIVEN WITH THE SEED: the statements are not yours to turn. If you find one false, say at which input.
  Laid BY PROGRAM, IN A SANDBOX (cutbox-rows.mjs): the forced cells as the released guide's own fill.sh prints them over the translation b65b01492947887f… (all of the seat's roots in one cut). By AI agents, Wed Nov 11 2026. No macro, syntax, notation, axiom, sorry.
-/
import Derived.Test.YtjnmjgpkicbbdaaChecked
import GoSem.Claim
import GoSem.ClaimJoined
import GoSem.ClaimMapViews
import Derived.JoinedTies
import Derived.KernelRfl
namespace Go.Proofs.Ytjnmjgpkicbbdaa
/- THE CELL 'sum', in the pinned program and in every row, IS THE sha256 OF THE DUMP (.gsa) THAT YtjnmjgpkicbbdaaProg.lean LOADS. Nothing in Lean hashes anything: it is a label: what it is worth is what the hold of that sum in a sandbox is worth. -/
noncomputable def Try.pinned : Pinned := { name := "ytjnmjgpkicbbdaa", sum := "b65b01492947887fcff14b4fad06cfc806a549a6e7370cf444c95c5369655561", checked := Try.checked }
namespace Rows
def none {H : Type} : Left H := { results := [], args := [] }

/-- 'cruciblelaw11.BaseTells': WHATEVER THE INPUT: true; the input reads as it did. -/
def baseTellsSpec : ChangeSpec := { name := "baseTells", fn := fun _ => fun
  | [d1, d2] => { results := [.lit (.bool true)], args := [d1, d2] }
  | _ => none }
def baseTellsRow : OpenClaim := { program := "ytjnmjgpkicbbdaa", sum := "b65b01492947887fcff14b4fad06cfc806a549a6e7370cf444c95c5369655561", func := "crucible/cruciblelaw11.BaseTells", spec := "baseTells", inPlace := ["internal/abi.NoEscape"], apart := false }
def BaseTellsSaid : Prop := baseTellsRow.holds Try.pinned (OpenSpec.ofChange baseTellsSpec)

/-- ITS FALSE NEIGHBOUR: 'it returns false'. Refute it at one input. -/
def baseTellsWrong : ChangeSpec := { name := "baseTells", fn := fun _ => fun
  | [d1, d2] => { results := [.lit (.bool false)], args := [d1, d2] }
  | _ => none }
def BaseTellsWrongFalsely : Prop := baseTellsRow.holds Try.pinned (OpenSpec.ofChange baseTellsWrong)

/-- 'cruciblelaw11.BaseSums': WHATEVER THE INPUT: true; the input reads as it did. -/
def baseSumsSpec : ChangeSpec := { name := "baseSums", fn := fun _ => fun
  | [d] => { results := [.lit (.bool true)], args := [d] }
  | _ => none }
def baseSumsRow : OpenClaim := { program := "ytjnmjgpkicbbdaa", sum := "b65b01492947887fcff14b4fad06cfc806a549a6e7370cf444c95c5369655561", func := "crucible/cruciblelaw11.BaseSums", spec := "baseSums", inPlace := ["internal/abi.NoEscape"], apart := false }
def BaseSumsSaid : Prop := baseSumsRow.holds Try.pinned (OpenSpec.ofChange baseSumsSpec)

/-- ITS FALSE NEIGHBOUR: 'it returns false'. Refute it at one input. -/
def baseSumsWrong : ChangeSpec := { name := "baseSums", fn := fun _ => fun
  | [d] => { results := [.lit (.bool false)], args := [d] }
  | _ => none }
def BaseSumsWrongFalsely : Prop := baseSumsRow.holds Try.pinned (OpenSpec.ofChange baseSumsWrong)

/-- 'cruciblelaw11.BaseBack': WHATEVER THE INPUT: true; the input reads as it did. -/
def baseBackSpec : ChangeSpec := { name := "baseBack", fn := fun _ => fun
  | [d1, d2] => { results := [.lit (.bool true)], args := [d1, d2] }
  | _ => none }
def baseBackRow : OpenClaim := { program := "ytjnmjgpkicbbdaa", sum := "b65b01492947887fcff14b4fad06cfc806a549a6e7370cf444c95c5369655561", func := "crucible/cruciblelaw11.BaseBack", spec := "baseBack", inPlace := ["internal/abi.NoEscape"], apart := false }
def BaseBackSaid : Prop := baseBackRow.holds Try.pinned (OpenSpec.ofChange baseBackSpec)

/-- ITS FALSE NEIGHBOUR: 'it returns false'. Refute it at one input. -/
def baseBackWrong : ChangeSpec := { name := "baseBack", fn := fun _ => fun
  | [d1, d2] => { results := [.lit (.bool false)], args := [d1, d2] }
  | _ => none }
def BaseBackWrongFalsely : Prop := baseBackRow.holds Try.pinned (OpenSpec.ofChange baseBackWrong)

/-- 'cruciblelaw11.BaseJoins': WHATEVER THE INPUT: true; the input reads as it did. -/
def baseJoinsSpec : ChangeSpec := { name := "baseJoins", fn := fun _ => fun
  | [d1, d2] => { results := [.lit (.bool true)], args := [d1, d2] }
  | _ => none }
def baseJoinsRow : OpenClaim := { program := "ytjnmjgpkicbbdaa", sum := "b65b01492947887fcff14b4fad06cfc806a549a6e7370cf444c95c5369655561", func := "crucible/cruciblelaw11.BaseJoins", spec := "baseJoins", inPlace := ["internal/abi.NoEscape"], apart := false }
def BaseJoinsSaid : Prop := baseJoinsRow.holds Try.pinned (OpenSpec.ofChange baseJoinsSpec)

/-- ITS FALSE NEIGHBOUR: 'it returns false'. Refute it at one input. -/
def baseJoinsWrong : ChangeSpec := { name := "baseJoins", fn := fun _ => fun
  | [d1, d2] => { results := [.lit (.bool false)], args := [d1, d2] }
  | _ => none }
def BaseJoinsWrongFalsely : Prop := baseJoinsRow.holds Try.pinned (OpenSpec.ofChange baseJoinsWrong)

/-- 'cruciblelaw11.BaseForth': WHATEVER THE INPUT: true; the input reads as it did. -/
def baseForthSpec : ChangeSpec := { name := "baseForth", fn := fun _ => fun
  | [d] => { results := [.lit (.bool true)], args := [d] }
  | _ => none }
def baseForthRow : OpenClaim := { program := "ytjnmjgpkicbbdaa", sum := "b65b01492947887fcff14b4fad06cfc806a549a6e7370cf444c95c5369655561", func := "crucible/cruciblelaw11.BaseForth", spec := "baseForth", inPlace := ["internal/abi.NoEscape"], apart := false }
def BaseForthSaid : Prop := baseForthRow.holds Try.pinned (OpenSpec.ofChange baseForthSpec)

/-- ITS FALSE NEIGHBOUR: 'it returns false'. Refute it at one input. -/
def baseForthWrong : ChangeSpec := { name := "baseForth", fn := fun _ => fun
  | [d] => { results := [.lit (.bool false)], args := [d] }
  | _ => none }
def BaseForthWrongFalsely : Prop := baseForthRow.holds Try.pinned (OpenSpec.ofChange baseForthWrong)

/- THE SECOND FORM. 'bulk': how many values and letters a reading holds, each counted each time it is reached (what is shared counts as often as it is met; a slice's spare places count too). A statement '..UptoSaid' is the law's where the arguments, and the package variables that the reading takes, are together of bulk at most 1048576: NARROWER than '..Said'. Prove '..Said' where nothing that the law and all that it calls make is longer than what came in: it says more and counts as full. Else prove '..UptoSaid'. A law counts once. -/
mutual
def uptoBulk {H : Type} : DataW H → Nat
  | .lit (.string bytes) => bytes.length + 1
  | .lit _ => 1
  | .nil => 1
  | .ptr d => uptoBulk d + 1
  | .slice elems spare => uptoBulkAll elems + uptoBulkAll spare + 1
  | .agg parts => uptoBulkAll parts + 1
  | .iface _ d => uptoBulk d + 1
  | .map entries => uptoBulkEntries entries + 1
  | .held _ => 1
def uptoBulkAll {H : Type} : List (DataW H) → Nat
  | [] => 0
  | d :: r => uptoBulk d + uptoBulkAll r
def uptoBulkEntries {H : Type} : List (Lit × DataW H) → Nat
  | [] => 0
  | x :: r => uptoBulkEntry x + uptoBulkEntries r
def uptoBulkEntry {H : Type} : Lit × DataW H → Nat
  | (.string bytes, d) => bytes.length + uptoBulk d + 1
  | (_, d) => uptoBulk d + 1
 end
def uptoSmall : (H : Type) → List (DataW H) → Bool := fun _ ds => decide (uptoBulkAll ds ≤ 1048576)
def OpenSpec.upto (s : _root_.Go.ChangeSpec) : _root_.Go.OpenSpec := { _root_.Go.OpenSpec.ofChange s with cond := some uptoSmall }

/-- 'cruciblelaw11.BaseTells', WHERE WHAT IT READS IS OF BULK AT MOST 1048576: true; the input reads as it did. -/
def baseTellsUptoRow : OpenClaim := { program := "ytjnmjgpkicbbdaa", sum := "b65b01492947887fcff14b4fad06cfc806a549a6e7370cf444c95c5369655561", func := "crucible/cruciblelaw11.BaseTells", spec := "baseTells", inPlace := ["internal/abi.NoEscape"], apart := false, narrowed := true }
def BaseTellsUptoSaid : Prop := baseTellsUptoRow.holds Try.pinned (OpenSpec.upto baseTellsSpec)

/-- 'cruciblelaw11.BaseSums', WHERE WHAT IT READS IS OF BULK AT MOST 1048576: true; the input reads as it did. -/
def baseSumsUptoRow : OpenClaim := { program := "ytjnmjgpkicbbdaa", sum := "b65b01492947887fcff14b4fad06cfc806a549a6e7370cf444c95c5369655561", func := "crucible/cruciblelaw11.BaseSums", spec := "baseSums", inPlace := ["internal/abi.NoEscape"], apart := false, narrowed := true }
def BaseSumsUptoSaid : Prop := baseSumsUptoRow.holds Try.pinned (OpenSpec.upto baseSumsSpec)

/-- 'cruciblelaw11.BaseBack', WHERE WHAT IT READS IS OF BULK AT MOST 1048576: true; the input reads as it did. -/
def baseBackUptoRow : OpenClaim := { program := "ytjnmjgpkicbbdaa", sum := "b65b01492947887fcff14b4fad06cfc806a549a6e7370cf444c95c5369655561", func := "crucible/cruciblelaw11.BaseBack", spec := "baseBack", inPlace := ["internal/abi.NoEscape"], apart := false, narrowed := true }
def BaseBackUptoSaid : Prop := baseBackUptoRow.holds Try.pinned (OpenSpec.upto baseBackSpec)

/-- 'cruciblelaw11.BaseJoins', WHERE WHAT IT READS IS OF BULK AT MOST 1048576: true; the input reads as it did. -/
def baseJoinsUptoRow : OpenClaim := { program := "ytjnmjgpkicbbdaa", sum := "b65b01492947887fcff14b4fad06cfc806a549a6e7370cf444c95c5369655561", func := "crucible/cruciblelaw11.BaseJoins", spec := "baseJoins", inPlace := ["internal/abi.NoEscape"], apart := false, narrowed := true }
def BaseJoinsUptoSaid : Prop := baseJoinsUptoRow.holds Try.pinned (OpenSpec.upto baseJoinsSpec)

/-- 'cruciblelaw11.BaseForth', WHERE WHAT IT READS IS OF BULK AT MOST 1048576: true; the input reads as it did. -/
def baseForthUptoRow : OpenClaim := { program := "ytjnmjgpkicbbdaa", sum := "b65b01492947887fcff14b4fad06cfc806a549a6e7370cf444c95c5369655561", func := "crucible/cruciblelaw11.BaseForth", spec := "baseForth", inPlace := ["internal/abi.NoEscape"], apart := false, narrowed := true }
def BaseForthUptoSaid : Prop := baseForthUptoRow.holds Try.pinned (OpenSpec.upto baseForthSpec)

end Rows
end Go.Proofs.Ytjnmjgpkicbbdaa
