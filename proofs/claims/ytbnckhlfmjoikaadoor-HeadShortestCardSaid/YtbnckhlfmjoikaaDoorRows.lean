/-
  NARROWER THAN 'FOR EVERY INPUT', by the rows' own cells (each row's printed sentence says how): HeadFloats: laid · HeadWrites: laid · HeadReads: laid · HeadBack: laid · HeadShortest: laid · HeadWithin: laid · HeadFloatBack: laid.
  DERIVED. THE GIVEN ROWS OF THIS SEAT. 7 by the template 'for every input the law returns true; each argument reads behind the call as it read before'; 0 by the template 'total and deterministic' (their statements: YtbnckhlfmjoikaaDoorTotals.lean).
  GIVEN WITH THE SEED: the statements are not yours to turn. If you find one false, say at which input.
  Laid BY PROGRAM, IN A SANDBOX (cutbox-rows.mjs): the forced cells as the released guide's own fill.sh prints them over the translation 5ed22712f11e65f6… (all of the seat's roots in one cut). By AI agents, Wed Nov 11 2026. No macro, syntax, notation, axiom, sorry.
-/
import Derived.Test.YtbnckhlfmjoikaaDoorChecked
import GoSem.Claim
import GoSem.ClaimJoined
import GoSem.ClaimMapViews
import Derived.JoinedTies
import Derived.KernelRfl
namespace Go.Proofs.YtbnckhlfmjoikaaDoor
/- THE CELL 'sum', in the pinned program and in every row, IS THE sha256 OF THE DUMP (.gsa) THAT YtbnckhlfmjoikaaDoorProg.lean LOADS. Nothing in Lean hashes anything: it is a label: what it is worth is what the hold of that sum in a sandbox is worth. -/
noncomputable def Tryd.pinned : Pinned := { name := "ytbnckhlfmjoikaadoor", sum := "5ed22712f11e65f654177b3acd019a5017d6aa7442a5e4527b267e54e03dcb9b", checked := Tryd.checked }
namespace Rows
def none {H : Type} : Left H := { results := [], args := [] }

/- WHAT THE LISTED PACKAGE-LEVEL VARIABLES READ AS WHEN THE CALL BEGINS. Each datum BY PROGRAM (the guide's laid-datum.mjs) off the statement by which the dump's own 'gosem.cut.vars' lays the variable. In a bare row this is a premise. The card (YtbnckhlfmjoikaaDoorCards.lean) ties it to the program's text. -/
def laid_crucible_head_sizes {H : Type} : DataW H := .agg [.lit (.int .i64 1), .lit (.int .i64 2), .lit (.int .i64 4), .lit (.int .i64 8), .lit (.int .i64 9), .lit (.int .i64 9), .lit (.int .i64 9), .lit (.int .i64 0)]
def laid_errors_errorType {H : Type} : DataW H := .iface "internal/reflectlite.rtype" (.agg [.ptr (.lit (.string [101, 114, 114, 111, 114]))])
def laid_crucible_api_ErrArg {H : Type} : DataW H := .iface "*errors.errorString" (.ptr (.agg [.lit (.string [97, 110, 32, 97, 114, 103, 117, 109, 101, 110, 116, 32, 116, 104, 97, 116, 32, 109, 97, 121, 32, 110, 111, 116, 32, 98, 101])]))
def laid_crucible_api_ErrNil {H : Type} : DataW H := .iface "*errors.errorString" (.ptr (.agg [.lit (.string [97, 110, 32, 111, 98, 106, 101, 99, 116, 32, 116, 104, 97, 116, 32, 105, 115, 32, 110, 111, 116, 32, 116, 104, 101, 114, 101])]))
def laid_crucible_api_ErrInput {H : Type} : DataW H := .iface "*errors.errorString" (.ptr (.agg [.lit (.string [110, 111, 32, 100, 111, 99, 117, 109, 101, 110, 116, 32, 111, 102, 32, 105, 116, 115, 32, 102, 111, 114, 109, 97, 116])]))
def laid_crucible_api_ErrRep {H : Type} : DataW H := .iface "*errors.errorString" (.ptr (.agg [.lit (.string [97, 32, 118, 97, 108, 117, 101, 32, 116, 104, 97, 116, 32, 116, 104, 101, 32, 102, 111, 114, 109, 97, 116, 32, 104, 97, 115, 32, 110, 111, 116])]))
def laid_crucible_api_ErrLimit {H : Type} : DataW H := .iface "*errors.errorString" (.ptr (.agg [.lit (.string [97, 32, 108, 105, 109, 105, 116])]))
def laid_crucible_api_ErrNone {H : Type} : DataW H := .iface "*errors.errorString" (.ptr (.agg [.lit (.string [110, 111, 32, 115, 117, 99, 104, 32, 116, 104, 105, 110, 103])]))
def laid_crucible_api_ErrBusy {H : Type} : DataW H := .iface "*errors.errorString" (.ptr (.agg [.lit (.string [116, 111, 111, 32, 109, 97, 110, 121, 32, 115, 101, 115, 115, 105, 111, 110, 115])]))
def laid_crucible_api_ErrHandle {H : Type} : DataW H := .iface "*errors.errorString" (.ptr (.agg [.lit (.string [110, 111, 32, 115, 117, 99, 104, 32, 115, 101, 115, 115, 105, 111, 110])]))
def laid_crucible_api_ErrKey {H : Type} : DataW H := .iface "*errors.errorString" (.ptr (.agg [.lit (.string [97, 110, 111, 116, 104, 101, 114, 32, 107, 101, 121])]))
def laid_crucible_api_ErrStopped {H : Type} : DataW H := .iface "*errors.errorString" (.ptr (.agg [.lit (.string [115, 116, 111, 112, 112, 101, 100])]))
def laid_crucible_api_ErrScript {H : Type} : DataW H := .iface "*errors.errorString" (.ptr (.agg [.lit (.string [110, 111, 32, 115, 99, 114, 105, 112, 116])]))

/-- 'cruciblelaw19.HeadFloats': WHATEVER THE INPUT: true; the input reads as it did. -/
def headFloatsSpec : ChangeSpec := { name := "headFloats", fn := fun _ => fun
  | [d1, d2] => { results := [.lit (.bool true)], args := [d1, d2] }
  | _ => none }
def headFloatsRow : OpenClaim := { program := "ytbnckhlfmjoikaadoor", sum := "5ed22712f11e65f654177b3acd019a5017d6aa7442a5e4527b267e54e03dcb9b", func := "crucible/cruciblelaw19.HeadFloats", spec := "headFloats", named := ["crucible/head.sizes"], apart := false, laid := [("crucible/head.sizes", laid_crucible_head_sizes)] }
def HeadFloatsSaid : Prop := headFloatsRow.holds Tryd.pinned (OpenSpec.ofChange headFloatsSpec)

/-- ITS FALSE NEIGHBOUR: 'it returns false'. Refute it at one input. -/
def headFloatsWrong : ChangeSpec := { name := "headFloats", fn := fun _ => fun
  | [d1, d2] => { results := [.lit (.bool false)], args := [d1, d2] }
  | _ => none }
def HeadFloatsWrongFalsely : Prop := headFloatsRow.holds Tryd.pinned (OpenSpec.ofChange headFloatsWrong)

/-- 'cruciblelaw19.HeadWrites': WHATEVER THE INPUT: true; the input reads as it did. -/
def headWritesSpec : ChangeSpec := { name := "headWrites", fn := fun _ => fun
  | [d1, d2] => { results := [.lit (.bool true)], args := [d1, d2] }
  | _ => none }
def headWritesRow : OpenClaim := { program := "ytbnckhlfmjoikaadoor", sum := "5ed22712f11e65f654177b3acd019a5017d6aa7442a5e4527b267e54e03dcb9b", func := "crucible/cruciblelaw19.HeadWrites", spec := "headWrites", named := ["crucible/head.sizes"], apart := false, laid := [("crucible/head.sizes", laid_crucible_head_sizes)] }
def HeadWritesSaid : Prop := headWritesRow.holds Tryd.pinned (OpenSpec.ofChange headWritesSpec)

/-- ITS FALSE NEIGHBOUR: 'it returns false'. Refute it at one input. -/
def headWritesWrong : ChangeSpec := { name := "headWrites", fn := fun _ => fun
  | [d1, d2] => { results := [.lit (.bool false)], args := [d1, d2] }
  | _ => none }
def HeadWritesWrongFalsely : Prop := headWritesRow.holds Tryd.pinned (OpenSpec.ofChange headWritesWrong)

/-- 'cruciblelaw19.HeadReads': WHATEVER THE INPUT: true; the input reads as it did. -/
def headReadsSpec : ChangeSpec := { name := "headReads", fn := fun _ => fun
  | [d1, d2] => { results := [.lit (.bool true)], args := [d1, d2] }
  | _ => none }
def headReadsRow : OpenClaim := { program := "ytbnckhlfmjoikaadoor", sum := "5ed22712f11e65f654177b3acd019a5017d6aa7442a5e4527b267e54e03dcb9b", func := "crucible/cruciblelaw19.HeadReads", spec := "headReads", inPlace := ["internal/reflectlite.TypeOf", "internal/reflectlite.ValueOf", "(internal/reflectlite.Value).Type", "(internal/reflectlite.Value).IsNil", "(internal/reflectlite.Value).Elem", "(internal/reflectlite.Value).Set"], unfollowed := true, recurses := true, named := ["crucible/api.ErrArg", "crucible/head.sizes", "crucible/api.ErrNil", "crucible/api.ErrInput", "crucible/api.ErrRep", "crucible/api.ErrLimit", "crucible/api.ErrNone", "crucible/api.ErrBusy", "crucible/api.ErrHandle", "crucible/api.ErrKey", "crucible/api.ErrStopped", "crucible/api.ErrScript", "errors.errorType"], apart := false, laid := [("errors.errorType", laid_errors_errorType), ("crucible/api.ErrArg", laid_crucible_api_ErrArg), ("crucible/api.ErrNil", laid_crucible_api_ErrNil), ("crucible/api.ErrInput", laid_crucible_api_ErrInput), ("crucible/api.ErrRep", laid_crucible_api_ErrRep), ("crucible/api.ErrLimit", laid_crucible_api_ErrLimit), ("crucible/api.ErrNone", laid_crucible_api_ErrNone), ("crucible/api.ErrBusy", laid_crucible_api_ErrBusy), ("crucible/api.ErrHandle", laid_crucible_api_ErrHandle), ("crucible/api.ErrKey", laid_crucible_api_ErrKey), ("crucible/api.ErrStopped", laid_crucible_api_ErrStopped), ("crucible/api.ErrScript", laid_crucible_api_ErrScript), ("crucible/head.sizes", laid_crucible_head_sizes)] }
def HeadReadsSaid : Prop := headReadsRow.holds Tryd.pinned (OpenSpec.ofChange headReadsSpec)

/-- ITS FALSE NEIGHBOUR: 'it returns false'. Refute it at one input. -/
def headReadsWrong : ChangeSpec := { name := "headReads", fn := fun _ => fun
  | [d1, d2] => { results := [.lit (.bool false)], args := [d1, d2] }
  | _ => none }
def HeadReadsWrongFalsely : Prop := headReadsRow.holds Tryd.pinned (OpenSpec.ofChange headReadsWrong)

/-- 'cruciblelaw19.HeadBack': WHATEVER THE INPUT: true; the input reads as it did. -/
def headBackSpec : ChangeSpec := { name := "headBack", fn := fun _ => fun
  | [d1, d2, d3] => { results := [.lit (.bool true)], args := [d1, d2, d3] }
  | _ => none }
def headBackRow : OpenClaim := { program := "ytbnckhlfmjoikaadoor", sum := "5ed22712f11e65f654177b3acd019a5017d6aa7442a5e4527b267e54e03dcb9b", func := "crucible/cruciblelaw19.HeadBack", spec := "headBack", inPlace := ["internal/reflectlite.TypeOf", "internal/reflectlite.ValueOf", "(internal/reflectlite.Value).Type", "(internal/reflectlite.Value).IsNil", "(internal/reflectlite.Value).Elem", "(internal/reflectlite.Value).Set"], unfollowed := true, recurses := true, named := ["crucible/head.sizes", "crucible/api.ErrArg", "crucible/api.ErrNil", "crucible/api.ErrInput", "crucible/api.ErrRep", "crucible/api.ErrLimit", "crucible/api.ErrNone", "crucible/api.ErrBusy", "crucible/api.ErrHandle", "crucible/api.ErrKey", "crucible/api.ErrStopped", "crucible/api.ErrScript", "errors.errorType"], apart := false, laid := [("errors.errorType", laid_errors_errorType), ("crucible/api.ErrArg", laid_crucible_api_ErrArg), ("crucible/api.ErrNil", laid_crucible_api_ErrNil), ("crucible/api.ErrInput", laid_crucible_api_ErrInput), ("crucible/api.ErrRep", laid_crucible_api_ErrRep), ("crucible/api.ErrLimit", laid_crucible_api_ErrLimit), ("crucible/api.ErrNone", laid_crucible_api_ErrNone), ("crucible/api.ErrBusy", laid_crucible_api_ErrBusy), ("crucible/api.ErrHandle", laid_crucible_api_ErrHandle), ("crucible/api.ErrKey", laid_crucible_api_ErrKey), ("crucible/api.ErrStopped", laid_crucible_api_ErrStopped), ("crucible/api.ErrScript", laid_crucible_api_ErrScript), ("crucible/head.sizes", laid_crucible_head_sizes)] }
def HeadBackSaid : Prop := headBackRow.holds Tryd.pinned (OpenSpec.ofChange headBackSpec)

/-- ITS FALSE NEIGHBOUR: 'it returns false'. Refute it at one input. -/
def headBackWrong : ChangeSpec := { name := "headBack", fn := fun _ => fun
  | [d1, d2, d3] => { results := [.lit (.bool false)], args := [d1, d2, d3] }
  | _ => none }
def HeadBackWrongFalsely : Prop := headBackRow.holds Tryd.pinned (OpenSpec.ofChange headBackWrong)

/-- 'cruciblelaw19.HeadShortest': WHATEVER THE INPUT: true; the input reads as it did. -/
def headShortestSpec : ChangeSpec := { name := "headShortest", fn := fun _ => fun
  | [d] => { results := [.lit (.bool true)], args := [d] }
  | _ => none }
def headShortestRow : OpenClaim := { program := "ytbnckhlfmjoikaadoor", sum := "5ed22712f11e65f654177b3acd019a5017d6aa7442a5e4527b267e54e03dcb9b", func := "crucible/cruciblelaw19.HeadShortest", spec := "headShortest", inPlace := ["internal/reflectlite.TypeOf", "internal/reflectlite.ValueOf", "(internal/reflectlite.Value).Type", "(internal/reflectlite.Value).IsNil", "(internal/reflectlite.Value).Elem", "(internal/reflectlite.Value).Set"], unfollowed := true, recurses := true, named := ["crucible/head.sizes", "crucible/api.ErrArg", "crucible/api.ErrNil", "crucible/api.ErrInput", "crucible/api.ErrRep", "crucible/api.ErrLimit", "crucible/api.ErrNone", "crucible/api.ErrBusy", "crucible/api.ErrHandle", "crucible/api.ErrKey", "crucible/api.ErrStopped", "crucible/api.ErrScript", "errors.errorType"], apart := false, laid := [("errors.errorType", laid_errors_errorType), ("crucible/api.ErrArg", laid_crucible_api_ErrArg), ("crucible/api.ErrNil", laid_crucible_api_ErrNil), ("crucible/api.ErrInput", laid_crucible_api_ErrInput), ("crucible/api.ErrRep", laid_crucible_api_ErrRep), ("crucible/api.ErrLimit", laid_crucible_api_ErrLimit), ("crucible/api.ErrNone", laid_crucible_api_ErrNone), ("crucible/api.ErrBusy", laid_crucible_api_ErrBusy), ("crucible/api.ErrHandle", laid_crucible_api_ErrHandle), ("crucible/api.ErrKey", laid_crucible_api_ErrKey), ("crucible/api.ErrStopped", laid_crucible_api_ErrStopped), ("crucible/api.ErrScript", laid_crucible_api_ErrScript), ("crucible/head.sizes", laid_crucible_head_sizes)] }
def HeadShortestSaid : Prop := headShortestRow.holds Tryd.pinned (OpenSpec.ofChange headShortestSpec)

/-- ITS FALSE NEIGHBOUR: 'it returns false'. Refute it at one input. -/
def headShortestWrong : ChangeSpec := { name := "headShortest", fn := fun _ => fun
  | [d] => { results := [.lit (.bool false)], args := [d] }
  | _ => none }
def HeadShortestWrongFalsely : Prop := headShortestRow.holds Tryd.pinned (OpenSpec.ofChange headShortestWrong)

/-- 'cruciblelaw19.HeadWithin': WHATEVER THE INPUT: true; the input reads as it did. -/
def headWithinSpec : ChangeSpec := { name := "headWithin", fn := fun _ => fun
  | [d1, d2, d3] => { results := [.lit (.bool true)], args := [d1, d2, d3] }
  | _ => none }
def headWithinRow : OpenClaim := { program := "ytbnckhlfmjoikaadoor", sum := "5ed22712f11e65f654177b3acd019a5017d6aa7442a5e4527b267e54e03dcb9b", func := "crucible/cruciblelaw19.HeadWithin", spec := "headWithin", inPlace := ["internal/reflectlite.TypeOf", "internal/reflectlite.ValueOf", "(internal/reflectlite.Value).Type", "(internal/reflectlite.Value).IsNil", "(internal/reflectlite.Value).Elem", "(internal/reflectlite.Value).Set"], unfollowed := true, recurses := true, named := ["crucible/head.sizes", "crucible/api.ErrArg", "crucible/api.ErrNil", "crucible/api.ErrInput", "crucible/api.ErrRep", "crucible/api.ErrLimit", "crucible/api.ErrNone", "crucible/api.ErrBusy", "crucible/api.ErrHandle", "crucible/api.ErrKey", "crucible/api.ErrStopped", "crucible/api.ErrScript", "errors.errorType"], apart := false, laid := [("errors.errorType", laid_errors_errorType), ("crucible/api.ErrArg", laid_crucible_api_ErrArg), ("crucible/api.ErrNil", laid_crucible_api_ErrNil), ("crucible/api.ErrInput", laid_crucible_api_ErrInput), ("crucible/api.ErrRep", laid_crucible_api_ErrRep), ("crucible/api.ErrLimit", laid_crucible_api_ErrLimit), ("crucible/api.ErrNone", laid_crucible_api_ErrNone), ("crucible/api.ErrBusy", laid_crucible_api_ErrBusy), ("crucible/api.ErrHandle", laid_crucible_api_ErrHandle), ("crucible/api.ErrKey", laid_crucible_api_ErrKey), ("crucible/api.ErrStopped", laid_crucible_api_ErrStopped), ("crucible/api.ErrScript", laid_crucible_api_ErrScript), ("crucible/head.sizes", laid_crucible_head_sizes)] }
def HeadWithinSaid : Prop := headWithinRow.holds Tryd.pinned (OpenSpec.ofChange headWithinSpec)

/-- ITS FALSE NEIGHBOUR: 'it returns false'. Refute it at one input. -/
def headWithinWrong : ChangeSpec := { name := "headWithin", fn := fun _ => fun
  | [d1, d2, d3] => { results := [.lit (.bool false)], args := [d1, d2, d3] }
  | _ => none }
def HeadWithinWrongFalsely : Prop := headWithinRow.holds Tryd.pinned (OpenSpec.ofChange headWithinWrong)

/-- 'cruciblelaw19.HeadFloatBack': WHATEVER THE INPUT: true; the input reads as it did. -/
def headFloatBackSpec : ChangeSpec := { name := "headFloatBack", fn := fun _ => fun
  | [d1, d2] => { results := [.lit (.bool true)], args := [d1, d2] }
  | _ => none }
def headFloatBackRow : OpenClaim := { program := "ytbnckhlfmjoikaadoor", sum := "5ed22712f11e65f654177b3acd019a5017d6aa7442a5e4527b267e54e03dcb9b", func := "crucible/cruciblelaw19.HeadFloatBack", spec := "headFloatBack", inPlace := ["internal/reflectlite.TypeOf", "internal/reflectlite.ValueOf", "(internal/reflectlite.Value).Type", "(internal/reflectlite.Value).IsNil", "(internal/reflectlite.Value).Elem", "(internal/reflectlite.Value).Set"], unfollowed := true, recurses := true, named := ["crucible/head.sizes", "crucible/api.ErrArg", "crucible/api.ErrNil", "crucible/api.ErrInput", "crucible/api.ErrRep", "crucible/api.ErrLimit", "crucible/api.ErrNone", "crucible/api.ErrBusy", "crucible/api.ErrHandle", "crucible/api.ErrKey", "crucible/api.ErrStopped", "crucible/api.ErrScript", "errors.errorType"], apart := false, laid := [("errors.errorType", laid_errors_errorType), ("crucible/api.ErrArg", laid_crucible_api_ErrArg), ("crucible/api.ErrNil", laid_crucible_api_ErrNil), ("crucible/api.ErrInput", laid_crucible_api_ErrInput), ("crucible/api.ErrRep", laid_crucible_api_ErrRep), ("crucible/api.ErrLimit", laid_crucible_api_ErrLimit), ("crucible/api.ErrNone", laid_crucible_api_ErrNone), ("crucible/api.ErrBusy", laid_crucible_api_ErrBusy), ("crucible/api.ErrHandle", laid_crucible_api_ErrHandle), ("crucible/api.ErrKey", laid_crucible_api_ErrKey), ("crucible/api.ErrStopped", laid_crucible_api_ErrStopped), ("crucible/api.ErrScript", laid_crucible_api_ErrScript), ("crucible/head.sizes", laid_crucible_head_sizes)] }
def HeadFloatBackSaid : Prop := headFloatBackRow.holds Tryd.pinned (OpenSpec.ofChange headFloatBackSpec)

/-- ITS FALSE NEIGHBOUR: 'it returns false'. Refute it at one input. -/
def headFloatBackWrong : ChangeSpec := { name := "headFloatBack", fn := fun _ => fun
  | [d1, d2] => { results := [.lit (.bool false)], args := [d1, d2] }
  | _ => none }
def HeadFloatBackWrongFalsely : Prop := headFloatBackRow.holds Tryd.pinned (OpenSpec.ofChange headFloatBackWrong)

/- THE SECOND FORM. 'bulk': how many values and letters a reading holds, each counted each time it is reached (what is shared counts as often as it is met; a slice's spare places count too). A statement '..UptoSaid' is the law's where the arguments, and the package variables that the reading takes, are together of bulk at most 1048576: NARROWER than '..Said'. Prove '..Said' where nothing that the law and all that it calls make is longer than what came in: it says more and counts as full. Else prove '..UptoSaid'. A law counts once. -/
mutual
def uptoBulk {H : Type} : DataW H → Nat
  | .lit (.string bytes) => bytes.length + 1
  | .lit _ => 1
  | .nil => 1
  | .ptr d => uptoBulk d + 1
  | .slice elems spare => uptoBulkAll elems + uptoBulkAll spare + 1
  | .agg parts => uptoBulkAll parts + 1
  | .iface _ d => uptoBulk d + 1
  | .map entries => uptoBulkEntries entries + 1
  | .held _ => 1
def uptoBulkAll {H : Type} : List (DataW H) → Nat
  | [] => 0
  | d :: r => uptoBulk d + uptoBulkAll r
def uptoBulkEntries {H : Type} : List (Lit × DataW H) → Nat
  | [] => 0
  | x :: r => uptoBulkEntry x + uptoBulkEntries r
def uptoBulkEntry {H : Type} : Lit × DataW H → Nat
  | (.string bytes, d) => bytes.length + uptoBulk d + 1
  | (_, d) => uptoBulk d + 1
 end
def uptoSmall : (H : Type) → List (DataW H) → Bool := fun _ ds => decide (uptoBulkAll ds ≤ 1048576)
def OpenSpec.upto (s : _root_.Go.ChangeSpec) : _root_.Go.OpenSpec := { _root_.Go.OpenSpec.ofChange s with cond := some uptoSmall }

/-- 'cruciblelaw19.HeadFloats', WHERE WHAT IT READS IS OF BULK AT MOST 1048576: true; the input reads as it did. -/
def headFloatsUptoRow : OpenClaim := { program := "ytbnckhlfmjoikaadoor", sum := "5ed22712f11e65f654177b3acd019a5017d6aa7442a5e4527b267e54e03dcb9b", func := "crucible/cruciblelaw19.HeadFloats", spec := "headFloats", named := ["crucible/head.sizes"], apart := false, laid := [("crucible/head.sizes", laid_crucible_head_sizes)], narrowed := true }
def HeadFloatsUptoSaid : Prop := headFloatsUptoRow.holds Tryd.pinned (OpenSpec.upto headFloatsSpec)

/-- 'cruciblelaw19.HeadWrites', WHERE WHAT IT READS IS OF BULK AT MOST 1048576: true; the input reads as it did. -/
def headWritesUptoRow : OpenClaim := { program := "ytbnckhlfmjoikaadoor", sum := "5ed22712f11e65f654177b3acd019a5017d6aa7442a5e4527b267e54e03dcb9b", func := "crucible/cruciblelaw19.HeadWrites", spec := "headWrites", named := ["crucible/head.sizes"], apart := false, laid := [("crucible/head.sizes", laid_crucible_head_sizes)], narrowed := true }
def HeadWritesUptoSaid : Prop := headWritesUptoRow.holds Tryd.pinned (OpenSpec.upto headWritesSpec)

/-- 'cruciblelaw19.HeadReads', WHERE WHAT IT READS IS OF BULK AT MOST 1048576: true; the input reads as it did. -/
def headReadsUptoRow : OpenClaim := { program := "ytbnckhlfmjoikaadoor", sum := "5ed22712f11e65f654177b3acd019a5017d6aa7442a5e4527b267e54e03dcb9b", func := "crucible/cruciblelaw19.HeadReads", spec := "headReads", inPlace := ["internal/reflectlite.TypeOf", "internal/reflectlite.ValueOf", "(internal/reflectlite.Value).Type", "(internal/reflectlite.Value).IsNil", "(internal/reflectlite.Value).Elem", "(internal/reflectlite.Value).Set"], unfollowed := true, recurses := true, named := ["crucible/api.ErrArg", "crucible/head.sizes", "crucible/api.ErrNil", "crucible/api.ErrInput", "crucible/api.ErrRep", "crucible/api.ErrLimit", "crucible/api.ErrNone", "crucible/api.ErrBusy", "crucible/api.ErrHandle", "crucible/api.ErrKey", "crucible/api.ErrStopped", "crucible/api.ErrScript", "errors.errorType"], apart := false, laid := [("errors.errorType", laid_errors_errorType), ("crucible/api.ErrArg", laid_crucible_api_ErrArg), ("crucible/api.ErrNil", laid_crucible_api_ErrNil), ("crucible/api.ErrInput", laid_crucible_api_ErrInput), ("crucible/api.ErrRep", laid_crucible_api_ErrRep), ("crucible/api.ErrLimit", laid_crucible_api_ErrLimit), ("crucible/api.ErrNone", laid_crucible_api_ErrNone), ("crucible/api.ErrBusy", laid_crucible_api_ErrBusy), ("crucible/api.ErrHandle", laid_crucible_api_ErrHandle), ("crucible/api.ErrKey", laid_crucible_api_ErrKey), ("crucible/api.ErrStopped", laid_crucible_api_ErrStopped), ("crucible/api.ErrScript", laid_crucible_api_ErrScript), ("crucible/head.sizes", laid_crucible_head_sizes)], narrowed := true }
def HeadReadsUptoSaid : Prop := headReadsUptoRow.holds Tryd.pinned (OpenSpec.upto headReadsSpec)

/-- 'cruciblelaw19.HeadBack', WHERE WHAT IT READS IS OF BULK AT MOST 1048576: true; the input reads as it did. -/
def headBackUptoRow : OpenClaim := { program := "ytbnckhlfmjoikaadoor", sum := "5ed22712f11e65f654177b3acd019a5017d6aa7442a5e4527b267e54e03dcb9b", func := "crucible/cruciblelaw19.HeadBack", spec := "headBack", inPlace := ["internal/reflectlite.TypeOf", "internal/reflectlite.ValueOf", "(internal/reflectlite.Value).Type", "(internal/reflectlite.Value).IsNil", "(internal/reflectlite.Value).Elem", "(internal/reflectlite.Value).Set"], unfollowed := true, recurses := true, named := ["crucible/head.sizes", "crucible/api.ErrArg", "crucible/api.ErrNil", "crucible/api.ErrInput", "crucible/api.ErrRep", "crucible/api.ErrLimit", "crucible/api.ErrNone", "crucible/api.ErrBusy", "crucible/api.ErrHandle", "crucible/api.ErrKey", "crucible/api.ErrStopped", "crucible/api.ErrScript", "errors.errorType"], apart := false, laid := [("errors.errorType", laid_errors_errorType), ("crucible/api.ErrArg", laid_crucible_api_ErrArg), ("crucible/api.ErrNil", laid_crucible_api_ErrNil), ("crucible/api.ErrInput", laid_crucible_api_ErrInput), ("crucible/api.ErrRep", laid_crucible_api_ErrRep), ("crucible/api.ErrLimit", laid_crucible_api_ErrLimit), ("crucible/api.ErrNone", laid_crucible_api_ErrNone), ("crucible/api.ErrBusy", laid_crucible_api_ErrBusy), ("crucible/api.ErrHandle", laid_crucible_api_ErrHandle), ("crucible/api.ErrKey", laid_crucible_api_ErrKey), ("crucible/api.ErrStopped", laid_crucible_api_ErrStopped), ("crucible/api.ErrScript", laid_crucible_api_ErrScript), ("crucible/head.sizes", laid_crucible_head_sizes)], narrowed := true }
def HeadBackUptoSaid : Prop := headBackUptoRow.holds Tryd.pinned (OpenSpec.upto headBackSpec)

/-- 'cruciblelaw19.HeadShortest', WHERE WHAT IT READS IS OF BULK AT MOST 1048576: true; the input reads as it did. -/
def headShortestUptoRow : OpenClaim := { program := "ytbnckhlfmjoikaadoor", sum := "5ed22712f11e65f654177b3acd019a5017d6aa7442a5e4527b267e54e03dcb9b", func := "crucible/cruciblelaw19.HeadShortest", spec := "headShortest", inPlace := ["internal/reflectlite.TypeOf", "internal/reflectlite.ValueOf", "(internal/reflectlite.Value).Type", "(internal/reflectlite.Value).IsNil", "(internal/reflectlite.Value).Elem", "(internal/reflectlite.Value).Set"], unfollowed := true, recurses := true, named := ["crucible/head.sizes", "crucible/api.ErrArg", "crucible/api.ErrNil", "crucible/api.ErrInput", "crucible/api.ErrRep", "crucible/api.ErrLimit", "crucible/api.ErrNone", "crucible/api.ErrBusy", "crucible/api.ErrHandle", "crucible/api.ErrKey", "crucible/api.ErrStopped", "crucible/api.ErrScript", "errors.errorType"], apart := false, laid := [("errors.errorType", laid_errors_errorType), ("crucible/api.ErrArg", laid_crucible_api_ErrArg), ("crucible/api.ErrNil", laid_crucible_api_ErrNil), ("crucible/api.ErrInput", laid_crucible_api_ErrInput), ("crucible/api.ErrRep", laid_crucible_api_ErrRep), ("crucible/api.ErrLimit", laid_crucible_api_ErrLimit), ("crucible/api.ErrNone", laid_crucible_api_ErrNone), ("crucible/api.ErrBusy", laid_crucible_api_ErrBusy), ("crucible/api.ErrHandle", laid_crucible_api_ErrHandle), ("crucible/api.ErrKey", laid_crucible_api_ErrKey), ("crucible/api.ErrStopped", laid_crucible_api_ErrStopped), ("crucible/api.ErrScript", laid_crucible_api_ErrScript), ("crucible/head.sizes", laid_crucible_head_sizes)], narrowed := true }
def HeadShortestUptoSaid : Prop := headShortestUptoRow.holds Tryd.pinned (OpenSpec.upto headShortestSpec)

/-- 'cruciblelaw19.HeadWithin', WHERE WHAT IT READS IS OF BULK AT MOST 1048576: true; the input reads as it did. -/
def headWithinUptoRow : OpenClaim := { program := "ytbnckhlfmjoikaadoor", sum := "5ed22712f11e65f654177b3acd019a5017d6aa7442a5e4527b267e54e03dcb9b", func := "crucible/cruciblelaw19.HeadWithin", spec := "headWithin", inPlace := ["internal/reflectlite.TypeOf", "internal/reflectlite.ValueOf", "(internal/reflectlite.Value).Type", "(internal/reflectlite.Value).IsNil", "(internal/reflectlite.Value).Elem", "(internal/reflectlite.Value).Set"], unfollowed := true, recurses := true, named := ["crucible/head.sizes", "crucible/api.ErrArg", "crucible/api.ErrNil", "crucible/api.ErrInput", "crucible/api.ErrRep", "crucible/api.ErrLimit", "crucible/api.ErrNone", "crucible/api.ErrBusy", "crucible/api.ErrHandle", "crucible/api.ErrKey", "crucible/api.ErrStopped", "crucible/api.ErrScript", "errors.errorType"], apart := false, laid := [("errors.errorType", laid_errors_errorType), ("crucible/api.ErrArg", laid_crucible_api_ErrArg), ("crucible/api.ErrNil", laid_crucible_api_ErrNil), ("crucible/api.ErrInput", laid_crucible_api_ErrInput), ("crucible/api.ErrRep", laid_crucible_api_ErrRep), ("crucible/api.ErrLimit", laid_crucible_api_ErrLimit), ("crucible/api.ErrNone", laid_crucible_api_ErrNone), ("crucible/api.ErrBusy", laid_crucible_api_ErrBusy), ("crucible/api.ErrHandle", laid_crucible_api_ErrHandle), ("crucible/api.ErrKey", laid_crucible_api_ErrKey), ("crucible/api.ErrStopped", laid_crucible_api_ErrStopped), ("crucible/api.ErrScript", laid_crucible_api_ErrScript), ("crucible/head.sizes", laid_crucible_head_sizes)], narrowed := true }
def HeadWithinUptoSaid : Prop := headWithinUptoRow.holds Tryd.pinned (OpenSpec.upto headWithinSpec)

/-- 'cruciblelaw19.HeadFloatBack', WHERE WHAT IT READS IS OF BULK AT MOST 1048576: true; the input reads as it did. -/
def headFloatBackUptoRow : OpenClaim := { program := "ytbnckhlfmjoikaadoor", sum := "5ed22712f11e65f654177b3acd019a5017d6aa7442a5e4527b267e54e03dcb9b", func := "crucible/cruciblelaw19.HeadFloatBack", spec := "headFloatBack", inPlace := ["internal/reflectlite.TypeOf", "internal/reflectlite.ValueOf", "(internal/reflectlite.Value).Type", "(internal/reflectlite.Value).IsNil", "(internal/reflectlite.Value).Elem", "(internal/reflectlite.Value).Set"], unfollowed := true, recurses := true, named := ["crucible/head.sizes", "crucible/api.ErrArg", "crucible/api.ErrNil", "crucible/api.ErrInput", "crucible/api.ErrRep", "crucible/api.ErrLimit", "crucible/api.ErrNone", "crucible/api.ErrBusy", "crucible/api.ErrHandle", "crucible/api.ErrKey", "crucible/api.ErrStopped", "crucible/api.ErrScript", "errors.errorType"], apart := false, laid := [("errors.errorType", laid_errors_errorType), ("crucible/api.ErrArg", laid_crucible_api_ErrArg), ("crucible/api.ErrNil", laid_crucible_api_ErrNil), ("crucible/api.ErrInput", laid_crucible_api_ErrInput), ("crucible/api.ErrRep", laid_crucible_api_ErrRep), ("crucible/api.ErrLimit", laid_crucible_api_ErrLimit), ("crucible/api.ErrNone", laid_crucible_api_ErrNone), ("crucible/api.ErrBusy", laid_crucible_api_ErrBusy), ("crucible/api.ErrHandle", laid_crucible_api_ErrHandle), ("crucible/api.ErrKey", laid_crucible_api_ErrKey), ("crucible/api.ErrStopped", laid_crucible_api_ErrStopped), ("crucible/api.ErrScript", laid_crucible_api_ErrScript), ("crucible/head.sizes", laid_crucible_head_sizes)], narrowed := true }
def HeadFloatBackUptoSaid : Prop := headFloatBackUptoRow.holds Tryd.pinned (OpenSpec.upto headFloatBackSpec)

end Rows
end Go.Proofs.YtbnckhlfmjoikaaDoor
