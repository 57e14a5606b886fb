/- ValueAlike: the row's closed facts, one by one. -/
import Derived.Test.YtcpkjmpbpmeclaaGreatDoorRows
import Derived.ProofKit
import Derived.Stop.Joined
import Derived.JoinedCond
import Derived.JoinedOf
namespace Go.Proofs.YtcpkjmpbpmeclaaGreatDoor.valueAlikeClosed
set_option maxRecDepth 100000
theorem and_t {a b : Bool} (h : a = true) (k : b = true) : (a && b) = true := by rw [h, k]; rfl
theorem k0 : (Rows.valueAlikeUptoRow.wf (OpenSpec.ofChange (Rows.OpenSpec.upto Rows.valueAlikeSpec).bare)) = true := by kernel_rfl
theorem k1 : (laidOutB Tryz.pinned.checked.prog) = true := by kernel_rfl
theorem k2 : (mapsRowed Tryz.pinned.checked.prog) = true := by kernel_rfl
theorem k3 : (Tryz.f9.params.all (Tryz.pinned.checked.prog.readableRec ·)) = true := by kernel_rfl
theorem k4 : (namedTie Tryz.pinned.checked.prog Rows.valueAlikeUptoRow.named (Rows.OpenSpec.upto Rows.valueAlikeSpec).bare.vars) = true := by kernel_rfl
theorem k5 : ((Rows.valueAlikeUptoRow.stops == [])) = true := by kernel_rfl
theorem k6 : ((Tryz.pinned.checked.prog.stops == [])) = true := by kernel_rfl
theorem k7 : ((Rows.valueAlikeUptoRow.knobs == [])) = true := by kernel_rfl
theorem k8 : ((Tryz.pinned.checked.prog.stopKnobs == [])) = true := by kernel_rfl
theorem k9 : ((Rows.valueAlikeUptoRow.inPlace == Tryz.pinned.checked.prog.inPlace 9)) = true := by kernel_rfl
theorem k10 : ((Rows.valueAlikeUptoRow.unfollowed == Tryz.pinned.checked.prog.unfollowed 9)) = true := by kernel_rfl
theorem k11 : ((Rows.valueAlikeUptoRow.recurses == Tryz.pinned.checked.prog.recurses 9)) = true := by kernel_rfl
theorem k12 : ((Rows.valueAlikeUptoRow.named == Tryz.pinned.checked.prog.varsNamed 9)) = true := by kernel_rfl
theorem k13 : ((Rows.valueAlikeUptoRow.maps == (Tryz.f9.params.toList ++ (Rows.OpenSpec.upto Rows.valueAlikeSpec).bare.plain.varTypes Tryz.pinned.checked.prog).any (Tryz.pinned.checked.prog.mapsRec ·))) = true := by kernel_rfl
theorem k14 : ((Rows.valueAlikeUptoRow.ifaces == (Tryz.f9.params.toList ++ (Rows.OpenSpec.upto Rows.valueAlikeSpec).bare.plain.varTypes Tryz.pinned.checked.prog).any (Tryz.pinned.checked.prog.ifacesRec ·))) = true := by kernel_rfl
theorem k15 : ((Rows.valueAlikeUptoRow.mapsOut == Tryz.pinned.checked.prog.mapsAmong Tryz.f9.resultTypes.toList)) = true := by kernel_rfl
theorem k16 : ((Rows.valueAlikeUptoRow.loops == (Tryz.f9.params.toList ++ (Rows.OpenSpec.upto Rows.valueAlikeSpec).bare.plain.varTypes Tryz.pinned.checked.prog).any (Tryz.pinned.checked.prog.loopsFrom ·))) = true := by kernel_rfl
theorem k17 : ((Rows.valueAlikeUptoRow.wideKeys == (Tryz.f9.params.toList ++ (Rows.OpenSpec.upto Rows.valueAlikeSpec).bare.plain.varTypes Tryz.pinned.checked.prog ++ Tryz.f9.resultTypes.toList).any (Tryz.pinned.checked.prog.wideKeysFrom ·))) = true := by kernel_rfl
theorem k18 : ((Rows.OpenSpec.upto Rows.valueAlikeSpec).bare.vars.all (Tryz.pinned.checked.prog.varReadable ·)) = true := by kernel_rfl
theorem k19 : (Tryz.f9.resultTypes.all (fun t => Tryz.pinned.checked.prog.readableRec t && decide (t < Tryz.pinned.checked.prog.types.size))) = true := by kernel_rfl
theorem k20 : ((Rows.valueAlikeUptoRow.ifacesOut == Tryz.f9.resultTypes.toList.any (Tryz.pinned.checked.prog.ifacesRec ·))) = true := by kernel_rfl
theorem k21 : ((Rows.valueAlikeUptoRow.loopsOut == Tryz.f9.resultTypes.toList.any (Tryz.pinned.checked.prog.loopsFrom ·))) = true := by kernel_rfl
theorem k22 : ((Rows.valueAlikeUptoRow.plainKeys == Tryz.pinned.checked.prog.plainKeys)) = true := by kernel_rfl
theorem k23 : (Rows.valueAlikeUptoRow.shortTexts.isNone) = true := by kernel_rfl
theorem k24 : (Tryz.pinned.checked.prog.stopsHeard) = true := by kernel_rfl
theorem k25 : (Tryz.pinned.checked.prog.mayEnter) = true := by kernel_rfl
theorem k26 : ((Rows.valueAlikeUptoRow.lifted == Tryz.pinned.checked.prog.liftsFinal)) = true := by kernel_rfl
theorem k27 : ((Tryz.pinned.checked.prog.make == some Rows.valueAlikeUptoRow.make)) = true := by kernel_rfl
theorem k28 : ((Rows.valueAlikeUptoRow.kinds == (if Rows.valueAlikeUptoRow.domain.isEmpty then [] else Tryz.f9.params.toList.map fun t => match Tryz.pinned.checked.prog.underlying t with | some (.int k) => some k | _ => none))) = true := by kernel_rfl
theorem k29 : ((Rows.valueAlikeUptoRow.pinned == Rows.valueAlikeUptoRow.pinnedBy)) = true := by kernel_rfl
theorem k30 : ((Rows.valueAlikeUptoRow.veiled == (Tryz.f9.params.toList ++ (Rows.OpenSpec.upto Rows.valueAlikeSpec).bare.plain.varTypes Tryz.pinned.checked.prog ++ Tryz.f9.resultTypes.toList).any (Tryz.pinned.checked.prog.veiledRec ·))) = true := by kernel_rfl
theorem k31 : (Rows.valueAlikeUptoRow.veiledFits Tryz.pinned.checked.prog Tryz.f9.params.toList (Tryz.f9.params.toList ++ (Rows.OpenSpec.upto Rows.valueAlikeSpec).bare.plain.varTypes Tryz.pinned.checked.prog ++ Tryz.f9.resultTypes.toList)) = true := by kernel_rfl
theorem all : joinedFacts Tryz.pinned.checked.prog 9 Tryz.f9 (Rows.OpenSpec.upto Rows.valueAlikeSpec).bare Rows.valueAlikeUptoRow = true := by
 unfold joinedFacts
 exact and_t (and_t (and_t (and_t (and_t (and_t (and_t (and_t (and_t (and_t (and_t (and_t (and_t (and_t (and_t (and_t (and_t (and_t (and_t (and_t (and_t (and_t (and_t (and_t (and_t (and_t (and_t (and_t (and_t (and_t (and_t k0 k1) k2) k3) k4) k5) k6) k7) k8) k9) k10) k11) k12) k13) k14) k15) k16) k17) k18) k19) k20) k21) k22) k23) k24) k25) k26) k27) k28) k29) k30) k31
end Go.Proofs.YtcpkjmpbpmeclaaGreatDoor.valueAlikeClosed
namespace Go.Proofs.YtcpkjmpbpmeclaaGreatDoor
theorem valueAlike_closed : joinedFacts Tryz.pinned.checked.prog 9 Tryz.f9 (Rows.OpenSpec.upto Rows.valueAlikeSpec).bare Rows.valueAlikeUptoRow = true := valueAlikeClosed.all
end Go.Proofs.YtcpkjmpbpmeclaaGreatDoor
