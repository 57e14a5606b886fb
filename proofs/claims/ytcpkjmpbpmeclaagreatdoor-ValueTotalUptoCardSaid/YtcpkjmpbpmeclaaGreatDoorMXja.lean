/- ValueTotal: the row's closed facts. -/
import Derived.Test.YtcpkjmpbpmeclaaGreatDoorRows
import Derived.ProofKit
import Derived.Stop.Joined
import Derived.JoinedCond
import Derived.JoinedOf
namespace Go.Proofs.YtcpkjmpbpmeclaaGreatDoor
set_option maxRecDepth 100000
theorem valueTotal_closed : joinedFacts Tryz.pinned.checked.prog 8 Tryz.f8 (Rows.OpenSpec.upto Rows.valueTotalSpec).bare Rows.valueTotalUptoRow = true := by kernel_rfl
end Go.Proofs.YtcpkjmpbpmeclaaGreatDoor
