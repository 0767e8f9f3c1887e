/- JobValid: what the row tells of the program's text, by the kernel. -/
import Derived.Test.YtgkchcbnbbgdpaaGreatDoorRows
import Derived.ProofKit
import Derived.Stop.Joined
set_option linter.unusedVariables false
set_option linter.unusedSimpArgs false
namespace Go.Proofs.YtgkchcbnbbgdpaaGreatDoor
open Go.ChangeShapes Go.WideShapes Go.ChangeAt Go.RowKit
theorem valid_joined : joinedFacts Tryz.pinned.checked.prog 3 Tryz.f3 Rows.jobValidSpec Rows.jobValidRow = true := by kernel_rfl
end Go.Proofs.YtgkchcbnbbgdpaaGreatDoor
