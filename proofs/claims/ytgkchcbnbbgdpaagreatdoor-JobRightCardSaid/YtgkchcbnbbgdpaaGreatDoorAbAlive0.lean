/- alive() is true: a run in the kernel. -/
import Derived.Test.YtgkchcbnbbgdpaaGreatDoorAbT
namespace Go.Ab
open Go.Proofs
theorem alive_run : isTrue' ((lev cxT 3000).call 14 [] ⟨0, .leaf⟩) = true := by kernel_rfl
end Go.Ab
