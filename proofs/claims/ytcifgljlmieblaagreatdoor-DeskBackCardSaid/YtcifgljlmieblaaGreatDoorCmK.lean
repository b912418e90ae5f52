/- The run of deskBegun, worked out. -/
import Derived.Test.YtcifgljlmieblaaGreatDoorCmA
import Derived.KernelRfl
import Derived.Test.YtcifgljlmieblaaGreatDoorProg
namespace Go.Proofs.YtcifgljlmieblaaGreatDoor
open Go Go.Cm
set_option maxRecDepth 100000
theorem yesRun : yes (evalF Tryz.prog ⟨210, 144, 5000⟩ 60 5 [] ⟨.lf, .lf, 0⟩) = true := by kernel_rfl
end Go.Proofs.YtcifgljlmieblaaGreatDoor
