/- The run of deskBegun, worked out. -/
import Derived.Test.YtgcndnddgajekaaGreatDoorCmA
import Derived.KernelRfl
import Derived.Test.YtgcndnddgajekaaGreatDoorProg
namespace Go.Proofs.YtgcndnddgajekaaGreatDoor
open Go Go.Cm
set_option maxRecDepth 100000
theorem yesRun : yes (evalF Tryz.prog ⟨86, 55, 5000⟩ 60 4 [] ⟨.lf, .lf, 0⟩) = true := by kernel_rfl
end Go.Proofs.YtgcndnddgajekaaGreatDoor
