/- deskBegun tells true. -/
import Derived.Test.YtcifgljlmieblaaGreatDoorCmD
import Derived.Test.YtcifgljlmieblaaGreatDoorCmK
import Derived.Test.YtcifgljlmieblaaGreatDoorPutW
import Derived.Test.YtcifgljlmieblaaGreatDoorFn
namespace Go.Proofs.YtcifgljlmieblaaGreatDoor
open Go Go.Cm
theorem begunP : Go.Dm.Pe Tryz.prog 5 Go.Dm.S.none [] (.bool true) Go.Dm.S.none :=
  pe_closed Fn.b5 fun w => run_closed (sp := ⟨210, 144, 5000⟩) (d := 60) Ty.mixed (by kernel_rfl) Go.Dm.put_w yesRun w
end Go.Proofs.YtcifgljlmieblaaGreatDoor
