/- deskBegun tells true. -/
import Derived.Test.YtgcndnddgajekaaGreatDoorCmD
import Derived.Test.YtgcndnddgajekaaGreatDoorCmK
import Derived.Test.YtgcndnddgajekaaGreatDoorPutW
import Derived.Test.YtgcndnddgajekaaGreatDoorFn
namespace Go.Proofs.YtgcndnddgajekaaGreatDoor
open Go Go.Cm
theorem begunP:Go.Dm.Pe Tryz.prog 4 Go.Dm.S.none [] (.bool true) Go.Dm.S.none:=
  pe_closed Fn.b4 fun w=>run_closed (sp:=⟨86,55,5000⟩) (d:=60) Ty.mixed (by kernel_rfl) Go.Dm.put_w yesRun w
end Go.Proofs.YtgcndnddgajekaaGreatDoor
