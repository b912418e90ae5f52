/- The types of this seat, for the abstract machine: each row holds of the program. Written by a program. -/
import Derived.Test.YtgcndnddgajekaaGreatDoorRows
import Derived.Test.YtgcndnddgajekaaGreatDoorEmD
namespace Go.Proofs.YtgcndnddgajekaaGreatDoor
open Go Go.Dm
set_option maxRecDepth 100000
namespace Ty
def tab:List (Option TI):=[
  none,tF,tI,tI,some ⟨.bool,1,1,[.bool false],[0]⟩,some ⟨.int .u8,1,1,[.int .u8 0],[0]⟩,
  none,none,none,some ⟨.str,1,16,[.str []],[0]⟩,none,none,some ⟨.int .u64,1,8,[.int .u64 0],[0]⟩,
  none,none,none,none,none,none,none,some ⟨.iface,1,16,[.ifc true],[0]⟩,some ⟨.int .i32,1,4,[.int .i32 0],[0]⟩,
  tS 5 1,some ⟨.struct [(22,0),(3,1)] false,2,32,[.nils,.int .i64 0],[1,0]⟩,some ⟨.struct [(22,0),(3,1)] false,2,32,[.nils,.int .i64 0],[1,0]⟩,
  tS 22 1,some ⟨.struct [(24,0),(25,2),(3,3),(3,4)] false,5,72,[.nils,.int .i64 0,.nils,.int .i64 0,.int .i64 0],[1,0,1,0,0]⟩,
  some ⟨.struct [(24,0),(25,2),(3,3),(3,4)] false,5,72,[.nils,.int .i64 0,.nils,.int .i64 0,.int .i64 0],[1,0,1,0,0]⟩,
  tF,tF,tF,some ⟨.struct [(3,0),(3,1)] true,2,16,[.int .i64 0,.int .i64 0],[0,0]⟩,some ⟨.struct [(3,0),(3,1)] true,2,16,[.int .i64 0,.int .i64 0],[0,0]⟩,
  none,tF,tF,tF,tS 241 3,tS 144 6,some ⟨.struct [(37,0),(38,1),(3,2),(3,3)] false,4,64,[.nils,.nils,.int .i64 0,.int .i64 0],[3,6,0,0]⟩,
  some ⟨.struct [(37,0),(38,1),(3,2),(3,3)] false,4,64,[.nils,.nils,.int .i64 0,.int .i64 0],[3,6,0,0]⟩,
  tS 4 1,tS 90 1,tS 27 5,tS 3 1,tS 150 3,tS 56 5,some ⟨.struct [(40,0),(41,4),(42,5),(43,6),(44,7),(45,8),(46,9)] false,10,208,[.nils,.nils,.int .i64 0,.int .i64 0,.nils,.nils,.nils,.nils,.nils,.nils],[3,6,0,0,1,1,5,1,3,5]⟩,
  some ⟨.struct [(40,0),(41,4),(42,5),(43,6),(44,7),(45,8),(46,9)] false,10,208,[.nils,.nils,.int .i64 0,.int .i64 0,.nils,.nils,.nils,.nils,.nils,.nils],[3,6,0,0,1,1,5,1,3,5]⟩,
  none,tF,tS 86 9,tF,some ⟨.struct [(3,0),(3,1),(3,2),(3,3)] true,4,32,[.int .i64 0,.int .i64 0,.int .i64 0,.int .i64 0],[0,0,0,0]⟩,
  some ⟨.struct [(3,0),(3,1),(3,2),(3,3)] true,4,32,[.int .i64 0,.int .i64 0,.int .i64 0,.int .i64 0],[0,0,0,0]⟩,
  some ⟨.struct [(9,0),(54,1)] true,5,48,[.str [],.int .i64 0,.int .i64 0,.int .i64 0,.int .i64 0],[0,0,0,0,0]⟩,
  some ⟨.struct [(9,0),(54,1)] true,5,48,[.str [],.int .i64 0,.int .i64 0,.int .i64 0,.int .i64 0],[0,0,0,0,0]⟩,
  tF,tF,none,tF,some ⟨.iface,1,16,[.ifc true],[0]⟩,some ⟨.iface,1,16,[.ifc true],[0]⟩,none,
  tF,tF,tF,tS 106 2,tS 75 5,tS 68 1,some ⟨.struct [(67,0),(3,1),(68,2),(69,3),(68,4)] false,5,104,[.nils,.int .i64 0,.nils,.nils,.nils],[2,0,5,1,5]⟩,
  some ⟨.struct [(67,0),(3,1),(68,2),(69,3),(68,4)] false,5,104,[.nils,.int .i64 0,.nils,.nils,.nils],[2,0,5,1,5]⟩,
  none,tF,some ⟨.struct [(9,0),(9,1),(3,2),(4,3),(9,4)] true,5,64,[.str [],.str [],.int .i64 0,.bool false,.str []],[0,0,0,0,0]⟩,
  some ⟨.struct [(9,0),(9,1),(3,2),(4,3),(9,4)] true,5,64,[.str [],.str [],.int .i64 0,.bool false,.str []],[0,0,0,0,0]⟩,
  none,tF,tF,tF,tF,tP 89,tF,some ⟨.struct [(3,0),(3,1),(3,2),(3,3),(9,4)] true,5,48,[.int .i64 0,.int .i64 0,.int .i64 0,.int .i64 0,.str []],[0,0,0,0,0]⟩,
  some ⟨.struct [(3,0),(3,1),(3,2),(3,3),(9,4)] true,5,48,[.int .i64 0,.int .i64 0,.int .i64 0,.int .i64 0,.str []],[0,0,0,0,0]⟩,
  some ⟨.struct [(3,0),(84,1),(3,6),(3,7),(9,8)] true,9,88,[.int .i64 0,.int .i64 0,.int .i64 0,.int .i64 0,.int .i64 0,.str [],.int .i64 0,.int .i64 0,.str []],[0,0,0,0,0,0,0,0,0]⟩,
  some ⟨.struct [(3,0),(84,1),(3,6),(3,7),(9,8)] true,9,88,[.int .i64 0,.int .i64 0,.int .i64 0,.int .i64 0,.int .i64 0,.str [],.int .i64 0,.int .i64 0,.str []],[0,0,0,0,0,0,0,0,0]⟩,
  tF,some ⟨.struct [(48,0),(3,10),(3,11)] false,12,224,[.nils,.nils,.int .i64 0,.int .i64 0,.nils,.nils,.nils,.nils,.nils,.nils,.int .i64 0,.int .i64 0],[3,6,0,0,1,1,5,1,3,5,0,0]⟩,
  some ⟨.struct [(48,0),(3,10),(3,11)] false,12,224,[.nils,.nils,.int .i64 0,.int .i64 0,.nils,.nils,.nils,.nils,.nils,.nils,.int .i64 0,.int .i64 0],[3,6,0,0,1,1,5,1,3,5,0,0]⟩,
  tS 94 10,some ⟨.struct [(9,0),(9,1),(3,2)] true,3,40,[.str [],.str [],.int .i64 0],[0,0,0]⟩,
  some ⟨.struct [(9,0),(9,1),(3,2)] true,3,40,[.str [],.str [],.int .i64 0],[0,0,0]⟩,some ⟨.struct [(3,0),(3,1),(92,2),(27,5)] false,10,128,[.int .i64 0,.int .i64 0,.str [],.str [],.int .i64 0,.nils,.int .i64 0,.nils,.int .i64 0,.int .i64 0],[0,0,0,0,0,1,0,1,0,0]⟩,
  some ⟨.struct [(3,0),(3,1),(92,2),(27,5)] false,10,128,[.int .i64 0,.int .i64 0,.str [],.str [],.int .i64 0,.nils,.int .i64 0,.nils,.int .i64 0,.int .i64 0],[0,0,0,0,0,1,0,1,0,0]⟩,
  tF,tP 116,none,tF,tF,tF,tF,tF,none,tF,some ⟨.struct [(3,0),(68,1)] false,2,32,[.int .i64 0,.nils],[0,5]⟩,
  some ⟨.struct [(3,0),(68,1)] false,2,32,[.int .i64 0,.nils],[0,5]⟩,none,tF,tF,tF,tF,tF,
  tF,tF,some ⟨.struct [(27,0),(67,5),(3,6),(68,7),(69,8)] false,9,152,[.nils,.int .i64 0,.nils,.int .i64 0,.int .i64 0,.nils,.int .i64 0,.nils,.nils],[1,0,1,0,0,2,0,5,1]⟩,
  some ⟨.struct [(27,0),(67,5),(3,6),(68,7),(69,8)] false,9,152,[.nils,.int .i64 0,.nils,.int .i64 0,.int .i64 0,.nils,.int .i64 0,.nils,.nils],[1,0,1,0,0,2,0,5,1]⟩,
  tF,none,tF,tF,none,tF,tF,tF,tF,tI,none,tF,tP 175,tF,tF,tF,none,tF,none,tF,tS 9 1,
  none,tF,tF,tF,tF,some ⟨.struct [(92,0),(3,3),(3,4),(3,5)] true,6,64,[.str [],.str [],.int .i64 0,.int .i64 0,.int .i64 0,.int .i64 0],[0,0,0,0,0,0]⟩,
  some ⟨.struct [(92,0),(3,3),(3,4),(3,5)] true,6,64,[.str [],.str [],.int .i64 0,.int .i64 0,.int .i64 0,.int .i64 0],[0,0,0,0,0,0]⟩,
  tF,tF,tP 94,tF,some ⟨.struct [(3,0),(3,1),(3,2)] true,3,24,[.int .i64 0,.int .i64 0,.int .i64 0],[0,0,0]⟩,
  some ⟨.struct [(3,0),(3,1),(3,2)] true,3,24,[.int .i64 0,.int .i64 0,.int .i64 0],[0,0,0]⟩,
  tF,tF,tF,tP 160,none,tF,none,tF,some ⟨.struct [(25,0),(137,1),(22,2)] false,3,72,[.nils,.nils,.nils],[1,1,1]⟩,
  some ⟨.struct [(25,0),(137,1),(22,2)] false,3,72,[.nils,.nils,.nils],[1,1,1]⟩,tF,tF,
  some ⟨.int .u64,1,8,[.int .u64 0],[0]⟩,tF,tF,tF,tF,tF,tF,some ⟨.int .u64,1,8,[.int .u64 0],[0]⟩,
  none,tF,tF,some ⟨.struct [(9,0),(9,1),(62,2)] false,3,48,[.str [],.str [],.ifc true],[0,0,0]⟩,
  some ⟨.struct [(9,0),(9,1),(62,2)] false,3,48,[.str [],.str [],.ifc true],[0,0,0]⟩,tF,
  none,tF,tF,none,tF,tF,tF,none,tF,tF,tF,tF,tF,none,tF,tF,tF,tF,none,tF,tF,tF,tF,
  tP 56,none,tF,tF,tF,tF,tF,tF,tF,some ⟨.int .u32,1,4,[.int .u32 0],[0]⟩,tF,tF,tF,tP 264,
  tF,tF,tF,some ⟨.arr 3 3,3,24,[.int .i64 0,.int .i64 0,.int .i64 0],[0,0,0]⟩,tF,tF,tF,
  tF,tF,tF,tF,tF,tP 5,tP 229,some ⟨.struct [(9,0)] true,1,16,[.str []],[0]⟩,some ⟨.struct [(9,0)] true,1,16,[.str []],[0]⟩,
  tF,none,none,tF,tF,tF,tF,tP 40,tF,tF,some ⟨.struct [(3,0),(3,1),(4,2)] true,3,24,[.int .i64 0,.int .i64 0,.bool false],[0,0,0]⟩,
  some ⟨.struct [(3,0),(3,1),(4,2)] true,3,24,[.int .i64 0,.int .i64 0,.bool false],[0,0,0]⟩,
  tF,tF,tF,tF,tF,none,tF,tF,tF,tF,tF,tF,tF,tF,tF,tF,none,tF,tF,tF,tF,some ⟨.struct [(22,0),(4,1)] false,2,32,[.nils,.bool false],[1,0]⟩,
  some ⟨.struct [(22,0),(4,1)] false,2,32,[.nils,.bool false],[1,0]⟩,tF,tF,tF,tF,tF,some ⟨.map 3 3,1,8,[.nilmp],[0]⟩,
  tF,tS 92 3,tF,tF,tF,tP 241,tF,tP 144,tF,none,tF,tF,tF,none,tF,tF,tF,tF,tP 27,tP 3,
  tF,tF,tF,none,none,tF,tF,tF,tF,tF,tF,tF,tF,tF,tF,tF,tF,tF,tF,tS 272 1,tF,tF,tF,
  tF,tS 317 1,tS 317 1,tP 319,some ⟨.struct [(68,0),(3,1)] false,2,32,[.nils,.int .i64 0],[5,0]⟩,
  some ⟨.struct [(68,0),(3,1)] false,2,32,[.nils,.int .i64 0],[5,0]⟩,tF,some ⟨.arr 3 2,2,16,[.int .i64 0,.int .i64 0],[0,0]⟩,
  tF,none,none,none,none,none,none,none,tF]
def τ:zbn:=tyTab tab
theorem ok:zgl Tryz.prog τ:=chk_ok (by kernel_rfl)
theorem mixed:Tryz.prog.follows .mixedOrders=true:=by kernel_rfl
end Ty
end Go.Proofs.YtgcndnddgajekaaGreatDoor
