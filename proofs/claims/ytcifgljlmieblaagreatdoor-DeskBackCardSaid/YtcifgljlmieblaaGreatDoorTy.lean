/- The types of this seat, for the abstract machine: each row holds of the program. Written by a program. -/
import Derived.Test.YtcifgljlmieblaaGreatDoorRows
import Derived.Test.YtcifgljlmieblaaGreatDoorEmD
namespace Go.Proofs.YtcifgljlmieblaaGreatDoor
open Go Go.Dm
set_option maxRecDepth 100000
namespace Ty
def tab:List (Option TI):=[
  none,tF,tI,tI,some ⟨.bool,1,1,[.bool false],[0]⟩,some ⟨.int .u8,1,1,[.int .u8 0],[0]⟩,
  none,none,none,some ⟨.str,1,16,[.str []],[0]⟩,none,none,some ⟨.int .u64,1,8,[.int .u64 0],[0]⟩,
  none,none,none,none,none,none,none,some ⟨.iface,1,16,[.ifc true],[0]⟩,some ⟨.int .i32,1,4,[.int .i32 0],[0]⟩,
  some ⟨.struct [(3,0),(3,1),(3,2),(3,3),(9,4)] true,5,48,[.int .i64 0,.int .i64 0,.int .i64 0,.int .i64 0,.str []],[0,0,0,0,0]⟩,
  some ⟨.struct [(3,0),(3,1),(3,2),(3,3),(9,4)] true,5,48,[.int .i64 0,.int .i64 0,.int .i64 0,.int .i64 0,.str []],[0,0,0,0,0]⟩,
  some ⟨.struct [(3,0),(23,1),(3,6),(3,7),(9,8)] true,9,88,[.int .i64 0,.int .i64 0,.int .i64 0,.int .i64 0,.int .i64 0,.str [],.int .i64 0,.int .i64 0,.str []],[0,0,0,0,0,0,0,0,0]⟩,
  some ⟨.struct [(3,0),(23,1),(3,6),(3,7),(9,8)] true,9,88,[.int .i64 0,.int .i64 0,.int .i64 0,.int .i64 0,.int .i64 0,.str [],.int .i64 0,.int .i64 0,.str []],[0,0,0,0,0,0,0,0,0]⟩,
  tF,some ⟨.struct [(3,0),(3,1)] true,2,16,[.int .i64 0,.int .i64 0],[0,0]⟩,some ⟨.struct [(3,0),(3,1)] true,2,16,[.int .i64 0,.int .i64 0],[0,0]⟩,
  none,tF,none,tF,tF,tF,tF,tS 9 1,none,tF,tF,tF,tS 45 11,tF,tF,some ⟨.struct [(9,0),(9,1),(25,2)] true,11,120,[.str [],.str [],.int .i64 0,.int .i64 0,.int .i64 0,.int .i64 0,.int .i64 0,.str [],.int .i64 0,.int .i64 0,.str []],[0,0,0,0,0,0,0,0,0,0,0]⟩,
  some ⟨.struct [(9,0),(9,1),(25,2)] true,11,120,[.str [],.str [],.int .i64 0,.int .i64 0,.int .i64 0,.int .i64 0,.int .i64 0,.str [],.int .i64 0,.int .i64 0,.str []],[0,0,0,0,0,0,0,0,0,0,0]⟩,
  tF,tF,tP 25,tP 3,tF,tF,tP 9,tF,tF,none,tF,tS 3 1,tF,tF,tF,tP 79,tF,tS 104 3,tS 83 6,
  some ⟨.struct [(63,0),(64,1),(3,2),(3,3)] false,4,64,[.nils,.nils,.int .i64 0,.int .i64 0],[3,6,0,0]⟩,
  some ⟨.struct [(63,0),(64,1),(3,2),(3,3)] false,4,64,[.nils,.nils,.int .i64 0,.int .i64 0],[3,6,0,0]⟩,
  tS 4 1,tS 118 1,tS 92 5,tS 111 3,tS 116 5,some ⟨.struct [(66,0),(67,4),(68,5),(69,6),(57,7),(70,8),(71,9)] false,10,208,[.nils,.nils,.int .i64 0,.int .i64 0,.nils,.nils,.nils,.nils,.nils,.nils],[3,6,0,0,1,1,5,1,3,5]⟩,
  some ⟨.struct [(66,0),(67,4),(68,5),(69,6),(57,7),(70,8),(71,9)] false,10,208,[.nils,.nils,.int .i64 0,.int .i64 0,.nils,.nils,.nils,.nils,.nils,.nils],[3,6,0,0,1,1,5,1,3,5]⟩,
  tF,tF,tF,tF,some ⟨.struct [(73,0),(3,10),(3,11)] false,12,224,[.nils,.nils,.int .i64 0,.int .i64 0,.nils,.nils,.nils,.nils,.nils,.nils,.int .i64 0,.int .i64 0],[3,6,0,0,1,1,5,1,3,5,0,0]⟩,
  some ⟨.struct [(73,0),(3,10),(3,11)] false,12,224,[.nils,.nils,.int .i64 0,.int .i64 0,.nils,.nils,.nils,.nils,.nils,.nils,.int .i64 0,.int .i64 0],[3,6,0,0,1,1,5,1,3,5,0,0]⟩,
  some ⟨.struct [(9,0),(9,1),(3,2)] true,3,40,[.str [],.str [],.int .i64 0],[0,0,0]⟩,some ⟨.struct [(9,0),(9,1),(3,2)] true,3,40,[.str [],.str [],.int .i64 0],[0,0,0]⟩,
  some ⟨.struct [(81,0),(3,3),(3,4),(3,5)] true,6,64,[.str [],.str [],.int .i64 0,.int .i64 0,.int .i64 0,.int .i64 0],[0,0,0,0,0,0]⟩,
  some ⟨.struct [(81,0),(3,3),(3,4),(3,5)] true,6,64,[.str [],.str [],.int .i64 0,.int .i64 0,.int .i64 0,.int .i64 0],[0,0,0,0,0,0]⟩,
  tF,none,tF,tS 5 1,some ⟨.struct [(87,0),(3,1)] false,2,32,[.nils,.int .i64 0],[1,0]⟩,some ⟨.struct [(87,0),(3,1)] false,2,32,[.nils,.int .i64 0],[1,0]⟩,
  tS 87 1,some ⟨.struct [(89,0),(90,2),(3,3),(3,4)] false,5,72,[.nils,.int .i64 0,.nils,.int .i64 0,.int .i64 0],[1,0,1,0,0]⟩,
  some ⟨.struct [(89,0),(90,2),(3,3),(3,4)] false,5,72,[.nils,.int .i64 0,.nils,.int .i64 0,.int .i64 0],[1,0,1,0,0]⟩,
  tF,tF,some ⟨.iface,1,16,[.ifc true],[0]⟩,some ⟨.iface,1,16,[.ifc true],[0]⟩,none,tF,tF,
  tF,tF,tF,some ⟨.struct [(3,0),(3,1),(4,2)] true,3,24,[.int .i64 0,.int .i64 0,.bool false],[0,0,0]⟩,
  some ⟨.struct [(3,0),(3,1),(4,2)] true,3,24,[.int .i64 0,.int .i64 0,.bool false],[0,0,0]⟩,
  tF,tF,tF,tF,tF,some ⟨.struct [(3,0),(3,1),(3,2)] true,3,24,[.int .i64 0,.int .i64 0,.int .i64 0],[0,0,0]⟩,
  some ⟨.struct [(3,0),(3,1),(3,2)] true,3,24,[.int .i64 0,.int .i64 0,.int .i64 0],[0,0,0]⟩,
  tF,some ⟨.struct [(3,0),(3,1),(3,2),(3,3)] true,4,32,[.int .i64 0,.int .i64 0,.int .i64 0,.int .i64 0],[0,0,0,0]⟩,
  some ⟨.struct [(3,0),(3,1),(3,2),(3,3)] true,4,32,[.int .i64 0,.int .i64 0,.int .i64 0,.int .i64 0],[0,0,0,0]⟩,
  some ⟨.struct [(9,0),(114,1)] true,5,48,[.str [],.int .i64 0,.int .i64 0,.int .i64 0,.int .i64 0],[0,0,0,0,0]⟩,
  some ⟨.struct [(9,0),(114,1)] true,5,48,[.str [],.int .i64 0,.int .i64 0,.int .i64 0,.int .i64 0],[0,0,0,0,0]⟩,
  tF,tS 121 10,tF,some ⟨.struct [(3,0),(3,1),(81,2),(92,5)] false,10,128,[.int .i64 0,.int .i64 0,.str [],.str [],.int .i64 0,.nils,.int .i64 0,.nils,.int .i64 0,.int .i64 0],[0,0,0,0,0,1,0,1,0,0]⟩,
  some ⟨.struct [(3,0),(3,1),(81,2),(92,5)] false,10,128,[.int .i64 0,.int .i64 0,.str [],.str [],.int .i64 0,.nils,.int .i64 0,.nils,.int .i64 0,.int .i64 0],[0,0,0,0,0,1,0,1,0,0]⟩,
  tF,tF,tF,tF,none,tF,tF,tF,tF,tF,tF,tF,tF,tF,tP 121,tF,tF,tF,tF,tF,tF,tF,tF,tF,
  tF,tF,tF,tF,tF,tF,tF,tF,some ⟨.int .u64,1,8,[.int .u64 0],[0]⟩,tP 216,none,tF,tF,some ⟨.struct [(9,0),(9,1),(3,2),(4,3),(9,4)] true,5,64,[.str [],.str [],.int .i64 0,.bool false,.str []],[0,0,0,0,0]⟩,
  some ⟨.struct [(9,0),(9,1),(3,2),(4,3),(9,4)] true,5,64,[.str [],.str [],.int .i64 0,.bool false,.str []],[0,0,0,0,0]⟩,
  none,tF,tS 160 5,tF,none,tF,tF,tF,tI,none,tF,tP 233,tF,tF,none,some ⟨.int .u64,1,8,[.int .u64 0],[0]⟩,
  tF,tF,none,tF,tF,none,tF,tF,tF,tF,none,tF,tF,tF,tP 116,none,tF,tF,tF,tF,tF,tF,
  tF,tF,tF,tF,tI,none,tF,tF,tF,none,tF,tF,some ⟨.int .u32,1,4,[.int .u32 0],[0]⟩,tF,
  tS 220 2,tS 163 1,some ⟨.struct [(92,0),(213,5),(3,6),(163,7),(214,8)] false,9,152,[.nils,.int .i64 0,.nils,.int .i64 0,.int .i64 0,.nils,.int .i64 0,.nils,.nils],[1,0,1,0,0,2,0,5,1]⟩,
  some ⟨.struct [(92,0),(213,5),(3,6),(163,7),(214,8)] false,9,152,[.nils,.int .i64 0,.nils,.int .i64 0,.int .i64 0,.nils,.int .i64 0,.nils,.nils],[1,0,1,0,0,2,0,5,1]⟩,
  none,tF,some ⟨.struct [(3,0),(163,1)] false,2,32,[.int .i64 0,.nils],[0,5]⟩,some ⟨.struct [(3,0),(163,1)] false,2,32,[.int .i64 0,.nils],[0,5]⟩,
  none,tF,tF,tF,tF,tF,tF,tF,none,tF,tF,some ⟨.struct [(9,0),(9,1),(96,2)] false,3,48,[.str [],.str [],.ifc true],[0,0,0]⟩,
  some ⟨.struct [(9,0),(9,1),(96,2)] false,3,48,[.str [],.str [],.ifc true],[0,0,0]⟩,tF,
  tF,none,none,tF,tF,tF,tP 66,tF,tF,tF,tF,tF,tF,tF,none,tF,tF,tF,tF,tF,tF,tF,tF,
  tF,tF,none,tF,tF,tF,tF,tF,some ⟨.int .u64,1,8,[.int .u64 0],[0]⟩,tF,tF,tF,tF,none,
  tF,none,tF,tP 281,none,tF,none,tF,some ⟨.struct [(90,0),(36,1),(87,2)] false,3,72,[.nils,.nils,.nils],[1,1,1]⟩,
  some ⟨.struct [(90,0),(36,1),(87,2)] false,3,72,[.nils,.nils,.nils],[1,1,1]⟩,tF,tF,tF,
  tF,tF,tF,tF,tF,tF,none,some ⟨.struct [(5,0),(5,1)] true,2,2,[.int .u8 0,.int .u8 0],[0,0]⟩,
  some ⟨.struct [(5,0),(5,1)] true,2,2,[.int .u8 0,.int .u8 0],[0,0]⟩,none,none,tF,tF,tP 5,
  tP 301,some ⟨.struct [(9,0)] true,1,16,[.str []],[0]⟩,some ⟨.struct [(9,0)] true,1,16,[.str []],[0]⟩,
  some ⟨.map 3 3,1,8,[.nilmp],[0]⟩,tF,tS 81 3,tF,tP 104,tF,tP 83,tF,none,tF,tF,tF,tF,
  tF,none,tF,tF,tF,tF,tP 92,tF,tF,tF,tP 266,none,tF,tF,tF,tF,tF,tP 359,tF,tF,tF,some ⟨.arr 3 3,3,24,[.int .i64 0,.int .i64 0,.int .i64 0],[0,0,0]⟩,
  tF,tF,tF,tF,tF,tF,none,none,tF,tF,tF,tF,tF,tF,tF,tF,tF,tF,tF,tF,tF,some ⟨.struct [(87,0),(4,1)] false,2,32,[.nils,.bool false],[1,0]⟩,
  some ⟨.struct [(87,0),(4,1)] false,2,32,[.nils,.bool false],[1,0]⟩,tF,tF,tF,tF,tF,tF,
  tF,tS 304 1,tF,tF,tF,tF,tS 374 1,tS 374 1,tP 376,some ⟨.struct [(163,0),(3,1)] false,2,32,[.nils,.int .i64 0],[5,0]⟩,
  some ⟨.struct [(163,0),(3,1)] false,2,32,[.nils,.int .i64 0],[5,0]⟩,tF,some ⟨.arr 3 2,2,16,[.int .i64 0,.int .i64 0],[0,0]⟩,
  tF,none,none,none,none,none,none,none,tF]
def τ:TyTab:=tyTab tab
theorem ok:TyOk Tryz.prog τ:=chk_ok (by kernel_rfl)
theorem mixed:Tryz.prog.follows .mixedOrders=true:=by kernel_rfl
end Ty
end Go.Proofs.YtcifgljlmieblaaGreatDoor
