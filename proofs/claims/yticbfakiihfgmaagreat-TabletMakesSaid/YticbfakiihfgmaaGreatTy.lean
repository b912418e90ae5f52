/- The types of this seat, for the abstract machine: each row holds of the program. Written by a program. -/
import Derived.Test.YticbfakiihfgmaaGreatRows
import Derived.Test.YticbfakiihfgmaaGreatEmD
namespace Go.Proofs.YticbfakiihfgmaaGreat
open Go Go.Dm
set_option maxRecDepth 100000
namespace Ty
def tab:List (Option TI):=[
  none,tF,tI,tI,some ⟨.bool,1,1,[.bool false],[0]⟩,some ⟨.int .u8,1,1,[.int .u8 0],[0]⟩,
  none,none,none,some ⟨.str,1,16,[.str []],[0]⟩,none,none,some ⟨.int .u64,1,8,[.int .u64 0],[0]⟩,
  none,none,none,none,none,none,none,none,some ⟨.int .i32,1,4,[.int .i32 0],[0]⟩,tS 5 1,
  some ⟨.struct [(22,0),(3,1)] false,2,32,[.nils,.int .i64 0],[1,0]⟩,some ⟨.struct [(22,0),(3,1)] false,2,32,[.nils,.int .i64 0],[1,0]⟩,
  tS 22 1,some ⟨.struct [(24,0),(25,2),(3,3),(3,4)] false,5,72,[.nils,.int .i64 0,.nils,.int .i64 0,.int .i64 0],[1,0,1,0,0]⟩,
  some ⟨.struct [(24,0),(25,2),(3,3),(3,4)] false,5,72,[.nils,.int .i64 0,.nils,.int .i64 0,.int .i64 0],[1,0,1,0,0]⟩,
  tS 53 5,tF,tF,tF,tF,tF,some ⟨.struct [(3,0),(3,1)] true,2,16,[.int .i64 0,.int .i64 0],[0,0]⟩,
  some ⟨.struct [(3,0),(3,1)] true,2,16,[.int .i64 0,.int .i64 0],[0,0]⟩,none,tF,none,tF,
  tF,tS 50 2,tS 28 1,some ⟨.struct [(41,0),(3,1),(28,2),(42,3),(28,4)] false,5,104,[.nils,.int .i64 0,.nils,.nils,.nils],[2,0,5,1,5]⟩,
  some ⟨.struct [(41,0),(3,1),(28,2),(42,3),(28,4)] false,5,104,[.nils,.int .i64 0,.nils,.nils,.nils],[2,0,5,1,5]⟩,
  none,tF,tF,tF,some ⟨.struct [(3,0),(28,1)] false,2,32,[.int .i64 0,.nils],[0,5]⟩,some ⟨.struct [(3,0),(28,1)] false,2,32,[.int .i64 0,.nils],[0,5]⟩,
  tF,some ⟨.struct [(9,0),(9,1),(3,2),(4,3),(9,4)] true,5,64,[.str [],.str [],.int .i64 0,.bool false,.str []],[0,0,0,0,0]⟩,
  some ⟨.struct [(9,0),(9,1),(3,2),(4,3),(9,4)] true,5,64,[.str [],.str [],.int .i64 0,.bool false,.str []],[0,0,0,0,0]⟩,
  tF,tF,tF,tF,tF,tF,tF,none,tF,tF,tF,tF,tF,tF,tF,some ⟨.struct [(9,0),(9,1),(3,2),(3,3)] true,4,48,[.str [],.str [],.int .i64 0,.int .i64 0],[0,0,0,0]⟩,
  some ⟨.struct [(9,0),(9,1),(3,2),(3,3)] true,4,48,[.str [],.str [],.int .i64 0,.int .i64 0],[0,0,0,0]⟩,
  none,tF,tF,none,tF,tF,tF,none,tF,none,tF,tF,tF,tF,tF,tS 9 1,tF,tF,tF,tF,tF,tF,
  tF,tF,tS 97 6,some ⟨.struct [(3,0),(3,1),(3,2),(3,3),(3,4),(28,5)] false,6,64,[.int .i64 0,.int .i64 0,.int .i64 0,.int .i64 0,.int .i64 0,.nils],[0,0,0,0,0,5]⟩,
  some ⟨.struct [(3,0),(3,1),(3,2),(3,3),(3,4),(28,5)] false,6,64,[.int .i64 0,.int .i64 0,.int .i64 0,.int .i64 0,.int .i64 0,.nils],[0,0,0,0,0,5]⟩,
  some ⟨.int .u64,1,8,[.int .u64 0],[0]⟩,tF,tF,tF,tF,tF,tP 106,some ⟨.struct [(27,0),(41,5),(3,6),(28,7),(42,8)] false,9,152,[.nils,.int .i64 0,.nils,.int .i64 0,.int .i64 0,.nils,.int .i64 0,.nils,.nils],[1,0,1,0,0,2,0,5,1]⟩,
  some ⟨.struct [(27,0),(41,5),(3,6),(28,7),(42,8)] false,9,152,[.nils,.int .i64 0,.nils,.int .i64 0,.int .i64 0,.nils,.int .i64 0,.nils,.nils],[1,0,1,0,0,2,0,5,1]⟩,
  none,tF,tF,tF,tF,tF,tF,none,tF,tF,tS 3 1,none,tF,tF,tF,tF,tF,some ⟨.int .u32,1,4,[.int .u32 0],[0]⟩,
  tF,tF,tF,tF,none,tF,none,tF,tF,tF,none,tF,tF,tF,tF,tF,tF,tF,tF,tF,tF,tF,none,
  tF,tF,tF,none,tF,tF,tF,tF,tS 4 1,tF,tF,tF,tF,none,tF,tF,tF,tF,tF,tF,tF,tF,tF,
  tP 194,tF,tF,some ⟨.arr 3 3,3,24,[.int .i64 0,.int .i64 0,.int .i64 0],[0,0,0]⟩,tF,none,
  tF,some ⟨.int .u64,1,8,[.int .u64 0],[0]⟩,tP 185,none,tF,none,tF,some ⟨.struct [(25,0),(86,1),(22,2)] false,3,72,[.nils,.nils,.nils],[1,1,1]⟩,
  some ⟨.struct [(25,0),(86,1),(22,2)] false,3,72,[.nils,.nils,.nils],[1,1,1]⟩,tF,tF,tF,
  tF,tF,tF,tF,some ⟨.struct [(22,0),(4,1)] false,2,32,[.nils,.bool false],[1,0]⟩,some ⟨.struct [(22,0),(4,1)] false,2,32,[.nils,.bool false],[1,0]⟩,
  tF,tF,tF,tF,tF,tF,tF,tF,tS 205 1,tS 205 1,tP 207,some ⟨.struct [(28,0),(3,1)] false,2,32,[.nils,.int .i64 0],[5,0]⟩,
  some ⟨.struct [(28,0),(3,1)] false,2,32,[.nils,.int .i64 0],[5,0]⟩,tF,some ⟨.arr 3 2,2,16,[.int .i64 0,.int .i64 0],[0,0]⟩,
  tF,none,none,none,none,none,none,none,tF,tP 5]
def τ:zcc:=tyTab tab
theorem ok:zjq Tryz.prog τ:=chk_ok (by kernel_rfl)
theorem mixed:Tryz.prog.follows .mixedOrders=true:=by kernel_rfl
end Ty
end Go.Proofs.YticbfakiihfgmaaGreat
