/- The types of this seat, for the abstract machine: each row holds of the program. Written by a program. -/
import Derived.Test.YtnibbgjoanbnmaaRows
import Derived.Test.YtnibbgjoanbnmaaEmD
namespace Go.Proofs.Ytnibbgjoanbnmaa
open Go Go.Dm
set_option maxRecDepth 100000
namespace Ty
def tab:List (Option TI):=[
  none,tF,tI,tI,some ⟨.bool,1,1,[.bool false],[0]⟩,some ⟨.int .u8,1,1,[.int .u8 0],[0]⟩,
  none,none,none,some ⟨.str,1,16,[.str []],[0]⟩,none,none,some ⟨.int .u64,1,8,[.int .u64 0],[0]⟩,
  none,none,none,none,none,none,none,none,some ⟨.int .i32,1,4,[.int .i32 0],[0]⟩,tS 43 4,
  tF,tF,some ⟨.struct [(3,0),(3,1)] true,2,16,[.int .i64 0,.int .i64 0],[0,0]⟩,some ⟨.struct [(3,0),(3,1)] true,2,16,[.int .i64 0,.int .i64 0],[0,0]⟩,
  tF,none,tF,tF,none,tF,tF,tS 3 1,tF,none,tF,tF,none,tF,tF,some ⟨.struct [(3,0),(3,1),(3,2),(3,3)] true,4,32,[.int .i64 0,.int .i64 0,.int .i64 0,.int .i64 0],[0,0,0,0]⟩,
  some ⟨.struct [(3,0),(3,1),(3,2),(3,3)] true,4,32,[.int .i64 0,.int .i64 0,.int .i64 0,.int .i64 0],[0,0,0,0]⟩,
  tF,some ⟨.map 3 3,1,8,[.nilmp],[0]⟩,tS 48 1,tF,tP 51,tF,some ⟨.struct [(3,0),(3,1),(34,2),(3,3),(3,4)] false,5,56,[.int .i64 0,.int .i64 0,.nils,.int .i64 0,.int .i64 0],[0,0,1,0,0]⟩,
  some ⟨.struct [(3,0),(3,1),(34,2),(3,3),(3,4)] false,5,56,[.int .i64 0,.int .i64 0,.nils,.int .i64 0,.int .i64 0],[0,0,1,0,0]⟩,
  tF,tF,tF,tF,tF,tF,tF,tF,tF,tF,tF,some ⟨.map 3 48,1,8,[.nilmp],[0]⟩,tF,tF,tF,tF,tF,
  tF,tF,tF,tF,tF,tF,tF,tF,some ⟨.int .u64,1,8,[.int .u64 0],[0]⟩,tF,tF,tF,tF,tI,none,
  tF,tF,tF,none,tF,tF,some ⟨.int .u32,1,4,[.int .u32 0],[0]⟩,tF,some ⟨.int .u64,1,8,[.int .u64 0],[0]⟩,
  some ⟨.int .u64,1,8,[.int .u64 0],[0]⟩,tF,tF,tF,tP 3,tF,tP 93,none,tF,tF,none,none,none,
  none,none,tF,none,none,tF,tP 5]
def τ:TyTab:=tyTab tab
theorem ok:TyOk Try.prog τ:=chk_ok (by kernel_rfl)
theorem mixed:Try.prog.follows .mixedOrders=true:=by kernel_rfl
end Ty
end Go.Proofs.Ytnibbgjoanbnmaa
