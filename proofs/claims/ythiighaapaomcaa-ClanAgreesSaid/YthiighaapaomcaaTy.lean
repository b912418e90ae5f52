/- The types of this seat, for the abstract machine: each row holds of the program. Written by a program. -/
import Derived.Test.YthiighaapaomcaaRows
import Derived.Test.YthiighaapaomcaaEmD
namespace Go.Proofs.Ythiighaapaomcaa
open Go Go.Dm
set_option maxRecDepth 100000
namespace Ty
def tab:List (Option TI):=[
  none,tF,tI,tI,some ⟨.bool,1,1,[.bool false],[0]⟩,some ⟨.int .u8,1,1,[.int .u8 0],[0]⟩,
  none,none,none,some ⟨.str,1,16,[.str []],[0]⟩,none,none,some ⟨.int .u64,1,8,[.int .u64 0],[0]⟩,
  none,none,none,none,none,none,none,none,some ⟨.int .i32,1,4,[.int .i32 0],[0]⟩,tS 9 1,
  tS 35 3,tF,tF,tS 48 10,tS 91 9,some ⟨.struct [(26,0),(27,1)] false,2,48,[.nils,.nils],[10,9]⟩,
  some ⟨.struct [(26,0),(27,1)] false,2,48,[.nils,.nils],[10,9]⟩,some ⟨.struct [(3,0),(3,1)] true,2,16,[.int .i64 0,.int .i64 0],[0,0]⟩,
  some ⟨.struct [(3,0),(3,1)] true,2,16,[.int .i64 0,.int .i64 0],[0,0]⟩,none,tF,some ⟨.struct [(3,0),(3,1),(3,2)] true,3,24,[.int .i64 0,.int .i64 0,.int .i64 0],[0,0,0]⟩,
  some ⟨.struct [(3,0),(3,1),(3,2)] true,3,24,[.int .i64 0,.int .i64 0,.int .i64 0],[0,0,0]⟩,
  tF,tS 42 3,none,tF,tF,some ⟨.struct [(29,0),(3,2)] false,3,56,[.nils,.nils,.int .i64 0],[10,9,0]⟩,
  some ⟨.struct [(29,0),(3,2)] false,3,56,[.nils,.nils,.int .i64 0],[10,9,0]⟩,none,tF,tS 50 2,
  tS 3 1,some ⟨.struct [(3,0),(3,1),(3,2),(3,3),(45,4),(3,5),(3,6),(46,7),(46,8),(46,9)] false,10,144,[.int .i64 0,.int .i64 0,.int .i64 0,.int .i64 0,.nils,.int .i64 0,.int .i64 0,.nils,.nils,.nils],[0,0,0,0,2,0,0,1,1,1]⟩,
  some ⟨.struct [(3,0),(3,1),(3,2),(3,3),(45,4),(3,5),(3,6),(46,7),(46,8),(46,9)] false,10,144,[.int .i64 0,.int .i64 0,.int .i64 0,.int .i64 0,.nils,.int .i64 0,.int .i64 0,.nils,.nils,.nils],[0,0,0,0,2,0,0,1,1,1]⟩,
  some ⟨.struct [(3,0),(9,1)] true,2,24,[.int .i64 0,.str []],[0,0]⟩,some ⟨.struct [(3,0),(9,1)] true,2,24,[.int .i64 0,.str []],[0,0]⟩,
  tF,tF,tF,tF,tF,some ⟨.map 3 3,1,8,[.nilmp],[0]⟩,some ⟨.map 3 45,1,8,[.nilmp],[0]⟩,some ⟨.map 3 61,1,8,[.nilmp],[0]⟩,
  none,some ⟨.struct [(3,0),(3,1),(50,2)] true,4,40,[.int .i64 0,.int .i64 0,.int .i64 0,.str []],[0,0,0,0]⟩,
  some ⟨.struct [(3,0),(3,1),(50,2)] true,4,40,[.int .i64 0,.int .i64 0,.int .i64 0,.str []],[0,0,0,0]⟩,
  none,tF,some ⟨.int .u64,1,8,[.int .u64 0],[0]⟩,none,tF,tF,some ⟨.struct [(29,0),(22,2)] false,3,72,[.nils,.nils,.nils],[10,9,1]⟩,
  some ⟨.struct [(29,0),(22,2)] false,3,72,[.nils,.nils,.nils],[10,9,1]⟩,tF,tF,tF,none,
  tF,tF,tF,tF,tF,tF,tF,tF,tF,tP 69,tF,tF,none,tF,none,tF,some ⟨.struct [(3,0),(3,1),(3,2),(3,3),(3,4),(3,5),(3,6),(45,7),(4,8)] false,9,88,[.int .i64 0,.int .i64 0,.int .i64 0,.int .i64 0,.int .i64 0,.int .i64 0,.int .i64 0,.nils,.bool false],[0,0,0,0,0,0,0,2,0]⟩,
  some ⟨.struct [(3,0),(3,1),(3,2),(3,3),(3,4),(3,5),(3,6),(45,7),(4,8)] false,9,88,[.int .i64 0,.int .i64 0,.int .i64 0,.int .i64 0,.int .i64 0,.int .i64 0,.int .i64 0,.nils,.bool false],[0,0,0,0,0,0,0,2,0]⟩,
  tF,none,tF,tF,tF,tF,tF,tF,tF,tP 48,tF,tF,tF,tF,tF,tF,tF,tF,tF,tF,tF,tF,none,tF,
  tF,tF,tF,tF,tF,none,none,none,none,none,tF,some ⟨.int .u32,1,4,[.int .u32 0],[0]⟩,none,
  none,tF,tP 5]
def τ:TyTab:=tyTab tab
theorem ok:TyOk Try.prog τ:=chk_ok (by kernel_rfl)
theorem mixed:Try.prog.follows .mixedOrders=true:=by kernel_rfl
end Ty
end Go.Proofs.Ythiighaapaomcaa
