/- The types of this seat, for the abstract machine: each row holds of the program. Written by a program. -/
import Derived.Test.YteckapomkemglaaRows
import Derived.Test.YteckapomkemglaaEmD
namespace Go.Proofs.Yteckapomkemglaa
open Go Go.Dm
set_option maxRecDepth 100000
namespace Ty
def tab : List (Option TI) := [
  none, tF, tI, tI, some ⟨.bool, 1, 1, [.bool false], [0]⟩, some ⟨.int .u8, 1, 1, [.int .u8 0], [0]⟩,
  none, none, none, some ⟨.str, 1, 16, [.str []], [0]⟩, none, none, some ⟨.int .u64, 1, 8, [.int .u64 0], [0]⟩,
  none, none, none, none, none, none, none, none, some ⟨.int .i32, 1, 4, [.int .i32 0], [0]⟩, tS 9 1,
  some ⟨.struct [(3, 0), (4, 1), (22, 2), (3, 3)] false, 4, 48, [.int .i64 0, .bool false, .nils, .int .i64 0], [0, 0, 1, 0]⟩,
  some ⟨.struct [(3, 0), (4, 1), (22, 2), (3, 3)] false, 4, 48, [.int .i64 0, .bool false, .nils, .int .i64 0], [0, 0, 1, 0]⟩,
  tF, tF, tF, some ⟨.struct [(3, 0), (3, 1)] true, 2, 16, [.int .i64 0, .int .i64 0], [0, 0]⟩, some ⟨.struct [(3, 0), (3, 1)] true, 2, 16, [.int .i64 0, .int .i64 0], [0, 0]⟩,
  tF, none, tF, tF, tF, tF, tF, tF, tS 24 4, none, tF, tF, tS 50 3, tS 54 1, tS 58 6, some ⟨.struct [(38, 0), (22, 1), (43, 2), (44, 3)] false, 4, 96, [.nils, .nils, .nils, .nils], [4, 1, 1, 6]⟩,
  some ⟨.struct [(38, 0), (22, 1), (43, 2), (44, 3)] false, 4, 96, [.nils, .nils, .nils, .nils], [4, 1, 1, 6]⟩,
  none, tF, some ⟨.struct [(3, 0), (3, 1), (3, 2)] true, 3, 24, [.int .i64 0, .int .i64 0, .int .i64 0], [0, 0, 0]⟩,
  some ⟨.struct [(3, 0), (3, 1), (3, 2)] true, 3, 24, [.int .i64 0, .int .i64 0, .int .i64 0], [0, 0, 0]⟩,
  tF, none, tF, tS 3 1, tF, tF, some ⟨.struct [(3, 0), (54, 1), (38, 2), (4, 3), (22, 4), (54, 5)] false, 6, 112, [.int .i64 0, .nils, .nils, .bool false, .nils, .nils], [0, 1, 4, 0, 1, 1]⟩,
  some ⟨.struct [(3, 0), (54, 1), (38, 2), (4, 3), (22, 4), (54, 5)] false, 6, 112, [.int .i64 0, .nils, .nils, .bool false, .nils, .nils], [0, 1, 4, 0, 1, 1]⟩,
  tF, tF, tF, tF, tF, some ⟨.struct [(46, 0), (22, 4)] false, 5, 120, [.nils, .nils, .nils, .nils, .nils], [4, 1, 1, 6, 1]⟩,
  some ⟨.struct [(46, 0), (22, 4)] false, 5, 120, [.nils, .nils, .nils, .nils, .nils], [4, 1, 1, 6, 1]⟩,
  tF, none, tF, tF, tF, tF, tP 65, tP 24, tP 58, tF, tF, tF, tF, tF, tF, tF, tF, none, none, none, none,
  none, tF, some ⟨.int .u32, 1, 4, [.int .u32 0], [0]⟩, none, none, tF, tP 5]
def τ : TyTab := tyTab tab
theorem ok : TyOk Try.prog τ := chk_ok (by kernel_rfl)
theorem mixed : Try.prog.follows .mixedOrders = true := by kernel_rfl
end Ty
end Go.Proofs.Yteckapomkemglaa
