/- The types of this seat, for the abstract machine: each row holds of the program. Written by a program. -/
import Derived.Test.YtiakadlmebbafaaRows
import Derived.Test.YtiakadlmebbafaaEm34
namespace Go.Proofs.Ytiakadlmebbafaa
open Go.Dm
set_option maxRecDepth 100000
namespace Ty
theorem t1 : TyOk1 Try.prog 1 ⟨.func, 1, 8, [.nilfn], [0]⟩ := TyOk1.of (by kernel_rfl) rfl rfl (TKOk_func (by kernel_rfl)) rfl
theorem t2 : TyOk1 Try.prog 2 ⟨.int .i64, 1, 8, [.int .i64 0], [0]⟩ := TyOk1.of (by kernel_rfl) rfl rfl (TKOk_int (by kernel_rfl)) rfl
theorem t3 : TyOk1 Try.prog 3 ⟨.int .i64, 1, 8, [.int .i64 0], [0]⟩ := TyOk1.of (by kernel_rfl) rfl rfl (TKOk_int (by kernel_rfl)) rfl
theorem t4 : TyOk1 Try.prog 4 ⟨.bool, 1, 1, [.bool false], [0]⟩ := TyOk1.of (by kernel_rfl) rfl rfl (TKOk_bool (by kernel_rfl)) rfl
theorem t5 : TyOk1 Try.prog 5 ⟨.int .u8, 1, 1, [.int .u8 0], [0]⟩ := TyOk1.of (by kernel_rfl) rfl rfl (TKOk_int (by kernel_rfl)) rfl
theorem t9 : TyOk1 Try.prog 9 ⟨.str, 1, 16, [.str []], [0]⟩ := TyOk1.of (by kernel_rfl) rfl rfl (TKOk_str (by kernel_rfl)) rfl
theorem t12 : TyOk1 Try.prog 12 ⟨.int .u64, 1, 8, [.int .u64 0], [0]⟩ := TyOk1.of (by kernel_rfl) rfl rfl (TKOk_int (by kernel_rfl)) rfl
theorem t21 : TyOk1 Try.prog 21 ⟨.int .i32, 1, 4, [.int .i32 0], [0]⟩ := TyOk1.of (by kernel_rfl) rfl rfl (TKOk_int (by kernel_rfl)) rfl
theorem t22 : TyOk1 Try.prog 22 ⟨.slice 3, 1, 24, [.nils], [1]⟩ := TyOk1.of (by kernel_rfl) rfl rfl (TKOk_slice (by kernel_rfl)) rfl
theorem t23 : TyOk1 Try.prog 23 ⟨.slice 5, 1, 24, [.nils], [1]⟩ := TyOk1.of (by kernel_rfl) rfl rfl (TKOk_slice (by kernel_rfl)) rfl
theorem t24 : TyOk1 Try.prog 24 ⟨.func, 1, 8, [.nilfn], [0]⟩ := TyOk1.of (by kernel_rfl) rfl rfl (TKOk_func (by kernel_rfl)) rfl
theorem t25 : TyOk1 Try.prog 25 ⟨.struct [(3, 0), (3, 1)] true, 2, 16, [.int .i64 0, .int .i64 0], [0, 0]⟩ := TyOk1.of (by kernel_rfl) rfl rfl (TKOk_struct (by kernel_rfl) (by kernel_rfl)) rfl
theorem t26 : TyOk1 Try.prog 26 ⟨.struct [(3, 0), (3, 1)] true, 2, 16, [.int .i64 0, .int .i64 0], [0, 0]⟩ := TyOk1.of (by kernel_rfl) rfl rfl (TKOk_struct (by kernel_rfl) (by kernel_rfl)) rfl
theorem t28 : TyOk1 Try.prog 28 ⟨.func, 1, 8, [.nilfn], [0]⟩ := TyOk1.of (by kernel_rfl) rfl rfl (TKOk_func (by kernel_rfl)) rfl
theorem t29 : TyOk1 Try.prog 29 ⟨.func, 1, 8, [.nilfn], [0]⟩ := TyOk1.of (by kernel_rfl) rfl rfl (TKOk_func (by kernel_rfl)) rfl
theorem t31 : TyOk1 Try.prog 31 ⟨.func, 1, 8, [.nilfn], [0]⟩ := TyOk1.of (by kernel_rfl) rfl rfl (TKOk_func (by kernel_rfl)) rfl
theorem t32 : TyOk1 Try.prog 32 ⟨.func, 1, 8, [.nilfn], [0]⟩ := TyOk1.of (by kernel_rfl) rfl rfl (TKOk_func (by kernel_rfl)) rfl
theorem t33 : TyOk1 Try.prog 33 ⟨.func, 1, 8, [.nilfn], [0]⟩ := TyOk1.of (by kernel_rfl) rfl rfl (TKOk_func (by kernel_rfl)) rfl
theorem t34 : TyOk1 Try.prog 34 ⟨.func, 1, 8, [.nilfn], [0]⟩ := TyOk1.of (by kernel_rfl) rfl rfl (TKOk_func (by kernel_rfl)) rfl
theorem t35 : TyOk1 Try.prog 35 ⟨.func, 1, 8, [.nilfn], [0]⟩ := TyOk1.of (by kernel_rfl) rfl rfl (TKOk_func (by kernel_rfl)) rfl
theorem t36 : TyOk1 Try.prog 36 ⟨.func, 1, 8, [.nilfn], [0]⟩ := TyOk1.of (by kernel_rfl) rfl rfl (TKOk_func (by kernel_rfl)) rfl
theorem t38 : TyOk1 Try.prog 38 ⟨.func, 1, 8, [.nilfn], [0]⟩ := TyOk1.of (by kernel_rfl) rfl rfl (TKOk_func (by kernel_rfl)) rfl
theorem t39 : TyOk1 Try.prog 39 ⟨.func, 1, 8, [.nilfn], [0]⟩ := TyOk1.of (by kernel_rfl) rfl rfl (TKOk_func (by kernel_rfl)) rfl
theorem t40 : TyOk1 Try.prog 40 ⟨.func, 1, 8, [.nilfn], [0]⟩ := TyOk1.of (by kernel_rfl) rfl rfl (TKOk_func (by kernel_rfl)) rfl
theorem t41 : TyOk1 Try.prog 41 ⟨.slice 23, 1, 24, [.nils], [1]⟩ := TyOk1.of (by kernel_rfl) rfl rfl (TKOk_slice (by kernel_rfl)) rfl
theorem t42 : TyOk1 Try.prog 42 ⟨.struct [(23, 0), (3, 1)] false, 2, 32, [.nils, .int .i64 0], [1, 0]⟩ := TyOk1.of (by kernel_rfl) rfl rfl (TKOk_struct (by kernel_rfl) (by kernel_rfl)) rfl
theorem t43 : TyOk1 Try.prog 43 ⟨.struct [(23, 0), (3, 1)] false, 2, 32, [.nils, .int .i64 0], [1, 0]⟩ := TyOk1.of (by kernel_rfl) rfl rfl (TKOk_struct (by kernel_rfl) (by kernel_rfl)) rfl
theorem t45 : TyOk1 Try.prog 45 ⟨.func, 1, 8, [.nilfn], [0]⟩ := TyOk1.of (by kernel_rfl) rfl rfl (TKOk_func (by kernel_rfl)) rfl
theorem t46 : TyOk1 Try.prog 46 ⟨.func, 1, 8, [.nilfn], [0]⟩ := TyOk1.of (by kernel_rfl) rfl rfl (TKOk_func (by kernel_rfl)) rfl
theorem t47 : TyOk1 Try.prog 47 ⟨.func, 1, 8, [.nilfn], [0]⟩ := TyOk1.of (by kernel_rfl) rfl rfl (TKOk_func (by kernel_rfl)) rfl
theorem t48 : TyOk1 Try.prog 48 ⟨.func, 1, 8, [.nilfn], [0]⟩ := TyOk1.of (by kernel_rfl) rfl rfl (TKOk_func (by kernel_rfl)) rfl
theorem t49 : TyOk1 Try.prog 49 ⟨.func, 1, 8, [.nilfn], [0]⟩ := TyOk1.of (by kernel_rfl) rfl rfl (TKOk_func (by kernel_rfl)) rfl
theorem t50 : TyOk1 Try.prog 50 ⟨.slice 9, 1, 24, [.nils], [1]⟩ := TyOk1.of (by kernel_rfl) rfl rfl (TKOk_slice (by kernel_rfl)) rfl
theorem t51 : TyOk1 Try.prog 51 ⟨.func, 1, 8, [.nilfn], [0]⟩ := TyOk1.of (by kernel_rfl) rfl rfl (TKOk_func (by kernel_rfl)) rfl
theorem t53 : TyOk1 Try.prog 53 ⟨.func, 1, 8, [.nilfn], [0]⟩ := TyOk1.of (by kernel_rfl) rfl rfl (TKOk_func (by kernel_rfl)) rfl
theorem t54 : TyOk1 Try.prog 54 ⟨.func, 1, 8, [.nilfn], [0]⟩ := TyOk1.of (by kernel_rfl) rfl rfl (TKOk_func (by kernel_rfl)) rfl
theorem t56 : TyOk1 Try.prog 56 ⟨.func, 1, 8, [.nilfn], [0]⟩ := TyOk1.of (by kernel_rfl) rfl rfl (TKOk_func (by kernel_rfl)) rfl
theorem t57 : TyOk1 Try.prog 57 ⟨.func, 1, 8, [.nilfn], [0]⟩ := TyOk1.of (by kernel_rfl) rfl rfl (TKOk_func (by kernel_rfl)) rfl
theorem t58 : TyOk1 Try.prog 58 ⟨.func, 1, 8, [.nilfn], [0]⟩ := TyOk1.of (by kernel_rfl) rfl rfl (TKOk_func (by kernel_rfl)) rfl
theorem t59 : TyOk1 Try.prog 59 ⟨.func, 1, 8, [.nilfn], [0]⟩ := TyOk1.of (by kernel_rfl) rfl rfl (TKOk_func (by kernel_rfl)) rfl
theorem t60 : TyOk1 Try.prog 60 ⟨.func, 1, 8, [.nilfn], [0]⟩ := TyOk1.of (by kernel_rfl) rfl rfl (TKOk_func (by kernel_rfl)) rfl
theorem t62 : TyOk1 Try.prog 62 ⟨.func, 1, 8, [.nilfn], [0]⟩ := TyOk1.of (by kernel_rfl) rfl rfl (TKOk_func (by kernel_rfl)) rfl
theorem t63 : TyOk1 Try.prog 63 ⟨.func, 1, 8, [.nilfn], [0]⟩ := TyOk1.of (by kernel_rfl) rfl rfl (TKOk_func (by kernel_rfl)) rfl
theorem t64 : TyOk1 Try.prog 64 ⟨.func, 1, 8, [.nilfn], [0]⟩ := TyOk1.of (by kernel_rfl) rfl rfl (TKOk_func (by kernel_rfl)) rfl
theorem t65 : TyOk1 Try.prog 65 ⟨.int .u32, 1, 4, [.int .u32 0], [0]⟩ := TyOk1.of (by kernel_rfl) rfl rfl (TKOk_int (by kernel_rfl)) rfl
theorem t67 : TyOk1 Try.prog 67 ⟨.func, 1, 8, [.nilfn], [0]⟩ := TyOk1.of (by kernel_rfl) rfl rfl (TKOk_func (by kernel_rfl)) rfl
theorem t68 : TyOk1 Try.prog 68 ⟨.func, 1, 8, [.nilfn], [0]⟩ := TyOk1.of (by kernel_rfl) rfl rfl (TKOk_func (by kernel_rfl)) rfl
theorem t69 : TyOk1 Try.prog 69 ⟨.func, 1, 8, [.nilfn], [0]⟩ := TyOk1.of (by kernel_rfl) rfl rfl (TKOk_func (by kernel_rfl)) rfl
theorem t71 : TyOk1 Try.prog 71 ⟨.func, 1, 8, [.nilfn], [0]⟩ := TyOk1.of (by kernel_rfl) rfl rfl (TKOk_func (by kernel_rfl)) rfl
theorem t72 : TyOk1 Try.prog 72 ⟨.func, 1, 8, [.nilfn], [0]⟩ := TyOk1.of (by kernel_rfl) rfl rfl (TKOk_func (by kernel_rfl)) rfl
theorem t74 : TyOk1 Try.prog 74 ⟨.func, 1, 8, [.nilfn], [0]⟩ := TyOk1.of (by kernel_rfl) rfl rfl (TKOk_func (by kernel_rfl)) rfl
theorem t75 : TyOk1 Try.prog 75 ⟨.func, 1, 8, [.nilfn], [0]⟩ := TyOk1.of (by kernel_rfl) rfl rfl (TKOk_func (by kernel_rfl)) rfl
theorem t76 : TyOk1 Try.prog 76 ⟨.func, 1, 8, [.nilfn], [0]⟩ := TyOk1.of (by kernel_rfl) rfl rfl (TKOk_func (by kernel_rfl)) rfl
theorem t77 : TyOk1 Try.prog 77 ⟨.func, 1, 8, [.nilfn], [0]⟩ := TyOk1.of (by kernel_rfl) rfl rfl (TKOk_func (by kernel_rfl)) rfl
theorem t78 : TyOk1 Try.prog 78 ⟨.func, 1, 8, [.nilfn], [0]⟩ := TyOk1.of (by kernel_rfl) rfl rfl (TKOk_func (by kernel_rfl)) rfl
theorem t79 : TyOk1 Try.prog 79 ⟨.func, 1, 8, [.nilfn], [0]⟩ := TyOk1.of (by kernel_rfl) rfl rfl (TKOk_func (by kernel_rfl)) rfl
theorem t80 : TyOk1 Try.prog 80 ⟨.func, 1, 8, [.nilfn], [0]⟩ := TyOk1.of (by kernel_rfl) rfl rfl (TKOk_func (by kernel_rfl)) rfl
theorem t81 : TyOk1 Try.prog 81 ⟨.func, 1, 8, [.nilfn], [0]⟩ := TyOk1.of (by kernel_rfl) rfl rfl (TKOk_func (by kernel_rfl)) rfl
theorem t82 : TyOk1 Try.prog 82 ⟨.func, 1, 8, [.nilfn], [0]⟩ := TyOk1.of (by kernel_rfl) rfl rfl (TKOk_func (by kernel_rfl)) rfl
theorem t83 : TyOk1 Try.prog 83 ⟨.ptr 87, 1, 8, [.nilp], [0]⟩ := TyOk1.of (by kernel_rfl) rfl rfl (TKOk_ptr (by kernel_rfl)) rfl
theorem t84 : TyOk1 Try.prog 84 ⟨.func, 1, 8, [.nilfn], [0]⟩ := TyOk1.of (by kernel_rfl) rfl rfl (TKOk_func (by kernel_rfl)) rfl
theorem t85 : TyOk1 Try.prog 85 ⟨.func, 1, 8, [.nilfn], [0]⟩ := TyOk1.of (by kernel_rfl) rfl rfl (TKOk_func (by kernel_rfl)) rfl
theorem t86 : TyOk1 Try.prog 86 ⟨.struct [(23, 0), (4, 1)] false, 2, 32, [.nils, .bool false], [1, 0]⟩ := TyOk1.of (by kernel_rfl) rfl rfl (TKOk_struct (by kernel_rfl) (by kernel_rfl)) rfl
theorem t87 : TyOk1 Try.prog 87 ⟨.struct [(23, 0), (4, 1)] false, 2, 32, [.nils, .bool false], [1, 0]⟩ := TyOk1.of (by kernel_rfl) rfl rfl (TKOk_struct (by kernel_rfl) (by kernel_rfl)) rfl
theorem t89 : TyOk1 Try.prog 89 ⟨.func, 1, 8, [.nilfn], [0]⟩ := TyOk1.of (by kernel_rfl) rfl rfl (TKOk_func (by kernel_rfl)) rfl
theorem t90 : TyOk1 Try.prog 90 ⟨.func, 1, 8, [.nilfn], [0]⟩ := TyOk1.of (by kernel_rfl) rfl rfl (TKOk_func (by kernel_rfl)) rfl
theorem t91 : TyOk1 Try.prog 91 ⟨.func, 1, 8, [.nilfn], [0]⟩ := TyOk1.of (by kernel_rfl) rfl rfl (TKOk_func (by kernel_rfl)) rfl
theorem t92 : TyOk1 Try.prog 92 ⟨.func, 1, 8, [.nilfn], [0]⟩ := TyOk1.of (by kernel_rfl) rfl rfl (TKOk_func (by kernel_rfl)) rfl
theorem t93 : TyOk1 Try.prog 93 ⟨.func, 1, 8, [.nilfn], [0]⟩ := TyOk1.of (by kernel_rfl) rfl rfl (TKOk_func (by kernel_rfl)) rfl
theorem t94 : TyOk1 Try.prog 94 ⟨.func, 1, 8, [.nilfn], [0]⟩ := TyOk1.of (by kernel_rfl) rfl rfl (TKOk_func (by kernel_rfl)) rfl
theorem t95 : TyOk1 Try.prog 95 ⟨.int .u64, 1, 8, [.int .u64 0], [0]⟩ := TyOk1.of (by kernel_rfl) rfl rfl (TKOk_int (by kernel_rfl)) rfl
theorem t103 : TyOk1 Try.prog 103 ⟨.func, 1, 8, [.nilfn], [0]⟩ := TyOk1.of (by kernel_rfl) rfl rfl (TKOk_func (by kernel_rfl)) rfl
theorem t104 : TyOk1 Try.prog 104 ⟨.ptr 5, 1, 8, [.nilp], [0]⟩ := TyOk1.of (by kernel_rfl) rfl rfl (TKOk_ptr (by kernel_rfl)) rfl
def tab : List (Option TI) := [
  none,
  some ⟨.func, 1, 8, [.nilfn], [0]⟩,
  some ⟨.int .i64, 1, 8, [.int .i64 0], [0]⟩,
  some ⟨.int .i64, 1, 8, [.int .i64 0], [0]⟩,
  some ⟨.bool, 1, 1, [.bool false], [0]⟩,
  some ⟨.int .u8, 1, 1, [.int .u8 0], [0]⟩,
  none,
  none,
  none,
  some ⟨.str, 1, 16, [.str []], [0]⟩,
  none,
  none,
  some ⟨.int .u64, 1, 8, [.int .u64 0], [0]⟩,
  none,
  none,
  none,
  none,
  none,
  none,
  none,
  none,
  some ⟨.int .i32, 1, 4, [.int .i32 0], [0]⟩,
  some ⟨.slice 3, 1, 24, [.nils], [1]⟩,
  some ⟨.slice 5, 1, 24, [.nils], [1]⟩,
  some ⟨.func, 1, 8, [.nilfn], [0]⟩,
  some ⟨.struct [(3, 0), (3, 1)] true, 2, 16, [.int .i64 0, .int .i64 0], [0, 0]⟩,
  some ⟨.struct [(3, 0), (3, 1)] true, 2, 16, [.int .i64 0, .int .i64 0], [0, 0]⟩,
  none,
  some ⟨.func, 1, 8, [.nilfn], [0]⟩,
  some ⟨.func, 1, 8, [.nilfn], [0]⟩,
  none,
  some ⟨.func, 1, 8, [.nilfn], [0]⟩,
  some ⟨.func, 1, 8, [.nilfn], [0]⟩,
  some ⟨.func, 1, 8, [.nilfn], [0]⟩,
  some ⟨.func, 1, 8, [.nilfn], [0]⟩,
  some ⟨.func, 1, 8, [.nilfn], [0]⟩,
  some ⟨.func, 1, 8, [.nilfn], [0]⟩,
  none,
  some ⟨.func, 1, 8, [.nilfn], [0]⟩,
  some ⟨.func, 1, 8, [.nilfn], [0]⟩,
  some ⟨.func, 1, 8, [.nilfn], [0]⟩,
  some ⟨.slice 23, 1, 24, [.nils], [1]⟩,
  some ⟨.struct [(23, 0), (3, 1)] false, 2, 32, [.nils, .int .i64 0], [1, 0]⟩,
  some ⟨.struct [(23, 0), (3, 1)] false, 2, 32, [.nils, .int .i64 0], [1, 0]⟩,
  none,
  some ⟨.func, 1, 8, [.nilfn], [0]⟩,
  some ⟨.func, 1, 8, [.nilfn], [0]⟩,
  some ⟨.func, 1, 8, [.nilfn], [0]⟩,
  some ⟨.func, 1, 8, [.nilfn], [0]⟩,
  some ⟨.func, 1, 8, [.nilfn], [0]⟩,
  some ⟨.slice 9, 1, 24, [.nils], [1]⟩,
  some ⟨.func, 1, 8, [.nilfn], [0]⟩,
  none,
  some ⟨.func, 1, 8, [.nilfn], [0]⟩,
  some ⟨.func, 1, 8, [.nilfn], [0]⟩,
  none,
  some ⟨.func, 1, 8, [.nilfn], [0]⟩,
  some ⟨.func, 1, 8, [.nilfn], [0]⟩,
  some ⟨.func, 1, 8, [.nilfn], [0]⟩,
  some ⟨.func, 1, 8, [.nilfn], [0]⟩,
  some ⟨.func, 1, 8, [.nilfn], [0]⟩,
  none,
  some ⟨.func, 1, 8, [.nilfn], [0]⟩,
  some ⟨.func, 1, 8, [.nilfn], [0]⟩,
  some ⟨.func, 1, 8, [.nilfn], [0]⟩,
  some ⟨.int .u32, 1, 4, [.int .u32 0], [0]⟩,
  none,
  some ⟨.func, 1, 8, [.nilfn], [0]⟩,
  some ⟨.func, 1, 8, [.nilfn], [0]⟩,
  some ⟨.func, 1, 8, [.nilfn], [0]⟩,
  none,
  some ⟨.func, 1, 8, [.nilfn], [0]⟩,
  some ⟨.func, 1, 8, [.nilfn], [0]⟩,
  none,
  some ⟨.func, 1, 8, [.nilfn], [0]⟩,
  some ⟨.func, 1, 8, [.nilfn], [0]⟩,
  some ⟨.func, 1, 8, [.nilfn], [0]⟩,
  some ⟨.func, 1, 8, [.nilfn], [0]⟩,
  some ⟨.func, 1, 8, [.nilfn], [0]⟩,
  some ⟨.func, 1, 8, [.nilfn], [0]⟩,
  some ⟨.func, 1, 8, [.nilfn], [0]⟩,
  some ⟨.func, 1, 8, [.nilfn], [0]⟩,
  some ⟨.func, 1, 8, [.nilfn], [0]⟩,
  some ⟨.ptr 87, 1, 8, [.nilp], [0]⟩,
  some ⟨.func, 1, 8, [.nilfn], [0]⟩,
  some ⟨.func, 1, 8, [.nilfn], [0]⟩,
  some ⟨.struct [(23, 0), (4, 1)] false, 2, 32, [.nils, .bool false], [1, 0]⟩,
  some ⟨.struct [(23, 0), (4, 1)] false, 2, 32, [.nils, .bool false], [1, 0]⟩,
  none,
  some ⟨.func, 1, 8, [.nilfn], [0]⟩,
  some ⟨.func, 1, 8, [.nilfn], [0]⟩,
  some ⟨.func, 1, 8, [.nilfn], [0]⟩,
  some ⟨.func, 1, 8, [.nilfn], [0]⟩,
  some ⟨.func, 1, 8, [.nilfn], [0]⟩,
  some ⟨.func, 1, 8, [.nilfn], [0]⟩,
  some ⟨.int .u64, 1, 8, [.int .u64 0], [0]⟩,
  none,
  none,
  none,
  none,
  none,
  none,
  none,
  some ⟨.func, 1, 8, [.nilfn], [0]⟩,
  some ⟨.ptr 5, 1, 8, [.nilp], [0]⟩]
def τ : TyTab := tyTab tab
theorem all : TyAll Try.prog 0 tab := by
  unfold tab
  simp only [TyAll]
  exact ⟨t1, t2, t3, t4, t5, t9, t12, t21, t22, t23, t24, t25, t26, t28, t29, t31, t32, t33, t34, t35, t36, t38, t39, t40, t41, t42, t43, t45, t46, t47, t48, t49, t50, t51, t53, t54, t56, t57, t58, t59, t60, t62, t63, t64, t65, t67, t68, t69, t71, t72, t74, t75, t76, t77, t78, t79, t80, t81, t82, t83, t84, t85, t86, t87, t89, t90, t91, t92, t93, t94, t95, t103, t104, trivial⟩
theorem ok : TyOk Try.prog τ := all.ok
theorem mixed : Try.prog.follows .mixedOrders = true := by kernel_rfl
end Ty
end Go.Proofs.Ytiakadlmebbafaa
