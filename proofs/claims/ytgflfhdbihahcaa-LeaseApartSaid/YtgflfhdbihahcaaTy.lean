/- The types of this seat, for the abstract machine: each row holds of the program. Written by a program. -/
import Derived.Test.YtgflfhdbihahcaaRows
import Derived.Test.YtgflfhdbihahcaaEm34
namespace Go.Proofs.Ytgflfhdbihahcaa
open Go.Dm
set_option maxRecDepth 100000
namespace Ty
theorem t1 : TyOk1 Try.prog 1 ⟨.func, 1, 8, [.nilfn], [0]⟩ := TyOk1.of (by kernel_rfl) rfl rfl (TKOk_func (by kernel_rfl)) rfl
theorem t2 : TyOk1 Try.prog 2 ⟨.int .i64, 1, 8, [.int .i64 0], [0]⟩ := TyOk1.of (by kernel_rfl) rfl rfl (TKOk_int (by kernel_rfl)) rfl
theorem t3 : TyOk1 Try.prog 3 ⟨.int .i64, 1, 8, [.int .i64 0], [0]⟩ := TyOk1.of (by kernel_rfl) rfl rfl (TKOk_int (by kernel_rfl)) rfl
theorem t4 : TyOk1 Try.prog 4 ⟨.bool, 1, 1, [.bool false], [0]⟩ := TyOk1.of (by kernel_rfl) rfl rfl (TKOk_bool (by kernel_rfl)) rfl
theorem t5 : TyOk1 Try.prog 5 ⟨.int .u8, 1, 1, [.int .u8 0], [0]⟩ := TyOk1.of (by kernel_rfl) rfl rfl (TKOk_int (by kernel_rfl)) rfl
theorem t9 : TyOk1 Try.prog 9 ⟨.str, 1, 16, [.str []], [0]⟩ := TyOk1.of (by kernel_rfl) rfl rfl (TKOk_str (by kernel_rfl)) rfl
theorem t12 : TyOk1 Try.prog 12 ⟨.int .u64, 1, 8, [.int .u64 0], [0]⟩ := TyOk1.of (by kernel_rfl) rfl rfl (TKOk_int (by kernel_rfl)) rfl
theorem t21 : TyOk1 Try.prog 21 ⟨.int .i32, 1, 4, [.int .i32 0], [0]⟩ := TyOk1.of (by kernel_rfl) rfl rfl (TKOk_int (by kernel_rfl)) rfl
theorem t22 : TyOk1 Try.prog 22 ⟨.slice 3, 1, 24, [.nils], [1]⟩ := TyOk1.of (by kernel_rfl) rfl rfl (TKOk_slice (by kernel_rfl)) rfl
theorem t23 : TyOk1 Try.prog 23 ⟨.func, 1, 8, [.nilfn], [0]⟩ := TyOk1.of (by kernel_rfl) rfl rfl (TKOk_func (by kernel_rfl)) rfl
theorem t24 : TyOk1 Try.prog 24 ⟨.struct [(3, 0), (3, 1)] true, 2, 16, [.int .i64 0, .int .i64 0], [0, 0]⟩ := TyOk1.of (by kernel_rfl) rfl rfl (TKOk_struct (by kernel_rfl) (by kernel_rfl)) rfl
theorem t25 : TyOk1 Try.prog 25 ⟨.struct [(3, 0), (3, 1)] true, 2, 16, [.int .i64 0, .int .i64 0], [0, 0]⟩ := TyOk1.of (by kernel_rfl) rfl rfl (TKOk_struct (by kernel_rfl) (by kernel_rfl)) rfl
theorem t27 : TyOk1 Try.prog 27 ⟨.func, 1, 8, [.nilfn], [0]⟩ := TyOk1.of (by kernel_rfl) rfl rfl (TKOk_func (by kernel_rfl)) rfl
theorem t28 : TyOk1 Try.prog 28 ⟨.func, 1, 8, [.nilfn], [0]⟩ := TyOk1.of (by kernel_rfl) rfl rfl (TKOk_func (by kernel_rfl)) rfl
theorem t29 : TyOk1 Try.prog 29 ⟨.struct [(3, 0), (3, 1), (3, 2)] true, 3, 24, [.int .i64 0, .int .i64 0, .int .i64 0], [0, 0, 0]⟩ := TyOk1.of (by kernel_rfl) rfl rfl (TKOk_struct (by kernel_rfl) (by kernel_rfl)) rfl
theorem t30 : TyOk1 Try.prog 30 ⟨.struct [(3, 0), (3, 1), (3, 2)] true, 3, 24, [.int .i64 0, .int .i64 0, .int .i64 0], [0, 0, 0]⟩ := TyOk1.of (by kernel_rfl) rfl rfl (TKOk_struct (by kernel_rfl) (by kernel_rfl)) rfl
theorem t31 : TyOk1 Try.prog 31 ⟨.func, 1, 8, [.nilfn], [0]⟩ := TyOk1.of (by kernel_rfl) rfl rfl (TKOk_func (by kernel_rfl)) rfl
theorem t33 : TyOk1 Try.prog 33 ⟨.func, 1, 8, [.nilfn], [0]⟩ := TyOk1.of (by kernel_rfl) rfl rfl (TKOk_func (by kernel_rfl)) rfl
theorem t34 : TyOk1 Try.prog 34 ⟨.func, 1, 8, [.nilfn], [0]⟩ := TyOk1.of (by kernel_rfl) rfl rfl (TKOk_func (by kernel_rfl)) rfl
theorem t35 : TyOk1 Try.prog 35 ⟨.func, 1, 8, [.nilfn], [0]⟩ := TyOk1.of (by kernel_rfl) rfl rfl (TKOk_func (by kernel_rfl)) rfl
theorem t36 : TyOk1 Try.prog 36 ⟨.func, 1, 8, [.nilfn], [0]⟩ := TyOk1.of (by kernel_rfl) rfl rfl (TKOk_func (by kernel_rfl)) rfl
theorem t37 : TyOk1 Try.prog 37 ⟨.func, 1, 8, [.nilfn], [0]⟩ := TyOk1.of (by kernel_rfl) rfl rfl (TKOk_func (by kernel_rfl)) rfl
theorem t38 : TyOk1 Try.prog 38 ⟨.func, 1, 8, [.nilfn], [0]⟩ := TyOk1.of (by kernel_rfl) rfl rfl (TKOk_func (by kernel_rfl)) rfl
theorem t39 : TyOk1 Try.prog 39 ⟨.slice 50, 1, 24, [.nils], [3]⟩ := TyOk1.of (by kernel_rfl) rfl rfl (TKOk_slice (by kernel_rfl)) rfl
theorem t40 : TyOk1 Try.prog 40 ⟨.slice 60, 1, 24, [.nils], [2]⟩ := TyOk1.of (by kernel_rfl) rfl rfl (TKOk_slice (by kernel_rfl)) rfl
theorem t41 : TyOk1 Try.prog 41 ⟨.slice 103, 1, 24, [.nils], [3]⟩ := TyOk1.of (by kernel_rfl) rfl rfl (TKOk_slice (by kernel_rfl)) rfl
theorem t42 : TyOk1 Try.prog 42 ⟨.slice 105, 1, 24, [.nils], [3]⟩ := TyOk1.of (by kernel_rfl) rfl rfl (TKOk_slice (by kernel_rfl)) rfl
theorem t43 : TyOk1 Try.prog 43 ⟨.struct [(3, 0), (30, 1), (22, 4), (40, 5), (41, 6), (42, 7)] false, 8, 128, [.int .i64 0, .int .i64 0, .int .i64 0, .int .i64 0, .nils, .nils, .nils, .nils], [0, 0, 0, 0, 1, 2, 3, 3]⟩ := TyOk1.of (by kernel_rfl) rfl rfl (TKOk_struct (by kernel_rfl) (by kernel_rfl)) rfl
theorem t44 : TyOk1 Try.prog 44 ⟨.struct [(3, 0), (30, 1), (22, 4), (40, 5), (41, 6), (42, 7)] false, 8, 128, [.int .i64 0, .int .i64 0, .int .i64 0, .int .i64 0, .nils, .nils, .nils, .nils], [0, 0, 0, 0, 1, 2, 3, 3]⟩ := TyOk1.of (by kernel_rfl) rfl rfl (TKOk_struct (by kernel_rfl) (by kernel_rfl)) rfl
theorem t46 : TyOk1 Try.prog 46 ⟨.func, 1, 8, [.nilfn], [0]⟩ := TyOk1.of (by kernel_rfl) rfl rfl (TKOk_func (by kernel_rfl)) rfl
theorem t48 : TyOk1 Try.prog 48 ⟨.func, 1, 8, [.nilfn], [0]⟩ := TyOk1.of (by kernel_rfl) rfl rfl (TKOk_func (by kernel_rfl)) rfl
theorem t49 : TyOk1 Try.prog 49 ⟨.struct [(3, 0), (3, 1), (3, 2)] true, 3, 24, [.int .i64 0, .int .i64 0, .int .i64 0], [0, 0, 0]⟩ := TyOk1.of (by kernel_rfl) rfl rfl (TKOk_struct (by kernel_rfl) (by kernel_rfl)) rfl
theorem t50 : TyOk1 Try.prog 50 ⟨.struct [(3, 0), (3, 1), (3, 2)] true, 3, 24, [.int .i64 0, .int .i64 0, .int .i64 0], [0, 0, 0]⟩ := TyOk1.of (by kernel_rfl) rfl rfl (TKOk_struct (by kernel_rfl) (by kernel_rfl)) rfl
theorem t51 : TyOk1 Try.prog 51 ⟨.slice 44, 1, 24, [.nils], [8]⟩ := TyOk1.of (by kernel_rfl) rfl rfl (TKOk_slice (by kernel_rfl)) rfl
theorem t53 : TyOk1 Try.prog 53 ⟨.func, 1, 8, [.nilfn], [0]⟩ := TyOk1.of (by kernel_rfl) rfl rfl (TKOk_func (by kernel_rfl)) rfl
theorem t54 : TyOk1 Try.prog 54 ⟨.func, 1, 8, [.nilfn], [0]⟩ := TyOk1.of (by kernel_rfl) rfl rfl (TKOk_func (by kernel_rfl)) rfl
theorem t55 : TyOk1 Try.prog 55 ⟨.func, 1, 8, [.nilfn], [0]⟩ := TyOk1.of (by kernel_rfl) rfl rfl (TKOk_func (by kernel_rfl)) rfl
theorem t56 : TyOk1 Try.prog 56 ⟨.func, 1, 8, [.nilfn], [0]⟩ := TyOk1.of (by kernel_rfl) rfl rfl (TKOk_func (by kernel_rfl)) rfl
theorem t57 : TyOk1 Try.prog 57 ⟨.map 3 3, 1, 8, [.nilmp], [0]⟩ := TyOk1.of (by kernel_rfl) rfl rfl (TKOk_map (by kernel_rfl)) rfl
theorem t58 : TyOk1 Try.prog 58 ⟨.func, 1, 8, [.nilfn], [0]⟩ := TyOk1.of (by kernel_rfl) rfl rfl (TKOk_func (by kernel_rfl)) rfl
theorem t59 : TyOk1 Try.prog 59 ⟨.struct [(3, 0), (3, 1)] true, 2, 16, [.int .i64 0, .int .i64 0], [0, 0]⟩ := TyOk1.of (by kernel_rfl) rfl rfl (TKOk_struct (by kernel_rfl) (by kernel_rfl)) rfl
theorem t60 : TyOk1 Try.prog 60 ⟨.struct [(3, 0), (3, 1)] true, 2, 16, [.int .i64 0, .int .i64 0], [0, 0]⟩ := TyOk1.of (by kernel_rfl) rfl rfl (TKOk_struct (by kernel_rfl) (by kernel_rfl)) rfl
theorem t62 : TyOk1 Try.prog 62 ⟨.slice 9, 1, 24, [.nils], [1]⟩ := TyOk1.of (by kernel_rfl) rfl rfl (TKOk_slice (by kernel_rfl)) rfl
theorem t63 : TyOk1 Try.prog 63 ⟨.struct [(3, 0), (4, 1), (62, 2), (3, 3)] false, 4, 48, [.int .i64 0, .bool false, .nils, .int .i64 0], [0, 0, 1, 0]⟩ := TyOk1.of (by kernel_rfl) rfl rfl (TKOk_struct (by kernel_rfl) (by kernel_rfl)) rfl
theorem t64 : TyOk1 Try.prog 64 ⟨.struct [(3, 0), (4, 1), (62, 2), (3, 3)] false, 4, 48, [.int .i64 0, .bool false, .nils, .int .i64 0], [0, 0, 1, 0]⟩ := TyOk1.of (by kernel_rfl) rfl rfl (TKOk_struct (by kernel_rfl) (by kernel_rfl)) rfl
theorem t65 : TyOk1 Try.prog 65 ⟨.func, 1, 8, [.nilfn], [0]⟩ := TyOk1.of (by kernel_rfl) rfl rfl (TKOk_func (by kernel_rfl)) rfl
theorem t66 : TyOk1 Try.prog 66 ⟨.func, 1, 8, [.nilfn], [0]⟩ := TyOk1.of (by kernel_rfl) rfl rfl (TKOk_func (by kernel_rfl)) rfl
theorem t67 : TyOk1 Try.prog 67 ⟨.func, 1, 8, [.nilfn], [0]⟩ := TyOk1.of (by kernel_rfl) rfl rfl (TKOk_func (by kernel_rfl)) rfl
theorem t69 : TyOk1 Try.prog 69 ⟨.func, 1, 8, [.nilfn], [0]⟩ := TyOk1.of (by kernel_rfl) rfl rfl (TKOk_func (by kernel_rfl)) rfl
theorem t70 : TyOk1 Try.prog 70 ⟨.func, 1, 8, [.nilfn], [0]⟩ := TyOk1.of (by kernel_rfl) rfl rfl (TKOk_func (by kernel_rfl)) rfl
theorem t71 : TyOk1 Try.prog 71 ⟨.func, 1, 8, [.nilfn], [0]⟩ := TyOk1.of (by kernel_rfl) rfl rfl (TKOk_func (by kernel_rfl)) rfl
theorem t72 : TyOk1 Try.prog 72 ⟨.func, 1, 8, [.nilfn], [0]⟩ := TyOk1.of (by kernel_rfl) rfl rfl (TKOk_func (by kernel_rfl)) rfl
theorem t73 : TyOk1 Try.prog 73 ⟨.func, 1, 8, [.nilfn], [0]⟩ := TyOk1.of (by kernel_rfl) rfl rfl (TKOk_func (by kernel_rfl)) rfl
theorem t74 : TyOk1 Try.prog 74 ⟨.func, 1, 8, [.nilfn], [0]⟩ := TyOk1.of (by kernel_rfl) rfl rfl (TKOk_func (by kernel_rfl)) rfl
theorem t75 : TyOk1 Try.prog 75 ⟨.slice 64, 1, 24, [.nils], [4]⟩ := TyOk1.of (by kernel_rfl) rfl rfl (TKOk_slice (by kernel_rfl)) rfl
theorem t77 : TyOk1 Try.prog 77 ⟨.func, 1, 8, [.nilfn], [0]⟩ := TyOk1.of (by kernel_rfl) rfl rfl (TKOk_func (by kernel_rfl)) rfl
theorem t78 : TyOk1 Try.prog 78 ⟨.func, 1, 8, [.nilfn], [0]⟩ := TyOk1.of (by kernel_rfl) rfl rfl (TKOk_func (by kernel_rfl)) rfl
theorem t79 : TyOk1 Try.prog 79 ⟨.slice 22, 1, 24, [.nils], [1]⟩ := TyOk1.of (by kernel_rfl) rfl rfl (TKOk_slice (by kernel_rfl)) rfl
theorem t80 : TyOk1 Try.prog 80 ⟨.slice 89, 1, 24, [.nils], [6]⟩ := TyOk1.of (by kernel_rfl) rfl rfl (TKOk_slice (by kernel_rfl)) rfl
theorem t81 : TyOk1 Try.prog 81 ⟨.struct [(75, 0), (62, 1), (79, 2), (80, 3)] false, 4, 96, [.nils, .nils, .nils, .nils], [4, 1, 1, 6]⟩ := TyOk1.of (by kernel_rfl) rfl rfl (TKOk_struct (by kernel_rfl) (by kernel_rfl)) rfl
theorem t82 : TyOk1 Try.prog 82 ⟨.struct [(75, 0), (62, 1), (79, 2), (80, 3)] false, 4, 96, [.nils, .nils, .nils, .nils], [4, 1, 1, 6]⟩ := TyOk1.of (by kernel_rfl) rfl rfl (TKOk_struct (by kernel_rfl) (by kernel_rfl)) rfl
theorem t84 : TyOk1 Try.prog 84 ⟨.func, 1, 8, [.nilfn], [0]⟩ := TyOk1.of (by kernel_rfl) rfl rfl (TKOk_func (by kernel_rfl)) rfl
theorem t85 : TyOk1 Try.prog 85 ⟨.func, 1, 8, [.nilfn], [0]⟩ := TyOk1.of (by kernel_rfl) rfl rfl (TKOk_func (by kernel_rfl)) rfl
theorem t86 : TyOk1 Try.prog 86 ⟨.func, 1, 8, [.nilfn], [0]⟩ := TyOk1.of (by kernel_rfl) rfl rfl (TKOk_func (by kernel_rfl)) rfl
theorem t87 : TyOk1 Try.prog 87 ⟨.func, 1, 8, [.nilfn], [0]⟩ := TyOk1.of (by kernel_rfl) rfl rfl (TKOk_func (by kernel_rfl)) rfl
theorem t88 : TyOk1 Try.prog 88 ⟨.struct [(3, 0), (22, 1), (75, 2), (4, 3), (62, 4), (22, 5)] false, 6, 112, [.int .i64 0, .nils, .nils, .bool false, .nils, .nils], [0, 1, 4, 0, 1, 1]⟩ := TyOk1.of (by kernel_rfl) rfl rfl (TKOk_struct (by kernel_rfl) (by kernel_rfl)) rfl
theorem t89 : TyOk1 Try.prog 89 ⟨.struct [(3, 0), (22, 1), (75, 2), (4, 3), (62, 4), (22, 5)] false, 6, 112, [.int .i64 0, .nils, .nils, .bool false, .nils, .nils], [0, 1, 4, 0, 1, 1]⟩ := TyOk1.of (by kernel_rfl) rfl rfl (TKOk_struct (by kernel_rfl) (by kernel_rfl)) rfl
theorem t90 : TyOk1 Try.prog 90 ⟨.func, 1, 8, [.nilfn], [0]⟩ := TyOk1.of (by kernel_rfl) rfl rfl (TKOk_func (by kernel_rfl)) rfl
theorem t91 : TyOk1 Try.prog 91 ⟨.func, 1, 8, [.nilfn], [0]⟩ := TyOk1.of (by kernel_rfl) rfl rfl (TKOk_func (by kernel_rfl)) rfl
theorem t92 : TyOk1 Try.prog 92 ⟨.func, 1, 8, [.nilfn], [0]⟩ := TyOk1.of (by kernel_rfl) rfl rfl (TKOk_func (by kernel_rfl)) rfl
theorem t93 : TyOk1 Try.prog 93 ⟨.func, 1, 8, [.nilfn], [0]⟩ := TyOk1.of (by kernel_rfl) rfl rfl (TKOk_func (by kernel_rfl)) rfl
theorem t94 : TyOk1 Try.prog 94 ⟨.ptr 97, 1, 8, [.nilp], [0]⟩ := TyOk1.of (by kernel_rfl) rfl rfl (TKOk_ptr (by kernel_rfl)) rfl
theorem t95 : TyOk1 Try.prog 95 ⟨.func, 1, 8, [.nilfn], [0]⟩ := TyOk1.of (by kernel_rfl) rfl rfl (TKOk_func (by kernel_rfl)) rfl
theorem t96 : TyOk1 Try.prog 96 ⟨.struct [(44, 0), (3, 8)] false, 9, 136, [.int .i64 0, .int .i64 0, .int .i64 0, .int .i64 0, .nils, .nils, .nils, .nils, .int .i64 0], [0, 0, 0, 0, 1, 2, 3, 3, 0]⟩ := TyOk1.of (by kernel_rfl) rfl rfl (TKOk_struct (by kernel_rfl) (by kernel_rfl)) rfl
theorem t97 : TyOk1 Try.prog 97 ⟨.struct [(44, 0), (3, 8)] false, 9, 136, [.int .i64 0, .int .i64 0, .int .i64 0, .int .i64 0, .nils, .nils, .nils, .nils, .int .i64 0], [0, 0, 0, 0, 1, 2, 3, 3, 0]⟩ := TyOk1.of (by kernel_rfl) rfl rfl (TKOk_struct (by kernel_rfl) (by kernel_rfl)) rfl
theorem t98 : TyOk1 Try.prog 98 ⟨.func, 1, 8, [.nilfn], [0]⟩ := TyOk1.of (by kernel_rfl) rfl rfl (TKOk_func (by kernel_rfl)) rfl
theorem t100 : TyOk1 Try.prog 100 ⟨.func, 1, 8, [.nilfn], [0]⟩ := TyOk1.of (by kernel_rfl) rfl rfl (TKOk_func (by kernel_rfl)) rfl
theorem t101 : TyOk1 Try.prog 101 ⟨.func, 1, 8, [.nilfn], [0]⟩ := TyOk1.of (by kernel_rfl) rfl rfl (TKOk_func (by kernel_rfl)) rfl
theorem t102 : TyOk1 Try.prog 102 ⟨.struct [(3, 0), (3, 1), (3, 2)] true, 3, 24, [.int .i64 0, .int .i64 0, .int .i64 0], [0, 0, 0]⟩ := TyOk1.of (by kernel_rfl) rfl rfl (TKOk_struct (by kernel_rfl) (by kernel_rfl)) rfl
theorem t103 : TyOk1 Try.prog 103 ⟨.struct [(3, 0), (3, 1), (3, 2)] true, 3, 24, [.int .i64 0, .int .i64 0, .int .i64 0], [0, 0, 0]⟩ := TyOk1.of (by kernel_rfl) rfl rfl (TKOk_struct (by kernel_rfl) (by kernel_rfl)) rfl
theorem t104 : TyOk1 Try.prog 104 ⟨.struct [(3, 0), (60, 1)] true, 3, 24, [.int .i64 0, .int .i64 0, .int .i64 0], [0, 0, 0]⟩ := TyOk1.of (by kernel_rfl) rfl rfl (TKOk_struct (by kernel_rfl) (by kernel_rfl)) rfl
theorem t105 : TyOk1 Try.prog 105 ⟨.struct [(3, 0), (60, 1)] true, 3, 24, [.int .i64 0, .int .i64 0, .int .i64 0], [0, 0, 0]⟩ := TyOk1.of (by kernel_rfl) rfl rfl (TKOk_struct (by kernel_rfl) (by kernel_rfl)) rfl
theorem t106 : TyOk1 Try.prog 106 ⟨.func, 1, 8, [.nilfn], [0]⟩ := TyOk1.of (by kernel_rfl) rfl rfl (TKOk_func (by kernel_rfl)) rfl
theorem t107 : TyOk1 Try.prog 107 ⟨.func, 1, 8, [.nilfn], [0]⟩ := TyOk1.of (by kernel_rfl) rfl rfl (TKOk_func (by kernel_rfl)) rfl
theorem t108 : TyOk1 Try.prog 108 ⟨.func, 1, 8, [.nilfn], [0]⟩ := TyOk1.of (by kernel_rfl) rfl rfl (TKOk_func (by kernel_rfl)) rfl
theorem t109 : TyOk1 Try.prog 109 ⟨.func, 1, 8, [.nilfn], [0]⟩ := TyOk1.of (by kernel_rfl) rfl rfl (TKOk_func (by kernel_rfl)) rfl
theorem t110 : TyOk1 Try.prog 110 ⟨.struct [(82, 0), (62, 4)] false, 5, 120, [.nils, .nils, .nils, .nils, .nils], [4, 1, 1, 6, 1]⟩ := TyOk1.of (by kernel_rfl) rfl rfl (TKOk_struct (by kernel_rfl) (by kernel_rfl)) rfl
theorem t111 : TyOk1 Try.prog 111 ⟨.struct [(82, 0), (62, 4)] false, 5, 120, [.nils, .nils, .nils, .nils, .nils], [4, 1, 1, 6, 1]⟩ := TyOk1.of (by kernel_rfl) rfl rfl (TKOk_struct (by kernel_rfl) (by kernel_rfl)) rfl
theorem t112 : TyOk1 Try.prog 112 ⟨.func, 1, 8, [.nilfn], [0]⟩ := TyOk1.of (by kernel_rfl) rfl rfl (TKOk_func (by kernel_rfl)) rfl
theorem t114 : TyOk1 Try.prog 114 ⟨.func, 1, 8, [.nilfn], [0]⟩ := TyOk1.of (by kernel_rfl) rfl rfl (TKOk_func (by kernel_rfl)) rfl
theorem t115 : TyOk1 Try.prog 115 ⟨.func, 1, 8, [.nilfn], [0]⟩ := TyOk1.of (by kernel_rfl) rfl rfl (TKOk_func (by kernel_rfl)) rfl
theorem t116 : TyOk1 Try.prog 116 ⟨.func, 1, 8, [.nilfn], [0]⟩ := TyOk1.of (by kernel_rfl) rfl rfl (TKOk_func (by kernel_rfl)) rfl
theorem t117 : TyOk1 Try.prog 117 ⟨.func, 1, 8, [.nilfn], [0]⟩ := TyOk1.of (by kernel_rfl) rfl rfl (TKOk_func (by kernel_rfl)) rfl
theorem t118 : TyOk1 Try.prog 118 ⟨.ptr 111, 1, 8, [.nilp], [0]⟩ := TyOk1.of (by kernel_rfl) rfl rfl (TKOk_ptr (by kernel_rfl)) rfl
theorem t119 : TyOk1 Try.prog 119 ⟨.ptr 64, 1, 8, [.nilp], [0]⟩ := TyOk1.of (by kernel_rfl) rfl rfl (TKOk_ptr (by kernel_rfl)) rfl
theorem t120 : TyOk1 Try.prog 120 ⟨.ptr 89, 1, 8, [.nilp], [0]⟩ := TyOk1.of (by kernel_rfl) rfl rfl (TKOk_ptr (by kernel_rfl)) rfl
theorem t121 : TyOk1 Try.prog 121 ⟨.func, 1, 8, [.nilfn], [0]⟩ := TyOk1.of (by kernel_rfl) rfl rfl (TKOk_func (by kernel_rfl)) rfl
theorem t122 : TyOk1 Try.prog 122 ⟨.func, 1, 8, [.nilfn], [0]⟩ := TyOk1.of (by kernel_rfl) rfl rfl (TKOk_func (by kernel_rfl)) rfl
theorem t123 : TyOk1 Try.prog 123 ⟨.func, 1, 8, [.nilfn], [0]⟩ := TyOk1.of (by kernel_rfl) rfl rfl (TKOk_func (by kernel_rfl)) rfl
theorem t124 : TyOk1 Try.prog 124 ⟨.func, 1, 8, [.nilfn], [0]⟩ := TyOk1.of (by kernel_rfl) rfl rfl (TKOk_func (by kernel_rfl)) rfl
theorem t125 : TyOk1 Try.prog 125 ⟨.func, 1, 8, [.nilfn], [0]⟩ := TyOk1.of (by kernel_rfl) rfl rfl (TKOk_func (by kernel_rfl)) rfl
theorem t126 : TyOk1 Try.prog 126 ⟨.ptr 3, 1, 8, [.nilp], [0]⟩ := TyOk1.of (by kernel_rfl) rfl rfl (TKOk_ptr (by kernel_rfl)) rfl
theorem t127 : TyOk1 Try.prog 127 ⟨.func, 1, 8, [.nilfn], [0]⟩ := TyOk1.of (by kernel_rfl) rfl rfl (TKOk_func (by kernel_rfl)) rfl
theorem t128 : TyOk1 Try.prog 128 ⟨.func, 1, 8, [.nilfn], [0]⟩ := TyOk1.of (by kernel_rfl) rfl rfl (TKOk_func (by kernel_rfl)) rfl
theorem t129 : TyOk1 Try.prog 129 ⟨.ptr 41, 1, 8, [.nilp], [0]⟩ := TyOk1.of (by kernel_rfl) rfl rfl (TKOk_ptr (by kernel_rfl)) rfl
theorem t130 : TyOk1 Try.prog 130 ⟨.func, 1, 8, [.nilfn], [0]⟩ := TyOk1.of (by kernel_rfl) rfl rfl (TKOk_func (by kernel_rfl)) rfl
theorem t131 : TyOk1 Try.prog 131 ⟨.ptr 42, 1, 8, [.nilp], [0]⟩ := TyOk1.of (by kernel_rfl) rfl rfl (TKOk_ptr (by kernel_rfl)) rfl
theorem t132 : TyOk1 Try.prog 132 ⟨.ptr 60, 1, 8, [.nilp], [0]⟩ := TyOk1.of (by kernel_rfl) rfl rfl (TKOk_ptr (by kernel_rfl)) rfl
theorem t133 : TyOk1 Try.prog 133 ⟨.func, 1, 8, [.nilfn], [0]⟩ := TyOk1.of (by kernel_rfl) rfl rfl (TKOk_func (by kernel_rfl)) rfl
theorem t134 : TyOk1 Try.prog 134 ⟨.func, 1, 8, [.nilfn], [0]⟩ := TyOk1.of (by kernel_rfl) rfl rfl (TKOk_func (by kernel_rfl)) rfl
theorem t135 : TyOk1 Try.prog 135 ⟨.func, 1, 8, [.nilfn], [0]⟩ := TyOk1.of (by kernel_rfl) rfl rfl (TKOk_func (by kernel_rfl)) rfl
theorem t136 : TyOk1 Try.prog 136 ⟨.func, 1, 8, [.nilfn], [0]⟩ := TyOk1.of (by kernel_rfl) rfl rfl (TKOk_func (by kernel_rfl)) rfl
theorem t137 : TyOk1 Try.prog 137 ⟨.func, 1, 8, [.nilfn], [0]⟩ := TyOk1.of (by kernel_rfl) rfl rfl (TKOk_func (by kernel_rfl)) rfl
theorem t143 : TyOk1 Try.prog 143 ⟨.func, 1, 8, [.nilfn], [0]⟩ := TyOk1.of (by kernel_rfl) rfl rfl (TKOk_func (by kernel_rfl)) rfl
theorem t144 : TyOk1 Try.prog 144 ⟨.int .u32, 1, 4, [.int .u32 0], [0]⟩ := TyOk1.of (by kernel_rfl) rfl rfl (TKOk_int (by kernel_rfl)) rfl
theorem t147 : TyOk1 Try.prog 147 ⟨.func, 1, 8, [.nilfn], [0]⟩ := TyOk1.of (by kernel_rfl) rfl rfl (TKOk_func (by kernel_rfl)) rfl
theorem t148 : TyOk1 Try.prog 148 ⟨.ptr 5, 1, 8, [.nilp], [0]⟩ := TyOk1.of (by kernel_rfl) rfl rfl (TKOk_ptr (by kernel_rfl)) rfl
def tab : List (Option TI) := [
  none,
  some ⟨.func, 1, 8, [.nilfn], [0]⟩,
  some ⟨.int .i64, 1, 8, [.int .i64 0], [0]⟩,
  some ⟨.int .i64, 1, 8, [.int .i64 0], [0]⟩,
  some ⟨.bool, 1, 1, [.bool false], [0]⟩,
  some ⟨.int .u8, 1, 1, [.int .u8 0], [0]⟩,
  none,
  none,
  none,
  some ⟨.str, 1, 16, [.str []], [0]⟩,
  none,
  none,
  some ⟨.int .u64, 1, 8, [.int .u64 0], [0]⟩,
  none,
  none,
  none,
  none,
  none,
  none,
  none,
  none,
  some ⟨.int .i32, 1, 4, [.int .i32 0], [0]⟩,
  some ⟨.slice 3, 1, 24, [.nils], [1]⟩,
  some ⟨.func, 1, 8, [.nilfn], [0]⟩,
  some ⟨.struct [(3, 0), (3, 1)] true, 2, 16, [.int .i64 0, .int .i64 0], [0, 0]⟩,
  some ⟨.struct [(3, 0), (3, 1)] true, 2, 16, [.int .i64 0, .int .i64 0], [0, 0]⟩,
  none,
  some ⟨.func, 1, 8, [.nilfn], [0]⟩,
  some ⟨.func, 1, 8, [.nilfn], [0]⟩,
  some ⟨.struct [(3, 0), (3, 1), (3, 2)] true, 3, 24, [.int .i64 0, .int .i64 0, .int .i64 0], [0, 0, 0]⟩,
  some ⟨.struct [(3, 0), (3, 1), (3, 2)] true, 3, 24, [.int .i64 0, .int .i64 0, .int .i64 0], [0, 0, 0]⟩,
  some ⟨.func, 1, 8, [.nilfn], [0]⟩,
  none,
  some ⟨.func, 1, 8, [.nilfn], [0]⟩,
  some ⟨.func, 1, 8, [.nilfn], [0]⟩,
  some ⟨.func, 1, 8, [.nilfn], [0]⟩,
  some ⟨.func, 1, 8, [.nilfn], [0]⟩,
  some ⟨.func, 1, 8, [.nilfn], [0]⟩,
  some ⟨.func, 1, 8, [.nilfn], [0]⟩,
  some ⟨.slice 50, 1, 24, [.nils], [3]⟩,
  some ⟨.slice 60, 1, 24, [.nils], [2]⟩,
  some ⟨.slice 103, 1, 24, [.nils], [3]⟩,
  some ⟨.slice 105, 1, 24, [.nils], [3]⟩,
  some ⟨.struct [(3, 0), (30, 1), (22, 4), (40, 5), (41, 6), (42, 7)] false, 8, 128, [.int .i64 0, .int .i64 0, .int .i64 0, .int .i64 0, .nils, .nils, .nils, .nils], [0, 0, 0, 0, 1, 2, 3, 3]⟩,
  some ⟨.struct [(3, 0), (30, 1), (22, 4), (40, 5), (41, 6), (42, 7)] false, 8, 128, [.int .i64 0, .int .i64 0, .int .i64 0, .int .i64 0, .nils, .nils, .nils, .nils], [0, 0, 0, 0, 1, 2, 3, 3]⟩,
  none,
  some ⟨.func, 1, 8, [.nilfn], [0]⟩,
  none,
  some ⟨.func, 1, 8, [.nilfn], [0]⟩,
  some ⟨.struct [(3, 0), (3, 1), (3, 2)] true, 3, 24, [.int .i64 0, .int .i64 0, .int .i64 0], [0, 0, 0]⟩,
  some ⟨.struct [(3, 0), (3, 1), (3, 2)] true, 3, 24, [.int .i64 0, .int .i64 0, .int .i64 0], [0, 0, 0]⟩,
  some ⟨.slice 44, 1, 24, [.nils], [8]⟩,
  none,
  some ⟨.func, 1, 8, [.nilfn], [0]⟩,
  some ⟨.func, 1, 8, [.nilfn], [0]⟩,
  some ⟨.func, 1, 8, [.nilfn], [0]⟩,
  some ⟨.func, 1, 8, [.nilfn], [0]⟩,
  some ⟨.map 3 3, 1, 8, [.nilmp], [0]⟩,
  some ⟨.func, 1, 8, [.nilfn], [0]⟩,
  some ⟨.struct [(3, 0), (3, 1)] true, 2, 16, [.int .i64 0, .int .i64 0], [0, 0]⟩,
  some ⟨.struct [(3, 0), (3, 1)] true, 2, 16, [.int .i64 0, .int .i64 0], [0, 0]⟩,
  none,
  some ⟨.slice 9, 1, 24, [.nils], [1]⟩,
  some ⟨.struct [(3, 0), (4, 1), (62, 2), (3, 3)] false, 4, 48, [.int .i64 0, .bool false, .nils, .int .i64 0], [0, 0, 1, 0]⟩,
  some ⟨.struct [(3, 0), (4, 1), (62, 2), (3, 3)] false, 4, 48, [.int .i64 0, .bool false, .nils, .int .i64 0], [0, 0, 1, 0]⟩,
  some ⟨.func, 1, 8, [.nilfn], [0]⟩,
  some ⟨.func, 1, 8, [.nilfn], [0]⟩,
  some ⟨.func, 1, 8, [.nilfn], [0]⟩,
  none,
  some ⟨.func, 1, 8, [.nilfn], [0]⟩,
  some ⟨.func, 1, 8, [.nilfn], [0]⟩,
  some ⟨.func, 1, 8, [.nilfn], [0]⟩,
  some ⟨.func, 1, 8, [.nilfn], [0]⟩,
  some ⟨.func, 1, 8, [.nilfn], [0]⟩,
  some ⟨.func, 1, 8, [.nilfn], [0]⟩,
  some ⟨.slice 64, 1, 24, [.nils], [4]⟩,
  none,
  some ⟨.func, 1, 8, [.nilfn], [0]⟩,
  some ⟨.func, 1, 8, [.nilfn], [0]⟩,
  some ⟨.slice 22, 1, 24, [.nils], [1]⟩,
  some ⟨.slice 89, 1, 24, [.nils], [6]⟩,
  some ⟨.struct [(75, 0), (62, 1), (79, 2), (80, 3)] false, 4, 96, [.nils, .nils, .nils, .nils], [4, 1, 1, 6]⟩,
  some ⟨.struct [(75, 0), (62, 1), (79, 2), (80, 3)] false, 4, 96, [.nils, .nils, .nils, .nils], [4, 1, 1, 6]⟩,
  none,
  some ⟨.func, 1, 8, [.nilfn], [0]⟩,
  some ⟨.func, 1, 8, [.nilfn], [0]⟩,
  some ⟨.func, 1, 8, [.nilfn], [0]⟩,
  some ⟨.func, 1, 8, [.nilfn], [0]⟩,
  some ⟨.struct [(3, 0), (22, 1), (75, 2), (4, 3), (62, 4), (22, 5)] false, 6, 112, [.int .i64 0, .nils, .nils, .bool false, .nils, .nils], [0, 1, 4, 0, 1, 1]⟩,
  some ⟨.struct [(3, 0), (22, 1), (75, 2), (4, 3), (62, 4), (22, 5)] false, 6, 112, [.int .i64 0, .nils, .nils, .bool false, .nils, .nils], [0, 1, 4, 0, 1, 1]⟩,
  some ⟨.func, 1, 8, [.nilfn], [0]⟩,
  some ⟨.func, 1, 8, [.nilfn], [0]⟩,
  some ⟨.func, 1, 8, [.nilfn], [0]⟩,
  some ⟨.func, 1, 8, [.nilfn], [0]⟩,
  some ⟨.ptr 97, 1, 8, [.nilp], [0]⟩,
  some ⟨.func, 1, 8, [.nilfn], [0]⟩,
  some ⟨.struct [(44, 0), (3, 8)] false, 9, 136, [.int .i64 0, .int .i64 0, .int .i64 0, .int .i64 0, .nils, .nils, .nils, .nils, .int .i64 0], [0, 0, 0, 0, 1, 2, 3, 3, 0]⟩,
  some ⟨.struct [(44, 0), (3, 8)] false, 9, 136, [.int .i64 0, .int .i64 0, .int .i64 0, .int .i64 0, .nils, .nils, .nils, .nils, .int .i64 0], [0, 0, 0, 0, 1, 2, 3, 3, 0]⟩,
  some ⟨.func, 1, 8, [.nilfn], [0]⟩,
  none,
  some ⟨.func, 1, 8, [.nilfn], [0]⟩,
  some ⟨.func, 1, 8, [.nilfn], [0]⟩,
  some ⟨.struct [(3, 0), (3, 1), (3, 2)] true, 3, 24, [.int .i64 0, .int .i64 0, .int .i64 0], [0, 0, 0]⟩,
  some ⟨.struct [(3, 0), (3, 1), (3, 2)] true, 3, 24, [.int .i64 0, .int .i64 0, .int .i64 0], [0, 0, 0]⟩,
  some ⟨.struct [(3, 0), (60, 1)] true, 3, 24, [.int .i64 0, .int .i64 0, .int .i64 0], [0, 0, 0]⟩,
  some ⟨.struct [(3, 0), (60, 1)] true, 3, 24, [.int .i64 0, .int .i64 0, .int .i64 0], [0, 0, 0]⟩,
  some ⟨.func, 1, 8, [.nilfn], [0]⟩,
  some ⟨.func, 1, 8, [.nilfn], [0]⟩,
  some ⟨.func, 1, 8, [.nilfn], [0]⟩,
  some ⟨.func, 1, 8, [.nilfn], [0]⟩,
  some ⟨.struct [(82, 0), (62, 4)] false, 5, 120, [.nils, .nils, .nils, .nils, .nils], [4, 1, 1, 6, 1]⟩,
  some ⟨.struct [(82, 0), (62, 4)] false, 5, 120, [.nils, .nils, .nils, .nils, .nils], [4, 1, 1, 6, 1]⟩,
  some ⟨.func, 1, 8, [.nilfn], [0]⟩,
  none,
  some ⟨.func, 1, 8, [.nilfn], [0]⟩,
  some ⟨.func, 1, 8, [.nilfn], [0]⟩,
  some ⟨.func, 1, 8, [.nilfn], [0]⟩,
  some ⟨.func, 1, 8, [.nilfn], [0]⟩,
  some ⟨.ptr 111, 1, 8, [.nilp], [0]⟩,
  some ⟨.ptr 64, 1, 8, [.nilp], [0]⟩,
  some ⟨.ptr 89, 1, 8, [.nilp], [0]⟩,
  some ⟨.func, 1, 8, [.nilfn], [0]⟩,
  some ⟨.func, 1, 8, [.nilfn], [0]⟩,
  some ⟨.func, 1, 8, [.nilfn], [0]⟩,
  some ⟨.func, 1, 8, [.nilfn], [0]⟩,
  some ⟨.func, 1, 8, [.nilfn], [0]⟩,
  some ⟨.ptr 3, 1, 8, [.nilp], [0]⟩,
  some ⟨.func, 1, 8, [.nilfn], [0]⟩,
  some ⟨.func, 1, 8, [.nilfn], [0]⟩,
  some ⟨.ptr 41, 1, 8, [.nilp], [0]⟩,
  some ⟨.func, 1, 8, [.nilfn], [0]⟩,
  some ⟨.ptr 42, 1, 8, [.nilp], [0]⟩,
  some ⟨.ptr 60, 1, 8, [.nilp], [0]⟩,
  some ⟨.func, 1, 8, [.nilfn], [0]⟩,
  some ⟨.func, 1, 8, [.nilfn], [0]⟩,
  some ⟨.func, 1, 8, [.nilfn], [0]⟩,
  some ⟨.func, 1, 8, [.nilfn], [0]⟩,
  some ⟨.func, 1, 8, [.nilfn], [0]⟩,
  none,
  none,
  none,
  none,
  none,
  some ⟨.func, 1, 8, [.nilfn], [0]⟩,
  some ⟨.int .u32, 1, 4, [.int .u32 0], [0]⟩,
  none,
  none,
  some ⟨.func, 1, 8, [.nilfn], [0]⟩,
  some ⟨.ptr 5, 1, 8, [.nilp], [0]⟩]
def τ : TyTab := tyTab tab
theorem all : TyAll Try.prog 0 tab := by
  unfold tab
  simp only [TyAll]
  exact ⟨t1, t2, t3, t4, t5, t9, t12, t21, t22, t23, t24, t25, t27, t28, t29, t30, t31, t33, t34, t35, t36, t37, t38, t39, t40, t41, t42, t43, t44, t46, t48, t49, t50, t51, t53, t54, t55, t56, t57, t58, t59, t60, t62, t63, t64, t65, t66, t67, t69, t70, t71, t72, t73, t74, t75, t77, t78, t79, t80, t81, t82, t84, t85, t86, t87, t88, t89, t90, t91, t92, t93, t94, t95, t96, t97, t98, t100, t101, t102, t103, t104, t105, t106, t107, t108, t109, t110, t111, t112, t114, t115, t116, t117, t118, t119, t120, t121, t122, t123, t124, t125, t126, t127, t128, t129, t130, t131, t132, t133, t134, t135, t136, t137, t143, t144, t147, t148, trivial⟩
theorem ok : TyOk Try.prog τ := all.ok
theorem mixed : Try.prog.follows .mixedOrders = true := by kernel_rfl
end Ty
end Go.Proofs.Ytgflfhdbihahcaa
