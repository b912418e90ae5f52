/- The types of this seat, for the abstract machine: each row holds of the program. Written by a program. -/
import Derived.Test.YtkbgkkbinnclmaaRows
import Derived.Test.YtkbgkkbinnclmaaEmD
namespace Go.Proofs.Ytkbgkkbinnclmaa
open Go.Dm
set_option maxRecDepth 100000
namespace Ty
theorem t1 : TyOk1 Try.prog 1 ⟨.func, 1, 8, [.nilfn], [0]⟩ := TyOk1.of (by kernel_rfl) rfl rfl (TKOk_func (by kernel_rfl)) rfl
theorem t2 : TyOk1 Try.prog 2 ⟨.int .i64, 1, 8, [.int .i64 0], [0]⟩ := TyOk1.of (by kernel_rfl) rfl rfl (TKOk_int (by kernel_rfl)) rfl
theorem t3 : TyOk1 Try.prog 3 ⟨.int .i64, 1, 8, [.int .i64 0], [0]⟩ := TyOk1.of (by kernel_rfl) rfl rfl (TKOk_int (by kernel_rfl)) rfl
theorem t4 : TyOk1 Try.prog 4 ⟨.bool, 1, 1, [.bool false], [0]⟩ := TyOk1.of (by kernel_rfl) rfl rfl (TKOk_bool (by kernel_rfl)) rfl
theorem t5 : TyOk1 Try.prog 5 ⟨.int .u8, 1, 1, [.int .u8 0], [0]⟩ := TyOk1.of (by kernel_rfl) rfl rfl (TKOk_int (by kernel_rfl)) rfl
theorem t9 : TyOk1 Try.prog 9 ⟨.str, 1, 16, [.str []], [0]⟩ := TyOk1.of (by kernel_rfl) rfl rfl (TKOk_str (by kernel_rfl)) rfl
theorem t12 : TyOk1 Try.prog 12 ⟨.int .u64, 1, 8, [.int .u64 0], [0]⟩ := TyOk1.of (by kernel_rfl) rfl rfl (TKOk_int (by kernel_rfl)) rfl
theorem t21 : TyOk1 Try.prog 21 ⟨.int .i32, 1, 4, [.int .i32 0], [0]⟩ := TyOk1.of (by kernel_rfl) rfl rfl (TKOk_int (by kernel_rfl)) rfl
theorem t22 : TyOk1 Try.prog 22 ⟨.slice 37, 1, 24, [.nils], [5]⟩ := TyOk1.of (by kernel_rfl) rfl rfl (TKOk_slice (by kernel_rfl)) rfl
theorem t23 : TyOk1 Try.prog 23 ⟨.struct [(9, 0), (9, 1), (3, 2), (3, 3)] true, 4, 48, [.str [], .str [], .int .i64 0, .int .i64 0], [0, 0, 0, 0]⟩ := TyOk1.of (by kernel_rfl) rfl rfl (TKOk_struct (by kernel_rfl) (by kernel_rfl)) rfl
theorem t24 : TyOk1 Try.prog 24 ⟨.struct [(9, 0), (9, 1), (3, 2), (3, 3)] true, 4, 48, [.str [], .str [], .int .i64 0, .int .i64 0], [0, 0, 0, 0]⟩ := TyOk1.of (by kernel_rfl) rfl rfl (TKOk_struct (by kernel_rfl) (by kernel_rfl)) rfl
theorem t25 : TyOk1 Try.prog 25 ⟨.func, 1, 8, [.nilfn], [0]⟩ := TyOk1.of (by kernel_rfl) rfl rfl (TKOk_func (by kernel_rfl)) rfl
theorem t26 : TyOk1 Try.prog 26 ⟨.func, 1, 8, [.nilfn], [0]⟩ := TyOk1.of (by kernel_rfl) rfl rfl (TKOk_func (by kernel_rfl)) rfl
theorem t27 : TyOk1 Try.prog 27 ⟨.struct [(3, 0), (3, 1)] true, 2, 16, [.int .i64 0, .int .i64 0], [0, 0]⟩ := TyOk1.of (by kernel_rfl) rfl rfl (TKOk_struct (by kernel_rfl) (by kernel_rfl)) rfl
theorem t28 : TyOk1 Try.prog 28 ⟨.struct [(3, 0), (3, 1)] true, 2, 16, [.int .i64 0, .int .i64 0], [0, 0]⟩ := TyOk1.of (by kernel_rfl) rfl rfl (TKOk_struct (by kernel_rfl) (by kernel_rfl)) rfl
theorem t30 : TyOk1 Try.prog 30 ⟨.func, 1, 8, [.nilfn], [0]⟩ := TyOk1.of (by kernel_rfl) rfl rfl (TKOk_func (by kernel_rfl)) rfl
theorem t31 : TyOk1 Try.prog 31 ⟨.func, 1, 8, [.nilfn], [0]⟩ := TyOk1.of (by kernel_rfl) rfl rfl (TKOk_func (by kernel_rfl)) rfl
theorem t33 : TyOk1 Try.prog 33 ⟨.func, 1, 8, [.nilfn], [0]⟩ := TyOk1.of (by kernel_rfl) rfl rfl (TKOk_func (by kernel_rfl)) rfl
theorem t34 : TyOk1 Try.prog 34 ⟨.func, 1, 8, [.nilfn], [0]⟩ := TyOk1.of (by kernel_rfl) rfl rfl (TKOk_func (by kernel_rfl)) rfl
theorem t35 : TyOk1 Try.prog 35 ⟨.func, 1, 8, [.nilfn], [0]⟩ := TyOk1.of (by kernel_rfl) rfl rfl (TKOk_func (by kernel_rfl)) rfl
theorem t36 : TyOk1 Try.prog 36 ⟨.struct [(9, 0), (9, 1), (3, 2), (4, 3), (9, 4)] true, 5, 64, [.str [], .str [], .int .i64 0, .bool false, .str []], [0, 0, 0, 0, 0]⟩ := TyOk1.of (by kernel_rfl) rfl rfl (TKOk_struct (by kernel_rfl) (by kernel_rfl)) rfl
theorem t37 : TyOk1 Try.prog 37 ⟨.struct [(9, 0), (9, 1), (3, 2), (4, 3), (9, 4)] true, 5, 64, [.str [], .str [], .int .i64 0, .bool false, .str []], [0, 0, 0, 0, 0]⟩ := TyOk1.of (by kernel_rfl) rfl rfl (TKOk_struct (by kernel_rfl) (by kernel_rfl)) rfl
theorem t39 : TyOk1 Try.prog 39 ⟨.func, 1, 8, [.nilfn], [0]⟩ := TyOk1.of (by kernel_rfl) rfl rfl (TKOk_func (by kernel_rfl)) rfl
theorem t40 : TyOk1 Try.prog 40 ⟨.func, 1, 8, [.nilfn], [0]⟩ := TyOk1.of (by kernel_rfl) rfl rfl (TKOk_func (by kernel_rfl)) rfl
theorem t41 : TyOk1 Try.prog 41 ⟨.func, 1, 8, [.nilfn], [0]⟩ := TyOk1.of (by kernel_rfl) rfl rfl (TKOk_func (by kernel_rfl)) rfl
theorem t42 : TyOk1 Try.prog 42 ⟨.func, 1, 8, [.nilfn], [0]⟩ := TyOk1.of (by kernel_rfl) rfl rfl (TKOk_func (by kernel_rfl)) rfl
theorem t43 : TyOk1 Try.prog 43 ⟨.func, 1, 8, [.nilfn], [0]⟩ := TyOk1.of (by kernel_rfl) rfl rfl (TKOk_func (by kernel_rfl)) rfl
theorem t44 : TyOk1 Try.prog 44 ⟨.func, 1, 8, [.nilfn], [0]⟩ := TyOk1.of (by kernel_rfl) rfl rfl (TKOk_func (by kernel_rfl)) rfl
theorem t45 : TyOk1 Try.prog 45 ⟨.func, 1, 8, [.nilfn], [0]⟩ := TyOk1.of (by kernel_rfl) rfl rfl (TKOk_func (by kernel_rfl)) rfl
theorem t46 : TyOk1 Try.prog 46 ⟨.slice 22, 1, 24, [.nils], [1]⟩ := TyOk1.of (by kernel_rfl) rfl rfl (TKOk_slice (by kernel_rfl)) rfl
theorem t47 : TyOk1 Try.prog 47 ⟨.func, 1, 8, [.nilfn], [0]⟩ := TyOk1.of (by kernel_rfl) rfl rfl (TKOk_func (by kernel_rfl)) rfl
theorem t48 : TyOk1 Try.prog 48 ⟨.func, 1, 8, [.nilfn], [0]⟩ := TyOk1.of (by kernel_rfl) rfl rfl (TKOk_func (by kernel_rfl)) rfl
theorem t49 : TyOk1 Try.prog 49 ⟨.func, 1, 8, [.nilfn], [0]⟩ := TyOk1.of (by kernel_rfl) rfl rfl (TKOk_func (by kernel_rfl)) rfl
theorem t50 : TyOk1 Try.prog 50 ⟨.func, 1, 8, [.nilfn], [0]⟩ := TyOk1.of (by kernel_rfl) rfl rfl (TKOk_func (by kernel_rfl)) rfl
theorem t51 : TyOk1 Try.prog 51 ⟨.func, 1, 8, [.nilfn], [0]⟩ := TyOk1.of (by kernel_rfl) rfl rfl (TKOk_func (by kernel_rfl)) rfl
theorem t52 : TyOk1 Try.prog 52 ⟨.func, 1, 8, [.nilfn], [0]⟩ := TyOk1.of (by kernel_rfl) rfl rfl (TKOk_func (by kernel_rfl)) rfl
theorem t53 : TyOk1 Try.prog 53 ⟨.func, 1, 8, [.nilfn], [0]⟩ := TyOk1.of (by kernel_rfl) rfl rfl (TKOk_func (by kernel_rfl)) rfl
theorem t54 : TyOk1 Try.prog 54 ⟨.func, 1, 8, [.nilfn], [0]⟩ := TyOk1.of (by kernel_rfl) rfl rfl (TKOk_func (by kernel_rfl)) rfl
theorem t55 : TyOk1 Try.prog 55 ⟨.func, 1, 8, [.nilfn], [0]⟩ := TyOk1.of (by kernel_rfl) rfl rfl (TKOk_func (by kernel_rfl)) rfl
theorem t56 : TyOk1 Try.prog 56 ⟨.slice 5, 1, 24, [.nils], [1]⟩ := TyOk1.of (by kernel_rfl) rfl rfl (TKOk_slice (by kernel_rfl)) rfl
theorem t58 : TyOk1 Try.prog 58 ⟨.func, 1, 8, [.nilfn], [0]⟩ := TyOk1.of (by kernel_rfl) rfl rfl (TKOk_func (by kernel_rfl)) rfl
theorem t59 : TyOk1 Try.prog 59 ⟨.func, 1, 8, [.nilfn], [0]⟩ := TyOk1.of (by kernel_rfl) rfl rfl (TKOk_func (by kernel_rfl)) rfl
theorem t60 : TyOk1 Try.prog 60 ⟨.func, 1, 8, [.nilfn], [0]⟩ := TyOk1.of (by kernel_rfl) rfl rfl (TKOk_func (by kernel_rfl)) rfl
theorem t61 : TyOk1 Try.prog 61 ⟨.func, 1, 8, [.nilfn], [0]⟩ := TyOk1.of (by kernel_rfl) rfl rfl (TKOk_func (by kernel_rfl)) rfl
theorem t62 : TyOk1 Try.prog 62 ⟨.func, 1, 8, [.nilfn], [0]⟩ := TyOk1.of (by kernel_rfl) rfl rfl (TKOk_func (by kernel_rfl)) rfl
theorem t63 : TyOk1 Try.prog 63 ⟨.func, 1, 8, [.nilfn], [0]⟩ := TyOk1.of (by kernel_rfl) rfl rfl (TKOk_func (by kernel_rfl)) rfl
theorem t64 : TyOk1 Try.prog 64 ⟨.func, 1, 8, [.nilfn], [0]⟩ := TyOk1.of (by kernel_rfl) rfl rfl (TKOk_func (by kernel_rfl)) rfl
theorem t65 : TyOk1 Try.prog 65 ⟨.func, 1, 8, [.nilfn], [0]⟩ := TyOk1.of (by kernel_rfl) rfl rfl (TKOk_func (by kernel_rfl)) rfl
theorem t66 : TyOk1 Try.prog 66 ⟨.func, 1, 8, [.nilfn], [0]⟩ := TyOk1.of (by kernel_rfl) rfl rfl (TKOk_func (by kernel_rfl)) rfl
theorem t67 : TyOk1 Try.prog 67 ⟨.func, 1, 8, [.nilfn], [0]⟩ := TyOk1.of (by kernel_rfl) rfl rfl (TKOk_func (by kernel_rfl)) rfl
theorem t68 : TyOk1 Try.prog 68 ⟨.func, 1, 8, [.nilfn], [0]⟩ := TyOk1.of (by kernel_rfl) rfl rfl (TKOk_func (by kernel_rfl)) rfl
theorem t69 : TyOk1 Try.prog 69 ⟨.func, 1, 8, [.nilfn], [0]⟩ := TyOk1.of (by kernel_rfl) rfl rfl (TKOk_func (by kernel_rfl)) rfl
theorem t70 : TyOk1 Try.prog 70 ⟨.func, 1, 8, [.nilfn], [0]⟩ := TyOk1.of (by kernel_rfl) rfl rfl (TKOk_func (by kernel_rfl)) rfl
theorem t71 : TyOk1 Try.prog 71 ⟨.func, 1, 8, [.nilfn], [0]⟩ := TyOk1.of (by kernel_rfl) rfl rfl (TKOk_func (by kernel_rfl)) rfl
theorem t72 : TyOk1 Try.prog 72 ⟨.func, 1, 8, [.nilfn], [0]⟩ := TyOk1.of (by kernel_rfl) rfl rfl (TKOk_func (by kernel_rfl)) rfl
theorem t73 : TyOk1 Try.prog 73 ⟨.func, 1, 8, [.nilfn], [0]⟩ := TyOk1.of (by kernel_rfl) rfl rfl (TKOk_func (by kernel_rfl)) rfl
theorem t74 : TyOk1 Try.prog 74 ⟨.func, 1, 8, [.nilfn], [0]⟩ := TyOk1.of (by kernel_rfl) rfl rfl (TKOk_func (by kernel_rfl)) rfl
theorem t75 : TyOk1 Try.prog 75 ⟨.ptr 96, 1, 8, [.nilp], [0]⟩ := TyOk1.of (by kernel_rfl) rfl rfl (TKOk_ptr (by kernel_rfl)) rfl
theorem t76 : TyOk1 Try.prog 76 ⟨.func, 1, 8, [.nilfn], [0]⟩ := TyOk1.of (by kernel_rfl) rfl rfl (TKOk_func (by kernel_rfl)) rfl
theorem t77 : TyOk1 Try.prog 77 ⟨.func, 1, 8, [.nilfn], [0]⟩ := TyOk1.of (by kernel_rfl) rfl rfl (TKOk_func (by kernel_rfl)) rfl
theorem t79 : TyOk1 Try.prog 79 ⟨.func, 1, 8, [.nilfn], [0]⟩ := TyOk1.of (by kernel_rfl) rfl rfl (TKOk_func (by kernel_rfl)) rfl
theorem t80 : TyOk1 Try.prog 80 ⟨.func, 1, 8, [.nilfn], [0]⟩ := TyOk1.of (by kernel_rfl) rfl rfl (TKOk_func (by kernel_rfl)) rfl
theorem t81 : TyOk1 Try.prog 81 ⟨.func, 1, 8, [.nilfn], [0]⟩ := TyOk1.of (by kernel_rfl) rfl rfl (TKOk_func (by kernel_rfl)) rfl
theorem t82 : TyOk1 Try.prog 82 ⟨.func, 1, 8, [.nilfn], [0]⟩ := TyOk1.of (by kernel_rfl) rfl rfl (TKOk_func (by kernel_rfl)) rfl
theorem t83 : TyOk1 Try.prog 83 ⟨.func, 1, 8, [.nilfn], [0]⟩ := TyOk1.of (by kernel_rfl) rfl rfl (TKOk_func (by kernel_rfl)) rfl
theorem t84 : TyOk1 Try.prog 84 ⟨.func, 1, 8, [.nilfn], [0]⟩ := TyOk1.of (by kernel_rfl) rfl rfl (TKOk_func (by kernel_rfl)) rfl
theorem t85 : TyOk1 Try.prog 85 ⟨.func, 1, 8, [.nilfn], [0]⟩ := TyOk1.of (by kernel_rfl) rfl rfl (TKOk_func (by kernel_rfl)) rfl
theorem t87 : TyOk1 Try.prog 87 ⟨.func, 1, 8, [.nilfn], [0]⟩ := TyOk1.of (by kernel_rfl) rfl rfl (TKOk_func (by kernel_rfl)) rfl
theorem t88 : TyOk1 Try.prog 88 ⟨.func, 1, 8, [.nilfn], [0]⟩ := TyOk1.of (by kernel_rfl) rfl rfl (TKOk_func (by kernel_rfl)) rfl
theorem t89 : TyOk1 Try.prog 89 ⟨.func, 1, 8, [.nilfn], [0]⟩ := TyOk1.of (by kernel_rfl) rfl rfl (TKOk_func (by kernel_rfl)) rfl
theorem t90 : TyOk1 Try.prog 90 ⟨.func, 1, 8, [.nilfn], [0]⟩ := TyOk1.of (by kernel_rfl) rfl rfl (TKOk_func (by kernel_rfl)) rfl
theorem t91 : TyOk1 Try.prog 91 ⟨.func, 1, 8, [.nilfn], [0]⟩ := TyOk1.of (by kernel_rfl) rfl rfl (TKOk_func (by kernel_rfl)) rfl
theorem t92 : TyOk1 Try.prog 92 ⟨.func, 1, 8, [.nilfn], [0]⟩ := TyOk1.of (by kernel_rfl) rfl rfl (TKOk_func (by kernel_rfl)) rfl
theorem t93 : TyOk1 Try.prog 93 ⟨.func, 1, 8, [.nilfn], [0]⟩ := TyOk1.of (by kernel_rfl) rfl rfl (TKOk_func (by kernel_rfl)) rfl
theorem t94 : TyOk1 Try.prog 94 ⟨.func, 1, 8, [.nilfn], [0]⟩ := TyOk1.of (by kernel_rfl) rfl rfl (TKOk_func (by kernel_rfl)) rfl
theorem t95 : TyOk1 Try.prog 95 ⟨.struct [(56, 0), (4, 1)] false, 2, 32, [.nils, .bool false], [1, 0]⟩ := TyOk1.of (by kernel_rfl) rfl rfl (TKOk_struct (by kernel_rfl) (by kernel_rfl)) rfl
theorem t96 : TyOk1 Try.prog 96 ⟨.struct [(56, 0), (4, 1)] false, 2, 32, [.nils, .bool false], [1, 0]⟩ := TyOk1.of (by kernel_rfl) rfl rfl (TKOk_struct (by kernel_rfl) (by kernel_rfl)) rfl
theorem t97 : TyOk1 Try.prog 97 ⟨.func, 1, 8, [.nilfn], [0]⟩ := TyOk1.of (by kernel_rfl) rfl rfl (TKOk_func (by kernel_rfl)) rfl
theorem t98 : TyOk1 Try.prog 98 ⟨.func, 1, 8, [.nilfn], [0]⟩ := TyOk1.of (by kernel_rfl) rfl rfl (TKOk_func (by kernel_rfl)) rfl
theorem t99 : TyOk1 Try.prog 99 ⟨.slice 9, 1, 24, [.nils], [1]⟩ := TyOk1.of (by kernel_rfl) rfl rfl (TKOk_slice (by kernel_rfl)) rfl
theorem t100 : TyOk1 Try.prog 100 ⟨.slice 3, 1, 24, [.nils], [1]⟩ := TyOk1.of (by kernel_rfl) rfl rfl (TKOk_slice (by kernel_rfl)) rfl
theorem t102 : TyOk1 Try.prog 102 ⟨.func, 1, 8, [.nilfn], [0]⟩ := TyOk1.of (by kernel_rfl) rfl rfl (TKOk_func (by kernel_rfl)) rfl
theorem t103 : TyOk1 Try.prog 103 ⟨.func, 1, 8, [.nilfn], [0]⟩ := TyOk1.of (by kernel_rfl) rfl rfl (TKOk_func (by kernel_rfl)) rfl
theorem t104 : TyOk1 Try.prog 104 ⟨.func, 1, 8, [.nilfn], [0]⟩ := TyOk1.of (by kernel_rfl) rfl rfl (TKOk_func (by kernel_rfl)) rfl
theorem t105 : TyOk1 Try.prog 105 ⟨.int .u64, 1, 8, [.int .u64 0], [0]⟩ := TyOk1.of (by kernel_rfl) rfl rfl (TKOk_int (by kernel_rfl)) rfl
theorem t106 : TyOk1 Try.prog 106 ⟨.slice 108, 1, 24, [.nils], [1]⟩ := TyOk1.of (by kernel_rfl) rfl rfl (TKOk_slice (by kernel_rfl)) rfl
theorem t107 : TyOk1 Try.prog 107 ⟨.slice 108, 1, 24, [.nils], [1]⟩ := TyOk1.of (by kernel_rfl) rfl rfl (TKOk_slice (by kernel_rfl)) rfl
theorem t108 : TyOk1 Try.prog 108 ⟨.ptr 110, 1, 8, [.nilp], [0]⟩ := TyOk1.of (by kernel_rfl) rfl rfl (TKOk_ptr (by kernel_rfl)) rfl
theorem t109 : TyOk1 Try.prog 109 ⟨.struct [(22, 0), (3, 1)] false, 2, 32, [.nils, .int .i64 0], [5, 0]⟩ := TyOk1.of (by kernel_rfl) rfl rfl (TKOk_struct (by kernel_rfl) (by kernel_rfl)) rfl
theorem t110 : TyOk1 Try.prog 110 ⟨.struct [(22, 0), (3, 1)] false, 2, 32, [.nils, .int .i64 0], [5, 0]⟩ := TyOk1.of (by kernel_rfl) rfl rfl (TKOk_struct (by kernel_rfl) (by kernel_rfl)) rfl
theorem t111 : TyOk1 Try.prog 111 ⟨.func, 1, 8, [.nilfn], [0]⟩ := TyOk1.of (by kernel_rfl) rfl rfl (TKOk_func (by kernel_rfl)) rfl
theorem t112 : TyOk1 Try.prog 112 ⟨.func, 1, 8, [.nilfn], [0]⟩ := TyOk1.of (by kernel_rfl) rfl rfl (TKOk_func (by kernel_rfl)) rfl
theorem t113 : TyOk1 Try.prog 113 ⟨.func, 1, 8, [.nilfn], [0]⟩ := TyOk1.of (by kernel_rfl) rfl rfl (TKOk_func (by kernel_rfl)) rfl
theorem t114 : TyOk1 Try.prog 114 ⟨.func, 1, 8, [.nilfn], [0]⟩ := TyOk1.of (by kernel_rfl) rfl rfl (TKOk_func (by kernel_rfl)) rfl
theorem t115 : TyOk1 Try.prog 115 ⟨.arr 3 2, 2, 16, [.int .i64 0, .int .i64 0], [0, 0]⟩ := TyOk1.of (by kernel_rfl) rfl rfl (TKOk_arr (by kernel_rfl)) rfl
theorem t116 : TyOk1 Try.prog 116 ⟨.func, 1, 8, [.nilfn], [0]⟩ := TyOk1.of (by kernel_rfl) rfl rfl (TKOk_func (by kernel_rfl)) rfl
theorem t117 : TyOk1 Try.prog 117 ⟨.func, 1, 8, [.nilfn], [0]⟩ := TyOk1.of (by kernel_rfl) rfl rfl (TKOk_func (by kernel_rfl)) rfl
theorem t118 : TyOk1 Try.prog 118 ⟨.func, 1, 8, [.nilfn], [0]⟩ := TyOk1.of (by kernel_rfl) rfl rfl (TKOk_func (by kernel_rfl)) rfl
theorem t124 : TyOk1 Try.prog 124 ⟨.int .u32, 1, 4, [.int .u32 0], [0]⟩ := TyOk1.of (by kernel_rfl) rfl rfl (TKOk_int (by kernel_rfl)) rfl
theorem t127 : TyOk1 Try.prog 127 ⟨.func, 1, 8, [.nilfn], [0]⟩ := TyOk1.of (by kernel_rfl) rfl rfl (TKOk_func (by kernel_rfl)) rfl
theorem t128 : TyOk1 Try.prog 128 ⟨.ptr 5, 1, 8, [.nilp], [0]⟩ := TyOk1.of (by kernel_rfl) rfl rfl (TKOk_ptr (by kernel_rfl)) rfl
def tab : List (Option TI) := [
  none,
  some ⟨.func, 1, 8, [.nilfn], [0]⟩,
  some ⟨.int .i64, 1, 8, [.int .i64 0], [0]⟩,
  some ⟨.int .i64, 1, 8, [.int .i64 0], [0]⟩,
  some ⟨.bool, 1, 1, [.bool false], [0]⟩,
  some ⟨.int .u8, 1, 1, [.int .u8 0], [0]⟩,
  none,
  none,
  none,
  some ⟨.str, 1, 16, [.str []], [0]⟩,
  none,
  none,
  some ⟨.int .u64, 1, 8, [.int .u64 0], [0]⟩,
  none,
  none,
  none,
  none,
  none,
  none,
  none,
  none,
  some ⟨.int .i32, 1, 4, [.int .i32 0], [0]⟩,
  some ⟨.slice 37, 1, 24, [.nils], [5]⟩,
  some ⟨.struct [(9, 0), (9, 1), (3, 2), (3, 3)] true, 4, 48, [.str [], .str [], .int .i64 0, .int .i64 0], [0, 0, 0, 0]⟩,
  some ⟨.struct [(9, 0), (9, 1), (3, 2), (3, 3)] true, 4, 48, [.str [], .str [], .int .i64 0, .int .i64 0], [0, 0, 0, 0]⟩,
  some ⟨.func, 1, 8, [.nilfn], [0]⟩,
  some ⟨.func, 1, 8, [.nilfn], [0]⟩,
  some ⟨.struct [(3, 0), (3, 1)] true, 2, 16, [.int .i64 0, .int .i64 0], [0, 0]⟩,
  some ⟨.struct [(3, 0), (3, 1)] true, 2, 16, [.int .i64 0, .int .i64 0], [0, 0]⟩,
  none,
  some ⟨.func, 1, 8, [.nilfn], [0]⟩,
  some ⟨.func, 1, 8, [.nilfn], [0]⟩,
  none,
  some ⟨.func, 1, 8, [.nilfn], [0]⟩,
  some ⟨.func, 1, 8, [.nilfn], [0]⟩,
  some ⟨.func, 1, 8, [.nilfn], [0]⟩,
  some ⟨.struct [(9, 0), (9, 1), (3, 2), (4, 3), (9, 4)] true, 5, 64, [.str [], .str [], .int .i64 0, .bool false, .str []], [0, 0, 0, 0, 0]⟩,
  some ⟨.struct [(9, 0), (9, 1), (3, 2), (4, 3), (9, 4)] true, 5, 64, [.str [], .str [], .int .i64 0, .bool false, .str []], [0, 0, 0, 0, 0]⟩,
  none,
  some ⟨.func, 1, 8, [.nilfn], [0]⟩,
  some ⟨.func, 1, 8, [.nilfn], [0]⟩,
  some ⟨.func, 1, 8, [.nilfn], [0]⟩,
  some ⟨.func, 1, 8, [.nilfn], [0]⟩,
  some ⟨.func, 1, 8, [.nilfn], [0]⟩,
  some ⟨.func, 1, 8, [.nilfn], [0]⟩,
  some ⟨.func, 1, 8, [.nilfn], [0]⟩,
  some ⟨.slice 22, 1, 24, [.nils], [1]⟩,
  some ⟨.func, 1, 8, [.nilfn], [0]⟩,
  some ⟨.func, 1, 8, [.nilfn], [0]⟩,
  some ⟨.func, 1, 8, [.nilfn], [0]⟩,
  some ⟨.func, 1, 8, [.nilfn], [0]⟩,
  some ⟨.func, 1, 8, [.nilfn], [0]⟩,
  some ⟨.func, 1, 8, [.nilfn], [0]⟩,
  some ⟨.func, 1, 8, [.nilfn], [0]⟩,
  some ⟨.func, 1, 8, [.nilfn], [0]⟩,
  some ⟨.func, 1, 8, [.nilfn], [0]⟩,
  some ⟨.slice 5, 1, 24, [.nils], [1]⟩,
  none,
  some ⟨.func, 1, 8, [.nilfn], [0]⟩,
  some ⟨.func, 1, 8, [.nilfn], [0]⟩,
  some ⟨.func, 1, 8, [.nilfn], [0]⟩,
  some ⟨.func, 1, 8, [.nilfn], [0]⟩,
  some ⟨.func, 1, 8, [.nilfn], [0]⟩,
  some ⟨.func, 1, 8, [.nilfn], [0]⟩,
  some ⟨.func, 1, 8, [.nilfn], [0]⟩,
  some ⟨.func, 1, 8, [.nilfn], [0]⟩,
  some ⟨.func, 1, 8, [.nilfn], [0]⟩,
  some ⟨.func, 1, 8, [.nilfn], [0]⟩,
  some ⟨.func, 1, 8, [.nilfn], [0]⟩,
  some ⟨.func, 1, 8, [.nilfn], [0]⟩,
  some ⟨.func, 1, 8, [.nilfn], [0]⟩,
  some ⟨.func, 1, 8, [.nilfn], [0]⟩,
  some ⟨.func, 1, 8, [.nilfn], [0]⟩,
  some ⟨.func, 1, 8, [.nilfn], [0]⟩,
  some ⟨.func, 1, 8, [.nilfn], [0]⟩,
  some ⟨.ptr 96, 1, 8, [.nilp], [0]⟩,
  some ⟨.func, 1, 8, [.nilfn], [0]⟩,
  some ⟨.func, 1, 8, [.nilfn], [0]⟩,
  none,
  some ⟨.func, 1, 8, [.nilfn], [0]⟩,
  some ⟨.func, 1, 8, [.nilfn], [0]⟩,
  some ⟨.func, 1, 8, [.nilfn], [0]⟩,
  some ⟨.func, 1, 8, [.nilfn], [0]⟩,
  some ⟨.func, 1, 8, [.nilfn], [0]⟩,
  some ⟨.func, 1, 8, [.nilfn], [0]⟩,
  some ⟨.func, 1, 8, [.nilfn], [0]⟩,
  none,
  some ⟨.func, 1, 8, [.nilfn], [0]⟩,
  some ⟨.func, 1, 8, [.nilfn], [0]⟩,
  some ⟨.func, 1, 8, [.nilfn], [0]⟩,
  some ⟨.func, 1, 8, [.nilfn], [0]⟩,
  some ⟨.func, 1, 8, [.nilfn], [0]⟩,
  some ⟨.func, 1, 8, [.nilfn], [0]⟩,
  some ⟨.func, 1, 8, [.nilfn], [0]⟩,
  some ⟨.func, 1, 8, [.nilfn], [0]⟩,
  some ⟨.struct [(56, 0), (4, 1)] false, 2, 32, [.nils, .bool false], [1, 0]⟩,
  some ⟨.struct [(56, 0), (4, 1)] false, 2, 32, [.nils, .bool false], [1, 0]⟩,
  some ⟨.func, 1, 8, [.nilfn], [0]⟩,
  some ⟨.func, 1, 8, [.nilfn], [0]⟩,
  some ⟨.slice 9, 1, 24, [.nils], [1]⟩,
  some ⟨.slice 3, 1, 24, [.nils], [1]⟩,
  none,
  some ⟨.func, 1, 8, [.nilfn], [0]⟩,
  some ⟨.func, 1, 8, [.nilfn], [0]⟩,
  some ⟨.func, 1, 8, [.nilfn], [0]⟩,
  some ⟨.int .u64, 1, 8, [.int .u64 0], [0]⟩,
  some ⟨.slice 108, 1, 24, [.nils], [1]⟩,
  some ⟨.slice 108, 1, 24, [.nils], [1]⟩,
  some ⟨.ptr 110, 1, 8, [.nilp], [0]⟩,
  some ⟨.struct [(22, 0), (3, 1)] false, 2, 32, [.nils, .int .i64 0], [5, 0]⟩,
  some ⟨.struct [(22, 0), (3, 1)] false, 2, 32, [.nils, .int .i64 0], [5, 0]⟩,
  some ⟨.func, 1, 8, [.nilfn], [0]⟩,
  some ⟨.func, 1, 8, [.nilfn], [0]⟩,
  some ⟨.func, 1, 8, [.nilfn], [0]⟩,
  some ⟨.func, 1, 8, [.nilfn], [0]⟩,
  some ⟨.arr 3 2, 2, 16, [.int .i64 0, .int .i64 0], [0, 0]⟩,
  some ⟨.func, 1, 8, [.nilfn], [0]⟩,
  some ⟨.func, 1, 8, [.nilfn], [0]⟩,
  some ⟨.func, 1, 8, [.nilfn], [0]⟩,
  none,
  none,
  none,
  none,
  none,
  some ⟨.int .u32, 1, 4, [.int .u32 0], [0]⟩,
  none,
  none,
  some ⟨.func, 1, 8, [.nilfn], [0]⟩,
  some ⟨.ptr 5, 1, 8, [.nilp], [0]⟩]
def τ : TyTab := tyTab tab
theorem all : TyAll Try.prog 0 tab := by
  unfold tab
  simp only [TyAll]
  exact ⟨t1, t2, t3, t4, t5, t9, t12, t21, t22, t23, t24, t25, t26, t27, t28, t30, t31, t33, t34, t35, t36, t37, t39, t40, t41, t42, t43, t44, t45, t46, t47, t48, t49, t50, t51, t52, t53, t54, t55, t56, t58, t59, t60, t61, t62, t63, t64, t65, t66, t67, t68, t69, t70, t71, t72, t73, t74, t75, t76, t77, t79, t80, t81, t82, t83, t84, t85, t87, t88, t89, t90, t91, t92, t93, t94, t95, t96, t97, t98, t99, t100, t102, t103, t104, t105, t106, t107, t108, t109, t110, t111, t112, t113, t114, t115, t116, t117, t118, t124, t127, t128, trivial⟩
theorem ok : TyOk Try.prog τ := all.ok
theorem mixed : Try.prog.follows .mixedOrders = true := by kernel_rfl
end Ty
end Go.Proofs.Ytkbgkkbinnclmaa
