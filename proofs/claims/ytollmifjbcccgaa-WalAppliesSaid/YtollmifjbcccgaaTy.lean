/- The types of this seat, for the abstract machine: each row holds of the program. Written by a program. -/
import Derived.Test.YtollmifjbcccgaaRows
import Derived.Test.YtollmifjbcccgaaEmD
namespace Go.Proofs.Ytollmifjbcccgaa
open Go.Dm
set_option maxRecDepth 100000
namespace Ty
theorem t1 : TyOk1 Try.prog 1 ⟨.func, 1, 8, [.nilfn], [0]⟩ := TyOk1.of (by kernel_rfl) rfl rfl (TKOk_func (by kernel_rfl)) rfl
theorem t2 : TyOk1 Try.prog 2 ⟨.int .i64, 1, 8, [.int .i64 0], [0]⟩ := TyOk1.of (by kernel_rfl) rfl rfl (TKOk_int (by kernel_rfl)) rfl
theorem t3 : TyOk1 Try.prog 3 ⟨.int .i64, 1, 8, [.int .i64 0], [0]⟩ := TyOk1.of (by kernel_rfl) rfl rfl (TKOk_int (by kernel_rfl)) rfl
theorem t4 : TyOk1 Try.prog 4 ⟨.bool, 1, 1, [.bool false], [0]⟩ := TyOk1.of (by kernel_rfl) rfl rfl (TKOk_bool (by kernel_rfl)) rfl
theorem t5 : TyOk1 Try.prog 5 ⟨.int .u8, 1, 1, [.int .u8 0], [0]⟩ := TyOk1.of (by kernel_rfl) rfl rfl (TKOk_int (by kernel_rfl)) rfl
theorem t9 : TyOk1 Try.prog 9 ⟨.str, 1, 16, [.str []], [0]⟩ := TyOk1.of (by kernel_rfl) rfl rfl (TKOk_str (by kernel_rfl)) rfl
theorem t12 : TyOk1 Try.prog 12 ⟨.int .u64, 1, 8, [.int .u64 0], [0]⟩ := TyOk1.of (by kernel_rfl) rfl rfl (TKOk_int (by kernel_rfl)) rfl
theorem t21 : TyOk1 Try.prog 21 ⟨.int .i32, 1, 4, [.int .i32 0], [0]⟩ := TyOk1.of (by kernel_rfl) rfl rfl (TKOk_int (by kernel_rfl)) rfl
theorem t22 : TyOk1 Try.prog 22 ⟨.slice 96, 1, 24, [.nils], [5]⟩ := TyOk1.of (by kernel_rfl) rfl rfl (TKOk_slice (by kernel_rfl)) rfl
theorem t23 : TyOk1 Try.prog 23 ⟨.struct [(3, 0), (22, 1)] false, 2, 32, [.int .i64 0, .nils], [0, 5]⟩ := TyOk1.of (by kernel_rfl) rfl rfl (TKOk_struct (by kernel_rfl) (by kernel_rfl)) rfl
theorem t24 : TyOk1 Try.prog 24 ⟨.struct [(3, 0), (22, 1)] false, 2, 32, [.int .i64 0, .nils], [0, 5]⟩ := TyOk1.of (by kernel_rfl) rfl rfl (TKOk_struct (by kernel_rfl) (by kernel_rfl)) rfl
theorem t25 : TyOk1 Try.prog 25 ⟨.slice 5, 1, 24, [.nils], [1]⟩ := TyOk1.of (by kernel_rfl) rfl rfl (TKOk_slice (by kernel_rfl)) rfl
theorem t26 : TyOk1 Try.prog 26 ⟨.func, 1, 8, [.nilfn], [0]⟩ := TyOk1.of (by kernel_rfl) rfl rfl (TKOk_func (by kernel_rfl)) rfl
theorem t27 : TyOk1 Try.prog 27 ⟨.func, 1, 8, [.nilfn], [0]⟩ := TyOk1.of (by kernel_rfl) rfl rfl (TKOk_func (by kernel_rfl)) rfl
theorem t28 : TyOk1 Try.prog 28 ⟨.func, 1, 8, [.nilfn], [0]⟩ := TyOk1.of (by kernel_rfl) rfl rfl (TKOk_func (by kernel_rfl)) rfl
theorem t29 : TyOk1 Try.prog 29 ⟨.func, 1, 8, [.nilfn], [0]⟩ := TyOk1.of (by kernel_rfl) rfl rfl (TKOk_func (by kernel_rfl)) rfl
theorem t30 : TyOk1 Try.prog 30 ⟨.struct [(3, 0), (3, 1)] true, 2, 16, [.int .i64 0, .int .i64 0], [0, 0]⟩ := TyOk1.of (by kernel_rfl) rfl rfl (TKOk_struct (by kernel_rfl) (by kernel_rfl)) rfl
theorem t31 : TyOk1 Try.prog 31 ⟨.struct [(3, 0), (3, 1)] true, 2, 16, [.int .i64 0, .int .i64 0], [0, 0]⟩ := TyOk1.of (by kernel_rfl) rfl rfl (TKOk_struct (by kernel_rfl) (by kernel_rfl)) rfl
theorem t33 : TyOk1 Try.prog 33 ⟨.func, 1, 8, [.nilfn], [0]⟩ := TyOk1.of (by kernel_rfl) rfl rfl (TKOk_func (by kernel_rfl)) rfl
theorem t35 : TyOk1 Try.prog 35 ⟨.func, 1, 8, [.nilfn], [0]⟩ := TyOk1.of (by kernel_rfl) rfl rfl (TKOk_func (by kernel_rfl)) rfl
theorem t36 : TyOk1 Try.prog 36 ⟨.func, 1, 8, [.nilfn], [0]⟩ := TyOk1.of (by kernel_rfl) rfl rfl (TKOk_func (by kernel_rfl)) rfl
theorem t37 : TyOk1 Try.prog 37 ⟨.func, 1, 8, [.nilfn], [0]⟩ := TyOk1.of (by kernel_rfl) rfl rfl (TKOk_func (by kernel_rfl)) rfl
theorem t38 : TyOk1 Try.prog 38 ⟨.func, 1, 8, [.nilfn], [0]⟩ := TyOk1.of (by kernel_rfl) rfl rfl (TKOk_func (by kernel_rfl)) rfl
theorem t39 : TyOk1 Try.prog 39 ⟨.func, 1, 8, [.nilfn], [0]⟩ := TyOk1.of (by kernel_rfl) rfl rfl (TKOk_func (by kernel_rfl)) rfl
theorem t40 : TyOk1 Try.prog 40 ⟨.func, 1, 8, [.nilfn], [0]⟩ := TyOk1.of (by kernel_rfl) rfl rfl (TKOk_func (by kernel_rfl)) rfl
theorem t41 : TyOk1 Try.prog 41 ⟨.func, 1, 8, [.nilfn], [0]⟩ := TyOk1.of (by kernel_rfl) rfl rfl (TKOk_func (by kernel_rfl)) rfl
theorem t42 : TyOk1 Try.prog 42 ⟨.func, 1, 8, [.nilfn], [0]⟩ := TyOk1.of (by kernel_rfl) rfl rfl (TKOk_func (by kernel_rfl)) rfl
theorem t43 : TyOk1 Try.prog 43 ⟨.func, 1, 8, [.nilfn], [0]⟩ := TyOk1.of (by kernel_rfl) rfl rfl (TKOk_func (by kernel_rfl)) rfl
theorem t44 : TyOk1 Try.prog 44 ⟨.func, 1, 8, [.nilfn], [0]⟩ := TyOk1.of (by kernel_rfl) rfl rfl (TKOk_func (by kernel_rfl)) rfl
theorem t45 : TyOk1 Try.prog 45 ⟨.func, 1, 8, [.nilfn], [0]⟩ := TyOk1.of (by kernel_rfl) rfl rfl (TKOk_func (by kernel_rfl)) rfl
theorem t46 : TyOk1 Try.prog 46 ⟨.func, 1, 8, [.nilfn], [0]⟩ := TyOk1.of (by kernel_rfl) rfl rfl (TKOk_func (by kernel_rfl)) rfl
theorem t47 : TyOk1 Try.prog 47 ⟨.func, 1, 8, [.nilfn], [0]⟩ := TyOk1.of (by kernel_rfl) rfl rfl (TKOk_func (by kernel_rfl)) rfl
theorem t49 : TyOk1 Try.prog 49 ⟨.func, 1, 8, [.nilfn], [0]⟩ := TyOk1.of (by kernel_rfl) rfl rfl (TKOk_func (by kernel_rfl)) rfl
theorem t50 : TyOk1 Try.prog 50 ⟨.func, 1, 8, [.nilfn], [0]⟩ := TyOk1.of (by kernel_rfl) rfl rfl (TKOk_func (by kernel_rfl)) rfl
theorem t51 : TyOk1 Try.prog 51 ⟨.func, 1, 8, [.nilfn], [0]⟩ := TyOk1.of (by kernel_rfl) rfl rfl (TKOk_func (by kernel_rfl)) rfl
theorem t52 : TyOk1 Try.prog 52 ⟨.slice 25, 1, 24, [.nils], [1]⟩ := TyOk1.of (by kernel_rfl) rfl rfl (TKOk_slice (by kernel_rfl)) rfl
theorem t54 : TyOk1 Try.prog 54 ⟨.func, 1, 8, [.nilfn], [0]⟩ := TyOk1.of (by kernel_rfl) rfl rfl (TKOk_func (by kernel_rfl)) rfl
theorem t55 : TyOk1 Try.prog 55 ⟨.func, 1, 8, [.nilfn], [0]⟩ := TyOk1.of (by kernel_rfl) rfl rfl (TKOk_func (by kernel_rfl)) rfl
theorem t56 : TyOk1 Try.prog 56 ⟨.slice 24, 1, 24, [.nils], [2]⟩ := TyOk1.of (by kernel_rfl) rfl rfl (TKOk_slice (by kernel_rfl)) rfl
theorem t57 : TyOk1 Try.prog 57 ⟨.func, 1, 8, [.nilfn], [0]⟩ := TyOk1.of (by kernel_rfl) rfl rfl (TKOk_func (by kernel_rfl)) rfl
theorem t58 : TyOk1 Try.prog 58 ⟨.func, 1, 8, [.nilfn], [0]⟩ := TyOk1.of (by kernel_rfl) rfl rfl (TKOk_func (by kernel_rfl)) rfl
theorem t59 : TyOk1 Try.prog 59 ⟨.func, 1, 8, [.nilfn], [0]⟩ := TyOk1.of (by kernel_rfl) rfl rfl (TKOk_func (by kernel_rfl)) rfl
theorem t60 : TyOk1 Try.prog 60 ⟨.func, 1, 8, [.nilfn], [0]⟩ := TyOk1.of (by kernel_rfl) rfl rfl (TKOk_func (by kernel_rfl)) rfl
theorem t61 : TyOk1 Try.prog 61 ⟨.func, 1, 8, [.nilfn], [0]⟩ := TyOk1.of (by kernel_rfl) rfl rfl (TKOk_func (by kernel_rfl)) rfl
theorem t62 : TyOk1 Try.prog 62 ⟨.func, 1, 8, [.nilfn], [0]⟩ := TyOk1.of (by kernel_rfl) rfl rfl (TKOk_func (by kernel_rfl)) rfl
theorem t63 : TyOk1 Try.prog 63 ⟨.func, 1, 8, [.nilfn], [0]⟩ := TyOk1.of (by kernel_rfl) rfl rfl (TKOk_func (by kernel_rfl)) rfl
theorem t64 : TyOk1 Try.prog 64 ⟨.func, 1, 8, [.nilfn], [0]⟩ := TyOk1.of (by kernel_rfl) rfl rfl (TKOk_func (by kernel_rfl)) rfl
theorem t65 : TyOk1 Try.prog 65 ⟨.struct [(25, 0), (3, 1)] false, 2, 32, [.nils, .int .i64 0], [1, 0]⟩ := TyOk1.of (by kernel_rfl) rfl rfl (TKOk_struct (by kernel_rfl) (by kernel_rfl)) rfl
theorem t66 : TyOk1 Try.prog 66 ⟨.struct [(25, 0), (3, 1)] false, 2, 32, [.nils, .int .i64 0], [1, 0]⟩ := TyOk1.of (by kernel_rfl) rfl rfl (TKOk_struct (by kernel_rfl) (by kernel_rfl)) rfl
theorem t67 : TyOk1 Try.prog 67 ⟨.func, 1, 8, [.nilfn], [0]⟩ := TyOk1.of (by kernel_rfl) rfl rfl (TKOk_func (by kernel_rfl)) rfl
theorem t69 : TyOk1 Try.prog 69 ⟨.func, 1, 8, [.nilfn], [0]⟩ := TyOk1.of (by kernel_rfl) rfl rfl (TKOk_func (by kernel_rfl)) rfl
theorem t71 : TyOk1 Try.prog 71 ⟨.func, 1, 8, [.nilfn], [0]⟩ := TyOk1.of (by kernel_rfl) rfl rfl (TKOk_func (by kernel_rfl)) rfl
theorem t72 : TyOk1 Try.prog 72 ⟨.func, 1, 8, [.nilfn], [0]⟩ := TyOk1.of (by kernel_rfl) rfl rfl (TKOk_func (by kernel_rfl)) rfl
theorem t73 : TyOk1 Try.prog 73 ⟨.func, 1, 8, [.nilfn], [0]⟩ := TyOk1.of (by kernel_rfl) rfl rfl (TKOk_func (by kernel_rfl)) rfl
theorem t75 : TyOk1 Try.prog 75 ⟨.func, 1, 8, [.nilfn], [0]⟩ := TyOk1.of (by kernel_rfl) rfl rfl (TKOk_func (by kernel_rfl)) rfl
theorem t76 : TyOk1 Try.prog 76 ⟨.func, 1, 8, [.nilfn], [0]⟩ := TyOk1.of (by kernel_rfl) rfl rfl (TKOk_func (by kernel_rfl)) rfl
theorem t77 : TyOk1 Try.prog 77 ⟨.func, 1, 8, [.nilfn], [0]⟩ := TyOk1.of (by kernel_rfl) rfl rfl (TKOk_func (by kernel_rfl)) rfl
theorem t78 : TyOk1 Try.prog 78 ⟨.func, 1, 8, [.nilfn], [0]⟩ := TyOk1.of (by kernel_rfl) rfl rfl (TKOk_func (by kernel_rfl)) rfl
theorem t79 : TyOk1 Try.prog 79 ⟨.slice 22, 1, 24, [.nils], [1]⟩ := TyOk1.of (by kernel_rfl) rfl rfl (TKOk_slice (by kernel_rfl)) rfl
theorem t80 : TyOk1 Try.prog 80 ⟨.slice 4, 1, 24, [.nils], [1]⟩ := TyOk1.of (by kernel_rfl) rfl rfl (TKOk_slice (by kernel_rfl)) rfl
theorem t81 : TyOk1 Try.prog 81 ⟨.func, 1, 8, [.nilfn], [0]⟩ := TyOk1.of (by kernel_rfl) rfl rfl (TKOk_func (by kernel_rfl)) rfl
theorem t82 : TyOk1 Try.prog 82 ⟨.func, 1, 8, [.nilfn], [0]⟩ := TyOk1.of (by kernel_rfl) rfl rfl (TKOk_func (by kernel_rfl)) rfl
theorem t83 : TyOk1 Try.prog 83 ⟨.int .u64, 1, 8, [.int .u64 0], [0]⟩ := TyOk1.of (by kernel_rfl) rfl rfl (TKOk_int (by kernel_rfl)) rfl
theorem t84 : TyOk1 Try.prog 84 ⟨.func, 1, 8, [.nilfn], [0]⟩ := TyOk1.of (by kernel_rfl) rfl rfl (TKOk_func (by kernel_rfl)) rfl
theorem t85 : TyOk1 Try.prog 85 ⟨.func, 1, 8, [.nilfn], [0]⟩ := TyOk1.of (by kernel_rfl) rfl rfl (TKOk_func (by kernel_rfl)) rfl
theorem t87 : TyOk1 Try.prog 87 ⟨.func, 1, 8, [.nilfn], [0]⟩ := TyOk1.of (by kernel_rfl) rfl rfl (TKOk_func (by kernel_rfl)) rfl
theorem t89 : TyOk1 Try.prog 89 ⟨.func, 1, 8, [.nilfn], [0]⟩ := TyOk1.of (by kernel_rfl) rfl rfl (TKOk_func (by kernel_rfl)) rfl
theorem t90 : TyOk1 Try.prog 90 ⟨.slice 3, 1, 24, [.nils], [1]⟩ := TyOk1.of (by kernel_rfl) rfl rfl (TKOk_slice (by kernel_rfl)) rfl
theorem t92 : TyOk1 Try.prog 92 ⟨.func, 1, 8, [.nilfn], [0]⟩ := TyOk1.of (by kernel_rfl) rfl rfl (TKOk_func (by kernel_rfl)) rfl
theorem t93 : TyOk1 Try.prog 93 ⟨.func, 1, 8, [.nilfn], [0]⟩ := TyOk1.of (by kernel_rfl) rfl rfl (TKOk_func (by kernel_rfl)) rfl
theorem t94 : TyOk1 Try.prog 94 ⟨.func, 1, 8, [.nilfn], [0]⟩ := TyOk1.of (by kernel_rfl) rfl rfl (TKOk_func (by kernel_rfl)) rfl
theorem t95 : TyOk1 Try.prog 95 ⟨.struct [(9, 0), (9, 1), (3, 2), (4, 3), (9, 4)] true, 5, 64, [.str [], .str [], .int .i64 0, .bool false, .str []], [0, 0, 0, 0, 0]⟩ := TyOk1.of (by kernel_rfl) rfl rfl (TKOk_struct (by kernel_rfl) (by kernel_rfl)) rfl
theorem t96 : TyOk1 Try.prog 96 ⟨.struct [(9, 0), (9, 1), (3, 2), (4, 3), (9, 4)] true, 5, 64, [.str [], .str [], .int .i64 0, .bool false, .str []], [0, 0, 0, 0, 0]⟩ := TyOk1.of (by kernel_rfl) rfl rfl (TKOk_struct (by kernel_rfl) (by kernel_rfl)) rfl
theorem t98 : TyOk1 Try.prog 98 ⟨.func, 1, 8, [.nilfn], [0]⟩ := TyOk1.of (by kernel_rfl) rfl rfl (TKOk_func (by kernel_rfl)) rfl
theorem t99 : TyOk1 Try.prog 99 ⟨.func, 1, 8, [.nilfn], [0]⟩ := TyOk1.of (by kernel_rfl) rfl rfl (TKOk_func (by kernel_rfl)) rfl
theorem t101 : TyOk1 Try.prog 101 ⟨.func, 1, 8, [.nilfn], [0]⟩ := TyOk1.of (by kernel_rfl) rfl rfl (TKOk_func (by kernel_rfl)) rfl
theorem t102 : TyOk1 Try.prog 102 ⟨.func, 1, 8, [.nilfn], [0]⟩ := TyOk1.of (by kernel_rfl) rfl rfl (TKOk_func (by kernel_rfl)) rfl
theorem t103 : TyOk1 Try.prog 103 ⟨.func, 1, 8, [.nilfn], [0]⟩ := TyOk1.of (by kernel_rfl) rfl rfl (TKOk_func (by kernel_rfl)) rfl
theorem t104 : TyOk1 Try.prog 104 ⟨.func, 1, 8, [.nilfn], [0]⟩ := TyOk1.of (by kernel_rfl) rfl rfl (TKOk_func (by kernel_rfl)) rfl
theorem t105 : TyOk1 Try.prog 105 ⟨.ptr 140, 1, 8, [.nilp], [0]⟩ := TyOk1.of (by kernel_rfl) rfl rfl (TKOk_ptr (by kernel_rfl)) rfl
theorem t106 : TyOk1 Try.prog 106 ⟨.func, 1, 8, [.nilfn], [0]⟩ := TyOk1.of (by kernel_rfl) rfl rfl (TKOk_func (by kernel_rfl)) rfl
theorem t107 : TyOk1 Try.prog 107 ⟨.func, 1, 8, [.nilfn], [0]⟩ := TyOk1.of (by kernel_rfl) rfl rfl (TKOk_func (by kernel_rfl)) rfl
theorem t109 : TyOk1 Try.prog 109 ⟨.func, 1, 8, [.nilfn], [0]⟩ := TyOk1.of (by kernel_rfl) rfl rfl (TKOk_func (by kernel_rfl)) rfl
theorem t110 : TyOk1 Try.prog 110 ⟨.func, 1, 8, [.nilfn], [0]⟩ := TyOk1.of (by kernel_rfl) rfl rfl (TKOk_func (by kernel_rfl)) rfl
theorem t111 : TyOk1 Try.prog 111 ⟨.func, 1, 8, [.nilfn], [0]⟩ := TyOk1.of (by kernel_rfl) rfl rfl (TKOk_func (by kernel_rfl)) rfl
theorem t112 : TyOk1 Try.prog 112 ⟨.slice 9, 1, 24, [.nils], [1]⟩ := TyOk1.of (by kernel_rfl) rfl rfl (TKOk_slice (by kernel_rfl)) rfl
theorem t114 : TyOk1 Try.prog 114 ⟨.func, 1, 8, [.nilfn], [0]⟩ := TyOk1.of (by kernel_rfl) rfl rfl (TKOk_func (by kernel_rfl)) rfl
theorem t115 : TyOk1 Try.prog 115 ⟨.func, 1, 8, [.nilfn], [0]⟩ := TyOk1.of (by kernel_rfl) rfl rfl (TKOk_func (by kernel_rfl)) rfl
theorem t116 : TyOk1 Try.prog 116 ⟨.func, 1, 8, [.nilfn], [0]⟩ := TyOk1.of (by kernel_rfl) rfl rfl (TKOk_func (by kernel_rfl)) rfl
theorem t117 : TyOk1 Try.prog 117 ⟨.func, 1, 8, [.nilfn], [0]⟩ := TyOk1.of (by kernel_rfl) rfl rfl (TKOk_func (by kernel_rfl)) rfl
theorem t118 : TyOk1 Try.prog 118 ⟨.func, 1, 8, [.nilfn], [0]⟩ := TyOk1.of (by kernel_rfl) rfl rfl (TKOk_func (by kernel_rfl)) rfl
theorem t119 : TyOk1 Try.prog 119 ⟨.func, 1, 8, [.nilfn], [0]⟩ := TyOk1.of (by kernel_rfl) rfl rfl (TKOk_func (by kernel_rfl)) rfl
theorem t120 : TyOk1 Try.prog 120 ⟨.func, 1, 8, [.nilfn], [0]⟩ := TyOk1.of (by kernel_rfl) rfl rfl (TKOk_func (by kernel_rfl)) rfl
theorem t121 : TyOk1 Try.prog 121 ⟨.func, 1, 8, [.nilfn], [0]⟩ := TyOk1.of (by kernel_rfl) rfl rfl (TKOk_func (by kernel_rfl)) rfl
theorem t122 : TyOk1 Try.prog 122 ⟨.ptr 128, 1, 8, [.nilp], [0]⟩ := TyOk1.of (by kernel_rfl) rfl rfl (TKOk_ptr (by kernel_rfl)) rfl
theorem t124 : TyOk1 Try.prog 124 ⟨.func, 1, 8, [.nilfn], [0]⟩ := TyOk1.of (by kernel_rfl) rfl rfl (TKOk_func (by kernel_rfl)) rfl
theorem t126 : TyOk1 Try.prog 126 ⟨.func, 1, 8, [.nilfn], [0]⟩ := TyOk1.of (by kernel_rfl) rfl rfl (TKOk_func (by kernel_rfl)) rfl
theorem t127 : TyOk1 Try.prog 127 ⟨.struct [(52, 0), (112, 1), (25, 2)] false, 3, 72, [.nils, .nils, .nils], [1, 1, 1]⟩ := TyOk1.of (by kernel_rfl) rfl rfl (TKOk_struct (by kernel_rfl) (by kernel_rfl)) rfl
theorem t128 : TyOk1 Try.prog 128 ⟨.struct [(52, 0), (112, 1), (25, 2)] false, 3, 72, [.nils, .nils, .nils], [1, 1, 1]⟩ := TyOk1.of (by kernel_rfl) rfl rfl (TKOk_struct (by kernel_rfl) (by kernel_rfl)) rfl
theorem t129 : TyOk1 Try.prog 129 ⟨.func, 1, 8, [.nilfn], [0]⟩ := TyOk1.of (by kernel_rfl) rfl rfl (TKOk_func (by kernel_rfl)) rfl
theorem t130 : TyOk1 Try.prog 130 ⟨.func, 1, 8, [.nilfn], [0]⟩ := TyOk1.of (by kernel_rfl) rfl rfl (TKOk_func (by kernel_rfl)) rfl
theorem t131 : TyOk1 Try.prog 131 ⟨.func, 1, 8, [.nilfn], [0]⟩ := TyOk1.of (by kernel_rfl) rfl rfl (TKOk_func (by kernel_rfl)) rfl
theorem t132 : TyOk1 Try.prog 132 ⟨.func, 1, 8, [.nilfn], [0]⟩ := TyOk1.of (by kernel_rfl) rfl rfl (TKOk_func (by kernel_rfl)) rfl
theorem t133 : TyOk1 Try.prog 133 ⟨.int .u32, 1, 4, [.int .u32 0], [0]⟩ := TyOk1.of (by kernel_rfl) rfl rfl (TKOk_int (by kernel_rfl)) rfl
theorem t134 : TyOk1 Try.prog 134 ⟨.func, 1, 8, [.nilfn], [0]⟩ := TyOk1.of (by kernel_rfl) rfl rfl (TKOk_func (by kernel_rfl)) rfl
theorem t135 : TyOk1 Try.prog 135 ⟨.func, 1, 8, [.nilfn], [0]⟩ := TyOk1.of (by kernel_rfl) rfl rfl (TKOk_func (by kernel_rfl)) rfl
theorem t136 : TyOk1 Try.prog 136 ⟨.func, 1, 8, [.nilfn], [0]⟩ := TyOk1.of (by kernel_rfl) rfl rfl (TKOk_func (by kernel_rfl)) rfl
theorem t137 : TyOk1 Try.prog 137 ⟨.func, 1, 8, [.nilfn], [0]⟩ := TyOk1.of (by kernel_rfl) rfl rfl (TKOk_func (by kernel_rfl)) rfl
theorem t138 : TyOk1 Try.prog 138 ⟨.func, 1, 8, [.nilfn], [0]⟩ := TyOk1.of (by kernel_rfl) rfl rfl (TKOk_func (by kernel_rfl)) rfl
theorem t139 : TyOk1 Try.prog 139 ⟨.struct [(25, 0), (4, 1)] false, 2, 32, [.nils, .bool false], [1, 0]⟩ := TyOk1.of (by kernel_rfl) rfl rfl (TKOk_struct (by kernel_rfl) (by kernel_rfl)) rfl
theorem t140 : TyOk1 Try.prog 140 ⟨.struct [(25, 0), (4, 1)] false, 2, 32, [.nils, .bool false], [1, 0]⟩ := TyOk1.of (by kernel_rfl) rfl rfl (TKOk_struct (by kernel_rfl) (by kernel_rfl)) rfl
theorem t141 : TyOk1 Try.prog 141 ⟨.func, 1, 8, [.nilfn], [0]⟩ := TyOk1.of (by kernel_rfl) rfl rfl (TKOk_func (by kernel_rfl)) rfl
theorem t143 : TyOk1 Try.prog 143 ⟨.func, 1, 8, [.nilfn], [0]⟩ := TyOk1.of (by kernel_rfl) rfl rfl (TKOk_func (by kernel_rfl)) rfl
theorem t144 : TyOk1 Try.prog 144 ⟨.func, 1, 8, [.nilfn], [0]⟩ := TyOk1.of (by kernel_rfl) rfl rfl (TKOk_func (by kernel_rfl)) rfl
theorem t145 : TyOk1 Try.prog 145 ⟨.arr 3 3, 3, 24, [.int .i64 0, .int .i64 0, .int .i64 0], [0, 0, 0]⟩ := TyOk1.of (by kernel_rfl) rfl rfl (TKOk_arr (by kernel_rfl)) rfl
theorem t146 : TyOk1 Try.prog 146 ⟨.func, 1, 8, [.nilfn], [0]⟩ := TyOk1.of (by kernel_rfl) rfl rfl (TKOk_func (by kernel_rfl)) rfl
theorem t147 : TyOk1 Try.prog 147 ⟨.func, 1, 8, [.nilfn], [0]⟩ := TyOk1.of (by kernel_rfl) rfl rfl (TKOk_func (by kernel_rfl)) rfl
theorem t148 : TyOk1 Try.prog 148 ⟨.func, 1, 8, [.nilfn], [0]⟩ := TyOk1.of (by kernel_rfl) rfl rfl (TKOk_func (by kernel_rfl)) rfl
theorem t149 : TyOk1 Try.prog 149 ⟨.func, 1, 8, [.nilfn], [0]⟩ := TyOk1.of (by kernel_rfl) rfl rfl (TKOk_func (by kernel_rfl)) rfl
theorem t150 : TyOk1 Try.prog 150 ⟨.func, 1, 8, [.nilfn], [0]⟩ := TyOk1.of (by kernel_rfl) rfl rfl (TKOk_func (by kernel_rfl)) rfl
theorem t151 : TyOk1 Try.prog 151 ⟨.func, 1, 8, [.nilfn], [0]⟩ := TyOk1.of (by kernel_rfl) rfl rfl (TKOk_func (by kernel_rfl)) rfl
theorem t152 : TyOk1 Try.prog 152 ⟨.func, 1, 8, [.nilfn], [0]⟩ := TyOk1.of (by kernel_rfl) rfl rfl (TKOk_func (by kernel_rfl)) rfl
theorem t153 : TyOk1 Try.prog 153 ⟨.func, 1, 8, [.nilfn], [0]⟩ := TyOk1.of (by kernel_rfl) rfl rfl (TKOk_func (by kernel_rfl)) rfl
theorem t154 : TyOk1 Try.prog 154 ⟨.func, 1, 8, [.nilfn], [0]⟩ := TyOk1.of (by kernel_rfl) rfl rfl (TKOk_func (by kernel_rfl)) rfl
theorem t156 : TyOk1 Try.prog 156 ⟨.func, 1, 8, [.nilfn], [0]⟩ := TyOk1.of (by kernel_rfl) rfl rfl (TKOk_func (by kernel_rfl)) rfl
theorem t157 : TyOk1 Try.prog 157 ⟨.int .u64, 1, 8, [.int .u64 0], [0]⟩ := TyOk1.of (by kernel_rfl) rfl rfl (TKOk_int (by kernel_rfl)) rfl
theorem t158 : TyOk1 Try.prog 158 ⟨.func, 1, 8, [.nilfn], [0]⟩ := TyOk1.of (by kernel_rfl) rfl rfl (TKOk_func (by kernel_rfl)) rfl
theorem t159 : TyOk1 Try.prog 159 ⟨.func, 1, 8, [.nilfn], [0]⟩ := TyOk1.of (by kernel_rfl) rfl rfl (TKOk_func (by kernel_rfl)) rfl
theorem t160 : TyOk1 Try.prog 160 ⟨.func, 1, 8, [.nilfn], [0]⟩ := TyOk1.of (by kernel_rfl) rfl rfl (TKOk_func (by kernel_rfl)) rfl
theorem t161 : TyOk1 Try.prog 161 ⟨.func, 1, 8, [.nilfn], [0]⟩ := TyOk1.of (by kernel_rfl) rfl rfl (TKOk_func (by kernel_rfl)) rfl
theorem t162 : TyOk1 Try.prog 162 ⟨.func, 1, 8, [.nilfn], [0]⟩ := TyOk1.of (by kernel_rfl) rfl rfl (TKOk_func (by kernel_rfl)) rfl
theorem t163 : TyOk1 Try.prog 163 ⟨.func, 1, 8, [.nilfn], [0]⟩ := TyOk1.of (by kernel_rfl) rfl rfl (TKOk_func (by kernel_rfl)) rfl
theorem t164 : TyOk1 Try.prog 164 ⟨.func, 1, 8, [.nilfn], [0]⟩ := TyOk1.of (by kernel_rfl) rfl rfl (TKOk_func (by kernel_rfl)) rfl
theorem t165 : TyOk1 Try.prog 165 ⟨.func, 1, 8, [.nilfn], [0]⟩ := TyOk1.of (by kernel_rfl) rfl rfl (TKOk_func (by kernel_rfl)) rfl
theorem t166 : TyOk1 Try.prog 166 ⟨.func, 1, 8, [.nilfn], [0]⟩ := TyOk1.of (by kernel_rfl) rfl rfl (TKOk_func (by kernel_rfl)) rfl
theorem t167 : TyOk1 Try.prog 167 ⟨.func, 1, 8, [.nilfn], [0]⟩ := TyOk1.of (by kernel_rfl) rfl rfl (TKOk_func (by kernel_rfl)) rfl
theorem t168 : TyOk1 Try.prog 168 ⟨.func, 1, 8, [.nilfn], [0]⟩ := TyOk1.of (by kernel_rfl) rfl rfl (TKOk_func (by kernel_rfl)) rfl
theorem t176 : TyOk1 Try.prog 176 ⟨.func, 1, 8, [.nilfn], [0]⟩ := TyOk1.of (by kernel_rfl) rfl rfl (TKOk_func (by kernel_rfl)) rfl
theorem t177 : TyOk1 Try.prog 177 ⟨.ptr 5, 1, 8, [.nilp], [0]⟩ := TyOk1.of (by kernel_rfl) rfl rfl (TKOk_ptr (by kernel_rfl)) rfl
def tab : List (Option TI) := [
  none,
  some ⟨.func, 1, 8, [.nilfn], [0]⟩,
  some ⟨.int .i64, 1, 8, [.int .i64 0], [0]⟩,
  some ⟨.int .i64, 1, 8, [.int .i64 0], [0]⟩,
  some ⟨.bool, 1, 1, [.bool false], [0]⟩,
  some ⟨.int .u8, 1, 1, [.int .u8 0], [0]⟩,
  none,
  none,
  none,
  some ⟨.str, 1, 16, [.str []], [0]⟩,
  none,
  none,
  some ⟨.int .u64, 1, 8, [.int .u64 0], [0]⟩,
  none,
  none,
  none,
  none,
  none,
  none,
  none,
  none,
  some ⟨.int .i32, 1, 4, [.int .i32 0], [0]⟩,
  some ⟨.slice 96, 1, 24, [.nils], [5]⟩,
  some ⟨.struct [(3, 0), (22, 1)] false, 2, 32, [.int .i64 0, .nils], [0, 5]⟩,
  some ⟨.struct [(3, 0), (22, 1)] false, 2, 32, [.int .i64 0, .nils], [0, 5]⟩,
  some ⟨.slice 5, 1, 24, [.nils], [1]⟩,
  some ⟨.func, 1, 8, [.nilfn], [0]⟩,
  some ⟨.func, 1, 8, [.nilfn], [0]⟩,
  some ⟨.func, 1, 8, [.nilfn], [0]⟩,
  some ⟨.func, 1, 8, [.nilfn], [0]⟩,
  some ⟨.struct [(3, 0), (3, 1)] true, 2, 16, [.int .i64 0, .int .i64 0], [0, 0]⟩,
  some ⟨.struct [(3, 0), (3, 1)] true, 2, 16, [.int .i64 0, .int .i64 0], [0, 0]⟩,
  none,
  some ⟨.func, 1, 8, [.nilfn], [0]⟩,
  none,
  some ⟨.func, 1, 8, [.nilfn], [0]⟩,
  some ⟨.func, 1, 8, [.nilfn], [0]⟩,
  some ⟨.func, 1, 8, [.nilfn], [0]⟩,
  some ⟨.func, 1, 8, [.nilfn], [0]⟩,
  some ⟨.func, 1, 8, [.nilfn], [0]⟩,
  some ⟨.func, 1, 8, [.nilfn], [0]⟩,
  some ⟨.func, 1, 8, [.nilfn], [0]⟩,
  some ⟨.func, 1, 8, [.nilfn], [0]⟩,
  some ⟨.func, 1, 8, [.nilfn], [0]⟩,
  some ⟨.func, 1, 8, [.nilfn], [0]⟩,
  some ⟨.func, 1, 8, [.nilfn], [0]⟩,
  some ⟨.func, 1, 8, [.nilfn], [0]⟩,
  some ⟨.func, 1, 8, [.nilfn], [0]⟩,
  none,
  some ⟨.func, 1, 8, [.nilfn], [0]⟩,
  some ⟨.func, 1, 8, [.nilfn], [0]⟩,
  some ⟨.func, 1, 8, [.nilfn], [0]⟩,
  some ⟨.slice 25, 1, 24, [.nils], [1]⟩,
  none,
  some ⟨.func, 1, 8, [.nilfn], [0]⟩,
  some ⟨.func, 1, 8, [.nilfn], [0]⟩,
  some ⟨.slice 24, 1, 24, [.nils], [2]⟩,
  some ⟨.func, 1, 8, [.nilfn], [0]⟩,
  some ⟨.func, 1, 8, [.nilfn], [0]⟩,
  some ⟨.func, 1, 8, [.nilfn], [0]⟩,
  some ⟨.func, 1, 8, [.nilfn], [0]⟩,
  some ⟨.func, 1, 8, [.nilfn], [0]⟩,
  some ⟨.func, 1, 8, [.nilfn], [0]⟩,
  some ⟨.func, 1, 8, [.nilfn], [0]⟩,
  some ⟨.func, 1, 8, [.nilfn], [0]⟩,
  some ⟨.struct [(25, 0), (3, 1)] false, 2, 32, [.nils, .int .i64 0], [1, 0]⟩,
  some ⟨.struct [(25, 0), (3, 1)] false, 2, 32, [.nils, .int .i64 0], [1, 0]⟩,
  some ⟨.func, 1, 8, [.nilfn], [0]⟩,
  none,
  some ⟨.func, 1, 8, [.nilfn], [0]⟩,
  none,
  some ⟨.func, 1, 8, [.nilfn], [0]⟩,
  some ⟨.func, 1, 8, [.nilfn], [0]⟩,
  some ⟨.func, 1, 8, [.nilfn], [0]⟩,
  none,
  some ⟨.func, 1, 8, [.nilfn], [0]⟩,
  some ⟨.func, 1, 8, [.nilfn], [0]⟩,
  some ⟨.func, 1, 8, [.nilfn], [0]⟩,
  some ⟨.func, 1, 8, [.nilfn], [0]⟩,
  some ⟨.slice 22, 1, 24, [.nils], [1]⟩,
  some ⟨.slice 4, 1, 24, [.nils], [1]⟩,
  some ⟨.func, 1, 8, [.nilfn], [0]⟩,
  some ⟨.func, 1, 8, [.nilfn], [0]⟩,
  some ⟨.int .u64, 1, 8, [.int .u64 0], [0]⟩,
  some ⟨.func, 1, 8, [.nilfn], [0]⟩,
  some ⟨.func, 1, 8, [.nilfn], [0]⟩,
  none,
  some ⟨.func, 1, 8, [.nilfn], [0]⟩,
  none,
  some ⟨.func, 1, 8, [.nilfn], [0]⟩,
  some ⟨.slice 3, 1, 24, [.nils], [1]⟩,
  none,
  some ⟨.func, 1, 8, [.nilfn], [0]⟩,
  some ⟨.func, 1, 8, [.nilfn], [0]⟩,
  some ⟨.func, 1, 8, [.nilfn], [0]⟩,
  some ⟨.struct [(9, 0), (9, 1), (3, 2), (4, 3), (9, 4)] true, 5, 64, [.str [], .str [], .int .i64 0, .bool false, .str []], [0, 0, 0, 0, 0]⟩,
  some ⟨.struct [(9, 0), (9, 1), (3, 2), (4, 3), (9, 4)] true, 5, 64, [.str [], .str [], .int .i64 0, .bool false, .str []], [0, 0, 0, 0, 0]⟩,
  none,
  some ⟨.func, 1, 8, [.nilfn], [0]⟩,
  some ⟨.func, 1, 8, [.nilfn], [0]⟩,
  none,
  some ⟨.func, 1, 8, [.nilfn], [0]⟩,
  some ⟨.func, 1, 8, [.nilfn], [0]⟩,
  some ⟨.func, 1, 8, [.nilfn], [0]⟩,
  some ⟨.func, 1, 8, [.nilfn], [0]⟩,
  some ⟨.ptr 140, 1, 8, [.nilp], [0]⟩,
  some ⟨.func, 1, 8, [.nilfn], [0]⟩,
  some ⟨.func, 1, 8, [.nilfn], [0]⟩,
  none,
  some ⟨.func, 1, 8, [.nilfn], [0]⟩,
  some ⟨.func, 1, 8, [.nilfn], [0]⟩,
  some ⟨.func, 1, 8, [.nilfn], [0]⟩,
  some ⟨.slice 9, 1, 24, [.nils], [1]⟩,
  none,
  some ⟨.func, 1, 8, [.nilfn], [0]⟩,
  some ⟨.func, 1, 8, [.nilfn], [0]⟩,
  some ⟨.func, 1, 8, [.nilfn], [0]⟩,
  some ⟨.func, 1, 8, [.nilfn], [0]⟩,
  some ⟨.func, 1, 8, [.nilfn], [0]⟩,
  some ⟨.func, 1, 8, [.nilfn], [0]⟩,
  some ⟨.func, 1, 8, [.nilfn], [0]⟩,
  some ⟨.func, 1, 8, [.nilfn], [0]⟩,
  some ⟨.ptr 128, 1, 8, [.nilp], [0]⟩,
  none,
  some ⟨.func, 1, 8, [.nilfn], [0]⟩,
  none,
  some ⟨.func, 1, 8, [.nilfn], [0]⟩,
  some ⟨.struct [(52, 0), (112, 1), (25, 2)] false, 3, 72, [.nils, .nils, .nils], [1, 1, 1]⟩,
  some ⟨.struct [(52, 0), (112, 1), (25, 2)] false, 3, 72, [.nils, .nils, .nils], [1, 1, 1]⟩,
  some ⟨.func, 1, 8, [.nilfn], [0]⟩,
  some ⟨.func, 1, 8, [.nilfn], [0]⟩,
  some ⟨.func, 1, 8, [.nilfn], [0]⟩,
  some ⟨.func, 1, 8, [.nilfn], [0]⟩,
  some ⟨.int .u32, 1, 4, [.int .u32 0], [0]⟩,
  some ⟨.func, 1, 8, [.nilfn], [0]⟩,
  some ⟨.func, 1, 8, [.nilfn], [0]⟩,
  some ⟨.func, 1, 8, [.nilfn], [0]⟩,
  some ⟨.func, 1, 8, [.nilfn], [0]⟩,
  some ⟨.func, 1, 8, [.nilfn], [0]⟩,
  some ⟨.struct [(25, 0), (4, 1)] false, 2, 32, [.nils, .bool false], [1, 0]⟩,
  some ⟨.struct [(25, 0), (4, 1)] false, 2, 32, [.nils, .bool false], [1, 0]⟩,
  some ⟨.func, 1, 8, [.nilfn], [0]⟩,
  none,
  some ⟨.func, 1, 8, [.nilfn], [0]⟩,
  some ⟨.func, 1, 8, [.nilfn], [0]⟩,
  some ⟨.arr 3 3, 3, 24, [.int .i64 0, .int .i64 0, .int .i64 0], [0, 0, 0]⟩,
  some ⟨.func, 1, 8, [.nilfn], [0]⟩,
  some ⟨.func, 1, 8, [.nilfn], [0]⟩,
  some ⟨.func, 1, 8, [.nilfn], [0]⟩,
  some ⟨.func, 1, 8, [.nilfn], [0]⟩,
  some ⟨.func, 1, 8, [.nilfn], [0]⟩,
  some ⟨.func, 1, 8, [.nilfn], [0]⟩,
  some ⟨.func, 1, 8, [.nilfn], [0]⟩,
  some ⟨.func, 1, 8, [.nilfn], [0]⟩,
  some ⟨.func, 1, 8, [.nilfn], [0]⟩,
  none,
  some ⟨.func, 1, 8, [.nilfn], [0]⟩,
  some ⟨.int .u64, 1, 8, [.int .u64 0], [0]⟩,
  some ⟨.func, 1, 8, [.nilfn], [0]⟩,
  some ⟨.func, 1, 8, [.nilfn], [0]⟩,
  some ⟨.func, 1, 8, [.nilfn], [0]⟩,
  some ⟨.func, 1, 8, [.nilfn], [0]⟩,
  some ⟨.func, 1, 8, [.nilfn], [0]⟩,
  some ⟨.func, 1, 8, [.nilfn], [0]⟩,
  some ⟨.func, 1, 8, [.nilfn], [0]⟩,
  some ⟨.func, 1, 8, [.nilfn], [0]⟩,
  some ⟨.func, 1, 8, [.nilfn], [0]⟩,
  some ⟨.func, 1, 8, [.nilfn], [0]⟩,
  some ⟨.func, 1, 8, [.nilfn], [0]⟩,
  none,
  none,
  none,
  none,
  none,
  none,
  none,
  some ⟨.func, 1, 8, [.nilfn], [0]⟩,
  some ⟨.ptr 5, 1, 8, [.nilp], [0]⟩]
def τ : TyTab := tyTab tab
theorem all : TyAll Try.prog 0 tab := by
  unfold tab
  simp only [TyAll]
  exact ⟨t1, t2, t3, t4, t5, t9, t12, t21, t22, t23, t24, t25, t26, t27, t28, t29, t30, t31, t33, t35, t36, t37, t38, t39, t40, t41, t42, t43, t44, t45, t46, t47, t49, t50, t51, t52, t54, t55, t56, t57, t58, t59, t60, t61, t62, t63, t64, t65, t66, t67, t69, t71, t72, t73, t75, t76, t77, t78, t79, t80, t81, t82, t83, t84, t85, t87, t89, t90, t92, t93, t94, t95, t96, t98, t99, t101, t102, t103, t104, t105, t106, t107, t109, t110, t111, t112, t114, t115, t116, t117, t118, t119, t120, t121, t122, t124, t126, t127, t128, t129, t130, t131, t132, t133, t134, t135, t136, t137, t138, t139, t140, t141, t143, t144, t145, t146, t147, t148, t149, t150, t151, t152, t153, t154, t156, t157, t158, t159, t160, t161, t162, t163, t164, t165, t166, t167, t168, t176, t177, trivial⟩
theorem ok : TyOk Try.prog τ := all.ok
theorem mixed : Try.prog.follows .mixedOrders = true := by kernel_rfl
end Ty
end Go.Proofs.Ytollmifjbcccgaa
