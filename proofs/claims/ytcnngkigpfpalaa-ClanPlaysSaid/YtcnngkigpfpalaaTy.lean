/- The types of this seat, for the abstract machine: each row holds of the program. Written by a program. -/
import Derived.Test.YtcnngkigpfpalaaRows
import Derived.Test.YtcnngkigpfpalaaEmD
namespace Go.Proofs.Ytcnngkigpfpalaa
open Go.Dm
set_option maxRecDepth 100000
namespace Ty
theorem t1 : TyOk1 Try.prog 1 ⟨.func, 1, 8, [.nilfn], [0]⟩ := TyOk1.of (by kernel_rfl) rfl rfl (TKOk_func (by kernel_rfl)) rfl
theorem t2 : TyOk1 Try.prog 2 ⟨.int .i64, 1, 8, [.int .i64 0], [0]⟩ := TyOk1.of (by kernel_rfl) rfl rfl (TKOk_int (by kernel_rfl)) rfl
theorem t3 : TyOk1 Try.prog 3 ⟨.int .i64, 1, 8, [.int .i64 0], [0]⟩ := TyOk1.of (by kernel_rfl) rfl rfl (TKOk_int (by kernel_rfl)) rfl
theorem t4 : TyOk1 Try.prog 4 ⟨.bool, 1, 1, [.bool false], [0]⟩ := TyOk1.of (by kernel_rfl) rfl rfl (TKOk_bool (by kernel_rfl)) rfl
theorem t5 : TyOk1 Try.prog 5 ⟨.int .u8, 1, 1, [.int .u8 0], [0]⟩ := TyOk1.of (by kernel_rfl) rfl rfl (TKOk_int (by kernel_rfl)) rfl
theorem t9 : TyOk1 Try.prog 9 ⟨.str, 1, 16, [.str []], [0]⟩ := TyOk1.of (by kernel_rfl) rfl rfl (TKOk_str (by kernel_rfl)) rfl
theorem t12 : TyOk1 Try.prog 12 ⟨.int .u64, 1, 8, [.int .u64 0], [0]⟩ := TyOk1.of (by kernel_rfl) rfl rfl (TKOk_int (by kernel_rfl)) rfl
theorem t21 : TyOk1 Try.prog 21 ⟨.int .i32, 1, 4, [.int .i32 0], [0]⟩ := TyOk1.of (by kernel_rfl) rfl rfl (TKOk_int (by kernel_rfl)) rfl
theorem t22 : TyOk1 Try.prog 22 ⟨.slice 31, 1, 24, [.nils], [2]⟩ := TyOk1.of (by kernel_rfl) rfl rfl (TKOk_slice (by kernel_rfl)) rfl
theorem t23 : TyOk1 Try.prog 23 ⟨.func, 1, 8, [.nilfn], [0]⟩ := TyOk1.of (by kernel_rfl) rfl rfl (TKOk_func (by kernel_rfl)) rfl
theorem t24 : TyOk1 Try.prog 24 ⟨.func, 1, 8, [.nilfn], [0]⟩ := TyOk1.of (by kernel_rfl) rfl rfl (TKOk_func (by kernel_rfl)) rfl
theorem t25 : TyOk1 Try.prog 25 ⟨.struct [(3, 0), (3, 1)] true, 2, 16, [.int .i64 0, .int .i64 0], [0, 0]⟩ := TyOk1.of (by kernel_rfl) rfl rfl (TKOk_struct (by kernel_rfl) (by kernel_rfl)) rfl
theorem t26 : TyOk1 Try.prog 26 ⟨.struct [(3, 0), (3, 1)] true, 2, 16, [.int .i64 0, .int .i64 0], [0, 0]⟩ := TyOk1.of (by kernel_rfl) rfl rfl (TKOk_struct (by kernel_rfl) (by kernel_rfl)) rfl
theorem t28 : TyOk1 Try.prog 28 ⟨.func, 1, 8, [.nilfn], [0]⟩ := TyOk1.of (by kernel_rfl) rfl rfl (TKOk_func (by kernel_rfl)) rfl
theorem t29 : TyOk1 Try.prog 29 ⟨.func, 1, 8, [.nilfn], [0]⟩ := TyOk1.of (by kernel_rfl) rfl rfl (TKOk_func (by kernel_rfl)) rfl
theorem t30 : TyOk1 Try.prog 30 ⟨.struct [(3, 0), (9, 1)] true, 2, 24, [.int .i64 0, .str []], [0, 0]⟩ := TyOk1.of (by kernel_rfl) rfl rfl (TKOk_struct (by kernel_rfl) (by kernel_rfl)) rfl
theorem t31 : TyOk1 Try.prog 31 ⟨.struct [(3, 0), (9, 1)] true, 2, 24, [.int .i64 0, .str []], [0, 0]⟩ := TyOk1.of (by kernel_rfl) rfl rfl (TKOk_struct (by kernel_rfl) (by kernel_rfl)) rfl
theorem t32 : TyOk1 Try.prog 32 ⟨.func, 1, 8, [.nilfn], [0]⟩ := TyOk1.of (by kernel_rfl) rfl rfl (TKOk_func (by kernel_rfl)) rfl
theorem t33 : TyOk1 Try.prog 33 ⟨.func, 1, 8, [.nilfn], [0]⟩ := TyOk1.of (by kernel_rfl) rfl rfl (TKOk_func (by kernel_rfl)) rfl
theorem t35 : TyOk1 Try.prog 35 ⟨.func, 1, 8, [.nilfn], [0]⟩ := TyOk1.of (by kernel_rfl) rfl rfl (TKOk_func (by kernel_rfl)) rfl
theorem t36 : TyOk1 Try.prog 36 ⟨.func, 1, 8, [.nilfn], [0]⟩ := TyOk1.of (by kernel_rfl) rfl rfl (TKOk_func (by kernel_rfl)) rfl
theorem t37 : TyOk1 Try.prog 37 ⟨.func, 1, 8, [.nilfn], [0]⟩ := TyOk1.of (by kernel_rfl) rfl rfl (TKOk_func (by kernel_rfl)) rfl
theorem t38 : TyOk1 Try.prog 38 ⟨.func, 1, 8, [.nilfn], [0]⟩ := TyOk1.of (by kernel_rfl) rfl rfl (TKOk_func (by kernel_rfl)) rfl
theorem t40 : TyOk1 Try.prog 40 ⟨.func, 1, 8, [.nilfn], [0]⟩ := TyOk1.of (by kernel_rfl) rfl rfl (TKOk_func (by kernel_rfl)) rfl
theorem t41 : TyOk1 Try.prog 41 ⟨.func, 1, 8, [.nilfn], [0]⟩ := TyOk1.of (by kernel_rfl) rfl rfl (TKOk_func (by kernel_rfl)) rfl
theorem t42 : TyOk1 Try.prog 42 ⟨.func, 1, 8, [.nilfn], [0]⟩ := TyOk1.of (by kernel_rfl) rfl rfl (TKOk_func (by kernel_rfl)) rfl
theorem t43 : TyOk1 Try.prog 43 ⟨.func, 1, 8, [.nilfn], [0]⟩ := TyOk1.of (by kernel_rfl) rfl rfl (TKOk_func (by kernel_rfl)) rfl
theorem t44 : TyOk1 Try.prog 44 ⟨.slice 3, 1, 24, [.nils], [1]⟩ := TyOk1.of (by kernel_rfl) rfl rfl (TKOk_slice (by kernel_rfl)) rfl
theorem t45 : TyOk1 Try.prog 45 ⟨.struct [(3, 0), (3, 1), (3, 2), (3, 3), (22, 4), (3, 5), (3, 6), (44, 7), (44, 8), (44, 9)] false, 10, 144, [.int .i64 0, .int .i64 0, .int .i64 0, .int .i64 0, .nils, .int .i64 0, .int .i64 0, .nils, .nils, .nils], [0, 0, 0, 0, 2, 0, 0, 1, 1, 1]⟩ := TyOk1.of (by kernel_rfl) rfl rfl (TKOk_struct (by kernel_rfl) (by kernel_rfl)) rfl
theorem t46 : TyOk1 Try.prog 46 ⟨.struct [(3, 0), (3, 1), (3, 2), (3, 3), (22, 4), (3, 5), (3, 6), (44, 7), (44, 8), (44, 9)] false, 10, 144, [.int .i64 0, .int .i64 0, .int .i64 0, .int .i64 0, .nils, .int .i64 0, .int .i64 0, .nils, .nils, .nils], [0, 0, 0, 0, 2, 0, 0, 1, 1, 1]⟩ := TyOk1.of (by kernel_rfl) rfl rfl (TKOk_struct (by kernel_rfl) (by kernel_rfl)) rfl
theorem t47 : TyOk1 Try.prog 47 ⟨.func, 1, 8, [.nilfn], [0]⟩ := TyOk1.of (by kernel_rfl) rfl rfl (TKOk_func (by kernel_rfl)) rfl
theorem t48 : TyOk1 Try.prog 48 ⟨.func, 1, 8, [.nilfn], [0]⟩ := TyOk1.of (by kernel_rfl) rfl rfl (TKOk_func (by kernel_rfl)) rfl
theorem t49 : TyOk1 Try.prog 49 ⟨.func, 1, 8, [.nilfn], [0]⟩ := TyOk1.of (by kernel_rfl) rfl rfl (TKOk_func (by kernel_rfl)) rfl
theorem t50 : TyOk1 Try.prog 50 ⟨.slice 62, 1, 24, [.nils], [9]⟩ := TyOk1.of (by kernel_rfl) rfl rfl (TKOk_slice (by kernel_rfl)) rfl
theorem t52 : TyOk1 Try.prog 52 ⟨.func, 1, 8, [.nilfn], [0]⟩ := TyOk1.of (by kernel_rfl) rfl rfl (TKOk_func (by kernel_rfl)) rfl
theorem t54 : TyOk1 Try.prog 54 ⟨.func, 1, 8, [.nilfn], [0]⟩ := TyOk1.of (by kernel_rfl) rfl rfl (TKOk_func (by kernel_rfl)) rfl
theorem t56 : TyOk1 Try.prog 56 ⟨.func, 1, 8, [.nilfn], [0]⟩ := TyOk1.of (by kernel_rfl) rfl rfl (TKOk_func (by kernel_rfl)) rfl
theorem t57 : TyOk1 Try.prog 57 ⟨.func, 1, 8, [.nilfn], [0]⟩ := TyOk1.of (by kernel_rfl) rfl rfl (TKOk_func (by kernel_rfl)) rfl
theorem t58 : TyOk1 Try.prog 58 ⟨.func, 1, 8, [.nilfn], [0]⟩ := TyOk1.of (by kernel_rfl) rfl rfl (TKOk_func (by kernel_rfl)) rfl
theorem t59 : TyOk1 Try.prog 59 ⟨.func, 1, 8, [.nilfn], [0]⟩ := TyOk1.of (by kernel_rfl) rfl rfl (TKOk_func (by kernel_rfl)) rfl
theorem t60 : TyOk1 Try.prog 60 ⟨.func, 1, 8, [.nilfn], [0]⟩ := TyOk1.of (by kernel_rfl) rfl rfl (TKOk_func (by kernel_rfl)) rfl
theorem t61 : TyOk1 Try.prog 61 ⟨.struct [(3, 0), (3, 1), (3, 2), (3, 3), (3, 4), (3, 5), (3, 6), (22, 7), (4, 8)] false, 9, 88, [.int .i64 0, .int .i64 0, .int .i64 0, .int .i64 0, .int .i64 0, .int .i64 0, .int .i64 0, .nils, .bool false], [0, 0, 0, 0, 0, 0, 0, 2, 0]⟩ := TyOk1.of (by kernel_rfl) rfl rfl (TKOk_struct (by kernel_rfl) (by kernel_rfl)) rfl
theorem t62 : TyOk1 Try.prog 62 ⟨.struct [(3, 0), (3, 1), (3, 2), (3, 3), (3, 4), (3, 5), (3, 6), (22, 7), (4, 8)] false, 9, 88, [.int .i64 0, .int .i64 0, .int .i64 0, .int .i64 0, .int .i64 0, .int .i64 0, .int .i64 0, .nils, .bool false], [0, 0, 0, 0, 0, 0, 0, 2, 0]⟩ := TyOk1.of (by kernel_rfl) rfl rfl (TKOk_struct (by kernel_rfl) (by kernel_rfl)) rfl
theorem t63 : TyOk1 Try.prog 63 ⟨.func, 1, 8, [.nilfn], [0]⟩ := TyOk1.of (by kernel_rfl) rfl rfl (TKOk_func (by kernel_rfl)) rfl
theorem t64 : TyOk1 Try.prog 64 ⟨.func, 1, 8, [.nilfn], [0]⟩ := TyOk1.of (by kernel_rfl) rfl rfl (TKOk_func (by kernel_rfl)) rfl
theorem t65 : TyOk1 Try.prog 65 ⟨.func, 1, 8, [.nilfn], [0]⟩ := TyOk1.of (by kernel_rfl) rfl rfl (TKOk_func (by kernel_rfl)) rfl
theorem t66 : TyOk1 Try.prog 66 ⟨.slice 9, 1, 24, [.nils], [1]⟩ := TyOk1.of (by kernel_rfl) rfl rfl (TKOk_slice (by kernel_rfl)) rfl
theorem t67 : TyOk1 Try.prog 67 ⟨.slice 75, 1, 24, [.nils], [3]⟩ := TyOk1.of (by kernel_rfl) rfl rfl (TKOk_slice (by kernel_rfl)) rfl
theorem t68 : TyOk1 Try.prog 68 ⟨.func, 1, 8, [.nilfn], [0]⟩ := TyOk1.of (by kernel_rfl) rfl rfl (TKOk_func (by kernel_rfl)) rfl
theorem t69 : TyOk1 Try.prog 69 ⟨.slice 46, 1, 24, [.nils], [10]⟩ := TyOk1.of (by kernel_rfl) rfl rfl (TKOk_slice (by kernel_rfl)) rfl
theorem t70 : TyOk1 Try.prog 70 ⟨.struct [(69, 0), (50, 1)] false, 2, 48, [.nils, .nils], [10, 9]⟩ := TyOk1.of (by kernel_rfl) rfl rfl (TKOk_struct (by kernel_rfl) (by kernel_rfl)) rfl
theorem t71 : TyOk1 Try.prog 71 ⟨.struct [(69, 0), (50, 1)] false, 2, 48, [.nils, .nils], [10, 9]⟩ := TyOk1.of (by kernel_rfl) rfl rfl (TKOk_struct (by kernel_rfl) (by kernel_rfl)) rfl
theorem t73 : TyOk1 Try.prog 73 ⟨.func, 1, 8, [.nilfn], [0]⟩ := TyOk1.of (by kernel_rfl) rfl rfl (TKOk_func (by kernel_rfl)) rfl
theorem t74 : TyOk1 Try.prog 74 ⟨.struct [(3, 0), (3, 1), (3, 2)] true, 3, 24, [.int .i64 0, .int .i64 0, .int .i64 0], [0, 0, 0]⟩ := TyOk1.of (by kernel_rfl) rfl rfl (TKOk_struct (by kernel_rfl) (by kernel_rfl)) rfl
theorem t75 : TyOk1 Try.prog 75 ⟨.struct [(3, 0), (3, 1), (3, 2)] true, 3, 24, [.int .i64 0, .int .i64 0, .int .i64 0], [0, 0, 0]⟩ := TyOk1.of (by kernel_rfl) rfl rfl (TKOk_struct (by kernel_rfl) (by kernel_rfl)) rfl
theorem t76 : TyOk1 Try.prog 76 ⟨.func, 1, 8, [.nilfn], [0]⟩ := TyOk1.of (by kernel_rfl) rfl rfl (TKOk_func (by kernel_rfl)) rfl
theorem t77 : TyOk1 Try.prog 77 ⟨.slice 82, 1, 24, [.nils], [3]⟩ := TyOk1.of (by kernel_rfl) rfl rfl (TKOk_slice (by kernel_rfl)) rfl
theorem t79 : TyOk1 Try.prog 79 ⟨.func, 1, 8, [.nilfn], [0]⟩ := TyOk1.of (by kernel_rfl) rfl rfl (TKOk_func (by kernel_rfl)) rfl
theorem t80 : TyOk1 Try.prog 80 ⟨.func, 1, 8, [.nilfn], [0]⟩ := TyOk1.of (by kernel_rfl) rfl rfl (TKOk_func (by kernel_rfl)) rfl
theorem t81 : TyOk1 Try.prog 81 ⟨.struct [(71, 0), (3, 2)] false, 3, 56, [.nils, .nils, .int .i64 0], [10, 9, 0]⟩ := TyOk1.of (by kernel_rfl) rfl rfl (TKOk_struct (by kernel_rfl) (by kernel_rfl)) rfl
theorem t82 : TyOk1 Try.prog 82 ⟨.struct [(71, 0), (3, 2)] false, 3, 56, [.nils, .nils, .int .i64 0], [10, 9, 0]⟩ := TyOk1.of (by kernel_rfl) rfl rfl (TKOk_struct (by kernel_rfl) (by kernel_rfl)) rfl
theorem t84 : TyOk1 Try.prog 84 ⟨.func, 1, 8, [.nilfn], [0]⟩ := TyOk1.of (by kernel_rfl) rfl rfl (TKOk_func (by kernel_rfl)) rfl
theorem t85 : TyOk1 Try.prog 85 ⟨.func, 1, 8, [.nilfn], [0]⟩ := TyOk1.of (by kernel_rfl) rfl rfl (TKOk_func (by kernel_rfl)) rfl
theorem t86 : TyOk1 Try.prog 86 ⟨.func, 1, 8, [.nilfn], [0]⟩ := TyOk1.of (by kernel_rfl) rfl rfl (TKOk_func (by kernel_rfl)) rfl
theorem t87 : TyOk1 Try.prog 87 ⟨.map 3 3, 1, 8, [.nilmp], [0]⟩ := TyOk1.of (by kernel_rfl) rfl rfl (TKOk_map (by kernel_rfl)) rfl
theorem t88 : TyOk1 Try.prog 88 ⟨.map 3 22, 1, 8, [.nilmp], [0]⟩ := TyOk1.of (by kernel_rfl) rfl rfl (TKOk_map (by kernel_rfl)) rfl
theorem t89 : TyOk1 Try.prog 89 ⟨.map 3 92, 1, 8, [.nilmp], [0]⟩ := TyOk1.of (by kernel_rfl) rfl rfl (TKOk_map (by kernel_rfl)) rfl
theorem t91 : TyOk1 Try.prog 91 ⟨.struct [(3, 0), (3, 1), (31, 2)] true, 4, 40, [.int .i64 0, .int .i64 0, .int .i64 0, .str []], [0, 0, 0, 0]⟩ := TyOk1.of (by kernel_rfl) rfl rfl (TKOk_struct (by kernel_rfl) (by kernel_rfl)) rfl
theorem t92 : TyOk1 Try.prog 92 ⟨.struct [(3, 0), (3, 1), (31, 2)] true, 4, 40, [.int .i64 0, .int .i64 0, .int .i64 0, .str []], [0, 0, 0, 0]⟩ := TyOk1.of (by kernel_rfl) rfl rfl (TKOk_struct (by kernel_rfl) (by kernel_rfl)) rfl
theorem t94 : TyOk1 Try.prog 94 ⟨.int .u64, 1, 8, [.int .u64 0], [0]⟩ := TyOk1.of (by kernel_rfl) rfl rfl (TKOk_int (by kernel_rfl)) rfl
theorem t96 : TyOk1 Try.prog 96 ⟨.func, 1, 8, [.nilfn], [0]⟩ := TyOk1.of (by kernel_rfl) rfl rfl (TKOk_func (by kernel_rfl)) rfl
theorem t97 : TyOk1 Try.prog 97 ⟨.func, 1, 8, [.nilfn], [0]⟩ := TyOk1.of (by kernel_rfl) rfl rfl (TKOk_func (by kernel_rfl)) rfl
theorem t98 : TyOk1 Try.prog 98 ⟨.func, 1, 8, [.nilfn], [0]⟩ := TyOk1.of (by kernel_rfl) rfl rfl (TKOk_func (by kernel_rfl)) rfl
theorem t99 : TyOk1 Try.prog 99 ⟨.func, 1, 8, [.nilfn], [0]⟩ := TyOk1.of (by kernel_rfl) rfl rfl (TKOk_func (by kernel_rfl)) rfl
theorem t100 : TyOk1 Try.prog 100 ⟨.func, 1, 8, [.nilfn], [0]⟩ := TyOk1.of (by kernel_rfl) rfl rfl (TKOk_func (by kernel_rfl)) rfl
theorem t101 : TyOk1 Try.prog 101 ⟨.func, 1, 8, [.nilfn], [0]⟩ := TyOk1.of (by kernel_rfl) rfl rfl (TKOk_func (by kernel_rfl)) rfl
theorem t102 : TyOk1 Try.prog 102 ⟨.ptr 46, 1, 8, [.nilp], [0]⟩ := TyOk1.of (by kernel_rfl) rfl rfl (TKOk_ptr (by kernel_rfl)) rfl
theorem t103 : TyOk1 Try.prog 103 ⟨.func, 1, 8, [.nilfn], [0]⟩ := TyOk1.of (by kernel_rfl) rfl rfl (TKOk_func (by kernel_rfl)) rfl
theorem t104 : TyOk1 Try.prog 104 ⟨.func, 1, 8, [.nilfn], [0]⟩ := TyOk1.of (by kernel_rfl) rfl rfl (TKOk_func (by kernel_rfl)) rfl
theorem t105 : TyOk1 Try.prog 105 ⟨.func, 1, 8, [.nilfn], [0]⟩ := TyOk1.of (by kernel_rfl) rfl rfl (TKOk_func (by kernel_rfl)) rfl
theorem t106 : TyOk1 Try.prog 106 ⟨.func, 1, 8, [.nilfn], [0]⟩ := TyOk1.of (by kernel_rfl) rfl rfl (TKOk_func (by kernel_rfl)) rfl
theorem t107 : TyOk1 Try.prog 107 ⟨.func, 1, 8, [.nilfn], [0]⟩ := TyOk1.of (by kernel_rfl) rfl rfl (TKOk_func (by kernel_rfl)) rfl
theorem t108 : TyOk1 Try.prog 108 ⟨.func, 1, 8, [.nilfn], [0]⟩ := TyOk1.of (by kernel_rfl) rfl rfl (TKOk_func (by kernel_rfl)) rfl
theorem t109 : TyOk1 Try.prog 109 ⟨.func, 1, 8, [.nilfn], [0]⟩ := TyOk1.of (by kernel_rfl) rfl rfl (TKOk_func (by kernel_rfl)) rfl
theorem t110 : TyOk1 Try.prog 110 ⟨.func, 1, 8, [.nilfn], [0]⟩ := TyOk1.of (by kernel_rfl) rfl rfl (TKOk_func (by kernel_rfl)) rfl
theorem t111 : TyOk1 Try.prog 111 ⟨.func, 1, 8, [.nilfn], [0]⟩ := TyOk1.of (by kernel_rfl) rfl rfl (TKOk_func (by kernel_rfl)) rfl
theorem t112 : TyOk1 Try.prog 112 ⟨.func, 1, 8, [.nilfn], [0]⟩ := TyOk1.of (by kernel_rfl) rfl rfl (TKOk_func (by kernel_rfl)) rfl
theorem t113 : TyOk1 Try.prog 113 ⟨.func, 1, 8, [.nilfn], [0]⟩ := TyOk1.of (by kernel_rfl) rfl rfl (TKOk_func (by kernel_rfl)) rfl
theorem t114 : TyOk1 Try.prog 114 ⟨.struct [(71, 0), (66, 2)] false, 3, 72, [.nils, .nils, .nils], [10, 9, 1]⟩ := TyOk1.of (by kernel_rfl) rfl rfl (TKOk_struct (by kernel_rfl) (by kernel_rfl)) rfl
theorem t115 : TyOk1 Try.prog 115 ⟨.struct [(71, 0), (66, 2)] false, 3, 72, [.nils, .nils, .nils], [10, 9, 1]⟩ := TyOk1.of (by kernel_rfl) rfl rfl (TKOk_struct (by kernel_rfl) (by kernel_rfl)) rfl
theorem t116 : TyOk1 Try.prog 116 ⟨.func, 1, 8, [.nilfn], [0]⟩ := TyOk1.of (by kernel_rfl) rfl rfl (TKOk_func (by kernel_rfl)) rfl
theorem t117 : TyOk1 Try.prog 117 ⟨.func, 1, 8, [.nilfn], [0]⟩ := TyOk1.of (by kernel_rfl) rfl rfl (TKOk_func (by kernel_rfl)) rfl
theorem t118 : TyOk1 Try.prog 118 ⟨.func, 1, 8, [.nilfn], [0]⟩ := TyOk1.of (by kernel_rfl) rfl rfl (TKOk_func (by kernel_rfl)) rfl
theorem t120 : TyOk1 Try.prog 120 ⟨.func, 1, 8, [.nilfn], [0]⟩ := TyOk1.of (by kernel_rfl) rfl rfl (TKOk_func (by kernel_rfl)) rfl
theorem t121 : TyOk1 Try.prog 121 ⟨.func, 1, 8, [.nilfn], [0]⟩ := TyOk1.of (by kernel_rfl) rfl rfl (TKOk_func (by kernel_rfl)) rfl
theorem t122 : TyOk1 Try.prog 122 ⟨.func, 1, 8, [.nilfn], [0]⟩ := TyOk1.of (by kernel_rfl) rfl rfl (TKOk_func (by kernel_rfl)) rfl
theorem t123 : TyOk1 Try.prog 123 ⟨.ptr 115, 1, 8, [.nilp], [0]⟩ := TyOk1.of (by kernel_rfl) rfl rfl (TKOk_ptr (by kernel_rfl)) rfl
theorem t124 : TyOk1 Try.prog 124 ⟨.func, 1, 8, [.nilfn], [0]⟩ := TyOk1.of (by kernel_rfl) rfl rfl (TKOk_func (by kernel_rfl)) rfl
theorem t125 : TyOk1 Try.prog 125 ⟨.func, 1, 8, [.nilfn], [0]⟩ := TyOk1.of (by kernel_rfl) rfl rfl (TKOk_func (by kernel_rfl)) rfl
theorem t126 : TyOk1 Try.prog 126 ⟨.func, 1, 8, [.nilfn], [0]⟩ := TyOk1.of (by kernel_rfl) rfl rfl (TKOk_func (by kernel_rfl)) rfl
theorem t127 : TyOk1 Try.prog 127 ⟨.func, 1, 8, [.nilfn], [0]⟩ := TyOk1.of (by kernel_rfl) rfl rfl (TKOk_func (by kernel_rfl)) rfl
theorem t128 : TyOk1 Try.prog 128 ⟨.func, 1, 8, [.nilfn], [0]⟩ := TyOk1.of (by kernel_rfl) rfl rfl (TKOk_func (by kernel_rfl)) rfl
theorem t134 : TyOk1 Try.prog 134 ⟨.func, 1, 8, [.nilfn], [0]⟩ := TyOk1.of (by kernel_rfl) rfl rfl (TKOk_func (by kernel_rfl)) rfl
theorem t135 : TyOk1 Try.prog 135 ⟨.int .u32, 1, 4, [.int .u32 0], [0]⟩ := TyOk1.of (by kernel_rfl) rfl rfl (TKOk_int (by kernel_rfl)) rfl
theorem t138 : TyOk1 Try.prog 138 ⟨.func, 1, 8, [.nilfn], [0]⟩ := TyOk1.of (by kernel_rfl) rfl rfl (TKOk_func (by kernel_rfl)) rfl
theorem t139 : TyOk1 Try.prog 139 ⟨.ptr 5, 1, 8, [.nilp], [0]⟩ := TyOk1.of (by kernel_rfl) rfl rfl (TKOk_ptr (by kernel_rfl)) rfl
def tab : List (Option TI) := [
  none,
  some ⟨.func, 1, 8, [.nilfn], [0]⟩,
  some ⟨.int .i64, 1, 8, [.int .i64 0], [0]⟩,
  some ⟨.int .i64, 1, 8, [.int .i64 0], [0]⟩,
  some ⟨.bool, 1, 1, [.bool false], [0]⟩,
  some ⟨.int .u8, 1, 1, [.int .u8 0], [0]⟩,
  none,
  none,
  none,
  some ⟨.str, 1, 16, [.str []], [0]⟩,
  none,
  none,
  some ⟨.int .u64, 1, 8, [.int .u64 0], [0]⟩,
  none,
  none,
  none,
  none,
  none,
  none,
  none,
  none,
  some ⟨.int .i32, 1, 4, [.int .i32 0], [0]⟩,
  some ⟨.slice 31, 1, 24, [.nils], [2]⟩,
  some ⟨.func, 1, 8, [.nilfn], [0]⟩,
  some ⟨.func, 1, 8, [.nilfn], [0]⟩,
  some ⟨.struct [(3, 0), (3, 1)] true, 2, 16, [.int .i64 0, .int .i64 0], [0, 0]⟩,
  some ⟨.struct [(3, 0), (3, 1)] true, 2, 16, [.int .i64 0, .int .i64 0], [0, 0]⟩,
  none,
  some ⟨.func, 1, 8, [.nilfn], [0]⟩,
  some ⟨.func, 1, 8, [.nilfn], [0]⟩,
  some ⟨.struct [(3, 0), (9, 1)] true, 2, 24, [.int .i64 0, .str []], [0, 0]⟩,
  some ⟨.struct [(3, 0), (9, 1)] true, 2, 24, [.int .i64 0, .str []], [0, 0]⟩,
  some ⟨.func, 1, 8, [.nilfn], [0]⟩,
  some ⟨.func, 1, 8, [.nilfn], [0]⟩,
  none,
  some ⟨.func, 1, 8, [.nilfn], [0]⟩,
  some ⟨.func, 1, 8, [.nilfn], [0]⟩,
  some ⟨.func, 1, 8, [.nilfn], [0]⟩,
  some ⟨.func, 1, 8, [.nilfn], [0]⟩,
  none,
  some ⟨.func, 1, 8, [.nilfn], [0]⟩,
  some ⟨.func, 1, 8, [.nilfn], [0]⟩,
  some ⟨.func, 1, 8, [.nilfn], [0]⟩,
  some ⟨.func, 1, 8, [.nilfn], [0]⟩,
  some ⟨.slice 3, 1, 24, [.nils], [1]⟩,
  some ⟨.struct [(3, 0), (3, 1), (3, 2), (3, 3), (22, 4), (3, 5), (3, 6), (44, 7), (44, 8), (44, 9)] false, 10, 144, [.int .i64 0, .int .i64 0, .int .i64 0, .int .i64 0, .nils, .int .i64 0, .int .i64 0, .nils, .nils, .nils], [0, 0, 0, 0, 2, 0, 0, 1, 1, 1]⟩,
  some ⟨.struct [(3, 0), (3, 1), (3, 2), (3, 3), (22, 4), (3, 5), (3, 6), (44, 7), (44, 8), (44, 9)] false, 10, 144, [.int .i64 0, .int .i64 0, .int .i64 0, .int .i64 0, .nils, .int .i64 0, .int .i64 0, .nils, .nils, .nils], [0, 0, 0, 0, 2, 0, 0, 1, 1, 1]⟩,
  some ⟨.func, 1, 8, [.nilfn], [0]⟩,
  some ⟨.func, 1, 8, [.nilfn], [0]⟩,
  some ⟨.func, 1, 8, [.nilfn], [0]⟩,
  some ⟨.slice 62, 1, 24, [.nils], [9]⟩,
  none,
  some ⟨.func, 1, 8, [.nilfn], [0]⟩,
  none,
  some ⟨.func, 1, 8, [.nilfn], [0]⟩,
  none,
  some ⟨.func, 1, 8, [.nilfn], [0]⟩,
  some ⟨.func, 1, 8, [.nilfn], [0]⟩,
  some ⟨.func, 1, 8, [.nilfn], [0]⟩,
  some ⟨.func, 1, 8, [.nilfn], [0]⟩,
  some ⟨.func, 1, 8, [.nilfn], [0]⟩,
  some ⟨.struct [(3, 0), (3, 1), (3, 2), (3, 3), (3, 4), (3, 5), (3, 6), (22, 7), (4, 8)] false, 9, 88, [.int .i64 0, .int .i64 0, .int .i64 0, .int .i64 0, .int .i64 0, .int .i64 0, .int .i64 0, .nils, .bool false], [0, 0, 0, 0, 0, 0, 0, 2, 0]⟩,
  some ⟨.struct [(3, 0), (3, 1), (3, 2), (3, 3), (3, 4), (3, 5), (3, 6), (22, 7), (4, 8)] false, 9, 88, [.int .i64 0, .int .i64 0, .int .i64 0, .int .i64 0, .int .i64 0, .int .i64 0, .int .i64 0, .nils, .bool false], [0, 0, 0, 0, 0, 0, 0, 2, 0]⟩,
  some ⟨.func, 1, 8, [.nilfn], [0]⟩,
  some ⟨.func, 1, 8, [.nilfn], [0]⟩,
  some ⟨.func, 1, 8, [.nilfn], [0]⟩,
  some ⟨.slice 9, 1, 24, [.nils], [1]⟩,
  some ⟨.slice 75, 1, 24, [.nils], [3]⟩,
  some ⟨.func, 1, 8, [.nilfn], [0]⟩,
  some ⟨.slice 46, 1, 24, [.nils], [10]⟩,
  some ⟨.struct [(69, 0), (50, 1)] false, 2, 48, [.nils, .nils], [10, 9]⟩,
  some ⟨.struct [(69, 0), (50, 1)] false, 2, 48, [.nils, .nils], [10, 9]⟩,
  none,
  some ⟨.func, 1, 8, [.nilfn], [0]⟩,
  some ⟨.struct [(3, 0), (3, 1), (3, 2)] true, 3, 24, [.int .i64 0, .int .i64 0, .int .i64 0], [0, 0, 0]⟩,
  some ⟨.struct [(3, 0), (3, 1), (3, 2)] true, 3, 24, [.int .i64 0, .int .i64 0, .int .i64 0], [0, 0, 0]⟩,
  some ⟨.func, 1, 8, [.nilfn], [0]⟩,
  some ⟨.slice 82, 1, 24, [.nils], [3]⟩,
  none,
  some ⟨.func, 1, 8, [.nilfn], [0]⟩,
  some ⟨.func, 1, 8, [.nilfn], [0]⟩,
  some ⟨.struct [(71, 0), (3, 2)] false, 3, 56, [.nils, .nils, .int .i64 0], [10, 9, 0]⟩,
  some ⟨.struct [(71, 0), (3, 2)] false, 3, 56, [.nils, .nils, .int .i64 0], [10, 9, 0]⟩,
  none,
  some ⟨.func, 1, 8, [.nilfn], [0]⟩,
  some ⟨.func, 1, 8, [.nilfn], [0]⟩,
  some ⟨.func, 1, 8, [.nilfn], [0]⟩,
  some ⟨.map 3 3, 1, 8, [.nilmp], [0]⟩,
  some ⟨.map 3 22, 1, 8, [.nilmp], [0]⟩,
  some ⟨.map 3 92, 1, 8, [.nilmp], [0]⟩,
  none,
  some ⟨.struct [(3, 0), (3, 1), (31, 2)] true, 4, 40, [.int .i64 0, .int .i64 0, .int .i64 0, .str []], [0, 0, 0, 0]⟩,
  some ⟨.struct [(3, 0), (3, 1), (31, 2)] true, 4, 40, [.int .i64 0, .int .i64 0, .int .i64 0, .str []], [0, 0, 0, 0]⟩,
  none,
  some ⟨.int .u64, 1, 8, [.int .u64 0], [0]⟩,
  none,
  some ⟨.func, 1, 8, [.nilfn], [0]⟩,
  some ⟨.func, 1, 8, [.nilfn], [0]⟩,
  some ⟨.func, 1, 8, [.nilfn], [0]⟩,
  some ⟨.func, 1, 8, [.nilfn], [0]⟩,
  some ⟨.func, 1, 8, [.nilfn], [0]⟩,
  some ⟨.func, 1, 8, [.nilfn], [0]⟩,
  some ⟨.ptr 46, 1, 8, [.nilp], [0]⟩,
  some ⟨.func, 1, 8, [.nilfn], [0]⟩,
  some ⟨.func, 1, 8, [.nilfn], [0]⟩,
  some ⟨.func, 1, 8, [.nilfn], [0]⟩,
  some ⟨.func, 1, 8, [.nilfn], [0]⟩,
  some ⟨.func, 1, 8, [.nilfn], [0]⟩,
  some ⟨.func, 1, 8, [.nilfn], [0]⟩,
  some ⟨.func, 1, 8, [.nilfn], [0]⟩,
  some ⟨.func, 1, 8, [.nilfn], [0]⟩,
  some ⟨.func, 1, 8, [.nilfn], [0]⟩,
  some ⟨.func, 1, 8, [.nilfn], [0]⟩,
  some ⟨.func, 1, 8, [.nilfn], [0]⟩,
  some ⟨.struct [(71, 0), (66, 2)] false, 3, 72, [.nils, .nils, .nils], [10, 9, 1]⟩,
  some ⟨.struct [(71, 0), (66, 2)] false, 3, 72, [.nils, .nils, .nils], [10, 9, 1]⟩,
  some ⟨.func, 1, 8, [.nilfn], [0]⟩,
  some ⟨.func, 1, 8, [.nilfn], [0]⟩,
  some ⟨.func, 1, 8, [.nilfn], [0]⟩,
  none,
  some ⟨.func, 1, 8, [.nilfn], [0]⟩,
  some ⟨.func, 1, 8, [.nilfn], [0]⟩,
  some ⟨.func, 1, 8, [.nilfn], [0]⟩,
  some ⟨.ptr 115, 1, 8, [.nilp], [0]⟩,
  some ⟨.func, 1, 8, [.nilfn], [0]⟩,
  some ⟨.func, 1, 8, [.nilfn], [0]⟩,
  some ⟨.func, 1, 8, [.nilfn], [0]⟩,
  some ⟨.func, 1, 8, [.nilfn], [0]⟩,
  some ⟨.func, 1, 8, [.nilfn], [0]⟩,
  none,
  none,
  none,
  none,
  none,
  some ⟨.func, 1, 8, [.nilfn], [0]⟩,
  some ⟨.int .u32, 1, 4, [.int .u32 0], [0]⟩,
  none,
  none,
  some ⟨.func, 1, 8, [.nilfn], [0]⟩,
  some ⟨.ptr 5, 1, 8, [.nilp], [0]⟩]
def τ : TyTab := tyTab tab
theorem all : TyAll Try.prog 0 tab := by
  unfold tab
  simp only [TyAll]
  exact ⟨t1, t2, t3, t4, t5, t9, t12, t21, t22, t23, t24, t25, t26, t28, t29, t30, t31, t32, t33, t35, t36, t37, t38, t40, t41, t42, t43, t44, t45, t46, t47, t48, t49, t50, t52, t54, t56, t57, t58, t59, t60, t61, t62, t63, t64, t65, t66, t67, t68, t69, t70, t71, t73, t74, t75, t76, t77, t79, t80, t81, t82, t84, t85, t86, t87, t88, t89, t91, t92, t94, t96, t97, t98, t99, t100, t101, t102, t103, t104, t105, t106, t107, t108, t109, t110, t111, t112, t113, t114, t115, t116, t117, t118, t120, t121, t122, t123, t124, t125, t126, t127, t128, t134, t135, t138, t139, trivial⟩
theorem ok : TyOk Try.prog τ := all.ok
theorem mixed : Try.prog.follows .mixedOrders = true := by kernel_rfl
end Ty
end Go.Proofs.Ytcnngkigpfpalaa
