/- The types of this seat, for the abstract machine: each row holds of the program. Written by a program (gsa.py). -/
import Derived.Test.YtgflfhdbihahcaaRows
import Derived.Test.YtgflfhdbihahcaaAbCall
namespace Go.Proofs.Ytgflfhdbihahcaa
open Go.Ab
namespace Ty
theorem t1 : TyOk1 Try.prog 1 ⟨.func, 1, 8, [.nilfn]⟩ := TyOk1.of (by kernel_rfl) rfl rfl (TKOk_func (by kernel_rfl)) rfl
theorem t2 : TyOk1 Try.prog 2 ⟨.int .i64, 1, 8, [.int .i64 0]⟩ := TyOk1.of (by kernel_rfl) rfl rfl (TKOk_int (by kernel_rfl)) rfl
theorem t3 : TyOk1 Try.prog 3 ⟨.int .i64, 1, 8, [.int .i64 0]⟩ := TyOk1.of (by kernel_rfl) rfl rfl (TKOk_int (by kernel_rfl)) rfl
theorem t4 : TyOk1 Try.prog 4 ⟨.bool, 1, 1, [.bool false]⟩ := TyOk1.of (by kernel_rfl) rfl rfl (TKOk_bool (by kernel_rfl)) rfl
theorem t5 : TyOk1 Try.prog 5 ⟨.int .u8, 1, 1, [.int .u8 0]⟩ := TyOk1.of (by kernel_rfl) rfl rfl (TKOk_int (by kernel_rfl)) rfl
theorem t9 : TyOk1 Try.prog 9 ⟨.str, 1, 16, [.str []]⟩ := TyOk1.of (by kernel_rfl) rfl rfl (TKOk_str (by kernel_rfl)) rfl
theorem t12 : TyOk1 Try.prog 12 ⟨.int .u64, 1, 8, [.int .u64 0]⟩ := TyOk1.of (by kernel_rfl) rfl rfl (TKOk_int (by kernel_rfl)) rfl
theorem t21 : TyOk1 Try.prog 21 ⟨.int .i32, 1, 4, [.int .i32 0]⟩ := TyOk1.of (by kernel_rfl) rfl rfl (TKOk_int (by kernel_rfl)) rfl
theorem t22 : TyOk1 Try.prog 22 ⟨.slice 3, 1, 24, [.nils]⟩ := TyOk1.of (by kernel_rfl) rfl rfl (TKOk_slice (by kernel_rfl)) rfl
theorem t23 : TyOk1 Try.prog 23 ⟨.func, 1, 8, [.nilfn]⟩ := TyOk1.of (by kernel_rfl) rfl rfl (TKOk_func (by kernel_rfl)) rfl
theorem t24 : TyOk1 Try.prog 24 ⟨.struct [(3, 0), (3, 1)] true, 2, 16, [.int .i64 0, .int .i64 0]⟩ := TyOk1.of (by kernel_rfl) rfl rfl (TKOk_struct (by kernel_rfl) (by kernel_rfl)) rfl
theorem t25 : TyOk1 Try.prog 25 ⟨.struct [(3, 0), (3, 1)] true, 2, 16, [.int .i64 0, .int .i64 0]⟩ := TyOk1.of (by kernel_rfl) rfl rfl (TKOk_struct (by kernel_rfl) (by kernel_rfl)) rfl
theorem t27 : TyOk1 Try.prog 27 ⟨.func, 1, 8, [.nilfn]⟩ := TyOk1.of (by kernel_rfl) rfl rfl (TKOk_func (by kernel_rfl)) rfl
theorem t28 : TyOk1 Try.prog 28 ⟨.func, 1, 8, [.nilfn]⟩ := TyOk1.of (by kernel_rfl) rfl rfl (TKOk_func (by kernel_rfl)) rfl
theorem t29 : TyOk1 Try.prog 29 ⟨.struct [(3, 0), (3, 1), (3, 2)] true, 3, 24, [.int .i64 0, .int .i64 0, .int .i64 0]⟩ := TyOk1.of (by kernel_rfl) rfl rfl (TKOk_struct (by kernel_rfl) (by kernel_rfl)) rfl
theorem t30 : TyOk1 Try.prog 30 ⟨.struct [(3, 0), (3, 1), (3, 2)] true, 3, 24, [.int .i64 0, .int .i64 0, .int .i64 0]⟩ := TyOk1.of (by kernel_rfl) rfl rfl (TKOk_struct (by kernel_rfl) (by kernel_rfl)) rfl
theorem t31 : TyOk1 Try.prog 31 ⟨.func, 1, 8, [.nilfn]⟩ := TyOk1.of (by kernel_rfl) rfl rfl (TKOk_func (by kernel_rfl)) rfl
theorem t33 : TyOk1 Try.prog 33 ⟨.func, 1, 8, [.nilfn]⟩ := TyOk1.of (by kernel_rfl) rfl rfl (TKOk_func (by kernel_rfl)) rfl
theorem t34 : TyOk1 Try.prog 34 ⟨.func, 1, 8, [.nilfn]⟩ := TyOk1.of (by kernel_rfl) rfl rfl (TKOk_func (by kernel_rfl)) rfl
theorem t35 : TyOk1 Try.prog 35 ⟨.func, 1, 8, [.nilfn]⟩ := TyOk1.of (by kernel_rfl) rfl rfl (TKOk_func (by kernel_rfl)) rfl
theorem t36 : TyOk1 Try.prog 36 ⟨.func, 1, 8, [.nilfn]⟩ := TyOk1.of (by kernel_rfl) rfl rfl (TKOk_func (by kernel_rfl)) rfl
theorem t37 : TyOk1 Try.prog 37 ⟨.func, 1, 8, [.nilfn]⟩ := TyOk1.of (by kernel_rfl) rfl rfl (TKOk_func (by kernel_rfl)) rfl
theorem t38 : TyOk1 Try.prog 38 ⟨.func, 1, 8, [.nilfn]⟩ := TyOk1.of (by kernel_rfl) rfl rfl (TKOk_func (by kernel_rfl)) rfl
theorem t39 : TyOk1 Try.prog 39 ⟨.slice 50, 1, 24, [.nils]⟩ := TyOk1.of (by kernel_rfl) rfl rfl (TKOk_slice (by kernel_rfl)) rfl
theorem t40 : TyOk1 Try.prog 40 ⟨.slice 60, 1, 24, [.nils]⟩ := TyOk1.of (by kernel_rfl) rfl rfl (TKOk_slice (by kernel_rfl)) rfl
theorem t41 : TyOk1 Try.prog 41 ⟨.slice 103, 1, 24, [.nils]⟩ := TyOk1.of (by kernel_rfl) rfl rfl (TKOk_slice (by kernel_rfl)) rfl
theorem t42 : TyOk1 Try.prog 42 ⟨.slice 105, 1, 24, [.nils]⟩ := TyOk1.of (by kernel_rfl) rfl rfl (TKOk_slice (by kernel_rfl)) rfl
theorem t43 : TyOk1 Try.prog 43 ⟨.struct [(3, 0), (30, 1), (22, 4), (40, 5), (41, 6), (42, 7)] false, 8, 128, [.int .i64 0, .int .i64 0, .int .i64 0, .int .i64 0, .nils, .nils, .nils, .nils]⟩ := TyOk1.of (by kernel_rfl) rfl rfl (TKOk_struct (by kernel_rfl) (by kernel_rfl)) rfl
theorem t44 : TyOk1 Try.prog 44 ⟨.struct [(3, 0), (30, 1), (22, 4), (40, 5), (41, 6), (42, 7)] false, 8, 128, [.int .i64 0, .int .i64 0, .int .i64 0, .int .i64 0, .nils, .nils, .nils, .nils]⟩ := TyOk1.of (by kernel_rfl) rfl rfl (TKOk_struct (by kernel_rfl) (by kernel_rfl)) rfl
theorem t46 : TyOk1 Try.prog 46 ⟨.func, 1, 8, [.nilfn]⟩ := TyOk1.of (by kernel_rfl) rfl rfl (TKOk_func (by kernel_rfl)) rfl
theorem t48 : TyOk1 Try.prog 48 ⟨.func, 1, 8, [.nilfn]⟩ := TyOk1.of (by kernel_rfl) rfl rfl (TKOk_func (by kernel_rfl)) rfl
theorem t49 : TyOk1 Try.prog 49 ⟨.struct [(3, 0), (3, 1), (3, 2)] true, 3, 24, [.int .i64 0, .int .i64 0, .int .i64 0]⟩ := TyOk1.of (by kernel_rfl) rfl rfl (TKOk_struct (by kernel_rfl) (by kernel_rfl)) rfl
theorem t50 : TyOk1 Try.prog 50 ⟨.struct [(3, 0), (3, 1), (3, 2)] true, 3, 24, [.int .i64 0, .int .i64 0, .int .i64 0]⟩ := TyOk1.of (by kernel_rfl) rfl rfl (TKOk_struct (by kernel_rfl) (by kernel_rfl)) rfl
theorem t51 : TyOk1 Try.prog 51 ⟨.slice 44, 1, 24, [.nils]⟩ := TyOk1.of (by kernel_rfl) rfl rfl (TKOk_slice (by kernel_rfl)) rfl
theorem t53 : TyOk1 Try.prog 53 ⟨.func, 1, 8, [.nilfn]⟩ := TyOk1.of (by kernel_rfl) rfl rfl (TKOk_func (by kernel_rfl)) rfl
theorem t54 : TyOk1 Try.prog 54 ⟨.func, 1, 8, [.nilfn]⟩ := TyOk1.of (by kernel_rfl) rfl rfl (TKOk_func (by kernel_rfl)) rfl
theorem t55 : TyOk1 Try.prog 55 ⟨.func, 1, 8, [.nilfn]⟩ := TyOk1.of (by kernel_rfl) rfl rfl (TKOk_func (by kernel_rfl)) rfl
theorem t56 : TyOk1 Try.prog 56 ⟨.func, 1, 8, [.nilfn]⟩ := TyOk1.of (by kernel_rfl) rfl rfl (TKOk_func (by kernel_rfl)) rfl
theorem t57 : TyOk1 Try.prog 57 ⟨.map 3 3, 1, 8, [.nilmp]⟩ := TyOk1.of (by kernel_rfl) rfl rfl (TKOk_map (by kernel_rfl)) rfl
theorem t58 : TyOk1 Try.prog 58 ⟨.func, 1, 8, [.nilfn]⟩ := TyOk1.of (by kernel_rfl) rfl rfl (TKOk_func (by kernel_rfl)) rfl
theorem t59 : TyOk1 Try.prog 59 ⟨.struct [(3, 0), (3, 1)] true, 2, 16, [.int .i64 0, .int .i64 0]⟩ := TyOk1.of (by kernel_rfl) rfl rfl (TKOk_struct (by kernel_rfl) (by kernel_rfl)) rfl
theorem t60 : TyOk1 Try.prog 60 ⟨.struct [(3, 0), (3, 1)] true, 2, 16, [.int .i64 0, .int .i64 0]⟩ := TyOk1.of (by kernel_rfl) rfl rfl (TKOk_struct (by kernel_rfl) (by kernel_rfl)) rfl
theorem t62 : TyOk1 Try.prog 62 ⟨.slice 9, 1, 24, [.nils]⟩ := TyOk1.of (by kernel_rfl) rfl rfl (TKOk_slice (by kernel_rfl)) rfl
theorem t63 : TyOk1 Try.prog 63 ⟨.struct [(3, 0), (4, 1), (62, 2), (3, 3)] false, 4, 48, [.int .i64 0, .bool false, .nils, .int .i64 0]⟩ := TyOk1.of (by kernel_rfl) rfl rfl (TKOk_struct (by kernel_rfl) (by kernel_rfl)) rfl
theorem t64 : TyOk1 Try.prog 64 ⟨.struct [(3, 0), (4, 1), (62, 2), (3, 3)] false, 4, 48, [.int .i64 0, .bool false, .nils, .int .i64 0]⟩ := TyOk1.of (by kernel_rfl) rfl rfl (TKOk_struct (by kernel_rfl) (by kernel_rfl)) rfl
theorem t65 : TyOk1 Try.prog 65 ⟨.func, 1, 8, [.nilfn]⟩ := TyOk1.of (by kernel_rfl) rfl rfl (TKOk_func (by kernel_rfl)) rfl
theorem t66 : TyOk1 Try.prog 66 ⟨.func, 1, 8, [.nilfn]⟩ := TyOk1.of (by kernel_rfl) rfl rfl (TKOk_func (by kernel_rfl)) rfl
theorem t67 : TyOk1 Try.prog 67 ⟨.func, 1, 8, [.nilfn]⟩ := TyOk1.of (by kernel_rfl) rfl rfl (TKOk_func (by kernel_rfl)) rfl
theorem t69 : TyOk1 Try.prog 69 ⟨.func, 1, 8, [.nilfn]⟩ := TyOk1.of (by kernel_rfl) rfl rfl (TKOk_func (by kernel_rfl)) rfl
theorem t70 : TyOk1 Try.prog 70 ⟨.func, 1, 8, [.nilfn]⟩ := TyOk1.of (by kernel_rfl) rfl rfl (TKOk_func (by kernel_rfl)) rfl
theorem t71 : TyOk1 Try.prog 71 ⟨.func, 1, 8, [.nilfn]⟩ := TyOk1.of (by kernel_rfl) rfl rfl (TKOk_func (by kernel_rfl)) rfl
theorem t72 : TyOk1 Try.prog 72 ⟨.func, 1, 8, [.nilfn]⟩ := TyOk1.of (by kernel_rfl) rfl rfl (TKOk_func (by kernel_rfl)) rfl
theorem t73 : TyOk1 Try.prog 73 ⟨.func, 1, 8, [.nilfn]⟩ := TyOk1.of (by kernel_rfl) rfl rfl (TKOk_func (by kernel_rfl)) rfl
theorem t74 : TyOk1 Try.prog 74 ⟨.func, 1, 8, [.nilfn]⟩ := TyOk1.of (by kernel_rfl) rfl rfl (TKOk_func (by kernel_rfl)) rfl
theorem t75 : TyOk1 Try.prog 75 ⟨.slice 64, 1, 24, [.nils]⟩ := TyOk1.of (by kernel_rfl) rfl rfl (TKOk_slice (by kernel_rfl)) rfl
theorem t77 : TyOk1 Try.prog 77 ⟨.func, 1, 8, [.nilfn]⟩ := TyOk1.of (by kernel_rfl) rfl rfl (TKOk_func (by kernel_rfl)) rfl
theorem t78 : TyOk1 Try.prog 78 ⟨.func, 1, 8, [.nilfn]⟩ := TyOk1.of (by kernel_rfl) rfl rfl (TKOk_func (by kernel_rfl)) rfl
theorem t79 : TyOk1 Try.prog 79 ⟨.slice 22, 1, 24, [.nils]⟩ := TyOk1.of (by kernel_rfl) rfl rfl (TKOk_slice (by kernel_rfl)) rfl
theorem t80 : TyOk1 Try.prog 80 ⟨.slice 89, 1, 24, [.nils]⟩ := TyOk1.of (by kernel_rfl) rfl rfl (TKOk_slice (by kernel_rfl)) rfl
theorem t81 : TyOk1 Try.prog 81 ⟨.struct [(75, 0), (62, 1), (79, 2), (80, 3)] false, 4, 96, [.nils, .nils, .nils, .nils]⟩ := TyOk1.of (by kernel_rfl) rfl rfl (TKOk_struct (by kernel_rfl) (by kernel_rfl)) rfl
theorem t82 : TyOk1 Try.prog 82 ⟨.struct [(75, 0), (62, 1), (79, 2), (80, 3)] false, 4, 96, [.nils, .nils, .nils, .nils]⟩ := TyOk1.of (by kernel_rfl) rfl rfl (TKOk_struct (by kernel_rfl) (by kernel_rfl)) rfl
theorem t84 : TyOk1 Try.prog 84 ⟨.func, 1, 8, [.nilfn]⟩ := TyOk1.of (by kernel_rfl) rfl rfl (TKOk_func (by kernel_rfl)) rfl
theorem t85 : TyOk1 Try.prog 85 ⟨.func, 1, 8, [.nilfn]⟩ := TyOk1.of (by kernel_rfl) rfl rfl (TKOk_func (by kernel_rfl)) rfl
theorem t86 : TyOk1 Try.prog 86 ⟨.func, 1, 8, [.nilfn]⟩ := TyOk1.of (by kernel_rfl) rfl rfl (TKOk_func (by kernel_rfl)) rfl
theorem t87 : TyOk1 Try.prog 87 ⟨.func, 1, 8, [.nilfn]⟩ := TyOk1.of (by kernel_rfl) rfl rfl (TKOk_func (by kernel_rfl)) rfl
theorem t88 : TyOk1 Try.prog 88 ⟨.struct [(3, 0), (22, 1), (75, 2), (4, 3), (62, 4), (22, 5)] false, 6, 112, [.int .i64 0, .nils, .nils, .bool false, .nils, .nils]⟩ := TyOk1.of (by kernel_rfl) rfl rfl (TKOk_struct (by kernel_rfl) (by kernel_rfl)) rfl
theorem t89 : TyOk1 Try.prog 89 ⟨.struct [(3, 0), (22, 1), (75, 2), (4, 3), (62, 4), (22, 5)] false, 6, 112, [.int .i64 0, .nils, .nils, .bool false, .nils, .nils]⟩ := TyOk1.of (by kernel_rfl) rfl rfl (TKOk_struct (by kernel_rfl) (by kernel_rfl)) rfl
theorem t90 : TyOk1 Try.prog 90 ⟨.func, 1, 8, [.nilfn]⟩ := TyOk1.of (by kernel_rfl) rfl rfl (TKOk_func (by kernel_rfl)) rfl
theorem t91 : TyOk1 Try.prog 91 ⟨.func, 1, 8, [.nilfn]⟩ := TyOk1.of (by kernel_rfl) rfl rfl (TKOk_func (by kernel_rfl)) rfl
theorem t92 : TyOk1 Try.prog 92 ⟨.func, 1, 8, [.nilfn]⟩ := TyOk1.of (by kernel_rfl) rfl rfl (TKOk_func (by kernel_rfl)) rfl
theorem t93 : TyOk1 Try.prog 93 ⟨.func, 1, 8, [.nilfn]⟩ := TyOk1.of (by kernel_rfl) rfl rfl (TKOk_func (by kernel_rfl)) rfl
theorem t94 : TyOk1 Try.prog 94 ⟨.ptr 97, 1, 8, [.nilp]⟩ := TyOk1.of (by kernel_rfl) rfl rfl (TKOk_ptr (by kernel_rfl)) rfl
theorem t95 : TyOk1 Try.prog 95 ⟨.func, 1, 8, [.nilfn]⟩ := TyOk1.of (by kernel_rfl) rfl rfl (TKOk_func (by kernel_rfl)) rfl
theorem t96 : TyOk1 Try.prog 96 ⟨.struct [(44, 0), (3, 8)] false, 9, 136, [.int .i64 0, .int .i64 0, .int .i64 0, .int .i64 0, .nils, .nils, .nils, .nils, .int .i64 0]⟩ := TyOk1.of (by kernel_rfl) rfl rfl (TKOk_struct (by kernel_rfl) (by kernel_rfl)) rfl
theorem t97 : TyOk1 Try.prog 97 ⟨.struct [(44, 0), (3, 8)] false, 9, 136, [.int .i64 0, .int .i64 0, .int .i64 0, .int .i64 0, .nils, .nils, .nils, .nils, .int .i64 0]⟩ := TyOk1.of (by kernel_rfl) rfl rfl (TKOk_struct (by kernel_rfl) (by kernel_rfl)) rfl
theorem t98 : TyOk1 Try.prog 98 ⟨.func, 1, 8, [.nilfn]⟩ := TyOk1.of (by kernel_rfl) rfl rfl (TKOk_func (by kernel_rfl)) rfl
theorem t100 : TyOk1 Try.prog 100 ⟨.func, 1, 8, [.nilfn]⟩ := TyOk1.of (by kernel_rfl) rfl rfl (TKOk_func (by kernel_rfl)) rfl
theorem t101 : TyOk1 Try.prog 101 ⟨.func, 1, 8, [.nilfn]⟩ := TyOk1.of (by kernel_rfl) rfl rfl (TKOk_func (by kernel_rfl)) rfl
theorem t102 : TyOk1 Try.prog 102 ⟨.struct [(3, 0), (3, 1), (3, 2)] true, 3, 24, [.int .i64 0, .int .i64 0, .int .i64 0]⟩ := TyOk1.of (by kernel_rfl) rfl rfl (TKOk_struct (by kernel_rfl) (by kernel_rfl)) rfl
theorem t103 : TyOk1 Try.prog 103 ⟨.struct [(3, 0), (3, 1), (3, 2)] true, 3, 24, [.int .i64 0, .int .i64 0, .int .i64 0]⟩ := TyOk1.of (by kernel_rfl) rfl rfl (TKOk_struct (by kernel_rfl) (by kernel_rfl)) rfl
theorem t104 : TyOk1 Try.prog 104 ⟨.struct [(3, 0), (60, 1)] true, 3, 24, [.int .i64 0, .int .i64 0, .int .i64 0]⟩ := TyOk1.of (by kernel_rfl) rfl rfl (TKOk_struct (by kernel_rfl) (by kernel_rfl)) rfl
theorem t105 : TyOk1 Try.prog 105 ⟨.struct [(3, 0), (60, 1)] true, 3, 24, [.int .i64 0, .int .i64 0, .int .i64 0]⟩ := TyOk1.of (by kernel_rfl) rfl rfl (TKOk_struct (by kernel_rfl) (by kernel_rfl)) rfl
theorem t106 : TyOk1 Try.prog 106 ⟨.func, 1, 8, [.nilfn]⟩ := TyOk1.of (by kernel_rfl) rfl rfl (TKOk_func (by kernel_rfl)) rfl
theorem t107 : TyOk1 Try.prog 107 ⟨.func, 1, 8, [.nilfn]⟩ := TyOk1.of (by kernel_rfl) rfl rfl (TKOk_func (by kernel_rfl)) rfl
theorem t108 : TyOk1 Try.prog 108 ⟨.func, 1, 8, [.nilfn]⟩ := TyOk1.of (by kernel_rfl) rfl rfl (TKOk_func (by kernel_rfl)) rfl
theorem t109 : TyOk1 Try.prog 109 ⟨.func, 1, 8, [.nilfn]⟩ := TyOk1.of (by kernel_rfl) rfl rfl (TKOk_func (by kernel_rfl)) rfl
theorem t110 : TyOk1 Try.prog 110 ⟨.struct [(82, 0), (62, 4)] false, 5, 120, [.nils, .nils, .nils, .nils, .nils]⟩ := TyOk1.of (by kernel_rfl) rfl rfl (TKOk_struct (by kernel_rfl) (by kernel_rfl)) rfl
theorem t111 : TyOk1 Try.prog 111 ⟨.struct [(82, 0), (62, 4)] false, 5, 120, [.nils, .nils, .nils, .nils, .nils]⟩ := TyOk1.of (by kernel_rfl) rfl rfl (TKOk_struct (by kernel_rfl) (by kernel_rfl)) rfl
theorem t112 : TyOk1 Try.prog 112 ⟨.func, 1, 8, [.nilfn]⟩ := TyOk1.of (by kernel_rfl) rfl rfl (TKOk_func (by kernel_rfl)) rfl
theorem t114 : TyOk1 Try.prog 114 ⟨.func, 1, 8, [.nilfn]⟩ := TyOk1.of (by kernel_rfl) rfl rfl (TKOk_func (by kernel_rfl)) rfl
theorem t115 : TyOk1 Try.prog 115 ⟨.func, 1, 8, [.nilfn]⟩ := TyOk1.of (by kernel_rfl) rfl rfl (TKOk_func (by kernel_rfl)) rfl
theorem t116 : TyOk1 Try.prog 116 ⟨.func, 1, 8, [.nilfn]⟩ := TyOk1.of (by kernel_rfl) rfl rfl (TKOk_func (by kernel_rfl)) rfl
theorem t117 : TyOk1 Try.prog 117 ⟨.func, 1, 8, [.nilfn]⟩ := TyOk1.of (by kernel_rfl) rfl rfl (TKOk_func (by kernel_rfl)) rfl
theorem t118 : TyOk1 Try.prog 118 ⟨.ptr 111, 1, 8, [.nilp]⟩ := TyOk1.of (by kernel_rfl) rfl rfl (TKOk_ptr (by kernel_rfl)) rfl
theorem t119 : TyOk1 Try.prog 119 ⟨.ptr 64, 1, 8, [.nilp]⟩ := TyOk1.of (by kernel_rfl) rfl rfl (TKOk_ptr (by kernel_rfl)) rfl
theorem t120 : TyOk1 Try.prog 120 ⟨.ptr 89, 1, 8, [.nilp]⟩ := TyOk1.of (by kernel_rfl) rfl rfl (TKOk_ptr (by kernel_rfl)) rfl
theorem t121 : TyOk1 Try.prog 121 ⟨.func, 1, 8, [.nilfn]⟩ := TyOk1.of (by kernel_rfl) rfl rfl (TKOk_func (by kernel_rfl)) rfl
theorem t122 : TyOk1 Try.prog 122 ⟨.func, 1, 8, [.nilfn]⟩ := TyOk1.of (by kernel_rfl) rfl rfl (TKOk_func (by kernel_rfl)) rfl
theorem t123 : TyOk1 Try.prog 123 ⟨.func, 1, 8, [.nilfn]⟩ := TyOk1.of (by kernel_rfl) rfl rfl (TKOk_func (by kernel_rfl)) rfl
theorem t124 : TyOk1 Try.prog 124 ⟨.func, 1, 8, [.nilfn]⟩ := TyOk1.of (by kernel_rfl) rfl rfl (TKOk_func (by kernel_rfl)) rfl
theorem t125 : TyOk1 Try.prog 125 ⟨.func, 1, 8, [.nilfn]⟩ := TyOk1.of (by kernel_rfl) rfl rfl (TKOk_func (by kernel_rfl)) rfl
theorem t126 : TyOk1 Try.prog 126 ⟨.ptr 3, 1, 8, [.nilp]⟩ := TyOk1.of (by kernel_rfl) rfl rfl (TKOk_ptr (by kernel_rfl)) rfl
theorem t127 : TyOk1 Try.prog 127 ⟨.func, 1, 8, [.nilfn]⟩ := TyOk1.of (by kernel_rfl) rfl rfl (TKOk_func (by kernel_rfl)) rfl
theorem t128 : TyOk1 Try.prog 128 ⟨.func, 1, 8, [.nilfn]⟩ := TyOk1.of (by kernel_rfl) rfl rfl (TKOk_func (by kernel_rfl)) rfl
theorem t129 : TyOk1 Try.prog 129 ⟨.ptr 41, 1, 8, [.nilp]⟩ := TyOk1.of (by kernel_rfl) rfl rfl (TKOk_ptr (by kernel_rfl)) rfl
theorem t130 : TyOk1 Try.prog 130 ⟨.func, 1, 8, [.nilfn]⟩ := TyOk1.of (by kernel_rfl) rfl rfl (TKOk_func (by kernel_rfl)) rfl
theorem t131 : TyOk1 Try.prog 131 ⟨.ptr 42, 1, 8, [.nilp]⟩ := TyOk1.of (by kernel_rfl) rfl rfl (TKOk_ptr (by kernel_rfl)) rfl
theorem t132 : TyOk1 Try.prog 132 ⟨.ptr 60, 1, 8, [.nilp]⟩ := TyOk1.of (by kernel_rfl) rfl rfl (TKOk_ptr (by kernel_rfl)) rfl
theorem t133 : TyOk1 Try.prog 133 ⟨.func, 1, 8, [.nilfn]⟩ := TyOk1.of (by kernel_rfl) rfl rfl (TKOk_func (by kernel_rfl)) rfl
theorem t134 : TyOk1 Try.prog 134 ⟨.func, 1, 8, [.nilfn]⟩ := TyOk1.of (by kernel_rfl) rfl rfl (TKOk_func (by kernel_rfl)) rfl
theorem t135 : TyOk1 Try.prog 135 ⟨.func, 1, 8, [.nilfn]⟩ := TyOk1.of (by kernel_rfl) rfl rfl (TKOk_func (by kernel_rfl)) rfl
theorem t136 : TyOk1 Try.prog 136 ⟨.func, 1, 8, [.nilfn]⟩ := TyOk1.of (by kernel_rfl) rfl rfl (TKOk_func (by kernel_rfl)) rfl
theorem t137 : TyOk1 Try.prog 137 ⟨.func, 1, 8, [.nilfn]⟩ := TyOk1.of (by kernel_rfl) rfl rfl (TKOk_func (by kernel_rfl)) rfl
theorem t143 : TyOk1 Try.prog 143 ⟨.func, 1, 8, [.nilfn]⟩ := TyOk1.of (by kernel_rfl) rfl rfl (TKOk_func (by kernel_rfl)) rfl
theorem t144 : TyOk1 Try.prog 144 ⟨.int .u32, 1, 4, [.int .u32 0]⟩ := TyOk1.of (by kernel_rfl) rfl rfl (TKOk_int (by kernel_rfl)) rfl
theorem t147 : TyOk1 Try.prog 147 ⟨.func, 1, 8, [.nilfn]⟩ := TyOk1.of (by kernel_rfl) rfl rfl (TKOk_func (by kernel_rfl)) rfl
theorem t148 : TyOk1 Try.prog 148 ⟨.ptr 5, 1, 8, [.nilp]⟩ := TyOk1.of (by kernel_rfl) rfl rfl (TKOk_ptr (by kernel_rfl)) rfl
def tab : List (Option TI) := [
  none,
  some ⟨.func, 1, 8, [.nilfn]⟩,
  some ⟨.int .i64, 1, 8, [.int .i64 0]⟩,
  some ⟨.int .i64, 1, 8, [.int .i64 0]⟩,
  some ⟨.bool, 1, 1, [.bool false]⟩,
  some ⟨.int .u8, 1, 1, [.int .u8 0]⟩,
  none,
  none,
  none,
  some ⟨.str, 1, 16, [.str []]⟩,
  none,
  none,
  some ⟨.int .u64, 1, 8, [.int .u64 0]⟩,
  none,
  none,
  none,
  none,
  none,
  none,
  none,
  none,
  some ⟨.int .i32, 1, 4, [.int .i32 0]⟩,
  some ⟨.slice 3, 1, 24, [.nils]⟩,
  some ⟨.func, 1, 8, [.nilfn]⟩,
  some ⟨.struct [(3, 0), (3, 1)] true, 2, 16, [.int .i64 0, .int .i64 0]⟩,
  some ⟨.struct [(3, 0), (3, 1)] true, 2, 16, [.int .i64 0, .int .i64 0]⟩,
  none,
  some ⟨.func, 1, 8, [.nilfn]⟩,
  some ⟨.func, 1, 8, [.nilfn]⟩,
  some ⟨.struct [(3, 0), (3, 1), (3, 2)] true, 3, 24, [.int .i64 0, .int .i64 0, .int .i64 0]⟩,
  some ⟨.struct [(3, 0), (3, 1), (3, 2)] true, 3, 24, [.int .i64 0, .int .i64 0, .int .i64 0]⟩,
  some ⟨.func, 1, 8, [.nilfn]⟩,
  none,
  some ⟨.func, 1, 8, [.nilfn]⟩,
  some ⟨.func, 1, 8, [.nilfn]⟩,
  some ⟨.func, 1, 8, [.nilfn]⟩,
  some ⟨.func, 1, 8, [.nilfn]⟩,
  some ⟨.func, 1, 8, [.nilfn]⟩,
  some ⟨.func, 1, 8, [.nilfn]⟩,
  some ⟨.slice 50, 1, 24, [.nils]⟩,
  some ⟨.slice 60, 1, 24, [.nils]⟩,
  some ⟨.slice 103, 1, 24, [.nils]⟩,
  some ⟨.slice 105, 1, 24, [.nils]⟩,
  some ⟨.struct [(3, 0), (30, 1), (22, 4), (40, 5), (41, 6), (42, 7)] false, 8, 128, [.int .i64 0, .int .i64 0, .int .i64 0, .int .i64 0, .nils, .nils, .nils, .nils]⟩,
  some ⟨.struct [(3, 0), (30, 1), (22, 4), (40, 5), (41, 6), (42, 7)] false, 8, 128, [.int .i64 0, .int .i64 0, .int .i64 0, .int .i64 0, .nils, .nils, .nils, .nils]⟩,
  none,
  some ⟨.func, 1, 8, [.nilfn]⟩,
  none,
  some ⟨.func, 1, 8, [.nilfn]⟩,
  some ⟨.struct [(3, 0), (3, 1), (3, 2)] true, 3, 24, [.int .i64 0, .int .i64 0, .int .i64 0]⟩,
  some ⟨.struct [(3, 0), (3, 1), (3, 2)] true, 3, 24, [.int .i64 0, .int .i64 0, .int .i64 0]⟩,
  some ⟨.slice 44, 1, 24, [.nils]⟩,
  none,
  some ⟨.func, 1, 8, [.nilfn]⟩,
  some ⟨.func, 1, 8, [.nilfn]⟩,
  some ⟨.func, 1, 8, [.nilfn]⟩,
  some ⟨.func, 1, 8, [.nilfn]⟩,
  some ⟨.map 3 3, 1, 8, [.nilmp]⟩,
  some ⟨.func, 1, 8, [.nilfn]⟩,
  some ⟨.struct [(3, 0), (3, 1)] true, 2, 16, [.int .i64 0, .int .i64 0]⟩,
  some ⟨.struct [(3, 0), (3, 1)] true, 2, 16, [.int .i64 0, .int .i64 0]⟩,
  none,
  some ⟨.slice 9, 1, 24, [.nils]⟩,
  some ⟨.struct [(3, 0), (4, 1), (62, 2), (3, 3)] false, 4, 48, [.int .i64 0, .bool false, .nils, .int .i64 0]⟩,
  some ⟨.struct [(3, 0), (4, 1), (62, 2), (3, 3)] false, 4, 48, [.int .i64 0, .bool false, .nils, .int .i64 0]⟩,
  some ⟨.func, 1, 8, [.nilfn]⟩,
  some ⟨.func, 1, 8, [.nilfn]⟩,
  some ⟨.func, 1, 8, [.nilfn]⟩,
  none,
  some ⟨.func, 1, 8, [.nilfn]⟩,
  some ⟨.func, 1, 8, [.nilfn]⟩,
  some ⟨.func, 1, 8, [.nilfn]⟩,
  some ⟨.func, 1, 8, [.nilfn]⟩,
  some ⟨.func, 1, 8, [.nilfn]⟩,
  some ⟨.func, 1, 8, [.nilfn]⟩,
  some ⟨.slice 64, 1, 24, [.nils]⟩,
  none,
  some ⟨.func, 1, 8, [.nilfn]⟩,
  some ⟨.func, 1, 8, [.nilfn]⟩,
  some ⟨.slice 22, 1, 24, [.nils]⟩,
  some ⟨.slice 89, 1, 24, [.nils]⟩,
  some ⟨.struct [(75, 0), (62, 1), (79, 2), (80, 3)] false, 4, 96, [.nils, .nils, .nils, .nils]⟩,
  some ⟨.struct [(75, 0), (62, 1), (79, 2), (80, 3)] false, 4, 96, [.nils, .nils, .nils, .nils]⟩,
  none,
  some ⟨.func, 1, 8, [.nilfn]⟩,
  some ⟨.func, 1, 8, [.nilfn]⟩,
  some ⟨.func, 1, 8, [.nilfn]⟩,
  some ⟨.func, 1, 8, [.nilfn]⟩,
  some ⟨.struct [(3, 0), (22, 1), (75, 2), (4, 3), (62, 4), (22, 5)] false, 6, 112, [.int .i64 0, .nils, .nils, .bool false, .nils, .nils]⟩,
  some ⟨.struct [(3, 0), (22, 1), (75, 2), (4, 3), (62, 4), (22, 5)] false, 6, 112, [.int .i64 0, .nils, .nils, .bool false, .nils, .nils]⟩,
  some ⟨.func, 1, 8, [.nilfn]⟩,
  some ⟨.func, 1, 8, [.nilfn]⟩,
  some ⟨.func, 1, 8, [.nilfn]⟩,
  some ⟨.func, 1, 8, [.nilfn]⟩,
  some ⟨.ptr 97, 1, 8, [.nilp]⟩,
  some ⟨.func, 1, 8, [.nilfn]⟩,
  some ⟨.struct [(44, 0), (3, 8)] false, 9, 136, [.int .i64 0, .int .i64 0, .int .i64 0, .int .i64 0, .nils, .nils, .nils, .nils, .int .i64 0]⟩,
  some ⟨.struct [(44, 0), (3, 8)] false, 9, 136, [.int .i64 0, .int .i64 0, .int .i64 0, .int .i64 0, .nils, .nils, .nils, .nils, .int .i64 0]⟩,
  some ⟨.func, 1, 8, [.nilfn]⟩,
  none,
  some ⟨.func, 1, 8, [.nilfn]⟩,
  some ⟨.func, 1, 8, [.nilfn]⟩,
  some ⟨.struct [(3, 0), (3, 1), (3, 2)] true, 3, 24, [.int .i64 0, .int .i64 0, .int .i64 0]⟩,
  some ⟨.struct [(3, 0), (3, 1), (3, 2)] true, 3, 24, [.int .i64 0, .int .i64 0, .int .i64 0]⟩,
  some ⟨.struct [(3, 0), (60, 1)] true, 3, 24, [.int .i64 0, .int .i64 0, .int .i64 0]⟩,
  some ⟨.struct [(3, 0), (60, 1)] true, 3, 24, [.int .i64 0, .int .i64 0, .int .i64 0]⟩,
  some ⟨.func, 1, 8, [.nilfn]⟩,
  some ⟨.func, 1, 8, [.nilfn]⟩,
  some ⟨.func, 1, 8, [.nilfn]⟩,
  some ⟨.func, 1, 8, [.nilfn]⟩,
  some ⟨.struct [(82, 0), (62, 4)] false, 5, 120, [.nils, .nils, .nils, .nils, .nils]⟩,
  some ⟨.struct [(82, 0), (62, 4)] false, 5, 120, [.nils, .nils, .nils, .nils, .nils]⟩,
  some ⟨.func, 1, 8, [.nilfn]⟩,
  none,
  some ⟨.func, 1, 8, [.nilfn]⟩,
  some ⟨.func, 1, 8, [.nilfn]⟩,
  some ⟨.func, 1, 8, [.nilfn]⟩,
  some ⟨.func, 1, 8, [.nilfn]⟩,
  some ⟨.ptr 111, 1, 8, [.nilp]⟩,
  some ⟨.ptr 64, 1, 8, [.nilp]⟩,
  some ⟨.ptr 89, 1, 8, [.nilp]⟩,
  some ⟨.func, 1, 8, [.nilfn]⟩,
  some ⟨.func, 1, 8, [.nilfn]⟩,
  some ⟨.func, 1, 8, [.nilfn]⟩,
  some ⟨.func, 1, 8, [.nilfn]⟩,
  some ⟨.func, 1, 8, [.nilfn]⟩,
  some ⟨.ptr 3, 1, 8, [.nilp]⟩,
  some ⟨.func, 1, 8, [.nilfn]⟩,
  some ⟨.func, 1, 8, [.nilfn]⟩,
  some ⟨.ptr 41, 1, 8, [.nilp]⟩,
  some ⟨.func, 1, 8, [.nilfn]⟩,
  some ⟨.ptr 42, 1, 8, [.nilp]⟩,
  some ⟨.ptr 60, 1, 8, [.nilp]⟩,
  some ⟨.func, 1, 8, [.nilfn]⟩,
  some ⟨.func, 1, 8, [.nilfn]⟩,
  some ⟨.func, 1, 8, [.nilfn]⟩,
  some ⟨.func, 1, 8, [.nilfn]⟩,
  some ⟨.func, 1, 8, [.nilfn]⟩,
  none,
  none,
  none,
  none,
  none,
  some ⟨.func, 1, 8, [.nilfn]⟩,
  some ⟨.int .u32, 1, 4, [.int .u32 0]⟩,
  none,
  none,
  some ⟨.func, 1, 8, [.nilfn]⟩,
  some ⟨.ptr 5, 1, 8, [.nilp]⟩]
def τ : TyTab := tyTab tab
theorem all : TyAll Try.prog 0 tab := by
  unfold tab
  simp only [TyAll]
  exact ⟨t1, t2, t3, t4, t5, t9, t12, t21, t22, t23, t24, t25, t27, t28, t29, t30, t31, t33, t34, t35, t36, t37, t38, t39, t40, t41, t42, t43, t44, t46, t48, t49, t50, t51, t53, t54, t55, t56, t57, t58, t59, t60, t62, t63, t64, t65, t66, t67, t69, t70, t71, t72, t73, t74, t75, t77, t78, t79, t80, t81, t82, t84, t85, t86, t87, t88, t89, t90, t91, t92, t93, t94, t95, t96, t97, t98, t100, t101, t102, t103, t104, t105, t106, t107, t108, t109, t110, t111, t112, t114, t115, t116, t117, t118, t119, t120, t121, t122, t123, t124, t125, t126, t127, t128, t129, t130, t131, t132, t133, t134, t135, t136, t137, t143, t144, t147, t148, trivial⟩
theorem ok : TyOk Try.prog τ := all.ok
theorem τ_1 : τ 1 = some ⟨.func, 1, 8, [.nilfn]⟩ := rfl
theorem τ_2 : τ 2 = some ⟨.int .i64, 1, 8, [.int .i64 0]⟩ := rfl
theorem τ_3 : τ 3 = some ⟨.int .i64, 1, 8, [.int .i64 0]⟩ := rfl
theorem τ_4 : τ 4 = some ⟨.bool, 1, 1, [.bool false]⟩ := rfl
theorem τ_5 : τ 5 = some ⟨.int .u8, 1, 1, [.int .u8 0]⟩ := rfl
theorem τ_9 : τ 9 = some ⟨.str, 1, 16, [.str []]⟩ := rfl
theorem τ_12 : τ 12 = some ⟨.int .u64, 1, 8, [.int .u64 0]⟩ := rfl
theorem τ_21 : τ 21 = some ⟨.int .i32, 1, 4, [.int .i32 0]⟩ := rfl
theorem τ_22 : τ 22 = some ⟨.slice 3, 1, 24, [.nils]⟩ := rfl
theorem τ_23 : τ 23 = some ⟨.func, 1, 8, [.nilfn]⟩ := rfl
theorem τ_24 : τ 24 = some ⟨.struct [(3, 0), (3, 1)] true, 2, 16, [.int .i64 0, .int .i64 0]⟩ := rfl
theorem sh_24 : shapeOf τ 5 24 = some [.int .i64, .int .i64] := rfl
theorem τ_25 : τ 25 = some ⟨.struct [(3, 0), (3, 1)] true, 2, 16, [.int .i64 0, .int .i64 0]⟩ := rfl
theorem sh_25 : shapeOf τ 5 25 = some [.int .i64, .int .i64] := rfl
theorem τ_27 : τ 27 = some ⟨.func, 1, 8, [.nilfn]⟩ := rfl
theorem τ_28 : τ 28 = some ⟨.func, 1, 8, [.nilfn]⟩ := rfl
theorem τ_29 : τ 29 = some ⟨.struct [(3, 0), (3, 1), (3, 2)] true, 3, 24, [.int .i64 0, .int .i64 0, .int .i64 0]⟩ := rfl
theorem sh_29 : shapeOf τ 5 29 = some [.int .i64, .int .i64, .int .i64] := rfl
theorem τ_30 : τ 30 = some ⟨.struct [(3, 0), (3, 1), (3, 2)] true, 3, 24, [.int .i64 0, .int .i64 0, .int .i64 0]⟩ := rfl
theorem sh_30 : shapeOf τ 5 30 = some [.int .i64, .int .i64, .int .i64] := rfl
theorem τ_31 : τ 31 = some ⟨.func, 1, 8, [.nilfn]⟩ := rfl
theorem τ_33 : τ 33 = some ⟨.func, 1, 8, [.nilfn]⟩ := rfl
theorem τ_34 : τ 34 = some ⟨.func, 1, 8, [.nilfn]⟩ := rfl
theorem τ_35 : τ 35 = some ⟨.func, 1, 8, [.nilfn]⟩ := rfl
theorem τ_36 : τ 36 = some ⟨.func, 1, 8, [.nilfn]⟩ := rfl
theorem τ_37 : τ 37 = some ⟨.func, 1, 8, [.nilfn]⟩ := rfl
theorem τ_38 : τ 38 = some ⟨.func, 1, 8, [.nilfn]⟩ := rfl
theorem τ_39 : τ 39 = some ⟨.slice 50, 1, 24, [.nils]⟩ := rfl
theorem τ_40 : τ 40 = some ⟨.slice 60, 1, 24, [.nils]⟩ := rfl
theorem τ_41 : τ 41 = some ⟨.slice 103, 1, 24, [.nils]⟩ := rfl
theorem τ_42 : τ 42 = some ⟨.slice 105, 1, 24, [.nils]⟩ := rfl
theorem τ_43 : τ 43 = some ⟨.struct [(3, 0), (30, 1), (22, 4), (40, 5), (41, 6), (42, 7)] false, 8, 128, [.int .i64 0, .int .i64 0, .int .i64 0, .int .i64 0, .nils, .nils, .nils, .nils]⟩ := rfl
theorem τ_44 : τ 44 = some ⟨.struct [(3, 0), (30, 1), (22, 4), (40, 5), (41, 6), (42, 7)] false, 8, 128, [.int .i64 0, .int .i64 0, .int .i64 0, .int .i64 0, .nils, .nils, .nils, .nils]⟩ := rfl
theorem τ_46 : τ 46 = some ⟨.func, 1, 8, [.nilfn]⟩ := rfl
theorem τ_48 : τ 48 = some ⟨.func, 1, 8, [.nilfn]⟩ := rfl
theorem τ_49 : τ 49 = some ⟨.struct [(3, 0), (3, 1), (3, 2)] true, 3, 24, [.int .i64 0, .int .i64 0, .int .i64 0]⟩ := rfl
theorem sh_49 : shapeOf τ 5 49 = some [.int .i64, .int .i64, .int .i64] := rfl
theorem τ_50 : τ 50 = some ⟨.struct [(3, 0), (3, 1), (3, 2)] true, 3, 24, [.int .i64 0, .int .i64 0, .int .i64 0]⟩ := rfl
theorem sh_50 : shapeOf τ 5 50 = some [.int .i64, .int .i64, .int .i64] := rfl
theorem τ_51 : τ 51 = some ⟨.slice 44, 1, 24, [.nils]⟩ := rfl
theorem τ_53 : τ 53 = some ⟨.func, 1, 8, [.nilfn]⟩ := rfl
theorem τ_54 : τ 54 = some ⟨.func, 1, 8, [.nilfn]⟩ := rfl
theorem τ_55 : τ 55 = some ⟨.func, 1, 8, [.nilfn]⟩ := rfl
theorem τ_56 : τ 56 = some ⟨.func, 1, 8, [.nilfn]⟩ := rfl
theorem τ_57 : τ 57 = some ⟨.map 3 3, 1, 8, [.nilmp]⟩ := rfl
theorem τ_58 : τ 58 = some ⟨.func, 1, 8, [.nilfn]⟩ := rfl
theorem τ_59 : τ 59 = some ⟨.struct [(3, 0), (3, 1)] true, 2, 16, [.int .i64 0, .int .i64 0]⟩ := rfl
theorem sh_59 : shapeOf τ 5 59 = some [.int .i64, .int .i64] := rfl
theorem τ_60 : τ 60 = some ⟨.struct [(3, 0), (3, 1)] true, 2, 16, [.int .i64 0, .int .i64 0]⟩ := rfl
theorem sh_60 : shapeOf τ 5 60 = some [.int .i64, .int .i64] := rfl
theorem τ_62 : τ 62 = some ⟨.slice 9, 1, 24, [.nils]⟩ := rfl
theorem τ_63 : τ 63 = some ⟨.struct [(3, 0), (4, 1), (62, 2), (3, 3)] false, 4, 48, [.int .i64 0, .bool false, .nils, .int .i64 0]⟩ := rfl
theorem τ_64 : τ 64 = some ⟨.struct [(3, 0), (4, 1), (62, 2), (3, 3)] false, 4, 48, [.int .i64 0, .bool false, .nils, .int .i64 0]⟩ := rfl
theorem τ_65 : τ 65 = some ⟨.func, 1, 8, [.nilfn]⟩ := rfl
theorem τ_66 : τ 66 = some ⟨.func, 1, 8, [.nilfn]⟩ := rfl
theorem τ_67 : τ 67 = some ⟨.func, 1, 8, [.nilfn]⟩ := rfl
theorem τ_69 : τ 69 = some ⟨.func, 1, 8, [.nilfn]⟩ := rfl
theorem τ_70 : τ 70 = some ⟨.func, 1, 8, [.nilfn]⟩ := rfl
theorem τ_71 : τ 71 = some ⟨.func, 1, 8, [.nilfn]⟩ := rfl
theorem τ_72 : τ 72 = some ⟨.func, 1, 8, [.nilfn]⟩ := rfl
theorem τ_73 : τ 73 = some ⟨.func, 1, 8, [.nilfn]⟩ := rfl
theorem τ_74 : τ 74 = some ⟨.func, 1, 8, [.nilfn]⟩ := rfl
theorem τ_75 : τ 75 = some ⟨.slice 64, 1, 24, [.nils]⟩ := rfl
theorem τ_77 : τ 77 = some ⟨.func, 1, 8, [.nilfn]⟩ := rfl
theorem τ_78 : τ 78 = some ⟨.func, 1, 8, [.nilfn]⟩ := rfl
theorem τ_79 : τ 79 = some ⟨.slice 22, 1, 24, [.nils]⟩ := rfl
theorem τ_80 : τ 80 = some ⟨.slice 89, 1, 24, [.nils]⟩ := rfl
theorem τ_81 : τ 81 = some ⟨.struct [(75, 0), (62, 1), (79, 2), (80, 3)] false, 4, 96, [.nils, .nils, .nils, .nils]⟩ := rfl
theorem τ_82 : τ 82 = some ⟨.struct [(75, 0), (62, 1), (79, 2), (80, 3)] false, 4, 96, [.nils, .nils, .nils, .nils]⟩ := rfl
theorem τ_84 : τ 84 = some ⟨.func, 1, 8, [.nilfn]⟩ := rfl
theorem τ_85 : τ 85 = some ⟨.func, 1, 8, [.nilfn]⟩ := rfl
theorem τ_86 : τ 86 = some ⟨.func, 1, 8, [.nilfn]⟩ := rfl
theorem τ_87 : τ 87 = some ⟨.func, 1, 8, [.nilfn]⟩ := rfl
theorem τ_88 : τ 88 = some ⟨.struct [(3, 0), (22, 1), (75, 2), (4, 3), (62, 4), (22, 5)] false, 6, 112, [.int .i64 0, .nils, .nils, .bool false, .nils, .nils]⟩ := rfl
theorem τ_89 : τ 89 = some ⟨.struct [(3, 0), (22, 1), (75, 2), (4, 3), (62, 4), (22, 5)] false, 6, 112, [.int .i64 0, .nils, .nils, .bool false, .nils, .nils]⟩ := rfl
theorem τ_90 : τ 90 = some ⟨.func, 1, 8, [.nilfn]⟩ := rfl
theorem τ_91 : τ 91 = some ⟨.func, 1, 8, [.nilfn]⟩ := rfl
theorem τ_92 : τ 92 = some ⟨.func, 1, 8, [.nilfn]⟩ := rfl
theorem τ_93 : τ 93 = some ⟨.func, 1, 8, [.nilfn]⟩ := rfl
theorem τ_94 : τ 94 = some ⟨.ptr 97, 1, 8, [.nilp]⟩ := rfl
theorem τ_95 : τ 95 = some ⟨.func, 1, 8, [.nilfn]⟩ := rfl
theorem τ_96 : τ 96 = some ⟨.struct [(44, 0), (3, 8)] false, 9, 136, [.int .i64 0, .int .i64 0, .int .i64 0, .int .i64 0, .nils, .nils, .nils, .nils, .int .i64 0]⟩ := rfl
theorem τ_97 : τ 97 = some ⟨.struct [(44, 0), (3, 8)] false, 9, 136, [.int .i64 0, .int .i64 0, .int .i64 0, .int .i64 0, .nils, .nils, .nils, .nils, .int .i64 0]⟩ := rfl
theorem τ_98 : τ 98 = some ⟨.func, 1, 8, [.nilfn]⟩ := rfl
theorem τ_100 : τ 100 = some ⟨.func, 1, 8, [.nilfn]⟩ := rfl
theorem τ_101 : τ 101 = some ⟨.func, 1, 8, [.nilfn]⟩ := rfl
theorem τ_102 : τ 102 = some ⟨.struct [(3, 0), (3, 1), (3, 2)] true, 3, 24, [.int .i64 0, .int .i64 0, .int .i64 0]⟩ := rfl
theorem sh_102 : shapeOf τ 5 102 = some [.int .i64, .int .i64, .int .i64] := rfl
theorem τ_103 : τ 103 = some ⟨.struct [(3, 0), (3, 1), (3, 2)] true, 3, 24, [.int .i64 0, .int .i64 0, .int .i64 0]⟩ := rfl
theorem sh_103 : shapeOf τ 5 103 = some [.int .i64, .int .i64, .int .i64] := rfl
theorem τ_104 : τ 104 = some ⟨.struct [(3, 0), (60, 1)] true, 3, 24, [.int .i64 0, .int .i64 0, .int .i64 0]⟩ := rfl
theorem sh_104 : shapeOf τ 5 104 = some [.int .i64, .int .i64, .int .i64] := rfl
theorem τ_105 : τ 105 = some ⟨.struct [(3, 0), (60, 1)] true, 3, 24, [.int .i64 0, .int .i64 0, .int .i64 0]⟩ := rfl
theorem sh_105 : shapeOf τ 5 105 = some [.int .i64, .int .i64, .int .i64] := rfl
theorem τ_106 : τ 106 = some ⟨.func, 1, 8, [.nilfn]⟩ := rfl
theorem τ_107 : τ 107 = some ⟨.func, 1, 8, [.nilfn]⟩ := rfl
theorem τ_108 : τ 108 = some ⟨.func, 1, 8, [.nilfn]⟩ := rfl
theorem τ_109 : τ 109 = some ⟨.func, 1, 8, [.nilfn]⟩ := rfl
theorem τ_110 : τ 110 = some ⟨.struct [(82, 0), (62, 4)] false, 5, 120, [.nils, .nils, .nils, .nils, .nils]⟩ := rfl
theorem τ_111 : τ 111 = some ⟨.struct [(82, 0), (62, 4)] false, 5, 120, [.nils, .nils, .nils, .nils, .nils]⟩ := rfl
theorem τ_112 : τ 112 = some ⟨.func, 1, 8, [.nilfn]⟩ := rfl
theorem τ_114 : τ 114 = some ⟨.func, 1, 8, [.nilfn]⟩ := rfl
theorem τ_115 : τ 115 = some ⟨.func, 1, 8, [.nilfn]⟩ := rfl
theorem τ_116 : τ 116 = some ⟨.func, 1, 8, [.nilfn]⟩ := rfl
theorem τ_117 : τ 117 = some ⟨.func, 1, 8, [.nilfn]⟩ := rfl
theorem τ_118 : τ 118 = some ⟨.ptr 111, 1, 8, [.nilp]⟩ := rfl
theorem τ_119 : τ 119 = some ⟨.ptr 64, 1, 8, [.nilp]⟩ := rfl
theorem τ_120 : τ 120 = some ⟨.ptr 89, 1, 8, [.nilp]⟩ := rfl
theorem τ_121 : τ 121 = some ⟨.func, 1, 8, [.nilfn]⟩ := rfl
theorem τ_122 : τ 122 = some ⟨.func, 1, 8, [.nilfn]⟩ := rfl
theorem τ_123 : τ 123 = some ⟨.func, 1, 8, [.nilfn]⟩ := rfl
theorem τ_124 : τ 124 = some ⟨.func, 1, 8, [.nilfn]⟩ := rfl
theorem τ_125 : τ 125 = some ⟨.func, 1, 8, [.nilfn]⟩ := rfl
theorem τ_126 : τ 126 = some ⟨.ptr 3, 1, 8, [.nilp]⟩ := rfl
theorem τ_127 : τ 127 = some ⟨.func, 1, 8, [.nilfn]⟩ := rfl
theorem τ_128 : τ 128 = some ⟨.func, 1, 8, [.nilfn]⟩ := rfl
theorem τ_129 : τ 129 = some ⟨.ptr 41, 1, 8, [.nilp]⟩ := rfl
theorem τ_130 : τ 130 = some ⟨.func, 1, 8, [.nilfn]⟩ := rfl
theorem τ_131 : τ 131 = some ⟨.ptr 42, 1, 8, [.nilp]⟩ := rfl
theorem τ_132 : τ 132 = some ⟨.ptr 60, 1, 8, [.nilp]⟩ := rfl
theorem τ_133 : τ 133 = some ⟨.func, 1, 8, [.nilfn]⟩ := rfl
theorem τ_134 : τ 134 = some ⟨.func, 1, 8, [.nilfn]⟩ := rfl
theorem τ_135 : τ 135 = some ⟨.func, 1, 8, [.nilfn]⟩ := rfl
theorem τ_136 : τ 136 = some ⟨.func, 1, 8, [.nilfn]⟩ := rfl
theorem τ_137 : τ 137 = some ⟨.func, 1, 8, [.nilfn]⟩ := rfl
theorem τ_143 : τ 143 = some ⟨.func, 1, 8, [.nilfn]⟩ := rfl
theorem τ_144 : τ 144 = some ⟨.int .u32, 1, 4, [.int .u32 0]⟩ := rfl
theorem τ_147 : τ 147 = some ⟨.func, 1, 8, [.nilfn]⟩ := rfl
theorem τ_148 : τ 148 = some ⟨.ptr 5, 1, 8, [.nilp]⟩ := rfl
end Ty
end Go.Proofs.Ytgflfhdbihahcaa
