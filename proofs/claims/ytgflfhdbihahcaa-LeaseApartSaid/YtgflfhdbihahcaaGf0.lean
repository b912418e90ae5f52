/- The program's functions as plain functions, and that they are these. Written by a program (dec2.py). -/
import Derived.Test.YtgflfhdbihahcaaTys
namespace Go.Proofs.Ytgflfhdbihahcaa
open Go Go.Dm
set_option linter.unusedVariables false
set_option linter.unusedSimpArgs false
set_option maxRecDepth 100000
namespace G
/- lease.number -/
noncomputable def lease_number (num : Int) : Bool :=
  (decide (0 ≤ num)) && (decide (num ≤ 1000000000))
theorem lease_number_ok (num : Int) (r : Bool) (hF : lease_number num = r) : Pe Try.prog 48 S.none [.int .i64 num] (.bool r) S.none := by
  refine Pe_of (N := 9) (res := [.tmp 2]) (ts := [4]) Ty.ok Fn.b48 Try.func48 rfl rfl rfl rfl rfl rfl ?_
  intro Q g hfin
  unfold lease_number at hF
  refine Wk_seq ?_
  refine WR [] [0] [] [] [] [] [] ⟨[(0, .int .i64 num)], [], [], [], []⟩ .nil (by kernel_rfl) ?_
  refine Wk_seq ?_
  refine WR [] [2] [] [] [] [] [] ⟨[(2, .bool ((decide (0 ≤ num)) && (decide (num ≤ 1000000000))))], [], [], [], []⟩ .nil (by kernel_rfl) ?_
  exact Wk_ret (hfin _ ⟨[], [], [], [], [], [], by first | (rw [← hF]; kernel_rfl) | kernel_rfl⟩)

/- lease.fault -/
noncomputable def lease_fault (code : Int) (at0 : Int) : Fault :=
  (⟨code, at0⟩ : Fault)
theorem lease_fault_ok (code : Int) (at0 : Int) (r : Fault) (hF : lease_fault code at0 = r) : Pe Try.prog 49 S.none [.int .i64 code, .int .i64 at0] (.agg [.int .i64 r.Code, .int .i64 r.At]) S.none := by
  refine Pe_of (N := 8) (res := [.cell 4 25]) (ts := [25]) Ty.ok Fn.b49 Try.func49 rfl rfl rfl rfl rfl rfl ?_
  intro Q g hfin
  unfold lease_fault at hF
  refine Wk_seq ?_
  refine WR [] [0, 1, 4] [4] [] [] [] [] ⟨[(0, .int .i64 code), (1, .int .i64 at0), (4, .ptr 4 0)], [(4, [.int .i64 0, .int .i64 0])], [], [], []⟩ .nil (by kernel_rfl) ?_
  refine Wk_seq ?_
  refine WR [] [4] [4] [] [] [] [] ⟨[(4, .ptr 4 0)], [(4, [.int .i64 code, .int .i64 at0])], [], [], []⟩ .nil (by kernel_rfl) ?_
  exact Wk_ret (hfin _ ⟨[], [], [], [], [], [], by first | (rw [← hF]; kernel_rfl) | kernel_rfl⟩)

/- lease.Check -/
noncomputable def lease_Check (l : Lease) : Fault :=
  lt (lease_number l.Holder) fun x =>
  lt (lease_number l.Epoch) fun x1 =>
  lt (lease_number l.Until) fun x2 =>
  if (((!x) || (!x1)) || (!x2)) = true then
    lt (lease_fault 3 0) fun x3 =>
    (⟨x3.Code, x3.At⟩ : Fault)
  else
    (⟨0, 0⟩ : Fault)
theorem lease_Check_ok (l : Lease) (r : Fault) (hF : lease_Check l = r) : Pe Try.prog 13 S.none [.agg (c_Lease l)] (.agg [.int .i64 r.Code, .int .i64 r.At]) S.none := by
  refine Pe_of (N := 21) (res := [.cell 2 25]) (ts := [25]) Ty.ok Fn.b13 Try.func13 rfl rfl rfl rfl rfl rfl ?_
  intro Q g hfin
  unfold lease_Check at hF
  refine Wk_seq ?_
  refine WR [] [1, 2] [1, 2] [] [] [] [] ⟨[(1, .ptr 1 0), (2, .ptr 2 0)], [(1, (c_Lease l)), (2, [.int .i64 0, .int .i64 0])], [], [], []⟩ .nil (by kernel_rfl) ?_
  refine Wk_seq ?_
  refine Wk_seq ?_
  obtain ⟨x, h0, hF⟩ := lt_split hF
  obtain ⟨x1, h1, hF⟩ := lt_split hF
  obtain ⟨x2, h2, hF⟩ := lt_split hF
  refine WR [.callB (.bool x), .callB (.bool x1), .callB (.bool x2)] [2, 18] [2] [] [] [] [] ⟨[(2, .ptr 2 0), (18, .bool (((!x) || (!x1)) || (!x2)))], [(2, [.int .i64 0, .int .i64 0])], [], [], []⟩ (.cons (lease_number_ok l.Holder x h0) (.cons (fun (ga0 : (!(!x)) = true) => (lease_number_ok l.Epoch x1 h1)) (.cons (fun (ga0 : (!((!x) || (!x1))) = true) => (lease_number_ok l.Until x2 h2)) .nil))) (by kernel_rfl) ?_
  refine Wk_split rfl (fun hb => ?_) (fun hb => ?_)
  · have hF := ite_t hF hb
    refine Wk_seq ?_
    obtain ⟨x3, h3, hF⟩ := lt_split hF
    refine WR [.callB (.agg [.int .i64 x3.Code, .int .i64 x3.At])] [2] [2] [] [] [] [] ⟨[(2, .ptr 2 0)], [(2, [.int .i64 x3.Code, .int .i64 x3.At])], [], [], []⟩ (.cons (lease_fault_ok 3 0 x3 h3) .nil) (by kernel_rfl) ?_
    exact Wk_ret (hfin _ ⟨[], [], [], [], [], [], by first | (rw [← hF]; kernel_rfl) | kernel_rfl⟩)
  · have hF := ite_f hF hb
    refine Wk_skip ?_
    refine Wk_seq ?_
    refine WR [] [2] [2] [] [] [] [] ⟨[(2, .ptr 2 0)], [(2, [.int .i64 0, .int .i64 0])], [], [], []⟩ .nil (by kernel_rfl) ?_
    exact Wk_ret (hfin _ ⟨[], [], [], [], [], [], by first | (rw [← hF]; kernel_rfl) | kernel_rfl⟩)

/- lease.spanned -/
noncomputable def lease_spanned (span : Int) : Fault :=
  if ((decide (span < 4)) || (decide (1000000 < span))) = true then
    lt (lease_fault 3 (-3)) fun x =>
    x
  else
    (⟨0, 0⟩ : Fault)
theorem lease_spanned_ok (span : Int) (r : Fault) (hF : lease_spanned span = r) : Pe Try.prog 52 S.none [.int .i64 span] (.agg [.int .i64 r.Code, .int .i64 r.At]) S.none := by
  refine Pe_of (N := 11) (res := [.cell 2 25]) (ts := [25]) Ty.ok Fn.b52 Try.func52 rfl rfl rfl rfl rfl rfl ?_
  intro Q g hfin
  unfold lease_spanned at hF
  refine Wk_seq ?_
  refine WR [] [0, 2] [2] [] [] [] [] ⟨[(0, .int .i64 span), (2, .ptr 2 0)], [(2, [.int .i64 0, .int .i64 0])], [], [], []⟩ .nil (by kernel_rfl) ?_
  refine Wk_seq ?_
  refine Wk_seq ?_
  refine WR [] [2, 8] [2] [] [] [] [] ⟨[(2, .ptr 2 0), (8, .bool ((decide (span < 4)) || (decide (1000000 < span))))], [(2, [.int .i64 0, .int .i64 0])], [], [], []⟩ .nil (by kernel_rfl) ?_
  refine Wk_split rfl (fun hb => ?_) (fun hb => ?_)
  · have hF := ite_t hF hb
    refine Wk_seq ?_
    obtain ⟨x, h0, hF⟩ := lt_split hF
    refine WR [.callB (.agg [.int .i64 x.Code, .int .i64 x.At])] [2] [2] [] [] [] [] ⟨[(2, .ptr 2 0)], [(2, [.int .i64 x.Code, .int .i64 x.At])], [], [], []⟩ (.cons (lease_fault_ok 3 (-3) x h0) .nil) (by kernel_rfl) ?_
    exact Wk_ret (hfin _ ⟨[], [], [], [], [], [], by first | (rw [← hF]; kernel_rfl) | kernel_rfl⟩)
  · have hF := ite_f hF hb
    refine Wk_skip ?_
    refine Wk_seq ?_
    refine WR [] [2] [2] [] [] [] [] ⟨[(2, .ptr 2 0)], [(2, [.int .i64 0, .int .i64 0])], [], [], []⟩ .nil (by kernel_rfl) ?_
    exact Wk_ret (hfin _ ⟨[], [], [], [], [], [], by first | (rw [← hF]; kernel_rfl) | kernel_rfl⟩)

/- lease.asked -/
noncomputable def lease_asked (l : Lease) (who : Int) (now : Int) (span : Int) : Fault :=
  lt (lease_Check l) fun x =>
  if (!decide (x.Code = 0)) = true then
    x
  else
    if ((decide (who < 1)) || (decide (1000000000 < who))) = true then
      lt (lease_fault 3 (-1)) fun x1 =>
      x1
    else
      lt (lease_number now) fun x2 =>
      if (!x2) = true then
        lt (lease_fault 3 (-2)) fun x3 =>
        x3
      else
        lt (lease_spanned span) fun x4 =>
        x4
theorem lease_asked_ok (l : Lease) (who : Int) (now : Int) (span : Int) (r : Fault) (hF : lease_asked l who now span = r) : Pe Try.prog 50 S.none [.agg (c_Lease l), .int .i64 who, .int .i64 now, .int .i64 span] (.agg [.int .i64 r.Code, .int .i64 r.At]) S.none := by
  refine Pe_of (N := 32) (res := [.cell 8 25]) (ts := [25]) Ty.ok Fn.b50 Try.func50 rfl rfl rfl rfl rfl rfl ?_
  intro Q g hfin
  unfold lease_asked at hF
  refine Wk_seq ?_
  refine WR [] [1, 2, 3, 4, 8] [4, 8] [] [] [] [] ⟨[(1, .int .i64 who), (2, .int .i64 now), (3, .int .i64 span), (4, .ptr 4 0), (8, .ptr 8 0)], [(4, (c_Lease l)), (8, [.int .i64 0, .int .i64 0])], [], [], []⟩ .nil (by kernel_rfl) ?_
  refine Wk_seq ?_
  obtain ⟨x, h0, hF⟩ := lt_split hF
  refine WR [.callB (.agg [.int .i64 x.Code, .int .i64 x.At])] [1, 2, 3, 8, 9] [8, 9] [] [] [] [] ⟨[(1, .int .i64 who), (2, .int .i64 now), (3, .int .i64 span), (8, .ptr 8 0), (9, .ptr 9 0)], [(8, [.int .i64 0, .int .i64 0]), (9, [.int .i64 x.Code, .int .i64 x.At])], [], [], []⟩ (.cons (lease_Check_ok l x h0) .nil) (by kernel_rfl) ?_
  refine Wk_seq ?_
  refine Wk_block ?_
  refine Wk_seq ?_
  refine WR [] [1, 2, 3, 8, 9, 12] [8, 9] [] [] [] [] ⟨[(1, .int .i64 who), (2, .int .i64 now), (3, .int .i64 span), (8, .ptr 8 0), (9, .ptr 9 0), (12, .bool (!decide (x.Code = 0)))], [(8, [.int .i64 0, .int .i64 0]), (9, [.int .i64 x.Code, .int .i64 x.At])], [], [], []⟩ .nil (by kernel_rfl) ?_
  refine Wk_split rfl (fun hb => ?_) (fun hb => ?_)
  · have hF := ite_t hF hb
    refine Wk_seq ?_
    refine WR [] [8] [8] [] [] [] [] ⟨[(8, .ptr 8 0)], [(8, [.int .i64 x.Code, .int .i64 x.At])], [], [], []⟩ .nil (by kernel_rfl) ?_
    exact Wk_ret (hfin _ ⟨[], [], [], [], [], [], by first | (rw [← hF]; kernel_rfl) | kernel_rfl⟩)
  · have hF := ite_f hF hb
    refine Wk_seq ?_
    refine WR [] [2, 3, 8, 17] [8] [] [] [] [] ⟨[(2, .int .i64 now), (3, .int .i64 span), (8, .ptr 8 0), (17, .bool ((decide (who < 1)) || (decide (1000000000 < who))))], [(8, [.int .i64 0, .int .i64 0])], [], [], []⟩ .nil (by kernel_rfl) ?_
    refine Wk_split rfl (fun hb => ?_) (fun hb => ?_)
    · have hF := ite_t hF hb
      refine Wk_seq ?_
      obtain ⟨x1, h1, hF⟩ := lt_split hF
      refine WR [.callB (.agg [.int .i64 x1.Code, .int .i64 x1.At])] [8] [8] [] [] [] [] ⟨[(8, .ptr 8 0)], [(8, [.int .i64 x1.Code, .int .i64 x1.At])], [], [], []⟩ (.cons (lease_fault_ok 3 (-1) x1 h1) .nil) (by kernel_rfl) ?_
      exact Wk_ret (hfin _ ⟨[], [], [], [], [], [], by first | (rw [← hF]; kernel_rfl) | kernel_rfl⟩)
    · have hF := ite_f hF hb
      refine Wk_seq ?_
      obtain ⟨x2, h2, hF⟩ := lt_split hF
      refine WR [.callB (.bool x2)] [3, 8, 25] [8] [] [] [] [] ⟨[(3, .int .i64 span), (8, .ptr 8 0), (25, .bool (!x2))], [(8, [.int .i64 0, .int .i64 0])], [], [], []⟩ (.cons (lease_number_ok now x2 h2) .nil) (by kernel_rfl) ?_
      refine Wk_split rfl (fun hb => ?_) (fun hb => ?_)
      · have hF := ite_t hF hb
        refine Wk_seq ?_
        obtain ⟨x3, h3, hF⟩ := lt_split hF
        refine WR [.callB (.agg [.int .i64 x3.Code, .int .i64 x3.At])] [8] [8] [] [] [] [] ⟨[(8, .ptr 8 0)], [(8, [.int .i64 x3.Code, .int .i64 x3.At])], [], [], []⟩ (.cons (lease_fault_ok 3 (-2) x3 h3) .nil) (by kernel_rfl) ?_
        exact Wk_ret (hfin _ ⟨[], [], [], [], [], [], by first | (rw [← hF]; kernel_rfl) | kernel_rfl⟩)
      · have hF := ite_f hF hb
        refine Wk_skip ?_
        refine Wk_blk ?_
        refine Wk_seq ?_
        obtain ⟨x4, h4, hF⟩ := lt_split hF
        refine WR [.callB (.agg [.int .i64 x4.Code, .int .i64 x4.At])] [8] [8] [] [] [] [] ⟨[(8, .ptr 8 0)], [(8, [.int .i64 x4.Code, .int .i64 x4.At])], [], [], []⟩ (.cons (lease_spanned_ok span x4 h4) .nil) (by kernel_rfl) ?_
        exact Wk_ret (hfin _ ⟨[], [], [], [], [], [], by first | (rw [← hF]; kernel_rfl) | kernel_rfl⟩)

/- lease.held -/
noncomputable def lease_held (l : Lease) (now : Int) : Bool :=
  (!decide (l.Holder = 0)) && (decide (now < l.Until))
theorem lease_held_ok (l : Lease) (now : Int) (r : Bool) (hF : lease_held l now = r) : Pe Try.prog 51 S.none [.agg (c_Lease l), .int .i64 now] (.bool r) S.none := by
  refine Pe_of (N := 14) (res := [.tmp 4]) (ts := [4]) Ty.ok Fn.b51 Try.func51 rfl rfl rfl rfl rfl rfl ?_
  intro Q g hfin
  unfold lease_held at hF
  refine Wk_seq ?_
  refine WR [] [1, 2] [2] [] [] [] [] ⟨[(1, .int .i64 now), (2, .ptr 2 0)], [(2, (c_Lease l))], [], [], []⟩ .nil (by kernel_rfl) ?_
  refine Wk_seq ?_
  refine WR [] [4] [] [] [] [] [] ⟨[(4, .bool ((!decide (l.Holder = 0)) && (decide (now < l.Until))))], [], [], [], []⟩ .nil (by kernel_rfl) ?_
  exact Wk_ret (hfin _ ⟨[], [], [], [], [], [], by first | (rw [← hF]; kernel_rfl) | kernel_rfl⟩)

/- lease.Grant -/
noncomputable def lease_Grant (l : Lease) (who : Int) (now : Int) (span : Int) : Lease × Fault :=
  lt (lease_asked l who now span) fun x =>
  if (!decide (x.Code = 0)) = true then
    ((⟨0, 0, 0⟩ : Lease), x)
  else
    lt (lease_held l now) fun x1 =>
    if x1 = true then
      lt (lease_fault 11 0) fun x2 =>
      ((⟨0, 0, 0⟩ : Lease), x2)
    else
      lt (lease_Check (⟨who, w64 (l.Epoch + 1), w64 (now + span)⟩ : Lease)) fun x3 =>
      if (!decide (x3.Code = 0)) = true then
        lt (lease_fault 9 0) fun x4 =>
        ((⟨0, 0, 0⟩ : Lease), x4)
      else
        ((⟨who, w64 (l.Epoch + 1), w64 (now + span)⟩ : Lease), (⟨0, 0⟩ : Fault))
theorem lease_Grant_ok (l : Lease) (who : Int) (now : Int) (span : Int) (r : Lease × Fault) (hF : lease_Grant l who now span = r) : Pe Try.prog 14 S.none [.agg (c_Lease l), .int .i64 who, .int .i64 now, .int .i64 span] (.tup [.agg (c_Lease r.1), .agg [.int .i64 r.2.Code, .int .i64 r.2.At]]) S.none := by
  refine Pe_of (N := 42) (res := [.cell 8 30, .cell 9 25]) (ts := [30, 25]) Ty.ok Fn.b14 Try.func14 rfl rfl rfl rfl rfl rfl ?_
  intro Q g hfin
  unfold lease_Grant at hF
  refine Wk_seq ?_
  refine WR [] [1, 2, 3, 4, 8, 9] [4, 8, 9] [] [] [] [] ⟨[(1, .int .i64 who), (2, .int .i64 now), (3, .int .i64 span), (4, .ptr 4 0), (8, .ptr 8 0), (9, .ptr 9 0)], [(4, (c_Lease l)), (8, [.int .i64 0, .int .i64 0, .int .i64 0]), (9, [.int .i64 0, .int .i64 0])], [], [], []⟩ .nil (by kernel_rfl) ?_
  refine Wk_seq ?_
  refine Wk_seq ?_
  obtain ⟨x, h0, hF⟩ := lt_split hF
  refine WR [.callB (.agg [.int .i64 x.Code, .int .i64 x.At])] [1, 2, 3, 4, 8, 9, 10] [4, 8, 9, 10] [] [] [] [] ⟨[(1, .int .i64 who), (2, .int .i64 now), (3, .int .i64 span), (4, .ptr 4 0), (8, .ptr 8 0), (9, .ptr 9 0), (10, .ptr 10 0)], [(4, (c_Lease l)), (8, [.int .i64 0, .int .i64 0, .int .i64 0]), (9, [.int .i64 0, .int .i64 0]), (10, [.int .i64 x.Code, .int .i64 x.At])], [], [], []⟩ (.cons (lease_asked_ok l who now span x h0) .nil) (by kernel_rfl) ?_
  refine Wk_seq ?_
  refine WR [] [1, 2, 3, 4, 8, 9, 10, 18] [4, 8, 9, 10] [] [] [] [] ⟨[(1, .int .i64 who), (2, .int .i64 now), (3, .int .i64 span), (4, .ptr 4 0), (8, .ptr 8 0), (9, .ptr 9 0), (10, .ptr 10 0), (18, .bool (!decide (x.Code = 0)))], [(4, (c_Lease l)), (8, [.int .i64 0, .int .i64 0, .int .i64 0]), (9, [.int .i64 0, .int .i64 0]), (10, [.int .i64 x.Code, .int .i64 x.At])], [], [], []⟩ .nil (by kernel_rfl) ?_
  refine Wk_split rfl (fun hb => ?_) (fun hb => ?_)
  · have hF := ite_t hF hb
    refine Wk_seq ?_
    refine WD [] [8, 9] [8, 9] [] [] [] [] ⟨[(8, .ptr 8 0), (9, .ptr 9 0)], [(8, [.int .i64 0, .int .i64 0, .int .i64 0]), (9, [.int .i64 x.Code, .int .i64 x.At])], [], [], []⟩ .nil (by kernel_rfl) ?_
    exact Wk_ret (hfin _ ⟨[], [], [], [], [], [], by first | (rw [← hF]; kernel_rfl) | kernel_rfl⟩)
  · have hF := ite_f hF hb
    refine Wk_skip ?_
    refine Wk_seq ?_
    refine Wk_seq ?_
    obtain ⟨x1, h1, hF⟩ := lt_split hF
    refine WR [.callB (.bool x1)] [1, 2, 3, 4, 8, 9, 23] [4, 8, 9] [] [] [] [] ⟨[(1, .int .i64 who), (2, .int .i64 now), (3, .int .i64 span), (4, .ptr 4 0), (8, .ptr 8 0), (9, .ptr 9 0), (23, .bool x1)], [(4, (c_Lease l)), (8, [.int .i64 0, .int .i64 0, .int .i64 0]), (9, [.int .i64 0, .int .i64 0])], [], [], []⟩ (.cons (lease_held_ok l now x1 h1) .nil) (by kernel_rfl) ?_
    refine Wk_split rfl (fun hb => ?_) (fun hb => ?_)
    · have hF := ite_t hF hb
      refine Wk_seq ?_
      obtain ⟨x2, h2, hF⟩ := lt_split hF
      refine WR [.callB (.agg [.int .i64 x2.Code, .int .i64 x2.At])] [8, 9] [8, 9] [] [] [] [] ⟨[(8, .ptr 8 0), (9, .ptr 9 0)], [(8, [.int .i64 0, .int .i64 0, .int .i64 0]), (9, [.int .i64 x2.Code, .int .i64 x2.At])], [], [], []⟩ (.cons (lease_fault_ok 11 0 x2 h2) .nil) (by kernel_rfl) ?_
      exact Wk_ret (hfin _ ⟨[], [], [], [], [], [], by first | (rw [← hF]; kernel_rfl) | kernel_rfl⟩)
    · have hF := ite_f hF hb
      refine Wk_skip ?_
      refine Wk_seq ?_
      refine WR [] [4, 8, 9] [4, 8, 9] [] [] [] [] ⟨[(4, .ptr 4 0), (8, .ptr 8 0), (9, .ptr 9 0)], [(4, [.int .i64 who, .int .i64 (w64 (l.Epoch + 1)), .int .i64 (w64 (now + span))]), (8, [.int .i64 0, .int .i64 0, .int .i64 0]), (9, [.int .i64 0, .int .i64 0])], [], [], []⟩ .nil (by kernel_rfl) ?_
      refine Wk_seq ?_
      refine Wk_seq ?_
      obtain ⟨x3, h3, hF⟩ := lt_split hF
      refine WR [.callB (.agg [.int .i64 x3.Code, .int .i64 x3.At])] [4, 8, 9, 37] [4, 8, 9] [] [] [] [] ⟨[(4, .ptr 4 0), (8, .ptr 8 0), (9, .ptr 9 0), (37, .bool (!decide (x3.Code = 0)))], [(4, [.int .i64 who, .int .i64 (w64 (l.Epoch + 1)), .int .i64 (w64 (now + span))]), (8, [.int .i64 0, .int .i64 0, .int .i64 0]), (9, [.int .i64 0, .int .i64 0])], [], [], []⟩ (.cons (lease_Check_ok (⟨who, w64 (l.Epoch + 1), w64 (now + span)⟩ : Lease) x3 h3) .nil) (by kernel_rfl) ?_
      refine Wk_split rfl (fun hb => ?_) (fun hb => ?_)
      · have hF := ite_t hF hb
        refine Wk_seq ?_
        obtain ⟨x4, h4, hF⟩ := lt_split hF
        refine WR [.callB (.agg [.int .i64 x4.Code, .int .i64 x4.At])] [8, 9] [8, 9] [] [] [] [] ⟨[(8, .ptr 8 0), (9, .ptr 9 0)], [(8, [.int .i64 0, .int .i64 0, .int .i64 0]), (9, [.int .i64 x4.Code, .int .i64 x4.At])], [], [], []⟩ (.cons (lease_fault_ok 9 0 x4 h4) .nil) (by kernel_rfl) ?_
        exact Wk_ret (hfin _ ⟨[], [], [], [], [], [], by first | (rw [← hF]; kernel_rfl) | kernel_rfl⟩)
      · have hF := ite_f hF hb
        refine Wk_skip ?_
        refine Wk_seq ?_
        refine WR [] [8, 9] [8, 9] [] [] [] [] ⟨[(8, .ptr 8 0), (9, .ptr 9 0)], [(8, [.int .i64 who, .int .i64 (w64 (l.Epoch + 1)), .int .i64 (w64 (now + span))]), (9, [.int .i64 0, .int .i64 0])], [], [], []⟩ .nil (by kernel_rfl) ?_
        exact Wk_ret (hfin _ ⟨[], [], [], [], [], [], by first | (rw [← hF]; kernel_rfl) | kernel_rfl⟩)

/- lease.sure -/
noncomputable def lease_sure (span : Int) : Int :=
  w64 (span - (w64 (Int.tdiv span 4)))
theorem lease_sure_ok (span : Int) (r : Int) (hF : lease_sure span = r) : Pe Try.prog 53 S.none [.int .i64 span] (.int .i64 r) S.none := by
  refine Pe_of (N := 7) (res := [.tmp 2]) (ts := [3]) Ty.ok Fn.b53 Try.func53 rfl rfl rfl rfl rfl rfl ?_
  intro Q g hfin
  unfold lease_sure at hF
  refine Wk_seq ?_
  refine WR [] [0] [] [] [] [] [] ⟨[(0, .int .i64 span)], [], [], [], []⟩ .nil (by kernel_rfl) ?_
  refine Wk_seq ?_
  refine WR [] [2] [] [] [] [] [] ⟨[(2, .int .i64 (w64 (span - (w64 (Int.tdiv span 4)))))], [], [], [], []⟩ (.cons (by decide : (4 : Int) ≠ 0) .nil) (by kernel_rfl) ?_
  exact Wk_ret (hfin _ ⟨[], [], [], [], [], [], by first | (rw [← hF]; kernel_rfl) | kernel_rfl⟩)

/- lease.Trust -/
noncomputable def lease_Trust (sent : Int) (span : Int) : Int × Fault :=
  lt (lease_number sent) fun x =>
  if (!x) = true then
    lt (lease_fault 3 0) fun x1 =>
    (0, x1)
  else
    lt (lease_spanned span) fun x2 =>
    if (!decide (x2.Code = 0)) = true then
      (0, x2)
    else
      lt (lease_sure span) fun x3 =>
      (w64 (sent + x3), (⟨0, 0⟩ : Fault))
theorem lease_Trust_ok (sent : Int) (span : Int) (r : Int × Fault) (hF : lease_Trust sent span = r) : Pe Try.prog 16 S.none [.int .i64 sent, .int .i64 span] (.tup [.int .i64 r.1, .agg [.int .i64 r.2.Code, .int .i64 r.2.At]]) S.none := by
  refine Pe_of (N := 22) (res := [.tmp 4, .cell 5 25]) (ts := [3, 25]) Ty.ok Fn.b16 Try.func16 rfl rfl rfl rfl rfl rfl ?_
  intro Q g hfin
  unfold lease_Trust at hF
  refine Wk_seq ?_
  refine WR [] [0, 1, 5] [5] [] [] [] [] ⟨[(0, .int .i64 sent), (1, .int .i64 span), (5, .ptr 5 0)], [(5, [.int .i64 0, .int .i64 0])], [], [], []⟩ .nil (by kernel_rfl) ?_
  refine Wk_seq ?_
  refine Wk_seq ?_
  obtain ⟨x, h0, hF⟩ := lt_split hF
  refine WR [.callB (.bool x)] [0, 1, 5, 9] [5] [] [] [] [] ⟨[(0, .int .i64 sent), (1, .int .i64 span), (5, .ptr 5 0), (9, .bool (!x))], [(5, [.int .i64 0, .int .i64 0])], [], [], []⟩ (.cons (lease_number_ok sent x h0) .nil) (by kernel_rfl) ?_
  refine Wk_split rfl (fun hb => ?_) (fun hb => ?_)
  · have hF := ite_t hF hb
    refine Wk_seq ?_
    obtain ⟨x1, h1, hF⟩ := lt_split hF
    refine WR [.callB (.agg [.int .i64 x1.Code, .int .i64 x1.At])] [4, 5] [5] [] [] [] [] ⟨[(4, .int .i64 0), (5, .ptr 5 0)], [(5, [.int .i64 x1.Code, .int .i64 x1.At])], [], [], []⟩ (.cons (lease_fault_ok 3 0 x1 h1) .nil) (by kernel_rfl) ?_
    exact Wk_ret (hfin _ ⟨[], [], [], [], [], [], by first | (rw [← hF]; kernel_rfl) | kernel_rfl⟩)
  · have hF := ite_f hF hb
    refine Wk_skip ?_
    refine Wk_seq ?_
    refine Wk_seq ?_
    obtain ⟨x2, h2, hF⟩ := lt_split hF
    refine WR [.callB (.agg [.int .i64 x2.Code, .int .i64 x2.At])] [0, 1, 5, 6] [5, 6] [] [] [] [] ⟨[(0, .int .i64 sent), (1, .int .i64 span), (5, .ptr 5 0), (6, .ptr 6 0)], [(5, [.int .i64 0, .int .i64 0]), (6, [.int .i64 x2.Code, .int .i64 x2.At])], [], [], []⟩ (.cons (lease_spanned_ok span x2 h2) .nil) (by kernel_rfl) ?_
    refine Wk_seq ?_
    refine WR [] [0, 1, 5, 6, 15] [5, 6] [] [] [] [] ⟨[(0, .int .i64 sent), (1, .int .i64 span), (5, .ptr 5 0), (6, .ptr 6 0), (15, .bool (!decide (x2.Code = 0)))], [(5, [.int .i64 0, .int .i64 0]), (6, [.int .i64 x2.Code, .int .i64 x2.At])], [], [], []⟩ .nil (by kernel_rfl) ?_
    refine Wk_split rfl (fun hb => ?_) (fun hb => ?_)
    · have hF := ite_t hF hb
      refine Wk_seq ?_
      refine WD [] [4, 5] [5] [] [] [] [] ⟨[(4, .int .i64 0), (5, .ptr 5 0)], [(5, [.int .i64 x2.Code, .int .i64 x2.At])], [], [], []⟩ .nil (by kernel_rfl) ?_
      exact Wk_ret (hfin _ ⟨[], [], [], [], [], [], by first | (rw [← hF]; kernel_rfl) | kernel_rfl⟩)
    · have hF := ite_f hF hb
      refine Wk_skip ?_
      refine Wk_seq ?_
      obtain ⟨x3, h3, hF⟩ := lt_split hF
      refine WR [.callB (.int .i64 x3)] [4, 5] [5] [] [] [] [] ⟨[(4, .int .i64 (w64 (sent + x3))), (5, .ptr 5 0)], [(5, [.int .i64 0, .int .i64 0])], [], [], []⟩ (.cons (lease_sure_ok span x3 h3) .nil) (by kernel_rfl) ?_
      exact Wk_ret (hfin _ ⟨[], [], [], [], [], [], by first | (rw [← hF]; kernel_rfl) | kernel_rfl⟩)

/- tabularylaw.leaseBegun -/
noncomputable def law_leaseBegun  : Bool :=
  lt (lease_Grant (⟨0, 0, 0⟩ : Lease) 1 0 8) fun x =>
  lt (lease_Trust 2 8) fun x1 =>
  lt ((((decide (x.2.Code = 0)) && (decide (x1.2.Code = 0))) && (decide (x.1.Holder = 1) && (decide (x.1.Epoch = 1) && (decide (x.1.Until = 8) && true)))) && (decide (x1.1 = 8))) fun (v : Bool) =>
  v
theorem law_leaseBegun_ok  (r : Bool) (hF : law_leaseBegun  = r) : Pe Try.prog 11 S.none [] (.bool r) S.none := by
  refine Pe_of (N := 31) (res := [.tmp 0]) (ts := [4]) Ty.ok Fn.b11 Try.func11 rfl rfl rfl rfl rfl rfl ?_
  intro Q g hfin
  unfold law_leaseBegun at hF
  refine Wk_seq ?_
  refine WR [] [] [] [] [] [] [] ⟨[], [], [], [], []⟩ .nil (by kernel_rfl) ?_
  refine Wk_seq ?_
  obtain ⟨x, h0, hF⟩ := lt_split hF
  refine WR [.callB (.tup [.agg (c_Lease x.1), .agg [.int .i64 x.2.Code, .int .i64 x.2.At]])] [1, 2] [1, 2] [] [] [] [] ⟨[(1, .ptr 1 0), (2, .ptr 2 0)], [(1, (c_Lease x.1)), (2, [.int .i64 x.2.Code, .int .i64 x.2.At])], [], [], []⟩ (.cons (lease_Grant_ok (⟨0, 0, 0⟩ : Lease) 1 0 8 x h0) .nil) (by kernel_rfl) ?_
  refine Wk_seq ?_
  obtain ⟨x1, h1, hF⟩ := lt_split hF
  refine WR [.callB (.tup [.int .i64 x1.1, .agg [.int .i64 x1.2.Code, .int .i64 x1.2.At]])] [1, 2, 3, 4] [1, 2, 4] [] [] [] [] ⟨[(1, .ptr 1 0), (2, .ptr 2 0), (3, .int .i64 x1.1), (4, .ptr 4 0)], [(1, (c_Lease x.1)), (2, [.int .i64 x.2.Code, .int .i64 x.2.At]), (4, [.int .i64 x1.2.Code, .int .i64 x1.2.At])], [], [], []⟩ (.cons (lease_Trust_ok 2 8 x1 h1) .nil) (by kernel_rfl) ?_
  refine Wk_seq ?_
  refine WRL ((((decide (x.2.Code = 0)) && (decide (x1.2.Code = 0))) && (decide (x.1.Holder = 1) && (decide (x.1.Epoch = 1) && (decide (x.1.Until = 8) && true)))) && (decide (x1.1 = 8))) (fun v : Bool => ⟨[(0, .bool v)], [], [], [], []⟩) [] [0] [] [] [] [] [] .nil (by kernel_rfl) (fun v hv => ?_)
  have hF := lt_elim hF hv
  exact Wk_ret (hfin _ ⟨[], [], [], [], [], [], by first | (rw [← hF]; kernel_rfl) | kernel_rfl⟩)

/- lease.Renew -/
noncomputable def lease_Renew (l : Lease) (who : Int) (epoch : Int) (now : Int) (span : Int) : Lease × Fault :=
  lt (lease_asked l who now span) fun x =>
  if (!decide (x.Code = 0)) = true then
    ((⟨0, 0, 0⟩ : Lease), x)
  else
    if ((!decide (l.Holder = who)) || (!decide (l.Epoch = epoch))) = true then
      lt (lease_fault 6 0) fun x1 =>
      ((⟨0, 0, 0⟩ : Lease), x1)
    else
      lt (lease_held l now) fun x2 =>
      if (!x2) = true then
        lt (lease_fault 12 0) fun x3 =>
        ((⟨0, 0, 0⟩ : Lease), x3)
      else
        lt (lease_Check (⟨l.Holder, l.Epoch, (max l.Until (w64 (now + span)))⟩ : Lease)) fun x4 =>
        if (!decide (x4.Code = 0)) = true then
          lt (lease_fault 9 0) fun x5 =>
          ((⟨0, 0, 0⟩ : Lease), x5)
        else
          ((⟨l.Holder, l.Epoch, (max l.Until (w64 (now + span)))⟩ : Lease), (⟨0, 0⟩ : Fault))
theorem lease_Renew_ok (l : Lease) (who : Int) (epoch : Int) (now : Int) (span : Int) (r : Lease × Fault) (hF : lease_Renew l who epoch now span = r) : Pe Try.prog 15 S.none [.agg (c_Lease l), .int .i64 who, .int .i64 epoch, .int .i64 now, .int .i64 span] (.tup [.agg (c_Lease r.1), .agg [.int .i64 r.2.Code, .int .i64 r.2.At]]) S.none := by
  refine Pe_of (N := 58) (res := [.cell 10 30, .cell 11 25]) (ts := [30, 25]) Ty.ok Fn.b15 Try.func15 rfl rfl rfl rfl rfl rfl ?_
  intro Q g hfin
  unfold lease_Renew at hF
  refine Wk_seq ?_
  refine WR [] [1, 2, 3, 4, 5, 10, 11] [5, 10, 11] [] [] [] [] ⟨[(1, .int .i64 who), (2, .int .i64 epoch), (3, .int .i64 now), (4, .int .i64 span), (5, .ptr 5 0), (10, .ptr 10 0), (11, .ptr 11 0)], [(5, (c_Lease l)), (10, [.int .i64 0, .int .i64 0, .int .i64 0]), (11, [.int .i64 0, .int .i64 0])], [], [], []⟩ .nil (by kernel_rfl) ?_
  refine Wk_seq ?_
  refine Wk_seq ?_
  obtain ⟨x, h0, hF⟩ := lt_split hF
  refine WR [.callB (.agg [.int .i64 x.Code, .int .i64 x.At])] [1, 2, 3, 4, 5, 10, 11, 12] [5, 10, 11, 12] [] [] [] [] ⟨[(1, .int .i64 who), (2, .int .i64 epoch), (3, .int .i64 now), (4, .int .i64 span), (5, .ptr 5 0), (10, .ptr 10 0), (11, .ptr 11 0), (12, .ptr 12 0)], [(5, (c_Lease l)), (10, [.int .i64 0, .int .i64 0, .int .i64 0]), (11, [.int .i64 0, .int .i64 0]), (12, [.int .i64 x.Code, .int .i64 x.At])], [], [], []⟩ (.cons (lease_asked_ok l who now span x h0) .nil) (by kernel_rfl) ?_
  refine Wk_seq ?_
  refine WR [] [1, 2, 3, 4, 5, 10, 11, 12, 20] [5, 10, 11, 12] [] [] [] [] ⟨[(1, .int .i64 who), (2, .int .i64 epoch), (3, .int .i64 now), (4, .int .i64 span), (5, .ptr 5 0), (10, .ptr 10 0), (11, .ptr 11 0), (12, .ptr 12 0), (20, .bool (!decide (x.Code = 0)))], [(5, (c_Lease l)), (10, [.int .i64 0, .int .i64 0, .int .i64 0]), (11, [.int .i64 0, .int .i64 0]), (12, [.int .i64 x.Code, .int .i64 x.At])], [], [], []⟩ .nil (by kernel_rfl) ?_
  refine Wk_split rfl (fun hb => ?_) (fun hb => ?_)
  · have hF := ite_t hF hb
    refine Wk_seq ?_
    refine WD [] [10, 11] [10, 11] [] [] [] [] ⟨[(10, .ptr 10 0), (11, .ptr 11 0)], [(10, [.int .i64 0, .int .i64 0, .int .i64 0]), (11, [.int .i64 x.Code, .int .i64 x.At])], [], [], []⟩ .nil (by kernel_rfl) ?_
    exact Wk_ret (hfin _ ⟨[], [], [], [], [], [], by first | (rw [← hF]; kernel_rfl) | kernel_rfl⟩)
  · have hF := ite_f hF hb
    refine Wk_skip ?_
    refine Wk_seq ?_
    refine Wk_block ?_
    refine Wk_seq ?_
    refine WR [] [3, 4, 5, 10, 11, 23] [5, 10, 11] [] [] [] [] ⟨[(3, .int .i64 now), (4, .int .i64 span), (5, .ptr 5 0), (10, .ptr 10 0), (11, .ptr 11 0), (23, .bool ((!decide (l.Holder = who)) || (!decide (l.Epoch = epoch))))], [(5, (c_Lease l)), (10, [.int .i64 0, .int .i64 0, .int .i64 0]), (11, [.int .i64 0, .int .i64 0])], [], [], []⟩ .nil (by kernel_rfl) ?_
    refine Wk_split rfl (fun hb => ?_) (fun hb => ?_)
    · have hF := ite_t hF hb
      refine Wk_seq ?_
      obtain ⟨x1, h1, hF⟩ := lt_split hF
      refine WR [.callB (.agg [.int .i64 x1.Code, .int .i64 x1.At])] [10, 11] [10, 11] [] [] [] [] ⟨[(10, .ptr 10 0), (11, .ptr 11 0)], [(10, [.int .i64 0, .int .i64 0, .int .i64 0]), (11, [.int .i64 x1.Code, .int .i64 x1.At])], [], [], []⟩ (.cons (lease_fault_ok 6 0 x1 h1) .nil) (by kernel_rfl) ?_
      exact Wk_ret (hfin _ ⟨[], [], [], [], [], [], by first | (rw [← hF]; kernel_rfl) | kernel_rfl⟩)
    · have hF := ite_f hF hb
      refine Wk_seq ?_
      obtain ⟨x2, h2, hF⟩ := lt_split hF
      refine WR [.callB (.bool x2)] [3, 4, 5, 10, 11, 36] [5, 10, 11] [] [] [] [] ⟨[(3, .int .i64 now), (4, .int .i64 span), (5, .ptr 5 0), (10, .ptr 10 0), (11, .ptr 11 0), (36, .bool (!x2))], [(5, (c_Lease l)), (10, [.int .i64 0, .int .i64 0, .int .i64 0]), (11, [.int .i64 0, .int .i64 0])], [], [], []⟩ (.cons (lease_held_ok l now x2 h2) .nil) (by kernel_rfl) ?_
      refine Wk_split rfl (fun hb => ?_) (fun hb => ?_)
      · have hF := ite_t hF hb
        refine Wk_seq ?_
        obtain ⟨x3, h3, hF⟩ := lt_split hF
        refine WR [.callB (.agg [.int .i64 x3.Code, .int .i64 x3.At])] [10, 11] [10, 11] [] [] [] [] ⟨[(10, .ptr 10 0), (11, .ptr 11 0)], [(10, [.int .i64 0, .int .i64 0, .int .i64 0]), (11, [.int .i64 x3.Code, .int .i64 x3.At])], [], [], []⟩ (.cons (lease_fault_ok 12 0 x3 h3) .nil) (by kernel_rfl) ?_
        exact Wk_ret (hfin _ ⟨[], [], [], [], [], [], by first | (rw [← hF]; kernel_rfl) | kernel_rfl⟩)
      · have hF := ite_f hF hb
        refine Wk_skip ?_
        refine Wk_blk ?_
        refine Wk_seq ?_
        refine WR [] [5, 10, 11] [5, 10, 11] [] [] [] [] ⟨[(5, .ptr 5 0), (10, .ptr 10 0), (11, .ptr 11 0)], [(5, [.int .i64 l.Holder, .int .i64 l.Epoch, .int .i64 (max l.Until (w64 (now + span)))]), (10, [.int .i64 0, .int .i64 0, .int .i64 0]), (11, [.int .i64 0, .int .i64 0])], [], [], []⟩ .nil (by kernel_rfl) ?_
        refine Wk_seq ?_
        refine Wk_seq ?_
        obtain ⟨x4, h4, hF⟩ := lt_split hF
        refine WR [.callB (.agg [.int .i64 x4.Code, .int .i64 x4.At])] [5, 10, 11, 53] [5, 10, 11] [] [] [] [] ⟨[(5, .ptr 5 0), (10, .ptr 10 0), (11, .ptr 11 0), (53, .bool (!decide (x4.Code = 0)))], [(5, [.int .i64 l.Holder, .int .i64 l.Epoch, .int .i64 (max l.Until (w64 (now + span)))]), (10, [.int .i64 0, .int .i64 0, .int .i64 0]), (11, [.int .i64 0, .int .i64 0])], [], [], []⟩ (.cons (lease_Check_ok (⟨l.Holder, l.Epoch, (max l.Until (w64 (now + span)))⟩ : Lease) x4 h4) .nil) (by kernel_rfl) ?_
        refine Wk_split rfl (fun hb => ?_) (fun hb => ?_)
        · have hF := ite_t hF hb
          refine Wk_seq ?_
          obtain ⟨x5, h5, hF⟩ := lt_split hF
          refine WR [.callB (.agg [.int .i64 x5.Code, .int .i64 x5.At])] [10, 11] [10, 11] [] [] [] [] ⟨[(10, .ptr 10 0), (11, .ptr 11 0)], [(10, [.int .i64 0, .int .i64 0, .int .i64 0]), (11, [.int .i64 x5.Code, .int .i64 x5.At])], [], [], []⟩ (.cons (lease_fault_ok 9 0 x5 h5) .nil) (by kernel_rfl) ?_
          exact Wk_ret (hfin _ ⟨[], [], [], [], [], [], by first | (rw [← hF]; kernel_rfl) | kernel_rfl⟩)
        · have hF := ite_f hF hb
          refine Wk_skip ?_
          refine Wk_seq ?_
          refine WR [] [10, 11] [10, 11] [] [] [] [] ⟨[(10, .ptr 10 0), (11, .ptr 11 0)], [(10, [.int .i64 l.Holder, .int .i64 l.Epoch, .int .i64 (max l.Until (w64 (now + span)))]), (11, [.int .i64 0, .int .i64 0])], [], [], []⟩ .nil (by kernel_rfl) ?_
          exact Wk_ret (hfin _ ⟨[], [], [], [], [], [], by first | (rw [← hF]; kernel_rfl) | kernel_rfl⟩)

/- lease.Play$1 -/
noncomputable def lease_Play_1 (box : Int) (box1 : Int) (box2 : Int) (box3 : Int) (box4 : Int) (row : List Int) (row1 : List Trust) (row2 : List Wish) (row3 : List Reply) : Unit :=
  ()
theorem lease_Play_1_ok (box : Int) (box1 : Int) (box2 : Int) (box3 : Int) (box4 : Int) (row : List Int) (row1 : List Trust) (row2 : List Wish) (row3 : List Reply) (rk : Nat) (rc : Nat) (rn : Bool) (rk1 : Nat) (rc1 : Nat) (rn1 : Bool) (rk2 : Nat) (rc2 : Nat) (rn2 : Bool) (rk3 : Nat) (rc3 : Nat) (rn3 : Bool) (r : Unit) (hF : lease_Play_1 box box1 box2 box3 box4 row row1 row2 row3 = r) : Pe Try.prog 56 ⟨[], [(100000, [.int .i64 box, .int .i64 box1, .int .i64 box2, .int .i64 box3, .row 100000 0, .row 100001 0, .row 100002 0, .row 100003 0, .int .i64 box4])], [(100000, ⟨3, 1, 0, rk, rc, rn, 0, [], (row.map e_i64)⟩), (100001, ⟨60, 2, 0, rk1, rc1, rn1, 0, [], (row1.map e_Trust)⟩), (100002, ⟨103, 3, 0, rk2, rc2, rn2, 0, [], (row2.map e_Wish)⟩), (100003, ⟨105, 3, 0, rk3, rc3, rn3, 0, [], (row3.map e_Reply)⟩)], [], []⟩ [.ptr 100000 0] (.tup []) ⟨[], [(100000, [.int .i64 box, .int .i64 box1, .int .i64 box2, .int .i64 box3, .row 100000 0, .row 100001 0, .row 100002 0, .row 100003 0, .int .i64 box4])], [(100000, ⟨3, 1, 0, rk, rc, rn, 0, [], (row.map e_i64)⟩), (100001, ⟨60, 2, 0, rk1, rc1, rn1, 0, [], (row1.map e_Trust)⟩), (100002, ⟨103, 3, 0, rk2, rc2, rn2, 0, [], (row2.map e_Wish)⟩), (100003, ⟨105, 3, 0, rk3, rc3, rn3, 0, [], (row3.map e_Reply)⟩)], [], []⟩ := by
  refine Pe_of (N := 2) (res := []) (ts := []) Ty.ok Fn.b56 Try.func56 rfl rfl rfl rfl rfl rfl ?_
  intro Q g hfin
  unfold lease_Play_1 at hF
  refine Wk_skip ?_
  exact Wk_end (hfin _ ⟨[100000, 100001, 100002, 100003], [100000], [100000, 100001, 100002, 100003], [], [], [], by first | (rw [← hF]; kernel_rfl) | kernel_rfl⟩)

/- slices.Delete[[]api.Wish,api.Wish] -/
noncomputable def slices_Delete_api_Wish_api_Wish_v2 (i : Int) (j : Int) (row : List Wish) : Option (List Wish) :=
  asrt ((0 : Int) ≤ i ∧ i ≤ j ∧ j ≤ (row.length : Int) ∧ (row.length : Int) ≤ (row.length : Int)) <|
  if (decide (i = j)) = true then
    some row
  else
    asrt (0 ≤ i ∧ i ≤ (row.length : Int)) <|
    asrt (0 ≤ j ∧ j ≤ (row.length : Int)) <|
    asrt (((row.take i.toNat ++ ((row.drop j.toNat).take (row.length - j.toNat))).length : Int) * 24 ≤ 140737488351232) <|
    asrt (i.toNat ≤ row.length) <|
    asrt (j.toNat + (row.length - j.toNat) ≤ row.length) <|
    asrt (0 ≤ ((row.take i.toNat ++ ((row.drop j.toNat).take (row.length - j.toNat))).length : Int) ∧ ((row.take i.toNat ++ ((row.drop j.toNat).take (row.length - j.toNat))).length : Int) ≤ (row.length : Int) ∧ ((row.length : Int).toNat ≤ (row.take i.toNat ++ ((row.drop j.toNat).take (row.length - j.toNat))).length ∨ (row.length : Int).toNat ≤ ((row.map e_Wish).length))) <|
    lt ((lclear (row.take i.toNat ++ ((row.drop j.toNat).take (row.length - j.toNat))) (((row.take i.toNat ++ ((row.drop j.toNat).take (row.length - j.toNat))).length : Int).toNat) ((row.length : Int).toNat - ((row.take i.toNat ++ ((row.drop j.toNat).take (row.length - j.toNat))).length : Int).toNat) ((⟨0, 0, 0⟩ : Wish) : Wish))) fun (v : List Wish) =>
    some v
theorem slices_Delete_api_Wish_api_Wish_v2_ok (i : Int) (j : Int) (row : List Wish) (rk : Nat) (rc : Nat) (rn : Bool) (r : List Wish) (hF : slices_Delete_api_Wish_api_Wish_v2 i j row = some r) : Pe Try.prog 87 ⟨[], [], [(100000, ⟨103, 3, 0, 0, rc, rn, 0, [], (row.map e_Wish)⟩)], [], []⟩ [.row 100000 0, .int .i64 i, .int .i64 j] (.row 100000 1) ⟨[], [], [(100000, ⟨103, 3, 1, 0, 0, false, 0, [], (r.map e_Wish)⟩)], [], []⟩ := by
  refine Pe_of (N := 33) (res := [.tmp 6]) (ts := [41]) Ty.ok Fn.b87 Try.func87 rfl rfl rfl rfl rfl rfl ?_
  intro Q g hfin
  unfold slices_Delete_api_Wish_api_Wish_v2 at hF
  refine Wk_seq ?_
  refine WR [] [0, 1, 2] [] [100000] [] [] [] ⟨[(0, .row 100000 0), (1, .int .i64 i), (2, .int .i64 j)], [], [(100000, ⟨103, 3, 0, 0, rc, rn, 0, [], (row.map e_Wish)⟩)], [], []⟩ .nil (by kernel_rfl) ?_
  refine Wk_seq ?_
  obtain ⟨h0, hF⟩ := asrt_elim hF
  refine WR [.nat (row.length : Int)] [0, 1, 2] [] [100000] [] [] [] ⟨[(0, .row 100000 0), (1, .int .i64 i), (2, .int .i64 j)], [], [(100000, ⟨103, 3, 0, 0, rc, rn, 0, [], (row.map e_Wish)⟩)], [], []⟩ (.cons (len_ok e_Wish row) (.cons (s3_ok e_Wish h0) .nil)) (by kernel_rfl) ?_
  refine Wk_seq ?_
  refine Wk_seq ?_
  refine WR [] [0, 1, 2, 16] [] [100000] [] [] [] ⟨[(0, .row 100000 0), (1, .int .i64 i), (2, .int .i64 j), (16, .bool (decide (i = j)))], [], [(100000, ⟨103, 3, 0, 0, rc, rn, 0, [], (row.map e_Wish)⟩)], [], []⟩ .nil (by kernel_rfl) ?_
  refine Wk_split rfl (fun hb => ?_) (fun hb => ?_)
  · have hF := ite_t hF hb
    refine Wk_seq ?_
    refine WR [] [6] [] [100000] [] [] [] ⟨[(6, .row 100000 0)], [], [(100000, ⟨103, 3, 0, 0, rc, rn, 0, [], (row.map e_Wish)⟩)], [], []⟩ .nil (by kernel_rfl) ?_
    have hF := some_elim hF
    exact Wk_ret (hfin _ ⟨[100000], [], [100000], [], [], [(100000, ⟨1, false, false, false⟩)], by first | (rw [← hF]; kernel_rfl) | kernel_rfl⟩)
  · have hF := ite_f hF hb
    refine Wk_skip ?_
    refine Wk_seq ?_
    refine WR [.nat (row.length : Int)] [0, 1, 2, 7] [] [100000] [] [] [] ⟨[(0, .row 100000 0), (1, .int .i64 i), (2, .int .i64 j), (7, .int .i64 (row.length : Int))], [], [(100000, ⟨103, 3, 0, 0, rc, rn, 0, [], (row.map e_Wish)⟩)], [], []⟩ (.cons (len_ok e_Wish row) .nil) (by kernel_rfl) ?_
    refine Wk_seq ?_
    obtain ⟨h1, hF⟩ := asrt_elim hF
    obtain ⟨h2, hF⟩ := asrt_elim hF
    obtain ⟨h3, hF⟩ := asrt_elim hF
    obtain ⟨h4, hF⟩ := asrt_elim hF
    obtain ⟨h5, hF⟩ := asrt_elim hF
    refine WD [.vw i.toNat, .vw (row.length - j.toNat), .xs ((row.take i.toNat ++ ((row.drop j.toNat).take (row.length - j.toNat))).map e_Wish)] [0, 7] [] [100000] [] [] [] ⟨[(0, .row 100000 1), (7, .int .i64 (row.length : Int))], [], [(100000, ⟨103, 3, 1, 0, (row.map e_Wish).length, false, 0, [], ((row.take i.toNat ++ ((row.drop j.toNat).take (row.length - j.toNat))).map e_Wish)⟩)], [], []⟩ (.cons (vw01_ok (cm := rc) e_Wish h1) (.cons (vw10_ok e_Wish h2) (.cons (tapv_ok e_Wish row i.toNat row j.toNat (row.length - j.toNat)) (.cons (appl_ok e_Wish h3) (.cons (tk_ok e_Wish h4) (.cons (srcv_ok e_Wish h5) .nil)))))) (by kernel_rfl) ?_
    refine Wk_seq ?_
    obtain ⟨h7, hF⟩ := asrt_elim hF
    refine WRL ((lclear (row.take i.toNat ++ ((row.drop j.toNat).take (row.length - j.toNat))) (((row.take i.toNat ++ ((row.drop j.toNat).take (row.length - j.toNat))).length : Int).toNat) ((row.length : Int).toNat - ((row.take i.toNat ++ ((row.drop j.toNat).take (row.length - j.toNat))).length : Int).toNat) ((⟨0, 0, 0⟩ : Wish) : Wish))) (fun v : List Wish => ⟨[(0, .row 100000 1)], [], [(100000, ⟨103, 3, 1, 0, (row.map e_Wish).length, false, 0, [], (v.map e_Wish)⟩)], [], []⟩) [.nat ((row.take i.toNat ++ ((row.drop j.toNat).take (row.length - j.toNat))).length : Int), .vw ((row.length : Int).toNat - ((row.take i.toNat ++ ((row.drop j.toNat).take (row.length - j.toNat))).length : Int).toNat), .xs ((lclear (row.take i.toNat ++ ((row.drop j.toNat).take (row.length - j.toNat))) (((row.take i.toNat ++ ((row.drop j.toNat).take (row.length - j.toNat))).length : Int).toNat) ((row.length : Int).toNat - ((row.take i.toNat ++ ((row.drop j.toNat).take (row.length - j.toNat))).length : Int).toNat) ((⟨0, 0, 0⟩ : Wish) : Wish)).map e_Wish)] [0] [] [100000] [] [] [] (.cons (len_ok e_Wish (row.take i.toNat ++ ((row.drop j.toNat).take (row.length - j.toNat)))) (.cons (vw11c_ok e_Wish h7) (.cons (clr_ok e_Wish (row.take i.toNat ++ ((row.drop j.toNat).take (row.length - j.toNat))) (((row.take i.toNat ++ ((row.drop j.toNat).take (row.length - j.toNat))).length : Int).toNat) ((row.length : Int).toNat - ((row.take i.toNat ++ ((row.drop j.toNat).take (row.length - j.toNat))).length : Int).toNat) ((⟨0, 0, 0⟩ : Wish) : Wish)) (.cons (Nat.zero_le (((row.take i.toNat ++ ((row.drop j.toNat).take (row.length - j.toNat))).length : Int).toNat)) .nil)))) (by kernel_rfl) (fun v hv => ?_)
    have hF := lt_elim hF hv
    refine Wk_seq ?_
    refine WR [] [6] [] [100000] [] [] [] ⟨[(6, .row 100000 1)], [], [(100000, ⟨103, 3, 1, 0, (row.map e_Wish).length, false, 0, [], (v.map e_Wish)⟩)], [], []⟩ .nil (by kernel_rfl) ?_
    have hF := some_elim hF
    exact Wk_ret (hfin _ ⟨[100000], [], [100000], [], [], [(100000, ⟨1, false, true, false⟩)], by first | (rw [← hF]; kernel_rfl) | kernel_rfl⟩)

/- lease.take[api.Wish] -/
noncomputable def lease_take_api_Wish_v1 (at0 : Int) (box : Int) (box1 : Int) (box2 : Int) (box3 : Int) (box4 : Int) (row : List Int) (row1 : List Trust) (row2 : List Wish) (row3 : List Reply) : Option (Wish × Int × Int × Int × Int × List Wish × Int) :=
  asrt (0 ≤ at0 ∧ at0 < (row2.length : Int)) <|
  asrt (0 ≤ at0 ∧ at0 < (row2.length : Int)) <|
  ob (slices_Delete_api_Wish_api_Wish_v2 at0 (w64 (at0 + 1)) row2) fun x =>
  some ((⟨(lget row2 at0).Who, (lget row2 at0).Sent, (lget row2 at0).Epoch⟩ : Wish), box, box1, box2, box3, x, box4)
theorem lease_take_api_Wish_v1_ok (at0 : Int) (box : Int) (box1 : Int) (box2 : Int) (box3 : Int) (box4 : Int) (row : List Int) (row1 : List Trust) (row2 : List Wish) (row3 : List Reply) (rk : Nat) (rc : Nat) (rn : Bool) (rk1 : Nat) (rc1 : Nat) (rn1 : Bool) (rk2 : Nat) (rc2 : Nat) (rn2 : Bool) (rk3 : Nat) (rc3 : Nat) (rn3 : Bool) (r : Wish × Int × Int × Int × Int × List Wish × Int) (hF : lease_take_api_Wish_v1 at0 box box1 box2 box3 box4 row row1 row2 row3 = some r) : Pe Try.prog 83 ⟨[], [(100000, [.int .i64 box, .int .i64 box1, .int .i64 box2, .int .i64 box3, .row 100000 0, .row 100001 0, .row 100002 0, .row 100003 0, .int .i64 box4])], [(100000, ⟨3, 1, 0, rk, rc, rn, 0, [], (row.map e_i64)⟩), (100001, ⟨60, 2, 0, rk1, rc1, rn1, 0, [], (row1.map e_Trust)⟩), (100002, ⟨103, 3, 0, 0, rc2, rn2, 0, [], (row2.map e_Wish)⟩), (100003, ⟨105, 3, 0, rk3, rc3, rn3, 0, [], (row3.map e_Reply)⟩)], [], []⟩ [.ptr 100000 6, .int .i64 at0] (.agg (c_Wish r.1)) ⟨[], [(100000, [.int .i64 r.2.1, .int .i64 r.2.2.1, .int .i64 r.2.2.2.1, .int .i64 r.2.2.2.2.1, .row 100000 0, .row 100001 0, .row 100002 1, .row 100003 0, .int .i64 r.2.2.2.2.2.2])], [(100000, ⟨3, 1, 0, rk, rc, rn, 0, [], (row.map e_i64)⟩), (100001, ⟨60, 2, 0, rk1, rc1, rn1, 0, [], (row1.map e_Trust)⟩), (100002, ⟨103, 3, 1, 0, 0, false, 0, [], (r.2.2.2.2.2.1.map e_Wish)⟩), (100003, ⟨105, 3, 0, rk3, rc3, rn3, 0, [], (row3.map e_Reply)⟩)], [], []⟩ := by
  refine Pe_of (N := 22) (res := [.cell 4 103]) (ts := [103]) Ty.ok Fn.b83 Try.func83 rfl rfl rfl rfl rfl rfl ?_
  intro Q g hfin
  unfold lease_take_api_Wish_v1 at hF
  refine Wk_seq ?_
  refine WR [] [0, 1, 4] [4, 100000] [100000, 100001, 100002, 100003] [] [] [] ⟨[(0, .ptr 100000 6), (1, .int .i64 at0), (4, .ptr 4 0)], [(4, [.int .i64 0, .int .i64 0, .int .i64 0]), (100000, [.int .i64 box, .int .i64 box1, .int .i64 box2, .int .i64 box3, .row 100000 0, .row 100001 0, .row 100002 0, .row 100003 0, .int .i64 box4])], [(100000, ⟨3, 1, 0, rk, rc, rn, 0, [], (row.map e_i64)⟩), (100001, ⟨60, 2, 0, rk1, rc1, rn1, 0, [], (row1.map e_Trust)⟩), (100002, ⟨103, 3, 0, 0, rc2, rn2, 0, [], (row2.map e_Wish)⟩), (100003, ⟨105, 3, 0, rk3, rc3, rn3, 0, [], (row3.map e_Reply)⟩)], [], []⟩ .nil (by kernel_rfl) ?_
  refine Wk_seq ?_
  obtain ⟨h0, hF⟩ := asrt_elim hF
  obtain ⟨h1, hF⟩ := asrt_elim hF
  refine WR [.av (e_Wish (lget row2 at0))] [0, 1, 4, 5] [4, 5, 100000] [100000, 100001, 100002, 100003] [] [] [] ⟨[(0, .ptr 100000 6), (1, .int .i64 at0), (4, .ptr 4 0), (5, .ptr 5 0)], [(4, [.int .i64 0, .int .i64 0, .int .i64 0]), (5, (c_Wish (lget row2 at0))), (100000, [.int .i64 box, .int .i64 box1, .int .i64 box2, .int .i64 box3, .row 100000 0, .row 100001 0, .row 100002 0, .row 100003 0, .int .i64 box4])], [(100000, ⟨3, 1, 0, rk, rc, rn, 0, [], (row.map e_i64)⟩), (100001, ⟨60, 2, 0, rk1, rc1, rn1, 0, [], (row1.map e_Trust)⟩), (100002, ⟨103, 3, 0, 0, rc2, rn2, 0, [], (row2.map e_Wish)⟩), (100003, ⟨105, 3, 0, rk3, rc3, rn3, 0, [], (row3.map e_Reply)⟩)], [], []⟩ (.cons (ixr_ok e_Wish h0) (.cons (ldr_ok e_Wish h1) .nil)) (by kernel_rfl) ?_
  refine Wk_seq ?_
  obtain ⟨x, h2, hF⟩ := ob_elim hF
  refine WR [.callE [] [100002] [] [] (.row 100002 1) ⟨[], [], [(100002, ⟨103, 3, 1, 0, 0, false, 0, [], (x.map e_Wish)⟩)], [], []⟩] [4, 5] [4, 5, 100000] [100000, 100001, 100002, 100003] [] [] [] ⟨[(4, .ptr 4 0), (5, .ptr 5 0)], [(4, [.int .i64 0, .int .i64 0, .int .i64 0]), (5, (c_Wish (lget row2 at0))), (100000, [.int .i64 box, .int .i64 box1, .int .i64 box2, .int .i64 box3, .row 100000 0, .row 100001 0, .row 100002 1, .row 100003 0, .int .i64 box4])], [(100000, ⟨3, 1, 0, rk, rc, rn, 0, [], (row.map e_i64)⟩), (100001, ⟨60, 2, 0, rk1, rc1, rn1, 0, [], (row1.map e_Trust)⟩), (100002, ⟨103, 3, 1, 0, 0, false, 0, [], (x.map e_Wish)⟩), (100003, ⟨105, 3, 0, rk3, rc3, rn3, 0, [], (row3.map e_Reply)⟩)], [], []⟩ (.cons (Pe.ren (slices_Delete_api_Wish_api_Wish_v2_ok at0 (w64 (at0 + 1)) row2 0 rc2 rn2 x h2) ⟨[], [(100000, 100002)], [], []⟩) .nil) (by kernel_rfl) ?_
  refine Wk_seq ?_
  refine WR [] [4] [4, 100000] [100000, 100001, 100002, 100003] [] [] [] ⟨[(4, .ptr 4 0)], [(4, (c_Wish (lget row2 at0))), (100000, [.int .i64 box, .int .i64 box1, .int .i64 box2, .int .i64 box3, .row 100000 0, .row 100001 0, .row 100002 1, .row 100003 0, .int .i64 box4])], [(100000, ⟨3, 1, 0, rk, rc, rn, 0, [], (row.map e_i64)⟩), (100001, ⟨60, 2, 0, rk1, rc1, rn1, 0, [], (row1.map e_Trust)⟩), (100002, ⟨103, 3, 1, 0, 0, false, 0, [], (x.map e_Wish)⟩), (100003, ⟨105, 3, 0, rk3, rc3, rn3, 0, [], (row3.map e_Reply)⟩)], [], []⟩ .nil (by kernel_rfl) ?_
  have hF := some_elim hF
  exact Wk_ret (hfin _ ⟨[100000, 100001, 100002, 100003], [100000], [100000, 100001, 100002, 100003], [], [], [], by first | (rw [← hF]; kernel_rfl) | kernel_rfl⟩)

/- (*lease.court).arrives -/
noncomputable def lease_court_arrives_v1 (w0 : Wish) (box : Int) (box1 : Int) (box2 : Int) (box3 : Int) (box4 : Int) (row : List Int) (row1 : List Trust) (row2 : List Wish) (row3 : List Reply) : Option (Int × Int × Int × Int × List Reply × Int) :=
  ob (
    if (decide (w0.Epoch = 0)) = true then
      lt (lease_Grant (⟨box1, box2, box3⟩ : Lease) (w64 (w0.Who + 1)) box box4) fun x =>
      some (x.1, x.2)
    else
      lt (lease_Renew (⟨box1, box2, box3⟩ : Lease) (w64 (w0.Who + 1)) w0.Epoch box box4) fun x1 =>
      some (x1.1, x1.2)) fun (v : Lease × Fault) =>
  if (decide (v.2.Code = 0)) = true then
    lt (lease_sure box4) fun x2 =>
    asrt (((row3 ++ [(⟨w0.Who, (⟨v.1.Epoch, w64 (w0.Sent + x2)⟩ : Trust)⟩ : Reply)]).length : Int) * 24 ≤ 140737488351232) <|
    lt ((row3 ++ [(⟨w0.Who, (⟨v.1.Epoch, w64 (w0.Sent + x2)⟩ : Trust)⟩ : Reply)])) fun (v1 : List Reply) =>
    some (box, v.1.Holder, v.1.Epoch, v.1.Until, v1, box4)
  else
    some (box, box1, box2, box3, row3, box4)
theorem lease_court_arrives_v1_ok (w0 : Wish) (box : Int) (box1 : Int) (box2 : Int) (box3 : Int) (box4 : Int) (row : List Int) (row1 : List Trust) (row2 : List Wish) (row3 : List Reply) (rk : Nat) (rc : Nat) (rn : Bool) (rk1 : Nat) (rc1 : Nat) (rn1 : Bool) (rk2 : Nat) (rc2 : Nat) (rn2 : Bool) (rk3 : Nat) (rc3 : Nat) (rn3 : Bool) (r : Int × Int × Int × Int × List Reply × Int) (hF : lease_court_arrives_v1 w0 box box1 box2 box3 box4 row row1 row2 row3 = some r) : Pe Try.prog 82 ⟨[], [(100000, [.int .i64 box, .int .i64 box1, .int .i64 box2, .int .i64 box3, .row 100000 0, .row 100001 0, .row 100002 0, .row 100003 0, .int .i64 box4])], [(100000, ⟨3, 1, 0, rk, rc, rn, 0, [], (row.map e_i64)⟩), (100001, ⟨60, 2, 0, rk1, rc1, rn1, 0, [], (row1.map e_Trust)⟩), (100002, ⟨103, 3, 0, rk2, rc2, rn2, 0, [], (row2.map e_Wish)⟩), (100003, ⟨105, 3, 0, rk3, rc3, rn3, 0, [], (row3.map e_Reply)⟩)], [], []⟩ [.ptr 100000 0, .agg (c_Wish w0)] (.tup []) ⟨[], [(100000, [.int .i64 r.1, .int .i64 r.2.1, .int .i64 r.2.2.1, .int .i64 r.2.2.2.1, .row 100000 0, .row 100001 0, .row 100002 0, .row 100003 1, .int .i64 r.2.2.2.2.2])], [(100000, ⟨3, 1, 0, rk, rc, rn, 0, [], (row.map e_i64)⟩), (100001, ⟨60, 2, 0, rk1, rc1, rn1, 0, [], (row1.map e_Trust)⟩), (100002, ⟨103, 3, 0, rk2, rc2, rn2, 0, [], (row2.map e_Wish)⟩), (100003, ⟨105, 3, 1, rk3, rc3, rn3, 0, [], (r.2.2.2.2.1.map e_Reply)⟩)], [], []⟩ := by
  refine Pe_of (N := 86) (res := []) (ts := []) Ty.ok Fn.b82 Try.func82 rfl rfl rfl rfl rfl rfl ?_
  intro Q g hfin
  unfold lease_court_arrives_v1 at hF
  refine Wk_seq ?_
  refine WR [] [0, 3] [3, 100000] [100000, 100001, 100002, 100003] [] [] [] ⟨[(0, .ptr 100000 0), (3, .ptr 3 0)], [(3, (c_Wish w0)), (100000, [.int .i64 box, .int .i64 box1, .int .i64 box2, .int .i64 box3, .row 100000 0, .row 100001 0, .row 100002 0, .row 100003 0, .int .i64 box4])], [(100000, ⟨3, 1, 0, rk, rc, rn, 0, [], (row.map e_i64)⟩), (100001, ⟨60, 2, 0, rk1, rc1, rn1, 0, [], (row1.map e_Trust)⟩), (100002, ⟨103, 3, 0, rk2, rc2, rn2, 0, [], (row2.map e_Wish)⟩), (100003, ⟨105, 3, 0, rk3, rc3, rn3, 0, [], (row3.map e_Reply)⟩)], [], []⟩ .nil (by kernel_rfl) ?_
  refine Wk_seq ?_
  refine WR [] [0, 3, 4] [3, 4, 100000] [100000, 100001, 100002, 100003] [] [] [] ⟨[(0, .ptr 100000 0), (3, .ptr 3 0), (4, .ptr 4 0)], [(3, (c_Wish w0)), (4, [.int .i64 0, .int .i64 0, .int .i64 0]), (100000, [.int .i64 box, .int .i64 box1, .int .i64 box2, .int .i64 box3, .row 100000 0, .row 100001 0, .row 100002 0, .row 100003 0, .int .i64 box4])], [(100000, ⟨3, 1, 0, rk, rc, rn, 0, [], (row.map e_i64)⟩), (100001, ⟨60, 2, 0, rk1, rc1, rn1, 0, [], (row1.map e_Trust)⟩), (100002, ⟨103, 3, 0, rk2, rc2, rn2, 0, [], (row2.map e_Wish)⟩), (100003, ⟨105, 3, 0, rk3, rc3, rn3, 0, [], (row3.map e_Reply)⟩)], [], []⟩ .nil (by kernel_rfl) ?_
  refine Wk_seq ?_
  refine WR [] [0, 3, 4, 5] [3, 4, 5, 100000] [100000, 100001, 100002, 100003] [] [] [] ⟨[(0, .ptr 100000 0), (3, .ptr 3 0), (4, .ptr 4 0), (5, .ptr 5 0)], [(3, (c_Wish w0)), (4, [.int .i64 0, .int .i64 0, .int .i64 0]), (5, [.int .i64 0, .int .i64 0]), (100000, [.int .i64 box, .int .i64 box1, .int .i64 box2, .int .i64 box3, .row 100000 0, .row 100001 0, .row 100002 0, .row 100003 0, .int .i64 box4])], [(100000, ⟨3, 1, 0, rk, rc, rn, 0, [], (row.map e_i64)⟩), (100001, ⟨60, 2, 0, rk1, rc1, rn1, 0, [], (row1.map e_Trust)⟩), (100002, ⟨103, 3, 0, rk2, rc2, rn2, 0, [], (row2.map e_Wish)⟩), (100003, ⟨105, 3, 0, rk3, rc3, rn3, 0, [], (row3.map e_Reply)⟩)], [], []⟩ .nil (by kernel_rfl) ?_
  refine Wk_seq ?_
  refine Wk_seq ?_
  refine WR [] [0, 3, 4, 5, 8] [3, 4, 5, 100000] [100000, 100001, 100002, 100003] [] [] [] ⟨[(0, .ptr 100000 0), (3, .ptr 3 0), (4, .ptr 4 0), (5, .ptr 5 0), (8, .bool (decide (w0.Epoch = 0)))], [(3, (c_Wish w0)), (4, [.int .i64 0, .int .i64 0, .int .i64 0]), (5, [.int .i64 0, .int .i64 0]), (100000, [.int .i64 box, .int .i64 box1, .int .i64 box2, .int .i64 box3, .row 100000 0, .row 100001 0, .row 100002 0, .row 100003 0, .int .i64 box4])], [(100000, ⟨3, 1, 0, rk, rc, rn, 0, [], (row.map e_i64)⟩), (100001, ⟨60, 2, 0, rk1, rc1, rn1, 0, [], (row1.map e_Trust)⟩), (100002, ⟨103, 3, 0, rk2, rc2, rn2, 0, [], (row2.map e_Wish)⟩), (100003, ⟨105, 3, 0, rk3, rc3, rn3, 0, [], (row3.map e_Reply)⟩)], [], []⟩ .nil (by kernel_rfl) ?_
  obtain ⟨v, hv, hF⟩ := ob_elim hF
  refine Wk_meet (⟨[(0, .ptr 100000 0), (3, .ptr 3 0), (4, .ptr 4 0), (5, .ptr 5 0)], [(3, (c_Wish w0)), (4, (c_Lease v.1)), (5, [.int .i64 v.2.Code, .int .i64 v.2.At]), (100000, [.int .i64 box, .int .i64 box1, .int .i64 box2, .int .i64 box3, .row 100000 0, .row 100001 0, .row 100002 0, .row 100003 0, .int .i64 box4])], [(100000, ⟨3, 1, 0, rk, rc, rn, 0, [], (row.map e_i64)⟩), (100001, ⟨60, 2, 0, rk1, rc1, rn1, 0, [], (row1.map e_Trust)⟩), (100002, ⟨103, 3, 0, rk2, rc2, rn2, 0, [], (row2.map e_Wish)⟩), (100003, ⟨105, 3, 0, rk3, rc3, rn3, 0, [], (row3.map e_Reply)⟩)], [], []⟩ : S) ?_ ?_
  · have hF := hv
    refine Wk_split rfl (fun hb => ?_) (fun hb => ?_)
    · have hF := ite_t hF hb
      obtain ⟨x, h0, hF⟩ := lt_split hF
      refine WD [.callB (.tup [.agg (c_Lease x.1), .agg [.int .i64 x.2.Code, .int .i64 x.2.At]])] [0, 3, 4, 5] [3, 4, 5, 100000] [100000, 100001, 100002, 100003] [] [] [] ⟨[(0, .ptr 100000 0), (3, .ptr 3 0), (4, .ptr 4 0), (5, .ptr 5 0)], [(3, (c_Wish w0)), (4, (c_Lease x.1)), (5, [.int .i64 x.2.Code, .int .i64 x.2.At]), (100000, [.int .i64 box, .int .i64 box1, .int .i64 box2, .int .i64 box3, .row 100000 0, .row 100001 0, .row 100002 0, .row 100003 0, .int .i64 box4])], [(100000, ⟨3, 1, 0, rk, rc, rn, 0, [], (row.map e_i64)⟩), (100001, ⟨60, 2, 0, rk1, rc1, rn1, 0, [], (row1.map e_Trust)⟩), (100002, ⟨103, 3, 0, rk2, rc2, rn2, 0, [], (row2.map e_Wish)⟩), (100003, ⟨105, 3, 0, rk3, rc3, rn3, 0, [], (row3.map e_Reply)⟩)], [], []⟩ (.cons (lease_Grant_ok (⟨box1, box2, box3⟩ : Lease) (w64 (w0.Who + 1)) box box4 x h0) .nil) (by kernel_rfl) ?_
      exact Wk_met (fs := [0, 3, 4, 5]) (bs := [3, 4, 5, 100000]) (rs := [100000, 100001, 100002, 100003]) (ms := []) (aa := []) (nv := []) (by first | (rw [← some_elim hF]; kernel_rfl) | kernel_rfl)
    · have hF := ite_f hF hb
      obtain ⟨x1, h1, hF⟩ := lt_split hF
      refine WD [.callB (.tup [.agg (c_Lease x1.1), .agg [.int .i64 x1.2.Code, .int .i64 x1.2.At]])] [0, 3, 4, 5] [3, 4, 5, 100000] [100000, 100001, 100002, 100003] [] [] [] ⟨[(0, .ptr 100000 0), (3, .ptr 3 0), (4, .ptr 4 0), (5, .ptr 5 0)], [(3, (c_Wish w0)), (4, (c_Lease x1.1)), (5, [.int .i64 x1.2.Code, .int .i64 x1.2.At]), (100000, [.int .i64 box, .int .i64 box1, .int .i64 box2, .int .i64 box3, .row 100000 0, .row 100001 0, .row 100002 0, .row 100003 0, .int .i64 box4])], [(100000, ⟨3, 1, 0, rk, rc, rn, 0, [], (row.map e_i64)⟩), (100001, ⟨60, 2, 0, rk1, rc1, rn1, 0, [], (row1.map e_Trust)⟩), (100002, ⟨103, 3, 0, rk2, rc2, rn2, 0, [], (row2.map e_Wish)⟩), (100003, ⟨105, 3, 0, rk3, rc3, rn3, 0, [], (row3.map e_Reply)⟩)], [], []⟩ (.cons (lease_Renew_ok (⟨box1, box2, box3⟩ : Lease) (w64 (w0.Who + 1)) w0.Epoch box box4 x1 h1) .nil) (by kernel_rfl) ?_
      exact Wk_met (fs := [0, 3, 4, 5]) (bs := [3, 4, 5, 100000]) (rs := [100000, 100001, 100002, 100003]) (ms := []) (aa := []) (nv := []) (by first | (rw [← some_elim hF]; kernel_rfl) | kernel_rfl)
  · refine Wk_seq ?_
    refine WR [] [0, 3, 4, 55] [3, 4, 100000] [100000, 100001, 100002, 100003] [] [] [] ⟨[(0, .ptr 100000 0), (3, .ptr 3 0), (4, .ptr 4 0), (55, .bool (decide (v.2.Code = 0)))], [(3, (c_Wish w0)), (4, (c_Lease v.1)), (100000, [.int .i64 box, .int .i64 box1, .int .i64 box2, .int .i64 box3, .row 100000 0, .row 100001 0, .row 100002 0, .row 100003 0, .int .i64 box4])], [(100000, ⟨3, 1, 0, rk, rc, rn, 0, [], (row.map e_i64)⟩), (100001, ⟨60, 2, 0, rk1, rc1, rn1, 0, [], (row1.map e_Trust)⟩), (100002, ⟨103, 3, 0, rk2, rc2, rn2, 0, [], (row2.map e_Wish)⟩), (100003, ⟨105, 3, 0, rk3, rc3, rn3, 0, [], (row3.map e_Reply)⟩)], [], []⟩ .nil (by kernel_rfl) ?_
    refine Wk_split rfl (fun hb => ?_) (fun hb => ?_)
    · have hF := ite_t hF hb
      refine Wk_seq ?_
      refine WR [] [0, 3, 4] [3, 4, 100000] [100000, 100001, 100002, 100003] [] [] [] ⟨[(0, .ptr 100000 0), (3, .ptr 3 0), (4, .ptr 4 0)], [(3, (c_Wish w0)), (4, (c_Lease v.1)), (100000, [.int .i64 box, .int .i64 v.1.Holder, .int .i64 v.1.Epoch, .int .i64 v.1.Until, .row 100000 0, .row 100001 0, .row 100002 0, .row 100003 0, .int .i64 box4])], [(100000, ⟨3, 1, 0, rk, rc, rn, 0, [], (row.map e_i64)⟩), (100001, ⟨60, 2, 0, rk1, rc1, rn1, 0, [], (row1.map e_Trust)⟩), (100002, ⟨103, 3, 0, rk2, rc2, rn2, 0, [], (row2.map e_Wish)⟩), (100003, ⟨105, 3, 0, rk3, rc3, rn3, 0, [], (row3.map e_Reply)⟩)], [], []⟩ .nil (by kernel_rfl) ?_
      obtain ⟨x2, h2, hF⟩ := lt_split hF
      obtain ⟨h3, hF⟩ := asrt_elim hF
      refine WDL ((row3 ++ [(⟨w0.Who, (⟨v.1.Epoch, w64 (w0.Sent + x2)⟩ : Trust)⟩ : Reply)])) (fun v1 : List Reply => ⟨[], [(100000, [.int .i64 box, .int .i64 v.1.Holder, .int .i64 v.1.Epoch, .int .i64 v.1.Until, .row 100000 0, .row 100001 0, .row 100002 0, .row 100003 1, .int .i64 box4])], [(100000, ⟨3, 1, 0, rk, rc, rn, 0, [], (row.map e_i64)⟩), (100001, ⟨60, 2, 0, rk1, rc1, rn1, 0, [], (row1.map e_Trust)⟩), (100002, ⟨103, 3, 0, rk2, rc2, rn2, 0, [], (row2.map e_Wish)⟩), (100003, ⟨105, 3, 1, rk3, rc3, rn3, 0, [], (v1.map e_Reply)⟩)], [], []⟩) [.callB (.int .i64 x2), .sealed, .xs ((row3 ++ [(⟨w0.Who, (⟨v.1.Epoch, w64 (w0.Sent + x2)⟩ : Trust)⟩ : Reply)]).map e_Reply)] [] [100000] [100000, 100001, 100002, 100003] [] [] [] (.cons (lease_sure_ok box4 x2 h2) (.cons (app_ok e_Reply row3 [(⟨w0.Who, (⟨v.1.Epoch, w64 (w0.Sent + x2)⟩ : Trust)⟩ : Reply)]) (.cons (appl_ok e_Reply h3) .nil))) (by kernel_rfl) (fun v1 hv => ?_)
      have hF := lt_elim hF hv
      have hF := some_elim hF
      exact Wk_end (hfin _ ⟨[100000, 100001, 100002, 100003], [100000], [100000, 100001, 100002, 100003], [], [], [], by first | (rw [← hF]; kernel_rfl) | kernel_rfl⟩)
    · have hF := ite_f hF hb
      refine Wk_skip ?_
      have hF := some_elim hF
      exact Wk_end (hfin _ ⟨[100000, 100001, 100002, 100003], [100000], [100000, 100001, 100002, 100003], [], [], [(100003, ⟨1, true, true, false⟩)], by first | (rw [← hF]; kernel_rfl) | kernel_rfl⟩)

/- slices.Delete[[]api.Reply,api.Reply] -/
noncomputable def slices_Delete_api_Reply_api_Reply_v2 (i : Int) (j : Int) (row : List Reply) : Option (List Reply) :=
  asrt ((0 : Int) ≤ i ∧ i ≤ j ∧ j ≤ (row.length : Int) ∧ (row.length : Int) ≤ (row.length : Int)) <|
  if (decide (i = j)) = true then
    some row
  else
    asrt (0 ≤ i ∧ i ≤ (row.length : Int)) <|
    asrt (0 ≤ j ∧ j ≤ (row.length : Int)) <|
    asrt (((row.take i.toNat ++ ((row.drop j.toNat).take (row.length - j.toNat))).length : Int) * 24 ≤ 140737488351232) <|
    asrt (i.toNat ≤ row.length) <|
    asrt (j.toNat + (row.length - j.toNat) ≤ row.length) <|
    asrt (0 ≤ ((row.take i.toNat ++ ((row.drop j.toNat).take (row.length - j.toNat))).length : Int) ∧ ((row.take i.toNat ++ ((row.drop j.toNat).take (row.length - j.toNat))).length : Int) ≤ (row.length : Int) ∧ ((row.length : Int).toNat ≤ (row.take i.toNat ++ ((row.drop j.toNat).take (row.length - j.toNat))).length ∨ (row.length : Int).toNat ≤ ((row.map e_Reply).length))) <|
    lt ((lclear (row.take i.toNat ++ ((row.drop j.toNat).take (row.length - j.toNat))) (((row.take i.toNat ++ ((row.drop j.toNat).take (row.length - j.toNat))).length : Int).toNat) ((row.length : Int).toNat - ((row.take i.toNat ++ ((row.drop j.toNat).take (row.length - j.toNat))).length : Int).toNat) ((⟨0, (⟨0, 0⟩ : Trust)⟩ : Reply) : Reply))) fun (v : List Reply) =>
    some v
theorem slices_Delete_api_Reply_api_Reply_v2_ok (i : Int) (j : Int) (row : List Reply) (rk : Nat) (rc : Nat) (rn : Bool) (r : List Reply) (hF : slices_Delete_api_Reply_api_Reply_v2 i j row = some r) : Pe Try.prog 88 ⟨[], [], [(100000, ⟨105, 3, 0, 0, rc, rn, 0, [], (row.map e_Reply)⟩)], [], []⟩ [.row 100000 0, .int .i64 i, .int .i64 j] (.row 100000 1) ⟨[], [], [(100000, ⟨105, 3, 1, 0, 0, false, 0, [], (r.map e_Reply)⟩)], [], []⟩ := by
  refine Pe_of (N := 33) (res := [.tmp 6]) (ts := [42]) Ty.ok Fn.b88 Try.func88 rfl rfl rfl rfl rfl rfl ?_
  intro Q g hfin
  unfold slices_Delete_api_Reply_api_Reply_v2 at hF
  refine Wk_seq ?_
  refine WR [] [0, 1, 2] [] [100000] [] [] [] ⟨[(0, .row 100000 0), (1, .int .i64 i), (2, .int .i64 j)], [], [(100000, ⟨105, 3, 0, 0, rc, rn, 0, [], (row.map e_Reply)⟩)], [], []⟩ .nil (by kernel_rfl) ?_
  refine Wk_seq ?_
  obtain ⟨h0, hF⟩ := asrt_elim hF
  refine WR [.nat (row.length : Int)] [0, 1, 2] [] [100000] [] [] [] ⟨[(0, .row 100000 0), (1, .int .i64 i), (2, .int .i64 j)], [], [(100000, ⟨105, 3, 0, 0, rc, rn, 0, [], (row.map e_Reply)⟩)], [], []⟩ (.cons (len_ok e_Reply row) (.cons (s3_ok e_Reply h0) .nil)) (by kernel_rfl) ?_
  refine Wk_seq ?_
  refine Wk_seq ?_
  refine WR [] [0, 1, 2, 16] [] [100000] [] [] [] ⟨[(0, .row 100000 0), (1, .int .i64 i), (2, .int .i64 j), (16, .bool (decide (i = j)))], [], [(100000, ⟨105, 3, 0, 0, rc, rn, 0, [], (row.map e_Reply)⟩)], [], []⟩ .nil (by kernel_rfl) ?_
  refine Wk_split rfl (fun hb => ?_) (fun hb => ?_)
  · have hF := ite_t hF hb
    refine Wk_seq ?_
    refine WR [] [6] [] [100000] [] [] [] ⟨[(6, .row 100000 0)], [], [(100000, ⟨105, 3, 0, 0, rc, rn, 0, [], (row.map e_Reply)⟩)], [], []⟩ .nil (by kernel_rfl) ?_
    have hF := some_elim hF
    exact Wk_ret (hfin _ ⟨[100000], [], [100000], [], [], [(100000, ⟨1, false, false, false⟩)], by first | (rw [← hF]; kernel_rfl) | kernel_rfl⟩)
  · have hF := ite_f hF hb
    refine Wk_skip ?_
    refine Wk_seq ?_
    refine WR [.nat (row.length : Int)] [0, 1, 2, 7] [] [100000] [] [] [] ⟨[(0, .row 100000 0), (1, .int .i64 i), (2, .int .i64 j), (7, .int .i64 (row.length : Int))], [], [(100000, ⟨105, 3, 0, 0, rc, rn, 0, [], (row.map e_Reply)⟩)], [], []⟩ (.cons (len_ok e_Reply row) .nil) (by kernel_rfl) ?_
    refine Wk_seq ?_
    obtain ⟨h1, hF⟩ := asrt_elim hF
    obtain ⟨h2, hF⟩ := asrt_elim hF
    obtain ⟨h3, hF⟩ := asrt_elim hF
    obtain ⟨h4, hF⟩ := asrt_elim hF
    obtain ⟨h5, hF⟩ := asrt_elim hF
    refine WD [.vw i.toNat, .vw (row.length - j.toNat), .xs ((row.take i.toNat ++ ((row.drop j.toNat).take (row.length - j.toNat))).map e_Reply)] [0, 7] [] [100000] [] [] [] ⟨[(0, .row 100000 1), (7, .int .i64 (row.length : Int))], [], [(100000, ⟨105, 3, 1, 0, (row.map e_Reply).length, false, 0, [], ((row.take i.toNat ++ ((row.drop j.toNat).take (row.length - j.toNat))).map e_Reply)⟩)], [], []⟩ (.cons (vw01_ok (cm := rc) e_Reply h1) (.cons (vw10_ok e_Reply h2) (.cons (tapv_ok e_Reply row i.toNat row j.toNat (row.length - j.toNat)) (.cons (appl_ok e_Reply h3) (.cons (tk_ok e_Reply h4) (.cons (srcv_ok e_Reply h5) .nil)))))) (by kernel_rfl) ?_
    refine Wk_seq ?_
    obtain ⟨h7, hF⟩ := asrt_elim hF
    refine WRL ((lclear (row.take i.toNat ++ ((row.drop j.toNat).take (row.length - j.toNat))) (((row.take i.toNat ++ ((row.drop j.toNat).take (row.length - j.toNat))).length : Int).toNat) ((row.length : Int).toNat - ((row.take i.toNat ++ ((row.drop j.toNat).take (row.length - j.toNat))).length : Int).toNat) ((⟨0, (⟨0, 0⟩ : Trust)⟩ : Reply) : Reply))) (fun v : List Reply => ⟨[(0, .row 100000 1)], [], [(100000, ⟨105, 3, 1, 0, (row.map e_Reply).length, false, 0, [], (v.map e_Reply)⟩)], [], []⟩) [.nat ((row.take i.toNat ++ ((row.drop j.toNat).take (row.length - j.toNat))).length : Int), .vw ((row.length : Int).toNat - ((row.take i.toNat ++ ((row.drop j.toNat).take (row.length - j.toNat))).length : Int).toNat), .xs ((lclear (row.take i.toNat ++ ((row.drop j.toNat).take (row.length - j.toNat))) (((row.take i.toNat ++ ((row.drop j.toNat).take (row.length - j.toNat))).length : Int).toNat) ((row.length : Int).toNat - ((row.take i.toNat ++ ((row.drop j.toNat).take (row.length - j.toNat))).length : Int).toNat) ((⟨0, (⟨0, 0⟩ : Trust)⟩ : Reply) : Reply)).map e_Reply)] [0] [] [100000] [] [] [] (.cons (len_ok e_Reply (row.take i.toNat ++ ((row.drop j.toNat).take (row.length - j.toNat)))) (.cons (vw11c_ok e_Reply h7) (.cons (clr_ok e_Reply (row.take i.toNat ++ ((row.drop j.toNat).take (row.length - j.toNat))) (((row.take i.toNat ++ ((row.drop j.toNat).take (row.length - j.toNat))).length : Int).toNat) ((row.length : Int).toNat - ((row.take i.toNat ++ ((row.drop j.toNat).take (row.length - j.toNat))).length : Int).toNat) ((⟨0, (⟨0, 0⟩ : Trust)⟩ : Reply) : Reply)) (.cons (Nat.zero_le (((row.take i.toNat ++ ((row.drop j.toNat).take (row.length - j.toNat))).length : Int).toNat)) .nil)))) (by kernel_rfl) (fun v hv => ?_)
    have hF := lt_elim hF hv
    refine Wk_seq ?_
    refine WR [] [6] [] [100000] [] [] [] ⟨[(6, .row 100000 1)], [], [(100000, ⟨105, 3, 1, 0, (row.map e_Reply).length, false, 0, [], (v.map e_Reply)⟩)], [], []⟩ .nil (by kernel_rfl) ?_
    have hF := some_elim hF
    exact Wk_ret (hfin _ ⟨[100000], [], [100000], [], [], [(100000, ⟨1, false, true, false⟩)], by first | (rw [← hF]; kernel_rfl) | kernel_rfl⟩)

/- lease.take[api.Reply] -/
noncomputable def lease_take_api_Reply_v1 (at0 : Int) (box : Int) (box1 : Int) (box2 : Int) (box3 : Int) (box4 : Int) (row : List Int) (row1 : List Trust) (row2 : List Wish) (row3 : List Reply) : Option (Reply × Int × Int × Int × Int × List Reply × Int) :=
  asrt (0 ≤ at0 ∧ at0 < (row3.length : Int)) <|
  asrt (0 ≤ at0 ∧ at0 < (row3.length : Int)) <|
  ob (slices_Delete_api_Reply_api_Reply_v2 at0 (w64 (at0 + 1)) row3) fun x =>
  some ((⟨(lget row3 at0).Who, (⟨((lget row3 at0).Trust).Epoch, ((lget row3 at0).Trust).Until⟩ : Trust)⟩ : Reply), box, box1, box2, box3, x, box4)
theorem lease_take_api_Reply_v1_ok (at0 : Int) (box : Int) (box1 : Int) (box2 : Int) (box3 : Int) (box4 : Int) (row : List Int) (row1 : List Trust) (row2 : List Wish) (row3 : List Reply) (rk : Nat) (rc : Nat) (rn : Bool) (rk1 : Nat) (rc1 : Nat) (rn1 : Bool) (rk2 : Nat) (rc2 : Nat) (rn2 : Bool) (rk3 : Nat) (rc3 : Nat) (rn3 : Bool) (r : Reply × Int × Int × Int × Int × List Reply × Int) (hF : lease_take_api_Reply_v1 at0 box box1 box2 box3 box4 row row1 row2 row3 = some r) : Pe Try.prog 84 ⟨[], [(100000, [.int .i64 box, .int .i64 box1, .int .i64 box2, .int .i64 box3, .row 100000 0, .row 100001 0, .row 100002 0, .row 100003 0, .int .i64 box4])], [(100000, ⟨3, 1, 0, rk, rc, rn, 0, [], (row.map e_i64)⟩), (100001, ⟨60, 2, 0, rk1, rc1, rn1, 0, [], (row1.map e_Trust)⟩), (100002, ⟨103, 3, 0, rk2, rc2, rn2, 0, [], (row2.map e_Wish)⟩), (100003, ⟨105, 3, 0, 0, rc3, rn3, 0, [], (row3.map e_Reply)⟩)], [], []⟩ [.ptr 100000 7, .int .i64 at0] (.agg (c_Reply r.1)) ⟨[], [(100000, [.int .i64 r.2.1, .int .i64 r.2.2.1, .int .i64 r.2.2.2.1, .int .i64 r.2.2.2.2.1, .row 100000 0, .row 100001 0, .row 100002 0, .row 100003 1, .int .i64 r.2.2.2.2.2.2])], [(100000, ⟨3, 1, 0, rk, rc, rn, 0, [], (row.map e_i64)⟩), (100001, ⟨60, 2, 0, rk1, rc1, rn1, 0, [], (row1.map e_Trust)⟩), (100002, ⟨103, 3, 0, rk2, rc2, rn2, 0, [], (row2.map e_Wish)⟩), (100003, ⟨105, 3, 1, 0, 0, false, 0, [], (r.2.2.2.2.2.1.map e_Reply)⟩)], [], []⟩ := by
  refine Pe_of (N := 22) (res := [.cell 4 105]) (ts := [105]) Ty.ok Fn.b84 Try.func84 rfl rfl rfl rfl rfl rfl ?_
  intro Q g hfin
  unfold lease_take_api_Reply_v1 at hF
  refine Wk_seq ?_
  refine WR [] [0, 1, 4] [4, 100000] [100000, 100001, 100002, 100003] [] [] [] ⟨[(0, .ptr 100000 7), (1, .int .i64 at0), (4, .ptr 4 0)], [(4, [.int .i64 0, .int .i64 0, .int .i64 0]), (100000, [.int .i64 box, .int .i64 box1, .int .i64 box2, .int .i64 box3, .row 100000 0, .row 100001 0, .row 100002 0, .row 100003 0, .int .i64 box4])], [(100000, ⟨3, 1, 0, rk, rc, rn, 0, [], (row.map e_i64)⟩), (100001, ⟨60, 2, 0, rk1, rc1, rn1, 0, [], (row1.map e_Trust)⟩), (100002, ⟨103, 3, 0, rk2, rc2, rn2, 0, [], (row2.map e_Wish)⟩), (100003, ⟨105, 3, 0, 0, rc3, rn3, 0, [], (row3.map e_Reply)⟩)], [], []⟩ .nil (by kernel_rfl) ?_
  refine Wk_seq ?_
  obtain ⟨h0, hF⟩ := asrt_elim hF
  obtain ⟨h1, hF⟩ := asrt_elim hF
  refine WR [.av (e_Reply (lget row3 at0))] [0, 1, 4, 5] [4, 5, 100000] [100000, 100001, 100002, 100003] [] [] [] ⟨[(0, .ptr 100000 7), (1, .int .i64 at0), (4, .ptr 4 0), (5, .ptr 5 0)], [(4, [.int .i64 0, .int .i64 0, .int .i64 0]), (5, (c_Reply (lget row3 at0))), (100000, [.int .i64 box, .int .i64 box1, .int .i64 box2, .int .i64 box3, .row 100000 0, .row 100001 0, .row 100002 0, .row 100003 0, .int .i64 box4])], [(100000, ⟨3, 1, 0, rk, rc, rn, 0, [], (row.map e_i64)⟩), (100001, ⟨60, 2, 0, rk1, rc1, rn1, 0, [], (row1.map e_Trust)⟩), (100002, ⟨103, 3, 0, rk2, rc2, rn2, 0, [], (row2.map e_Wish)⟩), (100003, ⟨105, 3, 0, 0, rc3, rn3, 0, [], (row3.map e_Reply)⟩)], [], []⟩ (.cons (ixr_ok e_Reply h0) (.cons (ldr_ok e_Reply h1) .nil)) (by kernel_rfl) ?_
  refine Wk_seq ?_
  obtain ⟨x, h2, hF⟩ := ob_elim hF
  refine WR [.callE [] [100003] [] [] (.row 100003 1) ⟨[], [], [(100003, ⟨105, 3, 1, 0, 0, false, 0, [], (x.map e_Reply)⟩)], [], []⟩] [4, 5] [4, 5, 100000] [100000, 100001, 100002, 100003] [] [] [] ⟨[(4, .ptr 4 0), (5, .ptr 5 0)], [(4, [.int .i64 0, .int .i64 0, .int .i64 0]), (5, (c_Reply (lget row3 at0))), (100000, [.int .i64 box, .int .i64 box1, .int .i64 box2, .int .i64 box3, .row 100000 0, .row 100001 0, .row 100002 0, .row 100003 1, .int .i64 box4])], [(100000, ⟨3, 1, 0, rk, rc, rn, 0, [], (row.map e_i64)⟩), (100001, ⟨60, 2, 0, rk1, rc1, rn1, 0, [], (row1.map e_Trust)⟩), (100002, ⟨103, 3, 0, rk2, rc2, rn2, 0, [], (row2.map e_Wish)⟩), (100003, ⟨105, 3, 1, 0, 0, false, 0, [], (x.map e_Reply)⟩)], [], []⟩ (.cons (Pe.ren (slices_Delete_api_Reply_api_Reply_v2_ok at0 (w64 (at0 + 1)) row3 0 rc3 rn3 x h2) ⟨[], [(100000, 100003)], [], []⟩) .nil) (by kernel_rfl) ?_
  refine Wk_seq ?_
  refine WR [] [4] [4, 100000] [100000, 100001, 100002, 100003] [] [] [] ⟨[(4, .ptr 4 0)], [(4, (c_Reply (lget row3 at0))), (100000, [.int .i64 box, .int .i64 box1, .int .i64 box2, .int .i64 box3, .row 100000 0, .row 100001 0, .row 100002 0, .row 100003 1, .int .i64 box4])], [(100000, ⟨3, 1, 0, rk, rc, rn, 0, [], (row.map e_i64)⟩), (100001, ⟨60, 2, 0, rk1, rc1, rn1, 0, [], (row1.map e_Trust)⟩), (100002, ⟨103, 3, 0, rk2, rc2, rn2, 0, [], (row2.map e_Wish)⟩), (100003, ⟨105, 3, 1, 0, 0, false, 0, [], (x.map e_Reply)⟩)], [], []⟩ .nil (by kernel_rfl) ?_
  have hF := some_elim hF
  exact Wk_ret (hfin _ ⟨[100000, 100001, 100002, 100003], [100000], [100000, 100001, 100002, 100003], [], [], [], by first | (rw [← hF]; kernel_rfl) | kernel_rfl⟩)

end G
end Go.Proofs.Ytgflfhdbihahcaa
