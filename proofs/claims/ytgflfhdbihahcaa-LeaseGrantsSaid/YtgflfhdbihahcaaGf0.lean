/- The program's functions as plain functions, and that they are these. Written by a program (dec.py). -/
import Derived.Test.YtgflfhdbihahcaaTys
namespace Go.Proofs.Ytgflfhdbihahcaa
open Go Go.Dm
set_option linter.unusedVariables false
set_option linter.unusedSimpArgs false
set_option maxRecDepth 100000
namespace G
/- lease.number -/
noncomputable def lease_number (num : Int) : Bool :=
  (decide (0 ≤ num)) && (decide (num ≤ 1000000000))
theorem lease_number_ok (num : Int) (r : Bool) (hF : lease_number num = r) : Pc Try.prog 48 [.int .i64 num] (.bool r) := by
  refine Pc_of (N := 9) (res := [.tmp 2]) (ts := [4]) Ty.ok Fn.b48 Try.func48 rfl rfl rfl rfl rfl ?_
  intro Q g hfin
  unfold lease_number at hF
  refine Wk_seq ?_
  refine WR [] [0] [] [] [] ⟨[(0, .int .i64 num)], [], [], []⟩ .nil (by kernel_rfl) ?_
  refine Wk_seq ?_
  refine WR [] [2] [] [] [] ⟨[(2, .bool ((decide (0 ≤ num)) && (decide (num ≤ 1000000000))))], [], [], []⟩ .nil (by kernel_rfl) ?_
  exact Wk_ret (hfin _ (by rw [← hF]; kernel_rfl))

/- lease.fault -/
noncomputable def lease_fault (code : Int) (at0 : Int) : Fault :=
  (⟨code, at0⟩ : Fault)
theorem lease_fault_ok (code : Int) (at0 : Int) (r : Fault) (hF : lease_fault code at0 = r) : Pc Try.prog 49 [.int .i64 code, .int .i64 at0] (.agg [.int .i64 r.Code, .int .i64 r.At]) := by
  refine Pc_of (N := 8) (res := [.cell 4 25]) (ts := [25]) Ty.ok Fn.b49 Try.func49 rfl rfl rfl rfl rfl ?_
  intro Q g hfin
  unfold lease_fault at hF
  refine Wk_seq ?_
  refine WR [] [0, 1, 4] [4] [] [] ⟨[(0, .int .i64 code), (1, .int .i64 at0), (4, .ptr 4 0)], [(4, [.int .i64 0, .int .i64 0])], [], []⟩ .nil (by kernel_rfl) ?_
  refine Wk_seq ?_
  refine WR [] [4] [4] [] [] ⟨[(4, .ptr 4 0)], [(4, [.int .i64 code, .int .i64 at0])], [], []⟩ .nil (by kernel_rfl) ?_
  exact Wk_ret (hfin _ (by rw [← hF]; kernel_rfl))

/- lease.Check -/
noncomputable def lease_Check (l : Lease) : Fault :=
  lt (lease_number l.Holder) fun x =>
  lt (lease_number l.Epoch) fun x1 =>
  lt (lease_number l.Until) fun x2 =>
  if (((!x) || (!x1)) || (!x2)) = true then
    lt (lease_fault 3 0) fun x3 =>
    x3
  else
    (⟨0, 0⟩ : Fault)
theorem lease_Check_ok (l : Lease) (r : Fault) (hF : lease_Check l = r) : Pc Try.prog 13 [.agg [.int .i64 l.Holder, .int .i64 l.Epoch, .int .i64 l.Until]] (.agg [.int .i64 r.Code, .int .i64 r.At]) := by
  refine Pc_of (N := 21) (res := [.cell 2 25]) (ts := [25]) Ty.ok Fn.b13 Try.func13 rfl rfl rfl rfl rfl ?_
  intro Q g hfin
  unfold lease_Check at hF
  refine Wk_seq ?_
  refine WR [] [1, 2] [1, 2] [] [] ⟨[(1, .ptr 1 0), (2, .ptr 2 0)], [(1, [.int .i64 l.Holder, .int .i64 l.Epoch, .int .i64 l.Until]), (2, [.int .i64 0, .int .i64 0])], [], []⟩ .nil (by kernel_rfl) ?_
  refine Wk_seq ?_
  refine Wk_seq ?_
  obtain ⟨x, h0, hF⟩ := lt_split hF
  obtain ⟨x1, h1, hF⟩ := lt_split hF
  obtain ⟨x2, h2, hF⟩ := lt_split hF
  refine WR [.call (.bool x), .call (.bool x1), .call (.bool x2)] [2, 18] [2] [] [] ⟨[(2, .ptr 2 0), (18, .bool (((!x) || (!x1)) || (!x2)))], [(2, [.int .i64 0, .int .i64 0])], [], []⟩ (.cons (lease_number_ok l.Holder x h0) (.cons (fun (ga0 : (!(!x)) = true) => (lease_number_ok l.Epoch x1 h1)) (.cons (fun (ga0 : (!((!x) || (!x1))) = true) => (lease_number_ok l.Until x2 h2)) .nil))) (by kernel_rfl) ?_
  refine Wk_split rfl (fun hb => ?_) (fun hb => ?_)
  · have hF := ite_t hF hb
    refine Wk_seq ?_
    obtain ⟨x3, h3, hF⟩ := lt_split hF
    refine WR [.call (.agg [.int .i64 x3.Code, .int .i64 x3.At])] [2] [2] [] [] ⟨[(2, .ptr 2 0)], [(2, [.int .i64 x3.Code, .int .i64 x3.At])], [], []⟩ (.cons (lease_fault_ok 3 0 x3 h3) .nil) (by kernel_rfl) ?_
    exact Wk_ret (hfin _ (by rw [← hF]; kernel_rfl))
  · have hF := ite_f hF hb
    refine Wk_skip ?_
    refine Wk_seq ?_
    refine WR [] [2] [2] [] [] ⟨[(2, .ptr 2 0)], [(2, [.int .i64 0, .int .i64 0])], [], []⟩ .nil (by kernel_rfl) ?_
    exact Wk_ret (hfin _ (by rw [← hF]; kernel_rfl))

/- lease.spanned -/
noncomputable def lease_spanned (span : Int) : Fault :=
  if ((decide (span < 4)) || (decide (1000000 < span))) = true then
    lt (lease_fault 3 (-3)) fun x =>
    x
  else
    (⟨0, 0⟩ : Fault)
theorem lease_spanned_ok (span : Int) (r : Fault) (hF : lease_spanned span = r) : Pc Try.prog 52 [.int .i64 span] (.agg [.int .i64 r.Code, .int .i64 r.At]) := by
  refine Pc_of (N := 11) (res := [.cell 2 25]) (ts := [25]) Ty.ok Fn.b52 Try.func52 rfl rfl rfl rfl rfl ?_
  intro Q g hfin
  unfold lease_spanned at hF
  refine Wk_seq ?_
  refine WR [] [0, 2] [2] [] [] ⟨[(0, .int .i64 span), (2, .ptr 2 0)], [(2, [.int .i64 0, .int .i64 0])], [], []⟩ .nil (by kernel_rfl) ?_
  refine Wk_seq ?_
  refine Wk_seq ?_
  refine WR [] [2, 8] [2] [] [] ⟨[(2, .ptr 2 0), (8, .bool ((decide (span < 4)) || (decide (1000000 < span))))], [(2, [.int .i64 0, .int .i64 0])], [], []⟩ .nil (by kernel_rfl) ?_
  refine Wk_split rfl (fun hb => ?_) (fun hb => ?_)
  · have hF := ite_t hF hb
    refine Wk_seq ?_
    obtain ⟨x, h0, hF⟩ := lt_split hF
    refine WR [.call (.agg [.int .i64 x.Code, .int .i64 x.At])] [2] [2] [] [] ⟨[(2, .ptr 2 0)], [(2, [.int .i64 x.Code, .int .i64 x.At])], [], []⟩ (.cons (lease_fault_ok 3 (-3) x h0) .nil) (by kernel_rfl) ?_
    exact Wk_ret (hfin _ (by rw [← hF]; kernel_rfl))
  · have hF := ite_f hF hb
    refine Wk_skip ?_
    refine Wk_seq ?_
    refine WR [] [2] [2] [] [] ⟨[(2, .ptr 2 0)], [(2, [.int .i64 0, .int .i64 0])], [], []⟩ .nil (by kernel_rfl) ?_
    exact Wk_ret (hfin _ (by rw [← hF]; kernel_rfl))

/- lease.asked -/
noncomputable def lease_asked (l : Lease) (who : Int) (now : Int) (span : Int) : Fault :=
  lt (lease_Check l) fun x =>
  if (!decide (x.Code = 0)) = true then
    x
  else
    if ((decide (who < 1)) || (decide (1000000000 < who))) = true then
      lt (lease_fault 3 (-1)) fun x1 =>
      x1
    else
      lt (lease_number now) fun x2 =>
      if (!x2) = true then
        lt (lease_fault 3 (-2)) fun x3 =>
        x3
      else
        lt (lease_spanned span) fun x4 =>
        x4
theorem lease_asked_ok (l : Lease) (who : Int) (now : Int) (span : Int) (r : Fault) (hF : lease_asked l who now span = r) : Pc Try.prog 50 [.agg [.int .i64 l.Holder, .int .i64 l.Epoch, .int .i64 l.Until], .int .i64 who, .int .i64 now, .int .i64 span] (.agg [.int .i64 r.Code, .int .i64 r.At]) := by
  refine Pc_of (N := 32) (res := [.cell 8 25]) (ts := [25]) Ty.ok Fn.b50 Try.func50 rfl rfl rfl rfl rfl ?_
  intro Q g hfin
  unfold lease_asked at hF
  refine Wk_seq ?_
  refine WR [] [1, 2, 3, 4, 8] [4, 8] [] [] ⟨[(1, .int .i64 who), (2, .int .i64 now), (3, .int .i64 span), (4, .ptr 4 0), (8, .ptr 8 0)], [(4, [.int .i64 l.Holder, .int .i64 l.Epoch, .int .i64 l.Until]), (8, [.int .i64 0, .int .i64 0])], [], []⟩ .nil (by kernel_rfl) ?_
  refine Wk_seq ?_
  obtain ⟨x, h0, hF⟩ := lt_split hF
  refine WR [.call (.agg [.int .i64 x.Code, .int .i64 x.At])] [1, 2, 3, 8, 9] [8, 9] [] [] ⟨[(1, .int .i64 who), (2, .int .i64 now), (3, .int .i64 span), (8, .ptr 8 0), (9, .ptr 9 0)], [(8, [.int .i64 0, .int .i64 0]), (9, [.int .i64 x.Code, .int .i64 x.At])], [], []⟩ (.cons (lease_Check_ok l x h0) .nil) (by kernel_rfl) ?_
  refine Wk_seq ?_
  refine Wk_block ?_
  refine Wk_seq ?_
  refine WR [] [1, 2, 3, 8, 9, 12] [8, 9] [] [] ⟨[(1, .int .i64 who), (2, .int .i64 now), (3, .int .i64 span), (8, .ptr 8 0), (9, .ptr 9 0), (12, .bool (!decide (x.Code = 0)))], [(8, [.int .i64 0, .int .i64 0]), (9, [.int .i64 x.Code, .int .i64 x.At])], [], []⟩ .nil (by kernel_rfl) ?_
  refine Wk_split rfl (fun hb => ?_) (fun hb => ?_)
  · have hF := ite_t hF hb
    refine Wk_seq ?_
    refine WR [] [8] [8] [] [] ⟨[(8, .ptr 8 0)], [(8, [.int .i64 x.Code, .int .i64 x.At])], [], []⟩ .nil (by kernel_rfl) ?_
    exact Wk_ret (hfin _ (by rw [← hF]; kernel_rfl))
  · have hF := ite_f hF hb
    refine Wk_seq ?_
    refine WR [] [2, 3, 8, 17] [8] [] [] ⟨[(2, .int .i64 now), (3, .int .i64 span), (8, .ptr 8 0), (17, .bool ((decide (who < 1)) || (decide (1000000000 < who))))], [(8, [.int .i64 0, .int .i64 0])], [], []⟩ .nil (by kernel_rfl) ?_
    refine Wk_split rfl (fun hb => ?_) (fun hb => ?_)
    · have hF := ite_t hF hb
      refine Wk_seq ?_
      obtain ⟨x1, h1, hF⟩ := lt_split hF
      refine WR [.call (.agg [.int .i64 x1.Code, .int .i64 x1.At])] [8] [8] [] [] ⟨[(8, .ptr 8 0)], [(8, [.int .i64 x1.Code, .int .i64 x1.At])], [], []⟩ (.cons (lease_fault_ok 3 (-1) x1 h1) .nil) (by kernel_rfl) ?_
      exact Wk_ret (hfin _ (by rw [← hF]; kernel_rfl))
    · have hF := ite_f hF hb
      refine Wk_seq ?_
      obtain ⟨x2, h2, hF⟩ := lt_split hF
      refine WR [.call (.bool x2)] [3, 8, 25] [8] [] [] ⟨[(3, .int .i64 span), (8, .ptr 8 0), (25, .bool (!x2))], [(8, [.int .i64 0, .int .i64 0])], [], []⟩ (.cons (lease_number_ok now x2 h2) .nil) (by kernel_rfl) ?_
      refine Wk_split rfl (fun hb => ?_) (fun hb => ?_)
      · have hF := ite_t hF hb
        refine Wk_seq ?_
        obtain ⟨x3, h3, hF⟩ := lt_split hF
        refine WR [.call (.agg [.int .i64 x3.Code, .int .i64 x3.At])] [8] [8] [] [] ⟨[(8, .ptr 8 0)], [(8, [.int .i64 x3.Code, .int .i64 x3.At])], [], []⟩ (.cons (lease_fault_ok 3 (-2) x3 h3) .nil) (by kernel_rfl) ?_
        exact Wk_ret (hfin _ (by rw [← hF]; kernel_rfl))
      · have hF := ite_f hF hb
        refine Wk_skip ?_
        refine Wk_blk ?_
        refine Wk_seq ?_
        obtain ⟨x4, h4, hF⟩ := lt_split hF
        refine WR [.call (.agg [.int .i64 x4.Code, .int .i64 x4.At])] [8] [8] [] [] ⟨[(8, .ptr 8 0)], [(8, [.int .i64 x4.Code, .int .i64 x4.At])], [], []⟩ (.cons (lease_spanned_ok span x4 h4) .nil) (by kernel_rfl) ?_
        exact Wk_ret (hfin _ (by rw [← hF]; kernel_rfl))

/- lease.held -/
noncomputable def lease_held (l : Lease) (now : Int) : Bool :=
  (!decide (l.Holder = 0)) && (decide (now < l.Until))
theorem lease_held_ok (l : Lease) (now : Int) (r : Bool) (hF : lease_held l now = r) : Pc Try.prog 51 [.agg [.int .i64 l.Holder, .int .i64 l.Epoch, .int .i64 l.Until], .int .i64 now] (.bool r) := by
  refine Pc_of (N := 14) (res := [.tmp 4]) (ts := [4]) Ty.ok Fn.b51 Try.func51 rfl rfl rfl rfl rfl ?_
  intro Q g hfin
  unfold lease_held at hF
  refine Wk_seq ?_
  refine WR [] [1, 2] [2] [] [] ⟨[(1, .int .i64 now), (2, .ptr 2 0)], [(2, [.int .i64 l.Holder, .int .i64 l.Epoch, .int .i64 l.Until])], [], []⟩ .nil (by kernel_rfl) ?_
  refine Wk_seq ?_
  refine WR [] [4] [] [] [] ⟨[(4, .bool ((!decide (l.Holder = 0)) && (decide (now < l.Until))))], [], [], []⟩ .nil (by kernel_rfl) ?_
  exact Wk_ret (hfin _ (by rw [← hF]; kernel_rfl))

/- lease.Grant -/
noncomputable def lease_Grant (l : Lease) (who : Int) (now : Int) (span : Int) : Lease × Fault :=
  lt (lease_asked l who now span) fun x =>
  if (!decide (x.Code = 0)) = true then
    ((⟨0, 0, 0⟩ : Lease), x)
  else
    lt (lease_held l now) fun x1 =>
    if x1 = true then
      lt (lease_fault 11 0) fun x2 =>
      ((⟨0, 0, 0⟩ : Lease), x2)
    else
      lt (lease_Check (⟨who, w64 (l.Epoch + 1), w64 (now + span)⟩ : Lease)) fun x3 =>
      if (!decide (x3.Code = 0)) = true then
        lt (lease_fault 9 0) fun x4 =>
        ((⟨0, 0, 0⟩ : Lease), x4)
      else
        ((⟨who, w64 (l.Epoch + 1), w64 (now + span)⟩ : Lease), (⟨0, 0⟩ : Fault))
theorem lease_Grant_ok (l : Lease) (who : Int) (now : Int) (span : Int) (r : Lease × Fault) (hF : lease_Grant l who now span = r) : Pc Try.prog 14 [.agg [.int .i64 l.Holder, .int .i64 l.Epoch, .int .i64 l.Until], .int .i64 who, .int .i64 now, .int .i64 span] (.tup [.agg [.int .i64 r.1.Holder, .int .i64 r.1.Epoch, .int .i64 r.1.Until], .agg [.int .i64 r.2.Code, .int .i64 r.2.At]]) := by
  refine Pc_of (N := 42) (res := [.cell 8 30, .cell 9 25]) (ts := [30, 25]) Ty.ok Fn.b14 Try.func14 rfl rfl rfl rfl rfl ?_
  intro Q g hfin
  unfold lease_Grant at hF
  refine Wk_seq ?_
  refine WR [] [1, 2, 3, 4, 8, 9] [4, 8, 9] [] [] ⟨[(1, .int .i64 who), (2, .int .i64 now), (3, .int .i64 span), (4, .ptr 4 0), (8, .ptr 8 0), (9, .ptr 9 0)], [(4, [.int .i64 l.Holder, .int .i64 l.Epoch, .int .i64 l.Until]), (8, [.int .i64 0, .int .i64 0, .int .i64 0]), (9, [.int .i64 0, .int .i64 0])], [], []⟩ .nil (by kernel_rfl) ?_
  refine Wk_seq ?_
  refine Wk_seq ?_
  obtain ⟨x, h0, hF⟩ := lt_split hF
  refine WR [.call (.agg [.int .i64 x.Code, .int .i64 x.At])] [1, 2, 3, 4, 8, 9, 10] [4, 8, 9, 10] [] [] ⟨[(1, .int .i64 who), (2, .int .i64 now), (3, .int .i64 span), (4, .ptr 4 0), (8, .ptr 8 0), (9, .ptr 9 0), (10, .ptr 10 0)], [(4, [.int .i64 l.Holder, .int .i64 l.Epoch, .int .i64 l.Until]), (8, [.int .i64 0, .int .i64 0, .int .i64 0]), (9, [.int .i64 0, .int .i64 0]), (10, [.int .i64 x.Code, .int .i64 x.At])], [], []⟩ (.cons (lease_asked_ok l who now span x h0) .nil) (by kernel_rfl) ?_
  refine Wk_seq ?_
  refine WR [] [1, 2, 3, 4, 8, 9, 10, 18] [4, 8, 9, 10] [] [] ⟨[(1, .int .i64 who), (2, .int .i64 now), (3, .int .i64 span), (4, .ptr 4 0), (8, .ptr 8 0), (9, .ptr 9 0), (10, .ptr 10 0), (18, .bool (!decide (x.Code = 0)))], [(4, [.int .i64 l.Holder, .int .i64 l.Epoch, .int .i64 l.Until]), (8, [.int .i64 0, .int .i64 0, .int .i64 0]), (9, [.int .i64 0, .int .i64 0]), (10, [.int .i64 x.Code, .int .i64 x.At])], [], []⟩ .nil (by kernel_rfl) ?_
  refine Wk_split rfl (fun hb => ?_) (fun hb => ?_)
  · have hF := ite_t hF hb
    refine Wk_seq ?_
    refine WD [] [8, 9] [8, 9] [] [] ⟨[(8, .ptr 8 0), (9, .ptr 9 0)], [(8, [.int .i64 0, .int .i64 0, .int .i64 0]), (9, [.int .i64 x.Code, .int .i64 x.At])], [], []⟩ .nil (by kernel_rfl) ?_
    exact Wk_ret (hfin _ (by rw [← hF]; kernel_rfl))
  · have hF := ite_f hF hb
    refine Wk_skip ?_
    refine Wk_seq ?_
    refine Wk_seq ?_
    obtain ⟨x1, h1, hF⟩ := lt_split hF
    refine WR [.call (.bool x1)] [1, 2, 3, 4, 8, 9, 23] [4, 8, 9] [] [] ⟨[(1, .int .i64 who), (2, .int .i64 now), (3, .int .i64 span), (4, .ptr 4 0), (8, .ptr 8 0), (9, .ptr 9 0), (23, .bool x1)], [(4, [.int .i64 l.Holder, .int .i64 l.Epoch, .int .i64 l.Until]), (8, [.int .i64 0, .int .i64 0, .int .i64 0]), (9, [.int .i64 0, .int .i64 0])], [], []⟩ (.cons (lease_held_ok l now x1 h1) .nil) (by kernel_rfl) ?_
    refine Wk_split rfl (fun hb => ?_) (fun hb => ?_)
    · have hF := ite_t hF hb
      refine Wk_seq ?_
      obtain ⟨x2, h2, hF⟩ := lt_split hF
      refine WR [.call (.agg [.int .i64 x2.Code, .int .i64 x2.At])] [8, 9] [8, 9] [] [] ⟨[(8, .ptr 8 0), (9, .ptr 9 0)], [(8, [.int .i64 0, .int .i64 0, .int .i64 0]), (9, [.int .i64 x2.Code, .int .i64 x2.At])], [], []⟩ (.cons (lease_fault_ok 11 0 x2 h2) .nil) (by kernel_rfl) ?_
      exact Wk_ret (hfin _ (by rw [← hF]; kernel_rfl))
    · have hF := ite_f hF hb
      refine Wk_skip ?_
      refine Wk_seq ?_
      refine WR [] [4, 8, 9] [4, 8, 9] [] [] ⟨[(4, .ptr 4 0), (8, .ptr 8 0), (9, .ptr 9 0)], [(4, [.int .i64 who, .int .i64 (w64 (l.Epoch + 1)), .int .i64 (w64 (now + span))]), (8, [.int .i64 0, .int .i64 0, .int .i64 0]), (9, [.int .i64 0, .int .i64 0])], [], []⟩ .nil (by kernel_rfl) ?_
      refine Wk_seq ?_
      refine Wk_seq ?_
      obtain ⟨x3, h3, hF⟩ := lt_split hF
      refine WR [.call (.agg [.int .i64 x3.Code, .int .i64 x3.At])] [4, 8, 9, 37] [4, 8, 9] [] [] ⟨[(4, .ptr 4 0), (8, .ptr 8 0), (9, .ptr 9 0), (37, .bool (!decide (x3.Code = 0)))], [(4, [.int .i64 who, .int .i64 (w64 (l.Epoch + 1)), .int .i64 (w64 (now + span))]), (8, [.int .i64 0, .int .i64 0, .int .i64 0]), (9, [.int .i64 0, .int .i64 0])], [], []⟩ (.cons (lease_Check_ok (⟨who, w64 (l.Epoch + 1), w64 (now + span)⟩ : Lease) x3 h3) .nil) (by kernel_rfl) ?_
      refine Wk_split rfl (fun hb => ?_) (fun hb => ?_)
      · have hF := ite_t hF hb
        refine Wk_seq ?_
        obtain ⟨x4, h4, hF⟩ := lt_split hF
        refine WR [.call (.agg [.int .i64 x4.Code, .int .i64 x4.At])] [8, 9] [8, 9] [] [] ⟨[(8, .ptr 8 0), (9, .ptr 9 0)], [(8, [.int .i64 0, .int .i64 0, .int .i64 0]), (9, [.int .i64 x4.Code, .int .i64 x4.At])], [], []⟩ (.cons (lease_fault_ok 9 0 x4 h4) .nil) (by kernel_rfl) ?_
        exact Wk_ret (hfin _ (by rw [← hF]; kernel_rfl))
      · have hF := ite_f hF hb
        refine Wk_skip ?_
        refine Wk_seq ?_
        refine WR [] [8, 9] [8, 9] [] [] ⟨[(8, .ptr 8 0), (9, .ptr 9 0)], [(8, [.int .i64 who, .int .i64 (w64 (l.Epoch + 1)), .int .i64 (w64 (now + span))]), (9, [.int .i64 0, .int .i64 0])], [], []⟩ .nil (by kernel_rfl) ?_
        exact Wk_ret (hfin _ (by rw [← hF]; kernel_rfl))

/- lease.sure -/
noncomputable def lease_sure (span : Int) : Int :=
  w64 (span - (w64 (Int.tdiv span 4)))
theorem lease_sure_ok (span : Int) (r : Int) (hF : lease_sure span = r) : Pc Try.prog 53 [.int .i64 span] (.int .i64 r) := by
  refine Pc_of (N := 7) (res := [.tmp 2]) (ts := [3]) Ty.ok Fn.b53 Try.func53 rfl rfl rfl rfl rfl ?_
  intro Q g hfin
  unfold lease_sure at hF
  refine Wk_seq ?_
  refine WR [] [0] [] [] [] ⟨[(0, .int .i64 span)], [], [], []⟩ .nil (by kernel_rfl) ?_
  refine Wk_seq ?_
  refine WR [] [2] [] [] [] ⟨[(2, .int .i64 (w64 (span - (w64 (Int.tdiv span 4)))))], [], [], []⟩ (.cons (by decide : (4 : Int) ≠ 0) .nil) (by kernel_rfl) ?_
  exact Wk_ret (hfin _ (by rw [← hF]; kernel_rfl))

/- lease.Trust -/
noncomputable def lease_Trust (sent : Int) (span : Int) : Int × Fault :=
  lt (lease_number sent) fun x =>
  if (!x) = true then
    lt (lease_fault 3 0) fun x1 =>
    (0, x1)
  else
    lt (lease_spanned span) fun x2 =>
    if (!decide (x2.Code = 0)) = true then
      (0, x2)
    else
      lt (lease_sure span) fun x3 =>
      (w64 (sent + x3), (⟨0, 0⟩ : Fault))
theorem lease_Trust_ok (sent : Int) (span : Int) (r : Int × Fault) (hF : lease_Trust sent span = r) : Pc Try.prog 16 [.int .i64 sent, .int .i64 span] (.tup [.int .i64 r.1, .agg [.int .i64 r.2.Code, .int .i64 r.2.At]]) := by
  refine Pc_of (N := 22) (res := [.tmp 4, .cell 5 25]) (ts := [3, 25]) Ty.ok Fn.b16 Try.func16 rfl rfl rfl rfl rfl ?_
  intro Q g hfin
  unfold lease_Trust at hF
  refine Wk_seq ?_
  refine WR [] [0, 1, 5] [5] [] [] ⟨[(0, .int .i64 sent), (1, .int .i64 span), (5, .ptr 5 0)], [(5, [.int .i64 0, .int .i64 0])], [], []⟩ .nil (by kernel_rfl) ?_
  refine Wk_seq ?_
  refine Wk_seq ?_
  obtain ⟨x, h0, hF⟩ := lt_split hF
  refine WR [.call (.bool x)] [0, 1, 5, 9] [5] [] [] ⟨[(0, .int .i64 sent), (1, .int .i64 span), (5, .ptr 5 0), (9, .bool (!x))], [(5, [.int .i64 0, .int .i64 0])], [], []⟩ (.cons (lease_number_ok sent x h0) .nil) (by kernel_rfl) ?_
  refine Wk_split rfl (fun hb => ?_) (fun hb => ?_)
  · have hF := ite_t hF hb
    refine Wk_seq ?_
    obtain ⟨x1, h1, hF⟩ := lt_split hF
    refine WR [.call (.agg [.int .i64 x1.Code, .int .i64 x1.At])] [4, 5] [5] [] [] ⟨[(4, .int .i64 0), (5, .ptr 5 0)], [(5, [.int .i64 x1.Code, .int .i64 x1.At])], [], []⟩ (.cons (lease_fault_ok 3 0 x1 h1) .nil) (by kernel_rfl) ?_
    exact Wk_ret (hfin _ (by rw [← hF]; kernel_rfl))
  · have hF := ite_f hF hb
    refine Wk_skip ?_
    refine Wk_seq ?_
    refine Wk_seq ?_
    obtain ⟨x2, h2, hF⟩ := lt_split hF
    refine WR [.call (.agg [.int .i64 x2.Code, .int .i64 x2.At])] [0, 1, 5, 6] [5, 6] [] [] ⟨[(0, .int .i64 sent), (1, .int .i64 span), (5, .ptr 5 0), (6, .ptr 6 0)], [(5, [.int .i64 0, .int .i64 0]), (6, [.int .i64 x2.Code, .int .i64 x2.At])], [], []⟩ (.cons (lease_spanned_ok span x2 h2) .nil) (by kernel_rfl) ?_
    refine Wk_seq ?_
    refine WR [] [0, 1, 5, 6, 15] [5, 6] [] [] ⟨[(0, .int .i64 sent), (1, .int .i64 span), (5, .ptr 5 0), (6, .ptr 6 0), (15, .bool (!decide (x2.Code = 0)))], [(5, [.int .i64 0, .int .i64 0]), (6, [.int .i64 x2.Code, .int .i64 x2.At])], [], []⟩ .nil (by kernel_rfl) ?_
    refine Wk_split rfl (fun hb => ?_) (fun hb => ?_)
    · have hF := ite_t hF hb
      refine Wk_seq ?_
      refine WD [] [4, 5] [5] [] [] ⟨[(4, .int .i64 0), (5, .ptr 5 0)], [(5, [.int .i64 x2.Code, .int .i64 x2.At])], [], []⟩ .nil (by kernel_rfl) ?_
      exact Wk_ret (hfin _ (by rw [← hF]; kernel_rfl))
    · have hF := ite_f hF hb
      refine Wk_skip ?_
      refine Wk_seq ?_
      obtain ⟨x3, h3, hF⟩ := lt_split hF
      refine WR [.call (.int .i64 x3)] [4, 5] [5] [] [] ⟨[(4, .int .i64 (w64 (sent + x3))), (5, .ptr 5 0)], [(5, [.int .i64 0, .int .i64 0])], [], []⟩ (.cons (lease_sure_ok span x3 h3) .nil) (by kernel_rfl) ?_
      exact Wk_ret (hfin _ (by rw [← hF]; kernel_rfl))

/- tabularylaw.leaseBegun -/
noncomputable def law_leaseBegun  : Bool :=
  lt (lease_Grant (⟨0, 0, 0⟩ : Lease) 1 0 8) fun x =>
  lt (lease_Trust 2 8) fun x1 =>
  lt ((((decide (x.2.Code = 0)) && (decide (x1.2.Code = 0))) && (decide (x.1.Holder = 1) && (decide (x.1.Epoch = 1) && (decide (x.1.Until = 8) && true)))) && (decide (x1.1 = 8))) fun (v : Bool) =>
  v
theorem law_leaseBegun_ok  (r : Bool) (hF : law_leaseBegun  = r) : Pc Try.prog 11 [] (.bool r) := by
  refine Pc_of (N := 31) (res := [.tmp 0]) (ts := [4]) Ty.ok Fn.b11 Try.func11 rfl rfl rfl rfl rfl ?_
  intro Q g hfin
  unfold law_leaseBegun at hF
  refine Wk_seq ?_
  refine WR [] [] [] [] [] ⟨[], [], [], []⟩ .nil (by kernel_rfl) ?_
  refine Wk_seq ?_
  obtain ⟨x, h0, hF⟩ := lt_split hF
  refine WR [.call (.tup [.agg [.int .i64 x.1.Holder, .int .i64 x.1.Epoch, .int .i64 x.1.Until], .agg [.int .i64 x.2.Code, .int .i64 x.2.At]])] [1, 2] [1, 2] [] [] ⟨[(1, .ptr 1 0), (2, .ptr 2 0)], [(1, [.int .i64 x.1.Holder, .int .i64 x.1.Epoch, .int .i64 x.1.Until]), (2, [.int .i64 x.2.Code, .int .i64 x.2.At])], [], []⟩ (.cons (lease_Grant_ok (⟨0, 0, 0⟩ : Lease) 1 0 8 x h0) .nil) (by kernel_rfl) ?_
  refine Wk_seq ?_
  obtain ⟨x1, h1, hF⟩ := lt_split hF
  refine WR [.call (.tup [.int .i64 x1.1, .agg [.int .i64 x1.2.Code, .int .i64 x1.2.At]])] [1, 2, 3, 4] [1, 2, 4] [] [] ⟨[(1, .ptr 1 0), (2, .ptr 2 0), (3, .int .i64 x1.1), (4, .ptr 4 0)], [(1, [.int .i64 x.1.Holder, .int .i64 x.1.Epoch, .int .i64 x.1.Until]), (2, [.int .i64 x.2.Code, .int .i64 x.2.At]), (4, [.int .i64 x1.2.Code, .int .i64 x1.2.At])], [], []⟩ (.cons (lease_Trust_ok 2 8 x1 h1) .nil) (by kernel_rfl) ?_
  refine Wk_seq ?_
  refine WRL ((((decide (x.2.Code = 0)) && (decide (x1.2.Code = 0))) && (decide (x.1.Holder = 1) && (decide (x.1.Epoch = 1) && (decide (x.1.Until = 8) && true)))) && (decide (x1.1 = 8))) (fun v : Bool => ⟨[(0, .bool v)], [], [], []⟩) [] [0] [] [] [] .nil (by kernel_rfl) (fun v hv => ?_)
  have hF := lt_elim hF hv
  exact Wk_ret (hfin _ (by rw [← hF]; kernel_rfl))

/- lease.Admit -/
noncomputable def lease_Admit (seen : Int) (epoch : Int) : Int × Fault :=
  lt (lease_number seen) fun x =>
  lt (lease_number epoch) fun x1 =>
  if ((!x) || (!x1)) = true then
    lt (lease_fault 3 0) fun x2 =>
    (0, x2)
  else
    if (decide (epoch < seen)) = true then
      lt (lease_fault 12 0) fun x3 =>
      (0, x3)
    else
      (epoch, (⟨0, 0⟩ : Fault))
theorem lease_Admit_ok (seen : Int) (epoch : Int) (r : Int × Fault) (hF : lease_Admit seen epoch = r) : Pc Try.prog 12 [.int .i64 seen, .int .i64 epoch] (.tup [.int .i64 r.1, .agg [.int .i64 r.2.Code, .int .i64 r.2.At]]) := by
  refine Pc_of (N := 23) (res := [.tmp 4, .cell 5 25]) (ts := [3, 25]) Ty.ok Fn.b12 Try.func12 rfl rfl rfl rfl rfl ?_
  intro Q g hfin
  unfold lease_Admit at hF
  refine Wk_seq ?_
  refine WR [] [0, 1, 5] [5] [] [] ⟨[(0, .int .i64 seen), (1, .int .i64 epoch), (5, .ptr 5 0)], [(5, [.int .i64 0, .int .i64 0])], [], []⟩ .nil (by kernel_rfl) ?_
  refine Wk_seq ?_
  refine Wk_block ?_
  refine Wk_seq ?_
  obtain ⟨x, h0, hF⟩ := lt_split hF
  obtain ⟨x1, h1, hF⟩ := lt_split hF
  refine WR [.call (.bool x), .call (.bool x1)] [0, 1, 5, 6] [5] [] [] ⟨[(0, .int .i64 seen), (1, .int .i64 epoch), (5, .ptr 5 0), (6, .bool ((!x) || (!x1)))], [(5, [.int .i64 0, .int .i64 0])], [], []⟩ (.cons (lease_number_ok seen x h0) (.cons (fun (ga0 : (!(!x)) = true) => (lease_number_ok epoch x1 h1)) .nil)) (by kernel_rfl) ?_
  refine Wk_split rfl (fun hb => ?_) (fun hb => ?_)
  · have hF := ite_t hF hb
    refine Wk_seq ?_
    obtain ⟨x2, h2, hF⟩ := lt_split hF
    refine WR [.call (.agg [.int .i64 x2.Code, .int .i64 x2.At])] [4, 5] [5] [] [] ⟨[(4, .int .i64 0), (5, .ptr 5 0)], [(5, [.int .i64 x2.Code, .int .i64 x2.At])], [], []⟩ (.cons (lease_fault_ok 3 0 x2 h2) .nil) (by kernel_rfl) ?_
    exact Wk_ret (hfin _ (by rw [← hF]; kernel_rfl))
  · have hF := ite_f hF hb
    refine Wk_seq ?_
    refine WR [] [1, 5, 16] [5] [] [] ⟨[(1, .int .i64 epoch), (5, .ptr 5 0), (16, .bool (decide (epoch < seen)))], [(5, [.int .i64 0, .int .i64 0])], [], []⟩ .nil (by kernel_rfl) ?_
    refine Wk_split rfl (fun hb => ?_) (fun hb => ?_)
    · have hF := ite_t hF hb
      refine Wk_seq ?_
      obtain ⟨x3, h3, hF⟩ := lt_split hF
      refine WR [.call (.agg [.int .i64 x3.Code, .int .i64 x3.At])] [4, 5] [5] [] [] ⟨[(4, .int .i64 0), (5, .ptr 5 0)], [(5, [.int .i64 x3.Code, .int .i64 x3.At])], [], []⟩ (.cons (lease_fault_ok 12 0 x3 h3) .nil) (by kernel_rfl) ?_
      exact Wk_ret (hfin _ (by rw [← hF]; kernel_rfl))
    · have hF := ite_f hF hb
      refine Wk_skip ?_
      refine Wk_blk ?_
      refine Wk_seq ?_
      refine WR [] [4, 5] [5] [] [] ⟨[(4, .int .i64 epoch), (5, .ptr 5 0)], [(5, [.int .i64 0, .int .i64 0])], [], []⟩ .nil (by kernel_rfl) ?_
      exact Wk_ret (hfin _ (by rw [← hF]; kernel_rfl))

/- tabularylaw.LeaseFence -/
noncomputable def law_LeaseFence_J1 (v : Unit) : Option Bool :=
  some true
noncomputable def law_LeaseFence_B1 (epochs : List Int) (v1 : Int × Int) : Option ((Int × Int) ⊕ Bool) :=
  if (decide (v1.2 < (epochs.length : Int))) = true then
    asrt (0 ≤ v1.2 ∧ v1.2 < (epochs.length : Int)) <|
    lt (lease_Admit v1.1 (lget epochs v1.2)) fun x1 =>
    asrt (0 ≤ v1.2 ∧ v1.2 < (epochs.length : Int)) <|
    asrt ((decide (v1.1 ≤ (lget epochs v1.2))) = true → 0 ≤ v1.2 ∧ v1.2 < (epochs.length : Int)) <|
    asrt ((decide (x1.2.Code = 0)) = true → (!(!((decide (x1.2.Code = 0)) == ((decide (v1.1 ≤ (lget epochs v1.2))) && (decide ((lget epochs v1.2) ≤ 1000000000)))))) = true → 0 ≤ v1.2 ∧ v1.2 < (epochs.length : Int)) <|
    if ((!((decide (x1.2.Code = 0)) == ((decide (v1.1 ≤ (lget epochs v1.2))) && (decide ((lget epochs v1.2) ≤ 1000000000))))) || ((decide (x1.2.Code = 0)) && (!decide (x1.1 = (lget epochs v1.2))))) = true then
      some (Sum.inr false)
    else
      ob (
        if (decide (x1.2.Code = 0)) = true then
          some x1.1
        else
          some v1.1) fun (seen : Int) =>
      some (Sum.inl (seen, w64 (v1.2 + 1)))
  else
    inrO (law_LeaseFence_J1 ())
noncomputable def law_LeaseFence_L1 (epochs : List Int) (v0 : Int × Int) : Option Bool :=
  loopO (fun y => law_LeaseFence_B1 epochs y) v0
noncomputable def law_LeaseFence (epochs : List Int) : Option Bool :=
  lt (law_leaseBegun) fun x =>
  if (!x) = true then
    some false
  else
    if (decide (1000 < (epochs.length : Int))) = true then
      some true
    else
      law_LeaseFence_L1 epochs (0, 0)
theorem law_LeaseFence_ok (epochs : List Int) (r : Bool) (hF : law_LeaseFence epochs = some r) : Pc Try.prog 3 [.sl 1 (epochs.map e_i64)] (.bool r) := by
  refine Pc_of (N := 61) (res := [.tmp 2]) (ts := [4]) Ty.ok Fn.b3 Try.func3 rfl rfl rfl rfl rfl ?_
  intro Q g hfin
  unfold law_LeaseFence at hF
  refine Wk_seq ?_
  refine WR [] [0] [] [] [] ⟨[(0, .sl 1 (epochs.map e_i64))], [], [], []⟩ .nil (by kernel_rfl) ?_
  refine Wk_seq ?_
  refine Wk_seq ?_
  obtain ⟨x, h0, hF⟩ := lt_split hF
  refine WR [.call (.bool x)] [0, 8] [] [] [] ⟨[(0, .sl 1 (epochs.map e_i64)), (8, .bool (!x))], [], [], []⟩ (.cons (law_leaseBegun_ok  x h0) .nil) (by kernel_rfl) ?_
  refine Wk_split rfl (fun hb => ?_) (fun hb => ?_)
  · have hF := ite_t hF hb
    refine Wk_seq ?_
    refine WR [] [2] [] [] [] ⟨[(2, .bool false)], [], [], []⟩ .nil (by kernel_rfl) ?_
    have hF := some_elim hF
    exact Wk_ret (hfin _ (by rw [← hF]; kernel_rfl))
  · have hF := ite_f hF hb
    refine Wk_skip ?_
    refine Wk_seq ?_
    refine Wk_seq ?_
    refine WR [.nat (epochs.length : Int)] [0, 11] [] [] [] ⟨[(0, .sl 1 (epochs.map e_i64)), (11, .bool (decide (1000 < (epochs.length : Int))))], [], [], []⟩ (.cons (len_ok e_i64 epochs) .nil) (by kernel_rfl) ?_
    refine Wk_split rfl (fun hb => ?_) (fun hb => ?_)
    · have hF := ite_t hF hb
      refine Wk_seq ?_
      refine WR [] [2] [] [] [] ⟨[(2, .bool true)], [], [], []⟩ .nil (by kernel_rfl) ?_
      have hF := some_elim hF
      exact Wk_ret (hfin _ (by rw [← hF]; kernel_rfl))
    · have hF := ite_f hF hb
      refine Wk_skip ?_
      refine Wk_seq ?_
      refine WR [] [0, 3] [] [] [] ⟨[(0, .sl 1 (epochs.map e_i64)), (3, .int .i64 0)], [], [], []⟩ .nil (by kernel_rfl) ?_
      refine Wk_seq ?_
      refine Wk_seq ?_
      refine WR [] [0, 3, 4] [] [] [] ⟨[(0, .sl 1 (epochs.map e_i64)), (3, .int .i64 0), (4, .int .i64 0)], [], [], []⟩ .nil (by kernel_rfl) ?_
      refine Wk_meetP (fun v : Unit => (⟨[], [], [], []⟩ : S)) (fun v => law_LeaseFence_J1 v = some r) ?_ ?_
      · refine Wk_block ?_
        unfold law_LeaseFence_L1 at hF
        refine Wk_trim (fs := [0, 3, 4]) (bs := []) (rs := []) (ms := []) (t := (fun v1 : Int × Int => (⟨[(0, .sl 1 (epochs.map e_i64)), (3, .int .i64 v1.1), (4, .int .i64 v1.2)], [], [], []⟩ : S)) (0, 0)) (by kernel_rfl) ?_
        refine Wk_iter (step := fun y => law_LeaseFence_B1 epochs y) (r := r) (fun v1 : Int × Int => (⟨[(0, .sl 1 (epochs.map e_i64)), (3, .int .i64 v1.1), (4, .int .i64 v1.2)], [], [], []⟩ : S)) (0, 0) hF ?_
        intro n1 v1 y1 hF ih1 dn1
        have hF : law_LeaseFence_B1 epochs v1 = some y1 := hF
        unfold law_LeaseFence_B1 at hF
        refine Wk_seq ?_
        refine Wk_seq ?_
        refine WR [.nat (epochs.length : Int)] [0, 3, 4, 15] [] [] [] ⟨[(0, .sl 1 (epochs.map e_i64)), (3, .int .i64 v1.1), (4, .int .i64 v1.2), (15, .bool (decide (v1.2 < (epochs.length : Int))))], [], [], []⟩ (.cons (len_ok e_i64 epochs) .nil) (by kernel_rfl) ?_
        refine Wk_split rfl (fun hb => ?_) (fun hb => ?_)
        · have hF := ite_t hF hb
          refine Wk_skip ?_
          refine Wk_seq ?_
          refine Wk_block ?_
          refine Wk_seq ?_
          obtain ⟨h1, hF⟩ := asrt_elim hF
          obtain ⟨x1, h2, hF⟩ := lt_split hF
          refine WR [.av (e_i64 (lget epochs v1.2)), .call (.tup [.int .i64 x1.1, .agg [.int .i64 x1.2.Code, .int .i64 x1.2.At]])] [0, 3, 4, 5, 6] [6] [] [] ⟨[(0, .sl 1 (epochs.map e_i64)), (3, .int .i64 v1.1), (4, .int .i64 v1.2), (5, .int .i64 x1.1), (6, .ptr 6 0)], [(6, [.int .i64 x1.2.Code, .int .i64 x1.2.At])], [], []⟩ (.cons (idx_ok e_i64 h1) (.cons (lease_Admit_ok v1.1 (lget epochs v1.2) x1 h2) .nil)) (by kernel_rfl) ?_
          refine Wk_seq ?_
          refine Wk_seq ?_
          obtain ⟨h3, hF⟩ := asrt_elim hF
          obtain ⟨h4, hF⟩ := asrt_elim hF
          obtain ⟨h5, hF⟩ := asrt_elim hF
          refine WD [.av (e_i64 (lget epochs v1.2)), .av (e_i64 (lget epochs v1.2)), .av (e_i64 (lget epochs v1.2))] [0, 3, 4, 5, 6, 56] [6] [] [] ⟨[(0, .sl 1 (epochs.map e_i64)), (3, .int .i64 v1.1), (4, .int .i64 v1.2), (5, .int .i64 x1.1), (6, .ptr 6 0), (56, .bool ((!((decide (x1.2.Code = 0)) == ((decide (v1.1 ≤ (lget epochs v1.2))) && (decide ((lget epochs v1.2) ≤ 1000000000))))) || ((decide (x1.2.Code = 0)) && (!decide (x1.1 = (lget epochs v1.2))))))], [(6, [.int .i64 x1.2.Code, .int .i64 x1.2.At])], [], []⟩ (.cons (idx_ok e_i64 h3) (.cons (fun (ga0 : (decide (v1.1 ≤ (lget epochs v1.2))) = true) => (idx_ok e_i64 (h4 ga0))) (.cons (fun (ga0 : (decide (x1.2.Code = 0)) = true) (ga1 : (!(!((decide (x1.2.Code = 0)) == ((decide (v1.1 ≤ (lget epochs v1.2))) && (decide ((lget epochs v1.2) ≤ 1000000000)))))) = true) => (idx_ok e_i64 (h5 ga0 ga1))) .nil))) (by kernel_rfl) ?_
          refine Wk_split rfl (fun hb => ?_) (fun hb => ?_)
          · have hF := ite_t hF hb
            refine Wk_seq ?_
            refine WR [] [2] [] [] [] ⟨[(2, .bool false)], [], [], []⟩ .nil (by kernel_rfl) ?_
            have hF := ret_done hF dn1
            have hF := some_elim hF
            exact Wk_ret (hfin _ (by rw [← hF]; kernel_rfl))
          · have hF := ite_f hF hb
            refine Wk_skip ?_
            refine Wk_seq ?_
            refine WR [] [0, 3, 4, 5, 59] [] [] [] ⟨[(0, .sl 1 (epochs.map e_i64)), (3, .int .i64 v1.1), (4, .int .i64 v1.2), (5, .int .i64 x1.1), (59, .bool (decide (x1.2.Code = 0)))], [], [], []⟩ .nil (by kernel_rfl) ?_
            obtain ⟨seen, hv, hF⟩ := ob_elim hF
            refine Wk_meet (⟨[(0, .sl 1 (epochs.map e_i64)), (3, .int .i64 seen), (4, .int .i64 v1.2)], [], [], []⟩ : S) ?_ ?_
            · have hF := hv
              refine Wk_split rfl (fun hb => ?_) (fun hb => ?_)
              · have hF := ite_t hF hb
                refine WR [] [0, 3, 4] [] [] [] ⟨[(0, .sl 1 (epochs.map e_i64)), (3, .int .i64 x1.1), (4, .int .i64 v1.2)], [], [], []⟩ .nil (by kernel_rfl) ?_
                exact Wk_met (fs := [0, 3, 4]) (bs := []) (rs := []) (ms := []) (by rw [← some_elim hF]; kernel_rfl)
              · have hF := ite_f hF hb
                refine Wk_skip ?_
                exact Wk_met (fs := [0, 3, 4]) (bs := []) (rs := []) (ms := []) (by rw [← some_elim hF]; kernel_rfl)
            · refine Wk_blk ?_
              refine WR [] [0, 3, 4] [] [] [] ⟨[(0, .sl 1 (epochs.map e_i64)), (3, .int .i64 seen), (4, .int .i64 (w64 (v1.2 + 1)))], [], [], []⟩ .nil (by kernel_rfl) ?_
              refine Wk_trim (fs := [0, 3, 4]) (bs := []) (rs := []) (ms := []) ?_ (ih1 _ (some_elim hF).symm)
              kernel_rfl
        · have hF := ite_f hF hb
          refine Wk_exit rfl ?_
          have hF := inrO_done hF dn1
          exact Wk_metP () [] [] [] [] hF (by kernel_rfl)
      · intro v hF
        have hF : law_LeaseFence_J1 v = some r := hF
        unfold law_LeaseFence_J1 at hF
        refine Wk_seq ?_
        refine WR [] [2] [] [] [] ⟨[(2, .bool true)], [], [], []⟩ .nil (by kernel_rfl) ?_
        have hF := some_elim hF
        exact Wk_ret (hfin _ (by rw [← hF]; kernel_rfl))

/- lease.Renew -/
noncomputable def lease_Renew (l : Lease) (who : Int) (epoch : Int) (now : Int) (span : Int) : Lease × Fault :=
  lt (lease_asked l who now span) fun x =>
  if (!decide (x.Code = 0)) = true then
    ((⟨0, 0, 0⟩ : Lease), x)
  else
    if ((!decide (l.Holder = who)) || (!decide (l.Epoch = epoch))) = true then
      lt (lease_fault 6 0) fun x1 =>
      ((⟨0, 0, 0⟩ : Lease), x1)
    else
      lt (lease_held l now) fun x2 =>
      if (!x2) = true then
        lt (lease_fault 12 0) fun x3 =>
        ((⟨0, 0, 0⟩ : Lease), x3)
      else
        lt (lease_Check (⟨l.Holder, l.Epoch, (max l.Until (w64 (now + span)))⟩ : Lease)) fun x4 =>
        if (!decide (x4.Code = 0)) = true then
          lt (lease_fault 9 0) fun x5 =>
          ((⟨0, 0, 0⟩ : Lease), x5)
        else
          ((⟨l.Holder, l.Epoch, (max l.Until (w64 (now + span)))⟩ : Lease), (⟨0, 0⟩ : Fault))
theorem lease_Renew_ok (l : Lease) (who : Int) (epoch : Int) (now : Int) (span : Int) (r : Lease × Fault) (hF : lease_Renew l who epoch now span = r) : Pc Try.prog 15 [.agg [.int .i64 l.Holder, .int .i64 l.Epoch, .int .i64 l.Until], .int .i64 who, .int .i64 epoch, .int .i64 now, .int .i64 span] (.tup [.agg [.int .i64 r.1.Holder, .int .i64 r.1.Epoch, .int .i64 r.1.Until], .agg [.int .i64 r.2.Code, .int .i64 r.2.At]]) := by
  refine Pc_of (N := 58) (res := [.cell 10 30, .cell 11 25]) (ts := [30, 25]) Ty.ok Fn.b15 Try.func15 rfl rfl rfl rfl rfl ?_
  intro Q g hfin
  unfold lease_Renew at hF
  refine Wk_seq ?_
  refine WR [] [1, 2, 3, 4, 5, 10, 11] [5, 10, 11] [] [] ⟨[(1, .int .i64 who), (2, .int .i64 epoch), (3, .int .i64 now), (4, .int .i64 span), (5, .ptr 5 0), (10, .ptr 10 0), (11, .ptr 11 0)], [(5, [.int .i64 l.Holder, .int .i64 l.Epoch, .int .i64 l.Until]), (10, [.int .i64 0, .int .i64 0, .int .i64 0]), (11, [.int .i64 0, .int .i64 0])], [], []⟩ .nil (by kernel_rfl) ?_
  refine Wk_seq ?_
  refine Wk_seq ?_
  obtain ⟨x, h0, hF⟩ := lt_split hF
  refine WR [.call (.agg [.int .i64 x.Code, .int .i64 x.At])] [1, 2, 3, 4, 5, 10, 11, 12] [5, 10, 11, 12] [] [] ⟨[(1, .int .i64 who), (2, .int .i64 epoch), (3, .int .i64 now), (4, .int .i64 span), (5, .ptr 5 0), (10, .ptr 10 0), (11, .ptr 11 0), (12, .ptr 12 0)], [(5, [.int .i64 l.Holder, .int .i64 l.Epoch, .int .i64 l.Until]), (10, [.int .i64 0, .int .i64 0, .int .i64 0]), (11, [.int .i64 0, .int .i64 0]), (12, [.int .i64 x.Code, .int .i64 x.At])], [], []⟩ (.cons (lease_asked_ok l who now span x h0) .nil) (by kernel_rfl) ?_
  refine Wk_seq ?_
  refine WR [] [1, 2, 3, 4, 5, 10, 11, 12, 20] [5, 10, 11, 12] [] [] ⟨[(1, .int .i64 who), (2, .int .i64 epoch), (3, .int .i64 now), (4, .int .i64 span), (5, .ptr 5 0), (10, .ptr 10 0), (11, .ptr 11 0), (12, .ptr 12 0), (20, .bool (!decide (x.Code = 0)))], [(5, [.int .i64 l.Holder, .int .i64 l.Epoch, .int .i64 l.Until]), (10, [.int .i64 0, .int .i64 0, .int .i64 0]), (11, [.int .i64 0, .int .i64 0]), (12, [.int .i64 x.Code, .int .i64 x.At])], [], []⟩ .nil (by kernel_rfl) ?_
  refine Wk_split rfl (fun hb => ?_) (fun hb => ?_)
  · have hF := ite_t hF hb
    refine Wk_seq ?_
    refine WD [] [10, 11] [10, 11] [] [] ⟨[(10, .ptr 10 0), (11, .ptr 11 0)], [(10, [.int .i64 0, .int .i64 0, .int .i64 0]), (11, [.int .i64 x.Code, .int .i64 x.At])], [], []⟩ .nil (by kernel_rfl) ?_
    exact Wk_ret (hfin _ (by rw [← hF]; kernel_rfl))
  · have hF := ite_f hF hb
    refine Wk_skip ?_
    refine Wk_seq ?_
    refine Wk_block ?_
    refine Wk_seq ?_
    refine WR [] [3, 4, 5, 10, 11, 23] [5, 10, 11] [] [] ⟨[(3, .int .i64 now), (4, .int .i64 span), (5, .ptr 5 0), (10, .ptr 10 0), (11, .ptr 11 0), (23, .bool ((!decide (l.Holder = who)) || (!decide (l.Epoch = epoch))))], [(5, [.int .i64 l.Holder, .int .i64 l.Epoch, .int .i64 l.Until]), (10, [.int .i64 0, .int .i64 0, .int .i64 0]), (11, [.int .i64 0, .int .i64 0])], [], []⟩ .nil (by kernel_rfl) ?_
    refine Wk_split rfl (fun hb => ?_) (fun hb => ?_)
    · have hF := ite_t hF hb
      refine Wk_seq ?_
      obtain ⟨x1, h1, hF⟩ := lt_split hF
      refine WR [.call (.agg [.int .i64 x1.Code, .int .i64 x1.At])] [10, 11] [10, 11] [] [] ⟨[(10, .ptr 10 0), (11, .ptr 11 0)], [(10, [.int .i64 0, .int .i64 0, .int .i64 0]), (11, [.int .i64 x1.Code, .int .i64 x1.At])], [], []⟩ (.cons (lease_fault_ok 6 0 x1 h1) .nil) (by kernel_rfl) ?_
      exact Wk_ret (hfin _ (by rw [← hF]; kernel_rfl))
    · have hF := ite_f hF hb
      refine Wk_seq ?_
      obtain ⟨x2, h2, hF⟩ := lt_split hF
      refine WR [.call (.bool x2)] [3, 4, 5, 10, 11, 36] [5, 10, 11] [] [] ⟨[(3, .int .i64 now), (4, .int .i64 span), (5, .ptr 5 0), (10, .ptr 10 0), (11, .ptr 11 0), (36, .bool (!x2))], [(5, [.int .i64 l.Holder, .int .i64 l.Epoch, .int .i64 l.Until]), (10, [.int .i64 0, .int .i64 0, .int .i64 0]), (11, [.int .i64 0, .int .i64 0])], [], []⟩ (.cons (lease_held_ok l now x2 h2) .nil) (by kernel_rfl) ?_
      refine Wk_split rfl (fun hb => ?_) (fun hb => ?_)
      · have hF := ite_t hF hb
        refine Wk_seq ?_
        obtain ⟨x3, h3, hF⟩ := lt_split hF
        refine WR [.call (.agg [.int .i64 x3.Code, .int .i64 x3.At])] [10, 11] [10, 11] [] [] ⟨[(10, .ptr 10 0), (11, .ptr 11 0)], [(10, [.int .i64 0, .int .i64 0, .int .i64 0]), (11, [.int .i64 x3.Code, .int .i64 x3.At])], [], []⟩ (.cons (lease_fault_ok 12 0 x3 h3) .nil) (by kernel_rfl) ?_
        exact Wk_ret (hfin _ (by rw [← hF]; kernel_rfl))
      · have hF := ite_f hF hb
        refine Wk_skip ?_
        refine Wk_blk ?_
        refine Wk_seq ?_
        refine WR [] [5, 10, 11] [5, 10, 11] [] [] ⟨[(5, .ptr 5 0), (10, .ptr 10 0), (11, .ptr 11 0)], [(5, [.int .i64 l.Holder, .int .i64 l.Epoch, .int .i64 (max l.Until (w64 (now + span)))]), (10, [.int .i64 0, .int .i64 0, .int .i64 0]), (11, [.int .i64 0, .int .i64 0])], [], []⟩ .nil (by kernel_rfl) ?_
        refine Wk_seq ?_
        refine Wk_seq ?_
        obtain ⟨x4, h4, hF⟩ := lt_split hF
        refine WR [.call (.agg [.int .i64 x4.Code, .int .i64 x4.At])] [5, 10, 11, 53] [5, 10, 11] [] [] ⟨[(5, .ptr 5 0), (10, .ptr 10 0), (11, .ptr 11 0), (53, .bool (!decide (x4.Code = 0)))], [(5, [.int .i64 l.Holder, .int .i64 l.Epoch, .int .i64 (max l.Until (w64 (now + span)))]), (10, [.int .i64 0, .int .i64 0, .int .i64 0]), (11, [.int .i64 0, .int .i64 0])], [], []⟩ (.cons (lease_Check_ok (⟨l.Holder, l.Epoch, (max l.Until (w64 (now + span)))⟩ : Lease) x4 h4) .nil) (by kernel_rfl) ?_
        refine Wk_split rfl (fun hb => ?_) (fun hb => ?_)
        · have hF := ite_t hF hb
          refine Wk_seq ?_
          obtain ⟨x5, h5, hF⟩ := lt_split hF
          refine WR [.call (.agg [.int .i64 x5.Code, .int .i64 x5.At])] [10, 11] [10, 11] [] [] ⟨[(10, .ptr 10 0), (11, .ptr 11 0)], [(10, [.int .i64 0, .int .i64 0, .int .i64 0]), (11, [.int .i64 x5.Code, .int .i64 x5.At])], [], []⟩ (.cons (lease_fault_ok 9 0 x5 h5) .nil) (by kernel_rfl) ?_
          exact Wk_ret (hfin _ (by rw [← hF]; kernel_rfl))
        · have hF := ite_f hF hb
          refine Wk_skip ?_
          refine Wk_seq ?_
          refine WR [] [10, 11] [10, 11] [] [] ⟨[(10, .ptr 10 0), (11, .ptr 11 0)], [(10, [.int .i64 l.Holder, .int .i64 l.Epoch, .int .i64 (max l.Until (w64 (now + span)))]), (11, [.int .i64 0, .int .i64 0])], [], []⟩ .nil (by kernel_rfl) ?_
          exact Wk_ret (hfin _ (by rw [← hF]; kernel_rfl))

/- tabularyref.Num -/
noncomputable def R_Num (num : Int) : Bool :=
  (decide (0 ≤ num)) && (decide (num ≤ 1000000000))
theorem R_Num_ok (num : Int) (r : Bool) (hF : R_Num num = r) : Pc Try.prog 17 [.int .i64 num] (.bool r) := by
  refine Pc_of (N := 9) (res := [.tmp 2]) (ts := [4]) Ty.ok Fn.b17 Try.func17 rfl rfl rfl rfl rfl ?_
  intro Q g hfin
  unfold R_Num at hF
  refine Wk_seq ?_
  refine WR [] [0] [] [] [] ⟨[(0, .int .i64 num)], [], [], []⟩ .nil (by kernel_rfl) ?_
  refine Wk_seq ?_
  refine WR [] [2] [] [] [] ⟨[(2, .bool ((decide (0 ≤ num)) && (decide (num ≤ 1000000000))))], [], [], []⟩ .nil (by kernel_rfl) ?_
  exact Wk_ret (hfin _ (by rw [← hF]; kernel_rfl))

/- tabularyref.F -/
noncomputable def R_F (code : Int) (at0 : Int) : Fault :=
  (⟨code, at0⟩ : Fault)
theorem R_F_ok (code : Int) (at0 : Int) (r : Fault) (hF : R_F code at0 = r) : Pc Try.prog 18 [.int .i64 code, .int .i64 at0] (.agg [.int .i64 r.Code, .int .i64 r.At]) := by
  refine Pc_of (N := 8) (res := [.cell 4 25]) (ts := [25]) Ty.ok Fn.b18 Try.func18 rfl rfl rfl rfl rfl ?_
  intro Q g hfin
  unfold R_F at hF
  refine Wk_seq ?_
  refine WR [] [0, 1, 4] [4] [] [] ⟨[(0, .int .i64 code), (1, .int .i64 at0), (4, .ptr 4 0)], [(4, [.int .i64 0, .int .i64 0])], [], []⟩ .nil (by kernel_rfl) ?_
  refine Wk_seq ?_
  refine WR [] [4] [4] [] [] ⟨[(4, .ptr 4 0)], [(4, [.int .i64 code, .int .i64 at0])], [], []⟩ .nil (by kernel_rfl) ?_
  exact Wk_ret (hfin _ (by rw [← hF]; kernel_rfl))

/- tabularyref.Spanned -/
noncomputable def R_Spanned (span : Int) : Fault :=
  if ((decide (span < 4)) || (decide (1000000 < span))) = true then
    lt (R_F 3 (-3)) fun x =>
    x
  else
    (⟨0, 0⟩ : Fault)
theorem R_Spanned_ok (span : Int) (r : Fault) (hF : R_Spanned span = r) : Pc Try.prog 21 [.int .i64 span] (.agg [.int .i64 r.Code, .int .i64 r.At]) := by
  refine Pc_of (N := 11) (res := [.cell 2 25]) (ts := [25]) Ty.ok Fn.b21 Try.func21 rfl rfl rfl rfl rfl ?_
  intro Q g hfin
  unfold R_Spanned at hF
  refine Wk_seq ?_
  refine WR [] [0, 2] [2] [] [] ⟨[(0, .int .i64 span), (2, .ptr 2 0)], [(2, [.int .i64 0, .int .i64 0])], [], []⟩ .nil (by kernel_rfl) ?_
  refine Wk_seq ?_
  refine Wk_seq ?_
  refine WR [] [2, 8] [2] [] [] ⟨[(2, .ptr 2 0), (8, .bool ((decide (span < 4)) || (decide (1000000 < span))))], [(2, [.int .i64 0, .int .i64 0])], [], []⟩ .nil (by kernel_rfl) ?_
  refine Wk_split rfl (fun hb => ?_) (fun hb => ?_)
  · have hF := ite_t hF hb
    refine Wk_seq ?_
    obtain ⟨x, h0, hF⟩ := lt_split hF
    refine WR [.call (.agg [.int .i64 x.Code, .int .i64 x.At])] [2] [2] [] [] ⟨[(2, .ptr 2 0)], [(2, [.int .i64 x.Code, .int .i64 x.At])], [], []⟩ (.cons (R_F_ok 3 (-3) x h0) .nil) (by kernel_rfl) ?_
    exact Wk_ret (hfin _ (by rw [← hF]; kernel_rfl))
  · have hF := ite_f hF hb
    refine Wk_skip ?_
    refine Wk_seq ?_
    refine WR [] [2] [2] [] [] ⟨[(2, .ptr 2 0)], [(2, [.int .i64 0, .int .i64 0])], [], []⟩ .nil (by kernel_rfl) ?_
    exact Wk_ret (hfin _ (by rw [← hF]; kernel_rfl))

/- tabularyref.Wished -/
noncomputable def R_Wished (l : Lease) (who : Int) (now : Int) (span : Int) : Fault :=
  lt (R_Num l.Holder) fun x =>
  lt (R_Num l.Epoch) fun x1 =>
  lt (R_Num l.Until) fun x2 =>
  if (((!x) || (!x1)) || (!x2)) = true then
    lt (R_F 3 0) fun x3 =>
    x3
  else
    if ((decide (who < 1)) || (decide (1000000000 < who))) = true then
      lt (R_F 3 (-1)) fun x4 =>
      x4
    else
      lt (R_Num now) fun x5 =>
      if (!x5) = true then
        lt (R_F 3 (-2)) fun x6 =>
        x6
      else
        lt (R_Spanned span) fun x7 =>
        x7
theorem R_Wished_ok (l : Lease) (who : Int) (now : Int) (span : Int) (r : Fault) (hF : R_Wished l who now span = r) : Pc Try.prog 54 [.agg [.int .i64 l.Holder, .int .i64 l.Epoch, .int .i64 l.Until], .int .i64 who, .int .i64 now, .int .i64 span] (.agg [.int .i64 r.Code, .int .i64 r.At]) := by
  refine Pc_of (N := 39) (res := [.cell 8 25]) (ts := [25]) Ty.ok Fn.b54 Try.func54 rfl rfl rfl rfl rfl ?_
  intro Q g hfin
  unfold R_Wished at hF
  refine Wk_seq ?_
  refine WR [] [1, 2, 3, 4, 8] [4, 8] [] [] ⟨[(1, .int .i64 who), (2, .int .i64 now), (3, .int .i64 span), (4, .ptr 4 0), (8, .ptr 8 0)], [(4, [.int .i64 l.Holder, .int .i64 l.Epoch, .int .i64 l.Until]), (8, [.int .i64 0, .int .i64 0])], [], []⟩ .nil (by kernel_rfl) ?_
  refine Wk_seq ?_
  refine Wk_seq ?_
  obtain ⟨x, h0, hF⟩ := lt_split hF
  obtain ⟨x1, h1, hF⟩ := lt_split hF
  obtain ⟨x2, h2, hF⟩ := lt_split hF
  refine WR [.call (.bool x), .call (.bool x1), .call (.bool x2)] [1, 2, 3, 8, 24] [8] [] [] ⟨[(1, .int .i64 who), (2, .int .i64 now), (3, .int .i64 span), (8, .ptr 8 0), (24, .bool (((!x) || (!x1)) || (!x2)))], [(8, [.int .i64 0, .int .i64 0])], [], []⟩ (.cons (R_Num_ok l.Holder x h0) (.cons (fun (ga0 : (!(!x)) = true) => (R_Num_ok l.Epoch x1 h1)) (.cons (fun (ga0 : (!((!x) || (!x1))) = true) => (R_Num_ok l.Until x2 h2)) .nil))) (by kernel_rfl) ?_
  refine Wk_split rfl (fun hb => ?_) (fun hb => ?_)
  · have hF := ite_t hF hb
    refine Wk_seq ?_
    obtain ⟨x3, h3, hF⟩ := lt_split hF
    refine WR [.call (.agg [.int .i64 x3.Code, .int .i64 x3.At])] [8] [8] [] [] ⟨[(8, .ptr 8 0)], [(8, [.int .i64 x3.Code, .int .i64 x3.At])], [], []⟩ (.cons (R_F_ok 3 0 x3 h3) .nil) (by kernel_rfl) ?_
    exact Wk_ret (hfin _ (by rw [← hF]; kernel_rfl))
  · have hF := ite_f hF hb
    refine Wk_skip ?_
    refine Wk_seq ?_
    refine Wk_seq ?_
    refine WR [] [2, 3, 8, 31] [8] [] [] ⟨[(2, .int .i64 now), (3, .int .i64 span), (8, .ptr 8 0), (31, .bool ((decide (who < 1)) || (decide (1000000000 < who))))], [(8, [.int .i64 0, .int .i64 0])], [], []⟩ .nil (by kernel_rfl) ?_
    refine Wk_split rfl (fun hb => ?_) (fun hb => ?_)
    · have hF := ite_t hF hb
      refine Wk_seq ?_
      obtain ⟨x4, h4, hF⟩ := lt_split hF
      refine WR [.call (.agg [.int .i64 x4.Code, .int .i64 x4.At])] [8] [8] [] [] ⟨[(8, .ptr 8 0)], [(8, [.int .i64 x4.Code, .int .i64 x4.At])], [], []⟩ (.cons (R_F_ok 3 (-1) x4 h4) .nil) (by kernel_rfl) ?_
      exact Wk_ret (hfin _ (by rw [← hF]; kernel_rfl))
    · have hF := ite_f hF hb
      refine Wk_skip ?_
      refine Wk_seq ?_
      refine Wk_seq ?_
      obtain ⟨x5, h5, hF⟩ := lt_split hF
      refine WR [.call (.bool x5)] [3, 8, 35] [8] [] [] ⟨[(3, .int .i64 span), (8, .ptr 8 0), (35, .bool (!x5))], [(8, [.int .i64 0, .int .i64 0])], [], []⟩ (.cons (R_Num_ok now x5 h5) .nil) (by kernel_rfl) ?_
      refine Wk_split rfl (fun hb => ?_) (fun hb => ?_)
      · have hF := ite_t hF hb
        refine Wk_seq ?_
        obtain ⟨x6, h6, hF⟩ := lt_split hF
        refine WR [.call (.agg [.int .i64 x6.Code, .int .i64 x6.At])] [8] [8] [] [] ⟨[(8, .ptr 8 0)], [(8, [.int .i64 x6.Code, .int .i64 x6.At])], [], []⟩ (.cons (R_F_ok 3 (-2) x6 h6) .nil) (by kernel_rfl) ?_
        exact Wk_ret (hfin _ (by rw [← hF]; kernel_rfl))
      · have hF := ite_f hF hb
        refine Wk_skip ?_
        refine Wk_seq ?_
        obtain ⟨x7, h7, hF⟩ := lt_split hF
        refine WR [.call (.agg [.int .i64 x7.Code, .int .i64 x7.At])] [8] [8] [] [] ⟨[(8, .ptr 8 0)], [(8, [.int .i64 x7.Code, .int .i64 x7.At])], [], []⟩ (.cons (R_Spanned_ok span x7 h7) .nil) (by kernel_rfl) ?_
        exact Wk_ret (hfin _ (by rw [← hF]; kernel_rfl))

/- tabularyref.Granted -/
noncomputable def R_Granted (l : Lease) (who : Int) (now : Int) (span : Int) : Lease × Fault :=
  lt (R_Wished l who now span) fun x =>
  lt (
    if (((decide (x.Code = 0)) && (decide (0 < l.Holder))) && (decide (now < l.Until))) = true then
      lt (R_F 11 0) fun x1 =>
      x1
    else
      x) fun (w0 : Fault) =>
  lt (
    if ((decide (w0.Code = 0)) && ((decide (1000000000 < (w64 (l.Epoch + 1)))) || (decide (1000000000 < (w64 (now + span)))))) = true then
      lt (R_F 9 0) fun x2 =>
      x2
    else
      w0) fun (w01 : Fault) =>
  if (!decide (w01.Code = 0)) = true then
    ((⟨0, 0, 0⟩ : Lease), w01)
  else
    ((⟨who, w64 (l.Epoch + 1), w64 (now + span)⟩ : Lease), w01)
theorem R_Granted_ok (l : Lease) (who : Int) (now : Int) (span : Int) (r : Lease × Fault) (hF : R_Granted l who now span = r) : Pc Try.prog 19 [.agg [.int .i64 l.Holder, .int .i64 l.Epoch, .int .i64 l.Until], .int .i64 who, .int .i64 now, .int .i64 span] (.tup [.agg [.int .i64 r.1.Holder, .int .i64 r.1.Epoch, .int .i64 r.1.Until], .agg [.int .i64 r.2.Code, .int .i64 r.2.At]]) := by
  refine Pc_of (N := 61) (res := [.cell 8 30, .cell 9 25]) (ts := [30, 25]) Ty.ok Fn.b19 Try.func19 rfl rfl rfl rfl rfl ?_
  intro Q g hfin
  unfold R_Granted at hF
  refine Wk_seq ?_
  refine WR [] [1, 2, 3, 4, 8, 9] [4, 8, 9] [] [] ⟨[(1, .int .i64 who), (2, .int .i64 now), (3, .int .i64 span), (4, .ptr 4 0), (8, .ptr 8 0), (9, .ptr 9 0)], [(4, [.int .i64 l.Holder, .int .i64 l.Epoch, .int .i64 l.Until]), (8, [.int .i64 0, .int .i64 0, .int .i64 0]), (9, [.int .i64 0, .int .i64 0])], [], []⟩ .nil (by kernel_rfl) ?_
  refine Wk_seq ?_
  obtain ⟨x, h0, hF⟩ := lt_split hF
  refine WR [.call (.agg [.int .i64 x.Code, .int .i64 x.At])] [1, 2, 3, 4, 8, 9, 10] [4, 8, 9, 10] [] [] ⟨[(1, .int .i64 who), (2, .int .i64 now), (3, .int .i64 span), (4, .ptr 4 0), (8, .ptr 8 0), (9, .ptr 9 0), (10, .ptr 10 0)], [(4, [.int .i64 l.Holder, .int .i64 l.Epoch, .int .i64 l.Until]), (8, [.int .i64 0, .int .i64 0, .int .i64 0]), (9, [.int .i64 0, .int .i64 0]), (10, [.int .i64 x.Code, .int .i64 x.At])], [], []⟩ (.cons (R_Wished_ok l who now span x h0) .nil) (by kernel_rfl) ?_
  refine Wk_seq ?_
  refine Wk_seq ?_
  refine WR [] [1, 2, 3, 4, 8, 9, 10, 29] [4, 8, 9, 10] [] [] ⟨[(1, .int .i64 who), (2, .int .i64 now), (3, .int .i64 span), (4, .ptr 4 0), (8, .ptr 8 0), (9, .ptr 9 0), (10, .ptr 10 0), (29, .bool (((decide (x.Code = 0)) && (decide (0 < l.Holder))) && (decide (now < l.Until))))], [(4, [.int .i64 l.Holder, .int .i64 l.Epoch, .int .i64 l.Until]), (8, [.int .i64 0, .int .i64 0, .int .i64 0]), (9, [.int .i64 0, .int .i64 0]), (10, [.int .i64 x.Code, .int .i64 x.At])], [], []⟩ .nil (by kernel_rfl) ?_
  obtain ⟨w0, hv, hF⟩ := lt_split hF
  refine Wk_meet (⟨[(1, .int .i64 who), (2, .int .i64 now), (3, .int .i64 span), (4, .ptr 4 0), (8, .ptr 8 0), (9, .ptr 9 0), (10, .ptr 10 0)], [(4, [.int .i64 l.Holder, .int .i64 l.Epoch, .int .i64 l.Until]), (8, [.int .i64 0, .int .i64 0, .int .i64 0]), (9, [.int .i64 0, .int .i64 0]), (10, [.int .i64 w0.Code, .int .i64 w0.At])], [], []⟩ : S) ?_ ?_
  · have hF := hv
    refine Wk_split rfl (fun hb => ?_) (fun hb => ?_)
    · have hF := ite_t hF hb
      obtain ⟨x1, h1, hF⟩ := lt_split hF
      refine WR [.call (.agg [.int .i64 x1.Code, .int .i64 x1.At])] [1, 2, 3, 4, 8, 9, 10] [4, 8, 9, 10] [] [] ⟨[(1, .int .i64 who), (2, .int .i64 now), (3, .int .i64 span), (4, .ptr 4 0), (8, .ptr 8 0), (9, .ptr 9 0), (10, .ptr 10 0)], [(4, [.int .i64 l.Holder, .int .i64 l.Epoch, .int .i64 l.Until]), (8, [.int .i64 0, .int .i64 0, .int .i64 0]), (9, [.int .i64 0, .int .i64 0]), (10, [.int .i64 x1.Code, .int .i64 x1.At])], [], []⟩ (.cons (R_F_ok 11 0 x1 h1) .nil) (by kernel_rfl) ?_
      exact Wk_met (fs := [1, 2, 3, 4, 8, 9, 10]) (bs := [4, 8, 9, 10]) (rs := []) (ms := []) (by rw [← hF]; kernel_rfl)
    · have hF := ite_f hF hb
      refine Wk_skip ?_
      exact Wk_met (fs := [1, 2, 3, 4, 8, 9, 10]) (bs := [4, 8, 9, 10]) (rs := []) (ms := []) (by rw [← hF]; kernel_rfl)
  · refine Wk_seq ?_
    refine Wk_seq ?_
    refine WR [] [1, 2, 3, 4, 8, 9, 10, 45] [4, 8, 9, 10] [] [] ⟨[(1, .int .i64 who), (2, .int .i64 now), (3, .int .i64 span), (4, .ptr 4 0), (8, .ptr 8 0), (9, .ptr 9 0), (10, .ptr 10 0), (45, .bool ((decide (w0.Code = 0)) && ((decide (1000000000 < (w64 (l.Epoch + 1)))) || (decide (1000000000 < (w64 (now + span)))))))], [(4, [.int .i64 l.Holder, .int .i64 l.Epoch, .int .i64 l.Until]), (8, [.int .i64 0, .int .i64 0, .int .i64 0]), (9, [.int .i64 0, .int .i64 0]), (10, [.int .i64 w0.Code, .int .i64 w0.At])], [], []⟩ .nil (by kernel_rfl) ?_
    obtain ⟨w01, hv, hF⟩ := lt_split hF
    refine Wk_meet (⟨[(1, .int .i64 who), (2, .int .i64 now), (3, .int .i64 span), (4, .ptr 4 0), (8, .ptr 8 0), (9, .ptr 9 0), (10, .ptr 10 0)], [(4, [.int .i64 l.Holder, .int .i64 l.Epoch, .int .i64 l.Until]), (8, [.int .i64 0, .int .i64 0, .int .i64 0]), (9, [.int .i64 0, .int .i64 0]), (10, [.int .i64 w01.Code, .int .i64 w01.At])], [], []⟩ : S) ?_ ?_
    · have hF := hv
      refine Wk_split rfl (fun hb => ?_) (fun hb => ?_)
      · have hF := ite_t hF hb
        obtain ⟨x2, h2, hF⟩ := lt_split hF
        refine WR [.call (.agg [.int .i64 x2.Code, .int .i64 x2.At])] [1, 2, 3, 4, 8, 9, 10] [4, 8, 9, 10] [] [] ⟨[(1, .int .i64 who), (2, .int .i64 now), (3, .int .i64 span), (4, .ptr 4 0), (8, .ptr 8 0), (9, .ptr 9 0), (10, .ptr 10 0)], [(4, [.int .i64 l.Holder, .int .i64 l.Epoch, .int .i64 l.Until]), (8, [.int .i64 0, .int .i64 0, .int .i64 0]), (9, [.int .i64 0, .int .i64 0]), (10, [.int .i64 x2.Code, .int .i64 x2.At])], [], []⟩ (.cons (R_F_ok 9 0 x2 h2) .nil) (by kernel_rfl) ?_
        exact Wk_met (fs := [1, 2, 3, 4, 8, 9, 10]) (bs := [4, 8, 9, 10]) (rs := []) (ms := []) (by rw [← hF]; kernel_rfl)
      · have hF := ite_f hF hb
        refine Wk_skip ?_
        exact Wk_met (fs := [1, 2, 3, 4, 8, 9, 10]) (bs := [4, 8, 9, 10]) (rs := []) (ms := []) (by rw [← hF]; kernel_rfl)
    · refine Wk_seq ?_
      refine Wk_seq ?_
      refine WR [] [1, 2, 3, 4, 8, 9, 10, 49] [4, 8, 9, 10] [] [] ⟨[(1, .int .i64 who), (2, .int .i64 now), (3, .int .i64 span), (4, .ptr 4 0), (8, .ptr 8 0), (9, .ptr 9 0), (10, .ptr 10 0), (49, .bool (!decide (w01.Code = 0)))], [(4, [.int .i64 l.Holder, .int .i64 l.Epoch, .int .i64 l.Until]), (8, [.int .i64 0, .int .i64 0, .int .i64 0]), (9, [.int .i64 0, .int .i64 0]), (10, [.int .i64 w01.Code, .int .i64 w01.At])], [], []⟩ .nil (by kernel_rfl) ?_
      refine Wk_split rfl (fun hb => ?_) (fun hb => ?_)
      · have hF := ite_t hF hb
        refine Wk_seq ?_
        refine WD [] [8, 9] [8, 9] [] [] ⟨[(8, .ptr 8 0), (9, .ptr 9 0)], [(8, [.int .i64 0, .int .i64 0, .int .i64 0]), (9, [.int .i64 w01.Code, .int .i64 w01.At])], [], []⟩ .nil (by kernel_rfl) ?_
        exact Wk_ret (hfin _ (by rw [← hF]; kernel_rfl))
      · have hF := ite_f hF hb
        refine Wk_skip ?_
        refine Wk_seq ?_
        refine WD [] [8, 9] [8, 9] [] [] ⟨[(8, .ptr 8 0), (9, .ptr 9 0)], [(8, [.int .i64 who, .int .i64 (w64 (l.Epoch + 1)), .int .i64 (w64 (now + span))]), (9, [.int .i64 w01.Code, .int .i64 w01.At])], [], []⟩ .nil (by kernel_rfl) ?_
        exact Wk_ret (hfin _ (by rw [← hF]; kernel_rfl))

/- tabularyref.Renewed -/
noncomputable def R_Renewed (l : Lease) (who : Int) (epoch : Int) (now : Int) (span : Int) : Lease × Fault :=
  lt (R_Wished l who now span) fun x =>
  lt (
    if ((decide (x.Code = 0)) && ((!decide (l.Holder = who)) || (!decide (l.Epoch = epoch)))) = true then
      lt (R_F 6 0) fun x1 =>
      x1
    else
      x) fun (w0 : Fault) =>
  lt (
    if ((decide (w0.Code = 0)) && (decide (l.Until ≤ now))) = true then
      lt (R_F 12 0) fun x2 =>
      x2
    else
      w0) fun (w01 : Fault) =>
  lt (
    if ((decide (w01.Code = 0)) && (decide (1000000000 < (w64 (now + span))))) = true then
      lt (R_F 9 0) fun x3 =>
      x3
    else
      w01) fun (w02 : Fault) =>
  if (!decide (w02.Code = 0)) = true then
    ((⟨0, 0, 0⟩ : Lease), w02)
  else
    lt (
      if (decide (l.Until < (w64 (now + span)))) = true then
        (⟨l.Holder, l.Epoch, w64 (now + span)⟩ : Lease)
      else
        l) fun (l1 : Lease) =>
    (l1, w02)
theorem R_Renewed_ok (l : Lease) (who : Int) (epoch : Int) (now : Int) (span : Int) (r : Lease × Fault) (hF : R_Renewed l who epoch now span = r) : Pc Try.prog 20 [.agg [.int .i64 l.Holder, .int .i64 l.Epoch, .int .i64 l.Until], .int .i64 who, .int .i64 epoch, .int .i64 now, .int .i64 span] (.tup [.agg [.int .i64 r.1.Holder, .int .i64 r.1.Epoch, .int .i64 r.1.Until], .agg [.int .i64 r.2.Code, .int .i64 r.2.At]]) := by
  refine Pc_of (N := 71) (res := [.cell 10 30, .cell 11 25]) (ts := [30, 25]) Ty.ok Fn.b20 Try.func20 rfl rfl rfl rfl rfl ?_
  intro Q g hfin
  unfold R_Renewed at hF
  refine Wk_seq ?_
  refine WR [] [1, 2, 3, 4, 5, 10, 11] [5, 10, 11] [] [] ⟨[(1, .int .i64 who), (2, .int .i64 epoch), (3, .int .i64 now), (4, .int .i64 span), (5, .ptr 5 0), (10, .ptr 10 0), (11, .ptr 11 0)], [(5, [.int .i64 l.Holder, .int .i64 l.Epoch, .int .i64 l.Until]), (10, [.int .i64 0, .int .i64 0, .int .i64 0]), (11, [.int .i64 0, .int .i64 0])], [], []⟩ .nil (by kernel_rfl) ?_
  refine Wk_seq ?_
  obtain ⟨x, h0, hF⟩ := lt_split hF
  refine WR [.call (.agg [.int .i64 x.Code, .int .i64 x.At])] [1, 2, 3, 4, 5, 10, 11, 12] [5, 10, 11, 12] [] [] ⟨[(1, .int .i64 who), (2, .int .i64 epoch), (3, .int .i64 now), (4, .int .i64 span), (5, .ptr 5 0), (10, .ptr 10 0), (11, .ptr 11 0), (12, .ptr 12 0)], [(5, [.int .i64 l.Holder, .int .i64 l.Epoch, .int .i64 l.Until]), (10, [.int .i64 0, .int .i64 0, .int .i64 0]), (11, [.int .i64 0, .int .i64 0]), (12, [.int .i64 x.Code, .int .i64 x.At])], [], []⟩ (.cons (R_Wished_ok l who now span x h0) .nil) (by kernel_rfl) ?_
  refine Wk_seq ?_
  refine Wk_seq ?_
  refine WR [] [3, 4, 5, 10, 11, 12, 32] [5, 10, 11, 12] [] [] ⟨[(3, .int .i64 now), (4, .int .i64 span), (5, .ptr 5 0), (10, .ptr 10 0), (11, .ptr 11 0), (12, .ptr 12 0), (32, .bool ((decide (x.Code = 0)) && ((!decide (l.Holder = who)) || (!decide (l.Epoch = epoch)))))], [(5, [.int .i64 l.Holder, .int .i64 l.Epoch, .int .i64 l.Until]), (10, [.int .i64 0, .int .i64 0, .int .i64 0]), (11, [.int .i64 0, .int .i64 0]), (12, [.int .i64 x.Code, .int .i64 x.At])], [], []⟩ .nil (by kernel_rfl) ?_
  obtain ⟨w0, hv, hF⟩ := lt_split hF
  refine Wk_meet (⟨[(3, .int .i64 now), (4, .int .i64 span), (5, .ptr 5 0), (10, .ptr 10 0), (11, .ptr 11 0), (12, .ptr 12 0)], [(5, [.int .i64 l.Holder, .int .i64 l.Epoch, .int .i64 l.Until]), (10, [.int .i64 0, .int .i64 0, .int .i64 0]), (11, [.int .i64 0, .int .i64 0]), (12, [.int .i64 w0.Code, .int .i64 w0.At])], [], []⟩ : S) ?_ ?_
  · have hF := hv
    refine Wk_split rfl (fun hb => ?_) (fun hb => ?_)
    · have hF := ite_t hF hb
      obtain ⟨x1, h1, hF⟩ := lt_split hF
      refine WR [.call (.agg [.int .i64 x1.Code, .int .i64 x1.At])] [3, 4, 5, 10, 11, 12] [5, 10, 11, 12] [] [] ⟨[(3, .int .i64 now), (4, .int .i64 span), (5, .ptr 5 0), (10, .ptr 10 0), (11, .ptr 11 0), (12, .ptr 12 0)], [(5, [.int .i64 l.Holder, .int .i64 l.Epoch, .int .i64 l.Until]), (10, [.int .i64 0, .int .i64 0, .int .i64 0]), (11, [.int .i64 0, .int .i64 0]), (12, [.int .i64 x1.Code, .int .i64 x1.At])], [], []⟩ (.cons (R_F_ok 6 0 x1 h1) .nil) (by kernel_rfl) ?_
      exact Wk_met (fs := [3, 4, 5, 10, 11, 12]) (bs := [5, 10, 11, 12]) (rs := []) (ms := []) (by rw [← hF]; kernel_rfl)
    · have hF := ite_f hF hb
      refine Wk_skip ?_
      exact Wk_met (fs := [3, 4, 5, 10, 11, 12]) (bs := [5, 10, 11, 12]) (rs := []) (ms := []) (by rw [← hF]; kernel_rfl)
  · refine Wk_seq ?_
    refine Wk_seq ?_
    refine WR [] [3, 4, 5, 10, 11, 12, 42] [5, 10, 11, 12] [] [] ⟨[(3, .int .i64 now), (4, .int .i64 span), (5, .ptr 5 0), (10, .ptr 10 0), (11, .ptr 11 0), (12, .ptr 12 0), (42, .bool ((decide (w0.Code = 0)) && (decide (l.Until ≤ now))))], [(5, [.int .i64 l.Holder, .int .i64 l.Epoch, .int .i64 l.Until]), (10, [.int .i64 0, .int .i64 0, .int .i64 0]), (11, [.int .i64 0, .int .i64 0]), (12, [.int .i64 w0.Code, .int .i64 w0.At])], [], []⟩ .nil (by kernel_rfl) ?_
    obtain ⟨w01, hv, hF⟩ := lt_split hF
    refine Wk_meet (⟨[(3, .int .i64 now), (4, .int .i64 span), (5, .ptr 5 0), (10, .ptr 10 0), (11, .ptr 11 0), (12, .ptr 12 0)], [(5, [.int .i64 l.Holder, .int .i64 l.Epoch, .int .i64 l.Until]), (10, [.int .i64 0, .int .i64 0, .int .i64 0]), (11, [.int .i64 0, .int .i64 0]), (12, [.int .i64 w01.Code, .int .i64 w01.At])], [], []⟩ : S) ?_ ?_
    · have hF := hv
      refine Wk_split rfl (fun hb => ?_) (fun hb => ?_)
      · have hF := ite_t hF hb
        obtain ⟨x2, h2, hF⟩ := lt_split hF
        refine WR [.call (.agg [.int .i64 x2.Code, .int .i64 x2.At])] [3, 4, 5, 10, 11, 12] [5, 10, 11, 12] [] [] ⟨[(3, .int .i64 now), (4, .int .i64 span), (5, .ptr 5 0), (10, .ptr 10 0), (11, .ptr 11 0), (12, .ptr 12 0)], [(5, [.int .i64 l.Holder, .int .i64 l.Epoch, .int .i64 l.Until]), (10, [.int .i64 0, .int .i64 0, .int .i64 0]), (11, [.int .i64 0, .int .i64 0]), (12, [.int .i64 x2.Code, .int .i64 x2.At])], [], []⟩ (.cons (R_F_ok 12 0 x2 h2) .nil) (by kernel_rfl) ?_
        exact Wk_met (fs := [3, 4, 5, 10, 11, 12]) (bs := [5, 10, 11, 12]) (rs := []) (ms := []) (by rw [← hF]; kernel_rfl)
      · have hF := ite_f hF hb
        refine Wk_skip ?_
        exact Wk_met (fs := [3, 4, 5, 10, 11, 12]) (bs := [5, 10, 11, 12]) (rs := []) (ms := []) (by rw [← hF]; kernel_rfl)
    · refine Wk_seq ?_
      refine Wk_seq ?_
      refine WR [] [3, 4, 5, 10, 11, 12, 52] [5, 10, 11, 12] [] [] ⟨[(3, .int .i64 now), (4, .int .i64 span), (5, .ptr 5 0), (10, .ptr 10 0), (11, .ptr 11 0), (12, .ptr 12 0), (52, .bool ((decide (w01.Code = 0)) && (decide (1000000000 < (w64 (now + span))))))], [(5, [.int .i64 l.Holder, .int .i64 l.Epoch, .int .i64 l.Until]), (10, [.int .i64 0, .int .i64 0, .int .i64 0]), (11, [.int .i64 0, .int .i64 0]), (12, [.int .i64 w01.Code, .int .i64 w01.At])], [], []⟩ .nil (by kernel_rfl) ?_
      obtain ⟨w02, hv, hF⟩ := lt_split hF
      refine Wk_meet (⟨[(3, .int .i64 now), (4, .int .i64 span), (5, .ptr 5 0), (10, .ptr 10 0), (11, .ptr 11 0), (12, .ptr 12 0)], [(5, [.int .i64 l.Holder, .int .i64 l.Epoch, .int .i64 l.Until]), (10, [.int .i64 0, .int .i64 0, .int .i64 0]), (11, [.int .i64 0, .int .i64 0]), (12, [.int .i64 w02.Code, .int .i64 w02.At])], [], []⟩ : S) ?_ ?_
      · have hF := hv
        refine Wk_split rfl (fun hb => ?_) (fun hb => ?_)
        · have hF := ite_t hF hb
          obtain ⟨x3, h3, hF⟩ := lt_split hF
          refine WR [.call (.agg [.int .i64 x3.Code, .int .i64 x3.At])] [3, 4, 5, 10, 11, 12] [5, 10, 11, 12] [] [] ⟨[(3, .int .i64 now), (4, .int .i64 span), (5, .ptr 5 0), (10, .ptr 10 0), (11, .ptr 11 0), (12, .ptr 12 0)], [(5, [.int .i64 l.Holder, .int .i64 l.Epoch, .int .i64 l.Until]), (10, [.int .i64 0, .int .i64 0, .int .i64 0]), (11, [.int .i64 0, .int .i64 0]), (12, [.int .i64 x3.Code, .int .i64 x3.At])], [], []⟩ (.cons (R_F_ok 9 0 x3 h3) .nil) (by kernel_rfl) ?_
          exact Wk_met (fs := [3, 4, 5, 10, 11, 12]) (bs := [5, 10, 11, 12]) (rs := []) (ms := []) (by rw [← hF]; kernel_rfl)
        · have hF := ite_f hF hb
          refine Wk_skip ?_
          exact Wk_met (fs := [3, 4, 5, 10, 11, 12]) (bs := [5, 10, 11, 12]) (rs := []) (ms := []) (by rw [← hF]; kernel_rfl)
      · refine Wk_seq ?_
        refine Wk_seq ?_
        refine WR [] [3, 4, 5, 10, 11, 12, 56] [5, 10, 11, 12] [] [] ⟨[(3, .int .i64 now), (4, .int .i64 span), (5, .ptr 5 0), (10, .ptr 10 0), (11, .ptr 11 0), (12, .ptr 12 0), (56, .bool (!decide (w02.Code = 0)))], [(5, [.int .i64 l.Holder, .int .i64 l.Epoch, .int .i64 l.Until]), (10, [.int .i64 0, .int .i64 0, .int .i64 0]), (11, [.int .i64 0, .int .i64 0]), (12, [.int .i64 w02.Code, .int .i64 w02.At])], [], []⟩ .nil (by kernel_rfl) ?_
        refine Wk_split rfl (fun hb => ?_) (fun hb => ?_)
        · have hF := ite_t hF hb
          refine Wk_seq ?_
          refine WD [] [10, 11] [10, 11] [] [] ⟨[(10, .ptr 10 0), (11, .ptr 11 0)], [(10, [.int .i64 0, .int .i64 0, .int .i64 0]), (11, [.int .i64 w02.Code, .int .i64 w02.At])], [], []⟩ .nil (by kernel_rfl) ?_
          exact Wk_ret (hfin _ (by rw [← hF]; kernel_rfl))
        · have hF := ite_f hF hb
          refine Wk_skip ?_
          refine Wk_seq ?_
          refine Wk_seq ?_
          refine WR [] [3, 4, 5, 10, 11, 12, 64] [5, 10, 11, 12] [] [] ⟨[(3, .int .i64 now), (4, .int .i64 span), (5, .ptr 5 0), (10, .ptr 10 0), (11, .ptr 11 0), (12, .ptr 12 0), (64, .bool (decide (l.Until < (w64 (now + span)))))], [(5, [.int .i64 l.Holder, .int .i64 l.Epoch, .int .i64 l.Until]), (10, [.int .i64 0, .int .i64 0, .int .i64 0]), (11, [.int .i64 0, .int .i64 0]), (12, [.int .i64 w02.Code, .int .i64 w02.At])], [], []⟩ .nil (by kernel_rfl) ?_
          obtain ⟨l1, hv, hF⟩ := lt_split hF
          refine Wk_meet (⟨[(5, .ptr 5 0), (10, .ptr 10 0), (11, .ptr 11 0), (12, .ptr 12 0)], [(5, [.int .i64 l1.Holder, .int .i64 l1.Epoch, .int .i64 l1.Until]), (10, [.int .i64 0, .int .i64 0, .int .i64 0]), (11, [.int .i64 0, .int .i64 0]), (12, [.int .i64 w02.Code, .int .i64 w02.At])], [], []⟩ : S) ?_ ?_
          · have hF := hv
            refine Wk_split rfl (fun hb => ?_) (fun hb => ?_)
            · have hF := ite_t hF hb
              refine WR [] [5, 10, 11, 12] [5, 10, 11, 12] [] [] ⟨[(5, .ptr 5 0), (10, .ptr 10 0), (11, .ptr 11 0), (12, .ptr 12 0)], [(5, [.int .i64 l.Holder, .int .i64 l.Epoch, .int .i64 (w64 (now + span))]), (10, [.int .i64 0, .int .i64 0, .int .i64 0]), (11, [.int .i64 0, .int .i64 0]), (12, [.int .i64 w02.Code, .int .i64 w02.At])], [], []⟩ .nil (by kernel_rfl) ?_
              exact Wk_met (fs := [5, 10, 11, 12]) (bs := [5, 10, 11, 12]) (rs := []) (ms := []) (by rw [← hF]; kernel_rfl)
            · have hF := ite_f hF hb
              refine Wk_skip ?_
              exact Wk_met (fs := [5, 10, 11, 12]) (bs := [5, 10, 11, 12]) (rs := []) (ms := []) (by rw [← hF]; kernel_rfl)
          · refine Wk_seq ?_
            refine WD [] [10, 11] [10, 11] [] [] ⟨[(10, .ptr 10 0), (11, .ptr 11 0)], [(10, [.int .i64 l1.Holder, .int .i64 l1.Epoch, .int .i64 l1.Until]), (11, [.int .i64 w02.Code, .int .i64 w02.At])], [], []⟩ .nil (by kernel_rfl) ?_
            exact Wk_ret (hfin _ (by rw [← hF]; kernel_rfl))

/- tabularylaw.LeaseGrants -/
noncomputable def law_LeaseGrants (l : Lease) (who : Int) (epoch : Int) (now : Int) (span : Int) : Bool :=
  lt (law_leaseBegun) fun x =>
  if (!x) = true then
    false
  else
    lt (lease_Check l) fun x1 =>
    lt (lease_Grant l who now span) fun x2 =>
    lt (lease_Renew l who epoch now span) fun x3 =>
    lt (lease_Trust now span) fun x4 =>
    lt (lease_Admit l.Epoch epoch) fun x5 =>
    lt (R_Num l.Holder) fun x6 =>
    lt (R_Num l.Epoch) fun x7 =>
    lt (R_Num l.Until) fun x8 =>
    lt (
      if (((!x6) || (!x7)) || (!x8)) = true then
        lt (R_F 3 0) fun x9 =>
        x9
      else
        (⟨0, 0⟩ : Fault)) fun (w0 : Fault) =>
    lt (R_Granted l who now span) fun x10 =>
    lt (R_Renewed l who epoch now span) fun x11 =>
    if (((((!(decide (x1.Code = w0.Code) && (decide (x1.At = w0.At) && true))) || (!(decide (x2.2.Code = x10.2.Code) && (decide (x2.2.At = x10.2.At) && true)))) || (!(decide (x3.2.Code = x11.2.Code) && (decide (x3.2.At = x11.2.At) && true)))) || (!(decide (x2.1.Holder = x10.1.Holder) && (decide (x2.1.Epoch = x10.1.Epoch) && (decide (x2.1.Until = x10.1.Until) && true))))) || (!(decide (x3.1.Holder = x11.1.Holder) && (decide (x3.1.Epoch = x11.1.Epoch) && (decide (x3.1.Until = x11.1.Until) && true))))) = true then
      false
    else
      lt (R_Num now) fun x12 =>
      lt (
        if (!x12) = true then
          lt (R_F 3 0) fun x13 =>
          x13
        else
          lt (R_Spanned span) fun x14 =>
          x14) fun (w01 : Fault) =>
      if (((!(decide (x4.2.Code = w01.Code) && (decide (x4.2.At = w01.At) && true))) || ((!decide (w01.Code = 0)) && (!decide (x4.1 = 0)))) || ((decide (w01.Code = 0)) && (!decide (x4.1 = (w64 ((w64 (now + span)) - (w64 (Int.tdiv span 4)))))))) = true then
        false
      else
        lt (R_Num l.Epoch) fun x15 =>
        lt (R_Num epoch) fun x16 =>
        lt (
          if ((!x15) || (!x16)) = true then
            lt (R_F 3 0) fun x17 =>
            x17
          else
            if (decide (epoch < l.Epoch)) = true then
              lt (R_F 12 0) fun x18 =>
              x18
            else
              (⟨0, 0⟩ : Fault)) fun (w02 : Fault) =>
        lt ((decide (x5.2.Code = w02.Code) && (decide (x5.2.At = w02.At) && true)) && (((!decide (w02.Code = 0)) && (decide (x5.1 = 0))) || ((decide (w02.Code = 0)) && (decide (x5.1 = epoch))))) fun (v : Bool) =>
        v
theorem law_LeaseGrants_ok (l : Lease) (who : Int) (epoch : Int) (now : Int) (span : Int) (r : Bool) (hF : law_LeaseGrants l who epoch now span = r) : Pc Try.prog 4 [.agg [.int .i64 l.Holder, .int .i64 l.Epoch, .int .i64 l.Until], .int .i64 who, .int .i64 epoch, .int .i64 now, .int .i64 span] (.bool r) := by
  refine Pc_of (N := 189) (res := [.tmp 10]) (ts := [4]) Ty.ok Fn.b4 Try.func4 rfl rfl rfl rfl rfl ?_
  intro Q g hfin
  unfold law_LeaseGrants at hF
  refine Wk_seq ?_
  refine WR [] [1, 2, 3, 4, 5] [5] [] [] ⟨[(1, .int .i64 who), (2, .int .i64 epoch), (3, .int .i64 now), (4, .int .i64 span), (5, .ptr 5 0)], [(5, [.int .i64 l.Holder, .int .i64 l.Epoch, .int .i64 l.Until])], [], []⟩ .nil (by kernel_rfl) ?_
  refine Wk_seq ?_
  refine Wk_seq ?_
  obtain ⟨x, h0, hF⟩ := lt_split hF
  refine WR [.call (.bool x)] [1, 2, 3, 4, 5, 26] [5] [] [] ⟨[(1, .int .i64 who), (2, .int .i64 epoch), (3, .int .i64 now), (4, .int .i64 span), (5, .ptr 5 0), (26, .bool (!x))], [(5, [.int .i64 l.Holder, .int .i64 l.Epoch, .int .i64 l.Until])], [], []⟩ (.cons (law_leaseBegun_ok  x h0) .nil) (by kernel_rfl) ?_
  refine Wk_split rfl (fun hb => ?_) (fun hb => ?_)
  · have hF := ite_t hF hb
    refine Wk_seq ?_
    refine WR [] [10] [] [] [] ⟨[(10, .bool false)], [], [], []⟩ .nil (by kernel_rfl) ?_
    exact Wk_ret (hfin _ (by rw [← hF]; kernel_rfl))
  · have hF := ite_f hF hb
    refine Wk_skip ?_
    refine Wk_seq ?_
    obtain ⟨x1, h1, hF⟩ := lt_split hF
    refine WR [.call (.agg [.int .i64 x1.Code, .int .i64 x1.At])] [1, 2, 3, 4, 5, 11] [5, 11] [] [] ⟨[(1, .int .i64 who), (2, .int .i64 epoch), (3, .int .i64 now), (4, .int .i64 span), (5, .ptr 5 0), (11, .ptr 11 0)], [(5, [.int .i64 l.Holder, .int .i64 l.Epoch, .int .i64 l.Until]), (11, [.int .i64 x1.Code, .int .i64 x1.At])], [], []⟩ (.cons (lease_Check_ok l x1 h1) .nil) (by kernel_rfl) ?_
    refine Wk_seq ?_
    obtain ⟨x2, h2, hF⟩ := lt_split hF
    refine WR [.call (.tup [.agg [.int .i64 x2.1.Holder, .int .i64 x2.1.Epoch, .int .i64 x2.1.Until], .agg [.int .i64 x2.2.Code, .int .i64 x2.2.At]])] [1, 2, 3, 4, 5, 11, 12, 13] [5, 11, 12, 13] [] [] ⟨[(1, .int .i64 who), (2, .int .i64 epoch), (3, .int .i64 now), (4, .int .i64 span), (5, .ptr 5 0), (11, .ptr 11 0), (12, .ptr 12 0), (13, .ptr 13 0)], [(5, [.int .i64 l.Holder, .int .i64 l.Epoch, .int .i64 l.Until]), (11, [.int .i64 x1.Code, .int .i64 x1.At]), (12, [.int .i64 x2.1.Holder, .int .i64 x2.1.Epoch, .int .i64 x2.1.Until]), (13, [.int .i64 x2.2.Code, .int .i64 x2.2.At])], [], []⟩ (.cons (lease_Grant_ok l who now span x2 h2) .nil) (by kernel_rfl) ?_
    refine Wk_seq ?_
    obtain ⟨x3, h3, hF⟩ := lt_split hF
    refine WR [.call (.tup [.agg [.int .i64 x3.1.Holder, .int .i64 x3.1.Epoch, .int .i64 x3.1.Until], .agg [.int .i64 x3.2.Code, .int .i64 x3.2.At]])] [1, 2, 3, 4, 5, 11, 12, 13, 14, 15] [5, 11, 12, 13, 14, 15] [] [] ⟨[(1, .int .i64 who), (2, .int .i64 epoch), (3, .int .i64 now), (4, .int .i64 span), (5, .ptr 5 0), (11, .ptr 11 0), (12, .ptr 12 0), (13, .ptr 13 0), (14, .ptr 14 0), (15, .ptr 15 0)], [(5, [.int .i64 l.Holder, .int .i64 l.Epoch, .int .i64 l.Until]), (11, [.int .i64 x1.Code, .int .i64 x1.At]), (12, [.int .i64 x2.1.Holder, .int .i64 x2.1.Epoch, .int .i64 x2.1.Until]), (13, [.int .i64 x2.2.Code, .int .i64 x2.2.At]), (14, [.int .i64 x3.1.Holder, .int .i64 x3.1.Epoch, .int .i64 x3.1.Until]), (15, [.int .i64 x3.2.Code, .int .i64 x3.2.At])], [], []⟩ (.cons (lease_Renew_ok l who epoch now span x3 h3) .nil) (by kernel_rfl) ?_
    refine Wk_seq ?_
    obtain ⟨x4, h4, hF⟩ := lt_split hF
    refine WR [.call (.tup [.int .i64 x4.1, .agg [.int .i64 x4.2.Code, .int .i64 x4.2.At]])] [1, 2, 3, 4, 5, 11, 12, 13, 14, 15, 16, 17] [5, 11, 12, 13, 14, 15, 17] [] [] ⟨[(1, .int .i64 who), (2, .int .i64 epoch), (3, .int .i64 now), (4, .int .i64 span), (5, .ptr 5 0), (11, .ptr 11 0), (12, .ptr 12 0), (13, .ptr 13 0), (14, .ptr 14 0), (15, .ptr 15 0), (16, .int .i64 x4.1), (17, .ptr 17 0)], [(5, [.int .i64 l.Holder, .int .i64 l.Epoch, .int .i64 l.Until]), (11, [.int .i64 x1.Code, .int .i64 x1.At]), (12, [.int .i64 x2.1.Holder, .int .i64 x2.1.Epoch, .int .i64 x2.1.Until]), (13, [.int .i64 x2.2.Code, .int .i64 x2.2.At]), (14, [.int .i64 x3.1.Holder, .int .i64 x3.1.Epoch, .int .i64 x3.1.Until]), (15, [.int .i64 x3.2.Code, .int .i64 x3.2.At]), (17, [.int .i64 x4.2.Code, .int .i64 x4.2.At])], [], []⟩ (.cons (lease_Trust_ok now span x4 h4) .nil) (by kernel_rfl) ?_
    refine Wk_seq ?_
    obtain ⟨x5, h5, hF⟩ := lt_split hF
    refine WR [.call (.tup [.int .i64 x5.1, .agg [.int .i64 x5.2.Code, .int .i64 x5.2.At]])] [1, 2, 3, 4, 5, 11, 12, 13, 14, 15, 16, 17, 18, 19] [5, 11, 12, 13, 14, 15, 17, 19] [] [] ⟨[(1, .int .i64 who), (2, .int .i64 epoch), (3, .int .i64 now), (4, .int .i64 span), (5, .ptr 5 0), (11, .ptr 11 0), (12, .ptr 12 0), (13, .ptr 13 0), (14, .ptr 14 0), (15, .ptr 15 0), (16, .int .i64 x4.1), (17, .ptr 17 0), (18, .int .i64 x5.1), (19, .ptr 19 0)], [(5, [.int .i64 l.Holder, .int .i64 l.Epoch, .int .i64 l.Until]), (11, [.int .i64 x1.Code, .int .i64 x1.At]), (12, [.int .i64 x2.1.Holder, .int .i64 x2.1.Epoch, .int .i64 x2.1.Until]), (13, [.int .i64 x2.2.Code, .int .i64 x2.2.At]), (14, [.int .i64 x3.1.Holder, .int .i64 x3.1.Epoch, .int .i64 x3.1.Until]), (15, [.int .i64 x3.2.Code, .int .i64 x3.2.At]), (17, [.int .i64 x4.2.Code, .int .i64 x4.2.At]), (19, [.int .i64 x5.2.Code, .int .i64 x5.2.At])], [], []⟩ (.cons (lease_Admit_ok l.Epoch epoch x5 h5) .nil) (by kernel_rfl) ?_
    refine Wk_seq ?_
    refine WR [] [1, 2, 3, 4, 5, 11, 12, 13, 14, 15, 16, 17, 18, 19, 20] [5, 11, 12, 13, 14, 15, 17, 19, 20] [] [] ⟨[(1, .int .i64 who), (2, .int .i64 epoch), (3, .int .i64 now), (4, .int .i64 span), (5, .ptr 5 0), (11, .ptr 11 0), (12, .ptr 12 0), (13, .ptr 13 0), (14, .ptr 14 0), (15, .ptr 15 0), (16, .int .i64 x4.1), (17, .ptr 17 0), (18, .int .i64 x5.1), (19, .ptr 19 0), (20, .ptr 20 0)], [(5, [.int .i64 l.Holder, .int .i64 l.Epoch, .int .i64 l.Until]), (11, [.int .i64 x1.Code, .int .i64 x1.At]), (12, [.int .i64 x2.1.Holder, .int .i64 x2.1.Epoch, .int .i64 x2.1.Until]), (13, [.int .i64 x2.2.Code, .int .i64 x2.2.At]), (14, [.int .i64 x3.1.Holder, .int .i64 x3.1.Epoch, .int .i64 x3.1.Until]), (15, [.int .i64 x3.2.Code, .int .i64 x3.2.At]), (17, [.int .i64 x4.2.Code, .int .i64 x4.2.At]), (19, [.int .i64 x5.2.Code, .int .i64 x5.2.At]), (20, [.int .i64 0, .int .i64 0])], [], []⟩ .nil (by kernel_rfl) ?_
    refine Wk_seq ?_
    refine Wk_seq ?_
    obtain ⟨x6, h6, hF⟩ := lt_split hF
    obtain ⟨x7, h7, hF⟩ := lt_split hF
    obtain ⟨x8, h8, hF⟩ := lt_split hF
    refine WR [.call (.bool x6), .call (.bool x7), .call (.bool x8)] [1, 2, 3, 4, 5, 11, 12, 13, 14, 15, 16, 17, 18, 19, 20, 75] [5, 11, 12, 13, 14, 15, 17, 19, 20] [] [] ⟨[(1, .int .i64 who), (2, .int .i64 epoch), (3, .int .i64 now), (4, .int .i64 span), (5, .ptr 5 0), (11, .ptr 11 0), (12, .ptr 12 0), (13, .ptr 13 0), (14, .ptr 14 0), (15, .ptr 15 0), (16, .int .i64 x4.1), (17, .ptr 17 0), (18, .int .i64 x5.1), (19, .ptr 19 0), (20, .ptr 20 0), (75, .bool (((!x6) || (!x7)) || (!x8)))], [(5, [.int .i64 l.Holder, .int .i64 l.Epoch, .int .i64 l.Until]), (11, [.int .i64 x1.Code, .int .i64 x1.At]), (12, [.int .i64 x2.1.Holder, .int .i64 x2.1.Epoch, .int .i64 x2.1.Until]), (13, [.int .i64 x2.2.Code, .int .i64 x2.2.At]), (14, [.int .i64 x3.1.Holder, .int .i64 x3.1.Epoch, .int .i64 x3.1.Until]), (15, [.int .i64 x3.2.Code, .int .i64 x3.2.At]), (17, [.int .i64 x4.2.Code, .int .i64 x4.2.At]), (19, [.int .i64 x5.2.Code, .int .i64 x5.2.At]), (20, [.int .i64 0, .int .i64 0])], [], []⟩ (.cons (R_Num_ok l.Holder x6 h6) (.cons (fun (ga0 : (!(!x6)) = true) => (R_Num_ok l.Epoch x7 h7)) (.cons (fun (ga0 : (!((!x6) || (!x7))) = true) => (R_Num_ok l.Until x8 h8)) .nil))) (by kernel_rfl) ?_
    obtain ⟨w0, hv, hF⟩ := lt_split hF
    refine Wk_meet (⟨[(1, .int .i64 who), (2, .int .i64 epoch), (3, .int .i64 now), (4, .int .i64 span), (5, .ptr 5 0), (11, .ptr 11 0), (12, .ptr 12 0), (13, .ptr 13 0), (14, .ptr 14 0), (15, .ptr 15 0), (16, .int .i64 x4.1), (17, .ptr 17 0), (18, .int .i64 x5.1), (19, .ptr 19 0), (20, .ptr 20 0)], [(5, [.int .i64 l.Holder, .int .i64 l.Epoch, .int .i64 l.Until]), (11, [.int .i64 x1.Code, .int .i64 x1.At]), (12, [.int .i64 x2.1.Holder, .int .i64 x2.1.Epoch, .int .i64 x2.1.Until]), (13, [.int .i64 x2.2.Code, .int .i64 x2.2.At]), (14, [.int .i64 x3.1.Holder, .int .i64 x3.1.Epoch, .int .i64 x3.1.Until]), (15, [.int .i64 x3.2.Code, .int .i64 x3.2.At]), (17, [.int .i64 x4.2.Code, .int .i64 x4.2.At]), (19, [.int .i64 x5.2.Code, .int .i64 x5.2.At]), (20, [.int .i64 w0.Code, .int .i64 w0.At])], [], []⟩ : S) ?_ ?_
    · have hF := hv
      refine Wk_split rfl (fun hb => ?_) (fun hb => ?_)
      · have hF := ite_t hF hb
        obtain ⟨x9, h9, hF⟩ := lt_split hF
        refine WR [.call (.agg [.int .i64 x9.Code, .int .i64 x9.At])] [1, 2, 3, 4, 5, 11, 12, 13, 14, 15, 16, 17, 18, 19, 20] [5, 11, 12, 13, 14, 15, 17, 19, 20] [] [] ⟨[(1, .int .i64 who), (2, .int .i64 epoch), (3, .int .i64 now), (4, .int .i64 span), (5, .ptr 5 0), (11, .ptr 11 0), (12, .ptr 12 0), (13, .ptr 13 0), (14, .ptr 14 0), (15, .ptr 15 0), (16, .int .i64 x4.1), (17, .ptr 17 0), (18, .int .i64 x5.1), (19, .ptr 19 0), (20, .ptr 20 0)], [(5, [.int .i64 l.Holder, .int .i64 l.Epoch, .int .i64 l.Until]), (11, [.int .i64 x1.Code, .int .i64 x1.At]), (12, [.int .i64 x2.1.Holder, .int .i64 x2.1.Epoch, .int .i64 x2.1.Until]), (13, [.int .i64 x2.2.Code, .int .i64 x2.2.At]), (14, [.int .i64 x3.1.Holder, .int .i64 x3.1.Epoch, .int .i64 x3.1.Until]), (15, [.int .i64 x3.2.Code, .int .i64 x3.2.At]), (17, [.int .i64 x4.2.Code, .int .i64 x4.2.At]), (19, [.int .i64 x5.2.Code, .int .i64 x5.2.At]), (20, [.int .i64 x9.Code, .int .i64 x9.At])], [], []⟩ (.cons (R_F_ok 3 0 x9 h9) .nil) (by kernel_rfl) ?_
        exact Wk_met (fs := [1, 2, 3, 4, 5, 11, 12, 13, 14, 15, 16, 17, 18, 19, 20]) (bs := [5, 11, 12, 13, 14, 15, 17, 19, 20]) (rs := []) (ms := []) (by rw [← hF]; kernel_rfl)
      · have hF := ite_f hF hb
        refine Wk_skip ?_
        exact Wk_met (fs := [1, 2, 3, 4, 5, 11, 12, 13, 14, 15, 16, 17, 18, 19, 20]) (bs := [5, 11, 12, 13, 14, 15, 17, 19, 20]) (rs := []) (ms := []) (by rw [← hF]; kernel_rfl)
    · refine Wk_seq ?_
      obtain ⟨x10, h10, hF⟩ := lt_split hF
      refine WR [.call (.tup [.agg [.int .i64 x10.1.Holder, .int .i64 x10.1.Epoch, .int .i64 x10.1.Until], .agg [.int .i64 x10.2.Code, .int .i64 x10.2.At]])] [1, 2, 3, 4, 5, 11, 12, 13, 14, 15, 16, 17, 18, 19, 20, 21, 22] [5, 11, 12, 13, 14, 15, 17, 19, 20, 21, 22] [] [] ⟨[(1, .int .i64 who), (2, .int .i64 epoch), (3, .int .i64 now), (4, .int .i64 span), (5, .ptr 5 0), (11, .ptr 11 0), (12, .ptr 12 0), (13, .ptr 13 0), (14, .ptr 14 0), (15, .ptr 15 0), (16, .int .i64 x4.1), (17, .ptr 17 0), (18, .int .i64 x5.1), (19, .ptr 19 0), (20, .ptr 20 0), (21, .ptr 21 0), (22, .ptr 22 0)], [(5, [.int .i64 l.Holder, .int .i64 l.Epoch, .int .i64 l.Until]), (11, [.int .i64 x1.Code, .int .i64 x1.At]), (12, [.int .i64 x2.1.Holder, .int .i64 x2.1.Epoch, .int .i64 x2.1.Until]), (13, [.int .i64 x2.2.Code, .int .i64 x2.2.At]), (14, [.int .i64 x3.1.Holder, .int .i64 x3.1.Epoch, .int .i64 x3.1.Until]), (15, [.int .i64 x3.2.Code, .int .i64 x3.2.At]), (17, [.int .i64 x4.2.Code, .int .i64 x4.2.At]), (19, [.int .i64 x5.2.Code, .int .i64 x5.2.At]), (20, [.int .i64 w0.Code, .int .i64 w0.At]), (21, [.int .i64 x10.1.Holder, .int .i64 x10.1.Epoch, .int .i64 x10.1.Until]), (22, [.int .i64 x10.2.Code, .int .i64 x10.2.At])], [], []⟩ (.cons (R_Granted_ok l who now span x10 h10) .nil) (by kernel_rfl) ?_
      refine Wk_seq ?_
      obtain ⟨x11, h11, hF⟩ := lt_split hF
      refine WR [.call (.tup [.agg [.int .i64 x11.1.Holder, .int .i64 x11.1.Epoch, .int .i64 x11.1.Until], .agg [.int .i64 x11.2.Code, .int .i64 x11.2.At]])] [2, 3, 4, 5, 11, 12, 13, 14, 15, 16, 17, 18, 19, 20, 21, 22, 23, 24] [5, 11, 12, 13, 14, 15, 17, 19, 20, 21, 22, 23, 24] [] [] ⟨[(2, .int .i64 epoch), (3, .int .i64 now), (4, .int .i64 span), (5, .ptr 5 0), (11, .ptr 11 0), (12, .ptr 12 0), (13, .ptr 13 0), (14, .ptr 14 0), (15, .ptr 15 0), (16, .int .i64 x4.1), (17, .ptr 17 0), (18, .int .i64 x5.1), (19, .ptr 19 0), (20, .ptr 20 0), (21, .ptr 21 0), (22, .ptr 22 0), (23, .ptr 23 0), (24, .ptr 24 0)], [(5, [.int .i64 l.Holder, .int .i64 l.Epoch, .int .i64 l.Until]), (11, [.int .i64 x1.Code, .int .i64 x1.At]), (12, [.int .i64 x2.1.Holder, .int .i64 x2.1.Epoch, .int .i64 x2.1.Until]), (13, [.int .i64 x2.2.Code, .int .i64 x2.2.At]), (14, [.int .i64 x3.1.Holder, .int .i64 x3.1.Epoch, .int .i64 x3.1.Until]), (15, [.int .i64 x3.2.Code, .int .i64 x3.2.At]), (17, [.int .i64 x4.2.Code, .int .i64 x4.2.At]), (19, [.int .i64 x5.2.Code, .int .i64 x5.2.At]), (20, [.int .i64 w0.Code, .int .i64 w0.At]), (21, [.int .i64 x10.1.Holder, .int .i64 x10.1.Epoch, .int .i64 x10.1.Until]), (22, [.int .i64 x10.2.Code, .int .i64 x10.2.At]), (23, [.int .i64 x11.1.Holder, .int .i64 x11.1.Epoch, .int .i64 x11.1.Until]), (24, [.int .i64 x11.2.Code, .int .i64 x11.2.At])], [], []⟩ (.cons (R_Renewed_ok l who epoch now span x11 h11) .nil) (by kernel_rfl) ?_
      refine Wk_seq ?_
      refine Wk_seq ?_
      refine WR [] [2, 3, 4, 5, 16, 17, 18, 19, 20, 116] [5, 17, 19, 20] [] [] ⟨[(2, .int .i64 epoch), (3, .int .i64 now), (4, .int .i64 span), (5, .ptr 5 0), (16, .int .i64 x4.1), (17, .ptr 17 0), (18, .int .i64 x5.1), (19, .ptr 19 0), (20, .ptr 20 0), (116, .bool (((((!(decide (x1.Code = w0.Code) && (decide (x1.At = w0.At) && true))) || (!(decide (x2.2.Code = x10.2.Code) && (decide (x2.2.At = x10.2.At) && true)))) || (!(decide (x3.2.Code = x11.2.Code) && (decide (x3.2.At = x11.2.At) && true)))) || (!(decide (x2.1.Holder = x10.1.Holder) && (decide (x2.1.Epoch = x10.1.Epoch) && (decide (x2.1.Until = x10.1.Until) && true))))) || (!(decide (x3.1.Holder = x11.1.Holder) && (decide (x3.1.Epoch = x11.1.Epoch) && (decide (x3.1.Until = x11.1.Until) && true))))))], [(5, [.int .i64 l.Holder, .int .i64 l.Epoch, .int .i64 l.Until]), (17, [.int .i64 x4.2.Code, .int .i64 x4.2.At]), (19, [.int .i64 x5.2.Code, .int .i64 x5.2.At]), (20, [.int .i64 w0.Code, .int .i64 w0.At])], [], []⟩ .nil (by kernel_rfl) ?_
      refine Wk_split rfl (fun hb => ?_) (fun hb => ?_)
      · have hF := ite_t hF hb
        refine Wk_seq ?_
        refine WR [] [10] [] [] [] ⟨[(10, .bool false)], [], [], []⟩ .nil (by kernel_rfl) ?_
        exact Wk_ret (hfin _ (by rw [← hF]; kernel_rfl))
      · have hF := ite_f hF hb
        refine Wk_skip ?_
        refine Wk_seq ?_
        refine WR [] [2, 3, 4, 5, 16, 17, 18, 19, 20] [5, 17, 19, 20] [] [] ⟨[(2, .int .i64 epoch), (3, .int .i64 now), (4, .int .i64 span), (5, .ptr 5 0), (16, .int .i64 x4.1), (17, .ptr 17 0), (18, .int .i64 x5.1), (19, .ptr 19 0), (20, .ptr 20 0)], [(5, [.int .i64 l.Holder, .int .i64 l.Epoch, .int .i64 l.Until]), (17, [.int .i64 x4.2.Code, .int .i64 x4.2.At]), (19, [.int .i64 x5.2.Code, .int .i64 x5.2.At]), (20, [.int .i64 0, .int .i64 0])], [], []⟩ .nil (by kernel_rfl) ?_
        refine Wk_seq ?_
        refine Wk_seq ?_
        obtain ⟨x12, h12, hF⟩ := lt_split hF
        refine WR [.call (.bool x12)] [2, 3, 4, 5, 16, 17, 18, 19, 20, 120] [5, 17, 19, 20] [] [] ⟨[(2, .int .i64 epoch), (3, .int .i64 now), (4, .int .i64 span), (5, .ptr 5 0), (16, .int .i64 x4.1), (17, .ptr 17 0), (18, .int .i64 x5.1), (19, .ptr 19 0), (20, .ptr 20 0), (120, .bool (!x12))], [(5, [.int .i64 l.Holder, .int .i64 l.Epoch, .int .i64 l.Until]), (17, [.int .i64 x4.2.Code, .int .i64 x4.2.At]), (19, [.int .i64 x5.2.Code, .int .i64 x5.2.At]), (20, [.int .i64 0, .int .i64 0])], [], []⟩ (.cons (R_Num_ok now x12 h12) .nil) (by kernel_rfl) ?_
        obtain ⟨w01, hv, hF⟩ := lt_split hF
        refine Wk_meet (⟨[(2, .int .i64 epoch), (3, .int .i64 now), (4, .int .i64 span), (5, .ptr 5 0), (16, .int .i64 x4.1), (17, .ptr 17 0), (18, .int .i64 x5.1), (19, .ptr 19 0), (20, .ptr 20 0)], [(5, [.int .i64 l.Holder, .int .i64 l.Epoch, .int .i64 l.Until]), (17, [.int .i64 x4.2.Code, .int .i64 x4.2.At]), (19, [.int .i64 x5.2.Code, .int .i64 x5.2.At]), (20, [.int .i64 w01.Code, .int .i64 w01.At])], [], []⟩ : S) ?_ ?_
        · have hF := hv
          refine Wk_split rfl (fun hb => ?_) (fun hb => ?_)
          · have hF := ite_t hF hb
            obtain ⟨x13, h13, hF⟩ := lt_split hF
            refine WR [.call (.agg [.int .i64 x13.Code, .int .i64 x13.At])] [2, 3, 4, 5, 16, 17, 18, 19, 20] [5, 17, 19, 20] [] [] ⟨[(2, .int .i64 epoch), (3, .int .i64 now), (4, .int .i64 span), (5, .ptr 5 0), (16, .int .i64 x4.1), (17, .ptr 17 0), (18, .int .i64 x5.1), (19, .ptr 19 0), (20, .ptr 20 0)], [(5, [.int .i64 l.Holder, .int .i64 l.Epoch, .int .i64 l.Until]), (17, [.int .i64 x4.2.Code, .int .i64 x4.2.At]), (19, [.int .i64 x5.2.Code, .int .i64 x5.2.At]), (20, [.int .i64 x13.Code, .int .i64 x13.At])], [], []⟩ (.cons (R_F_ok 3 0 x13 h13) .nil) (by kernel_rfl) ?_
            exact Wk_met (fs := [2, 3, 4, 5, 16, 17, 18, 19, 20]) (bs := [5, 17, 19, 20]) (rs := []) (ms := []) (by rw [← hF]; kernel_rfl)
          · have hF := ite_f hF hb
            obtain ⟨x14, h14, hF⟩ := lt_split hF
            refine WR [.call (.agg [.int .i64 x14.Code, .int .i64 x14.At])] [2, 3, 4, 5, 16, 17, 18, 19, 20] [5, 17, 19, 20] [] [] ⟨[(2, .int .i64 epoch), (3, .int .i64 now), (4, .int .i64 span), (5, .ptr 5 0), (16, .int .i64 x4.1), (17, .ptr 17 0), (18, .int .i64 x5.1), (19, .ptr 19 0), (20, .ptr 20 0)], [(5, [.int .i64 l.Holder, .int .i64 l.Epoch, .int .i64 l.Until]), (17, [.int .i64 x4.2.Code, .int .i64 x4.2.At]), (19, [.int .i64 x5.2.Code, .int .i64 x5.2.At]), (20, [.int .i64 x14.Code, .int .i64 x14.At])], [], []⟩ (.cons (R_Spanned_ok span x14 h14) .nil) (by kernel_rfl) ?_
            exact Wk_met (fs := [2, 3, 4, 5, 16, 17, 18, 19, 20]) (bs := [5, 17, 19, 20]) (rs := []) (ms := []) (by rw [← hF]; kernel_rfl)
        · refine Wk_seq ?_
          refine Wk_seq ?_
          refine WR [] [2, 5, 18, 19, 20, 150] [5, 19, 20] [] [] ⟨[(2, .int .i64 epoch), (5, .ptr 5 0), (18, .int .i64 x5.1), (19, .ptr 19 0), (20, .ptr 20 0), (150, .bool (((!(decide (x4.2.Code = w01.Code) && (decide (x4.2.At = w01.At) && true))) || ((!decide (w01.Code = 0)) && (!decide (x4.1 = 0)))) || ((decide (w01.Code = 0)) && (!decide (x4.1 = (w64 ((w64 (now + span)) - (w64 (Int.tdiv span 4)))))))))], [(5, [.int .i64 l.Holder, .int .i64 l.Epoch, .int .i64 l.Until]), (19, [.int .i64 x5.2.Code, .int .i64 x5.2.At]), (20, [.int .i64 w01.Code, .int .i64 w01.At])], [], []⟩ (.cons (fun (_ : (decide (w01.Code = 0)) = true) (_ : (!((!(decide (x4.2.Code = w01.Code) && (decide (x4.2.At = w01.At) && true))) || ((!decide (w01.Code = 0)) && (!decide (x4.1 = 0))))) = true) => (by decide : (4 : Int) ≠ 0)) .nil) (by kernel_rfl) ?_
          refine Wk_split rfl (fun hb => ?_) (fun hb => ?_)
          · have hF := ite_t hF hb
            refine Wk_seq ?_
            refine WR [] [10] [] [] [] ⟨[(10, .bool false)], [], [], []⟩ .nil (by kernel_rfl) ?_
            exact Wk_ret (hfin _ (by rw [← hF]; kernel_rfl))
          · have hF := ite_f hF hb
            refine Wk_skip ?_
            refine Wk_seq ?_
            refine WR [] [2, 5, 18, 19, 20] [5, 19, 20] [] [] ⟨[(2, .int .i64 epoch), (5, .ptr 5 0), (18, .int .i64 x5.1), (19, .ptr 19 0), (20, .ptr 20 0)], [(5, [.int .i64 l.Holder, .int .i64 l.Epoch, .int .i64 l.Until]), (19, [.int .i64 x5.2.Code, .int .i64 x5.2.At]), (20, [.int .i64 0, .int .i64 0])], [], []⟩ .nil (by kernel_rfl) ?_
            refine Wk_seq ?_
            refine Wk_seq ?_
            obtain ⟨x15, h15, hF⟩ := lt_split hF
            obtain ⟨x16, h16, hF⟩ := lt_split hF
            refine WR [.call (.bool x15), .call (.bool x16)] [2, 5, 18, 19, 20, 160] [5, 19, 20] [] [] ⟨[(2, .int .i64 epoch), (5, .ptr 5 0), (18, .int .i64 x5.1), (19, .ptr 19 0), (20, .ptr 20 0), (160, .bool ((!x15) || (!x16)))], [(5, [.int .i64 l.Holder, .int .i64 l.Epoch, .int .i64 l.Until]), (19, [.int .i64 x5.2.Code, .int .i64 x5.2.At]), (20, [.int .i64 0, .int .i64 0])], [], []⟩ (.cons (R_Num_ok l.Epoch x15 h15) (.cons (fun (ga0 : (!(!x15)) = true) => (R_Num_ok epoch x16 h16)) .nil)) (by kernel_rfl) ?_
            obtain ⟨w02, hv, hF⟩ := lt_split hF
            refine Wk_meet (⟨[(2, .int .i64 epoch), (18, .int .i64 x5.1), (19, .ptr 19 0), (20, .ptr 20 0)], [(19, [.int .i64 x5.2.Code, .int .i64 x5.2.At]), (20, [.int .i64 w02.Code, .int .i64 w02.At])], [], []⟩ : S) ?_ ?_
            · have hF := hv
              refine Wk_split rfl (fun hb => ?_) (fun hb => ?_)
              · have hF := ite_t hF hb
                obtain ⟨x17, h17, hF⟩ := lt_split hF
                refine WR [.call (.agg [.int .i64 x17.Code, .int .i64 x17.At])] [2, 18, 19, 20] [19, 20] [] [] ⟨[(2, .int .i64 epoch), (18, .int .i64 x5.1), (19, .ptr 19 0), (20, .ptr 20 0)], [(19, [.int .i64 x5.2.Code, .int .i64 x5.2.At]), (20, [.int .i64 x17.Code, .int .i64 x17.At])], [], []⟩ (.cons (R_F_ok 3 0 x17 h17) .nil) (by kernel_rfl) ?_
                exact Wk_met (fs := [2, 18, 19, 20]) (bs := [19, 20]) (rs := []) (ms := []) (by rw [← hF]; kernel_rfl)
              · have hF := ite_f hF hb
                refine Wk_seq ?_
                refine WR [] [2, 18, 19, 20, 165] [19, 20] [] [] ⟨[(2, .int .i64 epoch), (18, .int .i64 x5.1), (19, .ptr 19 0), (20, .ptr 20 0), (165, .bool (decide (epoch < l.Epoch)))], [(19, [.int .i64 x5.2.Code, .int .i64 x5.2.At]), (20, [.int .i64 0, .int .i64 0])], [], []⟩ .nil (by kernel_rfl) ?_
                refine Wk_split rfl (fun hb => ?_) (fun hb => ?_)
                · have hF := ite_t hF hb
                  obtain ⟨x18, h18, hF⟩ := lt_split hF
                  refine WR [.call (.agg [.int .i64 x18.Code, .int .i64 x18.At])] [2, 18, 19, 20] [19, 20] [] [] ⟨[(2, .int .i64 epoch), (18, .int .i64 x5.1), (19, .ptr 19 0), (20, .ptr 20 0)], [(19, [.int .i64 x5.2.Code, .int .i64 x5.2.At]), (20, [.int .i64 x18.Code, .int .i64 x18.At])], [], []⟩ (.cons (R_F_ok 12 0 x18 h18) .nil) (by kernel_rfl) ?_
                  exact Wk_met (fs := [2, 18, 19, 20]) (bs := [19, 20]) (rs := []) (ms := []) (by rw [← hF]; kernel_rfl)
                · have hF := ite_f hF hb
                  refine Wk_skip ?_
                  exact Wk_met (fs := [2, 18, 19, 20]) (bs := [19, 20]) (rs := []) (ms := []) (by rw [← hF]; kernel_rfl)
            · refine Wk_seq ?_
              refine WRL ((decide (x5.2.Code = w02.Code) && (decide (x5.2.At = w02.At) && true)) && (((!decide (w02.Code = 0)) && (decide (x5.1 = 0))) || ((decide (w02.Code = 0)) && (decide (x5.1 = epoch))))) (fun v : Bool => ⟨[(10, .bool v)], [], [], []⟩) [] [10] [] [] [] .nil (by kernel_rfl) (fun v hv => ?_)
              have hF := lt_elim hF hv
              exact Wk_ret (hfin _ (by rw [← hF]; kernel_rfl))

/- tabularyref.Ints -/
noncomputable def R_Ints_J1 (v : Unit) : Option Bool :=
  some true
noncomputable def R_Ints_B1 (a0 : List Int) (b : List Int) (v1 : Int) : Option (Int ⊕ Bool) :=
  if (decide (v1 < (a0.length : Int))) = true then
    asrt (0 ≤ v1 ∧ v1 < (a0.length : Int)) <|
    asrt (0 ≤ v1 ∧ v1 < (b.length : Int)) <|
    if (!decide ((lget a0 v1) = (lget b v1))) = true then
      some (Sum.inr false)
    else
      some (Sum.inl (w64 (v1 + 1)))
  else
    inrO (R_Ints_J1 ())
noncomputable def R_Ints_L1 (a0 : List Int) (b : List Int) (v0 : Int) : Option Bool :=
  loopO (fun y => R_Ints_B1 a0 b y) v0
noncomputable def R_Ints (a0 : List Int) (b : List Int) : Option Bool :=
  if (!decide ((a0.length : Int) = (b.length : Int))) = true then
    some false
  else
    R_Ints_L1 a0 b 0
theorem R_Ints_ok (a0 : List Int) (b : List Int) (r : Bool) (hF : R_Ints a0 b = some r) : Pc Try.prog 60 [.sl 1 (a0.map e_i64), .sl 1 (b.map e_i64)] (.bool r) := by
  refine Pc_of (N := 26) (res := [.tmp 4]) (ts := [4]) Ty.ok Fn.b60 Try.func60 rfl rfl rfl rfl rfl ?_
  intro Q g hfin
  unfold R_Ints at hF
  refine Wk_seq ?_
  refine WR [] [0, 1] [] [] [] ⟨[(0, .sl 1 (a0.map e_i64)), (1, .sl 1 (b.map e_i64))], [], [], []⟩ .nil (by kernel_rfl) ?_
  refine Wk_seq ?_
  refine Wk_seq ?_
  refine WR [.nat (a0.length : Int), .nat (b.length : Int)] [0, 1, 10] [] [] [] ⟨[(0, .sl 1 (a0.map e_i64)), (1, .sl 1 (b.map e_i64)), (10, .bool (!decide ((a0.length : Int) = (b.length : Int))))], [], [], []⟩ (.cons (len_ok e_i64 a0) (.cons (len_ok e_i64 b) .nil)) (by kernel_rfl) ?_
  refine Wk_split rfl (fun hb => ?_) (fun hb => ?_)
  · have hF := ite_t hF hb
    refine Wk_seq ?_
    refine WR [] [4] [] [] [] ⟨[(4, .bool false)], [], [], []⟩ .nil (by kernel_rfl) ?_
    have hF := some_elim hF
    exact Wk_ret (hfin _ (by rw [← hF]; kernel_rfl))
  · have hF := ite_f hF hb
    refine Wk_skip ?_
    refine Wk_seq ?_
    refine Wk_seq ?_
    refine WR [] [0, 1, 5] [] [] [] ⟨[(0, .sl 1 (a0.map e_i64)), (1, .sl 1 (b.map e_i64)), (5, .int .i64 0)], [], [], []⟩ .nil (by kernel_rfl) ?_
    refine Wk_meetP (fun v : Unit => (⟨[], [], [], []⟩ : S)) (fun v => R_Ints_J1 v = some r) ?_ ?_
    · refine Wk_block ?_
      unfold R_Ints_L1 at hF
      refine Wk_trim (fs := [0, 1, 5]) (bs := []) (rs := []) (ms := []) (t := (fun v1 : Int => (⟨[(0, .sl 1 (a0.map e_i64)), (1, .sl 1 (b.map e_i64)), (5, .int .i64 v1)], [], [], []⟩ : S)) 0) (by kernel_rfl) ?_
      refine Wk_iter (step := fun y => R_Ints_B1 a0 b y) (r := r) (fun v1 : Int => (⟨[(0, .sl 1 (a0.map e_i64)), (1, .sl 1 (b.map e_i64)), (5, .int .i64 v1)], [], [], []⟩ : S)) 0 hF ?_
      intro n1 v1 y1 hF ih1 dn1
      have hF : R_Ints_B1 a0 b v1 = some y1 := hF
      unfold R_Ints_B1 at hF
      refine Wk_seq ?_
      refine Wk_seq ?_
      refine WR [.nat (a0.length : Int)] [0, 1, 5, 14] [] [] [] ⟨[(0, .sl 1 (a0.map e_i64)), (1, .sl 1 (b.map e_i64)), (5, .int .i64 v1), (14, .bool (decide (v1 < (a0.length : Int))))], [], [], []⟩ (.cons (len_ok e_i64 a0) .nil) (by kernel_rfl) ?_
      refine Wk_split rfl (fun hb => ?_) (fun hb => ?_)
      · have hF := ite_t hF hb
        refine Wk_skip ?_
        refine Wk_seq ?_
        refine Wk_block ?_
        refine Wk_seq ?_
        obtain ⟨h0, hF⟩ := asrt_elim hF
        obtain ⟨h1, hF⟩ := asrt_elim hF
        refine WD [.av (e_i64 (lget a0 v1)), .av (e_i64 (lget b v1))] [0, 1, 5, 25] [] [] [] ⟨[(0, .sl 1 (a0.map e_i64)), (1, .sl 1 (b.map e_i64)), (5, .int .i64 v1), (25, .bool (!decide ((lget a0 v1) = (lget b v1))))], [], [], []⟩ (.cons (idx_ok e_i64 h0) (.cons (idx_ok e_i64 h1) .nil)) (by kernel_rfl) ?_
        refine Wk_split rfl (fun hb => ?_) (fun hb => ?_)
        · have hF := ite_t hF hb
          refine Wk_seq ?_
          refine WR [] [4] [] [] [] ⟨[(4, .bool false)], [], [], []⟩ .nil (by kernel_rfl) ?_
          have hF := ret_done hF dn1
          have hF := some_elim hF
          exact Wk_ret (hfin _ (by rw [← hF]; kernel_rfl))
        · have hF := ite_f hF hb
          refine Wk_skip ?_
          refine Wk_blk ?_
          refine WR [] [0, 1, 5] [] [] [] ⟨[(0, .sl 1 (a0.map e_i64)), (1, .sl 1 (b.map e_i64)), (5, .int .i64 (w64 (v1 + 1)))], [], [], []⟩ .nil (by kernel_rfl) ?_
          refine Wk_trim (fs := [0, 1, 5]) (bs := []) (rs := []) (ms := []) ?_ (ih1 _ (some_elim hF).symm)
          kernel_rfl
      · have hF := ite_f hF hb
        refine Wk_exit rfl ?_
        have hF := inrO_done hF dn1
        exact Wk_metP () [] [] [] [] hF (by kernel_rfl)
    · intro v hF
      have hF : R_Ints_J1 v = some r := hF
      unfold R_Ints_J1 at hF
      refine Wk_seq ?_
      refine WR [] [4] [] [] [] ⟨[(4, .bool true)], [], [], []⟩ .nil (by kernel_rfl) ?_
      have hF := some_elim hF
      exact Wk_ret (hfin _ (by rw [← hF]; kernel_rfl))

end G
end Go.Proofs.Ytgflfhdbihahcaa
