/- The program's functions as plain functions, and that they are these. Written by a program (dec2.py). -/
import Derived.Test.YtgflfhdbihahcaaGf1
namespace Go.Proofs.Ytgflfhdbihahcaa
open Go Go.Dm
set_option linter.unusedVariables false
set_option linter.unusedSimpArgs false
set_option maxRecDepth 100000
namespace G
/- lease.run -/
noncomputable def lease_run_v1_J1 (v : Int × Int × Int × Int × List Int × List Trust × List Wish × List Reply × Int × List Int × List (List Int)) : Option (Int × Int × Int × Int × List Int × List Trust × List Wish × List Reply × Fault × List Int × List (List Int)) :=
  some (v.1, v.2.1, v.2.2.1, v.2.2.2.1, v.2.2.2.2.1, v.2.2.2.2.2.1, v.2.2.2.2.2.2.1, v.2.2.2.2.2.2.2.1, (⟨0, 0⟩ : Fault), v.2.2.2.2.2.2.2.2.2.1, v.2.2.2.2.2.2.2.2.2.2)
noncomputable def lease_run_v1_B1 (row : List Deed) (v1 : List Int × List (List Int) × Int × Int × Int × Int × List Int × List Trust × List Wish × List Reply × Int × Int) : Option ((List Int × List (List Int) × Int × Int × Int × Int × List Int × List Trust × List Wish × List Reply × Int × Int) ⊕ (Int × Int × Int × Int × List Int × List Trust × List Wish × List Reply × Fault × List Int × List (List Int))) :=
  if (decide (v1.2.2.2.2.2.2.2.2.2.2.2 < (row.length : Int))) = true then
    asrt (0 ≤ v1.2.2.2.2.2.2.2.2.2.2.2 ∧ v1.2.2.2.2.2.2.2.2.2.2.2 < (row.length : Int)) <|
    asrt (0 ≤ v1.2.2.2.2.2.2.2.2.2.2.2 ∧ v1.2.2.2.2.2.2.2.2.2.2.2 < (row.length : Int)) <|
    ob (lease_court_does_v1 (⟨(lget row v1.2.2.2.2.2.2.2.2.2.2.2).Kind, (lget row v1.2.2.2.2.2.2.2.2.2.2.2).Who, (lget row v1.2.2.2.2.2.2.2.2.2.2.2).N⟩ : Deed) v1.2.2.1 v1.2.2.2.1 v1.2.2.2.2.1 v1.2.2.2.2.2.1 v1.2.2.2.2.2.2.2.2.2.2.1 v1.2.2.2.2.2.2.1 v1.2.2.2.2.2.2.2.1 v1.2.2.2.2.2.2.2.2.1 v1.2.2.2.2.2.2.2.2.2.1) fun x3 =>
    if (!decide (x3.1 = 0)) = true then
      lt (lease_fault x3.1 v1.2.2.2.2.2.2.2.2.2.2.2) fun x4 =>
      some (Sum.inr (0, 0, 0, 0, ([] : List Int), ([] : List Trust), ([] : List Wish), ([] : List Reply), x4, v1.1, v1.2.1))
    else
      ob (lease_Fair_1 x3.2.1 x3.2.2.1 x3.2.2.2.1 x3.2.2.2.2.1 x3.2.2.2.2.2.2.2.2.2 x3.2.2.2.2.2.1 x3.2.2.2.2.2.2.1 x3.2.2.2.2.2.2.2.1 x3.2.2.2.2.2.2.2.2.1 v1.1 v1.2.1) fun x5 =>
      some (Sum.inl (x5.1, x5.2, x3.2.1, x3.2.2.1, x3.2.2.2.1, x3.2.2.2.2.1, x3.2.2.2.2.2.1, x3.2.2.2.2.2.2.1, x3.2.2.2.2.2.2.2.1, x3.2.2.2.2.2.2.2.2.1, x3.2.2.2.2.2.2.2.2.2, w64 (v1.2.2.2.2.2.2.2.2.2.2.2 + 1)))
  else
    inrO (lease_run_v1_J1 (v1.2.2.1, v1.2.2.2.1, v1.2.2.2.2.1, v1.2.2.2.2.2.1, v1.2.2.2.2.2.2.1, v1.2.2.2.2.2.2.2.1, v1.2.2.2.2.2.2.2.2.1, v1.2.2.2.2.2.2.2.2.2.1, v1.2.2.2.2.2.2.2.2.2.2.1, v1.1, v1.2.1))
noncomputable def lease_run_v1_L1 (row : List Deed) (v0 : List Int × List (List Int) × Int × Int × Int × Int × List Int × List Trust × List Wish × List Reply × Int × Int) : Option (Int × Int × Int × Int × List Int × List Trust × List Wish × List Reply × Fault × List Int × List (List Int)) :=
  loopO (fun y => lease_run_v1_B1 row y) v0
noncomputable def lease_run_v1 (span : Int) (clients : Int) (row : List Deed) (row1 : List Int) (row2 : List (List Int)) : Option (Int × Int × Int × Int × List Int × List Trust × List Wish × List Reply × Fault × List Int × List (List Int)) :=
  lt (lease_spanned span) fun x =>
  if (!decide (x.Code = 0)) = true then
    some (0, 0, 0, 0, ([] : List Int), ([] : List Trust), ([] : List Wish), ([] : List Reply), x, row1, row2)
  else
    if ((decide (clients < 1)) || (decide (8 < clients))) = true then
      lt (lease_fault 3 (-1)) fun x1 =>
      some (0, 0, 0, 0, ([] : List Int), ([] : List Trust), ([] : List Wish), ([] : List Reply), x1, row1, row2)
    else
      if (decide (2000 < (row.length : Int))) = true then
        lt (lease_fault 2 (-1)) fun x2 =>
        some (0, 0, 0, 0, ([] : List Int), ([] : List Trust), ([] : List Wish), ([] : List Reply), x2, row1, row2)
      else
        asrt (0 ≤ (clients : Int) ∧ clients ≤ clients ∧ clients * 8 ≤ 140737488351232) <|
        asrt (0 ≤ (clients : Int) ∧ clients ≤ clients ∧ clients * 16 ≤ 140737488351232) <|
        lease_run_v1_L1 row (row1, row2, 0, 0, 0, 0, (List.replicate clients.toNat (0 : Int)), (List.replicate clients.toNat ((⟨0, 0⟩ : Trust) : Trust)), ([] : List Wish), ([] : List Reply), span, 0)
theorem lease_run_v1_ok (span : Int) (clients : Int) (row : List Deed) (row1 : List Int) (row2 : List (List Int)) (rk : Nat) (rc : Nat) (rn : Bool) (rk1 : Nat) (rc1 : Nat) (rn1 : Bool) (rk2 : Nat) (rc2 : Nat) (rn2 : Bool) (r : Int × Int × Int × Int × List Int × List Trust × List Wish × List Reply × Fault × List Int × List (List Int)) (hF : lease_run_v1 span clients row row1 row2 = some r) : Pe Try.prog 55 ⟨[], [(100000, [.row 100001 0]), (100001, [.row 100002 0])], [(100000, ⟨50, 3, 0, rk, rc, rn, 0, [], (row.map e_Deed)⟩), (100001, ⟨3, 1, 0, rk1, rc1, rn1, 0, [], (row1.map e_i64)⟩), (100002, ⟨22, 1, 0, rk2, rc2, rn2, 0, [], (row2.map e_L_i64)⟩)], [], []⟩ [.int .i64 span, .int .i64 clients, .row 100000 0, .fn 57 [.ptr 100000 0, .ptr 100001 0]] (.tup [.agg [.int .i64 r.1, .int .i64 r.2.1, .int .i64 r.2.2.1, .int .i64 r.2.2.2.1, .row 41 0, .row 43 0, .row 59 0, .row 20059 0], .agg [.int .i64 r.2.2.2.2.2.2.2.2.1.Code, .int .i64 r.2.2.2.2.2.2.2.2.1.At]]) ⟨[], [(100000, [.row 100001 1]), (100001, [.row 100002 1])], [(100000, ⟨50, 3, 0, rk, rc, rn, 0, [], (row.map e_Deed)⟩), (100001, ⟨3, 1, 1, rk1, rc1, rn1, 0, [], (r.2.2.2.2.2.2.2.2.2.1.map e_i64)⟩), (100002, ⟨22, 1, 1, rk2, rc2, rn2, 0, [], (r.2.2.2.2.2.2.2.2.2.2.map e_L_i64)⟩), (41, ⟨3, 1, 0, 0, 0, false, 0, [], (r.2.2.2.2.1.map e_i64)⟩), (43, ⟨60, 2, 0, 0, 0, false, 0, [], (r.2.2.2.2.2.1.map e_Trust)⟩), (59, ⟨103, 3, 0, 0, 0, false, 0, [], (r.2.2.2.2.2.2.1.map e_Wish)⟩), (20059, ⟨105, 3, 0, 0, 0, false, 0, [], (r.2.2.2.2.2.2.2.1.map e_Reply)⟩)], [], []⟩ := by
  refine Pe_of (N := 75) (res := [.cell 8 44, .cell 9 25]) (ts := [44, 25]) Ty.ok Fn.b55 Try.func55 rfl rfl rfl rfl rfl rfl ?_
  intro Q g hfin
  unfold lease_run_v1 at hF
  refine Wk_seq ?_
  refine WR [] [0, 1, 2, 3, 8, 9] [8, 9, 100000, 100001] [100000, 100001, 100002] [] [] [] ⟨[(0, .int .i64 span), (1, .int .i64 clients), (2, .row 100000 0), (3, .fn 57 [.ptr 100000 0, .ptr 100001 0]), (8, .ptr 8 0), (9, .ptr 9 0)], [(8, [.int .i64 0, .int .i64 0, .int .i64 0, .int .i64 0, .nils, .nils, .nils, .nils]), (9, [.int .i64 0, .int .i64 0]), (100000, [.row 100001 0]), (100001, [.row 100002 0])], [(100000, ⟨50, 3, 0, rk, rc, rn, 0, [], (row.map e_Deed)⟩), (100001, ⟨3, 1, 0, rk1, rc1, rn1, 0, [], (row1.map e_i64)⟩), (100002, ⟨22, 1, 0, rk2, rc2, rn2, 0, [], (row2.map e_L_i64)⟩)], [], []⟩ .nil (by kernel_rfl) ?_
  refine Wk_seq ?_
  refine Wk_seq ?_
  obtain ⟨x, h0, hF⟩ := lt_split hF
  refine WR [.callB (.agg [.int .i64 x.Code, .int .i64 x.At])] [0, 1, 2, 3, 8, 9, 10] [8, 9, 10, 100000, 100001] [100000, 100001, 100002] [] [] [] ⟨[(0, .int .i64 span), (1, .int .i64 clients), (2, .row 100000 0), (3, .fn 57 [.ptr 100000 0, .ptr 100001 0]), (8, .ptr 8 0), (9, .ptr 9 0), (10, .ptr 10 0)], [(8, [.int .i64 0, .int .i64 0, .int .i64 0, .int .i64 0, .nils, .nils, .nils, .nils]), (9, [.int .i64 0, .int .i64 0]), (10, [.int .i64 x.Code, .int .i64 x.At]), (100000, [.row 100001 0]), (100001, [.row 100002 0])], [(100000, ⟨50, 3, 0, rk, rc, rn, 0, [], (row.map e_Deed)⟩), (100001, ⟨3, 1, 0, rk1, rc1, rn1, 0, [], (row1.map e_i64)⟩), (100002, ⟨22, 1, 0, rk2, rc2, rn2, 0, [], (row2.map e_L_i64)⟩)], [], []⟩ (.cons (lease_spanned_ok span x h0) .nil) (by kernel_rfl) ?_
  refine Wk_seq ?_
  refine WR [] [0, 1, 2, 3, 8, 9, 10, 19] [8, 9, 10, 100000, 100001] [100000, 100001, 100002] [] [] [] ⟨[(0, .int .i64 span), (1, .int .i64 clients), (2, .row 100000 0), (3, .fn 57 [.ptr 100000 0, .ptr 100001 0]), (8, .ptr 8 0), (9, .ptr 9 0), (10, .ptr 10 0), (19, .bool (!decide (x.Code = 0)))], [(8, [.int .i64 0, .int .i64 0, .int .i64 0, .int .i64 0, .nils, .nils, .nils, .nils]), (9, [.int .i64 0, .int .i64 0]), (10, [.int .i64 x.Code, .int .i64 x.At]), (100000, [.row 100001 0]), (100001, [.row 100002 0])], [(100000, ⟨50, 3, 0, rk, rc, rn, 0, [], (row.map e_Deed)⟩), (100001, ⟨3, 1, 0, rk1, rc1, rn1, 0, [], (row1.map e_i64)⟩), (100002, ⟨22, 1, 0, rk2, rc2, rn2, 0, [], (row2.map e_L_i64)⟩)], [], []⟩ .nil (by kernel_rfl) ?_
  refine Wk_split rfl (fun hb => ?_) (fun hb => ?_)
  · have hF := ite_t hF hb
    refine Wk_seq ?_
    refine WD [] [8, 9] [8, 9, 100000, 100001] [100000, 100001, 100002] [] [] [] ⟨[(8, .ptr 8 0), (9, .ptr 9 0)], [(8, [.int .i64 0, .int .i64 0, .int .i64 0, .int .i64 0, .nils, .nils, .nils, .nils]), (9, [.int .i64 x.Code, .int .i64 x.At]), (100000, [.row 100001 0]), (100001, [.row 100002 0])], [(100000, ⟨50, 3, 0, rk, rc, rn, 0, [], (row.map e_Deed)⟩), (100001, ⟨3, 1, 0, rk1, rc1, rn1, 0, [], (row1.map e_i64)⟩), (100002, ⟨22, 1, 0, rk2, rc2, rn2, 0, [], (row2.map e_L_i64)⟩)], [], []⟩ .nil (by kernel_rfl) ?_
    have hF := some_elim hF
    refine Wk_nilrowB 8 4 60000 3 1 rfl rfl rfl rfl rfl ?_
    refine Wk_nilrowB 8 5 60001 60 2 rfl rfl rfl rfl rfl ?_
    refine Wk_nilrowB 8 6 60002 103 3 rfl rfl rfl rfl rfl ?_
    refine Wk_nilrowB 8 7 60003 105 3 rfl rfl rfl rfl rfl ?_
    refine Wk_ren' ⟨[], [(60000, 41), (60001, 43), (60002, 59), (60003, 20059)], [], []⟩ rfl ?_
    exact Wk_ret (hfin _ ⟨[100000, 100001, 100002, 41, 43, 59, 20059], [100000, 100001], [100000, 100001, 100002, 41, 43, 59, 20059], [], [], [(100001, ⟨1, true, true, false⟩), (100002, ⟨1, true, true, false⟩), (41, ⟨0, true, false, false⟩), (43, ⟨0, true, false, false⟩), (59, ⟨0, true, false, false⟩), (20059, ⟨0, true, false, false⟩)], by first | (rw [← hF]; kernel_rfl) | kernel_rfl⟩)
  · have hF := ite_f hF hb
    refine Wk_skip ?_
    refine Wk_seq ?_
    refine Wk_seq ?_
    refine WR [] [0, 1, 2, 3, 8, 9, 27] [8, 9, 100000, 100001] [100000, 100001, 100002] [] [] [] ⟨[(0, .int .i64 span), (1, .int .i64 clients), (2, .row 100000 0), (3, .fn 57 [.ptr 100000 0, .ptr 100001 0]), (8, .ptr 8 0), (9, .ptr 9 0), (27, .bool ((decide (clients < 1)) || (decide (8 < clients))))], [(8, [.int .i64 0, .int .i64 0, .int .i64 0, .int .i64 0, .nils, .nils, .nils, .nils]), (9, [.int .i64 0, .int .i64 0]), (100000, [.row 100001 0]), (100001, [.row 100002 0])], [(100000, ⟨50, 3, 0, rk, rc, rn, 0, [], (row.map e_Deed)⟩), (100001, ⟨3, 1, 0, rk1, rc1, rn1, 0, [], (row1.map e_i64)⟩), (100002, ⟨22, 1, 0, rk2, rc2, rn2, 0, [], (row2.map e_L_i64)⟩)], [], []⟩ .nil (by kernel_rfl) ?_
    refine Wk_split rfl (fun hb => ?_) (fun hb => ?_)
    · have hF := ite_t hF hb
      refine Wk_seq ?_
      obtain ⟨x1, h1, hF⟩ := lt_split hF
      refine WR [.callB (.agg [.int .i64 x1.Code, .int .i64 x1.At])] [8, 9] [8, 9, 100000, 100001] [100000, 100001, 100002] [] [] [] ⟨[(8, .ptr 8 0), (9, .ptr 9 0)], [(8, [.int .i64 0, .int .i64 0, .int .i64 0, .int .i64 0, .nils, .nils, .nils, .nils]), (9, [.int .i64 x1.Code, .int .i64 x1.At]), (100000, [.row 100001 0]), (100001, [.row 100002 0])], [(100000, ⟨50, 3, 0, rk, rc, rn, 0, [], (row.map e_Deed)⟩), (100001, ⟨3, 1, 0, rk1, rc1, rn1, 0, [], (row1.map e_i64)⟩), (100002, ⟨22, 1, 0, rk2, rc2, rn2, 0, [], (row2.map e_L_i64)⟩)], [], []⟩ (.cons (lease_fault_ok 3 (-1) x1 h1) .nil) (by kernel_rfl) ?_
      have hF := some_elim hF
      refine Wk_nilrowB 8 4 60004 3 1 rfl rfl rfl rfl rfl ?_
      refine Wk_nilrowB 8 5 60005 60 2 rfl rfl rfl rfl rfl ?_
      refine Wk_nilrowB 8 6 60006 103 3 rfl rfl rfl rfl rfl ?_
      refine Wk_nilrowB 8 7 60007 105 3 rfl rfl rfl rfl rfl ?_
      refine Wk_ren' ⟨[], [(60004, 41), (60005, 43), (60006, 59), (60007, 20059)], [], []⟩ rfl ?_
      exact Wk_ret (hfin _ ⟨[100000, 100001, 100002, 41, 43, 59, 20059], [100000, 100001], [100000, 100001, 100002, 41, 43, 59, 20059], [], [], [(100001, ⟨1, true, true, false⟩), (100002, ⟨1, true, true, false⟩), (41, ⟨0, true, false, false⟩), (43, ⟨0, true, false, false⟩), (59, ⟨0, true, false, false⟩), (20059, ⟨0, true, false, false⟩)], by first | (rw [← hF]; kernel_rfl) | kernel_rfl⟩)
    · have hF := ite_f hF hb
      refine Wk_skip ?_
      refine Wk_seq ?_
      refine Wk_seq ?_
      refine WR [.nat (row.length : Int)] [0, 1, 2, 3, 8, 9, 32] [8, 9, 100000, 100001] [100000, 100001, 100002] [] [] [] ⟨[(0, .int .i64 span), (1, .int .i64 clients), (2, .row 100000 0), (3, .fn 57 [.ptr 100000 0, .ptr 100001 0]), (8, .ptr 8 0), (9, .ptr 9 0), (32, .bool (decide (2000 < (row.length : Int))))], [(8, [.int .i64 0, .int .i64 0, .int .i64 0, .int .i64 0, .nils, .nils, .nils, .nils]), (9, [.int .i64 0, .int .i64 0]), (100000, [.row 100001 0]), (100001, [.row 100002 0])], [(100000, ⟨50, 3, 0, rk, rc, rn, 0, [], (row.map e_Deed)⟩), (100001, ⟨3, 1, 0, rk1, rc1, rn1, 0, [], (row1.map e_i64)⟩), (100002, ⟨22, 1, 0, rk2, rc2, rn2, 0, [], (row2.map e_L_i64)⟩)], [], []⟩ (.cons (len_ok e_Deed row) .nil) (by kernel_rfl) ?_
      refine Wk_split rfl (fun hb => ?_) (fun hb => ?_)
      · have hF := ite_t hF hb
        refine Wk_seq ?_
        obtain ⟨x2, h2, hF⟩ := lt_split hF
        refine WR [.callB (.agg [.int .i64 x2.Code, .int .i64 x2.At])] [8, 9] [8, 9, 100000, 100001] [100000, 100001, 100002] [] [] [] ⟨[(8, .ptr 8 0), (9, .ptr 9 0)], [(8, [.int .i64 0, .int .i64 0, .int .i64 0, .int .i64 0, .nils, .nils, .nils, .nils]), (9, [.int .i64 x2.Code, .int .i64 x2.At]), (100000, [.row 100001 0]), (100001, [.row 100002 0])], [(100000, ⟨50, 3, 0, rk, rc, rn, 0, [], (row.map e_Deed)⟩), (100001, ⟨3, 1, 0, rk1, rc1, rn1, 0, [], (row1.map e_i64)⟩), (100002, ⟨22, 1, 0, rk2, rc2, rn2, 0, [], (row2.map e_L_i64)⟩)], [], []⟩ (.cons (lease_fault_ok 2 (-1) x2 h2) .nil) (by kernel_rfl) ?_
        have hF := some_elim hF
        refine Wk_nilrowB 8 4 60008 3 1 rfl rfl rfl rfl rfl ?_
        refine Wk_nilrowB 8 5 60009 60 2 rfl rfl rfl rfl rfl ?_
        refine Wk_nilrowB 8 6 60010 103 3 rfl rfl rfl rfl rfl ?_
        refine Wk_nilrowB 8 7 60011 105 3 rfl rfl rfl rfl rfl ?_
        refine Wk_ren' ⟨[], [(60008, 41), (60009, 43), (60010, 59), (60011, 20059)], [], []⟩ rfl ?_
        exact Wk_ret (hfin _ ⟨[100000, 100001, 100002, 41, 43, 59, 20059], [100000, 100001], [100000, 100001, 100002, 41, 43, 59, 20059], [], [], [(100001, ⟨1, true, true, false⟩), (100002, ⟨1, true, true, false⟩), (41, ⟨0, true, false, false⟩), (43, ⟨0, true, false, false⟩), (59, ⟨0, true, false, false⟩), (20059, ⟨0, true, false, false⟩)], by first | (rw [← hF]; kernel_rfl) | kernel_rfl⟩)
      · have hF := ite_f hF hb
        refine Wk_skip ?_
        refine Wk_seq ?_
        refine WR [] [1, 2, 3, 8, 9, 11] [8, 9, 37, 100000, 100001] [100000, 100001, 100002] [] [] [] ⟨[(1, .int .i64 clients), (2, .row 100000 0), (3, .fn 57 [.ptr 100000 0, .ptr 100001 0]), (8, .ptr 8 0), (9, .ptr 9 0), (11, .ptr 37 0)], [(8, [.int .i64 0, .int .i64 0, .int .i64 0, .int .i64 0, .nils, .nils, .nils, .nils]), (9, [.int .i64 0, .int .i64 0]), (37, [.int .i64 0, .int .i64 0, .int .i64 0, .int .i64 0, .nils, .nils, .nils, .nils, .int .i64 span]), (100000, [.row 100001 0]), (100001, [.row 100002 0])], [(100000, ⟨50, 3, 0, rk, rc, rn, 0, [], (row.map e_Deed)⟩), (100001, ⟨3, 1, 0, rk1, rc1, rn1, 0, [], (row1.map e_i64)⟩), (100002, ⟨22, 1, 0, rk2, rc2, rn2, 0, [], (row2.map e_L_i64)⟩)], [], []⟩ .nil (by kernel_rfl) ?_
        refine Wk_seq ?_
        obtain ⟨h3, hF⟩ := asrt_elim hF
        obtain ⟨h4, hF⟩ := asrt_elim hF
        refine WD [.xs ((List.replicate clients.toNat (0 : Int)).map e_i64), .xs ((List.replicate clients.toNat ((⟨0, 0⟩ : Trust) : Trust)).map e_Trust)] [2, 3, 8, 9, 11] [8, 9, 37, 100000, 100001] [41, 43, 100000, 100001, 100002] [] [] [] ⟨[(2, .row 100000 0), (3, .fn 57 [.ptr 100000 0, .ptr 100001 0]), (8, .ptr 8 0), (9, .ptr 9 0), (11, .ptr 37 0)], [(8, [.int .i64 0, .int .i64 0, .int .i64 0, .int .i64 0, .nils, .nils, .nils, .nils]), (9, [.int .i64 0, .int .i64 0]), (37, [.int .i64 0, .int .i64 0, .int .i64 0, .int .i64 0, .row 41 0, .row 43 0, .nils, .nils, .int .i64 span]), (100000, [.row 100001 0]), (100001, [.row 100002 0])], [(41, ⟨3, 1, 0, 0, 0, false, 0, [], ((List.replicate clients.toNat (0 : Int)).map e_i64)⟩), (43, ⟨60, 2, 0, 0, 0, false, 0, [], ((List.replicate clients.toNat ((⟨0, 0⟩ : Trust) : Trust)).map e_Trust)⟩), (100000, ⟨50, 3, 0, rk, rc, rn, 0, [], (row.map e_Deed)⟩), (100001, ⟨3, 1, 0, rk1, rc1, rn1, 0, [], (row1.map e_i64)⟩), (100002, ⟨22, 1, 0, rk2, rc2, rn2, 0, [], (row2.map e_L_i64)⟩)], [], []⟩ (.cons (mk_ok h3) (.cons (rep_ok e_i64 clients (0 : Int)) (.cons (mk_ok h4) (.cons (rep_ok e_Trust clients ((⟨0, 0⟩ : Trust) : Trust)) .nil)))) (by kernel_rfl) ?_
        refine Wk_seq ?_
        refine Wk_seq ?_
        refine WR [.nat (row.length : Int)] [3, 8, 9, 11, 50, 51, 52] [8, 9, 37, 100000, 100001] [41, 43, 100000, 100001, 100002] [] [] [] ⟨[(3, .fn 57 [.ptr 100000 0, .ptr 100001 0]), (8, .ptr 8 0), (9, .ptr 9 0), (11, .ptr 37 0), (50, .row 100000 0), (51, .int .i64 (row.length : Int)), (52, .int .i64 0)], [(8, [.int .i64 0, .int .i64 0, .int .i64 0, .int .i64 0, .nils, .nils, .nils, .nils]), (9, [.int .i64 0, .int .i64 0]), (37, [.int .i64 0, .int .i64 0, .int .i64 0, .int .i64 0, .row 41 0, .row 43 0, .nils, .nils, .int .i64 span]), (100000, [.row 100001 0]), (100001, [.row 100002 0])], [(41, ⟨3, 1, 0, 0, 0, false, 0, [], ((List.replicate clients.toNat (0 : Int)).map e_i64)⟩), (43, ⟨60, 2, 0, 0, 0, false, 0, [], ((List.replicate clients.toNat ((⟨0, 0⟩ : Trust) : Trust)).map e_Trust)⟩), (100000, ⟨50, 3, 0, rk, rc, rn, 0, [], (row.map e_Deed)⟩), (100001, ⟨3, 1, 0, rk1, rc1, rn1, 0, [], (row1.map e_i64)⟩), (100002, ⟨22, 1, 0, rk2, rc2, rn2, 0, [], (row2.map e_L_i64)⟩)], [], []⟩ (.cons (len_ok e_Deed row) .nil) (by kernel_rfl) ?_
        refine Wk_meetP (fun v : Int × Int × Int × Int × List Int × List Trust × List Wish × List Reply × Int × List Int × List (List Int) => (⟨[(8, .ptr 8 0), (9, .ptr 9 0), (11, .ptr 37 0)], [(8, [.int .i64 0, .int .i64 0, .int .i64 0, .int .i64 0, .nils, .nils, .nils, .nils]), (9, [.int .i64 0, .int .i64 0]), (37, [.int .i64 v.1, .int .i64 v.2.1, .int .i64 v.2.2.1, .int .i64 v.2.2.2.1, .row 41 0, .row 43 0, .row 59 0, .row 20059 0, .int .i64 v.2.2.2.2.2.2.2.2.1]), (100000, [.row 100001 1]), (100001, [.row 100002 1])], [(41, ⟨3, 1, 0, 0, 0, false, 0, [], (v.2.2.2.2.1.map e_i64)⟩), (43, ⟨60, 2, 0, 0, 0, false, 0, [], (v.2.2.2.2.2.1.map e_Trust)⟩), (59, ⟨103, 3, 0, 0, 0, false, 0, [], (v.2.2.2.2.2.2.1.map e_Wish)⟩), (20059, ⟨105, 3, 0, 0, 0, false, 0, [], (v.2.2.2.2.2.2.2.1.map e_Reply)⟩), (100000, ⟨50, 3, 0, rk, rc, rn, 0, [], (row.map e_Deed)⟩), (100001, ⟨3, 1, 1, rk1, rc1, rn1, 0, [], (v.2.2.2.2.2.2.2.2.2.1.map e_i64)⟩), (100002, ⟨22, 1, 1, rk2, rc2, rn2, 0, [], (v.2.2.2.2.2.2.2.2.2.2.map e_L_i64)⟩)], [], []⟩ : S)) (fun v => lease_run_v1_J1 v = some r) ?_ ?_
        · refine Wk_block ?_
          unfold lease_run_v1_L1 at hF
          refine Wk_nilrowB 37 6 60012 103 3 rfl rfl rfl rfl rfl ?_
          refine Wk_nilrowB 37 7 60013 105 3 rfl rfl rfl rfl rfl ?_
          refine Wk_trim (fs := [3, 8, 9, 11, 50, 51, 52]) (bs := [8, 9, 37, 100000, 100001]) (rs := [41, 43, 60012, 60013, 100000, 100001, 100002]) (ms := []) (aa := []) (nv := []) rfl ?_
          refine Wk_ren' ⟨[], [(60012, 59), (60013, 20059)], [], []⟩ rfl ?_
          refine Wk_trim (fs := [3, 8, 9, 11, 50, 51, 52]) (bs := [8, 9, 37, 100000, 100001]) (rs := [41, 43, 59, 20059, 100000, 100001, 100002]) (ms := []) (aa := []) (nv := [(59, ⟨0, true, false, false⟩), (20059, ⟨0, true, false, false⟩), (100001, ⟨1, true, true, false⟩), (100002, ⟨1, true, true, false⟩)]) (t := (fun v1 : List Int × List (List Int) × Int × Int × Int × Int × List Int × List Trust × List Wish × List Reply × Int × Int => (⟨[(3, .fn 57 [.ptr 100000 0, .ptr 100001 0]), (8, .ptr 8 0), (9, .ptr 9 0), (11, .ptr 37 0), (50, .row 100000 0), (51, .int .i64 (row.length : Int)), (52, .int .i64 v1.2.2.2.2.2.2.2.2.2.2.2)], [(8, [.int .i64 0, .int .i64 0, .int .i64 0, .int .i64 0, .nils, .nils, .nils, .nils]), (9, [.int .i64 0, .int .i64 0]), (37, [.int .i64 v1.2.2.1, .int .i64 v1.2.2.2.1, .int .i64 v1.2.2.2.2.1, .int .i64 v1.2.2.2.2.2.1, .row 41 0, .row 43 0, .row 59 0, .row 20059 0, .int .i64 v1.2.2.2.2.2.2.2.2.2.2.1]), (100000, [.row 100001 1]), (100001, [.row 100002 1])], [(41, ⟨3, 1, 0, 0, 0, false, 0, [], (v1.2.2.2.2.2.2.1.map e_i64)⟩), (43, ⟨60, 2, 0, 0, 0, false, 0, [], (v1.2.2.2.2.2.2.2.1.map e_Trust)⟩), (59, ⟨103, 3, 0, 0, 0, false, 0, [], (v1.2.2.2.2.2.2.2.2.1.map e_Wish)⟩), (20059, ⟨105, 3, 0, 0, 0, false, 0, [], (v1.2.2.2.2.2.2.2.2.2.1.map e_Reply)⟩), (100000, ⟨50, 3, 0, rk, rc, rn, 0, [], (row.map e_Deed)⟩), (100001, ⟨3, 1, 1, rk1, rc1, rn1, 0, [], (v1.1.map e_i64)⟩), (100002, ⟨22, 1, 1, rk2, rc2, rn2, 0, [], (v1.2.1.map e_L_i64)⟩)], [], []⟩ : S)) (row1, row2, 0, 0, 0, 0, (List.replicate clients.toNat (0 : Int)), (List.replicate clients.toNat ((⟨0, 0⟩ : Trust) : Trust)), ([] : List Wish), ([] : List Reply), span, 0)) (by kernel_rfl) ?_
          refine Wk_iter (step := fun y => lease_run_v1_B1 row y) (r := r) (fun v1 : List Int × List (List Int) × Int × Int × Int × Int × List Int × List Trust × List Wish × List Reply × Int × Int => (⟨[(3, .fn 57 [.ptr 100000 0, .ptr 100001 0]), (8, .ptr 8 0), (9, .ptr 9 0), (11, .ptr 37 0), (50, .row 100000 0), (51, .int .i64 (row.length : Int)), (52, .int .i64 v1.2.2.2.2.2.2.2.2.2.2.2)], [(8, [.int .i64 0, .int .i64 0, .int .i64 0, .int .i64 0, .nils, .nils, .nils, .nils]), (9, [.int .i64 0, .int .i64 0]), (37, [.int .i64 v1.2.2.1, .int .i64 v1.2.2.2.1, .int .i64 v1.2.2.2.2.1, .int .i64 v1.2.2.2.2.2.1, .row 41 0, .row 43 0, .row 59 0, .row 20059 0, .int .i64 v1.2.2.2.2.2.2.2.2.2.2.1]), (100000, [.row 100001 1]), (100001, [.row 100002 1])], [(41, ⟨3, 1, 0, 0, 0, false, 0, [], (v1.2.2.2.2.2.2.1.map e_i64)⟩), (43, ⟨60, 2, 0, 0, 0, false, 0, [], (v1.2.2.2.2.2.2.2.1.map e_Trust)⟩), (59, ⟨103, 3, 0, 0, 0, false, 0, [], (v1.2.2.2.2.2.2.2.2.1.map e_Wish)⟩), (20059, ⟨105, 3, 0, 0, 0, false, 0, [], (v1.2.2.2.2.2.2.2.2.2.1.map e_Reply)⟩), (100000, ⟨50, 3, 0, rk, rc, rn, 0, [], (row.map e_Deed)⟩), (100001, ⟨3, 1, 1, rk1, rc1, rn1, 0, [], (v1.1.map e_i64)⟩), (100002, ⟨22, 1, 1, rk2, rc2, rn2, 0, [], (v1.2.1.map e_L_i64)⟩)], [], []⟩ : S)) (row1, row2, 0, 0, 0, 0, (List.replicate clients.toNat (0 : Int)), (List.replicate clients.toNat ((⟨0, 0⟩ : Trust) : Trust)), ([] : List Wish), ([] : List Reply), span, 0) hF ?_
          intro n1 v1 y1 hF ih1 dn1
          have hF : lease_run_v1_B1 row v1 = some y1 := hF
          unfold lease_run_v1_B1 at hF
          refine Wk_seq ?_
          refine WR [] [3, 8, 9, 11, 50, 51, 52, 53] [8, 9, 37, 100000, 100001] [41, 43, 59, 20059, 100000, 100001, 100002] [] [] [] ⟨[(3, .fn 57 [.ptr 100000 0, .ptr 100001 0]), (8, .ptr 8 0), (9, .ptr 9 0), (11, .ptr 37 0), (50, .row 100000 0), (51, .int .i64 (row.length : Int)), (52, .int .i64 v1.2.2.2.2.2.2.2.2.2.2.2), (53, .bool (decide (v1.2.2.2.2.2.2.2.2.2.2.2 < (row.length : Int))))], [(8, [.int .i64 0, .int .i64 0, .int .i64 0, .int .i64 0, .nils, .nils, .nils, .nils]), (9, [.int .i64 0, .int .i64 0]), (37, [.int .i64 v1.2.2.1, .int .i64 v1.2.2.2.1, .int .i64 v1.2.2.2.2.1, .int .i64 v1.2.2.2.2.2.1, .row 41 0, .row 43 0, .row 59 0, .row 20059 0, .int .i64 v1.2.2.2.2.2.2.2.2.2.2.1]), (100000, [.row 100001 1]), (100001, [.row 100002 1])], [(41, ⟨3, 1, 0, 0, 0, false, 0, [], (v1.2.2.2.2.2.2.1.map e_i64)⟩), (43, ⟨60, 2, 0, 0, 0, false, 0, [], (v1.2.2.2.2.2.2.2.1.map e_Trust)⟩), (59, ⟨103, 3, 0, 0, 0, false, 0, [], (v1.2.2.2.2.2.2.2.2.1.map e_Wish)⟩), (20059, ⟨105, 3, 0, 0, 0, false, 0, [], (v1.2.2.2.2.2.2.2.2.2.1.map e_Reply)⟩), (100000, ⟨50, 3, 0, rk, rc, rn, 0, [], (row.map e_Deed)⟩), (100001, ⟨3, 1, 1, rk1, rc1, rn1, 0, [], (v1.1.map e_i64)⟩), (100002, ⟨22, 1, 1, rk2, rc2, rn2, 0, [], (v1.2.1.map e_L_i64)⟩)], [], []⟩ .nil (by kernel_rfl) ?_
          refine Wk_seq ?_
          refine Wk_split rfl (fun hb => ?_) (fun hb => ?_)
          · have hF := ite_t hF hb
            refine Wk_skip ?_
            refine Wk_seq ?_
            refine Wk_block ?_
            refine Wk_seq ?_
            obtain ⟨h5, hF⟩ := asrt_elim hF
            obtain ⟨h6, hF⟩ := asrt_elim hF
            refine WR [.av (e_Deed (lget row v1.2.2.2.2.2.2.2.2.2.2.2))] [3, 8, 9, 11, 12, 13, 50, 51, 52] [8, 9, 13, 37, 100000, 100001] [41, 43, 59, 20059, 100000, 100001, 100002] [] [] [] ⟨[(3, .fn 57 [.ptr 100000 0, .ptr 100001 0]), (8, .ptr 8 0), (9, .ptr 9 0), (11, .ptr 37 0), (12, .int .i64 v1.2.2.2.2.2.2.2.2.2.2.2), (13, .ptr 13 0), (50, .row 100000 0), (51, .int .i64 (row.length : Int)), (52, .int .i64 v1.2.2.2.2.2.2.2.2.2.2.2)], [(8, [.int .i64 0, .int .i64 0, .int .i64 0, .int .i64 0, .nils, .nils, .nils, .nils]), (9, [.int .i64 0, .int .i64 0]), (13, (c_Deed (lget row v1.2.2.2.2.2.2.2.2.2.2.2))), (37, [.int .i64 v1.2.2.1, .int .i64 v1.2.2.2.1, .int .i64 v1.2.2.2.2.1, .int .i64 v1.2.2.2.2.2.1, .row 41 0, .row 43 0, .row 59 0, .row 20059 0, .int .i64 v1.2.2.2.2.2.2.2.2.2.2.1]), (100000, [.row 100001 1]), (100001, [.row 100002 1])], [(41, ⟨3, 1, 0, 0, 0, false, 0, [], (v1.2.2.2.2.2.2.1.map e_i64)⟩), (43, ⟨60, 2, 0, 0, 0, false, 0, [], (v1.2.2.2.2.2.2.2.1.map e_Trust)⟩), (59, ⟨103, 3, 0, 0, 0, false, 0, [], (v1.2.2.2.2.2.2.2.2.1.map e_Wish)⟩), (20059, ⟨105, 3, 0, 0, 0, false, 0, [], (v1.2.2.2.2.2.2.2.2.2.1.map e_Reply)⟩), (100000, ⟨50, 3, 0, rk, rc, rn, 0, [], (row.map e_Deed)⟩), (100001, ⟨3, 1, 1, rk1, rc1, rn1, 0, [], (v1.1.map e_i64)⟩), (100002, ⟨22, 1, 1, rk2, rc2, rn2, 0, [], (v1.2.1.map e_L_i64)⟩)], [], []⟩ (.cons (ixr_ok e_Deed h5) (.cons (ldr_ok e_Deed h6) .nil)) (by kernel_rfl) ?_
            refine Wk_seq ?_
            refine Wk_seq ?_
            obtain ⟨x3, h7, hF⟩ := ob_elim hF
            refine WR [.callE [37] [41, 43, 59, 20059] [] [] (.int .i64 x3.1) ⟨[], [(37, [.int .i64 x3.2.1, .int .i64 x3.2.2.1, .int .i64 x3.2.2.2.1, .int .i64 x3.2.2.2.2.1, .row 41 0, .row 43 0, .row 59 1, .row 20059 1, .int .i64 x3.2.2.2.2.2.2.2.2.2])], [(41, ⟨3, 1, 0, 0, 0, false, 0, [], (x3.2.2.2.2.2.1.map e_i64)⟩), (43, ⟨60, 2, 0, 0, 0, false, 0, [], (x3.2.2.2.2.2.2.1.map e_Trust)⟩), (59, ⟨103, 3, 1, 0, 0, false, 0, [], (x3.2.2.2.2.2.2.2.1.map e_Wish)⟩), (20059, ⟨105, 3, 1, 0, 0, false, 0, [], (x3.2.2.2.2.2.2.2.2.1.map e_Reply)⟩)], [], []⟩] [3, 8, 9, 11, 12, 14, 50, 51, 52] [8, 9, 37, 100000, 100001] [41, 43, 59, 20059, 100000, 100001, 100002] [] [] [] ⟨[(3, .fn 57 [.ptr 100000 0, .ptr 100001 0]), (8, .ptr 8 0), (9, .ptr 9 0), (11, .ptr 37 0), (12, .int .i64 v1.2.2.2.2.2.2.2.2.2.2.2), (14, .int .i64 x3.1), (50, .row 100000 0), (51, .int .i64 (row.length : Int)), (52, .int .i64 v1.2.2.2.2.2.2.2.2.2.2.2)], [(8, [.int .i64 0, .int .i64 0, .int .i64 0, .int .i64 0, .nils, .nils, .nils, .nils]), (9, [.int .i64 0, .int .i64 0]), (37, [.int .i64 x3.2.1, .int .i64 x3.2.2.1, .int .i64 x3.2.2.2.1, .int .i64 x3.2.2.2.2.1, .row 41 0, .row 43 0, .row 59 1, .row 20059 1, .int .i64 x3.2.2.2.2.2.2.2.2.2]), (100000, [.row 100001 1]), (100001, [.row 100002 1])], [(41, ⟨3, 1, 0, 0, 0, false, 0, [], (x3.2.2.2.2.2.1.map e_i64)⟩), (43, ⟨60, 2, 0, 0, 0, false, 0, [], (x3.2.2.2.2.2.2.1.map e_Trust)⟩), (59, ⟨103, 3, 1, 0, 0, false, 0, [], (x3.2.2.2.2.2.2.2.1.map e_Wish)⟩), (20059, ⟨105, 3, 1, 0, 0, false, 0, [], (x3.2.2.2.2.2.2.2.2.1.map e_Reply)⟩), (100000, ⟨50, 3, 0, rk, rc, rn, 0, [], (row.map e_Deed)⟩), (100001, ⟨3, 1, 1, rk1, rc1, rn1, 0, [], (v1.1.map e_i64)⟩), (100002, ⟨22, 1, 1, rk2, rc2, rn2, 0, [], (v1.2.1.map e_L_i64)⟩)], [], []⟩ (.cons (Pe.ren (lease_court_does_v1_ok (⟨(lget row v1.2.2.2.2.2.2.2.2.2.2.2).Kind, (lget row v1.2.2.2.2.2.2.2.2.2.2.2).Who, (lget row v1.2.2.2.2.2.2.2.2.2.2.2).N⟩ : Deed) v1.2.2.1 v1.2.2.2.1 v1.2.2.2.2.1 v1.2.2.2.2.2.1 v1.2.2.2.2.2.2.2.2.2.2.1 v1.2.2.2.2.2.2.1 v1.2.2.2.2.2.2.2.1 v1.2.2.2.2.2.2.2.2.1 v1.2.2.2.2.2.2.2.2.2.1 0 0 false 0 0 false 0 0 false 0 0 false x3 h7) ⟨[(100000, 37)], [(100000, 41), (100001, 43), (100002, 59), (100003, 20059)], [], []⟩) .nil) (by kernel_rfl) ?_
            refine Wk_seq ?_
            refine WR [] [3, 8, 9, 11, 12, 14, 50, 51, 52, 61] [8, 9, 37, 100000, 100001] [41, 43, 59, 20059, 100000, 100001, 100002] [] [] [] ⟨[(3, .fn 57 [.ptr 100000 0, .ptr 100001 0]), (8, .ptr 8 0), (9, .ptr 9 0), (11, .ptr 37 0), (12, .int .i64 v1.2.2.2.2.2.2.2.2.2.2.2), (14, .int .i64 x3.1), (50, .row 100000 0), (51, .int .i64 (row.length : Int)), (52, .int .i64 v1.2.2.2.2.2.2.2.2.2.2.2), (61, .bool (!decide (x3.1 = 0)))], [(8, [.int .i64 0, .int .i64 0, .int .i64 0, .int .i64 0, .nils, .nils, .nils, .nils]), (9, [.int .i64 0, .int .i64 0]), (37, [.int .i64 x3.2.1, .int .i64 x3.2.2.1, .int .i64 x3.2.2.2.1, .int .i64 x3.2.2.2.2.1, .row 41 0, .row 43 0, .row 59 1, .row 20059 1, .int .i64 x3.2.2.2.2.2.2.2.2.2]), (100000, [.row 100001 1]), (100001, [.row 100002 1])], [(41, ⟨3, 1, 0, 0, 0, false, 0, [], (x3.2.2.2.2.2.1.map e_i64)⟩), (43, ⟨60, 2, 0, 0, 0, false, 0, [], (x3.2.2.2.2.2.2.1.map e_Trust)⟩), (59, ⟨103, 3, 1, 0, 0, false, 0, [], (x3.2.2.2.2.2.2.2.1.map e_Wish)⟩), (20059, ⟨105, 3, 1, 0, 0, false, 0, [], (x3.2.2.2.2.2.2.2.2.1.map e_Reply)⟩), (100000, ⟨50, 3, 0, rk, rc, rn, 0, [], (row.map e_Deed)⟩), (100001, ⟨3, 1, 1, rk1, rc1, rn1, 0, [], (v1.1.map e_i64)⟩), (100002, ⟨22, 1, 1, rk2, rc2, rn2, 0, [], (v1.2.1.map e_L_i64)⟩)], [], []⟩ .nil (by kernel_rfl) ?_
            refine Wk_split rfl (fun hb => ?_) (fun hb => ?_)
            · have hF := ite_t hF hb
              refine Wk_seq ?_
              obtain ⟨x4, h8, hF⟩ := lt_split hF
              refine WR [.callB (.agg [.int .i64 x4.Code, .int .i64 x4.At])] [8, 9] [8, 9, 100000, 100001] [100000, 100001, 100002] [] [] [] ⟨[(8, .ptr 8 0), (9, .ptr 9 0)], [(8, [.int .i64 0, .int .i64 0, .int .i64 0, .int .i64 0, .nils, .nils, .nils, .nils]), (9, [.int .i64 x4.Code, .int .i64 x4.At]), (100000, [.row 100001 1]), (100001, [.row 100002 1])], [(100000, ⟨50, 3, 0, rk, rc, rn, 0, [], (row.map e_Deed)⟩), (100001, ⟨3, 1, 1, rk1, rc1, rn1, 0, [], (v1.1.map e_i64)⟩), (100002, ⟨22, 1, 1, rk2, rc2, rn2, 0, [], (v1.2.1.map e_L_i64)⟩)], [], []⟩ (.cons (lease_fault_ok x3.1 v1.2.2.2.2.2.2.2.2.2.2.2 x4 h8) .nil) (by kernel_rfl) ?_
              have hF := ret_done hF dn1
              have hF := some_elim hF
              refine Wk_nilrowB 8 4 60014 3 1 rfl rfl rfl rfl rfl ?_
              refine Wk_nilrowB 8 5 60015 60 2 rfl rfl rfl rfl rfl ?_
              refine Wk_nilrowB 8 6 60016 103 3 rfl rfl rfl rfl rfl ?_
              refine Wk_nilrowB 8 7 60017 105 3 rfl rfl rfl rfl rfl ?_
              refine Wk_ren' ⟨[], [(60014, 41), (60015, 43), (60016, 59), (60017, 20059)], [], []⟩ rfl ?_
              exact Wk_ret (hfin _ ⟨[100000, 100001, 100002, 41, 43, 59, 20059], [100000, 100001], [100000, 100001, 100002, 41, 43, 59, 20059], [], [], [(41, ⟨0, true, false, false⟩), (43, ⟨0, true, false, false⟩), (59, ⟨0, true, false, false⟩), (20059, ⟨0, true, false, false⟩)], by first | (rw [← hF]; kernel_rfl) | kernel_rfl⟩)
            · have hF := ite_f hF hb
              refine Wk_skip ?_
              obtain ⟨x5, h9, hF⟩ := ob_elim hF
              refine WR [.callE [37, 100000, 100001] [41, 43, 59, 20059, 100001, 100002] [] [] (.tup []) ⟨[], [(37, [.int .i64 x3.2.1, .int .i64 x3.2.2.1, .int .i64 x3.2.2.2.1, .int .i64 x3.2.2.2.2.1, .row 41 0, .row 43 0, .row 59 1, .row 20059 1, .int .i64 x3.2.2.2.2.2.2.2.2.2]), (100000, [.row 100001 2]), (100001, [.row 100002 2])], [(41, ⟨3, 1, 0, 0, 0, false, 0, [], (x3.2.2.2.2.2.1.map e_i64)⟩), (43, ⟨60, 2, 0, 0, 0, false, 0, [], (x3.2.2.2.2.2.2.1.map e_Trust)⟩), (59, ⟨103, 3, 1, 0, 0, false, 0, [], (x3.2.2.2.2.2.2.2.1.map e_Wish)⟩), (20059, ⟨105, 3, 1, 0, 0, false, 0, [], (x3.2.2.2.2.2.2.2.2.1.map e_Reply)⟩), (100001, ⟨3, 1, 2, rk1, rc1, rn1, 0, [], (x5.1.map e_i64)⟩), (100002, ⟨22, 1, 2, rk2, rc2, rn2, 0, [], (x5.2.map e_L_i64)⟩)], [], []⟩] [3, 8, 9, 11, 50, 51, 52] [8, 9, 37, 100000, 100001] [41, 43, 59, 20059, 100000, 100001, 100002] [] [] [] ⟨[(3, .fn 57 [.ptr 100000 0, .ptr 100001 0]), (8, .ptr 8 0), (9, .ptr 9 0), (11, .ptr 37 0), (50, .row 100000 0), (51, .int .i64 (row.length : Int)), (52, .int .i64 v1.2.2.2.2.2.2.2.2.2.2.2)], [(8, [.int .i64 0, .int .i64 0, .int .i64 0, .int .i64 0, .nils, .nils, .nils, .nils]), (9, [.int .i64 0, .int .i64 0]), (37, [.int .i64 x3.2.1, .int .i64 x3.2.2.1, .int .i64 x3.2.2.2.1, .int .i64 x3.2.2.2.2.1, .row 41 0, .row 43 0, .row 59 1, .row 20059 1, .int .i64 x3.2.2.2.2.2.2.2.2.2]), (100000, [.row 100001 2]), (100001, [.row 100002 2])], [(41, ⟨3, 1, 0, 0, 0, false, 0, [], (x3.2.2.2.2.2.1.map e_i64)⟩), (43, ⟨60, 2, 0, 0, 0, false, 0, [], (x3.2.2.2.2.2.2.1.map e_Trust)⟩), (59, ⟨103, 3, 1, 0, 0, false, 0, [], (x3.2.2.2.2.2.2.2.1.map e_Wish)⟩), (20059, ⟨105, 3, 1, 0, 0, false, 0, [], (x3.2.2.2.2.2.2.2.2.1.map e_Reply)⟩), (100000, ⟨50, 3, 0, rk, rc, rn, 0, [], (row.map e_Deed)⟩), (100001, ⟨3, 1, 2, rk1, rc1, rn1, 0, [], (x5.1.map e_i64)⟩), (100002, ⟨22, 1, 2, rk2, rc2, rn2, 0, [], (x5.2.map e_L_i64)⟩)], [], []⟩ (.cons (Pe.ren (lease_Fair_1_ok x3.2.1 x3.2.2.1 x3.2.2.2.1 x3.2.2.2.2.1 x3.2.2.2.2.2.2.2.2.2 x3.2.2.2.2.2.1 x3.2.2.2.2.2.2.1 x3.2.2.2.2.2.2.2.1 x3.2.2.2.2.2.2.2.2.1 v1.1 v1.2.1 0 0 false 0 0 false 0 0 false 0 0 false rk1 rc1 rn1 rk2 rc2 rn2 x5 h9) ⟨[(100000, 37), (100001, 100000), (100002, 100001)], [(100000, 41), (100001, 43), (100002, 59), (100003, 20059), (100004, 100001), (100005, 100002)], [], [(100002, 1), (100003, 1), (100004, 1), (100005, 1)]⟩) .nil) (by kernel_rfl) ?_
              refine Wk_blk ?_
              refine WR [] [3, 8, 9, 11, 50, 51, 52] [8, 9, 37, 100000, 100001] [41, 43, 59, 20059, 100000, 100001, 100002] [] [] [] ⟨[(3, .fn 57 [.ptr 100000 0, .ptr 100001 0]), (8, .ptr 8 0), (9, .ptr 9 0), (11, .ptr 37 0), (50, .row 100000 0), (51, .int .i64 (row.length : Int)), (52, .int .i64 (w64 (v1.2.2.2.2.2.2.2.2.2.2.2 + 1)))], [(8, [.int .i64 0, .int .i64 0, .int .i64 0, .int .i64 0, .nils, .nils, .nils, .nils]), (9, [.int .i64 0, .int .i64 0]), (37, [.int .i64 x3.2.1, .int .i64 x3.2.2.1, .int .i64 x3.2.2.2.1, .int .i64 x3.2.2.2.2.1, .row 41 0, .row 43 0, .row 59 1, .row 20059 1, .int .i64 x3.2.2.2.2.2.2.2.2.2]), (100000, [.row 100001 2]), (100001, [.row 100002 2])], [(41, ⟨3, 1, 0, 0, 0, false, 0, [], (x3.2.2.2.2.2.1.map e_i64)⟩), (43, ⟨60, 2, 0, 0, 0, false, 0, [], (x3.2.2.2.2.2.2.1.map e_Trust)⟩), (59, ⟨103, 3, 1, 0, 0, false, 0, [], (x3.2.2.2.2.2.2.2.1.map e_Wish)⟩), (20059, ⟨105, 3, 1, 0, 0, false, 0, [], (x3.2.2.2.2.2.2.2.2.1.map e_Reply)⟩), (100000, ⟨50, 3, 0, rk, rc, rn, 0, [], (row.map e_Deed)⟩), (100001, ⟨3, 1, 2, rk1, rc1, rn1, 0, [], (x5.1.map e_i64)⟩), (100002, ⟨22, 1, 2, rk2, rc2, rn2, 0, [], (x5.2.map e_L_i64)⟩)], [], []⟩ .nil (by kernel_rfl) ?_
              refine Wk_trim (fs := [3, 8, 9, 11, 50, 51, 52]) (bs := [8, 9, 37, 100000, 100001]) (rs := [41, 43, 59, 20059, 100000, 100001, 100002]) (ms := []) (aa := []) (nv := [(59, ⟨0, true, true, false⟩), (20059, ⟨0, true, true, false⟩), (100001, ⟨1, true, true, false⟩), (100002, ⟨1, true, true, false⟩)]) ?_ (ih1 _ (some_elim hF).symm)
              kernel_rfl
          · have hF := ite_f hF hb
            refine Wk_exit rfl ?_
            have hF := inrO_done hF dn1
            exact Wk_metP (v1.2.2.1, v1.2.2.2.1, v1.2.2.2.2.1, v1.2.2.2.2.2.1, v1.2.2.2.2.2.2.1, v1.2.2.2.2.2.2.2.1, v1.2.2.2.2.2.2.2.2.1, v1.2.2.2.2.2.2.2.2.2.1, v1.2.2.2.2.2.2.2.2.2.2.1, v1.1, v1.2.1) [8, 9, 11] [8, 9, 37, 100000, 100001] [41, 43, 59, 20059, 100000, 100001, 100002] [] [] [] hF (by kernel_rfl)
        · intro v hF
          have hF : lease_run_v1_J1 v = some r := hF
          unfold lease_run_v1_J1 at hF
          refine Wk_seq ?_
          refine WR [] [8, 9] [8, 9, 100000, 100001] [41, 43, 59, 20059, 100000, 100001, 100002] [] [] [] ⟨[(8, .ptr 8 0), (9, .ptr 9 0)], [(8, [.int .i64 v.1, .int .i64 v.2.1, .int .i64 v.2.2.1, .int .i64 v.2.2.2.1, .row 41 0, .row 43 0, .row 59 0, .row 20059 0]), (9, [.int .i64 0, .int .i64 0]), (100000, [.row 100001 1]), (100001, [.row 100002 1])], [(41, ⟨3, 1, 0, 0, 0, false, 0, [], (v.2.2.2.2.1.map e_i64)⟩), (43, ⟨60, 2, 0, 0, 0, false, 0, [], (v.2.2.2.2.2.1.map e_Trust)⟩), (59, ⟨103, 3, 0, 0, 0, false, 0, [], (v.2.2.2.2.2.2.1.map e_Wish)⟩), (20059, ⟨105, 3, 0, 0, 0, false, 0, [], (v.2.2.2.2.2.2.2.1.map e_Reply)⟩), (100000, ⟨50, 3, 0, rk, rc, rn, 0, [], (row.map e_Deed)⟩), (100001, ⟨3, 1, 1, rk1, rc1, rn1, 0, [], (v.2.2.2.2.2.2.2.2.2.1.map e_i64)⟩), (100002, ⟨22, 1, 1, rk2, rc2, rn2, 0, [], (v.2.2.2.2.2.2.2.2.2.2.map e_L_i64)⟩)], [], []⟩ .nil (by kernel_rfl) ?_
          have hF := some_elim hF
          exact Wk_ret (hfin _ ⟨[100000, 100001, 100002, 41, 43, 59, 20059], [100000, 100001], [100000, 100001, 100002, 41, 43, 59, 20059], [], [], [], by first | (rw [← hF]; kernel_rfl) | kernel_rfl⟩)

/- lease.Fair -/
noncomputable def lease_Fair_J1 (x : Int × Int × Int × Int × List Int × List Trust × List Wish × List Reply × Fault × List Int × List (List Int)) (v1 : Unit) : Option (Bool × Fault) :=
  some (true, x.2.2.2.2.2.2.2.2.1)
noncomputable def lease_Fair_J3 (v2 : Int × Int) (v3 : Int) (v4 : Unit) : Option ((Int × Int) ⊕ (Bool × Fault)) :=
  some (Sum.inl (v3, w64 (v2.2 + 1)))
noncomputable def lease_Fair_B2 (span : Int) (x : Int × Int × Int × Int × List Int × List Trust × List Wish × List Reply × Fault × List Int × List (List Int)) (v2 : Int × Int) (v3 : Int) (v5 : Int) : Option (Int ⊕ ((Int × Int) ⊕ (Bool × Fault))) :=
  if (decide (v5 < ((lget x.2.2.2.2.2.2.2.2.2.2 v2.2).length : Int))) = true then
    asrt (0 ≤ v3 ∧ v3 < (x.2.2.2.2.2.2.2.2.2.2.length : Int)) <|
    asrt (0 ≤ v3 ∧ v3 < (x.2.2.2.2.2.2.2.2.2.2.length : Int)) <|
    asrt (0 ≤ v5 ∧ v5 < ((lget x.2.2.2.2.2.2.2.2.2.2 v3).length : Int)) <|
    asrt (0 ≤ v2.2 ∧ v2.2 < (x.2.2.2.2.2.2.2.2.2.2.length : Int)) <|
    asrt (0 ≤ v2.2 ∧ v2.2 < (x.2.2.2.2.2.2.2.2.2.2.length : Int)) <|
    asrt (0 ≤ v5 ∧ v5 < ((lget x.2.2.2.2.2.2.2.2.2.2 v2.2).length : Int)) <|
    lt (lease_sure span) fun x1 =>
    if (decide ((w64 ((lget (lget x.2.2.2.2.2.2.2.2.2.2 v3) v5) - (lget (lget x.2.2.2.2.2.2.2.2.2.2 v2.2) v5))) < x1)) = true then
      some (Sum.inr (Sum.inr (false, x.2.2.2.2.2.2.2.2.1)))
    else
      some (Sum.inl (w64 (v5 + 1)))
  else
    inrO (lease_Fair_J3 v2 v3 ())
noncomputable def lease_Fair_L2 (span : Int) (x : Int × Int × Int × Int × List Int × List Trust × List Wish × List Reply × Fault × List Int × List (List Int)) (v2 : Int × Int) (v3 : Int) (v0 : Int) : Option ((Int × Int) ⊕ (Bool × Fault)) :=
  loopO (fun y => lease_Fair_B2 span x v2 v3 y) v0
noncomputable def lease_Fair_J2 (span : Int) (x : Int × Int × Int × Int × List Int × List Trust × List Wish × List Reply × Fault × List Int × List (List Int)) (v2 : Int × Int) (v3 : Int) : Option ((Int × Int) ⊕ (Bool × Fault)) :=
  if (decide (v3 = (x.2.2.2.2.2.2.2.2.2.1.length : Int))) = true then
    inrO (lease_Fair_J1 x ())
  else
    asrt (0 ≤ v2.2 ∧ v2.2 < (x.2.2.2.2.2.2.2.2.2.2.length : Int)) <|
    asrt (0 ≤ v2.2 ∧ v2.2 < (x.2.2.2.2.2.2.2.2.2.2.length : Int)) <|
    lease_Fair_L2 span x v2 v3 0
noncomputable def lease_Fair_B3 (span : Int) (x : Int × Int × Int × Int × List Int × List Trust × List Wish × List Reply × Fault × List Int × List (List Int)) (v2 : Int × Int) (v6 : Int) : Option (Int ⊕ ((Int × Int) ⊕ (Bool × Fault))) :=
  asrt ((decide (v6 < (x.2.2.2.2.2.2.2.2.2.1.length : Int))) = true → 0 ≤ v6 ∧ v6 < (x.2.2.2.2.2.2.2.2.2.1.length : Int)) <|
  asrt ((decide (v6 < (x.2.2.2.2.2.2.2.2.2.1.length : Int))) = true → 0 ≤ v6 ∧ v6 < (x.2.2.2.2.2.2.2.2.2.1.length : Int)) <|
  asrt ((decide (v6 < (x.2.2.2.2.2.2.2.2.2.1.length : Int))) = true → 0 ≤ v2.2 ∧ v2.2 < (x.2.2.2.2.2.2.2.2.2.1.length : Int)) <|
  asrt ((decide (v6 < (x.2.2.2.2.2.2.2.2.2.1.length : Int))) = true → 0 ≤ v2.2 ∧ v2.2 < (x.2.2.2.2.2.2.2.2.2.1.length : Int)) <|
  if ((decide (v6 < (x.2.2.2.2.2.2.2.2.2.1.length : Int))) && (decide ((lget x.2.2.2.2.2.2.2.2.2.1 v6) < (w64 ((lget x.2.2.2.2.2.2.2.2.2.1 v2.2) + span))))) = true then
    some (Sum.inl (w64 (v6 + 1)))
  else
    inrO (lease_Fair_J2 span x v2 v6)
noncomputable def lease_Fair_L3 (span : Int) (x : Int × Int × Int × Int × List Int × List Trust × List Wish × List Reply × Fault × List Int × List (List Int)) (v2 : Int × Int) (v0 : Int) : Option ((Int × Int) ⊕ (Bool × Fault)) :=
  loopO (fun y => lease_Fair_B3 span x v2 y) v0
noncomputable def lease_Fair_B1 (span : Int) (x : Int × Int × Int × Int × List Int × List Trust × List Wish × List Reply × Fault × List Int × List (List Int)) (v2 : Int × Int) : Option ((Int × Int) ⊕ (Bool × Fault)) :=
  if (decide (v2.2 < (x.2.2.2.2.2.2.2.2.2.1.length : Int))) = true then
    lease_Fair_L3 span x v2 v2.1
  else
    inrO (lease_Fair_J1 x ())
noncomputable def lease_Fair_L1 (span : Int) (x : Int × Int × Int × Int × List Int × List Trust × List Wish × List Reply × Fault × List Int × List (List Int)) (v0 : Int × Int) : Option (Bool × Fault) :=
  loopO (fun y => lease_Fair_B1 span x y) v0
noncomputable def lease_Fair (span : Int) (clients : Int) (row : List Deed) : Option (Bool × Fault) :=
  asrt (0 ≤ ((max 0 (min clients 8)) : Int) ∧ (max 0 (min clients 8)) ≤ (max 0 (min clients 8)) ∧ (max 0 (min clients 8)) * 8 ≤ 140737488351232) <|
  lt (([(List.replicate (max 0 (min clients 8)).toNat (0 : Int))] : List (List Int))) fun (v : List (List Int)) =>
  ob (lease_run_v1 span clients row ([0] : List Int) v) fun x =>
  if (!decide (x.2.2.2.2.2.2.2.2.1.Code = 0)) = true then
    some (false, x.2.2.2.2.2.2.2.2.1)
  else
    lease_Fair_L1 span x (0, 0)
theorem lease_Fair_ok (span : Int) (clients : Int) (row : List Deed) (rk : Nat) (rc : Nat) (rn : Bool) (r : Bool × Fault) (hF : lease_Fair span clients row = some r) : Pe Try.prog 23 ⟨[], [], [(100000, ⟨50, 3, 0, rk, rc, rn, 0, [], (row.map e_Deed)⟩)], [], []⟩ [.int .i64 span, .int .i64 clients, .row 100000 0] (.tup [.bool r.1, .agg [.int .i64 r.2.Code, .int .i64 r.2.At]]) ⟨[], [], [(100000, ⟨50, 3, 0, rk, rc, rn, 0, [], (row.map e_Deed)⟩)], [], []⟩ := by
  refine Pe_of (N := 91) (res := [.tmp 6, .cell 7 25]) (ts := [4, 25]) Ty.ok Fn.b23 Try.func23 rfl rfl rfl rfl rfl rfl ?_
  intro Q g hfin
  unfold lease_Fair at hF
  refine Wk_seq ?_
  refine WR [] [0, 1, 2, 7] [7] [100000] [] [] [] ⟨[(0, .int .i64 span), (1, .int .i64 clients), (2, .row 100000 0), (7, .ptr 7 0)], [(7, [.int .i64 0, .int .i64 0])], [(100000, ⟨50, 3, 0, rk, rc, rn, 0, [], (row.map e_Deed)⟩)], [], []⟩ .nil (by kernel_rfl) ?_
  refine Wk_seq ?_
  refine WR [] [0, 1, 2, 7, 8] [7, 8] [15, 100000] [] [] [] ⟨[(0, .int .i64 span), (1, .int .i64 clients), (2, .row 100000 0), (7, .ptr 7 0), (8, .ptr 8 0)], [(7, [.int .i64 0, .int .i64 0]), (8, [.row 15 0])], [(15, ⟨3, 1, 0, 0, 0, true, 0, [], (([0] : List Int).map e_i64)⟩), (100000, ⟨50, 3, 0, rk, rc, rn, 0, [], (row.map e_Deed)⟩)], [], []⟩ .nil (by kernel_rfl) ?_
  refine Wk_seq ?_
  obtain ⟨h0, hF⟩ := asrt_elim hF
  refine WRL (([(List.replicate (max 0 (min clients 8)).toNat (0 : Int))] : List (List Int))) (fun v : List (List Int) => ⟨[(0, .int .i64 span), (1, .int .i64 clients), (2, .row 100000 0), (7, .ptr 7 0), (8, .ptr 8 0), (9, .ptr 9 0)], [(7, [.int .i64 0, .int .i64 0]), (8, [.row 15 0]), (9, [.row 20 0])], [(15, ⟨3, 1, 0, 0, 0, true, 0, [], (([0] : List Int).map e_i64)⟩), (20, ⟨22, 1, 0, 0, 0, true, 0, [], (v.map e_L_i64)⟩), (100000, ⟨50, 3, 0, rk, rc, rn, 0, [], (row.map e_Deed)⟩)], [], []⟩) [.xs ((List.replicate (max 0 (min clients 8)).toNat (0 : Int)).map e_i64)] [0, 1, 2, 7, 8, 9] [7, 8, 9] [15, 20, 100000] [] [] [] (.cons (mk_ok h0) (.cons (rep_ok e_i64 (max 0 (min clients 8)) (0 : Int)) .nil)) (by kernel_rfl) (fun v hv => ?_)
  have hF := lt_elim hF hv
  refine Wk_seq ?_
  obtain ⟨x, h1, hF⟩ := ob_elim hF
  refine WR [.callE [8, 9] [100000, 15, 20] [] [] (.tup [.agg [.int .i64 x.1, .int .i64 x.2.1, .int .i64 x.2.2.1, .int .i64 x.2.2.2.1, .row 26 0, .row 20026 0, .row 40026 0, .row 60026 0], .agg [.int .i64 x.2.2.2.2.2.2.2.2.1.Code, .int .i64 x.2.2.2.2.2.2.2.2.1.At]]) ⟨[], [(8, [.row 15 1]), (9, [.row 20 1])], [(100000, ⟨50, 3, 0, rk, rc, rn, 0, [], (row.map e_Deed)⟩), (15, ⟨3, 1, 1, 0, 0, true, 0, [], (x.2.2.2.2.2.2.2.2.2.1.map e_i64)⟩), (20, ⟨22, 1, 1, 0, 0, true, 0, [], (x.2.2.2.2.2.2.2.2.2.2.map e_L_i64)⟩), (26, ⟨3, 1, 0, 0, 0, false, 0, [], (x.2.2.2.2.1.map e_i64)⟩), (20026, ⟨60, 2, 0, 0, 0, false, 0, [], (x.2.2.2.2.2.1.map e_Trust)⟩), (40026, ⟨103, 3, 0, 0, 0, false, 0, [], (x.2.2.2.2.2.2.1.map e_Wish)⟩), (60026, ⟨105, 3, 0, 0, 0, false, 0, [], (x.2.2.2.2.2.2.2.1.map e_Reply)⟩)], [], []⟩] [0, 7, 8, 9, 11] [7, 8, 9, 11] [15, 20, 100000] [] [] [] ⟨[(0, .int .i64 span), (7, .ptr 7 0), (8, .ptr 8 0), (9, .ptr 9 0), (11, .ptr 11 0)], [(7, [.int .i64 0, .int .i64 0]), (8, [.row 15 1]), (9, [.row 20 1]), (11, [.int .i64 x.2.2.2.2.2.2.2.2.1.Code, .int .i64 x.2.2.2.2.2.2.2.2.1.At])], [(15, ⟨3, 1, 1, 0, 0, true, 0, [], (x.2.2.2.2.2.2.2.2.2.1.map e_i64)⟩), (20, ⟨22, 1, 1, 0, 0, true, 0, [], (x.2.2.2.2.2.2.2.2.2.2.map e_L_i64)⟩), (100000, ⟨50, 3, 0, rk, rc, rn, 0, [], (row.map e_Deed)⟩)], [], []⟩ (.cons (Pe.ren (lease_run_v1_ok span clients row ([0] : List Int) v rk rc rn 0 0 true 0 0 true x h1) ⟨[(100000, 8), (100001, 9)], [(100001, 15), (100002, 20), (41, 26), (43, 20026), (59, 40026), (20059, 60026)], [], []⟩) .nil) (by kernel_rfl) ?_
  refine Wk_seq ?_
  refine Wk_seq ?_
  refine WR [] [0, 7, 8, 9, 11, 31] [7, 8, 9, 11] [15, 20, 100000] [] [] [] ⟨[(0, .int .i64 span), (7, .ptr 7 0), (8, .ptr 8 0), (9, .ptr 9 0), (11, .ptr 11 0), (31, .bool (!decide (x.2.2.2.2.2.2.2.2.1.Code = 0)))], [(7, [.int .i64 0, .int .i64 0]), (8, [.row 15 1]), (9, [.row 20 1]), (11, [.int .i64 x.2.2.2.2.2.2.2.2.1.Code, .int .i64 x.2.2.2.2.2.2.2.2.1.At])], [(15, ⟨3, 1, 1, 0, 0, true, 0, [], (x.2.2.2.2.2.2.2.2.2.1.map e_i64)⟩), (20, ⟨22, 1, 1, 0, 0, true, 0, [], (x.2.2.2.2.2.2.2.2.2.2.map e_L_i64)⟩), (100000, ⟨50, 3, 0, rk, rc, rn, 0, [], (row.map e_Deed)⟩)], [], []⟩ .nil (by kernel_rfl) ?_
  refine Wk_split rfl (fun hb => ?_) (fun hb => ?_)
  · have hF := ite_t hF hb
    refine Wk_seq ?_
    refine WD [] [6, 7] [7] [100000] [] [] [] ⟨[(6, .bool false), (7, .ptr 7 0)], [(7, [.int .i64 x.2.2.2.2.2.2.2.2.1.Code, .int .i64 x.2.2.2.2.2.2.2.2.1.At])], [(100000, ⟨50, 3, 0, rk, rc, rn, 0, [], (row.map e_Deed)⟩)], [], []⟩ .nil (by kernel_rfl) ?_
    have hF := some_elim hF
    exact Wk_ret (hfin _ ⟨[100000], [], [100000], [], [], [], by first | (rw [← hF]; kernel_rfl) | kernel_rfl⟩)
  · have hF := ite_f hF hb
    refine Wk_skip ?_
    refine Wk_seq ?_
    refine WR [] [0, 7, 8, 9, 11, 12] [7, 8, 9, 11] [15, 20, 100000] [] [] [] ⟨[(0, .int .i64 span), (7, .ptr 7 0), (8, .ptr 8 0), (9, .ptr 9 0), (11, .ptr 11 0), (12, .int .i64 0)], [(7, [.int .i64 0, .int .i64 0]), (8, [.row 15 1]), (9, [.row 20 1]), (11, [.int .i64 x.2.2.2.2.2.2.2.2.1.Code, .int .i64 x.2.2.2.2.2.2.2.2.1.At])], [(15, ⟨3, 1, 1, 0, 0, true, 0, [], (x.2.2.2.2.2.2.2.2.2.1.map e_i64)⟩), (20, ⟨22, 1, 1, 0, 0, true, 0, [], (x.2.2.2.2.2.2.2.2.2.2.map e_L_i64)⟩), (100000, ⟨50, 3, 0, rk, rc, rn, 0, [], (row.map e_Deed)⟩)], [], []⟩ .nil (by kernel_rfl) ?_
    refine Wk_seq ?_
    refine Wk_seq ?_
    refine WR [.nat (x.2.2.2.2.2.2.2.2.2.1.length : Int)] [0, 7, 8, 9, 11, 12, 34, 35] [7, 8, 9, 11] [15, 20, 100000] [] [] [] ⟨[(0, .int .i64 span), (7, .ptr 7 0), (8, .ptr 8 0), (9, .ptr 9 0), (11, .ptr 11 0), (12, .int .i64 0), (34, .int .i64 (x.2.2.2.2.2.2.2.2.2.1.length : Int)), (35, .int .i64 0)], [(7, [.int .i64 0, .int .i64 0]), (8, [.row 15 1]), (9, [.row 20 1]), (11, [.int .i64 x.2.2.2.2.2.2.2.2.1.Code, .int .i64 x.2.2.2.2.2.2.2.2.1.At])], [(15, ⟨3, 1, 1, 0, 0, true, 0, [], (x.2.2.2.2.2.2.2.2.2.1.map e_i64)⟩), (20, ⟨22, 1, 1, 0, 0, true, 0, [], (x.2.2.2.2.2.2.2.2.2.2.map e_L_i64)⟩), (100000, ⟨50, 3, 0, rk, rc, rn, 0, [], (row.map e_Deed)⟩)], [], []⟩ (.cons (len_ok e_i64 x.2.2.2.2.2.2.2.2.2.1) .nil) (by kernel_rfl) ?_
    refine Wk_meetP (fun v1 : Unit => (⟨[(7, .ptr 7 0), (11, .ptr 11 0)], [(7, [.int .i64 0, .int .i64 0]), (11, [.int .i64 x.2.2.2.2.2.2.2.2.1.Code, .int .i64 x.2.2.2.2.2.2.2.2.1.At])], [(100000, ⟨50, 3, 0, rk, rc, rn, 0, [], (row.map e_Deed)⟩)], [], []⟩ : S)) (fun v1 => lease_Fair_J1 x v1 = some r) ?_ ?_
    · refine Wk_block ?_
      unfold lease_Fair_L1 at hF
      refine Wk_trim (fs := [0, 7, 8, 9, 11, 12, 34, 35]) (bs := [7, 8, 9, 11]) (rs := [15, 20, 100000]) (ms := []) (aa := []) (nv := []) (t := (fun v2 : Int × Int => (⟨[(0, .int .i64 span), (7, .ptr 7 0), (8, .ptr 8 0), (9, .ptr 9 0), (11, .ptr 11 0), (12, .int .i64 v2.1), (34, .int .i64 (x.2.2.2.2.2.2.2.2.2.1.length : Int)), (35, .int .i64 v2.2)], [(7, [.int .i64 0, .int .i64 0]), (8, [.row 15 1]), (9, [.row 20 1]), (11, [.int .i64 x.2.2.2.2.2.2.2.2.1.Code, .int .i64 x.2.2.2.2.2.2.2.2.1.At])], [(15, ⟨3, 1, 1, 0, 0, true, 0, [], (x.2.2.2.2.2.2.2.2.2.1.map e_i64)⟩), (20, ⟨22, 1, 1, 0, 0, true, 0, [], (x.2.2.2.2.2.2.2.2.2.2.map e_L_i64)⟩), (100000, ⟨50, 3, 0, rk, rc, rn, 0, [], (row.map e_Deed)⟩)], [], []⟩ : S)) (0, 0)) (by kernel_rfl) ?_
      refine Wk_iter (step := fun y => lease_Fair_B1 span x y) (r := r) (fun v2 : Int × Int => (⟨[(0, .int .i64 span), (7, .ptr 7 0), (8, .ptr 8 0), (9, .ptr 9 0), (11, .ptr 11 0), (12, .int .i64 v2.1), (34, .int .i64 (x.2.2.2.2.2.2.2.2.2.1.length : Int)), (35, .int .i64 v2.2)], [(7, [.int .i64 0, .int .i64 0]), (8, [.row 15 1]), (9, [.row 20 1]), (11, [.int .i64 x.2.2.2.2.2.2.2.2.1.Code, .int .i64 x.2.2.2.2.2.2.2.2.1.At])], [(15, ⟨3, 1, 1, 0, 0, true, 0, [], (x.2.2.2.2.2.2.2.2.2.1.map e_i64)⟩), (20, ⟨22, 1, 1, 0, 0, true, 0, [], (x.2.2.2.2.2.2.2.2.2.2.map e_L_i64)⟩), (100000, ⟨50, 3, 0, rk, rc, rn, 0, [], (row.map e_Deed)⟩)], [], []⟩ : S)) (0, 0) hF ?_
      intro n1 v2 y1 hF ih1 dn1
      have hF : lease_Fair_B1 span x v2 = some y1 := hF
      unfold lease_Fair_B1 at hF
      refine Wk_seq ?_
      refine WR [] [0, 7, 8, 9, 11, 12, 34, 35, 36] [7, 8, 9, 11] [15, 20, 100000] [] [] [] ⟨[(0, .int .i64 span), (7, .ptr 7 0), (8, .ptr 8 0), (9, .ptr 9 0), (11, .ptr 11 0), (12, .int .i64 v2.1), (34, .int .i64 (x.2.2.2.2.2.2.2.2.2.1.length : Int)), (35, .int .i64 v2.2), (36, .bool (decide (v2.2 < (x.2.2.2.2.2.2.2.2.2.1.length : Int))))], [(7, [.int .i64 0, .int .i64 0]), (8, [.row 15 1]), (9, [.row 20 1]), (11, [.int .i64 x.2.2.2.2.2.2.2.2.1.Code, .int .i64 x.2.2.2.2.2.2.2.2.1.At])], [(15, ⟨3, 1, 1, 0, 0, true, 0, [], (x.2.2.2.2.2.2.2.2.2.1.map e_i64)⟩), (20, ⟨22, 1, 1, 0, 0, true, 0, [], (x.2.2.2.2.2.2.2.2.2.2.map e_L_i64)⟩), (100000, ⟨50, 3, 0, rk, rc, rn, 0, [], (row.map e_Deed)⟩)], [], []⟩ .nil (by kernel_rfl) ?_
      refine Wk_seq ?_
      refine Wk_split rfl (fun hb => ?_) (fun hb => ?_)
      · have hF := ite_t hF hb
        refine Wk_skip ?_
        refine Wk_seq ?_
        refine Wk_block ?_
        refine Wk_seq ?_
        refine WR [] [0, 7, 8, 9, 11, 12, 13, 34, 35] [7, 8, 9, 11] [15, 20, 100000] [] [] [] ⟨[(0, .int .i64 span), (7, .ptr 7 0), (8, .ptr 8 0), (9, .ptr 9 0), (11, .ptr 11 0), (12, .int .i64 v2.1), (13, .int .i64 v2.2), (34, .int .i64 (x.2.2.2.2.2.2.2.2.2.1.length : Int)), (35, .int .i64 v2.2)], [(7, [.int .i64 0, .int .i64 0]), (8, [.row 15 1]), (9, [.row 20 1]), (11, [.int .i64 x.2.2.2.2.2.2.2.2.1.Code, .int .i64 x.2.2.2.2.2.2.2.2.1.At])], [(15, ⟨3, 1, 1, 0, 0, true, 0, [], (x.2.2.2.2.2.2.2.2.2.1.map e_i64)⟩), (20, ⟨22, 1, 1, 0, 0, true, 0, [], (x.2.2.2.2.2.2.2.2.2.2.map e_L_i64)⟩), (100000, ⟨50, 3, 0, rk, rc, rn, 0, [], (row.map e_Deed)⟩)], [], []⟩ .nil (by kernel_rfl) ?_
        refine Wk_seq ?_
        refine Wk_meetP (fun v3 : Int => (⟨[(0, .int .i64 span), (7, .ptr 7 0), (8, .ptr 8 0), (9, .ptr 9 0), (11, .ptr 11 0), (12, .int .i64 v3), (13, .int .i64 v2.2), (34, .int .i64 (x.2.2.2.2.2.2.2.2.2.1.length : Int)), (35, .int .i64 v2.2)], [(7, [.int .i64 0, .int .i64 0]), (8, [.row 15 1]), (9, [.row 20 1]), (11, [.int .i64 x.2.2.2.2.2.2.2.2.1.Code, .int .i64 x.2.2.2.2.2.2.2.2.1.At])], [(15, ⟨3, 1, 1, 0, 0, true, 0, [], (x.2.2.2.2.2.2.2.2.2.1.map e_i64)⟩), (20, ⟨22, 1, 1, 0, 0, true, 0, [], (x.2.2.2.2.2.2.2.2.2.2.map e_L_i64)⟩), (100000, ⟨50, 3, 0, rk, rc, rn, 0, [], (row.map e_Deed)⟩)], [], []⟩ : S)) (fun v3 => lease_Fair_J2 span x v2 v3 = some y1) ?_ ?_
        · refine Wk_block ?_
          unfold lease_Fair_L3 at hF
          refine Wk_trim (fs := [0, 7, 8, 9, 11, 12, 13, 34, 35]) (bs := [7, 8, 9, 11]) (rs := [15, 20, 100000]) (ms := []) (aa := []) (nv := []) (t := (fun v6 : Int => (⟨[(0, .int .i64 span), (7, .ptr 7 0), (8, .ptr 8 0), (9, .ptr 9 0), (11, .ptr 11 0), (12, .int .i64 v6), (13, .int .i64 v2.2), (34, .int .i64 (x.2.2.2.2.2.2.2.2.2.1.length : Int)), (35, .int .i64 v2.2)], [(7, [.int .i64 0, .int .i64 0]), (8, [.row 15 1]), (9, [.row 20 1]), (11, [.int .i64 x.2.2.2.2.2.2.2.2.1.Code, .int .i64 x.2.2.2.2.2.2.2.2.1.At])], [(15, ⟨3, 1, 1, 0, 0, true, 0, [], (x.2.2.2.2.2.2.2.2.2.1.map e_i64)⟩), (20, ⟨22, 1, 1, 0, 0, true, 0, [], (x.2.2.2.2.2.2.2.2.2.2.map e_L_i64)⟩), (100000, ⟨50, 3, 0, rk, rc, rn, 0, [], (row.map e_Deed)⟩)], [], []⟩ : S)) v2.1) (by kernel_rfl) ?_
          refine Wk_iter (step := fun y => lease_Fair_B3 span x v2 y) (r := y1) (fun v6 : Int => (⟨[(0, .int .i64 span), (7, .ptr 7 0), (8, .ptr 8 0), (9, .ptr 9 0), (11, .ptr 11 0), (12, .int .i64 v6), (13, .int .i64 v2.2), (34, .int .i64 (x.2.2.2.2.2.2.2.2.2.1.length : Int)), (35, .int .i64 v2.2)], [(7, [.int .i64 0, .int .i64 0]), (8, [.row 15 1]), (9, [.row 20 1]), (11, [.int .i64 x.2.2.2.2.2.2.2.2.1.Code, .int .i64 x.2.2.2.2.2.2.2.2.1.At])], [(15, ⟨3, 1, 1, 0, 0, true, 0, [], (x.2.2.2.2.2.2.2.2.2.1.map e_i64)⟩), (20, ⟨22, 1, 1, 0, 0, true, 0, [], (x.2.2.2.2.2.2.2.2.2.2.map e_L_i64)⟩), (100000, ⟨50, 3, 0, rk, rc, rn, 0, [], (row.map e_Deed)⟩)], [], []⟩ : S)) v2.1 hF ?_
          intro n2 v6 y2 hF ih2 dn2
          have hF : lease_Fair_B3 span x v2 v6 = some y2 := hF
          unfold lease_Fair_B3 at hF
          refine Wk_seq ?_
          refine Wk_seq ?_
          obtain ⟨h11, hF⟩ := asrt_elim hF
          obtain ⟨h12, hF⟩ := asrt_elim hF
          obtain ⟨h13, hF⟩ := asrt_elim hF
          obtain ⟨h14, hF⟩ := asrt_elim hF
          refine WD [.nat (x.2.2.2.2.2.2.2.2.2.1.length : Int), .av (e_i64 (lget x.2.2.2.2.2.2.2.2.2.1 v6)), .av (e_i64 (lget x.2.2.2.2.2.2.2.2.2.1 v2.2))] [0, 7, 8, 9, 11, 12, 13, 34, 35, 54] [7, 8, 9, 11] [15, 20, 100000] [] [] [] ⟨[(0, .int .i64 span), (7, .ptr 7 0), (8, .ptr 8 0), (9, .ptr 9 0), (11, .ptr 11 0), (12, .int .i64 v6), (13, .int .i64 v2.2), (34, .int .i64 (x.2.2.2.2.2.2.2.2.2.1.length : Int)), (35, .int .i64 v2.2), (54, .bool ((decide (v6 < (x.2.2.2.2.2.2.2.2.2.1.length : Int))) && (decide ((lget x.2.2.2.2.2.2.2.2.2.1 v6) < (w64 ((lget x.2.2.2.2.2.2.2.2.2.1 v2.2) + span))))))], [(7, [.int .i64 0, .int .i64 0]), (8, [.row 15 1]), (9, [.row 20 1]), (11, [.int .i64 x.2.2.2.2.2.2.2.2.1.Code, .int .i64 x.2.2.2.2.2.2.2.2.1.At])], [(15, ⟨3, 1, 1, 0, 0, true, 0, [], (x.2.2.2.2.2.2.2.2.2.1.map e_i64)⟩), (20, ⟨22, 1, 1, 0, 0, true, 0, [], (x.2.2.2.2.2.2.2.2.2.2.map e_L_i64)⟩), (100000, ⟨50, 3, 0, rk, rc, rn, 0, [], (row.map e_Deed)⟩)], [], []⟩ (.cons (len_ok e_i64 x.2.2.2.2.2.2.2.2.2.1) (.cons (fun (ga0 : (decide (v6 < (x.2.2.2.2.2.2.2.2.2.1.length : Int))) = true) => (ixr_ok e_i64 (h11 ga0))) (.cons (fun (ga0 : (decide (v6 < (x.2.2.2.2.2.2.2.2.2.1.length : Int))) = true) => (ldr_ok e_i64 (h12 ga0))) (.cons (fun (ga0 : (decide (v6 < (x.2.2.2.2.2.2.2.2.2.1.length : Int))) = true) => (ixr_ok e_i64 (h13 ga0))) (.cons (fun (ga0 : (decide (v6 < (x.2.2.2.2.2.2.2.2.2.1.length : Int))) = true) => (ldr_ok e_i64 (h14 ga0))) .nil))))) (by kernel_rfl) ?_
          refine Wk_split rfl (fun hb => ?_) (fun hb => ?_)
          · have hF := ite_t hF hb
            refine Wk_skip ?_
            refine Wk_block ?_
            refine WR [] [0, 7, 8, 9, 11, 12, 13, 34, 35] [7, 8, 9, 11] [15, 20, 100000] [] [] [] ⟨[(0, .int .i64 span), (7, .ptr 7 0), (8, .ptr 8 0), (9, .ptr 9 0), (11, .ptr 11 0), (12, .int .i64 (w64 (v6 + 1))), (13, .int .i64 v2.2), (34, .int .i64 (x.2.2.2.2.2.2.2.2.2.1.length : Int)), (35, .int .i64 v2.2)], [(7, [.int .i64 0, .int .i64 0]), (8, [.row 15 1]), (9, [.row 20 1]), (11, [.int .i64 x.2.2.2.2.2.2.2.2.1.Code, .int .i64 x.2.2.2.2.2.2.2.2.1.At])], [(15, ⟨3, 1, 1, 0, 0, true, 0, [], (x.2.2.2.2.2.2.2.2.2.1.map e_i64)⟩), (20, ⟨22, 1, 1, 0, 0, true, 0, [], (x.2.2.2.2.2.2.2.2.2.2.map e_L_i64)⟩), (100000, ⟨50, 3, 0, rk, rc, rn, 0, [], (row.map e_Deed)⟩)], [], []⟩ .nil (by kernel_rfl) ?_
            refine Wk_blk ?_
            refine Wk_trim (fs := [0, 7, 8, 9, 11, 12, 13, 34, 35]) (bs := [7, 8, 9, 11]) (rs := [15, 20, 100000]) (ms := []) (aa := []) (nv := []) ?_ (ih2 _ (some_elim hF).symm)
            kernel_rfl
          · have hF := ite_f hF hb
            refine Wk_exit rfl ?_
            have hF := inrO_done hF dn2
            exact Wk_metP v6 [0, 7, 8, 9, 11, 12, 13, 34, 35] [7, 8, 9, 11] [15, 20, 100000] [] [] [] hF (by kernel_rfl)
        · intro v3 hF
          have hF : lease_Fair_J2 span x v2 v3 = some y1 := hF
          unfold lease_Fair_J2 at hF
          refine Wk_seq ?_
          refine Wk_seq ?_
          refine WR [.nat (x.2.2.2.2.2.2.2.2.2.1.length : Int)] [0, 7, 8, 9, 11, 12, 13, 34, 35, 60] [7, 8, 9, 11] [15, 20, 100000] [] [] [] ⟨[(0, .int .i64 span), (7, .ptr 7 0), (8, .ptr 8 0), (9, .ptr 9 0), (11, .ptr 11 0), (12, .int .i64 v3), (13, .int .i64 v2.2), (34, .int .i64 (x.2.2.2.2.2.2.2.2.2.1.length : Int)), (35, .int .i64 v2.2), (60, .bool (decide (v3 = (x.2.2.2.2.2.2.2.2.2.1.length : Int))))], [(7, [.int .i64 0, .int .i64 0]), (8, [.row 15 1]), (9, [.row 20 1]), (11, [.int .i64 x.2.2.2.2.2.2.2.2.1.Code, .int .i64 x.2.2.2.2.2.2.2.2.1.At])], [(15, ⟨3, 1, 1, 0, 0, true, 0, [], (x.2.2.2.2.2.2.2.2.2.1.map e_i64)⟩), (20, ⟨22, 1, 1, 0, 0, true, 0, [], (x.2.2.2.2.2.2.2.2.2.2.map e_L_i64)⟩), (100000, ⟨50, 3, 0, rk, rc, rn, 0, [], (row.map e_Deed)⟩)], [], []⟩ (.cons (len_ok e_i64 x.2.2.2.2.2.2.2.2.2.1) .nil) (by kernel_rfl) ?_
          refine Wk_split rfl (fun hb => ?_) (fun hb => ?_)
          · have hF := ite_t hF hb
            refine Wk_exit rfl ?_
            have hF := inrO_done hF dn1
            exact Wk_metP () [7, 11] [7, 11] [100000] [] [] [] hF (by kernel_rfl)
          · have hF := ite_f hF hb
            refine Wk_skip ?_
            refine Wk_seq ?_
            obtain ⟨h2, hF⟩ := asrt_elim hF
            obtain ⟨h3, hF⟩ := asrt_elim hF
            refine WR [.av (e_L_i64 (lget x.2.2.2.2.2.2.2.2.2.2 v2.2)), .nat ((lget x.2.2.2.2.2.2.2.2.2.2 v2.2).length : Int)] [0, 7, 8, 9, 11, 12, 13, 34, 35, 65, 66] [7, 8, 9, 11] [15, 20, 100000] [] [] [] ⟨[(0, .int .i64 span), (7, .ptr 7 0), (8, .ptr 8 0), (9, .ptr 9 0), (11, .ptr 11 0), (12, .int .i64 v3), (13, .int .i64 v2.2), (34, .int .i64 (x.2.2.2.2.2.2.2.2.2.1.length : Int)), (35, .int .i64 v2.2), (65, .int .i64 ((lget x.2.2.2.2.2.2.2.2.2.2 v2.2).length : Int)), (66, .int .i64 0)], [(7, [.int .i64 0, .int .i64 0]), (8, [.row 15 1]), (9, [.row 20 1]), (11, [.int .i64 x.2.2.2.2.2.2.2.2.1.Code, .int .i64 x.2.2.2.2.2.2.2.2.1.At])], [(15, ⟨3, 1, 1, 0, 0, true, 0, [], (x.2.2.2.2.2.2.2.2.2.1.map e_i64)⟩), (20, ⟨22, 1, 1, 0, 0, true, 0, [], (x.2.2.2.2.2.2.2.2.2.2.map e_L_i64)⟩), (100000, ⟨50, 3, 0, rk, rc, rn, 0, [], (row.map e_Deed)⟩)], [], []⟩ (.cons (ixr_ok e_L_i64 h2) (.cons (ldr_ok e_L_i64 h3) (.cons (len_ok e_i64 (lget x.2.2.2.2.2.2.2.2.2.2 v2.2)) .nil))) (by kernel_rfl) ?_
            refine Wk_meetP (fun v4 : Unit => (⟨[(0, .int .i64 span), (7, .ptr 7 0), (8, .ptr 8 0), (9, .ptr 9 0), (11, .ptr 11 0), (12, .int .i64 v3), (34, .int .i64 (x.2.2.2.2.2.2.2.2.2.1.length : Int)), (35, .int .i64 v2.2)], [(7, [.int .i64 0, .int .i64 0]), (8, [.row 15 1]), (9, [.row 20 1]), (11, [.int .i64 x.2.2.2.2.2.2.2.2.1.Code, .int .i64 x.2.2.2.2.2.2.2.2.1.At])], [(15, ⟨3, 1, 1, 0, 0, true, 0, [], (x.2.2.2.2.2.2.2.2.2.1.map e_i64)⟩), (20, ⟨22, 1, 1, 0, 0, true, 0, [], (x.2.2.2.2.2.2.2.2.2.2.map e_L_i64)⟩), (100000, ⟨50, 3, 0, rk, rc, rn, 0, [], (row.map e_Deed)⟩)], [], []⟩ : S)) (fun v4 => lease_Fair_J3 v2 v3 v4 = some y1) ?_ ?_
            · refine Wk_block ?_
              unfold lease_Fair_L2 at hF
              refine Wk_trim (fs := [0, 7, 8, 9, 11, 12, 13, 34, 35, 65, 66]) (bs := [7, 8, 9, 11]) (rs := [15, 20, 100000]) (ms := []) (aa := []) (nv := []) (t := (fun v5 : Int => (⟨[(0, .int .i64 span), (7, .ptr 7 0), (8, .ptr 8 0), (9, .ptr 9 0), (11, .ptr 11 0), (12, .int .i64 v3), (13, .int .i64 v2.2), (34, .int .i64 (x.2.2.2.2.2.2.2.2.2.1.length : Int)), (35, .int .i64 v2.2), (65, .int .i64 ((lget x.2.2.2.2.2.2.2.2.2.2 v2.2).length : Int)), (66, .int .i64 v5)], [(7, [.int .i64 0, .int .i64 0]), (8, [.row 15 1]), (9, [.row 20 1]), (11, [.int .i64 x.2.2.2.2.2.2.2.2.1.Code, .int .i64 x.2.2.2.2.2.2.2.2.1.At])], [(15, ⟨3, 1, 1, 0, 0, true, 0, [], (x.2.2.2.2.2.2.2.2.2.1.map e_i64)⟩), (20, ⟨22, 1, 1, 0, 0, true, 0, [], (x.2.2.2.2.2.2.2.2.2.2.map e_L_i64)⟩), (100000, ⟨50, 3, 0, rk, rc, rn, 0, [], (row.map e_Deed)⟩)], [], []⟩ : S)) 0) (by kernel_rfl) ?_
              refine Wk_iter (step := fun y => lease_Fair_B2 span x v2 v3 y) (r := y1) (fun v5 : Int => (⟨[(0, .int .i64 span), (7, .ptr 7 0), (8, .ptr 8 0), (9, .ptr 9 0), (11, .ptr 11 0), (12, .int .i64 v3), (13, .int .i64 v2.2), (34, .int .i64 (x.2.2.2.2.2.2.2.2.2.1.length : Int)), (35, .int .i64 v2.2), (65, .int .i64 ((lget x.2.2.2.2.2.2.2.2.2.2 v2.2).length : Int)), (66, .int .i64 v5)], [(7, [.int .i64 0, .int .i64 0]), (8, [.row 15 1]), (9, [.row 20 1]), (11, [.int .i64 x.2.2.2.2.2.2.2.2.1.Code, .int .i64 x.2.2.2.2.2.2.2.2.1.At])], [(15, ⟨3, 1, 1, 0, 0, true, 0, [], (x.2.2.2.2.2.2.2.2.2.1.map e_i64)⟩), (20, ⟨22, 1, 1, 0, 0, true, 0, [], (x.2.2.2.2.2.2.2.2.2.2.map e_L_i64)⟩), (100000, ⟨50, 3, 0, rk, rc, rn, 0, [], (row.map e_Deed)⟩)], [], []⟩ : S)) 0 hF ?_
              intro n2 v5 y2 hF ih2 dn2
              have hF : lease_Fair_B2 span x v2 v3 v5 = some y2 := hF
              unfold lease_Fair_B2 at hF
              refine Wk_seq ?_
              refine WR [] [0, 7, 8, 9, 11, 12, 13, 34, 35, 65, 66, 67] [7, 8, 9, 11] [15, 20, 100000] [] [] [] ⟨[(0, .int .i64 span), (7, .ptr 7 0), (8, .ptr 8 0), (9, .ptr 9 0), (11, .ptr 11 0), (12, .int .i64 v3), (13, .int .i64 v2.2), (34, .int .i64 (x.2.2.2.2.2.2.2.2.2.1.length : Int)), (35, .int .i64 v2.2), (65, .int .i64 ((lget x.2.2.2.2.2.2.2.2.2.2 v2.2).length : Int)), (66, .int .i64 v5), (67, .bool (decide (v5 < ((lget x.2.2.2.2.2.2.2.2.2.2 v2.2).length : Int))))], [(7, [.int .i64 0, .int .i64 0]), (8, [.row 15 1]), (9, [.row 20 1]), (11, [.int .i64 x.2.2.2.2.2.2.2.2.1.Code, .int .i64 x.2.2.2.2.2.2.2.2.1.At])], [(15, ⟨3, 1, 1, 0, 0, true, 0, [], (x.2.2.2.2.2.2.2.2.2.1.map e_i64)⟩), (20, ⟨22, 1, 1, 0, 0, true, 0, [], (x.2.2.2.2.2.2.2.2.2.2.map e_L_i64)⟩), (100000, ⟨50, 3, 0, rk, rc, rn, 0, [], (row.map e_Deed)⟩)], [], []⟩ .nil (by kernel_rfl) ?_
              refine Wk_seq ?_
              refine Wk_split rfl (fun hb => ?_) (fun hb => ?_)
              · have hF := ite_t hF hb
                refine Wk_skip ?_
                refine Wk_seq ?_
                refine Wk_block ?_
                refine Wk_seq ?_
                refine WR [] [0, 7, 8, 9, 11, 12, 13, 14, 34, 35, 65, 66] [7, 8, 9, 11] [15, 20, 100000] [] [] [] ⟨[(0, .int .i64 span), (7, .ptr 7 0), (8, .ptr 8 0), (9, .ptr 9 0), (11, .ptr 11 0), (12, .int .i64 v3), (13, .int .i64 v2.2), (14, .int .i64 v5), (34, .int .i64 (x.2.2.2.2.2.2.2.2.2.1.length : Int)), (35, .int .i64 v2.2), (65, .int .i64 ((lget x.2.2.2.2.2.2.2.2.2.2 v2.2).length : Int)), (66, .int .i64 v5)], [(7, [.int .i64 0, .int .i64 0]), (8, [.row 15 1]), (9, [.row 20 1]), (11, [.int .i64 x.2.2.2.2.2.2.2.2.1.Code, .int .i64 x.2.2.2.2.2.2.2.2.1.At])], [(15, ⟨3, 1, 1, 0, 0, true, 0, [], (x.2.2.2.2.2.2.2.2.2.1.map e_i64)⟩), (20, ⟨22, 1, 1, 0, 0, true, 0, [], (x.2.2.2.2.2.2.2.2.2.2.map e_L_i64)⟩), (100000, ⟨50, 3, 0, rk, rc, rn, 0, [], (row.map e_Deed)⟩)], [], []⟩ .nil (by kernel_rfl) ?_
                refine Wk_seq ?_
                obtain ⟨h4, hF⟩ := asrt_elim hF
                obtain ⟨h5, hF⟩ := asrt_elim hF
                obtain ⟨h6, hF⟩ := asrt_elim hF
                obtain ⟨h7, hF⟩ := asrt_elim hF
                obtain ⟨h8, hF⟩ := asrt_elim hF
                obtain ⟨h9, hF⟩ := asrt_elim hF
                obtain ⟨x1, h10, hF⟩ := lt_split hF
                refine WD [.av (e_L_i64 (lget x.2.2.2.2.2.2.2.2.2.2 v3)), .av (e_i64 (lget (lget x.2.2.2.2.2.2.2.2.2.2 v3) v5)), .av (e_L_i64 (lget x.2.2.2.2.2.2.2.2.2.2 v2.2)), .av (e_i64 (lget (lget x.2.2.2.2.2.2.2.2.2.2 v2.2) v5)), .callB (.int .i64 x1)] [0, 7, 8, 9, 11, 12, 13, 34, 35, 65, 66, 86] [7, 8, 9, 11] [15, 20, 100000] [] [] [] ⟨[(0, .int .i64 span), (7, .ptr 7 0), (8, .ptr 8 0), (9, .ptr 9 0), (11, .ptr 11 0), (12, .int .i64 v3), (13, .int .i64 v2.2), (34, .int .i64 (x.2.2.2.2.2.2.2.2.2.1.length : Int)), (35, .int .i64 v2.2), (65, .int .i64 ((lget x.2.2.2.2.2.2.2.2.2.2 v2.2).length : Int)), (66, .int .i64 v5), (86, .bool (decide ((w64 ((lget (lget x.2.2.2.2.2.2.2.2.2.2 v3) v5) - (lget (lget x.2.2.2.2.2.2.2.2.2.2 v2.2) v5))) < x1)))], [(7, [.int .i64 0, .int .i64 0]), (8, [.row 15 1]), (9, [.row 20 1]), (11, [.int .i64 x.2.2.2.2.2.2.2.2.1.Code, .int .i64 x.2.2.2.2.2.2.2.2.1.At])], [(15, ⟨3, 1, 1, 0, 0, true, 0, [], (x.2.2.2.2.2.2.2.2.2.1.map e_i64)⟩), (20, ⟨22, 1, 1, 0, 0, true, 0, [], (x.2.2.2.2.2.2.2.2.2.2.map e_L_i64)⟩), (100000, ⟨50, 3, 0, rk, rc, rn, 0, [], (row.map e_Deed)⟩)], [], []⟩ (.cons (ixr_ok e_L_i64 h4) (.cons (ldr_ok e_L_i64 h5) (.cons (idx_ok e_i64 h6) (.cons (ixr_ok e_L_i64 h7) (.cons (ldr_ok e_L_i64 h8) (.cons (idx_ok e_i64 h9) (.cons (lease_sure_ok span x1 h10) .nil))))))) (by kernel_rfl) ?_
                refine Wk_split rfl (fun hb => ?_) (fun hb => ?_)
                · have hF := ite_t hF hb
                  refine Wk_seq ?_
                  refine WD [] [6, 7] [7] [100000] [] [] [] ⟨[(6, .bool false), (7, .ptr 7 0)], [(7, [.int .i64 x.2.2.2.2.2.2.2.2.1.Code, .int .i64 x.2.2.2.2.2.2.2.2.1.At])], [(100000, ⟨50, 3, 0, rk, rc, rn, 0, [], (row.map e_Deed)⟩)], [], []⟩ .nil (by kernel_rfl) ?_
                  have hF := ret_done hF dn2
                  have hF := ret_done hF dn1
                  have hF := some_elim hF
                  exact Wk_ret (hfin _ ⟨[100000], [], [100000], [], [], [], by first | (rw [← hF]; kernel_rfl) | kernel_rfl⟩)
                · have hF := ite_f hF hb
                  refine Wk_skip ?_
                  refine Wk_blk ?_
                  refine WR [] [0, 7, 8, 9, 11, 12, 13, 34, 35, 65, 66] [7, 8, 9, 11] [15, 20, 100000] [] [] [] ⟨[(0, .int .i64 span), (7, .ptr 7 0), (8, .ptr 8 0), (9, .ptr 9 0), (11, .ptr 11 0), (12, .int .i64 v3), (13, .int .i64 v2.2), (34, .int .i64 (x.2.2.2.2.2.2.2.2.2.1.length : Int)), (35, .int .i64 v2.2), (65, .int .i64 ((lget x.2.2.2.2.2.2.2.2.2.2 v2.2).length : Int)), (66, .int .i64 (w64 (v5 + 1)))], [(7, [.int .i64 0, .int .i64 0]), (8, [.row 15 1]), (9, [.row 20 1]), (11, [.int .i64 x.2.2.2.2.2.2.2.2.1.Code, .int .i64 x.2.2.2.2.2.2.2.2.1.At])], [(15, ⟨3, 1, 1, 0, 0, true, 0, [], (x.2.2.2.2.2.2.2.2.2.1.map e_i64)⟩), (20, ⟨22, 1, 1, 0, 0, true, 0, [], (x.2.2.2.2.2.2.2.2.2.2.map e_L_i64)⟩), (100000, ⟨50, 3, 0, rk, rc, rn, 0, [], (row.map e_Deed)⟩)], [], []⟩ .nil (by kernel_rfl) ?_
                  refine Wk_trim (fs := [0, 7, 8, 9, 11, 12, 13, 34, 35, 65, 66]) (bs := [7, 8, 9, 11]) (rs := [15, 20, 100000]) (ms := []) (aa := []) (nv := []) ?_ (ih2 _ (some_elim hF).symm)
                  kernel_rfl
              · have hF := ite_f hF hb
                refine Wk_exit rfl ?_
                have hF := inrO_done hF dn2
                exact Wk_metP () [0, 7, 8, 9, 11, 12, 34, 35] [7, 8, 9, 11] [15, 20, 100000] [] [] [] hF (by kernel_rfl)
            · intro v4 hF
              have hF : lease_Fair_J3 v2 v3 v4 = some y1 := hF
              unfold lease_Fair_J3 at hF
              refine Wk_blk ?_
              refine WR [] [0, 7, 8, 9, 11, 12, 34, 35] [7, 8, 9, 11] [15, 20, 100000] [] [] [] ⟨[(0, .int .i64 span), (7, .ptr 7 0), (8, .ptr 8 0), (9, .ptr 9 0), (11, .ptr 11 0), (12, .int .i64 v3), (34, .int .i64 (x.2.2.2.2.2.2.2.2.2.1.length : Int)), (35, .int .i64 (w64 (v2.2 + 1)))], [(7, [.int .i64 0, .int .i64 0]), (8, [.row 15 1]), (9, [.row 20 1]), (11, [.int .i64 x.2.2.2.2.2.2.2.2.1.Code, .int .i64 x.2.2.2.2.2.2.2.2.1.At])], [(15, ⟨3, 1, 1, 0, 0, true, 0, [], (x.2.2.2.2.2.2.2.2.2.1.map e_i64)⟩), (20, ⟨22, 1, 1, 0, 0, true, 0, [], (x.2.2.2.2.2.2.2.2.2.2.map e_L_i64)⟩), (100000, ⟨50, 3, 0, rk, rc, rn, 0, [], (row.map e_Deed)⟩)], [], []⟩ .nil (by kernel_rfl) ?_
              refine Wk_trim (fs := [0, 7, 8, 9, 11, 12, 34, 35]) (bs := [7, 8, 9, 11]) (rs := [15, 20, 100000]) (ms := []) (aa := []) (nv := []) ?_ (ih1 _ (some_elim hF).symm)
              kernel_rfl
      · have hF := ite_f hF hb
        refine Wk_exit rfl ?_
        have hF := inrO_done hF dn1
        exact Wk_metP () [7, 11] [7, 11] [100000] [] [] [] hF (by kernel_rfl)
    · intro v1 hF
      have hF : lease_Fair_J1 x v1 = some r := hF
      unfold lease_Fair_J1 at hF
      refine Wk_seq ?_
      refine WD [] [6, 7] [7] [100000] [] [] [] ⟨[(6, .bool true), (7, .ptr 7 0)], [(7, [.int .i64 x.2.2.2.2.2.2.2.2.1.Code, .int .i64 x.2.2.2.2.2.2.2.2.1.At])], [(100000, ⟨50, 3, 0, rk, rc, rn, 0, [], (row.map e_Deed)⟩)], [], []⟩ .nil (by kernel_rfl) ?_
      have hF := some_elim hF
      exact Wk_ret (hfin _ ⟨[100000], [], [100000], [], [], [], by first | (rw [← hF]; kernel_rfl) | kernel_rfl⟩)

/- tabularyref.F -/
noncomputable def R_F (code : Int) (at0 : Int) : Fault :=
  (⟨code, at0⟩ : Fault)
theorem R_F_ok (code : Int) (at0 : Int) (r : Fault) (hF : R_F code at0 = r) : Pe Try.prog 18 S.none [.int .i64 code, .int .i64 at0] (.agg [.int .i64 r.Code, .int .i64 r.At]) S.none := by
  refine Pe_of (N := 8) (res := [.cell 4 25]) (ts := [25]) Ty.ok Fn.b18 Try.func18 rfl rfl rfl rfl rfl rfl ?_
  intro Q g hfin
  unfold R_F at hF
  refine Wk_seq ?_
  refine WR [] [0, 1, 4] [4] [] [] [] [] ⟨[(0, .int .i64 code), (1, .int .i64 at0), (4, .ptr 4 0)], [(4, [.int .i64 0, .int .i64 0])], [], [], []⟩ .nil (by kernel_rfl) ?_
  refine Wk_seq ?_
  refine WR [] [4] [4] [] [] [] [] ⟨[(4, .ptr 4 0)], [(4, [.int .i64 code, .int .i64 at0])], [], [], []⟩ .nil (by kernel_rfl) ?_
  exact Wk_ret (hfin _ ⟨[], [], [], [], [], [], by first | (rw [← hF]; kernel_rfl) | kernel_rfl⟩)

/- tabularyref.Spanned -/
noncomputable def R_Spanned (span : Int) : Fault :=
  if ((decide (span < 4)) || (decide (1000000 < span))) = true then
    lt (R_F 3 (-3)) fun x =>
    x
  else
    (⟨0, 0⟩ : Fault)
theorem R_Spanned_ok (span : Int) (r : Fault) (hF : R_Spanned span = r) : Pe Try.prog 21 S.none [.int .i64 span] (.agg [.int .i64 r.Code, .int .i64 r.At]) S.none := by
  refine Pe_of (N := 11) (res := [.cell 2 25]) (ts := [25]) Ty.ok Fn.b21 Try.func21 rfl rfl rfl rfl rfl rfl ?_
  intro Q g hfin
  unfold R_Spanned at hF
  refine Wk_seq ?_
  refine WR [] [0, 2] [2] [] [] [] [] ⟨[(0, .int .i64 span), (2, .ptr 2 0)], [(2, [.int .i64 0, .int .i64 0])], [], [], []⟩ .nil (by kernel_rfl) ?_
  refine Wk_seq ?_
  refine Wk_seq ?_
  refine WR [] [2, 8] [2] [] [] [] [] ⟨[(2, .ptr 2 0), (8, .bool ((decide (span < 4)) || (decide (1000000 < span))))], [(2, [.int .i64 0, .int .i64 0])], [], [], []⟩ .nil (by kernel_rfl) ?_
  refine Wk_split rfl (fun hb => ?_) (fun hb => ?_)
  · have hF := ite_t hF hb
    refine Wk_seq ?_
    obtain ⟨x, h0, hF⟩ := lt_split hF
    refine WR [.callB (.agg [.int .i64 x.Code, .int .i64 x.At])] [2] [2] [] [] [] [] ⟨[(2, .ptr 2 0)], [(2, [.int .i64 x.Code, .int .i64 x.At])], [], [], []⟩ (.cons (R_F_ok 3 (-3) x h0) .nil) (by kernel_rfl) ?_
    exact Wk_ret (hfin _ ⟨[], [], [], [], [], [], by first | (rw [← hF]; kernel_rfl) | kernel_rfl⟩)
  · have hF := ite_f hF hb
    refine Wk_skip ?_
    refine Wk_seq ?_
    refine WR [] [2] [2] [] [] [] [] ⟨[(2, .ptr 2 0)], [(2, [.int .i64 0, .int .i64 0])], [], [], []⟩ .nil (by kernel_rfl) ?_
    exact Wk_ret (hfin _ ⟨[], [], [], [], [], [], by first | (rw [← hF]; kernel_rfl) | kernel_rfl⟩)

/- tabularyref.CopyCourt -/
noncomputable def R_CopyCourt (c : Court) : Option (Int × Int × Int × Int × List Int × List Trust × List Wish × List Reply) :=
  asrt ((c.Clocks.length : Int) * 8 ≤ 140737488351232) <|
  asrt ((c.Trusts.length : Int) * 16 ≤ 140737488351232) <|
  asrt ((c.Wishes.length : Int) * 24 ≤ 140737488351232) <|
  asrt ((c.Replies.length : Int) * 24 ≤ 140737488351232) <|
  some (c.Now, c.Lease.Holder, c.Lease.Epoch, c.Lease.Until, c.Clocks, c.Trusts, c.Wishes, c.Replies)
theorem R_CopyCourt_ok (c : Court) (r : Int × Int × Int × Int × List Int × List Trust × List Wish × List Reply) (hF : R_CopyCourt c = some r) : Pe Try.prog 73 ⟨[], [], [], [], []⟩ [.agg (c_Court c)] (.agg [.int .i64 r.1, .int .i64 r.2.1, .int .i64 r.2.2.1, .int .i64 r.2.2.2.1, .row 5 1, .row 9 1, .row 13 1, .row 17 1]) ⟨[], [], [(5, ⟨3, 1, 1, 0, 0, true, 0, [], (r.2.2.2.2.1.map e_i64)⟩), (9, ⟨60, 2, 1, 0, 0, true, 0, [], (r.2.2.2.2.2.1.map e_Trust)⟩), (13, ⟨103, 3, 1, 0, 0, true, 0, [], (r.2.2.2.2.2.2.1.map e_Wish)⟩), (17, ⟨105, 3, 1, 0, 0, true, 0, [], (r.2.2.2.2.2.2.2.map e_Reply)⟩)], [], []⟩ := by
  refine Pe_of (N := 20) (res := [.cell 2 44]) (ts := [44]) Ty.ok Fn.b73 Try.func73 rfl rfl rfl rfl rfl rfl ?_
  intro Q g hfin
  unfold R_CopyCourt at hF
  refine Wk_seq ?_
  refine WR [] [1, 2] [1, 2] [] [] [] [] ⟨[(1, .ptr 1 0), (2, .ptr 2 0)], [(1, (c_Court c)), (2, [.int .i64 0, .int .i64 0, .int .i64 0, .int .i64 0, .nils, .nils, .nils, .nils])], [], [], []⟩ .nil (by kernel_rfl) ?_
  refine Wk_seq ?_
  obtain ⟨h0, hF⟩ := asrt_elim hF
  refine WR [.xs (c.Clocks.map e_i64)] [1, 2] [1, 2] [5] [] [] [] ⟨[(1, .ptr 1 0), (2, .ptr 2 0)], [(1, [.int .i64 c.Now, .int .i64 c.Lease.Holder, .int .i64 c.Lease.Epoch, .int .i64 c.Lease.Until, .row 5 1, .sl 2 (c.Trusts.map e_Trust), .sl 3 (c.Wishes.map e_Wish), .sl 3 (c.Replies.map e_Reply)]), (2, [.int .i64 0, .int .i64 0, .int .i64 0, .int .i64 0, .nils, .nils, .nils, .nils])], [(5, ⟨3, 1, 1, 0, 0, true, 0, [], (c.Clocks.map e_i64)⟩)], [], []⟩ (.cons (app0_ok e_i64 c.Clocks) (.cons (appl_ok e_i64 h0) .nil)) (by kernel_rfl) ?_
  refine Wk_seq ?_
  obtain ⟨h1, hF⟩ := asrt_elim hF
  refine WR [.xs (c.Trusts.map e_Trust)] [1, 2] [1, 2] [5, 9] [] [] [] ⟨[(1, .ptr 1 0), (2, .ptr 2 0)], [(1, [.int .i64 c.Now, .int .i64 c.Lease.Holder, .int .i64 c.Lease.Epoch, .int .i64 c.Lease.Until, .row 5 1, .row 9 1, .sl 3 (c.Wishes.map e_Wish), .sl 3 (c.Replies.map e_Reply)]), (2, [.int .i64 0, .int .i64 0, .int .i64 0, .int .i64 0, .nils, .nils, .nils, .nils])], [(5, ⟨3, 1, 1, 0, 0, true, 0, [], (c.Clocks.map e_i64)⟩), (9, ⟨60, 2, 1, 0, 0, true, 0, [], (c.Trusts.map e_Trust)⟩)], [], []⟩ (.cons (app0_ok e_Trust c.Trusts) (.cons (appl_ok e_Trust h1) .nil)) (by kernel_rfl) ?_
  refine Wk_seq ?_
  obtain ⟨h2, hF⟩ := asrt_elim hF
  refine WR [.xs (c.Wishes.map e_Wish)] [1, 2] [1, 2] [5, 9, 13] [] [] [] ⟨[(1, .ptr 1 0), (2, .ptr 2 0)], [(1, [.int .i64 c.Now, .int .i64 c.Lease.Holder, .int .i64 c.Lease.Epoch, .int .i64 c.Lease.Until, .row 5 1, .row 9 1, .row 13 1, .sl 3 (c.Replies.map e_Reply)]), (2, [.int .i64 0, .int .i64 0, .int .i64 0, .int .i64 0, .nils, .nils, .nils, .nils])], [(5, ⟨3, 1, 1, 0, 0, true, 0, [], (c.Clocks.map e_i64)⟩), (9, ⟨60, 2, 1, 0, 0, true, 0, [], (c.Trusts.map e_Trust)⟩), (13, ⟨103, 3, 1, 0, 0, true, 0, [], (c.Wishes.map e_Wish)⟩)], [], []⟩ (.cons (app0_ok e_Wish c.Wishes) (.cons (appl_ok e_Wish h2) .nil)) (by kernel_rfl) ?_
  refine Wk_seq ?_
  obtain ⟨h3, hF⟩ := asrt_elim hF
  refine WR [.xs (c.Replies.map e_Reply)] [1, 2] [1, 2] [5, 9, 13, 17] [] [] [] ⟨[(1, .ptr 1 0), (2, .ptr 2 0)], [(1, [.int .i64 c.Now, .int .i64 c.Lease.Holder, .int .i64 c.Lease.Epoch, .int .i64 c.Lease.Until, .row 5 1, .row 9 1, .row 13 1, .row 17 1]), (2, [.int .i64 0, .int .i64 0, .int .i64 0, .int .i64 0, .nils, .nils, .nils, .nils])], [(5, ⟨3, 1, 1, 0, 0, true, 0, [], (c.Clocks.map e_i64)⟩), (9, ⟨60, 2, 1, 0, 0, true, 0, [], (c.Trusts.map e_Trust)⟩), (13, ⟨103, 3, 1, 0, 0, true, 0, [], (c.Wishes.map e_Wish)⟩), (17, ⟨105, 3, 1, 0, 0, true, 0, [], (c.Replies.map e_Reply)⟩)], [], []⟩ (.cons (app0_ok e_Reply c.Replies) (.cons (appl_ok e_Reply h3) .nil)) (by kernel_rfl) ?_
  refine Wk_seq ?_
  refine WR [] [2] [2] [5, 9, 13, 17] [] [] [] ⟨[(2, .ptr 2 0)], [(2, [.int .i64 c.Now, .int .i64 c.Lease.Holder, .int .i64 c.Lease.Epoch, .int .i64 c.Lease.Until, .row 5 1, .row 9 1, .row 13 1, .row 17 1])], [(5, ⟨3, 1, 1, 0, 0, true, 0, [], (c.Clocks.map e_i64)⟩), (9, ⟨60, 2, 1, 0, 0, true, 0, [], (c.Trusts.map e_Trust)⟩), (13, ⟨103, 3, 1, 0, 0, true, 0, [], (c.Wishes.map e_Wish)⟩), (17, ⟨105, 3, 1, 0, 0, true, 0, [], (c.Replies.map e_Reply)⟩)], [], []⟩ .nil (by kernel_rfl) ?_
  have hF := some_elim hF
  exact Wk_ret (hfin _ ⟨[5, 9, 13, 17], [], [5, 9, 13, 17], [], [], [], by first | (rw [← hF]; kernel_rfl) | kernel_rfl⟩)

/- tabularyref.Num -/
noncomputable def R_Num (num : Int) : Bool :=
  (decide (0 ≤ num)) && (decide (num ≤ 1000000000))
theorem R_Num_ok (num : Int) (r : Bool) (hF : R_Num num = r) : Pe Try.prog 17 S.none [.int .i64 num] (.bool r) S.none := by
  refine Pe_of (N := 9) (res := [.tmp 2]) (ts := [4]) Ty.ok Fn.b17 Try.func17 rfl rfl rfl rfl rfl rfl ?_
  intro Q g hfin
  unfold R_Num at hF
  refine Wk_seq ?_
  refine WR [] [0] [] [] [] [] [] ⟨[(0, .int .i64 num)], [], [], [], []⟩ .nil (by kernel_rfl) ?_
  refine Wk_seq ?_
  refine WR [] [2] [] [] [] [] [] ⟨[(2, .bool ((decide (0 ≤ num)) && (decide (num ≤ 1000000000))))], [], [], [], []⟩ .nil (by kernel_rfl) ?_
  exact Wk_ret (hfin _ ⟨[], [], [], [], [], [], by first | (rw [← hF]; kernel_rfl) | kernel_rfl⟩)

/- tabularyref.Wished -/
noncomputable def R_Wished (l : Lease) (who : Int) (now : Int) (span : Int) : Fault :=
  lt (R_Num l.Holder) fun x =>
  lt (R_Num l.Epoch) fun x1 =>
  lt (R_Num l.Until) fun x2 =>
  if (((!x) || (!x1)) || (!x2)) = true then
    lt (R_F 3 0) fun x3 =>
    x3
  else
    if ((decide (who < 1)) || (decide (1000000000 < who))) = true then
      lt (R_F 3 (-1)) fun x4 =>
      x4
    else
      lt (R_Num now) fun x5 =>
      if (!x5) = true then
        lt (R_F 3 (-2)) fun x6 =>
        x6
      else
        lt (R_Spanned span) fun x7 =>
        x7
theorem R_Wished_ok (l : Lease) (who : Int) (now : Int) (span : Int) (r : Fault) (hF : R_Wished l who now span = r) : Pe Try.prog 54 S.none [.agg (c_Lease l), .int .i64 who, .int .i64 now, .int .i64 span] (.agg [.int .i64 r.Code, .int .i64 r.At]) S.none := by
  refine Pe_of (N := 39) (res := [.cell 8 25]) (ts := [25]) Ty.ok Fn.b54 Try.func54 rfl rfl rfl rfl rfl rfl ?_
  intro Q g hfin
  unfold R_Wished at hF
  refine Wk_seq ?_
  refine WR [] [1, 2, 3, 4, 8] [4, 8] [] [] [] [] ⟨[(1, .int .i64 who), (2, .int .i64 now), (3, .int .i64 span), (4, .ptr 4 0), (8, .ptr 8 0)], [(4, (c_Lease l)), (8, [.int .i64 0, .int .i64 0])], [], [], []⟩ .nil (by kernel_rfl) ?_
  refine Wk_seq ?_
  refine Wk_seq ?_
  obtain ⟨x, h0, hF⟩ := lt_split hF
  obtain ⟨x1, h1, hF⟩ := lt_split hF
  obtain ⟨x2, h2, hF⟩ := lt_split hF
  refine WR [.callB (.bool x), .callB (.bool x1), .callB (.bool x2)] [1, 2, 3, 8, 24] [8] [] [] [] [] ⟨[(1, .int .i64 who), (2, .int .i64 now), (3, .int .i64 span), (8, .ptr 8 0), (24, .bool (((!x) || (!x1)) || (!x2)))], [(8, [.int .i64 0, .int .i64 0])], [], [], []⟩ (.cons (R_Num_ok l.Holder x h0) (.cons (fun (ga0 : (!(!x)) = true) => (R_Num_ok l.Epoch x1 h1)) (.cons (fun (ga0 : (!((!x) || (!x1))) = true) => (R_Num_ok l.Until x2 h2)) .nil))) (by kernel_rfl) ?_
  refine Wk_split rfl (fun hb => ?_) (fun hb => ?_)
  · have hF := ite_t hF hb
    refine Wk_seq ?_
    obtain ⟨x3, h3, hF⟩ := lt_split hF
    refine WR [.callB (.agg [.int .i64 x3.Code, .int .i64 x3.At])] [8] [8] [] [] [] [] ⟨[(8, .ptr 8 0)], [(8, [.int .i64 x3.Code, .int .i64 x3.At])], [], [], []⟩ (.cons (R_F_ok 3 0 x3 h3) .nil) (by kernel_rfl) ?_
    exact Wk_ret (hfin _ ⟨[], [], [], [], [], [], by first | (rw [← hF]; kernel_rfl) | kernel_rfl⟩)
  · have hF := ite_f hF hb
    refine Wk_skip ?_
    refine Wk_seq ?_
    refine Wk_seq ?_
    refine WR [] [2, 3, 8, 31] [8] [] [] [] [] ⟨[(2, .int .i64 now), (3, .int .i64 span), (8, .ptr 8 0), (31, .bool ((decide (who < 1)) || (decide (1000000000 < who))))], [(8, [.int .i64 0, .int .i64 0])], [], [], []⟩ .nil (by kernel_rfl) ?_
    refine Wk_split rfl (fun hb => ?_) (fun hb => ?_)
    · have hF := ite_t hF hb
      refine Wk_seq ?_
      obtain ⟨x4, h4, hF⟩ := lt_split hF
      refine WR [.callB (.agg [.int .i64 x4.Code, .int .i64 x4.At])] [8] [8] [] [] [] [] ⟨[(8, .ptr 8 0)], [(8, [.int .i64 x4.Code, .int .i64 x4.At])], [], [], []⟩ (.cons (R_F_ok 3 (-1) x4 h4) .nil) (by kernel_rfl) ?_
      exact Wk_ret (hfin _ ⟨[], [], [], [], [], [], by first | (rw [← hF]; kernel_rfl) | kernel_rfl⟩)
    · have hF := ite_f hF hb
      refine Wk_skip ?_
      refine Wk_seq ?_
      refine Wk_seq ?_
      obtain ⟨x5, h5, hF⟩ := lt_split hF
      refine WR [.callB (.bool x5)] [3, 8, 35] [8] [] [] [] [] ⟨[(3, .int .i64 span), (8, .ptr 8 0), (35, .bool (!x5))], [(8, [.int .i64 0, .int .i64 0])], [], [], []⟩ (.cons (R_Num_ok now x5 h5) .nil) (by kernel_rfl) ?_
      refine Wk_split rfl (fun hb => ?_) (fun hb => ?_)
      · have hF := ite_t hF hb
        refine Wk_seq ?_
        obtain ⟨x6, h6, hF⟩ := lt_split hF
        refine WR [.callB (.agg [.int .i64 x6.Code, .int .i64 x6.At])] [8] [8] [] [] [] [] ⟨[(8, .ptr 8 0)], [(8, [.int .i64 x6.Code, .int .i64 x6.At])], [], [], []⟩ (.cons (R_F_ok 3 (-2) x6 h6) .nil) (by kernel_rfl) ?_
        exact Wk_ret (hfin _ ⟨[], [], [], [], [], [], by first | (rw [← hF]; kernel_rfl) | kernel_rfl⟩)
      · have hF := ite_f hF hb
        refine Wk_skip ?_
        refine Wk_seq ?_
        obtain ⟨x7, h7, hF⟩ := lt_split hF
        refine WR [.callB (.agg [.int .i64 x7.Code, .int .i64 x7.At])] [8] [8] [] [] [] [] ⟨[(8, .ptr 8 0)], [(8, [.int .i64 x7.Code, .int .i64 x7.At])], [], [], []⟩ (.cons (R_Spanned_ok span x7 h7) .nil) (by kernel_rfl) ?_
        exact Wk_ret (hfin _ ⟨[], [], [], [], [], [], by first | (rw [← hF]; kernel_rfl) | kernel_rfl⟩)

/- tabularyref.Granted -/
noncomputable def R_Granted (l : Lease) (who : Int) (now : Int) (span : Int) : Lease × Fault :=
  lt (R_Wished l who now span) fun x =>
  lt (
    if (((decide (x.Code = 0)) && (decide (0 < l.Holder))) && (decide (now < l.Until))) = true then
      lt (R_F 11 0) fun x1 =>
      x1
    else
      x) fun (v : Fault) =>
  lt (
    if ((decide (v.Code = 0)) && ((decide (1000000000 < (w64 (l.Epoch + 1)))) || (decide (1000000000 < (w64 (now + span)))))) = true then
      lt (R_F 9 0) fun x2 =>
      x2
    else
      v) fun (v1 : Fault) =>
  if (!decide (v1.Code = 0)) = true then
    ((⟨0, 0, 0⟩ : Lease), v1)
  else
    ((⟨who, w64 (l.Epoch + 1), w64 (now + span)⟩ : Lease), v1)
theorem R_Granted_ok (l : Lease) (who : Int) (now : Int) (span : Int) (r : Lease × Fault) (hF : R_Granted l who now span = r) : Pe Try.prog 19 S.none [.agg (c_Lease l), .int .i64 who, .int .i64 now, .int .i64 span] (.tup [.agg (c_Lease r.1), .agg [.int .i64 r.2.Code, .int .i64 r.2.At]]) S.none := by
  refine Pe_of (N := 61) (res := [.cell 8 30, .cell 9 25]) (ts := [30, 25]) Ty.ok Fn.b19 Try.func19 rfl rfl rfl rfl rfl rfl ?_
  intro Q g hfin
  unfold R_Granted at hF
  refine Wk_seq ?_
  refine WR [] [1, 2, 3, 4, 8, 9] [4, 8, 9] [] [] [] [] ⟨[(1, .int .i64 who), (2, .int .i64 now), (3, .int .i64 span), (4, .ptr 4 0), (8, .ptr 8 0), (9, .ptr 9 0)], [(4, (c_Lease l)), (8, [.int .i64 0, .int .i64 0, .int .i64 0]), (9, [.int .i64 0, .int .i64 0])], [], [], []⟩ .nil (by kernel_rfl) ?_
  refine Wk_seq ?_
  obtain ⟨x, h0, hF⟩ := lt_split hF
  refine WR [.callB (.agg [.int .i64 x.Code, .int .i64 x.At])] [1, 2, 3, 4, 8, 9, 10] [4, 8, 9, 10] [] [] [] [] ⟨[(1, .int .i64 who), (2, .int .i64 now), (3, .int .i64 span), (4, .ptr 4 0), (8, .ptr 8 0), (9, .ptr 9 0), (10, .ptr 10 0)], [(4, (c_Lease l)), (8, [.int .i64 0, .int .i64 0, .int .i64 0]), (9, [.int .i64 0, .int .i64 0]), (10, [.int .i64 x.Code, .int .i64 x.At])], [], [], []⟩ (.cons (R_Wished_ok l who now span x h0) .nil) (by kernel_rfl) ?_
  refine Wk_seq ?_
  refine Wk_seq ?_
  refine WR [] [1, 2, 3, 4, 8, 9, 10, 29] [4, 8, 9, 10] [] [] [] [] ⟨[(1, .int .i64 who), (2, .int .i64 now), (3, .int .i64 span), (4, .ptr 4 0), (8, .ptr 8 0), (9, .ptr 9 0), (10, .ptr 10 0), (29, .bool (((decide (x.Code = 0)) && (decide (0 < l.Holder))) && (decide (now < l.Until))))], [(4, (c_Lease l)), (8, [.int .i64 0, .int .i64 0, .int .i64 0]), (9, [.int .i64 0, .int .i64 0]), (10, [.int .i64 x.Code, .int .i64 x.At])], [], [], []⟩ .nil (by kernel_rfl) ?_
  obtain ⟨v, hv, hF⟩ := lt_split hF
  refine Wk_meet (⟨[(1, .int .i64 who), (2, .int .i64 now), (3, .int .i64 span), (4, .ptr 4 0), (8, .ptr 8 0), (9, .ptr 9 0), (10, .ptr 10 0)], [(4, (c_Lease l)), (8, [.int .i64 0, .int .i64 0, .int .i64 0]), (9, [.int .i64 0, .int .i64 0]), (10, [.int .i64 v.Code, .int .i64 v.At])], [], [], []⟩ : S) ?_ ?_
  · have hF := hv
    refine Wk_split rfl (fun hb => ?_) (fun hb => ?_)
    · have hF := ite_t hF hb
      obtain ⟨x1, h1, hF⟩ := lt_split hF
      refine WR [.callB (.agg [.int .i64 x1.Code, .int .i64 x1.At])] [1, 2, 3, 4, 8, 9, 10] [4, 8, 9, 10] [] [] [] [] ⟨[(1, .int .i64 who), (2, .int .i64 now), (3, .int .i64 span), (4, .ptr 4 0), (8, .ptr 8 0), (9, .ptr 9 0), (10, .ptr 10 0)], [(4, (c_Lease l)), (8, [.int .i64 0, .int .i64 0, .int .i64 0]), (9, [.int .i64 0, .int .i64 0]), (10, [.int .i64 x1.Code, .int .i64 x1.At])], [], [], []⟩ (.cons (R_F_ok 11 0 x1 h1) .nil) (by kernel_rfl) ?_
      exact Wk_met (fs := [1, 2, 3, 4, 8, 9, 10]) (bs := [4, 8, 9, 10]) (rs := []) (ms := []) (aa := []) (nv := []) (by first | (rw [← hF]; kernel_rfl) | kernel_rfl)
    · have hF := ite_f hF hb
      refine Wk_skip ?_
      exact Wk_met (fs := [1, 2, 3, 4, 8, 9, 10]) (bs := [4, 8, 9, 10]) (rs := []) (ms := []) (aa := []) (nv := []) (by first | (rw [← hF]; kernel_rfl) | kernel_rfl)
  · refine Wk_seq ?_
    refine Wk_seq ?_
    refine WR [] [1, 2, 3, 4, 8, 9, 10, 45] [4, 8, 9, 10] [] [] [] [] ⟨[(1, .int .i64 who), (2, .int .i64 now), (3, .int .i64 span), (4, .ptr 4 0), (8, .ptr 8 0), (9, .ptr 9 0), (10, .ptr 10 0), (45, .bool ((decide (v.Code = 0)) && ((decide (1000000000 < (w64 (l.Epoch + 1)))) || (decide (1000000000 < (w64 (now + span)))))))], [(4, (c_Lease l)), (8, [.int .i64 0, .int .i64 0, .int .i64 0]), (9, [.int .i64 0, .int .i64 0]), (10, [.int .i64 v.Code, .int .i64 v.At])], [], [], []⟩ .nil (by kernel_rfl) ?_
    obtain ⟨v1, hv, hF⟩ := lt_split hF
    refine Wk_meet (⟨[(1, .int .i64 who), (2, .int .i64 now), (3, .int .i64 span), (4, .ptr 4 0), (8, .ptr 8 0), (9, .ptr 9 0), (10, .ptr 10 0)], [(4, (c_Lease l)), (8, [.int .i64 0, .int .i64 0, .int .i64 0]), (9, [.int .i64 0, .int .i64 0]), (10, [.int .i64 v1.Code, .int .i64 v1.At])], [], [], []⟩ : S) ?_ ?_
    · have hF := hv
      refine Wk_split rfl (fun hb => ?_) (fun hb => ?_)
      · have hF := ite_t hF hb
        obtain ⟨x2, h2, hF⟩ := lt_split hF
        refine WR [.callB (.agg [.int .i64 x2.Code, .int .i64 x2.At])] [1, 2, 3, 4, 8, 9, 10] [4, 8, 9, 10] [] [] [] [] ⟨[(1, .int .i64 who), (2, .int .i64 now), (3, .int .i64 span), (4, .ptr 4 0), (8, .ptr 8 0), (9, .ptr 9 0), (10, .ptr 10 0)], [(4, (c_Lease l)), (8, [.int .i64 0, .int .i64 0, .int .i64 0]), (9, [.int .i64 0, .int .i64 0]), (10, [.int .i64 x2.Code, .int .i64 x2.At])], [], [], []⟩ (.cons (R_F_ok 9 0 x2 h2) .nil) (by kernel_rfl) ?_
        exact Wk_met (fs := [1, 2, 3, 4, 8, 9, 10]) (bs := [4, 8, 9, 10]) (rs := []) (ms := []) (aa := []) (nv := []) (by first | (rw [← hF]; kernel_rfl) | kernel_rfl)
      · have hF := ite_f hF hb
        refine Wk_skip ?_
        exact Wk_met (fs := [1, 2, 3, 4, 8, 9, 10]) (bs := [4, 8, 9, 10]) (rs := []) (ms := []) (aa := []) (nv := []) (by first | (rw [← hF]; kernel_rfl) | kernel_rfl)
    · refine Wk_seq ?_
      refine Wk_seq ?_
      refine WR [] [1, 2, 3, 4, 8, 9, 10, 49] [4, 8, 9, 10] [] [] [] [] ⟨[(1, .int .i64 who), (2, .int .i64 now), (3, .int .i64 span), (4, .ptr 4 0), (8, .ptr 8 0), (9, .ptr 9 0), (10, .ptr 10 0), (49, .bool (!decide (v1.Code = 0)))], [(4, (c_Lease l)), (8, [.int .i64 0, .int .i64 0, .int .i64 0]), (9, [.int .i64 0, .int .i64 0]), (10, [.int .i64 v1.Code, .int .i64 v1.At])], [], [], []⟩ .nil (by kernel_rfl) ?_
      refine Wk_split rfl (fun hb => ?_) (fun hb => ?_)
      · have hF := ite_t hF hb
        refine Wk_seq ?_
        refine WD [] [8, 9] [8, 9] [] [] [] [] ⟨[(8, .ptr 8 0), (9, .ptr 9 0)], [(8, [.int .i64 0, .int .i64 0, .int .i64 0]), (9, [.int .i64 v1.Code, .int .i64 v1.At])], [], [], []⟩ .nil (by kernel_rfl) ?_
        exact Wk_ret (hfin _ ⟨[], [], [], [], [], [], by first | (rw [← hF]; kernel_rfl) | kernel_rfl⟩)
      · have hF := ite_f hF hb
        refine Wk_skip ?_
        refine Wk_seq ?_
        refine WD [] [8, 9] [8, 9] [] [] [] [] ⟨[(8, .ptr 8 0), (9, .ptr 9 0)], [(8, [.int .i64 who, .int .i64 (w64 (l.Epoch + 1)), .int .i64 (w64 (now + span))]), (9, [.int .i64 v1.Code, .int .i64 v1.At])], [], [], []⟩ .nil (by kernel_rfl) ?_
        exact Wk_ret (hfin _ ⟨[], [], [], [], [], [], by first | (rw [← hF]; kernel_rfl) | kernel_rfl⟩)

/- tabularyref.Renewed -/
noncomputable def R_Renewed (l : Lease) (who : Int) (epoch : Int) (now : Int) (span : Int) : Lease × Fault :=
  lt (R_Wished l who now span) fun x =>
  lt (
    if ((decide (x.Code = 0)) && ((!decide (l.Holder = who)) || (!decide (l.Epoch = epoch)))) = true then
      lt (R_F 6 0) fun x1 =>
      x1
    else
      x) fun (v : Fault) =>
  lt (
    if ((decide (v.Code = 0)) && (decide (l.Until ≤ now))) = true then
      lt (R_F 12 0) fun x2 =>
      x2
    else
      v) fun (v1 : Fault) =>
  lt (
    if ((decide (v1.Code = 0)) && (decide (1000000000 < (w64 (now + span))))) = true then
      lt (R_F 9 0) fun x3 =>
      x3
    else
      v1) fun (v2 : Fault) =>
  if (!decide (v2.Code = 0)) = true then
    ((⟨0, 0, 0⟩ : Lease), v2)
  else
    lt (
      if (decide (l.Until < (w64 (now + span)))) = true then
        (⟨l.Holder, l.Epoch, w64 (now + span)⟩ : Lease)
      else
        l) fun (v3 : Lease) =>
    (v3, v2)
theorem R_Renewed_ok (l : Lease) (who : Int) (epoch : Int) (now : Int) (span : Int) (r : Lease × Fault) (hF : R_Renewed l who epoch now span = r) : Pe Try.prog 20 S.none [.agg (c_Lease l), .int .i64 who, .int .i64 epoch, .int .i64 now, .int .i64 span] (.tup [.agg (c_Lease r.1), .agg [.int .i64 r.2.Code, .int .i64 r.2.At]]) S.none := by
  refine Pe_of (N := 71) (res := [.cell 10 30, .cell 11 25]) (ts := [30, 25]) Ty.ok Fn.b20 Try.func20 rfl rfl rfl rfl rfl rfl ?_
  intro Q g hfin
  unfold R_Renewed at hF
  refine Wk_seq ?_
  refine WR [] [1, 2, 3, 4, 5, 10, 11] [5, 10, 11] [] [] [] [] ⟨[(1, .int .i64 who), (2, .int .i64 epoch), (3, .int .i64 now), (4, .int .i64 span), (5, .ptr 5 0), (10, .ptr 10 0), (11, .ptr 11 0)], [(5, (c_Lease l)), (10, [.int .i64 0, .int .i64 0, .int .i64 0]), (11, [.int .i64 0, .int .i64 0])], [], [], []⟩ .nil (by kernel_rfl) ?_
  refine Wk_seq ?_
  obtain ⟨x, h0, hF⟩ := lt_split hF
  refine WR [.callB (.agg [.int .i64 x.Code, .int .i64 x.At])] [1, 2, 3, 4, 5, 10, 11, 12] [5, 10, 11, 12] [] [] [] [] ⟨[(1, .int .i64 who), (2, .int .i64 epoch), (3, .int .i64 now), (4, .int .i64 span), (5, .ptr 5 0), (10, .ptr 10 0), (11, .ptr 11 0), (12, .ptr 12 0)], [(5, (c_Lease l)), (10, [.int .i64 0, .int .i64 0, .int .i64 0]), (11, [.int .i64 0, .int .i64 0]), (12, [.int .i64 x.Code, .int .i64 x.At])], [], [], []⟩ (.cons (R_Wished_ok l who now span x h0) .nil) (by kernel_rfl) ?_
  refine Wk_seq ?_
  refine Wk_seq ?_
  refine WR [] [3, 4, 5, 10, 11, 12, 32] [5, 10, 11, 12] [] [] [] [] ⟨[(3, .int .i64 now), (4, .int .i64 span), (5, .ptr 5 0), (10, .ptr 10 0), (11, .ptr 11 0), (12, .ptr 12 0), (32, .bool ((decide (x.Code = 0)) && ((!decide (l.Holder = who)) || (!decide (l.Epoch = epoch)))))], [(5, (c_Lease l)), (10, [.int .i64 0, .int .i64 0, .int .i64 0]), (11, [.int .i64 0, .int .i64 0]), (12, [.int .i64 x.Code, .int .i64 x.At])], [], [], []⟩ .nil (by kernel_rfl) ?_
  obtain ⟨v, hv, hF⟩ := lt_split hF
  refine Wk_meet (⟨[(3, .int .i64 now), (4, .int .i64 span), (5, .ptr 5 0), (10, .ptr 10 0), (11, .ptr 11 0), (12, .ptr 12 0)], [(5, (c_Lease l)), (10, [.int .i64 0, .int .i64 0, .int .i64 0]), (11, [.int .i64 0, .int .i64 0]), (12, [.int .i64 v.Code, .int .i64 v.At])], [], [], []⟩ : S) ?_ ?_
  · have hF := hv
    refine Wk_split rfl (fun hb => ?_) (fun hb => ?_)
    · have hF := ite_t hF hb
      obtain ⟨x1, h1, hF⟩ := lt_split hF
      refine WR [.callB (.agg [.int .i64 x1.Code, .int .i64 x1.At])] [3, 4, 5, 10, 11, 12] [5, 10, 11, 12] [] [] [] [] ⟨[(3, .int .i64 now), (4, .int .i64 span), (5, .ptr 5 0), (10, .ptr 10 0), (11, .ptr 11 0), (12, .ptr 12 0)], [(5, (c_Lease l)), (10, [.int .i64 0, .int .i64 0, .int .i64 0]), (11, [.int .i64 0, .int .i64 0]), (12, [.int .i64 x1.Code, .int .i64 x1.At])], [], [], []⟩ (.cons (R_F_ok 6 0 x1 h1) .nil) (by kernel_rfl) ?_
      exact Wk_met (fs := [3, 4, 5, 10, 11, 12]) (bs := [5, 10, 11, 12]) (rs := []) (ms := []) (aa := []) (nv := []) (by first | (rw [← hF]; kernel_rfl) | kernel_rfl)
    · have hF := ite_f hF hb
      refine Wk_skip ?_
      exact Wk_met (fs := [3, 4, 5, 10, 11, 12]) (bs := [5, 10, 11, 12]) (rs := []) (ms := []) (aa := []) (nv := []) (by first | (rw [← hF]; kernel_rfl) | kernel_rfl)
  · refine Wk_seq ?_
    refine Wk_seq ?_
    refine WR [] [3, 4, 5, 10, 11, 12, 42] [5, 10, 11, 12] [] [] [] [] ⟨[(3, .int .i64 now), (4, .int .i64 span), (5, .ptr 5 0), (10, .ptr 10 0), (11, .ptr 11 0), (12, .ptr 12 0), (42, .bool ((decide (v.Code = 0)) && (decide (l.Until ≤ now))))], [(5, (c_Lease l)), (10, [.int .i64 0, .int .i64 0, .int .i64 0]), (11, [.int .i64 0, .int .i64 0]), (12, [.int .i64 v.Code, .int .i64 v.At])], [], [], []⟩ .nil (by kernel_rfl) ?_
    obtain ⟨v1, hv, hF⟩ := lt_split hF
    refine Wk_meet (⟨[(3, .int .i64 now), (4, .int .i64 span), (5, .ptr 5 0), (10, .ptr 10 0), (11, .ptr 11 0), (12, .ptr 12 0)], [(5, (c_Lease l)), (10, [.int .i64 0, .int .i64 0, .int .i64 0]), (11, [.int .i64 0, .int .i64 0]), (12, [.int .i64 v1.Code, .int .i64 v1.At])], [], [], []⟩ : S) ?_ ?_
    · have hF := hv
      refine Wk_split rfl (fun hb => ?_) (fun hb => ?_)
      · have hF := ite_t hF hb
        obtain ⟨x2, h2, hF⟩ := lt_split hF
        refine WR [.callB (.agg [.int .i64 x2.Code, .int .i64 x2.At])] [3, 4, 5, 10, 11, 12] [5, 10, 11, 12] [] [] [] [] ⟨[(3, .int .i64 now), (4, .int .i64 span), (5, .ptr 5 0), (10, .ptr 10 0), (11, .ptr 11 0), (12, .ptr 12 0)], [(5, (c_Lease l)), (10, [.int .i64 0, .int .i64 0, .int .i64 0]), (11, [.int .i64 0, .int .i64 0]), (12, [.int .i64 x2.Code, .int .i64 x2.At])], [], [], []⟩ (.cons (R_F_ok 12 0 x2 h2) .nil) (by kernel_rfl) ?_
        exact Wk_met (fs := [3, 4, 5, 10, 11, 12]) (bs := [5, 10, 11, 12]) (rs := []) (ms := []) (aa := []) (nv := []) (by first | (rw [← hF]; kernel_rfl) | kernel_rfl)
      · have hF := ite_f hF hb
        refine Wk_skip ?_
        exact Wk_met (fs := [3, 4, 5, 10, 11, 12]) (bs := [5, 10, 11, 12]) (rs := []) (ms := []) (aa := []) (nv := []) (by first | (rw [← hF]; kernel_rfl) | kernel_rfl)
    · refine Wk_seq ?_
      refine Wk_seq ?_
      refine WR [] [3, 4, 5, 10, 11, 12, 52] [5, 10, 11, 12] [] [] [] [] ⟨[(3, .int .i64 now), (4, .int .i64 span), (5, .ptr 5 0), (10, .ptr 10 0), (11, .ptr 11 0), (12, .ptr 12 0), (52, .bool ((decide (v1.Code = 0)) && (decide (1000000000 < (w64 (now + span))))))], [(5, (c_Lease l)), (10, [.int .i64 0, .int .i64 0, .int .i64 0]), (11, [.int .i64 0, .int .i64 0]), (12, [.int .i64 v1.Code, .int .i64 v1.At])], [], [], []⟩ .nil (by kernel_rfl) ?_
      obtain ⟨v2, hv, hF⟩ := lt_split hF
      refine Wk_meet (⟨[(3, .int .i64 now), (4, .int .i64 span), (5, .ptr 5 0), (10, .ptr 10 0), (11, .ptr 11 0), (12, .ptr 12 0)], [(5, (c_Lease l)), (10, [.int .i64 0, .int .i64 0, .int .i64 0]), (11, [.int .i64 0, .int .i64 0]), (12, [.int .i64 v2.Code, .int .i64 v2.At])], [], [], []⟩ : S) ?_ ?_
      · have hF := hv
        refine Wk_split rfl (fun hb => ?_) (fun hb => ?_)
        · have hF := ite_t hF hb
          obtain ⟨x3, h3, hF⟩ := lt_split hF
          refine WR [.callB (.agg [.int .i64 x3.Code, .int .i64 x3.At])] [3, 4, 5, 10, 11, 12] [5, 10, 11, 12] [] [] [] [] ⟨[(3, .int .i64 now), (4, .int .i64 span), (5, .ptr 5 0), (10, .ptr 10 0), (11, .ptr 11 0), (12, .ptr 12 0)], [(5, (c_Lease l)), (10, [.int .i64 0, .int .i64 0, .int .i64 0]), (11, [.int .i64 0, .int .i64 0]), (12, [.int .i64 x3.Code, .int .i64 x3.At])], [], [], []⟩ (.cons (R_F_ok 9 0 x3 h3) .nil) (by kernel_rfl) ?_
          exact Wk_met (fs := [3, 4, 5, 10, 11, 12]) (bs := [5, 10, 11, 12]) (rs := []) (ms := []) (aa := []) (nv := []) (by first | (rw [← hF]; kernel_rfl) | kernel_rfl)
        · have hF := ite_f hF hb
          refine Wk_skip ?_
          exact Wk_met (fs := [3, 4, 5, 10, 11, 12]) (bs := [5, 10, 11, 12]) (rs := []) (ms := []) (aa := []) (nv := []) (by first | (rw [← hF]; kernel_rfl) | kernel_rfl)
      · refine Wk_seq ?_
        refine Wk_seq ?_
        refine WR [] [3, 4, 5, 10, 11, 12, 56] [5, 10, 11, 12] [] [] [] [] ⟨[(3, .int .i64 now), (4, .int .i64 span), (5, .ptr 5 0), (10, .ptr 10 0), (11, .ptr 11 0), (12, .ptr 12 0), (56, .bool (!decide (v2.Code = 0)))], [(5, (c_Lease l)), (10, [.int .i64 0, .int .i64 0, .int .i64 0]), (11, [.int .i64 0, .int .i64 0]), (12, [.int .i64 v2.Code, .int .i64 v2.At])], [], [], []⟩ .nil (by kernel_rfl) ?_
        refine Wk_split rfl (fun hb => ?_) (fun hb => ?_)
        · have hF := ite_t hF hb
          refine Wk_seq ?_
          refine WD [] [10, 11] [10, 11] [] [] [] [] ⟨[(10, .ptr 10 0), (11, .ptr 11 0)], [(10, [.int .i64 0, .int .i64 0, .int .i64 0]), (11, [.int .i64 v2.Code, .int .i64 v2.At])], [], [], []⟩ .nil (by kernel_rfl) ?_
          exact Wk_ret (hfin _ ⟨[], [], [], [], [], [], by first | (rw [← hF]; kernel_rfl) | kernel_rfl⟩)
        · have hF := ite_f hF hb
          refine Wk_skip ?_
          refine Wk_seq ?_
          refine Wk_seq ?_
          refine WR [] [3, 4, 5, 10, 11, 12, 64] [5, 10, 11, 12] [] [] [] [] ⟨[(3, .int .i64 now), (4, .int .i64 span), (5, .ptr 5 0), (10, .ptr 10 0), (11, .ptr 11 0), (12, .ptr 12 0), (64, .bool (decide (l.Until < (w64 (now + span)))))], [(5, (c_Lease l)), (10, [.int .i64 0, .int .i64 0, .int .i64 0]), (11, [.int .i64 0, .int .i64 0]), (12, [.int .i64 v2.Code, .int .i64 v2.At])], [], [], []⟩ .nil (by kernel_rfl) ?_
          obtain ⟨v3, hv, hF⟩ := lt_split hF
          refine Wk_meet (⟨[(5, .ptr 5 0), (10, .ptr 10 0), (11, .ptr 11 0), (12, .ptr 12 0)], [(5, (c_Lease v3)), (10, [.int .i64 0, .int .i64 0, .int .i64 0]), (11, [.int .i64 0, .int .i64 0]), (12, [.int .i64 v2.Code, .int .i64 v2.At])], [], [], []⟩ : S) ?_ ?_
          · have hF := hv
            refine Wk_split rfl (fun hb => ?_) (fun hb => ?_)
            · have hF := ite_t hF hb
              refine WR [] [5, 10, 11, 12] [5, 10, 11, 12] [] [] [] [] ⟨[(5, .ptr 5 0), (10, .ptr 10 0), (11, .ptr 11 0), (12, .ptr 12 0)], [(5, [.int .i64 l.Holder, .int .i64 l.Epoch, .int .i64 (w64 (now + span))]), (10, [.int .i64 0, .int .i64 0, .int .i64 0]), (11, [.int .i64 0, .int .i64 0]), (12, [.int .i64 v2.Code, .int .i64 v2.At])], [], [], []⟩ .nil (by kernel_rfl) ?_
              exact Wk_met (fs := [5, 10, 11, 12]) (bs := [5, 10, 11, 12]) (rs := []) (ms := []) (aa := []) (nv := []) (by first | (rw [← hF]; kernel_rfl) | kernel_rfl)
            · have hF := ite_f hF hb
              refine Wk_skip ?_
              exact Wk_met (fs := [5, 10, 11, 12]) (bs := [5, 10, 11, 12]) (rs := []) (ms := []) (aa := []) (nv := []) (by first | (rw [← hF]; kernel_rfl) | kernel_rfl)
          · refine Wk_seq ?_
            refine WD [] [10, 11] [10, 11] [] [] [] [] ⟨[(10, .ptr 10 0), (11, .ptr 11 0)], [(10, (c_Lease v3)), (11, [.int .i64 v2.Code, .int .i64 v2.At])], [], [], []⟩ .nil (by kernel_rfl) ?_
            exact Wk_ret (hfin _ ⟨[], [], [], [], [], [], by first | (rw [← hF]; kernel_rfl) | kernel_rfl⟩)

end G
end Go.Proofs.Ytgflfhdbihahcaa
