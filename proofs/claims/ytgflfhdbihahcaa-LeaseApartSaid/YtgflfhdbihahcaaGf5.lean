/- The program's functions as plain functions, and that they are these. Written by a program (dec2.py). -/
import Derived.Test.YtgflfhdbihahcaaGf4
namespace Go.Proofs.Ytgflfhdbihahcaa
open Go Go.Dm
set_option linter.unusedVariables false
set_option linter.unusedSimpArgs false
set_option maxRecDepth 100000
namespace G
/- lease.run -/
noncomputable def lease_run_v3_J1 (v : Int × Int × Int × Int × List Int × List Trust × List Wish × List Reply × Int) : Option (Int × Int × Int × Int × List Int × List Trust × List Wish × List Reply × Fault) :=
  some (v.1, v.2.1, v.2.2.1, v.2.2.2.1, v.2.2.2.2.1, v.2.2.2.2.2.1, v.2.2.2.2.2.2.1, v.2.2.2.2.2.2.2.1, (⟨0, 0⟩ : Fault))
noncomputable def lease_run_v3_B1 (deeds : List Deed) (v1 : Int × Int × Int × Int × List Int × List Trust × List Wish × List Reply × Int × Int) : Option ((Int × Int × Int × Int × List Int × List Trust × List Wish × List Reply × Int × Int) ⊕ (Int × Int × Int × Int × List Int × List Trust × List Wish × List Reply × Fault)) :=
  if (decide (v1.2.2.2.2.2.2.2.2.2 < (deeds.length : Int))) = true then
    asrt (0 ≤ v1.2.2.2.2.2.2.2.2.2 ∧ v1.2.2.2.2.2.2.2.2.2 < (deeds.length : Int)) <|
    ob (lease_court_does_v1 (⟨(lget deeds v1.2.2.2.2.2.2.2.2.2).Kind, (lget deeds v1.2.2.2.2.2.2.2.2.2).Who, (lget deeds v1.2.2.2.2.2.2.2.2.2).N⟩ : Deed) v1.1 v1.2.1 v1.2.2.1 v1.2.2.2.1 v1.2.2.2.2.2.2.2.2.1 v1.2.2.2.2.1 v1.2.2.2.2.2.1 v1.2.2.2.2.2.2.1 v1.2.2.2.2.2.2.2.1) fun x3 =>
    if (!decide (x3.1 = 0)) = true then
      lt (lease_fault x3.1 v1.2.2.2.2.2.2.2.2.2) fun x4 =>
      some (Sum.inr (0, 0, 0, 0, ([] : List Int), ([] : List Trust), ([] : List Wish), ([] : List Reply), x4))
    else
      lt (lease_Play_1 x3.2.1 x3.2.2.1 x3.2.2.2.1 x3.2.2.2.2.1 x3.2.2.2.2.2.2.2.2.2 x3.2.2.2.2.2.1 x3.2.2.2.2.2.2.1 x3.2.2.2.2.2.2.2.1 x3.2.2.2.2.2.2.2.2.1) fun x5 =>
      some (Sum.inl (x3.2.1, x3.2.2.1, x3.2.2.2.1, x3.2.2.2.2.1, x3.2.2.2.2.2.1, x3.2.2.2.2.2.2.1, x3.2.2.2.2.2.2.2.1, x3.2.2.2.2.2.2.2.2.1, x3.2.2.2.2.2.2.2.2.2, w64 (v1.2.2.2.2.2.2.2.2.2 + 1)))
  else
    inrO (lease_run_v3_J1 (v1.1, v1.2.1, v1.2.2.1, v1.2.2.2.1, v1.2.2.2.2.1, v1.2.2.2.2.2.1, v1.2.2.2.2.2.2.1, v1.2.2.2.2.2.2.2.1, v1.2.2.2.2.2.2.2.2.1))
noncomputable def lease_run_v3_L1 (deeds : List Deed) (v0 : Int × Int × Int × Int × List Int × List Trust × List Wish × List Reply × Int × Int) : Option (Int × Int × Int × Int × List Int × List Trust × List Wish × List Reply × Fault) :=
  loopO (fun y => lease_run_v3_B1 deeds y) v0
noncomputable def lease_run_v3 (span : Int) (clients : Int) (deeds : List Deed) : Option (Int × Int × Int × Int × List Int × List Trust × List Wish × List Reply × Fault) :=
  lt (lease_spanned span) fun x =>
  if (!decide (x.Code = 0)) = true then
    some (0, 0, 0, 0, ([] : List Int), ([] : List Trust), ([] : List Wish), ([] : List Reply), x)
  else
    if ((decide (clients < 1)) || (decide (8 < clients))) = true then
      lt (lease_fault 3 (-1)) fun x1 =>
      some (0, 0, 0, 0, ([] : List Int), ([] : List Trust), ([] : List Wish), ([] : List Reply), x1)
    else
      if (decide (2000 < (deeds.length : Int))) = true then
        lt (lease_fault 2 (-1)) fun x2 =>
        some (0, 0, 0, 0, ([] : List Int), ([] : List Trust), ([] : List Wish), ([] : List Reply), x2)
      else
        asrt (0 ≤ (clients : Int) ∧ clients ≤ clients ∧ clients * 8 ≤ 140737488351232) <|
        asrt (0 ≤ (clients : Int) ∧ clients ≤ clients ∧ clients * 16 ≤ 140737488351232) <|
        lease_run_v3_L1 deeds (0, 0, 0, 0, (List.replicate clients.toNat (0 : Int)), (List.replicate clients.toNat ((⟨0, 0⟩ : Trust) : Trust)), ([] : List Wish), ([] : List Reply), span, 0)
theorem lease_run_v3_ok (span : Int) (clients : Int) (deeds : List Deed) (r : Int × Int × Int × Int × List Int × List Trust × List Wish × List Reply × Fault) (hF : lease_run_v3 span clients deeds = some r) : Pe Try.prog 55 ⟨[], [], [], [], []⟩ [.int .i64 span, .int .i64 clients, .sl 3 (deeds.map e_Deed), .fn 56 []] (.tup [.agg [.int .i64 r.1, .int .i64 r.2.1, .int .i64 r.2.2.1, .int .i64 r.2.2.2.1, .row 41 0, .row 43 0, .row 59 0, .row 20059 0], .agg [.int .i64 r.2.2.2.2.2.2.2.2.Code, .int .i64 r.2.2.2.2.2.2.2.2.At]]) ⟨[], [], [(41, ⟨3, 1, 0, 0, 0, false, 0, [], (r.2.2.2.2.1.map e_i64)⟩), (43, ⟨60, 2, 0, 0, 0, false, 0, [], (r.2.2.2.2.2.1.map e_Trust)⟩), (59, ⟨103, 3, 0, 0, 0, false, 0, [], (r.2.2.2.2.2.2.1.map e_Wish)⟩), (20059, ⟨105, 3, 0, 0, 0, false, 0, [], (r.2.2.2.2.2.2.2.1.map e_Reply)⟩)], [], []⟩ := by
  refine Pe_of (N := 75) (res := [.cell 8 44, .cell 9 25]) (ts := [44, 25]) Ty.ok Fn.b55 Try.func55 rfl rfl rfl rfl rfl rfl ?_
  intro Q g hfin
  unfold lease_run_v3 at hF
  refine Wk_seq ?_
  refine WR [] [0, 1, 2, 3, 8, 9] [8, 9] [] [] [] [] ⟨[(0, .int .i64 span), (1, .int .i64 clients), (2, .sl 3 (deeds.map e_Deed)), (3, .fn 56 []), (8, .ptr 8 0), (9, .ptr 9 0)], [(8, [.int .i64 0, .int .i64 0, .int .i64 0, .int .i64 0, .nils, .nils, .nils, .nils]), (9, [.int .i64 0, .int .i64 0])], [], [], []⟩ .nil (by kernel_rfl) ?_
  refine Wk_seq ?_
  refine Wk_seq ?_
  obtain ⟨x, h0, hF⟩ := lt_split hF
  refine WR [.callB (.agg [.int .i64 x.Code, .int .i64 x.At])] [0, 1, 2, 3, 8, 9, 10] [8, 9, 10] [] [] [] [] ⟨[(0, .int .i64 span), (1, .int .i64 clients), (2, .sl 3 (deeds.map e_Deed)), (3, .fn 56 []), (8, .ptr 8 0), (9, .ptr 9 0), (10, .ptr 10 0)], [(8, [.int .i64 0, .int .i64 0, .int .i64 0, .int .i64 0, .nils, .nils, .nils, .nils]), (9, [.int .i64 0, .int .i64 0]), (10, [.int .i64 x.Code, .int .i64 x.At])], [], [], []⟩ (.cons (lease_spanned_ok span x h0) .nil) (by kernel_rfl) ?_
  refine Wk_seq ?_
  refine WR [] [0, 1, 2, 3, 8, 9, 10, 19] [8, 9, 10] [] [] [] [] ⟨[(0, .int .i64 span), (1, .int .i64 clients), (2, .sl 3 (deeds.map e_Deed)), (3, .fn 56 []), (8, .ptr 8 0), (9, .ptr 9 0), (10, .ptr 10 0), (19, .bool (!decide (x.Code = 0)))], [(8, [.int .i64 0, .int .i64 0, .int .i64 0, .int .i64 0, .nils, .nils, .nils, .nils]), (9, [.int .i64 0, .int .i64 0]), (10, [.int .i64 x.Code, .int .i64 x.At])], [], [], []⟩ .nil (by kernel_rfl) ?_
  refine Wk_split rfl (fun hb => ?_) (fun hb => ?_)
  · have hF := ite_t hF hb
    refine Wk_seq ?_
    refine WD [] [8, 9] [8, 9] [] [] [] [] ⟨[(8, .ptr 8 0), (9, .ptr 9 0)], [(8, [.int .i64 0, .int .i64 0, .int .i64 0, .int .i64 0, .nils, .nils, .nils, .nils]), (9, [.int .i64 x.Code, .int .i64 x.At])], [], [], []⟩ .nil (by kernel_rfl) ?_
    have hF := some_elim hF
    refine Wk_nilrowB 8 4 60000 3 1 rfl rfl rfl rfl rfl ?_
    refine Wk_nilrowB 8 5 60001 60 2 rfl rfl rfl rfl rfl ?_
    refine Wk_nilrowB 8 6 60002 103 3 rfl rfl rfl rfl rfl ?_
    refine Wk_nilrowB 8 7 60003 105 3 rfl rfl rfl rfl rfl ?_
    refine Wk_ren' ⟨[], [(60000, 41), (60001, 43), (60002, 59), (60003, 20059)], [], []⟩ rfl ?_
    exact Wk_ret (hfin _ ⟨[41, 43, 59, 20059], [], [41, 43, 59, 20059], [], [], [(41, ⟨0, true, false, false⟩), (43, ⟨0, true, false, false⟩), (59, ⟨0, true, false, false⟩), (20059, ⟨0, true, false, false⟩)], by first | (rw [← hF]; kernel_rfl) | kernel_rfl⟩)
  · have hF := ite_f hF hb
    refine Wk_skip ?_
    refine Wk_seq ?_
    refine Wk_seq ?_
    refine WR [] [0, 1, 2, 3, 8, 9, 27] [8, 9] [] [] [] [] ⟨[(0, .int .i64 span), (1, .int .i64 clients), (2, .sl 3 (deeds.map e_Deed)), (3, .fn 56 []), (8, .ptr 8 0), (9, .ptr 9 0), (27, .bool ((decide (clients < 1)) || (decide (8 < clients))))], [(8, [.int .i64 0, .int .i64 0, .int .i64 0, .int .i64 0, .nils, .nils, .nils, .nils]), (9, [.int .i64 0, .int .i64 0])], [], [], []⟩ .nil (by kernel_rfl) ?_
    refine Wk_split rfl (fun hb => ?_) (fun hb => ?_)
    · have hF := ite_t hF hb
      refine Wk_seq ?_
      obtain ⟨x1, h1, hF⟩ := lt_split hF
      refine WR [.callB (.agg [.int .i64 x1.Code, .int .i64 x1.At])] [8, 9] [8, 9] [] [] [] [] ⟨[(8, .ptr 8 0), (9, .ptr 9 0)], [(8, [.int .i64 0, .int .i64 0, .int .i64 0, .int .i64 0, .nils, .nils, .nils, .nils]), (9, [.int .i64 x1.Code, .int .i64 x1.At])], [], [], []⟩ (.cons (lease_fault_ok 3 (-1) x1 h1) .nil) (by kernel_rfl) ?_
      have hF := some_elim hF
      refine Wk_nilrowB 8 4 60004 3 1 rfl rfl rfl rfl rfl ?_
      refine Wk_nilrowB 8 5 60005 60 2 rfl rfl rfl rfl rfl ?_
      refine Wk_nilrowB 8 6 60006 103 3 rfl rfl rfl rfl rfl ?_
      refine Wk_nilrowB 8 7 60007 105 3 rfl rfl rfl rfl rfl ?_
      refine Wk_ren' ⟨[], [(60004, 41), (60005, 43), (60006, 59), (60007, 20059)], [], []⟩ rfl ?_
      exact Wk_ret (hfin _ ⟨[41, 43, 59, 20059], [], [41, 43, 59, 20059], [], [], [(41, ⟨0, true, false, false⟩), (43, ⟨0, true, false, false⟩), (59, ⟨0, true, false, false⟩), (20059, ⟨0, true, false, false⟩)], by first | (rw [← hF]; kernel_rfl) | kernel_rfl⟩)
    · have hF := ite_f hF hb
      refine Wk_skip ?_
      refine Wk_seq ?_
      refine Wk_seq ?_
      refine WR [.nat (deeds.length : Int)] [0, 1, 2, 3, 8, 9, 32] [8, 9] [] [] [] [] ⟨[(0, .int .i64 span), (1, .int .i64 clients), (2, .sl 3 (deeds.map e_Deed)), (3, .fn 56 []), (8, .ptr 8 0), (9, .ptr 9 0), (32, .bool (decide (2000 < (deeds.length : Int))))], [(8, [.int .i64 0, .int .i64 0, .int .i64 0, .int .i64 0, .nils, .nils, .nils, .nils]), (9, [.int .i64 0, .int .i64 0])], [], [], []⟩ (.cons (len_ok e_Deed deeds) .nil) (by kernel_rfl) ?_
      refine Wk_split rfl (fun hb => ?_) (fun hb => ?_)
      · have hF := ite_t hF hb
        refine Wk_seq ?_
        obtain ⟨x2, h2, hF⟩ := lt_split hF
        refine WR [.callB (.agg [.int .i64 x2.Code, .int .i64 x2.At])] [8, 9] [8, 9] [] [] [] [] ⟨[(8, .ptr 8 0), (9, .ptr 9 0)], [(8, [.int .i64 0, .int .i64 0, .int .i64 0, .int .i64 0, .nils, .nils, .nils, .nils]), (9, [.int .i64 x2.Code, .int .i64 x2.At])], [], [], []⟩ (.cons (lease_fault_ok 2 (-1) x2 h2) .nil) (by kernel_rfl) ?_
        have hF := some_elim hF
        refine Wk_nilrowB 8 4 60008 3 1 rfl rfl rfl rfl rfl ?_
        refine Wk_nilrowB 8 5 60009 60 2 rfl rfl rfl rfl rfl ?_
        refine Wk_nilrowB 8 6 60010 103 3 rfl rfl rfl rfl rfl ?_
        refine Wk_nilrowB 8 7 60011 105 3 rfl rfl rfl rfl rfl ?_
        refine Wk_ren' ⟨[], [(60008, 41), (60009, 43), (60010, 59), (60011, 20059)], [], []⟩ rfl ?_
        exact Wk_ret (hfin _ ⟨[41, 43, 59, 20059], [], [41, 43, 59, 20059], [], [], [(41, ⟨0, true, false, false⟩), (43, ⟨0, true, false, false⟩), (59, ⟨0, true, false, false⟩), (20059, ⟨0, true, false, false⟩)], by first | (rw [← hF]; kernel_rfl) | kernel_rfl⟩)
      · have hF := ite_f hF hb
        refine Wk_skip ?_
        refine Wk_seq ?_
        refine WR [] [1, 2, 3, 8, 9, 11] [8, 9, 37] [] [] [] [] ⟨[(1, .int .i64 clients), (2, .sl 3 (deeds.map e_Deed)), (3, .fn 56 []), (8, .ptr 8 0), (9, .ptr 9 0), (11, .ptr 37 0)], [(8, [.int .i64 0, .int .i64 0, .int .i64 0, .int .i64 0, .nils, .nils, .nils, .nils]), (9, [.int .i64 0, .int .i64 0]), (37, [.int .i64 0, .int .i64 0, .int .i64 0, .int .i64 0, .nils, .nils, .nils, .nils, .int .i64 span])], [], [], []⟩ .nil (by kernel_rfl) ?_
        refine Wk_seq ?_
        obtain ⟨h3, hF⟩ := asrt_elim hF
        obtain ⟨h4, hF⟩ := asrt_elim hF
        refine WD [.xs ((List.replicate clients.toNat (0 : Int)).map e_i64), .xs ((List.replicate clients.toNat ((⟨0, 0⟩ : Trust) : Trust)).map e_Trust)] [2, 3, 8, 9, 11] [8, 9, 37] [41, 43] [] [] [] ⟨[(2, .sl 3 (deeds.map e_Deed)), (3, .fn 56 []), (8, .ptr 8 0), (9, .ptr 9 0), (11, .ptr 37 0)], [(8, [.int .i64 0, .int .i64 0, .int .i64 0, .int .i64 0, .nils, .nils, .nils, .nils]), (9, [.int .i64 0, .int .i64 0]), (37, [.int .i64 0, .int .i64 0, .int .i64 0, .int .i64 0, .row 41 0, .row 43 0, .nils, .nils, .int .i64 span])], [(41, ⟨3, 1, 0, 0, 0, false, 0, [], ((List.replicate clients.toNat (0 : Int)).map e_i64)⟩), (43, ⟨60, 2, 0, 0, 0, false, 0, [], ((List.replicate clients.toNat ((⟨0, 0⟩ : Trust) : Trust)).map e_Trust)⟩)], [], []⟩ (.cons (mk_ok h3) (.cons (rep_ok e_i64 clients (0 : Int)) (.cons (mk_ok h4) (.cons (rep_ok e_Trust clients ((⟨0, 0⟩ : Trust) : Trust)) .nil)))) (by kernel_rfl) ?_
        refine Wk_seq ?_
        refine Wk_seq ?_
        refine WR [.nat (deeds.length : Int)] [3, 8, 9, 11, 50, 51, 52] [8, 9, 37] [41, 43] [] [] [] ⟨[(3, .fn 56 []), (8, .ptr 8 0), (9, .ptr 9 0), (11, .ptr 37 0), (50, .sl 3 (deeds.map e_Deed)), (51, .int .i64 (deeds.length : Int)), (52, .int .i64 0)], [(8, [.int .i64 0, .int .i64 0, .int .i64 0, .int .i64 0, .nils, .nils, .nils, .nils]), (9, [.int .i64 0, .int .i64 0]), (37, [.int .i64 0, .int .i64 0, .int .i64 0, .int .i64 0, .row 41 0, .row 43 0, .nils, .nils, .int .i64 span])], [(41, ⟨3, 1, 0, 0, 0, false, 0, [], ((List.replicate clients.toNat (0 : Int)).map e_i64)⟩), (43, ⟨60, 2, 0, 0, 0, false, 0, [], ((List.replicate clients.toNat ((⟨0, 0⟩ : Trust) : Trust)).map e_Trust)⟩)], [], []⟩ (.cons (len_ok e_Deed deeds) .nil) (by kernel_rfl) ?_
        refine Wk_meetP (fun v : Int × Int × Int × Int × List Int × List Trust × List Wish × List Reply × Int => (⟨[(8, .ptr 8 0), (9, .ptr 9 0), (11, .ptr 37 0)], [(8, [.int .i64 0, .int .i64 0, .int .i64 0, .int .i64 0, .nils, .nils, .nils, .nils]), (9, [.int .i64 0, .int .i64 0]), (37, [.int .i64 v.1, .int .i64 v.2.1, .int .i64 v.2.2.1, .int .i64 v.2.2.2.1, .row 41 0, .row 43 0, .row 59 0, .row 20059 0, .int .i64 v.2.2.2.2.2.2.2.2])], [(41, ⟨3, 1, 0, 0, 0, false, 0, [], (v.2.2.2.2.1.map e_i64)⟩), (43, ⟨60, 2, 0, 0, 0, false, 0, [], (v.2.2.2.2.2.1.map e_Trust)⟩), (59, ⟨103, 3, 0, 0, 0, false, 0, [], (v.2.2.2.2.2.2.1.map e_Wish)⟩), (20059, ⟨105, 3, 0, 0, 0, false, 0, [], (v.2.2.2.2.2.2.2.1.map e_Reply)⟩)], [], []⟩ : S)) (fun v => lease_run_v3_J1 v = some r) ?_ ?_
        · refine Wk_block ?_
          unfold lease_run_v3_L1 at hF
          refine Wk_nilrowB 37 6 60012 103 3 rfl rfl rfl rfl rfl ?_
          refine Wk_nilrowB 37 7 60013 105 3 rfl rfl rfl rfl rfl ?_
          refine Wk_trim (fs := [3, 8, 9, 11, 50, 51, 52]) (bs := [8, 9, 37]) (rs := [41, 43, 60012, 60013]) (ms := []) (aa := []) (nv := []) rfl ?_
          refine Wk_ren' ⟨[], [(60012, 59), (60013, 20059)], [], []⟩ rfl ?_
          refine Wk_trim (fs := [3, 8, 9, 11, 50, 51, 52]) (bs := [8, 9, 37]) (rs := [41, 43, 59, 20059]) (ms := []) (aa := []) (nv := [(59, ⟨0, true, false, false⟩), (20059, ⟨0, true, false, false⟩)]) (t := (fun v1 : Int × Int × Int × Int × List Int × List Trust × List Wish × List Reply × Int × Int => (⟨[(3, .fn 56 []), (8, .ptr 8 0), (9, .ptr 9 0), (11, .ptr 37 0), (50, .sl 3 (deeds.map e_Deed)), (51, .int .i64 (deeds.length : Int)), (52, .int .i64 v1.2.2.2.2.2.2.2.2.2)], [(8, [.int .i64 0, .int .i64 0, .int .i64 0, .int .i64 0, .nils, .nils, .nils, .nils]), (9, [.int .i64 0, .int .i64 0]), (37, [.int .i64 v1.1, .int .i64 v1.2.1, .int .i64 v1.2.2.1, .int .i64 v1.2.2.2.1, .row 41 0, .row 43 0, .row 59 0, .row 20059 0, .int .i64 v1.2.2.2.2.2.2.2.2.1])], [(41, ⟨3, 1, 0, 0, 0, false, 0, [], (v1.2.2.2.2.1.map e_i64)⟩), (43, ⟨60, 2, 0, 0, 0, false, 0, [], (v1.2.2.2.2.2.1.map e_Trust)⟩), (59, ⟨103, 3, 0, 0, 0, false, 0, [], (v1.2.2.2.2.2.2.1.map e_Wish)⟩), (20059, ⟨105, 3, 0, 0, 0, false, 0, [], (v1.2.2.2.2.2.2.2.1.map e_Reply)⟩)], [], []⟩ : S)) (0, 0, 0, 0, (List.replicate clients.toNat (0 : Int)), (List.replicate clients.toNat ((⟨0, 0⟩ : Trust) : Trust)), ([] : List Wish), ([] : List Reply), span, 0)) (by kernel_rfl) ?_
          refine Wk_iter (step := fun y => lease_run_v3_B1 deeds y) (r := r) (fun v1 : Int × Int × Int × Int × List Int × List Trust × List Wish × List Reply × Int × Int => (⟨[(3, .fn 56 []), (8, .ptr 8 0), (9, .ptr 9 0), (11, .ptr 37 0), (50, .sl 3 (deeds.map e_Deed)), (51, .int .i64 (deeds.length : Int)), (52, .int .i64 v1.2.2.2.2.2.2.2.2.2)], [(8, [.int .i64 0, .int .i64 0, .int .i64 0, .int .i64 0, .nils, .nils, .nils, .nils]), (9, [.int .i64 0, .int .i64 0]), (37, [.int .i64 v1.1, .int .i64 v1.2.1, .int .i64 v1.2.2.1, .int .i64 v1.2.2.2.1, .row 41 0, .row 43 0, .row 59 0, .row 20059 0, .int .i64 v1.2.2.2.2.2.2.2.2.1])], [(41, ⟨3, 1, 0, 0, 0, false, 0, [], (v1.2.2.2.2.1.map e_i64)⟩), (43, ⟨60, 2, 0, 0, 0, false, 0, [], (v1.2.2.2.2.2.1.map e_Trust)⟩), (59, ⟨103, 3, 0, 0, 0, false, 0, [], (v1.2.2.2.2.2.2.1.map e_Wish)⟩), (20059, ⟨105, 3, 0, 0, 0, false, 0, [], (v1.2.2.2.2.2.2.2.1.map e_Reply)⟩)], [], []⟩ : S)) (0, 0, 0, 0, (List.replicate clients.toNat (0 : Int)), (List.replicate clients.toNat ((⟨0, 0⟩ : Trust) : Trust)), ([] : List Wish), ([] : List Reply), span, 0) hF ?_
          intro n1 v1 y1 hF ih1 dn1
          have hF : lease_run_v3_B1 deeds v1 = some y1 := hF
          unfold lease_run_v3_B1 at hF
          refine Wk_seq ?_
          refine WR [] [3, 8, 9, 11, 50, 51, 52, 53] [8, 9, 37] [41, 43, 59, 20059] [] [] [] ⟨[(3, .fn 56 []), (8, .ptr 8 0), (9, .ptr 9 0), (11, .ptr 37 0), (50, .sl 3 (deeds.map e_Deed)), (51, .int .i64 (deeds.length : Int)), (52, .int .i64 v1.2.2.2.2.2.2.2.2.2), (53, .bool (decide (v1.2.2.2.2.2.2.2.2.2 < (deeds.length : Int))))], [(8, [.int .i64 0, .int .i64 0, .int .i64 0, .int .i64 0, .nils, .nils, .nils, .nils]), (9, [.int .i64 0, .int .i64 0]), (37, [.int .i64 v1.1, .int .i64 v1.2.1, .int .i64 v1.2.2.1, .int .i64 v1.2.2.2.1, .row 41 0, .row 43 0, .row 59 0, .row 20059 0, .int .i64 v1.2.2.2.2.2.2.2.2.1])], [(41, ⟨3, 1, 0, 0, 0, false, 0, [], (v1.2.2.2.2.1.map e_i64)⟩), (43, ⟨60, 2, 0, 0, 0, false, 0, [], (v1.2.2.2.2.2.1.map e_Trust)⟩), (59, ⟨103, 3, 0, 0, 0, false, 0, [], (v1.2.2.2.2.2.2.1.map e_Wish)⟩), (20059, ⟨105, 3, 0, 0, 0, false, 0, [], (v1.2.2.2.2.2.2.2.1.map e_Reply)⟩)], [], []⟩ .nil (by kernel_rfl) ?_
          refine Wk_seq ?_
          refine Wk_split rfl (fun hb => ?_) (fun hb => ?_)
          · have hF := ite_t hF hb
            refine Wk_skip ?_
            refine Wk_seq ?_
            refine Wk_block ?_
            refine Wk_seq ?_
            obtain ⟨h5, hF⟩ := asrt_elim hF
            refine WR [.av (e_Deed (lget deeds v1.2.2.2.2.2.2.2.2.2))] [3, 8, 9, 11, 12, 13, 50, 51, 52] [8, 9, 13, 37] [41, 43, 59, 20059] [] [] [] ⟨[(3, .fn 56 []), (8, .ptr 8 0), (9, .ptr 9 0), (11, .ptr 37 0), (12, .int .i64 v1.2.2.2.2.2.2.2.2.2), (13, .ptr 13 0), (50, .sl 3 (deeds.map e_Deed)), (51, .int .i64 (deeds.length : Int)), (52, .int .i64 v1.2.2.2.2.2.2.2.2.2)], [(8, [.int .i64 0, .int .i64 0, .int .i64 0, .int .i64 0, .nils, .nils, .nils, .nils]), (9, [.int .i64 0, .int .i64 0]), (13, (c_Deed (lget deeds v1.2.2.2.2.2.2.2.2.2))), (37, [.int .i64 v1.1, .int .i64 v1.2.1, .int .i64 v1.2.2.1, .int .i64 v1.2.2.2.1, .row 41 0, .row 43 0, .row 59 0, .row 20059 0, .int .i64 v1.2.2.2.2.2.2.2.2.1])], [(41, ⟨3, 1, 0, 0, 0, false, 0, [], (v1.2.2.2.2.1.map e_i64)⟩), (43, ⟨60, 2, 0, 0, 0, false, 0, [], (v1.2.2.2.2.2.1.map e_Trust)⟩), (59, ⟨103, 3, 0, 0, 0, false, 0, [], (v1.2.2.2.2.2.2.1.map e_Wish)⟩), (20059, ⟨105, 3, 0, 0, 0, false, 0, [], (v1.2.2.2.2.2.2.2.1.map e_Reply)⟩)], [], []⟩ (.cons (idx_ok e_Deed h5) .nil) (by kernel_rfl) ?_
            refine Wk_seq ?_
            refine Wk_seq ?_
            obtain ⟨x3, h6, hF⟩ := ob_elim hF
            refine WR [.callE [37] [41, 43, 59, 20059] [] [] (.int .i64 x3.1) ⟨[], [(37, [.int .i64 x3.2.1, .int .i64 x3.2.2.1, .int .i64 x3.2.2.2.1, .int .i64 x3.2.2.2.2.1, .row 41 0, .row 43 0, .row 59 1, .row 20059 1, .int .i64 x3.2.2.2.2.2.2.2.2.2])], [(41, ⟨3, 1, 0, 0, 0, false, 0, [], (x3.2.2.2.2.2.1.map e_i64)⟩), (43, ⟨60, 2, 0, 0, 0, false, 0, [], (x3.2.2.2.2.2.2.1.map e_Trust)⟩), (59, ⟨103, 3, 1, 0, 0, false, 0, [], (x3.2.2.2.2.2.2.2.1.map e_Wish)⟩), (20059, ⟨105, 3, 1, 0, 0, false, 0, [], (x3.2.2.2.2.2.2.2.2.1.map e_Reply)⟩)], [], []⟩] [3, 8, 9, 11, 12, 14, 50, 51, 52] [8, 9, 37] [41, 43, 59, 20059] [] [] [] ⟨[(3, .fn 56 []), (8, .ptr 8 0), (9, .ptr 9 0), (11, .ptr 37 0), (12, .int .i64 v1.2.2.2.2.2.2.2.2.2), (14, .int .i64 x3.1), (50, .sl 3 (deeds.map e_Deed)), (51, .int .i64 (deeds.length : Int)), (52, .int .i64 v1.2.2.2.2.2.2.2.2.2)], [(8, [.int .i64 0, .int .i64 0, .int .i64 0, .int .i64 0, .nils, .nils, .nils, .nils]), (9, [.int .i64 0, .int .i64 0]), (37, [.int .i64 x3.2.1, .int .i64 x3.2.2.1, .int .i64 x3.2.2.2.1, .int .i64 x3.2.2.2.2.1, .row 41 0, .row 43 0, .row 59 1, .row 20059 1, .int .i64 x3.2.2.2.2.2.2.2.2.2])], [(41, ⟨3, 1, 0, 0, 0, false, 0, [], (x3.2.2.2.2.2.1.map e_i64)⟩), (43, ⟨60, 2, 0, 0, 0, false, 0, [], (x3.2.2.2.2.2.2.1.map e_Trust)⟩), (59, ⟨103, 3, 1, 0, 0, false, 0, [], (x3.2.2.2.2.2.2.2.1.map e_Wish)⟩), (20059, ⟨105, 3, 1, 0, 0, false, 0, [], (x3.2.2.2.2.2.2.2.2.1.map e_Reply)⟩)], [], []⟩ (.cons (Pe.ren (lease_court_does_v1_ok (⟨(lget deeds v1.2.2.2.2.2.2.2.2.2).Kind, (lget deeds v1.2.2.2.2.2.2.2.2.2).Who, (lget deeds v1.2.2.2.2.2.2.2.2.2).N⟩ : Deed) v1.1 v1.2.1 v1.2.2.1 v1.2.2.2.1 v1.2.2.2.2.2.2.2.2.1 v1.2.2.2.2.1 v1.2.2.2.2.2.1 v1.2.2.2.2.2.2.1 v1.2.2.2.2.2.2.2.1 0 0 false 0 0 false 0 0 false 0 0 false x3 h6) ⟨[(100000, 37)], [(100000, 41), (100001, 43), (100002, 59), (100003, 20059)], [], []⟩) .nil) (by kernel_rfl) ?_
            refine Wk_seq ?_
            refine WR [] [3, 8, 9, 11, 12, 14, 50, 51, 52, 61] [8, 9, 37] [41, 43, 59, 20059] [] [] [] ⟨[(3, .fn 56 []), (8, .ptr 8 0), (9, .ptr 9 0), (11, .ptr 37 0), (12, .int .i64 v1.2.2.2.2.2.2.2.2.2), (14, .int .i64 x3.1), (50, .sl 3 (deeds.map e_Deed)), (51, .int .i64 (deeds.length : Int)), (52, .int .i64 v1.2.2.2.2.2.2.2.2.2), (61, .bool (!decide (x3.1 = 0)))], [(8, [.int .i64 0, .int .i64 0, .int .i64 0, .int .i64 0, .nils, .nils, .nils, .nils]), (9, [.int .i64 0, .int .i64 0]), (37, [.int .i64 x3.2.1, .int .i64 x3.2.2.1, .int .i64 x3.2.2.2.1, .int .i64 x3.2.2.2.2.1, .row 41 0, .row 43 0, .row 59 1, .row 20059 1, .int .i64 x3.2.2.2.2.2.2.2.2.2])], [(41, ⟨3, 1, 0, 0, 0, false, 0, [], (x3.2.2.2.2.2.1.map e_i64)⟩), (43, ⟨60, 2, 0, 0, 0, false, 0, [], (x3.2.2.2.2.2.2.1.map e_Trust)⟩), (59, ⟨103, 3, 1, 0, 0, false, 0, [], (x3.2.2.2.2.2.2.2.1.map e_Wish)⟩), (20059, ⟨105, 3, 1, 0, 0, false, 0, [], (x3.2.2.2.2.2.2.2.2.1.map e_Reply)⟩)], [], []⟩ .nil (by kernel_rfl) ?_
            refine Wk_split rfl (fun hb => ?_) (fun hb => ?_)
            · have hF := ite_t hF hb
              refine Wk_seq ?_
              obtain ⟨x4, h7, hF⟩ := lt_split hF
              refine WR [.callB (.agg [.int .i64 x4.Code, .int .i64 x4.At])] [8, 9] [8, 9] [] [] [] [] ⟨[(8, .ptr 8 0), (9, .ptr 9 0)], [(8, [.int .i64 0, .int .i64 0, .int .i64 0, .int .i64 0, .nils, .nils, .nils, .nils]), (9, [.int .i64 x4.Code, .int .i64 x4.At])], [], [], []⟩ (.cons (lease_fault_ok x3.1 v1.2.2.2.2.2.2.2.2.2 x4 h7) .nil) (by kernel_rfl) ?_
              have hF := ret_done hF dn1
              have hF := some_elim hF
              refine Wk_nilrowB 8 4 60014 3 1 rfl rfl rfl rfl rfl ?_
              refine Wk_nilrowB 8 5 60015 60 2 rfl rfl rfl rfl rfl ?_
              refine Wk_nilrowB 8 6 60016 103 3 rfl rfl rfl rfl rfl ?_
              refine Wk_nilrowB 8 7 60017 105 3 rfl rfl rfl rfl rfl ?_
              refine Wk_ren' ⟨[], [(60014, 41), (60015, 43), (60016, 59), (60017, 20059)], [], []⟩ rfl ?_
              exact Wk_ret (hfin _ ⟨[41, 43, 59, 20059], [], [41, 43, 59, 20059], [], [], [(41, ⟨0, true, false, false⟩), (43, ⟨0, true, false, false⟩), (59, ⟨0, true, false, false⟩), (20059, ⟨0, true, false, false⟩)], by first | (rw [← hF]; kernel_rfl) | kernel_rfl⟩)
            · have hF := ite_f hF hb
              refine Wk_skip ?_
              obtain ⟨x5, h8, hF⟩ := lt_split hF
              refine WR [.callR [37] [41, 43, 59, 20059] [] [] (.tup [])] [3, 8, 9, 11, 50, 51, 52] [8, 9, 37] [41, 43, 59, 20059] [] [] [] ⟨[(3, .fn 56 []), (8, .ptr 8 0), (9, .ptr 9 0), (11, .ptr 37 0), (50, .sl 3 (deeds.map e_Deed)), (51, .int .i64 (deeds.length : Int)), (52, .int .i64 v1.2.2.2.2.2.2.2.2.2)], [(8, [.int .i64 0, .int .i64 0, .int .i64 0, .int .i64 0, .nils, .nils, .nils, .nils]), (9, [.int .i64 0, .int .i64 0]), (37, [.int .i64 x3.2.1, .int .i64 x3.2.2.1, .int .i64 x3.2.2.2.1, .int .i64 x3.2.2.2.2.1, .row 41 0, .row 43 0, .row 59 1, .row 20059 1, .int .i64 x3.2.2.2.2.2.2.2.2.2])], [(41, ⟨3, 1, 0, 0, 0, false, 0, [], (x3.2.2.2.2.2.1.map e_i64)⟩), (43, ⟨60, 2, 0, 0, 0, false, 0, [], (x3.2.2.2.2.2.2.1.map e_Trust)⟩), (59, ⟨103, 3, 1, 0, 0, false, 0, [], (x3.2.2.2.2.2.2.2.1.map e_Wish)⟩), (20059, ⟨105, 3, 1, 0, 0, false, 0, [], (x3.2.2.2.2.2.2.2.2.1.map e_Reply)⟩)], [], []⟩ (.cons (Pe.ren (lease_Play_1_ok x3.2.1 x3.2.2.1 x3.2.2.2.1 x3.2.2.2.2.1 x3.2.2.2.2.2.2.2.2.2 x3.2.2.2.2.2.1 x3.2.2.2.2.2.2.1 x3.2.2.2.2.2.2.2.1 x3.2.2.2.2.2.2.2.2.1 0 0 false 0 0 false 0 0 false 0 0 false x5 h8) ⟨[(100000, 37)], [(100000, 41), (100001, 43), (100002, 59), (100003, 20059)], [], [(100002, 1), (100003, 1)]⟩) .nil) (by kernel_rfl) ?_
              refine Wk_blk ?_
              refine WR [] [3, 8, 9, 11, 50, 51, 52] [8, 9, 37] [41, 43, 59, 20059] [] [] [] ⟨[(3, .fn 56 []), (8, .ptr 8 0), (9, .ptr 9 0), (11, .ptr 37 0), (50, .sl 3 (deeds.map e_Deed)), (51, .int .i64 (deeds.length : Int)), (52, .int .i64 (w64 (v1.2.2.2.2.2.2.2.2.2 + 1)))], [(8, [.int .i64 0, .int .i64 0, .int .i64 0, .int .i64 0, .nils, .nils, .nils, .nils]), (9, [.int .i64 0, .int .i64 0]), (37, [.int .i64 x3.2.1, .int .i64 x3.2.2.1, .int .i64 x3.2.2.2.1, .int .i64 x3.2.2.2.2.1, .row 41 0, .row 43 0, .row 59 1, .row 20059 1, .int .i64 x3.2.2.2.2.2.2.2.2.2])], [(41, ⟨3, 1, 0, 0, 0, false, 0, [], (x3.2.2.2.2.2.1.map e_i64)⟩), (43, ⟨60, 2, 0, 0, 0, false, 0, [], (x3.2.2.2.2.2.2.1.map e_Trust)⟩), (59, ⟨103, 3, 1, 0, 0, false, 0, [], (x3.2.2.2.2.2.2.2.1.map e_Wish)⟩), (20059, ⟨105, 3, 1, 0, 0, false, 0, [], (x3.2.2.2.2.2.2.2.2.1.map e_Reply)⟩)], [], []⟩ .nil (by kernel_rfl) ?_
              refine Wk_trim (fs := [3, 8, 9, 11, 50, 51, 52]) (bs := [8, 9, 37]) (rs := [41, 43, 59, 20059]) (ms := []) (aa := []) (nv := [(59, ⟨0, true, true, false⟩), (20059, ⟨0, true, true, false⟩)]) ?_ (ih1 _ (some_elim hF).symm)
              kernel_rfl
          · have hF := ite_f hF hb
            refine Wk_exit rfl ?_
            have hF := inrO_done hF dn1
            exact Wk_metP (v1.1, v1.2.1, v1.2.2.1, v1.2.2.2.1, v1.2.2.2.2.1, v1.2.2.2.2.2.1, v1.2.2.2.2.2.2.1, v1.2.2.2.2.2.2.2.1, v1.2.2.2.2.2.2.2.2.1) [8, 9, 11] [8, 9, 37] [41, 43, 59, 20059] [] [] [] hF (by kernel_rfl)
        · intro v hF
          have hF : lease_run_v3_J1 v = some r := hF
          unfold lease_run_v3_J1 at hF
          refine Wk_seq ?_
          refine WR [] [8, 9] [8, 9] [41, 43, 59, 20059] [] [] [] ⟨[(8, .ptr 8 0), (9, .ptr 9 0)], [(8, [.int .i64 v.1, .int .i64 v.2.1, .int .i64 v.2.2.1, .int .i64 v.2.2.2.1, .row 41 0, .row 43 0, .row 59 0, .row 20059 0]), (9, [.int .i64 0, .int .i64 0])], [(41, ⟨3, 1, 0, 0, 0, false, 0, [], (v.2.2.2.2.1.map e_i64)⟩), (43, ⟨60, 2, 0, 0, 0, false, 0, [], (v.2.2.2.2.2.1.map e_Trust)⟩), (59, ⟨103, 3, 0, 0, 0, false, 0, [], (v.2.2.2.2.2.2.1.map e_Wish)⟩), (20059, ⟨105, 3, 0, 0, 0, false, 0, [], (v.2.2.2.2.2.2.2.1.map e_Reply)⟩)], [], []⟩ .nil (by kernel_rfl) ?_
          have hF := some_elim hF
          exact Wk_ret (hfin _ ⟨[41, 43, 59, 20059], [], [41, 43, 59, 20059], [], [], [], by first | (rw [← hF]; kernel_rfl) | kernel_rfl⟩)

/- lease.Play -/
noncomputable def lease_Play_v3 (span : Int) (clients : Int) (deeds : List Deed) : Option (Court × Fault) :=
  ob (lease_run_v3 span clients deeds) fun x =>
  some ((⟨x.1, (⟨x.2.1, x.2.2.1, x.2.2.2.1⟩ : Lease), x.2.2.2.2.1, x.2.2.2.2.2.1, x.2.2.2.2.2.2.1, x.2.2.2.2.2.2.2.1⟩ : Court), x.2.2.2.2.2.2.2.2)
theorem lease_Play_v3_ok (span : Int) (clients : Int) (deeds : List Deed) (r : Court × Fault) (hF : lease_Play_v3 span clients deeds = some r) : Pe Try.prog 22 S.none [.int .i64 span, .int .i64 clients, .sl 3 (deeds.map e_Deed)] (.tup [.agg (c_Court r.1), .agg [.int .i64 r.2.Code, .int .i64 r.2.At]]) S.none := by
  refine Pe_of (N := 14) (res := [.cell 6 44, .cell 7 25]) (ts := [44, 25]) Ty.ok Fn.b22 Try.func22 rfl rfl rfl rfl rfl rfl ?_
  intro Q g hfin
  unfold lease_Play_v3 at hF
  refine Wk_seq ?_
  refine WR [] [0, 1, 2, 6, 7] [6, 7] [] [] [] [] ⟨[(0, .int .i64 span), (1, .int .i64 clients), (2, .sl 3 (deeds.map e_Deed)), (6, .ptr 6 0), (7, .ptr 7 0)], [(6, [.int .i64 0, .int .i64 0, .int .i64 0, .int .i64 0, .nils, .nils, .nils, .nils]), (7, [.int .i64 0, .int .i64 0])], [], [], []⟩ .nil (by kernel_rfl) ?_
  refine Wk_seq ?_
  obtain ⟨x, h0, hF⟩ := ob_elim hF
  refine WR [.callE [] [] [] [] (.tup [.agg [.int .i64 x.1, .int .i64 x.2.1, .int .i64 x.2.2.1, .int .i64 x.2.2.2.1, .row 11 0, .row 20011 0, .row 40011 0, .row 60011 0], .agg [.int .i64 x.2.2.2.2.2.2.2.2.Code, .int .i64 x.2.2.2.2.2.2.2.2.At]]) ⟨[], [], [(11, ⟨3, 1, 0, 0, 0, false, 0, [], (x.2.2.2.2.1.map e_i64)⟩), (20011, ⟨60, 2, 0, 0, 0, false, 0, [], (x.2.2.2.2.2.1.map e_Trust)⟩), (40011, ⟨103, 3, 0, 0, 0, false, 0, [], (x.2.2.2.2.2.2.1.map e_Wish)⟩), (60011, ⟨105, 3, 0, 0, 0, false, 0, [], (x.2.2.2.2.2.2.2.1.map e_Reply)⟩)], [], []⟩] [6, 7] [6, 7] [11, 20011, 40011, 60011] [] [] [] ⟨[(6, .ptr 6 0), (7, .ptr 7 0)], [(6, [.int .i64 x.1, .int .i64 x.2.1, .int .i64 x.2.2.1, .int .i64 x.2.2.2.1, .row 11 0, .row 20011 0, .row 40011 0, .row 60011 0]), (7, [.int .i64 x.2.2.2.2.2.2.2.2.Code, .int .i64 x.2.2.2.2.2.2.2.2.At])], [(11, ⟨3, 1, 0, 0, 0, false, 0, [], (x.2.2.2.2.1.map e_i64)⟩), (20011, ⟨60, 2, 0, 0, 0, false, 0, [], (x.2.2.2.2.2.1.map e_Trust)⟩), (40011, ⟨103, 3, 0, 0, 0, false, 0, [], (x.2.2.2.2.2.2.1.map e_Wish)⟩), (60011, ⟨105, 3, 0, 0, 0, false, 0, [], (x.2.2.2.2.2.2.2.1.map e_Reply)⟩)], [], []⟩ (.cons (Pe.ren (lease_run_v3_ok span clients deeds x h0) ⟨[], [(41, 11), (43, 20011), (59, 40011), (20059, 60011)], [], []⟩) .nil) (by kernel_rfl) ?_
  have hF := some_elim hF
  exact Wk_ret (hfin _ ⟨[], [], [], [], [], [], by first | (rw [← hF]; kernel_rfl) | kernel_rfl⟩)

/- tabularyref.Trusting -/
noncomputable def R_Trusting_v1_J1 (v : List Int) : Option (List Int) :=
  some v
noncomputable def R_Trusting_v1_B1 (c : Court) (v1 : List Int × Int) : Option ((List Int × Int) ⊕ (List Int)) :=
  if (decide (v1.2 < (c.Clocks.length : Int))) = true then
    asrt (0 ≤ v1.2 ∧ v1.2 < (c.Clocks.length : Int)) <|
    asrt (0 ≤ v1.2 ∧ v1.2 < (c.Trusts.length : Int)) <|
    ob (
      if (decide ((lget c.Clocks v1.2) < ((lget c.Trusts v1.2).Until))) = true then
        asrt (((v1.1 ++ ([v1.2] : List Int)).length : Int) * 8 ≤ 140737488351232) <|
        some (v1.1 ++ ([v1.2] : List Int))
      else
        some v1.1) fun (v2 : List Int) =>
    some (Sum.inl (v2, w64 (v1.2 + 1)))
  else
    inrO (R_Trusting_v1_J1 v1.1)
noncomputable def R_Trusting_v1_L1 (c : Court) (v0 : List Int × Int) : Option (List Int) :=
  loopO (fun y => R_Trusting_v1_B1 c y) v0
noncomputable def R_Trusting_v1 (c : Court) : Option (List Int) :=
  R_Trusting_v1_L1 c (([] : List Int), 0)
theorem R_Trusting_v1_ok (c : Court) (r : List Int) (hF : R_Trusting_v1 c = some r) : Pe Try.prog 27 S.none [.agg (c_Court c)] (.sl 1 (r.map e_i64)) S.none := by
  refine Pe_of (N := 29) (res := [.tmp 2]) (ts := [22]) Ty.ok Fn.b27 Try.func27 rfl rfl rfl rfl rfl rfl ?_
  intro Q g hfin
  unfold R_Trusting_v1 at hF
  refine Wk_seq ?_
  refine WR [] [1] [1] [] [] [] [] ⟨[(1, .ptr 1 0)], [(1, (c_Court c))], [], [], []⟩ .nil (by kernel_rfl) ?_
  refine Wk_seq ?_
  refine WR [] [1, 3] [1] [] [] [] [] ⟨[(1, .ptr 1 0), (3, .nils)], [(1, (c_Court c))], [], [], []⟩ .nil (by kernel_rfl) ?_
  refine Wk_seq ?_
  refine Wk_seq ?_
  refine WR [] [1, 3, 4] [1] [] [] [] [] ⟨[(1, .ptr 1 0), (3, .nils), (4, .int .i64 0)], [(1, (c_Court c))], [], [], []⟩ .nil (by kernel_rfl) ?_
  refine Wk_meetP (fun v : List Int => (⟨[(3, .row 27 0)], [], [(27, ⟨3, 1, 0, 0, 0, true, 0, [], (v.map e_i64)⟩)], [], []⟩ : S)) (fun v => R_Trusting_v1_J1 v = some r) ?_ ?_
  · refine Wk_block ?_
    unfold R_Trusting_v1_L1 at hF
    refine Wk_nilrow 3 60000 3 1 rfl rfl rfl ?_
    refine Wk_trim (fs := [1, 3, 4]) (bs := [1]) (rs := [60000]) (ms := []) (aa := []) (nv := []) rfl ?_
    refine Wk_ren' ⟨[], [(60000, 27)], [], []⟩ rfl ?_
    refine Wk_trim (fs := [1, 3, 4]) (bs := [1]) (rs := [27]) (ms := []) (aa := []) (nv := []) (t := (fun v1 : List Int × Int => (⟨[(1, .ptr 1 0), (3, .row 27 0), (4, .int .i64 v1.2)], [(1, (c_Court c))], [(27, ⟨3, 1, 0, 0, 0, true, 0, [], (v1.1.map e_i64)⟩)], [], []⟩ : S)) (([] : List Int), 0)) (by kernel_rfl) ?_
    refine Wk_iter (step := fun y => R_Trusting_v1_B1 c y) (r := r) (fun v1 : List Int × Int => (⟨[(1, .ptr 1 0), (3, .row 27 0), (4, .int .i64 v1.2)], [(1, (c_Court c))], [(27, ⟨3, 1, 0, 0, 0, true, 0, [], (v1.1.map e_i64)⟩)], [], []⟩ : S)) (([] : List Int), 0) hF ?_
    intro n1 v1 y1 hF ih1 dn1
    have hF : R_Trusting_v1_B1 c v1 = some y1 := hF
    unfold R_Trusting_v1_B1 at hF
    refine Wk_seq ?_
    refine Wk_seq ?_
    refine WR [.nat (c.Clocks.length : Int)] [1, 3, 4, 9] [1] [27] [] [] [] ⟨[(1, .ptr 1 0), (3, .row 27 0), (4, .int .i64 v1.2), (9, .bool (decide (v1.2 < (c.Clocks.length : Int))))], [(1, (c_Court c))], [(27, ⟨3, 1, 0, 0, 0, true, 0, [], (v1.1.map e_i64)⟩)], [], []⟩ (.cons (len_ok e_i64 c.Clocks) .nil) (by kernel_rfl) ?_
    refine Wk_split rfl (fun hb => ?_) (fun hb => ?_)
    · have hF := ite_t hF hb
      refine Wk_skip ?_
      refine Wk_seq ?_
      refine Wk_block ?_
      refine Wk_seq ?_
      obtain ⟨h0, hF⟩ := asrt_elim hF
      obtain ⟨h1, hF⟩ := asrt_elim hF
      refine WD [.av (e_i64 (lget c.Clocks v1.2)), .av (e_Trust (lget c.Trusts v1.2))] [1, 3, 4, 23] [1] [27] [] [] [] ⟨[(1, .ptr 1 0), (3, .row 27 0), (4, .int .i64 v1.2), (23, .bool (decide ((lget c.Clocks v1.2) < ((lget c.Trusts v1.2).Until))))], [(1, (c_Court c))], [(27, ⟨3, 1, 0, 0, 0, true, 0, [], (v1.1.map e_i64)⟩)], [], []⟩ (.cons (idx_ok e_i64 h0) (.cons (idx_ok e_Trust h1) .nil)) (by kernel_rfl) ?_
      obtain ⟨v2, hv, hF⟩ := ob_elim hF
      refine Wk_meet (⟨[(1, .ptr 1 0), (3, .row 27 0), (4, .int .i64 v1.2)], [(1, (c_Court c))], [(27, ⟨3, 1, 0, 0, 0, true, 0, [], (v2.map e_i64)⟩)], [], []⟩ : S) ?_ ?_
      · have hF := hv
        refine Wk_split rfl (fun hb => ?_) (fun hb => ?_)
        · have hF := ite_t hF hb
          obtain ⟨h2, hF⟩ := asrt_elim hF
          refine WR [.sealed, .xs ((v1.1 ++ ([v1.2] : List Int)).map e_i64)] [1, 3, 4] [1] [27] [] [] [] ⟨[(1, .ptr 1 0), (3, .row 27 1), (4, .int .i64 v1.2)], [(1, (c_Court c))], [(27, ⟨3, 1, 1, 0, 0, true, 0, [], ((v1.1 ++ ([v1.2] : List Int)).map e_i64)⟩)], [], []⟩ (.cons (app_ok e_i64 v1.1 ([v1.2] : List Int)) (.cons (appl_ok e_i64 h2) .nil)) (by kernel_rfl) ?_
          exact Wk_met (fs := [1, 3, 4]) (bs := [1]) (rs := [27]) (ms := []) (aa := []) (nv := [(27, ⟨0, true, true, false⟩)]) (by first | (rw [← some_elim hF]; kernel_rfl) | kernel_rfl)
        · have hF := ite_f hF hb
          refine Wk_skip ?_
          exact Wk_met (fs := [1, 3, 4]) (bs := [1]) (rs := [27]) (ms := []) (aa := []) (nv := []) (by first | (rw [← some_elim hF]; kernel_rfl) | kernel_rfl)
      · refine Wk_blk ?_
        refine WR [] [1, 3, 4] [1] [27] [] [] [] ⟨[(1, .ptr 1 0), (3, .row 27 0), (4, .int .i64 (w64 (v1.2 + 1)))], [(1, (c_Court c))], [(27, ⟨3, 1, 0, 0, 0, true, 0, [], (v2.map e_i64)⟩)], [], []⟩ .nil (by kernel_rfl) ?_
        refine Wk_trim (fs := [1, 3, 4]) (bs := [1]) (rs := [27]) (ms := []) (aa := []) (nv := []) ?_ (ih1 _ (some_elim hF).symm)
        kernel_rfl
    · have hF := ite_f hF hb
      refine Wk_exit rfl ?_
      have hF := inrO_done hF dn1
      exact Wk_metP v1.1 [3] [] [27] [] [] [] hF (by kernel_rfl)
  · intro v hF
    have hF : R_Trusting_v1_J1 v = some r := hF
    unfold R_Trusting_v1_J1 at hF
    refine Wk_seq ?_
    refine WR [] [2] [] [27] [] [] [] ⟨[(2, .row 27 0)], [], [(27, ⟨3, 1, 0, 0, 0, true, 0, [], (v.map e_i64)⟩)], [], []⟩ .nil (by kernel_rfl) ?_
    have hF := some_elim hF
    exact Wk_ret (hfin _ ⟨[], [], [], [], [], [], by first | (rw [← hF]; kernel_rfl) | kernel_rfl⟩)

/- tabularylaw.LeaseApart -/
noncomputable def law_LeaseApart_J1 (v : Unit) : Option Bool :=
  some true
noncomputable def law_LeaseApart_J2 (v1 : (List (Int × Int)) × Int × Int) (x2 : Court × Fault) (v2 : (List (Int × Int))) : Option (((List (Int × Int)) × Int × Int) ⊕ Bool) :=
  some (Sum.inl (v2, x2.1.Lease.Epoch, w64 (v1.2.2 + 1)))
noncomputable def law_LeaseApart_B2 (v1 : (List (Int × Int)) × Int × Int) (x2 : Court × Fault) (x3 : List Int) (v3 : (List (Int × Int)) × Int) : Option (((List (Int × Int)) × Int) ⊕ (((List (Int × Int)) × Int × Int) ⊕ Bool)) :=
  if (decide (v3.2 < (x3.length : Int))) = true then
    asrt (0 ≤ v3.2 ∧ v3.2 < (x3.length : Int)) <|
    asrt (0 ≤ (lget x3 v3.2) ∧ (lget x3 v3.2) < (x2.1.Trusts.length : Int)) <|
    asrt (((mget v3.1 ((lget x2.1.Trusts (lget x3 v3.2)).Epoch)).isSome) = true → (!((decide (((lget x2.1.Trusts (lget x3 v3.2)).Epoch) < 1)) || (decide (x2.1.Lease.Epoch < ((lget x2.1.Trusts (lget x3 v3.2)).Epoch))))) = true → 0 ≤ v3.2 ∧ v3.2 < (x3.length : Int)) <|
    if (((decide (((lget x2.1.Trusts (lget x3 v3.2)).Epoch) < 1)) || (decide (x2.1.Lease.Epoch < ((lget x2.1.Trusts (lget x3 v3.2)).Epoch)))) || (((mget v3.1 ((lget x2.1.Trusts (lget x3 v3.2)).Epoch)).isSome) && (!decide (((mget v3.1 ((lget x2.1.Trusts (lget x3 v3.2)).Epoch)).getD (0 : Int)) = (lget x3 v3.2))))) = true then
      some (Sum.inr (Sum.inr false))
    else
      asrt (0 ≤ v3.2 ∧ v3.2 < (x3.length : Int)) <|
      lt ((mput v3.1 ((lget x2.1.Trusts (lget x3 v3.2)).Epoch) ((lget x3 v3.2) : Int))) fun (v4 : (List (Int × Int))) =>
      some (Sum.inl (v4, w64 (v3.2 + 1)))
  else
    inrO (law_LeaseApart_J2 v1 x2 v3.1)
noncomputable def law_LeaseApart_L2 (v1 : (List (Int × Int)) × Int × Int) (x2 : Court × Fault) (x3 : List Int) (v0 : (List (Int × Int)) × Int) : Option (((List (Int × Int)) × Int × Int) ⊕ Bool) :=
  loopO (fun y => law_LeaseApart_B2 v1 x2 x3 y) v0
noncomputable def law_LeaseApart_B1 (span : Int) (clients : Int) (deeds : List Deed) (x1 : Bool × Fault) (v1 : (List (Int × Int)) × Int × Int) : Option (((List (Int × Int)) × Int × Int) ⊕ Bool) :=
  if (decide (v1.2.2 ≤ (deeds.length : Int))) = true then
    asrt (0 ≤ v1.2.2 ∧ v1.2.2 ≤ (deeds.length : Int)) <|
    ob (lease_Play_v3 span clients (ltake deeds v1.2.2)) fun x2 =>
    if ((((!decide (x2.2.Code = 0)) || (!decide ((x2.1.Clocks.length : Int) = clients))) || (!decide ((x2.1.Trusts.length : Int) = clients))) || (decide (x2.1.Lease.Epoch < v1.2.1))) = true then
      some (Sum.inr false)
    else
      ob (R_Trusting_v1 x2.1) fun x3 =>
      if (x1.1 && (decide (1 < (x3.length : Int)))) = true then
        some (Sum.inr false)
      else
        law_LeaseApart_L2 v1 x2 x3 (v1.1, 0)
  else
    inrO (law_LeaseApart_J1 ())
noncomputable def law_LeaseApart_L1 (span : Int) (clients : Int) (deeds : List Deed) (x1 : Bool × Fault) (v0 : (List (Int × Int)) × Int × Int) : Option Bool :=
  loopO (fun y => law_LeaseApart_B1 span clients deeds x1 y) v0
noncomputable def law_LeaseApart (span : Int) (clients : Int) (deeds : List Deed) : Option Bool :=
  lt (law_leaseBegun) fun x =>
  if (!x) = true then
    some false
  else
    if (decide (150 < (deeds.length : Int))) = true then
      some true
    else
      ob (lease_Fair_v1 span clients deeds) fun x1 =>
      if (!decide (x1.2.Code = 0)) = true then
        some (!x1.1)
      else
        law_LeaseApart_L1 span clients deeds x1 (([] : List (Int × Int)), 0, 0)
theorem law_LeaseApart_ok (span : Int) (clients : Int) (deeds : List Deed) (r : Bool) (hF : law_LeaseApart span clients deeds = some r) : Pe Try.prog 6 S.none [.int .i64 span, .int .i64 clients, .sl 3 (deeds.map e_Deed)] (.bool r) S.none := by
  refine Pe_of (N := 132) (res := [.tmp 6]) (ts := [4]) Ty.ok Fn.b6 Try.func6 rfl rfl rfl rfl rfl rfl ?_
  intro Q g hfin
  unfold law_LeaseApart at hF
  refine Wk_seq ?_
  refine WR [] [0, 1, 2] [] [] [] [] [] ⟨[(0, .int .i64 span), (1, .int .i64 clients), (2, .sl 3 (deeds.map e_Deed))], [], [], [], []⟩ .nil (by kernel_rfl) ?_
  refine Wk_seq ?_
  refine Wk_seq ?_
  obtain ⟨x, h0, hF⟩ := lt_split hF
  refine WR [.callB (.bool x)] [0, 1, 2, 20] [] [] [] [] [] ⟨[(0, .int .i64 span), (1, .int .i64 clients), (2, .sl 3 (deeds.map e_Deed)), (20, .bool (!x))], [], [], [], []⟩ (.cons (law_leaseBegun_ok  x h0) .nil) (by kernel_rfl) ?_
  refine Wk_split rfl (fun hb => ?_) (fun hb => ?_)
  · have hF := ite_t hF hb
    refine Wk_seq ?_
    refine WR [] [6] [] [] [] [] [] ⟨[(6, .bool false)], [], [], [], []⟩ .nil (by kernel_rfl) ?_
    have hF := some_elim hF
    exact Wk_ret (hfin _ ⟨[], [], [], [], [], [], by first | (rw [← hF]; kernel_rfl) | kernel_rfl⟩)
  · have hF := ite_f hF hb
    refine Wk_skip ?_
    refine Wk_seq ?_
    refine Wk_seq ?_
    refine WR [.nat (deeds.length : Int)] [0, 1, 2, 23] [] [] [] [] [] ⟨[(0, .int .i64 span), (1, .int .i64 clients), (2, .sl 3 (deeds.map e_Deed)), (23, .bool (decide (150 < (deeds.length : Int))))], [], [], [], []⟩ (.cons (len_ok e_Deed deeds) .nil) (by kernel_rfl) ?_
    refine Wk_split rfl (fun hb => ?_) (fun hb => ?_)
    · have hF := ite_t hF hb
      refine Wk_seq ?_
      refine WR [] [6] [] [] [] [] [] ⟨[(6, .bool true)], [], [], [], []⟩ .nil (by kernel_rfl) ?_
      have hF := some_elim hF
      exact Wk_ret (hfin _ ⟨[], [], [], [], [], [], by first | (rw [← hF]; kernel_rfl) | kernel_rfl⟩)
    · have hF := ite_f hF hb
      refine Wk_skip ?_
      refine Wk_seq ?_
      obtain ⟨x1, h1, hF⟩ := ob_elim hF
      refine WR [.callB (.tup [.bool x1.1, .agg [.int .i64 x1.2.Code, .int .i64 x1.2.At]])] [0, 1, 2, 7, 8] [8] [] [] [] [] ⟨[(0, .int .i64 span), (1, .int .i64 clients), (2, .sl 3 (deeds.map e_Deed)), (7, .bool x1.1), (8, .ptr 8 0)], [(8, [.int .i64 x1.2.Code, .int .i64 x1.2.At])], [], [], []⟩ (.cons (lease_Fair_v1_ok span clients deeds x1 h1) .nil) (by kernel_rfl) ?_
      refine Wk_seq ?_
      refine Wk_seq ?_
      refine WR [] [0, 1, 2, 7, 33] [] [] [] [] [] ⟨[(0, .int .i64 span), (1, .int .i64 clients), (2, .sl 3 (deeds.map e_Deed)), (7, .bool x1.1), (33, .bool (!decide (x1.2.Code = 0)))], [], [], [], []⟩ .nil (by kernel_rfl) ?_
      refine Wk_split rfl (fun hb => ?_) (fun hb => ?_)
      · have hF := ite_t hF hb
        refine Wk_seq ?_
        refine WR [] [6] [] [] [] [] [] ⟨[(6, .bool (!x1.1))], [], [], [], []⟩ .nil (by kernel_rfl) ?_
        have hF := some_elim hF
        exact Wk_ret (hfin _ ⟨[], [], [], [], [], [], by first | (rw [← hF]; kernel_rfl) | kernel_rfl⟩)
      · have hF := ite_f hF hb
        refine Wk_skip ?_
        refine Wk_seq ?_
        refine WR [] [0, 1, 2, 7, 9] [] [] [36] [] [] ⟨[(0, .int .i64 span), (1, .int .i64 clients), (2, .sl 3 (deeds.map e_Deed)), (7, .bool x1.1), (9, .mp 36)], [], [], [(36, (([] : List (Int × Int)).map (fun p => (e_i64 p.1, e_i64 p.2))))], []⟩ .nil (by kernel_rfl) ?_
        refine Wk_seq ?_
        refine WR [] [0, 1, 2, 7, 9, 10] [] [] [36] [] [] ⟨[(0, .int .i64 span), (1, .int .i64 clients), (2, .sl 3 (deeds.map e_Deed)), (7, .bool x1.1), (9, .mp 36), (10, .int .i64 0)], [], [], [(36, (([] : List (Int × Int)).map (fun p => (e_i64 p.1, e_i64 p.2))))], []⟩ .nil (by kernel_rfl) ?_
        refine Wk_seq ?_
        refine Wk_seq ?_
        refine WR [] [0, 1, 2, 7, 9, 10, 11] [] [] [36] [] [] ⟨[(0, .int .i64 span), (1, .int .i64 clients), (2, .sl 3 (deeds.map e_Deed)), (7, .bool x1.1), (9, .mp 36), (10, .int .i64 0), (11, .int .i64 0)], [], [], [(36, (([] : List (Int × Int)).map (fun p => (e_i64 p.1, e_i64 p.2))))], []⟩ .nil (by kernel_rfl) ?_
        refine Wk_meetP (fun v : Unit => (⟨[], [], [], [], []⟩ : S)) (fun v => law_LeaseApart_J1 v = some r) ?_ ?_
        · refine Wk_block ?_
          unfold law_LeaseApart_L1 at hF
          refine Wk_trim (fs := [0, 1, 2, 7, 9, 10, 11]) (bs := []) (rs := []) (ms := [36]) (aa := []) (nv := []) (t := (fun v1 : (List (Int × Int)) × Int × Int => (⟨[(0, .int .i64 span), (1, .int .i64 clients), (2, .sl 3 (deeds.map e_Deed)), (7, .bool x1.1), (9, .mp 36), (10, .int .i64 v1.2.1), (11, .int .i64 v1.2.2)], [], [], [(36, (v1.1.map (fun p => (e_i64 p.1, e_i64 p.2))))], []⟩ : S)) (([] : List (Int × Int)), 0, 0)) (by kernel_rfl) ?_
          refine Wk_iter (step := fun y => law_LeaseApart_B1 span clients deeds x1 y) (r := r) (fun v1 : (List (Int × Int)) × Int × Int => (⟨[(0, .int .i64 span), (1, .int .i64 clients), (2, .sl 3 (deeds.map e_Deed)), (7, .bool x1.1), (9, .mp 36), (10, .int .i64 v1.2.1), (11, .int .i64 v1.2.2)], [], [], [(36, (v1.1.map (fun p => (e_i64 p.1, e_i64 p.2))))], []⟩ : S)) (([] : List (Int × Int)), 0, 0) hF ?_
          intro n1 v1 y1 hF ih1 dn1
          have hF : law_LeaseApart_B1 span clients deeds x1 v1 = some y1 := hF
          unfold law_LeaseApart_B1 at hF
          refine Wk_seq ?_
          refine Wk_seq ?_
          refine WR [.nat (deeds.length : Int)] [0, 1, 2, 7, 9, 10, 11, 40] [] [] [36] [] [] ⟨[(0, .int .i64 span), (1, .int .i64 clients), (2, .sl 3 (deeds.map e_Deed)), (7, .bool x1.1), (9, .mp 36), (10, .int .i64 v1.2.1), (11, .int .i64 v1.2.2), (40, .bool (decide (v1.2.2 ≤ (deeds.length : Int))))], [], [], [(36, (v1.1.map (fun p => (e_i64 p.1, e_i64 p.2))))], []⟩ (.cons (len_ok e_Deed deeds) .nil) (by kernel_rfl) ?_
          refine Wk_split rfl (fun hb => ?_) (fun hb => ?_)
          · have hF := ite_t hF hb
            refine Wk_skip ?_
            refine Wk_seq ?_
            refine Wk_block ?_
            refine Wk_seq ?_
            obtain ⟨h2, hF⟩ := asrt_elim hF
            obtain ⟨x2, h3, hF⟩ := ob_elim hF
            refine WR [.xs ((ltake deeds v1.2.2).map e_Deed), .call (.tup [.agg (c_Court x2.1), .agg [.int .i64 x2.2.Code, .int .i64 x2.2.At]])] [0, 1, 2, 7, 9, 10, 11, 12, 13] [12, 13] [] [36] [] [] ⟨[(0, .int .i64 span), (1, .int .i64 clients), (2, .sl 3 (deeds.map e_Deed)), (7, .bool x1.1), (9, .mp 36), (10, .int .i64 v1.2.1), (11, .int .i64 v1.2.2), (12, .ptr 12 0), (13, .ptr 13 0)], [(12, (c_Court x2.1)), (13, [.int .i64 x2.2.Code, .int .i64 x2.2.At])], [], [(36, (v1.1.map (fun p => (e_i64 p.1, e_i64 p.2))))], []⟩ (.cons (sl01_ok e_Deed h2) (.cons (lease_Play_v3_ok span clients (ltake deeds v1.2.2) x2 h3) .nil)) (by kernel_rfl) ?_
            refine Wk_seq ?_
            refine Wk_seq ?_
            refine WR [.nat (x2.1.Clocks.length : Int), .nat (x2.1.Trusts.length : Int)] [0, 1, 2, 7, 9, 11, 12, 75] [12] [] [36] [] [] ⟨[(0, .int .i64 span), (1, .int .i64 clients), (2, .sl 3 (deeds.map e_Deed)), (7, .bool x1.1), (9, .mp 36), (11, .int .i64 v1.2.2), (12, .ptr 12 0), (75, .bool ((((!decide (x2.2.Code = 0)) || (!decide ((x2.1.Clocks.length : Int) = clients))) || (!decide ((x2.1.Trusts.length : Int) = clients))) || (decide (x2.1.Lease.Epoch < v1.2.1))))], [(12, (c_Court x2.1))], [], [(36, (v1.1.map (fun p => (e_i64 p.1, e_i64 p.2))))], []⟩ (.cons (fun (_ : (!(!decide (x2.2.Code = 0))) = true) => (len_ok e_i64 x2.1.Clocks)) (.cons (fun (_ : (!((!decide (x2.2.Code = 0)) || (!decide ((x2.1.Clocks.length : Int) = clients)))) = true) => (len_ok e_Trust x2.1.Trusts)) .nil)) (by kernel_rfl) ?_
            refine Wk_split rfl (fun hb => ?_) (fun hb => ?_)
            · have hF := ite_t hF hb
              refine Wk_seq ?_
              refine WR [] [6] [] [] [] [] [] ⟨[(6, .bool false)], [], [], [], []⟩ .nil (by kernel_rfl) ?_
              have hF := ret_done hF dn1
              have hF := some_elim hF
              exact Wk_ret (hfin _ ⟨[], [], [], [], [], [], by first | (rw [← hF]; kernel_rfl) | kernel_rfl⟩)
            · have hF := ite_f hF hb
              refine Wk_skip ?_
              refine Wk_seq ?_
              refine WR [] [0, 1, 2, 7, 9, 10, 11, 12] [12] [] [36] [] [] ⟨[(0, .int .i64 span), (1, .int .i64 clients), (2, .sl 3 (deeds.map e_Deed)), (7, .bool x1.1), (9, .mp 36), (10, .int .i64 x2.1.Lease.Epoch), (11, .int .i64 v1.2.2), (12, .ptr 12 0)], [(12, (c_Court x2.1))], [], [(36, (v1.1.map (fun p => (e_i64 p.1, e_i64 p.2))))], []⟩ .nil (by kernel_rfl) ?_
              refine Wk_seq ?_
              obtain ⟨x3, h4, hF⟩ := ob_elim hF
              refine WR [.call (.sl 1 (x3.map e_i64))] [0, 1, 2, 7, 9, 10, 11, 12, 14] [12] [] [36] [] [] ⟨[(0, .int .i64 span), (1, .int .i64 clients), (2, .sl 3 (deeds.map e_Deed)), (7, .bool x1.1), (9, .mp 36), (10, .int .i64 x2.1.Lease.Epoch), (11, .int .i64 v1.2.2), (12, .ptr 12 0), (14, .sl 1 (x3.map e_i64))], [(12, (c_Court x2.1))], [], [(36, (v1.1.map (fun p => (e_i64 p.1, e_i64 p.2))))], []⟩ (.cons (R_Trusting_v1_ok x2.1 x3 h4) .nil) (by kernel_rfl) ?_
              refine Wk_seq ?_
              refine Wk_seq ?_
              refine WR [.nat (x3.length : Int)] [0, 1, 2, 7, 9, 10, 11, 12, 14, 86] [12] [] [36] [] [] ⟨[(0, .int .i64 span), (1, .int .i64 clients), (2, .sl 3 (deeds.map e_Deed)), (7, .bool x1.1), (9, .mp 36), (10, .int .i64 x2.1.Lease.Epoch), (11, .int .i64 v1.2.2), (12, .ptr 12 0), (14, .sl 1 (x3.map e_i64)), (86, .bool (x1.1 && (decide (1 < (x3.length : Int)))))], [(12, (c_Court x2.1))], [], [(36, (v1.1.map (fun p => (e_i64 p.1, e_i64 p.2))))], []⟩ (.cons (fun (_ : x1.1 = true) => (len_ok e_i64 x3)) .nil) (by kernel_rfl) ?_
              refine Wk_split rfl (fun hb => ?_) (fun hb => ?_)
              · have hF := ite_t hF hb
                refine Wk_seq ?_
                refine WR [] [6] [] [] [] [] [] ⟨[(6, .bool false)], [], [], [], []⟩ .nil (by kernel_rfl) ?_
                have hF := ret_done hF dn1
                have hF := some_elim hF
                exact Wk_ret (hfin _ ⟨[], [], [], [], [], [], by first | (rw [← hF]; kernel_rfl) | kernel_rfl⟩)
              · have hF := ite_f hF hb
                refine Wk_skip ?_
                refine Wk_seq ?_
                refine WR [] [0, 1, 2, 7, 9, 10, 11, 12, 14, 15] [12] [] [36] [] [] ⟨[(0, .int .i64 span), (1, .int .i64 clients), (2, .sl 3 (deeds.map e_Deed)), (7, .bool x1.1), (9, .mp 36), (10, .int .i64 x2.1.Lease.Epoch), (11, .int .i64 v1.2.2), (12, .ptr 12 0), (14, .sl 1 (x3.map e_i64)), (15, .int .i64 0)], [(12, (c_Court x2.1))], [], [(36, (v1.1.map (fun p => (e_i64 p.1, e_i64 p.2))))], []⟩ .nil (by kernel_rfl) ?_
                refine Wk_meetP (fun v2 : (List (Int × Int)) => (⟨[(0, .int .i64 span), (1, .int .i64 clients), (2, .sl 3 (deeds.map e_Deed)), (7, .bool x1.1), (9, .mp 36), (10, .int .i64 x2.1.Lease.Epoch), (11, .int .i64 v1.2.2)], [], [], [(36, (v2.map (fun p => (e_i64 p.1, e_i64 p.2))))], []⟩ : S)) (fun v2 => law_LeaseApart_J2 v1 x2 v2 = some y1) ?_ ?_
                · refine Wk_block ?_
                  unfold law_LeaseApart_L2 at hF
                  refine Wk_trim (fs := [0, 1, 2, 7, 9, 10, 11, 12, 14, 15]) (bs := [12]) (rs := []) (ms := [36]) (aa := []) (nv := []) (t := (fun v3 : (List (Int × Int)) × Int => (⟨[(0, .int .i64 span), (1, .int .i64 clients), (2, .sl 3 (deeds.map e_Deed)), (7, .bool x1.1), (9, .mp 36), (10, .int .i64 x2.1.Lease.Epoch), (11, .int .i64 v1.2.2), (12, .ptr 12 0), (14, .sl 1 (x3.map e_i64)), (15, .int .i64 v3.2)], [(12, (c_Court x2.1))], [], [(36, (v3.1.map (fun p => (e_i64 p.1, e_i64 p.2))))], []⟩ : S)) (v1.1, 0)) (by kernel_rfl) ?_
                  refine Wk_iter (step := fun y => law_LeaseApart_B2 v1 x2 x3 y) (r := y1) (fun v3 : (List (Int × Int)) × Int => (⟨[(0, .int .i64 span), (1, .int .i64 clients), (2, .sl 3 (deeds.map e_Deed)), (7, .bool x1.1), (9, .mp 36), (10, .int .i64 x2.1.Lease.Epoch), (11, .int .i64 v1.2.2), (12, .ptr 12 0), (14, .sl 1 (x3.map e_i64)), (15, .int .i64 v3.2)], [(12, (c_Court x2.1))], [], [(36, (v3.1.map (fun p => (e_i64 p.1, e_i64 p.2))))], []⟩ : S)) (v1.1, 0) hF ?_
                  intro n2 v3 y2 hF ih2 dn2
                  have hF : law_LeaseApart_B2 v1 x2 x3 v3 = some y2 := hF
                  unfold law_LeaseApart_B2 at hF
                  refine Wk_seq ?_
                  refine Wk_seq ?_
                  refine WR [.nat (x3.length : Int)] [0, 1, 2, 7, 9, 10, 11, 12, 14, 15, 90] [12] [] [36] [] [] ⟨[(0, .int .i64 span), (1, .int .i64 clients), (2, .sl 3 (deeds.map e_Deed)), (7, .bool x1.1), (9, .mp 36), (10, .int .i64 x2.1.Lease.Epoch), (11, .int .i64 v1.2.2), (12, .ptr 12 0), (14, .sl 1 (x3.map e_i64)), (15, .int .i64 v3.2), (90, .bool (decide (v3.2 < (x3.length : Int))))], [(12, (c_Court x2.1))], [], [(36, (v3.1.map (fun p => (e_i64 p.1, e_i64 p.2))))], []⟩ (.cons (len_ok e_i64 x3) .nil) (by kernel_rfl) ?_
                  refine Wk_split rfl (fun hb => ?_) (fun hb => ?_)
                  · have hF := ite_t hF hb
                    refine Wk_skip ?_
                    refine Wk_seq ?_
                    refine Wk_block ?_
                    refine Wk_seq ?_
                    obtain ⟨h5, hF⟩ := asrt_elim hF
                    obtain ⟨h6, hF⟩ := asrt_elim hF
                    refine WD [.av (e_i64 (lget x3 v3.2)), .av (e_Trust (lget x2.1.Trusts (lget x3 v3.2)))] [0, 1, 2, 7, 9, 10, 11, 12, 14, 15, 16] [12] [] [36] [] [] ⟨[(0, .int .i64 span), (1, .int .i64 clients), (2, .sl 3 (deeds.map e_Deed)), (7, .bool x1.1), (9, .mp 36), (10, .int .i64 x2.1.Lease.Epoch), (11, .int .i64 v1.2.2), (12, .ptr 12 0), (14, .sl 1 (x3.map e_i64)), (15, .int .i64 v3.2), (16, .int .i64 ((lget x2.1.Trusts (lget x3 v3.2)).Epoch))], [(12, (c_Court x2.1))], [], [(36, (v3.1.map (fun p => (e_i64 p.1, e_i64 p.2))))], []⟩ (.cons (idx_ok e_i64 h5) (.cons (idx_ok e_Trust h6) .nil)) (by kernel_rfl) ?_
                    refine Wk_seq ?_
                    refine WR [.av (e_i64 ((mget v3.1 ((lget x2.1.Trusts (lget x3 v3.2)).Epoch)).getD (0 : Int))), .bo ((mget v3.1 ((lget x2.1.Trusts (lget x3 v3.2)).Epoch)).isSome)] [0, 1, 2, 7, 9, 10, 11, 12, 14, 15, 16, 17, 18] [12] [] [36] [] [] ⟨[(0, .int .i64 span), (1, .int .i64 clients), (2, .sl 3 (deeds.map e_Deed)), (7, .bool x1.1), (9, .mp 36), (10, .int .i64 x2.1.Lease.Epoch), (11, .int .i64 v1.2.2), (12, .ptr 12 0), (14, .sl 1 (x3.map e_i64)), (15, .int .i64 v3.2), (16, .int .i64 ((lget x2.1.Trusts (lget x3 v3.2)).Epoch)), (17, .int .i64 ((mget v3.1 ((lget x2.1.Trusts (lget x3 v3.2)).Epoch)).getD (0 : Int))), (18, .bool ((mget v3.1 ((lget x2.1.Trusts (lget x3 v3.2)).Epoch)).isSome))], [(12, (c_Court x2.1))], [], [(36, (v3.1.map (fun p => (e_i64 p.1, e_i64 p.2))))], []⟩ (.cons (mkeys_ok (kenc_i64 : KEnc _ e_i64) e_i64 v3.1) (.cons (mlook_ok (kenc_i64 : KEnc _ e_i64) e_i64 v3.1 ((lget x2.1.Trusts (lget x3 v3.2)).Epoch) (0 : Int)) (.cons (msome_ok (kenc_i64 : KEnc _ e_i64) e_i64 v3.1 ((lget x2.1.Trusts (lget x3 v3.2)).Epoch)) .nil))) (by kernel_rfl) ?_
                    refine Wk_seq ?_
                    refine Wk_seq ?_
                    obtain ⟨h7, hF⟩ := asrt_elim hF
                    refine WR [.av (e_i64 (lget x3 v3.2))] [0, 1, 2, 7, 9, 10, 11, 12, 14, 15, 16, 125] [12] [] [36] [] [] ⟨[(0, .int .i64 span), (1, .int .i64 clients), (2, .sl 3 (deeds.map e_Deed)), (7, .bool x1.1), (9, .mp 36), (10, .int .i64 x2.1.Lease.Epoch), (11, .int .i64 v1.2.2), (12, .ptr 12 0), (14, .sl 1 (x3.map e_i64)), (15, .int .i64 v3.2), (16, .int .i64 ((lget x2.1.Trusts (lget x3 v3.2)).Epoch)), (125, .bool (((decide (((lget x2.1.Trusts (lget x3 v3.2)).Epoch) < 1)) || (decide (x2.1.Lease.Epoch < ((lget x2.1.Trusts (lget x3 v3.2)).Epoch)))) || (((mget v3.1 ((lget x2.1.Trusts (lget x3 v3.2)).Epoch)).isSome) && (!decide (((mget v3.1 ((lget x2.1.Trusts (lget x3 v3.2)).Epoch)).getD (0 : Int)) = (lget x3 v3.2))))))], [(12, (c_Court x2.1))], [], [(36, (v3.1.map (fun p => (e_i64 p.1, e_i64 p.2))))], []⟩ (.cons (fun (ga0 : ((mget v3.1 ((lget x2.1.Trusts (lget x3 v3.2)).Epoch)).isSome) = true) (ga1 : (!((decide (((lget x2.1.Trusts (lget x3 v3.2)).Epoch) < 1)) || (decide (x2.1.Lease.Epoch < ((lget x2.1.Trusts (lget x3 v3.2)).Epoch))))) = true) => (idx_ok e_i64 (h7 ga0 ga1))) .nil) (by kernel_rfl) ?_
                    refine Wk_split rfl (fun hb => ?_) (fun hb => ?_)
                    · have hF := ite_t hF hb
                      refine Wk_seq ?_
                      refine WR [] [6] [] [] [] [] [] ⟨[(6, .bool false)], [], [], [], []⟩ .nil (by kernel_rfl) ?_
                      have hF := ret_done hF dn2
                      have hF := ret_done hF dn1
                      have hF := some_elim hF
                      exact Wk_ret (hfin _ ⟨[], [], [], [], [], [], by first | (rw [← hF]; kernel_rfl) | kernel_rfl⟩)
                    · have hF := ite_f hF hb
                      refine Wk_skip ?_
                      obtain ⟨h8, hF⟩ := asrt_elim hF
                      refine WRL ((mput v3.1 ((lget x2.1.Trusts (lget x3 v3.2)).Epoch) ((lget x3 v3.2) : Int))) (fun v4 : (List (Int × Int)) => ⟨[(0, .int .i64 span), (1, .int .i64 clients), (2, .sl 3 (deeds.map e_Deed)), (7, .bool x1.1), (9, .mp 36), (10, .int .i64 x2.1.Lease.Epoch), (11, .int .i64 v1.2.2), (12, .ptr 12 0), (14, .sl 1 (x3.map e_i64)), (15, .int .i64 v3.2)], [(12, (c_Court x2.1))], [], [(36, (v4.map (fun p => (e_i64 p.1, e_i64 p.2))))], []⟩) [.av (e_i64 (lget x3 v3.2)), .ms ((mput v3.1 ((lget x2.1.Trusts (lget x3 v3.2)).Epoch) ((lget x3 v3.2) : Int)).map (fun p => (e_i64 p.1, e_i64 p.2)))] [0, 1, 2, 7, 9, 10, 11, 12, 14, 15] [12] [] [36] [] [] (.cons (idx_ok e_i64 h8) (.cons (mkeys_ok (kenc_i64 : KEnc _ e_i64) e_i64 v3.1) (.cons (mput_ok (kenc_i64 : KEnc _ e_i64) e_i64 v3.1 ((lget x2.1.Trusts (lget x3 v3.2)).Epoch) ((lget x3 v3.2) : Int)) .nil))) (by kernel_rfl) (fun v4 hv => ?_)
                      have hF := lt_elim hF hv
                      refine Wk_blk ?_
                      refine WR [] [0, 1, 2, 7, 9, 10, 11, 12, 14, 15] [12] [] [36] [] [] ⟨[(0, .int .i64 span), (1, .int .i64 clients), (2, .sl 3 (deeds.map e_Deed)), (7, .bool x1.1), (9, .mp 36), (10, .int .i64 x2.1.Lease.Epoch), (11, .int .i64 v1.2.2), (12, .ptr 12 0), (14, .sl 1 (x3.map e_i64)), (15, .int .i64 (w64 (v3.2 + 1)))], [(12, (c_Court x2.1))], [], [(36, (v4.map (fun p => (e_i64 p.1, e_i64 p.2))))], []⟩ .nil (by kernel_rfl) ?_
                      refine Wk_trim (fs := [0, 1, 2, 7, 9, 10, 11, 12, 14, 15]) (bs := [12]) (rs := []) (ms := [36]) (aa := []) (nv := []) ?_ (ih2 _ (some_elim hF).symm)
                      kernel_rfl
                  · have hF := ite_f hF hb
                    refine Wk_exit rfl ?_
                    have hF := inrO_done hF dn2
                    exact Wk_metP v3.1 [0, 1, 2, 7, 9, 10, 11] [] [] [36] [] [] hF (by kernel_rfl)
                · intro v2 hF
                  have hF : law_LeaseApart_J2 v1 x2 v2 = some y1 := hF
                  unfold law_LeaseApart_J2 at hF
                  refine Wk_blk ?_
                  refine WR [] [0, 1, 2, 7, 9, 10, 11] [] [] [36] [] [] ⟨[(0, .int .i64 span), (1, .int .i64 clients), (2, .sl 3 (deeds.map e_Deed)), (7, .bool x1.1), (9, .mp 36), (10, .int .i64 x2.1.Lease.Epoch), (11, .int .i64 (w64 (v1.2.2 + 1)))], [], [], [(36, (v2.map (fun p => (e_i64 p.1, e_i64 p.2))))], []⟩ .nil (by kernel_rfl) ?_
                  refine Wk_trim (fs := [0, 1, 2, 7, 9, 10, 11]) (bs := []) (rs := []) (ms := [36]) (aa := []) (nv := []) ?_ (ih1 _ (some_elim hF).symm)
                  kernel_rfl
          · have hF := ite_f hF hb
            refine Wk_exit rfl ?_
            have hF := inrO_done hF dn1
            exact Wk_metP () [] [] [] [] [] [] hF (by kernel_rfl)
        · intro v hF
          have hF : law_LeaseApart_J1 v = some r := hF
          unfold law_LeaseApart_J1 at hF
          refine Wk_seq ?_
          refine WR [] [6] [] [] [] [] [] ⟨[(6, .bool true)], [], [], [], []⟩ .nil (by kernel_rfl) ?_
          have hF := some_elim hF
          exact Wk_ret (hfin _ ⟨[], [], [], [], [], [], by first | (rw [← hF]; kernel_rfl) | kernel_rfl⟩)

end G
end Go.Proofs.Ytgflfhdbihahcaa
