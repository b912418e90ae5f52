/- The program's functions as plain functions, and that they are these. Written by a program (dec2.py). -/
import Derived.Test.YtcnngkigpfpalaaGf0
namespace Go.Proofs.Ytcnngkigpfpalaa
open Go Go.Dm
set_option linter.unusedVariables false
set_option linter.unusedSimpArgs false
set_option maxRecDepth 100000
namespace G
/- raft.Stand -/
noncomputable def raft_Stand_v1 (x : Node) : Option (Node × List Mail × Fault) :=
  ob (raft_Check x) fun x1 =>
  ob (
    if (!decide (x1.Code = 0)) = true then
      some x1
    else
      if (decide (x.Role = 2)) = true then
        lt (raft_fault 11 0) fun x2 =>
        some x2
      else
        if (decide (x.Term = 1000000000)) = true then
          lt (raft_fault 9 0) fun x3 =>
          some x3
        else
          some x1) fun (v : Fault) =>
  if (!decide (v.Code = 0)) = true then
    some ((⟨0, 0, 0, 0, ([] : List Entry), 0, 0, ([] : List Int), ([] : List Int), ([] : List Int)⟩ : Node), ([] : List Mail), v)
  else
    ob (raft_own x) fun x4 =>
    lt (raft_follow x4.1 x4.2.1 x4.2.2.1 x4.2.2.2.1 x4.2.2.2.2.2.1 x4.2.2.2.2.2.2.1 x4.2.2.2.2.1 x4.2.2.2.2.2.2.2.1 x4.2.2.2.2.2.2.2.2.1 x4.2.2.2.2.2.2.2.2.2) fun x5 =>
    ob (raft_others x5.1 x5.2.1 (w64 (x.Term + 1)) (w64 (x.ID + 1)) 1 x5.2.2.2.2.2 ([x.ID] : List Int) x4.2.2.2.2.1) fun x6 =>
    lt (raft_most 1 x5.1) fun x7 =>
    ob (
      if x7 = true then
        ob (raft_lead x5.1 x5.2.1 (w64 (x.Term + 1)) (w64 (x.ID + 1)) 1 x5.2.2.2.2.2 ([x.ID] : List Int) x4.2.2.2.2.1) fun x8 =>
        some (x8.1, x8.2.1, x8.2.2.1, x8.2.2.2.1, x8.2.2.2.2.1, x8.2.2.2.2.2.1, ([] : List Int), x8.2.2.2.2.2.2.1, x8.2.2.2.2.2.2.2)
      else
        some (x5.1, x5.2.1, (w64 (x.Term + 1)), (w64 (x.ID + 1)), 1, x5.2.2.2.2.2, ([x.ID] : List Int), ([] : List Int), ([] : List Int))) fun (v1 : Int × Int × Int × Int × Int × Int × List Int × List Int × List Int) =>
    some ((⟨v1.1, v1.2.1, v1.2.2.1, v1.2.2.2.1, x4.2.2.2.2.1, v1.2.2.2.2.1, v1.2.2.2.2.2.1, v1.2.2.2.2.2.2.1, v1.2.2.2.2.2.2.2.1, v1.2.2.2.2.2.2.2.2⟩ : Node), x6, v)
theorem raft_Stand_v1_ok (x : Node) (r : Node × List Mail × Fault) (hF : raft_Stand_v1 x = some r) : Pe Try.prog 31 S.none [.agg (c_Node x)] (.tup [.agg (c_Node r.1), .sl 9 (r.2.1.map e_Mail), .agg [.int .i64 r.2.2.Code, .int .i64 r.2.2.At]]) S.none := by
  refine Pe_of (N := 69) (res := [.cell 2 46, .tmp 3, .cell 4 26]) (ts := [46, 50, 26]) Ty.ok Fn.b31 Try.func31 rfl rfl rfl rfl rfl rfl ?_
  intro Q g hfin
  unfold raft_Stand_v1 at hF
  refine Wk_seq ?_
  refine WR [] [1, 2, 4] [1, 2, 4] [] [] [] [] ⟨[(1, .ptr 1 0), (2, .ptr 2 0), (4, .ptr 4 0)], [(1, (c_Node x)), (2, [.int .i64 0, .int .i64 0, .int .i64 0, .int .i64 0, .nils, .int .i64 0, .int .i64 0, .nils, .nils, .nils]), (4, [.int .i64 0, .int .i64 0])], [], [], []⟩ .nil (by kernel_rfl) ?_
  refine Wk_seq ?_
  obtain ⟨x1, h0, hF⟩ := ob_elim hF
  refine WR [.callB (.agg [.int .i64 x1.Code, .int .i64 x1.At])] [1, 2, 4, 5] [1, 2, 4, 5] [] [] [] [] ⟨[(1, .ptr 1 0), (2, .ptr 2 0), (4, .ptr 4 0), (5, .ptr 5 0)], [(1, (c_Node x)), (2, [.int .i64 0, .int .i64 0, .int .i64 0, .int .i64 0, .nils, .int .i64 0, .int .i64 0, .nils, .nils, .nils]), (4, [.int .i64 0, .int .i64 0]), (5, [.int .i64 x1.Code, .int .i64 x1.At])], [], [], []⟩ (.cons (raft_Check_ok x x1 h0) .nil) (by kernel_rfl) ?_
  refine Wk_seq ?_
  refine Wk_block ?_
  refine Wk_seq ?_
  refine WR [] [1, 2, 4, 5, 10] [1, 2, 4, 5] [] [] [] [] ⟨[(1, .ptr 1 0), (2, .ptr 2 0), (4, .ptr 4 0), (5, .ptr 5 0), (10, .bool (!decide (x1.Code = 0)))], [(1, (c_Node x)), (2, [.int .i64 0, .int .i64 0, .int .i64 0, .int .i64 0, .nils, .int .i64 0, .int .i64 0, .nils, .nils, .nils]), (4, [.int .i64 0, .int .i64 0]), (5, [.int .i64 x1.Code, .int .i64 x1.At])], [], [], []⟩ .nil (by kernel_rfl) ?_
  obtain ⟨v, hv, hF⟩ := ob_elim hF
  refine Wk_meet (⟨[(1, .ptr 1 0), (2, .ptr 2 0), (4, .ptr 4 0), (5, .ptr 5 0)], [(1, (c_Node x)), (2, [.int .i64 0, .int .i64 0, .int .i64 0, .int .i64 0, .nils, .int .i64 0, .int .i64 0, .nils, .nils, .nils]), (4, [.int .i64 0, .int .i64 0]), (5, [.int .i64 v.Code, .int .i64 v.At])], [], [], []⟩ : S) ?_ ?_
  · have hF := hv
    refine Wk_split rfl (fun hb => ?_) (fun hb => ?_)
    · have hF := ite_t hF hb
      refine Wk_skip ?_
      exact Wk_met (fs := [1, 2, 4, 5]) (bs := [1, 2, 4, 5]) (rs := []) (ms := []) (aa := []) (nv := []) (by first | (rw [← some_elim hF]; kernel_rfl) | kernel_rfl)
    · have hF := ite_f hF hb
      refine Wk_seq ?_
      refine WR [] [1, 2, 4, 5, 14] [1, 2, 4, 5] [] [] [] [] ⟨[(1, .ptr 1 0), (2, .ptr 2 0), (4, .ptr 4 0), (5, .ptr 5 0), (14, .bool (decide (x.Role = 2)))], [(1, (c_Node x)), (2, [.int .i64 0, .int .i64 0, .int .i64 0, .int .i64 0, .nils, .int .i64 0, .int .i64 0, .nils, .nils, .nils]), (4, [.int .i64 0, .int .i64 0]), (5, [.int .i64 x1.Code, .int .i64 x1.At])], [], [], []⟩ .nil (by kernel_rfl) ?_
      refine Wk_split rfl (fun hb => ?_) (fun hb => ?_)
      · have hF := ite_t hF hb
        obtain ⟨x2, h1, hF⟩ := lt_split hF
        refine WR [.callB (.agg [.int .i64 x2.Code, .int .i64 x2.At])] [1, 2, 4, 5] [1, 2, 4, 5] [] [] [] [] ⟨[(1, .ptr 1 0), (2, .ptr 2 0), (4, .ptr 4 0), (5, .ptr 5 0)], [(1, (c_Node x)), (2, [.int .i64 0, .int .i64 0, .int .i64 0, .int .i64 0, .nils, .int .i64 0, .int .i64 0, .nils, .nils, .nils]), (4, [.int .i64 0, .int .i64 0]), (5, [.int .i64 x2.Code, .int .i64 x2.At])], [], [], []⟩ (.cons (raft_fault_ok 11 0 x2 h1) .nil) (by kernel_rfl) ?_
        exact Wk_met (fs := [1, 2, 4, 5]) (bs := [1, 2, 4, 5]) (rs := []) (ms := []) (aa := []) (nv := []) (by first | (rw [← some_elim hF]; kernel_rfl) | kernel_rfl)
      · have hF := ite_f hF hb
        refine Wk_seq ?_
        refine WR [] [1, 2, 4, 5, 19] [1, 2, 4, 5] [] [] [] [] ⟨[(1, .ptr 1 0), (2, .ptr 2 0), (4, .ptr 4 0), (5, .ptr 5 0), (19, .bool (decide (x.Term = 1000000000)))], [(1, (c_Node x)), (2, [.int .i64 0, .int .i64 0, .int .i64 0, .int .i64 0, .nils, .int .i64 0, .int .i64 0, .nils, .nils, .nils]), (4, [.int .i64 0, .int .i64 0]), (5, [.int .i64 x1.Code, .int .i64 x1.At])], [], [], []⟩ .nil (by kernel_rfl) ?_
        refine Wk_split rfl (fun hb => ?_) (fun hb => ?_)
        · have hF := ite_t hF hb
          obtain ⟨x3, h2, hF⟩ := lt_split hF
          refine WR [.callB (.agg [.int .i64 x3.Code, .int .i64 x3.At])] [1, 2, 4, 5] [1, 2, 4, 5] [] [] [] [] ⟨[(1, .ptr 1 0), (2, .ptr 2 0), (4, .ptr 4 0), (5, .ptr 5 0)], [(1, (c_Node x)), (2, [.int .i64 0, .int .i64 0, .int .i64 0, .int .i64 0, .nils, .int .i64 0, .int .i64 0, .nils, .nils, .nils]), (4, [.int .i64 0, .int .i64 0]), (5, [.int .i64 x3.Code, .int .i64 x3.At])], [], [], []⟩ (.cons (raft_fault_ok 9 0 x3 h2) .nil) (by kernel_rfl) ?_
          exact Wk_met (fs := [1, 2, 4, 5]) (bs := [1, 2, 4, 5]) (rs := []) (ms := []) (aa := []) (nv := []) (by first | (rw [← some_elim hF]; kernel_rfl) | kernel_rfl)
        · have hF := ite_f hF hb
          refine Wk_skip ?_
          exact Wk_met (fs := [1, 2, 4, 5]) (bs := [1, 2, 4, 5]) (rs := []) (ms := []) (aa := []) (nv := []) (by first | (rw [← some_elim hF]; kernel_rfl) | kernel_rfl)
  · refine Wk_blk ?_
    refine Wk_seq ?_
    refine Wk_seq ?_
    refine WR [] [1, 2, 4, 5, 26] [1, 2, 4, 5] [] [] [] [] ⟨[(1, .ptr 1 0), (2, .ptr 2 0), (4, .ptr 4 0), (5, .ptr 5 0), (26, .bool (!decide (v.Code = 0)))], [(1, (c_Node x)), (2, [.int .i64 0, .int .i64 0, .int .i64 0, .int .i64 0, .nils, .int .i64 0, .int .i64 0, .nils, .nils, .nils]), (4, [.int .i64 0, .int .i64 0]), (5, [.int .i64 v.Code, .int .i64 v.At])], [], [], []⟩ .nil (by kernel_rfl) ?_
    refine Wk_split rfl (fun hb => ?_) (fun hb => ?_)
    · have hF := ite_t hF hb
      refine Wk_seq ?_
      refine WD [] [2, 3, 4] [2, 4] [] [] [] [] ⟨[(2, .ptr 2 0), (3, .nils), (4, .ptr 4 0)], [(2, [.int .i64 0, .int .i64 0, .int .i64 0, .int .i64 0, .nils, .int .i64 0, .int .i64 0, .nils, .nils, .nils]), (4, [.int .i64 v.Code, .int .i64 v.At])], [], [], []⟩ .nil (by kernel_rfl) ?_
      have hF := some_elim hF
      exact Wk_ret (hfin _ ⟨[], [], [], [], [], [], by first | (rw [← hF]; kernel_rfl) | kernel_rfl⟩)
    · have hF := ite_f hF hb
      refine Wk_skip ?_
      refine Wk_seq ?_
      obtain ⟨x4, h3, hF⟩ := ob_elim hF
      refine WR [.callE [] [] [] [] (.ptr 30 0) ⟨[], [(30, [.int .i64 x4.1, .int .i64 x4.2.1, .int .i64 x4.2.2.1, .int .i64 x4.2.2.2.1, .row 30 0, .int .i64 x4.2.2.2.2.2.1, .int .i64 x4.2.2.2.2.2.2.1, .row 20030 0, .row 40030 0, .row 60030 0])], [(30, ⟨31, 2, 0, 0, 0, false, 0, [], (x4.2.2.2.2.1.map e_Entry)⟩), (20030, ⟨3, 1, 0, 0, 0, false, 0, [], (x4.2.2.2.2.2.2.2.1.map e_i64)⟩), (40030, ⟨3, 1, 0, 0, 0, false, 0, [], (x4.2.2.2.2.2.2.2.2.1.map e_i64)⟩), (60030, ⟨3, 1, 0, 0, 0, false, 0, [], (x4.2.2.2.2.2.2.2.2.2.map e_i64)⟩)], [], []⟩] [1, 2, 4, 5, 6] [1, 2, 4, 5, 6, 30] [30, 20030, 40030, 60030] [] [] [] ⟨[(1, .ptr 1 0), (2, .ptr 2 0), (4, .ptr 4 0), (5, .ptr 5 0), (6, .ptr 6 0)], [(1, (c_Node x)), (2, [.int .i64 0, .int .i64 0, .int .i64 0, .int .i64 0, .nils, .int .i64 0, .int .i64 0, .nils, .nils, .nils]), (4, [.int .i64 0, .int .i64 0]), (5, [.int .i64 v.Code, .int .i64 v.At]), (6, [.ptr 30 0]), (30, [.int .i64 x4.1, .int .i64 x4.2.1, .int .i64 x4.2.2.1, .int .i64 x4.2.2.2.1, .row 30 0, .int .i64 x4.2.2.2.2.2.1, .int .i64 x4.2.2.2.2.2.2.1, .row 20030 0, .row 40030 0, .row 60030 0])], [(30, ⟨31, 2, 0, 0, 0, false, 0, [], (x4.2.2.2.2.1.map e_Entry)⟩), (20030, ⟨3, 1, 0, 0, 0, false, 0, [], (x4.2.2.2.2.2.2.2.1.map e_i64)⟩), (40030, ⟨3, 1, 0, 0, 0, false, 0, [], (x4.2.2.2.2.2.2.2.2.1.map e_i64)⟩), (60030, ⟨3, 1, 0, 0, 0, false, 0, [], (x4.2.2.2.2.2.2.2.2.2.map e_i64)⟩)], [], []⟩ (.cons (Pe.ren (raft_own_ok x x4 h3) ⟨[(1, 30)], [(5, 30), (8, 20030), (11, 40030), (14, 60030)], [], []⟩) .nil) (by kernel_rfl) ?_
      refine Wk_seq ?_
      obtain ⟨x5, h4, hF⟩ := lt_split hF
      refine WR [.callE [30] [30, 20030, 40030, 60030] [] [] (.tup []) ⟨[], [(30, [.int .i64 x5.1, .int .i64 x5.2.1, .int .i64 x5.2.2.1, .int .i64 x5.2.2.2.1, .row 30 0, .int .i64 x5.2.2.2.2.1, .int .i64 x5.2.2.2.2.2, .nils, .nils, .nils])], [(30, ⟨31, 2, 0, 0, 0, false, 0, [], (x4.2.2.2.2.1.map e_Entry)⟩), (20030, ⟨3, 1, 0, 0, 0, false, 0, [], (x4.2.2.2.2.2.2.2.1.map e_i64)⟩), (40030, ⟨3, 1, 0, 0, 0, false, 0, [], (x4.2.2.2.2.2.2.2.2.1.map e_i64)⟩), (60030, ⟨3, 1, 0, 0, 0, false, 0, [], (x4.2.2.2.2.2.2.2.2.2.map e_i64)⟩)], [], []⟩] [1, 2, 4, 5, 6] [1, 2, 4, 5, 6, 30] [30] [] [] [] ⟨[(1, .ptr 1 0), (2, .ptr 2 0), (4, .ptr 4 0), (5, .ptr 5 0), (6, .ptr 6 0)], [(1, (c_Node x)), (2, [.int .i64 0, .int .i64 0, .int .i64 0, .int .i64 0, .nils, .int .i64 0, .int .i64 0, .nils, .nils, .nils]), (4, [.int .i64 0, .int .i64 0]), (5, [.int .i64 v.Code, .int .i64 v.At]), (6, [.ptr 30 0]), (30, [.int .i64 x5.1, .int .i64 x5.2.1, .int .i64 x5.2.2.1, .int .i64 x5.2.2.2.1, .row 30 0, .int .i64 x5.2.2.2.2.1, .int .i64 x5.2.2.2.2.2, .nils, .nils, .nils])], [(30, ⟨31, 2, 0, 0, 0, false, 0, [], (x4.2.2.2.2.1.map e_Entry)⟩)], [], []⟩ (.cons (Pe.ren (raft_follow_ok x4.1 x4.2.1 x4.2.2.1 x4.2.2.2.1 x4.2.2.2.2.2.1 x4.2.2.2.2.2.2.1 x4.2.2.2.2.1 x4.2.2.2.2.2.2.2.1 x4.2.2.2.2.2.2.2.2.1 x4.2.2.2.2.2.2.2.2.2 0 0 false 0 0 false 0 0 false 0 0 false x5 h4) ⟨[(100000, 30)], [(100000, 30), (100001, 20030), (100002, 40030), (100003, 60030)], [], []⟩) .nil) (by kernel_rfl) ?_
      refine Wk_seq ?_
      refine WD [.sealed] [2, 4, 5, 6] [2, 4, 5, 6, 30] [30] [] [] [] ⟨[(2, .ptr 2 0), (4, .ptr 4 0), (5, .ptr 5 0), (6, .ptr 6 0)], [(2, [.int .i64 0, .int .i64 0, .int .i64 0, .int .i64 0, .nils, .int .i64 0, .int .i64 0, .nils, .nils, .nils]), (4, [.int .i64 0, .int .i64 0]), (5, [.int .i64 v.Code, .int .i64 v.At]), (6, [.ptr 30 0]), (30, [.int .i64 x5.1, .int .i64 x5.2.1, .int .i64 (w64 (x.Term + 1)), .int .i64 (w64 (x.ID + 1)), .row 30 0, .int .i64 1, .int .i64 x5.2.2.2.2.2, .sl 1 (([x.ID] : List Int).map e_i64), .nils, .nils])], [(30, ⟨31, 2, 0, 0, 0, false, 0, [], (x4.2.2.2.2.1.map e_Entry)⟩)], [], []⟩ .nil (by kernel_rfl) ?_
      refine Wk_seq ?_
      obtain ⟨x6, h5, hF⟩ := ob_elim hF
      refine WR [.callE [30, 6] [30] [] [] (.row 56 0) ⟨[], [(30, [.int .i64 x5.1, .int .i64 x5.2.1, .int .i64 (w64 (x.Term + 1)), .int .i64 (w64 (x.ID + 1)), .row 30 0, .int .i64 1, .int .i64 x5.2.2.2.2.2, .sl 1 (([x.ID] : List Int).map e_i64), .nils, .nils]), (6, [.ptr 30 0])], [(30, ⟨31, 2, 0, 0, 0, false, 0, [], (x4.2.2.2.2.1.map e_Entry)⟩), (56, ⟨62, 9, 0, 0, 0, true, 0, [], (x6.map e_Mail)⟩)], [], []⟩] [2, 4, 5, 6, 7] [2, 4, 5, 6, 30] [30, 56] [] [] [] ⟨[(2, .ptr 2 0), (4, .ptr 4 0), (5, .ptr 5 0), (6, .ptr 6 0), (7, .row 56 0)], [(2, [.int .i64 0, .int .i64 0, .int .i64 0, .int .i64 0, .nils, .int .i64 0, .int .i64 0, .nils, .nils, .nils]), (4, [.int .i64 0, .int .i64 0]), (5, [.int .i64 v.Code, .int .i64 v.At]), (6, [.ptr 30 0]), (30, [.int .i64 x5.1, .int .i64 x5.2.1, .int .i64 (w64 (x.Term + 1)), .int .i64 (w64 (x.ID + 1)), .row 30 0, .int .i64 1, .int .i64 x5.2.2.2.2.2, .sl 1 (([x.ID] : List Int).map e_i64), .nils, .nils])], [(30, ⟨31, 2, 0, 0, 0, false, 0, [], (x4.2.2.2.2.1.map e_Entry)⟩), (56, ⟨62, 9, 0, 0, 0, true, 0, [], (x6.map e_Mail)⟩)], [], []⟩ (.cons (Pe.ren (raft_others_ok x5.1 x5.2.1 (w64 (x.Term + 1)) (w64 (x.ID + 1)) 1 x5.2.2.2.2.2 ([x.ID] : List Int) x4.2.2.2.2.1 0 0 false x6 h5) ⟨[(100000, 30), (100001, 6)], [(100000, 30), (39, 56)], [], []⟩) .nil) (by kernel_rfl) ?_
      refine Wk_seq ?_
      refine Wk_seq ?_
      obtain ⟨x7, h6, hF⟩ := lt_split hF
      refine WR [.callB (.bool x7)] [2, 4, 5, 6, 7, 61] [2, 4, 5, 6, 30] [30, 56] [] [] [] ⟨[(2, .ptr 2 0), (4, .ptr 4 0), (5, .ptr 5 0), (6, .ptr 6 0), (7, .row 56 0), (61, .bool x7)], [(2, [.int .i64 0, .int .i64 0, .int .i64 0, .int .i64 0, .nils, .int .i64 0, .int .i64 0, .nils, .nils, .nils]), (4, [.int .i64 0, .int .i64 0]), (5, [.int .i64 v.Code, .int .i64 v.At]), (6, [.ptr 30 0]), (30, [.int .i64 x5.1, .int .i64 x5.2.1, .int .i64 (w64 (x.Term + 1)), .int .i64 (w64 (x.ID + 1)), .row 30 0, .int .i64 1, .int .i64 x5.2.2.2.2.2, .sl 1 (([x.ID] : List Int).map e_i64), .nils, .nils])], [(30, ⟨31, 2, 0, 0, 0, false, 0, [], (x4.2.2.2.2.1.map e_Entry)⟩), (56, ⟨62, 9, 0, 0, 0, true, 0, [], (x6.map e_Mail)⟩)], [], []⟩ (.cons (raft_most_ok 1 x5.1 x7 h6) .nil) (by kernel_rfl) ?_
      obtain ⟨v1, hv, hF⟩ := ob_elim hF
      refine Wk_meet (⟨[(2, .ptr 2 0), (4, .ptr 4 0), (5, .ptr 5 0), (6, .ptr 6 0), (7, .row 56 0)], [(2, [.int .i64 0, .int .i64 0, .int .i64 0, .int .i64 0, .nils, .int .i64 0, .int .i64 0, .nils, .nils, .nils]), (4, [.int .i64 0, .int .i64 0]), (5, [.int .i64 v.Code, .int .i64 v.At]), (6, [.ptr 30 0]), (30, [.int .i64 v1.1, .int .i64 v1.2.1, .int .i64 v1.2.2.1, .int .i64 v1.2.2.2.1, .row 30 0, .int .i64 v1.2.2.2.2.1, .int .i64 v1.2.2.2.2.2.1, .sl 1 (v1.2.2.2.2.2.2.1.map e_i64), .row 63 0, .row 20063 0])], [(30, ⟨31, 2, 0, 0, 0, false, 0, [], (x4.2.2.2.2.1.map e_Entry)⟩), (56, ⟨62, 9, 0, 0, 0, true, 0, [], (x6.map e_Mail)⟩), (63, ⟨3, 1, 0, 0, 0, false, 0, [], (v1.2.2.2.2.2.2.2.1.map e_i64)⟩), (20063, ⟨3, 1, 0, 0, 0, false, 0, [], (v1.2.2.2.2.2.2.2.2.map e_i64)⟩)], [], []⟩ : S) ?_ ?_
      · have hF := hv
        refine Wk_split rfl (fun hb => ?_) (fun hb => ?_)
        · have hF := ite_t hF hb
          obtain ⟨x8, h7, hF⟩ := ob_elim hF
          refine WR [.callE [30] [30] [] [] (.tup []) ⟨[], [(30, [.int .i64 x8.1, .int .i64 x8.2.1, .int .i64 x8.2.2.1, .int .i64 x8.2.2.2.1, .row 30 0, .int .i64 x8.2.2.2.2.1, .int .i64 x8.2.2.2.2.2.1, .nils, .row 63 0, .row 20063 0])], [(30, ⟨31, 2, 0, 0, 0, false, 0, [], (x4.2.2.2.2.1.map e_Entry)⟩), (63, ⟨3, 1, 0, 0, 0, false, 0, [], (x8.2.2.2.2.2.2.1.map e_i64)⟩), (20063, ⟨3, 1, 0, 0, 0, false, 0, [], (x8.2.2.2.2.2.2.2.map e_i64)⟩)], [], []⟩] [2, 4, 5, 6, 7] [2, 4, 5, 6, 30] [30, 56, 63, 20063] [] [] [] ⟨[(2, .ptr 2 0), (4, .ptr 4 0), (5, .ptr 5 0), (6, .ptr 6 0), (7, .row 56 0)], [(2, [.int .i64 0, .int .i64 0, .int .i64 0, .int .i64 0, .nils, .int .i64 0, .int .i64 0, .nils, .nils, .nils]), (4, [.int .i64 0, .int .i64 0]), (5, [.int .i64 v.Code, .int .i64 v.At]), (6, [.ptr 30 0]), (30, [.int .i64 x8.1, .int .i64 x8.2.1, .int .i64 x8.2.2.1, .int .i64 x8.2.2.2.1, .row 30 0, .int .i64 x8.2.2.2.2.1, .int .i64 x8.2.2.2.2.2.1, .nils, .row 63 0, .row 20063 0])], [(30, ⟨31, 2, 0, 0, 0, false, 0, [], (x4.2.2.2.2.1.map e_Entry)⟩), (56, ⟨62, 9, 0, 0, 0, true, 0, [], (x6.map e_Mail)⟩), (63, ⟨3, 1, 0, 0, 0, false, 0, [], (x8.2.2.2.2.2.2.1.map e_i64)⟩), (20063, ⟨3, 1, 0, 0, 0, false, 0, [], (x8.2.2.2.2.2.2.2.map e_i64)⟩)], [], []⟩ (.cons (Pe.ren (raft_lead_ok x5.1 x5.2.1 (w64 (x.Term + 1)) (w64 (x.ID + 1)) 1 x5.2.2.2.2.2 ([x.ID] : List Int) x4.2.2.2.2.1 0 0 false x8 h7) ⟨[(100000, 30)], [(100000, 30), (18, 63), (23, 20063)], [], []⟩) .nil) (by kernel_rfl) ?_
          refine Wk_coeB 30 [.int .i64 x8.1, .int .i64 x8.2.1, .int .i64 x8.2.2.1, .int .i64 x8.2.2.2.1, .row 30 0, .int .i64 x8.2.2.2.2.1, .int .i64 x8.2.2.2.2.2.1, .sl 1 (([] : List Int).map e_i64), .row 63 0, .row 20063 0] rfl (.cons (CoeS.refl _) (.cons (CoeS.refl _) (.cons (CoeS.refl _) (.cons (CoeS.refl _) (.cons (CoeS.refl _) (.cons (CoeS.refl _) (.cons (CoeS.refl _) (.cons (CoeS.nils 1) (.cons (CoeS.refl _) (.cons (CoeS.refl _) .nil)))))))))) ?_
          exact Wk_met (fs := [2, 4, 5, 6, 7]) (bs := [2, 4, 5, 6, 30]) (rs := [30, 56, 63, 20063]) (ms := []) (aa := []) (nv := []) (by first | (rw [← some_elim hF]; kernel_rfl) | kernel_rfl)
        · have hF := ite_f hF hb
          refine Wk_skip ?_
          refine Wk_nilrowB 30 8 60000 3 1 rfl rfl rfl rfl rfl ?_
          refine Wk_nilrowB 30 9 60001 3 1 rfl rfl rfl rfl rfl ?_
          refine Wk_trim (fs := [2, 4, 5, 6, 7]) (bs := [2, 4, 5, 6, 30]) (rs := [30, 56, 60000, 60001]) (ms := []) (aa := []) (nv := []) rfl ?_
          refine Wk_ren' ⟨[], [(60000, 63), (60001, 20063)], [], []⟩ rfl ?_
          exact Wk_met (fs := [2, 4, 5, 6, 7]) (bs := [2, 4, 5, 6, 30]) (rs := [30, 56, 63, 20063]) (ms := []) (aa := []) (nv := [(63, ⟨0, true, false, false⟩), (20063, ⟨0, true, false, false⟩)]) (by first | (rw [← some_elim hF]; kernel_rfl) | kernel_rfl)
      · refine Wk_seq ?_
        refine WD [] [2, 3, 4] [2, 4] [30, 56, 63, 20063] [] [] [] ⟨[(2, .ptr 2 0), (3, .row 56 0), (4, .ptr 4 0)], [(2, [.int .i64 v1.1, .int .i64 v1.2.1, .int .i64 v1.2.2.1, .int .i64 v1.2.2.2.1, .row 30 0, .int .i64 v1.2.2.2.2.1, .int .i64 v1.2.2.2.2.2.1, .sl 1 (v1.2.2.2.2.2.2.1.map e_i64), .row 63 0, .row 20063 0]), (4, [.int .i64 v.Code, .int .i64 v.At])], [(30, ⟨31, 2, 0, 0, 0, false, 0, [], (x4.2.2.2.2.1.map e_Entry)⟩), (56, ⟨62, 9, 0, 0, 0, true, 0, [], (x6.map e_Mail)⟩), (63, ⟨3, 1, 0, 0, 0, false, 0, [], (v1.2.2.2.2.2.2.2.1.map e_i64)⟩), (20063, ⟨3, 1, 0, 0, 0, false, 0, [], (v1.2.2.2.2.2.2.2.2.map e_i64)⟩)], [], []⟩ .nil (by kernel_rfl) ?_
        have hF := some_elim hF
        exact Wk_ret (hfin _ ⟨[], [], [], [], [], [], by first | (rw [← hF]; kernel_rfl) | kernel_rfl⟩)

/- raft.count -/
noncomputable def raft_count_v1_J1 (box : Int) (box1 : Int) (box2 : Int) (box3 : Int) (box4 : Int) (v : Int) : Option (Int × Int × Int × Int × Int × Int) :=
  some (box, box1, box2, box3, box4, v)
noncomputable def raft_count_v1_J2 (box : Int) (box2 : Int) (row : List Entry) (v1 : Int × Int) (v2 : Int) : Option ((Int × Int) ⊕ (Int × Int × Int × Int × Int × Int)) :=
  lt (raft_most v2 box) fun x =>
  ob (if x = true then (entry_TermAt row v1.2) else some default) fun x1 =>
  ob (
    if (x && (decide (x1 = box2))) = true then
      some v1.2
    else
      some v1.1) fun (v3 : Int) =>
  some (Sum.inl (v3, w64 (v1.2 - 1)))
noncomputable def raft_count_v1_B2 (box : Int) (box2 : Int) (row : List Entry) (row3 : List Int) (v1 : Int × Int) (v4 : Int × Int) : Option ((Int × Int) ⊕ ((Int × Int) ⊕ (Int × Int × Int × Int × Int × Int))) :=
  if (decide (v4.2 < (row3.length : Int))) = true then
    asrt (0 ≤ v4.2 ∧ v4.2 < (row3.length : Int)) <|
    asrt (0 ≤ v4.2 ∧ v4.2 < (row3.length : Int)) <|
    ob (
      if (decide (v1.2 ≤ (lget row3 v4.2))) = true then
        some (w64 (v4.1 + 1))
      else
        some v4.1) fun (v5 : Int) =>
    some (Sum.inl (v5, w64 (v4.2 + 1)))
  else
    inrO (raft_count_v1_J2 box box2 row v1 v4.1)
noncomputable def raft_count_v1_L2 (box : Int) (box2 : Int) (row : List Entry) (row3 : List Int) (v1 : Int × Int) (v0 : Int × Int) : Option ((Int × Int) ⊕ (Int × Int × Int × Int × Int × Int)) :=
  loopO (fun y => raft_count_v1_B2 box box2 row row3 v1 y) v0
noncomputable def raft_count_v1_B1 (box : Int) (box1 : Int) (box2 : Int) (box3 : Int) (box4 : Int) (row : List Entry) (row3 : List Int) (v1 : Int × Int) : Option ((Int × Int) ⊕ (Int × Int × Int × Int × Int × Int)) :=
  if (decide (v1.1 < v1.2)) = true then
    raft_count_v1_L2 box box2 row row3 v1 (0, 0)
  else
    inrO (raft_count_v1_J1 box box1 box2 box3 box4 v1.1)
noncomputable def raft_count_v1_L1 (box : Int) (box1 : Int) (box2 : Int) (box3 : Int) (box4 : Int) (row : List Entry) (row3 : List Int) (v0 : Int × Int) : Option (Int × Int × Int × Int × Int × Int) :=
  loopO (fun y => raft_count_v1_B1 box box1 box2 box3 box4 row row3 y) v0
noncomputable def raft_count_v1 (box : Int) (box1 : Int) (box2 : Int) (box3 : Int) (box4 : Int) (box5 : Int) (row : List Entry) (row1 : List Int) (row2 : List Int) (row3 : List Int) : Option (Int × Int × Int × Int × Int × Int) :=
  raft_count_v1_L1 box box1 box2 box3 box4 row row3 (box5, (row.length : Int))
theorem raft_count_v1_ok (box : Int) (box1 : Int) (box2 : Int) (box3 : Int) (box4 : Int) (box5 : Int) (row : List Entry) (row1 : List Int) (row2 : List Int) (row3 : List Int) (rk : Nat) (rc : Nat) (rn : Bool) (rk1 : Nat) (rc1 : Nat) (rn1 : Bool) (rk2 : Nat) (rc2 : Nat) (rn2 : Bool) (rk3 : Nat) (rc3 : Nat) (rn3 : Bool) (r : Int × Int × Int × Int × Int × Int) (hF : raft_count_v1 box box1 box2 box3 box4 box5 row row1 row2 row3 = some r) : Pe Try.prog 69 ⟨[], [(100000, [.int .i64 box, .int .i64 box1, .int .i64 box2, .int .i64 box3, .row 100000 0, .int .i64 box4, .int .i64 box5, .row 100001 0, .row 100002 0, .row 100003 0])], [(100000, ⟨31, 2, 0, rk, rc, rn, 0, [], (row.map e_Entry)⟩), (100001, ⟨3, 1, 0, rk1, rc1, rn1, 0, [], (row1.map e_i64)⟩), (100002, ⟨3, 1, 0, rk2, rc2, rn2, 0, [], (row2.map e_i64)⟩), (100003, ⟨3, 1, 0, rk3, rc3, rn3, 0, [], (row3.map e_i64)⟩)], [], []⟩ [.ptr 100000 0] (.tup []) ⟨[], [(100000, [.int .i64 r.1, .int .i64 r.2.1, .int .i64 r.2.2.1, .int .i64 r.2.2.2.1, .row 100000 0, .int .i64 r.2.2.2.2.1, .int .i64 r.2.2.2.2.2, .row 100001 0, .row 100002 0, .row 100003 0])], [(100000, ⟨31, 2, 0, rk, rc, rn, 0, [], (row.map e_Entry)⟩), (100001, ⟨3, 1, 0, rk1, rc1, rn1, 0, [], (row1.map e_i64)⟩), (100002, ⟨3, 1, 0, rk2, rc2, rn2, 0, [], (row2.map e_i64)⟩), (100003, ⟨3, 1, 0, rk3, rc3, rn3, 0, [], (row3.map e_i64)⟩)], [], []⟩ := by
  refine Pe_of (N := 57) (res := []) (ts := []) Ty.ok Fn.b69 Try.func69 rfl rfl rfl rfl rfl rfl ?_
  intro Q g hfin
  unfold raft_count_v1 at hF
  refine Wk_seq ?_
  refine WR [.nat (row.length : Int)] [0, 2] [100000] [100000, 100001, 100002, 100003] [] [] [] ⟨[(0, .ptr 100000 0), (2, .int .i64 (row.length : Int))], [(100000, [.int .i64 box, .int .i64 box1, .int .i64 box2, .int .i64 box3, .row 100000 0, .int .i64 box4, .int .i64 box5, .row 100001 0, .row 100002 0, .row 100003 0])], [(100000, ⟨31, 2, 0, rk, rc, rn, 0, [], (row.map e_Entry)⟩), (100001, ⟨3, 1, 0, rk1, rc1, rn1, 0, [], (row1.map e_i64)⟩), (100002, ⟨3, 1, 0, rk2, rc2, rn2, 0, [], (row2.map e_i64)⟩), (100003, ⟨3, 1, 0, rk3, rc3, rn3, 0, [], (row3.map e_i64)⟩)], [], []⟩ (.cons (len_ok e_Entry row) .nil) (by kernel_rfl) ?_
  refine Wk_meetP (fun v : Int => (⟨[], [(100000, [.int .i64 box, .int .i64 box1, .int .i64 box2, .int .i64 box3, .row 100000 0, .int .i64 box4, .int .i64 v, .row 100001 0, .row 100002 0, .row 100003 0])], [(100000, ⟨31, 2, 0, rk, rc, rn, 0, [], (row.map e_Entry)⟩), (100001, ⟨3, 1, 0, rk1, rc1, rn1, 0, [], (row1.map e_i64)⟩), (100002, ⟨3, 1, 0, rk2, rc2, rn2, 0, [], (row2.map e_i64)⟩), (100003, ⟨3, 1, 0, rk3, rc3, rn3, 0, [], (row3.map e_i64)⟩)], [], []⟩ : S)) (fun v => raft_count_v1_J1 box box1 box2 box3 box4 v = some r) ?_ ?_
  · refine Wk_block ?_
    unfold raft_count_v1_L1 at hF
    refine Wk_trim (fs := [0, 2]) (bs := [100000]) (rs := [100000, 100001, 100002, 100003]) (ms := []) (aa := []) (nv := []) (t := (fun v1 : Int × Int => (⟨[(0, .ptr 100000 0), (2, .int .i64 v1.2)], [(100000, [.int .i64 box, .int .i64 box1, .int .i64 box2, .int .i64 box3, .row 100000 0, .int .i64 box4, .int .i64 v1.1, .row 100001 0, .row 100002 0, .row 100003 0])], [(100000, ⟨31, 2, 0, rk, rc, rn, 0, [], (row.map e_Entry)⟩), (100001, ⟨3, 1, 0, rk1, rc1, rn1, 0, [], (row1.map e_i64)⟩), (100002, ⟨3, 1, 0, rk2, rc2, rn2, 0, [], (row2.map e_i64)⟩), (100003, ⟨3, 1, 0, rk3, rc3, rn3, 0, [], (row3.map e_i64)⟩)], [], []⟩ : S)) (box5, (row.length : Int))) (by kernel_rfl) ?_
    refine Wk_iter (step := fun y => raft_count_v1_B1 box box1 box2 box3 box4 row row3 y) (r := r) (fun v1 : Int × Int => (⟨[(0, .ptr 100000 0), (2, .int .i64 v1.2)], [(100000, [.int .i64 box, .int .i64 box1, .int .i64 box2, .int .i64 box3, .row 100000 0, .int .i64 box4, .int .i64 v1.1, .row 100001 0, .row 100002 0, .row 100003 0])], [(100000, ⟨31, 2, 0, rk, rc, rn, 0, [], (row.map e_Entry)⟩), (100001, ⟨3, 1, 0, rk1, rc1, rn1, 0, [], (row1.map e_i64)⟩), (100002, ⟨3, 1, 0, rk2, rc2, rn2, 0, [], (row2.map e_i64)⟩), (100003, ⟨3, 1, 0, rk3, rc3, rn3, 0, [], (row3.map e_i64)⟩)], [], []⟩ : S)) (box5, (row.length : Int)) hF ?_
    intro n1 v1 y1 hF ih1 dn1
    have hF : raft_count_v1_B1 box box1 box2 box3 box4 row row3 v1 = some y1 := hF
    unfold raft_count_v1_B1 at hF
    refine Wk_seq ?_
    refine Wk_seq ?_
    refine WR [] [0, 2, 16] [100000] [100000, 100001, 100002, 100003] [] [] [] ⟨[(0, .ptr 100000 0), (2, .int .i64 v1.2), (16, .bool (decide (v1.1 < v1.2)))], [(100000, [.int .i64 box, .int .i64 box1, .int .i64 box2, .int .i64 box3, .row 100000 0, .int .i64 box4, .int .i64 v1.1, .row 100001 0, .row 100002 0, .row 100003 0])], [(100000, ⟨31, 2, 0, rk, rc, rn, 0, [], (row.map e_Entry)⟩), (100001, ⟨3, 1, 0, rk1, rc1, rn1, 0, [], (row1.map e_i64)⟩), (100002, ⟨3, 1, 0, rk2, rc2, rn2, 0, [], (row2.map e_i64)⟩), (100003, ⟨3, 1, 0, rk3, rc3, rn3, 0, [], (row3.map e_i64)⟩)], [], []⟩ .nil (by kernel_rfl) ?_
    refine Wk_split rfl (fun hb => ?_) (fun hb => ?_)
    · have hF := ite_t hF hb
      refine Wk_skip ?_
      refine Wk_seq ?_
      refine Wk_block ?_
      refine Wk_seq ?_
      refine WR [] [0, 2, 3] [100000] [100000, 100001, 100002, 100003] [] [] [] ⟨[(0, .ptr 100000 0), (2, .int .i64 v1.2), (3, .int .i64 0)], [(100000, [.int .i64 box, .int .i64 box1, .int .i64 box2, .int .i64 box3, .row 100000 0, .int .i64 box4, .int .i64 v1.1, .row 100001 0, .row 100002 0, .row 100003 0])], [(100000, ⟨31, 2, 0, rk, rc, rn, 0, [], (row.map e_Entry)⟩), (100001, ⟨3, 1, 0, rk1, rc1, rn1, 0, [], (row1.map e_i64)⟩), (100002, ⟨3, 1, 0, rk2, rc2, rn2, 0, [], (row2.map e_i64)⟩), (100003, ⟨3, 1, 0, rk3, rc3, rn3, 0, [], (row3.map e_i64)⟩)], [], []⟩ .nil (by kernel_rfl) ?_
      refine Wk_seq ?_
      refine Wk_seq ?_
      refine WR [.nat (row3.length : Int)] [0, 2, 3, 22, 23, 24] [100000] [100000, 100001, 100002, 100003] [] [] [] ⟨[(0, .ptr 100000 0), (2, .int .i64 v1.2), (3, .int .i64 0), (22, .row 100003 0), (23, .int .i64 (row3.length : Int)), (24, .int .i64 0)], [(100000, [.int .i64 box, .int .i64 box1, .int .i64 box2, .int .i64 box3, .row 100000 0, .int .i64 box4, .int .i64 v1.1, .row 100001 0, .row 100002 0, .row 100003 0])], [(100000, ⟨31, 2, 0, rk, rc, rn, 0, [], (row.map e_Entry)⟩), (100001, ⟨3, 1, 0, rk1, rc1, rn1, 0, [], (row1.map e_i64)⟩), (100002, ⟨3, 1, 0, rk2, rc2, rn2, 0, [], (row2.map e_i64)⟩), (100003, ⟨3, 1, 0, rk3, rc3, rn3, 0, [], (row3.map e_i64)⟩)], [], []⟩ (.cons (len_ok e_i64 row3) .nil) (by kernel_rfl) ?_
      refine Wk_meetP (fun v2 : Int => (⟨[(0, .ptr 100000 0), (2, .int .i64 v1.2), (3, .int .i64 v2)], [(100000, [.int .i64 box, .int .i64 box1, .int .i64 box2, .int .i64 box3, .row 100000 0, .int .i64 box4, .int .i64 v1.1, .row 100001 0, .row 100002 0, .row 100003 0])], [(100000, ⟨31, 2, 0, rk, rc, rn, 0, [], (row.map e_Entry)⟩), (100001, ⟨3, 1, 0, rk1, rc1, rn1, 0, [], (row1.map e_i64)⟩), (100002, ⟨3, 1, 0, rk2, rc2, rn2, 0, [], (row2.map e_i64)⟩), (100003, ⟨3, 1, 0, rk3, rc3, rn3, 0, [], (row3.map e_i64)⟩)], [], []⟩ : S)) (fun v2 => raft_count_v1_J2 box box2 row v1 v2 = some y1) ?_ ?_
      · refine Wk_block ?_
        unfold raft_count_v1_L2 at hF
        refine Wk_trim (fs := [0, 2, 3, 22, 23, 24]) (bs := [100000]) (rs := [100000, 100001, 100002, 100003]) (ms := []) (aa := []) (nv := []) (t := (fun v4 : Int × Int => (⟨[(0, .ptr 100000 0), (2, .int .i64 v1.2), (3, .int .i64 v4.1), (22, .row 100003 0), (23, .int .i64 (row3.length : Int)), (24, .int .i64 v4.2)], [(100000, [.int .i64 box, .int .i64 box1, .int .i64 box2, .int .i64 box3, .row 100000 0, .int .i64 box4, .int .i64 v1.1, .row 100001 0, .row 100002 0, .row 100003 0])], [(100000, ⟨31, 2, 0, rk, rc, rn, 0, [], (row.map e_Entry)⟩), (100001, ⟨3, 1, 0, rk1, rc1, rn1, 0, [], (row1.map e_i64)⟩), (100002, ⟨3, 1, 0, rk2, rc2, rn2, 0, [], (row2.map e_i64)⟩), (100003, ⟨3, 1, 0, rk3, rc3, rn3, 0, [], (row3.map e_i64)⟩)], [], []⟩ : S)) (0, 0)) (by kernel_rfl) ?_
        refine Wk_iter (step := fun y => raft_count_v1_B2 box box2 row row3 v1 y) (r := y1) (fun v4 : Int × Int => (⟨[(0, .ptr 100000 0), (2, .int .i64 v1.2), (3, .int .i64 v4.1), (22, .row 100003 0), (23, .int .i64 (row3.length : Int)), (24, .int .i64 v4.2)], [(100000, [.int .i64 box, .int .i64 box1, .int .i64 box2, .int .i64 box3, .row 100000 0, .int .i64 box4, .int .i64 v1.1, .row 100001 0, .row 100002 0, .row 100003 0])], [(100000, ⟨31, 2, 0, rk, rc, rn, 0, [], (row.map e_Entry)⟩), (100001, ⟨3, 1, 0, rk1, rc1, rn1, 0, [], (row1.map e_i64)⟩), (100002, ⟨3, 1, 0, rk2, rc2, rn2, 0, [], (row2.map e_i64)⟩), (100003, ⟨3, 1, 0, rk3, rc3, rn3, 0, [], (row3.map e_i64)⟩)], [], []⟩ : S)) (0, 0) hF ?_
        intro n2 v4 y2 hF ih2 dn2
        have hF : raft_count_v1_B2 box box2 row row3 v1 v4 = some y2 := hF
        unfold raft_count_v1_B2 at hF
        refine Wk_seq ?_
        refine WR [] [0, 2, 3, 22, 23, 24, 25] [100000] [100000, 100001, 100002, 100003] [] [] [] ⟨[(0, .ptr 100000 0), (2, .int .i64 v1.2), (3, .int .i64 v4.1), (22, .row 100003 0), (23, .int .i64 (row3.length : Int)), (24, .int .i64 v4.2), (25, .bool (decide (v4.2 < (row3.length : Int))))], [(100000, [.int .i64 box, .int .i64 box1, .int .i64 box2, .int .i64 box3, .row 100000 0, .int .i64 box4, .int .i64 v1.1, .row 100001 0, .row 100002 0, .row 100003 0])], [(100000, ⟨31, 2, 0, rk, rc, rn, 0, [], (row.map e_Entry)⟩), (100001, ⟨3, 1, 0, rk1, rc1, rn1, 0, [], (row1.map e_i64)⟩), (100002, ⟨3, 1, 0, rk2, rc2, rn2, 0, [], (row2.map e_i64)⟩), (100003, ⟨3, 1, 0, rk3, rc3, rn3, 0, [], (row3.map e_i64)⟩)], [], []⟩ .nil (by kernel_rfl) ?_
        refine Wk_seq ?_
        refine Wk_split rfl (fun hb => ?_) (fun hb => ?_)
        · have hF := ite_t hF hb
          refine Wk_skip ?_
          refine Wk_seq ?_
          refine Wk_block ?_
          refine Wk_seq ?_
          obtain ⟨h2, hF⟩ := asrt_elim hF
          obtain ⟨h3, hF⟩ := asrt_elim hF
          refine WR [.av (e_i64 (lget row3 v4.2))] [0, 2, 3, 5, 22, 23, 24] [100000] [100000, 100001, 100002, 100003] [] [] [] ⟨[(0, .ptr 100000 0), (2, .int .i64 v1.2), (3, .int .i64 v4.1), (5, .int .i64 (lget row3 v4.2)), (22, .row 100003 0), (23, .int .i64 (row3.length : Int)), (24, .int .i64 v4.2)], [(100000, [.int .i64 box, .int .i64 box1, .int .i64 box2, .int .i64 box3, .row 100000 0, .int .i64 box4, .int .i64 v1.1, .row 100001 0, .row 100002 0, .row 100003 0])], [(100000, ⟨31, 2, 0, rk, rc, rn, 0, [], (row.map e_Entry)⟩), (100001, ⟨3, 1, 0, rk1, rc1, rn1, 0, [], (row1.map e_i64)⟩), (100002, ⟨3, 1, 0, rk2, rc2, rn2, 0, [], (row2.map e_i64)⟩), (100003, ⟨3, 1, 0, rk3, rc3, rn3, 0, [], (row3.map e_i64)⟩)], [], []⟩ (.cons (ixr_ok e_i64 h2) (.cons (ldr_ok e_i64 h3) .nil)) (by kernel_rfl) ?_
          refine Wk_seq ?_
          refine WR [] [0, 2, 3, 22, 23, 24, 30] [100000] [100000, 100001, 100002, 100003] [] [] [] ⟨[(0, .ptr 100000 0), (2, .int .i64 v1.2), (3, .int .i64 v4.1), (22, .row 100003 0), (23, .int .i64 (row3.length : Int)), (24, .int .i64 v4.2), (30, .bool (decide (v1.2 ≤ (lget row3 v4.2))))], [(100000, [.int .i64 box, .int .i64 box1, .int .i64 box2, .int .i64 box3, .row 100000 0, .int .i64 box4, .int .i64 v1.1, .row 100001 0, .row 100002 0, .row 100003 0])], [(100000, ⟨31, 2, 0, rk, rc, rn, 0, [], (row.map e_Entry)⟩), (100001, ⟨3, 1, 0, rk1, rc1, rn1, 0, [], (row1.map e_i64)⟩), (100002, ⟨3, 1, 0, rk2, rc2, rn2, 0, [], (row2.map e_i64)⟩), (100003, ⟨3, 1, 0, rk3, rc3, rn3, 0, [], (row3.map e_i64)⟩)], [], []⟩ .nil (by kernel_rfl) ?_
          obtain ⟨v5, hv, hF⟩ := ob_elim hF
          refine Wk_meet (⟨[(0, .ptr 100000 0), (2, .int .i64 v1.2), (3, .int .i64 v5), (22, .row 100003 0), (23, .int .i64 (row3.length : Int)), (24, .int .i64 v4.2)], [(100000, [.int .i64 box, .int .i64 box1, .int .i64 box2, .int .i64 box3, .row 100000 0, .int .i64 box4, .int .i64 v1.1, .row 100001 0, .row 100002 0, .row 100003 0])], [(100000, ⟨31, 2, 0, rk, rc, rn, 0, [], (row.map e_Entry)⟩), (100001, ⟨3, 1, 0, rk1, rc1, rn1, 0, [], (row1.map e_i64)⟩), (100002, ⟨3, 1, 0, rk2, rc2, rn2, 0, [], (row2.map e_i64)⟩), (100003, ⟨3, 1, 0, rk3, rc3, rn3, 0, [], (row3.map e_i64)⟩)], [], []⟩ : S) ?_ ?_
          · have hF := hv
            refine Wk_split rfl (fun hb => ?_) (fun hb => ?_)
            · have hF := ite_t hF hb
              refine WR [] [0, 2, 3, 22, 23, 24] [100000] [100000, 100001, 100002, 100003] [] [] [] ⟨[(0, .ptr 100000 0), (2, .int .i64 v1.2), (3, .int .i64 (w64 (v4.1 + 1))), (22, .row 100003 0), (23, .int .i64 (row3.length : Int)), (24, .int .i64 v4.2)], [(100000, [.int .i64 box, .int .i64 box1, .int .i64 box2, .int .i64 box3, .row 100000 0, .int .i64 box4, .int .i64 v1.1, .row 100001 0, .row 100002 0, .row 100003 0])], [(100000, ⟨31, 2, 0, rk, rc, rn, 0, [], (row.map e_Entry)⟩), (100001, ⟨3, 1, 0, rk1, rc1, rn1, 0, [], (row1.map e_i64)⟩), (100002, ⟨3, 1, 0, rk2, rc2, rn2, 0, [], (row2.map e_i64)⟩), (100003, ⟨3, 1, 0, rk3, rc3, rn3, 0, [], (row3.map e_i64)⟩)], [], []⟩ .nil (by kernel_rfl) ?_
              exact Wk_met (fs := [0, 2, 3, 22, 23, 24]) (bs := [100000]) (rs := [100000, 100001, 100002, 100003]) (ms := []) (aa := []) (nv := []) (by first | (rw [← some_elim hF]; kernel_rfl) | kernel_rfl)
            · have hF := ite_f hF hb
              refine Wk_skip ?_
              exact Wk_met (fs := [0, 2, 3, 22, 23, 24]) (bs := [100000]) (rs := [100000, 100001, 100002, 100003]) (ms := []) (aa := []) (nv := []) (by first | (rw [← some_elim hF]; kernel_rfl) | kernel_rfl)
          · refine Wk_blk ?_
            refine WR [] [0, 2, 3, 22, 23, 24] [100000] [100000, 100001, 100002, 100003] [] [] [] ⟨[(0, .ptr 100000 0), (2, .int .i64 v1.2), (3, .int .i64 v5), (22, .row 100003 0), (23, .int .i64 (row3.length : Int)), (24, .int .i64 (w64 (v4.2 + 1)))], [(100000, [.int .i64 box, .int .i64 box1, .int .i64 box2, .int .i64 box3, .row 100000 0, .int .i64 box4, .int .i64 v1.1, .row 100001 0, .row 100002 0, .row 100003 0])], [(100000, ⟨31, 2, 0, rk, rc, rn, 0, [], (row.map e_Entry)⟩), (100001, ⟨3, 1, 0, rk1, rc1, rn1, 0, [], (row1.map e_i64)⟩), (100002, ⟨3, 1, 0, rk2, rc2, rn2, 0, [], (row2.map e_i64)⟩), (100003, ⟨3, 1, 0, rk3, rc3, rn3, 0, [], (row3.map e_i64)⟩)], [], []⟩ .nil (by kernel_rfl) ?_
            refine Wk_trim (fs := [0, 2, 3, 22, 23, 24]) (bs := [100000]) (rs := [100000, 100001, 100002, 100003]) (ms := []) (aa := []) (nv := []) ?_ (ih2 _ (some_elim hF).symm)
            kernel_rfl
        · have hF := ite_f hF hb
          refine Wk_exit rfl ?_
          have hF := inrO_done hF dn2
          exact Wk_metP v4.1 [0, 2, 3] [100000] [100000, 100001, 100002, 100003] [] [] [] hF (by kernel_rfl)
      · intro v2 hF
        have hF : raft_count_v1_J2 box box2 row v1 v2 = some y1 := hF
        unfold raft_count_v1_J2 at hF
        refine Wk_seq ?_
        obtain ⟨x, h0, hF⟩ := lt_split hF
        obtain ⟨x1, h1, hF⟩ := ob_elim hF
        refine WD [.callB (.bool x), .callB (.int .i64 x1)] [0, 2, 52] [100000] [100000, 100001, 100002, 100003] [] [] [] ⟨[(0, .ptr 100000 0), (2, .int .i64 v1.2), (52, .bool (x && (decide (x1 = box2))))], [(100000, [.int .i64 box, .int .i64 box1, .int .i64 box2, .int .i64 box3, .row 100000 0, .int .i64 box4, .int .i64 v1.1, .row 100001 0, .row 100002 0, .row 100003 0])], [(100000, ⟨31, 2, 0, rk, rc, rn, 0, [], (row.map e_Entry)⟩), (100001, ⟨3, 1, 0, rk1, rc1, rn1, 0, [], (row1.map e_i64)⟩), (100002, ⟨3, 1, 0, rk2, rc2, rn2, 0, [], (row2.map e_i64)⟩), (100003, ⟨3, 1, 0, rk3, rc3, rn3, 0, [], (row3.map e_i64)⟩)], [], []⟩ (.cons (raft_most_ok v2 box x h0) (.cons (fun (ga0 : x = true) => (entry_TermAt_ok row v1.2 x1 (ite_t h1 ga0))) .nil)) (by kernel_rfl) ?_
        obtain ⟨v3, hv, hF⟩ := ob_elim hF
        refine Wk_meet (⟨[(0, .ptr 100000 0), (2, .int .i64 v1.2)], [(100000, [.int .i64 box, .int .i64 box1, .int .i64 box2, .int .i64 box3, .row 100000 0, .int .i64 box4, .int .i64 v3, .row 100001 0, .row 100002 0, .row 100003 0])], [(100000, ⟨31, 2, 0, rk, rc, rn, 0, [], (row.map e_Entry)⟩), (100001, ⟨3, 1, 0, rk1, rc1, rn1, 0, [], (row1.map e_i64)⟩), (100002, ⟨3, 1, 0, rk2, rc2, rn2, 0, [], (row2.map e_i64)⟩), (100003, ⟨3, 1, 0, rk3, rc3, rn3, 0, [], (row3.map e_i64)⟩)], [], []⟩ : S) ?_ ?_
        · have hF := hv
          refine Wk_split rfl (fun hb => ?_) (fun hb => ?_)
          · have hF := ite_t hF hb
            refine WR [] [0, 2] [100000] [100000, 100001, 100002, 100003] [] [] [] ⟨[(0, .ptr 100000 0), (2, .int .i64 v1.2)], [(100000, [.int .i64 box, .int .i64 box1, .int .i64 box2, .int .i64 box3, .row 100000 0, .int .i64 box4, .int .i64 v1.2, .row 100001 0, .row 100002 0, .row 100003 0])], [(100000, ⟨31, 2, 0, rk, rc, rn, 0, [], (row.map e_Entry)⟩), (100001, ⟨3, 1, 0, rk1, rc1, rn1, 0, [], (row1.map e_i64)⟩), (100002, ⟨3, 1, 0, rk2, rc2, rn2, 0, [], (row2.map e_i64)⟩), (100003, ⟨3, 1, 0, rk3, rc3, rn3, 0, [], (row3.map e_i64)⟩)], [], []⟩ .nil (by kernel_rfl) ?_
            exact Wk_met (fs := [0, 2]) (bs := [100000]) (rs := [100000, 100001, 100002, 100003]) (ms := []) (aa := []) (nv := []) (by first | (rw [← some_elim hF]; kernel_rfl) | kernel_rfl)
          · have hF := ite_f hF hb
            refine Wk_skip ?_
            exact Wk_met (fs := [0, 2]) (bs := [100000]) (rs := [100000, 100001, 100002, 100003]) (ms := []) (aa := []) (nv := []) (by first | (rw [← some_elim hF]; kernel_rfl) | kernel_rfl)
        · refine Wk_blk ?_
          refine WR [] [0, 2] [100000] [100000, 100001, 100002, 100003] [] [] [] ⟨[(0, .ptr 100000 0), (2, .int .i64 (w64 (v1.2 - 1)))], [(100000, [.int .i64 box, .int .i64 box1, .int .i64 box2, .int .i64 box3, .row 100000 0, .int .i64 box4, .int .i64 v3, .row 100001 0, .row 100002 0, .row 100003 0])], [(100000, ⟨31, 2, 0, rk, rc, rn, 0, [], (row.map e_Entry)⟩), (100001, ⟨3, 1, 0, rk1, rc1, rn1, 0, [], (row1.map e_i64)⟩), (100002, ⟨3, 1, 0, rk2, rc2, rn2, 0, [], (row2.map e_i64)⟩), (100003, ⟨3, 1, 0, rk3, rc3, rn3, 0, [], (row3.map e_i64)⟩)], [], []⟩ .nil (by kernel_rfl) ?_
          refine Wk_trim (fs := [0, 2]) (bs := [100000]) (rs := [100000, 100001, 100002, 100003]) (ms := []) (aa := []) (nv := []) ?_ (ih1 _ (some_elim hF).symm)
          kernel_rfl
    · have hF := ite_f hF hb
      refine Wk_exit rfl ?_
      have hF := inrO_done hF dn1
      exact Wk_metP v1.1 [] [100000] [100000, 100001, 100002, 100003] [] [] [] hF (by kernel_rfl)
  · intro v hF
    have hF : raft_count_v1_J1 box box1 box2 box3 box4 v = some r := hF
    unfold raft_count_v1_J1 at hF
    have hF := some_elim hF
    exact Wk_end (hfin _ ⟨[100000, 100001, 100002, 100003], [100000], [100000, 100001, 100002, 100003], [], [], [], by first | (rw [← hF]; kernel_rfl) | kernel_rfl⟩)

/- raft.Propose -/
noncomputable def raft_Propose_v1 (x : Node) (text : List UInt8) : Option (Node × Fault) :=
  ob (raft_Check x) fun x1 =>
  ob (
    if (!decide (x1.Code = 0)) = true then
      some x1
    else
      if (!decide (x.Role = 2)) = true then
        lt (raft_fault 11 0) fun x2 =>
        some x2
      else
        if (decide (200 < (text.length : Int))) = true then
          lt (raft_fault 8 0) fun x3 =>
          some x3
        else
          if (decide ((x.Log.length : Int) = 100)) = true then
            lt (raft_fault 2 0) fun x4 =>
            some x4
          else
            some x1) fun (v : Fault) =>
  if (!decide (v.Code = 0)) = true then
    some ((⟨0, 0, 0, 0, ([] : List Entry), 0, 0, ([] : List Int), ([] : List Int), ([] : List Int)⟩ : Node), v)
  else
    ob (raft_own x) fun x5 =>
    asrt (((x5.2.2.2.2.1 ++ [(⟨x.Term, text⟩ : Entry)]).length : Int) * 24 ≤ 140737488351232) <|
    asrt (0 ≤ x5.2.1 ∧ x5.2.1 < (x5.2.2.2.2.2.2.2.2.2.length : Int)) <|
    asrt (0 ≤ x5.2.1 ∧ x5.2.1 < (x5.2.2.2.2.2.2.2.2.2.length : Int)) <|
    lt ((lset x5.2.2.2.2.2.2.2.2.2 x5.2.1 ((x5.2.2.2.2.1 ++ [(⟨x.Term, text⟩ : Entry)]).length : Int))) fun (v1 : List Int) =>
    asrt (0 ≤ x5.2.1 ∧ x5.2.1 < (x5.2.2.2.2.2.2.2.2.1.length : Int)) <|
    asrt (0 ≤ x5.2.1 ∧ x5.2.1 < (x5.2.2.2.2.2.2.2.2.1.length : Int)) <|
    lt ((lset x5.2.2.2.2.2.2.2.2.1 x5.2.1 (w64 (((x5.2.2.2.2.1 ++ [(⟨x.Term, text⟩ : Entry)]).length : Int) + 1)))) fun (v2 : List Int) =>
    ob (raft_count_v1 x5.1 x5.2.1 x5.2.2.1 x5.2.2.2.1 x5.2.2.2.2.2.1 x5.2.2.2.2.2.2.1 (x5.2.2.2.2.1 ++ [(⟨x.Term, text⟩ : Entry)]) x5.2.2.2.2.2.2.2.1 v2 v1) fun x6 =>
    some ((⟨x6.1, x6.2.1, x6.2.2.1, x6.2.2.2.1, (x5.2.2.2.2.1 ++ [(⟨x.Term, text⟩ : Entry)]), x6.2.2.2.2.1, x6.2.2.2.2.2, x5.2.2.2.2.2.2.2.1, v2, v1⟩ : Node), v)
theorem raft_Propose_v1_ok (x : Node) (text : List UInt8) (r : Node × Fault) (hF : raft_Propose_v1 x text = some r) : Pe Try.prog 32 S.none [.agg (c_Node x), .str text] (.tup [.agg (c_Node r.1), .agg [.int .i64 r.2.Code, .int .i64 r.2.At]]) S.none := by
  refine Pe_of (N := 85) (res := [.cell 4 46, .cell 5 26]) (ts := [46, 26]) Ty.ok Fn.b32 Try.func32 rfl rfl rfl rfl rfl rfl ?_
  intro Q g hfin
  unfold raft_Propose_v1 at hF
  refine Wk_seq ?_
  refine WR [] [1, 2, 4, 5] [2, 4, 5] [] [] [] [] ⟨[(1, .str text), (2, .ptr 2 0), (4, .ptr 4 0), (5, .ptr 5 0)], [(2, (c_Node x)), (4, [.int .i64 0, .int .i64 0, .int .i64 0, .int .i64 0, .nils, .int .i64 0, .int .i64 0, .nils, .nils, .nils]), (5, [.int .i64 0, .int .i64 0])], [], [], []⟩ .nil (by kernel_rfl) ?_
  refine Wk_seq ?_
  obtain ⟨x1, h0, hF⟩ := ob_elim hF
  refine WR [.callB (.agg [.int .i64 x1.Code, .int .i64 x1.At])] [1, 2, 4, 5, 6] [2, 4, 5, 6] [] [] [] [] ⟨[(1, .str text), (2, .ptr 2 0), (4, .ptr 4 0), (5, .ptr 5 0), (6, .ptr 6 0)], [(2, (c_Node x)), (4, [.int .i64 0, .int .i64 0, .int .i64 0, .int .i64 0, .nils, .int .i64 0, .int .i64 0, .nils, .nils, .nils]), (5, [.int .i64 0, .int .i64 0]), (6, [.int .i64 x1.Code, .int .i64 x1.At])], [], [], []⟩ (.cons (raft_Check_ok x x1 h0) .nil) (by kernel_rfl) ?_
  refine Wk_seq ?_
  refine Wk_block ?_
  refine Wk_seq ?_
  refine WR [] [1, 2, 4, 5, 6, 10] [2, 4, 5, 6] [] [] [] [] ⟨[(1, .str text), (2, .ptr 2 0), (4, .ptr 4 0), (5, .ptr 5 0), (6, .ptr 6 0), (10, .bool (!decide (x1.Code = 0)))], [(2, (c_Node x)), (4, [.int .i64 0, .int .i64 0, .int .i64 0, .int .i64 0, .nils, .int .i64 0, .int .i64 0, .nils, .nils, .nils]), (5, [.int .i64 0, .int .i64 0]), (6, [.int .i64 x1.Code, .int .i64 x1.At])], [], [], []⟩ .nil (by kernel_rfl) ?_
  obtain ⟨v, hv, hF⟩ := ob_elim hF
  refine Wk_meet (⟨[(1, .str text), (2, .ptr 2 0), (4, .ptr 4 0), (5, .ptr 5 0), (6, .ptr 6 0)], [(2, (c_Node x)), (4, [.int .i64 0, .int .i64 0, .int .i64 0, .int .i64 0, .nils, .int .i64 0, .int .i64 0, .nils, .nils, .nils]), (5, [.int .i64 0, .int .i64 0]), (6, [.int .i64 v.Code, .int .i64 v.At])], [], [], []⟩ : S) ?_ ?_
  · have hF := hv
    refine Wk_split rfl (fun hb => ?_) (fun hb => ?_)
    · have hF := ite_t hF hb
      refine Wk_skip ?_
      exact Wk_met (fs := [1, 2, 4, 5, 6]) (bs := [2, 4, 5, 6]) (rs := []) (ms := []) (aa := []) (nv := []) (by first | (rw [← some_elim hF]; kernel_rfl) | kernel_rfl)
    · have hF := ite_f hF hb
      refine Wk_seq ?_
      refine WR [] [1, 2, 4, 5, 6, 14] [2, 4, 5, 6] [] [] [] [] ⟨[(1, .str text), (2, .ptr 2 0), (4, .ptr 4 0), (5, .ptr 5 0), (6, .ptr 6 0), (14, .bool (!decide (x.Role = 2)))], [(2, (c_Node x)), (4, [.int .i64 0, .int .i64 0, .int .i64 0, .int .i64 0, .nils, .int .i64 0, .int .i64 0, .nils, .nils, .nils]), (5, [.int .i64 0, .int .i64 0]), (6, [.int .i64 x1.Code, .int .i64 x1.At])], [], [], []⟩ .nil (by kernel_rfl) ?_
      refine Wk_split rfl (fun hb => ?_) (fun hb => ?_)
      · have hF := ite_t hF hb
        obtain ⟨x2, h1, hF⟩ := lt_split hF
        refine WR [.callB (.agg [.int .i64 x2.Code, .int .i64 x2.At])] [1, 2, 4, 5, 6] [2, 4, 5, 6] [] [] [] [] ⟨[(1, .str text), (2, .ptr 2 0), (4, .ptr 4 0), (5, .ptr 5 0), (6, .ptr 6 0)], [(2, (c_Node x)), (4, [.int .i64 0, .int .i64 0, .int .i64 0, .int .i64 0, .nils, .int .i64 0, .int .i64 0, .nils, .nils, .nils]), (5, [.int .i64 0, .int .i64 0]), (6, [.int .i64 x2.Code, .int .i64 x2.At])], [], [], []⟩ (.cons (raft_fault_ok 11 0 x2 h1) .nil) (by kernel_rfl) ?_
        exact Wk_met (fs := [1, 2, 4, 5, 6]) (bs := [2, 4, 5, 6]) (rs := []) (ms := []) (aa := []) (nv := []) (by first | (rw [← some_elim hF]; kernel_rfl) | kernel_rfl)
      · have hF := ite_f hF hb
        refine Wk_seq ?_
        refine WR [] [1, 2, 4, 5, 6, 19] [2, 4, 5, 6] [] [] [] [] ⟨[(1, .str text), (2, .ptr 2 0), (4, .ptr 4 0), (5, .ptr 5 0), (6, .ptr 6 0), (19, .bool (decide (200 < (text.length : Int))))], [(2, (c_Node x)), (4, [.int .i64 0, .int .i64 0, .int .i64 0, .int .i64 0, .nils, .int .i64 0, .int .i64 0, .nils, .nils, .nils]), (5, [.int .i64 0, .int .i64 0]), (6, [.int .i64 x1.Code, .int .i64 x1.At])], [], [], []⟩ .nil (by kernel_rfl) ?_
        refine Wk_split rfl (fun hb => ?_) (fun hb => ?_)
        · have hF := ite_t hF hb
          obtain ⟨x3, h2, hF⟩ := lt_split hF
          refine WR [.callB (.agg [.int .i64 x3.Code, .int .i64 x3.At])] [1, 2, 4, 5, 6] [2, 4, 5, 6] [] [] [] [] ⟨[(1, .str text), (2, .ptr 2 0), (4, .ptr 4 0), (5, .ptr 5 0), (6, .ptr 6 0)], [(2, (c_Node x)), (4, [.int .i64 0, .int .i64 0, .int .i64 0, .int .i64 0, .nils, .int .i64 0, .int .i64 0, .nils, .nils, .nils]), (5, [.int .i64 0, .int .i64 0]), (6, [.int .i64 x3.Code, .int .i64 x3.At])], [], [], []⟩ (.cons (raft_fault_ok 8 0 x3 h2) .nil) (by kernel_rfl) ?_
          exact Wk_met (fs := [1, 2, 4, 5, 6]) (bs := [2, 4, 5, 6]) (rs := []) (ms := []) (aa := []) (nv := []) (by first | (rw [← some_elim hF]; kernel_rfl) | kernel_rfl)
        · have hF := ite_f hF hb
          refine Wk_seq ?_
          refine WR [.nat (x.Log.length : Int)] [1, 2, 4, 5, 6, 24] [2, 4, 5, 6] [] [] [] [] ⟨[(1, .str text), (2, .ptr 2 0), (4, .ptr 4 0), (5, .ptr 5 0), (6, .ptr 6 0), (24, .bool (decide ((x.Log.length : Int) = 100)))], [(2, (c_Node x)), (4, [.int .i64 0, .int .i64 0, .int .i64 0, .int .i64 0, .nils, .int .i64 0, .int .i64 0, .nils, .nils, .nils]), (5, [.int .i64 0, .int .i64 0]), (6, [.int .i64 x1.Code, .int .i64 x1.At])], [], [], []⟩ (.cons (len_ok e_Entry x.Log) .nil) (by kernel_rfl) ?_
          refine Wk_split rfl (fun hb => ?_) (fun hb => ?_)
          · have hF := ite_t hF hb
            obtain ⟨x4, h3, hF⟩ := lt_split hF
            refine WR [.callB (.agg [.int .i64 x4.Code, .int .i64 x4.At])] [1, 2, 4, 5, 6] [2, 4, 5, 6] [] [] [] [] ⟨[(1, .str text), (2, .ptr 2 0), (4, .ptr 4 0), (5, .ptr 5 0), (6, .ptr 6 0)], [(2, (c_Node x)), (4, [.int .i64 0, .int .i64 0, .int .i64 0, .int .i64 0, .nils, .int .i64 0, .int .i64 0, .nils, .nils, .nils]), (5, [.int .i64 0, .int .i64 0]), (6, [.int .i64 x4.Code, .int .i64 x4.At])], [], [], []⟩ (.cons (raft_fault_ok 2 0 x4 h3) .nil) (by kernel_rfl) ?_
            exact Wk_met (fs := [1, 2, 4, 5, 6]) (bs := [2, 4, 5, 6]) (rs := []) (ms := []) (aa := []) (nv := []) (by first | (rw [← some_elim hF]; kernel_rfl) | kernel_rfl)
          · have hF := ite_f hF hb
            refine Wk_skip ?_
            exact Wk_met (fs := [1, 2, 4, 5, 6]) (bs := [2, 4, 5, 6]) (rs := []) (ms := []) (aa := []) (nv := []) (by first | (rw [← some_elim hF]; kernel_rfl) | kernel_rfl)
  · refine Wk_blk ?_
    refine Wk_seq ?_
    refine Wk_seq ?_
    refine WR [] [1, 2, 4, 5, 6, 32] [2, 4, 5, 6] [] [] [] [] ⟨[(1, .str text), (2, .ptr 2 0), (4, .ptr 4 0), (5, .ptr 5 0), (6, .ptr 6 0), (32, .bool (!decide (v.Code = 0)))], [(2, (c_Node x)), (4, [.int .i64 0, .int .i64 0, .int .i64 0, .int .i64 0, .nils, .int .i64 0, .int .i64 0, .nils, .nils, .nils]), (5, [.int .i64 0, .int .i64 0]), (6, [.int .i64 v.Code, .int .i64 v.At])], [], [], []⟩ .nil (by kernel_rfl) ?_
    refine Wk_split rfl (fun hb => ?_) (fun hb => ?_)
    · have hF := ite_t hF hb
      refine Wk_seq ?_
      refine WD [] [4, 5] [4, 5] [] [] [] [] ⟨[(4, .ptr 4 0), (5, .ptr 5 0)], [(4, [.int .i64 0, .int .i64 0, .int .i64 0, .int .i64 0, .nils, .int .i64 0, .int .i64 0, .nils, .nils, .nils]), (5, [.int .i64 v.Code, .int .i64 v.At])], [], [], []⟩ .nil (by kernel_rfl) ?_
      have hF := some_elim hF
      exact Wk_ret (hfin _ ⟨[], [], [], [], [], [], by first | (rw [← hF]; kernel_rfl) | kernel_rfl⟩)
    · have hF := ite_f hF hb
      refine Wk_skip ?_
      refine Wk_seq ?_
      obtain ⟨x5, h4, hF⟩ := ob_elim hF
      refine WR [.callE [] [] [] [] (.ptr 36 0) ⟨[], [(36, [.int .i64 x5.1, .int .i64 x5.2.1, .int .i64 x5.2.2.1, .int .i64 x5.2.2.2.1, .row 36 0, .int .i64 x5.2.2.2.2.2.1, .int .i64 x5.2.2.2.2.2.2.1, .row 20036 0, .row 40036 0, .row 60036 0])], [(36, ⟨31, 2, 0, 0, 0, false, 0, [], (x5.2.2.2.2.1.map e_Entry)⟩), (20036, ⟨3, 1, 0, 0, 0, false, 0, [], (x5.2.2.2.2.2.2.2.1.map e_i64)⟩), (40036, ⟨3, 1, 0, 0, 0, false, 0, [], (x5.2.2.2.2.2.2.2.2.1.map e_i64)⟩), (60036, ⟨3, 1, 0, 0, 0, false, 0, [], (x5.2.2.2.2.2.2.2.2.2.map e_i64)⟩)], [], []⟩] [1, 2, 4, 5, 6, 7] [2, 4, 5, 6, 36] [36, 20036, 40036, 60036] [] [] [] ⟨[(1, .str text), (2, .ptr 2 0), (4, .ptr 4 0), (5, .ptr 5 0), (6, .ptr 6 0), (7, .ptr 36 0)], [(2, (c_Node x)), (4, [.int .i64 0, .int .i64 0, .int .i64 0, .int .i64 0, .nils, .int .i64 0, .int .i64 0, .nils, .nils, .nils]), (5, [.int .i64 0, .int .i64 0]), (6, [.int .i64 v.Code, .int .i64 v.At]), (36, [.int .i64 x5.1, .int .i64 x5.2.1, .int .i64 x5.2.2.1, .int .i64 x5.2.2.2.1, .row 36 0, .int .i64 x5.2.2.2.2.2.1, .int .i64 x5.2.2.2.2.2.2.1, .row 20036 0, .row 40036 0, .row 60036 0])], [(36, ⟨31, 2, 0, 0, 0, false, 0, [], (x5.2.2.2.2.1.map e_Entry)⟩), (20036, ⟨3, 1, 0, 0, 0, false, 0, [], (x5.2.2.2.2.2.2.2.1.map e_i64)⟩), (40036, ⟨3, 1, 0, 0, 0, false, 0, [], (x5.2.2.2.2.2.2.2.2.1.map e_i64)⟩), (60036, ⟨3, 1, 0, 0, 0, false, 0, [], (x5.2.2.2.2.2.2.2.2.2.map e_i64)⟩)], [], []⟩ (.cons (Pe.ren (raft_own_ok x x5 h4) ⟨[(1, 36)], [(5, 36), (8, 20036), (11, 40036), (14, 60036)], [], []⟩) .nil) (by kernel_rfl) ?_
      refine Wk_seq ?_
      obtain ⟨h5, hF⟩ := asrt_elim hF
      refine WD [.sealed, .xs ((x5.2.2.2.2.1 ++ [(⟨x.Term, text⟩ : Entry)]).map e_Entry)] [4, 5, 6, 7] [4, 5, 6, 36] [36, 20036, 40036, 60036] [] [] [] ⟨[(4, .ptr 4 0), (5, .ptr 5 0), (6, .ptr 6 0), (7, .ptr 36 0)], [(4, [.int .i64 0, .int .i64 0, .int .i64 0, .int .i64 0, .nils, .int .i64 0, .int .i64 0, .nils, .nils, .nils]), (5, [.int .i64 0, .int .i64 0]), (6, [.int .i64 v.Code, .int .i64 v.At]), (36, [.int .i64 x5.1, .int .i64 x5.2.1, .int .i64 x5.2.2.1, .int .i64 x5.2.2.2.1, .row 36 1, .int .i64 x5.2.2.2.2.2.1, .int .i64 x5.2.2.2.2.2.2.1, .row 20036 0, .row 40036 0, .row 60036 0])], [(36, ⟨31, 2, 1, 0, 0, false, 0, [], ((x5.2.2.2.2.1 ++ [(⟨x.Term, text⟩ : Entry)]).map e_Entry)⟩), (20036, ⟨3, 1, 0, 0, 0, false, 0, [], (x5.2.2.2.2.2.2.2.1.map e_i64)⟩), (40036, ⟨3, 1, 0, 0, 0, false, 0, [], (x5.2.2.2.2.2.2.2.2.1.map e_i64)⟩), (60036, ⟨3, 1, 0, 0, 0, false, 0, [], (x5.2.2.2.2.2.2.2.2.2.map e_i64)⟩)], [], []⟩ (.cons (app_ok e_Entry x5.2.2.2.2.1 [(⟨x.Term, text⟩ : Entry)]) (.cons (appl_ok e_Entry h5) .nil)) (by kernel_rfl) ?_
      refine Wk_seq ?_
      obtain ⟨h6, hF⟩ := asrt_elim hF
      obtain ⟨h7, hF⟩ := asrt_elim hF
      refine WDL ((lset x5.2.2.2.2.2.2.2.2.2 x5.2.1 ((x5.2.2.2.2.1 ++ [(⟨x.Term, text⟩ : Entry)]).length : Int))) (fun v1 : List Int => ⟨[(4, .ptr 4 0), (5, .ptr 5 0), (6, .ptr 6 0), (7, .ptr 36 0)], [(4, [.int .i64 0, .int .i64 0, .int .i64 0, .int .i64 0, .nils, .int .i64 0, .int .i64 0, .nils, .nils, .nils]), (5, [.int .i64 0, .int .i64 0]), (6, [.int .i64 v.Code, .int .i64 v.At]), (36, [.int .i64 x5.1, .int .i64 x5.2.1, .int .i64 x5.2.2.1, .int .i64 x5.2.2.2.1, .row 36 1, .int .i64 x5.2.2.2.2.2.1, .int .i64 x5.2.2.2.2.2.2.1, .row 20036 0, .row 40036 0, .row 60036 0])], [(36, ⟨31, 2, 1, 0, 0, false, 0, [], ((x5.2.2.2.2.1 ++ [(⟨x.Term, text⟩ : Entry)]).map e_Entry)⟩), (20036, ⟨3, 1, 0, 0, 0, false, 0, [], (x5.2.2.2.2.2.2.2.1.map e_i64)⟩), (40036, ⟨3, 1, 0, 0, 0, false, 0, [], (x5.2.2.2.2.2.2.2.2.1.map e_i64)⟩), (60036, ⟨3, 1, 0, 0, 0, false, 0, [], (v1.map e_i64)⟩)], [], []⟩) [.nat ((x5.2.2.2.2.1 ++ [(⟨x.Term, text⟩ : Entry)]).length : Int), .av (e_i64 (lget x5.2.2.2.2.2.2.2.2.2 x5.2.1)), .xs ((lset x5.2.2.2.2.2.2.2.2.2 x5.2.1 ((x5.2.2.2.2.1 ++ [(⟨x.Term, text⟩ : Entry)]).length : Int)).map e_i64)] [4, 5, 6, 7] [4, 5, 6, 36] [36, 20036, 40036, 60036] [] [] [] (.cons (len_ok e_Entry (x5.2.2.2.2.1 ++ [(⟨x.Term, text⟩ : Entry)])) (.cons (ixr_ok e_i64 h6) (.cons (ldr_ok e_i64 h7) (.cons (set_ok e_i64 x5.2.2.2.2.2.2.2.2.2 x5.2.1 ((x5.2.2.2.2.1 ++ [(⟨x.Term, text⟩ : Entry)]).length : Int)) (.cons (Nat.zero_le x5.2.1.toNat) .nil))))) (by kernel_rfl) (fun v1 hv => ?_)
      have hF := lt_elim hF hv
      refine Wk_seq ?_
      obtain ⟨h8, hF⟩ := asrt_elim hF
      obtain ⟨h9, hF⟩ := asrt_elim hF
      refine WDL ((lset x5.2.2.2.2.2.2.2.2.1 x5.2.1 (w64 (((x5.2.2.2.2.1 ++ [(⟨x.Term, text⟩ : Entry)]).length : Int) + 1)))) (fun v2 : List Int => ⟨[(4, .ptr 4 0), (5, .ptr 5 0), (6, .ptr 6 0), (7, .ptr 36 0)], [(4, [.int .i64 0, .int .i64 0, .int .i64 0, .int .i64 0, .nils, .int .i64 0, .int .i64 0, .nils, .nils, .nils]), (5, [.int .i64 0, .int .i64 0]), (6, [.int .i64 v.Code, .int .i64 v.At]), (36, [.int .i64 x5.1, .int .i64 x5.2.1, .int .i64 x5.2.2.1, .int .i64 x5.2.2.2.1, .row 36 1, .int .i64 x5.2.2.2.2.2.1, .int .i64 x5.2.2.2.2.2.2.1, .row 20036 0, .row 40036 0, .row 60036 0])], [(36, ⟨31, 2, 1, 0, 0, false, 0, [], ((x5.2.2.2.2.1 ++ [(⟨x.Term, text⟩ : Entry)]).map e_Entry)⟩), (20036, ⟨3, 1, 0, 0, 0, false, 0, [], (x5.2.2.2.2.2.2.2.1.map e_i64)⟩), (40036, ⟨3, 1, 0, 0, 0, false, 0, [], (v2.map e_i64)⟩), (60036, ⟨3, 1, 0, 0, 0, false, 0, [], (v1.map e_i64)⟩)], [], []⟩) [.nat ((x5.2.2.2.2.1 ++ [(⟨x.Term, text⟩ : Entry)]).length : Int), .av (e_i64 (lget x5.2.2.2.2.2.2.2.2.1 x5.2.1)), .xs ((lset x5.2.2.2.2.2.2.2.2.1 x5.2.1 (w64 (((x5.2.2.2.2.1 ++ [(⟨x.Term, text⟩ : Entry)]).length : Int) + 1))).map e_i64)] [4, 5, 6, 7] [4, 5, 6, 36] [36, 20036, 40036, 60036] [] [] [] (.cons (len_ok e_Entry (x5.2.2.2.2.1 ++ [(⟨x.Term, text⟩ : Entry)])) (.cons (ixr_ok e_i64 h8) (.cons (ldr_ok e_i64 h9) (.cons (set_ok e_i64 x5.2.2.2.2.2.2.2.2.1 x5.2.1 (w64 (((x5.2.2.2.2.1 ++ [(⟨x.Term, text⟩ : Entry)]).length : Int) + 1))) (.cons (Nat.zero_le x5.2.1.toNat) .nil))))) (by kernel_rfl) (fun v2 hv => ?_)
      have hF := lt_elim hF hv
      refine Wk_seq ?_
      obtain ⟨x6, h10, hF⟩ := ob_elim hF
      refine WR [.callE [36] [36, 20036, 40036, 60036] [] [] (.tup []) ⟨[], [(36, [.int .i64 x6.1, .int .i64 x6.2.1, .int .i64 x6.2.2.1, .int .i64 x6.2.2.2.1, .row 36 1, .int .i64 x6.2.2.2.2.1, .int .i64 x6.2.2.2.2.2, .row 20036 0, .row 40036 0, .row 60036 0])], [(36, ⟨31, 2, 1, 0, 0, false, 0, [], ((x5.2.2.2.2.1 ++ [(⟨x.Term, text⟩ : Entry)]).map e_Entry)⟩), (20036, ⟨3, 1, 0, 0, 0, false, 0, [], (x5.2.2.2.2.2.2.2.1.map e_i64)⟩), (40036, ⟨3, 1, 0, 0, 0, false, 0, [], (v2.map e_i64)⟩), (60036, ⟨3, 1, 0, 0, 0, false, 0, [], (v1.map e_i64)⟩)], [], []⟩] [4, 5, 6, 7] [4, 5, 6, 36] [36, 20036, 40036, 60036] [] [] [] ⟨[(4, .ptr 4 0), (5, .ptr 5 0), (6, .ptr 6 0), (7, .ptr 36 0)], [(4, [.int .i64 0, .int .i64 0, .int .i64 0, .int .i64 0, .nils, .int .i64 0, .int .i64 0, .nils, .nils, .nils]), (5, [.int .i64 0, .int .i64 0]), (6, [.int .i64 v.Code, .int .i64 v.At]), (36, [.int .i64 x6.1, .int .i64 x6.2.1, .int .i64 x6.2.2.1, .int .i64 x6.2.2.2.1, .row 36 1, .int .i64 x6.2.2.2.2.1, .int .i64 x6.2.2.2.2.2, .row 20036 0, .row 40036 0, .row 60036 0])], [(36, ⟨31, 2, 1, 0, 0, false, 0, [], ((x5.2.2.2.2.1 ++ [(⟨x.Term, text⟩ : Entry)]).map e_Entry)⟩), (20036, ⟨3, 1, 0, 0, 0, false, 0, [], (x5.2.2.2.2.2.2.2.1.map e_i64)⟩), (40036, ⟨3, 1, 0, 0, 0, false, 0, [], (v2.map e_i64)⟩), (60036, ⟨3, 1, 0, 0, 0, false, 0, [], (v1.map e_i64)⟩)], [], []⟩ (.cons (Pe.ren (raft_count_v1_ok x5.1 x5.2.1 x5.2.2.1 x5.2.2.2.1 x5.2.2.2.2.2.1 x5.2.2.2.2.2.2.1 (x5.2.2.2.2.1 ++ [(⟨x.Term, text⟩ : Entry)]) x5.2.2.2.2.2.2.2.1 v2 v1 0 0 false 0 0 false 0 0 false 0 0 false x6 h10) ⟨[(100000, 36)], [(100000, 36), (100001, 20036), (100002, 40036), (100003, 60036)], [], [(100000, 1)]⟩) .nil) (by kernel_rfl) ?_
      refine Wk_seq ?_
      refine WD [] [4, 5] [4, 5] [36, 20036, 40036, 60036] [] [] [] ⟨[(4, .ptr 4 0), (5, .ptr 5 0)], [(4, [.int .i64 x6.1, .int .i64 x6.2.1, .int .i64 x6.2.2.1, .int .i64 x6.2.2.2.1, .row 36 1, .int .i64 x6.2.2.2.2.1, .int .i64 x6.2.2.2.2.2, .row 20036 0, .row 40036 0, .row 60036 0]), (5, [.int .i64 v.Code, .int .i64 v.At])], [(36, ⟨31, 2, 1, 0, 0, false, 0, [], ((x5.2.2.2.2.1 ++ [(⟨x.Term, text⟩ : Entry)]).map e_Entry)⟩), (20036, ⟨3, 1, 0, 0, 0, false, 0, [], (x5.2.2.2.2.2.2.2.1.map e_i64)⟩), (40036, ⟨3, 1, 0, 0, 0, false, 0, [], (v2.map e_i64)⟩), (60036, ⟨3, 1, 0, 0, 0, false, 0, [], (v1.map e_i64)⟩)], [], []⟩ .nil (by kernel_rfl) ?_
      have hF := some_elim hF
      exact Wk_ret (hfin _ ⟨[], [], [], [], [], [], by first | (rw [← hF]; kernel_rfl) | kernel_rfl⟩)

/- tabularylaw.raftBegun -/
noncomputable def law_raftBegun  : Option Bool :=
  ob (raft_Stand_v1 (⟨1, 0, 0, 0, ([] : List Entry), 0, 0, ([] : List Int), ([] : List Int), ([] : List Int)⟩ : Node)) fun x =>
  ob (raft_Propose_v1 x.1 ([97] : List UInt8)) fun x1 =>
  lt ((((((decide (x.2.2.Code = 0)) && (decide (x1.2.Code = 0))) && (decide ((x.2.1.length : Int) = 0))) && (decide (x.1.Role = 2))) && (decide (x.1.Term = 1))) && (decide (x1.1.Commit = 1))) fun (v : Bool) =>
  some v
theorem law_raftBegun_ok  (r : Bool) (hF : law_raftBegun  = some r) : Pe Try.prog 27 S.none [] (.bool r) S.none := by
  refine Pe_of (N := 45) (res := [.tmp 0]) (ts := [4]) Ty.ok Fn.b27 Try.func27 rfl rfl rfl rfl rfl rfl ?_
  intro Q g hfin
  unfold law_raftBegun at hF
  refine Wk_seq ?_
  refine WR [] [] [] [] [] [] [] ⟨[], [], [], [], []⟩ .nil (by kernel_rfl) ?_
  refine Wk_seq ?_
  obtain ⟨x, h0, hF⟩ := ob_elim hF
  refine WR [.call (.tup [.agg (c_Node x.1), .sl 9 (x.2.1.map e_Mail), .agg [.int .i64 x.2.2.Code, .int .i64 x.2.2.At]])] [1, 2, 3] [1, 3] [] [] [] [] ⟨[(1, .ptr 1 0), (2, .sl 9 (x.2.1.map e_Mail)), (3, .ptr 3 0)], [(1, (c_Node x.1)), (3, [.int .i64 x.2.2.Code, .int .i64 x.2.2.At])], [], [], []⟩ (.cons (raft_Stand_v1_ok (⟨1, 0, 0, 0, ([] : List Entry), 0, 0, ([] : List Int), ([] : List Int), ([] : List Int)⟩ : Node) x h0) .nil) (by kernel_rfl) ?_
  refine Wk_seq ?_
  obtain ⟨x1, h1, hF⟩ := ob_elim hF
  refine WR [.call (.tup [.agg (c_Node x1.1), .agg [.int .i64 x1.2.Code, .int .i64 x1.2.At]])] [1, 2, 3, 4, 5] [1, 3, 4, 5] [] [] [] [] ⟨[(1, .ptr 1 0), (2, .sl 9 (x.2.1.map e_Mail)), (3, .ptr 3 0), (4, .ptr 4 0), (5, .ptr 5 0)], [(1, (c_Node x.1)), (3, [.int .i64 x.2.2.Code, .int .i64 x.2.2.At]), (4, (c_Node x1.1)), (5, [.int .i64 x1.2.Code, .int .i64 x1.2.At])], [], [], []⟩ (.cons (raft_Propose_v1_ok x.1 ([97] : List UInt8) x1 h1) .nil) (by kernel_rfl) ?_
  refine Wk_seq ?_
  refine WRL ((((((decide (x.2.2.Code = 0)) && (decide (x1.2.Code = 0))) && (decide ((x.2.1.length : Int) = 0))) && (decide (x.1.Role = 2))) && (decide (x.1.Term = 1))) && (decide (x1.1.Commit = 1))) (fun v : Bool => ⟨[(0, .bool v)], [], [], [], []⟩) [.nat (x.2.1.length : Int)] [0] [] [] [] [] [] (.cons (fun (_ : ((decide (x.2.2.Code = 0)) && (decide (x1.2.Code = 0))) = true) => (len_ok e_Mail x.2.1)) .nil) (by kernel_rfl) (fun v hv => ?_)
  have hF := lt_elim hF hv
  have hF := some_elim hF
  exact Wk_ret (hfin _ ⟨[], [], [], [], [], [], by first | (rw [← hF]; kernel_rfl) | kernel_rfl⟩)

/- tabularylaw.vastLog -/
noncomputable def law_vastLog (l : List Entry) : Bool :=
  decide (300 < (l.length : Int))
theorem law_vastLog_ok (l : List Entry) (r : Bool) (hF : law_vastLog l = r) : Pe Try.prog 14 S.none [.sl 2 (l.map e_Entry)] (.bool r) S.none := by
  refine Pe_of (N := 6) (res := [.tmp 2]) (ts := [4]) Ty.ok Fn.b14 Try.func14 rfl rfl rfl rfl rfl rfl ?_
  intro Q g hfin
  unfold law_vastLog at hF
  refine Wk_seq ?_
  refine WR [] [0] [] [] [] [] [] ⟨[(0, .sl 2 (l.map e_Entry))], [], [], [], []⟩ .nil (by kernel_rfl) ?_
  refine Wk_seq ?_
  refine WR [.nat (l.length : Int)] [2] [] [] [] [] [] ⟨[(2, .bool (decide (300 < (l.length : Int))))], [], [], [], []⟩ (.cons (len_ok e_Entry l) .nil) (by kernel_rfl) ?_
  exact Wk_ret (hfin _ ⟨[], [], [], [], [], [], by first | (rw [← hF]; kernel_rfl) | kernel_rfl⟩)

/- tabularylaw.vastNode -/
noncomputable def law_vastNode (x : Node) : Bool :=
  lt (law_vastLog x.Log) fun x1 =>
  lt (((x1 || (decide (100 < (x.Votes.length : Int)))) || (decide (100 < (x.Next.length : Int)))) || (decide (100 < (x.Have.length : Int)))) fun (v : Bool) =>
  v
theorem law_vastNode_ok (x : Node) (r : Bool) (hF : law_vastNode x = r) : Pe Try.prog 28 S.none [.agg (c_Node x)] (.bool r) S.none := by
  refine Pe_of (N := 24) (res := [.tmp 2]) (ts := [4]) Ty.ok Fn.b28 Try.func28 rfl rfl rfl rfl rfl rfl ?_
  intro Q g hfin
  unfold law_vastNode at hF
  refine Wk_seq ?_
  refine WR [] [1] [1] [] [] [] [] ⟨[(1, .ptr 1 0)], [(1, (c_Node x))], [], [], []⟩ .nil (by kernel_rfl) ?_
  refine Wk_seq ?_
  obtain ⟨x1, h0, hF⟩ := lt_split hF
  refine WRL (((x1 || (decide (100 < (x.Votes.length : Int)))) || (decide (100 < (x.Next.length : Int)))) || (decide (100 < (x.Have.length : Int)))) (fun v : Bool => ⟨[(2, .bool v)], [], [], [], []⟩) [.callB (.bool x1), .nat (x.Votes.length : Int), .nat (x.Next.length : Int), .nat (x.Have.length : Int)] [2] [] [] [] [] [] (.cons (law_vastLog_ok x.Log x1 h0) (.cons (fun (_ : (!x1) = true) => (len_ok e_i64 x.Votes)) (.cons (fun (_ : (!(x1 || (decide (100 < (x.Votes.length : Int))))) = true) => (len_ok e_i64 x.Next)) (.cons (fun (_ : (!((x1 || (decide (100 < (x.Votes.length : Int)))) || (decide (100 < (x.Next.length : Int))))) = true) => (len_ok e_i64 x.Have)) .nil)))) (by kernel_rfl) (fun v hv => ?_)
  have hF := lt_elim hF hv
  exact Wk_ret (hfin _ ⟨[], [], [], [], [], [], by first | (rw [← hF]; kernel_rfl) | kernel_rfl⟩)

/- tabularyref.CopyLog -/
noncomputable def R_CopyLog (l : List Entry) : Option (List Entry) :=
  asrt ((l.length : Int) * 24 ≤ 140737488351232) <|
  some l
theorem R_CopyLog_ok (l : List Entry) (r : List Entry) (hF : R_CopyLog l = some r) : Pe Try.prog 21 ⟨[], [], [], [], []⟩ [.sl 2 (l.map e_Entry)] (.row 4 1) ⟨[], [], [(4, ⟨31, 2, 1, 0, 0, true, 0, [], (r.map e_Entry)⟩)], [], []⟩ := by
  refine Pe_of (N := 5) (res := [.tmp 2]) (ts := [22]) Ty.ok Fn.b21 Try.func21 rfl rfl rfl rfl rfl rfl ?_
  intro Q g hfin
  unfold R_CopyLog at hF
  refine Wk_seq ?_
  refine WR [] [0] [] [] [] [] [] ⟨[(0, .sl 2 (l.map e_Entry))], [], [], [], []⟩ .nil (by kernel_rfl) ?_
  refine Wk_seq ?_
  obtain ⟨h0, hF⟩ := asrt_elim hF
  refine WR [.xs (l.map e_Entry)] [2] [] [4] [] [] [] ⟨[(2, .row 4 1)], [], [(4, ⟨31, 2, 1, 0, 0, true, 0, [], (l.map e_Entry)⟩)], [], []⟩ (.cons (app0_ok e_Entry l) (.cons (appl_ok e_Entry h0) .nil)) (by kernel_rfl) ?_
  have hF := some_elim hF
  exact Wk_ret (hfin _ ⟨[4], [], [4], [], [], [], by first | (rw [← hF]; kernel_rfl) | kernel_rfl⟩)

/- tabularyref.CopyNode -/
noncomputable def R_CopyNode (x : Node) : Option (Int × Int × Int × Int × List Entry × Int × Int × List Int × List Int × List Int) :=
  ob (R_CopyLog x.Log) fun x1 =>
  asrt ((x.Votes.length : Int) * 8 ≤ 140737488351232) <|
  asrt ((x.Next.length : Int) * 8 ≤ 140737488351232) <|
  asrt ((x.Have.length : Int) * 8 ≤ 140737488351232) <|
  some (x.N, x.ID, x.Term, x.Vote, x1, x.Role, x.Commit, x.Votes, x.Next, x.Have)
theorem R_CopyNode_ok (x : Node) (r : Int × Int × Int × Int × List Entry × Int × Int × List Int × List Int × List Int) (hF : R_CopyNode x = some r) : Pe Try.prog 29 ⟨[], [], [], [], []⟩ [.agg (c_Node x)] (.agg [.int .i64 r.1, .int .i64 r.2.1, .int .i64 r.2.2.1, .int .i64 r.2.2.2.1, .row 5 1, .int .i64 r.2.2.2.2.2.1, .int .i64 r.2.2.2.2.2.2.1, .row 9 1, .row 13 1, .row 17 1]) ⟨[], [], [(5, ⟨31, 2, 1, 0, 0, true, 0, [], (r.2.2.2.2.1.map e_Entry)⟩), (9, ⟨3, 1, 1, 0, 0, true, 0, [], (r.2.2.2.2.2.2.2.1.map e_i64)⟩), (13, ⟨3, 1, 1, 0, 0, true, 0, [], (r.2.2.2.2.2.2.2.2.1.map e_i64)⟩), (17, ⟨3, 1, 1, 0, 0, true, 0, [], (r.2.2.2.2.2.2.2.2.2.map e_i64)⟩)], [], []⟩ := by
  refine Pe_of (N := 20) (res := [.cell 2 46]) (ts := [46]) Ty.ok Fn.b29 Try.func29 rfl rfl rfl rfl rfl rfl ?_
  intro Q g hfin
  unfold R_CopyNode at hF
  refine Wk_seq ?_
  refine WR [] [1, 2] [1, 2] [] [] [] [] ⟨[(1, .ptr 1 0), (2, .ptr 2 0)], [(1, (c_Node x)), (2, [.int .i64 0, .int .i64 0, .int .i64 0, .int .i64 0, .nils, .int .i64 0, .int .i64 0, .nils, .nils, .nils])], [], [], []⟩ .nil (by kernel_rfl) ?_
  refine Wk_seq ?_
  obtain ⟨x1, h0, hF⟩ := ob_elim hF
  refine WR [.callE [] [] [] [] (.row 5 1) ⟨[], [], [(5, ⟨31, 2, 1, 0, 0, true, 0, [], (x1.map e_Entry)⟩)], [], []⟩] [1, 2] [1, 2] [5] [] [] [] ⟨[(1, .ptr 1 0), (2, .ptr 2 0)], [(1, [.int .i64 x.N, .int .i64 x.ID, .int .i64 x.Term, .int .i64 x.Vote, .row 5 1, .int .i64 x.Role, .int .i64 x.Commit, .sl 1 (x.Votes.map e_i64), .sl 1 (x.Next.map e_i64), .sl 1 (x.Have.map e_i64)]), (2, [.int .i64 0, .int .i64 0, .int .i64 0, .int .i64 0, .nils, .int .i64 0, .int .i64 0, .nils, .nils, .nils])], [(5, ⟨31, 2, 1, 0, 0, true, 0, [], (x1.map e_Entry)⟩)], [], []⟩ (.cons (Pe.ren (R_CopyLog_ok x.Log x1 h0) ⟨[], [(4, 5)], [], []⟩) .nil) (by kernel_rfl) ?_
  refine Wk_seq ?_
  obtain ⟨h1, hF⟩ := asrt_elim hF
  refine WR [.xs (x.Votes.map e_i64)] [1, 2] [1, 2] [5, 9] [] [] [] ⟨[(1, .ptr 1 0), (2, .ptr 2 0)], [(1, [.int .i64 x.N, .int .i64 x.ID, .int .i64 x.Term, .int .i64 x.Vote, .row 5 1, .int .i64 x.Role, .int .i64 x.Commit, .row 9 1, .sl 1 (x.Next.map e_i64), .sl 1 (x.Have.map e_i64)]), (2, [.int .i64 0, .int .i64 0, .int .i64 0, .int .i64 0, .nils, .int .i64 0, .int .i64 0, .nils, .nils, .nils])], [(5, ⟨31, 2, 1, 0, 0, true, 0, [], (x1.map e_Entry)⟩), (9, ⟨3, 1, 1, 0, 0, true, 0, [], (x.Votes.map e_i64)⟩)], [], []⟩ (.cons (app0_ok e_i64 x.Votes) (.cons (appl_ok e_i64 h1) .nil)) (by kernel_rfl) ?_
  refine Wk_seq ?_
  obtain ⟨h2, hF⟩ := asrt_elim hF
  refine WR [.xs (x.Next.map e_i64)] [1, 2] [1, 2] [5, 9, 13] [] [] [] ⟨[(1, .ptr 1 0), (2, .ptr 2 0)], [(1, [.int .i64 x.N, .int .i64 x.ID, .int .i64 x.Term, .int .i64 x.Vote, .row 5 1, .int .i64 x.Role, .int .i64 x.Commit, .row 9 1, .row 13 1, .sl 1 (x.Have.map e_i64)]), (2, [.int .i64 0, .int .i64 0, .int .i64 0, .int .i64 0, .nils, .int .i64 0, .int .i64 0, .nils, .nils, .nils])], [(5, ⟨31, 2, 1, 0, 0, true, 0, [], (x1.map e_Entry)⟩), (9, ⟨3, 1, 1, 0, 0, true, 0, [], (x.Votes.map e_i64)⟩), (13, ⟨3, 1, 1, 0, 0, true, 0, [], (x.Next.map e_i64)⟩)], [], []⟩ (.cons (app0_ok e_i64 x.Next) (.cons (appl_ok e_i64 h2) .nil)) (by kernel_rfl) ?_
  refine Wk_seq ?_
  obtain ⟨h3, hF⟩ := asrt_elim hF
  refine WR [.xs (x.Have.map e_i64)] [1, 2] [1, 2] [5, 9, 13, 17] [] [] [] ⟨[(1, .ptr 1 0), (2, .ptr 2 0)], [(1, [.int .i64 x.N, .int .i64 x.ID, .int .i64 x.Term, .int .i64 x.Vote, .row 5 1, .int .i64 x.Role, .int .i64 x.Commit, .row 9 1, .row 13 1, .row 17 1]), (2, [.int .i64 0, .int .i64 0, .int .i64 0, .int .i64 0, .nils, .int .i64 0, .int .i64 0, .nils, .nils, .nils])], [(5, ⟨31, 2, 1, 0, 0, true, 0, [], (x1.map e_Entry)⟩), (9, ⟨3, 1, 1, 0, 0, true, 0, [], (x.Votes.map e_i64)⟩), (13, ⟨3, 1, 1, 0, 0, true, 0, [], (x.Next.map e_i64)⟩), (17, ⟨3, 1, 1, 0, 0, true, 0, [], (x.Have.map e_i64)⟩)], [], []⟩ (.cons (app0_ok e_i64 x.Have) (.cons (appl_ok e_i64 h3) .nil)) (by kernel_rfl) ?_
  refine Wk_seq ?_
  refine WR [] [2] [2] [5, 9, 13, 17] [] [] [] ⟨[(2, .ptr 2 0)], [(2, [.int .i64 x.N, .int .i64 x.ID, .int .i64 x.Term, .int .i64 x.Vote, .row 5 1, .int .i64 x.Role, .int .i64 x.Commit, .row 9 1, .row 13 1, .row 17 1])], [(5, ⟨31, 2, 1, 0, 0, true, 0, [], (x1.map e_Entry)⟩), (9, ⟨3, 1, 1, 0, 0, true, 0, [], (x.Votes.map e_i64)⟩), (13, ⟨3, 1, 1, 0, 0, true, 0, [], (x.Next.map e_i64)⟩), (17, ⟨3, 1, 1, 0, 0, true, 0, [], (x.Have.map e_i64)⟩)], [], []⟩ .nil (by kernel_rfl) ?_
  have hF := some_elim hF
  exact Wk_ret (hfin _ ⟨[5, 9, 13, 17], [], [5, 9, 13, 17], [], [], [], by first | (rw [← hF]; kernel_rfl) | kernel_rfl⟩)

/- tabularyref.CopyNode -/
noncomputable def R_CopyNode_v1 (x : Node) : Option Node :=
  ob (R_CopyLog x.Log) fun x1 =>
  asrt ((x.Votes.length : Int) * 8 ≤ 140737488351232) <|
  asrt ((x.Next.length : Int) * 8 ≤ 140737488351232) <|
  asrt ((x.Have.length : Int) * 8 ≤ 140737488351232) <|
  some (⟨x.N, x.ID, x.Term, x.Vote, x1, x.Role, x.Commit, x.Votes, x.Next, x.Have⟩ : Node)
theorem R_CopyNode_v1_ok (x : Node) (r : Node) (hF : R_CopyNode_v1 x = some r) : Pe Try.prog 29 S.none [.agg (c_Node x)] (.agg (c_Node r)) S.none := by
  refine Pe_of (N := 20) (res := [.cell 2 46]) (ts := [46]) Ty.ok Fn.b29 Try.func29 rfl rfl rfl rfl rfl rfl ?_
  intro Q g hfin
  unfold R_CopyNode_v1 at hF
  refine Wk_seq ?_
  refine WR [] [1, 2] [1, 2] [] [] [] [] ⟨[(1, .ptr 1 0), (2, .ptr 2 0)], [(1, (c_Node x)), (2, [.int .i64 0, .int .i64 0, .int .i64 0, .int .i64 0, .nils, .int .i64 0, .int .i64 0, .nils, .nils, .nils])], [], [], []⟩ .nil (by kernel_rfl) ?_
  refine Wk_seq ?_
  obtain ⟨x1, h0, hF⟩ := ob_elim hF
  refine WR [.callE [] [] [] [] (.row 5 1) ⟨[], [], [(5, ⟨31, 2, 1, 0, 0, true, 0, [], (x1.map e_Entry)⟩)], [], []⟩] [1, 2] [1, 2] [5] [] [] [] ⟨[(1, .ptr 1 0), (2, .ptr 2 0)], [(1, [.int .i64 x.N, .int .i64 x.ID, .int .i64 x.Term, .int .i64 x.Vote, .row 5 1, .int .i64 x.Role, .int .i64 x.Commit, .sl 1 (x.Votes.map e_i64), .sl 1 (x.Next.map e_i64), .sl 1 (x.Have.map e_i64)]), (2, [.int .i64 0, .int .i64 0, .int .i64 0, .int .i64 0, .nils, .int .i64 0, .int .i64 0, .nils, .nils, .nils])], [(5, ⟨31, 2, 1, 0, 0, true, 0, [], (x1.map e_Entry)⟩)], [], []⟩ (.cons (Pe.ren (R_CopyLog_ok x.Log x1 h0) ⟨[], [(4, 5)], [], []⟩) .nil) (by kernel_rfl) ?_
  refine Wk_seq ?_
  obtain ⟨h1, hF⟩ := asrt_elim hF
  refine WR [.xs (x.Votes.map e_i64)] [1, 2] [1, 2] [5, 9] [] [] [] ⟨[(1, .ptr 1 0), (2, .ptr 2 0)], [(1, [.int .i64 x.N, .int .i64 x.ID, .int .i64 x.Term, .int .i64 x.Vote, .row 5 1, .int .i64 x.Role, .int .i64 x.Commit, .row 9 1, .sl 1 (x.Next.map e_i64), .sl 1 (x.Have.map e_i64)]), (2, [.int .i64 0, .int .i64 0, .int .i64 0, .int .i64 0, .nils, .int .i64 0, .int .i64 0, .nils, .nils, .nils])], [(5, ⟨31, 2, 1, 0, 0, true, 0, [], (x1.map e_Entry)⟩), (9, ⟨3, 1, 1, 0, 0, true, 0, [], (x.Votes.map e_i64)⟩)], [], []⟩ (.cons (app0_ok e_i64 x.Votes) (.cons (appl_ok e_i64 h1) .nil)) (by kernel_rfl) ?_
  refine Wk_seq ?_
  obtain ⟨h2, hF⟩ := asrt_elim hF
  refine WR [.xs (x.Next.map e_i64)] [1, 2] [1, 2] [5, 9, 13] [] [] [] ⟨[(1, .ptr 1 0), (2, .ptr 2 0)], [(1, [.int .i64 x.N, .int .i64 x.ID, .int .i64 x.Term, .int .i64 x.Vote, .row 5 1, .int .i64 x.Role, .int .i64 x.Commit, .row 9 1, .row 13 1, .sl 1 (x.Have.map e_i64)]), (2, [.int .i64 0, .int .i64 0, .int .i64 0, .int .i64 0, .nils, .int .i64 0, .int .i64 0, .nils, .nils, .nils])], [(5, ⟨31, 2, 1, 0, 0, true, 0, [], (x1.map e_Entry)⟩), (9, ⟨3, 1, 1, 0, 0, true, 0, [], (x.Votes.map e_i64)⟩), (13, ⟨3, 1, 1, 0, 0, true, 0, [], (x.Next.map e_i64)⟩)], [], []⟩ (.cons (app0_ok e_i64 x.Next) (.cons (appl_ok e_i64 h2) .nil)) (by kernel_rfl) ?_
  refine Wk_seq ?_
  obtain ⟨h3, hF⟩ := asrt_elim hF
  refine WR [.xs (x.Have.map e_i64)] [1, 2] [1, 2] [5, 9, 13, 17] [] [] [] ⟨[(1, .ptr 1 0), (2, .ptr 2 0)], [(1, [.int .i64 x.N, .int .i64 x.ID, .int .i64 x.Term, .int .i64 x.Vote, .row 5 1, .int .i64 x.Role, .int .i64 x.Commit, .row 9 1, .row 13 1, .row 17 1]), (2, [.int .i64 0, .int .i64 0, .int .i64 0, .int .i64 0, .nils, .int .i64 0, .int .i64 0, .nils, .nils, .nils])], [(5, ⟨31, 2, 1, 0, 0, true, 0, [], (x1.map e_Entry)⟩), (9, ⟨3, 1, 1, 0, 0, true, 0, [], (x.Votes.map e_i64)⟩), (13, ⟨3, 1, 1, 0, 0, true, 0, [], (x.Next.map e_i64)⟩), (17, ⟨3, 1, 1, 0, 0, true, 0, [], (x.Have.map e_i64)⟩)], [], []⟩ (.cons (app0_ok e_i64 x.Have) (.cons (appl_ok e_i64 h3) .nil)) (by kernel_rfl) ?_
  refine Wk_seq ?_
  refine WR [] [2] [2] [5, 9, 13, 17] [] [] [] ⟨[(2, .ptr 2 0)], [(2, [.int .i64 x.N, .int .i64 x.ID, .int .i64 x.Term, .int .i64 x.Vote, .row 5 1, .int .i64 x.Role, .int .i64 x.Commit, .row 9 1, .row 13 1, .row 17 1])], [(5, ⟨31, 2, 1, 0, 0, true, 0, [], (x1.map e_Entry)⟩), (9, ⟨3, 1, 1, 0, 0, true, 0, [], (x.Votes.map e_i64)⟩), (13, ⟨3, 1, 1, 0, 0, true, 0, [], (x.Next.map e_i64)⟩), (17, ⟨3, 1, 1, 0, 0, true, 0, [], (x.Have.map e_i64)⟩)], [], []⟩ .nil (by kernel_rfl) ?_
  have hF := some_elim hF
  exact Wk_ret (hfin _ ⟨[], [], [], [], [], [], by first | (rw [← hF]; kernel_rfl) | kernel_rfl⟩)

/- raft.beats$1 -/
noncomputable def raft_beats_1 (to0 : Int) (box : Node) : Option (Int × Int × Int × Int × Int × Int × Int × List Entry × Bool) :=
  asrt (0 ≤ to0 ∧ to0 < (box.Next.length : Int)) <|
  ob (entry_TermAt box.Log (w64 ((lget box.Next to0) - 1))) fun x =>
  asrt (0 ≤ w64 ((lget box.Next to0) - 1) ∧ w64 ((lget box.Next to0) - 1) ≤ (min (w64 ((w64 ((lget box.Next to0) - 1)) + 5)) (box.Log.length : Int)) ∧ (min (w64 ((w64 ((lget box.Next to0) - 1)) + 5)) (box.Log.length : Int)) ≤ (box.Log.length : Int)) <|
  ob (slices_Clone_api_Entry_api_Entry (ldrop (ltake box.Log (min (w64 ((w64 ((lget box.Next to0) - 1)) + 5)) (box.Log.length : Int))) (w64 ((lget box.Next to0) - 1)))) fun x1 =>
  some (3, 0, 0, 0, w64 ((lget box.Next to0) - 1), x, box.Commit, x1, false)
theorem raft_beats_1_ok (to0 : Int) (box : Node) (r : Int × Int × Int × Int × Int × Int × Int × List Entry × Bool) (hF : raft_beats_1 to0 box = some r) : Pe Try.prog 91 ⟨[], [(100000, [.ptr 100001 0]), (100001, (c_Node box))], [], [], []⟩ [.int .i64 to0, .ptr 100000 0] (.agg [.int .i64 r.1, .int .i64 r.2.1, .int .i64 r.2.2.1, .int .i64 r.2.2.2.1, .int .i64 r.2.2.2.2.1, .int .i64 r.2.2.2.2.2.1, .int .i64 r.2.2.2.2.2.2.1, .row 38 0, .bool r.2.2.2.2.2.2.2.2]) ⟨[], [(100000, [.ptr 100001 0]), (100001, (c_Node box))], [(38, ⟨31, 2, 0, 0, 0, false, 0, [], (r.2.2.2.2.2.2.2.1.map e_Entry)⟩)], [], []⟩ := by
  refine Pe_of (N := 40) (res := [.cell 3 62]) (ts := [62]) Ty.ok Fn.b91 Try.func91 rfl rfl rfl rfl rfl rfl ?_
  intro Q g hfin
  unfold raft_beats_1 at hF
  refine Wk_seq ?_
  refine WR [] [0, 1, 3] [3, 100000, 100001] [] [] [] [] ⟨[(0, .int .i64 to0), (1, .ptr 100000 0), (3, .ptr 3 0)], [(3, [.int .i64 0, .int .i64 0, .int .i64 0, .int .i64 0, .int .i64 0, .int .i64 0, .int .i64 0, .nils, .bool false]), (100000, [.ptr 100001 0]), (100001, (c_Node box))], [], [], []⟩ .nil (by kernel_rfl) ?_
  refine Wk_seq ?_
  obtain ⟨h0, hF⟩ := asrt_elim hF
  refine WR [.av (e_i64 (lget box.Next to0))] [1, 3, 4] [3, 100000, 100001] [] [] [] [] ⟨[(1, .ptr 100000 0), (3, .ptr 3 0), (4, .int .i64 (w64 ((lget box.Next to0) - 1)))], [(3, [.int .i64 0, .int .i64 0, .int .i64 0, .int .i64 0, .int .i64 0, .int .i64 0, .int .i64 0, .nils, .bool false]), (100000, [.ptr 100001 0]), (100001, (c_Node box))], [], [], []⟩ (.cons (idx_ok e_i64 h0) .nil) (by kernel_rfl) ?_
  refine Wk_seq ?_
  obtain ⟨x, h1, hF⟩ := ob_elim hF
  obtain ⟨h2, hF⟩ := asrt_elim hF
  obtain ⟨x1, h3, hF⟩ := ob_elim hF
  refine WD [.callB (.int .i64 x), .nat (box.Log.length : Int), .xs ((ldrop (ltake box.Log (min (w64 ((w64 ((lget box.Next to0) - 1)) + 5)) (box.Log.length : Int))) (w64 ((lget box.Next to0) - 1))).map e_Entry), .callE [] [] [] [] (.row 38 0) ⟨[], [], [(38, ⟨31, 2, 0, 0, 0, false, 0, [], (x1.map e_Entry)⟩)], [], []⟩] [3] [3, 100000, 100001] [38] [] [] [] ⟨[(3, .ptr 3 0)], [(3, [.int .i64 3, .int .i64 0, .int .i64 0, .int .i64 0, .int .i64 (w64 ((lget box.Next to0) - 1)), .int .i64 x, .int .i64 box.Commit, .row 38 0, .bool false]), (100000, [.ptr 100001 0]), (100001, (c_Node box))], [(38, ⟨31, 2, 0, 0, 0, false, 0, [], (x1.map e_Entry)⟩)], [], []⟩ (.cons (entry_TermAt_ok box.Log (w64 ((lget box.Next to0) - 1)) x h1) (.cons (len_ok e_Entry box.Log) (.cons (sl11_ok e_Entry h2) (.cons (Pe.ren (slices_Clone_api_Entry_api_Entry_ok (ldrop (ltake box.Log (min (w64 ((w64 ((lget box.Next to0) - 1)) + 5)) (box.Log.length : Int))) (w64 ((lget box.Next to0) - 1))) x1 h3) ⟨[], [(5, 38)], [], []⟩) .nil)))) (by kernel_rfl) ?_
  have hF := some_elim hF
  exact Wk_ret (hfin _ ⟨[38], [100000, 100001], [38], [], [], [], by first | (rw [← hF]; kernel_rfl) | kernel_rfl⟩)

/- raft.others -/
noncomputable def raft_others_v1_J1 (v : List Mail) : Option (List Mail) :=
  some v
noncomputable def raft_others_v1_B1 (box : Node) (v1 : List Mail × Int) : Option ((List Mail × Int) ⊕ (List Mail)) :=
  if (decide (v1.2 < box.N)) = true then
    ob (
      if (!decide (v1.2 = box.ID)) = true then
        ob (raft_beats_1 v1.2 box) fun x =>
        asrt (((v1.1 ++ [(⟨x.1, box.ID, v1.2, box.Term, x.2.2.2.2.1, x.2.2.2.2.2.1, x.2.2.2.2.2.2.1, x.2.2.2.2.2.2.2.1, x.2.2.2.2.2.2.2.2⟩ : Mail)]).length : Int) * 88 ≤ 140737488351232) <|
        lt ((v1.1 ++ [(⟨x.1, box.ID, v1.2, box.Term, x.2.2.2.2.1, x.2.2.2.2.2.1, x.2.2.2.2.2.2.1, x.2.2.2.2.2.2.2.1, x.2.2.2.2.2.2.2.2⟩ : Mail)])) fun (v3 : List Mail) =>
        some v3
      else
        some v1.1) fun (v2 : List Mail) =>
    some (Sum.inl (v2, w64 (v1.2 + 1)))
  else
    inrO (raft_others_v1_J1 v1.1)
noncomputable def raft_others_v1_L1 (box : Node) (v0 : List Mail × Int) : Option (List Mail) :=
  loopO (fun y => raft_others_v1_B1 box y) v0
noncomputable def raft_others_v1 (box : Node) : Option (List Mail) :=
  raft_others_v1_L1 box (([] : List Mail), 0)
theorem raft_others_v1_ok (box : Node) (r : List Mail) (hF : raft_others_v1 box = some r) : Pe Try.prog 66 ⟨[], [(100000, (c_Node box)), (100001, [.ptr 100000 0])], [], [], []⟩ [.ptr 100000 0, .fn 91 [.ptr 100001 0]] (.row 39 0) ⟨[], [(100000, (c_Node box)), (100001, [.ptr 100000 0])], [(39, ⟨62, 9, 0, 0, 0, true, 0, [], (r.map e_Mail)⟩)], [], []⟩ := by
  refine Pe_of (N := 42) (res := [.tmp 4]) (ts := [50]) Ty.ok Fn.b66 Try.func66 rfl rfl rfl rfl rfl rfl ?_
  intro Q g hfin
  unfold raft_others_v1 at hF
  refine Wk_seq ?_
  refine WR [] [0, 1] [100000, 100001] [] [] [] [] ⟨[(0, .ptr 100000 0), (1, .fn 91 [.ptr 100001 0])], [(100000, (c_Node box)), (100001, [.ptr 100000 0])], [], [], []⟩ .nil (by kernel_rfl) ?_
  refine Wk_seq ?_
  refine WR [] [0, 1, 5] [100000, 100001] [] [] [] [] ⟨[(0, .ptr 100000 0), (1, .fn 91 [.ptr 100001 0]), (5, .nils)], [(100000, (c_Node box)), (100001, [.ptr 100000 0])], [], [], []⟩ .nil (by kernel_rfl) ?_
  refine Wk_seq ?_
  refine Wk_seq ?_
  refine WR [] [0, 1, 5, 11, 12] [100000, 100001] [] [] [] [] ⟨[(0, .ptr 100000 0), (1, .fn 91 [.ptr 100001 0]), (5, .nils), (11, .int .i64 box.N), (12, .int .i64 0)], [(100000, (c_Node box)), (100001, [.ptr 100000 0])], [], [], []⟩ .nil (by kernel_rfl) ?_
  refine Wk_meetP (fun v : List Mail => (⟨[(5, .row 39 0)], [(100000, (c_Node box)), (100001, [.ptr 100000 0])], [(39, ⟨62, 9, 0, 0, 0, true, 0, [], (v.map e_Mail)⟩)], [], []⟩ : S)) (fun v => raft_others_v1_J1 v = some r) ?_ ?_
  · refine Wk_block ?_
    unfold raft_others_v1_L1 at hF
    refine Wk_nilrow 5 60000 62 9 rfl rfl rfl ?_
    refine Wk_trim (fs := [0, 1, 5, 11, 12]) (bs := [100000, 100001]) (rs := [60000]) (ms := []) (aa := []) (nv := []) rfl ?_
    refine Wk_ren' ⟨[], [(60000, 39)], [], []⟩ rfl ?_
    refine Wk_trim (fs := [0, 1, 5, 11, 12]) (bs := [100000, 100001]) (rs := [39]) (ms := []) (aa := []) (nv := []) (t := (fun v1 : List Mail × Int => (⟨[(0, .ptr 100000 0), (1, .fn 91 [.ptr 100001 0]), (5, .row 39 0), (11, .int .i64 box.N), (12, .int .i64 v1.2)], [(100000, (c_Node box)), (100001, [.ptr 100000 0])], [(39, ⟨62, 9, 0, 0, 0, true, 0, [], (v1.1.map e_Mail)⟩)], [], []⟩ : S)) (([] : List Mail), 0)) (by kernel_rfl) ?_
    refine Wk_iter (step := fun y => raft_others_v1_B1 box y) (r := r) (fun v1 : List Mail × Int => (⟨[(0, .ptr 100000 0), (1, .fn 91 [.ptr 100001 0]), (5, .row 39 0), (11, .int .i64 box.N), (12, .int .i64 v1.2)], [(100000, (c_Node box)), (100001, [.ptr 100000 0])], [(39, ⟨62, 9, 0, 0, 0, true, 0, [], (v1.1.map e_Mail)⟩)], [], []⟩ : S)) (([] : List Mail), 0) hF ?_
    intro n1 v1 y1 hF ih1 dn1
    have hF : raft_others_v1_B1 box v1 = some y1 := hF
    unfold raft_others_v1_B1 at hF
    refine Wk_seq ?_
    refine WR [] [0, 1, 5, 11, 12, 13] [100000, 100001] [39] [] [] [] ⟨[(0, .ptr 100000 0), (1, .fn 91 [.ptr 100001 0]), (5, .row 39 0), (11, .int .i64 box.N), (12, .int .i64 v1.2), (13, .bool (decide (v1.2 < box.N)))], [(100000, (c_Node box)), (100001, [.ptr 100000 0])], [(39, ⟨62, 9, 0, 0, 0, true, 0, [], (v1.1.map e_Mail)⟩)], [], []⟩ .nil (by kernel_rfl) ?_
    refine Wk_seq ?_
    refine Wk_split rfl (fun hb => ?_) (fun hb => ?_)
    · have hF := ite_t hF hb
      refine Wk_skip ?_
      refine Wk_seq ?_
      refine Wk_block ?_
      refine Wk_seq ?_
      refine WR [] [0, 1, 5, 6, 11, 12] [100000, 100001] [39] [] [] [] ⟨[(0, .ptr 100000 0), (1, .fn 91 [.ptr 100001 0]), (5, .row 39 0), (6, .int .i64 v1.2), (11, .int .i64 box.N), (12, .int .i64 v1.2)], [(100000, (c_Node box)), (100001, [.ptr 100000 0])], [(39, ⟨62, 9, 0, 0, 0, true, 0, [], (v1.1.map e_Mail)⟩)], [], []⟩ .nil (by kernel_rfl) ?_
      refine Wk_seq ?_
      refine WR [] [0, 1, 5, 6, 11, 12, 20] [100000, 100001] [39] [] [] [] ⟨[(0, .ptr 100000 0), (1, .fn 91 [.ptr 100001 0]), (5, .row 39 0), (6, .int .i64 v1.2), (11, .int .i64 box.N), (12, .int .i64 v1.2), (20, .bool (!decide (v1.2 = box.ID)))], [(100000, (c_Node box)), (100001, [.ptr 100000 0])], [(39, ⟨62, 9, 0, 0, 0, true, 0, [], (v1.1.map e_Mail)⟩)], [], []⟩ .nil (by kernel_rfl) ?_
      obtain ⟨v2, hv, hF⟩ := ob_elim hF
      refine Wk_meet (⟨[(0, .ptr 100000 0), (1, .fn 91 [.ptr 100001 0]), (5, .row 39 0), (11, .int .i64 box.N), (12, .int .i64 v1.2)], [(100000, (c_Node box)), (100001, [.ptr 100000 0])], [(39, ⟨62, 9, 0, 0, 0, true, 0, [], (v2.map e_Mail)⟩)], [], []⟩ : S) ?_ ?_
      · have hF := hv
        refine Wk_split rfl (fun hb => ?_) (fun hb => ?_)
        · have hF := ite_t hF hb
          refine Wk_seq ?_
          obtain ⟨x, h0, hF⟩ := ob_elim hF
          refine WR [.callE [100001, 100000] [] [] [] (.agg [.int .i64 x.1, .int .i64 x.2.1, .int .i64 x.2.2.1, .int .i64 x.2.2.2.1, .int .i64 x.2.2.2.2.1, .int .i64 x.2.2.2.2.2.1, .int .i64 x.2.2.2.2.2.2.1, .row 23 0, .bool x.2.2.2.2.2.2.2.2]) ⟨[], [(100001, [.ptr 100000 0]), (100000, (c_Node box))], [(23, ⟨31, 2, 0, 0, 0, false, 0, [], (x.2.2.2.2.2.2.2.1.map e_Entry)⟩)], [], []⟩] [0, 1, 5, 6, 7, 11, 12] [7, 100000, 100001] [23, 39] [] [] [] ⟨[(0, .ptr 100000 0), (1, .fn 91 [.ptr 100001 0]), (5, .row 39 0), (6, .int .i64 v1.2), (7, .ptr 7 0), (11, .int .i64 box.N), (12, .int .i64 v1.2)], [(7, [.int .i64 x.1, .int .i64 x.2.1, .int .i64 x.2.2.1, .int .i64 x.2.2.2.1, .int .i64 x.2.2.2.2.1, .int .i64 x.2.2.2.2.2.1, .int .i64 x.2.2.2.2.2.2.1, .row 23 0, .bool x.2.2.2.2.2.2.2.2]), (100000, (c_Node box)), (100001, [.ptr 100000 0])], [(23, ⟨31, 2, 0, 0, 0, false, 0, [], (x.2.2.2.2.2.2.2.1.map e_Entry)⟩), (39, ⟨62, 9, 0, 0, 0, true, 0, [], (v1.1.map e_Mail)⟩)], [], []⟩ (.cons (Pe.ren (raft_beats_1_ok v1.2 box x h0) ⟨[(100000, 100001)], [(38, 23)], [], []⟩) .nil) (by kernel_rfl) ?_
          refine Wk_seq ?_
          refine WD [] [0, 1, 5, 7, 11, 12] [7, 100000, 100001] [23, 39] [] [] [] ⟨[(0, .ptr 100000 0), (1, .fn 91 [.ptr 100001 0]), (5, .row 39 0), (7, .ptr 7 0), (11, .int .i64 box.N), (12, .int .i64 v1.2)], [(7, [.int .i64 x.1, .int .i64 box.ID, .int .i64 v1.2, .int .i64 box.Term, .int .i64 x.2.2.2.2.1, .int .i64 x.2.2.2.2.2.1, .int .i64 x.2.2.2.2.2.2.1, .row 23 0, .bool x.2.2.2.2.2.2.2.2]), (100000, (c_Node box)), (100001, [.ptr 100000 0])], [(23, ⟨31, 2, 0, 0, 0, false, 0, [], (x.2.2.2.2.2.2.2.1.map e_Entry)⟩), (39, ⟨62, 9, 0, 0, 0, true, 0, [], (v1.1.map e_Mail)⟩)], [], []⟩ .nil (by kernel_rfl) ?_
          obtain ⟨h1, hF⟩ := asrt_elim hF
          refine WRL ((v1.1 ++ [(⟨x.1, box.ID, v1.2, box.Term, x.2.2.2.2.1, x.2.2.2.2.2.1, x.2.2.2.2.2.2.1, x.2.2.2.2.2.2.2.1, x.2.2.2.2.2.2.2.2⟩ : Mail)])) (fun v3 : List Mail => ⟨[(0, .ptr 100000 0), (1, .fn 91 [.ptr 100001 0]), (5, .row 39 1), (11, .int .i64 box.N), (12, .int .i64 v1.2)], [(100000, (c_Node box)), (100001, [.ptr 100000 0])], [(39, ⟨62, 9, 1, 0, 0, true, 0, [], (v3.map e_Mail)⟩)], [], []⟩) [.sealed, .xs ((v1.1 ++ [(⟨x.1, box.ID, v1.2, box.Term, x.2.2.2.2.1, x.2.2.2.2.2.1, x.2.2.2.2.2.2.1, x.2.2.2.2.2.2.2.1, x.2.2.2.2.2.2.2.2⟩ : Mail)]).map e_Mail)] [0, 1, 5, 11, 12] [100000, 100001] [39] [] [] [] (.cons (app_ok e_Mail v1.1 [(⟨x.1, box.ID, v1.2, box.Term, x.2.2.2.2.1, x.2.2.2.2.2.1, x.2.2.2.2.2.2.1, x.2.2.2.2.2.2.2.1, x.2.2.2.2.2.2.2.2⟩ : Mail)]) (.cons (appl_ok e_Mail h1) .nil)) (by kernel_rfl) (fun v3 hv => ?_)
          have hF := lt_elim hF hv
          exact Wk_met (fs := [0, 1, 5, 11, 12]) (bs := [100000, 100001]) (rs := [39]) (ms := []) (aa := []) (nv := [(39, ⟨0, true, true, false⟩)]) (by first | (rw [← some_elim hF]; kernel_rfl) | kernel_rfl)
        · have hF := ite_f hF hb
          refine Wk_skip ?_
          exact Wk_met (fs := [0, 1, 5, 11, 12]) (bs := [100000, 100001]) (rs := [39]) (ms := []) (aa := []) (nv := []) (by first | (rw [← some_elim hF]; kernel_rfl) | kernel_rfl)
      · refine Wk_blk ?_
        refine WR [] [0, 1, 5, 11, 12] [100000, 100001] [39] [] [] [] ⟨[(0, .ptr 100000 0), (1, .fn 91 [.ptr 100001 0]), (5, .row 39 0), (11, .int .i64 box.N), (12, .int .i64 (w64 (v1.2 + 1)))], [(100000, (c_Node box)), (100001, [.ptr 100000 0])], [(39, ⟨62, 9, 0, 0, 0, true, 0, [], (v2.map e_Mail)⟩)], [], []⟩ .nil (by kernel_rfl) ?_
        refine Wk_trim (fs := [0, 1, 5, 11, 12]) (bs := [100000, 100001]) (rs := [39]) (ms := []) (aa := []) (nv := []) ?_ (ih1 _ (some_elim hF).symm)
        kernel_rfl
    · have hF := ite_f hF hb
      refine Wk_exit rfl ?_
      have hF := inrO_done hF dn1
      exact Wk_metP v1.1 [5] [100000, 100001] [39] [] [] [] hF (by kernel_rfl)
  · intro v hF
    have hF : raft_others_v1_J1 v = some r := hF
    unfold raft_others_v1_J1 at hF
    refine Wk_seq ?_
    refine WR [] [4] [100000, 100001] [39] [] [] [] ⟨[(4, .row 39 0)], [(100000, (c_Node box)), (100001, [.ptr 100000 0])], [(39, ⟨62, 9, 0, 0, 0, true, 0, [], (v.map e_Mail)⟩)], [], []⟩ .nil (by kernel_rfl) ?_
    have hF := some_elim hF
    exact Wk_ret (hfin _ ⟨[39], [100000, 100001], [39], [], [], [], by first | (rw [← hF]; kernel_rfl) | kernel_rfl⟩)

/- raft.beats -/
noncomputable def raft_beats (box : Node) : Option (List Mail) :=
  ob (raft_others_v1 box) fun x =>
  some x
theorem raft_beats_ok (box : Node) (r : List Mail) (hF : raft_beats box = some r) : Pe Try.prog 70 ⟨[], [(100000, (c_Node box))], [], [], []⟩ [.ptr 100000 0] (.row 5 0) ⟨[], [(100000, (c_Node box))], [(5, ⟨62, 9, 0, 0, 0, true, 0, [], (r.map e_Mail)⟩)], [], []⟩ := by
  refine Pe_of (N := 6) (res := [.tmp 2]) (ts := [50]) Ty.ok Fn.b70 Try.func70 rfl rfl rfl rfl rfl rfl ?_
  intro Q g hfin
  unfold raft_beats at hF
  refine Wk_seq ?_
  refine WR [] [1] [1, 100000] [] [] [] [] ⟨[(1, .ptr 1 0)], [(1, [.ptr 100000 0]), (100000, (c_Node box))], [], [], []⟩ .nil (by kernel_rfl) ?_
  refine Wk_seq ?_
  obtain ⟨x, h0, hF⟩ := ob_elim hF
  refine WR [.callE [100000, 1] [] [] [] (.row 5 0) ⟨[], [(100000, (c_Node box)), (1, [.ptr 100000 0])], [(5, ⟨62, 9, 0, 0, 0, true, 0, [], (x.map e_Mail)⟩)], [], []⟩] [2] [100000] [5] [] [] [] ⟨[(2, .row 5 0)], [(100000, (c_Node box))], [(5, ⟨62, 9, 0, 0, 0, true, 0, [], (x.map e_Mail)⟩)], [], []⟩ (.cons (Pe.ren (raft_others_v1_ok box x h0) ⟨[(100001, 1)], [(39, 5)], [], []⟩) .nil) (by kernel_rfl) ?_
  have hF := some_elim hF
  exact Wk_ret (hfin _ ⟨[5], [100000], [5], [], [], [], by first | (rw [← hF]; kernel_rfl) | kernel_rfl⟩)

/- raft.Beat -/
noncomputable def raft_Beat_v1 (x : Node) : Option (List Mail × Fault) :=
  ob (raft_Check x) fun x1 =>
  ob (
    if ((decide (x1.Code = 0)) && (!decide (x.Role = 2))) = true then
      lt (raft_fault 11 0) fun x2 =>
      some x2
    else
      some x1) fun (v : Fault) =>
  if (!decide (v.Code = 0)) = true then
    some (([] : List Mail), v)
  else
    ob (raft_beats x) fun x3 =>
    some (x3, v)
theorem raft_Beat_v1_ok (x : Node) (r : List Mail × Fault) (hF : raft_Beat_v1 x = some r) : Pe Try.prog 33 S.none [.agg (c_Node x)] (.tup [.sl 9 (r.1.map e_Mail), .agg [.int .i64 r.2.Code, .int .i64 r.2.At]]) S.none := by
  refine Pe_of (N := 22) (res := [.tmp 2, .cell 3 26]) (ts := [50, 26]) Ty.ok Fn.b33 Try.func33 rfl rfl rfl rfl rfl rfl ?_
  intro Q g hfin
  unfold raft_Beat_v1 at hF
  refine Wk_seq ?_
  refine WR [] [1, 3] [1, 3] [] [] [] [] ⟨[(1, .ptr 1 0), (3, .ptr 3 0)], [(1, (c_Node x)), (3, [.int .i64 0, .int .i64 0])], [], [], []⟩ .nil (by kernel_rfl) ?_
  refine Wk_seq ?_
  obtain ⟨x1, h0, hF⟩ := ob_elim hF
  refine WR [.callB (.agg [.int .i64 x1.Code, .int .i64 x1.At])] [1, 3, 4] [1, 3, 4] [] [] [] [] ⟨[(1, .ptr 1 0), (3, .ptr 3 0), (4, .ptr 4 0)], [(1, (c_Node x)), (3, [.int .i64 0, .int .i64 0]), (4, [.int .i64 x1.Code, .int .i64 x1.At])], [], [], []⟩ (.cons (raft_Check_ok x x1 h0) .nil) (by kernel_rfl) ?_
  refine Wk_seq ?_
  refine Wk_seq ?_
  refine WR [] [1, 3, 4, 14] [1, 3, 4] [] [] [] [] ⟨[(1, .ptr 1 0), (3, .ptr 3 0), (4, .ptr 4 0), (14, .bool ((decide (x1.Code = 0)) && (!decide (x.Role = 2))))], [(1, (c_Node x)), (3, [.int .i64 0, .int .i64 0]), (4, [.int .i64 x1.Code, .int .i64 x1.At])], [], [], []⟩ .nil (by kernel_rfl) ?_
  obtain ⟨v, hv, hF⟩ := ob_elim hF
  refine Wk_meet (⟨[(1, .ptr 1 0), (3, .ptr 3 0), (4, .ptr 4 0)], [(1, (c_Node x)), (3, [.int .i64 0, .int .i64 0]), (4, [.int .i64 v.Code, .int .i64 v.At])], [], [], []⟩ : S) ?_ ?_
  · have hF := hv
    refine Wk_split rfl (fun hb => ?_) (fun hb => ?_)
    · have hF := ite_t hF hb
      obtain ⟨x2, h1, hF⟩ := lt_split hF
      refine WR [.callB (.agg [.int .i64 x2.Code, .int .i64 x2.At])] [1, 3, 4] [1, 3, 4] [] [] [] [] ⟨[(1, .ptr 1 0), (3, .ptr 3 0), (4, .ptr 4 0)], [(1, (c_Node x)), (3, [.int .i64 0, .int .i64 0]), (4, [.int .i64 x2.Code, .int .i64 x2.At])], [], [], []⟩ (.cons (raft_fault_ok 11 0 x2 h1) .nil) (by kernel_rfl) ?_
      exact Wk_met (fs := [1, 3, 4]) (bs := [1, 3, 4]) (rs := []) (ms := []) (aa := []) (nv := []) (by first | (rw [← some_elim hF]; kernel_rfl) | kernel_rfl)
    · have hF := ite_f hF hb
      refine Wk_skip ?_
      exact Wk_met (fs := [1, 3, 4]) (bs := [1, 3, 4]) (rs := []) (ms := []) (aa := []) (nv := []) (by first | (rw [← some_elim hF]; kernel_rfl) | kernel_rfl)
  · refine Wk_seq ?_
    refine Wk_seq ?_
    refine WR [] [1, 3, 4, 18] [1, 3, 4] [] [] [] [] ⟨[(1, .ptr 1 0), (3, .ptr 3 0), (4, .ptr 4 0), (18, .bool (!decide (v.Code = 0)))], [(1, (c_Node x)), (3, [.int .i64 0, .int .i64 0]), (4, [.int .i64 v.Code, .int .i64 v.At])], [], [], []⟩ .nil (by kernel_rfl) ?_
    refine Wk_split rfl (fun hb => ?_) (fun hb => ?_)
    · have hF := ite_t hF hb
      refine Wk_seq ?_
      refine WD [] [2, 3] [3] [] [] [] [] ⟨[(2, .nils), (3, .ptr 3 0)], [(3, [.int .i64 v.Code, .int .i64 v.At])], [], [], []⟩ .nil (by kernel_rfl) ?_
      have hF := some_elim hF
      exact Wk_ret (hfin _ ⟨[], [], [], [], [], [], by first | (rw [← hF]; kernel_rfl) | kernel_rfl⟩)
    · have hF := ite_f hF hb
      refine Wk_skip ?_
      refine Wk_seq ?_
      obtain ⟨x3, h2, hF⟩ := ob_elim hF
      refine WD [.callE [1] [] [] [] (.row 20 0) ⟨[], [(1, (c_Node x))], [(20, ⟨62, 9, 0, 0, 0, true, 0, [], (x3.map e_Mail)⟩)], [], []⟩] [2, 3] [3] [20] [] [] [] ⟨[(2, .row 20 0), (3, .ptr 3 0)], [(3, [.int .i64 v.Code, .int .i64 v.At])], [(20, ⟨62, 9, 0, 0, 0, true, 0, [], (x3.map e_Mail)⟩)], [], []⟩ (.cons (Pe.ren (raft_beats_ok x x3 h2) ⟨[(100000, 1)], [(5, 20)], [], []⟩) .nil) (by kernel_rfl) ?_
      have hF := some_elim hF
      exact Wk_ret (hfin _ ⟨[], [], [], [], [], [], by first | (rw [← hF]; kernel_rfl) | kernel_rfl⟩)

/- raft.Restart -/
noncomputable def raft_Restart_v1 (x : Node) : Option (Node × Fault) :=
  ob (raft_Check x) fun x1 =>
  if (!decide (x1.Code = 0)) = true then
    some ((⟨0, 0, 0, 0, ([] : List Entry), 0, 0, ([] : List Int), ([] : List Int), ([] : List Int)⟩ : Node), x1)
  else
    ob (raft_own x) fun x2 =>
    lt (raft_follow x2.1 x2.2.1 x2.2.2.1 x2.2.2.2.1 x2.2.2.2.2.2.1 x2.2.2.2.2.2.2.1 x2.2.2.2.2.1 x2.2.2.2.2.2.2.2.1 x2.2.2.2.2.2.2.2.2.1 x2.2.2.2.2.2.2.2.2.2) fun x3 =>
    some ((⟨x3.1, x3.2.1, x3.2.2.1, x3.2.2.2.1, x2.2.2.2.2.1, x3.2.2.2.2.1, 0, ([] : List Int), ([] : List Int), ([] : List Int)⟩ : Node), x1)
theorem raft_Restart_v1_ok (x : Node) (r : Node × Fault) (hF : raft_Restart_v1 x = some r) : Pe Try.prog 34 S.none [.agg (c_Node x)] (.tup [.agg (c_Node r.1), .agg [.int .i64 r.2.Code, .int .i64 r.2.At]]) S.none := by
  refine Pe_of (N := 24) (res := [.cell 2 46, .cell 3 26]) (ts := [46, 26]) Ty.ok Fn.b34 Try.func34 rfl rfl rfl rfl rfl rfl ?_
  intro Q g hfin
  unfold raft_Restart_v1 at hF
  refine Wk_seq ?_
  refine WR [] [1, 2, 3] [1, 2, 3] [] [] [] [] ⟨[(1, .ptr 1 0), (2, .ptr 2 0), (3, .ptr 3 0)], [(1, (c_Node x)), (2, [.int .i64 0, .int .i64 0, .int .i64 0, .int .i64 0, .nils, .int .i64 0, .int .i64 0, .nils, .nils, .nils]), (3, [.int .i64 0, .int .i64 0])], [], [], []⟩ .nil (by kernel_rfl) ?_
  refine Wk_seq ?_
  obtain ⟨x1, h0, hF⟩ := ob_elim hF
  refine WR [.callB (.agg [.int .i64 x1.Code, .int .i64 x1.At])] [1, 2, 3, 4] [1, 2, 3, 4] [] [] [] [] ⟨[(1, .ptr 1 0), (2, .ptr 2 0), (3, .ptr 3 0), (4, .ptr 4 0)], [(1, (c_Node x)), (2, [.int .i64 0, .int .i64 0, .int .i64 0, .int .i64 0, .nils, .int .i64 0, .int .i64 0, .nils, .nils, .nils]), (3, [.int .i64 0, .int .i64 0]), (4, [.int .i64 x1.Code, .int .i64 x1.At])], [], [], []⟩ (.cons (raft_Check_ok x x1 h0) .nil) (by kernel_rfl) ?_
  refine Wk_seq ?_
  refine Wk_seq ?_
  refine WR [] [1, 2, 3, 4, 10] [1, 2, 3, 4] [] [] [] [] ⟨[(1, .ptr 1 0), (2, .ptr 2 0), (3, .ptr 3 0), (4, .ptr 4 0), (10, .bool (!decide (x1.Code = 0)))], [(1, (c_Node x)), (2, [.int .i64 0, .int .i64 0, .int .i64 0, .int .i64 0, .nils, .int .i64 0, .int .i64 0, .nils, .nils, .nils]), (3, [.int .i64 0, .int .i64 0]), (4, [.int .i64 x1.Code, .int .i64 x1.At])], [], [], []⟩ .nil (by kernel_rfl) ?_
  refine Wk_split rfl (fun hb => ?_) (fun hb => ?_)
  · have hF := ite_t hF hb
    refine Wk_seq ?_
    refine WD [] [2, 3] [2, 3] [] [] [] [] ⟨[(2, .ptr 2 0), (3, .ptr 3 0)], [(2, [.int .i64 0, .int .i64 0, .int .i64 0, .int .i64 0, .nils, .int .i64 0, .int .i64 0, .nils, .nils, .nils]), (3, [.int .i64 x1.Code, .int .i64 x1.At])], [], [], []⟩ .nil (by kernel_rfl) ?_
    have hF := some_elim hF
    exact Wk_ret (hfin _ ⟨[], [], [], [], [], [], by first | (rw [← hF]; kernel_rfl) | kernel_rfl⟩)
  · have hF := ite_f hF hb
    refine Wk_skip ?_
    refine Wk_seq ?_
    obtain ⟨x2, h1, hF⟩ := ob_elim hF
    refine WR [.callE [] [] [] [] (.ptr 14 0) ⟨[], [(14, [.int .i64 x2.1, .int .i64 x2.2.1, .int .i64 x2.2.2.1, .int .i64 x2.2.2.2.1, .row 14 0, .int .i64 x2.2.2.2.2.2.1, .int .i64 x2.2.2.2.2.2.2.1, .row 20014 0, .row 40014 0, .row 60014 0])], [(14, ⟨31, 2, 0, 0, 0, false, 0, [], (x2.2.2.2.2.1.map e_Entry)⟩), (20014, ⟨3, 1, 0, 0, 0, false, 0, [], (x2.2.2.2.2.2.2.2.1.map e_i64)⟩), (40014, ⟨3, 1, 0, 0, 0, false, 0, [], (x2.2.2.2.2.2.2.2.2.1.map e_i64)⟩), (60014, ⟨3, 1, 0, 0, 0, false, 0, [], (x2.2.2.2.2.2.2.2.2.2.map e_i64)⟩)], [], []⟩] [2, 3, 4, 5] [2, 3, 4, 14] [14, 20014, 40014, 60014] [] [] [] ⟨[(2, .ptr 2 0), (3, .ptr 3 0), (4, .ptr 4 0), (5, .ptr 14 0)], [(2, [.int .i64 0, .int .i64 0, .int .i64 0, .int .i64 0, .nils, .int .i64 0, .int .i64 0, .nils, .nils, .nils]), (3, [.int .i64 0, .int .i64 0]), (4, [.int .i64 x1.Code, .int .i64 x1.At]), (14, [.int .i64 x2.1, .int .i64 x2.2.1, .int .i64 x2.2.2.1, .int .i64 x2.2.2.2.1, .row 14 0, .int .i64 x2.2.2.2.2.2.1, .int .i64 x2.2.2.2.2.2.2.1, .row 20014 0, .row 40014 0, .row 60014 0])], [(14, ⟨31, 2, 0, 0, 0, false, 0, [], (x2.2.2.2.2.1.map e_Entry)⟩), (20014, ⟨3, 1, 0, 0, 0, false, 0, [], (x2.2.2.2.2.2.2.2.1.map e_i64)⟩), (40014, ⟨3, 1, 0, 0, 0, false, 0, [], (x2.2.2.2.2.2.2.2.2.1.map e_i64)⟩), (60014, ⟨3, 1, 0, 0, 0, false, 0, [], (x2.2.2.2.2.2.2.2.2.2.map e_i64)⟩)], [], []⟩ (.cons (Pe.ren (raft_own_ok x x2 h1) ⟨[(1, 14)], [(5, 14), (8, 20014), (11, 40014), (5, 60014)], [], []⟩) .nil) (by kernel_rfl) ?_
    refine Wk_seq ?_
    obtain ⟨x3, h2, hF⟩ := lt_split hF
    refine WR [.callE [14] [14, 20014, 40014, 60014] [] [] (.tup []) ⟨[], [(14, [.int .i64 x3.1, .int .i64 x3.2.1, .int .i64 x3.2.2.1, .int .i64 x3.2.2.2.1, .row 14 0, .int .i64 x3.2.2.2.2.1, .int .i64 x3.2.2.2.2.2, .nils, .nils, .nils])], [(14, ⟨31, 2, 0, 0, 0, false, 0, [], (x2.2.2.2.2.1.map e_Entry)⟩), (20014, ⟨3, 1, 0, 0, 0, false, 0, [], (x2.2.2.2.2.2.2.2.1.map e_i64)⟩), (40014, ⟨3, 1, 0, 0, 0, false, 0, [], (x2.2.2.2.2.2.2.2.2.1.map e_i64)⟩), (60014, ⟨3, 1, 0, 0, 0, false, 0, [], (x2.2.2.2.2.2.2.2.2.2.map e_i64)⟩)], [], []⟩] [2, 3, 4, 5] [2, 3, 4, 14] [14] [] [] [] ⟨[(2, .ptr 2 0), (3, .ptr 3 0), (4, .ptr 4 0), (5, .ptr 14 0)], [(2, [.int .i64 0, .int .i64 0, .int .i64 0, .int .i64 0, .nils, .int .i64 0, .int .i64 0, .nils, .nils, .nils]), (3, [.int .i64 0, .int .i64 0]), (4, [.int .i64 x1.Code, .int .i64 x1.At]), (14, [.int .i64 x3.1, .int .i64 x3.2.1, .int .i64 x3.2.2.1, .int .i64 x3.2.2.2.1, .row 14 0, .int .i64 x3.2.2.2.2.1, .int .i64 x3.2.2.2.2.2, .nils, .nils, .nils])], [(14, ⟨31, 2, 0, 0, 0, false, 0, [], (x2.2.2.2.2.1.map e_Entry)⟩)], [], []⟩ (.cons (Pe.ren (raft_follow_ok x2.1 x2.2.1 x2.2.2.1 x2.2.2.2.1 x2.2.2.2.2.2.1 x2.2.2.2.2.2.2.1 x2.2.2.2.2.1 x2.2.2.2.2.2.2.2.1 x2.2.2.2.2.2.2.2.2.1 x2.2.2.2.2.2.2.2.2.2 0 0 false 0 0 false 0 0 false 0 0 false x3 h2) ⟨[(100000, 14)], [(100000, 14), (100001, 20014), (100002, 40014), (100003, 60014)], [], []⟩) .nil) (by kernel_rfl) ?_
    refine Wk_seq ?_
    refine WR [] [2, 3, 4, 5] [2, 3, 4, 14] [14] [] [] [] ⟨[(2, .ptr 2 0), (3, .ptr 3 0), (4, .ptr 4 0), (5, .ptr 14 0)], [(2, [.int .i64 0, .int .i64 0, .int .i64 0, .int .i64 0, .nils, .int .i64 0, .int .i64 0, .nils, .nils, .nils]), (3, [.int .i64 0, .int .i64 0]), (4, [.int .i64 x1.Code, .int .i64 x1.At]), (14, [.int .i64 x3.1, .int .i64 x3.2.1, .int .i64 x3.2.2.1, .int .i64 x3.2.2.2.1, .row 14 0, .int .i64 x3.2.2.2.2.1, .int .i64 0, .nils, .nils, .nils])], [(14, ⟨31, 2, 0, 0, 0, false, 0, [], (x2.2.2.2.2.1.map e_Entry)⟩)], [], []⟩ .nil (by kernel_rfl) ?_
    refine Wk_seq ?_
    refine WD [] [2, 3] [2, 3] [14] [] [] [] ⟨[(2, .ptr 2 0), (3, .ptr 3 0)], [(2, [.int .i64 x3.1, .int .i64 x3.2.1, .int .i64 x3.2.2.1, .int .i64 x3.2.2.2.1, .row 14 0, .int .i64 x3.2.2.2.2.1, .int .i64 0, .nils, .nils, .nils]), (3, [.int .i64 x1.Code, .int .i64 x1.At])], [(14, ⟨31, 2, 0, 0, 0, false, 0, [], (x2.2.2.2.2.1.map e_Entry)⟩)], [], []⟩ .nil (by kernel_rfl) ?_
    have hF := some_elim hF
    exact Wk_ret (hfin _ ⟨[], [], [], [], [], [], by first | (rw [← hF]; kernel_rfl) | kernel_rfl⟩)

/- tabularyref.SameLog -/
noncomputable def R_SameLog_J1 (v : Unit) : Option Bool :=
  some true
noncomputable def R_SameLog_B1 (a0 : List Entry) (b : List Entry) (v1 : Int) : Option (Int ⊕ Bool) :=
  if (decide (v1 < (a0.length : Int))) = true then
    asrt (0 ≤ v1 ∧ v1 < (a0.length : Int)) <|
    asrt (0 ≤ v1 ∧ v1 < (b.length : Int)) <|
    if (!(decide ((lget a0 v1).Term = (lget b v1).Term) && (decide ((lget a0 v1).Text = (lget b v1).Text) && true))) = true then
      some (Sum.inr false)
    else
      some (Sum.inl (w64 (v1 + 1)))
  else
    inrO (R_SameLog_J1 ())
noncomputable def R_SameLog_L1 (a0 : List Entry) (b : List Entry) (v0 : Int) : Option Bool :=
  loopO (fun y => R_SameLog_B1 a0 b y) v0
noncomputable def R_SameLog (a0 : List Entry) (b : List Entry) : Option Bool :=
  if (!decide ((a0.length : Int) = (b.length : Int))) = true then
    some false
  else
    R_SameLog_L1 a0 b 0
theorem R_SameLog_ok (a0 : List Entry) (b : List Entry) (r : Bool) (hF : R_SameLog a0 b = some r) : Pe Try.prog 16 S.none [.sl 2 (a0.map e_Entry), .sl 2 (b.map e_Entry)] (.bool r) S.none := by
  refine Pe_of (N := 26) (res := [.tmp 4]) (ts := [4]) Ty.ok Fn.b16 Try.func16 rfl rfl rfl rfl rfl rfl ?_
  intro Q g hfin
  unfold R_SameLog at hF
  refine Wk_seq ?_
  refine WR [] [0, 1] [] [] [] [] [] ⟨[(0, .sl 2 (a0.map e_Entry)), (1, .sl 2 (b.map e_Entry))], [], [], [], []⟩ .nil (by kernel_rfl) ?_
  refine Wk_seq ?_
  refine Wk_seq ?_
  refine WR [.nat (a0.length : Int), .nat (b.length : Int)] [0, 1, 10] [] [] [] [] [] ⟨[(0, .sl 2 (a0.map e_Entry)), (1, .sl 2 (b.map e_Entry)), (10, .bool (!decide ((a0.length : Int) = (b.length : Int))))], [], [], [], []⟩ (.cons (len_ok e_Entry a0) (.cons (len_ok e_Entry b) .nil)) (by kernel_rfl) ?_
  refine Wk_split rfl (fun hb => ?_) (fun hb => ?_)
  · have hF := ite_t hF hb
    refine Wk_seq ?_
    refine WR [] [4] [] [] [] [] [] ⟨[(4, .bool false)], [], [], [], []⟩ .nil (by kernel_rfl) ?_
    have hF := some_elim hF
    exact Wk_ret (hfin _ ⟨[], [], [], [], [], [], by first | (rw [← hF]; kernel_rfl) | kernel_rfl⟩)
  · have hF := ite_f hF hb
    refine Wk_skip ?_
    refine Wk_seq ?_
    refine Wk_seq ?_
    refine WR [] [0, 1, 5] [] [] [] [] [] ⟨[(0, .sl 2 (a0.map e_Entry)), (1, .sl 2 (b.map e_Entry)), (5, .int .i64 0)], [], [], [], []⟩ .nil (by kernel_rfl) ?_
    refine Wk_meetP (fun v : Unit => (⟨[], [], [], [], []⟩ : S)) (fun v => R_SameLog_J1 v = some r) ?_ ?_
    · refine Wk_block ?_
      unfold R_SameLog_L1 at hF
      refine Wk_trim (fs := [0, 1, 5]) (bs := []) (rs := []) (ms := []) (aa := []) (nv := []) (t := (fun v1 : Int => (⟨[(0, .sl 2 (a0.map e_Entry)), (1, .sl 2 (b.map e_Entry)), (5, .int .i64 v1)], [], [], [], []⟩ : S)) 0) (by kernel_rfl) ?_
      refine Wk_iter (step := fun y => R_SameLog_B1 a0 b y) (r := r) (fun v1 : Int => (⟨[(0, .sl 2 (a0.map e_Entry)), (1, .sl 2 (b.map e_Entry)), (5, .int .i64 v1)], [], [], [], []⟩ : S)) 0 hF ?_
      intro n1 v1 y1 hF ih1 dn1
      have hF : R_SameLog_B1 a0 b v1 = some y1 := hF
      unfold R_SameLog_B1 at hF
      refine Wk_seq ?_
      refine Wk_seq ?_
      refine WR [.nat (a0.length : Int)] [0, 1, 5, 14] [] [] [] [] [] ⟨[(0, .sl 2 (a0.map e_Entry)), (1, .sl 2 (b.map e_Entry)), (5, .int .i64 v1), (14, .bool (decide (v1 < (a0.length : Int))))], [], [], [], []⟩ (.cons (len_ok e_Entry a0) .nil) (by kernel_rfl) ?_
      refine Wk_split rfl (fun hb => ?_) (fun hb => ?_)
      · have hF := ite_t hF hb
        refine Wk_skip ?_
        refine Wk_seq ?_
        refine Wk_block ?_
        refine Wk_seq ?_
        obtain ⟨h0, hF⟩ := asrt_elim hF
        obtain ⟨h1, hF⟩ := asrt_elim hF
        refine WD [.av (e_Entry (lget a0 v1)), .av (e_Entry (lget b v1))] [0, 1, 5, 25] [] [] [] [] [] ⟨[(0, .sl 2 (a0.map e_Entry)), (1, .sl 2 (b.map e_Entry)), (5, .int .i64 v1), (25, .bool (!(decide ((lget a0 v1).Term = (lget b v1).Term) && (decide ((lget a0 v1).Text = (lget b v1).Text) && true))))], [], [], [], []⟩ (.cons (idx_ok e_Entry h0) (.cons (idx_ok e_Entry h1) .nil)) (by kernel_rfl) ?_
        refine Wk_split rfl (fun hb => ?_) (fun hb => ?_)
        · have hF := ite_t hF hb
          refine Wk_seq ?_
          refine WR [] [4] [] [] [] [] [] ⟨[(4, .bool false)], [], [], [], []⟩ .nil (by kernel_rfl) ?_
          have hF := ret_done hF dn1
          have hF := some_elim hF
          exact Wk_ret (hfin _ ⟨[], [], [], [], [], [], by first | (rw [← hF]; kernel_rfl) | kernel_rfl⟩)
        · have hF := ite_f hF hb
          refine Wk_skip ?_
          refine Wk_blk ?_
          refine WR [] [0, 1, 5] [] [] [] [] [] ⟨[(0, .sl 2 (a0.map e_Entry)), (1, .sl 2 (b.map e_Entry)), (5, .int .i64 (w64 (v1 + 1)))], [], [], [], []⟩ .nil (by kernel_rfl) ?_
          refine Wk_trim (fs := [0, 1, 5]) (bs := []) (rs := []) (ms := []) (aa := []) (nv := []) ?_ (ih1 _ (some_elim hF).symm)
          kernel_rfl
      · have hF := ite_f hF hb
        refine Wk_exit rfl ?_
        have hF := inrO_done hF dn1
        exact Wk_metP () [] [] [] [] [] [] hF (by kernel_rfl)
    · intro v hF
      have hF : R_SameLog_J1 v = some r := hF
      unfold R_SameLog_J1 at hF
      refine Wk_seq ?_
      refine WR [] [4] [] [] [] [] [] ⟨[(4, .bool true)], [], [], [], []⟩ .nil (by kernel_rfl) ?_
      have hF := some_elim hF
      exact Wk_ret (hfin _ ⟨[], [], [], [], [], [], by first | (rw [← hF]; kernel_rfl) | kernel_rfl⟩)

/- tabularyref.Ints -/
noncomputable def R_Ints_J1 (v : Unit) : Option Bool :=
  some true
noncomputable def R_Ints_B1 (a0 : List Int) (b : List Int) (v1 : Int) : Option (Int ⊕ Bool) :=
  if (decide (v1 < (a0.length : Int))) = true then
    asrt (0 ≤ v1 ∧ v1 < (a0.length : Int)) <|
    asrt (0 ≤ v1 ∧ v1 < (b.length : Int)) <|
    if (!decide ((lget a0 v1) = (lget b v1))) = true then
      some (Sum.inr false)
    else
      some (Sum.inl (w64 (v1 + 1)))
  else
    inrO (R_Ints_J1 ())
noncomputable def R_Ints_L1 (a0 : List Int) (b : List Int) (v0 : Int) : Option Bool :=
  loopO (fun y => R_Ints_B1 a0 b y) v0
noncomputable def R_Ints (a0 : List Int) (b : List Int) : Option Bool :=
  if (!decide ((a0.length : Int) = (b.length : Int))) = true then
    some false
  else
    R_Ints_L1 a0 b 0
theorem R_Ints_ok (a0 : List Int) (b : List Int) (r : Bool) (hF : R_Ints a0 b = some r) : Pe Try.prog 71 S.none [.sl 1 (a0.map e_i64), .sl 1 (b.map e_i64)] (.bool r) S.none := by
  refine Pe_of (N := 26) (res := [.tmp 4]) (ts := [4]) Ty.ok Fn.b71 Try.func71 rfl rfl rfl rfl rfl rfl ?_
  intro Q g hfin
  unfold R_Ints at hF
  refine Wk_seq ?_
  refine WR [] [0, 1] [] [] [] [] [] ⟨[(0, .sl 1 (a0.map e_i64)), (1, .sl 1 (b.map e_i64))], [], [], [], []⟩ .nil (by kernel_rfl) ?_
  refine Wk_seq ?_
  refine Wk_seq ?_
  refine WR [.nat (a0.length : Int), .nat (b.length : Int)] [0, 1, 10] [] [] [] [] [] ⟨[(0, .sl 1 (a0.map e_i64)), (1, .sl 1 (b.map e_i64)), (10, .bool (!decide ((a0.length : Int) = (b.length : Int))))], [], [], [], []⟩ (.cons (len_ok e_i64 a0) (.cons (len_ok e_i64 b) .nil)) (by kernel_rfl) ?_
  refine Wk_split rfl (fun hb => ?_) (fun hb => ?_)
  · have hF := ite_t hF hb
    refine Wk_seq ?_
    refine WR [] [4] [] [] [] [] [] ⟨[(4, .bool false)], [], [], [], []⟩ .nil (by kernel_rfl) ?_
    have hF := some_elim hF
    exact Wk_ret (hfin _ ⟨[], [], [], [], [], [], by first | (rw [← hF]; kernel_rfl) | kernel_rfl⟩)
  · have hF := ite_f hF hb
    refine Wk_skip ?_
    refine Wk_seq ?_
    refine Wk_seq ?_
    refine WR [] [0, 1, 5] [] [] [] [] [] ⟨[(0, .sl 1 (a0.map e_i64)), (1, .sl 1 (b.map e_i64)), (5, .int .i64 0)], [], [], [], []⟩ .nil (by kernel_rfl) ?_
    refine Wk_meetP (fun v : Unit => (⟨[], [], [], [], []⟩ : S)) (fun v => R_Ints_J1 v = some r) ?_ ?_
    · refine Wk_block ?_
      unfold R_Ints_L1 at hF
      refine Wk_trim (fs := [0, 1, 5]) (bs := []) (rs := []) (ms := []) (aa := []) (nv := []) (t := (fun v1 : Int => (⟨[(0, .sl 1 (a0.map e_i64)), (1, .sl 1 (b.map e_i64)), (5, .int .i64 v1)], [], [], [], []⟩ : S)) 0) (by kernel_rfl) ?_
      refine Wk_iter (step := fun y => R_Ints_B1 a0 b y) (r := r) (fun v1 : Int => (⟨[(0, .sl 1 (a0.map e_i64)), (1, .sl 1 (b.map e_i64)), (5, .int .i64 v1)], [], [], [], []⟩ : S)) 0 hF ?_
      intro n1 v1 y1 hF ih1 dn1
      have hF : R_Ints_B1 a0 b v1 = some y1 := hF
      unfold R_Ints_B1 at hF
      refine Wk_seq ?_
      refine Wk_seq ?_
      refine WR [.nat (a0.length : Int)] [0, 1, 5, 14] [] [] [] [] [] ⟨[(0, .sl 1 (a0.map e_i64)), (1, .sl 1 (b.map e_i64)), (5, .int .i64 v1), (14, .bool (decide (v1 < (a0.length : Int))))], [], [], [], []⟩ (.cons (len_ok e_i64 a0) .nil) (by kernel_rfl) ?_
      refine Wk_split rfl (fun hb => ?_) (fun hb => ?_)
      · have hF := ite_t hF hb
        refine Wk_skip ?_
        refine Wk_seq ?_
        refine Wk_block ?_
        refine Wk_seq ?_
        obtain ⟨h0, hF⟩ := asrt_elim hF
        obtain ⟨h1, hF⟩ := asrt_elim hF
        refine WD [.av (e_i64 (lget a0 v1)), .av (e_i64 (lget b v1))] [0, 1, 5, 25] [] [] [] [] [] ⟨[(0, .sl 1 (a0.map e_i64)), (1, .sl 1 (b.map e_i64)), (5, .int .i64 v1), (25, .bool (!decide ((lget a0 v1) = (lget b v1))))], [], [], [], []⟩ (.cons (idx_ok e_i64 h0) (.cons (idx_ok e_i64 h1) .nil)) (by kernel_rfl) ?_
        refine Wk_split rfl (fun hb => ?_) (fun hb => ?_)
        · have hF := ite_t hF hb
          refine Wk_seq ?_
          refine WR [] [4] [] [] [] [] [] ⟨[(4, .bool false)], [], [], [], []⟩ .nil (by kernel_rfl) ?_
          have hF := ret_done hF dn1
          have hF := some_elim hF
          exact Wk_ret (hfin _ ⟨[], [], [], [], [], [], by first | (rw [← hF]; kernel_rfl) | kernel_rfl⟩)
        · have hF := ite_f hF hb
          refine Wk_skip ?_
          refine Wk_blk ?_
          refine WR [] [0, 1, 5] [] [] [] [] [] ⟨[(0, .sl 1 (a0.map e_i64)), (1, .sl 1 (b.map e_i64)), (5, .int .i64 (w64 (v1 + 1)))], [], [], [], []⟩ .nil (by kernel_rfl) ?_
          refine Wk_trim (fs := [0, 1, 5]) (bs := []) (rs := []) (ms := []) (aa := []) (nv := []) ?_ (ih1 _ (some_elim hF).symm)
          kernel_rfl
      · have hF := ite_f hF hb
        refine Wk_exit rfl ?_
        have hF := inrO_done hF dn1
        exact Wk_metP () [] [] [] [] [] [] hF (by kernel_rfl)
    · intro v hF
      have hF : R_Ints_J1 v = some r := hF
      unfold R_Ints_J1 at hF
      refine Wk_seq ?_
      refine WR [] [4] [] [] [] [] [] ⟨[(4, .bool true)], [], [], [], []⟩ .nil (by kernel_rfl) ?_
      have hF := some_elim hF
      exact Wk_ret (hfin _ ⟨[], [], [], [], [], [], by first | (rw [← hF]; kernel_rfl) | kernel_rfl⟩)

/- tabularyref.SameNode -/
noncomputable def R_SameNode (a0 : Node) (b : Node) : Option Bool :=
  ob (if ((((((decide (a0.N = b.N)) && (decide (a0.ID = b.ID))) && (decide (a0.Term = b.Term))) && (decide (a0.Vote = b.Vote))) && (decide (a0.Role = b.Role))) && (decide (a0.Commit = b.Commit))) = true then (R_SameLog a0.Log b.Log) else some default) fun x =>
  ob (if (((((((decide (a0.N = b.N)) && (decide (a0.ID = b.ID))) && (decide (a0.Term = b.Term))) && (decide (a0.Vote = b.Vote))) && (decide (a0.Role = b.Role))) && (decide (a0.Commit = b.Commit))) && x) = true then (R_Ints a0.Votes b.Votes) else some default) fun x1 =>
  ob (if ((((((((decide (a0.N = b.N)) && (decide (a0.ID = b.ID))) && (decide (a0.Term = b.Term))) && (decide (a0.Vote = b.Vote))) && (decide (a0.Role = b.Role))) && (decide (a0.Commit = b.Commit))) && x) && x1) = true then (R_Ints a0.Next b.Next) else some default) fun x2 =>
  ob (if (((((((((decide (a0.N = b.N)) && (decide (a0.ID = b.ID))) && (decide (a0.Term = b.Term))) && (decide (a0.Vote = b.Vote))) && (decide (a0.Role = b.Role))) && (decide (a0.Commit = b.Commit))) && x) && x1) && x2) = true then (R_Ints a0.Have b.Have) else some default) fun x3 =>
  lt ((((((((((decide (a0.N = b.N)) && (decide (a0.ID = b.ID))) && (decide (a0.Term = b.Term))) && (decide (a0.Vote = b.Vote))) && (decide (a0.Role = b.Role))) && (decide (a0.Commit = b.Commit))) && x) && x1) && x2) && x3) fun (v : Bool) =>
  some v
theorem R_SameNode_ok (a0 : Node) (b : Node) (r : Bool) (hF : R_SameNode a0 b = some r) : Pe Try.prog 35 S.none [.agg (c_Node a0), .agg (c_Node b)] (.bool r) S.none := by
  refine Pe_of (N := 73) (res := [.tmp 4]) (ts := [4]) Ty.ok Fn.b35 Try.func35 rfl rfl rfl rfl rfl rfl ?_
  intro Q g hfin
  unfold R_SameNode at hF
  refine Wk_seq ?_
  refine WR [] [2, 3] [2, 3] [] [] [] [] ⟨[(2, .ptr 2 0), (3, .ptr 3 0)], [(2, (c_Node a0)), (3, (c_Node b))], [], [], []⟩ .nil (by kernel_rfl) ?_
  refine Wk_seq ?_
  obtain ⟨x, h0, hF⟩ := ob_elim hF
  obtain ⟨x1, h1, hF⟩ := ob_elim hF
  obtain ⟨x2, h2, hF⟩ := ob_elim hF
  obtain ⟨x3, h3, hF⟩ := ob_elim hF
  refine WRL ((((((((((decide (a0.N = b.N)) && (decide (a0.ID = b.ID))) && (decide (a0.Term = b.Term))) && (decide (a0.Vote = b.Vote))) && (decide (a0.Role = b.Role))) && (decide (a0.Commit = b.Commit))) && x) && x1) && x2) && x3) (fun v : Bool => ⟨[(4, .bool v)], [], [], [], []⟩) [.callB (.bool x), .callB (.bool x1), .callB (.bool x2), .callB (.bool x3)] [4] [] [] [] [] [] (.cons (fun (ga0 : ((((((decide (a0.N = b.N)) && (decide (a0.ID = b.ID))) && (decide (a0.Term = b.Term))) && (decide (a0.Vote = b.Vote))) && (decide (a0.Role = b.Role))) && (decide (a0.Commit = b.Commit))) = true) => (R_SameLog_ok a0.Log b.Log x (ite_t h0 ga0))) (.cons (fun (ga0 : (((((((decide (a0.N = b.N)) && (decide (a0.ID = b.ID))) && (decide (a0.Term = b.Term))) && (decide (a0.Vote = b.Vote))) && (decide (a0.Role = b.Role))) && (decide (a0.Commit = b.Commit))) && x) = true) => (R_Ints_ok a0.Votes b.Votes x1 (ite_t h1 ga0))) (.cons (fun (ga0 : ((((((((decide (a0.N = b.N)) && (decide (a0.ID = b.ID))) && (decide (a0.Term = b.Term))) && (decide (a0.Vote = b.Vote))) && (decide (a0.Role = b.Role))) && (decide (a0.Commit = b.Commit))) && x) && x1) = true) => (R_Ints_ok a0.Next b.Next x2 (ite_t h2 ga0))) (.cons (fun (ga0 : (((((((((decide (a0.N = b.N)) && (decide (a0.ID = b.ID))) && (decide (a0.Term = b.Term))) && (decide (a0.Vote = b.Vote))) && (decide (a0.Role = b.Role))) && (decide (a0.Commit = b.Commit))) && x) && x1) && x2) = true) => (R_Ints_ok a0.Have b.Have x3 (ite_t h3 ga0))) .nil)))) (by kernel_rfl) (fun v hv => ?_)
  have hF := lt_elim hF hv
  have hF := some_elim hF
  exact Wk_ret (hfin _ ⟨[], [], [], [], [], [], by first | (rw [← hF]; kernel_rfl) | kernel_rfl⟩)

/- tabularyref.F -/
noncomputable def R_F (code : Int) (at0 : Int) : Fault :=
  (⟨code, at0⟩ : Fault)
theorem R_F_ok (code : Int) (at0 : Int) (r : Fault) (hF : R_F code at0 = r) : Pe Try.prog 51 S.none [.int .i64 code, .int .i64 at0] (.agg [.int .i64 r.Code, .int .i64 r.At]) S.none := by
  refine Pe_of (N := 8) (res := [.cell 4 26]) (ts := [26]) Ty.ok Fn.b51 Try.func51 rfl rfl rfl rfl rfl rfl ?_
  intro Q g hfin
  unfold R_F at hF
  refine Wk_seq ?_
  refine WR [] [0, 1, 4] [4] [] [] [] [] ⟨[(0, .int .i64 code), (1, .int .i64 at0), (4, .ptr 4 0)], [(4, [.int .i64 0, .int .i64 0])], [], [], []⟩ .nil (by kernel_rfl) ?_
  refine Wk_seq ?_
  refine WR [] [4] [4] [] [] [] [] ⟨[(4, .ptr 4 0)], [(4, [.int .i64 code, .int .i64 at0])], [], [], []⟩ .nil (by kernel_rfl) ?_
  exact Wk_ret (hfin _ ⟨[], [], [], [], [], [], by first | (rw [← hF]; kernel_rfl) | kernel_rfl⟩)

/- tabularyref.Num -/
noncomputable def R_Num (num : Int) : Bool :=
  (decide (0 ≤ num)) && (decide (num ≤ 1000000000))
theorem R_Num_ok (num : Int) (r : Bool) (hF : R_Num num = r) : Pe Try.prog 59 S.none [.int .i64 num] (.bool r) S.none := by
  refine Pe_of (N := 9) (res := [.tmp 2]) (ts := [4]) Ty.ok Fn.b59 Try.func59 rfl rfl rfl rfl rfl rfl ?_
  intro Q g hfin
  unfold R_Num at hF
  refine Wk_seq ?_
  refine WR [] [0] [] [] [] [] [] ⟨[(0, .int .i64 num)], [], [], [], []⟩ .nil (by kernel_rfl) ?_
  refine Wk_seq ?_
  refine WR [] [2] [] [] [] [] [] ⟨[(2, .bool ((decide (0 ≤ num)) && (decide (num ≤ 1000000000))))], [], [], [], []⟩ .nil (by kernel_rfl) ?_
  exact Wk_ret (hfin _ ⟨[], [], [], [], [], [], by first | (rw [← hF]; kernel_rfl) | kernel_rfl⟩)

end G
end Go.Proofs.Ytcnngkigpfpalaa
