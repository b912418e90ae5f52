/- The program's functions as plain functions, and that they are these. Written by a program (dec2.py). -/
import Derived.Test.YtcnngkigpfpalaaGf1
namespace Go.Proofs.Ytcnngkigpfpalaa
open Go Go.Dm
set_option linter.unusedVariables false
set_option linter.unusedSimpArgs false
set_option maxRecDepth 100000
namespace G
/- raft.answered -/
noncomputable def raft_answered (m : Mail) (box : Int) (box1 : Int) (box2 : Int) (box3 : Int) (box4 : Int) (box5 : Int) (row : List Entry) (row1 : List Int) (row2 : List Int) (row3 : List Int) : Option (Int × Int × Int × Int × Int × Int × List Int × List Int) :=
  if ((!decide (box4 = 2)) || (!decide (m.Term = box2))) = true then
    some (box, box1, box2, box3, box4, box5, row2, row3)
  else
    if m.Ok = true then
      asrt (0 ≤ m.From ∧ m.From < (row3.length : Int)) <|
      asrt (0 ≤ m.From ∧ m.From < (row3.length : Int)) <|
      asrt (0 ≤ m.From ∧ m.From < (row3.length : Int)) <|
      asrt (0 ≤ m.From ∧ m.From < (row3.length : Int)) <|
      lt ((lset row3 m.From (max (lget row3 m.From) (min m.A (row.length : Int))))) fun (v : List Int) =>
      asrt (0 ≤ m.From ∧ m.From < (v.length : Int)) <|
      asrt (0 ≤ m.From ∧ m.From < (v.length : Int)) <|
      asrt (0 ≤ m.From ∧ m.From < (row2.length : Int)) <|
      asrt (0 ≤ m.From ∧ m.From < (row2.length : Int)) <|
      ob (raft_count_v1 box box1 box2 box3 box4 box5 row row1 (lset row2 m.From (w64 ((lget v m.From) + 1))) v) fun x =>
      some (x.1, x.2.1, x.2.2.1, x.2.2.2.1, x.2.2.2.2.1, x.2.2.2.2.2, (lset row2 m.From (w64 ((lget v m.From) + 1))), v)
    else
      asrt (0 ≤ m.From ∧ m.From < (row3.length : Int)) <|
      asrt (0 ≤ m.From ∧ m.From < (row3.length : Int)) <|
      asrt (0 ≤ m.From ∧ m.From < (row2.length : Int)) <|
      asrt (0 ≤ m.From ∧ m.From < (row2.length : Int)) <|
      asrt (0 ≤ m.From ∧ m.From < (row2.length : Int)) <|
      asrt (0 ≤ m.From ∧ m.From < (row2.length : Int)) <|
      lt ((lset row2 m.From (max (w64 ((lget row3 m.From) + 1)) (min (w64 ((lget row2 m.From) - 1)) (w64 (m.A + 1)))))) fun (v1 : List Int) =>
      some (box, box1, box2, box3, box4, box5, v1, row3)
theorem raft_answered_ok (m : Mail) (box : Int) (box1 : Int) (box2 : Int) (box3 : Int) (box4 : Int) (box5 : Int) (row : List Entry) (row1 : List Int) (row2 : List Int) (row3 : List Int) (rk : Nat) (rc : Nat) (rn : Bool) (rk1 : Nat) (rc1 : Nat) (rn1 : Bool) (rk2 : Nat) (rc2 : Nat) (rn2 : Bool) (rk3 : Nat) (rc3 : Nat) (rn3 : Bool) (r : Int × Int × Int × Int × Int × Int × List Int × List Int) (hF : raft_answered m box box1 box2 box3 box4 box5 row row1 row2 row3 = some r) : Pe Try.prog 82 ⟨[], [(100000, [.i box, .i box1, .i box2, .i box3, .row 100000 0, .i box4, .i box5, .row 100001 0, .row 100002 0, .row 100003 0])], [(100000, ⟨31, 2, 0, rk, rc, rn, 0, [], (row.map e_Entry)⟩), (100001, ⟨3, 1, 0, rk1, rc1, rn1, 0, [], (row1.map e_i64)⟩), (100002, ⟨3, 1, 0, 0, rc2, rn2, 0, [], (row2.map e_i64)⟩), (100003, ⟨3, 1, 0, 0, rc3, rn3, 0, [], (row3.map e_i64)⟩)], [], []⟩ [.ptr 100000 0, .agg (c_Mail m)] (.tup []) ⟨[], [(100000, [.i r.1, .i r.2.1, .i r.2.2.1, .i r.2.2.2.1, .row 100000 0, .i r.2.2.2.2.1, .i r.2.2.2.2.2.1, .row 100001 0, .row 100002 0, .row 100003 0])], [(100000, ⟨31, 2, 0, rk, rc, rn, 0, [], (row.map e_Entry)⟩), (100001, ⟨3, 1, 0, rk1, rc1, rn1, 0, [], (row1.map e_i64)⟩), (100002, ⟨3, 1, 0, 0, rc2, rn2, 0, [], (r.2.2.2.2.2.2.1.map e_i64)⟩), (100003, ⟨3, 1, 0, 0, rc3, rn3, 0, [], (r.2.2.2.2.2.2.2.map e_i64)⟩)], [], []⟩ := by
  refine Pe_of (N := 92) (res := []) (ts := []) Ty.ok Fn.b82 Try.func82 rfl rfl rfl rfl rfl rfl ?_
  intro Q g hfin
  unfold raft_answered at hF
  refine URs [] [0, 3] [3, 100000] [100000, 100001, 100002, 100003] [] [(3, .ptr 3 0)] [(3, (c_Mail m))] [] [] .nil ?_
  refine Wk_seq ?_
  refine ZDs [] [0, 3, 17] [3, 100000] [100000, 100001, 100002, 100003] [(17, .bool ((!decide (box4 = 2)) || (!decide (m.Term = box2))))] .nil ?_
  refine Wk_split rfl (fun hb => ?_) (fun hb => ?_)
  · have hF := ite_t hF hb
    have hF := some_elim hF
    exact Wk_ret (hfin _ ⟨[100000, 100001, 100002, 100003], [100000], [100000, 100001, 100002, 100003], [], [], [], by first | (rw [← hF]; kernel_rfl) | kernel_rfl⟩)
  · have hF := ite_f hF hb
    refine Wk_skip ?_
    refine Wk_seq ?_
    refine ZRs [] [0, 3, 19] [3, 100000] [100000, 100001, 100002, 100003] [(19, .bool m.Ok)] .nil ?_
    refine Wk_split rfl (fun hb => ?_) (fun hb => ?_)
    · have hF := ite_t hF hb
      refine Wk_seq ?_
      obtain ⟨h0, hF⟩ := asrt_elim hF
      obtain ⟨h1, hF⟩ := asrt_elim hF
      obtain ⟨h2, hF⟩ := asrt_elim hF
      obtain ⟨h3, hF⟩ := asrt_elim hF
      refine WDL ((lset row3 m.From (max (lget row3 m.From) (min m.A (row.length : Int))))) (fun v : List Int => ⟨[(0, .ptr 100000 0), (3, .ptr 3 0)], [(3, (c_Mail m)), (100000, [.i box, .i box1, .i box2, .i box3, .row 100000 0, .i box4, .i box5, .row 100001 0, .row 100002 0, .row 100003 0])], [(100000, ⟨31, 2, 0, rk, rc, rn, 0, [], (row.map e_Entry)⟩), (100001, ⟨3, 1, 0, rk1, rc1, rn1, 0, [], (row1.map e_i64)⟩), (100002, ⟨3, 1, 0, 0, rc2, rn2, 0, [], (row2.map e_i64)⟩), (100003, ⟨3, 1, 0, 0, rc3, rn3, 0, [], (v.map e_i64)⟩)], [], []⟩) [.av (e_i64 (lget row3 m.From)), .nat (row.length : Int), .av (e_i64 (lget row3 m.From)), .xs ((lset row3 m.From (max (lget row3 m.From) (min m.A (row.length : Int)))).map e_i64)] [0, 3] [3, 100000] [100000, 100001, 100002, 100003] [] [] [] (.cons (ixr_ok e_i64 h0) (.cons (ldr_ok e_i64 h1) (.cons (len_ok e_Entry row) (.cons (ixr_ok e_i64 h2) (.cons (ldr_ok e_i64 h3) (.cons (set_ok e_i64 row3 m.From (max (lget row3 m.From) (min m.A (row.length : Int)))) (.cons (Nat.zero_le m.From.toNat) .nil))))))) (by kernel_rfl) (fun v hv => ?_)
      have hF := lt_elim hF hv
      refine Wk_seq ?_
      obtain ⟨h4, hF⟩ := asrt_elim hF
      obtain ⟨h5, hF⟩ := asrt_elim hF
      obtain ⟨h6, hF⟩ := asrt_elim hF
      obtain ⟨h7, hF⟩ := asrt_elim hF
      refine UD [.av (e_i64 (lget v m.From)), .av (e_i64 (lget row2 m.From)), .xs ((lset row2 m.From (w64 ((lget v m.From) + 1))).map e_i64)] [0] [100000] [100000, 100001, 100002, 100003] [] [] [] [(100002, ⟨3, 1, 0, 0, rc2, rn2, 0, [], ((lset row2 m.From (w64 ((lget v m.From) + 1))).map e_i64)⟩)] [] (.cons (ixr_ok e_i64 h4) (.cons (ldr_ok e_i64 h5) (.cons (ixr_ok e_i64 h6) (.cons (ldr_ok e_i64 h7) (.cons (set_ok e_i64 row2 m.From (w64 ((lget v m.From) + 1))) (.cons (Nat.zero_le m.From.toNat) .nil)))))) ?_
      refine Wk_seq ?_
      obtain ⟨x, h8, hF⟩ := ob_elim hF
      refine UR [.callE [100000] [100000, 100001, 100002, 100003] [] [] (.tup []) ⟨[], [(100000, [.i x.1, .i x.2.1, .i x.2.2.1, .i x.2.2.2.1, .row 100000 0, .i x.2.2.2.2.1, .i x.2.2.2.2.2, .row 100001 0, .row 100002 0, .row 100003 0])], [(100000, ⟨31, 2, 0, rk, rc, rn, 0, [], (row.map e_Entry)⟩), (100001, ⟨3, 1, 0, rk1, rc1, rn1, 0, [], (row1.map e_i64)⟩), (100002, ⟨3, 1, 0, 0, rc2, rn2, 0, [], ((lset row2 m.From (w64 ((lget v m.From) + 1))).map e_i64)⟩), (100003, ⟨3, 1, 0, 0, rc3, rn3, 0, [], (v.map e_i64)⟩)], [], []⟩] [] [100000] [100000, 100001, 100002, 100003] [] [] [(100000, [.i x.1, .i x.2.1, .i x.2.2.1, .i x.2.2.2.1, .row 100000 0, .i x.2.2.2.2.1, .i x.2.2.2.2.2, .row 100001 0, .row 100002 0, .row 100003 0])] [] [] (.cons (Pe.ren (raft_count_v1_ok box box1 box2 box3 box4 box5 row row1 (lset row2 m.From (w64 ((lget v m.From) + 1))) v rk rc rn rk1 rc1 rn1 0 rc2 rn2 0 rc3 rn3 x h8) ⟨[], [], [], []⟩) .nil) ?_
      have hF := some_elim hF
      exact Wk_ret (hfin _ ⟨[100000, 100001, 100002, 100003], [100000], [100000, 100001, 100002, 100003], [], [], [], by first | (rw [← hF]; kernel_rfl) | kernel_rfl⟩)
    · have hF := ite_f hF hb
      refine Wk_skip ?_
      obtain ⟨h9, hF⟩ := asrt_elim hF
      obtain ⟨h10, hF⟩ := asrt_elim hF
      obtain ⟨h11, hF⟩ := asrt_elim hF
      obtain ⟨h12, hF⟩ := asrt_elim hF
      obtain ⟨h13, hF⟩ := asrt_elim hF
      obtain ⟨h14, hF⟩ := asrt_elim hF
      refine WDL ((lset row2 m.From (max (w64 ((lget row3 m.From) + 1)) (min (w64 ((lget row2 m.From) - 1)) (w64 (m.A + 1)))))) (fun v1 : List Int => ⟨[], [(100000, [.i box, .i box1, .i box2, .i box3, .row 100000 0, .i box4, .i box5, .row 100001 0, .row 100002 0, .row 100003 0])], [(100000, ⟨31, 2, 0, rk, rc, rn, 0, [], (row.map e_Entry)⟩), (100001, ⟨3, 1, 0, rk1, rc1, rn1, 0, [], (row1.map e_i64)⟩), (100002, ⟨3, 1, 0, 0, rc2, rn2, 0, [], (v1.map e_i64)⟩), (100003, ⟨3, 1, 0, 0, rc3, rn3, 0, [], (row3.map e_i64)⟩)], [], []⟩) [.av (e_i64 (lget row3 m.From)), .av (e_i64 (lget row2 m.From)), .av (e_i64 (lget row2 m.From)), .xs ((lset row2 m.From (max (w64 ((lget row3 m.From) + 1)) (min (w64 ((lget row2 m.From) - 1)) (w64 (m.A + 1))))).map e_i64)] [] [100000] [100000, 100001, 100002, 100003] [] [] [] (.cons (ixr_ok e_i64 h9) (.cons (ldr_ok e_i64 h10) (.cons (ixr_ok e_i64 h11) (.cons (ldr_ok e_i64 h12) (.cons (ixr_ok e_i64 h13) (.cons (ldr_ok e_i64 h14) (.cons (set_ok e_i64 row2 m.From (max (w64 ((lget row3 m.From) + 1)) (min (w64 ((lget row2 m.From) - 1)) (w64 (m.A + 1))))) (.cons (Nat.zero_le m.From.toNat) .nil)))))))) (by kernel_rfl) (fun v1 hv => ?_)
      have hF := lt_elim hF hv
      have hF := some_elim hF
      exact Wk_end (hfin _ ⟨[100000, 100001, 100002, 100003], [100000], [100000, 100001, 100002, 100003], [], [], [], by first | (rw [← hF]; kernel_rfl) | kernel_rfl⟩)

/- raft.Take -/
noncomputable def raft_Take (x : Node) (m : Mail) : Option (Node × List Mail × Fault) :=
  ob (raft_Check x) fun x1 =>
  ob (if (decide (x1.Code = 0)) = true then (raft_fine m x) else some default) fun x2 =>
  ob (
    if ((decide (x1.Code = 0)) && (!x2)) = true then
      lt (raft_fault 5 0) fun x3 =>
      some x3
    else
      some x1) fun (v : Fault) =>
  if (!decide (v.Code = 0)) = true then
    some ((⟨0, 0, 0, 0, ([] : List Entry), 0, 0, ([] : List Int), ([] : List Int), ([] : List Int)⟩ : Node), ([] : List Mail), v)
  else
    ob (raft_own x) fun x4 =>
    ob (
      if (decide (x4.2.2.1 < m.Term)) = true then
        lt (raft_follow x4.1 x4.2.1 m.Term 0 x4.2.2.2.2.2.1 x4.2.2.2.2.2.2.1 x4.2.2.2.2.1 x4.2.2.2.2.2.2.2.1 x4.2.2.2.2.2.2.2.2.1 x4.2.2.2.2.2.2.2.2.2) fun x5 =>
        some (x5.1, x5.2.1, x5.2.2.1, x5.2.2.2.1, x5.2.2.2.2.1, x5.2.2.2.2.2, ([] : List Int), ([] : List Int), ([] : List Int))
      else
        some (x4.1, x4.2.1, x4.2.2.1, x4.2.2.2.1, x4.2.2.2.2.2.1, x4.2.2.2.2.2.2.1, x4.2.2.2.2.2.2.2.1, x4.2.2.2.2.2.2.2.2.1, x4.2.2.2.2.2.2.2.2.2)) fun (v1 : Int × Int × Int × Int × Int × Int × List Int × List Int × List Int) =>
    ob (
      if (decide (m.Kind = 1)) = true then
        ob (raft_asked m v1.1 v1.2.1 v1.2.2.1 v1.2.2.2.1 v1.2.2.2.2.1 v1.2.2.2.2.2.1 x4.2.2.2.2.1 v1.2.2.2.2.2.2.1 v1.2.2.2.2.2.2.2.1 v1.2.2.2.2.2.2.2.2) fun x6 =>
        some (x6.2.1, x6.2.2.1, x6.2.2.2.1, x6.2.2.2.2.1, x4.2.2.2.2.1, x6.2.2.2.2.2.1, x6.2.2.2.2.2.2, v1.2.2.2.2.2.2.1, v1.2.2.2.2.2.2.2.1, v1.2.2.2.2.2.2.2.2, x6.1)
      else
        if (decide (m.Kind = 2)) = true then
          ob (raft_given m v1.1 v1.2.1 v1.2.2.1 v1.2.2.2.1 v1.2.2.2.2.1 v1.2.2.2.2.2.1 x4.2.2.2.2.1 v1.2.2.2.2.2.2.1 v1.2.2.2.2.2.2.2.1 v1.2.2.2.2.2.2.2.2) fun x7 =>
          some (x7.2.1, x7.2.2.1, x7.2.2.2.1, x7.2.2.2.2.1, x7.2.2.2.2.2.1, x7.2.2.2.2.2.2.1, x7.2.2.2.2.2.2.2.1, x7.2.2.2.2.2.2.2.2.1, x7.2.2.2.2.2.2.2.2.2.1, x7.2.2.2.2.2.2.2.2.2.2.1, x7.1)
        else
          if (decide (m.Kind = 3)) = true then
            ob (raft_bringing m v1.1 v1.2.1 v1.2.2.1 v1.2.2.2.1 v1.2.2.2.2.1 v1.2.2.2.2.2.1 x4.2.2.2.2.1 v1.2.2.2.2.2.2.1 v1.2.2.2.2.2.2.2.1 v1.2.2.2.2.2.2.2.2) fun x8 =>
            some (x8.2.1, x8.2.2.1, x8.2.2.2.1, x8.2.2.2.2.1, x8.2.2.2.2.2.1, x8.2.2.2.2.2.2.1, x8.2.2.2.2.2.2.2.1, x8.2.2.2.2.2.2.2.2.1, x8.2.2.2.2.2.2.2.2.2.1, x8.2.2.2.2.2.2.2.2.2.2.1, x8.1)
          else
            if (decide (m.Kind = 4)) = true then
              ob (raft_answered m v1.1 v1.2.1 v1.2.2.1 v1.2.2.2.1 v1.2.2.2.2.1 v1.2.2.2.2.2.1 x4.2.2.2.2.1 v1.2.2.2.2.2.2.1 v1.2.2.2.2.2.2.2.1 v1.2.2.2.2.2.2.2.2) fun x9 =>
              some (x9.1, x9.2.1, x9.2.2.1, x9.2.2.2.1, x4.2.2.2.2.1, x9.2.2.2.2.1, x9.2.2.2.2.2.1, v1.2.2.2.2.2.2.1, x9.2.2.2.2.2.2.1, x9.2.2.2.2.2.2.2, ([] : List Mail))
            else
              some (v1.1, v1.2.1, v1.2.2.1, v1.2.2.2.1, x4.2.2.2.2.1, v1.2.2.2.2.1, v1.2.2.2.2.2.1, v1.2.2.2.2.2.2.1, v1.2.2.2.2.2.2.2.1, v1.2.2.2.2.2.2.2.2, ([] : List Mail))) fun (v2 : Int × Int × Int × Int × List Entry × Int × Int × List Int × List Int × List Int × List Mail) =>
    some ((⟨v2.1, v2.2.1, v2.2.2.1, v2.2.2.2.1, v2.2.2.2.2.1, v2.2.2.2.2.2.1, v2.2.2.2.2.2.2.1, v2.2.2.2.2.2.2.2.1, v2.2.2.2.2.2.2.2.2.1, v2.2.2.2.2.2.2.2.2.2.1⟩ : Node), v2.2.2.2.2.2.2.2.2.2.2, v)
theorem raft_Take_ok (x : Node) (m : Mail) (r : Node × List Mail × Fault) (hF : raft_Take x m = some r) : Pe Try.prog 42 S.none [.agg (c_Node x), .agg (c_Mail m)] (.tup [.agg (c_Node r.1), .sl 9 (r.2.1.map e_Mail), .agg [.i r.2.2.Code, .i r.2.2.At]]) S.none := by
  refine Pe_of (N := 72) (res := [.cell 4 46, .tmp 5, .cell 6 26]) (ts := [46, 50, 26]) Ty.ok Fn.b42 Try.func42 rfl rfl rfl rfl rfl rfl ?_
  intro Q g hfin
  unfold raft_Take at hF
  refine URs [] [2, 3, 4, 6] [2, 3, 4, 6] [] [] [(2, .ptr 2 0), (3, .ptr 3 0), (4, .ptr 4 0), (6, .ptr 6 0)] [(2, (c_Node x)), (3, (c_Mail m)), (4, [.i 0, .i 0, .i 0, .i 0, .nils, .i 0, .i 0, .nils, .nils, .nils]), (6, [.i 0, .i 0])] [] [] .nil ?_
  refine Wk_seq ?_
  obtain ⟨x1, h0, hF⟩ := ob_elim hF
  refine UR [.callB (.agg [.i x1.Code, .i x1.At])] [2, 3, 4, 6, 7] [2, 3, 4, 6, 7] [] [] [(7, .ptr 7 0)] [(7, [.i x1.Code, .i x1.At])] [] [] (.cons (raft_Check_ok x x1 h0) .nil) ?_
  refine Wk_seq ?_
  refine Wk_seq ?_
  obtain ⟨x2, h1, hF⟩ := ob_elim hF
  refine ZR [.callR [2] [] [] [] (.bool x2)] [2, 3, 4, 6, 7, 19] [2, 3, 4, 6, 7] [] [(19, .bool ((decide (x1.Code = 0)) && (!x2)))] (.cons (fun (ga0 : (decide (x1.Code = 0)) = true) => (Pe.ren (raft_fine_ok m x x2 (ite_t h1 ga0)) ⟨[(100000, 2)], [], [], []⟩)) .nil) ?_
  obtain ⟨v, hv, hF⟩ := ob_elim hF
  refine Wk_meet (⟨[(2, .ptr 2 0), (3, .ptr 3 0), (4, .ptr 4 0), (6, .ptr 6 0), (7, .ptr 7 0)], [(2, (c_Node x)), (3, (c_Mail m)), (4, [.i 0, .i 0, .i 0, .i 0, .nils, .i 0, .i 0, .nils, .nils, .nils]), (6, [.i 0, .i 0]), (7, [.i v.Code, .i v.At])], [], [], []⟩ : S) ?_ ?_
  · have hF := hv
    refine Wk_split rfl (fun hb => ?_) (fun hb => ?_)
    · have hF := ite_t hF hb
      obtain ⟨x3, h2, hF⟩ := lt_split hF
      refine UR [.callB (.agg [.i x3.Code, .i x3.At])] [2, 3, 4, 6, 7] [2, 3, 4, 6, 7] [] [] [] [(7, [.i x3.Code, .i x3.At])] [] [] (.cons (raft_fault_ok 5 0 x3 h2) .nil) ?_
      exact Wk_met (fs := [2, 3, 4, 6, 7]) (bs := [2, 3, 4, 6, 7]) (rs := []) (ms := []) (aa := []) (nv := []) (by first | (rw [← some_elim hF]; kernel_rfl) | kernel_rfl)
    · have hF := ite_f hF hb
      refine Wk_skip ?_
      exact Wk_met (fs := [2, 3, 4, 6, 7]) (bs := [2, 3, 4, 6, 7]) (rs := []) (ms := []) (aa := []) (nv := []) (by first | (rw [← some_elim hF]; kernel_rfl) | kernel_rfl)
  · refine Wk_seq ?_
    refine ZRs [] [2, 3, 4, 6, 7, 23] [2, 3, 4, 6, 7] [] [(23, .bool (!decide (v.Code = 0)))] .nil ?_
    refine Wk_split rfl (fun hb => ?_) (fun hb => ?_)
    · have hF := ite_t hF hb
      refine UDs [] [4, 5, 6] [4, 6] [] [] [(5, .nils)] [(6, [.i v.Code, .i v.At])] [] [] .nil ?_
      have hF := some_elim hF
      exact Wk_ret (hfin _ ⟨[], [], [], [], [], [], by first | (rw [← hF]; kernel_rfl) | kernel_rfl⟩)
    · have hF := ite_f hF hb
      refine Wk_skip ?_
      refine Wk_seq ?_
      obtain ⟨x4, h3, hF⟩ := ob_elim hF
      refine UR [.callE [] [] [] [] (.ptr 27 0) ⟨[], [(27, [.i x4.1, .i x4.2.1, .i x4.2.2.1, .i x4.2.2.2.1, .row 27 0, .i x4.2.2.2.2.2.1, .i x4.2.2.2.2.2.2.1, .row 20027 0, .row 40027 0, .row 60027 0])], [(27, .o 31 2 0 (x4.2.2.2.2.1.map e_Entry)), (20027, .o 3 1 0 (x4.2.2.2.2.2.2.2.1.map e_i64)), (40027, .o 3 1 0 (x4.2.2.2.2.2.2.2.2.1.map e_i64)), (60027, .o 3 1 0 (x4.2.2.2.2.2.2.2.2.2.map e_i64))], [], []⟩] [3, 4, 6, 7, 8] [3, 4, 6, 7, 27] [27, 20027, 40027, 60027] [] [(8, .ptr 27 0)] [(27, [.i x4.1, .i x4.2.1, .i x4.2.2.1, .i x4.2.2.2.1, .row 27 0, .i x4.2.2.2.2.2.1, .i x4.2.2.2.2.2.2.1, .row 20027 0, .row 40027 0, .row 60027 0])] [(27, .o 31 2 0 (x4.2.2.2.2.1.map e_Entry)), (20027, .o 3 1 0 (x4.2.2.2.2.2.2.2.1.map e_i64)), (40027, .o 3 1 0 (x4.2.2.2.2.2.2.2.2.1.map e_i64)), (60027, .o 3 1 0 (x4.2.2.2.2.2.2.2.2.2.map e_i64))] [] (.cons (Pe.ren (raft_own_ok x x4 h3) ⟨[(1, 27)], [(5, 27), (8, 20027), (11, 40027), (14, 60027)], [], []⟩) .nil) ?_
      refine Wk_seq ?_
      refine ZDs [] [3, 4, 6, 7, 8, 34] [3, 4, 6, 7, 27] [27, 20027, 40027, 60027] [(34, .bool (decide (x4.2.2.1 < m.Term)))] .nil ?_
      obtain ⟨v1, hv, hF⟩ := ob_elim hF
      refine Wk_meet (⟨[(3, .ptr 3 0), (4, .ptr 4 0), (6, .ptr 6 0), (7, .ptr 7 0), (8, .ptr 27 0)], [(3, (c_Mail m)), (4, [.i 0, .i 0, .i 0, .i 0, .nils, .i 0, .i 0, .nils, .nils, .nils]), (6, [.i 0, .i 0]), (7, [.i v.Code, .i v.At]), (27, [.i v1.1, .i v1.2.1, .i v1.2.2.1, .i v1.2.2.2.1, .row 27 0, .i v1.2.2.2.2.1, .i v1.2.2.2.2.2.1, .row 20027 0, .row 40027 0, .row 60027 0])], [(27, .o 31 2 0 (x4.2.2.2.2.1.map e_Entry)), (20027, .o 3 1 0 (v1.2.2.2.2.2.2.1.map e_i64)), (40027, .o 3 1 0 (v1.2.2.2.2.2.2.2.1.map e_i64)), (60027, .o 3 1 0 (v1.2.2.2.2.2.2.2.2.map e_i64))], [], []⟩ : S) ?_ ?_
      · have hF := hv
        refine Wk_split rfl (fun hb => ?_) (fun hb => ?_)
        · have hF := ite_t hF hb
          refine URs [] [3, 4, 6, 7, 8] [3, 4, 6, 7, 27] [27, 20027, 40027, 60027] [] [] [(27, [.i x4.1, .i x4.2.1, .i m.Term, .i 0, .row 27 0, .i x4.2.2.2.2.2.1, .i x4.2.2.2.2.2.2.1, .row 20027 0, .row 40027 0, .row 60027 0])] [] [] .nil ?_
          obtain ⟨x5, h4, hF⟩ := lt_split hF
          refine UR [.callE [27] [27, 20027, 40027, 60027] [] [] (.tup []) ⟨[], [(27, [.i x5.1, .i x5.2.1, .i x5.2.2.1, .i x5.2.2.2.1, .row 27 0, .i x5.2.2.2.2.1, .i x5.2.2.2.2.2, .nils, .nils, .nils])], [(27, .o 31 2 0 (x4.2.2.2.2.1.map e_Entry)), (20027, .o 3 1 0 (x4.2.2.2.2.2.2.2.1.map e_i64)), (40027, .o 3 1 0 (x4.2.2.2.2.2.2.2.2.1.map e_i64)), (60027, .o 3 1 0 (x4.2.2.2.2.2.2.2.2.2.map e_i64))], [], []⟩] [3, 4, 6, 7, 8] [3, 4, 6, 7, 27] [27] [] [] [(27, [.i x5.1, .i x5.2.1, .i x5.2.2.1, .i x5.2.2.2.1, .row 27 0, .i x5.2.2.2.2.1, .i x5.2.2.2.2.2, .nils, .nils, .nils])] [] [] (.cons (Pe.ren (raft_follow_ok x4.1 x4.2.1 m.Term 0 x4.2.2.2.2.2.1 x4.2.2.2.2.2.2.1 x4.2.2.2.2.1 x4.2.2.2.2.2.2.2.1 x4.2.2.2.2.2.2.2.2.1 x4.2.2.2.2.2.2.2.2.2 0 0 false 0 0 false 0 0 false 0 0 false x5 h4) ⟨[(100000, 27)], [(100000, 27), (100001, 20027), (100002, 40027), (100003, 60027)], [], []⟩) .nil) ?_
          refine Wk_nilrowB 27 7 60000 3 1 rfl rfl rfl rfl rfl ?_
          refine Wk_nilrowB 27 8 60001 3 1 rfl rfl rfl rfl rfl ?_
          refine Wk_nilrowB 27 9 60002 3 1 rfl rfl rfl rfl rfl ?_
          refine Wk_trim (fs := [3, 4, 6, 7, 8]) (bs := [3, 4, 6, 7, 27]) (rs := [27, 60000, 60001, 60002]) (ms := []) (aa := []) (nv := []) rfl ?_
          refine Wk_ren' ⟨[], [(60000, 20027), (60001, 40027), (60002, 60027)], [], []⟩ rfl ?_
          exact Wk_met (fs := [3, 4, 6, 7, 8]) (bs := [3, 4, 6, 7, 27]) (rs := [27, 20027, 40027, 60027]) (ms := []) (aa := []) (nv := [(20027, ⟨0, true, false, false⟩), (40027, ⟨0, true, false, false⟩), (60027, ⟨0, true, false, false⟩)]) (by first | (rw [← some_elim hF]; kernel_rfl) | kernel_rfl)
        · have hF := ite_f hF hb
          refine Wk_skip ?_
          exact Wk_met (fs := [3, 4, 6, 7, 8]) (bs := [3, 4, 6, 7, 27]) (rs := [27, 20027, 40027, 60027]) (ms := []) (aa := []) (nv := []) (by first | (rw [← some_elim hF]; kernel_rfl) | kernel_rfl)
      · refine ZRs [] [3, 4, 6, 7, 8, 9] [3, 4, 6, 7, 27] [27, 20027, 40027, 60027] [(9, .nils)] .nil ?_
        refine Wk_seq ?_
        refine ZRs [] [3, 4, 6, 7, 8, 9, 46] [3, 4, 6, 7, 27] [27, 20027, 40027, 60027] [(46, .i m.Kind)] .nil ?_
        refine Wk_block ?_
        refine ZRs [] [3, 4, 6, 7, 8, 9, 46, 47] [3, 4, 6, 7, 27] [27, 20027, 40027, 60027] [(47, .bool (decide (m.Kind = 1)))] .nil ?_
        obtain ⟨v2, hv, hF⟩ := ob_elim hF
        refine Wk_meet (⟨[(4, .ptr 4 0), (6, .ptr 6 0), (7, .ptr 7 0), (8, .ptr 27 0), (9, .sl 9 (v2.2.2.2.2.2.2.2.2.2.2.map e_Mail))], [(4, [.i 0, .i 0, .i 0, .i 0, .nils, .i 0, .i 0, .nils, .nils, .nils]), (6, [.i 0, .i 0]), (7, [.i v.Code, .i v.At]), (27, [.i v2.1, .i v2.2.1, .i v2.2.2.1, .i v2.2.2.2.1, .sl 2 (v2.2.2.2.2.1.map e_Entry), .i v2.2.2.2.2.2.1, .i v2.2.2.2.2.2.2.1, .sl 1 (v2.2.2.2.2.2.2.2.1.map e_i64), .sl 1 (v2.2.2.2.2.2.2.2.2.1.map e_i64), .sl 1 (v2.2.2.2.2.2.2.2.2.2.1.map e_i64)])], [], [], []⟩ : S) ?_ ?_
        · have hF := hv
          refine Wk_split rfl (fun hb => ?_) (fun hb => ?_)
          · have hF := ite_t hF hb
            obtain ⟨x6, h5, hF⟩ := ob_elim hF
            refine UR [.callE [27] [27, 20027, 40027, 60027] [] [] (.sl 9 (x6.1.map e_Mail)) ⟨[], [(27, [.i x6.2.1, .i x6.2.2.1, .i x6.2.2.2.1, .i x6.2.2.2.2.1, .row 27 0, .i x6.2.2.2.2.2.1, .i x6.2.2.2.2.2.2, .row 20027 0, .row 40027 0, .row 60027 0])], [(27, .o 31 2 0 (x4.2.2.2.2.1.map e_Entry)), (20027, .o 3 1 0 (v1.2.2.2.2.2.2.1.map e_i64)), (40027, .o 3 1 0 (v1.2.2.2.2.2.2.2.1.map e_i64)), (60027, .o 3 1 0 (v1.2.2.2.2.2.2.2.2.map e_i64))], [], []⟩] [4, 6, 7, 8, 9] [4, 6, 7, 27] [27, 20027, 40027, 60027] [] [(9, .sl 9 (x6.1.map e_Mail))] [(27, [.i x6.2.1, .i x6.2.2.1, .i x6.2.2.2.1, .i x6.2.2.2.2.1, .row 27 0, .i x6.2.2.2.2.2.1, .i x6.2.2.2.2.2.2, .row 20027 0, .row 40027 0, .row 60027 0])] [] [] (.cons (Pe.ren (raft_asked_ok m v1.1 v1.2.1 v1.2.2.1 v1.2.2.2.1 v1.2.2.2.2.1 v1.2.2.2.2.2.1 x4.2.2.2.2.1 v1.2.2.2.2.2.2.1 v1.2.2.2.2.2.2.2.1 v1.2.2.2.2.2.2.2.2 0 0 false 0 0 false 0 0 false 0 0 false x6 h5) ⟨[(100000, 27)], [(100000, 27), (100001, 20027), (100002, 40027), (100003, 60027)], [], []⟩) .nil) ?_
            refine Wk_sealBX [] 27 rfl rfl ?_
            exact Wk_met (fs := [4, 6, 7, 8, 9]) (bs := [4, 6, 7, 27]) (rs := []) (ms := []) (aa := []) (nv := []) (by first | (rw [← some_elim hF]; kernel_rfl) | kernel_rfl)
          · have hF := ite_f hF hb
            refine ZRs [] [3, 4, 6, 7, 8, 9, 46, 52] [3, 4, 6, 7, 27] [27, 20027, 40027, 60027] [(52, .bool (decide (m.Kind = 2)))] .nil ?_
            refine Wk_split rfl (fun hb => ?_) (fun hb => ?_)
            · have hF := ite_t hF hb
              obtain ⟨x7, h6, hF⟩ := ob_elim hF
              refine UR [.callE [27] [27, 20027, 40027, 60027] [] [] (.row 56 0) ⟨[], [(27, [.i x7.2.1, .i x7.2.2.1, .i x7.2.2.2.1, .i x7.2.2.2.2.1, .sl 2 (x7.2.2.2.2.2.1.map e_Entry), .i x7.2.2.2.2.2.2.1, .i x7.2.2.2.2.2.2.2.1, .sl 1 (x7.2.2.2.2.2.2.2.2.1.map e_i64), .sl 1 (x7.2.2.2.2.2.2.2.2.2.1.map e_i64), .sl 1 (x7.2.2.2.2.2.2.2.2.2.2.1.map e_i64)])], [(27, ⟨31, 2, 0, (x7.2.2.2.2.2.2.2.2.2.2.2.1.map e_Entry).length, 0, false, 0, [], (x7.2.2.2.2.2.2.2.2.2.2.2.1.map e_Entry)⟩), (20027, ⟨3, 1, 1, (x7.2.2.2.2.2.2.2.2.2.2.2.2.map e_i64).length, 0, false, 0, [], (x7.2.2.2.2.2.2.2.2.2.2.2.2.map e_i64)⟩), (40027, ⟨3, 1, 0, ((v1.2.2.2.2.2.2.2.1).map e_i64).length, 0, false, 0, [], (v1.2.2.2.2.2.2.2.1.map e_i64)⟩), (60027, ⟨3, 1, 0, ((v1.2.2.2.2.2.2.2.2).map e_i64).length, 0, false, 0, [], (v1.2.2.2.2.2.2.2.2.map e_i64)⟩), (56, .z 62 9 0 (x7.1.map e_Mail))], [], []⟩] [4, 6, 7, 8, 9] [4, 6, 7, 27] [56] [] [(9, .row 56 0)] [(27, [.i x7.2.1, .i x7.2.2.1, .i x7.2.2.2.1, .i x7.2.2.2.2.1, .sl 2 (x7.2.2.2.2.2.1.map e_Entry), .i x7.2.2.2.2.2.2.1, .i x7.2.2.2.2.2.2.2.1, .sl 1 (x7.2.2.2.2.2.2.2.2.1.map e_i64), .sl 1 (x7.2.2.2.2.2.2.2.2.2.1.map e_i64), .sl 1 (x7.2.2.2.2.2.2.2.2.2.2.1.map e_i64)])] [(56, .z 62 9 0 (x7.1.map e_Mail))] [] (.cons (Pe.ren (raft_given_ok m v1.1 v1.2.1 v1.2.2.1 v1.2.2.2.1 v1.2.2.2.2.1 v1.2.2.2.2.2.1 x4.2.2.2.2.1 v1.2.2.2.2.2.2.1 v1.2.2.2.2.2.2.2.1 v1.2.2.2.2.2.2.2.2 0 0 false 0 0 false 0 0 false 0 0 false x7 h6) ⟨[(100000, 27)], [(100000, 27), (100001, 20027), (100002, 40027), (100003, 60027), (57, 56)], [], []⟩) .nil) ?_
              refine Wk_sealX [] 9 rfl rfl ?_
              exact Wk_met (fs := [4, 6, 7, 8, 9]) (bs := [4, 6, 7, 27]) (rs := []) (ms := []) (aa := []) (nv := []) (by first | (rw [← some_elim hF]; kernel_rfl) | kernel_rfl)
            · have hF := ite_f hF hb
              refine ZRs [] [3, 4, 6, 7, 8, 9, 46, 57] [3, 4, 6, 7, 27] [27, 20027, 40027, 60027] [(57, .bool (decide (m.Kind = 3)))] .nil ?_
              refine Wk_split rfl (fun hb => ?_) (fun hb => ?_)
              · have hF := ite_t hF hb
                obtain ⟨x8, h7, hF⟩ := ob_elim hF
                refine UR [.callE [27] [27, 20027, 40027, 60027] [] [] (.sl 9 (x8.1.map e_Mail)) ⟨[], [(27, [.i x8.2.1, .i x8.2.2.1, .i x8.2.2.2.1, .i x8.2.2.2.2.1, .sl 2 (x8.2.2.2.2.2.1.map e_Entry), .i x8.2.2.2.2.2.2.1, .i x8.2.2.2.2.2.2.2.1, .sl 1 (x8.2.2.2.2.2.2.2.2.1.map e_i64), .sl 1 (x8.2.2.2.2.2.2.2.2.2.1.map e_i64), .sl 1 (x8.2.2.2.2.2.2.2.2.2.2.1.map e_i64)])], [(27, ⟨31, 2, 0, (x8.2.2.2.2.2.2.2.2.2.2.2.map e_Entry).length, 0, false, 0, [], (x8.2.2.2.2.2.2.2.2.2.2.2.map e_Entry)⟩), (20027, ⟨3, 1, 0, ((v1.2.2.2.2.2.2.1).map e_i64).length, 0, false, 0, [], (v1.2.2.2.2.2.2.1.map e_i64)⟩), (40027, ⟨3, 1, 0, ((v1.2.2.2.2.2.2.2.1).map e_i64).length, 0, false, 0, [], (v1.2.2.2.2.2.2.2.1.map e_i64)⟩), (60027, ⟨3, 1, 0, ((v1.2.2.2.2.2.2.2.2).map e_i64).length, 0, false, 0, [], (v1.2.2.2.2.2.2.2.2.map e_i64)⟩)], [], []⟩] [4, 6, 7, 8, 9] [4, 6, 7, 27] [] [] [(9, .sl 9 (x8.1.map e_Mail))] [(27, [.i x8.2.1, .i x8.2.2.1, .i x8.2.2.2.1, .i x8.2.2.2.2.1, .sl 2 (x8.2.2.2.2.2.1.map e_Entry), .i x8.2.2.2.2.2.2.1, .i x8.2.2.2.2.2.2.2.1, .sl 1 (x8.2.2.2.2.2.2.2.2.1.map e_i64), .sl 1 (x8.2.2.2.2.2.2.2.2.2.1.map e_i64), .sl 1 (x8.2.2.2.2.2.2.2.2.2.2.1.map e_i64)])] [] [] (.cons (Pe.ren (raft_bringing_ok m v1.1 v1.2.1 v1.2.2.1 v1.2.2.2.1 v1.2.2.2.2.1 v1.2.2.2.2.2.1 x4.2.2.2.2.1 v1.2.2.2.2.2.2.1 v1.2.2.2.2.2.2.2.1 v1.2.2.2.2.2.2.2.2 0 0 false 0 0 false 0 0 false 0 0 false x8 h7) ⟨[(100000, 27)], [(100000, 27), (100001, 20027), (100002, 40027), (100003, 60027)], [], []⟩) .nil) ?_
                exact Wk_met (fs := [4, 6, 7, 8, 9]) (bs := [4, 6, 7, 27]) (rs := []) (ms := []) (aa := []) (nv := []) (by first | (rw [← some_elim hF]; kernel_rfl) | kernel_rfl)
              · have hF := ite_f hF hb
                refine ZRs [] [3, 4, 6, 7, 8, 9, 62] [3, 4, 6, 7, 27] [27, 20027, 40027, 60027] [(62, .bool (decide (m.Kind = 4)))] .nil ?_
                refine Wk_split rfl (fun hb => ?_) (fun hb => ?_)
                · have hF := ite_t hF hb
                  obtain ⟨x9, h8, hF⟩ := ob_elim hF
                  refine UR [.callE [27] [27, 20027, 40027, 60027] [] [] (.tup []) ⟨[], [(27, [.i x9.1, .i x9.2.1, .i x9.2.2.1, .i x9.2.2.2.1, .row 27 0, .i x9.2.2.2.2.1, .i x9.2.2.2.2.2.1, .row 20027 0, .row 40027 0, .row 60027 0])], [(27, .o 31 2 0 (x4.2.2.2.2.1.map e_Entry)), (20027, .o 3 1 0 (v1.2.2.2.2.2.2.1.map e_i64)), (40027, .o 3 1 0 (x9.2.2.2.2.2.2.1.map e_i64)), (60027, .o 3 1 0 (x9.2.2.2.2.2.2.2.map e_i64))], [], []⟩] [4, 6, 7, 8, 9] [4, 6, 7, 27] [27, 20027, 40027, 60027] [] [] [(27, [.i x9.1, .i x9.2.1, .i x9.2.2.1, .i x9.2.2.2.1, .row 27 0, .i x9.2.2.2.2.1, .i x9.2.2.2.2.2.1, .row 20027 0, .row 40027 0, .row 60027 0])] [(40027, .o 3 1 0 (x9.2.2.2.2.2.2.1.map e_i64)), (60027, .o 3 1 0 (x9.2.2.2.2.2.2.2.map e_i64))] [] (.cons (Pe.ren (raft_answered_ok m v1.1 v1.2.1 v1.2.2.1 v1.2.2.2.1 v1.2.2.2.2.1 v1.2.2.2.2.2.1 x4.2.2.2.2.1 v1.2.2.2.2.2.2.1 v1.2.2.2.2.2.2.2.1 v1.2.2.2.2.2.2.2.2 0 0 false 0 0 false 0 0 false 0 0 false x9 h8) ⟨[(100000, 27)], [(100000, 27), (100001, 20027), (100002, 40027), (100003, 60027)], [], []⟩) .nil) ?_
                  refine Wk_coe 9 (.sl 9 (([] : List Mail).map e_Mail)) rfl (.cell rfl (CoeS.nils 9)) ?_
                  refine Wk_sealBX [] 27 rfl rfl ?_
                  exact Wk_met (fs := [4, 6, 7, 8, 9]) (bs := [4, 6, 7, 27]) (rs := []) (ms := []) (aa := []) (nv := []) (by first | (rw [← some_elim hF]; kernel_rfl) | kernel_rfl)
                · have hF := ite_f hF hb
                  refine Wk_skip ?_
                  refine Wk_coe 9 (.sl 9 (([] : List Mail).map e_Mail)) rfl (.cell rfl (CoeS.nils 9)) ?_
                  refine Wk_sealBX [] 27 rfl rfl ?_
                  exact Wk_met (fs := [4, 6, 7, 8, 9]) (bs := [4, 6, 7, 27]) (rs := []) (ms := []) (aa := []) (nv := []) (by first | (rw [← some_elim hF]; kernel_rfl) | kernel_rfl)
        · refine Wk_blk ?_
          refine UDs [] [4, 5, 6] [4, 6] [] [] [(5, .sl 9 (v2.2.2.2.2.2.2.2.2.2.2.map e_Mail))] [(4, [.i v2.1, .i v2.2.1, .i v2.2.2.1, .i v2.2.2.2.1, .sl 2 (v2.2.2.2.2.1.map e_Entry), .i v2.2.2.2.2.2.1, .i v2.2.2.2.2.2.2.1, .sl 1 (v2.2.2.2.2.2.2.2.1.map e_i64), .sl 1 (v2.2.2.2.2.2.2.2.2.1.map e_i64), .sl 1 (v2.2.2.2.2.2.2.2.2.2.1.map e_i64)]), (6, [.i v.Code, .i v.At])] [] [] .nil ?_
          have hF := some_elim hF
          exact Wk_ret (hfin _ ⟨[], [], [], [], [], [], by first | (rw [← hF]; kernel_rfl) | kernel_rfl⟩)

/- tabularyref.SameLog -/
noncomputable def R_SameLog_J1 (v : Unit) : Option Bool :=
  some true
noncomputable def R_SameLog_B1 (a0 : List Entry) (b : List Entry) (v1 : Int) : Option (Int ⊕ Bool) :=
  if (decide (v1 < (a0.length : Int))) = true then
    asrt (0 ≤ v1 ∧ v1 < (a0.length : Int)) <|
    asrt (0 ≤ v1 ∧ v1 < (b.length : Int)) <|
    if (!(decide ((lget a0 v1).Term = (lget b v1).Term) && (decide ((lget a0 v1).Text = (lget b v1).Text) && true))) = true then
      some (Sum.inr false)
    else
      some (Sum.inl (w64 (v1 + 1)))
  else
    inrO (R_SameLog_J1 ())
noncomputable def R_SameLog_L1 (a0 : List Entry) (b : List Entry) (v0 : Int) : Option Bool :=
  loopO (fun y => R_SameLog_B1 a0 b y) v0
noncomputable def R_SameLog (a0 : List Entry) (b : List Entry) : Option Bool :=
  if (!decide ((a0.length : Int) = (b.length : Int))) = true then
    some false
  else
    R_SameLog_L1 a0 b 0
theorem R_SameLog_ok (a0 : List Entry) (b : List Entry) (r : Bool) (hF : R_SameLog a0 b = some r) : Pe Try.prog 16 S.none [.sl 2 (a0.map e_Entry), .sl 2 (b.map e_Entry)] (.bool r) S.none := by
  refine Pe_of (N := 26) (res := [.tmp 4]) (ts := [4]) Ty.ok Fn.b16 Try.func16 rfl rfl rfl rfl rfl rfl ?_
  intro Q g hfin
  unfold R_SameLog at hF
  refine ZRs [] [0, 1] [] [] [] .nil ?_
  refine Wk_seq ?_
  refine ZRs [.nat (a0.length : Int), .nat (b.length : Int)] [0, 1, 10] [] [] [(10, .bool (!decide ((a0.length : Int) = (b.length : Int))))] (.cons (len_ok e_Entry a0) (.cons (len_ok e_Entry b) .nil)) ?_
  refine Wk_split rfl (fun hb => ?_) (fun hb => ?_)
  · have hF := ite_t hF hb
    refine ZRs [] [4] [] [] [(4, .bool false)] .nil ?_
    have hF := some_elim hF
    exact Wk_ret (hfin _ ⟨[], [], [], [], [], [], by first | (rw [← hF]; kernel_rfl) | kernel_rfl⟩)
  · have hF := ite_f hF hb
    refine Wk_skip ?_
    refine Wk_seq ?_
    refine ZRs [] [0, 1, 5] [] [] [(5, .i 0)] .nil ?_
    refine Wk_meetP (fun v : Unit => (⟨[], [], [], [], []⟩ : S)) (fun v => R_SameLog_J1 v = some r) ?_ ?_
    · refine Wk_block ?_
      unfold R_SameLog_L1 at hF
      refine Wk_trim (fs := [0, 1, 5]) (bs := []) (rs := []) (ms := []) (aa := []) (nv := []) (t := (fun v1 : Int => (⟨[(0, .sl 2 (a0.map e_Entry)), (1, .sl 2 (b.map e_Entry)), (5, .i v1)], [], [], [], []⟩ : S)) 0) (by kernel_rfl) ?_
      refine Wk_iter (step := fun y => R_SameLog_B1 a0 b y) (r := r) (fun v1 : Int => (⟨[(0, .sl 2 (a0.map e_Entry)), (1, .sl 2 (b.map e_Entry)), (5, .i v1)], [], [], [], []⟩ : S)) 0 hF ?_
      intro n1 v1 y1 hF ih1 dn1
      have hF : R_SameLog_B1 a0 b v1 = some y1 := hF
      unfold R_SameLog_B1 at hF
      refine Wk_seq ?_
      refine ZRs [.nat (a0.length : Int)] [0, 1, 5, 14] [] [] [(14, .bool (decide (v1 < (a0.length : Int))))] (.cons (len_ok e_Entry a0) .nil) ?_
      refine Wk_split rfl (fun hb => ?_) (fun hb => ?_)
      · have hF := ite_t hF hb
        refine Wk_skip ?_
        refine Wk_seq ?_
        refine Wk_block ?_
        refine Wk_seq ?_
        obtain ⟨h0, hF⟩ := asrt_elim hF
        obtain ⟨h1, hF⟩ := asrt_elim hF
        refine ZD [.av (e_Entry (lget a0 v1)), .av (e_Entry (lget b v1))] [0, 1, 5, 25] [] [] [(25, .bool (!(decide ((lget a0 v1).Term = (lget b v1).Term) && (decide ((lget a0 v1).Text = (lget b v1).Text) && true))))] (.cons (idx_ok e_Entry h0) (.cons (idx_ok e_Entry h1) .nil)) ?_
        refine Wk_split rfl (fun hb => ?_) (fun hb => ?_)
        · have hF := ite_t hF hb
          refine ZRs [] [4] [] [] [(4, .bool false)] .nil ?_
          have hF := ret_done hF dn1
          have hF := some_elim hF
          exact Wk_ret (hfin _ ⟨[], [], [], [], [], [], by first | (rw [← hF]; kernel_rfl) | kernel_rfl⟩)
        · have hF := ite_f hF hb
          refine Wk_skip ?_
          refine Wk_blk ?_
          refine ZR [] [0, 1, 5] [] [] [(5, .i (w64 (v1 + 1)))] .nil ?_
          refine Wk_trim (fs := [0, 1, 5]) (bs := []) (rs := []) (ms := []) (aa := []) (nv := []) ?_ (ih1 _ (some_elim hF).symm)
          kernel_rfl
      · have hF := ite_f hF hb
        refine Wk_exit rfl ?_
        have hF := inrO_done hF dn1
        exact Wk_metP () [] [] [] [] [] [] hF (by kernel_rfl)
    · intro v hF
      have hF : R_SameLog_J1 v = some r := hF
      unfold R_SameLog_J1 at hF
      refine ZRs [] [4] [] [] [(4, .bool true)] .nil ?_
      have hF := some_elim hF
      exact Wk_ret (hfin _ ⟨[], [], [], [], [], [], by first | (rw [← hF]; kernel_rfl) | kernel_rfl⟩)

/- tabularyref.Ints -/
noncomputable def R_Ints_J1 (v : Unit) : Option Bool :=
  some true
noncomputable def R_Ints_B1 (a0 : List Int) (b : List Int) (v1 : Int) : Option (Int ⊕ Bool) :=
  if (decide (v1 < (a0.length : Int))) = true then
    asrt (0 ≤ v1 ∧ v1 < (a0.length : Int)) <|
    asrt (0 ≤ v1 ∧ v1 < (b.length : Int)) <|
    if (!decide ((lget a0 v1) = (lget b v1))) = true then
      some (Sum.inr false)
    else
      some (Sum.inl (w64 (v1 + 1)))
  else
    inrO (R_Ints_J1 ())
noncomputable def R_Ints_L1 (a0 : List Int) (b : List Int) (v0 : Int) : Option Bool :=
  loopO (fun y => R_Ints_B1 a0 b y) v0
noncomputable def R_Ints (a0 : List Int) (b : List Int) : Option Bool :=
  if (!decide ((a0.length : Int) = (b.length : Int))) = true then
    some false
  else
    R_Ints_L1 a0 b 0
theorem R_Ints_ok (a0 : List Int) (b : List Int) (r : Bool) (hF : R_Ints a0 b = some r) : Pe Try.prog 71 S.none [.sl 1 (a0.map e_i64), .sl 1 (b.map e_i64)] (.bool r) S.none := by
  refine Pe_of (N := 26) (res := [.tmp 4]) (ts := [4]) Ty.ok Fn.b71 Try.func71 rfl rfl rfl rfl rfl rfl ?_
  intro Q g hfin
  unfold R_Ints at hF
  refine ZRs [] [0, 1] [] [] [] .nil ?_
  refine Wk_seq ?_
  refine ZRs [.nat (a0.length : Int), .nat (b.length : Int)] [0, 1, 10] [] [] [(10, .bool (!decide ((a0.length : Int) = (b.length : Int))))] (.cons (len_ok e_i64 a0) (.cons (len_ok e_i64 b) .nil)) ?_
  refine Wk_split rfl (fun hb => ?_) (fun hb => ?_)
  · have hF := ite_t hF hb
    refine ZRs [] [4] [] [] [(4, .bool false)] .nil ?_
    have hF := some_elim hF
    exact Wk_ret (hfin _ ⟨[], [], [], [], [], [], by first | (rw [← hF]; kernel_rfl) | kernel_rfl⟩)
  · have hF := ite_f hF hb
    refine Wk_skip ?_
    refine Wk_seq ?_
    refine ZRs [] [0, 1, 5] [] [] [(5, .i 0)] .nil ?_
    refine Wk_meetP (fun v : Unit => (⟨[], [], [], [], []⟩ : S)) (fun v => R_Ints_J1 v = some r) ?_ ?_
    · refine Wk_block ?_
      unfold R_Ints_L1 at hF
      refine Wk_trim (fs := [0, 1, 5]) (bs := []) (rs := []) (ms := []) (aa := []) (nv := []) (t := (fun v1 : Int => (⟨[(0, .sl 1 (a0.map e_i64)), (1, .sl 1 (b.map e_i64)), (5, .i v1)], [], [], [], []⟩ : S)) 0) (by kernel_rfl) ?_
      refine Wk_iter (step := fun y => R_Ints_B1 a0 b y) (r := r) (fun v1 : Int => (⟨[(0, .sl 1 (a0.map e_i64)), (1, .sl 1 (b.map e_i64)), (5, .i v1)], [], [], [], []⟩ : S)) 0 hF ?_
      intro n1 v1 y1 hF ih1 dn1
      have hF : R_Ints_B1 a0 b v1 = some y1 := hF
      unfold R_Ints_B1 at hF
      refine Wk_seq ?_
      refine ZRs [.nat (a0.length : Int)] [0, 1, 5, 14] [] [] [(14, .bool (decide (v1 < (a0.length : Int))))] (.cons (len_ok e_i64 a0) .nil) ?_
      refine Wk_split rfl (fun hb => ?_) (fun hb => ?_)
      · have hF := ite_t hF hb
        refine Wk_skip ?_
        refine Wk_seq ?_
        refine Wk_block ?_
        refine Wk_seq ?_
        obtain ⟨h0, hF⟩ := asrt_elim hF
        obtain ⟨h1, hF⟩ := asrt_elim hF
        refine ZD [.av (e_i64 (lget a0 v1)), .av (e_i64 (lget b v1))] [0, 1, 5, 25] [] [] [(25, .bool (!decide ((lget a0 v1) = (lget b v1))))] (.cons (idx_ok e_i64 h0) (.cons (idx_ok e_i64 h1) .nil)) ?_
        refine Wk_split rfl (fun hb => ?_) (fun hb => ?_)
        · have hF := ite_t hF hb
          refine ZRs [] [4] [] [] [(4, .bool false)] .nil ?_
          have hF := ret_done hF dn1
          have hF := some_elim hF
          exact Wk_ret (hfin _ ⟨[], [], [], [], [], [], by first | (rw [← hF]; kernel_rfl) | kernel_rfl⟩)
        · have hF := ite_f hF hb
          refine Wk_skip ?_
          refine Wk_blk ?_
          refine ZR [] [0, 1, 5] [] [] [(5, .i (w64 (v1 + 1)))] .nil ?_
          refine Wk_trim (fs := [0, 1, 5]) (bs := []) (rs := []) (ms := []) (aa := []) (nv := []) ?_ (ih1 _ (some_elim hF).symm)
          kernel_rfl
      · have hF := ite_f hF hb
        refine Wk_exit rfl ?_
        have hF := inrO_done hF dn1
        exact Wk_metP () [] [] [] [] [] [] hF (by kernel_rfl)
    · intro v hF
      have hF : R_Ints_J1 v = some r := hF
      unfold R_Ints_J1 at hF
      refine ZRs [] [4] [] [] [(4, .bool true)] .nil ?_
      have hF := some_elim hF
      exact Wk_ret (hfin _ ⟨[], [], [], [], [], [], by first | (rw [← hF]; kernel_rfl) | kernel_rfl⟩)

/- tabularyref.SameNode -/
noncomputable def R_SameNode (a0 : Node) (b : Node) : Option Bool :=
  ob (if ((((((decide (a0.N = b.N)) && (decide (a0.ID = b.ID))) && (decide (a0.Term = b.Term))) && (decide (a0.Vote = b.Vote))) && (decide (a0.Role = b.Role))) && (decide (a0.Commit = b.Commit))) = true then (R_SameLog a0.Log b.Log) else some default) fun x =>
  ob (if (((((((decide (a0.N = b.N)) && (decide (a0.ID = b.ID))) && (decide (a0.Term = b.Term))) && (decide (a0.Vote = b.Vote))) && (decide (a0.Role = b.Role))) && (decide (a0.Commit = b.Commit))) && x) = true then (R_Ints a0.Votes b.Votes) else some default) fun x1 =>
  ob (if ((((((((decide (a0.N = b.N)) && (decide (a0.ID = b.ID))) && (decide (a0.Term = b.Term))) && (decide (a0.Vote = b.Vote))) && (decide (a0.Role = b.Role))) && (decide (a0.Commit = b.Commit))) && x) && x1) = true then (R_Ints a0.Next b.Next) else some default) fun x2 =>
  ob (if (((((((((decide (a0.N = b.N)) && (decide (a0.ID = b.ID))) && (decide (a0.Term = b.Term))) && (decide (a0.Vote = b.Vote))) && (decide (a0.Role = b.Role))) && (decide (a0.Commit = b.Commit))) && x) && x1) && x2) = true then (R_Ints a0.Have b.Have) else some default) fun x3 =>
  lt ((((((((((decide (a0.N = b.N)) && (decide (a0.ID = b.ID))) && (decide (a0.Term = b.Term))) && (decide (a0.Vote = b.Vote))) && (decide (a0.Role = b.Role))) && (decide (a0.Commit = b.Commit))) && x) && x1) && x2) && x3) fun (v : Bool) =>
  some v
theorem R_SameNode_ok (a0 : Node) (b : Node) (r : Bool) (hF : R_SameNode a0 b = some r) : Pe Try.prog 35 S.none [.agg (c_Node a0), .agg (c_Node b)] (.bool r) S.none := by
  refine Pe_of (N := 73) (res := [.tmp 4]) (ts := [4]) Ty.ok Fn.b35 Try.func35 rfl rfl rfl rfl rfl rfl ?_
  intro Q g hfin
  unfold R_SameNode at hF
  refine URs [] [2, 3] [2, 3] [] [] [(2, .ptr 2 0), (3, .ptr 3 0)] [(2, (c_Node a0)), (3, (c_Node b))] [] [] .nil ?_
  refine Wk_seq ?_
  obtain ⟨x, h0, hF⟩ := ob_elim hF
  obtain ⟨x1, h1, hF⟩ := ob_elim hF
  obtain ⟨x2, h2, hF⟩ := ob_elim hF
  obtain ⟨x3, h3, hF⟩ := ob_elim hF
  refine WRL ((((((((((decide (a0.N = b.N)) && (decide (a0.ID = b.ID))) && (decide (a0.Term = b.Term))) && (decide (a0.Vote = b.Vote))) && (decide (a0.Role = b.Role))) && (decide (a0.Commit = b.Commit))) && x) && x1) && x2) && x3) (fun v : Bool => ⟨[(4, .bool v)], [], [], [], []⟩) [.callB (.bool x), .callB (.bool x1), .callB (.bool x2), .callB (.bool x3)] [4] [] [] [] [] [] (.cons (fun (ga0 : ((((((decide (a0.N = b.N)) && (decide (a0.ID = b.ID))) && (decide (a0.Term = b.Term))) && (decide (a0.Vote = b.Vote))) && (decide (a0.Role = b.Role))) && (decide (a0.Commit = b.Commit))) = true) => (R_SameLog_ok a0.Log b.Log x (ite_t h0 ga0))) (.cons (fun (ga0 : (((((((decide (a0.N = b.N)) && (decide (a0.ID = b.ID))) && (decide (a0.Term = b.Term))) && (decide (a0.Vote = b.Vote))) && (decide (a0.Role = b.Role))) && (decide (a0.Commit = b.Commit))) && x) = true) => (R_Ints_ok a0.Votes b.Votes x1 (ite_t h1 ga0))) (.cons (fun (ga0 : ((((((((decide (a0.N = b.N)) && (decide (a0.ID = b.ID))) && (decide (a0.Term = b.Term))) && (decide (a0.Vote = b.Vote))) && (decide (a0.Role = b.Role))) && (decide (a0.Commit = b.Commit))) && x) && x1) = true) => (R_Ints_ok a0.Next b.Next x2 (ite_t h2 ga0))) (.cons (fun (ga0 : (((((((((decide (a0.N = b.N)) && (decide (a0.ID = b.ID))) && (decide (a0.Term = b.Term))) && (decide (a0.Vote = b.Vote))) && (decide (a0.Role = b.Role))) && (decide (a0.Commit = b.Commit))) && x) && x1) && x2) = true) => (R_Ints_ok a0.Have b.Have x3 (ite_t h3 ga0))) .nil)))) (by kernel_rfl) (fun v hv => ?_)
  have hF := lt_elim hF hv
  have hF := some_elim hF
  exact Wk_ret (hfin _ ⟨[], [], [], [], [], [], by first | (rw [← hF]; kernel_rfl) | kernel_rfl⟩)

/- tabularyref.F -/
noncomputable def R_F (code : Int) (at0 : Int) : Fault :=
  (⟨code, at0⟩ : Fault)
theorem R_F_ok (code : Int) (at0 : Int) (r : Fault) (hF : R_F code at0 = r) : Pe Try.prog 51 S.none [.i code, .i at0] (.agg [.i r.Code, .i r.At]) S.none := by
  refine Pe_of (N := 8) (res := [.cell 4 26]) (ts := [26]) Ty.ok Fn.b51 Try.func51 rfl rfl rfl rfl rfl rfl ?_
  intro Q g hfin
  unfold R_F at hF
  refine URs [] [0, 1, 4] [4] [] [] [(4, .ptr 4 0)] [(4, [.i 0, .i 0])] [] [] .nil ?_
  refine URs [] [4] [4] [] [] [] [(4, [.i code, .i at0])] [] [] .nil ?_
  exact Wk_ret (hfin _ ⟨[], [], [], [], [], [], by first | (rw [← hF]; kernel_rfl) | kernel_rfl⟩)

/- tabularyref.Num -/
noncomputable def R_Num (num : Int) : Bool :=
  (decide (0 ≤ num)) && (decide (num ≤ 1000000000))
theorem R_Num_ok (num : Int) (r : Bool) (hF : R_Num num = r) : Pe Try.prog 59 S.none [.i num] (.bool r) S.none := by
  refine Pe_of (N := 9) (res := [.tmp 2]) (ts := [4]) Ty.ok Fn.b59 Try.func59 rfl rfl rfl rfl rfl rfl ?_
  intro Q g hfin
  unfold R_Num at hF
  refine ZRs [] [0] [] [] [] .nil ?_
  refine ZRs [] [2] [] [] [(2, .bool ((decide (0 ≤ num)) && (decide (num ≤ 1000000000))))] .nil ?_
  exact Wk_ret (hfin _ ⟨[], [], [], [], [], [], by first | (rw [← hF]; kernel_rfl) | kernel_rfl⟩)

/- tabularyref.LogFault -/
noncomputable def R_LogFault_J1 (v : Unit) : Option Fault :=
  some (⟨0, 0⟩ : Fault)
noncomputable def R_LogFault_B1 (l : List Entry) (v1 : Int) : Option (Int ⊕ Fault) :=
  if (decide (v1 < (l.length : Int))) = true then
    asrt (0 ≤ v1 ∧ v1 < (l.length : Int)) <|
    asrt ((!(decide (((lget l v1).Term) < 1))) = true → 0 ≤ v1 ∧ v1 < (l.length : Int)) <|
    if ((decide (((lget l v1).Term) < 1)) || (decide (1000000000 < ((lget l v1).Term)))) = true then
      lt (R_F 3 v1) fun x1 =>
      some (Sum.inr x1)
    else
      asrt ((decide (0 < v1)) = true → 0 ≤ v1 ∧ v1 < (l.length : Int)) <|
      asrt ((decide (0 < v1)) = true → 0 ≤ w64 (v1 - 1) ∧ w64 (v1 - 1) < (l.length : Int)) <|
      if ((decide (0 < v1)) && (decide (((lget l v1).Term) < ((lget l (w64 (v1 - 1))).Term)))) = true then
        lt (R_F 11 v1) fun x2 =>
        some (Sum.inr x2)
      else
        asrt (0 ≤ v1 ∧ v1 < (l.length : Int)) <|
        if (decide (200 < (((lget l v1).Text).length : Int))) = true then
          lt (R_F 8 v1) fun x3 =>
          some (Sum.inr x3)
        else
          some (Sum.inl (w64 (v1 + 1)))
  else
    inrO (R_LogFault_J1 ())
noncomputable def R_LogFault_L1 (l : List Entry) (v0 : Int) : Option Fault :=
  loopO (fun y => R_LogFault_B1 l y) v0
noncomputable def R_LogFault (l : List Entry) : Option Fault :=
  if (decide (100 < (l.length : Int))) = true then
    lt (R_F 2 (-1)) fun x =>
    some x
  else
    R_LogFault_L1 l 0
theorem R_LogFault_ok (l : List Entry) (r : Fault) (hF : R_LogFault l = some r) : Pe Try.prog 18 S.none [.sl 2 (l.map e_Entry)] (.agg [.i r.Code, .i r.At]) S.none := by
  refine Pe_of (N := 58) (res := [.cell 2 26]) (ts := [26]) Ty.ok Fn.b18 Try.func18 rfl rfl rfl rfl rfl rfl ?_
  intro Q g hfin
  unfold R_LogFault at hF
  refine URs [] [0, 2] [2] [] [] [(2, .ptr 2 0)] [(2, [.i 0, .i 0])] [] [] .nil ?_
  refine Wk_seq ?_
  refine ZRs [.nat (l.length : Int)] [0, 2, 6] [2] [] [(6, .bool (decide (100 < (l.length : Int))))] (.cons (len_ok e_Entry l) .nil) ?_
  refine Wk_split rfl (fun hb => ?_) (fun hb => ?_)
  · have hF := ite_t hF hb
    refine Wk_seq ?_
    obtain ⟨x, h0, hF⟩ := lt_split hF
    refine UR [.callB (.agg [.i x.Code, .i x.At])] [2] [2] [] [] [] [(2, [.i x.Code, .i x.At])] [] [] (.cons (R_F_ok 2 (-1) x h0) .nil) ?_
    have hF := some_elim hF
    exact Wk_ret (hfin _ ⟨[], [], [], [], [], [], by first | (rw [← hF]; kernel_rfl) | kernel_rfl⟩)
  · have hF := ite_f hF hb
    refine Wk_skip ?_
    refine Wk_seq ?_
    refine ZRs [] [0, 2, 3] [2] [] [(3, .i 0)] .nil ?_
    refine Wk_meetP (fun v : Unit => (⟨[(2, .ptr 2 0)], [(2, [.i 0, .i 0])], [], [], []⟩ : S)) (fun v => R_LogFault_J1 v = some r) ?_ ?_
    · refine Wk_block ?_
      unfold R_LogFault_L1 at hF
      refine Wk_trim (fs := [0, 2, 3]) (bs := [2]) (rs := []) (ms := []) (aa := []) (nv := []) (t := (fun v1 : Int => (⟨[(0, .sl 2 (l.map e_Entry)), (2, .ptr 2 0), (3, .i v1)], [(2, [.i 0, .i 0])], [], [], []⟩ : S)) 0) (by kernel_rfl) ?_
      refine Wk_iter (step := fun y => R_LogFault_B1 l y) (r := r) (fun v1 : Int => (⟨[(0, .sl 2 (l.map e_Entry)), (2, .ptr 2 0), (3, .i v1)], [(2, [.i 0, .i 0])], [], [], []⟩ : S)) 0 hF ?_
      intro n1 v1 y1 hF ih1 dn1
      have hF : R_LogFault_B1 l v1 = some y1 := hF
      unfold R_LogFault_B1 at hF
      refine Wk_seq ?_
      refine ZRs [.nat (l.length : Int)] [0, 2, 3, 11] [2] [] [(11, .bool (decide (v1 < (l.length : Int))))] (.cons (len_ok e_Entry l) .nil) ?_
      refine Wk_split rfl (fun hb => ?_) (fun hb => ?_)
      · have hF := ite_t hF hb
        refine Wk_skip ?_
        refine Wk_seq ?_
        refine Wk_block ?_
        refine Wk_seq ?_
        refine Wk_seq ?_
        obtain ⟨h1, hF⟩ := asrt_elim hF
        obtain ⟨h2, hF⟩ := asrt_elim hF
        refine ZR [.av (e_Entry (lget l v1)), .av (e_Entry (lget l v1))] [0, 2, 3, 27] [2] [] [(27, .bool ((decide (((lget l v1).Term) < 1)) || (decide (1000000000 < ((lget l v1).Term)))))] (.cons (idx_ok e_Entry h1) (.cons (fun (ga0 : (!(decide (((lget l v1).Term) < 1))) = true) => (idx_ok e_Entry (h2 ga0))) .nil)) ?_
        refine Wk_split rfl (fun hb => ?_) (fun hb => ?_)
        · have hF := ite_t hF hb
          refine Wk_seq ?_
          obtain ⟨x1, h3, hF⟩ := lt_split hF
          refine UR [.callB (.agg [.i x1.Code, .i x1.At])] [2] [2] [] [] [] [(2, [.i x1.Code, .i x1.At])] [] [] (.cons (R_F_ok 3 v1 x1 h3) .nil) ?_
          have hF := ret_done hF dn1
          have hF := some_elim hF
          exact Wk_ret (hfin _ ⟨[], [], [], [], [], [], by first | (rw [← hF]; kernel_rfl) | kernel_rfl⟩)
        · have hF := ite_f hF hb
          refine Wk_skip ?_
          refine Wk_seq ?_
          refine Wk_seq ?_
          obtain ⟨h4, hF⟩ := asrt_elim hF
          obtain ⟨h5, hF⟩ := asrt_elim hF
          refine ZD [.av (e_Entry (lget l v1)), .av (e_Entry (lget l (w64 (v1 - 1))))] [0, 2, 3, 45] [2] [] [(45, .bool ((decide (0 < v1)) && (decide (((lget l v1).Term) < ((lget l (w64 (v1 - 1))).Term)))))] (.cons (fun (ga0 : (decide (0 < v1)) = true) => (idx_ok e_Entry (h4 ga0))) (.cons (fun (ga0 : (decide (0 < v1)) = true) => (idx_ok e_Entry (h5 ga0))) .nil)) ?_
          refine Wk_split rfl (fun hb => ?_) (fun hb => ?_)
          · have hF := ite_t hF hb
            refine Wk_seq ?_
            obtain ⟨x2, h6, hF⟩ := lt_split hF
            refine UR [.callB (.agg [.i x2.Code, .i x2.At])] [2] [2] [] [] [] [(2, [.i x2.Code, .i x2.At])] [] [] (.cons (R_F_ok 11 v1 x2 h6) .nil) ?_
            have hF := ret_done hF dn1
            have hF := some_elim hF
            exact Wk_ret (hfin _ ⟨[], [], [], [], [], [], by first | (rw [← hF]; kernel_rfl) | kernel_rfl⟩)
          · have hF := ite_f hF hb
            refine Wk_skip ?_
            refine Wk_seq ?_
            obtain ⟨h7, hF⟩ := asrt_elim hF
            refine ZR [.av (e_Entry (lget l v1))] [0, 2, 3, 54] [2] [] [(54, .bool (decide (200 < (((lget l v1).Text).length : Int))))] (.cons (idx_ok e_Entry h7) .nil) ?_
            refine Wk_split rfl (fun hb => ?_) (fun hb => ?_)
            · have hF := ite_t hF hb
              refine Wk_seq ?_
              obtain ⟨x3, h8, hF⟩ := lt_split hF
              refine UR [.callB (.agg [.i x3.Code, .i x3.At])] [2] [2] [] [] [] [(2, [.i x3.Code, .i x3.At])] [] [] (.cons (R_F_ok 8 v1 x3 h8) .nil) ?_
              have hF := ret_done hF dn1
              have hF := some_elim hF
              exact Wk_ret (hfin _ ⟨[], [], [], [], [], [], by first | (rw [← hF]; kernel_rfl) | kernel_rfl⟩)
            · have hF := ite_f hF hb
              refine Wk_skip ?_
              refine Wk_blk ?_
              refine ZR [] [0, 2, 3] [2] [] [(3, .i (w64 (v1 + 1)))] .nil ?_
              refine Wk_trim (fs := [0, 2, 3]) (bs := [2]) (rs := []) (ms := []) (aa := []) (nv := []) ?_ (ih1 _ (some_elim hF).symm)
              kernel_rfl
      · have hF := ite_f hF hb
        refine Wk_exit rfl ?_
        have hF := inrO_done hF dn1
        exact Wk_metP () [2] [2] [] [] [] [] hF (by kernel_rfl)
    · intro v hF
      have hF : R_LogFault_J1 v = some r := hF
      unfold R_LogFault_J1 at hF
      refine ZRs [] [2] [2] [] [] .nil ?_
      have hF := some_elim hF
      exact Wk_ret (hfin _ ⟨[], [], [], [], [], [], by first | (rw [← hF]; kernel_rfl) | kernel_rfl⟩)

/- tabularyref.LastTerm -/
noncomputable def R_LastTerm (l : List Entry) : Option Int :=
  if (decide ((l.length : Int) = 0)) = true then
    some 0
  else
    asrt (0 ≤ w64 ((l.length : Int) - 1) ∧ w64 ((l.length : Int) - 1) < (l.length : Int)) <|
    some ((lget l (w64 ((l.length : Int) - 1))).Term)
theorem R_LastTerm_ok (l : List Entry) (r : Int) (hF : R_LastTerm l = some r) : Pe Try.prog 20 S.none [.sl 2 (l.map e_Entry)] (.i r) S.none := by
  refine Pe_of (N := 13) (res := [.tmp 2]) (ts := [3]) Ty.ok Fn.b20 Try.func20 rfl rfl rfl rfl rfl rfl ?_
  intro Q g hfin
  unfold R_LastTerm at hF
  refine ZRs [] [0] [] [] [] .nil ?_
  refine Wk_seq ?_
  refine ZRs [.nat (l.length : Int)] [0, 5] [] [] [(5, .bool (decide ((l.length : Int) = 0)))] (.cons (len_ok e_Entry l) .nil) ?_
  refine Wk_split rfl (fun hb => ?_) (fun hb => ?_)
  · have hF := ite_t hF hb
    refine ZRs [] [2] [] [] [(2, .i 0)] .nil ?_
    have hF := some_elim hF
    exact Wk_ret (hfin _ ⟨[], [], [], [], [], [], by first | (rw [← hF]; kernel_rfl) | kernel_rfl⟩)
  · have hF := ite_f hF hb
    refine Wk_skip ?_
    refine Wk_seq ?_
    obtain ⟨h0, hF⟩ := asrt_elim hF
    refine ZR [.nat (l.length : Int), .av (e_Entry (lget l (w64 ((l.length : Int) - 1))))] [2] [] [] [(2, .i ((lget l (w64 ((l.length : Int) - 1))).Term))] (.cons (len_ok e_Entry l) (.cons (idx_ok e_Entry h0) .nil)) ?_
    have hF := some_elim hF
    exact Wk_ret (hfin _ ⟨[], [], [], [], [], [], by first | (rw [← hF]; kernel_rfl) | kernel_rfl⟩)

/- tabularyref.Has -/
noncomputable def R_Has_J1 (v : Unit) : Option Bool :=
  some false
noncomputable def R_Has_B1 (l : List Int) (num : Int) (v1 : Int) : Option (Int ⊕ Bool) :=
  if (decide (v1 < (l.length : Int))) = true then
    asrt (0 ≤ v1 ∧ v1 < (l.length : Int)) <|
    if (decide ((lget l v1) = num)) = true then
      some (Sum.inr true)
    else
      some (Sum.inl (w64 (v1 + 1)))
  else
    inrO (R_Has_J1 ())
noncomputable def R_Has_L1 (l : List Int) (num : Int) (v0 : Int) : Option Bool :=
  loopO (fun y => R_Has_B1 l num y) v0
noncomputable def R_Has (l : List Int) (num : Int) : Option Bool :=
  R_Has_L1 l num 0
theorem R_Has_ok (l : List Int) (num : Int) (r : Bool) (hF : R_Has l num = some r) : Pe Try.prog 72 S.none [.sl 1 (l.map e_i64), .i num] (.bool r) S.none := by
  refine Pe_of (N := 18) (res := [.tmp 4]) (ts := [4]) Ty.ok Fn.b72 Try.func72 rfl rfl rfl rfl rfl rfl ?_
  intro Q g hfin
  unfold R_Has at hF
  refine ZRs [] [0, 1] [] [] [] .nil ?_
  refine Wk_seq ?_
  refine ZRs [] [0, 1, 5] [] [] [(5, .i 0)] .nil ?_
  refine Wk_meetP (fun v : Unit => (⟨[], [], [], [], []⟩ : S)) (fun v => R_Has_J1 v = some r) ?_ ?_
  · refine Wk_block ?_
    unfold R_Has_L1 at hF
    refine Wk_trim (fs := [0, 1, 5]) (bs := []) (rs := []) (ms := []) (aa := []) (nv := []) (t := (fun v1 : Int => (⟨[(0, .sl 1 (l.map e_i64)), (1, .i num), (5, .i v1)], [], [], [], []⟩ : S)) 0) (by kernel_rfl) ?_
    refine Wk_iter (step := fun y => R_Has_B1 l num y) (r := r) (fun v1 : Int => (⟨[(0, .sl 1 (l.map e_i64)), (1, .i num), (5, .i v1)], [], [], [], []⟩ : S)) 0 hF ?_
    intro n1 v1 y1 hF ih1 dn1
    have hF : R_Has_B1 l num v1 = some y1 := hF
    unfold R_Has_B1 at hF
    refine Wk_seq ?_
    refine ZRs [.nat (l.length : Int)] [0, 1, 5, 9] [] [] [(9, .bool (decide (v1 < (l.length : Int))))] (.cons (len_ok e_i64 l) .nil) ?_
    refine Wk_split rfl (fun hb => ?_) (fun hb => ?_)
    · have hF := ite_t hF hb
      refine Wk_skip ?_
      refine Wk_seq ?_
      refine Wk_block ?_
      refine Wk_seq ?_
      obtain ⟨h0, hF⟩ := asrt_elim hF
      refine ZR [.av (e_i64 (lget l v1))] [0, 1, 5, 17] [] [] [(17, .bool (decide ((lget l v1) = num)))] (.cons (idx_ok e_i64 h0) .nil) ?_
      refine Wk_split rfl (fun hb => ?_) (fun hb => ?_)
      · have hF := ite_t hF hb
        refine ZRs [] [4] [] [] [(4, .bool true)] .nil ?_
        have hF := ret_done hF dn1
        have hF := some_elim hF
        exact Wk_ret (hfin _ ⟨[], [], [], [], [], [], by first | (rw [← hF]; kernel_rfl) | kernel_rfl⟩)
      · have hF := ite_f hF hb
        refine Wk_skip ?_
        refine Wk_blk ?_
        refine ZR [] [0, 1, 5] [] [] [(5, .i (w64 (v1 + 1)))] .nil ?_
        refine Wk_trim (fs := [0, 1, 5]) (bs := []) (rs := []) (ms := []) (aa := []) (nv := []) ?_ (ih1 _ (some_elim hF).symm)
        kernel_rfl
    · have hF := ite_f hF hb
      refine Wk_exit rfl ?_
      have hF := inrO_done hF dn1
      exact Wk_metP () [] [] [] [] [] [] hF (by kernel_rfl)
  · intro v hF
    have hF : R_Has_J1 v = some r := hF
    unfold R_Has_J1 at hF
    refine ZRs [] [4] [] [] [(4, .bool false)] .nil ?_
    have hF := some_elim hF
    exact Wk_ret (hfin _ ⟨[], [], [], [], [], [], by first | (rw [← hF]; kernel_rfl) | kernel_rfl⟩)

/- tabularyref.Majority -/
noncomputable def R_Majority (k0 : Int) (num : Int) : Bool :=
  decide ((w64 (Int.tdiv num 2)) < k0)
theorem R_Majority_ok (k0 : Int) (num : Int) (r : Bool) (hF : R_Majority k0 num = r) : Pe Try.prog 73 S.none [.i k0, .i num] (.bool r) S.none := by
  refine Pe_of (N := 9) (res := [.tmp 4]) (ts := [4]) Ty.ok Fn.b73 Try.func73 rfl rfl rfl rfl rfl rfl ?_
  intro Q g hfin
  unfold R_Majority at hF
  refine ZRs [] [0, 1] [] [] [] .nil ?_
  refine ZRs [] [4] [] [] [(4, .bool (decide ((w64 (Int.tdiv num 2)) < k0)))] (.cons (by decide : (2 : Int) ≠ 0) .nil) ?_
  exact Wk_ret (hfin _ ⟨[], [], [], [], [], [], by first | (rw [← hF]; kernel_rfl) | kernel_rfl⟩)

/- tabularyref.NodeFault -/
noncomputable def R_NodeFault_J2 (v1 : Unit) : Option Fault :=
  some (⟨0, 0⟩ : Fault)
noncomputable def R_NodeFault_J3 (v2 : Unit) : Option Fault :=
  R_NodeFault_J2 ()
noncomputable def R_NodeFault_B1 (x : Node) (x7 : Fault) (v3 : Int) : Option (Int ⊕ Fault) :=
  if (decide (v3 < x.N)) = true then
    asrt (0 ≤ v3 ∧ v3 < (x.Next.length : Int)) <|
    asrt ((!(decide ((lget x.Next v3) < 1))) = true → 0 ≤ v3 ∧ v3 < (x.Next.length : Int)) <|
    asrt ((!((decide ((lget x.Next v3) < 1)) || (decide ((w64 ((x.Log.length : Int) + 1)) < (lget x.Next v3))))) = true → 0 ≤ v3 ∧ v3 < (x.Have.length : Int)) <|
    asrt ((!(((decide ((lget x.Next v3) < 1)) || (decide ((w64 ((x.Log.length : Int) + 1)) < (lget x.Next v3)))) || (decide ((lget x.Have v3) < 0)))) = true → 0 ≤ v3 ∧ v3 < (x.Have.length : Int)) <|
    if ((((decide ((lget x.Next v3) < 1)) || (decide ((w64 ((x.Log.length : Int) + 1)) < (lget x.Next v3)))) || (decide ((lget x.Have v3) < 0))) || (decide ((x.Log.length : Int) < (lget x.Have v3)))) = true then
      some (Sum.inr x7)
    else
      some (Sum.inl (w64 (v3 + 1)))
  else
    inrO (R_NodeFault_J3 ())
noncomputable def R_NodeFault_L1 (x : Node) (x7 : Fault) (v0 : Int) : Option Fault :=
  loopO (fun y => R_NodeFault_B1 x x7 y) v0
noncomputable def R_NodeFault_J1 (x : Node) (x7 : Fault) (v : Unit) : Option Fault :=
  if (decide (x.Role = 2)) = true then
    if ((!decide ((x.Next.length : Int) = x.N)) || (!decide ((x.Have.length : Int) = x.N))) = true then
      some x7
    else
      R_NodeFault_L1 x x7 0
  else
    R_NodeFault_J2 ()
noncomputable def R_NodeFault_J4 (x : Node) (x7 : Fault) (v4 : Unit) : Option Fault :=
  R_NodeFault_J1 x x7 ()
noncomputable def R_NodeFault_B2 (x : Node) (x7 : Fault) (v5 : Int) : Option (Int ⊕ Fault) :=
  if (decide (v5 < (x.Votes.length : Int))) = true then
    asrt (0 ≤ v5 ∧ v5 < (x.Votes.length : Int)) <|
    asrt ((!(decide ((lget x.Votes v5) < 0))) = true → 0 ≤ v5 ∧ v5 < (x.Votes.length : Int)) <|
    asrt ((!((decide ((lget x.Votes v5) < 0)) || (decide (x.N ≤ (lget x.Votes v5))))) = true → 0 ≤ v5 ∧ v5 ≤ (x.Votes.length : Int)) <|
    asrt ((!((decide ((lget x.Votes v5) < 0)) || (decide (x.N ≤ (lget x.Votes v5))))) = true → 0 ≤ v5 ∧ v5 < (x.Votes.length : Int)) <|
    ob (if (!((decide ((lget x.Votes v5) < 0)) || (decide (x.N ≤ (lget x.Votes v5))))) = true then (R_Has (ltake x.Votes v5) (lget x.Votes v5)) else some default) fun x10 =>
    if (((decide ((lget x.Votes v5) < 0)) || (decide (x.N ≤ (lget x.Votes v5)))) || x10) = true then
      some (Sum.inr x7)
    else
      some (Sum.inl (w64 (v5 + 1)))
  else
    inrO (R_NodeFault_J4 x x7 ())
noncomputable def R_NodeFault_L2 (x : Node) (x7 : Fault) (v0 : Int) : Option Fault :=
  loopO (fun y => R_NodeFault_B2 x x7 y) v0
noncomputable def R_NodeFault (x : Node) : Option Fault :=
  if ((((decide (x.N < 1)) || (decide (7 < x.N))) || (decide (x.ID < 0))) || (decide (x.N ≤ x.ID))) = true then
    lt (R_F 3 (-1)) fun x1 =>
    some x1
  else
    lt (R_Num x.Term) fun x2 =>
    if (((((((!x2) || (decide (x.Vote < 0))) || (decide (x.N < x.Vote))) || (decide (x.Role < 0))) || (decide (2 < x.Role))) || (decide (x.Commit < 0))) || (decide ((x.Log.length : Int) < x.Commit))) = true then
      lt (R_F 3 (-2)) fun x3 =>
      some x3
    else
      ob (R_LogFault x.Log) fun x4 =>
      if (!decide (x4.Code = 0)) = true then
        some x4
      else
        ob (R_LastTerm x.Log) fun x5 =>
        if (decide (x.Term < x5)) = true then
          lt (R_F 11 (-3)) fun x6 =>
          some x6
        else
          lt (R_F 5 (-3)) fun x7 =>
          if (((!decide (x.Role = 1)) && (decide (0 < (x.Votes.length : Int)))) || ((!decide (x.Role = 2)) && ((decide (0 < (x.Next.length : Int))) || (decide (0 < (x.Have.length : Int)))))) = true then
            some x7
          else
            if (decide (x.Role = 1)) = true then
              ob (R_Has x.Votes x.ID) fun x8 =>
              lt (R_Majority (x.Votes.length : Int) x.N) fun x9 =>
              if ((!x8) || x9) = true then
                some x7
              else
                R_NodeFault_L2 x x7 0
            else
              R_NodeFault_J1 x x7 ()
theorem R_NodeFault_ok (x : Node) (r : Fault) (hF : R_NodeFault x = some r) : Pe Try.prog 36 S.none [.agg (c_Node x)] (.agg [.i r.Code, .i r.At]) S.none := by
  refine Pe_of (N := 227) (res := [.cell 2 26]) (ts := [26]) Ty.ok Fn.b36 Try.func36 rfl rfl rfl rfl rfl rfl ?_
  intro Q g hfin
  unfold R_NodeFault at hF
  refine URs [] [1, 2] [1, 2] [] [] [(1, .ptr 1 0), (2, .ptr 2 0)] [(1, (c_Node x)), (2, [.i 0, .i 0])] [] [] .nil ?_
  refine Wk_seq ?_
  refine ZRs [] [1, 2, 26] [1, 2] [] [(26, .bool ((((decide (x.N < 1)) || (decide (7 < x.N))) || (decide (x.ID < 0))) || (decide (x.N ≤ x.ID))))] .nil ?_
  refine Wk_split rfl (fun hb => ?_) (fun hb => ?_)
  · have hF := ite_t hF hb
    refine Wk_seq ?_
    obtain ⟨x1, h0, hF⟩ := lt_split hF
    refine UR [.callB (.agg [.i x1.Code, .i x1.At])] [2] [2] [] [] [] [(2, [.i x1.Code, .i x1.At])] [] [] (.cons (R_F_ok 3 (-1) x1 h0) .nil) ?_
    have hF := some_elim hF
    exact Wk_ret (hfin _ ⟨[], [], [], [], [], [], by first | (rw [← hF]; kernel_rfl) | kernel_rfl⟩)
  · have hF := ite_f hF hb
    refine Wk_skip ?_
    refine Wk_seq ?_
    refine Wk_seq ?_
    obtain ⟨x2, h1, hF⟩ := lt_split hF
    refine ZR [.callB (.bool x2), .nat (x.Log.length : Int)] [1, 2, 66] [1, 2] [] [(66, .bool (((((((!x2) || (decide (x.Vote < 0))) || (decide (x.N < x.Vote))) || (decide (x.Role < 0))) || (decide (2 < x.Role))) || (decide (x.Commit < 0))) || (decide ((x.Log.length : Int) < x.Commit))))] (.cons (R_Num_ok x.Term x2 h1) (.cons (fun (_ : (!((((((!x2) || (decide (x.Vote < 0))) || (decide (x.N < x.Vote))) || (decide (x.Role < 0))) || (decide (2 < x.Role))) || (decide (x.Commit < 0)))) = true) => (len_ok e_Entry x.Log)) .nil)) ?_
    refine Wk_split rfl (fun hb => ?_) (fun hb => ?_)
    · have hF := ite_t hF hb
      refine Wk_seq ?_
      obtain ⟨x3, h2, hF⟩ := lt_split hF
      refine UR [.callB (.agg [.i x3.Code, .i x3.At])] [2] [2] [] [] [] [(2, [.i x3.Code, .i x3.At])] [] [] (.cons (R_F_ok 3 (-2) x3 h2) .nil) ?_
      have hF := some_elim hF
      exact Wk_ret (hfin _ ⟨[], [], [], [], [], [], by first | (rw [← hF]; kernel_rfl) | kernel_rfl⟩)
    · have hF := ite_f hF hb
      refine Wk_skip ?_
      refine Wk_seq ?_
      obtain ⟨x4, h3, hF⟩ := ob_elim hF
      refine UR [.callB (.agg [.i x4.Code, .i x4.At])] [1, 2, 3] [1, 2, 3] [] [] [(3, .ptr 3 0)] [(3, [.i x4.Code, .i x4.At])] [] [] (.cons (R_LogFault_ok x.Log x4 h3) .nil) ?_
      refine Wk_seq ?_
      refine ZRs [] [1, 2, 3, 73] [1, 2, 3] [] [(73, .bool (!decide (x4.Code = 0)))] .nil ?_
      refine Wk_split rfl (fun hb => ?_) (fun hb => ?_)
      · have hF := ite_t hF hb
        refine URs [] [2] [2] [] [] [] [(2, [.i x4.Code, .i x4.At])] [] [] .nil ?_
        have hF := some_elim hF
        exact Wk_ret (hfin _ ⟨[], [], [], [], [], [], by first | (rw [← hF]; kernel_rfl) | kernel_rfl⟩)
      · have hF := ite_f hF hb
        refine Wk_skip ?_
        refine Wk_seq ?_
        refine Wk_seq ?_
        obtain ⟨x5, h4, hF⟩ := ob_elim hF
        refine ZD [.callB (.i x5)] [1, 2, 80] [1, 2] [] [(80, .bool (decide (x.Term < x5)))] (.cons (R_LastTerm_ok x.Log x5 h4) .nil) ?_
        refine Wk_split rfl (fun hb => ?_) (fun hb => ?_)
        · have hF := ite_t hF hb
          refine Wk_seq ?_
          obtain ⟨x6, h5, hF⟩ := lt_split hF
          refine UR [.callB (.agg [.i x6.Code, .i x6.At])] [2] [2] [] [] [] [(2, [.i x6.Code, .i x6.At])] [] [] (.cons (R_F_ok 11 (-3) x6 h5) .nil) ?_
          have hF := some_elim hF
          exact Wk_ret (hfin _ ⟨[], [], [], [], [], [], by first | (rw [← hF]; kernel_rfl) | kernel_rfl⟩)
        · have hF := ite_f hF hb
          refine Wk_skip ?_
          refine Wk_seq ?_
          obtain ⟨x7, h6, hF⟩ := lt_split hF
          refine UR [.callB (.agg [.i x7.Code, .i x7.At])] [1, 2, 4] [1, 2, 4] [] [] [(4, .ptr 4 0)] [(4, [.i x7.Code, .i x7.At])] [] [] (.cons (R_F_ok 5 (-3) x7 h6) .nil) ?_
          refine Wk_seq ?_
          refine ZRs [.nat (x.Votes.length : Int), .nat (x.Next.length : Int), .nat (x.Have.length : Int)] [1, 2, 4, 108] [1, 2, 4] [] [(108, .bool (((!decide (x.Role = 1)) && (decide (0 < (x.Votes.length : Int)))) || ((!decide (x.Role = 2)) && ((decide (0 < (x.Next.length : Int))) || (decide (0 < (x.Have.length : Int)))))))] (.cons (fun (_ : (!decide (x.Role = 1)) = true) => (len_ok e_i64 x.Votes)) (.cons (fun (_ : (!decide (x.Role = 2)) = true) (_ : (!((!decide (x.Role = 1)) && (decide (0 < (x.Votes.length : Int))))) = true) => (len_ok e_i64 x.Next)) (.cons (fun (_ : (!(decide (0 < (x.Next.length : Int)))) = true) (_ : (!decide (x.Role = 2)) = true) (_ : (!((!decide (x.Role = 1)) && (decide (0 < (x.Votes.length : Int))))) = true) => (len_ok e_i64 x.Have)) .nil))) ?_
          refine Wk_split rfl (fun hb => ?_) (fun hb => ?_)
          · have hF := ite_t hF hb
            refine URs [] [2] [2] [] [] [] [(2, [.i x7.Code, .i x7.At])] [] [] .nil ?_
            have hF := some_elim hF
            exact Wk_ret (hfin _ ⟨[], [], [], [], [], [], by first | (rw [← hF]; kernel_rfl) | kernel_rfl⟩)
          · have hF := ite_f hF hb
            refine Wk_skip ?_
            refine Wk_seq ?_
            refine ZRs [] [1, 2, 4, 112] [1, 2, 4] [] [(112, .bool (decide (x.Role = 1)))] .nil ?_
            refine Wk_meetP (fun v : Unit => (⟨[(1, .ptr 1 0), (2, .ptr 2 0), (4, .ptr 4 0)], [(1, (c_Node x)), (2, [.i 0, .i 0]), (4, [.i x7.Code, .i x7.At])], [], [], []⟩ : S)) (fun v => R_NodeFault_J1 x x7 v = some r) ?_ ?_
            · refine Wk_split rfl (fun hb => ?_) (fun hb => ?_)
              · have hF := ite_t hF hb
                refine Wk_seq ?_
                refine Wk_seq ?_
                obtain ⟨x8, h11, hF⟩ := ob_elim hF
                obtain ⟨x9, h12, hF⟩ := lt_split hF
                refine ZR [.callB (.bool x8), .nat (x.Votes.length : Int), .callB (.bool x9)] [1, 2, 4, 126] [1, 2, 4] [] [(126, .bool ((!x8) || x9))] (.cons (R_Has_ok x.Votes x.ID x8 h11) (.cons (fun (_ : (!(!x8)) = true) => (len_ok e_i64 x.Votes)) (.cons (fun (ga0 : (!(!x8)) = true) => (R_Majority_ok (x.Votes.length : Int) x.N x9 h12)) .nil))) ?_
                refine Wk_split rfl (fun hb => ?_) (fun hb => ?_)
                · have hF := ite_t hF hb
                  refine URs [] [2] [2] [] [] [] [(2, [.i x7.Code, .i x7.At])] [] [] .nil ?_
                  have hF := some_elim hF
                  exact Wk_ret (hfin _ ⟨[], [], [], [], [], [], by first | (rw [← hF]; kernel_rfl) | kernel_rfl⟩)
                · have hF := ite_f hF hb
                  refine Wk_skip ?_
                  refine ZRs [] [1, 2, 4, 5] [1, 2, 4] [] [(5, .i 0)] .nil ?_
                  refine Wk_meetP (fun v4 : Unit => (⟨[(1, .ptr 1 0), (2, .ptr 2 0), (4, .ptr 4 0)], [(1, (c_Node x)), (2, [.i 0, .i 0]), (4, [.i x7.Code, .i x7.At])], [], [], []⟩ : S)) (fun v4 => R_NodeFault_J4 x x7 v4 = some r) ?_ ?_
                  · refine Wk_block ?_
                    unfold R_NodeFault_L2 at hF
                    refine Wk_trim (fs := [1, 2, 4, 5]) (bs := [1, 2, 4]) (rs := []) (ms := []) (aa := []) (nv := []) (t := (fun v5 : Int => (⟨[(1, .ptr 1 0), (2, .ptr 2 0), (4, .ptr 4 0), (5, .i v5)], [(1, (c_Node x)), (2, [.i 0, .i 0]), (4, [.i x7.Code, .i x7.At])], [], [], []⟩ : S)) 0) (by kernel_rfl) ?_
                    refine Wk_iter (step := fun y => R_NodeFault_B2 x x7 y) (r := r) (fun v5 : Int => (⟨[(1, .ptr 1 0), (2, .ptr 2 0), (4, .ptr 4 0), (5, .i v5)], [(1, (c_Node x)), (2, [.i 0, .i 0]), (4, [.i x7.Code, .i x7.At])], [], [], []⟩ : S)) 0 hF ?_
                    intro n1 v5 y1 hF ih1 dn1
                    have hF : R_NodeFault_B2 x x7 v5 = some y1 := hF
                    unfold R_NodeFault_B2 at hF
                    refine Wk_seq ?_
                    refine ZRs [.nat (x.Votes.length : Int)] [1, 2, 4, 5, 132] [1, 2, 4] [] [(132, .bool (decide (v5 < (x.Votes.length : Int))))] (.cons (len_ok e_i64 x.Votes) .nil) ?_
                    refine Wk_split rfl (fun hb => ?_) (fun hb => ?_)
                    · have hF := ite_t hF hb
                      refine Wk_skip ?_
                      refine Wk_seq ?_
                      refine Wk_block ?_
                      refine Wk_seq ?_
                      obtain ⟨h13, hF⟩ := asrt_elim hF
                      obtain ⟨h14, hF⟩ := asrt_elim hF
                      obtain ⟨h15, hF⟩ := asrt_elim hF
                      obtain ⟨h16, hF⟩ := asrt_elim hF
                      obtain ⟨x10, h17, hF⟩ := ob_elim hF
                      refine ZD [.av (e_i64 (lget x.Votes v5)), .av (e_i64 (lget x.Votes v5)), .xs ((ltake x.Votes v5).map e_i64), .av (e_i64 (lget x.Votes v5)), .callB (.bool x10)] [1, 2, 4, 5, 162] [1, 2, 4] [] [(162, .bool (((decide ((lget x.Votes v5) < 0)) || (decide (x.N ≤ (lget x.Votes v5)))) || x10))] (.cons (idx_ok e_i64 h13) (.cons (fun (ga0 : (!(decide ((lget x.Votes v5) < 0))) = true) => (idx_ok e_i64 (h14 ga0))) (.cons (fun (ga0 : (!((decide ((lget x.Votes v5) < 0)) || (decide (x.N ≤ (lget x.Votes v5))))) = true) => (sl01_ok e_i64 (h15 ga0))) (.cons (fun (ga0 : (!((decide ((lget x.Votes v5) < 0)) || (decide (x.N ≤ (lget x.Votes v5))))) = true) => (idx_ok e_i64 (h16 ga0))) (.cons (fun (ga0 : (!((decide ((lget x.Votes v5) < 0)) || (decide (x.N ≤ (lget x.Votes v5))))) = true) => (R_Has_ok (ltake x.Votes v5) (lget x.Votes v5) x10 (ite_t h17 ga0))) .nil))))) ?_
                      refine Wk_split rfl (fun hb => ?_) (fun hb => ?_)
                      · have hF := ite_t hF hb
                        refine URs [] [2] [2] [] [] [] [(2, [.i x7.Code, .i x7.At])] [] [] .nil ?_
                        have hF := ret_done hF dn1
                        have hF := some_elim hF
                        exact Wk_ret (hfin _ ⟨[], [], [], [], [], [], by first | (rw [← hF]; kernel_rfl) | kernel_rfl⟩)
                      · have hF := ite_f hF hb
                        refine Wk_skip ?_
                        refine Wk_blk ?_
                        refine ZR [] [1, 2, 4, 5] [1, 2, 4] [] [(5, .i (w64 (v5 + 1)))] .nil ?_
                        refine Wk_trim (fs := [1, 2, 4, 5]) (bs := [1, 2, 4]) (rs := []) (ms := []) (aa := []) (nv := []) ?_ (ih1 _ (some_elim hF).symm)
                        kernel_rfl
                    · have hF := ite_f hF hb
                      refine Wk_exit rfl ?_
                      have hF := inrO_done hF dn1
                      exact Wk_metP () [1, 2, 4] [1, 2, 4] [] [] [] [] hF (by kernel_rfl)
                  · intro v4 hF
                    have hF : R_NodeFault_J4 x x7 v4 = some r := hF
                    unfold R_NodeFault_J4 at hF
                    exact Wk_metP () [1, 2, 4] [1, 2, 4] [] [] [] [] hF (by kernel_rfl)
              · have hF := ite_f hF hb
                refine Wk_skip ?_
                exact Wk_metP () [1, 2, 4] [1, 2, 4] [] [] [] [] hF (by kernel_rfl)
            · intro v hF
              have hF : R_NodeFault_J1 x x7 v = some r := hF
              unfold R_NodeFault_J1 at hF
              refine Wk_seq ?_
              refine ZRs [] [1, 2, 4, 166] [1, 2, 4] [] [(166, .bool (decide (x.Role = 2)))] .nil ?_
              refine Wk_meetP (fun v1 : Unit => (⟨[(2, .ptr 2 0)], [(2, [.i 0, .i 0])], [], [], []⟩ : S)) (fun v1 => R_NodeFault_J2 v1 = some r) ?_ ?_
              · refine Wk_split rfl (fun hb => ?_) (fun hb => ?_)
                · have hF := ite_t hF hb
                  refine Wk_seq ?_
                  refine ZRs [.nat (x.Next.length : Int), .nat (x.Have.length : Int)] [1, 2, 4, 180] [1, 2, 4] [] [(180, .bool ((!decide ((x.Next.length : Int) = x.N)) || (!decide ((x.Have.length : Int) = x.N))))] (.cons (len_ok e_i64 x.Next) (.cons (fun (_ : (!(!decide ((x.Next.length : Int) = x.N))) = true) => (len_ok e_i64 x.Have)) .nil)) ?_
                  refine Wk_split rfl (fun hb => ?_) (fun hb => ?_)
                  · have hF := ite_t hF hb
                    refine URs [] [2] [2] [] [] [] [(2, [.i x7.Code, .i x7.At])] [] [] .nil ?_
                    have hF := some_elim hF
                    exact Wk_ret (hfin _ ⟨[], [], [], [], [], [], by first | (rw [← hF]; kernel_rfl) | kernel_rfl⟩)
                  · have hF := ite_f hF hb
                    refine Wk_skip ?_
                    refine ZRs [] [1, 2, 4, 6] [1, 2, 4] [] [(6, .i 0)] .nil ?_
                    refine Wk_meetP (fun v2 : Unit => (⟨[(2, .ptr 2 0)], [(2, [.i 0, .i 0])], [], [], []⟩ : S)) (fun v2 => R_NodeFault_J3 v2 = some r) ?_ ?_
                    · refine Wk_block ?_
                      unfold R_NodeFault_L1 at hF
                      refine Wk_trim (fs := [1, 2, 4, 6]) (bs := [1, 2, 4]) (rs := []) (ms := []) (aa := []) (nv := []) (t := (fun v3 : Int => (⟨[(1, .ptr 1 0), (2, .ptr 2 0), (4, .ptr 4 0), (6, .i v3)], [(1, (c_Node x)), (2, [.i 0, .i 0]), (4, [.i x7.Code, .i x7.At])], [], [], []⟩ : S)) 0) (by kernel_rfl) ?_
                      refine Wk_iter (step := fun y => R_NodeFault_B1 x x7 y) (r := r) (fun v3 : Int => (⟨[(1, .ptr 1 0), (2, .ptr 2 0), (4, .ptr 4 0), (6, .i v3)], [(1, (c_Node x)), (2, [.i 0, .i 0]), (4, [.i x7.Code, .i x7.At])], [], [], []⟩ : S)) 0 hF ?_
                      intro n1 v3 y1 hF ih1 dn1
                      have hF : R_NodeFault_B1 x x7 v3 = some y1 := hF
                      unfold R_NodeFault_B1 at hF
                      refine Wk_seq ?_
                      refine ZRs [] [1, 2, 4, 6, 185] [1, 2, 4] [] [(185, .bool (decide (v3 < x.N)))] .nil ?_
                      refine Wk_split rfl (fun hb => ?_) (fun hb => ?_)
                      · have hF := ite_t hF hb
                        refine Wk_skip ?_
                        refine Wk_seq ?_
                        refine Wk_block ?_
                        refine Wk_seq ?_
                        obtain ⟨h7, hF⟩ := asrt_elim hF
                        obtain ⟨h8, hF⟩ := asrt_elim hF
                        obtain ⟨h9, hF⟩ := asrt_elim hF
                        obtain ⟨h10, hF⟩ := asrt_elim hF
                        refine ZD [.av (e_i64 (lget x.Next v3)), .av (e_i64 (lget x.Next v3)), .nat (x.Log.length : Int), .av (e_i64 (lget x.Have v3)), .av (e_i64 (lget x.Have v3)), .nat (x.Log.length : Int)] [1, 2, 4, 6, 224] [1, 2, 4] [] [(224, .bool ((((decide ((lget x.Next v3) < 1)) || (decide ((w64 ((x.Log.length : Int) + 1)) < (lget x.Next v3)))) || (decide ((lget x.Have v3) < 0))) || (decide ((x.Log.length : Int) < (lget x.Have v3)))))] (.cons (idx_ok e_i64 h7) (.cons (fun (ga0 : (!(decide ((lget x.Next v3) < 1))) = true) => (idx_ok e_i64 (h8 ga0))) (.cons (fun (_ : (!(decide ((lget x.Next v3) < 1))) = true) => (len_ok e_Entry x.Log)) (.cons (fun (ga0 : (!((decide ((lget x.Next v3) < 1)) || (decide ((w64 ((x.Log.length : Int) + 1)) < (lget x.Next v3))))) = true) => (idx_ok e_i64 (h9 ga0))) (.cons (fun (ga0 : (!(((decide ((lget x.Next v3) < 1)) || (decide ((w64 ((x.Log.length : Int) + 1)) < (lget x.Next v3)))) || (decide ((lget x.Have v3) < 0)))) = true) => (idx_ok e_i64 (h10 ga0))) (.cons (fun (_ : (!(((decide ((lget x.Next v3) < 1)) || (decide ((w64 ((x.Log.length : Int) + 1)) < (lget x.Next v3)))) || (decide ((lget x.Have v3) < 0)))) = true) => (len_ok e_Entry x.Log)) .nil)))))) ?_
                        refine Wk_split rfl (fun hb => ?_) (fun hb => ?_)
                        · have hF := ite_t hF hb
                          refine URs [] [2] [2] [] [] [] [(2, [.i x7.Code, .i x7.At])] [] [] .nil ?_
                          have hF := ret_done hF dn1
                          have hF := some_elim hF
                          exact Wk_ret (hfin _ ⟨[], [], [], [], [], [], by first | (rw [← hF]; kernel_rfl) | kernel_rfl⟩)
                        · have hF := ite_f hF hb
                          refine Wk_skip ?_
                          refine Wk_blk ?_
                          refine ZR [] [1, 2, 4, 6] [1, 2, 4] [] [(6, .i (w64 (v3 + 1)))] .nil ?_
                          refine Wk_trim (fs := [1, 2, 4, 6]) (bs := [1, 2, 4]) (rs := []) (ms := []) (aa := []) (nv := []) ?_ (ih1 _ (some_elim hF).symm)
                          kernel_rfl
                      · have hF := ite_f hF hb
                        refine Wk_exit rfl ?_
                        have hF := inrO_done hF dn1
                        exact Wk_metP () [2] [2] [] [] [] [] hF (by kernel_rfl)
                    · intro v2 hF
                      have hF : R_NodeFault_J3 v2 = some r := hF
                      unfold R_NodeFault_J3 at hF
                      exact Wk_metP () [2] [2] [] [] [] [] hF (by kernel_rfl)
                · have hF := ite_f hF hb
                  refine Wk_skip ?_
                  exact Wk_metP () [2] [2] [] [] [] [] hF (by kernel_rfl)
              · intro v1 hF
                have hF : R_NodeFault_J2 v1 = some r := hF
                unfold R_NodeFault_J2 at hF
                refine ZRs [] [2] [2] [] [] .nil ?_
                have hF := some_elim hF
                exact Wk_ret (hfin _ ⟨[], [], [], [], [], [], by first | (rw [← hF]; kernel_rfl) | kernel_rfl⟩)

/- tabularyref.MailFine -/
noncomputable def R_MailFine (x : Node) (m : Mail) : Option Bool :=
  lt (R_Num m.Term) fun x1 =>
  lt (R_Num m.A) fun x2 =>
  lt (R_Num m.B) fun x3 =>
  lt (R_Num m.C0) fun x4 =>
  if (((((((((((decide (m.Kind < 1)) || (decide (4 < m.Kind))) || (!decide (m.To = x.ID))) || (decide (m.From = x.ID))) || (decide (m.From < 0))) || (decide (x.N ≤ m.From))) || (decide (m.Term < 1))) || (!x1)) || (!x2)) || (!x3)) || (!x4)) = true then
    some false
  else
    ob (if ((decide ((m.Entries.length : Int) ≤ 5)) && ((decide (m.Kind = 3)) || (decide ((m.Entries.length : Int) = 0)))) = true then (R_LogFault m.Entries) else some default) fun x5 =>
    ob (if (((decide ((m.Entries.length : Int) ≤ 5)) && ((decide (m.Kind = 3)) || (decide ((m.Entries.length : Int) = 0)))) && (decide (x5.Code = 0))) = true then (R_LastTerm m.Entries) else some default) fun x6 =>
    lt ((((decide ((m.Entries.length : Int) ≤ 5)) && ((decide (m.Kind = 3)) || (decide ((m.Entries.length : Int) = 0)))) && (decide (x5.Code = 0))) && (decide (x6 ≤ m.Term))) fun (v : Bool) =>
    some v
theorem R_MailFine_ok (x : Node) (m : Mail) (r : Bool) (hF : R_MailFine x m = some r) : Pe Try.prog 83 S.none [.agg (c_Node x), .agg (c_Mail m)] (.bool r) S.none := by
  refine Pe_of (N := 98) (res := [.tmp 4]) (ts := [4]) Ty.ok Fn.b83 Try.func83 rfl rfl rfl rfl rfl rfl ?_
  intro Q g hfin
  unfold R_MailFine at hF
  refine URs [] [2, 3] [2, 3] [] [] [(2, .ptr 2 0), (3, .ptr 3 0)] [(2, (c_Node x)), (3, (c_Mail m))] [] [] .nil ?_
  refine Wk_seq ?_
  refine Wk_seq ?_
  obtain ⟨x1, h0, hF⟩ := lt_split hF
  obtain ⟨x2, h1, hF⟩ := lt_split hF
  obtain ⟨x3, h2, hF⟩ := lt_split hF
  obtain ⟨x4, h3, hF⟩ := lt_split hF
  refine ZR [.callB (.bool x1), .callB (.bool x2), .callB (.bool x3), .callB (.bool x4)] [3, 67] [3] [] [(67, .bool (((((((((((decide (m.Kind < 1)) || (decide (4 < m.Kind))) || (!decide (m.To = x.ID))) || (decide (m.From = x.ID))) || (decide (m.From < 0))) || (decide (x.N ≤ m.From))) || (decide (m.Term < 1))) || (!x1)) || (!x2)) || (!x3)) || (!x4)))] (.cons (fun (ga0 : (!(((((((decide (m.Kind < 1)) || (decide (4 < m.Kind))) || (!decide (m.To = x.ID))) || (decide (m.From = x.ID))) || (decide (m.From < 0))) || (decide (x.N ≤ m.From))) || (decide (m.Term < 1)))) = true) => (R_Num_ok m.Term x1 h0)) (.cons (fun (ga0 : (!((((((((decide (m.Kind < 1)) || (decide (4 < m.Kind))) || (!decide (m.To = x.ID))) || (decide (m.From = x.ID))) || (decide (m.From < 0))) || (decide (x.N ≤ m.From))) || (decide (m.Term < 1))) || (!x1))) = true) => (R_Num_ok m.A x2 h1)) (.cons (fun (ga0 : (!(((((((((decide (m.Kind < 1)) || (decide (4 < m.Kind))) || (!decide (m.To = x.ID))) || (decide (m.From = x.ID))) || (decide (m.From < 0))) || (decide (x.N ≤ m.From))) || (decide (m.Term < 1))) || (!x1)) || (!x2))) = true) => (R_Num_ok m.B x3 h2)) (.cons (fun (ga0 : (!((((((((((decide (m.Kind < 1)) || (decide (4 < m.Kind))) || (!decide (m.To = x.ID))) || (decide (m.From = x.ID))) || (decide (m.From < 0))) || (decide (x.N ≤ m.From))) || (decide (m.Term < 1))) || (!x1)) || (!x2)) || (!x3))) = true) => (R_Num_ok m.C0 x4 h3)) .nil)))) ?_
  refine Wk_split rfl (fun hb => ?_) (fun hb => ?_)
  · have hF := ite_t hF hb
    refine ZRs [] [4] [] [] [(4, .bool false)] .nil ?_
    have hF := some_elim hF
    exact Wk_ret (hfin _ ⟨[], [], [], [], [], [], by first | (rw [← hF]; kernel_rfl) | kernel_rfl⟩)
  · have hF := ite_f hF hb
    refine Wk_skip ?_
    refine Wk_seq ?_
    obtain ⟨x5, h4, hF⟩ := ob_elim hF
    obtain ⟨x6, h5, hF⟩ := ob_elim hF
    refine WDL ((((decide ((m.Entries.length : Int) ≤ 5)) && ((decide (m.Kind = 3)) || (decide ((m.Entries.length : Int) = 0)))) && (decide (x5.Code = 0))) && (decide (x6 ≤ m.Term))) (fun v : Bool => ⟨[(4, .bool v)], [], [], [], []⟩) [.nat (m.Entries.length : Int), .nat (m.Entries.length : Int), .callB (.agg [.i x5.Code, .i x5.At]), .callB (.i x6)] [4] [] [] [] [] [] (.cons (len_ok e_Entry m.Entries) (.cons (fun (_ : (!(decide (m.Kind = 3))) = true) (_ : (decide ((m.Entries.length : Int) ≤ 5)) = true) => (len_ok e_Entry m.Entries)) (.cons (fun (ga0 : ((decide ((m.Entries.length : Int) ≤ 5)) && ((decide (m.Kind = 3)) || (decide ((m.Entries.length : Int) = 0)))) = true) => (R_LogFault_ok m.Entries x5 (ite_t h4 ga0))) (.cons (fun (ga0 : (((decide ((m.Entries.length : Int) ≤ 5)) && ((decide (m.Kind = 3)) || (decide ((m.Entries.length : Int) = 0)))) && (decide (x5.Code = 0))) = true) => (R_LastTerm_ok m.Entries x6 (ite_t h5 ga0))) .nil)))) (by kernel_rfl) (fun v hv => ?_)
    have hF := lt_elim hF hv
    have hF := some_elim hF
    exact Wk_ret (hfin _ ⟨[], [], [], [], [], [], by first | (rw [← hF]; kernel_rfl) | kernel_rfl⟩)

/- tabularyref.Follower -/
noncomputable def R_Follower (x : Node) : Option (Int × Int × Int × Int × List Entry × Int × Int) :=
  ob (R_CopyLog x.Log) fun x1 =>
  some (x.N, x.ID, x.Term, x.Vote, x1, 0, x.Commit)
theorem R_Follower_ok (x : Node) (r : Int × Int × Int × Int × List Entry × Int × Int) (hF : R_Follower x = some r) : Pe Try.prog 74 ⟨[], [], [], [], []⟩ [.agg (c_Node x)] (.agg [.i r.1, .i r.2.1, .i r.2.2.1, .i r.2.2.2.1, .row 13 1, .i r.2.2.2.2.2.1, .i r.2.2.2.2.2.2, .row 71001 0, .row 71002 0, .row 71003 0]) ⟨[], [], [(13, .z 31 2 1 (r.2.2.2.2.1.map e_Entry)), (71001, .z 3 1 0 (([] : List Int).map e_i64)), (71002, .z 3 1 0 (([] : List Int).map e_i64)), (71003, .z 3 1 0 (([] : List Int).map e_i64))], [], []⟩ := by
  refine Pe_of (N := 17) (res := [.cell 2 46]) (ts := [46]) Ty.ok Fn.b74 Try.func74 rfl rfl rfl rfl rfl rfl ?_
  intro Q g hfin
  unfold R_Follower at hF
  refine URs [] [1, 2] [1, 2] [] [] [(1, .ptr 1 0), (2, .ptr 2 0)] [(1, (c_Node x)), (2, [.i 0, .i 0, .i 0, .i 0, .nils, .i 0, .i 0, .nils, .nils, .nils])] [] [] .nil ?_
  refine Wk_seq ?_
  obtain ⟨x1, h0, hF⟩ := ob_elim hF
  refine UD [.callE [] [] [] [] (.row 13 1) ⟨[], [], [(13, .z 31 2 1 (x1.map e_Entry))], [], []⟩] [2] [2] [13] [] [] [(2, [.i x.N, .i x.ID, .i x.Term, .i x.Vote, .row 13 1, .i 0, .i x.Commit, .nils, .nils, .nils])] [(13, .z 31 2 1 (x1.map e_Entry))] [] (.cons (Pe.ren (R_CopyLog_ok x.Log x1 h0) ⟨[], [(4, 13)], [], []⟩) .nil) ?_
  have hF := some_elim hF
  refine Wk_nilrowB 2 7 60000 3 1 rfl rfl rfl rfl rfl ?_
  refine Wk_nilrowB 2 8 60001 3 1 rfl rfl rfl rfl rfl ?_
  refine Wk_nilrowB 2 9 60002 3 1 rfl rfl rfl rfl rfl ?_
  refine Wk_ren' ⟨[], [(60000, 71001), (60001, 71002), (60002, 71003)], [], []⟩ rfl ?_
  exact Wk_ret (hfin _ ⟨[13, 71001, 71002, 71003], [], [13, 71001, 71002, 71003], [], [], [], by first | (rw [← hF]; kernel_rfl) | kernel_rfl⟩)

/- tabularyref.OlderLog -/
noncomputable def R_OlderLog (l : List Entry) (num : Int) (term : Int) : Option Bool :=
  ob (R_LastTerm l) fun x =>
  if (!decide (x = term)) = true then
    ob (R_LastTerm l) fun x1 =>
    some (decide (x1 < term))
  else
    some (decide ((l.length : Int) < num))
theorem R_OlderLog_ok (l : List Entry) (num : Int) (term : Int) (r : Bool) (hF : R_OlderLog l num term = some r) : Pe Try.prog 24 S.none [.sl 2 (l.map e_Entry), .i num, .i term] (.bool r) S.none := by
  refine Pe_of (N := 19) (res := [.tmp 6]) (ts := [4]) Ty.ok Fn.b24 Try.func24 rfl rfl rfl rfl rfl rfl ?_
  intro Q g hfin
  unfold R_OlderLog at hF
  refine ZRs [] [0, 1, 2] [] [] [] .nil ?_
  refine Wk_seq ?_
  refine Wk_seq ?_
  obtain ⟨x, h0, hF⟩ := ob_elim hF
  refine ZR [.callB (.i x)] [0, 1, 2, 10] [] [] [(10, .bool (!decide (x = term)))] (.cons (R_LastTerm_ok l x h0) .nil) ?_
  refine Wk_split rfl (fun hb => ?_) (fun hb => ?_)
  · have hF := ite_t hF hb
    refine Wk_seq ?_
    obtain ⟨x1, h1, hF⟩ := ob_elim hF
    refine ZR [.callB (.i x1)] [6] [] [] [(6, .bool (decide (x1 < term)))] (.cons (R_LastTerm_ok l x1 h1) .nil) ?_
    have hF := some_elim hF
    exact Wk_ret (hfin _ ⟨[], [], [], [], [], [], by first | (rw [← hF]; kernel_rfl) | kernel_rfl⟩)
  · have hF := ite_f hF hb
    refine Wk_skip ?_
    refine ZRs [.nat (l.length : Int)] [6] [] [] [(6, .bool (decide ((l.length : Int) < num)))] (.cons (len_ok e_Entry l) .nil) ?_
    have hF := some_elim hF
    exact Wk_ret (hfin _ ⟨[], [], [], [], [], [], by first | (rw [← hF]; kernel_rfl) | kernel_rfl⟩)

/- tabularyref.Counted -/
noncomputable def R_Counted_J1 (x : Node) (v : Int) : Option Node :=
  some (⟨x.N, x.ID, x.Term, x.Vote, x.Log, x.Role, v, x.Votes, x.Next, x.Have⟩ : Node)
noncomputable def R_Counted_J2 (x : Node) (v1 : Int × Int) (v2 : Int) : Option ((Int × Int) ⊕ Node) :=
  asrt (0 ≤ w64 (v1.2 - 1) ∧ w64 (v1.2 - 1) < (x.Log.length : Int)) <|
  lt (R_Majority v2 x.N) fun x1 =>
  ob (
    if ((decide (((lget x.Log (w64 (v1.2 - 1))).Term) = x.Term)) && x1) = true then
      some v1.2
    else
      some v1.1) fun (v3 : Int) =>
  some (Sum.inl (v3, w64 (v1.2 + 1)))
noncomputable def R_Counted_B2 (x : Node) (v1 : Int × Int) (v4 : Int × Int) : Option ((Int × Int) ⊕ ((Int × Int) ⊕ Node)) :=
  if (decide (v4.2 < (x.Have.length : Int))) = true then
    asrt (0 ≤ v4.2 ∧ v4.2 < (x.Have.length : Int)) <|
    ob (
      if (decide (v1.2 ≤ (lget x.Have v4.2))) = true then
        some (w64 (v4.1 + 1))
      else
        some v4.1) fun (v5 : Int) =>
    some (Sum.inl (v5, w64 (v4.2 + 1)))
  else
    inrO (R_Counted_J2 x v1 v4.1)
noncomputable def R_Counted_L2 (x : Node) (v1 : Int × Int) (v0 : Int × Int) : Option ((Int × Int) ⊕ Node) :=
  loopO (fun y => R_Counted_B2 x v1 y) v0
noncomputable def R_Counted_B1 (x : Node) (v1 : Int × Int) : Option ((Int × Int) ⊕ Node) :=
  if (decide (v1.2 ≤ (x.Log.length : Int))) = true then
    R_Counted_L2 x v1 (0, 0)
  else
    inrO (R_Counted_J1 x v1.1)
noncomputable def R_Counted_L1 (x : Node) (v0 : Int × Int) : Option Node :=
  loopO (fun y => R_Counted_B1 x y) v0
noncomputable def R_Counted (x : Node) : Option Node :=
  R_Counted_L1 x (x.Commit, w64 (x.Commit + 1))
theorem R_Counted_ok (x : Node) (r : Node) (hF : R_Counted x = some r) : Pe Try.prog 76 S.none [.agg (c_Node x)] (.agg (c_Node r)) S.none := by
  refine Pe_of (N := 55) (res := [.cell 2 46]) (ts := [46]) Ty.ok Fn.b76 Try.func76 rfl rfl rfl rfl rfl rfl ?_
  intro Q g hfin
  unfold R_Counted at hF
  refine URs [] [1, 2] [1, 2] [] [] [(1, .ptr 1 0), (2, .ptr 2 0)] [(1, (c_Node x)), (2, [.i 0, .i 0, .i 0, .i 0, .nils, .i 0, .i 0, .nils, .nils, .nils])] [] [] .nil ?_
  refine ZRs [] [1, 2, 3] [1, 2] [] [(3, .i x.Commit)] .nil ?_
  refine Wk_seq ?_
  refine ZRs [] [1, 2, 3, 4] [1, 2] [] [(4, .i (w64 (x.Commit + 1)))] .nil ?_
  refine Wk_meetP (fun v : Int => (⟨[(1, .ptr 1 0), (2, .ptr 2 0), (3, .i v)], [(1, (c_Node x)), (2, [.i 0, .i 0, .i 0, .i 0, .nils, .i 0, .i 0, .nils, .nils, .nils])], [], [], []⟩ : S)) (fun v => R_Counted_J1 x v = some r) ?_ ?_
  · refine Wk_block ?_
    unfold R_Counted_L1 at hF
    refine Wk_trim (fs := [1, 2, 3, 4]) (bs := [1, 2]) (rs := []) (ms := []) (aa := []) (nv := []) (t := (fun v1 : Int × Int => (⟨[(1, .ptr 1 0), (2, .ptr 2 0), (3, .i v1.1), (4, .i v1.2)], [(1, (c_Node x)), (2, [.i 0, .i 0, .i 0, .i 0, .nils, .i 0, .i 0, .nils, .nils, .nils])], [], [], []⟩ : S)) (x.Commit, w64 (x.Commit + 1))) (by kernel_rfl) ?_
    refine Wk_iter (step := fun y => R_Counted_B1 x y) (r := r) (fun v1 : Int × Int => (⟨[(1, .ptr 1 0), (2, .ptr 2 0), (3, .i v1.1), (4, .i v1.2)], [(1, (c_Node x)), (2, [.i 0, .i 0, .i 0, .i 0, .nils, .i 0, .i 0, .nils, .nils, .nils])], [], [], []⟩ : S)) (x.Commit, w64 (x.Commit + 1)) hF ?_
    intro n1 v1 y1 hF ih1 dn1
    have hF : R_Counted_B1 x v1 = some y1 := hF
    unfold R_Counted_B1 at hF
    refine Wk_seq ?_
    refine ZRs [.nat (x.Log.length : Int)] [1, 2, 3, 4, 16] [1, 2] [] [(16, .bool (decide (v1.2 ≤ (x.Log.length : Int))))] (.cons (len_ok e_Entry x.Log) .nil) ?_
    refine Wk_split rfl (fun hb => ?_) (fun hb => ?_)
    · have hF := ite_t hF hb
      refine Wk_skip ?_
      refine Wk_seq ?_
      refine Wk_block ?_
      refine ZRs [] [1, 2, 3, 4, 5] [1, 2] [] [(5, .i 0)] .nil ?_
      refine Wk_seq ?_
      refine ZRs [] [1, 2, 3, 4, 5, 6] [1, 2] [] [(6, .i 0)] .nil ?_
      refine Wk_meetP (fun v2 : Int => (⟨[(1, .ptr 1 0), (2, .ptr 2 0), (3, .i v1.1), (4, .i v1.2), (5, .i v2)], [(1, (c_Node x)), (2, [.i 0, .i 0, .i 0, .i 0, .nils, .i 0, .i 0, .nils, .nils, .nils])], [], [], []⟩ : S)) (fun v2 => R_Counted_J2 x v1 v2 = some y1) ?_ ?_
      · refine Wk_block ?_
        unfold R_Counted_L2 at hF
        refine Wk_trim (fs := [1, 2, 3, 4, 5, 6]) (bs := [1, 2]) (rs := []) (ms := []) (aa := []) (nv := []) (t := (fun v4 : Int × Int => (⟨[(1, .ptr 1 0), (2, .ptr 2 0), (3, .i v1.1), (4, .i v1.2), (5, .i v4.1), (6, .i v4.2)], [(1, (c_Node x)), (2, [.i 0, .i 0, .i 0, .i 0, .nils, .i 0, .i 0, .nils, .nils, .nils])], [], [], []⟩ : S)) (0, 0)) (by kernel_rfl) ?_
        refine Wk_iter (step := fun y => R_Counted_B2 x v1 y) (r := y1) (fun v4 : Int × Int => (⟨[(1, .ptr 1 0), (2, .ptr 2 0), (3, .i v1.1), (4, .i v1.2), (5, .i v4.1), (6, .i v4.2)], [(1, (c_Node x)), (2, [.i 0, .i 0, .i 0, .i 0, .nils, .i 0, .i 0, .nils, .nils, .nils])], [], [], []⟩ : S)) (0, 0) hF ?_
        intro n2 v4 y2 hF ih2 dn2
        have hF : R_Counted_B2 x v1 v4 = some y2 := hF
        unfold R_Counted_B2 at hF
        refine Wk_seq ?_
        refine ZRs [.nat (x.Have.length : Int)] [1, 2, 3, 4, 5, 6, 23] [1, 2] [] [(23, .bool (decide (v4.2 < (x.Have.length : Int))))] (.cons (len_ok e_i64 x.Have) .nil) ?_
        refine Wk_split rfl (fun hb => ?_) (fun hb => ?_)
        · have hF := ite_t hF hb
          refine Wk_skip ?_
          refine Wk_seq ?_
          refine Wk_block ?_
          refine Wk_seq ?_
          obtain ⟨h2, hF⟩ := asrt_elim hF
          refine ZR [.av (e_i64 (lget x.Have v4.2))] [1, 2, 3, 4, 5, 6, 32] [1, 2] [] [(32, .bool (decide (v1.2 ≤ (lget x.Have v4.2))))] (.cons (idx_ok e_i64 h2) .nil) ?_
          obtain ⟨v5, hv, hF⟩ := ob_elim hF
          refine Wk_meet (⟨[(1, .ptr 1 0), (2, .ptr 2 0), (3, .i v1.1), (4, .i v1.2), (5, .i v5), (6, .i v4.2)], [(1, (c_Node x)), (2, [.i 0, .i 0, .i 0, .i 0, .nils, .i 0, .i 0, .nils, .nils, .nils])], [], [], []⟩ : S) ?_ ?_
          · have hF := hv
            refine Wk_split rfl (fun hb => ?_) (fun hb => ?_)
            · have hF := ite_t hF hb
              refine ZR [] [1, 2, 3, 4, 5, 6] [1, 2] [] [(5, .i (w64 (v4.1 + 1)))] .nil ?_
              exact Wk_met (fs := [1, 2, 3, 4, 5, 6]) (bs := [1, 2]) (rs := []) (ms := []) (aa := []) (nv := []) (by first | (rw [← some_elim hF]; kernel_rfl) | kernel_rfl)
            · have hF := ite_f hF hb
              refine Wk_skip ?_
              exact Wk_met (fs := [1, 2, 3, 4, 5, 6]) (bs := [1, 2]) (rs := []) (ms := []) (aa := []) (nv := []) (by first | (rw [← some_elim hF]; kernel_rfl) | kernel_rfl)
          · refine Wk_blk ?_
            refine ZR [] [1, 2, 3, 4, 5, 6] [1, 2] [] [(6, .i (w64 (v4.2 + 1)))] .nil ?_
            refine Wk_trim (fs := [1, 2, 3, 4, 5, 6]) (bs := [1, 2]) (rs := []) (ms := []) (aa := []) (nv := []) ?_ (ih2 _ (some_elim hF).symm)
            kernel_rfl
        · have hF := ite_f hF hb
          refine Wk_exit rfl ?_
          have hF := inrO_done hF dn2
          exact Wk_metP v4.1 [1, 2, 3, 4, 5] [1, 2] [] [] [] [] hF (by kernel_rfl)
      · intro v2 hF
        have hF : R_Counted_J2 x v1 v2 = some y1 := hF
        unfold R_Counted_J2 at hF
        refine Wk_seq ?_
        obtain ⟨h0, hF⟩ := asrt_elim hF
        obtain ⟨x1, h1, hF⟩ := lt_split hF
        refine ZD [.av (e_Entry (lget x.Log (w64 (v1.2 - 1)))), .callB (.bool x1)] [1, 2, 3, 4, 50] [1, 2] [] [(50, .bool ((decide (((lget x.Log (w64 (v1.2 - 1))).Term) = x.Term)) && x1))] (.cons (idx_ok e_Entry h0) (.cons (fun (ga0 : (decide (((lget x.Log (w64 (v1.2 - 1))).Term) = x.Term)) = true) => (R_Majority_ok v2 x.N x1 h1)) .nil)) ?_
        obtain ⟨v3, hv, hF⟩ := ob_elim hF
        refine Wk_meet (⟨[(1, .ptr 1 0), (2, .ptr 2 0), (3, .i v3), (4, .i v1.2)], [(1, (c_Node x)), (2, [.i 0, .i 0, .i 0, .i 0, .nils, .i 0, .i 0, .nils, .nils, .nils])], [], [], []⟩ : S) ?_ ?_
        · have hF := hv
          refine Wk_split rfl (fun hb => ?_) (fun hb => ?_)
          · have hF := ite_t hF hb
            refine ZR [] [1, 2, 3, 4] [1, 2] [] [(3, .i v1.2)] .nil ?_
            exact Wk_met (fs := [1, 2, 3, 4]) (bs := [1, 2]) (rs := []) (ms := []) (aa := []) (nv := []) (by first | (rw [← some_elim hF]; kernel_rfl) | kernel_rfl)
          · have hF := ite_f hF hb
            refine Wk_skip ?_
            exact Wk_met (fs := [1, 2, 3, 4]) (bs := [1, 2]) (rs := []) (ms := []) (aa := []) (nv := []) (by first | (rw [← some_elim hF]; kernel_rfl) | kernel_rfl)
        · refine Wk_blk ?_
          refine ZR [] [1, 2, 3, 4] [1, 2] [] [(4, .i (w64 (v1.2 + 1)))] .nil ?_
          refine Wk_trim (fs := [1, 2, 3, 4]) (bs := [1, 2]) (rs := []) (ms := []) (aa := []) (nv := []) ?_ (ih1 _ (some_elim hF).symm)
          kernel_rfl
    · have hF := ite_f hF hb
      refine Wk_exit rfl ?_
      have hF := inrO_done hF dn1
      exact Wk_metP v1.1 [1, 2, 3] [1, 2] [] [] [] [] hF (by kernel_rfl)
  · intro v hF
    have hF : R_Counted_J1 x v = some r := hF
    unfold R_Counted_J1 at hF
    refine URs [] [1, 2] [1, 2] [] [] [] [(1, [.i x.N, .i x.ID, .i x.Term, .i x.Vote, .sl 2 (x.Log.map e_Entry), .i x.Role, .i v, .sl 1 (x.Votes.map e_i64), .sl 1 (x.Next.map e_i64), .sl 1 (x.Have.map e_i64)])] [] [] .nil ?_
    refine URs [] [2] [2] [] [] [] [(2, [.i x.N, .i x.ID, .i x.Term, .i x.Vote, .sl 2 (x.Log.map e_Entry), .i x.Role, .i v, .sl 1 (x.Votes.map e_i64), .sl 1 (x.Next.map e_i64), .sl 1 (x.Have.map e_i64)])] [] [] .nil ?_
    have hF := some_elim hF
    exact Wk_ret (hfin _ ⟨[], [], [], [], [], [], by first | (rw [← hF]; kernel_rfl) | kernel_rfl⟩)

/- tabularyref.Leader -/
noncomputable def R_Leader_J1 (x1 : Int × Int × Int × Int × List Entry × Int × Int) (v : List Int × List Int) : Option Node :=
  ob (R_Counted (⟨x1.1, x1.2.1, x1.2.2.1, x1.2.2.2.1, x1.2.2.2.2.1, 2, x1.2.2.2.2.2.2, ([] : List Int), v.1, v.2⟩ : Node)) fun x2 =>
  some x2
noncomputable def R_Leader_B1 (x1 : Int × Int × Int × Int × List Entry × Int × Int) (v1 : List Int × List Int × Int) : Option ((List Int × List Int × Int) ⊕ Node) :=
  if (decide (v1.2.2 < x1.1)) = true then
    asrt (((v1.1 ++ ([w64 ((x1.2.2.2.2.1.length : Int) + 1)] : List Int)).length : Int) * 8 ≤ 140737488351232) <|
    ob (
      if (decide (v1.2.2 = x1.2.1)) = true then
        asrt (((v1.2.1 ++ ([(x1.2.2.2.2.1.length : Int)] : List Int)).length : Int) * 8 ≤ 140737488351232) <|
        some (v1.2.1 ++ ([(x1.2.2.2.2.1.length : Int)] : List Int))
      else
        asrt (((v1.2.1 ++ ([0] : List Int)).length : Int) * 8 ≤ 140737488351232) <|
        some (v1.2.1 ++ ([0] : List Int))) fun (v2 : List Int) =>
    some (Sum.inl ((v1.1 ++ ([w64 ((x1.2.2.2.2.1.length : Int) + 1)] : List Int)), v2, w64 (v1.2.2 + 1)))
  else
    inrO (R_Leader_J1 x1 (v1.1, v1.2.1))
noncomputable def R_Leader_L1 (x1 : Int × Int × Int × Int × List Entry × Int × Int) (v0 : List Int × List Int × Int) : Option Node :=
  loopO (fun y => R_Leader_B1 x1 y) v0
noncomputable def R_Leader (x : Node) : Option Node :=
  ob (R_Follower x) fun x1 =>
  R_Leader_L1 x1 (([] : List Int), ([] : List Int), 0)
theorem R_Leader_ok (x : Node) (r : Node) (hF : R_Leader x = some r) : Pe Try.prog 75 S.none [.agg (c_Node x)] (.agg (c_Node r)) S.none := by
  refine Pe_of (N := 41) (res := [.cell 2 46]) (ts := [46]) Ty.ok Fn.b75 Try.func75 rfl rfl rfl rfl rfl rfl ?_
  intro Q g hfin
  unfold R_Leader at hF
  refine URs [] [1, 2] [1, 2] [] [] [(1, .ptr 1 0), (2, .ptr 2 0)] [(1, (c_Node x)), (2, [.i 0, .i 0, .i 0, .i 0, .nils, .i 0, .i 0, .nils, .nils, .nils])] [] [] .nil ?_
  refine Wk_seq ?_
  obtain ⟨x1, h0, hF⟩ := ob_elim hF
  refine UR [.callE [] [] [] [] (.agg [.i x1.1, .i x1.2.1, .i x1.2.2.1, .i x1.2.2.2.1, .row 5 1, .i x1.2.2.2.2.2.1, .i x1.2.2.2.2.2.2, .row 20005 0, .row 40005 0, .row 60005 0]) ⟨[], [], [(5, .z 31 2 1 (x1.2.2.2.2.1.map e_Entry)), (20005, .z 3 1 0 (([] : List Int).map e_i64)), (40005, .z 3 1 0 (([] : List Int).map e_i64)), (60005, .z 3 1 0 (([] : List Int).map e_i64))], [], []⟩] [1, 2] [1, 2] [5, 20005, 40005, 60005] [] [] [(1, [.i x1.1, .i x1.2.1, .i x1.2.2.1, .i x1.2.2.2.1, .row 5 1, .i x1.2.2.2.2.2.1, .i x1.2.2.2.2.2.2, .row 20005 0, .row 40005 0, .row 60005 0])] [(5, .z 31 2 1 (x1.2.2.2.2.1.map e_Entry)), (20005, .z 3 1 0 (([] : List Int).map e_i64)), (40005, .z 3 1 0 (([] : List Int).map e_i64)), (60005, .z 3 1 0 (([] : List Int).map e_i64))] [] (.cons (Pe.ren (R_Follower_ok x x1 h0) ⟨[], [(13, 5), (71001, 20005), (71002, 40005), (71003, 60005)], [], []⟩) .nil) ?_
  refine URs [] [1, 2] [1, 2] [5, 20005, 40005, 60005] [] [] [(1, [.i x1.1, .i x1.2.1, .i x1.2.2.1, .i x1.2.2.2.1, .row 5 1, .i 2, .i x1.2.2.2.2.2.2, .row 20005 0, .row 40005 0, .row 60005 0])] [] [] .nil ?_
  refine Wk_seq ?_
  refine ZRs [] [1, 2, 3] [1, 2] [5, 20005, 40005, 60005] [(3, .i 0)] .nil ?_
  refine Wk_meetP (fun v : List Int × List Int => (⟨[(1, .ptr 1 0), (2, .ptr 2 0)], [(1, [.i x1.1, .i x1.2.1, .i x1.2.2.1, .i x1.2.2.2.1, .row 5 1, .i 2, .i x1.2.2.2.2.2.2, .row 20005 0, .row 40005 0, .row 60005 0]), (2, [.i 0, .i 0, .i 0, .i 0, .nils, .i 0, .i 0, .nils, .nils, .nils])], [(5, .z 31 2 1 (x1.2.2.2.2.1.map e_Entry)), (20005, .z 3 1 0 (([] : List Int).map e_i64)), (40005, .z 3 1 0 (v.1.map e_i64)), (60005, .z 3 1 0 (v.2.map e_i64))], [], []⟩ : S)) (fun v => R_Leader_J1 x1 v = some r) ?_ ?_
  · refine Wk_block ?_
    unfold R_Leader_L1 at hF
    refine Wk_trim (fs := [1, 2, 3]) (bs := [1, 2]) (rs := [5, 20005, 40005, 60005]) (ms := []) (aa := []) (nv := []) (t := (fun v1 : List Int × List Int × Int => (⟨[(1, .ptr 1 0), (2, .ptr 2 0), (3, .i v1.2.2)], [(1, [.i x1.1, .i x1.2.1, .i x1.2.2.1, .i x1.2.2.2.1, .row 5 1, .i 2, .i x1.2.2.2.2.2.2, .row 20005 0, .row 40005 0, .row 60005 0]), (2, [.i 0, .i 0, .i 0, .i 0, .nils, .i 0, .i 0, .nils, .nils, .nils])], [(5, .z 31 2 1 (x1.2.2.2.2.1.map e_Entry)), (20005, .z 3 1 0 (([] : List Int).map e_i64)), (40005, .z 3 1 0 (v1.1.map e_i64)), (60005, .z 3 1 0 (v1.2.1.map e_i64))], [], []⟩ : S)) (([] : List Int), ([] : List Int), 0)) (by kernel_rfl) ?_
    refine Wk_iter (step := fun y => R_Leader_B1 x1 y) (r := r) (fun v1 : List Int × List Int × Int => (⟨[(1, .ptr 1 0), (2, .ptr 2 0), (3, .i v1.2.2)], [(1, [.i x1.1, .i x1.2.1, .i x1.2.2.1, .i x1.2.2.2.1, .row 5 1, .i 2, .i x1.2.2.2.2.2.2, .row 20005 0, .row 40005 0, .row 60005 0]), (2, [.i 0, .i 0, .i 0, .i 0, .nils, .i 0, .i 0, .nils, .nils, .nils])], [(5, .z 31 2 1 (x1.2.2.2.2.1.map e_Entry)), (20005, .z 3 1 0 (([] : List Int).map e_i64)), (40005, .z 3 1 0 (v1.1.map e_i64)), (60005, .z 3 1 0 (v1.2.1.map e_i64))], [], []⟩ : S)) (([] : List Int), ([] : List Int), 0) hF ?_
    intro n1 v1 y1 hF ih1 dn1
    have hF : R_Leader_B1 x1 v1 = some y1 := hF
    unfold R_Leader_B1 at hF
    refine Wk_seq ?_
    refine ZRs [] [1, 2, 3, 10] [1, 2] [5, 20005, 40005, 60005] [(10, .bool (decide (v1.2.2 < x1.1)))] .nil ?_
    refine Wk_split rfl (fun hb => ?_) (fun hb => ?_)
    · have hF := ite_t hF hb
      refine Wk_skip ?_
      refine Wk_seq ?_
      refine Wk_block ?_
      refine Wk_seq ?_
      obtain ⟨h2, hF⟩ := asrt_elim hF
      refine UR [.nat (x1.2.2.2.2.1.length : Int), .sealed, .xs ((v1.1 ++ ([w64 ((x1.2.2.2.2.1.length : Int) + 1)] : List Int)).map e_i64)] [1, 2, 3] [1, 2] [5, 20005, 40005, 60005] [] [] [(1, [.i x1.1, .i x1.2.1, .i x1.2.2.1, .i x1.2.2.2.1, .row 5 1, .i 2, .i x1.2.2.2.2.2.2, .row 20005 0, .row 40005 1, .row 60005 0])] [(40005, .z 3 1 1 ((v1.1 ++ ([w64 ((x1.2.2.2.2.1.length : Int) + 1)] : List Int)).map e_i64))] [] (.cons (len_ok e_Entry x1.2.2.2.2.1) (.cons (app_ok e_i64 v1.1 ([w64 ((x1.2.2.2.2.1.length : Int) + 1)] : List Int)) (.cons (appl_ok e_i64 h2) .nil))) ?_
      refine ZRs [] [1, 2, 3, 25] [1, 2] [5, 20005, 40005, 60005] [(25, .bool (decide (v1.2.2 = x1.2.1)))] .nil ?_
      obtain ⟨v2, hv, hF⟩ := ob_elim hF
      refine Wk_meet (⟨[(1, .ptr 1 0), (2, .ptr 2 0), (3, .i v1.2.2)], [(1, [.i x1.1, .i x1.2.1, .i x1.2.2.1, .i x1.2.2.2.1, .row 5 1, .i 2, .i x1.2.2.2.2.2.2, .row 20005 0, .row 40005 1, .row 60005 1]), (2, [.i 0, .i 0, .i 0, .i 0, .nils, .i 0, .i 0, .nils, .nils, .nils])], [(5, .z 31 2 1 (x1.2.2.2.2.1.map e_Entry)), (20005, .z 3 1 0 (([] : List Int).map e_i64)), (40005, .z 3 1 1 ((v1.1 ++ ([w64 ((x1.2.2.2.2.1.length : Int) + 1)] : List Int)).map e_i64)), (60005, .z 3 1 1 (v2.map e_i64))], [], []⟩ : S) ?_ ?_
      · have hF := hv
        refine Wk_split rfl (fun hb => ?_) (fun hb => ?_)
        · have hF := ite_t hF hb
          obtain ⟨h3, hF⟩ := asrt_elim hF
          refine UR [.nat (x1.2.2.2.2.1.length : Int), .sealed, .xs ((v1.2.1 ++ ([(x1.2.2.2.2.1.length : Int)] : List Int)).map e_i64)] [1, 2, 3] [1, 2] [5, 20005, 40005, 60005] [] [] [(1, [.i x1.1, .i x1.2.1, .i x1.2.2.1, .i x1.2.2.2.1, .row 5 1, .i 2, .i x1.2.2.2.2.2.2, .row 20005 0, .row 40005 1, .row 60005 1])] [(60005, .z 3 1 1 ((v1.2.1 ++ ([(x1.2.2.2.2.1.length : Int)] : List Int)).map e_i64))] [] (.cons (len_ok e_Entry x1.2.2.2.2.1) (.cons (app_ok e_i64 v1.2.1 ([(x1.2.2.2.2.1.length : Int)] : List Int)) (.cons (appl_ok e_i64 h3) .nil))) ?_
          exact Wk_met (fs := [1, 2, 3]) (bs := [1, 2]) (rs := [5, 20005, 40005, 60005]) (ms := []) (aa := []) (nv := []) (by first | (rw [← some_elim hF]; kernel_rfl) | kernel_rfl)
        · have hF := ite_f hF hb
          obtain ⟨h4, hF⟩ := asrt_elim hF
          refine UR [.sealed, .xs ((v1.2.1 ++ ([0] : List Int)).map e_i64)] [1, 2, 3] [1, 2] [5, 20005, 40005, 60005] [] [] [(1, [.i x1.1, .i x1.2.1, .i x1.2.2.1, .i x1.2.2.2.1, .row 5 1, .i 2, .i x1.2.2.2.2.2.2, .row 20005 0, .row 40005 1, .row 60005 1])] [(60005, .z 3 1 1 ((v1.2.1 ++ ([0] : List Int)).map e_i64))] [] (.cons (app_ok e_i64 v1.2.1 ([0] : List Int)) (.cons (appl_ok e_i64 h4) .nil)) ?_
          exact Wk_met (fs := [1, 2, 3]) (bs := [1, 2]) (rs := [5, 20005, 40005, 60005]) (ms := []) (aa := []) (nv := []) (by first | (rw [← some_elim hF]; kernel_rfl) | kernel_rfl)
      · refine Wk_blk ?_
        refine ZR [] [1, 2, 3] [1, 2] [5, 20005, 40005, 60005] [(3, .i (w64 (v1.2.2 + 1)))] .nil ?_
        refine Wk_trim (fs := [1, 2, 3]) (bs := [1, 2]) (rs := [5, 20005, 40005, 60005]) (ms := []) (aa := []) (nv := [(40005, ⟨0, true, true, false⟩), (60005, ⟨0, true, true, false⟩)]) ?_ (ih1 _ (some_elim hF).symm)
        kernel_rfl
    · have hF := ite_f hF hb
      refine Wk_exit rfl ?_
      have hF := inrO_done hF dn1
      exact Wk_metP (v1.1, v1.2.1) [1, 2] [1, 2] [5, 20005, 40005, 60005] [] [] [] hF (by kernel_rfl)
  · intro v hF
    have hF : R_Leader_J1 x1 v = some r := hF
    unfold R_Leader_J1 at hF
    refine Wk_seq ?_
    obtain ⟨x2, h1, hF⟩ := ob_elim hF
    refine UR [.call (.agg (c_Node x2))] [2] [2] [] [] [] [(2, (c_Node x2))] [] [] (.cons (R_Counted_ok (⟨x1.1, x1.2.1, x1.2.2.1, x1.2.2.2.1, x1.2.2.2.2.1, 2, x1.2.2.2.2.2.2, ([] : List Int), v.1, v.2⟩ : Node) x2 h1) .nil) ?_
    have hF := some_elim hF
    exact Wk_ret (hfin _ ⟨[], [], [], [], [], [], by first | (rw [← hF]; kernel_rfl) | kernel_rfl⟩)

/- tabularyref.Beats -/
noncomputable def R_Beats_J1 (v : List Mail) : Option (List Mail) :=
  some v
noncomputable def R_Beats_B1 (x : Node) (v1 : List Mail × Int) : Option ((List Mail × Int) ⊕ (List Mail)) :=
  if (decide (v1.2 < x.N)) = true then
    ob (
      if (decide (v1.2 = x.ID)) = true then
        some v1.1
      else
        asrt (0 ≤ v1.2 ∧ v1.2 < (x.Next.length : Int)) <|
        ob (
          if (decide ((x.Log.length : Int) < (w64 ((w64 ((lget x.Next v1.2) - 1)) + 5)))) = true then
            some (x.Log.length : Int)
          else
            some (w64 ((w64 ((lget x.Next v1.2) - 1)) + 5))) fun (v3 : Int) =>
        asrt (0 ≤ w64 ((lget x.Next v1.2) - 1) ∧ w64 ((lget x.Next v1.2) - 1) ≤ (x.Log.length : Int)) <|
        ob (R_LastTerm (ltake x.Log (w64 ((lget x.Next v1.2) - 1)))) fun x1 =>
        asrt (0 ≤ w64 ((lget x.Next v1.2) - 1) ∧ w64 ((lget x.Next v1.2) - 1) ≤ v3 ∧ v3 ≤ (x.Log.length : Int)) <|
        ob (R_CopyLog (ldrop (ltake x.Log v3) (w64 ((lget x.Next v1.2) - 1)))) fun x2 =>
        asrt (((v1.1 ++ [(⟨3, x.ID, v1.2, x.Term, w64 ((lget x.Next v1.2) - 1), x1, x.Commit, x2, false⟩ : Mail)]).length : Int) * 88 ≤ 140737488351232) <|
        lt ((v1.1 ++ [(⟨3, x.ID, v1.2, x.Term, w64 ((lget x.Next v1.2) - 1), x1, x.Commit, x2, false⟩ : Mail)])) fun (v4 : List Mail) =>
        some v4) fun (v2 : List Mail) =>
    some (Sum.inl (v2, w64 (v1.2 + 1)))
  else
    inrO (R_Beats_J1 v1.1)
noncomputable def R_Beats_L1 (x : Node) (v0 : List Mail × Int) : Option (List Mail) :=
  loopO (fun y => R_Beats_B1 x y) v0
noncomputable def R_Beats (x : Node) : Option (List Mail) :=
  R_Beats_L1 x (([] : List Mail), 0)
theorem R_Beats_ok (x : Node) (r : List Mail) (hF : R_Beats x = some r) : Pe Try.prog 77 ⟨[], [], [], [], []⟩ [.agg (c_Node x)] (.row 55 0) ⟨[], [], [(55, .z 62 9 0 (r.map e_Mail))], [], []⟩ := by
  refine Pe_of (N := 57) (res := [.tmp 2]) (ts := [50]) Ty.ok Fn.b77 Try.func77 rfl rfl rfl rfl rfl rfl ?_
  intro Q g hfin
  unfold R_Beats at hF
  refine URs [] [1] [1] [] [] [(1, .ptr 1 0)] [(1, (c_Node x))] [] [] .nil ?_
  refine ZRs [] [1, 3] [1] [] [(3, .nils)] .nil ?_
  refine Wk_seq ?_
  refine ZRs [] [1, 3, 4] [1] [] [(4, .i 0)] .nil ?_
  refine Wk_meetP (fun v : List Mail => (⟨[(3, .row 55 0)], [], [(55, .z 62 9 0 (v.map e_Mail))], [], []⟩ : S)) (fun v => R_Beats_J1 v = some r) ?_ ?_
  · refine Wk_block ?_
    unfold R_Beats_L1 at hF
    refine Wk_nilrow 3 60000 62 9 rfl rfl rfl ?_
    refine Wk_trim (fs := [1, 3, 4]) (bs := [1]) (rs := [60000]) (ms := []) (aa := []) (nv := []) rfl ?_
    refine Wk_ren' ⟨[], [(60000, 55)], [], []⟩ rfl ?_
    refine Wk_trim (fs := [1, 3, 4]) (bs := [1]) (rs := [55]) (ms := []) (aa := []) (nv := []) (t := (fun v1 : List Mail × Int => (⟨[(1, .ptr 1 0), (3, .row 55 0), (4, .i v1.2)], [(1, (c_Node x))], [(55, .z 62 9 0 (v1.1.map e_Mail))], [], []⟩ : S)) (([] : List Mail), 0)) (by kernel_rfl) ?_
    refine Wk_iter (step := fun y => R_Beats_B1 x y) (r := r) (fun v1 : List Mail × Int => (⟨[(1, .ptr 1 0), (3, .row 55 0), (4, .i v1.2)], [(1, (c_Node x))], [(55, .z 62 9 0 (v1.1.map e_Mail))], [], []⟩ : S)) (([] : List Mail), 0) hF ?_
    intro n1 v1 y1 hF ih1 dn1
    have hF : R_Beats_B1 x v1 = some y1 := hF
    unfold R_Beats_B1 at hF
    refine Wk_seq ?_
    refine ZRs [] [1, 3, 4, 10] [1] [55] [(10, .bool (decide (v1.2 < x.N)))] .nil ?_
    refine Wk_split rfl (fun hb => ?_) (fun hb => ?_)
    · have hF := ite_t hF hb
      refine Wk_skip ?_
      refine Wk_seq ?_
      obtain ⟨v2, hv, hF⟩ := ob_elim hF
      refine Wk_meet (⟨[(1, .ptr 1 0), (3, .row 55 0), (4, .i v1.2)], [(1, (c_Node x))], [(55, .z 62 9 0 (v2.map e_Mail))], [], []⟩ : S) ?_ ?_
      · have hF := hv
        refine Wk_block ?_
        refine Wk_seq ?_
        refine ZRs [] [1, 3, 4, 16] [1] [55] [(16, .bool (decide (v1.2 = x.ID)))] .nil ?_
        refine Wk_split rfl (fun hb => ?_) (fun hb => ?_)
        · have hF := ite_t hF hb
          refine Wk_exit rfl ?_
          exact Wk_met (fs := [1, 3, 4]) (bs := [1]) (rs := [55]) (ms := []) (aa := []) (nv := []) (by first | (rw [← some_elim hF]; kernel_rfl) | kernel_rfl)
        · have hF := ite_f hF hb
          refine Wk_skip ?_
          refine Wk_seq ?_
          obtain ⟨h0, hF⟩ := asrt_elim hF
          refine ZR [.av (e_i64 (lget x.Next v1.2))] [1, 3, 4, 5] [1] [55] [(5, .i (w64 ((lget x.Next v1.2) - 1)))] (.cons (idx_ok e_i64 h0) .nil) ?_
          refine ZRs [] [1, 3, 4, 5, 6] [1] [55] [(6, .i (w64 ((w64 ((lget x.Next v1.2) - 1)) + 5)))] .nil ?_
          refine Wk_seq ?_
          refine ZRs [.nat (x.Log.length : Int)] [1, 3, 4, 5, 6, 29] [1] [55] [(29, .bool (decide ((x.Log.length : Int) < (w64 ((w64 ((lget x.Next v1.2) - 1)) + 5)))))] (.cons (len_ok e_Entry x.Log) .nil) ?_
          obtain ⟨v3, hv, hF⟩ := ob_elim hF
          refine Wk_meet (⟨[(1, .ptr 1 0), (3, .row 55 0), (4, .i v1.2), (5, .i (w64 ((lget x.Next v1.2) - 1))), (6, .i v3)], [(1, (c_Node x))], [(55, .z 62 9 0 (v1.1.map e_Mail))], [], []⟩ : S) ?_ ?_
          · have hF := hv
            refine Wk_split rfl (fun hb => ?_) (fun hb => ?_)
            · have hF := ite_t hF hb
              refine ZR [.nat (x.Log.length : Int)] [1, 3, 4, 5, 6] [1] [55] [(6, .i (x.Log.length : Int))] (.cons (len_ok e_Entry x.Log) .nil) ?_
              exact Wk_met (fs := [1, 3, 4, 5, 6]) (bs := [1]) (rs := [55]) (ms := []) (aa := []) (nv := []) (by first | (rw [← some_elim hF]; kernel_rfl) | kernel_rfl)
            · have hF := ite_f hF hb
              refine Wk_skip ?_
              exact Wk_met (fs := [1, 3, 4, 5, 6]) (bs := [1]) (rs := [55]) (ms := []) (aa := []) (nv := []) (by first | (rw [← some_elim hF]; kernel_rfl) | kernel_rfl)
          · obtain ⟨h1, hF⟩ := asrt_elim hF
            obtain ⟨x1, h2, hF⟩ := ob_elim hF
            obtain ⟨h3, hF⟩ := asrt_elim hF
            obtain ⟨x2, h4, hF⟩ := ob_elim hF
            obtain ⟨h5, hF⟩ := asrt_elim hF
            refine WDL ((v1.1 ++ [(⟨3, x.ID, v1.2, x.Term, w64 ((lget x.Next v1.2) - 1), x1, x.Commit, x2, false⟩ : Mail)])) (fun v4 : List Mail => ⟨[(1, .ptr 1 0), (3, .row 55 1), (4, .i v1.2)], [(1, (c_Node x))], [(55, .z 62 9 1 (v4.map e_Mail))], [], []⟩) [.xs ((ltake x.Log (w64 ((lget x.Next v1.2) - 1))).map e_Entry), .callB (.i x1), .xs ((ldrop (ltake x.Log v3) (w64 ((lget x.Next v1.2) - 1))).map e_Entry), .callE [] [] [] [] (.row 52 1) ⟨[], [], [(52, .z 31 2 1 (x2.map e_Entry))], [], []⟩, .sealed, .xs ((v1.1 ++ [(⟨3, x.ID, v1.2, x.Term, w64 ((lget x.Next v1.2) - 1), x1, x.Commit, x2, false⟩ : Mail)]).map e_Mail)] [1, 3, 4] [1] [55] [] [] [] (.cons (sl01_ok e_Entry h1) (.cons (R_LastTerm_ok (ltake x.Log (w64 ((lget x.Next v1.2) - 1))) x1 h2) (.cons (sl11_ok e_Entry h3) (.cons (Pe.ren (R_CopyLog_ok (ldrop (ltake x.Log v3) (w64 ((lget x.Next v1.2) - 1))) x2 h4) ⟨[], [(4, 52)], [], []⟩) (.cons (app_ok e_Mail v1.1 [(⟨3, x.ID, v1.2, x.Term, w64 ((lget x.Next v1.2) - 1), x1, x.Commit, x2, false⟩ : Mail)]) (.cons (appl_ok e_Mail h5) .nil)))))) (by kernel_rfl) (fun v4 hv => ?_)
            have hF := lt_elim hF hv
            refine Wk_blk ?_
            exact Wk_met (fs := [1, 3, 4]) (bs := [1]) (rs := [55]) (ms := []) (aa := []) (nv := [(55, ⟨0, true, true, false⟩)]) (by first | (rw [← some_elim hF]; kernel_rfl) | kernel_rfl)
      · refine ZR [] [1, 3, 4] [1] [55] [(4, .i (w64 (v1.2 + 1)))] .nil ?_
        refine Wk_trim (fs := [1, 3, 4]) (bs := [1]) (rs := [55]) (ms := []) (aa := []) (nv := []) ?_ (ih1 _ (some_elim hF).symm)
        kernel_rfl
    · have hF := ite_f hF hb
      refine Wk_exit rfl ?_
      have hF := inrO_done hF dn1
      exact Wk_metP v1.1 [3] [] [55] [] [] [] hF (by kernel_rfl)
  · intro v hF
    have hF : R_Beats_J1 v = some r := hF
    unfold R_Beats_J1 at hF
    refine ZRs [] [2] [] [55] [(2, .row 55 0)] .nil ?_
    have hF := some_elim hF
    exact Wk_ret (hfin _ ⟨[55], [], [55], [], [], [], by first | (rw [← hF]; kernel_rfl) | kernel_rfl⟩)

/- tabularyref.LogsFault -/
noncomputable def R_LogsFault (a0 : List Entry) (b : List Entry) : Option Fault :=
  ob (R_LogFault a0) fun x =>
  ob (
    if (decide (x.Code = 0)) = true then
      ob (R_LogFault b) fun x1 =>
      if (!decide (x1.Code = 0)) = true then
        some (⟨x1.Code, w64 (x1.At - 1000)⟩ : Fault)
      else
        some x1
    else
      some x) fun (v : Fault) =>
  some v
theorem R_LogsFault_ok (a0 : List Entry) (b : List Entry) (r : Fault) (hF : R_LogsFault a0 b = some r) : Pe Try.prog 26 S.none [.sl 2 (a0.map e_Entry), .sl 2 (b.map e_Entry)] (.agg [.i r.Code, .i r.At]) S.none := by
  refine Pe_of (N := 21) (res := [.cell 4 26]) (ts := [26]) Ty.ok Fn.b26 Try.func26 rfl rfl rfl rfl rfl rfl ?_
  intro Q g hfin
  unfold R_LogsFault at hF
  refine URs [] [0, 1, 4] [4] [] [] [(4, .ptr 4 0)] [(4, [.i 0, .i 0])] [] [] .nil ?_
  refine Wk_seq ?_
  obtain ⟨x, h0, hF⟩ := ob_elim hF
  refine UR [.callB (.agg [.i x.Code, .i x.At])] [1, 4, 5] [4, 5] [] [] [(5, .ptr 5 0)] [(5, [.i x.Code, .i x.At])] [] [] (.cons (R_LogFault_ok a0 x h0) .nil) ?_
  refine Wk_seq ?_
  refine ZRs [] [1, 4, 5, 10] [4, 5] [] [(10, .bool (decide (x.Code = 0)))] .nil ?_
  obtain ⟨v, hv, hF⟩ := ob_elim hF
  refine Wk_meet (⟨[(4, .ptr 4 0), (5, .ptr 5 0)], [(4, [.i 0, .i 0]), (5, [.i v.Code, .i v.At])], [], [], []⟩ : S) ?_ ?_
  · have hF := hv
    refine Wk_split rfl (fun hb => ?_) (fun hb => ?_)
    · have hF := ite_t hF hb
      refine Wk_seq ?_
      obtain ⟨x1, h1, hF⟩ := ob_elim hF
      refine UR [.callB (.agg [.i x1.Code, .i x1.At])] [4, 5] [4, 5] [] [] [] [(5, [.i x1.Code, .i x1.At])] [] [] (.cons (R_LogFault_ok b x1 h1) .nil) ?_
      refine ZRs [] [4, 5, 15] [4, 5] [] [(15, .bool (!decide (x1.Code = 0)))] .nil ?_
      refine Wk_split rfl (fun hb => ?_) (fun hb => ?_)
      · have hF := ite_t hF hb
        refine UR [] [4, 5] [4, 5] [] [] [] [(5, [.i x1.Code, .i (w64 (x1.At - 1000))])] [] [] .nil ?_
        exact Wk_met (fs := [4, 5]) (bs := [4, 5]) (rs := []) (ms := []) (aa := []) (nv := []) (by first | (rw [← some_elim hF]; kernel_rfl) | kernel_rfl)
      · have hF := ite_f hF hb
        refine Wk_skip ?_
        exact Wk_met (fs := [4, 5]) (bs := [4, 5]) (rs := []) (ms := []) (aa := []) (nv := []) (by first | (rw [← some_elim hF]; kernel_rfl) | kernel_rfl)
    · have hF := ite_f hF hb
      refine Wk_skip ?_
      exact Wk_met (fs := [4, 5]) (bs := [4, 5]) (rs := []) (ms := []) (aa := []) (nv := []) (by first | (rw [← some_elim hF]; kernel_rfl) | kernel_rfl)
  · refine URs [] [4] [4] [] [] [] [(4, [.i v.Code, .i v.At])] [] [] .nil ?_
    have hF := some_elim hF
    exact Wk_ret (hfin _ ⟨[], [], [], [], [], [], by first | (rw [← hF]; kernel_rfl) | kernel_rfl⟩)

/- tabularyref.PlaceFault -/
noncomputable def R_PlaceFault (num : Int) (term : Int) : Fault :=
  lt (R_Num num) fun x =>
  if (!x) = true then
    lt (R_F 3 (-1)) fun x1 =>
    x1
  else
    lt (R_Num term) fun x2 =>
    if (!x2) = true then
      lt (R_F 3 (-2)) fun x3 =>
      x3
    else
      (⟨0, 0⟩ : Fault)
theorem R_PlaceFault_ok (num : Int) (term : Int) (r : Fault) (hF : R_PlaceFault num term = r) : Pe Try.prog 23 S.none [.i num, .i term] (.agg [.i r.Code, .i r.At]) S.none := by
  refine Pe_of (N := 14) (res := [.cell 4 26]) (ts := [26]) Ty.ok Fn.b23 Try.func23 rfl rfl rfl rfl rfl rfl ?_
  intro Q g hfin
  unfold R_PlaceFault at hF
  refine URs [] [0, 1, 4] [4] [] [] [(4, .ptr 4 0)] [(4, [.i 0, .i 0])] [] [] .nil ?_
  refine Wk_seq ?_
  refine Wk_seq ?_
  obtain ⟨x, h0, hF⟩ := lt_split hF
  refine ZR [.callB (.bool x)] [1, 4, 7] [4] [] [(7, .bool (!x))] (.cons (R_Num_ok num x h0) .nil) ?_
  refine Wk_split rfl (fun hb => ?_) (fun hb => ?_)
  · have hF := ite_t hF hb
    refine Wk_seq ?_
    obtain ⟨x1, h1, hF⟩ := lt_split hF
    refine UR [.callB (.agg [.i x1.Code, .i x1.At])] [4] [4] [] [] [] [(4, [.i x1.Code, .i x1.At])] [] [] (.cons (R_F_ok 3 (-1) x1 h1) .nil) ?_
    exact Wk_ret (hfin _ ⟨[], [], [], [], [], [], by first | (rw [← hF]; kernel_rfl) | kernel_rfl⟩)
  · have hF := ite_f hF hb
    refine Wk_skip ?_
    refine Wk_seq ?_
    refine Wk_seq ?_
    obtain ⟨x2, h2, hF⟩ := lt_split hF
    refine ZR [.callB (.bool x2)] [4, 11] [4] [] [(11, .bool (!x2))] (.cons (R_Num_ok term x2 h2) .nil) ?_
    refine Wk_split rfl (fun hb => ?_) (fun hb => ?_)
    · have hF := ite_t hF hb
      refine Wk_seq ?_
      obtain ⟨x3, h3, hF⟩ := lt_split hF
      refine UR [.callB (.agg [.i x3.Code, .i x3.At])] [4] [4] [] [] [] [(4, [.i x3.Code, .i x3.At])] [] [] (.cons (R_F_ok 3 (-2) x3 h3) .nil) ?_
      exact Wk_ret (hfin _ ⟨[], [], [], [], [], [], by first | (rw [← hF]; kernel_rfl) | kernel_rfl⟩)
    · have hF := ite_f hF hb
      refine Wk_skip ?_
      refine ZRs [] [4] [4] [] [] .nil ?_
      exact Wk_ret (hfin _ ⟨[], [], [], [], [], [], by first | (rw [← hF]; kernel_rfl) | kernel_rfl⟩)

end G
end Go.Proofs.Ytcnngkigpfpalaa
