/- The program's functions as plain functions, and that they are these. Written by a program (dec2.py). -/
import Derived.Test.YtgflfhdbihahcaaGf0
namespace Go.Proofs.Ytgflfhdbihahcaa
open Go Go.Dm
set_option linter.unusedVariables false
set_option linter.unusedSimpArgs false
set_option maxRecDepth 100000
namespace G
/- (*lease.court).does -/
noncomputable def lease_court_does_v1_J1 (v : Int × Int × Int × Int × List Int × List Trust × List Wish × List Reply × Int) : Option (Int × Int × Int × Int × Int × List Int × List Trust × List Wish × List Reply × Int) :=
  if ((decide (100 < (v.2.2.2.2.2.2.1.length : Int))) || (decide (100 < (v.2.2.2.2.2.2.2.1.length : Int)))) = true then
    some (9, v.1, v.2.1, v.2.2.1, v.2.2.2.1, v.2.2.2.2.1, v.2.2.2.2.2.1, v.2.2.2.2.2.2.1, v.2.2.2.2.2.2.2.1, v.2.2.2.2.2.2.2.2)
  else
    some (0, v.1, v.2.1, v.2.2.1, v.2.2.2.1, v.2.2.2.2.1, v.2.2.2.2.2.1, v.2.2.2.2.2.2.1, v.2.2.2.2.2.2.2.1, v.2.2.2.2.2.2.2.2)
noncomputable def lease_court_does_v1 (d : Deed) (box : Int) (box1 : Int) (box2 : Int) (box3 : Int) (box4 : Int) (row : List Int) (row1 : List Trust) (row2 : List Wish) (row3 : List Reply) : Option (Int × Int × Int × Int × Int × List Int × List Trust × List Wish × List Reply × Int) :=
  ob (
    if (decide (d.Kind = 0)) = true then
      some (decide (d.Kind = 0))
    else
      some (decide (d.Kind = 1))) fun (v1 : Bool) =>
  if v1 = true then
    if ((((decide (d.Kind = 1)) && (!((decide (0 ≤ d.Who)) && (decide (d.Who < (row.length : Int)))))) || (decide (d.N < 0))) || (decide (1000000 < d.N))) = true then
      some (3, box, box1, box2, box3, row, row1, row2, row3, box4)
    else
      if (decide (d.Kind = 1)) = true then
        asrt (0 ≤ d.Who ∧ d.Who < (row.length : Int)) <|
        asrt (0 ≤ d.Who ∧ d.Who < (row.length : Int)) <|
        asrt (0 ≤ d.Who ∧ d.Who < (row.length : Int)) <|
        asrt (0 ≤ d.Who ∧ d.Who < ((lset row d.Who (w64 ((lget row d.Who) + d.N))).length : Int)) <|
        if (decide (900000000 < (lget (lset row d.Who (w64 ((lget row d.Who) + d.N))) d.Who))) = true then
          some (9, box, box1, box2, box3, (lset row d.Who (w64 ((lget row d.Who) + d.N))), row1, row2, row3, box4)
        else
          lease_court_does_v1_J1 (box, box1, box2, box3, (lset row d.Who (w64 ((lget row d.Who) + d.N))), row1, row2, row3, box4)
      else
        if (decide (900000000 < (w64 (box + d.N)))) = true then
          some (9, w64 (box + d.N), box1, box2, box3, row, row1, row2, row3, box4)
        else
          lease_court_does_v1_J1 (w64 (box + d.N), box1, box2, box3, row, row1, row2, row3, box4)
  else
    ob (
      if (decide (d.Kind = 2)) = true then
        some (decide (d.Kind = 2))
      else
        some (decide (d.Kind = 5))) fun (v2 : Bool) =>
    if v2 = true then
      if (!((decide (0 ≤ d.Who)) && (decide (d.Who < (row.length : Int))))) = true then
        some (3, box, box1, box2, box3, row, row1, row2, row3, box4)
      else
        if (decide (d.Kind = 5)) = true then
          asrt (0 ≤ d.Who ∧ d.Who < (row1.length : Int)) <|
          asrt (0 ≤ d.Who ∧ d.Who < (row1.length : Int)) <|
          lease_court_does_v1_J1 (box, box1, box2, box3, row, (lset row1 d.Who (⟨0, 0⟩ : Trust)), row2, row3, box4)
        else
          asrt (0 ≤ d.Who ∧ d.Who < (row.length : Int)) <|
          asrt (0 ≤ d.Who ∧ d.Who < (row.length : Int)) <|
          asrt (0 ≤ d.Who ∧ d.Who < (row1.length : Int)) <|
          asrt (0 ≤ d.Who ∧ d.Who < (row1.length : Int)) <|
          ob (
            if (decide ((lget row d.Who) < ((lget row1 d.Who).Until))) = true then
              some (⟨d.Who, (lget row d.Who), (lget row1 d.Who).Epoch⟩ : Wish)
            else
              some (⟨d.Who, (lget row d.Who), 0⟩ : Wish)) fun (v3 : Wish) =>
          asrt (((row2 ++ [v3]).length : Int) * 24 ≤ 140737488351232) <|
          lease_court_does_v1_J1 (box, box1, box2, box3, row, row1, (row2 ++ [v3]), row3, box4)
    else
      ob (
        if (decide (d.Kind = 3)) = true then
          some (decide (d.Kind = 3))
        else
          if (decide (d.Kind = 6)) = true then
            some (decide (d.Kind = 6))
          else
            some (decide (d.Kind = 7))) fun (v4 : Bool) =>
      if v4 = true then
        if ((decide (d.N < 0)) || (decide ((row2.length : Int) ≤ d.N))) = true then
          some (3, box, box1, box2, box3, row, row1, row2, row3, box4)
        else
          if (decide (d.Kind = 3)) = true then
            ob (lease_take_api_Wish_v1 d.N box box1 box2 box3 box4 row row1 row2 row3) fun x =>
            ob (lease_court_arrives_v1 x.1 x.2.1 x.2.2.1 x.2.2.2.1 x.2.2.2.2.1 x.2.2.2.2.2.2 row row1 x.2.2.2.2.2.1 row3) fun x1 =>
            lease_court_does_v1_J1 (x1.1, x1.2.1, x1.2.2.1, x1.2.2.2.1, row, row1, x.2.2.2.2.2.1, x1.2.2.2.2.1, x1.2.2.2.2.2)
          else
            if (decide (d.Kind = 6)) = true then
              asrt (0 ≤ d.N ∧ d.N < (row2.length : Int)) <|
              asrt (0 ≤ d.N ∧ d.N < (row2.length : Int)) <|
              asrt (((row2 ++ [(⟨(lget row2 d.N).Who, (lget row2 d.N).Sent, (lget row2 d.N).Epoch⟩ : Wish)]).length : Int) * 24 ≤ 140737488351232) <|
              lt ((row2 ++ [(⟨(lget row2 d.N).Who, (lget row2 d.N).Sent, (lget row2 d.N).Epoch⟩ : Wish)])) fun (v5 : List Wish) =>
              lease_court_does_v1_J1 (box, box1, box2, box3, row, row1, v5, row3, box4)
            else
              if (decide (d.Kind = 7)) = true then
                ob (lease_take_api_Wish_v1 d.N box box1 box2 box3 box4 row row1 row2 row3) fun x2 =>
                lease_court_does_v1_J1 (x2.2.1, x2.2.2.1, x2.2.2.2.1, x2.2.2.2.2.1, row, row1, x2.2.2.2.2.2.1, row3, x2.2.2.2.2.2.2)
              else
                lease_court_does_v1_J1 (box, box1, box2, box3, row, row1, row2, row3, box4)
      else
        ob (
          if (decide (d.Kind = 4)) = true then
            some (decide (d.Kind = 4))
          else
            some (decide (d.Kind = 8))) fun (v6 : Bool) =>
        if v6 = true then
          if ((decide (d.N < 0)) || (decide ((row3.length : Int) ≤ d.N))) = true then
            some (3, box, box1, box2, box3, row, row1, row2, row3, box4)
          else
            ob (lease_take_api_Reply_v1 d.N box box1 box2 box3 box4 row row1 row2 row3) fun x3 =>
            asrt (0 ≤ x3.1.Who ∧ x3.1.Who < (row1.length : Int)) <|
            asrt ((decide (d.Kind = 4)) = true → 0 ≤ x3.1.Who ∧ x3.1.Who < (row1.length : Int)) <|
            asrt ((!(decide (((lget row1 x3.1.Who).Epoch) < x3.1.Trust.Epoch))) = true → (decide (d.Kind = 4)) = true → 0 ≤ x3.1.Who ∧ x3.1.Who < (row1.length : Int)) <|
            asrt ((decide (x3.1.Trust.Epoch = ((lget row1 x3.1.Who).Epoch))) = true → (!(decide (((lget row1 x3.1.Who).Epoch) < x3.1.Trust.Epoch))) = true → (decide (d.Kind = 4)) = true → 0 ≤ x3.1.Who ∧ x3.1.Who < (row1.length : Int)) <|
            if ((decide (d.Kind = 4)) && ((decide (((lget row1 x3.1.Who).Epoch) < x3.1.Trust.Epoch)) || ((decide (x3.1.Trust.Epoch = ((lget row1 x3.1.Who).Epoch))) && (decide (((lget row1 x3.1.Who).Until) < x3.1.Trust.Until))))) = true then
              asrt (0 ≤ x3.1.Who ∧ x3.1.Who < (row1.length : Int)) <|
              lease_court_does_v1_J1 (x3.2.1, x3.2.2.1, x3.2.2.2.1, x3.2.2.2.2.1, row, (lset row1 x3.1.Who x3.1.Trust), row2, x3.2.2.2.2.2.1, x3.2.2.2.2.2.2)
            else
              lease_court_does_v1_J1 (x3.2.1, x3.2.2.1, x3.2.2.2.1, x3.2.2.2.2.1, row, row1, row2, x3.2.2.2.2.2.1, x3.2.2.2.2.2.2)
        else
          some (4, box, box1, box2, box3, row, row1, row2, row3, box4)
theorem lease_court_does_v1_ok (d : Deed) (box : Int) (box1 : Int) (box2 : Int) (box3 : Int) (box4 : Int) (row : List Int) (row1 : List Trust) (row2 : List Wish) (row3 : List Reply) (rk : Nat) (rc : Nat) (rn : Bool) (rk1 : Nat) (rc1 : Nat) (rn1 : Bool) (rk2 : Nat) (rc2 : Nat) (rn2 : Bool) (rk3 : Nat) (rc3 : Nat) (rn3 : Bool) (r : Int × Int × Int × Int × Int × List Int × List Trust × List Wish × List Reply × Int) (hF : lease_court_does_v1 d box box1 box2 box3 box4 row row1 row2 row3 = some r) : Pe Try.prog 72 ⟨[], [(100000, [.int .i64 box, .int .i64 box1, .int .i64 box2, .int .i64 box3, .row 100000 0, .row 100001 0, .row 100002 0, .row 100003 0, .int .i64 box4])], [(100000, ⟨3, 1, 0, 0, rc, rn, 0, [], (row.map e_i64)⟩), (100001, ⟨60, 2, 0, 0, rc1, rn1, 0, [], (row1.map e_Trust)⟩), (100002, ⟨103, 3, 0, 0, rc2, rn2, 0, [], (row2.map e_Wish)⟩), (100003, ⟨105, 3, 0, 0, rc3, rn3, 0, [], (row3.map e_Reply)⟩)], [], []⟩ [.ptr 100000 0, .agg (c_Deed d)] (.int .i64 r.1) ⟨[], [(100000, [.int .i64 r.2.1, .int .i64 r.2.2.1, .int .i64 r.2.2.2.1, .int .i64 r.2.2.2.2.1, .row 100000 0, .row 100001 0, .row 100002 1, .row 100003 1, .int .i64 r.2.2.2.2.2.2.2.2.2])], [(100000, ⟨3, 1, 0, 0, rc, rn, 0, [], (r.2.2.2.2.2.1.map e_i64)⟩), (100001, ⟨60, 2, 0, 0, rc1, rn1, 0, [], (r.2.2.2.2.2.2.1.map e_Trust)⟩), (100002, ⟨103, 3, 1, 0, 0, false, 0, [], (r.2.2.2.2.2.2.2.1.map e_Wish)⟩), (100003, ⟨105, 3, 1, 0, 0, false, 0, [], (r.2.2.2.2.2.2.2.2.1.map e_Reply)⟩)], [], []⟩ := by
  refine Pe_of (N := 278) (res := [.tmp 4]) (ts := [3]) Ty.ok Fn.b72 Try.func72 rfl rfl rfl rfl rfl rfl ?_
  intro Q g hfin
  unfold lease_court_does_v1 at hF
  refine Wk_seq ?_
  refine WR [] [0, 3] [3, 100000] [100000, 100001, 100002, 100003] [] [] [] ⟨[(0, .ptr 100000 0), (3, .ptr 3 0)], [(3, (c_Deed d)), (100000, [.int .i64 box, .int .i64 box1, .int .i64 box2, .int .i64 box3, .row 100000 0, .row 100001 0, .row 100002 0, .row 100003 0, .int .i64 box4])], [(100000, ⟨3, 1, 0, 0, rc, rn, 0, [], (row.map e_i64)⟩), (100001, ⟨60, 2, 0, 0, rc1, rn1, 0, [], (row1.map e_Trust)⟩), (100002, ⟨103, 3, 0, 0, rc2, rn2, 0, [], (row2.map e_Wish)⟩), (100003, ⟨105, 3, 0, 0, rc3, rn3, 0, [], (row3.map e_Reply)⟩)], [], []⟩ .nil (by kernel_rfl) ?_
  refine Wk_seq ?_
  refine WD [.nat (row.length : Int)] [0, 3, 5] [3, 100000] [100000, 100001, 100002, 100003] [] [] [] ⟨[(0, .ptr 100000 0), (3, .ptr 3 0), (5, .bool ((decide (0 ≤ d.Who)) && (decide (d.Who < (row.length : Int)))))], [(3, (c_Deed d)), (100000, [.int .i64 box, .int .i64 box1, .int .i64 box2, .int .i64 box3, .row 100000 0, .row 100001 0, .row 100002 0, .row 100003 0, .int .i64 box4])], [(100000, ⟨3, 1, 0, 0, rc, rn, 0, [], (row.map e_i64)⟩), (100001, ⟨60, 2, 0, 0, rc1, rn1, 0, [], (row1.map e_Trust)⟩), (100002, ⟨103, 3, 0, 0, rc2, rn2, 0, [], (row2.map e_Wish)⟩), (100003, ⟨105, 3, 0, 0, rc3, rn3, 0, [], (row3.map e_Reply)⟩)], [], []⟩ (.cons (fun (_ : (decide (0 ≤ d.Who)) = true) => (len_ok e_i64 row)) .nil) (by kernel_rfl) ?_
  refine Wk_seq ?_
  refine Wk_seq ?_
  refine WR [] [0, 3, 5, 26] [3, 100000] [100000, 100001, 100002, 100003] [] [] [] ⟨[(0, .ptr 100000 0), (3, .ptr 3 0), (5, .bool ((decide (0 ≤ d.Who)) && (decide (d.Who < (row.length : Int))))), (26, .int .i64 d.Kind)], [(3, (c_Deed d)), (100000, [.int .i64 box, .int .i64 box1, .int .i64 box2, .int .i64 box3, .row 100000 0, .row 100001 0, .row 100002 0, .row 100003 0, .int .i64 box4])], [(100000, ⟨3, 1, 0, 0, rc, rn, 0, [], (row.map e_i64)⟩), (100001, ⟨60, 2, 0, 0, rc1, rn1, 0, [], (row1.map e_Trust)⟩), (100002, ⟨103, 3, 0, 0, rc2, rn2, 0, [], (row2.map e_Wish)⟩), (100003, ⟨105, 3, 0, 0, rc3, rn3, 0, [], (row3.map e_Reply)⟩)], [], []⟩ .nil (by kernel_rfl) ?_
  refine Wk_meetP (fun v : Int × Int × Int × Int × List Int × List Trust × List Wish × List Reply × Int => (⟨[(0, .ptr 100000 0)], [(100000, [.int .i64 v.1, .int .i64 v.2.1, .int .i64 v.2.2.1, .int .i64 v.2.2.2.1, .row 100000 0, .row 100001 0, .row 100002 1, .row 100003 1, .int .i64 v.2.2.2.2.2.2.2.2])], [(100000, ⟨3, 1, 0, 0, rc, rn, 0, [], (v.2.2.2.2.1.map e_i64)⟩), (100001, ⟨60, 2, 0, 0, rc1, rn1, 0, [], (v.2.2.2.2.2.1.map e_Trust)⟩), (100002, ⟨103, 3, 1, 0, 0, false, 0, [], (v.2.2.2.2.2.2.1.map e_Wish)⟩), (100003, ⟨105, 3, 1, 0, 0, false, 0, [], (v.2.2.2.2.2.2.2.1.map e_Reply)⟩)], [], []⟩ : S)) (fun v => lease_court_does_v1_J1 v = some r) ?_ ?_
  · refine Wk_block ?_
    refine Wk_seq ?_
    refine Wk_seq ?_
    refine WR [] [0, 3, 5, 26, 27] [3, 100000] [100000, 100001, 100002, 100003] [] [] [] ⟨[(0, .ptr 100000 0), (3, .ptr 3 0), (5, .bool ((decide (0 ≤ d.Who)) && (decide (d.Who < (row.length : Int))))), (26, .int .i64 d.Kind), (27, .bool (decide (d.Kind = 0)))], [(3, (c_Deed d)), (100000, [.int .i64 box, .int .i64 box1, .int .i64 box2, .int .i64 box3, .row 100000 0, .row 100001 0, .row 100002 0, .row 100003 0, .int .i64 box4])], [(100000, ⟨3, 1, 0, 0, rc, rn, 0, [], (row.map e_i64)⟩), (100001, ⟨60, 2, 0, 0, rc1, rn1, 0, [], (row1.map e_Trust)⟩), (100002, ⟨103, 3, 0, 0, rc2, rn2, 0, [], (row2.map e_Wish)⟩), (100003, ⟨105, 3, 0, 0, rc3, rn3, 0, [], (row3.map e_Reply)⟩)], [], []⟩ .nil (by kernel_rfl) ?_
    obtain ⟨v1, hv, hF⟩ := ob_elim hF
    refine Wk_meet (⟨[(0, .ptr 100000 0), (3, .ptr 3 0), (5, .bool ((decide (0 ≤ d.Who)) && (decide (d.Who < (row.length : Int))))), (26, .int .i64 d.Kind), (27, .bool v1)], [(3, (c_Deed d)), (100000, [.int .i64 box, .int .i64 box1, .int .i64 box2, .int .i64 box3, .row 100000 0, .row 100001 0, .row 100002 0, .row 100003 0, .int .i64 box4])], [(100000, ⟨3, 1, 0, 0, rc, rn, 0, [], (row.map e_i64)⟩), (100001, ⟨60, 2, 0, 0, rc1, rn1, 0, [], (row1.map e_Trust)⟩), (100002, ⟨103, 3, 0, 0, rc2, rn2, 0, [], (row2.map e_Wish)⟩), (100003, ⟨105, 3, 0, 0, rc3, rn3, 0, [], (row3.map e_Reply)⟩)], [], []⟩ : S) ?_ ?_
    · have hF := hv
      refine Wk_split rfl (fun hb => ?_) (fun hb => ?_)
      · have hF := ite_t hF hb
        refine Wk_skip ?_
        exact Wk_met (fs := [0, 3, 5, 26, 27]) (bs := [3, 100000]) (rs := [100000, 100001, 100002, 100003]) (ms := []) (aa := []) (nv := []) (by first | (rw [← some_elim hF]; kernel_rfl) | kernel_rfl)
      · have hF := ite_f hF hb
        refine WR [] [0, 3, 5, 26, 27] [3, 100000] [100000, 100001, 100002, 100003] [] [] [] ⟨[(0, .ptr 100000 0), (3, .ptr 3 0), (5, .bool ((decide (0 ≤ d.Who)) && (decide (d.Who < (row.length : Int))))), (26, .int .i64 d.Kind), (27, .bool (decide (d.Kind = 1)))], [(3, (c_Deed d)), (100000, [.int .i64 box, .int .i64 box1, .int .i64 box2, .int .i64 box3, .row 100000 0, .row 100001 0, .row 100002 0, .row 100003 0, .int .i64 box4])], [(100000, ⟨3, 1, 0, 0, rc, rn, 0, [], (row.map e_i64)⟩), (100001, ⟨60, 2, 0, 0, rc1, rn1, 0, [], (row1.map e_Trust)⟩), (100002, ⟨103, 3, 0, 0, rc2, rn2, 0, [], (row2.map e_Wish)⟩), (100003, ⟨105, 3, 0, 0, rc3, rn3, 0, [], (row3.map e_Reply)⟩)], [], []⟩ .nil (by kernel_rfl) ?_
        exact Wk_met (fs := [0, 3, 5, 26, 27]) (bs := [3, 100000]) (rs := [100000, 100001, 100002, 100003]) (ms := []) (aa := []) (nv := []) (by first | (rw [← some_elim hF]; kernel_rfl) | kernel_rfl)
    · refine Wk_split rfl (fun hb => ?_) (fun hb => ?_)
      · have hF := ite_t hF hb
        refine Wk_seq ?_
        refine Wk_seq ?_
        refine WR [] [0, 3, 46] [3, 100000] [100000, 100001, 100002, 100003] [] [] [] ⟨[(0, .ptr 100000 0), (3, .ptr 3 0), (46, .bool ((((decide (d.Kind = 1)) && (!((decide (0 ≤ d.Who)) && (decide (d.Who < (row.length : Int)))))) || (decide (d.N < 0))) || (decide (1000000 < d.N))))], [(3, (c_Deed d)), (100000, [.int .i64 box, .int .i64 box1, .int .i64 box2, .int .i64 box3, .row 100000 0, .row 100001 0, .row 100002 0, .row 100003 0, .int .i64 box4])], [(100000, ⟨3, 1, 0, 0, rc, rn, 0, [], (row.map e_i64)⟩), (100001, ⟨60, 2, 0, 0, rc1, rn1, 0, [], (row1.map e_Trust)⟩), (100002, ⟨103, 3, 0, 0, rc2, rn2, 0, [], (row2.map e_Wish)⟩), (100003, ⟨105, 3, 0, 0, rc3, rn3, 0, [], (row3.map e_Reply)⟩)], [], []⟩ .nil (by kernel_rfl) ?_
        refine Wk_split rfl (fun hb => ?_) (fun hb => ?_)
        · have hF := ite_t hF hb
          refine Wk_seq ?_
          refine WR [] [4] [100000] [100000, 100001, 100002, 100003] [] [] [] ⟨[(4, .int .i64 3)], [(100000, [.int .i64 box, .int .i64 box1, .int .i64 box2, .int .i64 box3, .row 100000 0, .row 100001 0, .row 100002 0, .row 100003 0, .int .i64 box4])], [(100000, ⟨3, 1, 0, 0, rc, rn, 0, [], (row.map e_i64)⟩), (100001, ⟨60, 2, 0, 0, rc1, rn1, 0, [], (row1.map e_Trust)⟩), (100002, ⟨103, 3, 0, 0, rc2, rn2, 0, [], (row2.map e_Wish)⟩), (100003, ⟨105, 3, 0, 0, rc3, rn3, 0, [], (row3.map e_Reply)⟩)], [], []⟩ .nil (by kernel_rfl) ?_
          have hF := some_elim hF
          exact Wk_ret (hfin _ ⟨[100000, 100001, 100002, 100003], [100000], [100000, 100001, 100002, 100003], [], [], [(100002, ⟨1, false, false, false⟩), (100003, ⟨1, false, false, false⟩)], by first | (rw [← hF]; kernel_rfl) | kernel_rfl⟩)
        · have hF := ite_f hF hb
          refine Wk_skip ?_
          refine Wk_seq ?_
          refine WR [] [0, 3, 6] [3, 100000] [100000, 100001, 100002, 100003] [] [] [] ⟨[(0, .ptr 100000 0), (3, .ptr 3 0), (6, .ptr 100000 0)], [(3, (c_Deed d)), (100000, [.int .i64 box, .int .i64 box1, .int .i64 box2, .int .i64 box3, .row 100000 0, .row 100001 0, .row 100002 0, .row 100003 0, .int .i64 box4])], [(100000, ⟨3, 1, 0, 0, rc, rn, 0, [], (row.map e_i64)⟩), (100001, ⟨60, 2, 0, 0, rc1, rn1, 0, [], (row1.map e_Trust)⟩), (100002, ⟨103, 3, 0, 0, rc2, rn2, 0, [], (row2.map e_Wish)⟩), (100003, ⟨105, 3, 0, 0, rc3, rn3, 0, [], (row3.map e_Reply)⟩)], [], []⟩ .nil (by kernel_rfl) ?_
          refine Wk_seq ?_
          refine Wk_seq ?_
          refine WR [] [0, 3, 6, 53] [3, 100000] [100000, 100001, 100002, 100003] [] [] [] ⟨[(0, .ptr 100000 0), (3, .ptr 3 0), (6, .ptr 100000 0), (53, .bool (decide (d.Kind = 1)))], [(3, (c_Deed d)), (100000, [.int .i64 box, .int .i64 box1, .int .i64 box2, .int .i64 box3, .row 100000 0, .row 100001 0, .row 100002 0, .row 100003 0, .int .i64 box4])], [(100000, ⟨3, 1, 0, 0, rc, rn, 0, [], (row.map e_i64)⟩), (100001, ⟨60, 2, 0, 0, rc1, rn1, 0, [], (row1.map e_Trust)⟩), (100002, ⟨103, 3, 0, 0, rc2, rn2, 0, [], (row2.map e_Wish)⟩), (100003, ⟨105, 3, 0, 0, rc3, rn3, 0, [], (row3.map e_Reply)⟩)], [], []⟩ .nil (by kernel_rfl) ?_
          refine Wk_split rfl (fun hb => ?_) (fun hb => ?_)
          · have hF := ite_t hF hb
            obtain ⟨h0, hF⟩ := asrt_elim hF
            refine WD [] [0, 3, 6] [3, 100000] [100000, 100001, 100002, 100003] [] [] [] ⟨[(0, .ptr 100000 0), (3, .ptr 3 0), (6, .ep 100000 0 d.Who.toNat 0)], [(3, (c_Deed d)), (100000, [.int .i64 box, .int .i64 box1, .int .i64 box2, .int .i64 box3, .row 100000 0, .row 100001 0, .row 100002 0, .row 100003 0, .int .i64 box4])], [(100000, ⟨3, 1, 0, 0, rc, rn, 0, [], (row.map e_i64)⟩), (100001, ⟨60, 2, 0, 0, rc1, rn1, 0, [], (row1.map e_Trust)⟩), (100002, ⟨103, 3, 0, 0, rc2, rn2, 0, [], (row2.map e_Wish)⟩), (100003, ⟨105, 3, 0, 0, rc3, rn3, 0, [], (row3.map e_Reply)⟩)], [], []⟩ (.cons (ixr_ok e_i64 h0) .nil) (by kernel_rfl) ?_
            refine Wk_seq ?_
            obtain ⟨h1, hF⟩ := asrt_elim hF
            obtain ⟨h2, hF⟩ := asrt_elim hF
            refine WD [.av (e_i64 (lget row d.Who)), .av (e_i64 (lget row d.Who)), .xs ((lset row d.Who (w64 ((lget row d.Who) + d.N))).map e_i64)] [0, 6] [100000] [100000, 100001, 100002, 100003] [] [] [] ⟨[(0, .ptr 100000 0), (6, .ep 100000 0 d.Who.toNat 0)], [(100000, [.int .i64 box, .int .i64 box1, .int .i64 box2, .int .i64 box3, .row 100000 0, .row 100001 0, .row 100002 0, .row 100003 0, .int .i64 box4])], [(100000, ⟨3, 1, 0, 0, rc, rn, 0, [], ((lset row d.Who (w64 ((lget row d.Who) + d.N))).map e_i64)⟩), (100001, ⟨60, 2, 0, 0, rc1, rn1, 0, [], (row1.map e_Trust)⟩), (100002, ⟨103, 3, 0, 0, rc2, rn2, 0, [], (row2.map e_Wish)⟩), (100003, ⟨105, 3, 0, 0, rc3, rn3, 0, [], (row3.map e_Reply)⟩)], [], []⟩ (.cons (ldr_ok e_i64 h1) (.cons (ldr_ok e_i64 h2) (.cons (set_ok e_i64 row d.Who (w64 ((lget row d.Who) + d.N))) (.cons (Nat.zero_le d.Who.toNat) .nil)))) (by kernel_rfl) ?_
            refine Wk_seq ?_
            obtain ⟨h3, hF⟩ := asrt_elim hF
            refine WR [.av (e_i64 (lget (lset row d.Who (w64 ((lget row d.Who) + d.N))) d.Who))] [0, 72] [100000] [100000, 100001, 100002, 100003] [] [] [] ⟨[(0, .ptr 100000 0), (72, .bool (decide (900000000 < (lget (lset row d.Who (w64 ((lget row d.Who) + d.N))) d.Who))))], [(100000, [.int .i64 box, .int .i64 box1, .int .i64 box2, .int .i64 box3, .row 100000 0, .row 100001 0, .row 100002 0, .row 100003 0, .int .i64 box4])], [(100000, ⟨3, 1, 0, 0, rc, rn, 0, [], ((lset row d.Who (w64 ((lget row d.Who) + d.N))).map e_i64)⟩), (100001, ⟨60, 2, 0, 0, rc1, rn1, 0, [], (row1.map e_Trust)⟩), (100002, ⟨103, 3, 0, 0, rc2, rn2, 0, [], (row2.map e_Wish)⟩), (100003, ⟨105, 3, 0, 0, rc3, rn3, 0, [], (row3.map e_Reply)⟩)], [], []⟩ (.cons (ldr_ok e_i64 h3) .nil) (by kernel_rfl) ?_
            refine Wk_split rfl (fun hb => ?_) (fun hb => ?_)
            · have hF := ite_t hF hb
              refine Wk_seq ?_
              refine WR [] [4] [100000] [100000, 100001, 100002, 100003] [] [] [] ⟨[(4, .int .i64 9)], [(100000, [.int .i64 box, .int .i64 box1, .int .i64 box2, .int .i64 box3, .row 100000 0, .row 100001 0, .row 100002 0, .row 100003 0, .int .i64 box4])], [(100000, ⟨3, 1, 0, 0, rc, rn, 0, [], ((lset row d.Who (w64 ((lget row d.Who) + d.N))).map e_i64)⟩), (100001, ⟨60, 2, 0, 0, rc1, rn1, 0, [], (row1.map e_Trust)⟩), (100002, ⟨103, 3, 0, 0, rc2, rn2, 0, [], (row2.map e_Wish)⟩), (100003, ⟨105, 3, 0, 0, rc3, rn3, 0, [], (row3.map e_Reply)⟩)], [], []⟩ .nil (by kernel_rfl) ?_
              have hF := some_elim hF
              exact Wk_ret (hfin _ ⟨[100000, 100001, 100002, 100003], [100000], [100000, 100001, 100002, 100003], [], [], [(100002, ⟨1, false, false, false⟩), (100003, ⟨1, false, false, false⟩)], by first | (rw [← hF]; kernel_rfl) | kernel_rfl⟩)
            · have hF := ite_f hF hb
              refine Wk_skip ?_
              refine Wk_blk ?_
              exact Wk_metP (box, box1, box2, box3, (lset row d.Who (w64 ((lget row d.Who) + d.N))), row1, row2, row3, box4) [0] [100000] [100000, 100001, 100002, 100003] [] [] [(100002, ⟨1, false, false, false⟩), (100003, ⟨1, false, false, false⟩)] hF (by kernel_rfl)
          · have hF := ite_f hF hb
            refine Wk_skip ?_
            refine Wk_seq ?_
            refine WD [] [0, 6] [100000] [100000, 100001, 100002, 100003] [] [] [] ⟨[(0, .ptr 100000 0), (6, .ptr 100000 0)], [(100000, [.int .i64 (w64 (box + d.N)), .int .i64 box1, .int .i64 box2, .int .i64 box3, .row 100000 0, .row 100001 0, .row 100002 0, .row 100003 0, .int .i64 box4])], [(100000, ⟨3, 1, 0, 0, rc, rn, 0, [], (row.map e_i64)⟩), (100001, ⟨60, 2, 0, 0, rc1, rn1, 0, [], (row1.map e_Trust)⟩), (100002, ⟨103, 3, 0, 0, rc2, rn2, 0, [], (row2.map e_Wish)⟩), (100003, ⟨105, 3, 0, 0, rc3, rn3, 0, [], (row3.map e_Reply)⟩)], [], []⟩ .nil (by kernel_rfl) ?_
            refine Wk_seq ?_
            refine WR [] [0, 72] [100000] [100000, 100001, 100002, 100003] [] [] [] ⟨[(0, .ptr 100000 0), (72, .bool (decide (900000000 < (w64 (box + d.N)))))], [(100000, [.int .i64 (w64 (box + d.N)), .int .i64 box1, .int .i64 box2, .int .i64 box3, .row 100000 0, .row 100001 0, .row 100002 0, .row 100003 0, .int .i64 box4])], [(100000, ⟨3, 1, 0, 0, rc, rn, 0, [], (row.map e_i64)⟩), (100001, ⟨60, 2, 0, 0, rc1, rn1, 0, [], (row1.map e_Trust)⟩), (100002, ⟨103, 3, 0, 0, rc2, rn2, 0, [], (row2.map e_Wish)⟩), (100003, ⟨105, 3, 0, 0, rc3, rn3, 0, [], (row3.map e_Reply)⟩)], [], []⟩ .nil (by kernel_rfl) ?_
            refine Wk_split rfl (fun hb => ?_) (fun hb => ?_)
            · have hF := ite_t hF hb
              refine Wk_seq ?_
              refine WR [] [4] [100000] [100000, 100001, 100002, 100003] [] [] [] ⟨[(4, .int .i64 9)], [(100000, [.int .i64 (w64 (box + d.N)), .int .i64 box1, .int .i64 box2, .int .i64 box3, .row 100000 0, .row 100001 0, .row 100002 0, .row 100003 0, .int .i64 box4])], [(100000, ⟨3, 1, 0, 0, rc, rn, 0, [], (row.map e_i64)⟩), (100001, ⟨60, 2, 0, 0, rc1, rn1, 0, [], (row1.map e_Trust)⟩), (100002, ⟨103, 3, 0, 0, rc2, rn2, 0, [], (row2.map e_Wish)⟩), (100003, ⟨105, 3, 0, 0, rc3, rn3, 0, [], (row3.map e_Reply)⟩)], [], []⟩ .nil (by kernel_rfl) ?_
              have hF := some_elim hF
              exact Wk_ret (hfin _ ⟨[100000, 100001, 100002, 100003], [100000], [100000, 100001, 100002, 100003], [], [], [(100002, ⟨1, false, false, false⟩), (100003, ⟨1, false, false, false⟩)], by first | (rw [← hF]; kernel_rfl) | kernel_rfl⟩)
            · have hF := ite_f hF hb
              refine Wk_skip ?_
              refine Wk_blk ?_
              exact Wk_metP (w64 (box + d.N), box1, box2, box3, row, row1, row2, row3, box4) [0] [100000] [100000, 100001, 100002, 100003] [] [] [(100002, ⟨1, false, false, false⟩), (100003, ⟨1, false, false, false⟩)] hF (by kernel_rfl)
      · have hF := ite_f hF hb
        refine Wk_seq ?_
        refine Wk_seq ?_
        refine WR [] [0, 3, 5, 26, 73] [3, 100000] [100000, 100001, 100002, 100003] [] [] [] ⟨[(0, .ptr 100000 0), (3, .ptr 3 0), (5, .bool ((decide (0 ≤ d.Who)) && (decide (d.Who < (row.length : Int))))), (26, .int .i64 d.Kind), (73, .bool (decide (d.Kind = 2)))], [(3, (c_Deed d)), (100000, [.int .i64 box, .int .i64 box1, .int .i64 box2, .int .i64 box3, .row 100000 0, .row 100001 0, .row 100002 0, .row 100003 0, .int .i64 box4])], [(100000, ⟨3, 1, 0, 0, rc, rn, 0, [], (row.map e_i64)⟩), (100001, ⟨60, 2, 0, 0, rc1, rn1, 0, [], (row1.map e_Trust)⟩), (100002, ⟨103, 3, 0, 0, rc2, rn2, 0, [], (row2.map e_Wish)⟩), (100003, ⟨105, 3, 0, 0, rc3, rn3, 0, [], (row3.map e_Reply)⟩)], [], []⟩ .nil (by kernel_rfl) ?_
        obtain ⟨v2, hv, hF⟩ := ob_elim hF
        refine Wk_meet (⟨[(0, .ptr 100000 0), (3, .ptr 3 0), (5, .bool ((decide (0 ≤ d.Who)) && (decide (d.Who < (row.length : Int))))), (26, .int .i64 d.Kind), (73, .bool v2)], [(3, (c_Deed d)), (100000, [.int .i64 box, .int .i64 box1, .int .i64 box2, .int .i64 box3, .row 100000 0, .row 100001 0, .row 100002 0, .row 100003 0, .int .i64 box4])], [(100000, ⟨3, 1, 0, 0, rc, rn, 0, [], (row.map e_i64)⟩), (100001, ⟨60, 2, 0, 0, rc1, rn1, 0, [], (row1.map e_Trust)⟩), (100002, ⟨103, 3, 0, 0, rc2, rn2, 0, [], (row2.map e_Wish)⟩), (100003, ⟨105, 3, 0, 0, rc3, rn3, 0, [], (row3.map e_Reply)⟩)], [], []⟩ : S) ?_ ?_
        · have hF := hv
          refine Wk_split rfl (fun hb => ?_) (fun hb => ?_)
          · have hF := ite_t hF hb
            refine Wk_skip ?_
            exact Wk_met (fs := [0, 3, 5, 26, 73]) (bs := [3, 100000]) (rs := [100000, 100001, 100002, 100003]) (ms := []) (aa := []) (nv := []) (by first | (rw [← some_elim hF]; kernel_rfl) | kernel_rfl)
          · have hF := ite_f hF hb
            refine WR [] [0, 3, 5, 26, 73] [3, 100000] [100000, 100001, 100002, 100003] [] [] [] ⟨[(0, .ptr 100000 0), (3, .ptr 3 0), (5, .bool ((decide (0 ≤ d.Who)) && (decide (d.Who < (row.length : Int))))), (26, .int .i64 d.Kind), (73, .bool (decide (d.Kind = 5)))], [(3, (c_Deed d)), (100000, [.int .i64 box, .int .i64 box1, .int .i64 box2, .int .i64 box3, .row 100000 0, .row 100001 0, .row 100002 0, .row 100003 0, .int .i64 box4])], [(100000, ⟨3, 1, 0, 0, rc, rn, 0, [], (row.map e_i64)⟩), (100001, ⟨60, 2, 0, 0, rc1, rn1, 0, [], (row1.map e_Trust)⟩), (100002, ⟨103, 3, 0, 0, rc2, rn2, 0, [], (row2.map e_Wish)⟩), (100003, ⟨105, 3, 0, 0, rc3, rn3, 0, [], (row3.map e_Reply)⟩)], [], []⟩ .nil (by kernel_rfl) ?_
            exact Wk_met (fs := [0, 3, 5, 26, 73]) (bs := [3, 100000]) (rs := [100000, 100001, 100002, 100003]) (ms := []) (aa := []) (nv := []) (by first | (rw [← some_elim hF]; kernel_rfl) | kernel_rfl)
        · refine Wk_split rfl (fun hb => ?_) (fun hb => ?_)
          · have hF := ite_t hF hb
            refine Wk_seq ?_
            refine Wk_seq ?_
            refine WR [] [0, 3, 77] [3, 100000] [100000, 100001, 100002, 100003] [] [] [] ⟨[(0, .ptr 100000 0), (3, .ptr 3 0), (77, .bool (!((decide (0 ≤ d.Who)) && (decide (d.Who < (row.length : Int))))))], [(3, (c_Deed d)), (100000, [.int .i64 box, .int .i64 box1, .int .i64 box2, .int .i64 box3, .row 100000 0, .row 100001 0, .row 100002 0, .row 100003 0, .int .i64 box4])], [(100000, ⟨3, 1, 0, 0, rc, rn, 0, [], (row.map e_i64)⟩), (100001, ⟨60, 2, 0, 0, rc1, rn1, 0, [], (row1.map e_Trust)⟩), (100002, ⟨103, 3, 0, 0, rc2, rn2, 0, [], (row2.map e_Wish)⟩), (100003, ⟨105, 3, 0, 0, rc3, rn3, 0, [], (row3.map e_Reply)⟩)], [], []⟩ .nil (by kernel_rfl) ?_
            refine Wk_split rfl (fun hb => ?_) (fun hb => ?_)
            · have hF := ite_t hF hb
              refine Wk_seq ?_
              refine WR [] [4] [100000] [100000, 100001, 100002, 100003] [] [] [] ⟨[(4, .int .i64 3)], [(100000, [.int .i64 box, .int .i64 box1, .int .i64 box2, .int .i64 box3, .row 100000 0, .row 100001 0, .row 100002 0, .row 100003 0, .int .i64 box4])], [(100000, ⟨3, 1, 0, 0, rc, rn, 0, [], (row.map e_i64)⟩), (100001, ⟨60, 2, 0, 0, rc1, rn1, 0, [], (row1.map e_Trust)⟩), (100002, ⟨103, 3, 0, 0, rc2, rn2, 0, [], (row2.map e_Wish)⟩), (100003, ⟨105, 3, 0, 0, rc3, rn3, 0, [], (row3.map e_Reply)⟩)], [], []⟩ .nil (by kernel_rfl) ?_
              have hF := some_elim hF
              exact Wk_ret (hfin _ ⟨[100000, 100001, 100002, 100003], [100000], [100000, 100001, 100002, 100003], [], [], [(100002, ⟨1, false, false, false⟩), (100003, ⟨1, false, false, false⟩)], by first | (rw [← hF]; kernel_rfl) | kernel_rfl⟩)
            · have hF := ite_f hF hb
              refine Wk_skip ?_
              refine Wk_seq ?_
              refine Wk_seq ?_
              refine WR [] [0, 3, 80] [3, 100000] [100000, 100001, 100002, 100003] [] [] [] ⟨[(0, .ptr 100000 0), (3, .ptr 3 0), (80, .bool (decide (d.Kind = 5)))], [(3, (c_Deed d)), (100000, [.int .i64 box, .int .i64 box1, .int .i64 box2, .int .i64 box3, .row 100000 0, .row 100001 0, .row 100002 0, .row 100003 0, .int .i64 box4])], [(100000, ⟨3, 1, 0, 0, rc, rn, 0, [], (row.map e_i64)⟩), (100001, ⟨60, 2, 0, 0, rc1, rn1, 0, [], (row1.map e_Trust)⟩), (100002, ⟨103, 3, 0, 0, rc2, rn2, 0, [], (row2.map e_Wish)⟩), (100003, ⟨105, 3, 0, 0, rc3, rn3, 0, [], (row3.map e_Reply)⟩)], [], []⟩ .nil (by kernel_rfl) ?_
              refine Wk_split rfl (fun hb => ?_) (fun hb => ?_)
              · have hF := ite_t hF hb
                refine Wk_seq ?_
                obtain ⟨h4, hF⟩ := asrt_elim hF
                obtain ⟨h5, hF⟩ := asrt_elim hF
                refine WD [.av (e_Trust (lget row1 d.Who)), .xs ((lset row1 d.Who (⟨0, 0⟩ : Trust)).map e_Trust)] [0] [100000] [100000, 100001, 100002, 100003] [] [] [] ⟨[(0, .ptr 100000 0)], [(100000, [.int .i64 box, .int .i64 box1, .int .i64 box2, .int .i64 box3, .row 100000 0, .row 100001 0, .row 100002 0, .row 100003 0, .int .i64 box4])], [(100000, ⟨3, 1, 0, 0, rc, rn, 0, [], (row.map e_i64)⟩), (100001, ⟨60, 2, 0, 0, rc1, rn1, 0, [], ((lset row1 d.Who (⟨0, 0⟩ : Trust)).map e_Trust)⟩), (100002, ⟨103, 3, 0, 0, rc2, rn2, 0, [], (row2.map e_Wish)⟩), (100003, ⟨105, 3, 0, 0, rc3, rn3, 0, [], (row3.map e_Reply)⟩)], [], []⟩ (.cons (ixr_ok e_Trust h4) (.cons (ldr_ok e_Trust h5) (.cons (set_ok e_Trust row1 d.Who (⟨0, 0⟩ : Trust)) (.cons (Nat.zero_le d.Who.toNat) .nil)))) (by kernel_rfl) ?_
                refine Wk_exit rfl ?_
                exact Wk_metP (box, box1, box2, box3, row, (lset row1 d.Who (⟨0, 0⟩ : Trust)), row2, row3, box4) [0] [100000] [100000, 100001, 100002, 100003] [] [] [(100002, ⟨1, false, false, false⟩), (100003, ⟨1, false, false, false⟩)] hF (by kernel_rfl)
              · have hF := ite_f hF hb
                refine Wk_skip ?_
                refine Wk_seq ?_
                obtain ⟨h6, hF⟩ := asrt_elim hF
                obtain ⟨h7, hF⟩ := asrt_elim hF
                refine WD [.av (e_i64 (lget row d.Who))] [0, 3, 7] [3, 7, 100000] [100000, 100001, 100002, 100003] [] [] [] ⟨[(0, .ptr 100000 0), (3, .ptr 3 0), (7, .ptr 7 0)], [(3, (c_Deed d)), (7, [.int .i64 d.Who, .int .i64 (lget row d.Who), .int .i64 0]), (100000, [.int .i64 box, .int .i64 box1, .int .i64 box2, .int .i64 box3, .row 100000 0, .row 100001 0, .row 100002 0, .row 100003 0, .int .i64 box4])], [(100000, ⟨3, 1, 0, 0, rc, rn, 0, [], (row.map e_i64)⟩), (100001, ⟨60, 2, 0, 0, rc1, rn1, 0, [], (row1.map e_Trust)⟩), (100002, ⟨103, 3, 0, 0, rc2, rn2, 0, [], (row2.map e_Wish)⟩), (100003, ⟨105, 3, 0, 0, rc3, rn3, 0, [], (row3.map e_Reply)⟩)], [], []⟩ (.cons (ixr_ok e_i64 h6) (.cons (ldr_ok e_i64 h7) .nil)) (by kernel_rfl) ?_
                refine Wk_seq ?_
                refine Wk_seq ?_
                obtain ⟨h8, hF⟩ := asrt_elim hF
                obtain ⟨h9, hF⟩ := asrt_elim hF
                refine WD [.av (e_Trust (lget row1 d.Who))] [0, 7, 8] [7, 8, 100000] [100000, 100001, 100002, 100003] [] [] [] ⟨[(0, .ptr 100000 0), (7, .ptr 7 0), (8, .ptr 8 0)], [(7, [.int .i64 d.Who, .int .i64 (lget row d.Who), .int .i64 0]), (8, [.int .i64 ((lget row1 d.Who).Epoch), .int .i64 ((lget row1 d.Who).Until)]), (100000, [.int .i64 box, .int .i64 box1, .int .i64 box2, .int .i64 box3, .row 100000 0, .row 100001 0, .row 100002 0, .row 100003 0, .int .i64 box4])], [(100000, ⟨3, 1, 0, 0, rc, rn, 0, [], (row.map e_i64)⟩), (100001, ⟨60, 2, 0, 0, rc1, rn1, 0, [], (row1.map e_Trust)⟩), (100002, ⟨103, 3, 0, 0, rc2, rn2, 0, [], (row2.map e_Wish)⟩), (100003, ⟨105, 3, 0, 0, rc3, rn3, 0, [], (row3.map e_Reply)⟩)], [], []⟩ (.cons (ixr_ok e_Trust h8) (.cons (ldr_ok e_Trust h9) .nil)) (by kernel_rfl) ?_
                refine Wk_seq ?_
                refine WR [] [0, 7, 8, 115] [7, 8, 100000] [100000, 100001, 100002, 100003] [] [] [] ⟨[(0, .ptr 100000 0), (7, .ptr 7 0), (8, .ptr 8 0), (115, .bool (decide ((lget row d.Who) < ((lget row1 d.Who).Until))))], [(7, [.int .i64 d.Who, .int .i64 (lget row d.Who), .int .i64 0]), (8, [.int .i64 ((lget row1 d.Who).Epoch), .int .i64 ((lget row1 d.Who).Until)]), (100000, [.int .i64 box, .int .i64 box1, .int .i64 box2, .int .i64 box3, .row 100000 0, .row 100001 0, .row 100002 0, .row 100003 0, .int .i64 box4])], [(100000, ⟨3, 1, 0, 0, rc, rn, 0, [], (row.map e_i64)⟩), (100001, ⟨60, 2, 0, 0, rc1, rn1, 0, [], (row1.map e_Trust)⟩), (100002, ⟨103, 3, 0, 0, rc2, rn2, 0, [], (row2.map e_Wish)⟩), (100003, ⟨105, 3, 0, 0, rc3, rn3, 0, [], (row3.map e_Reply)⟩)], [], []⟩ .nil (by kernel_rfl) ?_
                obtain ⟨v3, hv, hF⟩ := ob_elim hF
                refine Wk_meet (⟨[(0, .ptr 100000 0), (7, .ptr 7 0)], [(7, (c_Wish v3)), (100000, [.int .i64 box, .int .i64 box1, .int .i64 box2, .int .i64 box3, .row 100000 0, .row 100001 0, .row 100002 0, .row 100003 0, .int .i64 box4])], [(100000, ⟨3, 1, 0, 0, rc, rn, 0, [], (row.map e_i64)⟩), (100001, ⟨60, 2, 0, 0, rc1, rn1, 0, [], (row1.map e_Trust)⟩), (100002, ⟨103, 3, 0, 0, rc2, rn2, 0, [], (row2.map e_Wish)⟩), (100003, ⟨105, 3, 0, 0, rc3, rn3, 0, [], (row3.map e_Reply)⟩)], [], []⟩ : S) ?_ ?_
                · have hF := hv
                  refine Wk_split rfl (fun hb => ?_) (fun hb => ?_)
                  · have hF := ite_t hF hb
                    refine WR [] [0, 7] [7, 100000] [100000, 100001, 100002, 100003] [] [] [] ⟨[(0, .ptr 100000 0), (7, .ptr 7 0)], [(7, [.int .i64 d.Who, .int .i64 (lget row d.Who), .int .i64 ((lget row1 d.Who).Epoch)]), (100000, [.int .i64 box, .int .i64 box1, .int .i64 box2, .int .i64 box3, .row 100000 0, .row 100001 0, .row 100002 0, .row 100003 0, .int .i64 box4])], [(100000, ⟨3, 1, 0, 0, rc, rn, 0, [], (row.map e_i64)⟩), (100001, ⟨60, 2, 0, 0, rc1, rn1, 0, [], (row1.map e_Trust)⟩), (100002, ⟨103, 3, 0, 0, rc2, rn2, 0, [], (row2.map e_Wish)⟩), (100003, ⟨105, 3, 0, 0, rc3, rn3, 0, [], (row3.map e_Reply)⟩)], [], []⟩ .nil (by kernel_rfl) ?_
                    exact Wk_met (fs := [0, 7]) (bs := [7, 100000]) (rs := [100000, 100001, 100002, 100003]) (ms := []) (aa := []) (nv := []) (by first | (rw [← some_elim hF]; kernel_rfl) | kernel_rfl)
                  · have hF := ite_f hF hb
                    refine Wk_skip ?_
                    exact Wk_met (fs := [0, 7]) (bs := [7, 100000]) (rs := [100000, 100001, 100002, 100003]) (ms := []) (aa := []) (nv := []) (by first | (rw [← some_elim hF]; kernel_rfl) | kernel_rfl)
                · obtain ⟨h10, hF⟩ := asrt_elim hF
                  refine WD [.sealed, .xs ((row2 ++ [v3]).map e_Wish)] [0] [100000] [100000, 100001, 100002, 100003] [] [] [] ⟨[(0, .ptr 100000 0)], [(100000, [.int .i64 box, .int .i64 box1, .int .i64 box2, .int .i64 box3, .row 100000 0, .row 100001 0, .row 100002 1, .row 100003 0, .int .i64 box4])], [(100000, ⟨3, 1, 0, 0, rc, rn, 0, [], (row.map e_i64)⟩), (100001, ⟨60, 2, 0, 0, rc1, rn1, 0, [], (row1.map e_Trust)⟩), (100002, ⟨103, 3, 1, 0, rc2, rn2, 0, [], ((row2 ++ [v3]).map e_Wish)⟩), (100003, ⟨105, 3, 0, 0, rc3, rn3, 0, [], (row3.map e_Reply)⟩)], [], []⟩ (.cons (app_ok e_Wish row2 [v3]) (.cons (appl_ok e_Wish h10) .nil)) (by kernel_rfl) ?_
                  refine Wk_blk ?_
                  exact Wk_metP (box, box1, box2, box3, row, row1, (row2 ++ [v3]), row3, box4) [0] [100000] [100000, 100001, 100002, 100003] [] [] [(100002, ⟨1, false, false, false⟩), (100003, ⟨1, false, false, false⟩)] hF (by kernel_rfl)
          · have hF := ite_f hF hb
            refine Wk_seq ?_
            refine Wk_seq ?_
            refine WR [] [0, 3, 26, 131] [3, 100000] [100000, 100001, 100002, 100003] [] [] [] ⟨[(0, .ptr 100000 0), (3, .ptr 3 0), (26, .int .i64 d.Kind), (131, .bool (decide (d.Kind = 3)))], [(3, (c_Deed d)), (100000, [.int .i64 box, .int .i64 box1, .int .i64 box2, .int .i64 box3, .row 100000 0, .row 100001 0, .row 100002 0, .row 100003 0, .int .i64 box4])], [(100000, ⟨3, 1, 0, 0, rc, rn, 0, [], (row.map e_i64)⟩), (100001, ⟨60, 2, 0, 0, rc1, rn1, 0, [], (row1.map e_Trust)⟩), (100002, ⟨103, 3, 0, 0, rc2, rn2, 0, [], (row2.map e_Wish)⟩), (100003, ⟨105, 3, 0, 0, rc3, rn3, 0, [], (row3.map e_Reply)⟩)], [], []⟩ .nil (by kernel_rfl) ?_
            obtain ⟨v4, hv, hF⟩ := ob_elim hF
            refine Wk_meet (⟨[(0, .ptr 100000 0), (3, .ptr 3 0), (26, .int .i64 d.Kind), (131, .bool v4)], [(3, (c_Deed d)), (100000, [.int .i64 box, .int .i64 box1, .int .i64 box2, .int .i64 box3, .row 100000 0, .row 100001 0, .row 100002 0, .row 100003 0, .int .i64 box4])], [(100000, ⟨3, 1, 0, 0, rc, rn, 0, [], (row.map e_i64)⟩), (100001, ⟨60, 2, 0, 0, rc1, rn1, 0, [], (row1.map e_Trust)⟩), (100002, ⟨103, 3, 0, 0, rc2, rn2, 0, [], (row2.map e_Wish)⟩), (100003, ⟨105, 3, 0, 0, rc3, rn3, 0, [], (row3.map e_Reply)⟩)], [], []⟩ : S) ?_ ?_
            · have hF := hv
              refine Wk_split rfl (fun hb => ?_) (fun hb => ?_)
              · have hF := ite_t hF hb
                refine Wk_skip ?_
                exact Wk_met (fs := [0, 3, 26, 131]) (bs := [3, 100000]) (rs := [100000, 100001, 100002, 100003]) (ms := []) (aa := []) (nv := []) (by first | (rw [← some_elim hF]; kernel_rfl) | kernel_rfl)
              · have hF := ite_f hF hb
                refine Wk_seq ?_
                refine WR [] [0, 3, 26, 131] [3, 100000] [100000, 100001, 100002, 100003] [] [] [] ⟨[(0, .ptr 100000 0), (3, .ptr 3 0), (26, .int .i64 d.Kind), (131, .bool (decide (d.Kind = 6)))], [(3, (c_Deed d)), (100000, [.int .i64 box, .int .i64 box1, .int .i64 box2, .int .i64 box3, .row 100000 0, .row 100001 0, .row 100002 0, .row 100003 0, .int .i64 box4])], [(100000, ⟨3, 1, 0, 0, rc, rn, 0, [], (row.map e_i64)⟩), (100001, ⟨60, 2, 0, 0, rc1, rn1, 0, [], (row1.map e_Trust)⟩), (100002, ⟨103, 3, 0, 0, rc2, rn2, 0, [], (row2.map e_Wish)⟩), (100003, ⟨105, 3, 0, 0, rc3, rn3, 0, [], (row3.map e_Reply)⟩)], [], []⟩ .nil (by kernel_rfl) ?_
                refine Wk_split rfl (fun hb => ?_) (fun hb => ?_)
                · have hF := ite_t hF hb
                  refine Wk_skip ?_
                  exact Wk_met (fs := [0, 3, 26, 131]) (bs := [3, 100000]) (rs := [100000, 100001, 100002, 100003]) (ms := []) (aa := []) (nv := []) (by first | (rw [← some_elim hF]; kernel_rfl) | kernel_rfl)
                · have hF := ite_f hF hb
                  refine WR [] [0, 3, 26, 131] [3, 100000] [100000, 100001, 100002, 100003] [] [] [] ⟨[(0, .ptr 100000 0), (3, .ptr 3 0), (26, .int .i64 d.Kind), (131, .bool (decide (d.Kind = 7)))], [(3, (c_Deed d)), (100000, [.int .i64 box, .int .i64 box1, .int .i64 box2, .int .i64 box3, .row 100000 0, .row 100001 0, .row 100002 0, .row 100003 0, .int .i64 box4])], [(100000, ⟨3, 1, 0, 0, rc, rn, 0, [], (row.map e_i64)⟩), (100001, ⟨60, 2, 0, 0, rc1, rn1, 0, [], (row1.map e_Trust)⟩), (100002, ⟨103, 3, 0, 0, rc2, rn2, 0, [], (row2.map e_Wish)⟩), (100003, ⟨105, 3, 0, 0, rc3, rn3, 0, [], (row3.map e_Reply)⟩)], [], []⟩ .nil (by kernel_rfl) ?_
                  exact Wk_met (fs := [0, 3, 26, 131]) (bs := [3, 100000]) (rs := [100000, 100001, 100002, 100003]) (ms := []) (aa := []) (nv := []) (by first | (rw [← some_elim hF]; kernel_rfl) | kernel_rfl)
            · refine Wk_split rfl (fun hb => ?_) (fun hb => ?_)
              · have hF := ite_t hF hb
                refine Wk_seq ?_
                refine Wk_seq ?_
                refine WD [.nat (row2.length : Int)] [0, 3, 148] [3, 100000] [100000, 100001, 100002, 100003] [] [] [] ⟨[(0, .ptr 100000 0), (3, .ptr 3 0), (148, .bool ((decide (d.N < 0)) || (decide ((row2.length : Int) ≤ d.N))))], [(3, (c_Deed d)), (100000, [.int .i64 box, .int .i64 box1, .int .i64 box2, .int .i64 box3, .row 100000 0, .row 100001 0, .row 100002 0, .row 100003 0, .int .i64 box4])], [(100000, ⟨3, 1, 0, 0, rc, rn, 0, [], (row.map e_i64)⟩), (100001, ⟨60, 2, 0, 0, rc1, rn1, 0, [], (row1.map e_Trust)⟩), (100002, ⟨103, 3, 0, 0, rc2, rn2, 0, [], (row2.map e_Wish)⟩), (100003, ⟨105, 3, 0, 0, rc3, rn3, 0, [], (row3.map e_Reply)⟩)], [], []⟩ (.cons (fun (_ : (!(decide (d.N < 0))) = true) => (len_ok e_Wish row2)) .nil) (by kernel_rfl) ?_
                refine Wk_split rfl (fun hb => ?_) (fun hb => ?_)
                · have hF := ite_t hF hb
                  refine Wk_seq ?_
                  refine WR [] [4] [100000] [100000, 100001, 100002, 100003] [] [] [] ⟨[(4, .int .i64 3)], [(100000, [.int .i64 box, .int .i64 box1, .int .i64 box2, .int .i64 box3, .row 100000 0, .row 100001 0, .row 100002 0, .row 100003 0, .int .i64 box4])], [(100000, ⟨3, 1, 0, 0, rc, rn, 0, [], (row.map e_i64)⟩), (100001, ⟨60, 2, 0, 0, rc1, rn1, 0, [], (row1.map e_Trust)⟩), (100002, ⟨103, 3, 0, 0, rc2, rn2, 0, [], (row2.map e_Wish)⟩), (100003, ⟨105, 3, 0, 0, rc3, rn3, 0, [], (row3.map e_Reply)⟩)], [], []⟩ .nil (by kernel_rfl) ?_
                  have hF := some_elim hF
                  exact Wk_ret (hfin _ ⟨[100000, 100001, 100002, 100003], [100000], [100000, 100001, 100002, 100003], [], [], [(100002, ⟨1, false, false, false⟩), (100003, ⟨1, false, false, false⟩)], by first | (rw [← hF]; kernel_rfl) | kernel_rfl⟩)
                · have hF := ite_f hF hb
                  refine Wk_skip ?_
                  refine Wk_seq ?_
                  refine WR [] [0, 3, 150] [3, 100000] [100000, 100001, 100002, 100003] [] [] [] ⟨[(0, .ptr 100000 0), (3, .ptr 3 0), (150, .int .i64 d.Kind)], [(3, (c_Deed d)), (100000, [.int .i64 box, .int .i64 box1, .int .i64 box2, .int .i64 box3, .row 100000 0, .row 100001 0, .row 100002 0, .row 100003 0, .int .i64 box4])], [(100000, ⟨3, 1, 0, 0, rc, rn, 0, [], (row.map e_i64)⟩), (100001, ⟨60, 2, 0, 0, rc1, rn1, 0, [], (row1.map e_Trust)⟩), (100002, ⟨103, 3, 0, 0, rc2, rn2, 0, [], (row2.map e_Wish)⟩), (100003, ⟨105, 3, 0, 0, rc3, rn3, 0, [], (row3.map e_Reply)⟩)], [], []⟩ .nil (by kernel_rfl) ?_
                  refine Wk_block ?_
                  refine Wk_seq ?_
                  refine WR [] [0, 3, 150, 151] [3, 100000] [100000, 100001, 100002, 100003] [] [] [] ⟨[(0, .ptr 100000 0), (3, .ptr 3 0), (150, .int .i64 d.Kind), (151, .bool (decide (d.Kind = 3)))], [(3, (c_Deed d)), (100000, [.int .i64 box, .int .i64 box1, .int .i64 box2, .int .i64 box3, .row 100000 0, .row 100001 0, .row 100002 0, .row 100003 0, .int .i64 box4])], [(100000, ⟨3, 1, 0, 0, rc, rn, 0, [], (row.map e_i64)⟩), (100001, ⟨60, 2, 0, 0, rc1, rn1, 0, [], (row1.map e_Trust)⟩), (100002, ⟨103, 3, 0, 0, rc2, rn2, 0, [], (row2.map e_Wish)⟩), (100003, ⟨105, 3, 0, 0, rc3, rn3, 0, [], (row3.map e_Reply)⟩)], [], []⟩ .nil (by kernel_rfl) ?_
                  refine Wk_split rfl (fun hb => ?_) (fun hb => ?_)
                  · have hF := ite_t hF hb
                    obtain ⟨x, h11, hF⟩ := ob_elim hF
                    obtain ⟨x1, h12, hF⟩ := ob_elim hF
                    refine WD [.callE [100000] [100000, 100001, 100002, 100003] [] [] (.agg (c_Wish x.1)) ⟨[], [(100000, [.int .i64 x.2.1, .int .i64 x.2.2.1, .int .i64 x.2.2.2.1, .int .i64 x.2.2.2.2.1, .row 100000 0, .row 100001 0, .row 100002 1, .row 100003 0, .int .i64 x.2.2.2.2.2.2])], [(100000, ⟨3, 1, 0, 0, rc, rn, 0, [], (row.map e_i64)⟩), (100001, ⟨60, 2, 0, 0, rc1, rn1, 0, [], (row1.map e_Trust)⟩), (100002, ⟨103, 3, 1, 0, 0, false, 0, [], (x.2.2.2.2.2.1.map e_Wish)⟩), (100003, ⟨105, 3, 0, 0, rc3, rn3, 0, [], (row3.map e_Reply)⟩)], [], []⟩, .callE [100000] [100000, 100001, 100002, 100003] [] [] (.tup []) ⟨[], [(100000, [.int .i64 x1.1, .int .i64 x1.2.1, .int .i64 x1.2.2.1, .int .i64 x1.2.2.2.1, .row 100000 0, .row 100001 0, .row 100002 1, .row 100003 1, .int .i64 x1.2.2.2.2.2])], [(100000, ⟨3, 1, 0, 0, rc, rn, 0, [], (row.map e_i64)⟩), (100001, ⟨60, 2, 0, 0, rc1, rn1, 0, [], (row1.map e_Trust)⟩), (100002, ⟨103, 3, 1, 0, 0, false, 0, [], (x.2.2.2.2.2.1.map e_Wish)⟩), (100003, ⟨105, 3, 1, 0, rc3, rn3, 0, [], (x1.2.2.2.2.1.map e_Reply)⟩)], [], []⟩] [0] [100000] [100000, 100001, 100002, 100003] [] [] [] ⟨[(0, .ptr 100000 0)], [(100000, [.int .i64 x1.1, .int .i64 x1.2.1, .int .i64 x1.2.2.1, .int .i64 x1.2.2.2.1, .row 100000 0, .row 100001 0, .row 100002 1, .row 100003 1, .int .i64 x1.2.2.2.2.2])], [(100000, ⟨3, 1, 0, 0, rc, rn, 0, [], (row.map e_i64)⟩), (100001, ⟨60, 2, 0, 0, rc1, rn1, 0, [], (row1.map e_Trust)⟩), (100002, ⟨103, 3, 1, 0, 0, false, 0, [], (x.2.2.2.2.2.1.map e_Wish)⟩), (100003, ⟨105, 3, 1, 0, rc3, rn3, 0, [], (x1.2.2.2.2.1.map e_Reply)⟩)], [], []⟩ (.cons (Pe.ren (lease_take_api_Wish_v1_ok d.N box box1 box2 box3 box4 row row1 row2 row3 0 rc rn 0 rc1 rn1 0 rc2 rn2 0 rc3 rn3 x h11) ⟨[], [], [], []⟩) (.cons (Pe.ren (lease_court_arrives_v1_ok x.1 x.2.1 x.2.2.1 x.2.2.2.1 x.2.2.2.2.1 x.2.2.2.2.2.2 row row1 x.2.2.2.2.2.1 row3 0 rc rn 0 rc1 rn1 0 0 false 0 rc3 rn3 x1 h12) ⟨[], [], [], [(100002, 1)]⟩) .nil)) (by kernel_rfl) ?_
                    refine Wk_blk ?_
                    refine Wk_blk ?_
                    exact Wk_metP (x1.1, x1.2.1, x1.2.2.1, x1.2.2.2.1, row, row1, x.2.2.2.2.2.1, x1.2.2.2.2.1, x1.2.2.2.2.2) [0] [100000] [100000, 100001, 100002, 100003] [] [] [(100003, ⟨1, false, false, false⟩)] hF (by kernel_rfl)
                  · have hF := ite_f hF hb
                    refine Wk_seq ?_
                    refine WR [] [0, 3, 150, 162] [3, 100000] [100000, 100001, 100002, 100003] [] [] [] ⟨[(0, .ptr 100000 0), (3, .ptr 3 0), (150, .int .i64 d.Kind), (162, .bool (decide (d.Kind = 6)))], [(3, (c_Deed d)), (100000, [.int .i64 box, .int .i64 box1, .int .i64 box2, .int .i64 box3, .row 100000 0, .row 100001 0, .row 100002 0, .row 100003 0, .int .i64 box4])], [(100000, ⟨3, 1, 0, 0, rc, rn, 0, [], (row.map e_i64)⟩), (100001, ⟨60, 2, 0, 0, rc1, rn1, 0, [], (row1.map e_Trust)⟩), (100002, ⟨103, 3, 0, 0, rc2, rn2, 0, [], (row2.map e_Wish)⟩), (100003, ⟨105, 3, 0, 0, rc3, rn3, 0, [], (row3.map e_Reply)⟩)], [], []⟩ .nil (by kernel_rfl) ?_
                    refine Wk_split rfl (fun hb => ?_) (fun hb => ?_)
                    · have hF := ite_t hF hb
                      obtain ⟨h13, hF⟩ := asrt_elim hF
                      obtain ⟨h14, hF⟩ := asrt_elim hF
                      obtain ⟨h15, hF⟩ := asrt_elim hF
                      refine WDL ((row2 ++ [(⟨(lget row2 d.N).Who, (lget row2 d.N).Sent, (lget row2 d.N).Epoch⟩ : Wish)])) (fun v5 : List Wish => ⟨[(0, .ptr 100000 0)], [(100000, [.int .i64 box, .int .i64 box1, .int .i64 box2, .int .i64 box3, .row 100000 0, .row 100001 0, .row 100002 1, .row 100003 0, .int .i64 box4])], [(100000, ⟨3, 1, 0, 0, rc, rn, 0, [], (row.map e_i64)⟩), (100001, ⟨60, 2, 0, 0, rc1, rn1, 0, [], (row1.map e_Trust)⟩), (100002, ⟨103, 3, 1, 0, rc2, rn2, 0, [], (v5.map e_Wish)⟩), (100003, ⟨105, 3, 0, 0, rc3, rn3, 0, [], (row3.map e_Reply)⟩)], [], []⟩) [.av (e_Wish (lget row2 d.N)), .sealed, .xs ((row2 ++ [(⟨(lget row2 d.N).Who, (lget row2 d.N).Sent, (lget row2 d.N).Epoch⟩ : Wish)]).map e_Wish)] [0] [100000] [100000, 100001, 100002, 100003] [] [] [] (.cons (ixr_ok e_Wish h13) (.cons (ldr_ok e_Wish h14) (.cons (app_ok e_Wish row2 [(⟨(lget row2 d.N).Who, (lget row2 d.N).Sent, (lget row2 d.N).Epoch⟩ : Wish)]) (.cons (appl_ok e_Wish h15) .nil)))) (by kernel_rfl) (fun v5 hv => ?_)
                      have hF := lt_elim hF hv
                      refine Wk_blk ?_
                      refine Wk_blk ?_
                      exact Wk_metP (box, box1, box2, box3, row, row1, v5, row3, box4) [0] [100000] [100000, 100001, 100002, 100003] [] [] [(100002, ⟨1, false, false, false⟩), (100003, ⟨1, false, false, false⟩)] hF (by kernel_rfl)
                    · have hF := ite_f hF hb
                      refine Wk_seq ?_
                      refine WR [] [0, 3, 184] [3, 100000] [100000, 100001, 100002, 100003] [] [] [] ⟨[(0, .ptr 100000 0), (3, .ptr 3 0), (184, .bool (decide (d.Kind = 7)))], [(3, (c_Deed d)), (100000, [.int .i64 box, .int .i64 box1, .int .i64 box2, .int .i64 box3, .row 100000 0, .row 100001 0, .row 100002 0, .row 100003 0, .int .i64 box4])], [(100000, ⟨3, 1, 0, 0, rc, rn, 0, [], (row.map e_i64)⟩), (100001, ⟨60, 2, 0, 0, rc1, rn1, 0, [], (row1.map e_Trust)⟩), (100002, ⟨103, 3, 0, 0, rc2, rn2, 0, [], (row2.map e_Wish)⟩), (100003, ⟨105, 3, 0, 0, rc3, rn3, 0, [], (row3.map e_Reply)⟩)], [], []⟩ .nil (by kernel_rfl) ?_
                      refine Wk_split rfl (fun hb => ?_) (fun hb => ?_)
                      · have hF := ite_t hF hb
                        obtain ⟨x2, h16, hF⟩ := ob_elim hF
                        refine WD [.callE [100000] [100000, 100001, 100002, 100003] [] [] (.agg (c_Wish x2.1)) ⟨[], [(100000, [.int .i64 x2.2.1, .int .i64 x2.2.2.1, .int .i64 x2.2.2.2.1, .int .i64 x2.2.2.2.2.1, .row 100000 0, .row 100001 0, .row 100002 1, .row 100003 0, .int .i64 x2.2.2.2.2.2.2])], [(100000, ⟨3, 1, 0, 0, rc, rn, 0, [], (row.map e_i64)⟩), (100001, ⟨60, 2, 0, 0, rc1, rn1, 0, [], (row1.map e_Trust)⟩), (100002, ⟨103, 3, 1, 0, 0, false, 0, [], (x2.2.2.2.2.2.1.map e_Wish)⟩), (100003, ⟨105, 3, 0, 0, rc3, rn3, 0, [], (row3.map e_Reply)⟩)], [], []⟩] [0] [100000] [100000, 100001, 100002, 100003] [] [] [] ⟨[(0, .ptr 100000 0)], [(100000, [.int .i64 x2.2.1, .int .i64 x2.2.2.1, .int .i64 x2.2.2.2.1, .int .i64 x2.2.2.2.2.1, .row 100000 0, .row 100001 0, .row 100002 1, .row 100003 0, .int .i64 x2.2.2.2.2.2.2])], [(100000, ⟨3, 1, 0, 0, rc, rn, 0, [], (row.map e_i64)⟩), (100001, ⟨60, 2, 0, 0, rc1, rn1, 0, [], (row1.map e_Trust)⟩), (100002, ⟨103, 3, 1, 0, 0, false, 0, [], (x2.2.2.2.2.2.1.map e_Wish)⟩), (100003, ⟨105, 3, 0, 0, rc3, rn3, 0, [], (row3.map e_Reply)⟩)], [], []⟩ (.cons (Pe.ren (lease_take_api_Wish_v1_ok d.N box box1 box2 box3 box4 row row1 row2 row3 0 rc rn 0 rc1 rn1 0 rc2 rn2 0 rc3 rn3 x2 h16) ⟨[], [], [], []⟩) .nil) (by kernel_rfl) ?_
                        refine Wk_blk ?_
                        refine Wk_blk ?_
                        exact Wk_metP (x2.2.1, x2.2.2.1, x2.2.2.2.1, x2.2.2.2.2.1, row, row1, x2.2.2.2.2.2.1, row3, x2.2.2.2.2.2.2) [0] [100000] [100000, 100001, 100002, 100003] [] [] [(100003, ⟨1, false, false, false⟩)] hF (by kernel_rfl)
                      · have hF := ite_f hF hb
                        refine Wk_skip ?_
                        refine Wk_blk ?_
                        refine Wk_blk ?_
                        exact Wk_metP (box, box1, box2, box3, row, row1, row2, row3, box4) [0] [100000] [100000, 100001, 100002, 100003] [] [] [(100002, ⟨1, false, false, false⟩), (100003, ⟨1, false, false, false⟩)] hF (by kernel_rfl)
              · have hF := ite_f hF hb
                refine Wk_seq ?_
                refine Wk_seq ?_
                refine WR [] [0, 3, 26, 193] [3, 100000] [100000, 100001, 100002, 100003] [] [] [] ⟨[(0, .ptr 100000 0), (3, .ptr 3 0), (26, .int .i64 d.Kind), (193, .bool (decide (d.Kind = 4)))], [(3, (c_Deed d)), (100000, [.int .i64 box, .int .i64 box1, .int .i64 box2, .int .i64 box3, .row 100000 0, .row 100001 0, .row 100002 0, .row 100003 0, .int .i64 box4])], [(100000, ⟨3, 1, 0, 0, rc, rn, 0, [], (row.map e_i64)⟩), (100001, ⟨60, 2, 0, 0, rc1, rn1, 0, [], (row1.map e_Trust)⟩), (100002, ⟨103, 3, 0, 0, rc2, rn2, 0, [], (row2.map e_Wish)⟩), (100003, ⟨105, 3, 0, 0, rc3, rn3, 0, [], (row3.map e_Reply)⟩)], [], []⟩ .nil (by kernel_rfl) ?_
                obtain ⟨v6, hv, hF⟩ := ob_elim hF
                refine Wk_meet (⟨[(0, .ptr 100000 0), (3, .ptr 3 0), (193, .bool v6)], [(3, (c_Deed d)), (100000, [.int .i64 box, .int .i64 box1, .int .i64 box2, .int .i64 box3, .row 100000 0, .row 100001 0, .row 100002 0, .row 100003 0, .int .i64 box4])], [(100000, ⟨3, 1, 0, 0, rc, rn, 0, [], (row.map e_i64)⟩), (100001, ⟨60, 2, 0, 0, rc1, rn1, 0, [], (row1.map e_Trust)⟩), (100002, ⟨103, 3, 0, 0, rc2, rn2, 0, [], (row2.map e_Wish)⟩), (100003, ⟨105, 3, 0, 0, rc3, rn3, 0, [], (row3.map e_Reply)⟩)], [], []⟩ : S) ?_ ?_
                · have hF := hv
                  refine Wk_split rfl (fun hb => ?_) (fun hb => ?_)
                  · have hF := ite_t hF hb
                    refine Wk_skip ?_
                    exact Wk_met (fs := [0, 3, 193]) (bs := [3, 100000]) (rs := [100000, 100001, 100002, 100003]) (ms := []) (aa := []) (nv := []) (by first | (rw [← some_elim hF]; kernel_rfl) | kernel_rfl)
                  · have hF := ite_f hF hb
                    refine WR [] [0, 3, 193] [3, 100000] [100000, 100001, 100002, 100003] [] [] [] ⟨[(0, .ptr 100000 0), (3, .ptr 3 0), (193, .bool (decide (d.Kind = 8)))], [(3, (c_Deed d)), (100000, [.int .i64 box, .int .i64 box1, .int .i64 box2, .int .i64 box3, .row 100000 0, .row 100001 0, .row 100002 0, .row 100003 0, .int .i64 box4])], [(100000, ⟨3, 1, 0, 0, rc, rn, 0, [], (row.map e_i64)⟩), (100001, ⟨60, 2, 0, 0, rc1, rn1, 0, [], (row1.map e_Trust)⟩), (100002, ⟨103, 3, 0, 0, rc2, rn2, 0, [], (row2.map e_Wish)⟩), (100003, ⟨105, 3, 0, 0, rc3, rn3, 0, [], (row3.map e_Reply)⟩)], [], []⟩ .nil (by kernel_rfl) ?_
                    exact Wk_met (fs := [0, 3, 193]) (bs := [3, 100000]) (rs := [100000, 100001, 100002, 100003]) (ms := []) (aa := []) (nv := []) (by first | (rw [← some_elim hF]; kernel_rfl) | kernel_rfl)
                · refine Wk_split rfl (fun hb => ?_) (fun hb => ?_)
                  · have hF := ite_t hF hb
                    refine Wk_seq ?_
                    refine Wk_seq ?_
                    refine WD [.nat (row3.length : Int)] [0, 3, 209] [3, 100000] [100000, 100001, 100002, 100003] [] [] [] ⟨[(0, .ptr 100000 0), (3, .ptr 3 0), (209, .bool ((decide (d.N < 0)) || (decide ((row3.length : Int) ≤ d.N))))], [(3, (c_Deed d)), (100000, [.int .i64 box, .int .i64 box1, .int .i64 box2, .int .i64 box3, .row 100000 0, .row 100001 0, .row 100002 0, .row 100003 0, .int .i64 box4])], [(100000, ⟨3, 1, 0, 0, rc, rn, 0, [], (row.map e_i64)⟩), (100001, ⟨60, 2, 0, 0, rc1, rn1, 0, [], (row1.map e_Trust)⟩), (100002, ⟨103, 3, 0, 0, rc2, rn2, 0, [], (row2.map e_Wish)⟩), (100003, ⟨105, 3, 0, 0, rc3, rn3, 0, [], (row3.map e_Reply)⟩)], [], []⟩ (.cons (fun (_ : (!(decide (d.N < 0))) = true) => (len_ok e_Reply row3)) .nil) (by kernel_rfl) ?_
                    refine Wk_split rfl (fun hb => ?_) (fun hb => ?_)
                    · have hF := ite_t hF hb
                      refine Wk_seq ?_
                      refine WR [] [4] [100000] [100000, 100001, 100002, 100003] [] [] [] ⟨[(4, .int .i64 3)], [(100000, [.int .i64 box, .int .i64 box1, .int .i64 box2, .int .i64 box3, .row 100000 0, .row 100001 0, .row 100002 0, .row 100003 0, .int .i64 box4])], [(100000, ⟨3, 1, 0, 0, rc, rn, 0, [], (row.map e_i64)⟩), (100001, ⟨60, 2, 0, 0, rc1, rn1, 0, [], (row1.map e_Trust)⟩), (100002, ⟨103, 3, 0, 0, rc2, rn2, 0, [], (row2.map e_Wish)⟩), (100003, ⟨105, 3, 0, 0, rc3, rn3, 0, [], (row3.map e_Reply)⟩)], [], []⟩ .nil (by kernel_rfl) ?_
                      have hF := some_elim hF
                      exact Wk_ret (hfin _ ⟨[100000, 100001, 100002, 100003], [100000], [100000, 100001, 100002, 100003], [], [], [(100002, ⟨1, false, false, false⟩), (100003, ⟨1, false, false, false⟩)], by first | (rw [← hF]; kernel_rfl) | kernel_rfl⟩)
                    · have hF := ite_f hF hb
                      refine Wk_skip ?_
                      refine Wk_seq ?_
                      obtain ⟨x3, h17, hF⟩ := ob_elim hF
                      refine WD [.callE [100000] [100000, 100001, 100002, 100003] [] [] (.agg (c_Reply x3.1)) ⟨[], [(100000, [.int .i64 x3.2.1, .int .i64 x3.2.2.1, .int .i64 x3.2.2.2.1, .int .i64 x3.2.2.2.2.1, .row 100000 0, .row 100001 0, .row 100002 0, .row 100003 1, .int .i64 x3.2.2.2.2.2.2])], [(100000, ⟨3, 1, 0, 0, rc, rn, 0, [], (row.map e_i64)⟩), (100001, ⟨60, 2, 0, 0, rc1, rn1, 0, [], (row1.map e_Trust)⟩), (100002, ⟨103, 3, 0, 0, rc2, rn2, 0, [], (row2.map e_Wish)⟩), (100003, ⟨105, 3, 1, 0, 0, false, 0, [], (x3.2.2.2.2.2.1.map e_Reply)⟩)], [], []⟩] [0, 3, 9] [3, 9, 100000] [100000, 100001, 100002, 100003] [] [] [] ⟨[(0, .ptr 100000 0), (3, .ptr 3 0), (9, .ptr 9 0)], [(3, (c_Deed d)), (9, (c_Reply x3.1)), (100000, [.int .i64 x3.2.1, .int .i64 x3.2.2.1, .int .i64 x3.2.2.2.1, .int .i64 x3.2.2.2.2.1, .row 100000 0, .row 100001 0, .row 100002 0, .row 100003 1, .int .i64 x3.2.2.2.2.2.2])], [(100000, ⟨3, 1, 0, 0, rc, rn, 0, [], (row.map e_i64)⟩), (100001, ⟨60, 2, 0, 0, rc1, rn1, 0, [], (row1.map e_Trust)⟩), (100002, ⟨103, 3, 0, 0, rc2, rn2, 0, [], (row2.map e_Wish)⟩), (100003, ⟨105, 3, 1, 0, 0, false, 0, [], (x3.2.2.2.2.2.1.map e_Reply)⟩)], [], []⟩ (.cons (Pe.ren (lease_take_api_Reply_v1_ok d.N box box1 box2 box3 box4 row row1 row2 row3 0 rc rn 0 rc1 rn1 0 rc2 rn2 0 rc3 rn3 x3 h17) ⟨[], [], [], []⟩) .nil) (by kernel_rfl) ?_
                      refine Wk_seq ?_
                      obtain ⟨h18, hF⟩ := asrt_elim hF
                      refine WD [] [0, 3, 9, 10] [3, 9, 100000] [100000, 100001, 100002, 100003] [] [] [] ⟨[(0, .ptr 100000 0), (3, .ptr 3 0), (9, .ptr 9 0), (10, .ep 100001 0 x3.1.Who.toNat 0)], [(3, (c_Deed d)), (9, (c_Reply x3.1)), (100000, [.int .i64 x3.2.1, .int .i64 x3.2.2.1, .int .i64 x3.2.2.2.1, .int .i64 x3.2.2.2.2.1, .row 100000 0, .row 100001 0, .row 100002 0, .row 100003 1, .int .i64 x3.2.2.2.2.2.2])], [(100000, ⟨3, 1, 0, 0, rc, rn, 0, [], (row.map e_i64)⟩), (100001, ⟨60, 2, 0, 0, rc1, rn1, 0, [], (row1.map e_Trust)⟩), (100002, ⟨103, 3, 0, 0, rc2, rn2, 0, [], (row2.map e_Wish)⟩), (100003, ⟨105, 3, 1, 0, 0, false, 0, [], (x3.2.2.2.2.2.1.map e_Reply)⟩)], [], []⟩ (.cons (ixr_ok e_Trust h18) .nil) (by kernel_rfl) ?_
                      refine Wk_seq ?_
                      obtain ⟨h19, hF⟩ := asrt_elim hF
                      obtain ⟨h20, hF⟩ := asrt_elim hF
                      obtain ⟨h21, hF⟩ := asrt_elim hF
                      refine WD [.av (e_Trust (lget row1 x3.1.Who)), .av (e_Trust (lget row1 x3.1.Who)), .av (e_Trust (lget row1 x3.1.Who))] [0, 9, 10, 257] [9, 100000] [100000, 100001, 100002, 100003] [] [] [] ⟨[(0, .ptr 100000 0), (9, .ptr 9 0), (10, .ep 100001 0 x3.1.Who.toNat 0), (257, .bool ((decide (d.Kind = 4)) && ((decide (((lget row1 x3.1.Who).Epoch) < x3.1.Trust.Epoch)) || ((decide (x3.1.Trust.Epoch = ((lget row1 x3.1.Who).Epoch))) && (decide (((lget row1 x3.1.Who).Until) < x3.1.Trust.Until))))))], [(9, (c_Reply x3.1)), (100000, [.int .i64 x3.2.1, .int .i64 x3.2.2.1, .int .i64 x3.2.2.2.1, .int .i64 x3.2.2.2.2.1, .row 100000 0, .row 100001 0, .row 100002 0, .row 100003 1, .int .i64 x3.2.2.2.2.2.2])], [(100000, ⟨3, 1, 0, 0, rc, rn, 0, [], (row.map e_i64)⟩), (100001, ⟨60, 2, 0, 0, rc1, rn1, 0, [], (row1.map e_Trust)⟩), (100002, ⟨103, 3, 0, 0, rc2, rn2, 0, [], (row2.map e_Wish)⟩), (100003, ⟨105, 3, 1, 0, 0, false, 0, [], (x3.2.2.2.2.2.1.map e_Reply)⟩)], [], []⟩ (.cons (fun (ga0 : (decide (d.Kind = 4)) = true) => (ldr_ok e_Trust (h19 ga0))) (.cons (fun (ga0 : (!(decide (((lget row1 x3.1.Who).Epoch) < x3.1.Trust.Epoch))) = true) (ga1 : (decide (d.Kind = 4)) = true) => (ldr_ok e_Trust (h20 ga0 ga1))) (.cons (fun (ga0 : (decide (x3.1.Trust.Epoch = ((lget row1 x3.1.Who).Epoch))) = true) (ga1 : (!(decide (((lget row1 x3.1.Who).Epoch) < x3.1.Trust.Epoch))) = true) (ga2 : (decide (d.Kind = 4)) = true) => (ldr_ok e_Trust (h21 ga0 ga1 ga2))) .nil))) (by kernel_rfl) ?_
                      refine Wk_split rfl (fun hb => ?_) (fun hb => ?_)
                      · have hF := ite_t hF hb
                        obtain ⟨h22, hF⟩ := asrt_elim hF
                        refine WR [.av (e_Trust (lget row1 x3.1.Who)), .xs ((lset row1 x3.1.Who x3.1.Trust).map e_Trust)] [0] [100000] [100000, 100001, 100002, 100003] [] [] [] ⟨[(0, .ptr 100000 0)], [(100000, [.int .i64 x3.2.1, .int .i64 x3.2.2.1, .int .i64 x3.2.2.2.1, .int .i64 x3.2.2.2.2.1, .row 100000 0, .row 100001 0, .row 100002 0, .row 100003 1, .int .i64 x3.2.2.2.2.2.2])], [(100000, ⟨3, 1, 0, 0, rc, rn, 0, [], (row.map e_i64)⟩), (100001, ⟨60, 2, 0, 0, rc1, rn1, 0, [], ((lset row1 x3.1.Who x3.1.Trust).map e_Trust)⟩), (100002, ⟨103, 3, 0, 0, rc2, rn2, 0, [], (row2.map e_Wish)⟩), (100003, ⟨105, 3, 1, 0, 0, false, 0, [], (x3.2.2.2.2.2.1.map e_Reply)⟩)], [], []⟩ (.cons (ldr_ok e_Trust h22) (.cons (set_ok e_Trust row1 x3.1.Who x3.1.Trust) (.cons (Nat.zero_le x3.1.Who.toNat) .nil))) (by kernel_rfl) ?_
                        refine Wk_blk ?_
                        exact Wk_metP (x3.2.1, x3.2.2.1, x3.2.2.2.1, x3.2.2.2.2.1, row, (lset row1 x3.1.Who x3.1.Trust), row2, x3.2.2.2.2.2.1, x3.2.2.2.2.2.2) [0] [100000] [100000, 100001, 100002, 100003] [] [] [(100002, ⟨1, false, false, false⟩)] hF (by kernel_rfl)
                      · have hF := ite_f hF hb
                        refine Wk_skip ?_
                        refine Wk_blk ?_
                        exact Wk_metP (x3.2.1, x3.2.2.1, x3.2.2.2.1, x3.2.2.2.2.1, row, row1, row2, x3.2.2.2.2.2.1, x3.2.2.2.2.2.2) [0] [100000] [100000, 100001, 100002, 100003] [] [] [(100002, ⟨1, false, false, false⟩)] hF (by kernel_rfl)
                  · have hF := ite_f hF hb
                    refine Wk_seq ?_
                    refine WR [] [4] [100000] [100000, 100001, 100002, 100003] [] [] [] ⟨[(4, .int .i64 4)], [(100000, [.int .i64 box, .int .i64 box1, .int .i64 box2, .int .i64 box3, .row 100000 0, .row 100001 0, .row 100002 0, .row 100003 0, .int .i64 box4])], [(100000, ⟨3, 1, 0, 0, rc, rn, 0, [], (row.map e_i64)⟩), (100001, ⟨60, 2, 0, 0, rc1, rn1, 0, [], (row1.map e_Trust)⟩), (100002, ⟨103, 3, 0, 0, rc2, rn2, 0, [], (row2.map e_Wish)⟩), (100003, ⟨105, 3, 0, 0, rc3, rn3, 0, [], (row3.map e_Reply)⟩)], [], []⟩ .nil (by kernel_rfl) ?_
                    have hF := some_elim hF
                    exact Wk_ret (hfin _ ⟨[100000, 100001, 100002, 100003], [100000], [100000, 100001, 100002, 100003], [], [], [(100002, ⟨1, false, false, false⟩), (100003, ⟨1, false, false, false⟩)], by first | (rw [← hF]; kernel_rfl) | kernel_rfl⟩)
  · intro v hF
    have hF : lease_court_does_v1_J1 v = some r := hF
    unfold lease_court_does_v1_J1 at hF
    refine Wk_seq ?_
    refine Wk_seq ?_
    refine WR [.nat (v.2.2.2.2.2.2.1.length : Int), .nat (v.2.2.2.2.2.2.2.1.length : Int)] [277] [100000] [100000, 100001, 100002, 100003] [] [] [] ⟨[(277, .bool ((decide (100 < (v.2.2.2.2.2.2.1.length : Int))) || (decide (100 < (v.2.2.2.2.2.2.2.1.length : Int)))))], [(100000, [.int .i64 v.1, .int .i64 v.2.1, .int .i64 v.2.2.1, .int .i64 v.2.2.2.1, .row 100000 0, .row 100001 0, .row 100002 1, .row 100003 1, .int .i64 v.2.2.2.2.2.2.2.2])], [(100000, ⟨3, 1, 0, 0, rc, rn, 0, [], (v.2.2.2.2.1.map e_i64)⟩), (100001, ⟨60, 2, 0, 0, rc1, rn1, 0, [], (v.2.2.2.2.2.1.map e_Trust)⟩), (100002, ⟨103, 3, 1, 0, 0, false, 0, [], (v.2.2.2.2.2.2.1.map e_Wish)⟩), (100003, ⟨105, 3, 1, 0, 0, false, 0, [], (v.2.2.2.2.2.2.2.1.map e_Reply)⟩)], [], []⟩ (.cons (len_ok e_Wish v.2.2.2.2.2.2.1) (.cons (fun (_ : (!(decide (100 < (v.2.2.2.2.2.2.1.length : Int)))) = true) => (len_ok e_Reply v.2.2.2.2.2.2.2.1)) .nil)) (by kernel_rfl) ?_
    refine Wk_split rfl (fun hb => ?_) (fun hb => ?_)
    · have hF := ite_t hF hb
      refine Wk_seq ?_
      refine WR [] [4] [100000] [100000, 100001, 100002, 100003] [] [] [] ⟨[(4, .int .i64 9)], [(100000, [.int .i64 v.1, .int .i64 v.2.1, .int .i64 v.2.2.1, .int .i64 v.2.2.2.1, .row 100000 0, .row 100001 0, .row 100002 1, .row 100003 1, .int .i64 v.2.2.2.2.2.2.2.2])], [(100000, ⟨3, 1, 0, 0, rc, rn, 0, [], (v.2.2.2.2.1.map e_i64)⟩), (100001, ⟨60, 2, 0, 0, rc1, rn1, 0, [], (v.2.2.2.2.2.1.map e_Trust)⟩), (100002, ⟨103, 3, 1, 0, 0, false, 0, [], (v.2.2.2.2.2.2.1.map e_Wish)⟩), (100003, ⟨105, 3, 1, 0, 0, false, 0, [], (v.2.2.2.2.2.2.2.1.map e_Reply)⟩)], [], []⟩ .nil (by kernel_rfl) ?_
      have hF := some_elim hF
      exact Wk_ret (hfin _ ⟨[100000, 100001, 100002, 100003], [100000], [100000, 100001, 100002, 100003], [], [], [], by first | (rw [← hF]; kernel_rfl) | kernel_rfl⟩)
    · have hF := ite_f hF hb
      refine Wk_skip ?_
      refine Wk_seq ?_
      refine WR [] [4] [100000] [100000, 100001, 100002, 100003] [] [] [] ⟨[(4, .int .i64 0)], [(100000, [.int .i64 v.1, .int .i64 v.2.1, .int .i64 v.2.2.1, .int .i64 v.2.2.2.1, .row 100000 0, .row 100001 0, .row 100002 1, .row 100003 1, .int .i64 v.2.2.2.2.2.2.2.2])], [(100000, ⟨3, 1, 0, 0, rc, rn, 0, [], (v.2.2.2.2.1.map e_i64)⟩), (100001, ⟨60, 2, 0, 0, rc1, rn1, 0, [], (v.2.2.2.2.2.1.map e_Trust)⟩), (100002, ⟨103, 3, 1, 0, 0, false, 0, [], (v.2.2.2.2.2.2.1.map e_Wish)⟩), (100003, ⟨105, 3, 1, 0, 0, false, 0, [], (v.2.2.2.2.2.2.2.1.map e_Reply)⟩)], [], []⟩ .nil (by kernel_rfl) ?_
      have hF := some_elim hF
      exact Wk_ret (hfin _ ⟨[100000, 100001, 100002, 100003], [100000], [100000, 100001, 100002, 100003], [], [], [], by first | (rw [← hF]; kernel_rfl) | kernel_rfl⟩)

/- lease.run -/
noncomputable def lease_run_J1 (v : Int × Int × Int × Int × List Int × List Trust × List Wish × List Reply × Int) : Option (Int × Int × Int × Int × List Int × List Trust × List Wish × List Reply × Fault) :=
  some (v.1, v.2.1, v.2.2.1, v.2.2.2.1, v.2.2.2.2.1, v.2.2.2.2.2.1, v.2.2.2.2.2.2.1, v.2.2.2.2.2.2.2.1, (⟨0, 0⟩ : Fault))
noncomputable def lease_run_B1 (row : List Deed) (v1 : Int × Int × Int × Int × List Int × List Trust × List Wish × List Reply × Int × Int) : Option ((Int × Int × Int × Int × List Int × List Trust × List Wish × List Reply × Int × Int) ⊕ (Int × Int × Int × Int × List Int × List Trust × List Wish × List Reply × Fault)) :=
  if (decide (v1.2.2.2.2.2.2.2.2.2 < (row.length : Int))) = true then
    asrt (0 ≤ v1.2.2.2.2.2.2.2.2.2 ∧ v1.2.2.2.2.2.2.2.2.2 < (row.length : Int)) <|
    asrt (0 ≤ v1.2.2.2.2.2.2.2.2.2 ∧ v1.2.2.2.2.2.2.2.2.2 < (row.length : Int)) <|
    ob (lease_court_does_v1 (⟨(lget row v1.2.2.2.2.2.2.2.2.2).Kind, (lget row v1.2.2.2.2.2.2.2.2.2).Who, (lget row v1.2.2.2.2.2.2.2.2.2).N⟩ : Deed) v1.1 v1.2.1 v1.2.2.1 v1.2.2.2.1 v1.2.2.2.2.2.2.2.2.1 v1.2.2.2.2.1 v1.2.2.2.2.2.1 v1.2.2.2.2.2.2.1 v1.2.2.2.2.2.2.2.1) fun x3 =>
    if (!decide (x3.1 = 0)) = true then
      lt (lease_fault x3.1 v1.2.2.2.2.2.2.2.2.2) fun x4 =>
      some (Sum.inr (0, 0, 0, 0, ([] : List Int), ([] : List Trust), ([] : List Wish), ([] : List Reply), x4))
    else
      lt (lease_Play_1 x3.2.1 x3.2.2.1 x3.2.2.2.1 x3.2.2.2.2.1 x3.2.2.2.2.2.2.2.2.2 x3.2.2.2.2.2.1 x3.2.2.2.2.2.2.1 x3.2.2.2.2.2.2.2.1 x3.2.2.2.2.2.2.2.2.1) fun x5 =>
      some (Sum.inl (x3.2.1, x3.2.2.1, x3.2.2.2.1, x3.2.2.2.2.1, x3.2.2.2.2.2.1, x3.2.2.2.2.2.2.1, x3.2.2.2.2.2.2.2.1, x3.2.2.2.2.2.2.2.2.1, x3.2.2.2.2.2.2.2.2.2, w64 (v1.2.2.2.2.2.2.2.2.2 + 1)))
  else
    inrO (lease_run_J1 (v1.1, v1.2.1, v1.2.2.1, v1.2.2.2.1, v1.2.2.2.2.1, v1.2.2.2.2.2.1, v1.2.2.2.2.2.2.1, v1.2.2.2.2.2.2.2.1, v1.2.2.2.2.2.2.2.2.1))
noncomputable def lease_run_L1 (row : List Deed) (v0 : Int × Int × Int × Int × List Int × List Trust × List Wish × List Reply × Int × Int) : Option (Int × Int × Int × Int × List Int × List Trust × List Wish × List Reply × Fault) :=
  loopO (fun y => lease_run_B1 row y) v0
noncomputable def lease_run (span : Int) (clients : Int) (row : List Deed) : Option (Int × Int × Int × Int × List Int × List Trust × List Wish × List Reply × Fault) :=
  lt (lease_spanned span) fun x =>
  if (!decide (x.Code = 0)) = true then
    some (0, 0, 0, 0, ([] : List Int), ([] : List Trust), ([] : List Wish), ([] : List Reply), x)
  else
    if ((decide (clients < 1)) || (decide (8 < clients))) = true then
      lt (lease_fault 3 (-1)) fun x1 =>
      some (0, 0, 0, 0, ([] : List Int), ([] : List Trust), ([] : List Wish), ([] : List Reply), x1)
    else
      if (decide (2000 < (row.length : Int))) = true then
        lt (lease_fault 2 (-1)) fun x2 =>
        some (0, 0, 0, 0, ([] : List Int), ([] : List Trust), ([] : List Wish), ([] : List Reply), x2)
      else
        asrt (0 ≤ (clients : Int) ∧ clients ≤ clients ∧ clients * 8 ≤ 140737488351232) <|
        asrt (0 ≤ (clients : Int) ∧ clients ≤ clients ∧ clients * 16 ≤ 140737488351232) <|
        lease_run_L1 row (0, 0, 0, 0, (List.replicate clients.toNat (0 : Int)), (List.replicate clients.toNat ((⟨0, 0⟩ : Trust) : Trust)), ([] : List Wish), ([] : List Reply), span, 0)
theorem lease_run_ok (span : Int) (clients : Int) (row : List Deed) (rk : Nat) (rc : Nat) (rn : Bool) (r : Int × Int × Int × Int × List Int × List Trust × List Wish × List Reply × Fault) (hF : lease_run span clients row = some r) : Pe Try.prog 55 ⟨[], [], [(100000, ⟨50, 3, 0, rk, rc, rn, 0, [], (row.map e_Deed)⟩)], [], []⟩ [.int .i64 span, .int .i64 clients, .row 100000 0, .fn 56 []] (.tup [.agg [.int .i64 r.1, .int .i64 r.2.1, .int .i64 r.2.2.1, .int .i64 r.2.2.2.1, .row 41 0, .row 43 0, .row 59 0, .row 20059 0], .agg [.int .i64 r.2.2.2.2.2.2.2.2.Code, .int .i64 r.2.2.2.2.2.2.2.2.At]]) ⟨[], [], [(100000, ⟨50, 3, 0, rk, rc, rn, 0, [], (row.map e_Deed)⟩), (41, ⟨3, 1, 0, 0, 0, false, 0, [], (r.2.2.2.2.1.map e_i64)⟩), (43, ⟨60, 2, 0, 0, 0, false, 0, [], (r.2.2.2.2.2.1.map e_Trust)⟩), (59, ⟨103, 3, 0, 0, 0, false, 0, [], (r.2.2.2.2.2.2.1.map e_Wish)⟩), (20059, ⟨105, 3, 0, 0, 0, false, 0, [], (r.2.2.2.2.2.2.2.1.map e_Reply)⟩)], [], []⟩ := by
  refine Pe_of (N := 75) (res := [.cell 8 44, .cell 9 25]) (ts := [44, 25]) Ty.ok Fn.b55 Try.func55 rfl rfl rfl rfl rfl rfl ?_
  intro Q g hfin
  unfold lease_run at hF
  refine Wk_seq ?_
  refine WR [] [0, 1, 2, 3, 8, 9] [8, 9] [100000] [] [] [] ⟨[(0, .int .i64 span), (1, .int .i64 clients), (2, .row 100000 0), (3, .fn 56 []), (8, .ptr 8 0), (9, .ptr 9 0)], [(8, [.int .i64 0, .int .i64 0, .int .i64 0, .int .i64 0, .nils, .nils, .nils, .nils]), (9, [.int .i64 0, .int .i64 0])], [(100000, ⟨50, 3, 0, rk, rc, rn, 0, [], (row.map e_Deed)⟩)], [], []⟩ .nil (by kernel_rfl) ?_
  refine Wk_seq ?_
  refine Wk_seq ?_
  obtain ⟨x, h0, hF⟩ := lt_split hF
  refine WR [.callB (.agg [.int .i64 x.Code, .int .i64 x.At])] [0, 1, 2, 3, 8, 9, 10] [8, 9, 10] [100000] [] [] [] ⟨[(0, .int .i64 span), (1, .int .i64 clients), (2, .row 100000 0), (3, .fn 56 []), (8, .ptr 8 0), (9, .ptr 9 0), (10, .ptr 10 0)], [(8, [.int .i64 0, .int .i64 0, .int .i64 0, .int .i64 0, .nils, .nils, .nils, .nils]), (9, [.int .i64 0, .int .i64 0]), (10, [.int .i64 x.Code, .int .i64 x.At])], [(100000, ⟨50, 3, 0, rk, rc, rn, 0, [], (row.map e_Deed)⟩)], [], []⟩ (.cons (lease_spanned_ok span x h0) .nil) (by kernel_rfl) ?_
  refine Wk_seq ?_
  refine WR [] [0, 1, 2, 3, 8, 9, 10, 19] [8, 9, 10] [100000] [] [] [] ⟨[(0, .int .i64 span), (1, .int .i64 clients), (2, .row 100000 0), (3, .fn 56 []), (8, .ptr 8 0), (9, .ptr 9 0), (10, .ptr 10 0), (19, .bool (!decide (x.Code = 0)))], [(8, [.int .i64 0, .int .i64 0, .int .i64 0, .int .i64 0, .nils, .nils, .nils, .nils]), (9, [.int .i64 0, .int .i64 0]), (10, [.int .i64 x.Code, .int .i64 x.At])], [(100000, ⟨50, 3, 0, rk, rc, rn, 0, [], (row.map e_Deed)⟩)], [], []⟩ .nil (by kernel_rfl) ?_
  refine Wk_split rfl (fun hb => ?_) (fun hb => ?_)
  · have hF := ite_t hF hb
    refine Wk_seq ?_
    refine WD [] [8, 9] [8, 9] [100000] [] [] [] ⟨[(8, .ptr 8 0), (9, .ptr 9 0)], [(8, [.int .i64 0, .int .i64 0, .int .i64 0, .int .i64 0, .nils, .nils, .nils, .nils]), (9, [.int .i64 x.Code, .int .i64 x.At])], [(100000, ⟨50, 3, 0, rk, rc, rn, 0, [], (row.map e_Deed)⟩)], [], []⟩ .nil (by kernel_rfl) ?_
    have hF := some_elim hF
    refine Wk_nilrowB 8 4 60000 3 1 rfl rfl rfl rfl rfl ?_
    refine Wk_nilrowB 8 5 60001 60 2 rfl rfl rfl rfl rfl ?_
    refine Wk_nilrowB 8 6 60002 103 3 rfl rfl rfl rfl rfl ?_
    refine Wk_nilrowB 8 7 60003 105 3 rfl rfl rfl rfl rfl ?_
    refine Wk_ren' ⟨[], [(60000, 41), (60001, 43), (60002, 59), (60003, 20059)], [], []⟩ rfl ?_
    exact Wk_ret (hfin _ ⟨[100000, 41, 43, 59, 20059], [], [100000, 41, 43, 59, 20059], [], [], [(41, ⟨0, true, false, false⟩), (43, ⟨0, true, false, false⟩), (59, ⟨0, true, false, false⟩), (20059, ⟨0, true, false, false⟩)], by first | (rw [← hF]; kernel_rfl) | kernel_rfl⟩)
  · have hF := ite_f hF hb
    refine Wk_skip ?_
    refine Wk_seq ?_
    refine Wk_seq ?_
    refine WR [] [0, 1, 2, 3, 8, 9, 27] [8, 9] [100000] [] [] [] ⟨[(0, .int .i64 span), (1, .int .i64 clients), (2, .row 100000 0), (3, .fn 56 []), (8, .ptr 8 0), (9, .ptr 9 0), (27, .bool ((decide (clients < 1)) || (decide (8 < clients))))], [(8, [.int .i64 0, .int .i64 0, .int .i64 0, .int .i64 0, .nils, .nils, .nils, .nils]), (9, [.int .i64 0, .int .i64 0])], [(100000, ⟨50, 3, 0, rk, rc, rn, 0, [], (row.map e_Deed)⟩)], [], []⟩ .nil (by kernel_rfl) ?_
    refine Wk_split rfl (fun hb => ?_) (fun hb => ?_)
    · have hF := ite_t hF hb
      refine Wk_seq ?_
      obtain ⟨x1, h1, hF⟩ := lt_split hF
      refine WR [.callB (.agg [.int .i64 x1.Code, .int .i64 x1.At])] [8, 9] [8, 9] [100000] [] [] [] ⟨[(8, .ptr 8 0), (9, .ptr 9 0)], [(8, [.int .i64 0, .int .i64 0, .int .i64 0, .int .i64 0, .nils, .nils, .nils, .nils]), (9, [.int .i64 x1.Code, .int .i64 x1.At])], [(100000, ⟨50, 3, 0, rk, rc, rn, 0, [], (row.map e_Deed)⟩)], [], []⟩ (.cons (lease_fault_ok 3 (-1) x1 h1) .nil) (by kernel_rfl) ?_
      have hF := some_elim hF
      refine Wk_nilrowB 8 4 60004 3 1 rfl rfl rfl rfl rfl ?_
      refine Wk_nilrowB 8 5 60005 60 2 rfl rfl rfl rfl rfl ?_
      refine Wk_nilrowB 8 6 60006 103 3 rfl rfl rfl rfl rfl ?_
      refine Wk_nilrowB 8 7 60007 105 3 rfl rfl rfl rfl rfl ?_
      refine Wk_ren' ⟨[], [(60004, 41), (60005, 43), (60006, 59), (60007, 20059)], [], []⟩ rfl ?_
      exact Wk_ret (hfin _ ⟨[100000, 41, 43, 59, 20059], [], [100000, 41, 43, 59, 20059], [], [], [(41, ⟨0, true, false, false⟩), (43, ⟨0, true, false, false⟩), (59, ⟨0, true, false, false⟩), (20059, ⟨0, true, false, false⟩)], by first | (rw [← hF]; kernel_rfl) | kernel_rfl⟩)
    · have hF := ite_f hF hb
      refine Wk_skip ?_
      refine Wk_seq ?_
      refine Wk_seq ?_
      refine WR [.nat (row.length : Int)] [0, 1, 2, 3, 8, 9, 32] [8, 9] [100000] [] [] [] ⟨[(0, .int .i64 span), (1, .int .i64 clients), (2, .row 100000 0), (3, .fn 56 []), (8, .ptr 8 0), (9, .ptr 9 0), (32, .bool (decide (2000 < (row.length : Int))))], [(8, [.int .i64 0, .int .i64 0, .int .i64 0, .int .i64 0, .nils, .nils, .nils, .nils]), (9, [.int .i64 0, .int .i64 0])], [(100000, ⟨50, 3, 0, rk, rc, rn, 0, [], (row.map e_Deed)⟩)], [], []⟩ (.cons (len_ok e_Deed row) .nil) (by kernel_rfl) ?_
      refine Wk_split rfl (fun hb => ?_) (fun hb => ?_)
      · have hF := ite_t hF hb
        refine Wk_seq ?_
        obtain ⟨x2, h2, hF⟩ := lt_split hF
        refine WR [.callB (.agg [.int .i64 x2.Code, .int .i64 x2.At])] [8, 9] [8, 9] [100000] [] [] [] ⟨[(8, .ptr 8 0), (9, .ptr 9 0)], [(8, [.int .i64 0, .int .i64 0, .int .i64 0, .int .i64 0, .nils, .nils, .nils, .nils]), (9, [.int .i64 x2.Code, .int .i64 x2.At])], [(100000, ⟨50, 3, 0, rk, rc, rn, 0, [], (row.map e_Deed)⟩)], [], []⟩ (.cons (lease_fault_ok 2 (-1) x2 h2) .nil) (by kernel_rfl) ?_
        have hF := some_elim hF
        refine Wk_nilrowB 8 4 60008 3 1 rfl rfl rfl rfl rfl ?_
        refine Wk_nilrowB 8 5 60009 60 2 rfl rfl rfl rfl rfl ?_
        refine Wk_nilrowB 8 6 60010 103 3 rfl rfl rfl rfl rfl ?_
        refine Wk_nilrowB 8 7 60011 105 3 rfl rfl rfl rfl rfl ?_
        refine Wk_ren' ⟨[], [(60008, 41), (60009, 43), (60010, 59), (60011, 20059)], [], []⟩ rfl ?_
        exact Wk_ret (hfin _ ⟨[100000, 41, 43, 59, 20059], [], [100000, 41, 43, 59, 20059], [], [], [(41, ⟨0, true, false, false⟩), (43, ⟨0, true, false, false⟩), (59, ⟨0, true, false, false⟩), (20059, ⟨0, true, false, false⟩)], by first | (rw [← hF]; kernel_rfl) | kernel_rfl⟩)
      · have hF := ite_f hF hb
        refine Wk_skip ?_
        refine Wk_seq ?_
        refine WR [] [1, 2, 3, 8, 9, 11] [8, 9, 37] [100000] [] [] [] ⟨[(1, .int .i64 clients), (2, .row 100000 0), (3, .fn 56 []), (8, .ptr 8 0), (9, .ptr 9 0), (11, .ptr 37 0)], [(8, [.int .i64 0, .int .i64 0, .int .i64 0, .int .i64 0, .nils, .nils, .nils, .nils]), (9, [.int .i64 0, .int .i64 0]), (37, [.int .i64 0, .int .i64 0, .int .i64 0, .int .i64 0, .nils, .nils, .nils, .nils, .int .i64 span])], [(100000, ⟨50, 3, 0, rk, rc, rn, 0, [], (row.map e_Deed)⟩)], [], []⟩ .nil (by kernel_rfl) ?_
        refine Wk_seq ?_
        obtain ⟨h3, hF⟩ := asrt_elim hF
        obtain ⟨h4, hF⟩ := asrt_elim hF
        refine WD [.xs ((List.replicate clients.toNat (0 : Int)).map e_i64), .xs ((List.replicate clients.toNat ((⟨0, 0⟩ : Trust) : Trust)).map e_Trust)] [2, 3, 8, 9, 11] [8, 9, 37] [41, 43, 100000] [] [] [] ⟨[(2, .row 100000 0), (3, .fn 56 []), (8, .ptr 8 0), (9, .ptr 9 0), (11, .ptr 37 0)], [(8, [.int .i64 0, .int .i64 0, .int .i64 0, .int .i64 0, .nils, .nils, .nils, .nils]), (9, [.int .i64 0, .int .i64 0]), (37, [.int .i64 0, .int .i64 0, .int .i64 0, .int .i64 0, .row 41 0, .row 43 0, .nils, .nils, .int .i64 span])], [(41, ⟨3, 1, 0, 0, 0, false, 0, [], ((List.replicate clients.toNat (0 : Int)).map e_i64)⟩), (43, ⟨60, 2, 0, 0, 0, false, 0, [], ((List.replicate clients.toNat ((⟨0, 0⟩ : Trust) : Trust)).map e_Trust)⟩), (100000, ⟨50, 3, 0, rk, rc, rn, 0, [], (row.map e_Deed)⟩)], [], []⟩ (.cons (mk_ok h3) (.cons (rep_ok e_i64 clients (0 : Int)) (.cons (mk_ok h4) (.cons (rep_ok e_Trust clients ((⟨0, 0⟩ : Trust) : Trust)) .nil)))) (by kernel_rfl) ?_
        refine Wk_seq ?_
        refine Wk_seq ?_
        refine WR [.nat (row.length : Int)] [3, 8, 9, 11, 50, 51, 52] [8, 9, 37] [41, 43, 100000] [] [] [] ⟨[(3, .fn 56 []), (8, .ptr 8 0), (9, .ptr 9 0), (11, .ptr 37 0), (50, .row 100000 0), (51, .int .i64 (row.length : Int)), (52, .int .i64 0)], [(8, [.int .i64 0, .int .i64 0, .int .i64 0, .int .i64 0, .nils, .nils, .nils, .nils]), (9, [.int .i64 0, .int .i64 0]), (37, [.int .i64 0, .int .i64 0, .int .i64 0, .int .i64 0, .row 41 0, .row 43 0, .nils, .nils, .int .i64 span])], [(41, ⟨3, 1, 0, 0, 0, false, 0, [], ((List.replicate clients.toNat (0 : Int)).map e_i64)⟩), (43, ⟨60, 2, 0, 0, 0, false, 0, [], ((List.replicate clients.toNat ((⟨0, 0⟩ : Trust) : Trust)).map e_Trust)⟩), (100000, ⟨50, 3, 0, rk, rc, rn, 0, [], (row.map e_Deed)⟩)], [], []⟩ (.cons (len_ok e_Deed row) .nil) (by kernel_rfl) ?_
        refine Wk_meetP (fun v : Int × Int × Int × Int × List Int × List Trust × List Wish × List Reply × Int => (⟨[(8, .ptr 8 0), (9, .ptr 9 0), (11, .ptr 37 0)], [(8, [.int .i64 0, .int .i64 0, .int .i64 0, .int .i64 0, .nils, .nils, .nils, .nils]), (9, [.int .i64 0, .int .i64 0]), (37, [.int .i64 v.1, .int .i64 v.2.1, .int .i64 v.2.2.1, .int .i64 v.2.2.2.1, .row 41 0, .row 43 0, .row 59 0, .row 20059 0, .int .i64 v.2.2.2.2.2.2.2.2])], [(41, ⟨3, 1, 0, 0, 0, false, 0, [], (v.2.2.2.2.1.map e_i64)⟩), (43, ⟨60, 2, 0, 0, 0, false, 0, [], (v.2.2.2.2.2.1.map e_Trust)⟩), (59, ⟨103, 3, 0, 0, 0, false, 0, [], (v.2.2.2.2.2.2.1.map e_Wish)⟩), (20059, ⟨105, 3, 0, 0, 0, false, 0, [], (v.2.2.2.2.2.2.2.1.map e_Reply)⟩), (100000, ⟨50, 3, 0, rk, rc, rn, 0, [], (row.map e_Deed)⟩)], [], []⟩ : S)) (fun v => lease_run_J1 v = some r) ?_ ?_
        · refine Wk_block ?_
          unfold lease_run_L1 at hF
          refine Wk_nilrowB 37 6 60012 103 3 rfl rfl rfl rfl rfl ?_
          refine Wk_nilrowB 37 7 60013 105 3 rfl rfl rfl rfl rfl ?_
          refine Wk_trim (fs := [3, 8, 9, 11, 50, 51, 52]) (bs := [8, 9, 37]) (rs := [41, 43, 60012, 60013, 100000]) (ms := []) (aa := []) (nv := []) rfl ?_
          refine Wk_ren' ⟨[], [(60012, 59), (60013, 20059)], [], []⟩ rfl ?_
          refine Wk_trim (fs := [3, 8, 9, 11, 50, 51, 52]) (bs := [8, 9, 37]) (rs := [41, 43, 59, 20059, 100000]) (ms := []) (aa := []) (nv := [(59, ⟨0, true, false, false⟩), (20059, ⟨0, true, false, false⟩)]) (t := (fun v1 : Int × Int × Int × Int × List Int × List Trust × List Wish × List Reply × Int × Int => (⟨[(3, .fn 56 []), (8, .ptr 8 0), (9, .ptr 9 0), (11, .ptr 37 0), (50, .row 100000 0), (51, .int .i64 (row.length : Int)), (52, .int .i64 v1.2.2.2.2.2.2.2.2.2)], [(8, [.int .i64 0, .int .i64 0, .int .i64 0, .int .i64 0, .nils, .nils, .nils, .nils]), (9, [.int .i64 0, .int .i64 0]), (37, [.int .i64 v1.1, .int .i64 v1.2.1, .int .i64 v1.2.2.1, .int .i64 v1.2.2.2.1, .row 41 0, .row 43 0, .row 59 0, .row 20059 0, .int .i64 v1.2.2.2.2.2.2.2.2.1])], [(41, ⟨3, 1, 0, 0, 0, false, 0, [], (v1.2.2.2.2.1.map e_i64)⟩), (43, ⟨60, 2, 0, 0, 0, false, 0, [], (v1.2.2.2.2.2.1.map e_Trust)⟩), (59, ⟨103, 3, 0, 0, 0, false, 0, [], (v1.2.2.2.2.2.2.1.map e_Wish)⟩), (20059, ⟨105, 3, 0, 0, 0, false, 0, [], (v1.2.2.2.2.2.2.2.1.map e_Reply)⟩), (100000, ⟨50, 3, 0, rk, rc, rn, 0, [], (row.map e_Deed)⟩)], [], []⟩ : S)) (0, 0, 0, 0, (List.replicate clients.toNat (0 : Int)), (List.replicate clients.toNat ((⟨0, 0⟩ : Trust) : Trust)), ([] : List Wish), ([] : List Reply), span, 0)) (by kernel_rfl) ?_
          refine Wk_iter (step := fun y => lease_run_B1 row y) (r := r) (fun v1 : Int × Int × Int × Int × List Int × List Trust × List Wish × List Reply × Int × Int => (⟨[(3, .fn 56 []), (8, .ptr 8 0), (9, .ptr 9 0), (11, .ptr 37 0), (50, .row 100000 0), (51, .int .i64 (row.length : Int)), (52, .int .i64 v1.2.2.2.2.2.2.2.2.2)], [(8, [.int .i64 0, .int .i64 0, .int .i64 0, .int .i64 0, .nils, .nils, .nils, .nils]), (9, [.int .i64 0, .int .i64 0]), (37, [.int .i64 v1.1, .int .i64 v1.2.1, .int .i64 v1.2.2.1, .int .i64 v1.2.2.2.1, .row 41 0, .row 43 0, .row 59 0, .row 20059 0, .int .i64 v1.2.2.2.2.2.2.2.2.1])], [(41, ⟨3, 1, 0, 0, 0, false, 0, [], (v1.2.2.2.2.1.map e_i64)⟩), (43, ⟨60, 2, 0, 0, 0, false, 0, [], (v1.2.2.2.2.2.1.map e_Trust)⟩), (59, ⟨103, 3, 0, 0, 0, false, 0, [], (v1.2.2.2.2.2.2.1.map e_Wish)⟩), (20059, ⟨105, 3, 0, 0, 0, false, 0, [], (v1.2.2.2.2.2.2.2.1.map e_Reply)⟩), (100000, ⟨50, 3, 0, rk, rc, rn, 0, [], (row.map e_Deed)⟩)], [], []⟩ : S)) (0, 0, 0, 0, (List.replicate clients.toNat (0 : Int)), (List.replicate clients.toNat ((⟨0, 0⟩ : Trust) : Trust)), ([] : List Wish), ([] : List Reply), span, 0) hF ?_
          intro n1 v1 y1 hF ih1 dn1
          have hF : lease_run_B1 row v1 = some y1 := hF
          unfold lease_run_B1 at hF
          refine Wk_seq ?_
          refine WR [] [3, 8, 9, 11, 50, 51, 52, 53] [8, 9, 37] [41, 43, 59, 20059, 100000] [] [] [] ⟨[(3, .fn 56 []), (8, .ptr 8 0), (9, .ptr 9 0), (11, .ptr 37 0), (50, .row 100000 0), (51, .int .i64 (row.length : Int)), (52, .int .i64 v1.2.2.2.2.2.2.2.2.2), (53, .bool (decide (v1.2.2.2.2.2.2.2.2.2 < (row.length : Int))))], [(8, [.int .i64 0, .int .i64 0, .int .i64 0, .int .i64 0, .nils, .nils, .nils, .nils]), (9, [.int .i64 0, .int .i64 0]), (37, [.int .i64 v1.1, .int .i64 v1.2.1, .int .i64 v1.2.2.1, .int .i64 v1.2.2.2.1, .row 41 0, .row 43 0, .row 59 0, .row 20059 0, .int .i64 v1.2.2.2.2.2.2.2.2.1])], [(41, ⟨3, 1, 0, 0, 0, false, 0, [], (v1.2.2.2.2.1.map e_i64)⟩), (43, ⟨60, 2, 0, 0, 0, false, 0, [], (v1.2.2.2.2.2.1.map e_Trust)⟩), (59, ⟨103, 3, 0, 0, 0, false, 0, [], (v1.2.2.2.2.2.2.1.map e_Wish)⟩), (20059, ⟨105, 3, 0, 0, 0, false, 0, [], (v1.2.2.2.2.2.2.2.1.map e_Reply)⟩), (100000, ⟨50, 3, 0, rk, rc, rn, 0, [], (row.map e_Deed)⟩)], [], []⟩ .nil (by kernel_rfl) ?_
          refine Wk_seq ?_
          refine Wk_split rfl (fun hb => ?_) (fun hb => ?_)
          · have hF := ite_t hF hb
            refine Wk_skip ?_
            refine Wk_seq ?_
            refine Wk_block ?_
            refine Wk_seq ?_
            obtain ⟨h5, hF⟩ := asrt_elim hF
            obtain ⟨h6, hF⟩ := asrt_elim hF
            refine WR [.av (e_Deed (lget row v1.2.2.2.2.2.2.2.2.2))] [3, 8, 9, 11, 12, 13, 50, 51, 52] [8, 9, 13, 37] [41, 43, 59, 20059, 100000] [] [] [] ⟨[(3, .fn 56 []), (8, .ptr 8 0), (9, .ptr 9 0), (11, .ptr 37 0), (12, .int .i64 v1.2.2.2.2.2.2.2.2.2), (13, .ptr 13 0), (50, .row 100000 0), (51, .int .i64 (row.length : Int)), (52, .int .i64 v1.2.2.2.2.2.2.2.2.2)], [(8, [.int .i64 0, .int .i64 0, .int .i64 0, .int .i64 0, .nils, .nils, .nils, .nils]), (9, [.int .i64 0, .int .i64 0]), (13, (c_Deed (lget row v1.2.2.2.2.2.2.2.2.2))), (37, [.int .i64 v1.1, .int .i64 v1.2.1, .int .i64 v1.2.2.1, .int .i64 v1.2.2.2.1, .row 41 0, .row 43 0, .row 59 0, .row 20059 0, .int .i64 v1.2.2.2.2.2.2.2.2.1])], [(41, ⟨3, 1, 0, 0, 0, false, 0, [], (v1.2.2.2.2.1.map e_i64)⟩), (43, ⟨60, 2, 0, 0, 0, false, 0, [], (v1.2.2.2.2.2.1.map e_Trust)⟩), (59, ⟨103, 3, 0, 0, 0, false, 0, [], (v1.2.2.2.2.2.2.1.map e_Wish)⟩), (20059, ⟨105, 3, 0, 0, 0, false, 0, [], (v1.2.2.2.2.2.2.2.1.map e_Reply)⟩), (100000, ⟨50, 3, 0, rk, rc, rn, 0, [], (row.map e_Deed)⟩)], [], []⟩ (.cons (ixr_ok e_Deed h5) (.cons (ldr_ok e_Deed h6) .nil)) (by kernel_rfl) ?_
            refine Wk_seq ?_
            refine Wk_seq ?_
            obtain ⟨x3, h7, hF⟩ := ob_elim hF
            refine WR [.callE [37] [41, 43, 59, 20059] [] [] (.int .i64 x3.1) ⟨[], [(37, [.int .i64 x3.2.1, .int .i64 x3.2.2.1, .int .i64 x3.2.2.2.1, .int .i64 x3.2.2.2.2.1, .row 41 0, .row 43 0, .row 59 1, .row 20059 1, .int .i64 x3.2.2.2.2.2.2.2.2.2])], [(41, ⟨3, 1, 0, 0, 0, false, 0, [], (x3.2.2.2.2.2.1.map e_i64)⟩), (43, ⟨60, 2, 0, 0, 0, false, 0, [], (x3.2.2.2.2.2.2.1.map e_Trust)⟩), (59, ⟨103, 3, 1, 0, 0, false, 0, [], (x3.2.2.2.2.2.2.2.1.map e_Wish)⟩), (20059, ⟨105, 3, 1, 0, 0, false, 0, [], (x3.2.2.2.2.2.2.2.2.1.map e_Reply)⟩)], [], []⟩] [3, 8, 9, 11, 12, 14, 50, 51, 52] [8, 9, 37] [41, 43, 59, 20059, 100000] [] [] [] ⟨[(3, .fn 56 []), (8, .ptr 8 0), (9, .ptr 9 0), (11, .ptr 37 0), (12, .int .i64 v1.2.2.2.2.2.2.2.2.2), (14, .int .i64 x3.1), (50, .row 100000 0), (51, .int .i64 (row.length : Int)), (52, .int .i64 v1.2.2.2.2.2.2.2.2.2)], [(8, [.int .i64 0, .int .i64 0, .int .i64 0, .int .i64 0, .nils, .nils, .nils, .nils]), (9, [.int .i64 0, .int .i64 0]), (37, [.int .i64 x3.2.1, .int .i64 x3.2.2.1, .int .i64 x3.2.2.2.1, .int .i64 x3.2.2.2.2.1, .row 41 0, .row 43 0, .row 59 1, .row 20059 1, .int .i64 x3.2.2.2.2.2.2.2.2.2])], [(41, ⟨3, 1, 0, 0, 0, false, 0, [], (x3.2.2.2.2.2.1.map e_i64)⟩), (43, ⟨60, 2, 0, 0, 0, false, 0, [], (x3.2.2.2.2.2.2.1.map e_Trust)⟩), (59, ⟨103, 3, 1, 0, 0, false, 0, [], (x3.2.2.2.2.2.2.2.1.map e_Wish)⟩), (20059, ⟨105, 3, 1, 0, 0, false, 0, [], (x3.2.2.2.2.2.2.2.2.1.map e_Reply)⟩), (100000, ⟨50, 3, 0, rk, rc, rn, 0, [], (row.map e_Deed)⟩)], [], []⟩ (.cons (Pe.ren (lease_court_does_v1_ok (⟨(lget row v1.2.2.2.2.2.2.2.2.2).Kind, (lget row v1.2.2.2.2.2.2.2.2.2).Who, (lget row v1.2.2.2.2.2.2.2.2.2).N⟩ : Deed) v1.1 v1.2.1 v1.2.2.1 v1.2.2.2.1 v1.2.2.2.2.2.2.2.2.1 v1.2.2.2.2.1 v1.2.2.2.2.2.1 v1.2.2.2.2.2.2.1 v1.2.2.2.2.2.2.2.1 0 0 false 0 0 false 0 0 false 0 0 false x3 h7) ⟨[(100000, 37)], [(100000, 41), (100001, 43), (100002, 59), (100003, 20059)], [], []⟩) .nil) (by kernel_rfl) ?_
            refine Wk_seq ?_
            refine WR [] [3, 8, 9, 11, 12, 14, 50, 51, 52, 61] [8, 9, 37] [41, 43, 59, 20059, 100000] [] [] [] ⟨[(3, .fn 56 []), (8, .ptr 8 0), (9, .ptr 9 0), (11, .ptr 37 0), (12, .int .i64 v1.2.2.2.2.2.2.2.2.2), (14, .int .i64 x3.1), (50, .row 100000 0), (51, .int .i64 (row.length : Int)), (52, .int .i64 v1.2.2.2.2.2.2.2.2.2), (61, .bool (!decide (x3.1 = 0)))], [(8, [.int .i64 0, .int .i64 0, .int .i64 0, .int .i64 0, .nils, .nils, .nils, .nils]), (9, [.int .i64 0, .int .i64 0]), (37, [.int .i64 x3.2.1, .int .i64 x3.2.2.1, .int .i64 x3.2.2.2.1, .int .i64 x3.2.2.2.2.1, .row 41 0, .row 43 0, .row 59 1, .row 20059 1, .int .i64 x3.2.2.2.2.2.2.2.2.2])], [(41, ⟨3, 1, 0, 0, 0, false, 0, [], (x3.2.2.2.2.2.1.map e_i64)⟩), (43, ⟨60, 2, 0, 0, 0, false, 0, [], (x3.2.2.2.2.2.2.1.map e_Trust)⟩), (59, ⟨103, 3, 1, 0, 0, false, 0, [], (x3.2.2.2.2.2.2.2.1.map e_Wish)⟩), (20059, ⟨105, 3, 1, 0, 0, false, 0, [], (x3.2.2.2.2.2.2.2.2.1.map e_Reply)⟩), (100000, ⟨50, 3, 0, rk, rc, rn, 0, [], (row.map e_Deed)⟩)], [], []⟩ .nil (by kernel_rfl) ?_
            refine Wk_split rfl (fun hb => ?_) (fun hb => ?_)
            · have hF := ite_t hF hb
              refine Wk_seq ?_
              obtain ⟨x4, h8, hF⟩ := lt_split hF
              refine WR [.callB (.agg [.int .i64 x4.Code, .int .i64 x4.At])] [8, 9] [8, 9] [100000] [] [] [] ⟨[(8, .ptr 8 0), (9, .ptr 9 0)], [(8, [.int .i64 0, .int .i64 0, .int .i64 0, .int .i64 0, .nils, .nils, .nils, .nils]), (9, [.int .i64 x4.Code, .int .i64 x4.At])], [(100000, ⟨50, 3, 0, rk, rc, rn, 0, [], (row.map e_Deed)⟩)], [], []⟩ (.cons (lease_fault_ok x3.1 v1.2.2.2.2.2.2.2.2.2 x4 h8) .nil) (by kernel_rfl) ?_
              have hF := ret_done hF dn1
              have hF := some_elim hF
              refine Wk_nilrowB 8 4 60014 3 1 rfl rfl rfl rfl rfl ?_
              refine Wk_nilrowB 8 5 60015 60 2 rfl rfl rfl rfl rfl ?_
              refine Wk_nilrowB 8 6 60016 103 3 rfl rfl rfl rfl rfl ?_
              refine Wk_nilrowB 8 7 60017 105 3 rfl rfl rfl rfl rfl ?_
              refine Wk_ren' ⟨[], [(60014, 41), (60015, 43), (60016, 59), (60017, 20059)], [], []⟩ rfl ?_
              exact Wk_ret (hfin _ ⟨[100000, 41, 43, 59, 20059], [], [100000, 41, 43, 59, 20059], [], [], [(41, ⟨0, true, false, false⟩), (43, ⟨0, true, false, false⟩), (59, ⟨0, true, false, false⟩), (20059, ⟨0, true, false, false⟩)], by first | (rw [← hF]; kernel_rfl) | kernel_rfl⟩)
            · have hF := ite_f hF hb
              refine Wk_skip ?_
              obtain ⟨x5, h9, hF⟩ := lt_split hF
              refine WR [.callR [37] [41, 43, 59, 20059] [] [] (.tup [])] [3, 8, 9, 11, 50, 51, 52] [8, 9, 37] [41, 43, 59, 20059, 100000] [] [] [] ⟨[(3, .fn 56 []), (8, .ptr 8 0), (9, .ptr 9 0), (11, .ptr 37 0), (50, .row 100000 0), (51, .int .i64 (row.length : Int)), (52, .int .i64 v1.2.2.2.2.2.2.2.2.2)], [(8, [.int .i64 0, .int .i64 0, .int .i64 0, .int .i64 0, .nils, .nils, .nils, .nils]), (9, [.int .i64 0, .int .i64 0]), (37, [.int .i64 x3.2.1, .int .i64 x3.2.2.1, .int .i64 x3.2.2.2.1, .int .i64 x3.2.2.2.2.1, .row 41 0, .row 43 0, .row 59 1, .row 20059 1, .int .i64 x3.2.2.2.2.2.2.2.2.2])], [(41, ⟨3, 1, 0, 0, 0, false, 0, [], (x3.2.2.2.2.2.1.map e_i64)⟩), (43, ⟨60, 2, 0, 0, 0, false, 0, [], (x3.2.2.2.2.2.2.1.map e_Trust)⟩), (59, ⟨103, 3, 1, 0, 0, false, 0, [], (x3.2.2.2.2.2.2.2.1.map e_Wish)⟩), (20059, ⟨105, 3, 1, 0, 0, false, 0, [], (x3.2.2.2.2.2.2.2.2.1.map e_Reply)⟩), (100000, ⟨50, 3, 0, rk, rc, rn, 0, [], (row.map e_Deed)⟩)], [], []⟩ (.cons (Pe.ren (lease_Play_1_ok x3.2.1 x3.2.2.1 x3.2.2.2.1 x3.2.2.2.2.1 x3.2.2.2.2.2.2.2.2.2 x3.2.2.2.2.2.1 x3.2.2.2.2.2.2.1 x3.2.2.2.2.2.2.2.1 x3.2.2.2.2.2.2.2.2.1 0 0 false 0 0 false 0 0 false 0 0 false x5 h9) ⟨[(100000, 37)], [(100000, 41), (100001, 43), (100002, 59), (100003, 20059)], [], [(100002, 1), (100003, 1)]⟩) .nil) (by kernel_rfl) ?_
              refine Wk_blk ?_
              refine WR [] [3, 8, 9, 11, 50, 51, 52] [8, 9, 37] [41, 43, 59, 20059, 100000] [] [] [] ⟨[(3, .fn 56 []), (8, .ptr 8 0), (9, .ptr 9 0), (11, .ptr 37 0), (50, .row 100000 0), (51, .int .i64 (row.length : Int)), (52, .int .i64 (w64 (v1.2.2.2.2.2.2.2.2.2 + 1)))], [(8, [.int .i64 0, .int .i64 0, .int .i64 0, .int .i64 0, .nils, .nils, .nils, .nils]), (9, [.int .i64 0, .int .i64 0]), (37, [.int .i64 x3.2.1, .int .i64 x3.2.2.1, .int .i64 x3.2.2.2.1, .int .i64 x3.2.2.2.2.1, .row 41 0, .row 43 0, .row 59 1, .row 20059 1, .int .i64 x3.2.2.2.2.2.2.2.2.2])], [(41, ⟨3, 1, 0, 0, 0, false, 0, [], (x3.2.2.2.2.2.1.map e_i64)⟩), (43, ⟨60, 2, 0, 0, 0, false, 0, [], (x3.2.2.2.2.2.2.1.map e_Trust)⟩), (59, ⟨103, 3, 1, 0, 0, false, 0, [], (x3.2.2.2.2.2.2.2.1.map e_Wish)⟩), (20059, ⟨105, 3, 1, 0, 0, false, 0, [], (x3.2.2.2.2.2.2.2.2.1.map e_Reply)⟩), (100000, ⟨50, 3, 0, rk, rc, rn, 0, [], (row.map e_Deed)⟩)], [], []⟩ .nil (by kernel_rfl) ?_
              refine Wk_trim (fs := [3, 8, 9, 11, 50, 51, 52]) (bs := [8, 9, 37]) (rs := [41, 43, 59, 20059, 100000]) (ms := []) (aa := []) (nv := [(59, ⟨0, true, true, false⟩), (20059, ⟨0, true, true, false⟩)]) ?_ (ih1 _ (some_elim hF).symm)
              kernel_rfl
          · have hF := ite_f hF hb
            refine Wk_exit rfl ?_
            have hF := inrO_done hF dn1
            exact Wk_metP (v1.1, v1.2.1, v1.2.2.1, v1.2.2.2.1, v1.2.2.2.2.1, v1.2.2.2.2.2.1, v1.2.2.2.2.2.2.1, v1.2.2.2.2.2.2.2.1, v1.2.2.2.2.2.2.2.2.1) [8, 9, 11] [8, 9, 37] [41, 43, 59, 20059, 100000] [] [] [] hF (by kernel_rfl)
        · intro v hF
          have hF : lease_run_J1 v = some r := hF
          unfold lease_run_J1 at hF
          refine Wk_seq ?_
          refine WR [] [8, 9] [8, 9] [41, 43, 59, 20059, 100000] [] [] [] ⟨[(8, .ptr 8 0), (9, .ptr 9 0)], [(8, [.int .i64 v.1, .int .i64 v.2.1, .int .i64 v.2.2.1, .int .i64 v.2.2.2.1, .row 41 0, .row 43 0, .row 59 0, .row 20059 0]), (9, [.int .i64 0, .int .i64 0])], [(41, ⟨3, 1, 0, 0, 0, false, 0, [], (v.2.2.2.2.1.map e_i64)⟩), (43, ⟨60, 2, 0, 0, 0, false, 0, [], (v.2.2.2.2.2.1.map e_Trust)⟩), (59, ⟨103, 3, 0, 0, 0, false, 0, [], (v.2.2.2.2.2.2.1.map e_Wish)⟩), (20059, ⟨105, 3, 0, 0, 0, false, 0, [], (v.2.2.2.2.2.2.2.1.map e_Reply)⟩), (100000, ⟨50, 3, 0, rk, rc, rn, 0, [], (row.map e_Deed)⟩)], [], []⟩ .nil (by kernel_rfl) ?_
          have hF := some_elim hF
          exact Wk_ret (hfin _ ⟨[100000, 41, 43, 59, 20059], [], [100000, 41, 43, 59, 20059], [], [], [], by first | (rw [← hF]; kernel_rfl) | kernel_rfl⟩)

/- lease.Play -/
noncomputable def lease_Play_v1 (span : Int) (clients : Int) (row : List Deed) : Option (Court × Fault) :=
  ob (lease_run span clients row) fun x =>
  some ((⟨x.1, (⟨x.2.1, x.2.2.1, x.2.2.2.1⟩ : Lease), x.2.2.2.2.1, x.2.2.2.2.2.1, x.2.2.2.2.2.2.1, x.2.2.2.2.2.2.2.1⟩ : Court), x.2.2.2.2.2.2.2.2)
theorem lease_Play_v1_ok (span : Int) (clients : Int) (row : List Deed) (rk : Nat) (rc : Nat) (rn : Bool) (r : Court × Fault) (hF : lease_Play_v1 span clients row = some r) : Pe Try.prog 22 ⟨[], [], [(100000, ⟨50, 3, 0, rk, rc, rn, 0, [], (row.map e_Deed)⟩)], [], []⟩ [.int .i64 span, .int .i64 clients, .row 100000 0] (.tup [.agg (c_Court r.1), .agg [.int .i64 r.2.Code, .int .i64 r.2.At]]) ⟨[], [], [(100000, ⟨50, 3, 0, rk, rc, rn, 0, [], (row.map e_Deed)⟩)], [], []⟩ := by
  refine Pe_of (N := 14) (res := [.cell 6 44, .cell 7 25]) (ts := [44, 25]) Ty.ok Fn.b22 Try.func22 rfl rfl rfl rfl rfl rfl ?_
  intro Q g hfin
  unfold lease_Play_v1 at hF
  refine Wk_seq ?_
  refine WR [] [0, 1, 2, 6, 7] [6, 7] [100000] [] [] [] ⟨[(0, .int .i64 span), (1, .int .i64 clients), (2, .row 100000 0), (6, .ptr 6 0), (7, .ptr 7 0)], [(6, [.int .i64 0, .int .i64 0, .int .i64 0, .int .i64 0, .nils, .nils, .nils, .nils]), (7, [.int .i64 0, .int .i64 0])], [(100000, ⟨50, 3, 0, rk, rc, rn, 0, [], (row.map e_Deed)⟩)], [], []⟩ .nil (by kernel_rfl) ?_
  refine Wk_seq ?_
  obtain ⟨x, h0, hF⟩ := ob_elim hF
  refine WR [.callE [] [100000] [] [] (.tup [.agg [.int .i64 x.1, .int .i64 x.2.1, .int .i64 x.2.2.1, .int .i64 x.2.2.2.1, .row 11 0, .row 20011 0, .row 40011 0, .row 60011 0], .agg [.int .i64 x.2.2.2.2.2.2.2.2.Code, .int .i64 x.2.2.2.2.2.2.2.2.At]]) ⟨[], [], [(100000, ⟨50, 3, 0, rk, rc, rn, 0, [], (row.map e_Deed)⟩), (11, ⟨3, 1, 0, 0, 0, false, 0, [], (x.2.2.2.2.1.map e_i64)⟩), (20011, ⟨60, 2, 0, 0, 0, false, 0, [], (x.2.2.2.2.2.1.map e_Trust)⟩), (40011, ⟨103, 3, 0, 0, 0, false, 0, [], (x.2.2.2.2.2.2.1.map e_Wish)⟩), (60011, ⟨105, 3, 0, 0, 0, false, 0, [], (x.2.2.2.2.2.2.2.1.map e_Reply)⟩)], [], []⟩] [6, 7] [6, 7] [11, 20011, 40011, 60011, 100000] [] [] [] ⟨[(6, .ptr 6 0), (7, .ptr 7 0)], [(6, [.int .i64 x.1, .int .i64 x.2.1, .int .i64 x.2.2.1, .int .i64 x.2.2.2.1, .row 11 0, .row 20011 0, .row 40011 0, .row 60011 0]), (7, [.int .i64 x.2.2.2.2.2.2.2.2.Code, .int .i64 x.2.2.2.2.2.2.2.2.At])], [(11, ⟨3, 1, 0, 0, 0, false, 0, [], (x.2.2.2.2.1.map e_i64)⟩), (20011, ⟨60, 2, 0, 0, 0, false, 0, [], (x.2.2.2.2.2.1.map e_Trust)⟩), (40011, ⟨103, 3, 0, 0, 0, false, 0, [], (x.2.2.2.2.2.2.1.map e_Wish)⟩), (60011, ⟨105, 3, 0, 0, 0, false, 0, [], (x.2.2.2.2.2.2.2.1.map e_Reply)⟩), (100000, ⟨50, 3, 0, rk, rc, rn, 0, [], (row.map e_Deed)⟩)], [], []⟩ (.cons (Pe.ren (lease_run_ok span clients row rk rc rn x h0) ⟨[], [(41, 11), (43, 20011), (59, 40011), (20059, 60011)], [], []⟩) .nil) (by kernel_rfl) ?_
  have hF := some_elim hF
  exact Wk_ret (hfin _ ⟨[100000], [], [100000], [], [], [], by first | (rw [← hF]; kernel_rfl) | kernel_rfl⟩)

/- slices.Clone[[]int,int] -/
noncomputable def slices_Clone_int_int (row : List Int) : Option (List Int) :=
  ubO (decide (row.length = 0)) (
    some ([] : List Int)) (
    asrt (((([] : List Int) ++ row).length : Int) * 8 ≤ 140737488351232) <|
    some (([] : List Int) ++ row))
theorem slices_Clone_int_int_ok (row : List Int) (rk : Nat) (rc : Nat) (rn : Bool) (r : List Int) (hF : slices_Clone_int_int row = some r) : Pe Try.prog 58 ⟨[], [], [(100000, ⟨3, 1, 0, rk, rc, rn, 0, [], (row.map e_i64)⟩)], [], []⟩ [.row 100000 0] (.row 5 0) ⟨[], [], [(100000, ⟨3, 1, 0, rk, rc, rn, 0, [], (row.map e_i64)⟩), (5, ⟨3, 1, 0, 0, 0, false, 0, [], (r.map e_i64)⟩)], [], []⟩ := by
  refine Pe_of (N := 8) (res := [.tmp 2]) (ts := [22]) Ty.ok Fn.b58 Try.func58 rfl rfl rfl rfl rfl rfl ?_
  intro Q g hfin
  unfold slices_Clone_int_int at hF
  refine Wk_seq ?_
  refine WR [] [0] [] [100000] [] [] [] ⟨[(0, .row 100000 0)], [], [(100000, ⟨3, 1, 0, rk, rc, rn, 0, [], (row.map e_i64)⟩)], [], []⟩ .nil (by kernel_rfl) ?_
  refine Wk_seq ?_
  refine Wk_seq ?_
  refine WR [.ubn (decide (row.length = 0))] [0, 4] [] [100000] [] [] [] ⟨[(0, .row 100000 0), (4, .ub (decide (row.length = 0)) true)], [], [(100000, ⟨3, 1, 0, rk, rc, rn, 0, [], (row.map e_i64)⟩)], [], []⟩ (.cons (ubn_ok e_i64 row) .nil) (by kernel_rfl) ?_
  refine Wk_ub 4 rfl fun b hb1 hb2 => ?_
  refine Wk_split rfl (fun hb => ?_) (fun hb => ?_)
  · have hb := hb1 hb
    have hF := (ubO_elim hF).1 hb
    refine Wk_seq ?_
    refine WR [] [2] [] [100000] [] [] [] ⟨[(2, .nils)], [], [(100000, ⟨3, 1, 0, rk, rc, rn, 0, [], (row.map e_i64)⟩)], [], []⟩ .nil (by kernel_rfl) ?_
    have hF := some_elim hF
    refine Wk_nilrow 2 60000 3 1 rfl rfl rfl ?_
    refine Wk_ren' ⟨[], [(60000, 5)], [], []⟩ rfl ?_
    exact Wk_ret (hfin _ ⟨[100000, 5], [], [100000, 5], [], [], [(5, ⟨0, true, false, false⟩)], by first | (rw [← hF]; kernel_rfl) | kernel_rfl⟩)
  · have hF := (ubO_elim hF).2
    refine Wk_skip ?_
    refine Wk_seq ?_
    obtain ⟨h0, hF⟩ := asrt_elim hF
    refine WR [.xs ((([] : List Int) ++ row).map e_i64)] [2] [] [5, 100000] [] [] [] ⟨[(2, .row 5 1)], [], [(5, ⟨3, 1, 1, 0, 0, false, 0, [], ((([] : List Int) ++ row).map e_i64)⟩), (100000, ⟨3, 1, 0, rk, rc, rn, 0, [], (row.map e_i64)⟩)], [], []⟩ (.cons (app_ok e_i64 ([] : List Int) row) (.cons (appl_ok e_i64 h0) .nil)) (by kernel_rfl) ?_
    have hF := some_elim hF
    exact Wk_ret (hfin _ ⟨[100000, 5], [], [100000, 5], [], [], [(5, ⟨0, true, true, false⟩)], by first | (rw [← hF]; kernel_rfl) | kernel_rfl⟩)

/- lease.Fair$1 -/
noncomputable def lease_Fair_1 (box : Int) (box1 : Int) (box2 : Int) (box3 : Int) (box4 : Int) (row : List Int) (row1 : List Trust) (row2 : List Wish) (row3 : List Reply) (row4 : List Int) (row5 : List (List Int)) : Option (List Int × List (List Int)) :=
  asrt (((row4 ++ ([box] : List Int)).length : Int) * 8 ≤ 140737488351232) <|
  ob (slices_Clone_int_int row) fun x =>
  asrt (((row5 ++ ([x] : List (List Int))).length : Int) * 24 ≤ 140737488351232) <|
  some ((row4 ++ ([box] : List Int)), (row5 ++ ([x] : List (List Int))))
theorem lease_Fair_1_ok (box : Int) (box1 : Int) (box2 : Int) (box3 : Int) (box4 : Int) (row : List Int) (row1 : List Trust) (row2 : List Wish) (row3 : List Reply) (row4 : List Int) (row5 : List (List Int)) (rk : Nat) (rc : Nat) (rn : Bool) (rk1 : Nat) (rc1 : Nat) (rn1 : Bool) (rk2 : Nat) (rc2 : Nat) (rn2 : Bool) (rk3 : Nat) (rc3 : Nat) (rn3 : Bool) (rk4 : Nat) (rc4 : Nat) (rn4 : Bool) (rk5 : Nat) (rc5 : Nat) (rn5 : Bool) (r : List Int × List (List Int)) (hF : lease_Fair_1 box box1 box2 box3 box4 row row1 row2 row3 row4 row5 = some r) : Pe Try.prog 57 ⟨[], [(100000, [.int .i64 box, .int .i64 box1, .int .i64 box2, .int .i64 box3, .row 100000 0, .row 100001 0, .row 100002 0, .row 100003 0, .int .i64 box4]), (100001, [.row 100004 0]), (100002, [.row 100005 0])], [(100000, ⟨3, 1, 0, rk, rc, rn, 0, [], (row.map e_i64)⟩), (100001, ⟨60, 2, 0, rk1, rc1, rn1, 0, [], (row1.map e_Trust)⟩), (100002, ⟨103, 3, 0, rk2, rc2, rn2, 0, [], (row2.map e_Wish)⟩), (100003, ⟨105, 3, 0, rk3, rc3, rn3, 0, [], (row3.map e_Reply)⟩), (100004, ⟨3, 1, 0, rk4, rc4, rn4, 0, [], (row4.map e_i64)⟩), (100005, ⟨22, 1, 0, rk5, rc5, rn5, 0, [], (row5.map e_L_i64)⟩)], [], []⟩ [.ptr 100000 0, .ptr 100001 0, .ptr 100002 0] (.tup []) ⟨[], [(100000, [.int .i64 box, .int .i64 box1, .int .i64 box2, .int .i64 box3, .row 100000 0, .row 100001 0, .row 100002 0, .row 100003 0, .int .i64 box4]), (100001, [.row 100004 1]), (100002, [.row 100005 1])], [(100000, ⟨3, 1, 0, rk, rc, rn, 0, [], (row.map e_i64)⟩), (100001, ⟨60, 2, 0, rk1, rc1, rn1, 0, [], (row1.map e_Trust)⟩), (100002, ⟨103, 3, 0, rk2, rc2, rn2, 0, [], (row2.map e_Wish)⟩), (100003, ⟨105, 3, 0, rk3, rc3, rn3, 0, [], (row3.map e_Reply)⟩), (100004, ⟨3, 1, 1, rk4, rc4, rn4, 0, [], (r.1.map e_i64)⟩), (100005, ⟨22, 1, 1, rk5, rc5, rn5, 0, [], (r.2.map e_L_i64)⟩)], [], []⟩ := by
  refine Pe_of (N := 21) (res := []) (ts := []) Ty.ok Fn.b57 Try.func57 rfl rfl rfl rfl rfl rfl ?_
  intro Q g hfin
  unfold lease_Fair_1 at hF
  refine Wk_seq ?_
  obtain ⟨h0, hF⟩ := asrt_elim hF
  refine WD [.sealed, .xs ((row4 ++ ([box] : List Int)).map e_i64)] [0, 2] [100000, 100001, 100002] [100000, 100001, 100002, 100003, 100004, 100005] [] [] [] ⟨[(0, .ptr 100000 0), (2, .ptr 100002 0)], [(100000, [.int .i64 box, .int .i64 box1, .int .i64 box2, .int .i64 box3, .row 100000 0, .row 100001 0, .row 100002 0, .row 100003 0, .int .i64 box4]), (100001, [.row 100004 1]), (100002, [.row 100005 0])], [(100000, ⟨3, 1, 0, rk, rc, rn, 0, [], (row.map e_i64)⟩), (100001, ⟨60, 2, 0, rk1, rc1, rn1, 0, [], (row1.map e_Trust)⟩), (100002, ⟨103, 3, 0, rk2, rc2, rn2, 0, [], (row2.map e_Wish)⟩), (100003, ⟨105, 3, 0, rk3, rc3, rn3, 0, [], (row3.map e_Reply)⟩), (100004, ⟨3, 1, 1, rk4, rc4, rn4, 0, [], ((row4 ++ ([box] : List Int)).map e_i64)⟩), (100005, ⟨22, 1, 0, rk5, rc5, rn5, 0, [], (row5.map e_L_i64)⟩)], [], []⟩ (.cons (app_ok e_i64 row4 ([box] : List Int)) (.cons (appl_ok e_i64 h0) .nil)) (by kernel_rfl) ?_
  obtain ⟨x, h1, hF⟩ := ob_elim hF
  obtain ⟨h2, hF⟩ := asrt_elim hF
  refine WD [.callE [] [100000] [] [] (.row 18 0) ⟨[], [], [(100000, ⟨3, 1, 0, rk, rc, rn, 0, [], (row.map e_i64)⟩), (18, ⟨3, 1, 0, 0, 0, false, 0, [], (x.map e_i64)⟩)], [], []⟩, .sealed, .xs ((row5 ++ ([x] : List (List Int))).map e_L_i64)] [] [100000, 100001, 100002] [100000, 100001, 100002, 100003, 100004, 100005] [] [] [] ⟨[], [(100000, [.int .i64 box, .int .i64 box1, .int .i64 box2, .int .i64 box3, .row 100000 0, .row 100001 0, .row 100002 0, .row 100003 0, .int .i64 box4]), (100001, [.row 100004 1]), (100002, [.row 100005 1])], [(100000, ⟨3, 1, 0, rk, rc, rn, 0, [], (row.map e_i64)⟩), (100001, ⟨60, 2, 0, rk1, rc1, rn1, 0, [], (row1.map e_Trust)⟩), (100002, ⟨103, 3, 0, rk2, rc2, rn2, 0, [], (row2.map e_Wish)⟩), (100003, ⟨105, 3, 0, rk3, rc3, rn3, 0, [], (row3.map e_Reply)⟩), (100004, ⟨3, 1, 1, rk4, rc4, rn4, 0, [], ((row4 ++ ([box] : List Int)).map e_i64)⟩), (100005, ⟨22, 1, 1, rk5, rc5, rn5, 0, [], ((row5 ++ ([x] : List (List Int))).map e_L_i64)⟩)], [], []⟩ (.cons (Pe.ren (slices_Clone_int_int_ok row rk rc rn x h1) ⟨[], [(5, 18)], [], []⟩) (.cons (app_ok e_L_i64 row5 ([x] : List (List Int))) (.cons (appl_ok e_L_i64 h2) .nil))) (by kernel_rfl) ?_
  have hF := some_elim hF
  exact Wk_end (hfin _ ⟨[100000, 100001, 100002, 100003, 100004, 100005], [100000, 100001, 100002], [100000, 100001, 100002, 100003, 100004, 100005], [], [], [], by first | (rw [← hF]; kernel_rfl) | kernel_rfl⟩)

end G
end Go.Proofs.Ytgflfhdbihahcaa
