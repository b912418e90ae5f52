/- The program's functions as plain functions, and that they are these. Written by a program (dec2.py). -/
import Derived.Test.YtdjlninhfndjfaaGf1
namespace Go.Proofs.Ytdjlninhfndjfaa
open Go Go.Dm
set_option linter.unusedVariables false
set_option linter.unusedSimpArgs false
set_option maxRecDepth 100000
namespace G
/- tabularylaw.PartsTile -/
noncomputable def law_PartsTile_J2 (v1 : Unit) : Option Bool :=
  some true
noncomputable def law_PartsTile_J3 (v2 : Int) (v3 : Unit) : Option (Int ⊕ Bool) :=
  some (Sum.inl (w64 (v2 + 1)))
noncomputable def law_PartsTile_B2 (rows : List (List UInt8)) (v : List Part) (v2 : Int) (x2 : Int × Fault) (v4 : Int) : Option (Int ⊕ (Int ⊕ Bool)) :=
  if (decide (v4 < (v.length : Int))) = true then
    asrt (0 ≤ v4 ∧ v4 < (v.length : Int)) <|
    asrt (0 ≤ v2 ∧ v2 < (rows.length : Int)) <|
    lt (R_InPart (⟨(lget v v4).From, (lget v v4).To, (lget v v4).ID⟩ : Part) (lget rows v2)) fun x3 =>
    if (!(x3 == (decide (v4 = x2.1)))) = true then
      some (Sum.inr (Sum.inr false))
    else
      some (Sum.inl (w64 (v4 + 1)))
  else
    inrO (law_PartsTile_J3 v2 ())
noncomputable def law_PartsTile_L2 (rows : List (List UInt8)) (v : List Part) (v2 : Int) (x2 : Int × Fault) (v0 : Int) : Option (Int ⊕ Bool) :=
  loopO (fun y => law_PartsTile_B2 rows v v2 x2 y) v0
noncomputable def law_PartsTile_B1 (rows : List (List UInt8)) (v : List Part) (v2 : Int) : Option (Int ⊕ Bool) :=
  if (decide (v2 < (rows.length : Int))) = true then
    asrt (0 ≤ v2 ∧ v2 < (rows.length : Int)) <|
    ob (parts_Find v (lget rows v2)) fun x2 =>
    if (((!decide (x2.2.Code = 0)) || (decide (x2.1 < 0))) || (decide ((v.length : Int) ≤ x2.1))) = true then
      some (Sum.inr false)
    else
      law_PartsTile_L2 rows v v2 x2 0
  else
    inrO (law_PartsTile_J2 ())
noncomputable def law_PartsTile_L1 (rows : List (List UInt8)) (v : List Part) (v0 : Int) : Option Bool :=
  loopO (fun y => law_PartsTile_B1 rows v y) v0
noncomputable def law_PartsTile_J1 (rows : List (List UInt8)) (v : List Part) : Option Bool :=
  ob (parts_Check v) fun x1 =>
  if (!decide (x1.Code = 0)) = true then
    some false
  else
    law_PartsTile_L1 rows v 0
noncomputable def law_PartsTile_J4 (v5 : List Part × Int) (v6 : List Part) : Option ((List Part × Int) ⊕ Bool) :=
  some (Sum.inl (v6, w64 (v5.2 + 1)))
noncomputable def law_PartsTile_B3 (steps : List PartStep) (rows : List (List UInt8)) (v5 : List Part × Int) : Option ((List Part × Int) ⊕ Bool) :=
  if (decide (v5.2 < (steps.length : Int))) = true then
    asrt (0 ≤ v5.2 ∧ v5.2 < (steps.length : Int)) <|
    if (decide ((v5.1.length : Int) = 0)) = true then
      some (Sum.inr false)
    else
      asrt ((IntKind.u64.wrap (v5.1.length : Int)) ≠ 0) <|
      lt (w64 (Int.tmod (IntKind.u64.wrap ((lget steps v5.2).At)) (IntKind.u64.wrap (v5.1.length : Int)))) fun (v7 : Int) =>
      if ((lget steps v5.2).Join) = true then
        ob (parts_Join_v1 v5.1 v7 ((lget steps v5.2).Left)) fun x4 =>
        ob (
          if (decide (x4.2.Code = 0)) = true then
            some x4.1
          else
            some v5.1) fun (v8 : List Part) =>
        law_PartsTile_J4 v5 v8
      else
        ob (parts_Split_v1 v5.1 v7 ((lget steps v5.2).Row) ((lget steps v5.2).Left) ((lget steps v5.2).Right)) fun x5 =>
        if (!decide (x5.2.Code = 0)) = true then
          law_PartsTile_J4 v5 v5.1
        else
          ob (parts_Check x5.1) fun x6 =>
          if ((!decide (x6.Code = 0)) || (!decide ((x5.1.length : Int) = (w64 ((v5.1.length : Int) + 1))))) = true then
            some (Sum.inr false)
          else
            asrt (0 ≤ v7 ∧ v7 < (v5.1.length : Int)) <|
            ob (parts_Join_v1 x5.1 v7 ((lget v5.1 v7).ID)) fun x7 =>
            ob (if (!(!decide (x7.2.Code = 0))) = true then (R_SameParts x7.1 v5.1) else some default) fun x8 =>
            if ((!decide (x7.2.Code = 0)) || (!x8)) = true then
              some (Sum.inr false)
            else
              law_PartsTile_J4 v5 x5.1
  else
    inrO (law_PartsTile_J1 rows v5.1)
noncomputable def law_PartsTile_L3 (steps : List PartStep) (rows : List (List UInt8)) (v0 : List Part × Int) : Option Bool :=
  loopO (fun y => law_PartsTile_B3 steps rows y) v0
noncomputable def law_PartsTile (steps : List PartStep) (rows : List (List UInt8)) : Option Bool :=
  ob (law_partsBegun) fun x =>
  if (!x) = true then
    some false
  else
    if ((decide (300 < (steps.length : Int))) || (decide (100 < (rows.length : Int)))) = true then
      some true
    else
      law_PartsTile_L3 steps rows ([(⟨([] : List UInt8), ([] : List UInt8), 0⟩ : Part)], 0)
theorem law_PartsTile_ok (steps : List PartStep) (rows : List (List UInt8)) (r : Bool) (hF : law_PartsTile steps rows = some r) : Pe Try.prog 5 S.none [.sl 5 (steps.map e_PartStep), .sl 1 (rows.map e_str)] (.bool r) S.none := by
  refine Pe_of (N := 165) (res := [.tmp 4]) (ts := [4]) Ty.ok Fn.b5 Try.func5 rfl rfl rfl rfl rfl rfl ?_
  intro Q g hfin
  unfold law_PartsTile at hF
  refine Wk_seq ?_
  refine WR [] [0, 1] [] [] [] [] [] ⟨[(0, .sl 5 (steps.map e_PartStep)), (1, .sl 1 (rows.map e_str))], [], [], [], []⟩ .nil (by kernel_rfl) ?_
  refine Wk_seq ?_
  refine Wk_seq ?_
  obtain ⟨x, h0, hF⟩ := ob_elim hF
  refine WR [.callB (.bool x)] [0, 1, 21] [] [] [] [] [] ⟨[(0, .sl 5 (steps.map e_PartStep)), (1, .sl 1 (rows.map e_str)), (21, .bool (!x))], [], [], [], []⟩ (.cons (law_partsBegun_ok  x h0) .nil) (by kernel_rfl) ?_
  refine Wk_split rfl (fun hb => ?_) (fun hb => ?_)
  · have hF := ite_t hF hb
    refine Wk_seq ?_
    refine WR [] [4] [] [] [] [] [] ⟨[(4, .bool false)], [], [], [], []⟩ .nil (by kernel_rfl) ?_
    have hF := some_elim hF
    exact Wk_ret (hfin _ ⟨[], [], [], [], [], [], by first | (rw [← hF]; kernel_rfl) | kernel_rfl⟩)
  · have hF := ite_f hF hb
    refine Wk_skip ?_
    refine Wk_seq ?_
    refine Wk_seq ?_
    refine WR [.nat (steps.length : Int), .nat (rows.length : Int)] [0, 1, 29] [] [] [] [] [] ⟨[(0, .sl 5 (steps.map e_PartStep)), (1, .sl 1 (rows.map e_str)), (29, .bool ((decide (300 < (steps.length : Int))) || (decide (100 < (rows.length : Int)))))], [], [], [], []⟩ (.cons (len_ok e_PartStep steps) (.cons (fun (_ : (!(decide (300 < (steps.length : Int)))) = true) => (len_ok e_str rows)) .nil)) (by kernel_rfl) ?_
    refine Wk_split rfl (fun hb => ?_) (fun hb => ?_)
    · have hF := ite_t hF hb
      refine Wk_seq ?_
      refine WR [] [4] [] [] [] [] [] ⟨[(4, .bool true)], [], [], [], []⟩ .nil (by kernel_rfl) ?_
      have hF := some_elim hF
      exact Wk_ret (hfin _ ⟨[], [], [], [], [], [], by first | (rw [← hF]; kernel_rfl) | kernel_rfl⟩)
    · have hF := ite_f hF hb
      refine Wk_skip ?_
      refine Wk_seq ?_
      refine WR [.sealed] [0, 1, 5] [] [] [] [] [] ⟨[(0, .sl 5 (steps.map e_PartStep)), (1, .sl 1 (rows.map e_str)), (5, .sl 3 ([(⟨([] : List UInt8), ([] : List UInt8), 0⟩ : Part)].map e_Part))], [], [], [], []⟩ .nil (by kernel_rfl) ?_
      refine Wk_seq ?_
      refine Wk_seq ?_
      refine WR [] [0, 1, 5, 6] [] [] [] [] [] ⟨[(0, .sl 5 (steps.map e_PartStep)), (1, .sl 1 (rows.map e_str)), (5, .sl 3 ([(⟨([] : List UInt8), ([] : List UInt8), 0⟩ : Part)].map e_Part)), (6, .int .i64 0)], [], [], [], []⟩ .nil (by kernel_rfl) ?_
      refine Wk_meetP (fun v : List Part => (⟨[(1, .sl 1 (rows.map e_str)), (5, .sl 3 (v.map e_Part))], [], [], [], []⟩ : S)) (fun v => law_PartsTile_J1 rows v = some r) ?_ ?_
      · refine Wk_block ?_
        unfold law_PartsTile_L3 at hF
        refine Wk_trim (fs := [0, 1, 5, 6]) (bs := []) (rs := []) (ms := []) (aa := []) (nv := []) (t := (fun v5 : List Part × Int => (⟨[(0, .sl 5 (steps.map e_PartStep)), (1, .sl 1 (rows.map e_str)), (5, .sl 3 (v5.1.map e_Part)), (6, .int .i64 v5.2)], [], [], [], []⟩ : S)) ([(⟨([] : List UInt8), ([] : List UInt8), 0⟩ : Part)], 0)) (by kernel_rfl) ?_
        refine Wk_iter (step := fun y => law_PartsTile_B3 steps rows y) (r := r) (fun v5 : List Part × Int => (⟨[(0, .sl 5 (steps.map e_PartStep)), (1, .sl 1 (rows.map e_str)), (5, .sl 3 (v5.1.map e_Part)), (6, .int .i64 v5.2)], [], [], [], []⟩ : S)) ([(⟨([] : List UInt8), ([] : List UInt8), 0⟩ : Part)], 0) hF ?_
        intro n1 v5 y1 hF ih1 dn1
        have hF : law_PartsTile_B3 steps rows v5 = some y1 := hF
        unfold law_PartsTile_B3 at hF
        refine Wk_seq ?_
        refine Wk_seq ?_
        refine WR [.nat (steps.length : Int)] [0, 1, 5, 6, 35] [] [] [] [] [] ⟨[(0, .sl 5 (steps.map e_PartStep)), (1, .sl 1 (rows.map e_str)), (5, .sl 3 (v5.1.map e_Part)), (6, .int .i64 v5.2), (35, .bool (decide (v5.2 < (steps.length : Int))))], [], [], [], []⟩ (.cons (len_ok e_PartStep steps) .nil) (by kernel_rfl) ?_
        refine Wk_split rfl (fun hb => ?_) (fun hb => ?_)
        · have hF := ite_t hF hb
          refine Wk_skip ?_
          refine Wk_seq ?_
          refine Wk_meetP (fun v6 : List Part => (⟨[(0, .sl 5 (steps.map e_PartStep)), (1, .sl 1 (rows.map e_str)), (5, .sl 3 (v6.map e_Part)), (6, .int .i64 v5.2)], [], [], [], []⟩ : S)) (fun v6 => law_PartsTile_J4 v5 v6 = some y1) ?_ ?_
          · refine Wk_block ?_
            refine Wk_seq ?_
            obtain ⟨h7, hF⟩ := asrt_elim hF
            refine WR [.av (e_PartStep (lget steps v5.2))] [0, 1, 5, 6, 7] [7] [] [] [] [] ⟨[(0, .sl 5 (steps.map e_PartStep)), (1, .sl 1 (rows.map e_str)), (5, .sl 3 (v5.1.map e_Part)), (6, .int .i64 v5.2), (7, .ptr 7 0)], [(7, [.bool ((lget steps v5.2).Join), .int .i64 ((lget steps v5.2).At), .str ((lget steps v5.2).Row), .int .i64 ((lget steps v5.2).Left), .int .i64 ((lget steps v5.2).Right)])], [], [], []⟩ (.cons (idx_ok e_PartStep h7) .nil) (by kernel_rfl) ?_
            refine Wk_seq ?_
            refine WR [.nat (v5.1.length : Int)] [0, 1, 5, 6, 7, 8] [7] [] [] [] [] ⟨[(0, .sl 5 (steps.map e_PartStep)), (1, .sl 1 (rows.map e_str)), (5, .sl 3 (v5.1.map e_Part)), (6, .int .i64 v5.2), (7, .ptr 7 0), (8, .int .i64 (v5.1.length : Int))], [(7, [.bool ((lget steps v5.2).Join), .int .i64 ((lget steps v5.2).At), .str ((lget steps v5.2).Row), .int .i64 ((lget steps v5.2).Left), .int .i64 ((lget steps v5.2).Right)])], [], [], []⟩ (.cons (len_ok e_Part v5.1) .nil) (by kernel_rfl) ?_
            refine Wk_seq ?_
            refine Wk_seq ?_
            refine WR [] [0, 1, 5, 6, 7, 8, 45] [7] [] [] [] [] ⟨[(0, .sl 5 (steps.map e_PartStep)), (1, .sl 1 (rows.map e_str)), (5, .sl 3 (v5.1.map e_Part)), (6, .int .i64 v5.2), (7, .ptr 7 0), (8, .int .i64 (v5.1.length : Int)), (45, .bool (decide ((v5.1.length : Int) = 0)))], [(7, [.bool ((lget steps v5.2).Join), .int .i64 ((lget steps v5.2).At), .str ((lget steps v5.2).Row), .int .i64 ((lget steps v5.2).Left), .int .i64 ((lget steps v5.2).Right)])], [], [], []⟩ .nil (by kernel_rfl) ?_
            refine Wk_split rfl (fun hb => ?_) (fun hb => ?_)
            · have hF := ite_t hF hb
              refine Wk_seq ?_
              refine WR [] [4] [] [] [] [] [] ⟨[(4, .bool false)], [], [], [], []⟩ .nil (by kernel_rfl) ?_
              have hF := ret_done hF dn1
              have hF := some_elim hF
              exact Wk_ret (hfin _ ⟨[], [], [], [], [], [], by first | (rw [← hF]; kernel_rfl) | kernel_rfl⟩)
            · have hF := ite_f hF hb
              refine Wk_skip ?_
              refine Wk_seq ?_
              obtain ⟨h8, hF⟩ := asrt_elim hF
              refine WRL (w64 (Int.tmod (IntKind.u64.wrap ((lget steps v5.2).At)) (IntKind.u64.wrap (v5.1.length : Int)))) (fun v7 : Int => ⟨[(0, .sl 5 (steps.map e_PartStep)), (1, .sl 1 (rows.map e_str)), (5, .sl 3 (v5.1.map e_Part)), (6, .int .i64 v5.2), (7, .ptr 7 0), (8, .int .i64 (v5.1.length : Int)), (9, .int .i64 v7)], [(7, [.bool ((lget steps v5.2).Join), .int .i64 ((lget steps v5.2).At), .str ((lget steps v5.2).Row), .int .i64 ((lget steps v5.2).Left), .int .i64 ((lget steps v5.2).Right)])], [], [], []⟩) [] [0, 1, 5, 6, 7, 8, 9] [7] [] [] [] [] (.cons h8 .nil) (by kernel_rfl) (fun v7 hv => ?_)
              have hF := lt_elim hF hv
              refine Wk_seq ?_
              refine Wk_seq ?_
              refine WR [] [0, 1, 5, 6, 7, 8, 9, 54] [7] [] [] [] [] ⟨[(0, .sl 5 (steps.map e_PartStep)), (1, .sl 1 (rows.map e_str)), (5, .sl 3 (v5.1.map e_Part)), (6, .int .i64 v5.2), (7, .ptr 7 0), (8, .int .i64 (v5.1.length : Int)), (9, .int .i64 v7), (54, .bool ((lget steps v5.2).Join))], [(7, [.bool ((lget steps v5.2).Join), .int .i64 ((lget steps v5.2).At), .str ((lget steps v5.2).Row), .int .i64 ((lget steps v5.2).Left), .int .i64 ((lget steps v5.2).Right)])], [], [], []⟩ .nil (by kernel_rfl) ?_
              refine Wk_split rfl (fun hb => ?_) (fun hb => ?_)
              · have hF := ite_t hF hb
                refine Wk_seq ?_
                obtain ⟨x4, h9, hF⟩ := ob_elim hF
                refine WR [.call (.tup [.sl 3 (x4.1.map e_Part), .agg [.int .i64 x4.2.Code, .int .i64 x4.2.At]])] [0, 1, 5, 6, 10, 11] [11] [] [] [] [] ⟨[(0, .sl 5 (steps.map e_PartStep)), (1, .sl 1 (rows.map e_str)), (5, .sl 3 (v5.1.map e_Part)), (6, .int .i64 v5.2), (10, .sl 3 (x4.1.map e_Part)), (11, .ptr 11 0)], [(11, [.int .i64 x4.2.Code, .int .i64 x4.2.At])], [], [], []⟩ (.cons (parts_Join_v1_ok v5.1 v7 ((lget steps v5.2).Left) x4 h9) .nil) (by kernel_rfl) ?_
                refine Wk_seq ?_
                refine Wk_seq ?_
                refine WR [] [0, 1, 5, 6, 10, 65] [] [] [] [] [] ⟨[(0, .sl 5 (steps.map e_PartStep)), (1, .sl 1 (rows.map e_str)), (5, .sl 3 (v5.1.map e_Part)), (6, .int .i64 v5.2), (10, .sl 3 (x4.1.map e_Part)), (65, .bool (decide (x4.2.Code = 0)))], [], [], [], []⟩ .nil (by kernel_rfl) ?_
                obtain ⟨v8, hv, hF⟩ := ob_elim hF
                refine Wk_meet (⟨[(0, .sl 5 (steps.map e_PartStep)), (1, .sl 1 (rows.map e_str)), (5, .sl 3 (v8.map e_Part)), (6, .int .i64 v5.2)], [], [], [], []⟩ : S) ?_ ?_
                · have hF := hv
                  refine Wk_split rfl (fun hb => ?_) (fun hb => ?_)
                  · have hF := ite_t hF hb
                    refine WR [] [0, 1, 5, 6] [] [] [] [] [] ⟨[(0, .sl 5 (steps.map e_PartStep)), (1, .sl 1 (rows.map e_str)), (5, .sl 3 (x4.1.map e_Part)), (6, .int .i64 v5.2)], [], [], [], []⟩ .nil (by kernel_rfl) ?_
                    exact Wk_met (fs := [0, 1, 5, 6]) (bs := []) (rs := []) (ms := []) (aa := []) (nv := []) (by first | (rw [← some_elim hF]; kernel_rfl) | kernel_rfl)
                  · have hF := ite_f hF hb
                    refine Wk_skip ?_
                    exact Wk_met (fs := [0, 1, 5, 6]) (bs := []) (rs := []) (ms := []) (aa := []) (nv := []) (by first | (rw [← some_elim hF]; kernel_rfl) | kernel_rfl)
                · refine Wk_exit rfl ?_
                  exact Wk_metP v8 [0, 1, 5, 6] [] [] [] [] [] hF (by kernel_rfl)
              · have hF := ite_f hF hb
                refine Wk_skip ?_
                refine Wk_seq ?_
                obtain ⟨x5, h10, hF⟩ := ob_elim hF
                refine WR [.call (.tup [.sl 3 (x5.1.map e_Part), .agg [.int .i64 x5.2.Code, .int .i64 x5.2.At]])] [0, 1, 5, 6, 8, 9, 12, 13] [13] [] [] [] [] ⟨[(0, .sl 5 (steps.map e_PartStep)), (1, .sl 1 (rows.map e_str)), (5, .sl 3 (v5.1.map e_Part)), (6, .int .i64 v5.2), (8, .int .i64 (v5.1.length : Int)), (9, .int .i64 v7), (12, .sl 3 (x5.1.map e_Part)), (13, .ptr 13 0)], [(13, [.int .i64 x5.2.Code, .int .i64 x5.2.At])], [], [], []⟩ (.cons (parts_Split_v1_ok v5.1 v7 ((lget steps v5.2).Row) ((lget steps v5.2).Left) ((lget steps v5.2).Right) x5 h10) .nil) (by kernel_rfl) ?_
                refine Wk_seq ?_
                refine Wk_seq ?_
                refine WR [] [0, 1, 5, 6, 8, 9, 12, 81] [] [] [] [] [] ⟨[(0, .sl 5 (steps.map e_PartStep)), (1, .sl 1 (rows.map e_str)), (5, .sl 3 (v5.1.map e_Part)), (6, .int .i64 v5.2), (8, .int .i64 (v5.1.length : Int)), (9, .int .i64 v7), (12, .sl 3 (x5.1.map e_Part)), (81, .bool (!decide (x5.2.Code = 0)))], [], [], [], []⟩ .nil (by kernel_rfl) ?_
                refine Wk_split rfl (fun hb => ?_) (fun hb => ?_)
                · have hF := ite_t hF hb
                  refine Wk_exit rfl ?_
                  exact Wk_metP v5.1 [0, 1, 5, 6] [] [] [] [] [] hF (by kernel_rfl)
                · have hF := ite_f hF hb
                  refine Wk_skip ?_
                  refine Wk_seq ?_
                  refine Wk_seq ?_
                  obtain ⟨x6, h11, hF⟩ := ob_elim hF
                  refine WR [.callB (.agg [.int .i64 x6.Code, .int .i64 x6.At]), .nat (x5.1.length : Int)] [0, 1, 5, 6, 9, 12, 92] [] [] [] [] [] ⟨[(0, .sl 5 (steps.map e_PartStep)), (1, .sl 1 (rows.map e_str)), (5, .sl 3 (v5.1.map e_Part)), (6, .int .i64 v5.2), (9, .int .i64 v7), (12, .sl 3 (x5.1.map e_Part)), (92, .bool ((!decide (x6.Code = 0)) || (!decide ((x5.1.length : Int) = (w64 ((v5.1.length : Int) + 1))))))], [], [], [], []⟩ (.cons (parts_Check_ok x5.1 x6 h11) (.cons (fun (_ : (!(!decide (x6.Code = 0))) = true) => (len_ok e_Part x5.1)) .nil)) (by kernel_rfl) ?_
                  refine Wk_split rfl (fun hb => ?_) (fun hb => ?_)
                  · have hF := ite_t hF hb
                    refine Wk_seq ?_
                    refine WR [] [4] [] [] [] [] [] ⟨[(4, .bool false)], [], [], [], []⟩ .nil (by kernel_rfl) ?_
                    have hF := ret_done hF dn1
                    have hF := some_elim hF
                    exact Wk_ret (hfin _ ⟨[], [], [], [], [], [], by first | (rw [← hF]; kernel_rfl) | kernel_rfl⟩)
                  · have hF := ite_f hF hb
                    refine Wk_skip ?_
                    refine Wk_seq ?_
                    obtain ⟨h12, hF⟩ := asrt_elim hF
                    obtain ⟨x7, h13, hF⟩ := ob_elim hF
                    refine WR [.av (e_Part (lget v5.1 v7)), .call (.tup [.sl 3 (x7.1.map e_Part), .agg [.int .i64 x7.2.Code, .int .i64 x7.2.At]])] [0, 1, 5, 6, 12, 14, 15] [15] [] [] [] [] ⟨[(0, .sl 5 (steps.map e_PartStep)), (1, .sl 1 (rows.map e_str)), (5, .sl 3 (v5.1.map e_Part)), (6, .int .i64 v5.2), (12, .sl 3 (x5.1.map e_Part)), (14, .sl 3 (x7.1.map e_Part)), (15, .ptr 15 0)], [(15, [.int .i64 x7.2.Code, .int .i64 x7.2.At])], [], [], []⟩ (.cons (idx_ok e_Part h12) (.cons (parts_Join_v1_ok x5.1 v7 ((lget v5.1 v7).ID) x7 h13) .nil)) (by kernel_rfl) ?_
                    refine Wk_seq ?_
                    refine Wk_seq ?_
                    obtain ⟨x8, h14, hF⟩ := ob_elim hF
                    refine WR [.callB (.bool x8)] [0, 1, 6, 12, 112] [] [] [] [] [] ⟨[(0, .sl 5 (steps.map e_PartStep)), (1, .sl 1 (rows.map e_str)), (6, .int .i64 v5.2), (12, .sl 3 (x5.1.map e_Part)), (112, .bool ((!decide (x7.2.Code = 0)) || (!x8)))], [], [], [], []⟩ (.cons (fun (ga0 : (!(!decide (x7.2.Code = 0))) = true) => (R_SameParts_ok x7.1 v5.1 x8 (ite_t h14 ga0))) .nil) (by kernel_rfl) ?_
                    refine Wk_split rfl (fun hb => ?_) (fun hb => ?_)
                    · have hF := ite_t hF hb
                      refine Wk_seq ?_
                      refine WR [] [4] [] [] [] [] [] ⟨[(4, .bool false)], [], [], [], []⟩ .nil (by kernel_rfl) ?_
                      have hF := ret_done hF dn1
                      have hF := some_elim hF
                      exact Wk_ret (hfin _ ⟨[], [], [], [], [], [], by first | (rw [← hF]; kernel_rfl) | kernel_rfl⟩)
                    · have hF := ite_f hF hb
                      refine Wk_skip ?_
                      refine WR [] [0, 1, 5, 6] [] [] [] [] [] ⟨[(0, .sl 5 (steps.map e_PartStep)), (1, .sl 1 (rows.map e_str)), (5, .sl 3 (x5.1.map e_Part)), (6, .int .i64 v5.2)], [], [], [], []⟩ .nil (by kernel_rfl) ?_
                      refine Wk_blk ?_
                      exact Wk_metP x5.1 [0, 1, 5, 6] [] [] [] [] [] hF (by kernel_rfl)
          · intro v6 hF
            have hF : law_PartsTile_J4 v5 v6 = some y1 := hF
            unfold law_PartsTile_J4 at hF
            refine WR [] [0, 1, 5, 6] [] [] [] [] [] ⟨[(0, .sl 5 (steps.map e_PartStep)), (1, .sl 1 (rows.map e_str)), (5, .sl 3 (v6.map e_Part)), (6, .int .i64 (w64 (v5.2 + 1)))], [], [], [], []⟩ .nil (by kernel_rfl) ?_
            refine Wk_trim (fs := [0, 1, 5, 6]) (bs := []) (rs := []) (ms := []) (aa := []) (nv := []) ?_ (ih1 _ (some_elim hF).symm)
            kernel_rfl
        · have hF := ite_f hF hb
          refine Wk_exit rfl ?_
          have hF := inrO_done hF dn1
          exact Wk_metP v5.1 [1, 5] [] [] [] [] [] hF (by kernel_rfl)
      · intro v hF
        have hF : law_PartsTile_J1 rows v = some r := hF
        unfold law_PartsTile_J1 at hF
        refine Wk_seq ?_
        refine Wk_seq ?_
        obtain ⟨x1, h1, hF⟩ := ob_elim hF
        refine WR [.callB (.agg [.int .i64 x1.Code, .int .i64 x1.At])] [1, 5, 117] [] [] [] [] [] ⟨[(1, .sl 1 (rows.map e_str)), (5, .sl 3 (v.map e_Part)), (117, .bool (!decide (x1.Code = 0)))], [], [], [], []⟩ (.cons (parts_Check_ok v x1 h1) .nil) (by kernel_rfl) ?_
        refine Wk_split rfl (fun hb => ?_) (fun hb => ?_)
        · have hF := ite_t hF hb
          refine Wk_seq ?_
          refine WR [] [4] [] [] [] [] [] ⟨[(4, .bool false)], [], [], [], []⟩ .nil (by kernel_rfl) ?_
          have hF := some_elim hF
          exact Wk_ret (hfin _ ⟨[], [], [], [], [], [], by first | (rw [← hF]; kernel_rfl) | kernel_rfl⟩)
        · have hF := ite_f hF hb
          refine Wk_skip ?_
          refine Wk_seq ?_
          refine Wk_seq ?_
          refine WR [] [1, 5, 16] [] [] [] [] [] ⟨[(1, .sl 1 (rows.map e_str)), (5, .sl 3 (v.map e_Part)), (16, .int .i64 0)], [], [], [], []⟩ .nil (by kernel_rfl) ?_
          refine Wk_meetP (fun v1 : Unit => (⟨[], [], [], [], []⟩ : S)) (fun v1 => law_PartsTile_J2 v1 = some r) ?_ ?_
          · refine Wk_block ?_
            unfold law_PartsTile_L1 at hF
            refine Wk_trim (fs := [1, 5, 16]) (bs := []) (rs := []) (ms := []) (aa := []) (nv := []) (t := (fun v2 : Int => (⟨[(1, .sl 1 (rows.map e_str)), (5, .sl 3 (v.map e_Part)), (16, .int .i64 v2)], [], [], [], []⟩ : S)) 0) (by kernel_rfl) ?_
            refine Wk_iter (step := fun y => law_PartsTile_B1 rows v y) (r := r) (fun v2 : Int => (⟨[(1, .sl 1 (rows.map e_str)), (5, .sl 3 (v.map e_Part)), (16, .int .i64 v2)], [], [], [], []⟩ : S)) 0 hF ?_
            intro n1 v2 y1 hF ih1 dn1
            have hF : law_PartsTile_B1 rows v v2 = some y1 := hF
            unfold law_PartsTile_B1 at hF
            refine Wk_seq ?_
            refine Wk_seq ?_
            refine WR [.nat (rows.length : Int)] [1, 5, 16, 121] [] [] [] [] [] ⟨[(1, .sl 1 (rows.map e_str)), (5, .sl 3 (v.map e_Part)), (16, .int .i64 v2), (121, .bool (decide (v2 < (rows.length : Int))))], [], [], [], []⟩ (.cons (len_ok e_str rows) .nil) (by kernel_rfl) ?_
            refine Wk_split rfl (fun hb => ?_) (fun hb => ?_)
            · have hF := ite_t hF hb
              refine Wk_skip ?_
              refine Wk_seq ?_
              refine Wk_block ?_
              refine Wk_seq ?_
              obtain ⟨h2, hF⟩ := asrt_elim hF
              obtain ⟨x2, h3, hF⟩ := ob_elim hF
              refine WR [.av (e_str (lget rows v2)), .callB (.tup [.int .i64 x2.1, .agg [.int .i64 x2.2.Code, .int .i64 x2.2.At]])] [1, 5, 16, 17, 18] [18] [] [] [] [] ⟨[(1, .sl 1 (rows.map e_str)), (5, .sl 3 (v.map e_Part)), (16, .int .i64 v2), (17, .int .i64 x2.1), (18, .ptr 18 0)], [(18, [.int .i64 x2.2.Code, .int .i64 x2.2.At])], [], [], []⟩ (.cons (idx_ok e_str h2) (.cons (parts_Find_ok v (lget rows v2) x2 h3) .nil)) (by kernel_rfl) ?_
              refine Wk_seq ?_
              refine Wk_seq ?_
              refine WR [.nat (v.length : Int)] [1, 5, 16, 17, 145] [] [] [] [] [] ⟨[(1, .sl 1 (rows.map e_str)), (5, .sl 3 (v.map e_Part)), (16, .int .i64 v2), (17, .int .i64 x2.1), (145, .bool (((!decide (x2.2.Code = 0)) || (decide (x2.1 < 0))) || (decide ((v.length : Int) ≤ x2.1))))], [], [], [], []⟩ (.cons (fun (_ : (!((!decide (x2.2.Code = 0)) || (decide (x2.1 < 0)))) = true) => (len_ok e_Part v)) .nil) (by kernel_rfl) ?_
              refine Wk_split rfl (fun hb => ?_) (fun hb => ?_)
              · have hF := ite_t hF hb
                refine Wk_seq ?_
                refine WR [] [4] [] [] [] [] [] ⟨[(4, .bool false)], [], [], [], []⟩ .nil (by kernel_rfl) ?_
                have hF := ret_done hF dn1
                have hF := some_elim hF
                exact Wk_ret (hfin _ ⟨[], [], [], [], [], [], by first | (rw [← hF]; kernel_rfl) | kernel_rfl⟩)
              · have hF := ite_f hF hb
                refine Wk_skip ?_
                refine Wk_seq ?_
                refine WR [] [1, 5, 16, 17, 19] [] [] [] [] [] ⟨[(1, .sl 1 (rows.map e_str)), (5, .sl 3 (v.map e_Part)), (16, .int .i64 v2), (17, .int .i64 x2.1), (19, .int .i64 0)], [], [], [], []⟩ .nil (by kernel_rfl) ?_
                refine Wk_meetP (fun v3 : Unit => (⟨[(1, .sl 1 (rows.map e_str)), (5, .sl 3 (v.map e_Part)), (16, .int .i64 v2)], [], [], [], []⟩ : S)) (fun v3 => law_PartsTile_J3 v2 v3 = some y1) ?_ ?_
                · refine Wk_block ?_
                  unfold law_PartsTile_L2 at hF
                  refine Wk_trim (fs := [1, 5, 16, 17, 19]) (bs := []) (rs := []) (ms := []) (aa := []) (nv := []) (t := (fun v4 : Int => (⟨[(1, .sl 1 (rows.map e_str)), (5, .sl 3 (v.map e_Part)), (16, .int .i64 v2), (17, .int .i64 x2.1), (19, .int .i64 v4)], [], [], [], []⟩ : S)) 0) (by kernel_rfl) ?_
                  refine Wk_iter (step := fun y => law_PartsTile_B2 rows v v2 x2 y) (r := y1) (fun v4 : Int => (⟨[(1, .sl 1 (rows.map e_str)), (5, .sl 3 (v.map e_Part)), (16, .int .i64 v2), (17, .int .i64 x2.1), (19, .int .i64 v4)], [], [], [], []⟩ : S)) 0 hF ?_
                  intro n2 v4 y2 hF ih2 dn2
                  have hF : law_PartsTile_B2 rows v v2 x2 v4 = some y2 := hF
                  unfold law_PartsTile_B2 at hF
                  refine Wk_seq ?_
                  refine Wk_seq ?_
                  refine WR [.nat (v.length : Int)] [1, 5, 16, 17, 19, 149] [] [] [] [] [] ⟨[(1, .sl 1 (rows.map e_str)), (5, .sl 3 (v.map e_Part)), (16, .int .i64 v2), (17, .int .i64 x2.1), (19, .int .i64 v4), (149, .bool (decide (v4 < (v.length : Int))))], [], [], [], []⟩ (.cons (len_ok e_Part v) .nil) (by kernel_rfl) ?_
                  refine Wk_split rfl (fun hb => ?_) (fun hb => ?_)
                  · have hF := ite_t hF hb
                    refine Wk_skip ?_
                    refine Wk_seq ?_
                    refine Wk_block ?_
                    refine Wk_seq ?_
                    obtain ⟨h4, hF⟩ := asrt_elim hF
                    obtain ⟨h5, hF⟩ := asrt_elim hF
                    obtain ⟨x3, h6, hF⟩ := lt_split hF
                    refine WD [.av (e_Part (lget v v4)), .av (e_str (lget rows v2)), .callB (.bool x3)] [1, 5, 16, 17, 19, 164] [] [] [] [] [] ⟨[(1, .sl 1 (rows.map e_str)), (5, .sl 3 (v.map e_Part)), (16, .int .i64 v2), (17, .int .i64 x2.1), (19, .int .i64 v4), (164, .bool (!(x3 == (decide (v4 = x2.1)))))], [], [], [], []⟩ (.cons (idx_ok e_Part h4) (.cons (idx_ok e_str h5) (.cons (R_InPart_ok (⟨(lget v v4).From, (lget v v4).To, (lget v v4).ID⟩ : Part) (lget rows v2) x3 h6) .nil))) (by kernel_rfl) ?_
                    refine Wk_split rfl (fun hb => ?_) (fun hb => ?_)
                    · have hF := ite_t hF hb
                      refine Wk_seq ?_
                      refine WR [] [4] [] [] [] [] [] ⟨[(4, .bool false)], [], [], [], []⟩ .nil (by kernel_rfl) ?_
                      have hF := ret_done hF dn2
                      have hF := ret_done hF dn1
                      have hF := some_elim hF
                      exact Wk_ret (hfin _ ⟨[], [], [], [], [], [], by first | (rw [← hF]; kernel_rfl) | kernel_rfl⟩)
                    · have hF := ite_f hF hb
                      refine Wk_skip ?_
                      refine Wk_blk ?_
                      refine WR [] [1, 5, 16, 17, 19] [] [] [] [] [] ⟨[(1, .sl 1 (rows.map e_str)), (5, .sl 3 (v.map e_Part)), (16, .int .i64 v2), (17, .int .i64 x2.1), (19, .int .i64 (w64 (v4 + 1)))], [], [], [], []⟩ .nil (by kernel_rfl) ?_
                      refine Wk_trim (fs := [1, 5, 16, 17, 19]) (bs := []) (rs := []) (ms := []) (aa := []) (nv := []) ?_ (ih2 _ (some_elim hF).symm)
                      kernel_rfl
                  · have hF := ite_f hF hb
                    refine Wk_exit rfl ?_
                    have hF := inrO_done hF dn2
                    exact Wk_metP () [1, 5, 16] [] [] [] [] [] hF (by kernel_rfl)
                · intro v3 hF
                  have hF : law_PartsTile_J3 v2 v3 = some y1 := hF
                  unfold law_PartsTile_J3 at hF
                  refine Wk_blk ?_
                  refine WR [] [1, 5, 16] [] [] [] [] [] ⟨[(1, .sl 1 (rows.map e_str)), (5, .sl 3 (v.map e_Part)), (16, .int .i64 (w64 (v2 + 1)))], [], [], [], []⟩ .nil (by kernel_rfl) ?_
                  refine Wk_trim (fs := [1, 5, 16]) (bs := []) (rs := []) (ms := []) (aa := []) (nv := []) ?_ (ih1 _ (some_elim hF).symm)
                  kernel_rfl
            · have hF := ite_f hF hb
              refine Wk_exit rfl ?_
              have hF := inrO_done hF dn1
              exact Wk_metP () [] [] [] [] [] [] hF (by kernel_rfl)
          · intro v1 hF
            have hF : law_PartsTile_J2 v1 = some r := hF
            unfold law_PartsTile_J2 at hF
            refine Wk_seq ?_
            refine WR [] [4] [] [] [] [] [] ⟨[(4, .bool true)], [], [], [], []⟩ .nil (by kernel_rfl) ?_
            have hF := some_elim hF
            exact Wk_ret (hfin _ ⟨[], [], [], [], [], [], by first | (rw [← hF]; kernel_rfl) | kernel_rfl⟩)

end G
end Go.Proofs.Ytdjlninhfndjfaa
