/- The program's functions as plain functions, and that they are these. Written by a program (dec2.py). -/
import Derived.Test.YtdjlninhfndjfaaGf0
namespace Go.Proofs.Ytdjlninhfndjfaa
open Go Go.Dm
set_option linter.unusedVariables false
set_option linter.unusedSimpArgs false
set_option maxRecDepth 100000
namespace G
/- slices.Concat[[]api.Part,api.Part] -/
noncomputable def slices_Concat_api_Part_api_Part_J2 (v1 : List Part) : Option (List Part) :=
 some v1
noncomputable def slices_Concat_api_Part_api_Part_B1 (slices : List (List Part)) (v2 : List Part × Int) : Option ((List Part × Int) ⊕ (List Part)) :=
 if (decide (v2.2 < (slices.length : Int))) = true then
  asrt (0 ≤ v2.2 ∧ v2.2 < (slices.length : Int)) <|
  asrt (((v2.1 ++ (lget slices v2.2)).length : Int) * 40 ≤ 140737488351232) <|
  some (Sum.inl ((v2.1 ++ (lget slices v2.2)), w64 (v2.2 + 1)))
 else
  inrO (slices_Concat_api_Part_api_Part_J2 v2.1)
noncomputable def slices_Concat_api_Part_api_Part_L1 (slices : List (List Part)) (v0 : List Part × Int) : Option (List Part) :=
 loopO (fun y => slices_Concat_api_Part_api_Part_B1 slices y) v0
noncomputable def slices_Concat_api_Part_api_Part_J1 (slices : List (List Part)) (v : Int) : Option (List Part) :=
 ob (slices_Grow_api_Part_api_Part_v1 v) fun x =>
 slices_Concat_api_Part_api_Part_L1 slices (x, 0)
noncomputable def slices_Concat_api_Part_api_Part_B2 (slices : List (List Part)) (v3 : Int × Int) : Option ((Int × Int) ⊕ (List Part)) :=
 if (decide (v3.2 < (slices.length : Int))) = true then
  asrt (0 ≤ v3.2 ∧ v3.2 < (slices.length : Int)) <|
  ob (
   if (decide ((w64 (v3.1 + ((lget slices v3.2).length : Int))) < 0)) = true then
    none
   else
    some ()) fun (v4 : Unit) =>
  some (Sum.inl (w64 (v3.1 + ((lget slices v3.2).length : Int)), w64 (v3.2 + 1)))
 else
  inrO (slices_Concat_api_Part_api_Part_J1 slices v3.1)
noncomputable def slices_Concat_api_Part_api_Part_L2 (slices : List (List Part)) (v0 : Int × Int) : Option (List Part) :=
 loopO (fun y => slices_Concat_api_Part_api_Part_B2 slices y) v0
noncomputable def slices_Concat_api_Part_api_Part (slices : List (List Part)) : Option (List Part) :=
 slices_Concat_api_Part_api_Part_L2 slices (0, 0)
theorem slices_Concat_api_Part_api_Part_ok (slices : List (List Part)) (r : List Part) (hF : slices_Concat_api_Part_api_Part slices = some r) : Pe Try.prog 72 ⟨[], [], [], [], []⟩ [.sl 1 (slices.map e_L_Part)] (.row 24 0) ⟨[], [], [(24, .o 34 3 0 (r.map e_Part))], [], []⟩ := by
 refine Pe_of (N := 36) (res := [.tmp 2]) (ts := [22]) Ty.ok Fn.b72 Try.func72 rfl rfl rfl rfl rfl rfl ?_
 intro Q g hfin
 unfold slices_Concat_api_Part_api_Part at hF
 refine ZRs [] [0] [] [] [] .nil ?_
 refine ZRs [] [0, 3] [] [] [(3, .i 0)] .nil ?_
 refine Wk_seq ?_
 refine ZRs [.nat (slices.length : Int)] [0, 3, 9, 10, 11] [] [] [(9, .sl 1 (slices.map e_L_Part)), (10, .i (slices.length : Int)), (11, .i 0)] (.cons (len_ok e_L_Part slices) .nil) ?_
 refine Wk_meetP (fun v : Int => (⟨[(0, .sl 1 (slices.map e_L_Part)), (3, .i v)], [], [], [], []⟩ : S)) (fun v => slices_Concat_api_Part_api_Part_J1 slices v = some r) ?_ ?_
 ·refine Wk_block ?_
  unfold slices_Concat_api_Part_api_Part_L2 at hF
  refine Wk_trim (fs := [0, 3, 9, 10, 11]) (bs := []) (rs := []) (ms := []) (aa := []) (nv := []) (t := (fun v3 : Int × Int => (⟨[(0, .sl 1 (slices.map e_L_Part)), (3, .i v3.1), (9, .sl 1 (slices.map e_L_Part)), (10, .i (slices.length : Int)), (11, .i v3.2)], [], [], [], []⟩ : S)) (0, 0)) (by kernel_rfl) ?_
  refine Wk_iter (step := fun y => slices_Concat_api_Part_api_Part_B2 slices y) (r := r) (fun v3 : Int × Int => (⟨[(0, .sl 1 (slices.map e_L_Part)), (3, .i v3.1), (9, .sl 1 (slices.map e_L_Part)), (10, .i (slices.length : Int)), (11, .i v3.2)], [], [], [], []⟩ : S)) (0, 0) hF ?_
  intro n1 v3 y1 hF ih1 dn1
  have hF : slices_Concat_api_Part_api_Part_B2 slices v3 = some y1 := hF
  unfold slices_Concat_api_Part_api_Part_B2 at hF
  refine ZRs [] [0, 3, 9, 10, 11, 12] [] [] [(12, .bool (decide (v3.2 < (slices.length : Int))))] .nil ?_
  refine Wk_seq ?_
  refine Wk_split rfl (fun hb => ?_) (fun hb => ?_)
  ·have hF := ite_t hF hb
   refine Wk_skip ?_
   refine Wk_seq ?_
   refine Wk_block ?_
   refine Wk_seq ?_
   obtain ⟨h3, hF⟩ := asrt_elim hF
   refine ZR [.av (e_L_Part (lget slices v3.2))] [0, 3, 5, 9, 10, 11] [] [] [(5, .sl 3 ((lget slices v3.2).map e_Part))] (.cons (idx_ok e_L_Part h3) .nil) ?_
   refine ZRs [.nat ((lget slices v3.2).length : Int)] [0, 3, 9, 10, 11] [] [] [(3, .i (w64 (v3.1 + ((lget slices v3.2).length : Int))))] (.cons (len_ok e_Part (lget slices v3.2)) .nil) ?_
   refine ZRs [] [0, 3, 9, 10, 11, 20] [] [] [(20, .bool (decide ((w64 (v3.1 + ((lget slices v3.2).length : Int))) < 0)))] .nil ?_
   obtain ⟨v4, hv, hF⟩ := ob_elim hF
   refine Wk_meet (⟨[(0, .sl 1 (slices.map e_L_Part)), (3, .i (w64 (v3.1 + ((lget slices v3.2).length : Int)))), (9, .sl 1 (slices.map e_L_Part)), (10, .i (slices.length : Int)), (11, .i v3.2)], [], [], [], []⟩ : S) ?_ ?_
   ·have hF := hv
    refine Wk_split rfl (fun hb => ?_) (fun hb => ?_)
    ·have hF := ite_t hF hb
     cases hF
    ·have hF := ite_f hF hb
     refine Wk_skip ?_
     exact Wk_met (fs := [0, 3, 9, 10, 11]) (bs := []) (rs := []) (ms := []) (aa := []) (nv := []) (by first | (rw [← some_elim hF]; kernel_rfl) | kernel_rfl)
   ·refine Wk_blk ?_
    refine ZR [] [0, 3, 9, 10, 11] [] [] [(11, .i (w64 (v3.2 + 1)))] .nil ?_
    refine Wk_trim (fs := [0, 3, 9, 10, 11]) (bs := []) (rs := []) (ms := []) (aa := []) (nv := []) ?_ (ih1 _ (some_elim hF).symm)
    kernel_rfl
  ·have hF := ite_f hF hb
   refine Wk_exit rfl ?_
   have hF := inrO_done hF dn1
   exact Wk_metP v3.1 [0, 3] [] [] [] [] [] hF (by kernel_rfl)
 ·intro v hF
  have hF : slices_Concat_api_Part_api_Part_J1 slices v = some r := hF
  unfold slices_Concat_api_Part_api_Part_J1 at hF
  refine Wk_seq ?_
  obtain ⟨x, h0, hF⟩ := ob_elim hF
  refine UR [.raw [0], .callE [] [] [] [] (.row 24 0) ⟨[], [], [(24, .o 34 3 0 (x.map e_Part))], [], []⟩] [0, 6] [] [24] [] [(6, .row 24 0)] [] [(24, .o 34 3 0 (x.map e_Part))] [] (.cons (Pe.ren (slices_Grow_api_Part_api_Part_v1_ok v x h0) ⟨[], [(22, 24)], [], []⟩) .nil) ?_
  refine Wk_seq ?_
  refine ZRs [.nat (slices.length : Int)] [6, 25, 26, 27] [] [24] [(25, .sl 1 (slices.map e_L_Part)), (26, .i (slices.length : Int)), (27, .i 0)] (.cons (len_ok e_L_Part slices) .nil) ?_
  refine Wk_meetP (fun v1 : List Part => (⟨[(6, .row 24 0)], [], [(24, .o 34 3 0 (v1.map e_Part))], [], []⟩ : S)) (fun v1 => slices_Concat_api_Part_api_Part_J2 v1 = some r) ?_ ?_
  ·refine Wk_block ?_
   unfold slices_Concat_api_Part_api_Part_L1 at hF
   refine Wk_trim (fs := [6, 25, 26, 27]) (bs := []) (rs := [24]) (ms := []) (aa := []) (nv := []) (t := (fun v2 : List Part × Int => (⟨[(6, .row 24 0), (25, .sl 1 (slices.map e_L_Part)), (26, .i (slices.length : Int)), (27, .i v2.2)], [], [(24, .o 34 3 0 (v2.1.map e_Part))], [], []⟩ : S)) (x, 0)) (by kernel_rfl) ?_
   refine Wk_iter (step := fun y => slices_Concat_api_Part_api_Part_B1 slices y) (r := r) (fun v2 : List Part × Int => (⟨[(6, .row 24 0), (25, .sl 1 (slices.map e_L_Part)), (26, .i (slices.length : Int)), (27, .i v2.2)], [], [(24, .o 34 3 0 (v2.1.map e_Part))], [], []⟩ : S)) (x, 0) hF ?_
   intro n1 v2 y1 hF ih1 dn1
   have hF : slices_Concat_api_Part_api_Part_B1 slices v2 = some y1 := hF
   unfold slices_Concat_api_Part_api_Part_B1 at hF
   refine ZRs [] [6, 25, 26, 27, 28] [] [24] [(28, .bool (decide (v2.2 < (slices.length : Int))))] .nil ?_
   refine Wk_seq ?_
   refine Wk_split rfl (fun hb => ?_) (fun hb => ?_)
   ·have hF := ite_t hF hb
    refine Wk_skip ?_
    refine Wk_seq ?_
    refine Wk_block ?_
    refine Wk_seq ?_
    obtain ⟨h1, hF⟩ := asrt_elim hF
    refine ZR [.av (e_L_Part (lget slices v2.2))] [6, 8, 25, 26, 27] [] [24] [(8, .sl 3 ((lget slices v2.2).map e_Part))] (.cons (idx_ok e_L_Part h1) .nil) ?_
    obtain ⟨h2, hF⟩ := asrt_elim hF
    refine UR [.xs ((v2.1 ++ (lget slices v2.2)).map e_Part)] [6, 25, 26, 27] [] [24] [] [(6, .row 24 1)] [] [(24, .o 34 3 1 ((v2.1 ++ (lget slices v2.2)).map e_Part))] [] (.cons (app_ok e_Part v2.1 (lget slices v2.2)) (.cons (appl_ok e_Part h2) .nil)) ?_
    refine Wk_blk ?_
    refine ZR [] [6, 25, 26, 27] [] [24] [(27, .i (w64 (v2.2 + 1)))] .nil ?_
    refine Wk_trim (fs := [6, 25, 26, 27]) (bs := []) (rs := [24]) (ms := []) (aa := []) (nv := [(24, ⟨0, true, true, false⟩)]) ?_ (ih1 _ (some_elim hF).symm)
    kernel_rfl
   ·have hF := ite_f hF hb
    refine Wk_exit rfl ?_
    have hF := inrO_done hF dn1
    exact Wk_metP v2.1 [6] [] [24] [] [] [] hF (by kernel_rfl)
  ·intro v1 hF
   have hF : slices_Concat_api_Part_api_Part_J2 v1 = some r := hF
   unfold slices_Concat_api_Part_api_Part_J2 at hF
   refine ZRs [] [2] [] [24] [(2, .row 24 0)] .nil ?_
   have hF := some_elim hF
   exact Wk_ret (hfin _ ⟨[24], [], [24], [], [], [], by first | (rw [← hF]; kernel_rfl) | kernel_rfl⟩)

/- parts.Split -/
noncomputable def parts_Split (l : List Part) (at0 : Int) (row : List UInt8) (left : Int) (right : Int) : Option (List Part × Fault) :=
 ob (parts_Check l) fun x =>
 if (!decide (x.Code = 0)) = true then
  some (([] : List Part), x)
 else
  if ((decide (at0 < 0)) || (decide ((l.length : Int) ≤ at0))) = true then
   lt (parts_fault 3 (-1)) fun x1 =>
   some (([] : List Part), x1)
  else
   if (decide (40 < (row.length : Int))) = true then
    lt (parts_fault 8 (-2)) fun x2 =>
    some (([] : List Part), x2)
   else
    asrt (0 ≤ at0 ∧ at0 < (l.length : Int)) <|
    ob (if (!(!Op.bytesLess ((lget l at0).From) row)) = true then (parts_find l row) else some default) fun x3 =>
    if ((!Op.bytesLess ((lget l at0).From) row) || (!decide (x3 = at0))) = true then
     lt (parts_fault 5 (-2)) fun x4 =>
     some (([] : List Part), x4)
    else
     lt (parts_number left) fun x5 =>
     lt (parts_number right) fun x6 =>
     if ((!x5) || (!x6)) = true then
      lt (parts_fault 3 (-3)) fun x7 =>
      some (([] : List Part), x7)
     else
      ob (if (!(decide (left = right))) = true then (parts_others l at0 (w64 (at0 + 1)) left) else some default) fun x8 =>
      ob (if (!((decide (left = right)) || x8)) = true then (parts_others l at0 (w64 (at0 + 1)) right) else some default) fun x9 =>
      if (((decide (left = right)) || x8) || x9) = true then
       lt (parts_fault 10 (-3)) fun x10 =>
       some (([] : List Part), x10)
      else
       if (decide ((l.length : Int) = 200)) = true then
        lt (parts_fault 2 (-1)) fun x11 =>
        some (([] : List Part), x11)
       else
        asrt (0 ≤ at0 ∧ at0 < (l.length : Int)) <|
        lt ([(⟨(lget l at0).From, row, left⟩ : Part), (⟨row, (lget l at0).To, right⟩ : Part)]) fun (v : List Part) =>
        asrt (0 ≤ at0 ∧ at0 ≤ (l.length : Int)) <|
        asrt (0 ≤ w64 (at0 + 1) ∧ w64 (at0 + 1) ≤ (l.length : Int)) <|
        ob (slices_Concat_api_Part_api_Part ([(ltake l at0), v, (ldrop l (w64 (at0 + 1)))] : List (List Part))) fun x12 =>
        some (x12, (⟨0, 0⟩ : Fault))
theorem parts_Split_ok (l : List Part) (at0 : Int) (row : List UInt8) (left : Int) (right : Int) (r : List Part × Fault) (hF : parts_Split l at0 row left right = some r) : Pe Try.prog 18 ⟨[], [], [], [], []⟩ [.sl 3 (l.map e_Part), .i at0, .str row, .i left, .i right] (.tup [.row 112 0, .agg [.i r.2.Code, .i r.2.At]]) ⟨[], [], [(112, .o 34 3 0 (r.1.map e_Part))], [], []⟩ := by
 refine Pe_of (N := 114) (res := [.tmp 10, .cell 11 26]) (ts := [22, 26]) Ty.ok Fn.b18 Try.func18 rfl rfl rfl rfl rfl rfl ?_
 intro Q g hfin
 unfold parts_Split at hF
 refine URs [] [0, 1, 2, 3, 4, 11] [11] [] [] [(11, .ptr 11 0)] [(11, [.i 0, .i 0])] [] [] .nil ?_
 refine Wk_seq ?_
 refine Wk_seq ?_
 obtain ⟨x, h0, hF⟩ := ob_elim hF
 refine UR [.callB (.agg [.i x.Code, .i x.At])] [0, 1, 2, 3, 4, 11, 12] [11, 12] [] [] [(12, .ptr 12 0)] [(12, [.i x.Code, .i x.At])] [] [] (.cons (parts_Check_ok l x h0) .nil) ?_
 refine ZRs [] [0, 1, 2, 3, 4, 11, 12, 19] [11, 12] [] [(19, .bool (!decide (x.Code = 0)))] .nil ?_
 refine Wk_split rfl (fun hb => ?_) (fun hb => ?_)
 ·have hF := ite_t hF hb
  refine UDs [] [10, 11] [11] [] [] [(10, .nils)] [(11, [.i x.Code, .i x.At])] [] [] .nil ?_
  have hF := some_elim hF
  refine Wk_nilrow 10 60000 34 3 rfl rfl rfl ?_
  refine Wk_ren' ⟨[], [(60000, 112)], [], []⟩ rfl ?_
  exact Wk_ret (hfin _ ⟨[112], [], [112], [], [], [(112, ⟨0, true, false, false⟩)], by first | (rw [← hF]; kernel_rfl) | kernel_rfl⟩)
 ·have hF := ite_f hF hb
  refine Wk_skip ?_
  refine Wk_seq ?_
  refine Wk_block ?_
  refine ZRs [.nat (l.length : Int)] [0, 1, 2, 3, 4, 11, 21] [11] [] [(21, .bool ((decide (at0 < 0)) || (decide ((l.length : Int) ≤ at0))))] (.cons (fun (_ : (!(decide (at0 < 0))) = true) => (len_ok e_Part l)) .nil) ?_
  refine Wk_split rfl (fun hb => ?_) (fun hb => ?_)
  ·have hF := ite_t hF hb
   refine Wk_seq ?_
   obtain ⟨x1, h1, hF⟩ := lt_split hF
   refine UR [.callB (.agg [.i x1.Code, .i x1.At])] [10, 11] [11] [] [] [(10, .nils)] [(11, [.i x1.Code, .i x1.At])] [] [] (.cons (parts_fault_ok 3 (-1) x1 h1) .nil) ?_
   have hF := some_elim hF
   refine Wk_nilrow 10 60001 34 3 rfl rfl rfl ?_
   refine Wk_ren' ⟨[], [(60001, 112)], [], []⟩ rfl ?_
   exact Wk_ret (hfin _ ⟨[112], [], [112], [], [], [(112, ⟨0, true, false, false⟩)], by first | (rw [← hF]; kernel_rfl) | kernel_rfl⟩)
  ·have hF := ite_f hF hb
   refine ZRs [] [0, 1, 2, 3, 4, 11, 31] [11] [] [(31, .bool (decide (40 < (row.length : Int))))] .nil ?_
   refine Wk_split rfl (fun hb => ?_) (fun hb => ?_)
   ·have hF := ite_t hF hb
    refine Wk_seq ?_
    obtain ⟨x2, h2, hF⟩ := lt_split hF
    refine UR [.callB (.agg [.i x2.Code, .i x2.At])] [10, 11] [11] [] [] [(10, .nils)] [(11, [.i x2.Code, .i x2.At])] [] [] (.cons (parts_fault_ok 8 (-2) x2 h2) .nil) ?_
    have hF := some_elim hF
    refine Wk_nilrow 10 60002 34 3 rfl rfl rfl ?_
    refine Wk_ren' ⟨[], [(60002, 112)], [], []⟩ rfl ?_
    exact Wk_ret (hfin _ ⟨[112], [], [112], [], [], [(112, ⟨0, true, false, false⟩)], by first | (rw [← hF]; kernel_rfl) | kernel_rfl⟩)
   ·have hF := ite_f hF hb
    refine Wk_seq ?_
    obtain ⟨h3, hF⟩ := asrt_elim hF
    obtain ⟨x3, h4, hF⟩ := ob_elim hF
    refine ZR [.av (e_Part (lget l at0)), .callB (.i x3)] [0, 1, 2, 3, 4, 11, 36] [11] [] [(36, .bool ((!Op.bytesLess ((lget l at0).From) row) || (!decide (x3 = at0))))] (.cons (idx_ok e_Part h3) (.cons (fun (ga0 : (!(!Op.bytesLess ((lget l at0).From) row)) = true) => (parts_find_ok l row x3 (ite_t h4 ga0))) .nil)) ?_
    refine Wk_split rfl (fun hb => ?_) (fun hb => ?_)
    ·have hF := ite_t hF hb
     refine Wk_seq ?_
     obtain ⟨x4, h5, hF⟩ := lt_split hF
     refine UR [.callB (.agg [.i x4.Code, .i x4.At])] [10, 11] [11] [] [] [(10, .nils)] [(11, [.i x4.Code, .i x4.At])] [] [] (.cons (parts_fault_ok 5 (-2) x4 h5) .nil) ?_
     have hF := some_elim hF
     refine Wk_nilrow 10 60003 34 3 rfl rfl rfl ?_
     refine Wk_ren' ⟨[], [(60003, 112)], [], []⟩ rfl ?_
     exact Wk_ret (hfin _ ⟨[112], [], [112], [], [], [(112, ⟨0, true, false, false⟩)], by first | (rw [← hF]; kernel_rfl) | kernel_rfl⟩)
    ·have hF := ite_f hF hb
     refine Wk_seq ?_
     obtain ⟨x5, h6, hF⟩ := lt_split hF
     obtain ⟨x6, h7, hF⟩ := lt_split hF
     refine ZR [.callB (.bool x5), .callB (.bool x6)] [0, 1, 2, 3, 4, 11, 52] [11] [] [(52, .bool ((!x5) || (!x6)))] (.cons (parts_number_ok left x5 h6) (.cons (fun (ga0 : (!(!x5)) = true) => (parts_number_ok right x6 h7)) .nil)) ?_
     refine Wk_split rfl (fun hb => ?_) (fun hb => ?_)
     ·have hF := ite_t hF hb
      refine Wk_seq ?_
      obtain ⟨x7, h8, hF⟩ := lt_split hF
      refine UR [.callB (.agg [.i x7.Code, .i x7.At])] [10, 11] [11] [] [] [(10, .nils)] [(11, [.i x7.Code, .i x7.At])] [] [] (.cons (parts_fault_ok 3 (-3) x7 h8) .nil) ?_
      have hF := some_elim hF
      refine Wk_nilrow 10 60004 34 3 rfl rfl rfl ?_
      refine Wk_ren' ⟨[], [(60004, 112)], [], []⟩ rfl ?_
      exact Wk_ret (hfin _ ⟨[112], [], [112], [], [], [(112, ⟨0, true, false, false⟩)], by first | (rw [← hF]; kernel_rfl) | kernel_rfl⟩)
     ·have hF := ite_f hF hb
      refine Wk_seq ?_
      obtain ⟨x8, h9, hF⟩ := ob_elim hF
      obtain ⟨x9, h10, hF⟩ := ob_elim hF
      refine ZR [.callB (.bool x8), .callB (.bool x9)] [0, 1, 2, 3, 4, 11, 62] [11] [] [(62, .bool (((decide (left = right)) || x8) || x9))] (.cons (fun (ga0 : (!(decide (left = right))) = true) => (parts_others_ok l at0 (w64 (at0 + 1)) left x8 (ite_t h9 ga0))) (.cons (fun (ga0 : (!((decide (left = right)) || x8)) = true) => (parts_others_ok l at0 (w64 (at0 + 1)) right x9 (ite_t h10 ga0))) .nil)) ?_
      refine Wk_split rfl (fun hb => ?_) (fun hb => ?_)
      ·have hF := ite_t hF hb
       refine Wk_seq ?_
       obtain ⟨x10, h11, hF⟩ := lt_split hF
       refine UR [.callB (.agg [.i x10.Code, .i x10.At])] [10, 11] [11] [] [] [(10, .nils)] [(11, [.i x10.Code, .i x10.At])] [] [] (.cons (parts_fault_ok 10 (-3) x10 h11) .nil) ?_
       have hF := some_elim hF
       refine Wk_nilrow 10 60005 34 3 rfl rfl rfl ?_
       refine Wk_ren' ⟨[], [(60005, 112)], [], []⟩ rfl ?_
       exact Wk_ret (hfin _ ⟨[112], [], [112], [], [], [(112, ⟨0, true, false, false⟩)], by first | (rw [← hF]; kernel_rfl) | kernel_rfl⟩)
      ·have hF := ite_f hF hb
       refine ZRs [.nat (l.length : Int)] [0, 1, 2, 3, 4, 11, 83] [11] [] [(83, .bool (decide ((l.length : Int) = 200)))] (.cons (len_ok e_Part l) .nil) ?_
       refine Wk_split rfl (fun hb => ?_) (fun hb => ?_)
       ·have hF := ite_t hF hb
        refine Wk_seq ?_
        obtain ⟨x11, h12, hF⟩ := lt_split hF
        refine UR [.callB (.agg [.i x11.Code, .i x11.At])] [10, 11] [11] [] [] [(10, .nils)] [(11, [.i x11.Code, .i x11.At])] [] [] (.cons (parts_fault_ok 2 (-1) x11 h12) .nil) ?_
        have hF := some_elim hF
        refine Wk_nilrow 10 60006 34 3 rfl rfl rfl ?_
        refine Wk_ren' ⟨[], [(60006, 112)], [], []⟩ rfl ?_
        exact Wk_ret (hfin _ ⟨[112], [], [112], [], [], [(112, ⟨0, true, false, false⟩)], by first | (rw [← hF]; kernel_rfl) | kernel_rfl⟩)
       ·have hF := ite_f hF hb
        refine Wk_skip ?_
        refine Wk_blk ?_
        refine Wk_seq ?_
        obtain ⟨h13, hF⟩ := asrt_elim hF
        refine UR [.av (e_Part (lget l at0))] [0, 1, 2, 3, 4, 11, 13] [11, 13] [] [] [(13, .ptr 13 0)] [(13, (c_Part (lget l at0)))] [] [] (.cons (idx_ok e_Part h13) .nil) ?_
        refine Wk_seq ?_
        refine WRL ([(⟨(lget l at0).From, row, left⟩ : Part), (⟨row, (lget l at0).To, right⟩ : Part)]) (fun v : List Part => ⟨[(0, .sl 3 (l.map e_Part)), (1, .i at0), (11, .ptr 11 0), (14, .sl 3 (v.map e_Part))], [(11, [.i 0, .i 0])], [], [], []⟩) [.sealed] [0, 1, 11, 14] [11] [] [] [] [] .nil (by kernel_rfl) (fun v hv => ?_)
        have hF := lt_elim hF hv
        refine Wk_seq ?_
        obtain ⟨h14, hF⟩ := asrt_elim hF
        obtain ⟨h15, hF⟩ := asrt_elim hF
        obtain ⟨x12, h16, hF⟩ := ob_elim hF
        refine UD [.xs ((ltake l at0).map e_Part), .xs ((ldrop l (w64 (at0 + 1))).map e_Part), .sealed, .callE [] [] [] [] (.row 112 0) ⟨[], [], [(112, .o 34 3 0 (x12.map e_Part))], [], []⟩] [10, 11] [11] [112] [] [(10, .row 112 0)] [] [(112, .o 34 3 0 (x12.map e_Part))] [] (.cons (sl01_ok e_Part h14) (.cons (sl10_ok e_Part h15) (.cons (Pe.ren (slices_Concat_api_Part_api_Part_ok ([(ltake l at0), v, (ldrop l (w64 (at0 + 1)))] : List (List Part)) x12 h16) ⟨[], [(24, 112)], [], []⟩) .nil))) ?_
        have hF := some_elim hF
        exact Wk_ret (hfin _ ⟨[112], [], [112], [], [], [], by first | (rw [← hF]; kernel_rfl) | kernel_rfl⟩)

/- assign.much -/
noncomputable def assign_much_J1 (at0 : Int) (o : Order) (row : List Host) (row1 : List Slot) (v : List Part) : Option (Fault × List Host × List Slot) :=
 ob (parts_Split v at0 o.Row (v.length : Int) (w64 ((v.length : Int) + 1))) fun x1 =>
 if (!decide (x1.2.Code = 0)) = true then
  some (x1.2, row, row1)
 else
  lt (assign_fault 9 0) fun x2 =>
  some (x2, row, row1)
noncomputable def assign_much_B1 (at0 : Int) (o : Order) (row : List Host) (row1 : List Slot) (x : List Part) (v1 : List Part × Int) : Option ((List Part × Int) ⊕ (Fault × List Host × List Slot)) :=
 if (decide (v1.2 < (x.length : Int))) = true then
  asrt (0 ≤ v1.2 ∧ v1.2 < (v1.1.length : Int)) <|
  asrt (0 ≤ v1.2 ∧ v1.2 < (v1.1.length : Int)) <|
  lt ((lset v1.1 v1.2 (⟨(lget v1.1 v1.2).From, (lget v1.1 v1.2).To, v1.2⟩ : Part))) fun (v2 : List Part) =>
  some (Sum.inl (v2, w64 (v1.2 + 1)))
 else
  inrO (assign_much_J1 at0 o row row1 v1.1)
noncomputable def assign_much_L1 (at0 : Int) (o : Order) (row : List Host) (row1 : List Slot) (x : List Part) (v0 : List Part × Int) : Option (Fault × List Host × List Slot) :=
 loopO (fun y => assign_much_B1 at0 o row row1 x y) v0
noncomputable def assign_much (at0 : Int) (o : Order) (box : Int) (box1 : Int) (row : List Host) (row1 : List Slot) : Option (Fault × List Host × List Slot) :=
 ob (assign_Parts (⟨row, row1, box, box1⟩ : Board)) fun x =>
 assign_much_L1 at0 o row row1 x (x, 0)
theorem assign_much_ok (at0 : Int) (o : Order) (box : Int) (box1 : Int) (row : List Host) (row1 : List Slot) (rk : Nat) (rc : Nat) (rn : Bool) (rk1 : Nat) (rc1 : Nat) (rn1 : Bool) (r : Fault × List Host × List Slot) (hF : assign_much at0 o box box1 row row1 = some r) : Pe Try.prog 125 ⟨[], [(100000, [.row 100000 0, .row 100001 0, .i box, .i box1])], [(100000, ⟨108, 3, 0, rk, rc, rn, 0, [], (row.map e_Host)⟩), (100001, ⟨64, 6, 0, rk1, rc1, rn1, 0, [], (row1.map e_Slot)⟩)], [], []⟩ [.ptr 100000 0, .i at0, .agg (c_Order o)] (.agg [.i r.1.Code, .i r.1.At]) ⟨[], [(100000, [.row 100000 0, .row 100001 0, .i box, .i box1])], [(100000, ⟨108, 3, 0, (r.2.1.map e_Host).length, rc, rn, 0, [], (r.2.1.map e_Host)⟩), (100001, ⟨64, 6, 0, (r.2.2.map e_Slot).length, rc1, rn1, 0, [], (r.2.2.map e_Slot)⟩)], [], []⟩ := by
 refine Pe_of (N := 44) (res := [.cell 6 26]) (ts := [26]) Ty.ok Fn.b125 Try.func125 rfl rfl rfl rfl rfl rfl ?_
 intro Q g hfin
 unfold assign_much at hF
 refine URs [] [0, 1, 5, 6] [5, 6, 100000] [100000, 100001] [] [(5, .ptr 5 0), (6, .ptr 6 0)] [(5, (c_Order o)), (6, [.i 0, .i 0])] [] [] .nil ?_
 refine Wk_seq ?_
 obtain ⟨x, h0, hF⟩ := ob_elim hF
 refine UR [.callE [] [] [] [] (.row 14 0) ⟨[], [], [(14, .o 34 3 0 (x.map e_Part))], [], []⟩] [1, 5, 6, 7] [5, 6, 100000] [14, 100000, 100001] [] [(7, .row 14 0)] [] [(14, .o 34 3 0 (x.map e_Part)), (100000, ⟨108, 3, 0, (row.map e_Host).length, rc, rn, 0, [], (row.map e_Host)⟩), (100001, ⟨64, 6, 0, (row1.map e_Slot).length, rc1, rn1, 0, [], (row1.map e_Slot)⟩)] [] (.cons (Pe.ren (assign_Parts_ok (⟨row, row1, box, box1⟩ : Board) x h0) ⟨[], [(9, 14)], [], []⟩) .nil) ?_
 refine Wk_seq ?_
 refine ZRs [.nat (x.length : Int)] [1, 5, 6, 7, 16, 17] [5, 6, 100000] [14, 100000, 100001] [(16, .i (x.length : Int)), (17, .i 0)] (.cons (len_ok e_Part x) .nil) ?_
 refine Wk_meetP (fun v : List Part => (⟨[(1, .i at0), (5, .ptr 5 0), (6, .ptr 6 0), (7, .row 14 0)], [(5, (c_Order o)), (6, [.i 0, .i 0]), (100000, [.row 100000 0, .row 100001 0, .i box, .i box1])], [(14, .o 34 3 0 (v.map e_Part)), (100000, ⟨108, 3, 0, (row.map e_Host).length, rc, rn, 0, [], (row.map e_Host)⟩), (100001, ⟨64, 6, 0, (row1.map e_Slot).length, rc1, rn1, 0, [], (row1.map e_Slot)⟩)], [], []⟩ : S)) (fun v => assign_much_J1 at0 o row row1 v = some r) ?_ ?_
 ·refine Wk_block ?_
  unfold assign_much_L1 at hF
  refine Wk_trim (fs := [1, 5, 6, 7, 16, 17]) (bs := [5, 6, 100000]) (rs := [14, 100000, 100001]) (ms := []) (aa := []) (nv := []) (t := (fun v1 : List Part × Int => (⟨[(1, .i at0), (5, .ptr 5 0), (6, .ptr 6 0), (7, .row 14 0), (16, .i (x.length : Int)), (17, .i v1.2)], [(5, (c_Order o)), (6, [.i 0, .i 0]), (100000, [.row 100000 0, .row 100001 0, .i box, .i box1])], [(14, .o 34 3 0 (v1.1.map e_Part)), (100000, ⟨108, 3, 0, (row.map e_Host).length, rc, rn, 0, [], (row.map e_Host)⟩), (100001, ⟨64, 6, 0, (row1.map e_Slot).length, rc1, rn1, 0, [], (row1.map e_Slot)⟩)], [], []⟩ : S)) (x, 0)) (by kernel_rfl) ?_
  refine Wk_iter (step := fun y => assign_much_B1 at0 o row row1 x y) (r := r) (fun v1 : List Part × Int => (⟨[(1, .i at0), (5, .ptr 5 0), (6, .ptr 6 0), (7, .row 14 0), (16, .i (x.length : Int)), (17, .i v1.2)], [(5, (c_Order o)), (6, [.i 0, .i 0]), (100000, [.row 100000 0, .row 100001 0, .i box, .i box1])], [(14, .o 34 3 0 (v1.1.map e_Part)), (100000, ⟨108, 3, 0, (row.map e_Host).length, rc, rn, 0, [], (row.map e_Host)⟩), (100001, ⟨64, 6, 0, (row1.map e_Slot).length, rc1, rn1, 0, [], (row1.map e_Slot)⟩)], [], []⟩ : S)) (x, 0) hF ?_
  intro n1 v1 y1 hF ih1 dn1
  have hF : assign_much_B1 at0 o row row1 x v1 = some y1 := hF
  unfold assign_much_B1 at hF
  refine ZRs [] [1, 5, 6, 7, 16, 17, 18] [5, 6, 100000] [14, 100000, 100001] [(18, .bool (decide (v1.2 < (x.length : Int))))] .nil ?_
  refine Wk_seq ?_
  refine Wk_split rfl (fun hb => ?_) (fun hb => ?_)
  ·have hF := ite_t hF hb
   refine Wk_skip ?_
   refine Wk_seq ?_
   refine Wk_block ?_
   refine ZRs [] [1, 5, 6, 7, 8, 16, 17] [5, 6, 100000] [14, 100000, 100001] [(8, .i v1.2)] .nil ?_
   obtain ⟨h3, hF⟩ := asrt_elim hF
   obtain ⟨h4, hF⟩ := asrt_elim hF
   refine WRL ((lset v1.1 v1.2 (⟨(lget v1.1 v1.2).From, (lget v1.1 v1.2).To, v1.2⟩ : Part))) (fun v2 : List Part => ⟨[(1, .i at0), (5, .ptr 5 0), (6, .ptr 6 0), (7, .row 14 0), (16, .i (x.length : Int)), (17, .i v1.2)], [(5, (c_Order o)), (6, [.i 0, .i 0]), (100000, [.row 100000 0, .row 100001 0, .i box, .i box1])], [(14, .o 34 3 0 (v2.map e_Part)), (100000, ⟨108, 3, 0, (row.map e_Host).length, rc, rn, 0, [], (row.map e_Host)⟩), (100001, ⟨64, 6, 0, (row1.map e_Slot).length, rc1, rn1, 0, [], (row1.map e_Slot)⟩)], [], []⟩) [.av (e_Part (lget v1.1 v1.2)), .xs ((lset v1.1 v1.2 (⟨(lget v1.1 v1.2).From, (lget v1.1 v1.2).To, v1.2⟩ : Part)).map e_Part)] [1, 5, 6, 7, 16, 17] [5, 6, 100000] [14, 100000, 100001] [] [] [] (.cons (ixr_ok e_Part h3) (.cons (ldr_ok e_Part h4) (.cons (set_ok e_Part v1.1 v1.2 (⟨(lget v1.1 v1.2).From, (lget v1.1 v1.2).To, v1.2⟩ : Part)) (.cons (Nat.zero_le v1.2.toNat) .nil)))) (by kernel_rfl) (fun v2 hv => ?_)
   have hF := lt_elim hF hv
   refine Wk_blk ?_
   refine ZR [] [1, 5, 6, 7, 16, 17] [5, 6, 100000] [14, 100000, 100001] [(17, .i (w64 (v1.2 + 1)))] .nil ?_
   refine Wk_trim (fs := [1, 5, 6, 7, 16, 17]) (bs := [5, 6, 100000]) (rs := [14, 100000, 100001]) (ms := []) (aa := []) (nv := []) ?_ (ih1 _ (some_elim hF).symm)
   kernel_rfl
  ·have hF := ite_f hF hb
   refine Wk_exit rfl ?_
   have hF := inrO_done hF dn1
   exact Wk_metP v1.1 [1, 5, 6, 7] [5, 6, 100000] [14, 100000, 100001] [] [] [] hF (by kernel_rfl)
 ·intro v hF
  have hF : assign_much_J1 at0 o row row1 v = some r := hF
  unfold assign_much_J1 at hF
  refine Wk_seq ?_
  refine Wk_seq ?_
  obtain ⟨x1, h1, hF⟩ := ob_elim hF
  refine UR [.nat (v.length : Int), .nat (v.length : Int), .callE [] [] [] [] (.tup [.row 36 0, .agg [.i x1.2.Code, .i x1.2.At]]) ⟨[], [], [(36, .o 34 3 0 (x1.1.map e_Part))], [], []⟩] [6, 10] [6, 10, 100000] [100000, 100001] [] [(10, .ptr 10 0)] [(10, [.i x1.2.Code, .i x1.2.At])] [] [] (.cons (len_ok e_Part v) (.cons (len_ok e_Part v) (.cons (Pe.ren (parts_Split_ok v at0 o.Row (v.length : Int) (w64 ((v.length : Int) + 1)) x1 h1) ⟨[], [(112, 36)], [], []⟩) .nil))) ?_
  refine ZRs [] [6, 10, 41] [6, 10, 100000] [100000, 100001] [(41, .bool (!decide (x1.2.Code = 0)))] .nil ?_
  refine Wk_split rfl (fun hb => ?_) (fun hb => ?_)
  ·have hF := ite_t hF hb
   refine URs [] [6] [6, 100000] [100000, 100001] [] [] [(6, [.i x1.2.Code, .i x1.2.At])] [] [] .nil ?_
   have hF := some_elim hF
   exact Wk_ret (hfin _ ⟨[100000, 100001], [100000], [100000, 100001], [], [], [], by first | (rw [← hF]; kernel_rfl) | kernel_rfl⟩)
  ·have hF := ite_f hF hb
   refine Wk_skip ?_
   refine Wk_seq ?_
   obtain ⟨x2, h2, hF⟩ := lt_split hF
   refine UR [.callB (.agg [.i x2.Code, .i x2.At])] [6] [6, 100000] [100000, 100001] [] [] [(6, [.i x2.Code, .i x2.At])] [] [] (.cons (assign_fault_ok 9 0 x2 h2) .nil) ?_
   have hF := some_elim hF
   exact Wk_ret (hfin _ ⟨[100000, 100001], [100000], [100000, 100001], [], [], [], by first | (rw [← hF]; kernel_rfl) | kernel_rfl⟩)

/- slices.Replace[[]api.Slot,api.Slot] -/
set_option maxHeartbeats 4000000 in
theorem slices_Replace_api_Slot_api_Slot_w : RplW Try.prog 126 131 60 6 where
 cut := by
  intro b n c i va m vc w W1 W2 hi hm him hnc hc63 hap hcl
  have mixed : Try.prog.follows .mixedOrders = true := Ty.mixed
  have hz1 : ¬ ((i : Int) = (n : Int)) := by omega
  have hin : i ≤ n := by omega
  have hb4 : ¬ (c = i) := by omega
  have hb5 : ¬ (c = i + m) := by omega
  have hb6 : (i : Int) + (m : Int) < (n : Int) := by omega
  have hb7 : ((i : Int) + (m : Int)).toNat = i + m := by omega
  have hb8 : (0 : Int) ≤ (i : Int) + (m : Int) := by omega
  have hb9 : (i : Int) + (m : Int) ≤ (n : Int) := by omega
  go_enter Try.func126, Try.ntmps126
  go_wp2_with (first
    | (at_builtin; refine Go.Lib.wpList_append_run _ rfl _ _ _ _ rfl _ _ rfl rfl _ _ (hap _) ?_)
    | (refine wpList_clear_run _ rfl _ 60 rfl _ rfl (hcl _) ?_))
  go_ret
  exact ⟨rfl, rfl⟩
 fin := by
  intro b n c i va m vc w W1 b1 l1 hi hm him hnc hap
  have mixed : Try.prog.follows .mixedOrders = true := Ty.mixed
  have hz1 : ¬ ((i : Int) = (n : Int)) := by omega
  have hin : i ≤ n := by omega
  have hb4 : ¬ (c = i) := by omega
  have hb6 : ¬ ((i : Int) + (m : Int) < (n : Int)) := by omega
  go_enter Try.func126, Try.ntmps126
  go_wp2_with (at_builtin; refine Go.Lib.wpList_append_run _ rfl _ _ _ _ rfl _ _ rfl rfl _ _ (hap _) ?_)
  go_ret
  exact ⟨rfl, rfl⟩
 grow := by
  intro b n c i j g G va m vc w W1 W2 W3 hi hj hm hroom hnc hc63 hG hG63 hrz hcp1 hcp2
  have mixed : Try.prog.follows .mixedOrders = true := Ty.mixed
  have hz1 : ¬ ((i : Int) = (j : Int)) := by omega
  have hz2 : ¬ ((j : Int) = (n : Int)) := by omega
  have hin : i ≤ n := by omega
  have hij : i ≤ j := by omega
  have hij2 : (i : Int) ≤ (j : Int) := by omega
  have hjn : j ≤ n := by omega
  have hb4 : ¬ (c = i) := by omega
  have hb5 : ¬ (c = j) := by omega
  have hw1 : IntKind.i64.wrap ((i : Int) + (m : Int)) = (i : Int) + (m : Int) := by rw [IntKind.wrap_i64]; omega
  have hw2 : IntKind.i64.wrap ((i : Int) + (m : Int) + ((n : Int) - (j : Int))) = (i : Int) + (m : Int) + ((n : Int) - (j : Int)) := by rw [IntKind.wrap_i64]; omega
  have hw3 : IntKind.i64.wrap ((i : Int) + (m : Int) + ((n : Int) - (j : Int)) - (i : Int)) = (i : Int) + (m : Int) + ((n : Int) - (j : Int)) - (i : Int) := by rw [IntKind.wrap_i64]; omega
  have hz3 : (c : Int) < (i : Int) + (m : Int) + ((n : Int) - (j : Int)) := by omega
  have htn : ((i : Int) + (m : Int)).toNat = i + m := by omega
  have hb1 : (0 : Int) ≤ (i : Int) + (m : Int) := by omega
  have hGi : ¬ (G = i) := by omega
  have hGim : ¬ (G = i + m) := by omega
  have hb6 : (i : Int) ≤ (i : Int) + (m : Int) + ((n : Int) - (j : Int)) := by omega
  have hb7 : (i : Int) + (m : Int) ≤ (i : Int) + (m : Int) + ((n : Int) - (j : Int)) := by omega
  have hsub : ((n - j : Nat) : Int) = (n : Int) - (j : Int) := by omega
  go_enter Try.func126, Try.ntmps126
  go_wp2
  go_region_o
  go_wp2_with (first
    | (at_builtin; refine Go.Lib.wpList_append_run _ rfl _ _ _ _ rfl _ _ rfl rfl _ _ (hrz _) ?_)
    | (at_builtin; refine wpList_copy_runI _ rfl _ _ 60 60 rfl _ _ rfl rfl (hcp1 _ _) ?_))
  go_region_law_o (refine step_copy_runI rfl _ _ 60 60 rfl (.slice (some ⟨g, (i + m) * 6, none⟩) (i + m + (n - j) - (i + m)) (G - (i + m))) (.slice (some ⟨b, j * 6, none⟩) (n - j) (c - j)) (by simp [Act.eval, Act.put]) (by simp [Act.eval, Act.put]) (hcp2 _ _ _) ?_)
  go_wp2
  go_ret
  exact ⟨rfl, rfl⟩
 fits := by
  intro b n c i j va m vc w W1 W2 W3 hi hj hm him hnc hc63 hcp1 hcp2 hcl
  have mixed : Try.prog.follows .mixedOrders = true := Ty.mixed
  have hz1 : ¬ ((i : Int) = (j : Int)) := by omega
  have hz2 : ¬ ((j : Int) = (n : Int)) := by omega
  have hin : i ≤ n := by omega
  have hij : i ≤ j := by omega
  have hij2 : (i : Int) ≤ (j : Int) := by omega
  have hjn : j ≤ n := by omega
  have hb4 : ¬ (c = i) := by omega
  have hb5 : ¬ (c = j) := by omega
  have hw1 : IntKind.i64.wrap ((i : Int) + (m : Int)) = (i : Int) + (m : Int) := by rw [IntKind.wrap_i64]; omega
  have hw2 : IntKind.i64.wrap ((i : Int) + (m : Int) + ((n : Int) - (j : Int))) = (i : Int) + (m : Int) + ((n : Int) - (j : Int)) := by rw [IntKind.wrap_i64]; omega
  have htn : ((i : Int) + (m : Int)).toNat = i + m := by omega
  have hb1 : (0 : Int) ≤ (i : Int) + (m : Int) := by omega
  have hb6 : (i : Int) ≤ (i : Int) + (m : Int) + ((n : Int) - (j : Int)) := by omega
  have hb7 : (i : Int) + (m : Int) ≤ (i : Int) + (m : Int) + ((n : Int) - (j : Int)) := by omega
  have hsub : ((n - j : Nat) : Int) = (n : Int) - (j : Int) := by omega
  have hz3 : ¬ ((c : Int) < (i : Int) + (m : Int) + ((n : Int) - (j : Int))) := by omega
  have hz4 : (i : Int) + (m : Int) ≤ (j : Int) := by omega
  have hci : ¬ (c = i + m) := by omega
  have hct : ¬ (c = i + m + (n - j)) := by omega
  have ht0 : (0 : Int) ≤ (i : Int) + (m : Int) + ((n : Int) - (j : Int)) := by omega
  have htt : ((i : Int) + (m : Int) + ((n : Int) - (j : Int))).toNat = i + m + (n - j) := by omega
  have htc : (i : Int) + (m : Int) + ((n : Int) - (j : Int)) ≤ (c : Int) := by omega
  have htn2 : (i : Int) + (m : Int) + ((n : Int) - (j : Int)) ≤ (n : Int) := by omega
  go_enter Try.func126, Try.ntmps126
  go_wp2
  go_region_o
  go_wp2_with (at_builtin; refine wpList_copy_runI _ rfl _ _ 60 60 rfl _ _ rfl rfl (hcp1 _ _) ?_)
  go_region_law_o (refine step_copy_runI rfl _ _ 60 60 rfl (.slice (some ⟨b, (i + m) * 6, none⟩) (i + m + (n - j) - (i + m)) (c - (i + m))) (.slice (some ⟨b, j * 6, none⟩) (n - j) (c - j)) (by simp [Act.eval, Act.put]) (by simp [Act.eval, Act.put]) (hcp2 _ _ _) ?_)
  go_wp2_with (refine wpList_clear_run _ rfl _ 60 rfl _ rfl (hcl _) ?_)
  go_ret
  exact ⟨rfl, rfl⟩
 expand := by
  intro b n c i j va m vc w W1 W2 hi hj hm him hroom hc63 hov hcp1 hcp2
  have mixed : Try.prog.follows .mixedOrders = true := Ty.mixed
  have hz1 : ¬ ((i : Int) = (j : Int)) := by omega
  have hz2 : ¬ ((j : Int) = (n : Int)) := by omega
  have hin : i ≤ n := by omega
  have hij : i ≤ j := by omega
  have hij2 : (i : Int) ≤ (j : Int) := by omega
  have hjn : j ≤ n := by omega
  have hb4 : ¬ (c = i) := by omega
  have hb5 : ¬ (c = j) := by omega
  have hw1 : IntKind.i64.wrap ((i : Int) + (m : Int)) = (i : Int) + (m : Int) := by rw [IntKind.wrap_i64]; omega
  have hw2 : IntKind.i64.wrap ((i : Int) + (m : Int) + ((n : Int) - (j : Int))) = (i : Int) + (m : Int) + ((n : Int) - (j : Int)) := by rw [IntKind.wrap_i64]; omega
  have htn : ((i : Int) + (m : Int)).toNat = i + m := by omega
  have hb1 : (0 : Int) ≤ (i : Int) + (m : Int) := by omega
  have hb6 : (i : Int) ≤ (i : Int) + (m : Int) + ((n : Int) - (j : Int)) := by omega
  have hb7 : (i : Int) + (m : Int) ≤ (i : Int) + (m : Int) + ((n : Int) - (j : Int)) := by omega
  have hsub : ((n - j : Nat) : Int) = (n : Int) - (j : Int) := by omega
  have hz3 : ¬ ((c : Int) < (i : Int) + (m : Int) + ((n : Int) - (j : Int))) := by omega
  have hz4 : ¬ ((i : Int) + (m : Int) ≤ (j : Int)) := by omega
  have hci : ¬ (c = i + m) := by omega
  have ht0 : (0 : Int) ≤ (i : Int) + (m : Int) + ((n : Int) - (j : Int)) := by omega
  have htt : ((i : Int) + (m : Int) + ((n : Int) - (j : Int))).toNat = i + m + (n - j) := by omega
  have htc : (i : Int) + (m : Int) + ((n : Int) - (j : Int)) ≤ (c : Int) := by omega
  go_enter Try.func126, Try.ntmps126
  go_wp2
  go_region_o
  go_wp2_with (simp only [hov])
  go_region_law_o (refine step_copy_runI rfl _ _ 60 60 rfl (.slice (some ⟨b, (i + m) * 6, none⟩) (i + m + (n - j) - (i + m)) (c - (i + m))) (.slice (some ⟨b, j * 6, none⟩) (n - j) (c - j)) (by simp [Act.eval, Act.put]) (by simp [Act.eval, Act.put]) (hcp1 _ _ _) ?_)
  go_wp2_with (at_builtin; refine wpList_copy_runI _ rfl _ _ 60 60 rfl _ _ rfl rfl (hcp2 _ _) ?_)
  go_ret
  exact ⟨rfl, rfl⟩
noncomputable def slices_Replace_api_Slot_api_Slot (i : Int) (j : Int) (v : List Slot) (row : List Slot) : Option (List Slot) :=
 asrt (0 ≤ i ∧ i < j ∧ j ≤ (row.length : Int)) <|
 asrt (v.length ≠ 0 ∧ (v.length : Int) ≠ j - i) <|
 asrt ((row.length + v.length) * 64 ≤ 140737488351232) <|
 some (row.take i.toNat ++ v ++ row.drop j.toNat)
theorem slices_Replace_api_Slot_api_Slot_ok (i : Int) (j : Int) (v : List Slot) (row : List Slot) (rk : Nat) (rc : Nat) (rn : Bool) (r : List Slot) (hF : slices_Replace_api_Slot_api_Slot i j v row = some r) : Pe Try.prog 126 ⟨[], [], [(100000, ⟨64, 6, 0, 0, rc, rn, 0, [], (row.map e_Slot)⟩)], [], []⟩ [.row 100000 0, .i i, .i j, .sl 6 (v.map e_Slot)] (.row 100000 1) ⟨[], [], [(100000, .o 64 6 1 (r.map e_Slot))], [], []⟩ := by
 unfold slices_Replace_api_Slot_api_Slot at hF
 obtain ⟨h0, hF⟩ := asrt_elim hF
 obtain ⟨h1, hF⟩ := asrt_elim hF
 obtain ⟨h2, hF⟩ := asrt_elim hF
 have hF := some_elim hF
 rw [← hF, List.map_append, List.map_append, List.map_take, List.map_drop]
 exact Pe_rplT Ty.ok ⟨_, Try.func126, rfl, rfl⟩ slices_Replace_api_Slot_api_Slot_w rfl rfl rfl rfl rfl rfl rfl
  (fun args w => run_callFunc_extern Try.func131 (by kernel_rfl) (by kernel_rfl) (by kernel_rfl) (e := Extern.SlicesOverlaps.overlaps #[60, 60] #[4]) (by kernel_rfl) args w)
  (by rw [List.length_map]; exact h0) (by rw [List.length_map]; exact h1) (by rw [List.length_map, List.length_map]; exact h2) (by rw [List.length_map, List.length_map]; omega)

/- assign.HostAt -/
noncomputable def assign_HostAt_v1 (b : Int) (b1 : Int) (id : Int) (row : List Host) (row1 : List Slot) : Option (Int × List Host) :=
 ob (slices_IndexFunc_api_Host_api_Host row id) fun x =>
 some (x, row)
theorem assign_HostAt_v1_ok (b : Int) (b1 : Int) (id : Int) (row : List Host) (row1 : List Slot) (rk : Nat) (rc : Nat) (rn : Bool) (rk1 : Nat) (rc1 : Nat) (rn1 : Bool) (r : Int × List Host) (hF : assign_HostAt_v1 b b1 id row row1 = some r) : Pe Try.prog 91 ⟨[], [], [(100000, ⟨108, 3, 0, rk, rc, rn, 0, [], (row.map e_Host)⟩), (100001, ⟨64, 6, 0, rk1, rc1, rn1, 0, [], (row1.map e_Slot)⟩)], [], []⟩ [.agg [.row 100000 0, .row 100001 0, .i b, .i b1], .i id] (.i r.1) ⟨[], [], [(100000, ⟨108, 3, 0, (r.2.map e_Host).length, rc, rn, 0, [], (r.2.map e_Host)⟩), (100001, ⟨64, 6, 0, rk1, rc1, rn1, 0, [], (row1.map e_Slot)⟩)], [], []⟩ := by
 refine Pe_of (N := 9) (res := [.tmp 4]) (ts := [3]) Ty.ok Fn.b91 Try.func91 rfl rfl rfl rfl rfl rfl ?_
 intro Q g hfin
 unfold assign_HostAt_v1 at hF
 refine URs [] [2, 3] [2, 3] [100000, 100001] [] [(2, .ptr 2 0), (3, .ptr 3 0)] [(2, [.row 100000 0, .row 100001 0, .i b, .i b1]), (3, [.i id])] [] [] .nil ?_
 refine Wk_seq ?_
 obtain ⟨x, h0, hF⟩ := ob_elim hF
 refine UR [.callR [3] [] [] [] (.i x)] [4] [] [100000, 100001] [] [(4, .i x)] [] [(100000, ⟨108, 3, 0, (row.map e_Host).length, rc, rn, 0, [], (row.map e_Host)⟩)] [] (.cons (Pe.ren (slices_IndexFunc_api_Host_api_Host_ok row id x h0) ⟨[(100000, 3)], [], [], []⟩) .nil) ?_
 have hF := some_elim hF
 exact Wk_ret (hfin _ ⟨[100000, 100001], [], [100000, 100001], [], [], [], by first | (rw [← hF]; kernel_rfl) | kernel_rfl⟩)

/- assign.Parts -/
noncomputable def assign_Parts_v2_J1 (v1 : List Part) : Option (List Part) :=
 some v1
noncomputable def assign_Parts_v2_B1 (row1 : List Slot) (v2 : List Part × Int) : Option ((List Part × Int) ⊕ (List Part)) :=
 if (decide (v2.2 < (row1.length : Int))) = true then
  asrt (0 ≤ v2.2 ∧ v2.2 < (row1.length : Int)) <|
  asrt (0 ≤ v2.2 ∧ v2.2 < (row1.length : Int)) <|
  asrt (0 ≤ v2.2 ∧ v2.2 < (v2.1.length : Int)) <|
  asrt (0 ≤ v2.2 ∧ v2.2 < (v2.1.length : Int)) <|
  lt ((lset v2.1 v2.2 (⟨((lget row1 v2.2).Part).From, ((lget row1 v2.2).Part).To, ((lget row1 v2.2).Part).ID⟩ : Part))) fun (v3 : List Part) =>
  some (Sum.inl (v3, w64 (v2.2 + 1)))
 else
  inrO (assign_Parts_v2_J1 v2.1)
noncomputable def assign_Parts_v2_L1 (row1 : List Slot) (v0 : List Part × Int) : Option (List Part) :=
 loopO (fun y => assign_Parts_v2_B1 row1 y) v0
noncomputable def assign_Parts_v2 (b : Int) (b1 : Int) (row : List Host) (row1 : List Slot) : Option (List Part) :=
 asrt (0 ≤ ((row1.length : Int) : Int) ∧ (row1.length : Int) ≤ (row1.length : Int) ∧ (row1.length : Int) * 40 ≤ 140737488351232) <|
 lt ((List.replicate (row1.length : Int).toNat ((⟨([] : List UInt8), ([] : List UInt8), 0⟩ : Part) : Part))) fun (v : List Part) =>
 assign_Parts_v2_L1 row1 (v, 0)
theorem assign_Parts_v2_ok (b : Int) (b1 : Int) (row : List Host) (row1 : List Slot) (rk : Nat) (rc : Nat) (rn : Bool) (rk1 : Nat) (rc1 : Nat) (rn1 : Bool) (r : List Part) (hF : assign_Parts_v2 b b1 row row1 = some r) : Pe Try.prog 90 ⟨[], [], [(100000, ⟨108, 3, 0, rk, rc, rn, 0, [], (row.map e_Host)⟩), (100001, ⟨64, 6, 0, rk1, rc1, rn1, 0, [], (row1.map e_Slot)⟩)], [], []⟩ [.agg [.row 100000 0, .row 100001 0, .i b, .i b1]] (.row 9 0) ⟨[], [], [(100000, ⟨108, 3, 0, rk, rc, rn, 0, [], (row.map e_Host)⟩), (100001, ⟨64, 6, 0, rk1, rc1, rn1, 0, [], (row1.map e_Slot)⟩), (9, .o 34 3 0 (r.map e_Part))], [], []⟩ := by
 refine Pe_of (N := 25) (res := [.tmp 2]) (ts := [22]) Ty.ok Fn.b90 Try.func90 rfl rfl rfl rfl rfl rfl ?_
 intro Q g hfin
 unfold assign_Parts_v2 at hF
 refine URs [] [1] [1] [100000, 100001] [] [(1, .ptr 1 0)] [(1, [.row 100000 0, .row 100001 0, .i b, .i b1])] [] [] .nil ?_
 refine Wk_seq ?_
 obtain ⟨h0, hF⟩ := asrt_elim hF
 refine WRL ((List.replicate (row1.length : Int).toNat ((⟨([] : List UInt8), ([] : List UInt8), 0⟩ : Part) : Part))) (fun v : List Part => ⟨[(1, .ptr 1 0), (3, .row 9 0)], [(1, [.row 100000 0, .row 100001 0, .i b, .i b1])], [(9, .o 34 3 0 (v.map e_Part)), (100000, ⟨108, 3, 0, rk, rc, rn, 0, [], (row.map e_Host)⟩), (100001, ⟨64, 6, 0, rk1, rc1, rn1, 0, [], (row1.map e_Slot)⟩)], [], []⟩) [.nat (row1.length : Int), .xs ((List.replicate (row1.length : Int).toNat ((⟨([] : List UInt8), ([] : List UInt8), 0⟩ : Part) : Part)).map e_Part)] [1, 3] [1] [9, 100000, 100001] [] [] [] (.cons (len_ok e_Slot row1) (.cons (mk_ok h0) (.cons (rep_ok e_Part (row1.length : Int) ((⟨([] : List UInt8), ([] : List UInt8), 0⟩ : Part) : Part)) .nil))) (by kernel_rfl) (fun v hv => ?_)
 have hF := lt_elim hF hv
 refine Wk_seq ?_
 refine ZRs [.nat (row1.length : Int)] [3, 11, 12, 13] [] [9, 100000, 100001] [(11, .row 100001 0), (12, .i (row1.length : Int)), (13, .i 0)] (.cons (len_ok e_Slot row1) .nil) ?_
 refine Wk_meetP (fun v1 : List Part => (⟨[(3, .row 9 0)], [], [(9, .o 34 3 0 (v1.map e_Part)), (100000, ⟨108, 3, 0, rk, rc, rn, 0, [], (row.map e_Host)⟩), (100001, ⟨64, 6, 0, rk1, rc1, rn1, 0, [], (row1.map e_Slot)⟩)], [], []⟩ : S)) (fun v1 => assign_Parts_v2_J1 v1 = some r) ?_ ?_
 ·refine Wk_block ?_
  unfold assign_Parts_v2_L1 at hF
  refine Wk_trim (fs := [3, 11, 12, 13]) (bs := []) (rs := [9, 100000, 100001]) (ms := []) (aa := []) (nv := []) (t := (fun v2 : List Part × Int => (⟨[(3, .row 9 0), (11, .row 100001 0), (12, .i (row1.length : Int)), (13, .i v2.2)], [], [(9, .o 34 3 0 (v2.1.map e_Part)), (100000, ⟨108, 3, 0, rk, rc, rn, 0, [], (row.map e_Host)⟩), (100001, ⟨64, 6, 0, rk1, rc1, rn1, 0, [], (row1.map e_Slot)⟩)], [], []⟩ : S)) (v, 0)) (by kernel_rfl) ?_
  refine Wk_iter (step := fun y => assign_Parts_v2_B1 row1 y) (r := r) (fun v2 : List Part × Int => (⟨[(3, .row 9 0), (11, .row 100001 0), (12, .i (row1.length : Int)), (13, .i v2.2)], [], [(9, .o 34 3 0 (v2.1.map e_Part)), (100000, ⟨108, 3, 0, rk, rc, rn, 0, [], (row.map e_Host)⟩), (100001, ⟨64, 6, 0, rk1, rc1, rn1, 0, [], (row1.map e_Slot)⟩)], [], []⟩ : S)) (v, 0) hF ?_
  intro n1 v2 y1 hF ih1 dn1
  have hF : assign_Parts_v2_B1 row1 v2 = some y1 := hF
  unfold assign_Parts_v2_B1 at hF
  refine ZRs [] [3, 11, 12, 13, 14] [] [9, 100000, 100001] [(14, .bool (decide (v2.2 < (row1.length : Int))))] .nil ?_
  refine Wk_seq ?_
  refine Wk_split rfl (fun hb => ?_) (fun hb => ?_)
  ·have hF := ite_t hF hb
   refine Wk_skip ?_
   refine Wk_seq ?_
   refine Wk_block ?_
   refine Wk_seq ?_
   obtain ⟨h1, hF⟩ := asrt_elim hF
   obtain ⟨h2, hF⟩ := asrt_elim hF
   refine UR [.av (e_Slot (lget row1 v2.2))] [3, 4, 5, 11, 12, 13] [5] [9, 100000, 100001] [] [(4, .i v2.2), (5, .ptr 5 0)] [(5, [.str (((lget row1 v2.2).Part).From), .str (((lget row1 v2.2).Part).To), .i (((lget row1 v2.2).Part).ID), .i ((lget row1 v2.2).State), .i ((lget row1 v2.2).Host), .i ((lget row1 v2.2).Turn)])] [] [] (.cons (ixr_ok e_Slot h1) (.cons (ldr_ok e_Slot h2) .nil)) ?_
   obtain ⟨h3, hF⟩ := asrt_elim hF
   obtain ⟨h4, hF⟩ := asrt_elim hF
   refine WRL ((lset v2.1 v2.2 (⟨((lget row1 v2.2).Part).From, ((lget row1 v2.2).Part).To, ((lget row1 v2.2).Part).ID⟩ : Part))) (fun v3 : List Part => ⟨[(3, .row 9 0), (11, .row 100001 0), (12, .i (row1.length : Int)), (13, .i v2.2)], [], [(9, .o 34 3 0 (v3.map e_Part)), (100000, ⟨108, 3, 0, rk, rc, rn, 0, [], (row.map e_Host)⟩), (100001, ⟨64, 6, 0, rk1, rc1, rn1, 0, [], (row1.map e_Slot)⟩)], [], []⟩) [.av (e_Part (lget v2.1 v2.2)), .xs ((lset v2.1 v2.2 (⟨((lget row1 v2.2).Part).From, ((lget row1 v2.2).Part).To, ((lget row1 v2.2).Part).ID⟩ : Part)).map e_Part)] [3, 11, 12, 13] [] [9, 100000, 100001] [] [] [] (.cons (ixr_ok e_Part h3) (.cons (ldr_ok e_Part h4) (.cons (set_ok e_Part v2.1 v2.2 (⟨((lget row1 v2.2).Part).From, ((lget row1 v2.2).Part).To, ((lget row1 v2.2).Part).ID⟩ : Part)) (.cons (Nat.zero_le v2.2.toNat) .nil)))) (by kernel_rfl) (fun v3 hv => ?_)
   have hF := lt_elim hF hv
   refine Wk_blk ?_
   refine ZR [] [3, 11, 12, 13] [] [9, 100000, 100001] [(13, .i (w64 (v2.2 + 1)))] .nil ?_
   refine Wk_trim (fs := [3, 11, 12, 13]) (bs := []) (rs := [9, 100000, 100001]) (ms := []) (aa := []) (nv := []) ?_ (ih1 _ (some_elim hF).symm)
   kernel_rfl
  ·have hF := ite_f hF hb
   refine Wk_exit rfl ?_
   have hF := inrO_done hF dn1
   exact Wk_metP v2.1 [3] [] [9, 100000, 100001] [] [] [] hF (by kernel_rfl)
 ·intro v1 hF
  have hF : assign_Parts_v2_J1 v1 = some r := hF
  unfold assign_Parts_v2_J1 at hF
  refine ZRs [] [2] [] [9, 100000, 100001] [(2, .row 9 0)] .nil ?_
  have hF := some_elim hF
  exact Wk_ret (hfin _ ⟨[100000, 100001, 9], [], [100000, 100001, 9], [], [], [], by first | (rw [← hF]; kernel_rfl) | kernel_rfl⟩)

/- parts.Split -/
noncomputable def parts_Split_v2 (at0 : Int) (row : List UInt8) (left : Int) (right : Int) (row1 : List Part) : Option (List Part × Fault × List Part) :=
 ob (parts_Check row1) fun x =>
 if (!decide (x.Code = 0)) = true then
  some (([] : List Part), x, row1)
 else
  if ((decide (at0 < 0)) || (decide ((row1.length : Int) ≤ at0))) = true then
   lt (parts_fault 3 (-1)) fun x1 =>
   some (([] : List Part), x1, row1)
  else
   if (decide (40 < (row.length : Int))) = true then
    lt (parts_fault 8 (-2)) fun x2 =>
    some (([] : List Part), x2, row1)
   else
    asrt (0 ≤ at0 ∧ at0 < (row1.length : Int)) <|
    asrt (0 ≤ at0 ∧ at0 < (row1.length : Int)) <|
    ob (if (!(!Op.bytesLess ((lget row1 at0).From) row)) = true then (parts_find row1 row) else some default) fun x3 =>
    if ((!Op.bytesLess ((lget row1 at0).From) row) || (!decide (x3 = at0))) = true then
     lt (parts_fault 5 (-2)) fun x4 =>
     some (([] : List Part), x4, row1)
    else
     lt (parts_number left) fun x5 =>
     lt (parts_number right) fun x6 =>
     if ((!x5) || (!x6)) = true then
      lt (parts_fault 3 (-3)) fun x7 =>
      some (([] : List Part), x7, row1)
     else
      ob (if (!(decide (left = right))) = true then (parts_others row1 at0 (w64 (at0 + 1)) left) else some default) fun x8 =>
      ob (if (!((decide (left = right)) || x8)) = true then (parts_others row1 at0 (w64 (at0 + 1)) right) else some default) fun x9 =>
      if (((decide (left = right)) || x8) || x9) = true then
       lt (parts_fault 10 (-3)) fun x10 =>
       some (([] : List Part), x10, row1)
      else
       if (decide ((row1.length : Int) = 200)) = true then
        lt (parts_fault 2 (-1)) fun x11 =>
        some (([] : List Part), x11, row1)
       else
        asrt (0 ≤ at0 ∧ at0 < (row1.length : Int)) <|
        asrt (0 ≤ at0 ∧ at0 < (row1.length : Int)) <|
        lt ([(⟨(lget row1 at0).From, row, left⟩ : Part), (⟨row, (lget row1 at0).To, right⟩ : Part)]) fun (v : List Part) =>
        asrt (0 ≤ at0 ∧ at0 ≤ (row1.length : Int)) <|
        asrt (0 ≤ w64 (at0 + 1) ∧ w64 (at0 + 1) ≤ (row1.length : Int)) <|
        ob (slices_Concat_api_Part_api_Part ([(ltake row1 at0), v, (ldrop row1 (w64 (at0 + 1)))] : List (List Part))) fun x12 =>
        some (x12, (⟨0, 0⟩ : Fault), row1)
theorem parts_Split_v2_ok (at0 : Int) (row : List UInt8) (left : Int) (right : Int) (row1 : List Part) (rk : Nat) (rc : Nat) (rn : Bool) (r : List Part × Fault × List Part) (hF : parts_Split_v2 at0 row left right row1 = some r) : Pe Try.prog 18 ⟨[], [], [(100000, ⟨34, 3, 0, rk, rc, rn, 0, [], (row1.map e_Part)⟩)], [], []⟩ [.row 100000 0, .i at0, .str row, .i left, .i right] (.tup [.row 112 0, .agg [.i r.2.1.Code, .i r.2.1.At]]) ⟨[], [], [(100000, ⟨34, 3, 0, (r.2.2.map e_Part).length, rc, rn, 0, [], (r.2.2.map e_Part)⟩), (112, .o 34 3 0 (r.1.map e_Part))], [], []⟩ := by
 refine Pe_of (N := 114) (res := [.tmp 10, .cell 11 26]) (ts := [22, 26]) Ty.ok Fn.b18 Try.func18 rfl rfl rfl rfl rfl rfl ?_
 intro Q g hfin
 unfold parts_Split_v2 at hF
 refine URs [] [0, 1, 2, 3, 4, 11] [11] [100000] [] [(11, .ptr 11 0)] [(11, [.i 0, .i 0])] [] [] .nil ?_
 refine Wk_seq ?_
 refine Wk_seq ?_
 obtain ⟨x, h0, hF⟩ := ob_elim hF
 refine UR [.callB (.agg [.i x.Code, .i x.At])] [0, 1, 2, 3, 4, 11, 12] [11, 12] [100000] [] [(12, .ptr 12 0)] [(12, [.i x.Code, .i x.At])] [] [] (.cons (parts_Check_ok row1 x h0) .nil) ?_
 refine ZRs [] [0, 1, 2, 3, 4, 11, 12, 19] [11, 12] [100000] [(19, .bool (!decide (x.Code = 0)))] .nil ?_
 refine Wk_split rfl (fun hb => ?_) (fun hb => ?_)
 ·have hF := ite_t hF hb
  refine UDs [] [10, 11] [11] [100000] [] [(10, .nils)] [(11, [.i x.Code, .i x.At])] [] [] .nil ?_
  have hF := some_elim hF
  refine Wk_nilrow 10 60000 34 3 rfl rfl rfl ?_
  refine Wk_ren' ⟨[], [(60000, 112)], [], []⟩ rfl ?_
  exact Wk_ret (hfin _ ⟨[100000, 112], [], [100000, 112], [], [], [(100000, ⟨0, true, true, true⟩), (112, ⟨0, true, false, false⟩)], by first | (rw [← hF]; kernel_rfl) | kernel_rfl⟩)
 ·have hF := ite_f hF hb
  refine Wk_skip ?_
  refine Wk_seq ?_
  refine Wk_block ?_
  refine ZRs [.nat (row1.length : Int)] [0, 1, 2, 3, 4, 11, 21] [11] [100000] [(21, .bool ((decide (at0 < 0)) || (decide ((row1.length : Int) ≤ at0))))] (.cons (fun (_ : (!(decide (at0 < 0))) = true) => (len_ok e_Part row1)) .nil) ?_
  refine Wk_split rfl (fun hb => ?_) (fun hb => ?_)
  ·have hF := ite_t hF hb
   refine Wk_seq ?_
   obtain ⟨x1, h1, hF⟩ := lt_split hF
   refine UR [.callB (.agg [.i x1.Code, .i x1.At])] [10, 11] [11] [100000] [] [(10, .nils)] [(11, [.i x1.Code, .i x1.At])] [] [] (.cons (parts_fault_ok 3 (-1) x1 h1) .nil) ?_
   have hF := some_elim hF
   refine Wk_nilrow 10 60001 34 3 rfl rfl rfl ?_
   refine Wk_ren' ⟨[], [(60001, 112)], [], []⟩ rfl ?_
   exact Wk_ret (hfin _ ⟨[100000, 112], [], [100000, 112], [], [], [(100000, ⟨0, true, true, true⟩), (112, ⟨0, true, false, false⟩)], by first | (rw [← hF]; kernel_rfl) | kernel_rfl⟩)
  ·have hF := ite_f hF hb
   refine ZRs [] [0, 1, 2, 3, 4, 11, 31] [11] [100000] [(31, .bool (decide (40 < (row.length : Int))))] .nil ?_
   refine Wk_split rfl (fun hb => ?_) (fun hb => ?_)
   ·have hF := ite_t hF hb
    refine Wk_seq ?_
    obtain ⟨x2, h2, hF⟩ := lt_split hF
    refine UR [.callB (.agg [.i x2.Code, .i x2.At])] [10, 11] [11] [100000] [] [(10, .nils)] [(11, [.i x2.Code, .i x2.At])] [] [] (.cons (parts_fault_ok 8 (-2) x2 h2) .nil) ?_
    have hF := some_elim hF
    refine Wk_nilrow 10 60002 34 3 rfl rfl rfl ?_
    refine Wk_ren' ⟨[], [(60002, 112)], [], []⟩ rfl ?_
    exact Wk_ret (hfin _ ⟨[100000, 112], [], [100000, 112], [], [], [(100000, ⟨0, true, true, true⟩), (112, ⟨0, true, false, false⟩)], by first | (rw [← hF]; kernel_rfl) | kernel_rfl⟩)
   ·have hF := ite_f hF hb
    refine Wk_seq ?_
    obtain ⟨h3, hF⟩ := asrt_elim hF
    obtain ⟨h4, hF⟩ := asrt_elim hF
    obtain ⟨x3, h5, hF⟩ := ob_elim hF
    refine ZR [.av (e_Part (lget row1 at0)), .callB (.i x3)] [0, 1, 2, 3, 4, 11, 36] [11] [100000] [(36, .bool ((!Op.bytesLess ((lget row1 at0).From) row) || (!decide (x3 = at0))))] (.cons (ixr_ok e_Part h3) (.cons (ldr_ok e_Part h4) (.cons (fun (ga0 : (!(!Op.bytesLess ((lget row1 at0).From) row)) = true) => (parts_find_ok row1 row x3 (ite_t h5 ga0))) .nil))) ?_
    refine Wk_split rfl (fun hb => ?_) (fun hb => ?_)
    ·have hF := ite_t hF hb
     refine Wk_seq ?_
     obtain ⟨x4, h6, hF⟩ := lt_split hF
     refine UR [.callB (.agg [.i x4.Code, .i x4.At])] [10, 11] [11] [100000] [] [(10, .nils)] [(11, [.i x4.Code, .i x4.At])] [] [] (.cons (parts_fault_ok 5 (-2) x4 h6) .nil) ?_
     have hF := some_elim hF
     refine Wk_nilrow 10 60003 34 3 rfl rfl rfl ?_
     refine Wk_ren' ⟨[], [(60003, 112)], [], []⟩ rfl ?_
     exact Wk_ret (hfin _ ⟨[100000, 112], [], [100000, 112], [], [], [(100000, ⟨0, true, true, true⟩), (112, ⟨0, true, false, false⟩)], by first | (rw [← hF]; kernel_rfl) | kernel_rfl⟩)
    ·have hF := ite_f hF hb
     refine Wk_seq ?_
     obtain ⟨x5, h7, hF⟩ := lt_split hF
     obtain ⟨x6, h8, hF⟩ := lt_split hF
     refine ZR [.callB (.bool x5), .callB (.bool x6)] [0, 1, 2, 3, 4, 11, 52] [11] [100000] [(52, .bool ((!x5) || (!x6)))] (.cons (parts_number_ok left x5 h7) (.cons (fun (ga0 : (!(!x5)) = true) => (parts_number_ok right x6 h8)) .nil)) ?_
     refine Wk_split rfl (fun hb => ?_) (fun hb => ?_)
     ·have hF := ite_t hF hb
      refine Wk_seq ?_
      obtain ⟨x7, h9, hF⟩ := lt_split hF
      refine UR [.callB (.agg [.i x7.Code, .i x7.At])] [10, 11] [11] [100000] [] [(10, .nils)] [(11, [.i x7.Code, .i x7.At])] [] [] (.cons (parts_fault_ok 3 (-3) x7 h9) .nil) ?_
      have hF := some_elim hF
      refine Wk_nilrow 10 60004 34 3 rfl rfl rfl ?_
      refine Wk_ren' ⟨[], [(60004, 112)], [], []⟩ rfl ?_
      exact Wk_ret (hfin _ ⟨[100000, 112], [], [100000, 112], [], [], [(100000, ⟨0, true, true, true⟩), (112, ⟨0, true, false, false⟩)], by first | (rw [← hF]; kernel_rfl) | kernel_rfl⟩)
     ·have hF := ite_f hF hb
      refine Wk_seq ?_
      obtain ⟨x8, h10, hF⟩ := ob_elim hF
      obtain ⟨x9, h11, hF⟩ := ob_elim hF
      refine ZR [.callB (.bool x8), .callB (.bool x9)] [0, 1, 2, 3, 4, 11, 62] [11] [100000] [(62, .bool (((decide (left = right)) || x8) || x9))] (.cons (fun (ga0 : (!(decide (left = right))) = true) => (parts_others_ok row1 at0 (w64 (at0 + 1)) left x8 (ite_t h10 ga0))) (.cons (fun (ga0 : (!((decide (left = right)) || x8)) = true) => (parts_others_ok row1 at0 (w64 (at0 + 1)) right x9 (ite_t h11 ga0))) .nil)) ?_
      refine Wk_split rfl (fun hb => ?_) (fun hb => ?_)
      ·have hF := ite_t hF hb
       refine Wk_seq ?_
       obtain ⟨x10, h12, hF⟩ := lt_split hF
       refine UR [.callB (.agg [.i x10.Code, .i x10.At])] [10, 11] [11] [100000] [] [(10, .nils)] [(11, [.i x10.Code, .i x10.At])] [] [] (.cons (parts_fault_ok 10 (-3) x10 h12) .nil) ?_
       have hF := some_elim hF
       refine Wk_nilrow 10 60005 34 3 rfl rfl rfl ?_
       refine Wk_ren' ⟨[], [(60005, 112)], [], []⟩ rfl ?_
       exact Wk_ret (hfin _ ⟨[100000, 112], [], [100000, 112], [], [], [(100000, ⟨0, true, true, true⟩), (112, ⟨0, true, false, false⟩)], by first | (rw [← hF]; kernel_rfl) | kernel_rfl⟩)
      ·have hF := ite_f hF hb
       refine ZRs [.nat (row1.length : Int)] [0, 1, 2, 3, 4, 11, 83] [11] [100000] [(83, .bool (decide ((row1.length : Int) = 200)))] (.cons (len_ok e_Part row1) .nil) ?_
       refine Wk_split rfl (fun hb => ?_) (fun hb => ?_)
       ·have hF := ite_t hF hb
        refine Wk_seq ?_
        obtain ⟨x11, h13, hF⟩ := lt_split hF
        refine UR [.callB (.agg [.i x11.Code, .i x11.At])] [10, 11] [11] [100000] [] [(10, .nils)] [(11, [.i x11.Code, .i x11.At])] [] [] (.cons (parts_fault_ok 2 (-1) x11 h13) .nil) ?_
        have hF := some_elim hF
        refine Wk_nilrow 10 60006 34 3 rfl rfl rfl ?_
        refine Wk_ren' ⟨[], [(60006, 112)], [], []⟩ rfl ?_
        exact Wk_ret (hfin _ ⟨[100000, 112], [], [100000, 112], [], [], [(100000, ⟨0, true, true, true⟩), (112, ⟨0, true, false, false⟩)], by first | (rw [← hF]; kernel_rfl) | kernel_rfl⟩)
       ·have hF := ite_f hF hb
        refine Wk_skip ?_
        refine Wk_blk ?_
        refine Wk_seq ?_
        obtain ⟨h14, hF⟩ := asrt_elim hF
        obtain ⟨h15, hF⟩ := asrt_elim hF
        refine UR [.av (e_Part (lget row1 at0))] [0, 1, 2, 3, 4, 11, 13] [11, 13] [100000] [] [(13, .ptr 13 0)] [(13, (c_Part (lget row1 at0)))] [] [] (.cons (ixr_ok e_Part h14) (.cons (ldr_ok e_Part h15) .nil)) ?_
        refine Wk_seq ?_
        refine WRL ([(⟨(lget row1 at0).From, row, left⟩ : Part), (⟨row, (lget row1 at0).To, right⟩ : Part)]) (fun v : List Part => ⟨[(0, .row 100000 0), (1, .i at0), (11, .ptr 11 0), (14, .sl 3 (v.map e_Part))], [(11, [.i 0, .i 0])], [(100000, ⟨34, 3, 0, rk, rc, rn, 0, [], (row1.map e_Part)⟩)], [], []⟩) [.sealed] [0, 1, 11, 14] [11] [100000] [] [] [] .nil (by kernel_rfl) (fun v hv => ?_)
        have hF := lt_elim hF hv
        refine Wk_seq ?_
        refine Wk_sealX [] 0 rfl rfl ?_
        obtain ⟨h16, hF⟩ := asrt_elim hF
        obtain ⟨h17, hF⟩ := asrt_elim hF
        obtain ⟨x12, h18, hF⟩ := ob_elim hF
        refine UD [.xs ((ltake row1 at0).map e_Part), .xs ((ldrop row1 (w64 (at0 + 1))).map e_Part), .sealed, .callE [] [] [] [] (.row 112 0) ⟨[], [], [(112, .o 34 3 0 (x12.map e_Part))], [], []⟩] [10, 11] [11] [112, 100000] [] [(10, .row 112 0)] [] [(112, .o 34 3 0 (x12.map e_Part))] [] (.cons (sl01_ok e_Part h16) (.cons (sl10_ok e_Part h17) (.cons (Pe.ren (slices_Concat_api_Part_api_Part_ok ([(ltake row1 at0), v, (ldrop row1 (w64 (at0 + 1)))] : List (List Part)) x12 h18) ⟨[], [(24, 112)], [], []⟩) .nil))) ?_
        have hF := some_elim hF
        exact Wk_ret (hfin _ ⟨[100000, 112], [], [100000, 112], [], [], [], by first | (rw [← hF]; kernel_rfl) | kernel_rfl⟩)

/- assign.does -/
noncomputable def assign_does_J1 (v : List Host × List Slot × Int × Int) : Option (Fault × List Host × List Slot × Int × Int) :=
 if ((decide (1000000000 < v.2.2.1)) || (decide (1000000000 < v.2.2.2))) = true then
  lt (assign_fault 9 0) fun x1 =>
  some (x1, v.1, v.2.1, v.2.2.1, v.2.2.2)
 else
  some ((⟨0, 0⟩ : Fault), v.1, v.2.1, v.2.2.1, v.2.2.2)
noncomputable def assign_does (at0 : Int) (o : Order) (box : Int) (box1 : Int) (row : List Host) (row1 : List Slot) : Option (Fault × List Host × List Slot × Int × Int) :=
 asrt (0 ≤ at0 ∧ at0 < (row1.length : Int)) <|
 lt (assign_fault 11 (-1)) fun x =>
 if (decide (o.Kind = 3)) = true then
  ob (assign_HostAt_v1 box box1 o.Host row row1) fun x2 =>
  if (decide (x2.1 < 0)) = true then
   lt (assign_fault 6 (-2)) fun x3 =>
   some (x3, x2.2, row1, box, box1)
  else
   asrt (0 ≤ at0 ∧ at0 < (row1.length : Int)) <|
   if (!decide (((lget row1 at0).State) = 0)) = true then
    some (x, x2.2, row1, box, box1)
   else
    asrt (0 ≤ at0 ∧ at0 < (row1.length : Int)) <|
    asrt (0 ≤ at0 ∧ at0 < ((lset row1 at0 (⟨(⟨((lget row1 at0).Part).From, ((lget row1 at0).Part).To, ((lget row1 at0).Part).ID⟩ : Part), 1, (lget row1 at0).Host, (lget row1 at0).Turn⟩ : Slot)).length : Int)) <|
    asrt (0 ≤ at0 ∧ at0 < ((lset (lset row1 at0 (⟨(⟨((lget row1 at0).Part).From, ((lget row1 at0).Part).To, ((lget row1 at0).Part).ID⟩ : Part), 1, (lget row1 at0).Host, (lget row1 at0).Turn⟩ : Slot)) at0 (⟨(⟨((lget (lset row1 at0 (⟨(⟨((lget row1 at0).Part).From, ((lget row1 at0).Part).To, ((lget row1 at0).Part).ID⟩ : Part), 1, (lget row1 at0).Host, (lget row1 at0).Turn⟩ : Slot)) at0).Part).From, ((lget (lset row1 at0 (⟨(⟨((lget row1 at0).Part).From, ((lget row1 at0).Part).To, ((lget row1 at0).Part).ID⟩ : Part), 1, (lget row1 at0).Host, (lget row1 at0).Turn⟩ : Slot)) at0).Part).To, ((lget (lset row1 at0 (⟨(⟨((lget row1 at0).Part).From, ((lget row1 at0).Part).To, ((lget row1 at0).Part).ID⟩ : Part), 1, (lget row1 at0).Host, (lget row1 at0).Turn⟩ : Slot)) at0).Part).ID⟩ : Part), (lget (lset row1 at0 (⟨(⟨((lget row1 at0).Part).From, ((lget row1 at0).Part).To, ((lget row1 at0).Part).ID⟩ : Part), 1, (lget row1 at0).Host, (lget row1 at0).Turn⟩ : Slot)) at0).State, o.Host, (lget (lset row1 at0 (⟨(⟨((lget row1 at0).Part).From, ((lget row1 at0).Part).To, ((lget row1 at0).Part).ID⟩ : Part), 1, (lget row1 at0).Host, (lget row1 at0).Turn⟩ : Slot)) at0).Turn⟩ : Slot)).length : Int)) <|
    lt ((lset (lset (lset row1 at0 (⟨(⟨((lget row1 at0).Part).From, ((lget row1 at0).Part).To, ((lget row1 at0).Part).ID⟩ : Part), 1, (lget row1 at0).Host, (lget row1 at0).Turn⟩ : Slot)) at0 (⟨(⟨((lget (lset row1 at0 (⟨(⟨((lget row1 at0).Part).From, ((lget row1 at0).Part).To, ((lget row1 at0).Part).ID⟩ : Part), 1, (lget row1 at0).Host, (lget row1 at0).Turn⟩ : Slot)) at0).Part).From, ((lget (lset row1 at0 (⟨(⟨((lget row1 at0).Part).From, ((lget row1 at0).Part).To, ((lget row1 at0).Part).ID⟩ : Part), 1, (lget row1 at0).Host, (lget row1 at0).Turn⟩ : Slot)) at0).Part).To, ((lget (lset row1 at0 (⟨(⟨((lget row1 at0).Part).From, ((lget row1 at0).Part).To, ((lget row1 at0).Part).ID⟩ : Part), 1, (lget row1 at0).Host, (lget row1 at0).Turn⟩ : Slot)) at0).Part).ID⟩ : Part), (lget (lset row1 at0 (⟨(⟨((lget row1 at0).Part).From, ((lget row1 at0).Part).To, ((lget row1 at0).Part).ID⟩ : Part), 1, (lget row1 at0).Host, (lget row1 at0).Turn⟩ : Slot)) at0).State, o.Host, (lget (lset row1 at0 (⟨(⟨((lget row1 at0).Part).From, ((lget row1 at0).Part).To, ((lget row1 at0).Part).ID⟩ : Part), 1, (lget row1 at0).Host, (lget row1 at0).Turn⟩ : Slot)) at0).Turn⟩ : Slot)) at0 (⟨(⟨((lget (lset (lset row1 at0 (⟨(⟨((lget row1 at0).Part).From, ((lget row1 at0).Part).To, ((lget row1 at0).Part).ID⟩ : Part), 1, (lget row1 at0).Host, (lget row1 at0).Turn⟩ : Slot)) at0 (⟨(⟨((lget (lset row1 at0 (⟨(⟨((lget row1 at0).Part).From, ((lget row1 at0).Part).To, ((lget row1 at0).Part).ID⟩ : Part), 1, (lget row1 at0).Host, (lget row1 at0).Turn⟩ : Slot)) at0).Part).From, ((lget (lset row1 at0 (⟨(⟨((lget row1 at0).Part).From, ((lget row1 at0).Part).To, ((lget row1 at0).Part).ID⟩ : Part), 1, (lget row1 at0).Host, (lget row1 at0).Turn⟩ : Slot)) at0).Part).To, ((lget (lset row1 at0 (⟨(⟨((lget row1 at0).Part).From, ((lget row1 at0).Part).To, ((lget row1 at0).Part).ID⟩ : Part), 1, (lget row1 at0).Host, (lget row1 at0).Turn⟩ : Slot)) at0).Part).ID⟩ : Part), (lget (lset row1 at0 (⟨(⟨((lget row1 at0).Part).From, ((lget row1 at0).Part).To, ((lget row1 at0).Part).ID⟩ : Part), 1, (lget row1 at0).Host, (lget row1 at0).Turn⟩ : Slot)) at0).State, o.Host, (lget (lset row1 at0 (⟨(⟨((lget row1 at0).Part).From, ((lget row1 at0).Part).To, ((lget row1 at0).Part).ID⟩ : Part), 1, (lget row1 at0).Host, (lget row1 at0).Turn⟩ : Slot)) at0).Turn⟩ : Slot)) at0).Part).From, ((lget (lset (lset row1 at0 (⟨(⟨((lget row1 at0).Part).From, ((lget row1 at0).Part).To, ((lget row1 at0).Part).ID⟩ : Part), 1, (lget row1 at0).Host, (lget row1 at0).Turn⟩ : Slot)) at0 (⟨(⟨((lget (lset row1 at0 (⟨(⟨((lget row1 at0).Part).From, ((lget row1 at0).Part).To, ((lget row1 at0).Part).ID⟩ : Part), 1, (lget row1 at0).Host, (lget row1 at0).Turn⟩ : Slot)) at0).Part).From, ((lget (lset row1 at0 (⟨(⟨((lget row1 at0).Part).From, ((lget row1 at0).Part).To, ((lget row1 at0).Part).ID⟩ : Part), 1, (lget row1 at0).Host, (lget row1 at0).Turn⟩ : Slot)) at0).Part).To, ((lget (lset row1 at0 (⟨(⟨((lget row1 at0).Part).From, ((lget row1 at0).Part).To, ((lget row1 at0).Part).ID⟩ : Part), 1, (lget row1 at0).Host, (lget row1 at0).Turn⟩ : Slot)) at0).Part).ID⟩ : Part), (lget (lset row1 at0 (⟨(⟨((lget row1 at0).Part).From, ((lget row1 at0).Part).To, ((lget row1 at0).Part).ID⟩ : Part), 1, (lget row1 at0).Host, (lget row1 at0).Turn⟩ : Slot)) at0).State, o.Host, (lget (lset row1 at0 (⟨(⟨((lget row1 at0).Part).From, ((lget row1 at0).Part).To, ((lget row1 at0).Part).ID⟩ : Part), 1, (lget row1 at0).Host, (lget row1 at0).Turn⟩ : Slot)) at0).Turn⟩ : Slot)) at0).Part).To, ((lget (lset (lset row1 at0 (⟨(⟨((lget row1 at0).Part).From, ((lget row1 at0).Part).To, ((lget row1 at0).Part).ID⟩ : Part), 1, (lget row1 at0).Host, (lget row1 at0).Turn⟩ : Slot)) at0 (⟨(⟨((lget (lset row1 at0 (⟨(⟨((lget row1 at0).Part).From, ((lget row1 at0).Part).To, ((lget row1 at0).Part).ID⟩ : Part), 1, (lget row1 at0).Host, (lget row1 at0).Turn⟩ : Slot)) at0).Part).From, ((lget (lset row1 at0 (⟨(⟨((lget row1 at0).Part).From, ((lget row1 at0).Part).To, ((lget row1 at0).Part).ID⟩ : Part), 1, (lget row1 at0).Host, (lget row1 at0).Turn⟩ : Slot)) at0).Part).To, ((lget (lset row1 at0 (⟨(⟨((lget row1 at0).Part).From, ((lget row1 at0).Part).To, ((lget row1 at0).Part).ID⟩ : Part), 1, (lget row1 at0).Host, (lget row1 at0).Turn⟩ : Slot)) at0).Part).ID⟩ : Part), (lget (lset row1 at0 (⟨(⟨((lget row1 at0).Part).From, ((lget row1 at0).Part).To, ((lget row1 at0).Part).ID⟩ : Part), 1, (lget row1 at0).Host, (lget row1 at0).Turn⟩ : Slot)) at0).State, o.Host, (lget (lset row1 at0 (⟨(⟨((lget row1 at0).Part).From, ((lget row1 at0).Part).To, ((lget row1 at0).Part).ID⟩ : Part), 1, (lget row1 at0).Host, (lget row1 at0).Turn⟩ : Slot)) at0).Turn⟩ : Slot)) at0).Part).ID⟩ : Part), (lget (lset (lset row1 at0 (⟨(⟨((lget row1 at0).Part).From, ((lget row1 at0).Part).To, ((lget row1 at0).Part).ID⟩ : Part), 1, (lget row1 at0).Host, (lget row1 at0).Turn⟩ : Slot)) at0 (⟨(⟨((lget (lset row1 at0 (⟨(⟨((lget row1 at0).Part).From, ((lget row1 at0).Part).To, ((lget row1 at0).Part).ID⟩ : Part), 1, (lget row1 at0).Host, (lget row1 at0).Turn⟩ : Slot)) at0).Part).From, ((lget (lset row1 at0 (⟨(⟨((lget row1 at0).Part).From, ((lget row1 at0).Part).To, ((lget row1 at0).Part).ID⟩ : Part), 1, (lget row1 at0).Host, (lget row1 at0).Turn⟩ : Slot)) at0).Part).To, ((lget (lset row1 at0 (⟨(⟨((lget row1 at0).Part).From, ((lget row1 at0).Part).To, ((lget row1 at0).Part).ID⟩ : Part), 1, (lget row1 at0).Host, (lget row1 at0).Turn⟩ : Slot)) at0).Part).ID⟩ : Part), (lget (lset row1 at0 (⟨(⟨((lget row1 at0).Part).From, ((lget row1 at0).Part).To, ((lget row1 at0).Part).ID⟩ : Part), 1, (lget row1 at0).Host, (lget row1 at0).Turn⟩ : Slot)) at0).State, o.Host, (lget (lset row1 at0 (⟨(⟨((lget row1 at0).Part).From, ((lget row1 at0).Part).To, ((lget row1 at0).Part).ID⟩ : Part), 1, (lget row1 at0).Host, (lget row1 at0).Turn⟩ : Slot)) at0).Turn⟩ : Slot)) at0).State, (lget (lset (lset row1 at0 (⟨(⟨((lget row1 at0).Part).From, ((lget row1 at0).Part).To, ((lget row1 at0).Part).ID⟩ : Part), 1, (lget row1 at0).Host, (lget row1 at0).Turn⟩ : Slot)) at0 (⟨(⟨((lget (lset row1 at0 (⟨(⟨((lget row1 at0).Part).From, ((lget row1 at0).Part).To, ((lget row1 at0).Part).ID⟩ : Part), 1, (lget row1 at0).Host, (lget row1 at0).Turn⟩ : Slot)) at0).Part).From, ((lget (lset row1 at0 (⟨(⟨((lget row1 at0).Part).From, ((lget row1 at0).Part).To, ((lget row1 at0).Part).ID⟩ : Part), 1, (lget row1 at0).Host, (lget row1 at0).Turn⟩ : Slot)) at0).Part).To, ((lget (lset row1 at0 (⟨(⟨((lget row1 at0).Part).From, ((lget row1 at0).Part).To, ((lget row1 at0).Part).ID⟩ : Part), 1, (lget row1 at0).Host, (lget row1 at0).Turn⟩ : Slot)) at0).Part).ID⟩ : Part), (lget (lset row1 at0 (⟨(⟨((lget row1 at0).Part).From, ((lget row1 at0).Part).To, ((lget row1 at0).Part).ID⟩ : Part), 1, (lget row1 at0).Host, (lget row1 at0).Turn⟩ : Slot)) at0).State, o.Host, (lget (lset row1 at0 (⟨(⟨((lget row1 at0).Part).From, ((lget row1 at0).Part).To, ((lget row1 at0).Part).ID⟩ : Part), 1, (lget row1 at0).Host, (lget row1 at0).Turn⟩ : Slot)) at0).Turn⟩ : Slot)) at0).Host, w64 (box + 1)⟩ : Slot))) fun (v1 : List Slot) =>
    assign_does_J1 (x2.2, v1, w64 (box + 1), box1)
 else
  if (decide (o.Kind = 4)) = true then
   ob (assign_given at0 o 1 row1) fun x4 =>
   asrt (0 ≤ at0 ∧ at0 < (row1.length : Int)) <|
   lt ((lset row1 at0 (⟨(⟨((lget row1 at0).Part).From, ((lget row1 at0).Part).To, ((lget row1 at0).Part).ID⟩ : Part), 2, (lget row1 at0).Host, (lget row1 at0).Turn⟩ : Slot))) fun (v2 : List Slot) =>
   some (x4, row, v2, box, box1)
  else
   if (decide (o.Kind = 5)) = true then
    asrt (0 ≤ at0 ∧ at0 < (row1.length : Int)) <|
    if (!decide (((lget row1 at0).State) = 2)) = true then
     some (x, row, row1, box, box1)
    else
     asrt (0 ≤ at0 ∧ at0 < (row1.length : Int)) <|
     lt ((lset row1 at0 (⟨(⟨((lget row1 at0).Part).From, ((lget row1 at0).Part).To, ((lget row1 at0).Part).ID⟩ : Part), 3, (lget row1 at0).Host, (lget row1 at0).Turn⟩ : Slot))) fun (v3 : List Slot) =>
     assign_does_J1 (row, v3, box, box1)
   else
    if (decide (o.Kind = 6)) = true then
     ob (assign_given at0 o 3 row1) fun x5 =>
     ob (assign_off at0 row1) fun x6 =>
     some (x5, row, x6, box, box1)
    else
     if (decide (o.Kind = 7)) = true then
      asrt (0 ≤ at0 ∧ at0 < (row1.length : Int)) <|
      if (!decide (((lget row1 at0).State) = 0)) = true then
       some (x, row, row1, box, box1)
      else
       if (decide (999999998 < box1)) = true then
        ob (assign_much at0 o box box1 row row1) fun x7 =>
        some (x7.1, x7.2.1, x7.2.2, box, box1)
       else
        ob (assign_Parts_v2 box box1 row row1) fun x8 =>
        ob (parts_Split_v2 at0 o.Row box1 (w64 (box1 + 1)) x8) fun x9 =>
        if (!decide (x9.2.1.Code = 0)) = true then
         some (x9.2.1, row, row1, box, box1)
        else
         asrt (0 ≤ at0 ∧ at0 < (x9.1.length : Int)) <|
         asrt (0 ≤ at0 ∧ at0 < (x9.1.length : Int)) <|
         asrt (0 ≤ w64 (at0 + 1) ∧ w64 (at0 + 1) < (x9.1.length : Int)) <|
         asrt (0 ≤ w64 (at0 + 1) ∧ w64 (at0 + 1) < (x9.1.length : Int)) <|
         ob (slices_Replace_api_Slot_api_Slot at0 (w64 (at0 + 1)) [(⟨(⟨(lget x9.1 at0).From, (lget x9.1 at0).To, (lget x9.1 at0).ID⟩ : Part), 0, 0, 0⟩ : Slot), (⟨(⟨(lget x9.1 (w64 (at0 + 1))).From, (lget x9.1 (w64 (at0 + 1))).To, (lget x9.1 (w64 (at0 + 1))).ID⟩ : Part), 0, 0, 0⟩ : Slot)] row1) fun x10 =>
         assign_does_J1 (row, x10, box, w64 (box1 + 2))
     else
      if (decide (o.Kind = 8)) = true then
       if (decide ((w64 (at0 + 1)) = (row1.length : Int))) = true then
        lt (assign_fault 6 (-1)) fun x11 =>
        some (x11, row, row1, box, box1)
       else
        asrt (0 ≤ at0 ∧ at0 < (row1.length : Int)) <|
        asrt ((!(!decide (((lget row1 at0).State) = 0))) = true → 0 ≤ w64 (at0 + 1) ∧ w64 (at0 + 1) < (row1.length : Int)) <|
        asrt ((!(!decide (((lget row1 at0).State) = 0))) = true → 0 ≤ w64 (at0 + 1) ∧ w64 (at0 + 1) < (row1.length : Int)) <|
        if ((!decide (((lget row1 at0).State) = 0)) || (!decide (((lget row1 (w64 (at0 + 1))).State) = 0))) = true then
         some (x, row, row1, box, box1)
        else
         asrt (0 ≤ at0 ∧ at0 < (row1.length : Int)) <|
         asrt (0 ≤ w64 (at0 + 1) ∧ w64 (at0 + 1) < (row1.length : Int)) <|
         asrt (0 ≤ w64 (at0 + 1) ∧ w64 (at0 + 1) < (row1.length : Int)) <|
         ob (slices_Replace_api_Slot_api_Slot at0 (w64 (at0 + 2)) [(⟨(⟨((lget row1 at0).Part).From, ((lget row1 (w64 (at0 + 1))).Part).To, box1⟩ : Part), 0, 0, 0⟩ : Slot)] row1) fun x12 =>
         assign_does_J1 (row, x12, box, w64 (box1 + 1))
      else
       assign_does_J1 (row, row1, box, box1)
theorem assign_does_ok (at0 : Int) (o : Order) (box : Int) (box1 : Int) (row : List Host) (row1 : List Slot) (rk : Nat) (rc : Nat) (rn : Bool) (rk1 : Nat) (rc1 : Nat) (rn1 : Bool) (r : Fault × List Host × List Slot × Int × Int) (hF : assign_does at0 o box box1 row row1 = some r) : Pe Try.prog 96 ⟨[], [(100000, [.row 100000 0, .row 100001 0, .i box, .i box1])], [(100000, ⟨108, 3, 0, rk, rc, rn, 0, [], (row.map e_Host)⟩), (100001, ⟨64, 6, 0, 0, rc1, rn1, 0, [], (row1.map e_Slot)⟩)], [], []⟩ [.ptr 100000 0, .i at0, .agg (c_Order o)] (.agg [.i r.1.Code, .i r.1.At]) ⟨[], [(100000, [.row 100000 0, .row 100001 1, .i r.2.2.2.1, .i r.2.2.2.2])], [(100000, ⟨108, 3, 0, (r.2.1.map e_Host).length, rc, rn, 0, [], (r.2.1.map e_Host)⟩), (100001, ⟨64, 6, 1, (r.2.2.1.map e_Slot).length, 0, false, 0, [], (r.2.2.1.map e_Slot)⟩)], [], []⟩ := by
 refine Pe_of (N := 246) (res := [.cell 6 26]) (ts := [26]) Ty.ok Fn.b96 Try.func96 rfl rfl rfl rfl rfl rfl ?_
 intro Q g hfin
 unfold assign_does at hF
 refine URs [] [0, 1, 5, 6] [5, 6, 100000] [100000, 100001] [] [(5, .ptr 5 0), (6, .ptr 6 0)] [(5, (c_Order o)), (6, [.i 0, .i 0])] [] [] .nil ?_
 refine Wk_seq ?_
 obtain ⟨h0, hF⟩ := asrt_elim hF
 refine ZR [] [0, 1, 5, 6, 7] [5, 6, 100000] [100000, 100001] [(7, .ep 100001 0 at0.toNat 0)] (.cons (ixr_ok e_Slot h0) .nil) ?_
 refine Wk_seq ?_
 obtain ⟨x, h1, hF⟩ := lt_split hF
 refine UR [.callB (.agg [.i x.Code, .i x.At])] [0, 1, 5, 6, 7, 8] [5, 6, 8, 100000] [100000, 100001] [] [(8, .ptr 8 0)] [(8, [.i x.Code, .i x.At])] [] [] (.cons (assign_fault_ok 11 (-1) x h1) .nil) ?_
 refine Wk_seq ?_
 refine ZRs [] [0, 1, 5, 6, 7, 8, 22] [5, 6, 8, 100000] [100000, 100001] [(22, .i o.Kind)] .nil ?_
 refine Wk_block ?_
 refine ZRs [] [0, 1, 5, 6, 7, 8, 22, 23] [5, 6, 8, 100000] [100000, 100001] [(23, .bool (decide (o.Kind = 3)))] .nil ?_
 refine Wk_meetP (fun v : List Host × List Slot × Int × Int => (⟨[(0, .ptr 100000 0), (6, .ptr 6 0)], [(6, [.i 0, .i 0]), (100000, [.row 100000 0, .row 100001 1, .i v.2.2.1, .i v.2.2.2])], [(100000, ⟨108, 3, 0, (v.1.map e_Host).length, rc, rn, 0, [], (v.1.map e_Host)⟩), (100001, .o 64 6 1 (v.2.1.map e_Slot))], [], []⟩ : S)) (fun v => assign_does_J1 v = some r) ?_ ?_
 ·refine Wk_split rfl (fun hb => ?_) (fun hb => ?_)
  ·have hF := ite_t hF hb
   refine Wk_seq ?_
   refine Wk_block ?_
   refine Wk_seq ?_
   obtain ⟨x2, h3, hF⟩ := ob_elim hF
   refine UD [.callE [] [100000, 100001] [] [] (.i x2.1) ⟨[], [], [(100000, ⟨108, 3, 0, (x2.2.map e_Host).length, rc, rn, 0, [], (x2.2.map e_Host)⟩), (100001, ⟨64, 6, 0, 0, rc1, rn1, 0, [], (row1.map e_Slot)⟩)], [], []⟩] [0, 5, 6, 7, 8, 25] [5, 6, 8, 100000] [100000, 100001] [] [(25, .bool (decide (x2.1 < 0)))] [] [(100000, ⟨108, 3, 0, (x2.2.map e_Host).length, rc, rn, 0, [], (x2.2.map e_Host)⟩)] [] (.cons (Pe.ren (assign_HostAt_v1_ok box box1 o.Host row row1 rk rc rn 0 rc1 rn1 x2 h3) ⟨[], [], [], []⟩) .nil) ?_
   refine Wk_split rfl (fun hb => ?_) (fun hb => ?_)
   ·have hF := ite_t hF hb
    refine Wk_seq ?_
    obtain ⟨x3, h4, hF⟩ := lt_split hF
    refine UR [.callB (.agg [.i x3.Code, .i x3.At])] [6] [6, 100000] [100000, 100001] [] [] [(6, [.i x3.Code, .i x3.At])] [] [] (.cons (assign_fault_ok 6 (-2) x3 h4) .nil) ?_
    have hF := some_elim hF
    exact Wk_ret (hfin _ ⟨[100000, 100001], [100000], [100000, 100001], [], [], [(100001, ⟨1, false, false, true⟩)], by first | (rw [← hF]; kernel_rfl) | kernel_rfl⟩)
   ·have hF := ite_f hF hb
    refine Wk_seq ?_
    obtain ⟨h5, hF⟩ := asrt_elim hF
    refine ZR [.av (e_Slot (lget row1 at0))] [0, 5, 6, 7, 8, 34] [5, 6, 8, 100000] [100000, 100001] [(34, .bool (!decide (((lget row1 at0).State) = 0)))] (.cons (ldr_ok e_Slot h5) .nil) ?_
    refine Wk_split rfl (fun hb => ?_) (fun hb => ?_)
    ·have hF := ite_t hF hb
     refine URs [] [6] [6, 100000] [100000, 100001] [] [] [(6, [.i x.Code, .i x.At])] [] [] .nil ?_
     have hF := some_elim hF
     exact Wk_ret (hfin _ ⟨[100000, 100001], [100000], [100000, 100001], [], [], [(100001, ⟨1, false, false, true⟩)], by first | (rw [← hF]; kernel_rfl) | kernel_rfl⟩)
    ·have hF := ite_f hF hb
     refine Wk_skip ?_
     refine Wk_blk ?_
     refine URs [] [0, 5, 6, 7] [5, 6, 100000] [100000, 100001] [] [] [(100000, [.row 100000 0, .row 100001 0, .i (w64 (box + 1)), .i box1])] [] [] .nil ?_
     obtain ⟨h6, hF⟩ := asrt_elim hF
     obtain ⟨h7, hF⟩ := asrt_elim hF
     obtain ⟨h8, hF⟩ := asrt_elim hF
     refine WDL ((lset (lset (lset row1 at0 (⟨(⟨((lget row1 at0).Part).From, ((lget row1 at0).Part).To, ((lget row1 at0).Part).ID⟩ : Part), 1, (lget row1 at0).Host, (lget row1 at0).Turn⟩ : Slot)) at0 (⟨(⟨((lget (lset row1 at0 (⟨(⟨((lget row1 at0).Part).From, ((lget row1 at0).Part).To, ((lget row1 at0).Part).ID⟩ : Part), 1, (lget row1 at0).Host, (lget row1 at0).Turn⟩ : Slot)) at0).Part).From, ((lget (lset row1 at0 (⟨(⟨((lget row1 at0).Part).From, ((lget row1 at0).Part).To, ((lget row1 at0).Part).ID⟩ : Part), 1, (lget row1 at0).Host, (lget row1 at0).Turn⟩ : Slot)) at0).Part).To, ((lget (lset row1 at0 (⟨(⟨((lget row1 at0).Part).From, ((lget row1 at0).Part).To, ((lget row1 at0).Part).ID⟩ : Part), 1, (lget row1 at0).Host, (lget row1 at0).Turn⟩ : Slot)) at0).Part).ID⟩ : Part), (lget (lset row1 at0 (⟨(⟨((lget row1 at0).Part).From, ((lget row1 at0).Part).To, ((lget row1 at0).Part).ID⟩ : Part), 1, (lget row1 at0).Host, (lget row1 at0).Turn⟩ : Slot)) at0).State, o.Host, (lget (lset row1 at0 (⟨(⟨((lget row1 at0).Part).From, ((lget row1 at0).Part).To, ((lget row1 at0).Part).ID⟩ : Part), 1, (lget row1 at0).Host, (lget row1 at0).Turn⟩ : Slot)) at0).Turn⟩ : Slot)) at0 (⟨(⟨((lget (lset (lset row1 at0 (⟨(⟨((lget row1 at0).Part).From, ((lget row1 at0).Part).To, ((lget row1 at0).Part).ID⟩ : Part), 1, (lget row1 at0).Host, (lget row1 at0).Turn⟩ : Slot)) at0 (⟨(⟨((lget (lset row1 at0 (⟨(⟨((lget row1 at0).Part).From, ((lget row1 at0).Part).To, ((lget row1 at0).Part).ID⟩ : Part), 1, (lget row1 at0).Host, (lget row1 at0).Turn⟩ : Slot)) at0).Part).From, ((lget (lset row1 at0 (⟨(⟨((lget row1 at0).Part).From, ((lget row1 at0).Part).To, ((lget row1 at0).Part).ID⟩ : Part), 1, (lget row1 at0).Host, (lget row1 at0).Turn⟩ : Slot)) at0).Part).To, ((lget (lset row1 at0 (⟨(⟨((lget row1 at0).Part).From, ((lget row1 at0).Part).To, ((lget row1 at0).Part).ID⟩ : Part), 1, (lget row1 at0).Host, (lget row1 at0).Turn⟩ : Slot)) at0).Part).ID⟩ : Part), (lget (lset row1 at0 (⟨(⟨((lget row1 at0).Part).From, ((lget row1 at0).Part).To, ((lget row1 at0).Part).ID⟩ : Part), 1, (lget row1 at0).Host, (lget row1 at0).Turn⟩ : Slot)) at0).State, o.Host, (lget (lset row1 at0 (⟨(⟨((lget row1 at0).Part).From, ((lget row1 at0).Part).To, ((lget row1 at0).Part).ID⟩ : Part), 1, (lget row1 at0).Host, (lget row1 at0).Turn⟩ : Slot)) at0).Turn⟩ : Slot)) at0).Part).From, ((lget (lset (lset row1 at0 (⟨(⟨((lget row1 at0).Part).From, ((lget row1 at0).Part).To, ((lget row1 at0).Part).ID⟩ : Part), 1, (lget row1 at0).Host, (lget row1 at0).Turn⟩ : Slot)) at0 (⟨(⟨((lget (lset row1 at0 (⟨(⟨((lget row1 at0).Part).From, ((lget row1 at0).Part).To, ((lget row1 at0).Part).ID⟩ : Part), 1, (lget row1 at0).Host, (lget row1 at0).Turn⟩ : Slot)) at0).Part).From, ((lget (lset row1 at0 (⟨(⟨((lget row1 at0).Part).From, ((lget row1 at0).Part).To, ((lget row1 at0).Part).ID⟩ : Part), 1, (lget row1 at0).Host, (lget row1 at0).Turn⟩ : Slot)) at0).Part).To, ((lget (lset row1 at0 (⟨(⟨((lget row1 at0).Part).From, ((lget row1 at0).Part).To, ((lget row1 at0).Part).ID⟩ : Part), 1, (lget row1 at0).Host, (lget row1 at0).Turn⟩ : Slot)) at0).Part).ID⟩ : Part), (lget (lset row1 at0 (⟨(⟨((lget row1 at0).Part).From, ((lget row1 at0).Part).To, ((lget row1 at0).Part).ID⟩ : Part), 1, (lget row1 at0).Host, (lget row1 at0).Turn⟩ : Slot)) at0).State, o.Host, (lget (lset row1 at0 (⟨(⟨((lget row1 at0).Part).From, ((lget row1 at0).Part).To, ((lget row1 at0).Part).ID⟩ : Part), 1, (lget row1 at0).Host, (lget row1 at0).Turn⟩ : Slot)) at0).Turn⟩ : Slot)) at0).Part).To, ((lget (lset (lset row1 at0 (⟨(⟨((lget row1 at0).Part).From, ((lget row1 at0).Part).To, ((lget row1 at0).Part).ID⟩ : Part), 1, (lget row1 at0).Host, (lget row1 at0).Turn⟩ : Slot)) at0 (⟨(⟨((lget (lset row1 at0 (⟨(⟨((lget row1 at0).Part).From, ((lget row1 at0).Part).To, ((lget row1 at0).Part).ID⟩ : Part), 1, (lget row1 at0).Host, (lget row1 at0).Turn⟩ : Slot)) at0).Part).From, ((lget (lset row1 at0 (⟨(⟨((lget row1 at0).Part).From, ((lget row1 at0).Part).To, ((lget row1 at0).Part).ID⟩ : Part), 1, (lget row1 at0).Host, (lget row1 at0).Turn⟩ : Slot)) at0).Part).To, ((lget (lset row1 at0 (⟨(⟨((lget row1 at0).Part).From, ((lget row1 at0).Part).To, ((lget row1 at0).Part).ID⟩ : Part), 1, (lget row1 at0).Host, (lget row1 at0).Turn⟩ : Slot)) at0).Part).ID⟩ : Part), (lget (lset row1 at0 (⟨(⟨((lget row1 at0).Part).From, ((lget row1 at0).Part).To, ((lget row1 at0).Part).ID⟩ : Part), 1, (lget row1 at0).Host, (lget row1 at0).Turn⟩ : Slot)) at0).State, o.Host, (lget (lset row1 at0 (⟨(⟨((lget row1 at0).Part).From, ((lget row1 at0).Part).To, ((lget row1 at0).Part).ID⟩ : Part), 1, (lget row1 at0).Host, (lget row1 at0).Turn⟩ : Slot)) at0).Turn⟩ : Slot)) at0).Part).ID⟩ : Part), (lget (lset (lset row1 at0 (⟨(⟨((lget row1 at0).Part).From, ((lget row1 at0).Part).To, ((lget row1 at0).Part).ID⟩ : Part), 1, (lget row1 at0).Host, (lget row1 at0).Turn⟩ : Slot)) at0 (⟨(⟨((lget (lset row1 at0 (⟨(⟨((lget row1 at0).Part).From, ((lget row1 at0).Part).To, ((lget row1 at0).Part).ID⟩ : Part), 1, (lget row1 at0).Host, (lget row1 at0).Turn⟩ : Slot)) at0).Part).From, ((lget (lset row1 at0 (⟨(⟨((lget row1 at0).Part).From, ((lget row1 at0).Part).To, ((lget row1 at0).Part).ID⟩ : Part), 1, (lget row1 at0).Host, (lget row1 at0).Turn⟩ : Slot)) at0).Part).To, ((lget (lset row1 at0 (⟨(⟨((lget row1 at0).Part).From, ((lget row1 at0).Part).To, ((lget row1 at0).Part).ID⟩ : Part), 1, (lget row1 at0).Host, (lget row1 at0).Turn⟩ : Slot)) at0).Part).ID⟩ : Part), (lget (lset row1 at0 (⟨(⟨((lget row1 at0).Part).From, ((lget row1 at0).Part).To, ((lget row1 at0).Part).ID⟩ : Part), 1, (lget row1 at0).Host, (lget row1 at0).Turn⟩ : Slot)) at0).State, o.Host, (lget (lset row1 at0 (⟨(⟨((lget row1 at0).Part).From, ((lget row1 at0).Part).To, ((lget row1 at0).Part).ID⟩ : Part), 1, (lget row1 at0).Host, (lget row1 at0).Turn⟩ : Slot)) at0).Turn⟩ : Slot)) at0).State, (lget (lset (lset row1 at0 (⟨(⟨((lget row1 at0).Part).From, ((lget row1 at0).Part).To, ((lget row1 at0).Part).ID⟩ : Part), 1, (lget row1 at0).Host, (lget row1 at0).Turn⟩ : Slot)) at0 (⟨(⟨((lget (lset row1 at0 (⟨(⟨((lget row1 at0).Part).From, ((lget row1 at0).Part).To, ((lget row1 at0).Part).ID⟩ : Part), 1, (lget row1 at0).Host, (lget row1 at0).Turn⟩ : Slot)) at0).Part).From, ((lget (lset row1 at0 (⟨(⟨((lget row1 at0).Part).From, ((lget row1 at0).Part).To, ((lget row1 at0).Part).ID⟩ : Part), 1, (lget row1 at0).Host, (lget row1 at0).Turn⟩ : Slot)) at0).Part).To, ((lget (lset row1 at0 (⟨(⟨((lget row1 at0).Part).From, ((lget row1 at0).Part).To, ((lget row1 at0).Part).ID⟩ : Part), 1, (lget row1 at0).Host, (lget row1 at0).Turn⟩ : Slot)) at0).Part).ID⟩ : Part), (lget (lset row1 at0 (⟨(⟨((lget row1 at0).Part).From, ((lget row1 at0).Part).To, ((lget row1 at0).Part).ID⟩ : Part), 1, (lget row1 at0).Host, (lget row1 at0).Turn⟩ : Slot)) at0).State, o.Host, (lget (lset row1 at0 (⟨(⟨((lget row1 at0).Part).From, ((lget row1 at0).Part).To, ((lget row1 at0).Part).ID⟩ : Part), 1, (lget row1 at0).Host, (lget row1 at0).Turn⟩ : Slot)) at0).Turn⟩ : Slot)) at0).Host, w64 (box + 1)⟩ : Slot))) (fun v1 : List Slot => ⟨[(0, .ptr 100000 0), (6, .ptr 6 0)], [(6, [.i 0, .i 0]), (100000, [.row 100000 0, .row 100001 0, .i (w64 (box + 1)), .i box1])], [(100000, ⟨108, 3, 0, (x2.2.map e_Host).length, rc, rn, 0, [], (x2.2.map e_Host)⟩), (100001, ⟨64, 6, 0, 0, rc1, rn1, 0, [], (v1.map e_Slot)⟩)], [], []⟩) [.av (e_Slot (lget row1 at0)), .xs ((lset row1 at0 (⟨(⟨((lget row1 at0).Part).From, ((lget row1 at0).Part).To, ((lget row1 at0).Part).ID⟩ : Part), 1, (lget row1 at0).Host, (lget row1 at0).Turn⟩ : Slot)).map e_Slot), .av (e_Slot (lget (lset row1 at0 (⟨(⟨((lget row1 at0).Part).From, ((lget row1 at0).Part).To, ((lget row1 at0).Part).ID⟩ : Part), 1, (lget row1 at0).Host, (lget row1 at0).Turn⟩ : Slot)) at0)), .xs ((lset (lset row1 at0 (⟨(⟨((lget row1 at0).Part).From, ((lget row1 at0).Part).To, ((lget row1 at0).Part).ID⟩ : Part), 1, (lget row1 at0).Host, (lget row1 at0).Turn⟩ : Slot)) at0 (⟨(⟨((lget (lset row1 at0 (⟨(⟨((lget row1 at0).Part).From, ((lget row1 at0).Part).To, ((lget row1 at0).Part).ID⟩ : Part), 1, (lget row1 at0).Host, (lget row1 at0).Turn⟩ : Slot)) at0).Part).From, ((lget (lset row1 at0 (⟨(⟨((lget row1 at0).Part).From, ((lget row1 at0).Part).To, ((lget row1 at0).Part).ID⟩ : Part), 1, (lget row1 at0).Host, (lget row1 at0).Turn⟩ : Slot)) at0).Part).To, ((lget (lset row1 at0 (⟨(⟨((lget row1 at0).Part).From, ((lget row1 at0).Part).To, ((lget row1 at0).Part).ID⟩ : Part), 1, (lget row1 at0).Host, (lget row1 at0).Turn⟩ : Slot)) at0).Part).ID⟩ : Part), (lget (lset row1 at0 (⟨(⟨((lget row1 at0).Part).From, ((lget row1 at0).Part).To, ((lget row1 at0).Part).ID⟩ : Part), 1, (lget row1 at0).Host, (lget row1 at0).Turn⟩ : Slot)) at0).State, o.Host, (lget (lset row1 at0 (⟨(⟨((lget row1 at0).Part).From, ((lget row1 at0).Part).To, ((lget row1 at0).Part).ID⟩ : Part), 1, (lget row1 at0).Host, (lget row1 at0).Turn⟩ : Slot)) at0).Turn⟩ : Slot)).map e_Slot), .av (e_Slot (lget (lset (lset row1 at0 (⟨(⟨((lget row1 at0).Part).From, ((lget row1 at0).Part).To, ((lget row1 at0).Part).ID⟩ : Part), 1, (lget row1 at0).Host, (lget row1 at0).Turn⟩ : Slot)) at0 (⟨(⟨((lget (lset row1 at0 (⟨(⟨((lget row1 at0).Part).From, ((lget row1 at0).Part).To, ((lget row1 at0).Part).ID⟩ : Part), 1, (lget row1 at0).Host, (lget row1 at0).Turn⟩ : Slot)) at0).Part).From, ((lget (lset row1 at0 (⟨(⟨((lget row1 at0).Part).From, ((lget row1 at0).Part).To, ((lget row1 at0).Part).ID⟩ : Part), 1, (lget row1 at0).Host, (lget row1 at0).Turn⟩ : Slot)) at0).Part).To, ((lget (lset row1 at0 (⟨(⟨((lget row1 at0).Part).From, ((lget row1 at0).Part).To, ((lget row1 at0).Part).ID⟩ : Part), 1, (lget row1 at0).Host, (lget row1 at0).Turn⟩ : Slot)) at0).Part).ID⟩ : Part), (lget (lset row1 at0 (⟨(⟨((lget row1 at0).Part).From, ((lget row1 at0).Part).To, ((lget row1 at0).Part).ID⟩ : Part), 1, (lget row1 at0).Host, (lget row1 at0).Turn⟩ : Slot)) at0).State, o.Host, (lget (lset row1 at0 (⟨(⟨((lget row1 at0).Part).From, ((lget row1 at0).Part).To, ((lget row1 at0).Part).ID⟩ : Part), 1, (lget row1 at0).Host, (lget row1 at0).Turn⟩ : Slot)) at0).Turn⟩ : Slot)) at0)), .xs ((lset (lset (lset row1 at0 (⟨(⟨((lget row1 at0).Part).From, ((lget row1 at0).Part).To, ((lget row1 at0).Part).ID⟩ : Part), 1, (lget row1 at0).Host, (lget row1 at0).Turn⟩ : Slot)) at0 (⟨(⟨((lget (lset row1 at0 (⟨(⟨((lget row1 at0).Part).From, ((lget row1 at0).Part).To, ((lget row1 at0).Part).ID⟩ : Part), 1, (lget row1 at0).Host, (lget row1 at0).Turn⟩ : Slot)) at0).Part).From, ((lget (lset row1 at0 (⟨(⟨((lget row1 at0).Part).From, ((lget row1 at0).Part).To, ((lget row1 at0).Part).ID⟩ : Part), 1, (lget row1 at0).Host, (lget row1 at0).Turn⟩ : Slot)) at0).Part).To, ((lget (lset row1 at0 (⟨(⟨((lget row1 at0).Part).From, ((lget row1 at0).Part).To, ((lget row1 at0).Part).ID⟩ : Part), 1, (lget row1 at0).Host, (lget row1 at0).Turn⟩ : Slot)) at0).Part).ID⟩ : Part), (lget (lset row1 at0 (⟨(⟨((lget row1 at0).Part).From, ((lget row1 at0).Part).To, ((lget row1 at0).Part).ID⟩ : Part), 1, (lget row1 at0).Host, (lget row1 at0).Turn⟩ : Slot)) at0).State, o.Host, (lget (lset row1 at0 (⟨(⟨((lget row1 at0).Part).From, ((lget row1 at0).Part).To, ((lget row1 at0).Part).ID⟩ : Part), 1, (lget row1 at0).Host, (lget row1 at0).Turn⟩ : Slot)) at0).Turn⟩ : Slot)) at0 (⟨(⟨((lget (lset (lset row1 at0 (⟨(⟨((lget row1 at0).Part).From, ((lget row1 at0).Part).To, ((lget row1 at0).Part).ID⟩ : Part), 1, (lget row1 at0).Host, (lget row1 at0).Turn⟩ : Slot)) at0 (⟨(⟨((lget (lset row1 at0 (⟨(⟨((lget row1 at0).Part).From, ((lget row1 at0).Part).To, ((lget row1 at0).Part).ID⟩ : Part), 1, (lget row1 at0).Host, (lget row1 at0).Turn⟩ : Slot)) at0).Part).From, ((lget (lset row1 at0 (⟨(⟨((lget row1 at0).Part).From, ((lget row1 at0).Part).To, ((lget row1 at0).Part).ID⟩ : Part), 1, (lget row1 at0).Host, (lget row1 at0).Turn⟩ : Slot)) at0).Part).To, ((lget (lset row1 at0 (⟨(⟨((lget row1 at0).Part).From, ((lget row1 at0).Part).To, ((lget row1 at0).Part).ID⟩ : Part), 1, (lget row1 at0).Host, (lget row1 at0).Turn⟩ : Slot)) at0).Part).ID⟩ : Part), (lget (lset row1 at0 (⟨(⟨((lget row1 at0).Part).From, ((lget row1 at0).Part).To, ((lget row1 at0).Part).ID⟩ : Part), 1, (lget row1 at0).Host, (lget row1 at0).Turn⟩ : Slot)) at0).State, o.Host, (lget (lset row1 at0 (⟨(⟨((lget row1 at0).Part).From, ((lget row1 at0).Part).To, ((lget row1 at0).Part).ID⟩ : Part), 1, (lget row1 at0).Host, (lget row1 at0).Turn⟩ : Slot)) at0).Turn⟩ : Slot)) at0).Part).From, ((lget (lset (lset row1 at0 (⟨(⟨((lget row1 at0).Part).From, ((lget row1 at0).Part).To, ((lget row1 at0).Part).ID⟩ : Part), 1, (lget row1 at0).Host, (lget row1 at0).Turn⟩ : Slot)) at0 (⟨(⟨((lget (lset row1 at0 (⟨(⟨((lget row1 at0).Part).From, ((lget row1 at0).Part).To, ((lget row1 at0).Part).ID⟩ : Part), 1, (lget row1 at0).Host, (lget row1 at0).Turn⟩ : Slot)) at0).Part).From, ((lget (lset row1 at0 (⟨(⟨((lget row1 at0).Part).From, ((lget row1 at0).Part).To, ((lget row1 at0).Part).ID⟩ : Part), 1, (lget row1 at0).Host, (lget row1 at0).Turn⟩ : Slot)) at0).Part).To, ((lget (lset row1 at0 (⟨(⟨((lget row1 at0).Part).From, ((lget row1 at0).Part).To, ((lget row1 at0).Part).ID⟩ : Part), 1, (lget row1 at0).Host, (lget row1 at0).Turn⟩ : Slot)) at0).Part).ID⟩ : Part), (lget (lset row1 at0 (⟨(⟨((lget row1 at0).Part).From, ((lget row1 at0).Part).To, ((lget row1 at0).Part).ID⟩ : Part), 1, (lget row1 at0).Host, (lget row1 at0).Turn⟩ : Slot)) at0).State, o.Host, (lget (lset row1 at0 (⟨(⟨((lget row1 at0).Part).From, ((lget row1 at0).Part).To, ((lget row1 at0).Part).ID⟩ : Part), 1, (lget row1 at0).Host, (lget row1 at0).Turn⟩ : Slot)) at0).Turn⟩ : Slot)) at0).Part).To, ((lget (lset (lset row1 at0 (⟨(⟨((lget row1 at0).Part).From, ((lget row1 at0).Part).To, ((lget row1 at0).Part).ID⟩ : Part), 1, (lget row1 at0).Host, (lget row1 at0).Turn⟩ : Slot)) at0 (⟨(⟨((lget (lset row1 at0 (⟨(⟨((lget row1 at0).Part).From, ((lget row1 at0).Part).To, ((lget row1 at0).Part).ID⟩ : Part), 1, (lget row1 at0).Host, (lget row1 at0).Turn⟩ : Slot)) at0).Part).From, ((lget (lset row1 at0 (⟨(⟨((lget row1 at0).Part).From, ((lget row1 at0).Part).To, ((lget row1 at0).Part).ID⟩ : Part), 1, (lget row1 at0).Host, (lget row1 at0).Turn⟩ : Slot)) at0).Part).To, ((lget (lset row1 at0 (⟨(⟨((lget row1 at0).Part).From, ((lget row1 at0).Part).To, ((lget row1 at0).Part).ID⟩ : Part), 1, (lget row1 at0).Host, (lget row1 at0).Turn⟩ : Slot)) at0).Part).ID⟩ : Part), (lget (lset row1 at0 (⟨(⟨((lget row1 at0).Part).From, ((lget row1 at0).Part).To, ((lget row1 at0).Part).ID⟩ : Part), 1, (lget row1 at0).Host, (lget row1 at0).Turn⟩ : Slot)) at0).State, o.Host, (lget (lset row1 at0 (⟨(⟨((lget row1 at0).Part).From, ((lget row1 at0).Part).To, ((lget row1 at0).Part).ID⟩ : Part), 1, (lget row1 at0).Host, (lget row1 at0).Turn⟩ : Slot)) at0).Turn⟩ : Slot)) at0).Part).ID⟩ : Part), (lget (lset (lset row1 at0 (⟨(⟨((lget row1 at0).Part).From, ((lget row1 at0).Part).To, ((lget row1 at0).Part).ID⟩ : Part), 1, (lget row1 at0).Host, (lget row1 at0).Turn⟩ : Slot)) at0 (⟨(⟨((lget (lset row1 at0 (⟨(⟨((lget row1 at0).Part).From, ((lget row1 at0).Part).To, ((lget row1 at0).Part).ID⟩ : Part), 1, (lget row1 at0).Host, (lget row1 at0).Turn⟩ : Slot)) at0).Part).From, ((lget (lset row1 at0 (⟨(⟨((lget row1 at0).Part).From, ((lget row1 at0).Part).To, ((lget row1 at0).Part).ID⟩ : Part), 1, (lget row1 at0).Host, (lget row1 at0).Turn⟩ : Slot)) at0).Part).To, ((lget (lset row1 at0 (⟨(⟨((lget row1 at0).Part).From, ((lget row1 at0).Part).To, ((lget row1 at0).Part).ID⟩ : Part), 1, (lget row1 at0).Host, (lget row1 at0).Turn⟩ : Slot)) at0).Part).ID⟩ : Part), (lget (lset row1 at0 (⟨(⟨((lget row1 at0).Part).From, ((lget row1 at0).Part).To, ((lget row1 at0).Part).ID⟩ : Part), 1, (lget row1 at0).Host, (lget row1 at0).Turn⟩ : Slot)) at0).State, o.Host, (lget (lset row1 at0 (⟨(⟨((lget row1 at0).Part).From, ((lget row1 at0).Part).To, ((lget row1 at0).Part).ID⟩ : Part), 1, (lget row1 at0).Host, (lget row1 at0).Turn⟩ : Slot)) at0).Turn⟩ : Slot)) at0).State, (lget (lset (lset row1 at0 (⟨(⟨((lget row1 at0).Part).From, ((lget row1 at0).Part).To, ((lget row1 at0).Part).ID⟩ : Part), 1, (lget row1 at0).Host, (lget row1 at0).Turn⟩ : Slot)) at0 (⟨(⟨((lget (lset row1 at0 (⟨(⟨((lget row1 at0).Part).From, ((lget row1 at0).Part).To, ((lget row1 at0).Part).ID⟩ : Part), 1, (lget row1 at0).Host, (lget row1 at0).Turn⟩ : Slot)) at0).Part).From, ((lget (lset row1 at0 (⟨(⟨((lget row1 at0).Part).From, ((lget row1 at0).Part).To, ((lget row1 at0).Part).ID⟩ : Part), 1, (lget row1 at0).Host, (lget row1 at0).Turn⟩ : Slot)) at0).Part).To, ((lget (lset row1 at0 (⟨(⟨((lget row1 at0).Part).From, ((lget row1 at0).Part).To, ((lget row1 at0).Part).ID⟩ : Part), 1, (lget row1 at0).Host, (lget row1 at0).Turn⟩ : Slot)) at0).Part).ID⟩ : Part), (lget (lset row1 at0 (⟨(⟨((lget row1 at0).Part).From, ((lget row1 at0).Part).To, ((lget row1 at0).Part).ID⟩ : Part), 1, (lget row1 at0).Host, (lget row1 at0).Turn⟩ : Slot)) at0).State, o.Host, (lget (lset row1 at0 (⟨(⟨((lget row1 at0).Part).From, ((lget row1 at0).Part).To, ((lget row1 at0).Part).ID⟩ : Part), 1, (lget row1 at0).Host, (lget row1 at0).Turn⟩ : Slot)) at0).Turn⟩ : Slot)) at0).Host, w64 (box + 1)⟩ : Slot)).map e_Slot)] [0, 6] [6, 100000] [100000, 100001] [] [] [] (.cons (ldr_ok e_Slot h6) (.cons (set_ok e_Slot row1 at0 (⟨(⟨((lget row1 at0).Part).From, ((lget row1 at0).Part).To, ((lget row1 at0).Part).ID⟩ : Part), 1, (lget row1 at0).Host, (lget row1 at0).Turn⟩ : Slot)) (.cons (Nat.zero_le at0.toNat) (.cons (ldr_ok e_Slot h7) (.cons (set_ok e_Slot (lset row1 at0 (⟨(⟨((lget row1 at0).Part).From, ((lget row1 at0).Part).To, ((lget row1 at0).Part).ID⟩ : Part), 1, (lget row1 at0).Host, (lget row1 at0).Turn⟩ : Slot)) at0 (⟨(⟨((lget (lset row1 at0 (⟨(⟨((lget row1 at0).Part).From, ((lget row1 at0).Part).To, ((lget row1 at0).Part).ID⟩ : Part), 1, (lget row1 at0).Host, (lget row1 at0).Turn⟩ : Slot)) at0).Part).From, ((lget (lset row1 at0 (⟨(⟨((lget row1 at0).Part).From, ((lget row1 at0).Part).To, ((lget row1 at0).Part).ID⟩ : Part), 1, (lget row1 at0).Host, (lget row1 at0).Turn⟩ : Slot)) at0).Part).To, ((lget (lset row1 at0 (⟨(⟨((lget row1 at0).Part).From, ((lget row1 at0).Part).To, ((lget row1 at0).Part).ID⟩ : Part), 1, (lget row1 at0).Host, (lget row1 at0).Turn⟩ : Slot)) at0).Part).ID⟩ : Part), (lget (lset row1 at0 (⟨(⟨((lget row1 at0).Part).From, ((lget row1 at0).Part).To, ((lget row1 at0).Part).ID⟩ : Part), 1, (lget row1 at0).Host, (lget row1 at0).Turn⟩ : Slot)) at0).State, o.Host, (lget (lset row1 at0 (⟨(⟨((lget row1 at0).Part).From, ((lget row1 at0).Part).To, ((lget row1 at0).Part).ID⟩ : Part), 1, (lget row1 at0).Host, (lget row1 at0).Turn⟩ : Slot)) at0).Turn⟩ : Slot)) (.cons (Nat.zero_le at0.toNat) (.cons (ldr_ok e_Slot h8) (.cons (set_ok e_Slot (lset (lset row1 at0 (⟨(⟨((lget row1 at0).Part).From, ((lget row1 at0).Part).To, ((lget row1 at0).Part).ID⟩ : Part), 1, (lget row1 at0).Host, (lget row1 at0).Turn⟩ : Slot)) at0 (⟨(⟨((lget (lset row1 at0 (⟨(⟨((lget row1 at0).Part).From, ((lget row1 at0).Part).To, ((lget row1 at0).Part).ID⟩ : Part), 1, (lget row1 at0).Host, (lget row1 at0).Turn⟩ : Slot)) at0).Part).From, ((lget (lset row1 at0 (⟨(⟨((lget row1 at0).Part).From, ((lget row1 at0).Part).To, ((lget row1 at0).Part).ID⟩ : Part), 1, (lget row1 at0).Host, (lget row1 at0).Turn⟩ : Slot)) at0).Part).To, ((lget (lset row1 at0 (⟨(⟨((lget row1 at0).Part).From, ((lget row1 at0).Part).To, ((lget row1 at0).Part).ID⟩ : Part), 1, (lget row1 at0).Host, (lget row1 at0).Turn⟩ : Slot)) at0).Part).ID⟩ : Part), (lget (lset row1 at0 (⟨(⟨((lget row1 at0).Part).From, ((lget row1 at0).Part).To, ((lget row1 at0).Part).ID⟩ : Part), 1, (lget row1 at0).Host, (lget row1 at0).Turn⟩ : Slot)) at0).State, o.Host, (lget (lset row1 at0 (⟨(⟨((lget row1 at0).Part).From, ((lget row1 at0).Part).To, ((lget row1 at0).Part).ID⟩ : Part), 1, (lget row1 at0).Host, (lget row1 at0).Turn⟩ : Slot)) at0).Turn⟩ : Slot)) at0 (⟨(⟨((lget (lset (lset row1 at0 (⟨(⟨((lget row1 at0).Part).From, ((lget row1 at0).Part).To, ((lget row1 at0).Part).ID⟩ : Part), 1, (lget row1 at0).Host, (lget row1 at0).Turn⟩ : Slot)) at0 (⟨(⟨((lget (lset row1 at0 (⟨(⟨((lget row1 at0).Part).From, ((lget row1 at0).Part).To, ((lget row1 at0).Part).ID⟩ : Part), 1, (lget row1 at0).Host, (lget row1 at0).Turn⟩ : Slot)) at0).Part).From, ((lget (lset row1 at0 (⟨(⟨((lget row1 at0).Part).From, ((lget row1 at0).Part).To, ((lget row1 at0).Part).ID⟩ : Part), 1, (lget row1 at0).Host, (lget row1 at0).Turn⟩ : Slot)) at0).Part).To, ((lget (lset row1 at0 (⟨(⟨((lget row1 at0).Part).From, ((lget row1 at0).Part).To, ((lget row1 at0).Part).ID⟩ : Part), 1, (lget row1 at0).Host, (lget row1 at0).Turn⟩ : Slot)) at0).Part).ID⟩ : Part), (lget (lset row1 at0 (⟨(⟨((lget row1 at0).Part).From, ((lget row1 at0).Part).To, ((lget row1 at0).Part).ID⟩ : Part), 1, (lget row1 at0).Host, (lget row1 at0).Turn⟩ : Slot)) at0).State, o.Host, (lget (lset row1 at0 (⟨(⟨((lget row1 at0).Part).From, ((lget row1 at0).Part).To, ((lget row1 at0).Part).ID⟩ : Part), 1, (lget row1 at0).Host, (lget row1 at0).Turn⟩ : Slot)) at0).Turn⟩ : Slot)) at0).Part).From, ((lget (lset (lset row1 at0 (⟨(⟨((lget row1 at0).Part).From, ((lget row1 at0).Part).To, ((lget row1 at0).Part).ID⟩ : Part), 1, (lget row1 at0).Host, (lget row1 at0).Turn⟩ : Slot)) at0 (⟨(⟨((lget (lset row1 at0 (⟨(⟨((lget row1 at0).Part).From, ((lget row1 at0).Part).To, ((lget row1 at0).Part).ID⟩ : Part), 1, (lget row1 at0).Host, (lget row1 at0).Turn⟩ : Slot)) at0).Part).From, ((lget (lset row1 at0 (⟨(⟨((lget row1 at0).Part).From, ((lget row1 at0).Part).To, ((lget row1 at0).Part).ID⟩ : Part), 1, (lget row1 at0).Host, (lget row1 at0).Turn⟩ : Slot)) at0).Part).To, ((lget (lset row1 at0 (⟨(⟨((lget row1 at0).Part).From, ((lget row1 at0).Part).To, ((lget row1 at0).Part).ID⟩ : Part), 1, (lget row1 at0).Host, (lget row1 at0).Turn⟩ : Slot)) at0).Part).ID⟩ : Part), (lget (lset row1 at0 (⟨(⟨((lget row1 at0).Part).From, ((lget row1 at0).Part).To, ((lget row1 at0).Part).ID⟩ : Part), 1, (lget row1 at0).Host, (lget row1 at0).Turn⟩ : Slot)) at0).State, o.Host, (lget (lset row1 at0 (⟨(⟨((lget row1 at0).Part).From, ((lget row1 at0).Part).To, ((lget row1 at0).Part).ID⟩ : Part), 1, (lget row1 at0).Host, (lget row1 at0).Turn⟩ : Slot)) at0).Turn⟩ : Slot)) at0).Part).To, ((lget (lset (lset row1 at0 (⟨(⟨((lget row1 at0).Part).From, ((lget row1 at0).Part).To, ((lget row1 at0).Part).ID⟩ : Part), 1, (lget row1 at0).Host, (lget row1 at0).Turn⟩ : Slot)) at0 (⟨(⟨((lget (lset row1 at0 (⟨(⟨((lget row1 at0).Part).From, ((lget row1 at0).Part).To, ((lget row1 at0).Part).ID⟩ : Part), 1, (lget row1 at0).Host, (lget row1 at0).Turn⟩ : Slot)) at0).Part).From, ((lget (lset row1 at0 (⟨(⟨((lget row1 at0).Part).From, ((lget row1 at0).Part).To, ((lget row1 at0).Part).ID⟩ : Part), 1, (lget row1 at0).Host, (lget row1 at0).Turn⟩ : Slot)) at0).Part).To, ((lget (lset row1 at0 (⟨(⟨((lget row1 at0).Part).From, ((lget row1 at0).Part).To, ((lget row1 at0).Part).ID⟩ : Part), 1, (lget row1 at0).Host, (lget row1 at0).Turn⟩ : Slot)) at0).Part).ID⟩ : Part), (lget (lset row1 at0 (⟨(⟨((lget row1 at0).Part).From, ((lget row1 at0).Part).To, ((lget row1 at0).Part).ID⟩ : Part), 1, (lget row1 at0).Host, (lget row1 at0).Turn⟩ : Slot)) at0).State, o.Host, (lget (lset row1 at0 (⟨(⟨((lget row1 at0).Part).From, ((lget row1 at0).Part).To, ((lget row1 at0).Part).ID⟩ : Part), 1, (lget row1 at0).Host, (lget row1 at0).Turn⟩ : Slot)) at0).Turn⟩ : Slot)) at0).Part).ID⟩ : Part), (lget (lset (lset row1 at0 (⟨(⟨((lget row1 at0).Part).From, ((lget row1 at0).Part).To, ((lget row1 at0).Part).ID⟩ : Part), 1, (lget row1 at0).Host, (lget row1 at0).Turn⟩ : Slot)) at0 (⟨(⟨((lget (lset row1 at0 (⟨(⟨((lget row1 at0).Part).From, ((lget row1 at0).Part).To, ((lget row1 at0).Part).ID⟩ : Part), 1, (lget row1 at0).Host, (lget row1 at0).Turn⟩ : Slot)) at0).Part).From, ((lget (lset row1 at0 (⟨(⟨((lget row1 at0).Part).From, ((lget row1 at0).Part).To, ((lget row1 at0).Part).ID⟩ : Part), 1, (lget row1 at0).Host, (lget row1 at0).Turn⟩ : Slot)) at0).Part).To, ((lget (lset row1 at0 (⟨(⟨((lget row1 at0).Part).From, ((lget row1 at0).Part).To, ((lget row1 at0).Part).ID⟩ : Part), 1, (lget row1 at0).Host, (lget row1 at0).Turn⟩ : Slot)) at0).Part).ID⟩ : Part), (lget (lset row1 at0 (⟨(⟨((lget row1 at0).Part).From, ((lget row1 at0).Part).To, ((lget row1 at0).Part).ID⟩ : Part), 1, (lget row1 at0).Host, (lget row1 at0).Turn⟩ : Slot)) at0).State, o.Host, (lget (lset row1 at0 (⟨(⟨((lget row1 at0).Part).From, ((lget row1 at0).Part).To, ((lget row1 at0).Part).ID⟩ : Part), 1, (lget row1 at0).Host, (lget row1 at0).Turn⟩ : Slot)) at0).Turn⟩ : Slot)) at0).State, (lget (lset (lset row1 at0 (⟨(⟨((lget row1 at0).Part).From, ((lget row1 at0).Part).To, ((lget row1 at0).Part).ID⟩ : Part), 1, (lget row1 at0).Host, (lget row1 at0).Turn⟩ : Slot)) at0 (⟨(⟨((lget (lset row1 at0 (⟨(⟨((lget row1 at0).Part).From, ((lget row1 at0).Part).To, ((lget row1 at0).Part).ID⟩ : Part), 1, (lget row1 at0).Host, (lget row1 at0).Turn⟩ : Slot)) at0).Part).From, ((lget (lset row1 at0 (⟨(⟨((lget row1 at0).Part).From, ((lget row1 at0).Part).To, ((lget row1 at0).Part).ID⟩ : Part), 1, (lget row1 at0).Host, (lget row1 at0).Turn⟩ : Slot)) at0).Part).To, ((lget (lset row1 at0 (⟨(⟨((lget row1 at0).Part).From, ((lget row1 at0).Part).To, ((lget row1 at0).Part).ID⟩ : Part), 1, (lget row1 at0).Host, (lget row1 at0).Turn⟩ : Slot)) at0).Part).ID⟩ : Part), (lget (lset row1 at0 (⟨(⟨((lget row1 at0).Part).From, ((lget row1 at0).Part).To, ((lget row1 at0).Part).ID⟩ : Part), 1, (lget row1 at0).Host, (lget row1 at0).Turn⟩ : Slot)) at0).State, o.Host, (lget (lset row1 at0 (⟨(⟨((lget row1 at0).Part).From, ((lget row1 at0).Part).To, ((lget row1 at0).Part).ID⟩ : Part), 1, (lget row1 at0).Host, (lget row1 at0).Turn⟩ : Slot)) at0).Turn⟩ : Slot)) at0).Host, w64 (box + 1)⟩ : Slot)) (.cons (Nat.zero_le at0.toNat) .nil))))))))) (by kernel_rfl) (fun v1 hv => ?_)
     have hF := lt_elim hF hv
     exact Wk_metP (x2.2, v1, w64 (box + 1), box1) [0, 6] [6, 100000] [100000, 100001] [] [] [(100001, ⟨1, false, false, false⟩)] hF (by kernel_rfl)
  ·have hF := ite_f hF hb
   refine ZRs [] [0, 1, 5, 6, 7, 8, 22, 63] [5, 6, 8, 100000] [100000, 100001] [(63, .bool (decide (o.Kind = 4)))] .nil ?_
   refine Wk_split rfl (fun hb => ?_) (fun hb => ?_)
   ·have hF := ite_t hF hb
    refine Wk_seq ?_
    obtain ⟨x4, h9, hF⟩ := ob_elim hF
    refine UR [.callR [] [100001] [] [] (.agg [.i x4.Code, .i x4.At])] [6, 7, 9] [6, 9, 100000] [100000, 100001] [] [(9, .ptr 9 0)] [(9, [.i x4.Code, .i x4.At])] [] [] (.cons (Pe.ren (assign_given_ok at0 o 1 row1 0 rc1 rn1 x4 h9) ⟨[], [(100000, 100001)], [], []⟩) .nil) ?_
    refine Wk_seq ?_
    obtain ⟨h10, hF⟩ := asrt_elim hF
    refine WRL ((lset row1 at0 (⟨(⟨((lget row1 at0).Part).From, ((lget row1 at0).Part).To, ((lget row1 at0).Part).ID⟩ : Part), 2, (lget row1 at0).Host, (lget row1 at0).Turn⟩ : Slot))) (fun v2 : List Slot => ⟨[(6, .ptr 6 0), (9, .ptr 9 0)], [(6, [.i 0, .i 0]), (9, [.i x4.Code, .i x4.At]), (100000, [.row 100000 0, .row 100001 0, .i box, .i box1])], [(100000, ⟨108, 3, 0, rk, rc, rn, 0, [], (row.map e_Host)⟩), (100001, ⟨64, 6, 0, 0, rc1, rn1, 0, [], (v2.map e_Slot)⟩)], [], []⟩) [.av (e_Slot (lget row1 at0)), .xs ((lset row1 at0 (⟨(⟨((lget row1 at0).Part).From, ((lget row1 at0).Part).To, ((lget row1 at0).Part).ID⟩ : Part), 2, (lget row1 at0).Host, (lget row1 at0).Turn⟩ : Slot)).map e_Slot)] [6, 9] [6, 9, 100000] [100000, 100001] [] [] [] (.cons (ldr_ok e_Slot h10) (.cons (set_ok e_Slot row1 at0 (⟨(⟨((lget row1 at0).Part).From, ((lget row1 at0).Part).To, ((lget row1 at0).Part).ID⟩ : Part), 2, (lget row1 at0).Host, (lget row1 at0).Turn⟩ : Slot)) (.cons (Nat.zero_le at0.toNat) .nil))) (by kernel_rfl) (fun v2 hv => ?_)
    have hF := lt_elim hF hv
    refine URs [] [6] [6, 100000] [100000, 100001] [] [] [(6, [.i x4.Code, .i x4.At])] [] [] .nil ?_
    have hF := some_elim hF
    exact Wk_ret (hfin _ ⟨[100000, 100001], [100000], [100000, 100001], [], [], [(100000, ⟨0, true, true, true⟩), (100001, ⟨1, false, false, true⟩)], by first | (rw [← hF]; kernel_rfl) | kernel_rfl⟩)
   ·have hF := ite_f hF hb
    refine ZRs [] [0, 1, 5, 6, 7, 8, 22, 72] [5, 6, 8, 100000] [100000, 100001] [(72, .bool (decide (o.Kind = 5)))] .nil ?_
    refine Wk_split rfl (fun hb => ?_) (fun hb => ?_)
    ·have hF := ite_t hF hb
     refine Wk_seq ?_
     refine Wk_seq ?_
     obtain ⟨h11, hF⟩ := asrt_elim hF
     refine ZR [.av (e_Slot (lget row1 at0))] [0, 6, 7, 8, 78] [6, 8, 100000] [100000, 100001] [(78, .bool (!decide (((lget row1 at0).State) = 2)))] (.cons (ldr_ok e_Slot h11) .nil) ?_
     refine Wk_split rfl (fun hb => ?_) (fun hb => ?_)
     ·have hF := ite_t hF hb
      refine URs [] [6] [6, 100000] [100000, 100001] [] [] [(6, [.i x.Code, .i x.At])] [] [] .nil ?_
      have hF := some_elim hF
      exact Wk_ret (hfin _ ⟨[100000, 100001], [100000], [100000, 100001], [], [], [(100000, ⟨0, true, true, true⟩), (100001, ⟨1, false, false, true⟩)], by first | (rw [← hF]; kernel_rfl) | kernel_rfl⟩)
     ·have hF := ite_f hF hb
      refine Wk_skip ?_
      obtain ⟨h12, hF⟩ := asrt_elim hF
      refine WRL ((lset row1 at0 (⟨(⟨((lget row1 at0).Part).From, ((lget row1 at0).Part).To, ((lget row1 at0).Part).ID⟩ : Part), 3, (lget row1 at0).Host, (lget row1 at0).Turn⟩ : Slot))) (fun v3 : List Slot => ⟨[(0, .ptr 100000 0), (6, .ptr 6 0)], [(6, [.i 0, .i 0]), (100000, [.row 100000 0, .row 100001 0, .i box, .i box1])], [(100000, ⟨108, 3, 0, rk, rc, rn, 0, [], (row.map e_Host)⟩), (100001, ⟨64, 6, 0, 0, rc1, rn1, 0, [], (v3.map e_Slot)⟩)], [], []⟩) [.av (e_Slot (lget row1 at0)), .xs ((lset row1 at0 (⟨(⟨((lget row1 at0).Part).From, ((lget row1 at0).Part).To, ((lget row1 at0).Part).ID⟩ : Part), 3, (lget row1 at0).Host, (lget row1 at0).Turn⟩ : Slot)).map e_Slot)] [0, 6] [6, 100000] [100000, 100001] [] [] [] (.cons (ldr_ok e_Slot h12) (.cons (set_ok e_Slot row1 at0 (⟨(⟨((lget row1 at0).Part).From, ((lget row1 at0).Part).To, ((lget row1 at0).Part).ID⟩ : Part), 3, (lget row1 at0).Host, (lget row1 at0).Turn⟩ : Slot)) (.cons (Nat.zero_le at0.toNat) .nil))) (by kernel_rfl) (fun v3 hv => ?_)
      have hF := lt_elim hF hv
      exact Wk_metP (row, v3, box, box1) [0, 6] [6, 100000] [100000, 100001] [] [] [(100000, ⟨0, true, true, true⟩), (100001, ⟨1, false, false, false⟩)] hF (by kernel_rfl)
    ·have hF := ite_f hF hb
     refine ZRs [] [0, 1, 5, 6, 7, 8, 22, 83] [5, 6, 8, 100000] [100000, 100001] [(83, .bool (decide (o.Kind = 6)))] .nil ?_
     refine Wk_split rfl (fun hb => ?_) (fun hb => ?_)
     ·have hF := ite_t hF hb
      refine Wk_seq ?_
      obtain ⟨x5, h13, hF⟩ := ob_elim hF
      refine UR [.callR [] [100001] [] [] (.agg [.i x5.Code, .i x5.At])] [6, 7, 10] [6, 10, 100000] [100000, 100001] [] [(10, .ptr 10 0)] [(10, [.i x5.Code, .i x5.At])] [] [] (.cons (Pe.ren (assign_given_ok at0 o 3 row1 0 rc1 rn1 x5 h13) ⟨[], [(100000, 100001)], [], []⟩) .nil) ?_
      refine Wk_seq ?_
      obtain ⟨x6, h14, hF⟩ := ob_elim hF
      refine UR [.callE [] [100001] [] [] (.tup []) ⟨[], [], [(100001, ⟨64, 6, 0, 0, rc1, rn1, 0, [], (x6.map e_Slot)⟩)], [], []⟩] [6, 10] [6, 10, 100000] [100000, 100001] [] [] [] [(100001, ⟨64, 6, 0, 0, rc1, rn1, 0, [], (x6.map e_Slot)⟩)] [] (.cons (Pe.ren (assign_off_ok at0 row1 0 rc1 rn1 x6 h14) ⟨[], [(100000, 100001)], [], []⟩) .nil) ?_
      refine URs [] [6] [6, 100000] [100000, 100001] [] [] [(6, [.i x5.Code, .i x5.At])] [] [] .nil ?_
      have hF := some_elim hF
      exact Wk_ret (hfin _ ⟨[100000, 100001], [100000], [100000, 100001], [], [], [(100000, ⟨0, true, true, true⟩), (100001, ⟨1, false, false, true⟩)], by first | (rw [← hF]; kernel_rfl) | kernel_rfl⟩)
     ·have hF := ite_f hF hb
      refine ZRs [] [0, 1, 5, 6, 7, 8, 22, 91] [5, 6, 8, 100000] [100000, 100001] [(91, .bool (decide (o.Kind = 7)))] .nil ?_
      refine Wk_split rfl (fun hb => ?_) (fun hb => ?_)
      ·have hF := ite_t hF hb
       refine Wk_seq ?_
       refine Wk_seq ?_
       obtain ⟨h15, hF⟩ := asrt_elim hF
       refine ZR [.av (e_Slot (lget row1 at0))] [0, 1, 5, 6, 8, 97] [5, 6, 8, 100000] [100000, 100001] [(97, .bool (!decide (((lget row1 at0).State) = 0)))] (.cons (ldr_ok e_Slot h15) .nil) ?_
       refine Wk_split rfl (fun hb => ?_) (fun hb => ?_)
       ·have hF := ite_t hF hb
        refine URs [] [6] [6, 100000] [100000, 100001] [] [] [(6, [.i x.Code, .i x.At])] [] [] .nil ?_
        have hF := some_elim hF
        exact Wk_ret (hfin _ ⟨[100000, 100001], [100000], [100000, 100001], [], [], [(100000, ⟨0, true, true, true⟩), (100001, ⟨1, false, false, true⟩)], by first | (rw [← hF]; kernel_rfl) | kernel_rfl⟩)
       ·have hF := ite_f hF hb
        refine Wk_skip ?_
        refine Wk_seq ?_
        refine ZRs [] [0, 1, 5, 6, 103] [5, 6, 100000] [100000, 100001] [(103, .bool (decide (999999998 < box1)))] .nil ?_
        refine Wk_split rfl (fun hb => ?_) (fun hb => ?_)
        ·have hF := ite_t hF hb
         refine Wk_seq ?_
         obtain ⟨x7, h16, hF⟩ := ob_elim hF
         refine UR [.callE [100000] [100000, 100001] [] [] (.agg [.i x7.1.Code, .i x7.1.At]) ⟨[], [(100000, [.row 100000 0, .row 100001 0, .i box, .i box1])], [(100000, ⟨108, 3, 0, (x7.2.1.map e_Host).length, rc, rn, 0, [], (x7.2.1.map e_Host)⟩), (100001, ⟨64, 6, 0, (x7.2.2.map e_Slot).length, rc1, rn1, 0, [], (x7.2.2.map e_Slot)⟩)], [], []⟩] [6] [6, 100000] [100000, 100001] [] [] [(6, [.i x7.1.Code, .i x7.1.At])] [(100000, ⟨108, 3, 0, (x7.2.1.map e_Host).length, rc, rn, 0, [], (x7.2.1.map e_Host)⟩), (100001, ⟨64, 6, 0, (x7.2.2.map e_Slot).length, rc1, rn1, 0, [], (x7.2.2.map e_Slot)⟩)] [] (.cons (Pe.ren (assign_much_ok at0 o box box1 row row1 rk rc rn 0 rc1 rn1 x7 h16) ⟨[], [], [], []⟩) .nil) ?_
         have hF := some_elim hF
         exact Wk_ret (hfin _ ⟨[100000, 100001], [100000], [100000, 100001], [], [], [(100001, ⟨1, false, false, true⟩)], by first | (rw [← hF]; kernel_rfl) | kernel_rfl⟩)
        ·have hF := ite_f hF hb
         refine Wk_skip ?_
         refine Wk_seq ?_
         obtain ⟨x8, h17, hF⟩ := ob_elim hF
         obtain ⟨x9, h18, hF⟩ := ob_elim hF
         refine UD [.callE [] [100000, 100001] [] [] (.row 112 0) ⟨[], [], [(100000, ⟨108, 3, 0, rk, rc, rn, 0, [], (row.map e_Host)⟩), (100001, ⟨64, 6, 0, 0, rc1, rn1, 0, [], (row1.map e_Slot)⟩), (112, .o 34 3 0 (x8.map e_Part))], [], []⟩, .callE [] [112] [] [] (.tup [.row 125 0, .agg [.i x9.2.1.Code, .i x9.2.1.At]]) ⟨[], [], [(112, ⟨34, 3, 0, (x9.2.2.map e_Part).length, 0, false, 0, [], (x9.2.2.map e_Part)⟩), (125, .o 34 3 0 (x9.1.map e_Part))], [], []⟩] [0, 1, 6, 11, 12] [6, 12, 100000] [125, 100000, 100001] [] [(11, .row 125 0), (12, .ptr 12 0)] [(12, [.i x9.2.1.Code, .i x9.2.1.At])] [(125, .o 34 3 0 (x9.1.map e_Part))] [] (.cons (Pe.ren (assign_Parts_v2_ok box box1 row row1 rk rc rn 0 rc1 rn1 x8 h17) ⟨[], [(9, 112)], [], []⟩) (.cons (Pe.ren (parts_Split_v2_ok at0 o.Row box1 (w64 (box1 + 1)) x8 0 0 false x9 h18) ⟨[], [(100000, 112), (100000, 125)], [], []⟩) .nil)) ?_
         refine Wk_seq ?_
         refine ZRs [] [0, 1, 6, 11, 12, 130] [6, 12, 100000] [125, 100000, 100001] [(130, .bool (!decide (x9.2.1.Code = 0)))] .nil ?_
         refine Wk_split rfl (fun hb => ?_) (fun hb => ?_)
         ·have hF := ite_t hF hb
          refine URs [] [6] [6, 100000] [100000, 100001] [] [] [(6, [.i x9.2.1.Code, .i x9.2.1.At])] [] [] .nil ?_
          have hF := some_elim hF
          exact Wk_ret (hfin _ ⟨[100000, 100001], [100000], [100000, 100001], [], [], [(100000, ⟨0, true, true, true⟩), (100001, ⟨1, false, false, true⟩)], by first | (rw [← hF]; kernel_rfl) | kernel_rfl⟩)
         ·have hF := ite_f hF hb
          refine Wk_skip ?_
          refine Wk_seq ?_
          obtain ⟨h19, hF⟩ := asrt_elim hF
          obtain ⟨h20, hF⟩ := asrt_elim hF
          obtain ⟨h21, hF⟩ := asrt_elim hF
          obtain ⟨h22, hF⟩ := asrt_elim hF
          obtain ⟨x10, h23, hF⟩ := ob_elim hF
          refine UD [.av (e_Part (lget x9.1 at0)), .av (e_Part (lget x9.1 (w64 (at0 + 1)))), .callE [] [100001] [] [] (.row 100001 1) ⟨[], [], [(100001, .o 64 6 1 (x10.map e_Slot))], [], []⟩] [0, 6] [6, 100000] [100000, 100001] [] [] [(100000, [.row 100000 0, .row 100001 1, .i box, .i box1])] [(100001, .o 64 6 1 (x10.map e_Slot))] [] (.cons (ixr_ok e_Part h19) (.cons (ldr_ok e_Part h20) (.cons (ixr_ok e_Part h21) (.cons (ldr_ok e_Part h22) (.cons (Pe.ren (slices_Replace_api_Slot_api_Slot_ok at0 (w64 (at0 + 1)) [(⟨(⟨(lget x9.1 at0).From, (lget x9.1 at0).To, (lget x9.1 at0).ID⟩ : Part), 0, 0, 0⟩ : Slot), (⟨(⟨(lget x9.1 (w64 (at0 + 1))).From, (lget x9.1 (w64 (at0 + 1))).To, (lget x9.1 (w64 (at0 + 1))).ID⟩ : Part), 0, 0, 0⟩ : Slot)] row1 0 rc1 rn1 x10 h23) ⟨[], [(100000, 100001)], [], []⟩) .nil))))) ?_
          refine UR [] [0, 6] [6, 100000] [100000, 100001] [] [] [(100000, [.row 100000 0, .row 100001 1, .i box, .i (w64 (box1 + 2))])] [] [] .nil ?_
          exact Wk_metP (row, x10, box, w64 (box1 + 2)) [0, 6] [6, 100000] [100000, 100001] [] [] [(100000, ⟨0, true, true, true⟩)] hF (by kernel_rfl)
      ·have hF := ite_f hF hb
       refine ZRs [] [0, 1, 6, 7, 8, 162] [6, 8, 100000] [100000, 100001] [(162, .bool (decide (o.Kind = 8)))] .nil ?_
       refine Wk_split rfl (fun hb => ?_) (fun hb => ?_)
       ·have hF := ite_t hF hb
        refine Wk_seq ?_
        refine ZRs [.nat (row1.length : Int)] [0, 1, 6, 7, 8, 171] [6, 8, 100000] [100000, 100001] [(171, .bool (decide ((w64 (at0 + 1)) = (row1.length : Int))))] (.cons (len_ok e_Slot row1) .nil) ?_
        refine Wk_split rfl (fun hb => ?_) (fun hb => ?_)
        ·have hF := ite_t hF hb
         refine Wk_seq ?_
         obtain ⟨x11, h24, hF⟩ := lt_split hF
         refine UR [.callB (.agg [.i x11.Code, .i x11.At])] [6] [6, 100000] [100000, 100001] [] [] [(6, [.i x11.Code, .i x11.At])] [] [] (.cons (assign_fault_ok 6 (-1) x11 h24) .nil) ?_
         have hF := some_elim hF
         exact Wk_ret (hfin _ ⟨[100000, 100001], [100000], [100000, 100001], [], [], [(100000, ⟨0, true, true, true⟩), (100001, ⟨1, false, false, true⟩)], by first | (rw [← hF]; kernel_rfl) | kernel_rfl⟩)
        ·have hF := ite_f hF hb
         refine Wk_skip ?_
         refine Wk_seq ?_
         refine Wk_seq ?_
         obtain ⟨h25, hF⟩ := asrt_elim hF
         obtain ⟨h26, hF⟩ := asrt_elim hF
         obtain ⟨h27, hF⟩ := asrt_elim hF
         refine ZR [.av (e_Slot (lget row1 at0)), .av (e_Slot (lget row1 (w64 (at0 + 1))))] [0, 1, 6, 7, 8, 189] [6, 8, 100000] [100000, 100001] [(189, .bool ((!decide (((lget row1 at0).State) = 0)) || (!decide (((lget row1 (w64 (at0 + 1))).State) = 0))))] (.cons (ldr_ok e_Slot h25) (.cons (fun (ga0 : (!(!decide (((lget row1 at0).State) = 0))) = true) => (ixr_ok e_Slot (h26 ga0))) (.cons (fun (ga0 : (!(!decide (((lget row1 at0).State) = 0))) = true) => (ldr_ok e_Slot (h27 ga0))) .nil))) ?_
         refine Wk_split rfl (fun hb => ?_) (fun hb => ?_)
         ·have hF := ite_t hF hb
          refine URs [] [6] [6, 100000] [100000, 100001] [] [] [(6, [.i x.Code, .i x.At])] [] [] .nil ?_
          have hF := some_elim hF
          exact Wk_ret (hfin _ ⟨[100000, 100001], [100000], [100000, 100001], [], [], [(100000, ⟨0, true, true, true⟩), (100001, ⟨1, false, false, true⟩)], by first | (rw [← hF]; kernel_rfl) | kernel_rfl⟩)
         ·have hF := ite_f hF hb
          refine Wk_skip ?_
          refine Wk_seq ?_
          obtain ⟨h28, hF⟩ := asrt_elim hF
          obtain ⟨h29, hF⟩ := asrt_elim hF
          obtain ⟨h30, hF⟩ := asrt_elim hF
          refine UD [.av (e_Slot (lget row1 at0)), .av (e_Slot (lget row1 (w64 (at0 + 1))))] [0, 1, 6, 13] [6, 13, 100000] [100000, 100001] [] [(13, .ptr 13 0)] [(13, [.str (((lget row1 at0).Part).From), .str (((lget row1 (w64 (at0 + 1))).Part).To), .i box1])] [] [] (.cons (ldr_ok e_Slot h28) (.cons (ixr_ok e_Slot h29) (.cons (ldr_ok e_Slot h30) .nil))) ?_
          refine Wk_seq ?_
          obtain ⟨x12, h31, hF⟩ := ob_elim hF
          refine UD [.callE [] [100001] [] [] (.row 100001 1) ⟨[], [], [(100001, .o 64 6 1 (x12.map e_Slot))], [], []⟩] [0, 6] [6, 100000] [100000, 100001] [] [] [(100000, [.row 100000 0, .row 100001 1, .i box, .i box1])] [(100001, .o 64 6 1 (x12.map e_Slot))] [] (.cons (Pe.ren (slices_Replace_api_Slot_api_Slot_ok at0 (w64 (at0 + 2)) [(⟨(⟨((lget row1 at0).Part).From, ((lget row1 (w64 (at0 + 1))).Part).To, box1⟩ : Part), 0, 0, 0⟩ : Slot)] row1 0 rc1 rn1 x12 h31) ⟨[], [(100000, 100001)], [], []⟩) .nil) ?_
          refine UR [] [0, 6] [6, 100000] [100000, 100001] [] [] [(100000, [.row 100000 0, .row 100001 1, .i box, .i (w64 (box1 + 1))])] [] [] .nil ?_
          exact Wk_metP (row, x12, box, w64 (box1 + 1)) [0, 6] [6, 100000] [100000, 100001] [] [] [(100000, ⟨0, true, true, true⟩)] hF (by kernel_rfl)
       ·have hF := ite_f hF hb
        refine Wk_skip ?_
        exact Wk_metP (row, row1, box, box1) [0, 6] [6, 100000] [100000, 100001] [] [] [(100000, ⟨0, true, true, true⟩), (100001, ⟨1, false, false, false⟩)] hF (by kernel_rfl)
 ·intro v hF
  have hF : assign_does_J1 v = some r := hF
  unfold assign_does_J1 at hF
  refine Wk_blk ?_
  refine Wk_seq ?_
  refine ZRs [] [6, 243] [6, 100000] [100000, 100001] [(243, .bool ((decide (1000000000 < v.2.2.1)) || (decide (1000000000 < v.2.2.2))))] .nil ?_
  refine Wk_split rfl (fun hb => ?_) (fun hb => ?_)
  ·have hF := ite_t hF hb
   refine Wk_seq ?_
   obtain ⟨x1, h2, hF⟩ := lt_split hF
   refine UR [.callB (.agg [.i x1.Code, .i x1.At])] [6] [6, 100000] [100000, 100001] [] [] [(6, [.i x1.Code, .i x1.At])] [] [] (.cons (assign_fault_ok 9 0 x1 h2) .nil) ?_
   have hF := some_elim hF
   exact Wk_ret (hfin _ ⟨[100000, 100001], [100000], [100000, 100001], [], [], [(100001, ⟨1, true, true, true⟩)], by first | (rw [← hF]; kernel_rfl) | kernel_rfl⟩)
  ·have hF := ite_f hF hb
   refine Wk_skip ?_
   refine ZRs [] [6] [6, 100000] [100000, 100001] [] .nil ?_
   have hF := some_elim hF
   exact Wk_ret (hfin _ ⟨[100000, 100001], [100000], [100000, 100001], [], [], [(100001, ⟨1, true, true, true⟩)], by first | (rw [← hF]; kernel_rfl) | kernel_rfl⟩)

end G
end Go.Proofs.Ytdjlninhfndjfaa
