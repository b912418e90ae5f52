/- The program's functions as plain functions, and that they are these. Written by a program (dec2.py). -/
import Derived.Test.YtollmifjbcccgaaGf1
namespace Go.Proofs.Ytollmifjbcccgaa
open Go Go.Dm
set_option linter.unusedVariables false
set_option linter.unusedSimpArgs false
set_option maxRecDepth 100000
namespace G
/- tabularyref.NoteOf -/
noncomputable def R_NoteOf (b : List UInt8) : Option (Int × List Cell × Fault) :=
  if (decide (60000 < (b.length : Int))) = true then
    lt (R_F 8 0) fun x =>
    some (0, ([] : List Cell), x)
  else
    ob (R_NumberAt b) fun x1 =>
    if (decide (x1.2 = 0)) = true then
      lt (R_F 5 (-1)) fun x2 =>
      some (0, ([] : List Cell), x2)
    else
      asrt (0 ≤ x1.2 ∧ x1.2 ≤ (b.length : Int)) <|
      ob (R_CellsOf (ldrop b x1.2)) fun x3 =>
      if (!decide (x3.2.Code = 0)) = true then
        some (0, ([] : List Cell), x3.2)
      else
        ob (R_NoteFault (⟨x1.1, x3.1⟩ : Note)) fun x4 =>
        if (!decide (x4.Code = 0)) = true then
          some (0, ([] : List Cell), x4)
        else
          some (x1.1, x3.1, (⟨0, 0⟩ : Fault))
theorem R_NoteOf_ok (b : List UInt8) (r : Int × List Cell × Fault) (hF : R_NoteOf b = some r) : Pe Try.prog 19 ⟨[], [], [], [], []⟩ [.sl 1 (b.map e_u8)] (.tup [.agg [.i r.1, .row 27 0], .agg [.i r.2.2.Code, .i r.2.2.At]]) ⟨[], [], [(27, .z 96 5 0 (r.2.1.map e_Cell))], [], []⟩ := by
  refine Pe_of (N := 47) (res := [.cell 2 24, .cell 3 31]) (ts := [24, 31]) Ty.ok Fn.b19 Try.func19 rfl rfl rfl rfl rfl rfl ?_
  intro Q g hfin
  unfold R_NoteOf at hF
  refine URs [] [0, 2, 3] [2, 3] [] [] [(2, .ptr 2 0), (3, .ptr 3 0)] [(2, [.i 0, .nils]), (3, [.i 0, .i 0])] [] [] .nil ?_
  refine Wk_seq ?_
  refine ZRs [.nat (b.length : Int)] [0, 2, 3, 11] [2, 3] [] [(11, .bool (decide (60000 < (b.length : Int))))] (.cons (len_ok e_u8 b) .nil) ?_
  refine Wk_split rfl (fun hb => ?_) (fun hb => ?_)
  · have hF := ite_t hF hb
    refine Wk_seq ?_
    obtain ⟨x, h0, hF⟩ := lt_split hF
    refine UR [.callB (.agg [.i x.Code, .i x.At])] [2, 3] [2, 3] [] [] [] [(3, [.i x.Code, .i x.At])] [] [] (.cons (R_F_ok 8 0 x h0) .nil) ?_
    have hF := some_elim hF
    refine Wk_nilrowB 2 1 60000 96 5 rfl rfl rfl rfl rfl ?_
    refine Wk_ren' ⟨[], [(60000, 27)], [], []⟩ rfl ?_
    exact Wk_ret (hfin _ ⟨[27], [], [27], [], [], [], by first | (rw [← hF]; kernel_rfl) | kernel_rfl⟩)
  · have hF := ite_f hF hb
    refine Wk_skip ?_
    refine Wk_seq ?_
    obtain ⟨x1, h1, hF⟩ := ob_elim hF
    refine ZR [.callB (.tup [.i x1.1, .i x1.2])] [0, 2, 3, 4, 5] [2, 3] [] [(4, .i x1.1), (5, .i x1.2)] (.cons (R_NumberAt_ok b x1 h1) .nil) ?_
    refine Wk_seq ?_
    refine ZRs [] [0, 2, 3, 4, 5, 20] [2, 3] [] [(20, .bool (decide (x1.2 = 0)))] .nil ?_
    refine Wk_split rfl (fun hb => ?_) (fun hb => ?_)
    · have hF := ite_t hF hb
      refine Wk_seq ?_
      obtain ⟨x2, h2, hF⟩ := lt_split hF
      refine UR [.callB (.agg [.i x2.Code, .i x2.At])] [2, 3] [2, 3] [] [] [] [(3, [.i x2.Code, .i x2.At])] [] [] (.cons (R_F_ok 5 (-1) x2 h2) .nil) ?_
      have hF := some_elim hF
      refine Wk_nilrowB 2 1 60001 96 5 rfl rfl rfl rfl rfl ?_
      refine Wk_ren' ⟨[], [(60001, 27)], [], []⟩ rfl ?_
      exact Wk_ret (hfin _ ⟨[27], [], [27], [], [], [], by first | (rw [← hF]; kernel_rfl) | kernel_rfl⟩)
    · have hF := ite_f hF hb
      refine Wk_skip ?_
      refine Wk_seq ?_
      obtain ⟨h3, hF⟩ := asrt_elim hF
      obtain ⟨x3, h4, hF⟩ := ob_elim hF
      refine UR [.xs ((ldrop b x1.2).map e_u8), .callE [] [] [] [] (.tup [.row 27 0, .agg [.i x3.2.Code, .i x3.2.At]]) ⟨[], [], [(27, .z 96 5 0 (x3.1.map e_Cell))], [], []⟩] [2, 3, 4, 6, 7] [2, 3, 7] [27] [] [(6, .row 27 0), (7, .ptr 7 0)] [(7, [.i x3.2.Code, .i x3.2.At])] [(27, .z 96 5 0 (x3.1.map e_Cell))] [] (.cons (sl10_ok e_u8 h3) (.cons (Pe.ren (R_CellsOf_ok (ldrop b x1.2) x3 h4) ⟨[], [(28, 27)], [], []⟩) .nil)) ?_
      refine Wk_seq ?_
      refine ZRs [] [2, 3, 4, 6, 7, 32] [2, 3, 7] [27] [(32, .bool (!decide (x3.2.Code = 0)))] .nil ?_
      refine Wk_split rfl (fun hb => ?_) (fun hb => ?_)
      · have hF := ite_t hF hb
        refine UDs [] [2, 3] [2, 3] [] [] [] [(3, [.i x3.2.Code, .i x3.2.At])] [] [] .nil ?_
        have hF := some_elim hF
        refine Wk_nilrowB 2 1 60002 96 5 rfl rfl rfl rfl rfl ?_
        refine Wk_ren' ⟨[], [(60002, 27)], [], []⟩ rfl ?_
        exact Wk_ret (hfin _ ⟨[27], [], [27], [], [], [], by first | (rw [← hF]; kernel_rfl) | kernel_rfl⟩)
      · have hF := ite_f hF hb
        refine Wk_skip ?_
        refine URs [] [2, 3, 7, 8] [2, 3, 7, 8] [27] [] [(8, .ptr 8 0)] [(8, [.i x1.1, .row 27 0])] [] [] .nil ?_
        refine Wk_seq ?_
        obtain ⟨x4, h5, hF⟩ := ob_elim hF
        refine UR [.callB (.agg [.i x4.Code, .i x4.At])] [2, 3, 7, 8] [2, 3, 7, 8] [27] [] [] [(7, [.i x4.Code, .i x4.At])] [] [] (.cons (R_NoteFault_ok (⟨x1.1, x3.1⟩ : Note) x4 h5) .nil) ?_
        refine Wk_seq ?_
        refine ZRs [] [2, 3, 7, 8, 42] [2, 3, 7, 8] [27] [(42, .bool (!decide (x4.Code = 0)))] .nil ?_
        refine Wk_split rfl (fun hb => ?_) (fun hb => ?_)
        · have hF := ite_t hF hb
          refine UDs [] [2, 3] [2, 3] [] [] [] [(3, [.i x4.Code, .i x4.At])] [] [] .nil ?_
          have hF := some_elim hF
          refine Wk_nilrowB 2 1 60003 96 5 rfl rfl rfl rfl rfl ?_
          refine Wk_ren' ⟨[], [(60003, 27)], [], []⟩ rfl ?_
          exact Wk_ret (hfin _ ⟨[27], [], [27], [], [], [], by first | (rw [← hF]; kernel_rfl) | kernel_rfl⟩)
        · have hF := ite_f hF hb
          refine Wk_skip ?_
          refine URs [] [2, 3] [2, 3] [27] [] [] [(2, [.i x1.1, .row 27 0])] [] [] .nil ?_
          have hF := some_elim hF
          exact Wk_ret (hfin _ ⟨[27], [], [27], [], [], [], by first | (rw [← hF]; kernel_rfl) | kernel_rfl⟩)

/- tabularyref.Logged -/
noncomputable def R_Logged_v1_J1 (v : List Note × Int) : Option (List Note × Int) :=
  some (v.1, v.2)
noncomputable def R_Logged_v1_B1 (x : List (List UInt8) × Int) (v1 : List Note × Int × Int) : Option ((List Note × Int × Int) ⊕ (List Note × Int)) :=
  if (decide (v1.2.2 < (x.1.length : Int))) = true then
    asrt (0 ≤ v1.2.2 ∧ v1.2.2 < (x.1.length : Int)) <|
    asrt (0 ≤ v1.2.2 ∧ v1.2.2 < (x.1.length : Int)) <|
    ob (R_NoteOf (lget x.1 v1.2.2)) fun x1 =>
    asrt ((decide (0 < v1.2.2)) = true → (!(!decide (x1.2.2.Code = 0))) = true → 0 ≤ w64 (v1.2.2 - 1) ∧ w64 (v1.2.2 - 1) < (v1.1.length : Int)) <|
    asrt ((decide (0 < v1.2.2)) = true → (!(!decide (x1.2.2.Code = 0))) = true → 0 ≤ w64 (v1.2.2 - 1) ∧ w64 (v1.2.2 - 1) < (v1.1.length : Int)) <|
    if ((!decide (x1.2.2.Code = 0)) || ((decide (0 < v1.2.2)) && (!decide ((w64 (x1.1 - 1)) = ((lget v1.1 (w64 (v1.2.2 - 1))).Seq))))) = true then
      inrO (R_Logged_v1_J1 (v1.1, v1.2.1))
    else
      asrt (((v1.1 ++ [(⟨x1.1, x1.2.1⟩ : Note)]).length : Int) * 32 ≤ 140737488351232) <|
      asrt (0 ≤ v1.2.2 ∧ v1.2.2 < (x.1.length : Int)) <|
      asrt (0 ≤ v1.2.2 ∧ v1.2.2 < (x.1.length : Int)) <|
      some (Sum.inl ((v1.1 ++ [(⟨x1.1, x1.2.1⟩ : Note)]), w64 ((w64 (v1.2.1 + 6)) + ((lget x.1 v1.2.2).length : Int)), w64 (v1.2.2 + 1)))
  else
    inrO (R_Logged_v1_J1 (v1.1, v1.2.1))
noncomputable def R_Logged_v1_L1 (x : List (List UInt8) × Int) (v0 : List Note × Int × Int) : Option (List Note × Int) :=
  loopO (fun y => R_Logged_v1_B1 x y) v0
noncomputable def R_Logged_v1 (b : List UInt8) : Option (List Note × Int) :=
  ob (R_Unframed b) fun x =>
  R_Logged_v1_L1 x (([] : List Note), 0, 0)
theorem R_Logged_v1_ok (b : List UInt8) (r : List Note × Int) (hF : R_Logged_v1 b = some r) : Pe Try.prog 46 S.none [.sl 1 (b.map e_u8)] (.tup [.sl 2 (r.1.map e_Note), .i r.2]) S.none := by
  refine Pe_of (N := 63) (res := [.tmp 2, .tmp 3]) (ts := [56, 3]) Ty.ok Fn.b46 Try.func46 rfl rfl rfl rfl rfl rfl ?_
  intro Q g hfin
  unfold R_Logged_v1 at hF
  refine ZRs [] [0] [] [] [] .nil ?_
  refine Wk_seq ?_
  obtain ⟨x, h0, hF⟩ := ob_elim hF
  refine UR [.callE [] [] [] [] (.tup [.row 13 0, .i x.2]) ⟨[], [], [(13, .z 25 1 0 (x.1.map e_L_u8))], [], []⟩] [4] [] [13] [] [(4, .row 13 0)] [] [(13, .z 25 1 0 (x.1.map e_L_u8))] [] (.cons (Pe.ren (R_Unframed_ok b x h0) ⟨[], [(56, 13)], [], []⟩) .nil) ?_
  refine ZRs [] [4, 6] [] [13] [(6, .nils)] .nil ?_
  refine ZRs [] [4, 6, 7] [] [13] [(7, .i 0)] .nil ?_
  refine Wk_seq ?_
  refine ZRs [] [4, 6, 7, 8] [] [13] [(8, .i 0)] .nil ?_
  refine Wk_meetP (fun v : List Note × Int => (⟨[(6, .row 52 0), (7, .i v.2)], [], [(52, .z 24 2 0 (v.1.map e_Note))], [], []⟩ : S)) (fun v => R_Logged_v1_J1 v = some r) ?_ ?_
  · refine Wk_block ?_
    unfold R_Logged_v1_L1 at hF
    refine Wk_nilrow 6 60000 24 2 rfl rfl rfl ?_
    refine Wk_trim (fs := [4, 6, 7, 8]) (bs := []) (rs := [13, 60000]) (ms := []) (aa := []) (nv := []) rfl ?_
    refine Wk_ren' ⟨[], [(60000, 52)], [], []⟩ rfl ?_
    refine Wk_trim (fs := [4, 6, 7, 8]) (bs := []) (rs := [13, 52]) (ms := []) (aa := []) (nv := []) (t := (fun v1 : List Note × Int × Int => (⟨[(4, .row 13 0), (6, .row 52 0), (7, .i v1.2.1), (8, .i v1.2.2)], [], [(13, .z 25 1 0 (x.1.map e_L_u8)), (52, .z 24 2 0 (v1.1.map e_Note))], [], []⟩ : S)) (([] : List Note), 0, 0)) (by kernel_rfl) ?_
    refine Wk_iter (step := fun y => R_Logged_v1_B1 x y) (r := r) (fun v1 : List Note × Int × Int => (⟨[(4, .row 13 0), (6, .row 52 0), (7, .i v1.2.1), (8, .i v1.2.2)], [], [(13, .z 25 1 0 (x.1.map e_L_u8)), (52, .z 24 2 0 (v1.1.map e_Note))], [], []⟩ : S)) (([] : List Note), 0, 0) hF ?_
    intro n1 v1 y1 hF ih1 dn1
    have hF : R_Logged_v1_B1 x v1 = some y1 := hF
    unfold R_Logged_v1_B1 at hF
    refine Wk_seq ?_
    refine ZRs [.nat (x.1.length : Int)] [4, 6, 7, 8, 19] [] [13, 52] [(19, .bool (decide (v1.2.2 < (x.1.length : Int))))] (.cons (len_ok e_L_u8 x.1) .nil) ?_
    refine Wk_split rfl (fun hb => ?_) (fun hb => ?_)
    · have hF := ite_t hF hb
      refine Wk_skip ?_
      refine Wk_seq ?_
      refine Wk_block ?_
      refine Wk_seq ?_
      obtain ⟨h1, hF⟩ := asrt_elim hF
      obtain ⟨h2, hF⟩ := asrt_elim hF
      obtain ⟨x1, h3, hF⟩ := ob_elim hF
      refine UR [.av (e_L_u8 (lget x.1 v1.2.2)), .callE [] [] [] [] (.tup [.agg [.i x1.1, .row 27 0], .agg [.i x1.2.2.Code, .i x1.2.2.At]]) ⟨[], [], [(27, .z 96 5 0 (x1.2.1.map e_Cell))], [], []⟩] [4, 6, 7, 8, 9, 10] [9, 10] [13, 27, 52] [] [(9, .ptr 9 0), (10, .ptr 10 0)] [(9, [.i x1.1, .row 27 0]), (10, [.i x1.2.2.Code, .i x1.2.2.At])] [(27, .z 96 5 0 (x1.2.1.map e_Cell))] [] (.cons (ixr_ok e_L_u8 h1) (.cons (ldr_ok e_L_u8 h2) (.cons (Pe.ren (R_NoteOf_ok (lget x.1 v1.2.2) x1 h3) ⟨[], [], [], []⟩) .nil))) ?_
      refine Wk_seq ?_
      refine Wk_seq ?_
      obtain ⟨h4, hF⟩ := asrt_elim hF
      obtain ⟨h5, hF⟩ := asrt_elim hF
      refine ZD [.av (e_Note (lget v1.1 (w64 (v1.2.2 - 1))))] [4, 6, 7, 8, 9, 48] [9] [13, 27, 52] [(48, .bool ((!decide (x1.2.2.Code = 0)) || ((decide (0 < v1.2.2)) && (!decide ((w64 (x1.1 - 1)) = ((lget v1.1 (w64 (v1.2.2 - 1))).Seq))))))] (.cons (fun (ga0 : (decide (0 < v1.2.2)) = true) (ga1 : (!(!decide (x1.2.2.Code = 0))) = true) => (ixr_ok e_Note (h4 ga0 ga1))) (.cons (fun (ga0 : (decide (0 < v1.2.2)) = true) (ga1 : (!(!decide (x1.2.2.Code = 0))) = true) => (ldr_ok e_Note (h5 ga0 ga1))) .nil)) ?_
      refine Wk_split rfl (fun hb => ?_) (fun hb => ?_)
      · have hF := ite_t hF hb
        refine Wk_exit rfl ?_
        have hF := inrO_done hF dn1
        exact Wk_metP (v1.1, v1.2.1) [6, 7] [] [52] [] [] [] hF (by kernel_rfl)
      · have hF := ite_f hF hb
        refine Wk_skip ?_
        refine Wk_seq ?_
        obtain ⟨h6, hF⟩ := asrt_elim hF
        refine UR [.sealed, .xs ((v1.1 ++ [(⟨x1.1, x1.2.1⟩ : Note)]).map e_Note)] [4, 6, 7, 8] [] [13, 52] [] [(6, .row 52 1)] [] [(52, ⟨24, 2, 1, 0, 0, true, 0, [], ((v1.1 ++ [(⟨x1.1, x1.2.1⟩ : Note)]).map e_Note)⟩)] [] (.cons (app_ok e_Note v1.1 [(⟨x1.1, x1.2.1⟩ : Note)]) (.cons (appl_ok e_Note h6) .nil)) ?_
        obtain ⟨h7, hF⟩ := asrt_elim hF
        obtain ⟨h8, hF⟩ := asrt_elim hF
        refine ZR [.av (e_L_u8 (lget x.1 v1.2.2)), .nat ((lget x.1 v1.2.2).length : Int)] [4, 6, 7, 8] [] [13, 52] [(7, .i (w64 ((w64 (v1.2.1 + 6)) + ((lget x.1 v1.2.2).length : Int))))] (.cons (ixr_ok e_L_u8 h7) (.cons (ldr_ok e_L_u8 h8) (.cons (len_ok e_u8 (lget x.1 v1.2.2)) .nil))) ?_
        refine Wk_blk ?_
        refine ZR [] [4, 6, 7, 8] [] [13, 52] [(8, .i (w64 (v1.2.2 + 1)))] .nil ?_
        refine Wk_trim (fs := [4, 6, 7, 8]) (bs := []) (rs := [13, 52]) (ms := []) (aa := []) (nv := [(52, ⟨0, true, true, false⟩)]) ?_ (ih1 _ (some_elim hF).symm)
        kernel_rfl
    · have hF := ite_f hF hb
      refine Wk_exit rfl ?_
      have hF := inrO_done hF dn1
      exact Wk_metP (v1.1, v1.2.1) [6, 7] [] [52] [] [] [] hF (by kernel_rfl)
  · intro v hF
    have hF : R_Logged_v1_J1 v = some r := hF
    unfold R_Logged_v1_J1 at hF
    refine ZRs [] [2, 3] [] [52] [(2, .row 52 0), (3, .i v.2)] .nil ?_
    have hF := some_elim hF
    exact Wk_ret (hfin _ ⟨[], [], [], [], [], [], by first | (rw [← hF]; kernel_rfl) | kernel_rfl⟩)

/- tabularyref.Written -/
noncomputable def R_Written (s0 : List UInt8) : Option (List UInt8) :=
  ob (R_Number (s0.length : Int)) fun x =>
  asrt (((x ++ s0).length : Int) * 1 ≤ 140737488351232) <|
  some (x ++ s0)
theorem R_Written_ok (s0 : List UInt8) (r : List UInt8) (hF : R_Written s0 = some r) : Pe Try.prog 84 ⟨[], [], [], [], []⟩ [.str s0] (.row 5 1) ⟨[], [], [(5, .z 5 1 1 (r.map e_u8))], [], []⟩ := by
  refine Pe_of (N := 8) (res := [.tmp 2]) (ts := [25]) Ty.ok Fn.b84 Try.func84 rfl rfl rfl rfl rfl rfl ?_
  intro Q g hfin
  unfold R_Written at hF
  refine ZRs [] [0] [] [] [] .nil ?_
  refine Wk_seq ?_
  obtain ⟨x, h0, hF⟩ := ob_elim hF
  obtain ⟨h1, hF⟩ := asrt_elim hF
  refine UR [.callE [] [] [] [] (.row 5 0) ⟨[], [], [(5, .z 5 1 0 (x.map e_u8))], [], []⟩, .xs ((x ++ s0).map e_u8)] [2] [] [5] [] [(2, .row 5 1)] [] [(5, .z 5 1 1 ((x ++ s0).map e_u8))] [] (.cons (Pe.ren (R_Number_ok (s0.length : Int) x h0) ⟨[], [(7, 5)], [], []⟩) (.cons (app_ok e_u8 x s0) (.cons (appl_ok e_u8 h1) .nil))) ?_
  have hF := some_elim hF
  exact Wk_ret (hfin _ ⟨[5], [], [5], [], [], [], by first | (rw [← hF]; kernel_rfl) | kernel_rfl⟩)

/- tabularyref.CellBytes -/
noncomputable def R_CellBytes (c : Cell) : Option (List UInt8) :=
  ob (R_Written c.Row) fun x =>
  ob (R_Written c.Col) fun x1 =>
  asrt (((x ++ x1).length : Int) * 1 ≤ 140737488351232) <|
  ob (R_Number c.Time) fun x2 =>
  asrt ((((x ++ x1) ++ x2).length : Int) * 1 ≤ 140737488351232) <|
  ob (
    if c.Gone = true then
      asrt (((((x ++ x1) ++ x2) ++ ([(1 : UInt8)] : List UInt8)).length : Int) * 1 ≤ 140737488351232) <|
      some (c, (((x ++ x1) ++ x2) ++ ([(1 : UInt8)] : List UInt8)))
    else
      asrt (((((x ++ x1) ++ x2) ++ ([(0 : UInt8)] : List UInt8)).length : Int) * 1 ≤ 140737488351232) <|
      some (c, (((x ++ x1) ++ x2) ++ ([(0 : UInt8)] : List UInt8)))) fun (v : Cell × List UInt8) =>
  ob (R_Written v.1.Value) fun x3 =>
  asrt (((v.2 ++ x3).length : Int) * 1 ≤ 140737488351232) <|
  some (v.2 ++ x3)
theorem R_CellBytes_ok (c : Cell) (r : List UInt8) (hF : R_CellBytes c = some r) : Pe Try.prog 73 ⟨[], [], [], [], []⟩ [.agg (c_Cell c)] (.row 6 5) ⟨[], [], [(6, .z 5 1 5 (r.map e_u8))], [], []⟩ := by
  refine Pe_of (N := 29) (res := [.tmp 2]) (ts := [25]) Ty.ok Fn.b73 Try.func73 rfl rfl rfl rfl rfl rfl ?_
  intro Q g hfin
  unfold R_CellBytes at hF
  refine URs [] [1] [1] [] [] [(1, .ptr 1 0)] [(1, (c_Cell c))] [] [] .nil ?_
  refine Wk_seq ?_
  obtain ⟨x, h0, hF⟩ := ob_elim hF
  obtain ⟨x1, h1, hF⟩ := ob_elim hF
  obtain ⟨h2, hF⟩ := asrt_elim hF
  refine UD [.callE [] [] [] [] (.row 6 1) ⟨[], [], [(6, .z 5 1 1 (x.map e_u8))], [], []⟩, .callE [] [] [] [] (.row 9 1) ⟨[], [], [(9, .z 5 1 1 (x1.map e_u8))], [], []⟩, .xs ((x ++ x1).map e_u8)] [1, 3] [1] [6] [] [(3, .row 6 2)] [] [(6, .z 5 1 2 ((x ++ x1).map e_u8))] [] (.cons (Pe.ren (R_Written_ok c.Row x h0) ⟨[], [(5, 6)], [], []⟩) (.cons (Pe.ren (R_Written_ok c.Col x1 h1) ⟨[], [(5, 9)], [], []⟩) (.cons (app_ok e_u8 x x1) (.cons (appl_ok e_u8 h2) .nil)))) ?_
  refine Wk_seq ?_
  obtain ⟨x2, h3, hF⟩ := ob_elim hF
  obtain ⟨h4, hF⟩ := asrt_elim hF
  refine UR [.callE [] [] [] [] (.row 14 0) ⟨[], [], [(14, .z 5 1 0 (x2.map e_u8))], [], []⟩, .xs (((x ++ x1) ++ x2).map e_u8)] [1, 3] [1] [6] [] [(3, .row 6 3)] [] [(6, .z 5 1 3 (((x ++ x1) ++ x2).map e_u8))] [] (.cons (Pe.ren (R_Number_ok c.Time x2 h3) ⟨[], [(7, 14)], [], []⟩) (.cons (app_ok e_u8 (x ++ x1) x2) (.cons (appl_ok e_u8 h4) .nil))) ?_
  refine Wk_seq ?_
  refine ZRs [] [1, 3, 17] [1] [6] [(17, .bool c.Gone)] .nil ?_
  obtain ⟨v, hv, hF⟩ := ob_elim hF
  refine Wk_meet (⟨[(1, .ptr 1 0), (3, .row 6 4)], [(1, (c_Cell v.1))], [(6, .z 5 1 4 (v.2.map e_u8))], [], []⟩ : S) ?_ ?_
  · have hF := hv
    refine Wk_split rfl (fun hb => ?_) (fun hb => ?_)
    · have hF := ite_t hF hb
      obtain ⟨h5, hF⟩ := asrt_elim hF
      refine UR [.sealed, .xs ((((x ++ x1) ++ x2) ++ ([(1 : UInt8)] : List UInt8)).map e_u8)] [1, 3] [1] [6] [] [(3, .row 6 4)] [] [(6, .z 5 1 4 ((((x ++ x1) ++ x2) ++ ([(1 : UInt8)] : List UInt8)).map e_u8))] [] (.cons (app_ok e_u8 ((x ++ x1) ++ x2) ([(1 : UInt8)] : List UInt8)) (.cons (appl_ok e_u8 h5) .nil)) ?_
      exact Wk_met (fs := [1, 3]) (bs := [1]) (rs := [6]) (ms := []) (aa := []) (nv := []) (by first | (rw [← some_elim hF]; kernel_rfl) | kernel_rfl)
    · have hF := ite_f hF hb
      obtain ⟨h6, hF⟩ := asrt_elim hF
      refine UR [.sealed, .xs ((((x ++ x1) ++ x2) ++ ([(0 : UInt8)] : List UInt8)).map e_u8)] [1, 3] [1] [6] [] [(3, .row 6 4)] [] [(6, .z 5 1 4 ((((x ++ x1) ++ x2) ++ ([(0 : UInt8)] : List UInt8)).map e_u8))] [] (.cons (app_ok e_u8 ((x ++ x1) ++ x2) ([(0 : UInt8)] : List UInt8)) (.cons (appl_ok e_u8 h6) .nil)) ?_
      exact Wk_met (fs := [1, 3]) (bs := [1]) (rs := [6]) (ms := []) (aa := []) (nv := []) (by first | (rw [← some_elim hF]; kernel_rfl) | kernel_rfl)
  · refine Wk_seq ?_
    obtain ⟨x3, h7, hF⟩ := ob_elim hF
    obtain ⟨h8, hF⟩ := asrt_elim hF
    refine UR [.callE [] [] [] [] (.row 27 1) ⟨[], [], [(27, .z 5 1 1 (x3.map e_u8))], [], []⟩, .xs ((v.2 ++ x3).map e_u8)] [2] [] [6] [] [(2, .row 6 5)] [] [(6, .z 5 1 5 ((v.2 ++ x3).map e_u8))] [] (.cons (Pe.ren (R_Written_ok v.1.Value x3 h7) ⟨[], [(5, 27)], [], []⟩) (.cons (app_ok e_u8 v.2 x3) (.cons (appl_ok e_u8 h8) .nil))) ?_
    have hF := some_elim hF
    exact Wk_ret (hfin _ ⟨[6], [], [6], [], [], [], by first | (rw [← hF]; kernel_rfl) | kernel_rfl⟩)

/- tabularyref.NoteBytes -/
noncomputable def R_NoteBytes_v1_J1 (v : List UInt8) : Option (List UInt8) :=
  some v
noncomputable def R_NoteBytes_v1_B1 (v1 : Note × List UInt8 × Int) : Option ((Note × List UInt8 × Int) ⊕ (List UInt8)) :=
  if (decide (v1.2.2 < (v1.1.Cells.length : Int))) = true then
    asrt (0 ≤ v1.2.2 ∧ v1.2.2 < (v1.1.Cells.length : Int)) <|
    ob (R_CellBytes (⟨(lget v1.1.Cells v1.2.2).Row, (lget v1.1.Cells v1.2.2).Col, (lget v1.1.Cells v1.2.2).Time, (lget v1.1.Cells v1.2.2).Gone, (lget v1.1.Cells v1.2.2).Value⟩ : Cell)) fun x1 =>
    asrt (((v1.2.1 ++ x1).length : Int) * 1 ≤ 140737488351232) <|
    some (Sum.inl (v1.1, (v1.2.1 ++ x1), w64 (v1.2.2 + 1)))
  else
    inrO (R_NoteBytes_v1_J1 v1.2.1)
noncomputable def R_NoteBytes_v1_L1 (v0 : Note × List UInt8 × Int) : Option (List UInt8) :=
  loopO (fun y => R_NoteBytes_v1_B1 y) v0
noncomputable def R_NoteBytes_v1 (num : Note) : Option (List UInt8) :=
  ob (R_Number num.Seq) fun x =>
  R_NoteBytes_v1_L1 (num, x, 0)
theorem R_NoteBytes_v1_ok (num : Note) (r : List UInt8) (hF : R_NoteBytes_v1 num = some r) : Pe Try.prog 23 S.none [.agg [.i num.Seq, .sl 5 (num.Cells.map e_Cell)]] (.sl 1 (r.map e_u8)) S.none := by
  refine Pe_of (N := 24) (res := [.tmp 2]) (ts := [25]) Ty.ok Fn.b23 Try.func23 rfl rfl rfl rfl rfl rfl ?_
  intro Q g hfin
  unfold R_NoteBytes_v1 at hF
  refine URs [] [1] [1] [] [] [(1, .ptr 1 0)] [(1, [.i num.Seq, .sl 5 (num.Cells.map e_Cell)])] [] [] .nil ?_
  refine Wk_seq ?_
  obtain ⟨x, h0, hF⟩ := ob_elim hF
  refine UR [.callE [] [] [] [] (.row 7 0) ⟨[], [], [(7, .z 5 1 0 (x.map e_u8))], [], []⟩] [1, 3] [1] [7] [] [(3, .row 7 0)] [] [(7, .z 5 1 0 (x.map e_u8))] [] (.cons (Pe.ren (R_Number_ok num.Seq x h0) ⟨[], [], [], []⟩) .nil) ?_
  refine Wk_seq ?_
  refine ZRs [] [1, 3, 4] [1] [7] [(4, .i 0)] .nil ?_
  refine Wk_meetP (fun v : List UInt8 => (⟨[(3, .row 7 0)], [], [(7, .z 5 1 0 (v.map e_u8))], [], []⟩ : S)) (fun v => R_NoteBytes_v1_J1 v = some r) ?_ ?_
  · refine Wk_block ?_
    unfold R_NoteBytes_v1_L1 at hF
    refine Wk_trim (fs := [1, 3, 4]) (bs := [1]) (rs := [7]) (ms := []) (aa := []) (nv := []) (t := (fun v1 : Note × List UInt8 × Int => (⟨[(1, .ptr 1 0), (3, .row 7 0), (4, .i v1.2.2)], [(1, [.i v1.1.Seq, .sl 5 (v1.1.Cells.map e_Cell)])], [(7, .z 5 1 0 (v1.2.1.map e_u8))], [], []⟩ : S)) (num, x, 0)) (by kernel_rfl) ?_
    refine Wk_iter (step := fun y => R_NoteBytes_v1_B1 y) (r := r) (fun v1 : Note × List UInt8 × Int => (⟨[(1, .ptr 1 0), (3, .row 7 0), (4, .i v1.2.2)], [(1, [.i v1.1.Seq, .sl 5 (v1.1.Cells.map e_Cell)])], [(7, .z 5 1 0 (v1.2.1.map e_u8))], [], []⟩ : S)) (num, x, 0) hF ?_
    intro n1 v1 y1 hF ih1 dn1
    have hF : R_NoteBytes_v1_B1 v1 = some y1 := hF
    unfold R_NoteBytes_v1_B1 at hF
    refine Wk_seq ?_
    refine ZRs [.nat (v1.1.Cells.length : Int)] [1, 3, 4, 12] [1] [7] [(12, .bool (decide (v1.2.2 < (v1.1.Cells.length : Int))))] (.cons (len_ok e_Cell v1.1.Cells) .nil) ?_
    refine Wk_split rfl (fun hb => ?_) (fun hb => ?_)
    · have hF := ite_t hF hb
      refine Wk_skip ?_
      refine Wk_seq ?_
      refine Wk_block ?_
      obtain ⟨h1, hF⟩ := asrt_elim hF
      obtain ⟨x1, h2, hF⟩ := ob_elim hF
      obtain ⟨h3, hF⟩ := asrt_elim hF
      refine UR [.av (e_Cell (lget v1.1.Cells v1.2.2)), .callE [] [] [] [] (.row 21 5) ⟨[], [], [(21, .z 5 1 5 (x1.map e_u8))], [], []⟩, .xs ((v1.2.1 ++ x1).map e_u8)] [1, 3, 4] [1] [7] [] [(3, .row 7 1)] [] [(7, .z 5 1 1 ((v1.2.1 ++ x1).map e_u8))] [] (.cons (idx_ok e_Cell h1) (.cons (Pe.ren (R_CellBytes_ok (⟨(lget v1.1.Cells v1.2.2).Row, (lget v1.1.Cells v1.2.2).Col, (lget v1.1.Cells v1.2.2).Time, (lget v1.1.Cells v1.2.2).Gone, (lget v1.1.Cells v1.2.2).Value⟩ : Cell) x1 h2) ⟨[], [(6, 21)], [], []⟩) (.cons (app_ok e_u8 v1.2.1 x1) (.cons (appl_ok e_u8 h3) .nil)))) ?_
      refine Wk_blk ?_
      refine ZR [] [1, 3, 4] [1] [7] [(4, .i (w64 (v1.2.2 + 1)))] .nil ?_
      refine Wk_trim (fs := [1, 3, 4]) (bs := [1]) (rs := [7]) (ms := []) (aa := []) (nv := [(7, ⟨0, true, true, false⟩)]) ?_ (ih1 _ (some_elim hF).symm)
      kernel_rfl
    · have hF := ite_f hF hb
      refine Wk_exit rfl ?_
      have hF := inrO_done hF dn1
      exact Wk_metP v1.2.1 [3] [] [7] [] [] [] hF (by kernel_rfl)
  · intro v hF
    have hF : R_NoteBytes_v1_J1 v = some r := hF
    unfold R_NoteBytes_v1_J1 at hF
    refine ZRs [] [2] [] [7] [(2, .row 7 0)] .nil ?_
    have hF := some_elim hF
    exact Wk_ret (hfin _ ⟨[], [], [], [], [], [], by first | (rw [← hF]; kernel_rfl) | kernel_rfl⟩)

/- tabularyref.Framed -/
noncomputable def R_Framed_v1 (body : List UInt8) : Option (List UInt8) :=
  asrt (((([toU8 (w64 (Int.tdiv (body.length : Int) 256)), toU8 (Int.tmod (body.length : Int) 256)] : List UInt8) ++ body).length : Int) * 1 ≤ 140737488351232) <|
  lt ((([toU8 (w64 (Int.tdiv (body.length : Int) 256)), toU8 (Int.tmod (body.length : Int) 256)] : List UInt8) ++ body)) fun (v : List UInt8) =>
  ob (R_Rest v) fun x =>
  asrt (((v ++ ([toU8 (IntKind.u32.wrap (Int.tdiv x 16777216)), toU8 (Int.tmod (IntKind.u32.wrap (Int.tdiv x 65536)) 256), toU8 (Int.tmod (IntKind.u32.wrap (Int.tdiv x 256)) 256), toU8 (Int.tmod x 256)] : List UInt8)).length : Int) * 1 ≤ 140737488351232) <|
  lt ((v ++ ([toU8 (IntKind.u32.wrap (Int.tdiv x 16777216)), toU8 (Int.tmod (IntKind.u32.wrap (Int.tdiv x 65536)) 256), toU8 (Int.tmod (IntKind.u32.wrap (Int.tdiv x 256)) 256), toU8 (Int.tmod x 256)] : List UInt8))) fun (v1 : List UInt8) =>
  some v1
theorem R_Framed_v1_ok (body : List UInt8) (r : List UInt8) (hF : R_Framed_v1 body = some r) : Pe Try.prog 47 S.none [.sl 1 (body.map e_u8)] (.sl 1 (r.map e_u8)) S.none := by
  refine Pe_of (N := 35) (res := [.tmp 2]) (ts := [25]) Ty.ok Fn.b47 Try.func47 rfl rfl rfl rfl rfl rfl ?_
  intro Q g hfin
  unfold R_Framed_v1 at hF
  refine ZRs [] [0] [] [] [] .nil ?_
  refine Wk_seq ?_
  obtain ⟨h0, hF⟩ := asrt_elim hF
  refine WRL ((([toU8 (w64 (Int.tdiv (body.length : Int) 256)), toU8 (Int.tmod (body.length : Int) 256)] : List UInt8) ++ body)) (fun v : List UInt8 => ⟨[(3, .row 13 1)], [], [(13, .z 5 1 1 (v.map e_u8))], [], []⟩) [.nat (body.length : Int), .nat (body.length : Int), .xs ((([toU8 (w64 (Int.tdiv (body.length : Int) 256)), toU8 (Int.tmod (body.length : Int) 256)] : List UInt8) ++ body).map e_u8)] [3] [] [13] [] [] [] (.cons (len_ok e_u8 body) (.cons (by decide : (256 : Int) ≠ 0) (.cons (len_ok e_u8 body) (.cons (by decide : (256 : Int) ≠ 0) (.cons (app_ok e_u8 ([toU8 (w64 (Int.tdiv (body.length : Int) 256)), toU8 (Int.tmod (body.length : Int) 256)] : List UInt8) body) (.cons (appl_ok e_u8 h0) .nil)))))) (by kernel_rfl) (fun v hv => ?_)
  have hF := lt_elim hF hv
  refine Wk_seq ?_
  obtain ⟨x, h1, hF⟩ := ob_elim hF
  refine ZR [.callB (.int .u32 x)] [3, 4] [] [13] [(4, .int .u32 x)] (.cons (R_Rest_ok v x h1) .nil) ?_
  refine Wk_seq ?_
  obtain ⟨h2, hF⟩ := asrt_elim hF
  refine WRL ((v ++ ([toU8 (IntKind.u32.wrap (Int.tdiv x 16777216)), toU8 (Int.tmod (IntKind.u32.wrap (Int.tdiv x 65536)) 256), toU8 (Int.tmod (IntKind.u32.wrap (Int.tdiv x 256)) 256), toU8 (Int.tmod x 256)] : List UInt8))) (fun v1 : List UInt8 => ⟨[(2, .row 13 2)], [], [(13, .z 5 1 2 (v1.map e_u8))], [], []⟩) [.sealed, .xs ((v ++ ([toU8 (IntKind.u32.wrap (Int.tdiv x 16777216)), toU8 (Int.tmod (IntKind.u32.wrap (Int.tdiv x 65536)) 256), toU8 (Int.tmod (IntKind.u32.wrap (Int.tdiv x 256)) 256), toU8 (Int.tmod x 256)] : List UInt8)).map e_u8)] [2] [] [13] [] [] [] (.cons (by decide : (16777216 : Int) ≠ 0) (.cons (by decide : (65536 : Int) ≠ 0) (.cons (by decide : (256 : Int) ≠ 0) (.cons (by decide : (256 : Int) ≠ 0) (.cons (by decide : (256 : Int) ≠ 0) (.cons (by decide : (256 : Int) ≠ 0) (.cons (app_ok e_u8 v ([toU8 (IntKind.u32.wrap (Int.tdiv x 16777216)), toU8 (Int.tmod (IntKind.u32.wrap (Int.tdiv x 65536)) 256), toU8 (Int.tmod (IntKind.u32.wrap (Int.tdiv x 256)) 256), toU8 (Int.tmod x 256)] : List UInt8)) (.cons (appl_ok e_u8 h2) .nil)))))))) (by kernel_rfl) (fun v1 hv => ?_)
  have hF := lt_elim hF hv
  have hF := some_elim hF
  exact Wk_ret (hfin _ ⟨[], [], [], [], [], [], by first | (rw [← hF]; kernel_rfl) | kernel_rfl⟩)

/- tabularylaw.WalLogs$1 -/
noncomputable def law_WalLogs_1_v1 (box : Disk) (box1 : List UInt8) : Option Disk :=
  ob (law_ownBytes box.Bytes) fun x =>
  asrt (((x ++ box1).length : Int) * 1 ≤ 140737488351232) <|
  some (⟨(x ++ box1), box.Kept⟩ : Disk)
theorem law_WalLogs_1_v1_ok (box : Disk) (box1 : List UInt8) (r : Disk) (hF : law_WalLogs_1_v1 box box1 = some r) : Pe Try.prog 49 ⟨[], [(100000, [.sl 1 (box.Bytes.map e_u8), .i box.Kept]), (100001, [.sl 1 (box1.map e_u8)])], [], [], []⟩ [.ptr 100000 0, .ptr 100001 0] (.agg [.sl 1 (r.Bytes.map e_u8), .i r.Kept]) ⟨[], [(100000, [.sl 1 (box.Bytes.map e_u8), .i box.Kept]), (100001, [.sl 1 (box1.map e_u8)])], [], [], []⟩ := by
  refine Pe_of (N := 11) (res := [.cell 2 66]) (ts := [66]) Ty.ok Fn.b49 Try.func49 rfl rfl rfl rfl rfl rfl ?_
  intro Q g hfin
  unfold law_WalLogs_1_v1 at hF
  refine URs [] [0, 1, 2] [2, 100000, 100001] [] [] [(2, .ptr 2 0)] [(2, [.nils, .i 0])] [] [] .nil ?_
  refine Wk_seq ?_
  obtain ⟨x, h0, hF⟩ := ob_elim hF
  obtain ⟨h1, hF⟩ := asrt_elim hF
  refine UD [.callE [] [] [] [] (.row 5 1) ⟨[], [], [(5, .z 5 1 1 (x.map e_u8))], [], []⟩, .xs ((x ++ box1).map e_u8)] [2] [2, 100000, 100001] [5] [] [] [(2, [.row 5 2, .i box.Kept])] [(5, .z 5 1 2 ((x ++ box1).map e_u8))] [] (.cons (Pe.ren (law_ownBytes_ok box.Bytes x h0) ⟨[], [(4, 5)], [], []⟩) (.cons (app_ok e_u8 x box1) (.cons (appl_ok e_u8 h1) .nil))) ?_
  have hF := some_elim hF
  exact Wk_ret (hfin _ ⟨[], [100000, 100001], [], [], [], [], by first | (rw [← hF]; kernel_rfl) | kernel_rfl⟩)

/- tabularylaw.diskAs -/
noncomputable def law_diskAs (d : Disk) (f : Fault) (w0 : Fault) (box : Disk) (box1 : List UInt8) : Option Bool :=
  if (!(decide (f.Code = w0.Code) && (decide (f.At = w0.At) && true))) = true then
    some false
  else
    if (!decide (w0.Code = 0)) = true then
      lt (R_SameDisk d (⟨([] : List UInt8), 0⟩ : Disk)) fun x =>
      some x
    else
      ob (law_WalLogs_1_v1 box box1) fun x1 =>
      lt (R_SameDisk d x1) fun x2 =>
      some x2
theorem law_diskAs_ok (d : Disk) (f : Fault) (w0 : Fault) (box : Disk) (box1 : List UInt8) (r : Bool) (hF : law_diskAs d f w0 box box1 = some r) : Pe Try.prog 48 ⟨[], [(100000, [.sl 1 (box.Bytes.map e_u8), .i box.Kept]), (100001, [.sl 1 (box1.map e_u8)])], [], [], []⟩ [.agg [.sl 1 (d.Bytes.map e_u8), .i d.Kept], .agg [.i f.Code, .i f.At], .agg [.i w0.Code, .i w0.At], .fn 49 [.ptr 100000 0, .ptr 100001 0]] (.bool r) ⟨[], [(100000, [.sl 1 (box.Bytes.map e_u8), .i box.Kept]), (100001, [.sl 1 (box1.map e_u8)])], [], [], []⟩ := by
  refine Pe_of (N := 22) (res := [.tmp 8]) (ts := [4]) Ty.ok Fn.b48 Try.func48 rfl rfl rfl rfl rfl rfl ?_
  intro Q g hfin
  unfold law_diskAs at hF
  refine URs [] [3, 4, 5, 6] [4, 5, 6, 100000, 100001] [] [] [(4, .ptr 4 0), (5, .ptr 5 0), (6, .ptr 6 0)] [(4, [.sl 1 (d.Bytes.map e_u8), .i d.Kept]), (5, [.i f.Code, .i f.At]), (6, [.i w0.Code, .i w0.At])] [] [] .nil ?_
  refine Wk_seq ?_
  refine ZRs [] [3, 4, 6, 11] [4, 6, 100000, 100001] [] [(11, .bool (!(decide (f.Code = w0.Code) && (decide (f.At = w0.At) && true))))] .nil ?_
  refine Wk_split rfl (fun hb => ?_) (fun hb => ?_)
  · have hF := ite_t hF hb
    refine ZRs [] [8] [100000, 100001] [] [(8, .bool false)] .nil ?_
    have hF := some_elim hF
    exact Wk_ret (hfin _ ⟨[], [100000, 100001], [], [], [], [], by first | (rw [← hF]; kernel_rfl) | kernel_rfl⟩)
  · have hF := ite_f hF hb
    refine Wk_skip ?_
    refine Wk_seq ?_
    refine ZRs [] [3, 4, 14] [4, 100000, 100001] [] [(14, .bool (!decide (w0.Code = 0)))] .nil ?_
    refine Wk_split rfl (fun hb => ?_) (fun hb => ?_)
    · have hF := ite_t hF hb
      refine Wk_seq ?_
      obtain ⟨x, h0, hF⟩ := lt_split hF
      refine ZR [.callB (.bool x)] [8] [100000, 100001] [] [(8, .bool x)] (.cons (R_SameDisk_ok d (⟨([] : List UInt8), 0⟩ : Disk) x h0) .nil) ?_
      have hF := some_elim hF
      exact Wk_ret (hfin _ ⟨[], [100000, 100001], [], [], [], [], by first | (rw [← hF]; kernel_rfl) | kernel_rfl⟩)
    · have hF := ite_f hF hb
      refine Wk_skip ?_
      refine Wk_seq ?_
      obtain ⟨x1, h1, hF⟩ := ob_elim hF
      obtain ⟨x2, h2, hF⟩ := lt_split hF
      refine ZD [.callR [100000, 100001] [] [] [] (.agg [.sl 1 (x1.Bytes.map e_u8), .i x1.Kept]), .callB (.bool x2)] [8] [100000, 100001] [] [(8, .bool x2)] (.cons (Pe.ren (law_WalLogs_1_v1_ok box box1 x1 h1) ⟨[], [], [], []⟩) (.cons (R_SameDisk_ok d x1 x2 h2) .nil)) ?_
      have hF := some_elim hF
      exact Wk_ret (hfin _ ⟨[], [100000, 100001], [], [], [], [], by first | (rw [← hF]; kernel_rfl) | kernel_rfl⟩)

/- tabularyref.SameNotes -/
noncomputable def R_SameNotes_J1 (v : Unit) : Option Bool :=
  some true
noncomputable def R_SameNotes_B1 (a0 : List Note) (b : List Note) (v1 : Int) : Option (Int ⊕ Bool) :=
  if (decide (v1 < (a0.length : Int))) = true then
    asrt (0 ≤ v1 ∧ v1 < (a0.length : Int)) <|
    asrt (0 ≤ v1 ∧ v1 < (b.length : Int)) <|
    ob (R_SameNote (⟨(lget a0 v1).Seq, (lget a0 v1).Cells⟩ : Note) (⟨(lget b v1).Seq, (lget b v1).Cells⟩ : Note)) fun x =>
    if (!x) = true then
      some (Sum.inr false)
    else
      some (Sum.inl (w64 (v1 + 1)))
  else
    inrO (R_SameNotes_J1 ())
noncomputable def R_SameNotes_L1 (a0 : List Note) (b : List Note) (v0 : Int) : Option Bool :=
  loopO (fun y => R_SameNotes_B1 a0 b y) v0
noncomputable def R_SameNotes (a0 : List Note) (b : List Note) : Option Bool :=
  if (!decide ((a0.length : Int) = (b.length : Int))) = true then
    some false
  else
    R_SameNotes_L1 a0 b 0
theorem R_SameNotes_ok (a0 : List Note) (b : List Note) (r : Bool) (hF : R_SameNotes a0 b = some r) : Pe Try.prog 37 S.none [.sl 2 (a0.map e_Note), .sl 2 (b.map e_Note)] (.bool r) S.none := by
  refine Pe_of (N := 27) (res := [.tmp 4]) (ts := [4]) Ty.ok Fn.b37 Try.func37 rfl rfl rfl rfl rfl rfl ?_
  intro Q g hfin
  unfold R_SameNotes at hF
  refine ZRs [] [0, 1] [] [] [] .nil ?_
  refine Wk_seq ?_
  refine ZRs [.nat (a0.length : Int), .nat (b.length : Int)] [0, 1, 10] [] [] [(10, .bool (!decide ((a0.length : Int) = (b.length : Int))))] (.cons (len_ok e_Note a0) (.cons (len_ok e_Note b) .nil)) ?_
  refine Wk_split rfl (fun hb => ?_) (fun hb => ?_)
  · have hF := ite_t hF hb
    refine ZRs [] [4] [] [] [(4, .bool false)] .nil ?_
    have hF := some_elim hF
    exact Wk_ret (hfin _ ⟨[], [], [], [], [], [], by first | (rw [← hF]; kernel_rfl) | kernel_rfl⟩)
  · have hF := ite_f hF hb
    refine Wk_skip ?_
    refine Wk_seq ?_
    refine ZRs [] [0, 1, 5] [] [] [(5, .i 0)] .nil ?_
    refine Wk_meetP (fun v : Unit => (⟨[], [], [], [], []⟩ : S)) (fun v => R_SameNotes_J1 v = some r) ?_ ?_
    · refine Wk_block ?_
      unfold R_SameNotes_L1 at hF
      refine Wk_trim (fs := [0, 1, 5]) (bs := []) (rs := []) (ms := []) (aa := []) (nv := []) (t := (fun v1 : Int => (⟨[(0, .sl 2 (a0.map e_Note)), (1, .sl 2 (b.map e_Note)), (5, .i v1)], [], [], [], []⟩ : S)) 0) (by kernel_rfl) ?_
      refine Wk_iter (step := fun y => R_SameNotes_B1 a0 b y) (r := r) (fun v1 : Int => (⟨[(0, .sl 2 (a0.map e_Note)), (1, .sl 2 (b.map e_Note)), (5, .i v1)], [], [], [], []⟩ : S)) 0 hF ?_
      intro n1 v1 y1 hF ih1 dn1
      have hF : R_SameNotes_B1 a0 b v1 = some y1 := hF
      unfold R_SameNotes_B1 at hF
      refine Wk_seq ?_
      refine ZRs [.nat (a0.length : Int)] [0, 1, 5, 14] [] [] [(14, .bool (decide (v1 < (a0.length : Int))))] (.cons (len_ok e_Note a0) .nil) ?_
      refine Wk_split rfl (fun hb => ?_) (fun hb => ?_)
      · have hF := ite_t hF hb
        refine Wk_skip ?_
        refine Wk_seq ?_
        refine Wk_block ?_
        refine Wk_seq ?_
        obtain ⟨h0, hF⟩ := asrt_elim hF
        obtain ⟨h1, hF⟩ := asrt_elim hF
        obtain ⟨x, h2, hF⟩ := ob_elim hF
        refine ZD [.av (e_Note (lget a0 v1)), .av (e_Note (lget b v1)), .callB (.bool x)] [0, 1, 5, 26] [] [] [(26, .bool (!x))] (.cons (idx_ok e_Note h0) (.cons (idx_ok e_Note h1) (.cons (R_SameNote_ok (⟨(lget a0 v1).Seq, (lget a0 v1).Cells⟩ : Note) (⟨(lget b v1).Seq, (lget b v1).Cells⟩ : Note) x h2) .nil))) ?_
        refine Wk_split rfl (fun hb => ?_) (fun hb => ?_)
        · have hF := ite_t hF hb
          refine ZRs [] [4] [] [] [(4, .bool false)] .nil ?_
          have hF := ret_done hF dn1
          have hF := some_elim hF
          exact Wk_ret (hfin _ ⟨[], [], [], [], [], [], by first | (rw [← hF]; kernel_rfl) | kernel_rfl⟩)
        · have hF := ite_f hF hb
          refine Wk_skip ?_
          refine Wk_blk ?_
          refine ZR [] [0, 1, 5] [] [] [(5, .i (w64 (v1 + 1)))] .nil ?_
          refine Wk_trim (fs := [0, 1, 5]) (bs := []) (rs := []) (ms := []) (aa := []) (nv := []) ?_ (ih1 _ (some_elim hF).symm)
          kernel_rfl
      · have hF := ite_f hF hb
        refine Wk_exit rfl ?_
        have hF := inrO_done hF dn1
        exact Wk_metP () [] [] [] [] [] [] hF (by kernel_rfl)
    · intro v hF
      have hF : R_SameNotes_J1 v = some r := hF
      unfold R_SameNotes_J1 at hF
      refine ZRs [] [4] [] [] [(4, .bool true)] .nil ?_
      have hF := some_elim hF
      exact Wk_ret (hfin _ ⟨[], [], [], [], [], [], by first | (rw [← hF]; kernel_rfl) | kernel_rfl⟩)

/- tabularylaw.WalLogs -/
noncomputable def law_WalLogs (d : Disk) (num : Note) : Option Bool :=
  ob (law_walBegun) fun x =>
  if (!x) = true then
    some false
  else
    lt (law_many (num.Cells.length : Int)) fun x1 =>
    if (x1 || (decide (100000 < (d.Bytes.length : Int)))) = true then
      some true
    else
      ob (law_ownDisk d) fun x2 =>
      ob (law_ownNote num) fun x3 =>
      ob (wal_Log_v1 x2 x3) fun x4 =>
      ob (wal_Replay_v1 x2) fun x5 =>
      lt (R_SameDisk x2 d) fun x6 =>
      ob (if (!(!x6)) = true then (R_SameNote x3 num) else some default) fun x7 =>
      if ((!x6) || (!x7)) = true then
        some false
      else
        lt (R_DiskFault d) fun x8 =>
        if (!decide (x8.Code = 0)) = true then
          lt (R_SameDisk x4.1 (⟨([] : List UInt8), 0⟩ : Disk)) fun x9 =>
          lt (R_SameDisk x5.1 (⟨([] : List UInt8), 0⟩ : Disk)) fun x10 =>
          lt (((((decide (x4.2.Code = x8.Code) && (decide (x4.2.At = x8.At) && true)) && (decide (x5.2.2.Code = x8.Code) && (decide (x5.2.2.At = x8.At) && true))) && x9) && x10) && (decide ((x5.2.1.length : Int) = 0))) fun (v : Bool) =>
          some v
        else
          ob (R_Logged_v1 d.Bytes) fun x11 =>
          ob (R_NoteFault num) fun x12 =>
          ob (
            if (decide (x12.Code = 0)) = true then
              ob (R_NoteBytes_v1 num) fun x13 =>
              ob (R_Framed_v1 x13) fun x14 =>
              asrt ((decide (0 < (x11.1.length : Int))) = true → (!(!decide (x11.2 = (d.Bytes.length : Int)))) = true → 0 ≤ w64 ((x11.1.length : Int) - 1) ∧ w64 ((x11.1.length : Int) - 1) < (x11.1.length : Int)) <|
              if ((!decide (x11.2 = (d.Bytes.length : Int))) || ((decide (0 < (x11.1.length : Int))) && (!decide (((lget x11.1 (w64 ((x11.1.length : Int) - 1))).Seq) = (w64 (num.Seq - 1)))))) = true then
                lt (R_F 11 0) fun x15 =>
                some (d, x4.1, x4.2, x5.1, x5.2.2, x15, x14)
              else
                if (decide (60000 < (w64 ((d.Bytes.length : Int) + (x14.length : Int))))) = true then
                  lt (R_F 9 0) fun x16 =>
                  some (d, x4.1, x4.2, x5.1, x5.2.2, x16, x14)
                else
                  some (d, x4.1, x4.2, x5.1, x5.2.2, x12, x14)
            else
              some (d, x4.1, x4.2, x5.1, x5.2.2, x12, ([] : List UInt8))) fun (v1 : Disk × Disk × Fault × Disk × Fault × Fault × List UInt8) =>
          ob (law_diskAs v1.2.1 v1.2.2.1 v1.2.2.2.2.2.1 v1.1 v1.2.2.2.2.2.2) fun x17 =>
          if (!x17) = true then
            some false
          else
            if (decide (1000 < (x11.1.length : Int))) = true then
              lt (R_F 2 0) fun x18 =>
              lt (R_SameDisk v1.2.2.2.1 (⟨([] : List UInt8), 0⟩ : Disk)) fun x19 =>
              lt (((decide (v1.2.2.2.2.1.Code = x18.Code) && (decide (v1.2.2.2.2.1.At = x18.At) && true)) && x19) && (decide ((x5.2.1.length : Int) = 0))) fun (v2 : Bool) =>
              some v2
            else
              ob (if (decide (v1.2.2.2.2.1.Code = 0)) = true then (R_SameNotes x5.2.1 x11.1) else some default) fun x20 =>
              asrt (((decide (v1.2.2.2.2.1.Code = 0)) && x20) = true → 0 ≤ x11.2 ∧ x11.2 ≤ (v1.1.Bytes.length : Int)) <|
              lt (R_SameDisk v1.2.2.2.1 (⟨(ltake v1.1.Bytes x11.2), x11.2⟩ : Disk)) fun x21 =>
              some (((decide (v1.2.2.2.2.1.Code = 0)) && x20) && x21)
theorem law_WalLogs_ok (d : Disk) (num : Note) (r : Bool) (hF : law_WalLogs d num = some r) : Pe Try.prog 7 S.none [.agg [.sl 1 (d.Bytes.map e_u8), .i d.Kept], .agg [.i num.Seq, .sl 5 (num.Cells.map e_Cell)]] (.bool r) S.none := by
  refine Pe_of (N := 169) (res := [.tmp 4]) (ts := [4]) Ty.ok Fn.b7 Try.func7 rfl rfl rfl rfl rfl rfl ?_
  intro Q g hfin
  unfold law_WalLogs at hF
  refine URs [] [2, 3] [2, 3] [] [] [(2, .ptr 2 0), (3, .ptr 3 0)] [(2, [.sl 1 (d.Bytes.map e_u8), .i d.Kept]), (3, [.i num.Seq, .sl 5 (num.Cells.map e_Cell)])] [] [] .nil ?_
  refine Wk_seq ?_
  refine Wk_seq ?_
  obtain ⟨x, h0, hF⟩ := ob_elim hF
  refine ZR [.callB (.bool x)] [2, 3, 18] [2, 3] [] [(18, .bool (!x))] (.cons (law_walBegun_ok  x h0) .nil) ?_
  refine Wk_split rfl (fun hb => ?_) (fun hb => ?_)
  · have hF := ite_t hF hb
    refine ZRs [] [4] [] [] [(4, .bool false)] .nil ?_
    have hF := some_elim hF
    exact Wk_ret (hfin _ ⟨[], [], [], [], [], [], by first | (rw [← hF]; kernel_rfl) | kernel_rfl⟩)
  · have hF := ite_f hF hb
    refine Wk_skip ?_
    refine Wk_seq ?_
    refine Wk_seq ?_
    obtain ⟨x1, h1, hF⟩ := lt_split hF
    refine ZR [.nat (num.Cells.length : Int), .callB (.bool x1), .nat (d.Bytes.length : Int)] [2, 3, 28] [2, 3] [] [(28, .bool (x1 || (decide (100000 < (d.Bytes.length : Int)))))] (.cons (len_ok e_Cell num.Cells) (.cons (law_many_ok (num.Cells.length : Int) x1 h1) (.cons (fun (_ : (!x1) = true) => (len_ok e_u8 d.Bytes)) .nil))) ?_
    refine Wk_split rfl (fun hb => ?_) (fun hb => ?_)
    · have hF := ite_t hF hb
      refine ZRs [] [4] [] [] [(4, .bool true)] .nil ?_
      have hF := some_elim hF
      exact Wk_ret (hfin _ ⟨[], [], [], [], [], [], by first | (rw [← hF]; kernel_rfl) | kernel_rfl⟩)
    · have hF := ite_f hF hb
      refine Wk_skip ?_
      refine Wk_seq ?_
      obtain ⟨x2, h2, hF⟩ := ob_elim hF
      refine UR [.call (.agg [.sl 1 (x2.Bytes.map e_u8), .i x2.Kept])] [2, 3, 5] [2, 3, 5] [] [] [(5, .ptr 5 0)] [(5, [.sl 1 (x2.Bytes.map e_u8), .i x2.Kept])] [] [] (.cons (law_ownDisk_ok d x2 h2) .nil) ?_
      refine Wk_seq ?_
      obtain ⟨x3, h3, hF⟩ := ob_elim hF
      refine UR [.call (.agg [.i x3.Seq, .sl 5 (x3.Cells.map e_Cell)])] [2, 3, 5, 6] [2, 3, 5, 6] [] [] [(6, .ptr 6 0)] [(6, [.i x3.Seq, .sl 5 (x3.Cells.map e_Cell)])] [] [] (.cons (law_ownNote_ok num x3 h3) .nil) ?_
      refine Wk_seq ?_
      obtain ⟨x4, h4, hF⟩ := ob_elim hF
      refine UR [.call (.tup [.agg [.sl 1 (x4.1.Bytes.map e_u8), .i x4.1.Kept], .agg [.i x4.2.Code, .i x4.2.At]])] [2, 3, 5, 6, 7, 8] [2, 3, 5, 6, 7, 8] [] [] [(7, .ptr 7 0), (8, .ptr 8 0)] [(7, [.sl 1 (x4.1.Bytes.map e_u8), .i x4.1.Kept]), (8, [.i x4.2.Code, .i x4.2.At])] [] [] (.cons (wal_Log_v1_ok x2 x3 x4 h4) .nil) ?_
      refine Wk_seq ?_
      obtain ⟨x5, h5, hF⟩ := ob_elim hF
      refine UR [.call (.tup [.agg [.sl 1 (x5.1.Bytes.map e_u8), .i x5.1.Kept], .sl 2 (x5.2.1.map e_Note), .agg [.i x5.2.2.Code, .i x5.2.2.At]])] [2, 3, 5, 6, 7, 8, 9, 10, 11] [2, 3, 5, 6, 7, 8, 9, 11] [] [] [(9, .ptr 9 0), (10, .sl 2 (x5.2.1.map e_Note)), (11, .ptr 11 0)] [(9, [.sl 1 (x5.1.Bytes.map e_u8), .i x5.1.Kept]), (11, [.i x5.2.2.Code, .i x5.2.2.At])] [] [] (.cons (wal_Replay_v1_ok x2 x5 h5) .nil) ?_
      refine Wk_seq ?_
      refine Wk_seq ?_
      obtain ⟨x6, h6, hF⟩ := lt_split hF
      obtain ⟨x7, h7, hF⟩ := ob_elim hF
      refine ZR [.callB (.bool x6), .callB (.bool x7)] [2, 3, 7, 8, 9, 10, 11, 54] [2, 3, 7, 8, 9, 11] [] [(54, .bool ((!x6) || (!x7)))] (.cons (R_SameDisk_ok x2 d x6 h6) (.cons (fun (ga0 : (!(!x6)) = true) => (R_SameNote_ok x3 num x7 (ite_t h7 ga0))) .nil)) ?_
      refine Wk_split rfl (fun hb => ?_) (fun hb => ?_)
      · have hF := ite_t hF hb
        refine ZRs [] [4] [] [] [(4, .bool false)] .nil ?_
        have hF := some_elim hF
        exact Wk_ret (hfin _ ⟨[], [], [], [], [], [], by first | (rw [← hF]; kernel_rfl) | kernel_rfl⟩)
      · have hF := ite_f hF hb
        refine Wk_skip ?_
        refine Wk_seq ?_
        obtain ⟨x8, h8, hF⟩ := lt_split hF
        refine UR [.callB (.agg [.i x8.Code, .i x8.At])] [2, 3, 7, 8, 9, 10, 11, 12] [2, 3, 7, 8, 9, 11, 12] [] [] [(12, .ptr 12 0)] [(12, [.i x8.Code, .i x8.At])] [] [] (.cons (R_DiskFault_ok d x8 h8) .nil) ?_
        refine Wk_seq ?_
        refine ZRs [] [2, 3, 7, 8, 9, 10, 11, 12, 59] [2, 3, 7, 8, 9, 11, 12] [] [(59, .bool (!decide (x8.Code = 0)))] .nil ?_
        refine Wk_split rfl (fun hb => ?_) (fun hb => ?_)
        · have hF := ite_t hF hb
          refine Wk_seq ?_
          obtain ⟨x9, h9, hF⟩ := lt_split hF
          obtain ⟨x10, h10, hF⟩ := lt_split hF
          refine WRL (((((decide (x4.2.Code = x8.Code) && (decide (x4.2.At = x8.At) && true)) && (decide (x5.2.2.Code = x8.Code) && (decide (x5.2.2.At = x8.At) && true))) && x9) && x10) && (decide ((x5.2.1.length : Int) = 0))) (fun v : Bool => ⟨[(4, .bool v)], [], [], [], []⟩) [.callB (.bool x9), .callB (.bool x10), .nat (x5.2.1.length : Int)] [4] [] [] [] [] [] (.cons (fun (ga0 : ((decide (x4.2.Code = x8.Code) && (decide (x4.2.At = x8.At) && true)) && (decide (x5.2.2.Code = x8.Code) && (decide (x5.2.2.At = x8.At) && true))) = true) => (R_SameDisk_ok x4.1 (⟨([] : List UInt8), 0⟩ : Disk) x9 h9)) (.cons (fun (ga0 : (((decide (x4.2.Code = x8.Code) && (decide (x4.2.At = x8.At) && true)) && (decide (x5.2.2.Code = x8.Code) && (decide (x5.2.2.At = x8.At) && true))) && x9) = true) => (R_SameDisk_ok x5.1 (⟨([] : List UInt8), 0⟩ : Disk) x10 h10)) (.cons (fun (_ : ((((decide (x4.2.Code = x8.Code) && (decide (x4.2.At = x8.At) && true)) && (decide (x5.2.2.Code = x8.Code) && (decide (x5.2.2.At = x8.At) && true))) && x9) && x10) = true) => (len_ok e_Note x5.2.1)) .nil))) (by kernel_rfl) (fun v hv => ?_)
          have hF := lt_elim hF hv
          have hF := some_elim hF
          exact Wk_ret (hfin _ ⟨[], [], [], [], [], [], by first | (rw [← hF]; kernel_rfl) | kernel_rfl⟩)
        · have hF := ite_f hF hb
          refine Wk_skip ?_
          refine Wk_seq ?_
          obtain ⟨x11, h11, hF⟩ := ob_elim hF
          refine ZR [.call (.tup [.sl 2 (x11.1.map e_Note), .i x11.2])] [2, 3, 7, 8, 9, 10, 11, 13, 14] [2, 3, 7, 8, 9, 11] [] [(13, .sl 2 (x11.1.map e_Note)), (14, .i x11.2)] (.cons (R_Logged_v1_ok d.Bytes x11 h11) .nil) ?_
          refine Wk_seq ?_
          obtain ⟨x12, h12, hF⟩ := ob_elim hF
          refine UR [.callB (.agg [.i x12.Code, .i x12.At])] [2, 3, 7, 8, 9, 10, 11, 13, 14, 15] [2, 3, 7, 8, 9, 11, 15] [] [] [(15, .ptr 15 0)] [(15, [.i x12.Code, .i x12.At])] [] [] (.cons (R_NoteFault_ok num x12 h12) .nil) ?_
          refine URs [] [2, 3, 7, 8, 9, 10, 11, 13, 14, 15, 16] [2, 3, 7, 8, 9, 11, 15, 16] [] [] [(16, .ptr 16 0)] [(16, [.nils])] [] [] .nil ?_
          refine Wk_seq ?_
          refine ZRs [] [2, 3, 7, 8, 9, 10, 11, 13, 14, 15, 16, 93] [2, 3, 7, 8, 9, 11, 15, 16] [] [(93, .bool (decide (x12.Code = 0)))] .nil ?_
          obtain ⟨v1, hv, hF⟩ := ob_elim hF
          refine Wk_meet (⟨[(2, .ptr 2 0), (7, .ptr 7 0), (8, .ptr 8 0), (9, .ptr 9 0), (10, .sl 2 (x5.2.1.map e_Note)), (11, .ptr 11 0), (13, .sl 2 (x11.1.map e_Note)), (14, .i x11.2), (15, .ptr 15 0), (16, .ptr 16 0)], [(2, [.sl 1 (v1.1.Bytes.map e_u8), .i v1.1.Kept]), (7, [.sl 1 (v1.2.1.Bytes.map e_u8), .i v1.2.1.Kept]), (8, [.i v1.2.2.1.Code, .i v1.2.2.1.At]), (9, [.sl 1 (v1.2.2.2.1.Bytes.map e_u8), .i v1.2.2.2.1.Kept]), (11, [.i v1.2.2.2.2.1.Code, .i v1.2.2.2.2.1.At]), (15, [.i v1.2.2.2.2.2.1.Code, .i v1.2.2.2.2.2.1.At]), (16, [.sl 1 (v1.2.2.2.2.2.2.map e_u8)])], [], [], []⟩ : S) ?_ ?_
          · have hF := hv
            refine Wk_split rfl (fun hb => ?_) (fun hb => ?_)
            · have hF := ite_t hF hb
              refine Wk_seq ?_
              obtain ⟨x13, h13, hF⟩ := ob_elim hF
              obtain ⟨x14, h14, hF⟩ := ob_elim hF
              refine UR [.call (.sl 1 (x13.map e_u8)), .call (.sl 1 (x14.map e_u8))] [2, 3, 7, 8, 9, 10, 11, 13, 14, 15, 16] [2, 3, 7, 8, 9, 11, 15, 16] [] [] [] [(16, [.sl 1 (x14.map e_u8)])] [] [] (.cons (R_NoteBytes_v1_ok num x13 h13) (.cons (R_Framed_v1_ok x13 x14 h14) .nil)) ?_
              refine Wk_seq ?_
              obtain ⟨h15, hF⟩ := asrt_elim hF
              refine ZD [.nat (d.Bytes.length : Int), .nat (x11.1.length : Int), .nat (x11.1.length : Int), .av (e_Note (lget x11.1 (w64 ((x11.1.length : Int) - 1))))] [2, 7, 8, 9, 10, 11, 13, 14, 15, 16, 119] [2, 7, 8, 9, 11, 15, 16] [] [(119, .bool ((!decide (x11.2 = (d.Bytes.length : Int))) || ((decide (0 < (x11.1.length : Int))) && (!decide (((lget x11.1 (w64 ((x11.1.length : Int) - 1))).Seq) = (w64 (num.Seq - 1)))))))] (.cons (len_ok e_u8 d.Bytes) (.cons (fun (_ : (!(!decide (x11.2 = (d.Bytes.length : Int)))) = true) => (len_ok e_Note x11.1)) (.cons (fun (_ : (decide (0 < (x11.1.length : Int))) = true) (_ : (!(!decide (x11.2 = (d.Bytes.length : Int)))) = true) => (len_ok e_Note x11.1)) (.cons (fun (ga0 : (decide (0 < (x11.1.length : Int))) = true) (ga1 : (!(!decide (x11.2 = (d.Bytes.length : Int)))) = true) => (idx_ok e_Note (h15 ga0 ga1))) .nil)))) ?_
              refine Wk_split rfl (fun hb => ?_) (fun hb => ?_)
              · have hF := ite_t hF hb
                obtain ⟨x15, h16, hF⟩ := lt_split hF
                refine UR [.callB (.agg [.i x15.Code, .i x15.At])] [2, 7, 8, 9, 10, 11, 13, 14, 15, 16] [2, 7, 8, 9, 11, 15, 16] [] [] [] [(15, [.i x15.Code, .i x15.At])] [] [] (.cons (R_F_ok 11 0 x15 h16) .nil) ?_
                exact Wk_met (fs := [2, 7, 8, 9, 10, 11, 13, 14, 15, 16]) (bs := [2, 7, 8, 9, 11, 15, 16]) (rs := []) (ms := []) (aa := []) (nv := []) (by first | (rw [← some_elim hF]; kernel_rfl) | kernel_rfl)
              · have hF := ite_f hF hb
                refine ZRs [.nat (d.Bytes.length : Int), .nat (x14.length : Int)] [2, 7, 8, 9, 10, 11, 13, 14, 15, 16, 127] [2, 7, 8, 9, 11, 15, 16] [] [(127, .bool (decide (60000 < (w64 ((d.Bytes.length : Int) + (x14.length : Int))))))] (.cons (len_ok e_u8 d.Bytes) (.cons (len_ok e_u8 x14) .nil)) ?_
                refine Wk_split rfl (fun hb => ?_) (fun hb => ?_)
                · have hF := ite_t hF hb
                  obtain ⟨x16, h17, hF⟩ := lt_split hF
                  refine UR [.callB (.agg [.i x16.Code, .i x16.At])] [2, 7, 8, 9, 10, 11, 13, 14, 15, 16] [2, 7, 8, 9, 11, 15, 16] [] [] [] [(15, [.i x16.Code, .i x16.At])] [] [] (.cons (R_F_ok 9 0 x16 h17) .nil) ?_
                  exact Wk_met (fs := [2, 7, 8, 9, 10, 11, 13, 14, 15, 16]) (bs := [2, 7, 8, 9, 11, 15, 16]) (rs := []) (ms := []) (aa := []) (nv := []) (by first | (rw [← some_elim hF]; kernel_rfl) | kernel_rfl)
                · have hF := ite_f hF hb
                  refine Wk_skip ?_
                  exact Wk_met (fs := [2, 7, 8, 9, 10, 11, 13, 14, 15, 16]) (bs := [2, 7, 8, 9, 11, 15, 16]) (rs := []) (ms := []) (aa := []) (nv := []) (by first | (rw [← some_elim hF]; kernel_rfl) | kernel_rfl)
            · have hF := ite_f hF hb
              refine Wk_skip ?_
              refine Wk_coeB 16 [.sl 1 (([] : List UInt8).map e_u8)] rfl (.cons (CoeS.nils 1) .nil) ?_
              exact Wk_met (fs := [2, 7, 8, 9, 10, 11, 13, 14, 15, 16]) (bs := [2, 7, 8, 9, 11, 15, 16]) (rs := []) (ms := []) (aa := []) (nv := []) (by first | (rw [← some_elim hF]; kernel_rfl) | kernel_rfl)
          · refine Wk_seq ?_
            refine Wk_seq ?_
            obtain ⟨x17, h18, hF⟩ := ob_elim hF
            refine ZR [.callR [2, 16] [] [] [] (.bool x17)] [2, 9, 10, 11, 13, 14, 134] [2, 9, 11] [] [(134, .bool (!x17))] (.cons (Pe.ren (law_diskAs_ok v1.2.1 v1.2.2.1 v1.2.2.2.2.2.1 v1.1 v1.2.2.2.2.2.2 x17 h18) ⟨[(100000, 2), (100001, 16)], [], [], []⟩) .nil) ?_
            refine Wk_split rfl (fun hb => ?_) (fun hb => ?_)
            · have hF := ite_t hF hb
              refine ZRs [] [4] [] [] [(4, .bool false)] .nil ?_
              have hF := some_elim hF
              exact Wk_ret (hfin _ ⟨[], [], [], [], [], [], by first | (rw [← hF]; kernel_rfl) | kernel_rfl⟩)
            · have hF := ite_f hF hb
              refine Wk_skip ?_
              refine Wk_seq ?_
              refine ZRs [.nat (x11.1.length : Int)] [2, 9, 10, 11, 13, 14, 137] [2, 9, 11] [] [(137, .bool (decide (1000 < (x11.1.length : Int))))] (.cons (len_ok e_Note x11.1) .nil) ?_
              refine Wk_split rfl (fun hb => ?_) (fun hb => ?_)
              · have hF := ite_t hF hb
                refine Wk_seq ?_
                obtain ⟨x18, h19, hF⟩ := lt_split hF
                obtain ⟨x19, h20, hF⟩ := lt_split hF
                refine WDL (((decide (v1.2.2.2.2.1.Code = x18.Code) && (decide (v1.2.2.2.2.1.At = x18.At) && true)) && x19) && (decide ((x5.2.1.length : Int) = 0))) (fun v2 : Bool => ⟨[(4, .bool v2)], [], [], [], []⟩) [.callB (.agg [.i x18.Code, .i x18.At]), .callB (.bool x19), .nat (x5.2.1.length : Int)] [4] [] [] [] [] [] (.cons (R_F_ok 2 0 x18 h19) (.cons (fun (ga0 : (decide (v1.2.2.2.2.1.Code = x18.Code) && (decide (v1.2.2.2.2.1.At = x18.At) && true)) = true) => (R_SameDisk_ok v1.2.2.2.1 (⟨([] : List UInt8), 0⟩ : Disk) x19 h20)) (.cons (fun (_ : ((decide (v1.2.2.2.2.1.Code = x18.Code) && (decide (v1.2.2.2.2.1.At = x18.At) && true)) && x19) = true) => (len_ok e_Note x5.2.1)) .nil))) (by kernel_rfl) (fun v2 hv => ?_)
                have hF := lt_elim hF hv
                have hF := some_elim hF
                exact Wk_ret (hfin _ ⟨[], [], [], [], [], [], by first | (rw [← hF]; kernel_rfl) | kernel_rfl⟩)
              · have hF := ite_f hF hb
                refine Wk_skip ?_
                refine Wk_seq ?_
                obtain ⟨x20, h21, hF⟩ := ob_elim hF
                obtain ⟨h22, hF⟩ := asrt_elim hF
                obtain ⟨x21, h23, hF⟩ := lt_split hF
                refine ZD [.callB (.bool x20), .xs ((ltake v1.1.Bytes x11.2).map e_u8), .callB (.bool x21)] [4] [] [] [(4, .bool (((decide (v1.2.2.2.2.1.Code = 0)) && x20) && x21))] (.cons (fun (ga0 : (decide (v1.2.2.2.2.1.Code = 0)) = true) => (R_SameNotes_ok x5.2.1 x11.1 x20 (ite_t h21 ga0))) (.cons (fun (ga0 : ((decide (v1.2.2.2.2.1.Code = 0)) && x20) = true) => (sl01_ok e_u8 (h22 ga0))) (.cons (fun (ga0 : ((decide (v1.2.2.2.2.1.Code = 0)) && x20) = true) => (R_SameDisk_ok v1.2.2.2.1 (⟨(ltake v1.1.Bytes x11.2), x11.2⟩ : Disk) x21 h23)) .nil))) ?_
                have hF := some_elim hF
                exact Wk_ret (hfin _ ⟨[], [], [], [], [], [], by first | (rw [← hF]; kernel_rfl) | kernel_rfl⟩)

end G
end Go.Proofs.Ytollmifjbcccgaa
