/- The program's functions as plain functions, and that they are these. Written by a program (dec2.py). -/
import Derived.Test.YtipeimcdjijkgaaGf0
namespace Go.Proofs.Ytipeimcdjijkgaa
open Go Go.Dm
set_option linter.unusedVariables false
set_option linter.unusedSimpArgs false
set_option maxRecDepth 100000
namespace G
/- tabularyref.RowsWith -/
noncomputable def R_RowsWith_J2 (v2 : List Pair) : Option (List Pair) :=
  some v2
noncomputable def R_RowsWith_B1 (l : List Pair) (row : List UInt8) (v3 : List Pair × Int) : Option ((List Pair × Int) ⊕ (List Pair)) :=
  if (decide (v3.2 < (l.length : Int))) = true then
    asrt (0 ≤ v3.2 ∧ v3.2 < (l.length : Int)) <|
    ob (
      if (Op.bytesLess row ((lget l v3.2).Row)) = true then
        asrt (0 ≤ v3.2 ∧ v3.2 < (l.length : Int)) <|
        asrt (((v3.1 ++ [(⟨(lget l v3.2).Row, (lget l v3.2).Value⟩ : Pair)]).length : Int) * 32 ≤ 140737488351232) <|
        some (v3.1 ++ [(⟨(lget l v3.2).Row, (lget l v3.2).Value⟩ : Pair)])
      else
        some v3.1) fun (v4 : List Pair) =>
    some (Sum.inl (v4, w64 (v3.2 + 1)))
  else
    inrO (R_RowsWith_J2 v3.1)
noncomputable def R_RowsWith_L1 (l : List Pair) (row : List UInt8) (v0 : List Pair × Int) : Option (List Pair) :=
  loopO (fun y => R_RowsWith_B1 l row y) v0
noncomputable def R_RowsWith_J1 (l : List Pair) (row : List UInt8) (value : List UInt8) (is0 : Bool) (v : List Pair) : Option (List Pair) :=
  ob (
    if is0 = true then
      asrt (((v ++ [(⟨row, value⟩ : Pair)]).length : Int) * 32 ≤ 140737488351232) <|
      some (v ++ [(⟨row, value⟩ : Pair)])
    else
      some v) fun (v1 : List Pair) =>
  R_RowsWith_L1 l row (v1, 0)
noncomputable def R_RowsWith_B2 (l : List Pair) (row : List UInt8) (value : List UInt8) (is0 : Bool) (v5 : List Pair × Int) : Option ((List Pair × Int) ⊕ (List Pair)) :=
  if (decide (v5.2 < (l.length : Int))) = true then
    asrt (0 ≤ v5.2 ∧ v5.2 < (l.length : Int)) <|
    ob (
      if (Op.bytesLess ((lget l v5.2).Row) row) = true then
        asrt (0 ≤ v5.2 ∧ v5.2 < (l.length : Int)) <|
        asrt (((v5.1 ++ [(⟨(lget l v5.2).Row, (lget l v5.2).Value⟩ : Pair)]).length : Int) * 32 ≤ 140737488351232) <|
        some (v5.1 ++ [(⟨(lget l v5.2).Row, (lget l v5.2).Value⟩ : Pair)])
      else
        some v5.1) fun (v6 : List Pair) =>
    some (Sum.inl (v6, w64 (v5.2 + 1)))
  else
    inrO (R_RowsWith_J1 l row value is0 v5.1)
noncomputable def R_RowsWith_L2 (l : List Pair) (row : List UInt8) (value : List UInt8) (is0 : Bool) (v0 : List Pair × Int) : Option (List Pair) :=
  loopO (fun y => R_RowsWith_B2 l row value is0 y) v0
noncomputable def R_RowsWith (l : List Pair) (row : List UInt8) (value : List UInt8) (is0 : Bool) : Option (List Pair) :=
  R_RowsWith_L2 l row value is0 (([] : List Pair), 0)
theorem R_RowsWith_ok (l : List Pair) (row : List UInt8) (value : List UInt8) (is0 : Bool) (r : List Pair) (hF : R_RowsWith l row value is0 = some r) : Pe Try.prog 47 ⟨[], [], [], [], []⟩ [.sl 2 (l.map e_Pair), .str row, .str value, .bool is0] (.row 31 0) ⟨[], [], [(31, .z 70 2 0 (r.map e_Pair))], [], []⟩ := by
  refine Pe_of (N := 60) (res := [.tmp 8]) (ts := [24]) Ty.ok Fn.b47 Try.func47 rfl rfl rfl rfl rfl rfl ?_
  intro Q g hfin
  unfold R_RowsWith at hF
  refine ZRs [] [0, 1, 2, 3] [] [] [] .nil ?_
  refine ZRs [] [0, 1, 2, 3, 9] [] [] [(9, .nils)] .nil ?_
  refine Wk_seq ?_
  refine ZRs [] [0, 1, 2, 3, 9, 10] [] [] [(10, .i 0)] .nil ?_
  refine Wk_meetP (fun v : List Pair => (⟨[(0, .sl 2 (l.map e_Pair)), (1, .str row), (2, .str value), (3, .bool is0), (9, .row 31 0)], [], [(31, .z 70 2 0 (v.map e_Pair))], [], []⟩ : S)) (fun v => R_RowsWith_J1 l row value is0 v = some r) ?_ ?_
  · refine Wk_block ?_
    unfold R_RowsWith_L2 at hF
    refine Wk_nilrow 9 60000 70 2 rfl rfl rfl ?_
    refine Wk_trim (fs := [0, 1, 2, 3, 9, 10]) (bs := []) (rs := [60000]) (ms := []) (aa := []) (nv := []) rfl ?_
    refine Wk_ren' ⟨[], [(60000, 31)], [], []⟩ rfl ?_
    refine Wk_trim (fs := [0, 1, 2, 3, 9, 10]) (bs := []) (rs := [31]) (ms := []) (aa := []) (nv := []) (t := (fun v5 : List Pair × Int => (⟨[(0, .sl 2 (l.map e_Pair)), (1, .str row), (2, .str value), (3, .bool is0), (9, .row 31 0), (10, .i v5.2)], [], [(31, .z 70 2 0 (v5.1.map e_Pair))], [], []⟩ : S)) (([] : List Pair), 0)) (by kernel_rfl) ?_
    refine Wk_iter (step := fun y => R_RowsWith_B2 l row value is0 y) (r := r) (fun v5 : List Pair × Int => (⟨[(0, .sl 2 (l.map e_Pair)), (1, .str row), (2, .str value), (3, .bool is0), (9, .row 31 0), (10, .i v5.2)], [], [(31, .z 70 2 0 (v5.1.map e_Pair))], [], []⟩ : S)) (([] : List Pair), 0) hF ?_
    intro n1 v5 y1 hF ih1 dn1
    have hF : R_RowsWith_B2 l row value is0 v5 = some y1 := hF
    unfold R_RowsWith_B2 at hF
    refine Wk_seq ?_
    refine ZRs [.nat (l.length : Int)] [0, 1, 2, 3, 9, 10, 15] [] [31] [(15, .bool (decide (v5.2 < (l.length : Int))))] (.cons (len_ok e_Pair l) .nil) ?_
    refine Wk_split rfl (fun hb => ?_) (fun hb => ?_)
    · have hF := ite_t hF hb
      refine Wk_skip ?_
      refine Wk_seq ?_
      refine Wk_block ?_
      refine Wk_seq ?_
      obtain ⟨h4, hF⟩ := asrt_elim hF
      refine ZR [.av (e_Pair (lget l v5.2))] [0, 1, 2, 3, 9, 10, 24] [] [31] [(24, .bool (Op.bytesLess ((lget l v5.2).Row) row))] (.cons (idx_ok e_Pair h4) .nil) ?_
      obtain ⟨v6, hv, hF⟩ := ob_elim hF
      refine Wk_meet (⟨[(0, .sl 2 (l.map e_Pair)), (1, .str row), (2, .str value), (3, .bool is0), (9, .row 31 0), (10, .i v5.2)], [], [(31, .z 70 2 0 (v6.map e_Pair))], [], []⟩ : S) ?_ ?_
      · have hF := hv
        refine Wk_split rfl (fun hb => ?_) (fun hb => ?_)
        · have hF := ite_t hF hb
          obtain ⟨h5, hF⟩ := asrt_elim hF
          obtain ⟨h6, hF⟩ := asrt_elim hF
          refine UR [.av (e_Pair (lget l v5.2)), .sealed, .xs ((v5.1 ++ [(⟨(lget l v5.2).Row, (lget l v5.2).Value⟩ : Pair)]).map e_Pair)] [0, 1, 2, 3, 9, 10] [] [31] [] [(9, .row 31 1)] [] [(31, ⟨70, 2, 1, 0, 0, true, 0, [], ((v5.1 ++ [(⟨(lget l v5.2).Row, (lget l v5.2).Value⟩ : Pair)]).map e_Pair)⟩)] [] (.cons (idx_ok e_Pair h5) (.cons (app_ok e_Pair v5.1 [(⟨(lget l v5.2).Row, (lget l v5.2).Value⟩ : Pair)]) (.cons (appl_ok e_Pair h6) .nil))) ?_
          exact Wk_met (fs := [0, 1, 2, 3, 9, 10]) (bs := []) (rs := [31]) (ms := []) (aa := []) (nv := [(31, ⟨0, true, true, false⟩)]) (by first | (rw [← some_elim hF]; kernel_rfl) | kernel_rfl)
        · have hF := ite_f hF hb
          refine Wk_skip ?_
          exact Wk_met (fs := [0, 1, 2, 3, 9, 10]) (bs := []) (rs := [31]) (ms := []) (aa := []) (nv := []) (by first | (rw [← some_elim hF]; kernel_rfl) | kernel_rfl)
      · refine Wk_blk ?_
        refine ZR [] [0, 1, 2, 3, 9, 10] [] [31] [(10, .i (w64 (v5.2 + 1)))] .nil ?_
        refine Wk_trim (fs := [0, 1, 2, 3, 9, 10]) (bs := []) (rs := [31]) (ms := []) (aa := []) (nv := []) ?_ (ih1 _ (some_elim hF).symm)
        kernel_rfl
    · have hF := ite_f hF hb
      refine Wk_exit rfl ?_
      have hF := inrO_done hF dn1
      exact Wk_metP v5.1 [0, 1, 2, 3, 9] [] [31] [] [] [] hF (by kernel_rfl)
  · intro v hF
    have hF : R_RowsWith_J1 l row value is0 v = some r := hF
    unfold R_RowsWith_J1 at hF
    refine Wk_seq ?_
    refine ZRs [] [0, 1, 2, 9, 32] [] [31] [(32, .bool is0)] .nil ?_
    obtain ⟨v1, hv, hF⟩ := ob_elim hF
    refine Wk_meet (⟨[(0, .sl 2 (l.map e_Pair)), (1, .str row), (9, .row 31 0)], [], [(31, .z 70 2 0 (v1.map e_Pair))], [], []⟩ : S) ?_ ?_
    · have hF := hv
      refine Wk_split rfl (fun hb => ?_) (fun hb => ?_)
      · have hF := ite_t hF hb
        obtain ⟨h0, hF⟩ := asrt_elim hF
        refine UR [.sealed, .xs ((v ++ [(⟨row, value⟩ : Pair)]).map e_Pair)] [0, 1, 9] [] [31] [] [(9, .row 31 1)] [] [(31, ⟨70, 2, 1, 0, 0, true, 0, [], ((v ++ [(⟨row, value⟩ : Pair)]).map e_Pair)⟩)] [] (.cons (app_ok e_Pair v [(⟨row, value⟩ : Pair)]) (.cons (appl_ok e_Pair h0) .nil)) ?_
        exact Wk_met (fs := [0, 1, 9]) (bs := []) (rs := [31]) (ms := []) (aa := []) (nv := [(31, ⟨0, true, true, false⟩)]) (by first | (rw [← some_elim hF]; kernel_rfl) | kernel_rfl)
      · have hF := ite_f hF hb
        refine Wk_skip ?_
        exact Wk_met (fs := [0, 1, 9]) (bs := []) (rs := [31]) (ms := []) (aa := []) (nv := []) (by first | (rw [← some_elim hF]; kernel_rfl) | kernel_rfl)
    · refine Wk_seq ?_
      refine ZRs [] [0, 1, 9, 11] [] [31] [(11, .i 0)] .nil ?_
      refine Wk_meetP (fun v2 : List Pair => (⟨[(9, .row 31 0)], [], [(31, .z 70 2 0 (v2.map e_Pair))], [], []⟩ : S)) (fun v2 => R_RowsWith_J2 v2 = some r) ?_ ?_
      · refine Wk_block ?_
        unfold R_RowsWith_L1 at hF
        refine Wk_trim (fs := [0, 1, 9, 11]) (bs := []) (rs := [31]) (ms := []) (aa := []) (nv := []) (t := (fun v3 : List Pair × Int => (⟨[(0, .sl 2 (l.map e_Pair)), (1, .str row), (9, .row 31 0), (11, .i v3.2)], [], [(31, .z 70 2 0 (v3.1.map e_Pair))], [], []⟩ : S)) (v1, 0)) (by kernel_rfl) ?_
        refine Wk_iter (step := fun y => R_RowsWith_B1 l row y) (r := r) (fun v3 : List Pair × Int => (⟨[(0, .sl 2 (l.map e_Pair)), (1, .str row), (9, .row 31 0), (11, .i v3.2)], [], [(31, .z 70 2 0 (v3.1.map e_Pair))], [], []⟩ : S)) (v1, 0) hF ?_
        intro n1 v3 y1 hF ih1 dn1
        have hF : R_RowsWith_B1 l row v3 = some y1 := hF
        unfold R_RowsWith_B1 at hF
        refine Wk_seq ?_
        refine ZRs [.nat (l.length : Int)] [0, 1, 9, 11, 42] [] [31] [(42, .bool (decide (v3.2 < (l.length : Int))))] (.cons (len_ok e_Pair l) .nil) ?_
        refine Wk_split rfl (fun hb => ?_) (fun hb => ?_)
        · have hF := ite_t hF hb
          refine Wk_skip ?_
          refine Wk_seq ?_
          refine Wk_block ?_
          refine Wk_seq ?_
          obtain ⟨h1, hF⟩ := asrt_elim hF
          refine ZR [.av (e_Pair (lget l v3.2))] [0, 1, 9, 11, 51] [] [31] [(51, .bool (Op.bytesLess row ((lget l v3.2).Row)))] (.cons (idx_ok e_Pair h1) .nil) ?_
          obtain ⟨v4, hv, hF⟩ := ob_elim hF
          refine Wk_meet (⟨[(0, .sl 2 (l.map e_Pair)), (1, .str row), (9, .row 31 0), (11, .i v3.2)], [], [(31, .z 70 2 0 (v4.map e_Pair))], [], []⟩ : S) ?_ ?_
          · have hF := hv
            refine Wk_split rfl (fun hb => ?_) (fun hb => ?_)
            · have hF := ite_t hF hb
              obtain ⟨h2, hF⟩ := asrt_elim hF
              obtain ⟨h3, hF⟩ := asrt_elim hF
              refine UR [.av (e_Pair (lget l v3.2)), .sealed, .xs ((v3.1 ++ [(⟨(lget l v3.2).Row, (lget l v3.2).Value⟩ : Pair)]).map e_Pair)] [0, 1, 9, 11] [] [31] [] [(9, .row 31 1)] [] [(31, ⟨70, 2, 1, 0, 0, true, 0, [], ((v3.1 ++ [(⟨(lget l v3.2).Row, (lget l v3.2).Value⟩ : Pair)]).map e_Pair)⟩)] [] (.cons (idx_ok e_Pair h2) (.cons (app_ok e_Pair v3.1 [(⟨(lget l v3.2).Row, (lget l v3.2).Value⟩ : Pair)]) (.cons (appl_ok e_Pair h3) .nil))) ?_
              exact Wk_met (fs := [0, 1, 9, 11]) (bs := []) (rs := [31]) (ms := []) (aa := []) (nv := [(31, ⟨0, true, true, false⟩)]) (by first | (rw [← some_elim hF]; kernel_rfl) | kernel_rfl)
            · have hF := ite_f hF hb
              refine Wk_skip ?_
              exact Wk_met (fs := [0, 1, 9, 11]) (bs := []) (rs := [31]) (ms := []) (aa := []) (nv := []) (by first | (rw [← some_elim hF]; kernel_rfl) | kernel_rfl)
          · refine Wk_blk ?_
            refine ZR [] [0, 1, 9, 11] [] [31] [(11, .i (w64 (v3.2 + 1)))] .nil ?_
            refine Wk_trim (fs := [0, 1, 9, 11]) (bs := []) (rs := [31]) (ms := []) (aa := []) (nv := []) ?_ (ih1 _ (some_elim hF).symm)
            kernel_rfl
        · have hF := ite_f hF hb
          refine Wk_exit rfl ?_
          have hF := inrO_done hF dn1
          exact Wk_metP v3.1 [9] [] [31] [] [] [] hF (by kernel_rfl)
      · intro v2 hF
        have hF : R_RowsWith_J2 v2 = some r := hF
        unfold R_RowsWith_J2 at hF
        refine ZRs [] [8] [] [31] [(8, .row 31 0)] .nil ?_
        have hF := some_elim hF
        exact Wk_ret (hfin _ ⟨[31], [], [31], [], [], [], by first | (rw [← hF]; kernel_rfl) | kernel_rfl⟩)

/- tabularyref.Called -/
noncomputable def R_Called (l : List Pair) (c : Call) : Option (List Pair × List UInt8) :=
  ob (R_StandsIn l c.Row) fun x =>
  if ((decide (c.Kind = 1)) || (((decide (c.Kind = 3)) && x.2) && (decide (x.1 = c.Old)))) = true then
    ob (R_RowsWith l c.Row c.Value true) fun x1 =>
    some (x1, ([111, 107] : List UInt8))
  else
    if (decide (c.Kind = 3)) = true then
      asrt ((l.length : Int) * 32 ≤ 140737488351232) <|
      some (l, ([110, 111] : List UInt8))
    else
      if (!x.2) = true then
        asrt ((l.length : Int) * 32 ≤ 140737488351232) <|
        some (l, ([110, 111, 110, 101] : List UInt8))
      else
        if (decide (c.Kind = 2)) = true then
          asrt ((l.length : Int) * 32 ≤ 140737488351232) <|
          asrt ((([61] : List UInt8).length : Int) + x.1.length ≤ 9223372036854775807) <|
          some (l, (([61] : List UInt8) ++ x.1))
        else
          ob (R_RowsWith l c.Row ([] : List UInt8) false) fun x2 =>
          some (x2, ([111, 107] : List UInt8))
theorem R_Called_ok (l : List Pair) (c : Call) (r : List Pair × List UInt8) (hF : R_Called l c = some r) : Pe Try.prog 12 ⟨[], [], [], [], []⟩ [.sl 2 (l.map e_Pair), .agg (c_Call c)] (.tup [.row 37 0, .str r.2]) ⟨[], [], [(37, .z 70 2 0 (r.1.map e_Pair))], [], []⟩ := by
  refine Pe_of (N := 58) (res := [.tmp 4, .tmp 5]) (ts := [24, 9]) Ty.ok Fn.b12 Try.func12 rfl rfl rfl rfl rfl rfl ?_
  intro Q g hfin
  unfold R_Called at hF
  refine URs [] [0, 3] [3] [] [] [(3, .ptr 3 0)] [(3, (c_Call c))] [] [] .nil ?_
  refine Wk_seq ?_
  obtain ⟨x, h0, hF⟩ := ob_elim hF
  refine ZR [.callB (.tup [.str x.1, .bool x.2])] [0, 3, 6, 7] [3] [] [(6, .str x.1), (7, .bool x.2)] (.cons (R_StandsIn_ok l c.Row x h0) .nil) ?_
  refine Wk_seq ?_
  refine ZRs [] [0, 3, 6, 7, 31] [3] [] [(31, .bool ((decide (c.Kind = 1)) || (((decide (c.Kind = 3)) && x.2) && (decide (x.1 = c.Old)))))] .nil ?_
  refine Wk_split rfl (fun hb => ?_) (fun hb => ?_)
  · have hF := ite_t hF hb
    refine Wk_seq ?_
    obtain ⟨x1, h1, hF⟩ := ob_elim hF
    refine UR [.callE [] [] [] [] (.row 37 0) ⟨[], [], [(37, .z 70 2 0 (x1.map e_Pair))], [], []⟩] [4, 5] [] [37] [] [(4, .row 37 0), (5, .str ([111, 107] : List UInt8))] [] [(37, .z 70 2 0 (x1.map e_Pair))] [] (.cons (Pe.ren (R_RowsWith_ok l c.Row c.Value true x1 h1) ⟨[], [(31, 37)], [], []⟩) .nil) ?_
    have hF := some_elim hF
    exact Wk_ret (hfin _ ⟨[37], [], [37], [], [], [], by first | (rw [← hF]; kernel_rfl) | kernel_rfl⟩)
  · have hF := ite_f hF hb
    refine Wk_skip ?_
    refine Wk_seq ?_
    refine ZRs [] [0, 3, 6, 7, 40] [3] [] [(40, .bool (decide (c.Kind = 3)))] .nil ?_
    refine Wk_split rfl (fun hb => ?_) (fun hb => ?_)
    · have hF := ite_t hF hb
      refine Wk_seq ?_
      obtain ⟨h2, hF⟩ := asrt_elim hF
      refine UR [.xs (l.map e_Pair)] [4, 5] [] [42] [] [(4, .row 42 1), (5, .str ([110, 111] : List UInt8))] [] [(42, .z 70 2 1 (l.map e_Pair))] [] (.cons (app0_ok e_Pair l) (.cons (appl_ok e_Pair h2) .nil)) ?_
      have hF := some_elim hF
      refine Wk_ren' ⟨[], [(42, 37)], [], []⟩ rfl ?_
      exact Wk_ret (hfin _ ⟨[37], [], [37], [], [], [(37, ⟨0, true, true, false⟩)], by first | (rw [← hF]; kernel_rfl) | kernel_rfl⟩)
    · have hF := ite_f hF hb
      refine Wk_skip ?_
      refine Wk_seq ?_
      refine ZRs [] [0, 3, 6, 44] [3] [] [(44, .bool (!x.2))] .nil ?_
      refine Wk_split rfl (fun hb => ?_) (fun hb => ?_)
      · have hF := ite_t hF hb
        refine Wk_seq ?_
        obtain ⟨h3, hF⟩ := asrt_elim hF
        refine UR [.xs (l.map e_Pair)] [4, 5] [] [46] [] [(4, .row 46 1), (5, .str ([110, 111, 110, 101] : List UInt8))] [] [(46, .z 70 2 1 (l.map e_Pair))] [] (.cons (app0_ok e_Pair l) (.cons (appl_ok e_Pair h3) .nil)) ?_
        have hF := some_elim hF
        refine Wk_ren' ⟨[], [(46, 37)], [], []⟩ rfl ?_
        exact Wk_ret (hfin _ ⟨[37], [], [37], [], [], [(37, ⟨0, true, true, false⟩)], by first | (rw [← hF]; kernel_rfl) | kernel_rfl⟩)
      · have hF := ite_f hF hb
        refine Wk_skip ?_
        refine Wk_seq ?_
        refine ZRs [] [0, 3, 6, 49] [3] [] [(49, .bool (decide (c.Kind = 2)))] .nil ?_
        refine Wk_split rfl (fun hb => ?_) (fun hb => ?_)
        · have hF := ite_t hF hb
          refine Wk_seq ?_
          obtain ⟨h4, hF⟩ := asrt_elim hF
          obtain ⟨h5, hF⟩ := asrt_elim hF
          refine UR [.xs (l.map e_Pair)] [4, 5] [] [51] [] [(4, .row 51 1), (5, .str (([61] : List UInt8) ++ x.1))] [] [(51, .z 70 2 1 (l.map e_Pair))] [] (.cons (app0_ok e_Pair l) (.cons (appl_ok e_Pair h4) (.cons (cat_ok h5) .nil))) ?_
          have hF := some_elim hF
          refine Wk_ren' ⟨[], [(51, 37)], [], []⟩ rfl ?_
          exact Wk_ret (hfin _ ⟨[37], [], [37], [], [], [(37, ⟨0, true, true, false⟩)], by first | (rw [← hF]; kernel_rfl) | kernel_rfl⟩)
        · have hF := ite_f hF hb
          refine Wk_skip ?_
          refine Wk_seq ?_
          obtain ⟨x2, h6, hF⟩ := ob_elim hF
          refine UR [.callE [] [] [] [] (.row 57 0) ⟨[], [], [(57, .z 70 2 0 (x2.map e_Pair))], [], []⟩] [4, 5] [] [57] [] [(4, .row 57 0), (5, .str ([111, 107] : List UInt8))] [] [(57, .z 70 2 0 (x2.map e_Pair))] [] (.cons (Pe.ren (R_RowsWith_ok l c.Row ([] : List UInt8) false x2 h6) ⟨[], [(31, 57)], [], []⟩) .nil) ?_
          have hF := some_elim hF
          refine Wk_ren' ⟨[], [(57, 37)], [], []⟩ rfl ?_
          exact Wk_ret (hfin _ ⟨[37], [], [37], [], [], [], by first | (rw [← hF]; kernel_rfl) | kernel_rfl⟩)

/- tabularyref.Called -/
noncomputable def R_Called_v1 (l : List Pair) (c : Call) : Option (List Pair × List UInt8) :=
  ob (R_StandsIn l c.Row) fun x =>
  if ((decide (c.Kind = 1)) || (((decide (c.Kind = 3)) && x.2) && (decide (x.1 = c.Old)))) = true then
    ob (R_RowsWith l c.Row c.Value true) fun x1 =>
    some (x1, ([111, 107] : List UInt8))
  else
    if (decide (c.Kind = 3)) = true then
      asrt ((l.length : Int) * 32 ≤ 140737488351232) <|
      some (l, ([110, 111] : List UInt8))
    else
      if (!x.2) = true then
        asrt ((l.length : Int) * 32 ≤ 140737488351232) <|
        some (l, ([110, 111, 110, 101] : List UInt8))
      else
        if (decide (c.Kind = 2)) = true then
          asrt ((l.length : Int) * 32 ≤ 140737488351232) <|
          asrt ((([61] : List UInt8).length : Int) + x.1.length ≤ 9223372036854775807) <|
          some (l, (([61] : List UInt8) ++ x.1))
        else
          ob (R_RowsWith l c.Row ([] : List UInt8) false) fun x2 =>
          some (x2, ([111, 107] : List UInt8))
theorem R_Called_v1_ok (l : List Pair) (c : Call) (r : List Pair × List UInt8) (hF : R_Called_v1 l c = some r) : Pe Try.prog 12 S.none [.sl 2 (l.map e_Pair), .agg (c_Call c)] (.tup [.sl 2 (r.1.map e_Pair), .str r.2]) S.none := by
  refine Pe_of (N := 58) (res := [.tmp 4, .tmp 5]) (ts := [24, 9]) Ty.ok Fn.b12 Try.func12 rfl rfl rfl rfl rfl rfl ?_
  intro Q g hfin
  unfold R_Called_v1 at hF
  refine URs [] [0, 3] [3] [] [] [(3, .ptr 3 0)] [(3, (c_Call c))] [] [] .nil ?_
  refine Wk_seq ?_
  obtain ⟨x, h0, hF⟩ := ob_elim hF
  refine ZR [.callB (.tup [.str x.1, .bool x.2])] [0, 3, 6, 7] [3] [] [(6, .str x.1), (7, .bool x.2)] (.cons (R_StandsIn_ok l c.Row x h0) .nil) ?_
  refine Wk_seq ?_
  refine ZRs [] [0, 3, 6, 7, 31] [3] [] [(31, .bool ((decide (c.Kind = 1)) || (((decide (c.Kind = 3)) && x.2) && (decide (x.1 = c.Old)))))] .nil ?_
  refine Wk_split rfl (fun hb => ?_) (fun hb => ?_)
  · have hF := ite_t hF hb
    refine Wk_seq ?_
    obtain ⟨x1, h1, hF⟩ := ob_elim hF
    refine UR [.callE [] [] [] [] (.row 37 0) ⟨[], [], [(37, .z 70 2 0 (x1.map e_Pair))], [], []⟩] [4, 5] [] [37] [] [(4, .row 37 0), (5, .str ([111, 107] : List UInt8))] [] [(37, .z 70 2 0 (x1.map e_Pair))] [] (.cons (Pe.ren (R_RowsWith_ok l c.Row c.Value true x1 h1) ⟨[], [(31, 37)], [], []⟩) .nil) ?_
    have hF := some_elim hF
    exact Wk_ret (hfin _ ⟨[], [], [], [], [], [], by first | (rw [← hF]; kernel_rfl) | kernel_rfl⟩)
  · have hF := ite_f hF hb
    refine Wk_skip ?_
    refine Wk_seq ?_
    refine ZRs [] [0, 3, 6, 7, 40] [3] [] [(40, .bool (decide (c.Kind = 3)))] .nil ?_
    refine Wk_split rfl (fun hb => ?_) (fun hb => ?_)
    · have hF := ite_t hF hb
      refine Wk_seq ?_
      obtain ⟨h2, hF⟩ := asrt_elim hF
      refine UR [.xs (l.map e_Pair)] [4, 5] [] [42] [] [(4, .row 42 1), (5, .str ([110, 111] : List UInt8))] [] [(42, .z 70 2 1 (l.map e_Pair))] [] (.cons (app0_ok e_Pair l) (.cons (appl_ok e_Pair h2) .nil)) ?_
      have hF := some_elim hF
      exact Wk_ret (hfin _ ⟨[], [], [], [], [], [], by first | (rw [← hF]; kernel_rfl) | kernel_rfl⟩)
    · have hF := ite_f hF hb
      refine Wk_skip ?_
      refine Wk_seq ?_
      refine ZRs [] [0, 3, 6, 44] [3] [] [(44, .bool (!x.2))] .nil ?_
      refine Wk_split rfl (fun hb => ?_) (fun hb => ?_)
      · have hF := ite_t hF hb
        refine Wk_seq ?_
        obtain ⟨h3, hF⟩ := asrt_elim hF
        refine UR [.xs (l.map e_Pair)] [4, 5] [] [46] [] [(4, .row 46 1), (5, .str ([110, 111, 110, 101] : List UInt8))] [] [(46, .z 70 2 1 (l.map e_Pair))] [] (.cons (app0_ok e_Pair l) (.cons (appl_ok e_Pair h3) .nil)) ?_
        have hF := some_elim hF
        exact Wk_ret (hfin _ ⟨[], [], [], [], [], [], by first | (rw [← hF]; kernel_rfl) | kernel_rfl⟩)
      · have hF := ite_f hF hb
        refine Wk_skip ?_
        refine Wk_seq ?_
        refine ZRs [] [0, 3, 6, 49] [3] [] [(49, .bool (decide (c.Kind = 2)))] .nil ?_
        refine Wk_split rfl (fun hb => ?_) (fun hb => ?_)
        · have hF := ite_t hF hb
          refine Wk_seq ?_
          obtain ⟨h4, hF⟩ := asrt_elim hF
          obtain ⟨h5, hF⟩ := asrt_elim hF
          refine UR [.xs (l.map e_Pair)] [4, 5] [] [51] [] [(4, .row 51 1), (5, .str (([61] : List UInt8) ++ x.1))] [] [(51, .z 70 2 1 (l.map e_Pair))] [] (.cons (app0_ok e_Pair l) (.cons (appl_ok e_Pair h4) (.cons (cat_ok h5) .nil))) ?_
          have hF := some_elim hF
          exact Wk_ret (hfin _ ⟨[], [], [], [], [], [], by first | (rw [← hF]; kernel_rfl) | kernel_rfl⟩)
        · have hF := ite_f hF hb
          refine Wk_skip ?_
          refine Wk_seq ?_
          obtain ⟨x2, h6, hF⟩ := ob_elim hF
          refine UR [.callE [] [] [] [] (.row 57 0) ⟨[], [], [(57, .z 70 2 0 (x2.map e_Pair))], [], []⟩] [4, 5] [] [57] [] [(4, .row 57 0), (5, .str ([111, 107] : List UInt8))] [] [(57, .z 70 2 0 (x2.map e_Pair))] [] (.cons (Pe.ren (R_RowsWith_ok l c.Row ([] : List UInt8) false x2 h6) ⟨[], [(31, 57)], [], []⟩) .nil) ?_
          have hF := some_elim hF
          exact Wk_ret (hfin _ ⟨[], [], [], [], [], [], by first | (rw [← hF]; kernel_rfl) | kernel_rfl⟩)

/- tabularylaw.OnceOnly -/
noncomputable def law_OnceOnly_J1 (v : Ledger × List Pair × (List (Int × Memo))) : Option Bool :=
  ob (R_SameRows v.1.Rows v.2.1) fun x1 =>
  some (x1 && (decide ((v.1.Memos.length : Int) = (v.2.2.length : Int))))
noncomputable def law_OnceOnly_J2 (v1 : Ledger × List Pair × (List (Int × Memo)) × Int) (v2 : Ledger × List Pair × (List (Int × Memo))) : Option ((Ledger × List Pair × (List (Int × Memo)) × Int) ⊕ Bool) :=
  some (Sum.inl (v2.1, v2.2.1, v2.2.2, w64 (v1.2.2.2 + 1)))
noncomputable def law_OnceOnly_B1 (calls : List Call) (v1 : Ledger × List Pair × (List (Int × Memo)) × Int) : Option ((Ledger × List Pair × (List (Int × Memo)) × Int) ⊕ Bool) :=
  if (decide (v1.2.2.2 < (calls.length : Int))) = true then
    asrt (0 ≤ v1.2.2.2 ∧ v1.2.2.2 < (calls.length : Int)) <|
    ob (once_Do_v1 v1.1 (⟨(lget calls v1.2.2.2).Client, (lget calls v1.2.2.2).Seq, (lget calls v1.2.2.2).Kind, (lget calls v1.2.2.2).Row, (lget calls v1.2.2.2).Value, (lget calls v1.2.2.2).Old⟩ : Call)) fun x2 =>
    lt (R_CallFault (⟨(lget calls v1.2.2.2).Client, (lget calls v1.2.2.2).Seq, (lget calls v1.2.2.2).Kind, (lget calls v1.2.2.2).Row, (lget calls v1.2.2.2).Value, (lget calls v1.2.2.2).Old⟩ : Call)) fun x3 =>
    if (!decide (x3.Code = 0)) = true then
      if (decide (x2.2.2.Code = 0)) = true then
        some (Sum.inr false)
      else
        law_OnceOnly_J2 v1 (v1.1, v1.2.1, v1.2.2.1)
    else
      if (decide (((lget calls v1.2.2.2).Seq) = (((mget v1.2.2.1 ((lget calls v1.2.2.2).Client)).getD ((⟨0, 0, ([] : List UInt8)⟩ : Memo) : Memo)).Seq))) = true then
        ob (if (!((!decide (x2.2.2.Code = 0)) || (!decide (x2.2.1 = (((mget v1.2.2.1 ((lget calls v1.2.2.2).Client)).getD ((⟨0, 0, ([] : List UInt8)⟩ : Memo) : Memo)).Said))))) = true then (R_SameLedger x2.1 v1.1) else some default) fun x4 =>
        if (((!decide (x2.2.2.Code = 0)) || (!decide (x2.2.1 = (((mget v1.2.2.1 ((lget calls v1.2.2.2).Client)).getD ((⟨0, 0, ([] : List UInt8)⟩ : Memo) : Memo)).Said)))) || (!x4)) = true then
          some (Sum.inr false)
        else
          law_OnceOnly_J2 v1 (v1.1, v1.2.1, v1.2.2.1)
      else
        if (decide (((lget calls v1.2.2.2).Seq) = (w64 ((((mget v1.2.2.1 ((lget calls v1.2.2.2).Client)).getD ((⟨0, 0, ([] : List UInt8)⟩ : Memo) : Memo)).Seq) + 1)))) = true then
          ob (R_Called_v1 v1.2.1 (⟨(lget calls v1.2.2.2).Client, (lget calls v1.2.2.2).Seq, (lget calls v1.2.2.2).Kind, (lget calls v1.2.2.2).Row, (lget calls v1.2.2.2).Value, (lget calls v1.2.2.2).Old⟩ : Call)) fun x5 =>
          ob (if (!((!decide (x2.2.2.Code = 0)) || (!decide (x2.2.1 = x5.2)))) = true then (R_SameRows x2.1.Rows x5.1) else some default) fun x6 =>
          if (((!decide (x2.2.2.Code = 0)) || (!decide (x2.2.1 = x5.2))) || (!x6)) = true then
            some (Sum.inr false)
          else
            lt ((mput v1.2.2.1 ((lget calls v1.2.2.2).Client) ((⟨(lget calls v1.2.2.2).Client, (lget calls v1.2.2.2).Seq, x2.2.1⟩ : Memo) : Memo))) fun (v3 : (List (Int × Memo))) =>
            law_OnceOnly_J2 v1 (x2.1, x5.1, v3)
        else
          if ((decide (x2.2.2.Code = 0)) || (!decide (x2.2.1 = ([] : List UInt8)))) = true then
            some (Sum.inr false)
          else
            law_OnceOnly_J2 v1 (v1.1, v1.2.1, v1.2.2.1)
  else
    inrO (law_OnceOnly_J1 (v1.1, v1.2.1, v1.2.2.1))
noncomputable def law_OnceOnly_L1 (calls : List Call) (v0 : Ledger × List Pair × (List (Int × Memo)) × Int) : Option Bool :=
  loopO (fun y => law_OnceOnly_B1 calls y) v0
noncomputable def law_OnceOnly (calls : List Call) : Option Bool :=
  ob (law_onceBegun) fun x =>
  if (!x) = true then
    some false
  else
    if (decide (300 < (calls.length : Int))) = true then
      some true
    else
      law_OnceOnly_L1 calls ((⟨([] : List Pair), ([] : List Memo)⟩ : Ledger), ([] : List Pair), ([] : List (Int × Memo)), 0)
theorem law_OnceOnly_ok (calls : List Call) (r : Bool) (hF : law_OnceOnly calls = some r) : Pe Try.prog 3 S.none [.sl 6 (calls.map e_Call)] (.bool r) S.none := by
  refine Pe_of (N := 131) (res := [.tmp 2]) (ts := [4]) Ty.ok Fn.b3 Try.func3 rfl rfl rfl rfl rfl rfl ?_
  intro Q g hfin
  unfold law_OnceOnly at hF
  refine ZRs [] [0] [] [] [] .nil ?_
  refine Wk_seq ?_
  refine Wk_seq ?_
  obtain ⟨x, h0, hF⟩ := ob_elim hF
  refine ZR [.callB (.bool x)] [0, 14] [] [] [(14, .bool (!x))] (.cons (law_onceBegun_ok  x h0) .nil) ?_
  refine Wk_split rfl (fun hb => ?_) (fun hb => ?_)
  · have hF := ite_t hF hb
    refine ZRs [] [2] [] [] [(2, .bool false)] .nil ?_
    have hF := some_elim hF
    exact Wk_ret (hfin _ ⟨[], [], [], [], [], [], by first | (rw [← hF]; kernel_rfl) | kernel_rfl⟩)
  · have hF := ite_f hF hb
    refine Wk_skip ?_
    refine Wk_seq ?_
    refine ZRs [.nat (calls.length : Int)] [0, 17] [] [] [(17, .bool (decide (300 < (calls.length : Int))))] (.cons (len_ok e_Call calls) .nil) ?_
    refine Wk_split rfl (fun hb => ?_) (fun hb => ?_)
    · have hF := ite_t hF hb
      refine ZRs [] [2] [] [] [(2, .bool true)] .nil ?_
      have hF := some_elim hF
      exact Wk_ret (hfin _ ⟨[], [], [], [], [], [], by first | (rw [← hF]; kernel_rfl) | kernel_rfl⟩)
    · have hF := ite_f hF hb
      refine Wk_skip ?_
      refine URs [] [0, 3] [3] [] [] [(3, .ptr 3 0)] [(3, [.nils, .nils])] [] [] .nil ?_
      refine ZRs [] [0, 3, 4] [3] [] [(4, .nils)] .nil ?_
      refine URs [] [0, 3, 4, 5] [3] [] [18] [(5, .mp 18)] [] [] [(18, (([] : List (Int × Memo)).map (fun p => (e_i64 p.1, e_Memo p.2))))] .nil ?_
      refine Wk_seq ?_
      refine URs [] [0, 3, 4, 5, 6] [3] [] [18] [(6, .i 0)] [] [] [] .nil ?_
      refine Wk_meetP (fun v : Ledger × List Pair × (List (Int × Memo)) => (⟨[(3, .ptr 3 0), (4, .sl 2 (v.2.1.map e_Pair)), (5, .mp 18)], [(3, [.sl 2 (v.1.Rows.map e_Pair), .sl 3 (v.1.Memos.map e_Memo)])], [], [(18, (v.2.2.map (fun p => (e_i64 p.1, e_Memo p.2))))], []⟩ : S)) (fun v => law_OnceOnly_J1 v = some r) ?_ ?_
      · refine Wk_block ?_
        unfold law_OnceOnly_L1 at hF
        refine Wk_coe 4 (.sl 2 (([] : List Pair).map e_Pair)) rfl (.cell rfl (CoeS.nils 2)) ?_
        refine Wk_coeB 3 [.sl 2 (([] : List Pair).map e_Pair), .sl 3 (([] : List Memo).map e_Memo)] rfl (.cons (CoeS.nils 2) (.cons (CoeS.nils 3) .nil)) ?_
        refine Wk_trim (fs := [0, 3, 4, 5, 6]) (bs := [3]) (rs := []) (ms := [18]) (aa := []) (nv := []) (t := (fun v1 : Ledger × List Pair × (List (Int × Memo)) × Int => (⟨[(0, .sl 6 (calls.map e_Call)), (3, .ptr 3 0), (4, .sl 2 (v1.2.1.map e_Pair)), (5, .mp 18), (6, .i v1.2.2.2)], [(3, [.sl 2 (v1.1.Rows.map e_Pair), .sl 3 (v1.1.Memos.map e_Memo)])], [], [(18, (v1.2.2.1.map (fun p => (e_i64 p.1, e_Memo p.2))))], []⟩ : S)) ((⟨([] : List Pair), ([] : List Memo)⟩ : Ledger), ([] : List Pair), ([] : List (Int × Memo)), 0)) (by kernel_rfl) ?_
        refine Wk_iter (step := fun y => law_OnceOnly_B1 calls y) (r := r) (fun v1 : Ledger × List Pair × (List (Int × Memo)) × Int => (⟨[(0, .sl 6 (calls.map e_Call)), (3, .ptr 3 0), (4, .sl 2 (v1.2.1.map e_Pair)), (5, .mp 18), (6, .i v1.2.2.2)], [(3, [.sl 2 (v1.1.Rows.map e_Pair), .sl 3 (v1.1.Memos.map e_Memo)])], [], [(18, (v1.2.2.1.map (fun p => (e_i64 p.1, e_Memo p.2))))], []⟩ : S)) ((⟨([] : List Pair), ([] : List Memo)⟩ : Ledger), ([] : List Pair), ([] : List (Int × Memo)), 0) hF ?_
        intro n1 v1 y1 hF ih1 dn1
        have hF : law_OnceOnly_B1 calls v1 = some y1 := hF
        unfold law_OnceOnly_B1 at hF
        refine Wk_seq ?_
        refine URs [.nat (calls.length : Int)] [0, 3, 4, 5, 6, 22] [3] [] [18] [(22, .bool (decide (v1.2.2.2 < (calls.length : Int))))] [] [] [] (.cons (len_ok e_Call calls) .nil) ?_
        refine Wk_split rfl (fun hb => ?_) (fun hb => ?_)
        · have hF := ite_t hF hb
          refine Wk_skip ?_
          refine Wk_seq ?_
          refine Wk_meetP (fun v2 : Ledger × List Pair × (List (Int × Memo)) => (⟨[(0, .sl 6 (calls.map e_Call)), (3, .ptr 3 0), (4, .sl 2 (v2.2.1.map e_Pair)), (5, .mp 18), (6, .i v1.2.2.2)], [(3, [.sl 2 (v2.1.Rows.map e_Pair), .sl 3 (v2.1.Memos.map e_Memo)])], [], [(18, (v2.2.2.map (fun p => (e_i64 p.1, e_Memo p.2))))], []⟩ : S)) (fun v2 => law_OnceOnly_J2 v1 v2 = some y1) ?_ ?_
          · refine Wk_block ?_
            refine Wk_seq ?_
            obtain ⟨h2, hF⟩ := asrt_elim hF
            refine UR [.av (e_Call (lget calls v1.2.2.2))] [0, 3, 4, 5, 6, 7] [3, 7] [] [18] [(7, .ptr 7 0)] [(7, (c_Call (lget calls v1.2.2.2)))] [] [] (.cons (idx_ok e_Call h2) .nil) ?_
            refine Wk_seq ?_
            obtain ⟨x2, h3, hF⟩ := ob_elim hF
            refine UR [.call (.tup [.agg [.sl 2 (x2.1.Rows.map e_Pair), .sl 3 (x2.1.Memos.map e_Memo)], .str x2.2.1, .agg [.i x2.2.2.Code, .i x2.2.2.At]])] [0, 3, 4, 5, 6, 7, 8, 9, 10] [3, 7, 8, 10] [] [18] [(8, .ptr 8 0), (9, .str x2.2.1), (10, .ptr 10 0)] [(8, [.sl 2 (x2.1.Rows.map e_Pair), .sl 3 (x2.1.Memos.map e_Memo)]), (10, [.i x2.2.2.Code, .i x2.2.2.At])] [] [] (.cons (once_Do_v1_ok v1.1 (⟨(lget calls v1.2.2.2).Client, (lget calls v1.2.2.2).Seq, (lget calls v1.2.2.2).Kind, (lget calls v1.2.2.2).Row, (lget calls v1.2.2.2).Value, (lget calls v1.2.2.2).Old⟩ : Call) x2 h3) .nil) ?_
            refine Wk_seq ?_
            refine Wk_seq ?_
            obtain ⟨x3, h4, hF⟩ := lt_split hF
            refine UR [.callB (.agg [.i x3.Code, .i x3.At])] [0, 3, 4, 5, 6, 7, 8, 9, 10, 39] [3, 7, 8, 10] [] [18] [(39, .bool (!decide (x3.Code = 0)))] [] [] [] (.cons (R_CallFault_ok (⟨(lget calls v1.2.2.2).Client, (lget calls v1.2.2.2).Seq, (lget calls v1.2.2.2).Kind, (lget calls v1.2.2.2).Row, (lget calls v1.2.2.2).Value, (lget calls v1.2.2.2).Old⟩ : Call) x3 h4) .nil) ?_
            refine Wk_split rfl (fun hb => ?_) (fun hb => ?_)
            · have hF := ite_t hF hb
              refine Wk_seq ?_
              refine URs [] [0, 3, 4, 5, 6, 42] [3] [] [18] [(42, .bool (decide (x2.2.2.Code = 0)))] [] [] [] .nil ?_
              refine Wk_split rfl (fun hb => ?_) (fun hb => ?_)
              · have hF := ite_t hF hb
                refine ZRs [] [2] [] [] [(2, .bool false)] .nil ?_
                have hF := ret_done hF dn1
                have hF := some_elim hF
                exact Wk_ret (hfin _ ⟨[], [], [], [], [], [], by first | (rw [← hF]; kernel_rfl) | kernel_rfl⟩)
              · have hF := ite_f hF hb
                refine Wk_skip ?_
                refine Wk_exit rfl ?_
                exact Wk_metP (v1.1, v1.2.1, v1.2.2.1) [0, 3, 4, 5, 6] [3] [] [18] [] [] hF (by kernel_rfl)
            · have hF := ite_f hF hb
              refine Wk_skip ?_
              refine Wk_block ?_
              refine URs [.av (e_Memo ((mget v1.2.2.1 ((lget calls v1.2.2.2).Client)).getD ((⟨0, 0, ([] : List UInt8)⟩ : Memo) : Memo))), .bo ((mget v1.2.2.1 ((lget calls v1.2.2.2).Client)).isSome)] [0, 3, 4, 5, 6, 7, 8, 9, 10, 50] [3, 7, 8, 10] [] [18] [(50, .bool (decide (((lget calls v1.2.2.2).Seq) = (((mget v1.2.2.1 ((lget calls v1.2.2.2).Client)).getD ((⟨0, 0, ([] : List UInt8)⟩ : Memo) : Memo)).Seq))))] [] [] [] (.cons (mkeys_ok (kenc_i64 : KEnc _ e_i64) e_Memo v1.2.2.1) (.cons (mlook_ok (kenc_i64 : KEnc _ e_i64) e_Memo v1.2.2.1 ((lget calls v1.2.2.2).Client) ((⟨0, 0, ([] : List UInt8)⟩ : Memo) : Memo)) (.cons (msome_ok (kenc_i64 : KEnc _ e_i64) e_Memo v1.2.2.1 ((lget calls v1.2.2.2).Client)) .nil))) ?_
              refine Wk_split rfl (fun hb => ?_) (fun hb => ?_)
              · have hF := ite_t hF hb
                refine Wk_seq ?_
                obtain ⟨x4, h5, hF⟩ := ob_elim hF
                refine UR [.av (e_Memo ((mget v1.2.2.1 ((lget calls v1.2.2.2).Client)).getD ((⟨0, 0, ([] : List UInt8)⟩ : Memo) : Memo))), .bo ((mget v1.2.2.1 ((lget calls v1.2.2.2).Client)).isSome), .callB (.bool x4)] [0, 3, 4, 5, 6, 76] [3] [] [18] [(76, .bool (((!decide (x2.2.2.Code = 0)) || (!decide (x2.2.1 = (((mget v1.2.2.1 ((lget calls v1.2.2.2).Client)).getD ((⟨0, 0, ([] : List UInt8)⟩ : Memo) : Memo)).Said)))) || (!x4)))] [] [] [] (.cons (fun (_ : (!(!decide (x2.2.2.Code = 0))) = true) => (mkeys_ok (kenc_i64 : KEnc _ e_i64) e_Memo v1.2.2.1)) (.cons (fun (_ : (!(!decide (x2.2.2.Code = 0))) = true) => (mlook_ok (kenc_i64 : KEnc _ e_i64) e_Memo v1.2.2.1 ((lget calls v1.2.2.2).Client) ((⟨0, 0, ([] : List UInt8)⟩ : Memo) : Memo))) (.cons (fun (_ : (!(!decide (x2.2.2.Code = 0))) = true) => (msome_ok (kenc_i64 : KEnc _ e_i64) e_Memo v1.2.2.1 ((lget calls v1.2.2.2).Client))) (.cons (fun (ga0 : (!((!decide (x2.2.2.Code = 0)) || (!decide (x2.2.1 = (((mget v1.2.2.1 ((lget calls v1.2.2.2).Client)).getD ((⟨0, 0, ([] : List UInt8)⟩ : Memo) : Memo)).Said))))) = true) => (R_SameLedger_ok x2.1 v1.1 x4 (ite_t h5 ga0))) .nil)))) ?_
                refine Wk_split rfl (fun hb => ?_) (fun hb => ?_)
                · have hF := ite_t hF hb
                  refine ZRs [] [2] [] [] [(2, .bool false)] .nil ?_
                  have hF := ret_done hF dn1
                  have hF := some_elim hF
                  exact Wk_ret (hfin _ ⟨[], [], [], [], [], [], by first | (rw [← hF]; kernel_rfl) | kernel_rfl⟩)
                · have hF := ite_f hF hb
                  refine Wk_skip ?_
                  refine Wk_blk ?_
                  refine Wk_blk ?_
                  exact Wk_metP (v1.1, v1.2.1, v1.2.2.1) [0, 3, 4, 5, 6] [3] [] [18] [] [] hF (by kernel_rfl)
              · have hF := ite_f hF hb
                refine URs [.av (e_Memo ((mget v1.2.2.1 ((lget calls v1.2.2.2).Client)).getD ((⟨0, 0, ([] : List UInt8)⟩ : Memo) : Memo))), .bo ((mget v1.2.2.1 ((lget calls v1.2.2.2).Client)).isSome)] [0, 3, 4, 5, 6, 7, 8, 9, 10, 77] [3, 7, 8, 10] [] [18] [(77, .bool (decide (((lget calls v1.2.2.2).Seq) = (w64 ((((mget v1.2.2.1 ((lget calls v1.2.2.2).Client)).getD ((⟨0, 0, ([] : List UInt8)⟩ : Memo) : Memo)).Seq) + 1)))))] [] [] [] (.cons (mkeys_ok (kenc_i64 : KEnc _ e_i64) e_Memo v1.2.2.1) (.cons (mlook_ok (kenc_i64 : KEnc _ e_i64) e_Memo v1.2.2.1 ((lget calls v1.2.2.2).Client) ((⟨0, 0, ([] : List UInt8)⟩ : Memo) : Memo)) (.cons (msome_ok (kenc_i64 : KEnc _ e_i64) e_Memo v1.2.2.1 ((lget calls v1.2.2.2).Client)) .nil))) ?_
                refine Wk_split rfl (fun hb => ?_) (fun hb => ?_)
                · have hF := ite_t hF hb
                  refine Wk_seq ?_
                  obtain ⟨x5, h6, hF⟩ := ob_elim hF
                  refine UR [.call (.tup [.sl 2 (x5.1.map e_Pair), .str x5.2])] [0, 3, 5, 6, 7, 8, 9, 10, 11, 12] [3, 7, 8, 10] [] [18] [(11, .sl 2 (x5.1.map e_Pair)), (12, .str x5.2)] [] [] [] (.cons (R_Called_v1_ok v1.2.1 (⟨(lget calls v1.2.2.2).Client, (lget calls v1.2.2.2).Seq, (lget calls v1.2.2.2).Kind, (lget calls v1.2.2.2).Row, (lget calls v1.2.2.2).Value, (lget calls v1.2.2.2).Old⟩ : Call) x5 h6) .nil) ?_
                  refine Wk_seq ?_
                  refine Wk_seq ?_
                  obtain ⟨x6, h7, hF⟩ := ob_elim hF
                  refine UR [.callB (.bool x6)] [0, 3, 5, 6, 7, 8, 9, 11, 107] [3, 7, 8] [] [18] [(107, .bool (((!decide (x2.2.2.Code = 0)) || (!decide (x2.2.1 = x5.2))) || (!x6)))] [] [] [] (.cons (fun (ga0 : (!((!decide (x2.2.2.Code = 0)) || (!decide (x2.2.1 = x5.2)))) = true) => (R_SameRows_ok x2.1.Rows x5.1 x6 (ite_t h7 ga0))) .nil) ?_
                  refine Wk_split rfl (fun hb => ?_) (fun hb => ?_)
                  · have hF := ite_t hF hb
                    refine ZRs [] [2] [] [] [(2, .bool false)] .nil ?_
                    have hF := ret_done hF dn1
                    have hF := some_elim hF
                    exact Wk_ret (hfin _ ⟨[], [], [], [], [], [], by first | (rw [← hF]; kernel_rfl) | kernel_rfl⟩)
                  · have hF := ite_f hF hb
                    refine Wk_skip ?_
                    refine URs [] [0, 3, 4, 5, 6, 7, 8, 9] [3, 7, 8] [] [18] [(4, .sl 2 (x5.1.map e_Pair))] [] [] [] .nil ?_
                    refine Wk_seq ?_
                    refine WRL ((mput v1.2.2.1 ((lget calls v1.2.2.2).Client) ((⟨(lget calls v1.2.2.2).Client, (lget calls v1.2.2.2).Seq, x2.2.1⟩ : Memo) : Memo))) (fun v3 : (List (Int × Memo)) => ⟨[(0, .sl 6 (calls.map e_Call)), (3, .ptr 3 0), (4, .sl 2 (x5.1.map e_Pair)), (5, .mp 18), (6, .i v1.2.2.2), (8, .ptr 8 0)], [(3, [.sl 2 (v1.1.Rows.map e_Pair), .sl 3 (v1.1.Memos.map e_Memo)]), (8, [.sl 2 (x2.1.Rows.map e_Pair), .sl 3 (x2.1.Memos.map e_Memo)])], [], [(18, (v3.map (fun p => (e_i64 p.1, e_Memo p.2))))], []⟩) [.ms ((mput v1.2.2.1 ((lget calls v1.2.2.2).Client) ((⟨(lget calls v1.2.2.2).Client, (lget calls v1.2.2.2).Seq, x2.2.1⟩ : Memo) : Memo)).map (fun p => (e_i64 p.1, e_Memo p.2)))] [0, 3, 4, 5, 6, 8] [3, 8] [] [18] [] [] (.cons (mkeys_ok (kenc_i64 : KEnc _ e_i64) e_Memo v1.2.2.1) (.cons (mput_ok (kenc_i64 : KEnc _ e_i64) e_Memo v1.2.2.1 ((lget calls v1.2.2.2).Client) ((⟨(lget calls v1.2.2.2).Client, (lget calls v1.2.2.2).Seq, x2.2.1⟩ : Memo) : Memo)) .nil)) (by kernel_rfl) (fun v3 hv => ?_)
                    have hF := lt_elim hF hv
                    refine UR [] [0, 3, 4, 5, 6] [3] [] [18] [] [(3, [.sl 2 (x2.1.Rows.map e_Pair), .sl 3 (x2.1.Memos.map e_Memo)])] [] [] .nil ?_
                    refine Wk_blk ?_
                    refine Wk_blk ?_
                    exact Wk_metP (x2.1, x5.1, v3) [0, 3, 4, 5, 6] [3] [] [18] [] [] hF (by kernel_rfl)
                · have hF := ite_f hF hb
                  refine URs [] [0, 3, 4, 5, 6, 49] [3] [] [18] [(49, .bool ((decide (x2.2.2.Code = 0)) || (!decide (x2.2.1 = ([] : List UInt8)))))] [] [] [] .nil ?_
                  refine Wk_split rfl (fun hb => ?_) (fun hb => ?_)
                  · have hF := ite_t hF hb
                    refine ZRs [] [2] [] [] [(2, .bool false)] .nil ?_
                    have hF := ret_done hF dn1
                    have hF := some_elim hF
                    exact Wk_ret (hfin _ ⟨[], [], [], [], [], [], by first | (rw [← hF]; kernel_rfl) | kernel_rfl⟩)
                  · have hF := ite_f hF hb
                    refine Wk_skip ?_
                    refine Wk_blk ?_
                    refine Wk_blk ?_
                    exact Wk_metP (v1.1, v1.2.1, v1.2.2.1) [0, 3, 4, 5, 6] [3] [] [18] [] [] hF (by kernel_rfl)
          · intro v2 hF
            have hF : law_OnceOnly_J2 v1 v2 = some y1 := hF
            unfold law_OnceOnly_J2 at hF
            refine UR [] [0, 3, 4, 5, 6] [3] [] [18] [(6, .i (w64 (v1.2.2.2 + 1)))] [] [] [] .nil ?_
            refine Wk_trim (fs := [0, 3, 4, 5, 6]) (bs := [3]) (rs := []) (ms := [18]) (aa := []) (nv := []) ?_ (ih1 _ (some_elim hF).symm)
            kernel_rfl
        · have hF := ite_f hF hb
          refine Wk_exit rfl ?_
          have hF := inrO_done hF dn1
          exact Wk_metP (v1.1, v1.2.1, v1.2.2.1) [3, 4, 5] [3] [] [18] [] [] hF (by kernel_rfl)
      · intro v hF
        have hF : law_OnceOnly_J1 v = some r := hF
        unfold law_OnceOnly_J1 at hF
        refine Wk_seq ?_
        obtain ⟨x1, h1, hF⟩ := ob_elim hF
        refine ZR [.callB (.bool x1), .nat (v.1.Memos.length : Int), .nat (v.2.2.length : Int)] [2] [] [] [(2, .bool (x1 && (decide ((v.1.Memos.length : Int) = (v.2.2.length : Int)))))] (.cons (R_SameRows_ok v.1.Rows v.2.1 x1 h1) (.cons (fun (_ : x1 = true) => (len_ok e_Memo v.1.Memos)) (.cons (fun (_ : x1 = true) => (mlen_ok (fun p => (e_i64 p.1, e_Memo p.2)) v.2.2)) .nil))) ?_
        have hF := some_elim hF
        exact Wk_ret (hfin _ ⟨[], [], [], [], [], [], by first | (rw [← hF]; kernel_rfl) | kernel_rfl⟩)

/- tabularylaw.many -/
noncomputable def law_many (num : Int) : Bool :=
  lt (((decide (150 < num)) && (decide (num < 1000))) || (decide (2000 < num))) fun (v : Bool) =>
  v
theorem law_many_ok (num : Int) (r : Bool) (hF : law_many num = r) : Pe Try.prog 14 S.none [.i num] (.bool r) S.none := by
  refine Pe_of (N := 13) (res := [.tmp 2]) (ts := [4]) Ty.ok Fn.b14 Try.func14 rfl rfl rfl rfl rfl rfl ?_
  intro Q g hfin
  unfold law_many at hF
  refine ZRs [] [0] [] [] [] .nil ?_
  refine Wk_seq ?_
  refine WRL (((decide (150 < num)) && (decide (num < 1000))) || (decide (2000 < num))) (fun v : Bool => ⟨[(2, .bool v)], [], [], [], []⟩) [] [2] [] [] [] [] [] .nil (by kernel_rfl) (fun v hv => ?_)
  have hF := lt_elim hF hv
  exact Wk_ret (hfin _ ⟨[], [], [], [], [], [], by first | (rw [← hF]; kernel_rfl) | kernel_rfl⟩)

/- tabularyref.CopyLedger -/
noncomputable def R_CopyLedger (l : Ledger) : Option (List Pair × List Memo) :=
  asrt ((l.Rows.length : Int) * 32 ≤ 140737488351232) <|
  asrt ((l.Memos.length : Int) * 32 ≤ 140737488351232) <|
  some (l.Rows, l.Memos)
theorem R_CopyLedger_ok (l : Ledger) (r : List Pair × List Memo) (hF : R_CopyLedger l = some r) : Pe Try.prog 15 ⟨[], [], [], [], []⟩ [.agg [.sl 2 (l.Rows.map e_Pair), .sl 3 (l.Memos.map e_Memo)]] (.agg [.row 5 1, .row 8 1]) ⟨[], [], [(5, .z 70 2 1 (r.1.map e_Pair)), (8, .z 37 3 1 (r.2.map e_Memo))], [], []⟩ := by
  refine Pe_of (N := 10) (res := [.cell 2 27]) (ts := [27]) Ty.ok Fn.b15 Try.func15 rfl rfl rfl rfl rfl rfl ?_
  intro Q g hfin
  unfold R_CopyLedger at hF
  refine URs [] [1, 2] [1, 2] [] [] [(1, .ptr 1 0), (2, .ptr 2 0)] [(1, [.sl 2 (l.Rows.map e_Pair), .sl 3 (l.Memos.map e_Memo)]), (2, [.nils, .nils])] [] [] .nil ?_
  refine Wk_seq ?_
  obtain ⟨h0, hF⟩ := asrt_elim hF
  obtain ⟨h1, hF⟩ := asrt_elim hF
  refine UD [.xs (l.Rows.map e_Pair), .xs (l.Memos.map e_Memo)] [2] [2] [5, 8] [] [] [(2, [.row 5 1, .row 8 1])] [(5, .z 70 2 1 (l.Rows.map e_Pair)), (8, .z 37 3 1 (l.Memos.map e_Memo))] [] (.cons (app0_ok e_Pair l.Rows) (.cons (appl_ok e_Pair h0) (.cons (app0_ok e_Memo l.Memos) (.cons (appl_ok e_Memo h1) .nil)))) ?_
  have hF := some_elim hF
  exact Wk_ret (hfin _ ⟨[5, 8], [], [5, 8], [], [], [], by first | (rw [← hF]; kernel_rfl) | kernel_rfl⟩)

/- tabularyref.CopyLedger -/
noncomputable def R_CopyLedger_v1 (l : Ledger) : Option Ledger :=
  asrt ((l.Rows.length : Int) * 32 ≤ 140737488351232) <|
  asrt ((l.Memos.length : Int) * 32 ≤ 140737488351232) <|
  some l
theorem R_CopyLedger_v1_ok (l : Ledger) (r : Ledger) (hF : R_CopyLedger_v1 l = some r) : Pe Try.prog 15 S.none [.agg [.sl 2 (l.Rows.map e_Pair), .sl 3 (l.Memos.map e_Memo)]] (.agg [.sl 2 (r.Rows.map e_Pair), .sl 3 (r.Memos.map e_Memo)]) S.none := by
  refine Pe_of (N := 10) (res := [.cell 2 27]) (ts := [27]) Ty.ok Fn.b15 Try.func15 rfl rfl rfl rfl rfl rfl ?_
  intro Q g hfin
  unfold R_CopyLedger_v1 at hF
  refine URs [] [1, 2] [1, 2] [] [] [(1, .ptr 1 0), (2, .ptr 2 0)] [(1, [.sl 2 (l.Rows.map e_Pair), .sl 3 (l.Memos.map e_Memo)]), (2, [.nils, .nils])] [] [] .nil ?_
  refine Wk_seq ?_
  obtain ⟨h0, hF⟩ := asrt_elim hF
  obtain ⟨h1, hF⟩ := asrt_elim hF
  refine UD [.xs (l.Rows.map e_Pair), .xs (l.Memos.map e_Memo)] [2] [2] [5, 8] [] [] [(2, [.row 5 1, .row 8 1])] [(5, .z 70 2 1 (l.Rows.map e_Pair)), (8, .z 37 3 1 (l.Memos.map e_Memo))] [] (.cons (app0_ok e_Pair l.Rows) (.cons (appl_ok e_Pair h0) (.cons (app0_ok e_Memo l.Memos) (.cons (appl_ok e_Memo h1) .nil)))) ?_
  have hF := some_elim hF
  exact Wk_ret (hfin _ ⟨[], [], [], [], [], [], by first | (rw [← hF]; kernel_rfl) | kernel_rfl⟩)

/- once.Plain -/
noncomputable def once_Plain_v1 (rows : List Pair) (c : Call) : Option (List Pair × List UInt8 × Fault) :=
  ob (once_checkRows rows) fun x =>
  ob (
    if (decide (x.Code = 0)) = true then
      lt (once_called c) fun x1 =>
      some x1
    else
      some x) fun (v : Fault) =>
  if (!decide (v.Code = 0)) = true then
    some (([] : List Pair), ([] : List UInt8), v)
  else
    ob (once_plain rows c) fun x2 =>
    if (decide (1000 < (x2.1.length : Int))) = true then
      lt (once_fault 9 0) fun x3 =>
      some (([] : List Pair), ([] : List UInt8), x3)
    else
      some (x2.1, x2.2, v)
theorem once_Plain_v1_ok (rows : List Pair) (c : Call) (r : List Pair × List UInt8 × Fault) (hF : once_Plain_v1 rows c = some r) : Pe Try.prog 17 S.none [.sl 2 (rows.map e_Pair), .agg (c_Call c)] (.tup [.sl 2 (r.1.map e_Pair), .str r.2.1, .agg [.i r.2.2.Code, .i r.2.2.At]]) S.none := by
  refine Pe_of (N := 34) (res := [.tmp 4, .tmp 5, .cell 6 32]) (ts := [24, 9, 32]) Ty.ok Fn.b17 Try.func17 rfl rfl rfl rfl rfl rfl ?_
  intro Q g hfin
  unfold once_Plain_v1 at hF
  refine URs [] [0, 3, 6] [3, 6] [] [] [(3, .ptr 3 0), (6, .ptr 6 0)] [(3, (c_Call c)), (6, [.i 0, .i 0])] [] [] .nil ?_
  refine Wk_seq ?_
  obtain ⟨x, h0, hF⟩ := ob_elim hF
  refine UR [.callB (.agg [.i x.Code, .i x.At])] [0, 3, 6, 7] [3, 6, 7] [] [] [(7, .ptr 7 0)] [(7, [.i x.Code, .i x.At])] [] [] (.cons (once_checkRows_ok rows x h0) .nil) ?_
  refine Wk_seq ?_
  refine ZRs [] [0, 3, 6, 7, 14] [3, 6, 7] [] [(14, .bool (decide (x.Code = 0)))] .nil ?_
  obtain ⟨v, hv, hF⟩ := ob_elim hF
  refine Wk_meet (⟨[(0, .sl 2 (rows.map e_Pair)), (3, .ptr 3 0), (6, .ptr 6 0), (7, .ptr 7 0)], [(3, (c_Call c)), (6, [.i 0, .i 0]), (7, [.i v.Code, .i v.At])], [], [], []⟩ : S) ?_ ?_
  · have hF := hv
    refine Wk_split rfl (fun hb => ?_) (fun hb => ?_)
    · have hF := ite_t hF hb
      obtain ⟨x1, h1, hF⟩ := lt_split hF
      refine UR [.callB (.agg [.i x1.Code, .i x1.At])] [0, 3, 6, 7] [3, 6, 7] [] [] [] [(7, [.i x1.Code, .i x1.At])] [] [] (.cons (once_called_ok c x1 h1) .nil) ?_
      exact Wk_met (fs := [0, 3, 6, 7]) (bs := [3, 6, 7]) (rs := []) (ms := []) (aa := []) (nv := []) (by first | (rw [← some_elim hF]; kernel_rfl) | kernel_rfl)
    · have hF := ite_f hF hb
      refine Wk_skip ?_
      exact Wk_met (fs := [0, 3, 6, 7]) (bs := [3, 6, 7]) (rs := []) (ms := []) (aa := []) (nv := []) (by first | (rw [← some_elim hF]; kernel_rfl) | kernel_rfl)
  · refine Wk_seq ?_
    refine ZRs [] [0, 3, 6, 7, 19] [3, 6, 7] [] [(19, .bool (!decide (v.Code = 0)))] .nil ?_
    refine Wk_split rfl (fun hb => ?_) (fun hb => ?_)
    · have hF := ite_t hF hb
      refine UDs [] [4, 5, 6] [6] [] [] [(4, .nils), (5, .str ([] : List UInt8))] [(6, [.i v.Code, .i v.At])] [] [] .nil ?_
      have hF := some_elim hF
      exact Wk_ret (hfin _ ⟨[], [], [], [], [], [], by first | (rw [← hF]; kernel_rfl) | kernel_rfl⟩)
    · have hF := ite_f hF hb
      refine Wk_skip ?_
      refine Wk_seq ?_
      obtain ⟨x2, h2, hF⟩ := ob_elim hF
      refine UR [.callE [] [] [] [] (.tup [.row 24 0, .str x2.2]) ⟨[], [], [(24, .o 70 2 0 (x2.1.map e_Pair))], [], []⟩] [6, 7, 8, 9] [6, 7] [24] [] [(8, .row 24 0), (9, .str x2.2)] [] [(24, .o 70 2 0 (x2.1.map e_Pair))] [] (.cons (Pe.ren (once_plain_ok rows c x2 h2) ⟨[], [(10, 24)], [], []⟩) .nil) ?_
      refine Wk_seq ?_
      refine ZRs [.nat (x2.1.length : Int)] [6, 7, 8, 9, 29] [6, 7] [24] [(29, .bool (decide (1000 < (x2.1.length : Int))))] (.cons (len_ok e_Pair x2.1) .nil) ?_
      refine Wk_split rfl (fun hb => ?_) (fun hb => ?_)
      · have hF := ite_t hF hb
        refine Wk_seq ?_
        obtain ⟨x3, h3, hF⟩ := lt_split hF
        refine UR [.callB (.agg [.i x3.Code, .i x3.At])] [4, 5, 6] [6] [] [] [(4, .nils), (5, .str ([] : List UInt8))] [(6, [.i x3.Code, .i x3.At])] [] [] (.cons (once_fault_ok 9 0 x3 h3) .nil) ?_
        have hF := some_elim hF
        exact Wk_ret (hfin _ ⟨[], [], [], [], [], [], by first | (rw [← hF]; kernel_rfl) | kernel_rfl⟩)
      · have hF := ite_f hF hb
        refine Wk_skip ?_
        refine UDs [] [4, 5, 6] [6] [24] [] [(4, .row 24 0), (5, .str x2.2)] [(6, [.i v.Code, .i v.At])] [] [] .nil ?_
        have hF := some_elim hF
        exact Wk_ret (hfin _ ⟨[], [], [], [], [], [], by first | (rw [← hF]; kernel_rfl) | kernel_rfl⟩)

/- tabularyref.RowsFault -/
noncomputable def R_RowsFault_J1 (v : Unit) : Option Fault :=
  some (⟨0, 0⟩ : Fault)
noncomputable def R_RowsFault_B1 (l : List Pair) (v1 : Int) : Option (Int ⊕ Fault) :=
  if (decide (v1 < (l.length : Int))) = true then
    asrt (0 ≤ v1 ∧ v1 < (l.length : Int)) <|
    lt (R_RowFine ((lget l v1).Row)) fun x1 =>
    asrt ((!(!x1)) = true → 0 ≤ v1 ∧ v1 < (l.length : Int)) <|
    if ((!x1) || (decide (200 < (((lget l v1).Value).length : Int)))) = true then
      lt (R_F 8 v1) fun x2 =>
      some (Sum.inr x2)
    else
      asrt ((decide (0 < v1)) = true → 0 ≤ w64 (v1 - 1) ∧ w64 (v1 - 1) < (l.length : Int)) <|
      asrt ((decide (0 < v1)) = true → 0 ≤ v1 ∧ v1 < (l.length : Int)) <|
      if ((decide (0 < v1)) && (!Op.bytesLess ((lget l (w64 (v1 - 1))).Row) ((lget l v1).Row))) = true then
        lt (R_F 10 v1) fun x3 =>
        some (Sum.inr x3)
      else
        some (Sum.inl (w64 (v1 + 1)))
  else
    inrO (R_RowsFault_J1 ())
noncomputable def R_RowsFault_L1 (l : List Pair) (v0 : Int) : Option Fault :=
  loopO (fun y => R_RowsFault_B1 l y) v0
noncomputable def R_RowsFault (l : List Pair) : Option Fault :=
  if (decide (1000 < (l.length : Int))) = true then
    lt (R_F 2 (-1)) fun x =>
    some x
  else
    R_RowsFault_L1 l 0
theorem R_RowsFault_ok (l : List Pair) (r : Fault) (hF : R_RowsFault l = some r) : Pe Try.prog 19 S.none [.sl 2 (l.map e_Pair)] (.agg [.i r.Code, .i r.At]) S.none := by
  refine Pe_of (N := 51) (res := [.cell 2 32]) (ts := [32]) Ty.ok Fn.b19 Try.func19 rfl rfl rfl rfl rfl rfl ?_
  intro Q g hfin
  unfold R_RowsFault at hF
  refine URs [] [0, 2] [2] [] [] [(2, .ptr 2 0)] [(2, [.i 0, .i 0])] [] [] .nil ?_
  refine Wk_seq ?_
  refine ZRs [.nat (l.length : Int)] [0, 2, 6] [2] [] [(6, .bool (decide (1000 < (l.length : Int))))] (.cons (len_ok e_Pair l) .nil) ?_
  refine Wk_split rfl (fun hb => ?_) (fun hb => ?_)
  · have hF := ite_t hF hb
    refine Wk_seq ?_
    obtain ⟨x, h0, hF⟩ := lt_split hF
    refine UR [.callB (.agg [.i x.Code, .i x.At])] [2] [2] [] [] [] [(2, [.i x.Code, .i x.At])] [] [] (.cons (R_F_ok 2 (-1) x h0) .nil) ?_
    have hF := some_elim hF
    exact Wk_ret (hfin _ ⟨[], [], [], [], [], [], by first | (rw [← hF]; kernel_rfl) | kernel_rfl⟩)
  · have hF := ite_f hF hb
    refine Wk_skip ?_
    refine Wk_seq ?_
    refine ZRs [] [0, 2, 3] [2] [] [(3, .i 0)] .nil ?_
    refine Wk_meetP (fun v : Unit => (⟨[(2, .ptr 2 0)], [(2, [.i 0, .i 0])], [], [], []⟩ : S)) (fun v => R_RowsFault_J1 v = some r) ?_ ?_
    · refine Wk_block ?_
      unfold R_RowsFault_L1 at hF
      refine Wk_trim (fs := [0, 2, 3]) (bs := [2]) (rs := []) (ms := []) (aa := []) (nv := []) (t := (fun v1 : Int => (⟨[(0, .sl 2 (l.map e_Pair)), (2, .ptr 2 0), (3, .i v1)], [(2, [.i 0, .i 0])], [], [], []⟩ : S)) 0) (by kernel_rfl) ?_
      refine Wk_iter (step := fun y => R_RowsFault_B1 l y) (r := r) (fun v1 : Int => (⟨[(0, .sl 2 (l.map e_Pair)), (2, .ptr 2 0), (3, .i v1)], [(2, [.i 0, .i 0])], [], [], []⟩ : S)) 0 hF ?_
      intro n1 v1 y1 hF ih1 dn1
      have hF : R_RowsFault_B1 l v1 = some y1 := hF
      unfold R_RowsFault_B1 at hF
      refine Wk_seq ?_
      refine ZRs [.nat (l.length : Int)] [0, 2, 3, 11] [2] [] [(11, .bool (decide (v1 < (l.length : Int))))] (.cons (len_ok e_Pair l) .nil) ?_
      refine Wk_split rfl (fun hb => ?_) (fun hb => ?_)
      · have hF := ite_t hF hb
        refine Wk_skip ?_
        refine Wk_seq ?_
        refine Wk_block ?_
        refine Wk_seq ?_
        refine Wk_seq ?_
        obtain ⟨h1, hF⟩ := asrt_elim hF
        obtain ⟨x1, h2, hF⟩ := lt_split hF
        obtain ⟨h3, hF⟩ := asrt_elim hF
        refine ZR [.av (e_Pair (lget l v1)), .callB (.bool x1), .av (e_Pair (lget l v1))] [0, 2, 3, 29] [2] [] [(29, .bool ((!x1) || (decide (200 < (((lget l v1).Value).length : Int)))))] (.cons (idx_ok e_Pair h1) (.cons (R_RowFine_ok ((lget l v1).Row) x1 h2) (.cons (fun (ga0 : (!(!x1)) = true) => (idx_ok e_Pair (h3 ga0))) .nil))) ?_
        refine Wk_split rfl (fun hb => ?_) (fun hb => ?_)
        · have hF := ite_t hF hb
          refine Wk_seq ?_
          obtain ⟨x2, h4, hF⟩ := lt_split hF
          refine UR [.callB (.agg [.i x2.Code, .i x2.At])] [2] [2] [] [] [] [(2, [.i x2.Code, .i x2.At])] [] [] (.cons (R_F_ok 8 v1 x2 h4) .nil) ?_
          have hF := ret_done hF dn1
          have hF := some_elim hF
          exact Wk_ret (hfin _ ⟨[], [], [], [], [], [], by first | (rw [← hF]; kernel_rfl) | kernel_rfl⟩)
        · have hF := ite_f hF hb
          refine Wk_skip ?_
          refine Wk_seq ?_
          obtain ⟨h5, hF⟩ := asrt_elim hF
          obtain ⟨h6, hF⟩ := asrt_elim hF
          refine ZD [.av (e_Pair (lget l (w64 (v1 - 1)))), .av (e_Pair (lget l v1))] [0, 2, 3, 47] [2] [] [(47, .bool ((decide (0 < v1)) && (!Op.bytesLess ((lget l (w64 (v1 - 1))).Row) ((lget l v1).Row))))] (.cons (fun (ga0 : (decide (0 < v1)) = true) => (idx_ok e_Pair (h5 ga0))) (.cons (fun (ga0 : (decide (0 < v1)) = true) => (idx_ok e_Pair (h6 ga0))) .nil)) ?_
          refine Wk_split rfl (fun hb => ?_) (fun hb => ?_)
          · have hF := ite_t hF hb
            refine Wk_seq ?_
            obtain ⟨x3, h7, hF⟩ := lt_split hF
            refine UR [.callB (.agg [.i x3.Code, .i x3.At])] [2] [2] [] [] [] [(2, [.i x3.Code, .i x3.At])] [] [] (.cons (R_F_ok 10 v1 x3 h7) .nil) ?_
            have hF := ret_done hF dn1
            have hF := some_elim hF
            exact Wk_ret (hfin _ ⟨[], [], [], [], [], [], by first | (rw [← hF]; kernel_rfl) | kernel_rfl⟩)
          · have hF := ite_f hF hb
            refine Wk_skip ?_
            refine Wk_blk ?_
            refine ZR [] [0, 2, 3] [2] [] [(3, .i (w64 (v1 + 1)))] .nil ?_
            refine Wk_trim (fs := [0, 2, 3]) (bs := [2]) (rs := []) (ms := []) (aa := []) (nv := []) ?_ (ih1 _ (some_elim hF).symm)
            kernel_rfl
      · have hF := ite_f hF hb
        refine Wk_exit rfl ?_
        have hF := inrO_done hF dn1
        exact Wk_metP () [2] [2] [] [] [] [] hF (by kernel_rfl)
    · intro v hF
      have hF : R_RowsFault_J1 v = some r := hF
      unfold R_RowsFault_J1 at hF
      refine ZRs [] [2] [2] [] [] .nil ?_
      have hF := some_elim hF
      exact Wk_ret (hfin _ ⟨[], [], [], [], [], [], by first | (rw [← hF]; kernel_rfl) | kernel_rfl⟩)

/- tabularyref.LedgerFault -/
noncomputable def R_LedgerFault_J1 (v : Unit) : Option Fault :=
  some (⟨0, 0⟩ : Fault)
noncomputable def R_LedgerFault_B1 (l : Ledger) (v1 : Int) : Option (Int ⊕ Fault) :=
  if (decide (v1 < (l.Memos.length : Int))) = true then
    asrt (0 ≤ v1 ∧ v1 < (l.Memos.length : Int)) <|
    lt (R_One ((lget l.Memos v1).Client)) fun x2 =>
    lt (R_One ((lget l.Memos v1).Seq)) fun x3 =>
    if ((!x2) || (!x3)) = true then
      lt (R_F 3 (w64 ((-1000) - v1))) fun x4 =>
      some (Sum.inr x4)
    else
      if (decide (201 < (((lget l.Memos v1).Said).length : Int))) = true then
        lt (R_F 8 (w64 ((-1000) - v1))) fun x5 =>
        some (Sum.inr x5)
      else
        asrt ((decide (0 < v1)) = true → 0 ≤ w64 (v1 - 1) ∧ w64 (v1 - 1) < (l.Memos.length : Int)) <|
        if ((decide (0 < v1)) && (decide (((lget l.Memos v1).Client) ≤ ((lget l.Memos (w64 (v1 - 1))).Client)))) = true then
          lt (R_F 10 (w64 ((-1000) - v1))) fun x6 =>
          some (Sum.inr x6)
        else
          some (Sum.inl (w64 (v1 + 1)))
  else
    inrO (R_LedgerFault_J1 ())
noncomputable def R_LedgerFault_L1 (l : Ledger) (v0 : Int) : Option Fault :=
  loopO (fun y => R_LedgerFault_B1 l y) v0
noncomputable def R_LedgerFault (l : Ledger) : Option Fault :=
  ob (R_RowsFault l.Rows) fun x =>
  if (!decide (x.Code = 0)) = true then
    some x
  else
    if (decide (1000 < (l.Memos.length : Int))) = true then
      lt (R_F 2 (-2)) fun x1 =>
      some x1
    else
      R_LedgerFault_L1 l 0
theorem R_LedgerFault_ok (l : Ledger) (r : Fault) (hF : R_LedgerFault l = some r) : Pe Try.prog 18 S.none [.agg [.sl 2 (l.Rows.map e_Pair), .sl 3 (l.Memos.map e_Memo)]] (.agg [.i r.Code, .i r.At]) S.none := by
  refine Pe_of (N := 68) (res := [.cell 2 32]) (ts := [32]) Ty.ok Fn.b18 Try.func18 rfl rfl rfl rfl rfl rfl ?_
  intro Q g hfin
  unfold R_LedgerFault at hF
  refine URs [] [1, 2] [1, 2] [] [] [(1, .ptr 1 0), (2, .ptr 2 0)] [(1, [.sl 2 (l.Rows.map e_Pair), .sl 3 (l.Memos.map e_Memo)]), (2, [.i 0, .i 0])] [] [] .nil ?_
  refine Wk_seq ?_
  obtain ⟨x, h0, hF⟩ := ob_elim hF
  refine UR [.callB (.agg [.i x.Code, .i x.At])] [1, 2, 3] [1, 2, 3] [] [] [(3, .ptr 3 0)] [(3, [.i x.Code, .i x.At])] [] [] (.cons (R_RowsFault_ok l.Rows x h0) .nil) ?_
  refine Wk_seq ?_
  refine ZRs [] [1, 2, 3, 11] [1, 2, 3] [] [(11, .bool (!decide (x.Code = 0)))] .nil ?_
  refine Wk_split rfl (fun hb => ?_) (fun hb => ?_)
  · have hF := ite_t hF hb
    refine URs [] [2] [2] [] [] [] [(2, [.i x.Code, .i x.At])] [] [] .nil ?_
    have hF := some_elim hF
    exact Wk_ret (hfin _ ⟨[], [], [], [], [], [], by first | (rw [← hF]; kernel_rfl) | kernel_rfl⟩)
  · have hF := ite_f hF hb
    refine Wk_skip ?_
    refine Wk_seq ?_
    refine ZRs [.nat (l.Memos.length : Int)] [1, 2, 16] [1, 2] [] [(16, .bool (decide (1000 < (l.Memos.length : Int))))] (.cons (len_ok e_Memo l.Memos) .nil) ?_
    refine Wk_split rfl (fun hb => ?_) (fun hb => ?_)
    · have hF := ite_t hF hb
      refine Wk_seq ?_
      obtain ⟨x1, h1, hF⟩ := lt_split hF
      refine UR [.callB (.agg [.i x1.Code, .i x1.At])] [2] [2] [] [] [] [(2, [.i x1.Code, .i x1.At])] [] [] (.cons (R_F_ok 2 (-2) x1 h1) .nil) ?_
      have hF := some_elim hF
      exact Wk_ret (hfin _ ⟨[], [], [], [], [], [], by first | (rw [← hF]; kernel_rfl) | kernel_rfl⟩)
    · have hF := ite_f hF hb
      refine Wk_skip ?_
      refine Wk_seq ?_
      refine ZRs [] [1, 2, 4] [1, 2] [] [(4, .i 0)] .nil ?_
      refine Wk_meetP (fun v : Unit => (⟨[(2, .ptr 2 0)], [(2, [.i 0, .i 0])], [], [], []⟩ : S)) (fun v => R_LedgerFault_J1 v = some r) ?_ ?_
      · refine Wk_block ?_
        unfold R_LedgerFault_L1 at hF
        refine Wk_trim (fs := [1, 2, 4]) (bs := [1, 2]) (rs := []) (ms := []) (aa := []) (nv := []) (t := (fun v1 : Int => (⟨[(1, .ptr 1 0), (2, .ptr 2 0), (4, .i v1)], [(1, [.sl 2 (l.Rows.map e_Pair), .sl 3 (l.Memos.map e_Memo)]), (2, [.i 0, .i 0])], [], [], []⟩ : S)) 0) (by kernel_rfl) ?_
        refine Wk_iter (step := fun y => R_LedgerFault_B1 l y) (r := r) (fun v1 : Int => (⟨[(1, .ptr 1 0), (2, .ptr 2 0), (4, .i v1)], [(1, [.sl 2 (l.Rows.map e_Pair), .sl 3 (l.Memos.map e_Memo)]), (2, [.i 0, .i 0])], [], [], []⟩ : S)) 0 hF ?_
        intro n1 v1 y1 hF ih1 dn1
        have hF : R_LedgerFault_B1 l v1 = some y1 := hF
        unfold R_LedgerFault_B1 at hF
        refine Wk_seq ?_
        refine ZRs [.nat (l.Memos.length : Int)] [1, 2, 4, 22] [1, 2] [] [(22, .bool (decide (v1 < (l.Memos.length : Int))))] (.cons (len_ok e_Memo l.Memos) .nil) ?_
        refine Wk_split rfl (fun hb => ?_) (fun hb => ?_)
        · have hF := ite_t hF hb
          refine Wk_skip ?_
          refine Wk_seq ?_
          refine Wk_block ?_
          refine Wk_seq ?_
          obtain ⟨h2, hF⟩ := asrt_elim hF
          refine UR [.av (e_Memo (lget l.Memos v1))] [1, 2, 4, 5] [1, 2, 5] [] [] [(5, .ptr 5 0)] [(5, (c_Memo (lget l.Memos v1)))] [] [] (.cons (idx_ok e_Memo h2) .nil) ?_
          refine Wk_seq ?_
          refine Wk_seq ?_
          obtain ⟨x2, h3, hF⟩ := lt_split hF
          obtain ⟨x3, h4, hF⟩ := lt_split hF
          refine ZR [.callB (.bool x2), .callB (.bool x3)] [1, 2, 4, 5, 39] [1, 2, 5] [] [(39, .bool ((!x2) || (!x3)))] (.cons (R_One_ok ((lget l.Memos v1).Client) x2 h3) (.cons (fun (ga0 : (!(!x2)) = true) => (R_One_ok ((lget l.Memos v1).Seq) x3 h4)) .nil)) ?_
          refine Wk_split rfl (fun hb => ?_) (fun hb => ?_)
          · have hF := ite_t hF hb
            refine Wk_seq ?_
            obtain ⟨x4, h5, hF⟩ := lt_split hF
            refine UR [.callB (.agg [.i x4.Code, .i x4.At])] [2] [2] [] [] [] [(2, [.i x4.Code, .i x4.At])] [] [] (.cons (R_F_ok 3 (w64 ((-1000) - v1)) x4 h5) .nil) ?_
            have hF := ret_done hF dn1
            have hF := some_elim hF
            exact Wk_ret (hfin _ ⟨[], [], [], [], [], [], by first | (rw [← hF]; kernel_rfl) | kernel_rfl⟩)
          · have hF := ite_f hF hb
            refine Wk_skip ?_
            refine Wk_seq ?_
            refine ZRs [] [1, 2, 4, 5, 46] [1, 2, 5] [] [(46, .bool (decide (201 < (((lget l.Memos v1).Said).length : Int))))] .nil ?_
            refine Wk_split rfl (fun hb => ?_) (fun hb => ?_)
            · have hF := ite_t hF hb
              refine Wk_seq ?_
              obtain ⟨x5, h6, hF⟩ := lt_split hF
              refine UR [.callB (.agg [.i x5.Code, .i x5.At])] [2] [2] [] [] [] [(2, [.i x5.Code, .i x5.At])] [] [] (.cons (R_F_ok 8 (w64 ((-1000) - v1)) x5 h6) .nil) ?_
              have hF := ret_done hF dn1
              have hF := some_elim hF
              exact Wk_ret (hfin _ ⟨[], [], [], [], [], [], by first | (rw [← hF]; kernel_rfl) | kernel_rfl⟩)
            · have hF := ite_f hF hb
              refine Wk_skip ?_
              refine Wk_seq ?_
              obtain ⟨h7, hF⟩ := asrt_elim hF
              refine ZD [.av (e_Memo (lget l.Memos (w64 (v1 - 1))))] [1, 2, 4, 63] [1, 2] [] [(63, .bool ((decide (0 < v1)) && (decide (((lget l.Memos v1).Client) ≤ ((lget l.Memos (w64 (v1 - 1))).Client)))))] (.cons (fun (ga0 : (decide (0 < v1)) = true) => (idx_ok e_Memo (h7 ga0))) .nil) ?_
              refine Wk_split rfl (fun hb => ?_) (fun hb => ?_)
              · have hF := ite_t hF hb
                refine Wk_seq ?_
                obtain ⟨x6, h8, hF⟩ := lt_split hF
                refine UR [.callB (.agg [.i x6.Code, .i x6.At])] [2] [2] [] [] [] [(2, [.i x6.Code, .i x6.At])] [] [] (.cons (R_F_ok 10 (w64 ((-1000) - v1)) x6 h8) .nil) ?_
                have hF := ret_done hF dn1
                have hF := some_elim hF
                exact Wk_ret (hfin _ ⟨[], [], [], [], [], [], by first | (rw [← hF]; kernel_rfl) | kernel_rfl⟩)
              · have hF := ite_f hF hb
                refine Wk_skip ?_
                refine Wk_blk ?_
                refine ZR [] [1, 2, 4] [1, 2] [] [(4, .i (w64 (v1 + 1)))] .nil ?_
                refine Wk_trim (fs := [1, 2, 4]) (bs := [1, 2]) (rs := []) (ms := []) (aa := []) (nv := []) ?_ (ih1 _ (some_elim hF).symm)
                kernel_rfl
        · have hF := ite_f hF hb
          refine Wk_exit rfl ?_
          have hF := inrO_done hF dn1
          exact Wk_metP () [2] [2] [] [] [] [] hF (by kernel_rfl)
      · intro v hF
        have hF : R_LedgerFault_J1 v = some r := hF
        unfold R_LedgerFault_J1 at hF
        refine ZRs [] [2] [2] [] [] .nil ?_
        have hF := some_elim hF
        exact Wk_ret (hfin _ ⟨[], [], [], [], [], [], by first | (rw [← hF]; kernel_rfl) | kernel_rfl⟩)

/- tabularyref.MemoOf -/
noncomputable def R_MemoOf_J1 (l : List Memo) (v : Unit) : Option (Memo × Int) :=
  some ((⟨0, 0, ([] : List UInt8)⟩ : Memo), (l.length : Int))
noncomputable def R_MemoOf_B1 (l : List Memo) (client : Int) (v1 : Int) : Option (Int ⊕ (Memo × Int)) :=
  if (decide (v1 < (l.length : Int))) = true then
    asrt (0 ≤ v1 ∧ v1 < (l.length : Int)) <|
    if (decide (((lget l v1).Client) = client)) = true then
      asrt (0 ≤ v1 ∧ v1 < (l.length : Int)) <|
      some (Sum.inr ((⟨(lget l v1).Client, (lget l v1).Seq, (lget l v1).Said⟩ : Memo), v1))
    else
      asrt (0 ≤ v1 ∧ v1 < (l.length : Int)) <|
      if (decide (client < ((lget l v1).Client))) = true then
        some (Sum.inr ((⟨0, 0, ([] : List UInt8)⟩ : Memo), v1))
      else
        some (Sum.inl (w64 (v1 + 1)))
  else
    inrO (R_MemoOf_J1 l ())
noncomputable def R_MemoOf_L1 (l : List Memo) (client : Int) (v0 : Int) : Option (Memo × Int) :=
  loopO (fun y => R_MemoOf_B1 l client y) v0
noncomputable def R_MemoOf (l : List Memo) (client : Int) : Option (Memo × Int) :=
  R_MemoOf_L1 l client 0
theorem R_MemoOf_ok (l : List Memo) (client : Int) (r : Memo × Int) (hF : R_MemoOf l client = some r) : Pe Try.prog 50 S.none [.sl 3 (l.map e_Memo), .i client] (.tup [.agg (c_Memo r.1), .i r.2]) S.none := by
  refine Pe_of (N := 37) (res := [.cell 4 37, .tmp 5]) (ts := [37, 3]) Ty.ok Fn.b50 Try.func50 rfl rfl rfl rfl rfl rfl ?_
  intro Q g hfin
  unfold R_MemoOf at hF
  refine URs [] [0, 1, 4] [4] [] [] [(4, .ptr 4 0)] [(4, [.i 0, .i 0, .str []])] [] [] .nil ?_
  refine Wk_seq ?_
  refine ZRs [] [0, 1, 4, 6] [4] [] [(6, .i 0)] .nil ?_
  refine Wk_meetP (fun v : Unit => (⟨[(0, .sl 3 (l.map e_Memo)), (4, .ptr 4 0)], [(4, [.i 0, .i 0, .str []])], [], [], []⟩ : S)) (fun v => R_MemoOf_J1 l v = some r) ?_ ?_
  · refine Wk_block ?_
    unfold R_MemoOf_L1 at hF
    refine Wk_trim (fs := [0, 1, 4, 6]) (bs := [4]) (rs := []) (ms := []) (aa := []) (nv := []) (t := (fun v1 : Int => (⟨[(0, .sl 3 (l.map e_Memo)), (1, .i client), (4, .ptr 4 0), (6, .i v1)], [(4, [.i 0, .i 0, .str []])], [], [], []⟩ : S)) 0) (by kernel_rfl) ?_
    refine Wk_iter (step := fun y => R_MemoOf_B1 l client y) (r := r) (fun v1 : Int => (⟨[(0, .sl 3 (l.map e_Memo)), (1, .i client), (4, .ptr 4 0), (6, .i v1)], [(4, [.i 0, .i 0, .str []])], [], [], []⟩ : S)) 0 hF ?_
    intro n1 v1 y1 hF ih1 dn1
    have hF : R_MemoOf_B1 l client v1 = some y1 := hF
    unfold R_MemoOf_B1 at hF
    refine Wk_seq ?_
    refine ZRs [.nat (l.length : Int)] [0, 1, 4, 6, 10] [4] [] [(10, .bool (decide (v1 < (l.length : Int))))] (.cons (len_ok e_Memo l) .nil) ?_
    refine Wk_split rfl (fun hb => ?_) (fun hb => ?_)
    · have hF := ite_t hF hb
      refine Wk_skip ?_
      refine Wk_seq ?_
      refine Wk_block ?_
      refine Wk_seq ?_
      refine Wk_seq ?_
      obtain ⟨h0, hF⟩ := asrt_elim hF
      refine ZR [.av (e_Memo (lget l v1))] [0, 1, 4, 6, 19] [4] [] [(19, .bool (decide (((lget l v1).Client) = client)))] (.cons (idx_ok e_Memo h0) .nil) ?_
      refine Wk_split rfl (fun hb => ?_) (fun hb => ?_)
      · have hF := ite_t hF hb
        refine Wk_seq ?_
        obtain ⟨h1, hF⟩ := asrt_elim hF
        refine UR [.av (e_Memo (lget l v1))] [4, 5] [4] [] [] [(5, .i v1)] [(4, (c_Memo (lget l v1)))] [] [] (.cons (idx_ok e_Memo h1) .nil) ?_
        have hF := ret_done hF dn1
        have hF := some_elim hF
        exact Wk_ret (hfin _ ⟨[], [], [], [], [], [], by first | (rw [← hF]; kernel_rfl) | kernel_rfl⟩)
      · have hF := ite_f hF hb
        refine Wk_skip ?_
        refine Wk_seq ?_
        obtain ⟨h2, hF⟩ := asrt_elim hF
        refine ZR [.av (e_Memo (lget l v1))] [0, 1, 4, 6, 31] [4] [] [(31, .bool (decide (client < ((lget l v1).Client))))] (.cons (idx_ok e_Memo h2) .nil) ?_
        refine Wk_split rfl (fun hb => ?_) (fun hb => ?_)
        · have hF := ite_t hF hb
          refine ZRs [] [4, 5] [4] [] [(5, .i v1)] .nil ?_
          have hF := ret_done hF dn1
          have hF := some_elim hF
          exact Wk_ret (hfin _ ⟨[], [], [], [], [], [], by first | (rw [← hF]; kernel_rfl) | kernel_rfl⟩)
        · have hF := ite_f hF hb
          refine Wk_skip ?_
          refine Wk_blk ?_
          refine ZR [] [0, 1, 4, 6] [4] [] [(6, .i (w64 (v1 + 1)))] .nil ?_
          refine Wk_trim (fs := [0, 1, 4, 6]) (bs := [4]) (rs := []) (ms := []) (aa := []) (nv := []) ?_ (ih1 _ (some_elim hF).symm)
          kernel_rfl
    · have hF := ite_f hF hb
      refine Wk_exit rfl ?_
      have hF := inrO_done hF dn1
      exact Wk_metP () [0, 4] [4] [] [] [] [] hF (by kernel_rfl)
  · intro v hF
    have hF : R_MemoOf_J1 l v = some r := hF
    unfold R_MemoOf_J1 at hF
    refine ZRs [.nat (l.length : Int)] [4, 5] [4] [] [(5, .i (l.length : Int))] (.cons (len_ok e_Memo l) .nil) ?_
    have hF := some_elim hF
    exact Wk_ret (hfin _ ⟨[], [], [], [], [], [], by first | (rw [← hF]; kernel_rfl) | kernel_rfl⟩)

/- tabularyref.Once -/
noncomputable def R_Once_v1 (l : Ledger) (c : Call) : Option (Ledger × List UInt8 × Fault) :=
  ob (R_LedgerFault l) fun x =>
  ob (
    if (decide (x.Code = 0)) = true then
      lt (R_CallFault c) fun x1 =>
      some x1
    else
      some x) fun (v : Fault) =>
  if (!decide (v.Code = 0)) = true then
    some ((⟨([] : List Pair), ([] : List Memo)⟩ : Ledger), ([] : List UInt8), v)
  else
    ob (R_MemoOf l.Memos c.Client) fun x2 =>
    if (decide (c.Seq = x2.1.Seq)) = true then
      ob (R_CopyLedger l) fun x3 =>
      some ((⟨x3.1, x3.2⟩ : Ledger), x2.1.Said, v)
    else
      if (decide (c.Seq < x2.1.Seq)) = true then
        lt (R_F 12 0) fun x4 =>
        some ((⟨([] : List Pair), ([] : List Memo)⟩ : Ledger), ([] : List UInt8), x4)
      else
        if (decide (x2.1.Seq < (w64 (c.Seq - 1)))) = true then
          lt (R_F 11 0) fun x5 =>
          some ((⟨([] : List Pair), ([] : List Memo)⟩ : Ledger), ([] : List UInt8), x5)
        else
          ob (R_Called l.Rows c) fun x6 =>
          asrt (0 ≤ x2.2 ∧ x2.2 ≤ (l.Memos.length : Int)) <|
          asrt (((ltake l.Memos x2.2).length : Int) * 32 ≤ 140737488351232) <|
          asrt ((((ltake l.Memos x2.2) ++ [(⟨c.Client, c.Seq, x6.2⟩ : Memo)]).length : Int) * 32 ≤ 140737488351232) <|
          ob (
            if (decide (0 < x2.1.Client)) = true then
              some (w64 (x2.2 + 1))
            else
              some x2.2) fun (v1 : Int) =>
          asrt (0 ≤ v1 ∧ v1 ≤ (l.Memos.length : Int)) <|
          asrt (((((ltake l.Memos x2.2) ++ [(⟨c.Client, c.Seq, x6.2⟩ : Memo)]) ++ (ldrop l.Memos v1)).length : Int) * 32 ≤ 140737488351232) <|
          lt ((((ltake l.Memos x2.2) ++ [(⟨c.Client, c.Seq, x6.2⟩ : Memo)]) ++ (ldrop l.Memos v1))) fun (v2 : List Memo) =>
          if ((decide (1000 < (x6.1.length : Int))) || (decide (1000 < (v2.length : Int)))) = true then
            lt (R_F 9 0) fun x7 =>
            some ((⟨([] : List Pair), ([] : List Memo)⟩ : Ledger), ([] : List UInt8), x7)
          else
            some ((⟨x6.1, v2⟩ : Ledger), x6.2, v)
theorem R_Once_v1_ok (l : Ledger) (c : Call) (r : Ledger × List UInt8 × Fault) (hF : R_Once_v1 l c = some r) : Pe Try.prog 21 S.none [.agg [.sl 2 (l.Rows.map e_Pair), .sl 3 (l.Memos.map e_Memo)], .agg (c_Call c)] (.tup [.agg [.sl 2 (r.1.Rows.map e_Pair), .sl 3 (r.1.Memos.map e_Memo)], .str r.2.1, .agg [.i r.2.2.Code, .i r.2.2.At]]) S.none := by
  refine Pe_of (N := 106) (res := [.cell 4 27, .tmp 5, .cell 6 32]) (ts := [27, 9, 32]) Ty.ok Fn.b21 Try.func21 rfl rfl rfl rfl rfl rfl ?_
  intro Q g hfin
  unfold R_Once_v1 at hF
  refine URs [] [2, 3, 4, 6] [2, 3, 4, 6] [] [] [(2, .ptr 2 0), (3, .ptr 3 0), (4, .ptr 4 0), (6, .ptr 6 0)] [(2, [.sl 2 (l.Rows.map e_Pair), .sl 3 (l.Memos.map e_Memo)]), (3, (c_Call c)), (4, [.nils, .nils]), (6, [.i 0, .i 0])] [] [] .nil ?_
  refine Wk_seq ?_
  obtain ⟨x, h0, hF⟩ := ob_elim hF
  refine UR [.callB (.agg [.i x.Code, .i x.At])] [2, 3, 4, 6, 7] [2, 3, 4, 6, 7] [] [] [(7, .ptr 7 0)] [(7, [.i x.Code, .i x.At])] [] [] (.cons (R_LedgerFault_ok l x h0) .nil) ?_
  refine Wk_seq ?_
  refine ZRs [] [2, 3, 4, 6, 7, 18] [2, 3, 4, 6, 7] [] [(18, .bool (decide (x.Code = 0)))] .nil ?_
  obtain ⟨v, hv, hF⟩ := ob_elim hF
  refine Wk_meet (⟨[(2, .ptr 2 0), (3, .ptr 3 0), (4, .ptr 4 0), (6, .ptr 6 0), (7, .ptr 7 0)], [(2, [.sl 2 (l.Rows.map e_Pair), .sl 3 (l.Memos.map e_Memo)]), (3, (c_Call c)), (4, [.nils, .nils]), (6, [.i 0, .i 0]), (7, [.i v.Code, .i v.At])], [], [], []⟩ : S) ?_ ?_
  · have hF := hv
    refine Wk_split rfl (fun hb => ?_) (fun hb => ?_)
    · have hF := ite_t hF hb
      obtain ⟨x1, h1, hF⟩ := lt_split hF
      refine UR [.callB (.agg [.i x1.Code, .i x1.At])] [2, 3, 4, 6, 7] [2, 3, 4, 6, 7] [] [] [] [(7, [.i x1.Code, .i x1.At])] [] [] (.cons (R_CallFault_ok c x1 h1) .nil) ?_
      exact Wk_met (fs := [2, 3, 4, 6, 7]) (bs := [2, 3, 4, 6, 7]) (rs := []) (ms := []) (aa := []) (nv := []) (by first | (rw [← some_elim hF]; kernel_rfl) | kernel_rfl)
    · have hF := ite_f hF hb
      refine Wk_skip ?_
      exact Wk_met (fs := [2, 3, 4, 6, 7]) (bs := [2, 3, 4, 6, 7]) (rs := []) (ms := []) (aa := []) (nv := []) (by first | (rw [← some_elim hF]; kernel_rfl) | kernel_rfl)
  · refine Wk_seq ?_
    refine ZRs [] [2, 3, 4, 6, 7, 23] [2, 3, 4, 6, 7] [] [(23, .bool (!decide (v.Code = 0)))] .nil ?_
    refine Wk_split rfl (fun hb => ?_) (fun hb => ?_)
    · have hF := ite_t hF hb
      refine UDs [] [4, 5, 6] [4, 6] [] [] [(5, .str ([] : List UInt8))] [(6, [.i v.Code, .i v.At])] [] [] .nil ?_
      have hF := some_elim hF
      exact Wk_ret (hfin _ ⟨[], [], [], [], [], [], by first | (rw [← hF]; kernel_rfl) | kernel_rfl⟩)
    · have hF := ite_f hF hb
      refine Wk_skip ?_
      refine Wk_seq ?_
      obtain ⟨x2, h2, hF⟩ := ob_elim hF
      refine UR [.callB (.tup [.agg (c_Memo x2.1), .i x2.2])] [2, 3, 4, 6, 7, 8, 9] [2, 3, 4, 6, 7, 8] [] [] [(8, .ptr 8 0), (9, .i x2.2)] [(8, (c_Memo x2.1))] [] [] (.cons (R_MemoOf_ok l.Memos c.Client x2 h2) .nil) ?_
      refine Wk_seq ?_
      refine ZRs [] [2, 3, 4, 6, 7, 8, 9, 38] [2, 3, 4, 6, 7, 8] [] [(38, .bool (decide (c.Seq = x2.1.Seq)))] .nil ?_
      refine Wk_split rfl (fun hb => ?_) (fun hb => ?_)
      · have hF := ite_t hF hb
        refine Wk_seq ?_
        obtain ⟨x3, h3, hF⟩ := ob_elim hF
        refine UD [.callE [] [] [] [] (.agg [.row 40 1, .row 20040 1]) ⟨[], [], [(40, .z 70 2 1 (x3.1.map e_Pair)), (20040, .z 37 3 1 (x3.2.map e_Memo))], [], []⟩] [4, 5, 6] [4, 6] [40, 20040] [] [(5, .str x2.1.Said)] [(4, [.row 40 1, .row 20040 1]), (6, [.i v.Code, .i v.At])] [(40, .z 70 2 1 (x3.1.map e_Pair)), (20040, .z 37 3 1 (x3.2.map e_Memo))] [] (.cons (Pe.ren (R_CopyLedger_ok l x3 h3) ⟨[], [(5, 40), (8, 20040)], [], []⟩) .nil) ?_
        have hF := some_elim hF
        exact Wk_ret (hfin _ ⟨[], [], [], [], [], [], by first | (rw [← hF]; kernel_rfl) | kernel_rfl⟩)
      · have hF := ite_f hF hb
        refine Wk_skip ?_
        refine Wk_seq ?_
        refine ZRs [] [2, 3, 4, 6, 7, 8, 9, 48] [2, 3, 4, 6, 7, 8] [] [(48, .bool (decide (c.Seq < x2.1.Seq)))] .nil ?_
        refine Wk_split rfl (fun hb => ?_) (fun hb => ?_)
        · have hF := ite_t hF hb
          refine Wk_seq ?_
          obtain ⟨x4, h4, hF⟩ := lt_split hF
          refine UR [.callB (.agg [.i x4.Code, .i x4.At])] [4, 5, 6] [4, 6] [] [] [(5, .str ([] : List UInt8))] [(6, [.i x4.Code, .i x4.At])] [] [] (.cons (R_F_ok 12 0 x4 h4) .nil) ?_
          have hF := some_elim hF
          exact Wk_ret (hfin _ ⟨[], [], [], [], [], [], by first | (rw [← hF]; kernel_rfl) | kernel_rfl⟩)
        · have hF := ite_f hF hb
          refine Wk_skip ?_
          refine Wk_seq ?_
          refine ZRs [] [2, 3, 4, 6, 7, 8, 9, 56] [2, 3, 4, 6, 7, 8] [] [(56, .bool (decide (x2.1.Seq < (w64 (c.Seq - 1)))))] .nil ?_
          refine Wk_split rfl (fun hb => ?_) (fun hb => ?_)
          · have hF := ite_t hF hb
            refine Wk_seq ?_
            obtain ⟨x5, h5, hF⟩ := lt_split hF
            refine UR [.callB (.agg [.i x5.Code, .i x5.At])] [4, 5, 6] [4, 6] [] [] [(5, .str ([] : List UInt8))] [(6, [.i x5.Code, .i x5.At])] [] [] (.cons (R_F_ok 11 0 x5 h5) .nil) ?_
            have hF := some_elim hF
            exact Wk_ret (hfin _ ⟨[], [], [], [], [], [], by first | (rw [← hF]; kernel_rfl) | kernel_rfl⟩)
          · have hF := ite_f hF hb
            refine Wk_skip ?_
            refine Wk_seq ?_
            obtain ⟨x6, h6, hF⟩ := ob_elim hF
            refine UR [.callE [] [] [] [] (.tup [.row 63 0, .str x6.2]) ⟨[], [], [(63, .z 70 2 0 (x6.1.map e_Pair))], [], []⟩] [2, 3, 4, 6, 7, 8, 9, 10, 11] [2, 3, 4, 6, 7, 8] [63] [] [(10, .row 63 0), (11, .str x6.2)] [] [(63, .z 70 2 0 (x6.1.map e_Pair))] [] (.cons (Pe.ren (R_Called_ok l.Rows c x6 h6) ⟨[], [(37, 63)], [], []⟩) .nil) ?_
            refine URs [] [2, 4, 6, 7, 8, 9, 10, 11, 12] [2, 4, 6, 7, 8, 12] [63] [] [(12, .ptr 12 0)] [(12, [.i c.Client, .i c.Seq, .str x6.2])] [] [] .nil ?_
            refine Wk_seq ?_
            obtain ⟨h7, hF⟩ := asrt_elim hF
            obtain ⟨h8, hF⟩ := asrt_elim hF
            obtain ⟨h9, hF⟩ := asrt_elim hF
            refine UD [.xs ((ltake l.Memos x2.2).map e_Memo), .xs ((ltake l.Memos x2.2).map e_Memo), .sealed, .xs (((ltake l.Memos x2.2) ++ [(⟨c.Client, c.Seq, x6.2⟩ : Memo)]).map e_Memo)] [2, 4, 6, 7, 8, 9, 10, 11, 13] [2, 4, 6, 7, 8] [63, 76] [] [(13, .row 76 2)] [] [(76, ⟨37, 3, 2, 0, 0, true, 0, [], (((ltake l.Memos x2.2) ++ [(⟨c.Client, c.Seq, x6.2⟩ : Memo)]).map e_Memo)⟩)] [] (.cons (sl01_ok e_Memo h7) (.cons (app0_ok e_Memo (ltake l.Memos x2.2)) (.cons (appl_ok e_Memo h8) (.cons (app_ok e_Memo (ltake l.Memos x2.2) [(⟨c.Client, c.Seq, x6.2⟩ : Memo)]) (.cons (appl_ok e_Memo h9) .nil))))) ?_
            refine Wk_seq ?_
            refine ZRs [] [2, 4, 6, 7, 9, 10, 11, 13, 82] [2, 4, 6, 7] [63, 76] [(82, .bool (decide (0 < x2.1.Client)))] .nil ?_
            obtain ⟨v1, hv, hF⟩ := ob_elim hF
            refine Wk_meet (⟨[(2, .ptr 2 0), (4, .ptr 4 0), (6, .ptr 6 0), (7, .ptr 7 0), (9, .i v1), (10, .row 63 0), (11, .str x6.2), (13, .row 76 2)], [(2, [.sl 2 (l.Rows.map e_Pair), .sl 3 (l.Memos.map e_Memo)]), (4, [.nils, .nils]), (6, [.i 0, .i 0]), (7, [.i v.Code, .i v.At])], [(63, .z 70 2 0 (x6.1.map e_Pair)), (76, ⟨37, 3, 2, 0, 0, true, 0, [], (((ltake l.Memos x2.2) ++ [(⟨c.Client, c.Seq, x6.2⟩ : Memo)]).map e_Memo)⟩)], [], []⟩ : S) ?_ ?_
            · have hF := hv
              refine Wk_split rfl (fun hb => ?_) (fun hb => ?_)
              · have hF := ite_t hF hb
                refine ZR [] [2, 4, 6, 7, 9, 10, 11, 13] [2, 4, 6, 7] [63, 76] [(9, .i (w64 (x2.2 + 1)))] .nil ?_
                exact Wk_met (fs := [2, 4, 6, 7, 9, 10, 11, 13]) (bs := [2, 4, 6, 7]) (rs := [63, 76]) (ms := []) (aa := []) (nv := []) (by first | (rw [← some_elim hF]; kernel_rfl) | kernel_rfl)
              · have hF := ite_f hF hb
                refine Wk_skip ?_
                exact Wk_met (fs := [2, 4, 6, 7, 9, 10, 11, 13]) (bs := [2, 4, 6, 7]) (rs := [63, 76]) (ms := []) (aa := []) (nv := []) (by first | (rw [← some_elim hF]; kernel_rfl) | kernel_rfl)
            · refine Wk_seq ?_
              obtain ⟨h10, hF⟩ := asrt_elim hF
              obtain ⟨h11, hF⟩ := asrt_elim hF
              refine WRL ((((ltake l.Memos x2.2) ++ [(⟨c.Client, c.Seq, x6.2⟩ : Memo)]) ++ (ldrop l.Memos v1))) (fun v2 : List Memo => ⟨[(4, .ptr 4 0), (6, .ptr 6 0), (7, .ptr 7 0), (10, .row 63 0), (11, .str x6.2), (13, .row 76 3)], [(4, [.nils, .nils]), (6, [.i 0, .i 0]), (7, [.i v.Code, .i v.At])], [(63, .z 70 2 0 (x6.1.map e_Pair)), (76, .z 37 3 3 (v2.map e_Memo))], [], []⟩) [.xs ((ldrop l.Memos v1).map e_Memo), .xs ((((ltake l.Memos x2.2) ++ [(⟨c.Client, c.Seq, x6.2⟩ : Memo)]) ++ (ldrop l.Memos v1)).map e_Memo)] [4, 6, 7, 10, 11, 13] [4, 6, 7] [63, 76] [] [] [] (.cons (sl10_ok e_Memo h10) (.cons (app_ok e_Memo ((ltake l.Memos x2.2) ++ [(⟨c.Client, c.Seq, x6.2⟩ : Memo)]) (ldrop l.Memos v1)) (.cons (appl_ok e_Memo h11) .nil))) (by kernel_rfl) (fun v2 hv => ?_)
              have hF := lt_elim hF hv
              refine Wk_seq ?_
              refine ZRs [.nat (x6.1.length : Int), .nat (v2.length : Int)] [4, 6, 7, 10, 11, 13, 98] [4, 6, 7] [63, 76] [(98, .bool ((decide (1000 < (x6.1.length : Int))) || (decide (1000 < (v2.length : Int)))))] (.cons (len_ok e_Pair x6.1) (.cons (fun (_ : (!(decide (1000 < (x6.1.length : Int)))) = true) => (len_ok e_Memo v2)) .nil)) ?_
              refine Wk_split rfl (fun hb => ?_) (fun hb => ?_)
              · have hF := ite_t hF hb
                refine Wk_seq ?_
                obtain ⟨x7, h12, hF⟩ := lt_split hF
                refine UR [.callB (.agg [.i x7.Code, .i x7.At])] [4, 5, 6] [4, 6] [] [] [(5, .str ([] : List UInt8))] [(6, [.i x7.Code, .i x7.At])] [] [] (.cons (R_F_ok 9 0 x7 h12) .nil) ?_
                have hF := some_elim hF
                exact Wk_ret (hfin _ ⟨[], [], [], [], [], [], by first | (rw [← hF]; kernel_rfl) | kernel_rfl⟩)
              · have hF := ite_f hF hb
                refine Wk_skip ?_
                refine UDs [] [4, 5, 6] [4, 6] [63, 76] [] [(5, .str x6.2)] [(4, [.row 63 0, .row 76 3]), (6, [.i v.Code, .i v.At])] [] [] .nil ?_
                have hF := some_elim hF
                exact Wk_ret (hfin _ ⟨[], [], [], [], [], [], by first | (rw [← hF]; kernel_rfl) | kernel_rfl⟩)

/- tabularylaw.OnceDoes -/
noncomputable def law_OnceDoes (l : Ledger) (c : Call) : Option Bool :=
  ob (law_onceBegun) fun x =>
  if (!x) = true then
    some false
  else
    lt (law_many (l.Rows.length : Int)) fun x1 =>
    lt (law_many (l.Memos.length : Int)) fun x2 =>
    if (x1 || x2) = true then
      some true
    else
      ob (R_CopyLedger_v1 l) fun x3 =>
      ob (once_Check x3) fun x4 =>
      ob (once_Plain_v1 x3.Rows c) fun x5 =>
      ob (once_Do_v1 x3 c) fun x6 =>
      ob (R_SameLedger x3 l) fun x7 =>
      ob (if (!(!x7)) = true then (R_LedgerFault l) else some default) fun x8 =>
      if ((!x7) || (!(decide (x4.Code = x8.Code) && (decide (x4.At = x8.At) && true)))) = true then
        some false
      else
        ob (R_RowsFault l.Rows) fun x9 =>
        ob (
          if (decide (x9.Code = 0)) = true then
            lt (R_CallFault c) fun x10 =>
            some x10
          else
            some x9) fun (v : Fault) =>
        ob (
          if (decide (v.Code = 0)) = true then
            ob (R_Called_v1 l.Rows c) fun x11 =>
            if (decide (1000 < (x11.1.length : Int))) = true then
              lt (R_F 9 0) fun x12 =>
              some (x12, ([] : List Pair), ([] : List UInt8))
            else
              some (v, x11.1, x11.2)
          else
            some (v, ([] : List Pair), ([] : List UInt8))) fun (v1 : Fault × List Pair × List UInt8) =>
        ob (if (!((!(decide (x5.2.2.Code = v1.1.Code) && (decide (x5.2.2.At = v1.1.At) && true))) || (!decide (x5.2.1 = v1.2.2)))) = true then (R_SameRows x5.1 v1.2.1) else some default) fun x13 =>
        if (((!(decide (x5.2.2.Code = v1.1.Code) && (decide (x5.2.2.At = v1.1.At) && true))) || (!decide (x5.2.1 = v1.2.2))) || (!x13)) = true then
          some false
        else
          ob (R_Once_v1 l c) fun x14 =>
          ob (if ((decide (x6.2.2.Code = x14.2.2.Code) && (decide (x6.2.2.At = x14.2.2.At) && true)) && (decide (x6.2.1 = x14.2.1))) = true then (R_SameLedger x6.1 x14.1) else some default) fun x15 =>
          lt (((decide (x6.2.2.Code = x14.2.2.Code) && (decide (x6.2.2.At = x14.2.2.At) && true)) && (decide (x6.2.1 = x14.2.1))) && x15) fun (v2 : Bool) =>
          some v2
theorem law_OnceDoes_ok (l : Ledger) (c : Call) (r : Bool) (hF : law_OnceDoes l c = some r) : Pe Try.prog 4 S.none [.agg [.sl 2 (l.Rows.map e_Pair), .sl 3 (l.Memos.map e_Memo)], .agg (c_Call c)] (.bool r) S.none := by
  refine Pe_of (N := 116) (res := [.tmp 4]) (ts := [4]) Ty.ok Fn.b4 Try.func4 rfl rfl rfl rfl rfl rfl ?_
  intro Q g hfin
  unfold law_OnceDoes at hF
  refine URs [] [2, 3] [2, 3] [] [] [(2, .ptr 2 0), (3, .ptr 3 0)] [(2, [.sl 2 (l.Rows.map e_Pair), .sl 3 (l.Memos.map e_Memo)]), (3, (c_Call c))] [] [] .nil ?_
  refine Wk_seq ?_
  refine Wk_seq ?_
  obtain ⟨x, h0, hF⟩ := ob_elim hF
  refine ZR [.callB (.bool x)] [2, 3, 20] [2, 3] [] [(20, .bool (!x))] (.cons (law_onceBegun_ok  x h0) .nil) ?_
  refine Wk_split rfl (fun hb => ?_) (fun hb => ?_)
  · have hF := ite_t hF hb
    refine ZRs [] [4] [] [] [(4, .bool false)] .nil ?_
    have hF := some_elim hF
    exact Wk_ret (hfin _ ⟨[], [], [], [], [], [], by first | (rw [← hF]; kernel_rfl) | kernel_rfl⟩)
  · have hF := ite_f hF hb
    refine Wk_skip ?_
    refine Wk_seq ?_
    refine Wk_seq ?_
    obtain ⟨x1, h1, hF⟩ := lt_split hF
    obtain ⟨x2, h2, hF⟩ := lt_split hF
    refine ZR [.nat (l.Rows.length : Int), .callB (.bool x1), .nat (l.Memos.length : Int), .callB (.bool x2)] [2, 3, 30] [2, 3] [] [(30, .bool (x1 || x2))] (.cons (len_ok e_Pair l.Rows) (.cons (law_many_ok (l.Rows.length : Int) x1 h1) (.cons (fun (_ : (!x1) = true) => (len_ok e_Memo l.Memos)) (.cons (fun (ga0 : (!x1) = true) => (law_many_ok (l.Memos.length : Int) x2 h2)) .nil)))) ?_
    refine Wk_split rfl (fun hb => ?_) (fun hb => ?_)
    · have hF := ite_t hF hb
      refine ZRs [] [4] [] [] [(4, .bool true)] .nil ?_
      have hF := some_elim hF
      exact Wk_ret (hfin _ ⟨[], [], [], [], [], [], by first | (rw [← hF]; kernel_rfl) | kernel_rfl⟩)
    · have hF := ite_f hF hb
      refine Wk_skip ?_
      refine Wk_seq ?_
      obtain ⟨x3, h3, hF⟩ := ob_elim hF
      refine UR [.call (.agg [.sl 2 (x3.Rows.map e_Pair), .sl 3 (x3.Memos.map e_Memo)])] [2, 3, 5] [2, 3, 5] [] [] [(5, .ptr 5 0)] [(5, [.sl 2 (x3.Rows.map e_Pair), .sl 3 (x3.Memos.map e_Memo)])] [] [] (.cons (R_CopyLedger_v1_ok l x3 h3) .nil) ?_
      refine Wk_seq ?_
      obtain ⟨x4, h4, hF⟩ := ob_elim hF
      refine UR [.callB (.agg [.i x4.Code, .i x4.At])] [2, 3, 5, 6] [2, 3, 5, 6] [] [] [(6, .ptr 6 0)] [(6, [.i x4.Code, .i x4.At])] [] [] (.cons (once_Check_ok x3 x4 h4) .nil) ?_
      refine Wk_seq ?_
      obtain ⟨x5, h5, hF⟩ := ob_elim hF
      refine UR [.call (.tup [.sl 2 (x5.1.map e_Pair), .str x5.2.1, .agg [.i x5.2.2.Code, .i x5.2.2.At]])] [2, 3, 5, 6, 7, 8, 9] [2, 3, 5, 6, 9] [] [] [(7, .sl 2 (x5.1.map e_Pair)), (8, .str x5.2.1), (9, .ptr 9 0)] [(9, [.i x5.2.2.Code, .i x5.2.2.At])] [] [] (.cons (once_Plain_v1_ok x3.Rows c x5 h5) .nil) ?_
      refine Wk_seq ?_
      obtain ⟨x6, h6, hF⟩ := ob_elim hF
      refine UR [.call (.tup [.agg [.sl 2 (x6.1.Rows.map e_Pair), .sl 3 (x6.1.Memos.map e_Memo)], .str x6.2.1, .agg [.i x6.2.2.Code, .i x6.2.2.At]])] [2, 3, 5, 6, 7, 8, 9, 10, 11, 12] [2, 3, 5, 6, 9, 10, 12] [] [] [(10, .ptr 10 0), (11, .str x6.2.1), (12, .ptr 12 0)] [(10, [.sl 2 (x6.1.Rows.map e_Pair), .sl 3 (x6.1.Memos.map e_Memo)]), (12, [.i x6.2.2.Code, .i x6.2.2.At])] [] [] (.cons (once_Do_v1_ok x3 c x6 h6) .nil) ?_
      refine Wk_seq ?_
      refine Wk_seq ?_
      obtain ⟨x7, h7, hF⟩ := ob_elim hF
      obtain ⟨x8, h8, hF⟩ := ob_elim hF
      refine ZD [.callB (.bool x7), .callB (.agg [.i x8.Code, .i x8.At])] [2, 3, 7, 8, 9, 10, 11, 12, 59] [2, 3, 9, 10, 12] [] [(59, .bool ((!x7) || (!(decide (x4.Code = x8.Code) && (decide (x4.At = x8.At) && true)))))] (.cons (R_SameLedger_ok x3 l x7 h7) (.cons (fun (ga0 : (!(!x7)) = true) => (R_LedgerFault_ok l x8 (ite_t h8 ga0))) .nil)) ?_
      refine Wk_split rfl (fun hb => ?_) (fun hb => ?_)
      · have hF := ite_t hF hb
        refine ZRs [] [4] [] [] [(4, .bool false)] .nil ?_
        have hF := some_elim hF
        exact Wk_ret (hfin _ ⟨[], [], [], [], [], [], by first | (rw [← hF]; kernel_rfl) | kernel_rfl⟩)
      · have hF := ite_f hF hb
        refine Wk_skip ?_
        refine Wk_seq ?_
        obtain ⟨x9, h9, hF⟩ := ob_elim hF
        refine UR [.callB (.agg [.i x9.Code, .i x9.At])] [2, 3, 7, 8, 9, 10, 11, 12, 13] [2, 3, 9, 10, 12, 13] [] [] [(13, .ptr 13 0)] [(13, [.i x9.Code, .i x9.At])] [] [] (.cons (R_RowsFault_ok l.Rows x9 h9) .nil) ?_
        refine Wk_seq ?_
        refine ZRs [] [2, 3, 7, 8, 9, 10, 11, 12, 13, 65] [2, 3, 9, 10, 12, 13] [] [(65, .bool (decide (x9.Code = 0)))] .nil ?_
        obtain ⟨v, hv, hF⟩ := ob_elim hF
        refine Wk_meet (⟨[(2, .ptr 2 0), (3, .ptr 3 0), (7, .sl 2 (x5.1.map e_Pair)), (8, .str x5.2.1), (9, .ptr 9 0), (10, .ptr 10 0), (11, .str x6.2.1), (12, .ptr 12 0), (13, .ptr 13 0)], [(2, [.sl 2 (l.Rows.map e_Pair), .sl 3 (l.Memos.map e_Memo)]), (3, (c_Call c)), (9, [.i x5.2.2.Code, .i x5.2.2.At]), (10, [.sl 2 (x6.1.Rows.map e_Pair), .sl 3 (x6.1.Memos.map e_Memo)]), (12, [.i x6.2.2.Code, .i x6.2.2.At]), (13, [.i v.Code, .i v.At])], [], [], []⟩ : S) ?_ ?_
        · have hF := hv
          refine Wk_split rfl (fun hb => ?_) (fun hb => ?_)
          · have hF := ite_t hF hb
            obtain ⟨x10, h10, hF⟩ := lt_split hF
            refine UR [.callB (.agg [.i x10.Code, .i x10.At])] [2, 3, 7, 8, 9, 10, 11, 12, 13] [2, 3, 9, 10, 12, 13] [] [] [] [(13, [.i x10.Code, .i x10.At])] [] [] (.cons (R_CallFault_ok c x10 h10) .nil) ?_
            exact Wk_met (fs := [2, 3, 7, 8, 9, 10, 11, 12, 13]) (bs := [2, 3, 9, 10, 12, 13]) (rs := []) (ms := []) (aa := []) (nv := []) (by first | (rw [← some_elim hF]; kernel_rfl) | kernel_rfl)
          · have hF := ite_f hF hb
            refine Wk_skip ?_
            exact Wk_met (fs := [2, 3, 7, 8, 9, 10, 11, 12, 13]) (bs := [2, 3, 9, 10, 12, 13]) (rs := []) (ms := []) (aa := []) (nv := []) (by first | (rw [← some_elim hF]; kernel_rfl) | kernel_rfl)
        · refine ZRs [] [2, 3, 7, 8, 9, 10, 11, 12, 13, 14] [2, 3, 9, 10, 12, 13] [] [(14, .nils)] .nil ?_
          refine ZRs [] [2, 3, 7, 8, 9, 10, 11, 12, 13, 14, 15] [2, 3, 9, 10, 12, 13] [] [(15, .str ([] : List UInt8))] .nil ?_
          refine Wk_seq ?_
          refine ZRs [] [2, 3, 7, 8, 9, 10, 11, 12, 13, 14, 15, 70] [2, 3, 9, 10, 12, 13] [] [(70, .bool (decide (v.Code = 0)))] .nil ?_
          obtain ⟨v1, hv, hF⟩ := ob_elim hF
          refine Wk_meet (⟨[(2, .ptr 2 0), (3, .ptr 3 0), (7, .sl 2 (x5.1.map e_Pair)), (8, .str x5.2.1), (9, .ptr 9 0), (10, .ptr 10 0), (11, .str x6.2.1), (12, .ptr 12 0), (13, .ptr 13 0), (14, .sl 2 (v1.2.1.map e_Pair)), (15, .str v1.2.2)], [(2, [.sl 2 (l.Rows.map e_Pair), .sl 3 (l.Memos.map e_Memo)]), (3, (c_Call c)), (9, [.i x5.2.2.Code, .i x5.2.2.At]), (10, [.sl 2 (x6.1.Rows.map e_Pair), .sl 3 (x6.1.Memos.map e_Memo)]), (12, [.i x6.2.2.Code, .i x6.2.2.At]), (13, [.i v1.1.Code, .i v1.1.At])], [], [], []⟩ : S) ?_ ?_
          · have hF := hv
            refine Wk_split rfl (fun hb => ?_) (fun hb => ?_)
            · have hF := ite_t hF hb
              refine Wk_seq ?_
              obtain ⟨x11, h11, hF⟩ := ob_elim hF
              refine ZR [.call (.tup [.sl 2 (x11.1.map e_Pair), .str x11.2])] [2, 3, 7, 8, 9, 10, 11, 12, 13, 14, 15] [2, 3, 9, 10, 12, 13] [] [(14, .sl 2 (x11.1.map e_Pair)), (15, .str x11.2)] (.cons (R_Called_v1_ok l.Rows c x11 h11) .nil) ?_
              refine ZRs [.nat (x11.1.length : Int)] [2, 3, 7, 8, 9, 10, 11, 12, 13, 14, 15, 80] [2, 3, 9, 10, 12, 13] [] [(80, .bool (decide (1000 < (x11.1.length : Int))))] (.cons (len_ok e_Pair x11.1) .nil) ?_
              refine Wk_split rfl (fun hb => ?_) (fun hb => ?_)
              · have hF := ite_t hF hb
                obtain ⟨x12, h12, hF⟩ := lt_split hF
                refine UR [.callB (.agg [.i x12.Code, .i x12.At])] [2, 3, 7, 8, 9, 10, 11, 12, 13, 14, 15] [2, 3, 9, 10, 12, 13] [] [] [(14, .nils), (15, .str ([] : List UInt8))] [(13, [.i x12.Code, .i x12.At])] [] [] (.cons (R_F_ok 9 0 x12 h12) .nil) ?_
                refine Wk_coe 14 (.sl 2 (([] : List Pair).map e_Pair)) rfl (.cell rfl (CoeS.nils 2)) ?_
                exact Wk_met (fs := [2, 3, 7, 8, 9, 10, 11, 12, 13, 14, 15]) (bs := [2, 3, 9, 10, 12, 13]) (rs := []) (ms := []) (aa := []) (nv := []) (by first | (rw [← some_elim hF]; kernel_rfl) | kernel_rfl)
              · have hF := ite_f hF hb
                refine Wk_skip ?_
                exact Wk_met (fs := [2, 3, 7, 8, 9, 10, 11, 12, 13, 14, 15]) (bs := [2, 3, 9, 10, 12, 13]) (rs := []) (ms := []) (aa := []) (nv := []) (by first | (rw [← some_elim hF]; kernel_rfl) | kernel_rfl)
            · have hF := ite_f hF hb
              refine Wk_skip ?_
              refine Wk_coe 14 (.sl 2 (([] : List Pair).map e_Pair)) rfl (.cell rfl (CoeS.nils 2)) ?_
              exact Wk_met (fs := [2, 3, 7, 8, 9, 10, 11, 12, 13, 14, 15]) (bs := [2, 3, 9, 10, 12, 13]) (rs := []) (ms := []) (aa := []) (nv := []) (by first | (rw [← some_elim hF]; kernel_rfl) | kernel_rfl)
          · refine Wk_seq ?_
            refine Wk_seq ?_
            obtain ⟨x13, h13, hF⟩ := ob_elim hF
            refine ZR [.callB (.bool x13)] [2, 3, 10, 11, 12, 95] [2, 3, 10, 12] [] [(95, .bool (((!(decide (x5.2.2.Code = v1.1.Code) && (decide (x5.2.2.At = v1.1.At) && true))) || (!decide (x5.2.1 = v1.2.2))) || (!x13)))] (.cons (fun (ga0 : (!((!(decide (x5.2.2.Code = v1.1.Code) && (decide (x5.2.2.At = v1.1.At) && true))) || (!decide (x5.2.1 = v1.2.2)))) = true) => (R_SameRows_ok x5.1 v1.2.1 x13 (ite_t h13 ga0))) .nil) ?_
            refine Wk_split rfl (fun hb => ?_) (fun hb => ?_)
            · have hF := ite_t hF hb
              refine ZRs [] [4] [] [] [(4, .bool false)] .nil ?_
              have hF := some_elim hF
              exact Wk_ret (hfin _ ⟨[], [], [], [], [], [], by first | (rw [← hF]; kernel_rfl) | kernel_rfl⟩)
            · have hF := ite_f hF hb
              refine Wk_skip ?_
              refine Wk_seq ?_
              obtain ⟨x14, h14, hF⟩ := ob_elim hF
              refine UR [.call (.tup [.agg [.sl 2 (x14.1.Rows.map e_Pair), .sl 3 (x14.1.Memos.map e_Memo)], .str x14.2.1, .agg [.i x14.2.2.Code, .i x14.2.2.At]])] [10, 11, 12, 16, 17, 18] [10, 12, 16, 18] [] [] [(16, .ptr 16 0), (17, .str x14.2.1), (18, .ptr 18 0)] [(16, [.sl 2 (x14.1.Rows.map e_Pair), .sl 3 (x14.1.Memos.map e_Memo)]), (18, [.i x14.2.2.Code, .i x14.2.2.At])] [] [] (.cons (R_Once_v1_ok l c x14 h14) .nil) ?_
              refine Wk_seq ?_
              obtain ⟨x15, h15, hF⟩ := ob_elim hF
              refine WRL (((decide (x6.2.2.Code = x14.2.2.Code) && (decide (x6.2.2.At = x14.2.2.At) && true)) && (decide (x6.2.1 = x14.2.1))) && x15) (fun v2 : Bool => ⟨[(4, .bool v2)], [], [], [], []⟩) [.callB (.bool x15)] [4] [] [] [] [] [] (.cons (fun (ga0 : ((decide (x6.2.2.Code = x14.2.2.Code) && (decide (x6.2.2.At = x14.2.2.At) && true)) && (decide (x6.2.1 = x14.2.1))) = true) => (R_SameLedger_ok x6.1 x14.1 x15 (ite_t h15 ga0))) .nil) (by kernel_rfl) (fun v2 hv => ?_)
              have hF := lt_elim hF hv
              have hF := some_elim hF
              exact Wk_ret (hfin _ ⟨[], [], [], [], [], [], by first | (rw [← hF]; kernel_rfl) | kernel_rfl⟩)

end G
end Go.Proofs.Ytipeimcdjijkgaa
