/- The program's functions as plain functions, and that they are these. Written by a program (dec2.py). -/
import Derived.Test.YtollmifjbcccgaaGf1
namespace Go.Proofs.Ytollmifjbcccgaa
open Go Go.Dm
set_option linter.unusedVariables false
set_option linter.unusedSimpArgs false
set_option maxRecDepth 100000
namespace G
/- tabularyref.CellAt -/
noncomputable def R_CellAt_J1 (v : Cell × List (List UInt8) × List Int × Int) : Option (Cell × Int) :=
 asrt (0 ≤ (0 : Int) ∧ 0 < (v.2.1.length : Int)) <|
 asrt (0 ≤ (0 : Int) ∧ 0 < (v.2.1.length : Int)) <|
 asrt (0 ≤ (1 : Int) ∧ 1 < (v.2.1.length : Int)) <|
 asrt (0 ≤ (1 : Int) ∧ 1 < (v.2.1.length : Int)) <|
 asrt (0 ≤ (0 : Int) ∧ 0 < (v.2.2.1.length : Int)) <|
 asrt (0 ≤ (0 : Int) ∧ 0 < (v.2.2.1.length : Int)) <|
 asrt (0 ≤ (1 : Int) ∧ 1 < (v.2.2.1.length : Int)) <|
 asrt (0 ≤ (1 : Int) ∧ 1 < (v.2.2.1.length : Int)) <|
 asrt (0 ≤ (2 : Int) ∧ 2 < (v.2.1.length : Int)) <|
 asrt (0 ≤ (2 : Int) ∧ 2 < (v.2.1.length : Int)) <|
 asrt (0 ≤ (1 : Int) ∧ 1 < (v.2.2.1.length : Int)) <|
 asrt (0 ≤ (1 : Int) ∧ 1 < (v.2.2.1.length : Int)) <|
 lt (R_CellCode (⟨(lget v.2.1 0), (lget v.2.1 1), (lget v.2.2.1 0), decide ((lget v.2.2.1 1) = 1), (lget v.2.1 2)⟩ : Cell)) fun x =>
 if ((decide (1 < (lget v.2.2.1 1))) || (!decide (x = 0))) = true then
  some ((⟨([] : List UInt8), ([] : List UInt8), 0, false, ([] : List UInt8)⟩ : Cell), 0)
 else
  some ((⟨(lget v.2.1 0), (lget v.2.1 1), (lget v.2.2.1 0), decide ((lget v.2.2.1 1) = 1), (lget v.2.1 2)⟩ : Cell), v.2.2.2)
noncomputable def R_CellAt_J2 (v1 : Cell × List (List UInt8) × List Int × Int × Int) (v2 : Cell × List (List UInt8) × List Int × Int) : Option ((Cell × List (List UInt8) × List Int × Int × Int) ⊕ (Cell × Int)) :=
 some (Sum.inl (v2.1, v2.2.1, v2.2.2.1, v2.2.2.2, w64 (v1.2.2.2.2 + 1)))
noncomputable def R_CellAt_B1 (b : List UInt8) (v1 : Cell × List (List UInt8) × List Int × Int × Int) : Option ((Cell × List (List UInt8) × List Int × Int × Int) ⊕ (Cell × Int)) :=
 if (decide (v1.2.2.2.2 < 5)) = true then
  asrt (0 ≤ v1.2.2.2.1 ∧ v1.2.2.2.1 ≤ (b.length : Int)) <|
  ob (R_NumberAt (ldrop b v1.2.2.2.1)) fun x1 =>
  if (decide (x1.2 = 0)) = true then
   some (Sum.inr ((⟨([] : List UInt8), ([] : List UInt8), 0, false, ([] : List UInt8)⟩ : Cell), 0))
  else
   if ((decide (v1.2.2.2.2 = 2)) || (decide (v1.2.2.2.2 = 3))) = true then
    asrt (((v1.2.2.1 ++ ([x1.1] : List Int)).length : Int) * 8 ≤ 140737488351232) <|
    R_CellAt_J2 v1 (v1.1, v1.2.1, (v1.2.2.1 ++ ([x1.1] : List Int)), w64 (v1.2.2.2.1 + x1.2))
   else
    if (decide ((w64 ((b.length : Int) - (w64 (v1.2.2.2.1 + x1.2)))) < x1.1)) = true then
     some (Sum.inr ((⟨([] : List UInt8), ([] : List UInt8), 0, false, ([] : List UInt8)⟩ : Cell), 0))
    else
     asrt (0 ≤ w64 (v1.2.2.2.1 + x1.2) ∧ w64 (v1.2.2.2.1 + x1.2) ≤ w64 ((w64 (v1.2.2.2.1 + x1.2)) + x1.1) ∧ w64 ((w64 (v1.2.2.2.1 + x1.2)) + x1.1) ≤ (b.length : Int)) <|
     asrt (((v1.2.1 ++ ([(ldrop (ltake b (w64 ((w64 (v1.2.2.2.1 + x1.2)) + x1.1))) (w64 (v1.2.2.2.1 + x1.2)))] : List (List UInt8))).length : Int) * 16 ≤ 140737488351232) <|
     lt ((v1.2.1 ++ ([(ldrop (ltake b (w64 ((w64 (v1.2.2.2.1 + x1.2)) + x1.1))) (w64 (v1.2.2.2.1 + x1.2)))] : List (List UInt8)))) fun (v3 : List (List UInt8)) =>
     R_CellAt_J2 v1 (v1.1, v3, v1.2.2.1, w64 ((w64 (v1.2.2.2.1 + x1.2)) + x1.1))
 else
  inrO (R_CellAt_J1 (v1.1, v1.2.1, v1.2.2.1, v1.2.2.2.1))
noncomputable def R_CellAt_L1 (b : List UInt8) (v0 : Cell × List (List UInt8) × List Int × Int × Int) : Option (Cell × Int) :=
 loopO (fun y => R_CellAt_B1 b y) v0
noncomputable def R_CellAt (b : List UInt8) : Option (Cell × Int) :=
 R_CellAt_L1 b ((⟨([] : List UInt8), ([] : List UInt8), 0, false, ([] : List UInt8)⟩ : Cell), ([] : List (List UInt8)), ([] : List Int), 0, 0)
theorem R_CellAt_ok (b : List UInt8) (r : Cell × Int) (hF : R_CellAt b = some r) : Pe Try.prog 107 S.none [.sl 1 (b.map e_u8)] (.tup [.agg (c_Cell r.1), .i r.2]) S.none := by
 refine PeN 87 [.cell 2 96, .tmp 3] [96, 3] Ty.ok Fn.b107 Try.func107 ?_
 intro Q g hfin
 unfold R_CellAt at hF
 refine VR [] [0, 2] [2] [] [] [(2, .ptr 2 0)] [(2, [.str [], .str [], .i 0, .bool false, .str []])] [] [] .nil ?_
 refine NR [] [0, 2, 4] [2] [] [(4, .nils)] .nil ?_
 refine NR [] [0, 2, 4, 5] [2] [] [(5, .nils)] .nil ?_
 refine NR [] [0, 2, 4, 5, 6] [2] [] [(6, .i 0)] .nil ?_
 refine NR [] [0, 2, 4, 5, 6, 7] [2] [] [(7, .i 0)] .nil ?_
 refine NmeetP (fun v : Cell × List (List UInt8) × List Int × Int => (⟨[(2, .ptr 2 0), (4, .row 54 0), (5, .row 37 0), (6, .i v.2.2.2)], [(2, (c_Cell v.1))], [(37, .z 3 1 0 (v.2.2.1.map e_i64)), (54, .z 9 1 0 (v.2.1.map e_str))], [], []⟩ : S)) (fun v => R_CellAt_J1 v = some r) ?_ ?_
 ·refine Nblk ?_
  unfold R_CellAt_L1 at hF
  refine Wk_nilrow 4 60000 9 1 rfl rfl rfl ?_
  refine Wk_nilrow 5 60001 3 1 rfl rfl rfl ?_
  refine Wk_trim (fs := [0, 2, 4, 5, 6, 7]) (bs := [2]) (rs := [60000, 60001]) (ms := []) (aa := []) (nv := []) rfl ?_
  refine Wk_ren' ⟨[], [(60000, 54), (60001, 37)], [], []⟩ rfl ?_
  refine Niter (fun v1 : Cell × List (List UInt8) × List Int × Int × Int => (⟨[(0, .sl 1 (b.map e_u8)), (2, .ptr 2 0), (4, .row 54 0), (5, .row 37 0), (6, .i v1.2.2.2.1), (7, .i v1.2.2.2.2)], [(2, (c_Cell v1.1))], [(37, .z 3 1 0 (v1.2.2.1.map e_i64)), (54, .z 9 1 0 (v1.2.1.map e_str))], [], []⟩ : S)) [] hF (by kernel_rfl) ?_
  intro n1 v1 y1 hF ih1 dn1
  unfold R_CellAt_B1 at hF
  refine NR [] [0, 2, 4, 5, 6, 7, 12] [2] [37, 54] [(12, .bool (decide (v1.2.2.2.2 < 5)))] .nil ?_
  refine Nif hF (fun hb hF => ?_) (fun hb hF => ?_)
  ·refine NmeetP (fun v2 : Cell × List (List UInt8) × List Int × Int => (⟨[(0, .sl 1 (b.map e_u8)), (2, .ptr 2 0), (4, .row 54 0), (5, .row 37 0), (6, .i v2.2.2.2), (7, .i v1.2.2.2.2)], [(2, (c_Cell v2.1))], [(37, .z 3 1 0 (v2.2.2.1.map e_i64)), (54, .z 9 1 0 (v2.2.1.map e_str))], [], []⟩ : S)) (fun v2 => R_CellAt_J2 v1 v2 = some y1) ?_ ?_
   ·refine Nblk ?_
    obtain ⟨h13, hF⟩ := asrt_elim hF
    obtain ⟨x1, h14, hF⟩ := ob_elim hF
    refine NR [.xs ((ldrop b v1.2.2.2.1).map e_u8), .callB (.tup [.i x1.1, .i x1.2])] [0, 2, 4, 5, 6, 7, 8, 9] [2] [37, 54] [(8, .i x1.1), (9, .i x1.2)] (hc (sl10_ok e_u8 h13) (hc (R_NumberAt_ok (ldrop b v1.2.2.2.1) x1 h14) .nil)) ?_
    refine NR [] [0, 2, 4, 5, 6, 7, 8, 9, 23] [2] [37, 54] [(23, .bool (decide (x1.2 = 0)))] .nil ?_
    refine Nif hF (fun hb hF => ?_) (fun hb hF => ?_)
    ·refine VR [] [2, 3] [2] [] [] [(3, .i 0)] [(2, [.str [], .str [], .i 0, .bool false, .str []])] [] [] .nil ?_
     have hF := ret_done hF dn1
     cases hF
     exact Wk_ret (hfin _ ⟨[], [], [], [], [], [], by kernel_rfl⟩)
    ·refine NR [] [0, 2, 4, 5, 6, 7, 8] [2] [37, 54] [(6, .i (w64 (v1.2.2.2.1 + x1.2)))] .nil ?_
     refine NR [] [0, 2, 4, 5, 6, 7, 8, 33] [2] [37, 54] [(33, .bool ((decide (v1.2.2.2.2 = 2)) || (decide (v1.2.2.2.2 = 3))))] .nil ?_
     refine Nif hF (fun hb hF => ?_) (fun hb hF => ?_)
     ·obtain ⟨h15, hF⟩ := asrt_elim hF
      refine VR [.sealed, .xs ((v1.2.2.1 ++ ([x1.1] : List Int)).map e_i64)] [0, 2, 4, 5, 6, 7] [2] [37, 54] [] [(5, .row 37 1)] [] [(37, .z 3 1 1 ((v1.2.2.1 ++ ([x1.1] : List Int)).map e_i64))] [] (hc (app_ok e_i64 v1.2.2.1 ([x1.1] : List Int)) (hc (appl_ok e_i64 h15) .nil)) ?_
      refine Nexit rfl ?_
      exact metP (v1.1, v1.2.1, (v1.2.2.1 ++ ([x1.1] : List Int)), w64 (v1.2.2.2.1 + x1.2)) [(37, ⟨0, true, true, false⟩)] hF (by kernel_rfl)
     ·refine NR [.nat (b.length : Int)] [0, 2, 4, 5, 6, 7, 8, 43] [2] [37, 54] [(43, .bool (decide ((w64 ((b.length : Int) - (w64 (v1.2.2.2.1 + x1.2)))) < x1.1)))] (hc (len_ok e_u8 b) .nil) ?_
      refine Nif hF (fun hb hF => ?_) (fun hb hF => ?_)
      ·refine VR [] [2, 3] [2] [] [] [(3, .i 0)] [(2, [.str [], .str [], .i 0, .bool false, .str []])] [] [] .nil ?_
       have hF := ret_done hF dn1
       cases hF
       exact Wk_ret (hfin _ ⟨[], [], [], [], [], [], by kernel_rfl⟩)
      ·obtain ⟨h16, hF⟩ := asrt_elim hF
       obtain ⟨h17, hF⟩ := asrt_elim hF
       refine NRL ((v1.2.1 ++ ([(ldrop (ltake b (w64 ((w64 (v1.2.2.2.1 + x1.2)) + x1.1))) (w64 (v1.2.2.2.1 + x1.2)))] : List (List UInt8)))) (fun v3 : List (List UInt8) => ([(4, .row 54 1)], [], [(54, .z 9 1 1 (v3.map e_str))], [])) [.xs ((ldrop (ltake b (w64 ((w64 (v1.2.2.2.1 + x1.2)) + x1.1))) (w64 (v1.2.2.2.1 + x1.2))).map e_u8), .str (ldrop (ltake b (w64 ((w64 (v1.2.2.2.1 + x1.2)) + x1.1))) (w64 (v1.2.2.2.1 + x1.2))), .sealed, .xs ((v1.2.1 ++ ([(ldrop (ltake b (w64 ((w64 (v1.2.2.2.1 + x1.2)) + x1.1))) (w64 (v1.2.2.2.1 + x1.2)))] : List (List UInt8))).map e_str)] [0, 2, 4, 5, 6, 7, 8] [2] [37, 54] [] (hc (sl11_ok e_u8 h16) (hc (u8s_ok (ldrop (ltake b (w64 ((w64 (v1.2.2.2.1 + x1.2)) + x1.1))) (w64 (v1.2.2.2.1 + x1.2)))) (hc (app_ok e_str v1.2.1 ([(ldrop (ltake b (w64 ((w64 (v1.2.2.2.1 + x1.2)) + x1.1))) (w64 (v1.2.2.2.1 + x1.2)))] : List (List UInt8))) (hc (appl_ok e_str h17) .nil)))) (fun v3 hv => ?_)
       have hF := lt_elim hF hv
       refine NR [] [0, 2, 4, 5, 6, 7] [2] [37, 54] [(6, .i (w64 ((w64 (v1.2.2.2.1 + x1.2)) + x1.1)))] .nil ?_
       exact metP (v1.1, v3, v1.2.2.1, w64 ((w64 (v1.2.2.2.1 + x1.2)) + x1.1)) [(54, ⟨0, true, true, false⟩)] hF (by kernel_rfl)
   ·intro v2 hF
    have hF : R_CellAt_J2 v1 v2 = some y1 := hF
    unfold R_CellAt_J2 at hF
    refine NR [] [0, 2, 4, 5, 6, 7] [2] [37, 54] [(7, .i (w64 (v1.2.2.2.2 + 1)))] .nil ?_
    exact Nrnd [] hF ih1 (by kernel_rfl)
  ·refine Nexit rfl ?_
   have hF := inrO_done hF dn1
   exact metP (v1.1, v1.2.1, v1.2.2.1, v1.2.2.2.1) [] hF (by kernel_rfl)
 ·intro v hF
  have hF : R_CellAt_J1 v = some r := hF
  unfold R_CellAt_J1 at hF
  obtain ⟨h0, h1, h2, h3, hF⟩ := asrt4 hF
  obtain ⟨h4, h5, h6, h7, hF⟩ := asrt4 hF
  obtain ⟨h8, h9, hF⟩ := asrt2 hF
  refine VD [.av (e_str (lget v.2.1 0)), .av (e_str (lget v.2.1 1)), .av (e_i64 (lget v.2.2.1 0)), .av (e_i64 (lget v.2.2.1 1)), .av (e_str (lget v.2.1 2))] [2, 5, 6, 10] [2, 10] [37] [] [(10, .ptr 10 0)] [(10, [.str (lget v.2.1 0), .str (lget v.2.1 1), .i (lget v.2.2.1 0), .bool (decide ((lget v.2.2.1 1) = 1)), .str (lget v.2.1 2)])] [] [] (hc (ixr_ok e_str h0) (hc (ldr_ok e_str h1) (hc (ixr_ok e_str h2) (hc (ldr_ok e_str h3) (hc (ixr_ok e_i64 h4) (hc (ldr_ok e_i64 h5) (hc (ixr_ok e_i64 h6) (hc (ldr_ok e_i64 h7) (hc (ixr_ok e_str h8) (hc (ldr_ok e_str h9) .nil)))))))))) ?_
  obtain ⟨h10, h11, hF⟩ := asrt2 hF
  obtain ⟨x, h12, hF⟩ := lt_split hF
  refine NR [.av (e_i64 (lget v.2.2.1 1)), .callB (.i x)] [2, 6, 10, 83] [2, 10] [] [(83, .bool ((decide (1 < (lget v.2.2.1 1))) || (!decide (x = 0))))] (hc (ixr_ok e_i64 h10) (hc (ldr_ok e_i64 h11) (hc (fun (ga0 : (!(decide (1 < (lget v.2.2.1 1)))) = true) => (R_CellCode_ok (⟨(lget v.2.1 0), (lget v.2.1 1), (lget v.2.2.1 0), decide ((lget v.2.2.1 1) = 1), (lget v.2.1 2)⟩ : Cell) x h12)) .nil))) ?_
  refine Nif hF (fun hb hF => ?_) (fun hb hF => ?_)
  ·refine VR [] [2, 3] [2] [] [] [(3, .i 0)] [(2, [.str [], .str [], .i 0, .bool false, .str []])] [] [] .nil ?_
   cases hF
   exact Wk_ret (hfin _ ⟨[], [], [], [], [], [], by kernel_rfl⟩)
  ·refine VR [] [2, 3] [2] [] [] [(3, .i v.2.2.2)] [(2, [.str (lget v.2.1 0), .str (lget v.2.1 1), .i (lget v.2.2.1 0), .bool (decide ((lget v.2.2.1 1) = 1)), .str (lget v.2.1 2)])] [] [] .nil ?_
   cases hF
   exact Wk_ret (hfin _ ⟨[], [], [], [], [], [], by kernel_rfl⟩)

/- tabularyref.CellsOf -/
noncomputable def R_CellsOf_J1 (v : Fault × List Cell) : Option (List Cell × Fault) :=
 ob (R_CellsFault v.2) fun x1 =>
 if (!decide (x1.Code = 0)) = true then
  some (([] : List Cell), x1)
 else
  some (v.2, (⟨0, 0⟩ : Fault))
noncomputable def R_CellsOf_B1 (v1 : List UInt8 × Fault × List Cell) : Option ((List UInt8 × Fault × List Cell) ⊕ (List Cell × Fault)) :=
 if (decide (0 < (v1.1.length : Int))) = true then
  ob (R_CellAt v1.1) fun x2 =>
  if (decide (x2.2 = 0)) = true then
   lt (R_F 5 (v1.2.2.length : Int)) fun x3 =>
   some (Sum.inr (([] : List Cell), x3))
  else
   asrt (((v1.2.2 ++ [x2.1]).length : Int) * 64 ≤ 140737488351232) <|
   asrt (0 ≤ x2.2 ∧ x2.2 ≤ (v1.1.length : Int)) <|
   some (Sum.inl ((ldrop v1.1 x2.2), v1.2.1, (v1.2.2 ++ [x2.1])))
 else
  inrO (R_CellsOf_J1 (v1.2.1, v1.2.2))
noncomputable def R_CellsOf_L1 (v0 : List UInt8 × Fault × List Cell) : Option (List Cell × Fault) :=
 loopO (fun y => R_CellsOf_B1 y) v0
noncomputable def R_CellsOf (b : List UInt8) : Option (List Cell × Fault) :=
 if (decide (60000 < (b.length : Int))) = true then
  lt (R_F 8 0) fun x =>
  some (([] : List Cell), x)
 else
  R_CellsOf_L1 (b, (⟨0, 0⟩ : Fault), ([] : List Cell))
theorem R_CellsOf_ok (b : List UInt8) (r : List Cell × Fault) (hF : R_CellsOf b = some r) : Pe Try.prog 71 S.none [.sl 1 (b.map e_u8)] (.tup [.row 28 0, .agg (c_Fault r.2)]) ⟨[], [], [(28, .z 96 5 0 (r.1.map e_Cell))], [], []⟩ := by
 refine PeN 40 [.tmp 2, .cell 3 31] [22, 31] Ty.ok Fn.b71 Try.func71 ?_
 intro Q g hfin
 unfold R_CellsOf at hF
 refine VR [] [0, 3] [3] [] [] [(3, .ptr 3 0)] [(3, [.i 0, .i 0])] [] [] .nil ?_
 refine NR [.nat (b.length : Int)] [0, 3, 10] [3] [] [(10, .bool (decide (60000 < (b.length : Int))))] (hc (len_ok e_u8 b) .nil) ?_
 refine Nif hF (fun hb hF => ?_) (fun hb hF => ?_)
 ·obtain ⟨x, h0, hF⟩ := lt_split hF
  refine VR [.callB (.agg (c_Fault x))] [2, 3] [3] [] [] [(2, .nils)] [(3, (c_Fault x))] [] [] (hc (R_F_ok 8 0 x h0) .nil) ?_
  cases hF
  refine Wk_nilrow 2 60000 96 5 rfl rfl rfl ?_
  refine Wk_ren' ⟨[], [(60000, 28)], [], []⟩ rfl ?_
  exact Wk_ret (hfin _ ⟨[28], [], [28], [], [], [], by kernel_rfl⟩)
 ·refine NR [] [0, 3, 4] [3] [] [(4, .nils)] .nil ?_
  refine NmeetP (fun v : Fault × List Cell => (⟨[(3, .ptr 3 0), (4, .row 28 0)], [(3, (c_Fault v.1))], [(28, .z 96 5 0 (v.2.map e_Cell))], [], []⟩ : S)) (fun v => R_CellsOf_J1 v = some r) ?_ ?_
  ·refine Nblk ?_
   unfold R_CellsOf_L1 at hF
   refine Wk_nilrow 4 60002 96 5 rfl rfl rfl ?_
   refine Wk_trim (fs := [0, 3, 4]) (bs := [3]) (rs := [60002]) (ms := []) (aa := []) (nv := []) rfl ?_
   refine Wk_ren' ⟨[], [(60002, 28)], [], []⟩ rfl ?_
   refine Niter (fun v1 : List UInt8 × Fault × List Cell => (⟨[(0, .sl 1 (v1.1.map e_u8)), (3, .ptr 3 0), (4, .row 28 0)], [(3, (c_Fault v1.2.1))], [(28, .z 96 5 0 (v1.2.2.map e_Cell))], [], []⟩ : S)) [] hF (by kernel_rfl) ?_
   intro n1 v1 y1 hF ih1 dn1
   unfold R_CellsOf_B1 at hF
   refine NR [.nat (v1.1.length : Int)] [0, 3, 4, 14] [3] [28] [(14, .bool (decide (0 < (v1.1.length : Int))))] (hc (len_ok e_u8 v1.1) .nil) ?_
   refine Nif hF (fun hb hF => ?_) (fun hb hF => ?_)
   ·refine Nblk ?_
    obtain ⟨x2, h2, hF⟩ := ob_elim hF
    refine VR [.callB (.tup [.agg (c_Cell x2.1), .i x2.2])] [0, 3, 4, 5, 6] [3, 5] [28] [] [(5, .ptr 5 0), (6, .i x2.2)] [(5, (c_Cell x2.1))] [] [] (hc (R_CellAt_ok v1.1 x2 h2) .nil) ?_
    refine NR [] [0, 3, 4, 5, 6, 21] [3, 5] [28] [(21, .bool (decide (x2.2 = 0)))] .nil ?_
    refine Nif hF (fun hb hF => ?_) (fun hb hF => ?_)
    ·obtain ⟨x3, h3, hF⟩ := lt_split hF
     refine VR [.nat (v1.2.2.length : Int), .callB (.agg (c_Fault x3))] [2, 3] [3] [] [] [(2, .nils)] [(3, (c_Fault x3))] [] [] (hc (len_ok e_Cell v1.2.2) (hc (R_F_ok 5 (v1.2.2.length : Int) x3 h3) .nil)) ?_
     have hF := ret_done hF dn1
     cases hF
     refine Wk_nilrow 2 60003 96 5 rfl rfl rfl ?_
     refine Wk_ren' ⟨[], [(60003, 28)], [], []⟩ rfl ?_
     exact Wk_ret (hfin _ ⟨[28], [], [28], [], [], [], by kernel_rfl⟩)
    ·obtain ⟨h4, hF⟩ := asrt_elim hF
     refine VR [.sealed, .xs ((v1.2.2 ++ [x2.1]).map e_Cell)] [0, 3, 4, 6] [3] [28] [] [(4, .row 28 1)] [] [(28, .z 96 5 1 ((v1.2.2 ++ [x2.1]).map e_Cell))] [] (hc (app_ok e_Cell v1.2.2 [x2.1]) (hc (appl_ok e_Cell h4) .nil)) ?_
     obtain ⟨h5, hF⟩ := asrt_elim hF
     refine NR [.xs ((ldrop v1.1 x2.2).map e_u8)] [0, 3, 4] [3] [28] [(0, .sl 1 ((ldrop v1.1 x2.2).map e_u8))] (hc (sl10_ok e_u8 h5) .nil) ?_
     exact Nrnd [(28, ⟨0, true, true, false⟩)] hF ih1 (by kernel_rfl)
   ·refine Nexit rfl ?_
    have hF := inrO_done hF dn1
    exact metP (v1.2.1, v1.2.2) [] hF (by kernel_rfl)
  ·intro v hF
   have hF : R_CellsOf_J1 v = some r := hF
   unfold R_CellsOf_J1 at hF
   obtain ⟨x1, h1, hF⟩ := ob_elim hF
   refine VR [.callB (.agg (c_Fault x1))] [3, 4, 7] [3, 7] [28] [] [(7, .ptr 7 0)] [(7, (c_Fault x1))] [] [] (hc (R_CellsFault_ok v.2 x1 h1) .nil) ?_
   refine NR [] [3, 4, 7, 36] [3, 7] [28] [(36, .bool (!decide (x1.Code = 0)))] .nil ?_
   refine Nif hF (fun hb hF => ?_) (fun hb hF => ?_)
   ·refine VD [] [2, 3] [3] [] [] [(2, .nils)] [(3, (c_Fault x1))] [] [] .nil ?_
    cases hF
    refine Wk_nilrow 2 60001 96 5 rfl rfl rfl ?_
    refine Wk_ren' ⟨[], [(60001, 28)], [], []⟩ rfl ?_
    exact Wk_ret (hfin _ ⟨[28], [], [28], [], [], [], by kernel_rfl⟩)
   ·refine VR [] [2, 3] [3] [28] [] [(2, .row 28 0)] [(3, [.i 0, .i 0])] [] [] .nil ?_
    cases hF
    exact Wk_ret (hfin _ ⟨[28], [], [28], [], [], [], by kernel_rfl⟩)

/- tabularyref.OpenedFile -/
noncomputable def R_OpenedFile_v1_J2 (x1 : List (List UInt8) × Int) (v1 : Fault × List Cell × List Int) : Option (List Cell × List Int × Fault) :=
 ob (R_CellsFault v1.2.1) fun x4 =>
 if ((!decide (x4.Code = 0)) || (decide (500 < (v1.2.1.length : Int)))) = true then
  lt (R_F 5 2) fun x5 =>
  some (([] : List Cell), ([] : List Int), x5)
 else
  ob (R_FilterOf v1.2.1) fun x6 =>
  asrt (0 ≤ w64 ((w64 ((x1.1.length : Int) - 2)) + 1) ∧ w64 ((w64 ((x1.1.length : Int) - 2)) + 1) < (x1.1.length : Int)) <|
  asrt (0 ≤ w64 ((w64 ((x1.1.length : Int) - 2)) + 1) ∧ w64 ((w64 ((x1.1.length : Int) - 2)) + 1) < (x1.1.length : Int)) <|
  lt (R_Same x6 (lget x1.1 (w64 ((w64 ((x1.1.length : Int) - 2)) + 1)))) fun x7 =>
  if (!x7) = true then
   lt (R_F 5 3) fun x8 =>
   some (([] : List Cell), ([] : List Int), x8)
  else
   some (v1.2.1, v1.2.2, (⟨0, 0⟩ : Fault))
noncomputable def R_OpenedFile_v1_B1 (x1 : List (List UInt8) × Int) (v : Fault × List UInt8 × List (List UInt8)) (v2 : Fault × List Cell × List Int × Int) : Option ((Fault × List Cell × List Int × Int) ⊕ (List Cell × List Int × Fault)) :=
 if (decide (v2.2.2.2 < (w64 ((x1.1.length : Int) - 2)))) = true then
  asrt (0 ≤ v2.2.2.2 ∧ v2.2.2.2 < (x1.1.length : Int)) <|
  asrt (0 ≤ v2.2.2.2 ∧ v2.2.2.2 < (x1.1.length : Int)) <|
  ob (R_CellsOf (lget x1.1 v2.2.2.2)) fun x9 =>
  asrt ((!((!decide (x9.2.Code = 0)) || (decide ((x9.1.length : Int) = 0)))) = true → 0 ≤ (0 : Int) ∧ 0 < (x9.1.length : Int)) <|
  asrt ((!((!decide (x9.2.Code = 0)) || (decide ((x9.1.length : Int) = 0)))) = true → 0 ≤ (0 : Int) ∧ 0 < (x9.1.length : Int)) <|
  asrt ((!((!decide (x9.2.Code = 0)) || (decide ((x9.1.length : Int) = 0)))) = true → 0 ≤ v2.2.2.2 ∧ v2.2.2.2 < (v.2.2.length : Int)) <|
  asrt ((!((!decide (x9.2.Code = 0)) || (decide ((x9.1.length : Int) = 0)))) = true → 0 ≤ v2.2.2.2 ∧ v2.2.2.2 < (v.2.2.length : Int)) <|
  if (((!decide (x9.2.Code = 0)) || (decide ((x9.1.length : Int) = 0))) || (!decide (((lget x9.1 0).Row) = (lget v.2.2 v2.2.2.2)))) = true then
   lt (R_F 5 2) fun x10 =>
   some (Sum.inr (([] : List Cell), ([] : List Int), x10))
  else
   asrt (((v2.2.1 ++ x9.1).length : Int) * 64 ≤ 140737488351232) <|
   asrt (((v2.2.2.1 ++ ([(x9.1.length : Int)] : List Int)).length : Int) * 8 ≤ 140737488351232) <|
   some (Sum.inl (v2.1, (v2.2.1 ++ x9.1), (v2.2.2.1 ++ ([(x9.1.length : Int)] : List Int)), w64 (v2.2.2.2 + 1)))
 else
  inrO (R_OpenedFile_v1_J2 x1 (v2.1, v2.2.1, v2.2.2.1))
noncomputable def R_OpenedFile_v1_L1 (x1 : List (List UInt8) × Int) (v : Fault × List UInt8 × List (List UInt8)) (v0 : Fault × List Cell × List Int × Int) : Option (List Cell × List Int × Fault) :=
 loopO (fun y => R_OpenedFile_v1_B1 x1 v y) v0
noncomputable def R_OpenedFile_v1_J1 (x1 : List (List UInt8) × Int) (v : Fault × List UInt8 × List (List UInt8)) : Option (List Cell × List Int × Fault) :=
 if (decide (0 < (v.2.1.length : Int))) = true then
  lt (R_F 5 1) fun x3 =>
  some (([] : List Cell), ([] : List Int), x3)
 else
  R_OpenedFile_v1_L1 x1 v (v.1, ([] : List Cell), ([] : List Int), 0)
noncomputable def R_OpenedFile_v1_B2 (x1 : List (List UInt8) × Int) (v3 : Fault × List UInt8 × List (List UInt8) × Int) : Option ((Fault × List UInt8 × List (List UInt8) × Int) ⊕ (List Cell × List Int × Fault)) :=
 if (decide (v3.2.2.2 < (w64 ((x1.1.length : Int) - 2)))) = true then
  ob (R_NumberAt v3.2.1) fun x11 =>
  if ((decide (x11.2 = 0)) || (decide ((w64 ((v3.2.1.length : Int) - x11.2)) < x11.1))) = true then
   lt (R_F 5 1) fun x12 =>
   some (Sum.inr (([] : List Cell), ([] : List Int), x12))
  else
   asrt (0 ≤ x11.2 ∧ x11.2 ≤ w64 (x11.2 + x11.1) ∧ w64 (x11.2 + x11.1) ≤ (v3.2.1.length : Int)) <|
   asrt (((v3.2.2.1 ++ ([(ldrop (ltake v3.2.1 (w64 (x11.2 + x11.1))) x11.2)] : List (List UInt8))).length : Int) * 16 ≤ 140737488351232) <|
   lt ((v3.2.2.1 ++ ([(ldrop (ltake v3.2.1 (w64 (x11.2 + x11.1))) x11.2)] : List (List UInt8)))) fun (v4 : List (List UInt8)) =>
   asrt (0 ≤ w64 (x11.2 + x11.1) ∧ w64 (x11.2 + x11.1) ≤ (v3.2.1.length : Int)) <|
   ob (R_NumberAt (ldrop v3.2.1 (w64 (x11.2 + x11.1)))) fun x13 =>
   asrt ((!(decide (x13.2 = 0))) = true → 0 ≤ v3.2.2.2 ∧ v3.2.2.2 < (x1.1.length : Int)) <|
   asrt ((!(decide (x13.2 = 0))) = true → 0 ≤ v3.2.2.2 ∧ v3.2.2.2 < (x1.1.length : Int)) <|
   if ((decide (x13.2 = 0)) || (!decide (x13.1 = ((lget x1.1 v3.2.2.2).length : Int)))) = true then
    lt (R_F 5 1) fun x14 =>
    some (Sum.inr (([] : List Cell), ([] : List Int), x14))
   else
    asrt (0 ≤ x13.2 ∧ x13.2 ≤ ((ldrop v3.2.1 (w64 (x11.2 + x11.1))).length : Int)) <|
    some (Sum.inl (v3.1, (ldrop (ldrop v3.2.1 (w64 (x11.2 + x11.1))) x13.2), v4, w64 (v3.2.2.2 + 1)))
 else
  inrO (R_OpenedFile_v1_J1 x1 (v3.1, v3.2.1, v3.2.2.1))
noncomputable def R_OpenedFile_v1_L2 (x1 : List (List UInt8) × Int) (v0 : Fault × List UInt8 × List (List UInt8) × Int) : Option (List Cell × List Int × Fault) :=
 loopO (fun y => R_OpenedFile_v1_B2 x1 y) v0
noncomputable def R_OpenedFile_v1 (b : List UInt8) : Option (List Cell × List Int × Fault) :=
 if (decide (60000 < (b.length : Int))) = true then
  lt (R_F 8 0) fun x =>
  some (([] : List Cell), ([] : List Int), x)
 else
  ob (R_Unframed b) fun x1 =>
  asrt ((!((!decide (x1.2 = (b.length : Int))) || (decide ((w64 ((x1.1.length : Int) - 2)) < 0)))) = true → 0 ≤ w64 ((w64 ((x1.1.length : Int) - 2)) + 1) ∧ w64 ((w64 ((x1.1.length : Int) - 2)) + 1) < (x1.1.length : Int)) <|
  asrt ((!((!decide (x1.2 = (b.length : Int))) || (decide ((w64 ((x1.1.length : Int) - 2)) < 0)))) = true → 0 ≤ w64 ((w64 ((x1.1.length : Int) - 2)) + 1) ∧ w64 ((w64 ((x1.1.length : Int) - 2)) + 1) < (x1.1.length : Int)) <|
  if (((!decide (x1.2 = (b.length : Int))) || (decide ((w64 ((x1.1.length : Int) - 2)) < 0))) || (decide (((lget x1.1 (w64 ((w64 ((x1.1.length : Int) - 2)) + 1))).length : Int) = 0))) = true then
   lt (R_F 5 0) fun x2 =>
   some (([] : List Cell), ([] : List Int), x2)
  else
   asrt (0 ≤ w64 ((x1.1.length : Int) - 2) ∧ w64 ((x1.1.length : Int) - 2) < (x1.1.length : Int)) <|
   asrt (0 ≤ w64 ((x1.1.length : Int) - 2) ∧ w64 ((x1.1.length : Int) - 2) < (x1.1.length : Int)) <|
   R_OpenedFile_v1_L2 x1 ((⟨0, 0⟩ : Fault), (lget x1.1 (w64 ((x1.1.length : Int) - 2))), ([] : List (List UInt8)), 0)
theorem R_OpenedFile_v1_ok (b : List UInt8) (r : List Cell × List Int × Fault) (hF : R_OpenedFile_v1 b = some r) : Pe Try.prog 55 S.none [.sl 1 (b.map e_u8)] (.tup [.sl 5 (r.1.map e_Cell), .sl 1 (r.2.1.map e_i64), .agg (c_Fault r.2.2)]) S.none := by
 refine PeN 176 [.tmp 2, .tmp 3, .cell 4 31] [22, 90, 31] Ty.ok Fn.b55 Try.func55 ?_
 intro Q g hfin
 unfold R_OpenedFile_v1 at hF
 refine VR [] [0, 4] [4] [] [] [(4, .ptr 4 0)] [(4, [.i 0, .i 0])] [] [] .nil ?_
 refine NR [.nat (b.length : Int)] [0, 4, 20] [4] [] [(20, .bool (decide (60000 < (b.length : Int))))] (hc (len_ok e_u8 b) .nil) ?_
 refine Nif hF (fun hb hF => ?_) (fun hb hF => ?_)
 ·obtain ⟨x, h0, hF⟩ := lt_split hF
  refine VR [.callB (.agg (c_Fault x))] [2, 3, 4] [4] [] [] [(2, .nils), (3, .nils)] [(4, (c_Fault x))] [] [] (hc (R_F_ok 8 0 x h0) .nil) ?_
  cases hF
  exact Wk_ret (hfin _ ⟨[], [], [], [], [], [], by kernel_rfl⟩)
 ·obtain ⟨x1, h1, hF⟩ := ob_elim hF
  refine VR [.callE [] [] [] [] (.tup [.row 24 0, .i x1.2]) ⟨[], [], [(24, .z 25 1 0 (x1.1.map e_L_u8))], [], []⟩] [0, 4, 5, 6] [4] [24] [] [(5, .row 24 0), (6, .i x1.2)] [] [(24, .z 25 1 0 (x1.1.map e_L_u8))] [] (hc (Pe.ren (R_Unframed_ok b x1 h1) ⟨[], [(56, 24)], [], []⟩) .nil) ?_
  refine NR [.nat (x1.1.length : Int)] [0, 4, 5, 6, 7] [4] [24] [(7, .i (w64 ((x1.1.length : Int) - 2)))] (hc (len_ok e_L_u8 x1.1) .nil) ?_
  obtain ⟨h2, h3, hF⟩ := asrt2 hF
  refine NR [.nat (b.length : Int), .av (e_L_u8 (lget x1.1 (w64 ((w64 ((x1.1.length : Int) - 2)) + 1)))), .nat ((lget x1.1 (w64 ((w64 ((x1.1.length : Int) - 2)) + 1))).length : Int)] [4, 5, 7, 46] [4] [24] [(46, .bool (((!decide (x1.2 = (b.length : Int))) || (decide ((w64 ((x1.1.length : Int) - 2)) < 0))) || (decide (((lget x1.1 (w64 ((w64 ((x1.1.length : Int) - 2)) + 1))).length : Int) = 0))))] (hc (len_ok e_u8 b) (hc (fun (ga0 : (!((!decide (x1.2 = (b.length : Int))) || (decide ((w64 ((x1.1.length : Int) - 2)) < 0)))) = true) => (ixr_ok e_L_u8 (h2 ga0))) (hc (fun (ga0 : (!((!decide (x1.2 = (b.length : Int))) || (decide ((w64 ((x1.1.length : Int) - 2)) < 0)))) = true) => (ldr_ok e_L_u8 (h3 ga0))) (hc (fun (_ : (!((!decide (x1.2 = (b.length : Int))) || (decide ((w64 ((x1.1.length : Int) - 2)) < 0)))) = true) => (len_ok e_u8 (lget x1.1 (w64 ((w64 ((x1.1.length : Int) - 2)) + 1))))) .nil)))) ?_
  refine Nif hF (fun hb hF => ?_) (fun hb hF => ?_)
  ·obtain ⟨x2, h4, hF⟩ := lt_split hF
   refine VR [.callB (.agg (c_Fault x2))] [2, 3, 4] [4] [] [] [(2, .nils), (3, .nils)] [(4, (c_Fault x2))] [] [] (hc (R_F_ok 5 0 x2 h4) .nil) ?_
   cases hF
   exact Wk_ret (hfin _ ⟨[], [], [], [], [], [], by kernel_rfl⟩)
  ·obtain ⟨h5, hF⟩ := asrt_elim hF
   obtain ⟨h6, hF⟩ := asrt_elim hF
   refine NR [.av (e_L_u8 (lget x1.1 (w64 ((x1.1.length : Int) - 2))))] [4, 5, 7, 8] [4] [24] [(8, .sl 1 ((lget x1.1 (w64 ((x1.1.length : Int) - 2))).map e_u8))] (hc (ixr_ok e_L_u8 h5) (hc (ldr_ok e_L_u8 h6) .nil)) ?_
   refine NR [] [4, 5, 7, 8, 9] [4] [24] [(9, .nils)] .nil ?_
   refine NR [] [4, 5, 7, 8, 9, 10] [4] [24] [(10, .i 0)] .nil ?_
   refine NmeetP (fun v : Fault × List UInt8 × List (List UInt8) => (⟨[(4, .ptr 4 0), (5, .row 24 0), (7, .i (w64 ((x1.1.length : Int) - 2))), (8, .sl 1 (v.2.1.map e_u8)), (9, .row 82 0)], [(4, (c_Fault v.1))], [(24, .z 25 1 0 (x1.1.map e_L_u8)), (82, .z 9 1 0 (v.2.2.map e_str))], [], []⟩ : S)) (fun v => R_OpenedFile_v1_J1 x1 v = some r) ?_ ?_
   ·refine Nblk ?_
    unfold R_OpenedFile_v1_L2 at hF
    refine Wk_nilrow 9 60002 9 1 rfl rfl rfl ?_
    refine Wk_trim (fs := [4, 5, 7, 8, 9, 10]) (bs := [4]) (rs := [24, 60002]) (ms := []) (aa := []) (nv := []) rfl ?_
    refine Wk_ren' ⟨[], [(60002, 82)], [], []⟩ rfl ?_
    refine Niter (fun v3 : Fault × List UInt8 × List (List UInt8) × Int => (⟨[(4, .ptr 4 0), (5, .row 24 0), (7, .i (w64 ((x1.1.length : Int) - 2))), (8, .sl 1 (v3.2.1.map e_u8)), (9, .row 82 0), (10, .i v3.2.2.2)], [(4, (c_Fault v3.1))], [(24, .z 25 1 0 (x1.1.map e_L_u8)), (82, .z 9 1 0 (v3.2.2.1.map e_str))], [], []⟩ : S)) [] hF (by kernel_rfl) ?_
    intro n1 v3 y1 hF ih1 dn1
    unfold R_OpenedFile_v1_B2 at hF
    refine NR [] [4, 5, 7, 8, 9, 10, 54] [4] [24, 82] [(54, .bool (decide (v3.2.2.2 < (w64 ((x1.1.length : Int) - 2)))))] .nil ?_
    refine Nif hF (fun hb hF => ?_) (fun hb hF => ?_)
    ·refine Nblk ?_
     obtain ⟨x11, h25, hF⟩ := ob_elim hF
     refine NR [.callB (.tup [.i x11.1, .i x11.2])] [4, 5, 7, 8, 9, 10, 11, 12] [4] [24, 82] [(11, .i x11.1), (12, .i x11.2)] (hc (R_NumberAt_ok v3.2.1 x11 h25) .nil) ?_
     refine NR [.nat (v3.2.1.length : Int)] [4, 5, 7, 8, 9, 10, 11, 12, 71] [4] [24, 82] [(71, .bool ((decide (x11.2 = 0)) || (decide ((w64 ((v3.2.1.length : Int) - x11.2)) < x11.1))))] (hc (fun (_ : (!(decide (x11.2 = 0))) = true) => (len_ok e_u8 v3.2.1)) .nil) ?_
     refine Nif hF (fun hb hF => ?_) (fun hb hF => ?_)
     ·obtain ⟨x12, h26, hF⟩ := lt_split hF
      refine VR [.callB (.agg (c_Fault x12))] [2, 3, 4] [4] [] [] [(2, .nils), (3, .nils)] [(4, (c_Fault x12))] [] [] (hc (R_F_ok 5 1 x12 h26) .nil) ?_
      have hF := ret_done hF dn1
      cases hF
      exact Wk_ret (hfin _ ⟨[], [], [], [], [], [], by kernel_rfl⟩)
     ·obtain ⟨h27, hF⟩ := asrt_elim hF
      obtain ⟨h28, hF⟩ := asrt_elim hF
      refine NRL ((v3.2.2.1 ++ ([(ldrop (ltake v3.2.1 (w64 (x11.2 + x11.1))) x11.2)] : List (List UInt8)))) (fun v4 : List (List UInt8) => ([(9, .row 82 1)], [], [(82, .z 9 1 1 (v4.map e_str))], [])) [.xs ((ldrop (ltake v3.2.1 (w64 (x11.2 + x11.1))) x11.2).map e_u8), .str (ldrop (ltake v3.2.1 (w64 (x11.2 + x11.1))) x11.2), .sealed, .xs ((v3.2.2.1 ++ ([(ldrop (ltake v3.2.1 (w64 (x11.2 + x11.1))) x11.2)] : List (List UInt8))).map e_str)] [4, 5, 7, 8, 9, 10, 11, 12] [4] [24, 82] [] (hc (sl11_ok e_u8 h27) (hc (u8s_ok (ldrop (ltake v3.2.1 (w64 (x11.2 + x11.1))) x11.2)) (hc (app_ok e_str v3.2.2.1 ([(ldrop (ltake v3.2.1 (w64 (x11.2 + x11.1))) x11.2)] : List (List UInt8))) (hc (appl_ok e_str h28) .nil)))) (fun v4 hv => ?_)
      have hF := lt_elim hF hv
      obtain ⟨h29, hF⟩ := asrt_elim hF
      refine NR [.xs ((ldrop v3.2.1 (w64 (x11.2 + x11.1))).map e_u8)] [4, 5, 7, 8, 9, 10] [4] [24, 82] [(8, .sl 1 ((ldrop v3.2.1 (w64 (x11.2 + x11.1))).map e_u8))] (hc (sl10_ok e_u8 h29) .nil) ?_
      obtain ⟨x13, h30, hF⟩ := ob_elim hF
      refine NR [.callB (.tup [.i x13.1, .i x13.2])] [4, 5, 7, 8, 9, 10, 11, 12] [4] [24, 82] [(11, .i x13.1), (12, .i x13.2)] (hc (R_NumberAt_ok (ldrop v3.2.1 (w64 (x11.2 + x11.1))) x13 h30) .nil) ?_
      obtain ⟨h31, h32, hF⟩ := asrt2 hF
      refine NR [.av (e_L_u8 (lget x1.1 v3.2.2.2)), .nat ((lget x1.1 v3.2.2.2).length : Int)] [4, 5, 7, 8, 9, 10, 12, 103] [4] [24, 82] [(103, .bool ((decide (x13.2 = 0)) || (!decide (x13.1 = ((lget x1.1 v3.2.2.2).length : Int)))))] (hc (fun (ga0 : (!(decide (x13.2 = 0))) = true) => (ixr_ok e_L_u8 (h31 ga0))) (hc (fun (ga0 : (!(decide (x13.2 = 0))) = true) => (ldr_ok e_L_u8 (h32 ga0))) (hc (fun (_ : (!(decide (x13.2 = 0))) = true) => (len_ok e_u8 (lget x1.1 v3.2.2.2))) .nil))) ?_
      refine Nif hF (fun hb hF => ?_) (fun hb hF => ?_)
      ·obtain ⟨x14, h33, hF⟩ := lt_split hF
       refine VR [.callB (.agg (c_Fault x14))] [2, 3, 4] [4] [] [] [(2, .nils), (3, .nils)] [(4, (c_Fault x14))] [] [] (hc (R_F_ok 5 1 x14 h33) .nil) ?_
       have hF := ret_done hF dn1
       cases hF
       exact Wk_ret (hfin _ ⟨[], [], [], [], [], [], by kernel_rfl⟩)
      ·obtain ⟨h34, hF⟩ := asrt_elim hF
       refine NR [.xs ((ldrop (ldrop v3.2.1 (w64 (x11.2 + x11.1))) x13.2).map e_u8)] [4, 5, 7, 8, 9, 10] [4] [24, 82] [(8, .sl 1 ((ldrop (ldrop v3.2.1 (w64 (x11.2 + x11.1))) x13.2).map e_u8))] (hc (sl10_ok e_u8 h34) .nil) ?_
       refine NR [] [4, 5, 7, 8, 9, 10] [4] [24, 82] [(10, .i (w64 (v3.2.2.2 + 1)))] .nil ?_
       exact Nrnd [(82, ⟨0, true, true, false⟩)] hF ih1 (by kernel_rfl)
    ·refine Nexit rfl ?_
     have hF := inrO_done hF dn1
     exact metP (v3.1, v3.2.1, v3.2.2.1) [] hF (by kernel_rfl)
   ·intro v hF
    have hF : R_OpenedFile_v1_J1 x1 v = some r := hF
    unfold R_OpenedFile_v1_J1 at hF
    refine NR [.nat (v.2.1.length : Int)] [4, 5, 7, 9, 110] [4] [24, 82] [(110, .bool (decide (0 < (v.2.1.length : Int))))] (hc (len_ok e_u8 v.2.1) .nil) ?_
    refine Nif hF (fun hb hF => ?_) (fun hb hF => ?_)
    ·obtain ⟨x3, h7, hF⟩ := lt_split hF
     refine VR [.callB (.agg (c_Fault x3))] [2, 3, 4] [4] [] [] [(2, .nils), (3, .nils)] [(4, (c_Fault x3))] [] [] (hc (R_F_ok 5 1 x3 h7) .nil) ?_
     cases hF
     exact Wk_ret (hfin _ ⟨[], [], [], [], [], [], by kernel_rfl⟩)
    ·refine NR [] [4, 5, 7, 9, 13] [4] [24, 82] [(13, .nils)] .nil ?_
     refine NR [] [4, 5, 7, 9, 13, 14] [4] [24, 82] [(14, .nils)] .nil ?_
     refine NR [] [4, 5, 7, 9, 13, 14, 15] [4] [24, 82] [(15, .i 0)] .nil ?_
     refine NmeetP (fun v1 : Fault × List Cell × List Int => (⟨[(4, .ptr 4 0), (5, .row 24 0), (7, .i (w64 ((x1.1.length : Int) - 2))), (13, .row 147 0), (14, .row 152 0)], [(4, (c_Fault v1.1))], [(24, .z 25 1 0 (x1.1.map e_L_u8)), (147, .z 96 5 0 (v1.2.1.map e_Cell)), (152, .z 3 1 0 (v1.2.2.map e_i64))], [], []⟩ : S)) (fun v1 => R_OpenedFile_v1_J2 x1 v1 = some r) ?_ ?_
     ·refine Nblk ?_
      unfold R_OpenedFile_v1_L1 at hF
      refine Wk_nilrow 13 60000 96 5 rfl rfl rfl ?_
      refine Wk_nilrow 14 60001 3 1 rfl rfl rfl ?_
      refine Wk_trim (fs := [4, 5, 7, 9, 13, 14, 15]) (bs := [4]) (rs := [24, 82, 60000, 60001]) (ms := []) (aa := []) (nv := []) rfl ?_
      refine Wk_ren' ⟨[], [(60000, 147), (60001, 152)], [], []⟩ rfl ?_
      refine Niter (fun v2 : Fault × List Cell × List Int × Int => (⟨[(4, .ptr 4 0), (5, .row 24 0), (7, .i (w64 ((x1.1.length : Int) - 2))), (9, .row 82 0), (13, .row 147 0), (14, .row 152 0), (15, .i v2.2.2.2)], [(4, (c_Fault v2.1))], [(24, .z 25 1 0 (x1.1.map e_L_u8)), (82, .z 9 1 0 (v.2.2.map e_str)), (147, .z 96 5 0 (v2.2.1.map e_Cell)), (152, .z 3 1 0 (v2.2.2.1.map e_i64))], [], []⟩ : S)) [] hF (by kernel_rfl) ?_
      intro n1 v2 y1 hF ih1 dn1
      unfold R_OpenedFile_v1_B1 at hF
      refine NR [] [4, 5, 7, 9, 13, 14, 15, 114] [4] [24, 82, 147, 152] [(114, .bool (decide (v2.2.2.2 < (w64 ((x1.1.length : Int) - 2)))))] .nil ?_
      refine Nif hF (fun hb hF => ?_) (fun hb hF => ?_)
      ·refine Nblk ?_
       obtain ⟨h15, h16, hF⟩ := asrt2 hF
       obtain ⟨x9, h17, hF⟩ := ob_elim hF
       refine VR [.av (e_L_u8 (lget x1.1 v2.2.2.2)), .callE [] [] [] [] (.tup [.row 122 0, .agg (c_Fault x9.2)]) ⟨[], [], [(122, .z 96 5 0 (x9.1.map e_Cell))], [], []⟩] [4, 5, 7, 9, 13, 14, 15, 16, 17] [4, 17] [24, 82, 122, 147, 152] [] [(16, .row 122 0), (17, .ptr 17 0)] [(17, (c_Fault x9.2))] [(122, .z 96 5 0 (x9.1.map e_Cell))] [] (hc (ixr_ok e_L_u8 h15) (hc (ldr_ok e_L_u8 h16) (hc (Pe.ren (R_CellsOf_ok (lget x1.1 v2.2.2.2) x9 h17) ⟨[], [(28, 122)], [], []⟩) .nil))) ?_
       obtain ⟨h18, h19, h20, h21, hF⟩ := asrt4 hF
       refine ND [.nat (x9.1.length : Int), .av (e_Cell (lget x9.1 0)), .av (e_str (lget v.2.2 v2.2.2.2))] [4, 5, 7, 9, 13, 14, 15, 16, 143] [4] [24, 82, 122, 147, 152] [(143, .bool (((!decide (x9.2.Code = 0)) || (decide ((x9.1.length : Int) = 0))) || (!decide (((lget x9.1 0).Row) = (lget v.2.2 v2.2.2.2)))))] (hc (fun (_ : (!(!decide (x9.2.Code = 0))) = true) => (len_ok e_Cell x9.1)) (hc (fun (ga0 : (!((!decide (x9.2.Code = 0)) || (decide ((x9.1.length : Int) = 0)))) = true) => (ixr_ok e_Cell (h18 ga0))) (hc (fun (ga0 : (!((!decide (x9.2.Code = 0)) || (decide ((x9.1.length : Int) = 0)))) = true) => (ldr_ok e_Cell (h19 ga0))) (hc (fun (ga0 : (!((!decide (x9.2.Code = 0)) || (decide ((x9.1.length : Int) = 0)))) = true) => (ixr_ok e_str (h20 ga0))) (hc (fun (ga0 : (!((!decide (x9.2.Code = 0)) || (decide ((x9.1.length : Int) = 0)))) = true) => (ldr_ok e_str (h21 ga0))) .nil))))) ?_
       refine Nif hF (fun hb hF => ?_) (fun hb hF => ?_)
       ·obtain ⟨x10, h22, hF⟩ := lt_split hF
        refine VR [.callB (.agg (c_Fault x10))] [2, 3, 4] [4] [] [] [(2, .nils), (3, .nils)] [(4, (c_Fault x10))] [] [] (hc (R_F_ok 5 2 x10 h22) .nil) ?_
        have hF := ret_done hF dn1
        cases hF
        exact Wk_ret (hfin _ ⟨[], [], [], [], [], [], by kernel_rfl⟩)
       ·obtain ⟨h23, hF⟩ := asrt_elim hF
        refine VR [.xs ((v2.2.1 ++ x9.1).map e_Cell)] [4, 5, 7, 9, 13, 14, 15, 16] [4] [24, 82, 122, 147, 152] [] [(13, .row 147 1)] [] [(147, .z 96 5 1 ((v2.2.1 ++ x9.1).map e_Cell))] [] (hc (app_ok e_Cell v2.2.1 x9.1) (hc (appl_ok e_Cell h23) .nil)) ?_
        obtain ⟨h24, hF⟩ := asrt_elim hF
        refine VR [.nat (x9.1.length : Int), .sealed, .xs ((v2.2.2.1 ++ ([(x9.1.length : Int)] : List Int)).map e_i64)] [4, 5, 7, 9, 13, 14, 15] [4] [24, 82, 147, 152] [] [(14, .row 152 1)] [] [(152, .z 3 1 1 ((v2.2.2.1 ++ ([(x9.1.length : Int)] : List Int)).map e_i64))] [] (hc (len_ok e_Cell x9.1) (hc (app_ok e_i64 v2.2.2.1 ([(x9.1.length : Int)] : List Int)) (hc (appl_ok e_i64 h24) .nil))) ?_
        refine NR [] [4, 5, 7, 9, 13, 14, 15] [4] [24, 82, 147, 152] [(15, .i (w64 (v2.2.2.2 + 1)))] .nil ?_
        exact Nrnd [(147, ⟨0, true, true, false⟩), (152, ⟨0, true, true, false⟩)] hF ih1 (by kernel_rfl)
      ·refine Nexit rfl ?_
       have hF := inrO_done hF dn1
       exact metP (v2.1, v2.2.1, v2.2.2.1) [] hF (by kernel_rfl)
     ·intro v1 hF
      have hF : R_OpenedFile_v1_J2 x1 v1 = some r := hF
      unfold R_OpenedFile_v1_J2 at hF
      obtain ⟨x4, h8, hF⟩ := ob_elim hF
      refine NR [.callB (.agg (c_Fault x4)), .nat (v1.2.1.length : Int)] [4, 5, 7, 13, 14, 161] [4] [24, 147, 152] [(161, .bool ((!decide (x4.Code = 0)) || (decide (500 < (v1.2.1.length : Int)))))] (hc (R_CellsFault_ok v1.2.1 x4 h8) (hc (fun (_ : (!(!decide (x4.Code = 0))) = true) => (len_ok e_Cell v1.2.1)) .nil)) ?_
      refine Nif hF (fun hb hF => ?_) (fun hb hF => ?_)
      ·obtain ⟨x5, h9, hF⟩ := lt_split hF
       refine VR [.callB (.agg (c_Fault x5))] [2, 3, 4] [4] [] [] [(2, .nils), (3, .nils)] [(4, (c_Fault x5))] [] [] (hc (R_F_ok 5 2 x5 h9) .nil) ?_
       cases hF
       exact Wk_ret (hfin _ ⟨[], [], [], [], [], [], by kernel_rfl⟩)
      ·obtain ⟨x6, h10, hF⟩ := ob_elim hF
       obtain ⟨h11, h12, hF⟩ := asrt2 hF
       obtain ⟨x7, h13, hF⟩ := lt_split hF
       refine VD [.callE [] [] [] [] (.row 164 0) ⟨[], [], [(164, .o 5 1 0 (x6.map e_u8))], [], []⟩, .av (e_L_u8 (lget x1.1 (w64 ((w64 ((x1.1.length : Int) - 2)) + 1)))), .callB (.bool x7)] [4, 13, 14, 171] [4] [147, 152] [] [(171, .bool (!x7))] [] [(147, ⟨96, 5, 0, (v1.2.1.map e_Cell).length, 0, true, 0, [], (v1.2.1.map e_Cell)⟩)] [] (hc (Pe.ren (R_FilterOf_ok v1.2.1 x6 h10) ⟨[], [(46, 164)], [], []⟩) (hc (ixr_ok e_L_u8 h11) (hc (ldr_ok e_L_u8 h12) (hc (R_Same_ok x6 (lget x1.1 (w64 ((w64 ((x1.1.length : Int) - 2)) + 1))) x7 h13) .nil)))) ?_
       refine Nif hF (fun hb hF => ?_) (fun hb hF => ?_)
       ·obtain ⟨x8, h14, hF⟩ := lt_split hF
        refine VR [.callB (.agg (c_Fault x8))] [2, 3, 4] [4] [] [] [(2, .nils), (3, .nils)] [(4, (c_Fault x8))] [] [] (hc (R_F_ok 5 3 x8 h14) .nil) ?_
        cases hF
        exact Wk_ret (hfin _ ⟨[], [], [], [], [], [], by kernel_rfl⟩)
       ·refine VR [] [2, 3, 4] [4] [147, 152] [] [(2, .row 147 0), (3, .row 152 0)] [(4, [.i 0, .i 0])] [] [] .nil ?_
        cases hF
        exact Wk_ret (hfin _ ⟨[], [], [], [], [], [], by kernel_rfl⟩)

/- tabularylaw.FileOpens$1 -/
noncomputable def law_FileOpens_1 (box : List Cell) : List Cell :=
 box
theorem law_FileOpens_1_ok (box : List Cell) (r : List Cell) (hF : law_FileOpens_1 box = r) : Pe Try.prog 56 ⟨[], [(100000, [.sl 5 (box.map e_Cell)])], [], [], []⟩ [.ptr 100000 0] (.sl 5 (r.map e_Cell)) ⟨[], [(100000, [.sl 5 (box.map e_Cell)])], [], [], []⟩ := by
 refine PeN 3 [.tmp 1] [22] Ty.ok Fn.b56 Try.func56 ?_
 intro Q g hfin
 unfold law_FileOpens_1 at hF
 refine NR [] [0] [100000] [] [] .nil ?_
 refine NR [] [1] [100000] [] [(1, .sl 5 (box.map e_Cell))] .nil ?_
 cases hF
 exact Wk_ret (hfin _ ⟨[], [100000], [], [], [], [], by kernel_rfl⟩)

/- tabularylaw.cellsAs -/
noncomputable def law_cellsAs (l : List Cell) (f : Fault) (w0 : Fault) (box : List Cell) : Option Bool :=
 if (!(decide (f.Code = w0.Code) && (decide (f.At = w0.At) && true))) = true then
  some false
 else
  if (!decide (w0.Code = 0)) = true then
   some (decide ((l.length : Int) = 0))
  else
   lt (law_FileOpens_1 box) fun x =>
   ob (R_SameCells l x) fun x1 =>
   some x1
theorem law_cellsAs_ok (l : List Cell) (f : Fault) (w0 : Fault) (box : List Cell) (r : Bool) (hF : law_cellsAs l f w0 box = some r) : Pe Try.prog 39 ⟨[], [(100000, [.sl 5 (box.map e_Cell)])], [], [], []⟩ [.sl 5 (l.map e_Cell), .agg (c_Fault f), .agg (c_Fault w0), .fn 56 [.ptr 100000 0]] (.bool r) ⟨[], [(100000, [.sl 5 (box.map e_Cell)])], [], [], []⟩ := by
 refine PeN 22 [.tmp 8] [4] Ty.ok Fn.b39 Try.func39 ?_
 intro Q g hfin
 unfold law_cellsAs at hF
 refine VR [] [0, 3, 5, 6] [5, 6, 100000] [] [] [(5, .ptr 5 0), (6, .ptr 6 0)] [(5, (c_Fault f)), (6, (c_Fault w0))] [] [] .nil ?_
 refine NR [] [0, 3, 6, 11] [6, 100000] [] [(11, .bool (!(decide (f.Code = w0.Code) && (decide (f.At = w0.At) && true))))] .nil ?_
 refine Nif hF (fun hb hF => ?_) (fun hb hF => ?_)
 ·refine NR [] [8] [100000] [] [(8, .bool false)] .nil ?_
  cases hF
  exact Wk_ret (hfin _ ⟨[], [100000], [], [], [], [], by kernel_rfl⟩)
 ·refine NR [] [0, 3, 14] [100000] [] [(14, .bool (!decide (w0.Code = 0)))] .nil ?_
  refine Nif hF (fun hb hF => ?_) (fun hb hF => ?_)
  ·refine NR [.nat (l.length : Int)] [8] [100000] [] [(8, .bool (decide ((l.length : Int) = 0)))] (hc (len_ok e_Cell l) .nil) ?_
   cases hF
   exact Wk_ret (hfin _ ⟨[], [100000], [], [], [], [], by kernel_rfl⟩)
  ·obtain ⟨x, h0, hF⟩ := lt_split hF
   obtain ⟨x1, h1, hF⟩ := ob_elim hF
   refine NR [.callR [100000] [] [] [] (.sl 5 (x.map e_Cell)), .callB (.bool x1)] [8] [100000] [] [(8, .bool x1)] (hc (Pe.ren (law_FileOpens_1_ok box x h0) ⟨[], [], [], []⟩) (hc (R_SameCells_ok l x x1 h1) .nil)) ?_
   cases hF
   exact Wk_ret (hfin _ ⟨[], [100000], [], [], [], [], by kernel_rfl⟩)

/- tabularyref.MayBe -/
noncomputable def R_MayBe_J1 (v : Unit) : Option Bool :=
 some true
noncomputable def R_MayBe_B1 (x : List UInt8) (x1 : List Int) (v1 : Int) : Option (Int ⊕ Bool) :=
 if (decide (v1 < (x1.length : Int))) = true then
  asrt (0 ≤ v1 ∧ v1 < (x1.length : Int)) <|
  asrt (0 ≤ w64 (Int.tdiv (lget x1 v1) 8) ∧ w64 (Int.tdiv (lget x1 v1) 8) < (x.length : Int)) <|
  asrt (0 ≤ w64 (Int.tdiv (lget x1 v1) 8) ∧ w64 (Int.tdiv (lget x1 v1) 8) < (x.length : Int)) <|
  asrt (0 ≤ v1 ∧ v1 < (x1.length : Int)) <|
  asrt (0 ≤ (Int.tmod (lget x1 v1) 8)) <|
  asrt (((2 : UInt8).toNat : Int) ≠ 0) <|
  if (decide (((toU8 (Int.tmod ((toU8 (Int.fdiv ((lget x (w64 (Int.tdiv (lget x1 v1) 8))).toNat : Int) (2 ^ (min (Int.tmod (lget x1 v1) 8).toNat 8)))).toNat : Int) ((2 : UInt8).toNat : Int))).toNat : Int) = ((0 : UInt8).toNat : Int))) = true then
   some (Sum.inr false)
  else
   some (Sum.inl (w64 (v1 + 1)))
 else
  inrO (R_MayBe_J1 ())
noncomputable def R_MayBe_L1 (x : List UInt8) (x1 : List Int) (v0 : Int) : Option Bool :=
 loopO (fun y => R_MayBe_B1 x x1 y) v0
noncomputable def R_MayBe (l : List Cell) (row : List UInt8) : Option Bool :=
 ob (R_FilterOf l) fun x =>
 ob (R_Bits row (w64 (8 * (x.length : Int)))) fun x1 =>
 R_MayBe_L1 x x1 0
theorem R_MayBe_ok (l : List Cell) (row : List UInt8) (r : Bool) (hF : R_MayBe l row = some r) : Pe Try.prog 57 S.none [.sl 5 (l.map e_Cell), .str row] (.bool r) S.none := by
 refine PeN 37 [.tmp 4] [4] Ty.ok Fn.b57 Try.func57 ?_
 intro Q g hfin
 unfold R_MayBe at hF
 refine NR [] [0, 1] [] [] [] .nil ?_
 obtain ⟨x, h0, hF⟩ := ob_elim hF
 refine VR [.callE [] [] [] [] (.row 9 0) ⟨[], [], [(9, .o 5 1 0 (x.map e_u8))], [], []⟩] [1, 5] [] [9] [] [(5, .row 9 0)] [] [(9, .o 5 1 0 (x.map e_u8))] [] (hc (Pe.ren (R_FilterOf_ok l x h0) ⟨[], [(46, 9)], [], []⟩) .nil) ?_
 obtain ⟨x1, h1, hF⟩ := ob_elim hF
 refine NR [.nat (x.length : Int), .call (.sl 1 (x1.map e_i64))] [5, 6] [] [9] [(6, .sl 1 (x1.map e_i64))] (hc (len_ok e_u8 x) (hc (R_Bits_ok row (w64 (8 * (x.length : Int))) x1 h1) .nil)) ?_
 refine NR [] [5, 6, 7] [] [9] [(7, .i 0)] .nil ?_
 refine NmeetP (fun v : Unit => (S.none : S)) (fun v => R_MayBe_J1 v = some r) ?_ ?_
 ·refine Nblk ?_
  unfold R_MayBe_L1 at hF
  refine Niter (fun v1 : Int => (⟨[(5, .row 9 0), (6, .sl 1 (x1.map e_i64)), (7, .i v1)], [], [(9, .o 5 1 0 (x.map e_u8))], [], []⟩ : S)) [] hF (by kernel_rfl) ?_
  intro n1 v1 y1 hF ih1 dn1
  unfold R_MayBe_B1 at hF
  refine NR [.nat (x1.length : Int)] [5, 6, 7, 18] [] [9] [(18, .bool (decide (v1 < (x1.length : Int))))] (hc (len_ok e_i64 x1) .nil) ?_
  refine Nif hF (fun hb hF => ?_) (fun hb hF => ?_)
  ·refine Nblk ?_
   obtain ⟨h2, h3, h4, h5, hF⟩ := asrt4 hF
   obtain ⟨h6, h7, hF⟩ := asrt2 hF
   refine ND [.av (e_i64 (lget x1 v1)), .av (e_u8 (lget x (w64 (Int.tdiv (lget x1 v1) 8)))), .av (e_i64 (lget x1 v1))] [5, 6, 7, 36] [] [9] [(36, .bool (decide (((toU8 (Int.tmod ((toU8 (Int.fdiv ((lget x (w64 (Int.tdiv (lget x1 v1) 8))).toNat : Int) (2 ^ (min (Int.tmod (lget x1 v1) 8).toNat 8)))).toNat : Int) ((2 : UInt8).toNat : Int))).toNat : Int) = ((0 : UInt8).toNat : Int))))] (hc (idx_ok e_i64 h2) (hc (by decide : (8 : Int) ≠ 0) (hc (ixr_ok e_u8 h3) (hc (ldr_ok e_u8 h4) (hc (idx_ok e_i64 h5) (hc (by decide : (8 : Int) ≠ 0) (hc h6 (hc (shr8_ok (lget x (w64 (Int.tdiv (lget x1 v1) 8))) (min (Int.tmod (lget x1 v1) 8).toNat 8)) (hc h7 (hc (rem8_ok (toU8 (Int.fdiv ((lget x (w64 (Int.tdiv (lget x1 v1) 8))).toNat : Int) (2 ^ (min (Int.tmod (lget x1 v1) 8).toNat 8)))) (2 : UInt8)) .nil)))))))))) ?_
   refine Nif hF (fun hb hF => ?_) (fun hb hF => ?_)
   ·refine NR [] [4] [] [] [(4, .bool false)] .nil ?_
    have hF := ret_done hF dn1
    cases hF
    exact Wk_ret (hfin _ ⟨[], [], [], [], [], [], by kernel_rfl⟩)
   ·refine NR [] [5, 6, 7] [] [9] [(7, .i (w64 (v1 + 1)))] .nil ?_
    exact Nrnd [] hF ih1 (by kernel_rfl)
  ·refine Nexit rfl ?_
   have hF := inrO_done hF dn1
   exact metP () [] hF (by kernel_rfl)
 ·intro v hF
  have hF : R_MayBe_J1 v = some r := hF
  unfold R_MayBe_J1 at hF
  refine NR [] [4] [] [] [(4, .bool true)] .nil ?_
  cases hF
  exact Wk_ret (hfin _ ⟨[], [], [], [], [], [], by kernel_rfl⟩)

/- tabularyref.BlocksFor -/
noncomputable def R_BlocksFor_J1 (v : Int × Int) : Option Int :=
 some (w64 (v.2 - v.1))
noncomputable def R_BlocksFor_B1 (l : List Cell) (each : List Int) (row : List UInt8) (v1 : Int × Int × Int × Int) : Option ((Int × Int × Int × Int) ⊕ Int) :=
 if (decide (v1.2.2.2 < (each.length : Int))) = true then
  asrt (0 ≤ v1.2.2.1 ∧ v1.2.2.1 < (l.length : Int)) <|
  ob (
   if (Op.bytesLess ((lget l v1.2.2.1).Row) row) = true then
    some v1.2.2.2
   else
    some v1.1) fun (v2 : Int) =>
  asrt (0 ≤ v1.2.2.1 ∧ v1.2.2.1 < (l.length : Int)) <|
  ob (
   if (!Op.bytesLess row ((lget l v1.2.2.1).Row)) = true then
    some (w64 (v1.2.2.2 + 1))
   else
    some v1.2.1) fun (v3 : Int) =>
  asrt (0 ≤ v1.2.2.2 ∧ v1.2.2.2 < (each.length : Int)) <|
  some (Sum.inl (v2, v3, w64 (v1.2.2.1 + (lget each v1.2.2.2)), w64 (v1.2.2.2 + 1)))
 else
  inrO (R_BlocksFor_J1 (v1.1, v1.2.1))
noncomputable def R_BlocksFor_L1 (l : List Cell) (each : List Int) (row : List UInt8) (v0 : Int × Int × Int × Int) : Option Int :=
 loopO (fun y => R_BlocksFor_B1 l each row y) v0
noncomputable def R_BlocksFor (l : List Cell) (each : List Int) (row : List UInt8) : Option Int :=
 R_BlocksFor_L1 l each row (0, 0, 0, 0)
theorem R_BlocksFor_ok (l : List Cell) (each : List Int) (row : List UInt8) (r : Int) (hF : R_BlocksFor l each row = some r) : Pe Try.prog 58 S.none [.sl 5 (l.map e_Cell), .sl 1 (each.map e_i64), .str row] (.i r) S.none := by
 refine PeN 43 [.tmp 6] [3] Ty.ok Fn.b58 Try.func58 ?_
 intro Q g hfin
 unfold R_BlocksFor at hF
 refine NR [] [0, 1, 2] [] [] [] .nil ?_
 refine NR [] [0, 1, 2, 7, 8, 9] [] [] [(7, .i 0), (8, .i 0), (9, .i 0)] .nil ?_
 refine NR [] [0, 1, 2, 7, 8, 9, 10] [] [] [(10, .i 0)] .nil ?_
 refine NmeetP (fun v : Int × Int => (⟨[(7, .i v.1), (8, .i v.2)], [], [], [], []⟩ : S)) (fun v => R_BlocksFor_J1 v = some r) ?_ ?_
 ·refine Nblk ?_
  unfold R_BlocksFor_L1 at hF
  refine Niter (fun v1 : Int × Int × Int × Int => (⟨[(0, .sl 5 (l.map e_Cell)), (1, .sl 1 (each.map e_i64)), (2, .str row), (7, .i v1.1), (8, .i v1.2.1), (9, .i v1.2.2.1), (10, .i v1.2.2.2)], [], [], [], []⟩ : S)) [] hF (by kernel_rfl) ?_
  intro n1 v1 y1 hF ih1 dn1
  unfold R_BlocksFor_B1 at hF
  refine NR [.nat (each.length : Int)] [0, 1, 2, 7, 8, 9, 10, 14] [] [] [(14, .bool (decide (v1.2.2.2 < (each.length : Int))))] (hc (len_ok e_i64 each) .nil) ?_
  refine Nif hF (fun hb hF => ?_) (fun hb hF => ?_)
  ·refine Nblk ?_
   obtain ⟨h0, hF⟩ := asrt_elim hF
   refine NR [.av (e_Cell (lget l v1.2.2.1))] [0, 1, 2, 7, 8, 9, 10, 23] [] [] [(23, .bool (Op.bytesLess ((lget l v1.2.2.1).Row) row))] (hc (idx_ok e_Cell h0) .nil) ?_
   obtain ⟨v2, hv, hF⟩ := ob_elim hF
   refine Nmeet (⟨[(0, .sl 5 (l.map e_Cell)), (1, .sl 1 (each.map e_i64)), (2, .str row), (7, .i v2), (8, .i v1.2.1), (9, .i v1.2.2.1), (10, .i v1.2.2.2)], [], [], [], []⟩ : S) ?_ ?_
   ·have hF := hv
    refine Nif hF (fun hb hF => ?_) (fun hb hF => ?_)
    ·refine NR [] [0, 1, 2, 7, 8, 9, 10] [] [] [(7, .i v1.2.2.2)] .nil ?_
     cases hF
     exact met [] (by kernel_rfl)
    ·cases hF
     exact met [] (by kernel_rfl)
   ·obtain ⟨h1, hF⟩ := asrt_elim hF
    refine NR [.av (e_Cell (lget l v1.2.2.1))] [0, 1, 2, 7, 8, 9, 10, 31] [] [] [(31, .bool (!Op.bytesLess row ((lget l v1.2.2.1).Row)))] (hc (idx_ok e_Cell h1) .nil) ?_
    obtain ⟨v3, hv, hF⟩ := ob_elim hF
    refine Nmeet (⟨[(0, .sl 5 (l.map e_Cell)), (1, .sl 1 (each.map e_i64)), (2, .str row), (7, .i v2), (8, .i v3), (9, .i v1.2.2.1), (10, .i v1.2.2.2)], [], [], [], []⟩ : S) ?_ ?_
    ·have hF := hv
     refine Nif hF (fun hb hF => ?_) (fun hb hF => ?_)
     ·refine NR [] [0, 1, 2, 7, 8, 9, 10] [] [] [(8, .i (w64 (v1.2.2.2 + 1)))] .nil ?_
      cases hF
      exact met [] (by kernel_rfl)
     ·cases hF
      exact met [] (by kernel_rfl)
    ·obtain ⟨h2, hF⟩ := asrt_elim hF
     refine NR [.av (e_i64 (lget each v1.2.2.2))] [0, 1, 2, 7, 8, 9, 10] [] [] [(9, .i (w64 (v1.2.2.1 + (lget each v1.2.2.2))))] (hc (idx_ok e_i64 h2) .nil) ?_
     refine NR [] [0, 1, 2, 7, 8, 9, 10] [] [] [(10, .i (w64 (v1.2.2.2 + 1)))] .nil ?_
     exact Nrnd [] hF ih1 (by kernel_rfl)
  ·refine Nexit rfl ?_
   have hF := inrO_done hF dn1
   exact metP (v1.1, v1.2.1) [] hF (by kernel_rfl)
 ·intro v hF
  have hF : R_BlocksFor_J1 v = some r := hF
  unfold R_BlocksFor_J1 at hF
  refine NR [] [6] [] [] [(6, .i (w64 (v.2 - v.1)))] .nil ?_
  cases hF
  exact Wk_ret (hfin _ ⟨[], [], [], [], [], [], by kernel_rfl⟩)

/- tabularyref.SeenCell -/
noncomputable def R_SeenCell_J1 (l : List Cell) (v : Cell × Int) : Option (Cell × Bool) :=
 asrt ((!(decide (v.2 < 0))) = true → 0 ≤ v.2 ∧ v.2 < (l.length : Int)) <|
 if ((decide (v.2 < 0)) || ((lget l v.2).Gone)) = true then
  some ((⟨([] : List UInt8), ([] : List UInt8), 0, false, ([] : List UInt8)⟩ : Cell), false)
 else
  asrt (0 ≤ v.2 ∧ v.2 < (l.length : Int)) <|
  some ((⟨(lget l v.2).Row, (lget l v.2).Col, (lget l v.2).Time, (lget l v.2).Gone, (lget l v.2).Value⟩ : Cell), true)
noncomputable def R_SeenCell_B1 (l : List Cell) (row : List UInt8) (col : List UInt8) (time : Int) (v1 : Cell × Int × Int) : Option ((Cell × Int × Int) ⊕ (Cell × Bool)) :=
 if (decide (v1.2.2 < (l.length : Int))) = true then
  asrt (0 ≤ v1.2.2 ∧ v1.2.2 < (l.length : Int)) <|
  asrt ((decide (((lget l v1.2.2).Row) = row)) = true → 0 ≤ v1.2.2 ∧ v1.2.2 < (l.length : Int)) <|
  asrt (((decide (((lget l v1.2.2).Row) = row)) && (decide (((lget l v1.2.2).Col) = col))) = true → 0 ≤ v1.2.2 ∧ v1.2.2 < (l.length : Int)) <|
  asrt ((!(decide (v1.2.1 < 0))) = true → (((decide (((lget l v1.2.2).Row) = row)) && (decide (((lget l v1.2.2).Col) = col))) && (decide (((lget l v1.2.2).Time) ≤ time))) = true → 0 ≤ v1.2.2 ∧ v1.2.2 < (l.length : Int)) <|
  asrt ((!(decide (v1.2.1 < 0))) = true → (((decide (((lget l v1.2.2).Row) = row)) && (decide (((lget l v1.2.2).Col) = col))) && (decide (((lget l v1.2.2).Time) ≤ time))) = true → 0 ≤ v1.2.1 ∧ v1.2.1 < (l.length : Int)) <|
  ob (
   if ((((decide (((lget l v1.2.2).Row) = row)) && (decide (((lget l v1.2.2).Col) = col))) && (decide (((lget l v1.2.2).Time) ≤ time))) && ((decide (v1.2.1 < 0)) || (decide (((lget l v1.2.1).Time) < ((lget l v1.2.2).Time))))) = true then
    some (v1.1, v1.2.2)
   else
    some (v1.1, v1.2.1)) fun (v2 : Cell × Int) =>
  some (Sum.inl (v2.1, v2.2, w64 (v1.2.2 + 1)))
 else
  inrO (R_SeenCell_J1 l (v1.1, v1.2.1))
noncomputable def R_SeenCell_L1 (l : List Cell) (row : List UInt8) (col : List UInt8) (time : Int) (v0 : Cell × Int × Int) : Option (Cell × Bool) :=
 loopO (fun y => R_SeenCell_B1 l row col time y) v0
noncomputable def R_SeenCell (l : List Cell) (row : List UInt8) (col : List UInt8) (time : Int) : Option (Cell × Bool) :=
 R_SeenCell_L1 l row col time ((⟨([] : List UInt8), ([] : List UInt8), 0, false, ([] : List UInt8)⟩ : Cell), (-1), 0)
theorem R_SeenCell_ok (l : List Cell) (row : List UInt8) (col : List UInt8) (time : Int) (r : Cell × Bool) (hF : R_SeenCell l row col time = some r) : Pe Try.prog 59 S.none [.sl 5 (l.map e_Cell), .str row, .str col, .i time] (.tup [.agg (c_Cell r.1), .bool r.2]) S.none := by
 refine PeN 75 [.cell 8 96, .tmp 9] [96, 4] Ty.ok Fn.b59 Try.func59 ?_
 intro Q g hfin
 unfold R_SeenCell at hF
 refine VR [] [0, 1, 2, 3, 8] [8] [] [] [(8, .ptr 8 0)] [(8, [.str [], .str [], .i 0, .bool false, .str []])] [] [] .nil ?_
 refine NR [] [0, 1, 2, 3, 8, 10] [8] [] [(10, .i (-1))] .nil ?_
 refine NR [] [0, 1, 2, 3, 8, 10, 11] [8] [] [(11, .i 0)] .nil ?_
 refine NmeetP (fun v : Cell × Int => (⟨[(0, .sl 5 (l.map e_Cell)), (8, .ptr 8 0), (10, .i v.2)], [(8, (c_Cell v.1))], [], [], []⟩ : S)) (fun v => R_SeenCell_J1 l v = some r) ?_ ?_
 ·refine Nblk ?_
  unfold R_SeenCell_L1 at hF
  refine Niter (fun v1 : Cell × Int × Int => (⟨[(0, .sl 5 (l.map e_Cell)), (1, .str row), (2, .str col), (3, .i time), (8, .ptr 8 0), (10, .i v1.2.1), (11, .i v1.2.2)], [(8, (c_Cell v1.1))], [], [], []⟩ : S)) [] hF (by kernel_rfl) ?_
  intro n1 v1 y1 hF ih1 dn1
  unfold R_SeenCell_B1 at hF
  refine NR [.nat (l.length : Int)] [0, 1, 2, 3, 8, 10, 11, 15] [8] [] [(15, .bool (decide (v1.2.2 < (l.length : Int))))] (hc (len_ok e_Cell l) .nil) ?_
  refine Nif hF (fun hb hF => ?_) (fun hb hF => ?_)
  ·refine Nblk ?_
   obtain ⟨h2, h3, h4, h5, hF⟩ := asrt4 hF
   obtain ⟨h6, hF⟩ := asrt_elim hF
   refine ND [.av (e_Cell (lget l v1.2.2)), .av (e_Cell (lget l v1.2.2)), .av (e_Cell (lget l v1.2.2)), .av (e_Cell (lget l v1.2.2)), .av (e_Cell (lget l v1.2.1))] [0, 1, 2, 3, 8, 10, 11, 59] [8] [] [(59, .bool ((((decide (((lget l v1.2.2).Row) = row)) && (decide (((lget l v1.2.2).Col) = col))) && (decide (((lget l v1.2.2).Time) ≤ time))) && ((decide (v1.2.1 < 0)) || (decide (((lget l v1.2.1).Time) < ((lget l v1.2.2).Time))))))] (hc (idx_ok e_Cell h2) (hc (fun (ga0 : (decide (((lget l v1.2.2).Row) = row)) = true) => (idx_ok e_Cell (h3 ga0))) (hc (fun (ga0 : ((decide (((lget l v1.2.2).Row) = row)) && (decide (((lget l v1.2.2).Col) = col))) = true) => (idx_ok e_Cell (h4 ga0))) (hc (fun (ga0 : (!(decide (v1.2.1 < 0))) = true) (ga1 : (((decide (((lget l v1.2.2).Row) = row)) && (decide (((lget l v1.2.2).Col) = col))) && (decide (((lget l v1.2.2).Time) ≤ time))) = true) => (idx_ok e_Cell (h5 ga0 ga1))) (hc (fun (ga0 : (!(decide (v1.2.1 < 0))) = true) (ga1 : (((decide (((lget l v1.2.2).Row) = row)) && (decide (((lget l v1.2.2).Col) = col))) && (decide (((lget l v1.2.2).Time) ≤ time))) = true) => (idx_ok e_Cell (h6 ga0 ga1))) .nil))))) ?_
   obtain ⟨v2, hv, hF⟩ := ob_elim hF
   refine Nmeet (⟨[(0, .sl 5 (l.map e_Cell)), (1, .str row), (2, .str col), (3, .i time), (8, .ptr 8 0), (10, .i v2.2), (11, .i v1.2.2)], [(8, (c_Cell v2.1))], [], [], []⟩ : S) ?_ ?_
   ·have hF := hv
    refine Nif hF (fun hb hF => ?_) (fun hb hF => ?_)
    ·refine NR [] [0, 1, 2, 3, 8, 10, 11] [8] [] [(10, .i v1.2.2)] .nil ?_
     cases hF
     exact met [] (by kernel_rfl)
    ·cases hF
     exact met [] (by kernel_rfl)
   ·refine NR [] [0, 1, 2, 3, 8, 10, 11] [8] [] [(11, .i (w64 (v1.2.2 + 1)))] .nil ?_
    exact Nrnd [] hF ih1 (by kernel_rfl)
  ·refine Nexit rfl ?_
   have hF := inrO_done hF dn1
   exact metP (v1.1, v1.2.1) [] hF (by kernel_rfl)
 ·intro v hF
  have hF : R_SeenCell_J1 l v = some r := hF
  unfold R_SeenCell_J1 at hF
  obtain ⟨h0, hF⟩ := asrt_elim hF
  refine NR [.av (e_Cell (lget l v.2))] [0, 8, 10, 69] [8] [] [(69, .bool ((decide (v.2 < 0)) || ((lget l v.2).Gone)))] (hc (fun (ga0 : (!(decide (v.2 < 0))) = true) => (idx_ok e_Cell (h0 ga0))) .nil) ?_
  refine Nif hF (fun hb hF => ?_) (fun hb hF => ?_)
  ·refine VR [] [8, 9] [8] [] [] [(9, .bool false)] [(8, [.str [], .str [], .i 0, .bool false, .str []])] [] [] .nil ?_
   cases hF
   exact Wk_ret (hfin _ ⟨[], [], [], [], [], [], by kernel_rfl⟩)
  ·obtain ⟨h1, hF⟩ := asrt_elim hF
   refine VR [.av (e_Cell (lget l v.2))] [8, 9] [8] [] [] [(9, .bool true)] [(8, (c_Cell (lget l v.2)))] [] [] (hc (idx_ok e_Cell h1) .nil) ?_
   cases hF
   exact Wk_ret (hfin _ ⟨[], [], [], [], [], [], by kernel_rfl⟩)

/- tabularylaw.FileOpens -/
noncomputable def law_FileOpens (b : List UInt8) (row : List UInt8) (col : List UInt8) (time : Int) : Option Bool :=
 ob (law_fileBegun) fun x =>
 if (!x) = true then
  some false
 else
  if (decide (100000 < (b.length : Int))) = true then
   some true
  else
   ob (law_ownBytes_v1 b) fun x1 =>
   ob (file_Open_v1 x1) fun x2 =>
   ob (file_May x1 row) fun x3 =>
   ob (file_Find x1 row col time) fun x4 =>
   ob (R_OpenedFile_v1 b) fun x5 =>
   ob (law_cellsAs x2.1 x2.2 x5.2.2 x5.1) fun x6 =>
   lt (R_Same x1 b) fun x7 =>
   if (((!x6) || (!(decide (x3.2.Code = x5.2.2.Code) && (decide (x3.2.At = x5.2.2.At) && true)))) || (!x7)) = true then
    some false
   else
    ob (if (decide (x5.2.2.Code = 0)) = true then (R_MayBe x5.1 row) else some default) fun x8 =>
    if (!(x3.1 == ((decide (x5.2.2.Code = 0)) && x8))) = true then
     some false
    else
     ob (
      if ((decide (x5.2.2.Code = 0)) && ((decide (time < 0)) || (decide (1000000000 < time)))) = true then
       lt (R_F 3 (-1)) fun x9 =>
       some (x4.2.2.2, x9)
      else
       some (x4.2.2.2, x5.2.2)) fun (v : Fault × Fault) =>
     if (!(decide (v.1.Code = v.2.Code) && (decide (v.1.At = v.2.At) && true))) = true then
      some false
     else
      if (!decide (v.2.Code = 0)) = true then
       lt (((decide (x4.1 = ([] : List UInt8))) && (!x4.2.1)) && (decide (x4.2.2.1 = 0))) fun (v1 : Bool) =>
       some v1
      else
       ob (R_MayBe x5.1 row) fun x10 =>
       ob (
        if x10 = true then
         ob (R_BlocksFor x5.1 x5.2.1 row) fun x11 =>
         some x11
        else
         some 0) fun (v2 : Int) =>
       ob (R_SeenCell x5.1 row col time) fun x12 =>
       lt (((x4.2.1 == x12.2) && (decide (x4.1 = x12.1.Value))) && (decide (x4.2.2.1 = v2))) fun (v3 : Bool) =>
       some v3
theorem law_FileOpens_ok (b : List UInt8) (row : List UInt8) (col : List UInt8) (time : Int) (r : Bool) (hF : law_FileOpens b row col time = some r) : Pe Try.prog 9 S.none [.sl 1 (b.map e_u8), .str row, .str col, .i time] (.bool r) S.none := by
 refine PeN 142 [.tmp 8] [4] Ty.ok Fn.b9 Try.func9 ?_
 intro Q g hfin
 unfold law_FileOpens at hF
 refine NR [] [0, 1, 2, 3] [] [] [] .nil ?_
 obtain ⟨x, h0, hF⟩ := ob_elim hF
 refine NR [.callB (.bool x)] [0, 1, 2, 3, 25] [] [] [(25, .bool (!x))] (hc (law_fileBegun_ok  x h0) .nil) ?_
 refine Nif hF (fun hb hF => ?_) (fun hb hF => ?_)
 ·refine NR [] [8] [] [] [(8, .bool false)] .nil ?_
  cases hF
  exact Wk_ret (hfin _ ⟨[], [], [], [], [], [], by kernel_rfl⟩)
 ·refine NR [.nat (b.length : Int)] [0, 1, 2, 3, 28] [] [] [(28, .bool (decide (100000 < (b.length : Int))))] (hc (len_ok e_u8 b) .nil) ?_
  refine Nif hF (fun hb hF => ?_) (fun hb hF => ?_)
  ·refine NR [] [8] [] [] [(8, .bool true)] .nil ?_
   cases hF
   exact Wk_ret (hfin _ ⟨[], [], [], [], [], [], by kernel_rfl⟩)
  ·obtain ⟨x1, h1, hF⟩ := ob_elim hF
   refine NR [.call (.sl 1 (x1.map e_u8))] [0, 1, 2, 3, 9] [] [] [(9, .sl 1 (x1.map e_u8))] (hc (law_ownBytes_v1_ok b x1 h1) .nil) ?_
   obtain ⟨x2, h2, hF⟩ := ob_elim hF
   refine VR [.call (.tup [.sl 5 (x2.1.map e_Cell), .agg (c_Fault x2.2)])] [0, 1, 2, 3, 9, 10, 11] [11] [] [] [(10, .sl 5 (x2.1.map e_Cell)), (11, .ptr 11 0)] [(11, (c_Fault x2.2))] [] [] (hc (file_Open_v1_ok x1 x2 h2) .nil) ?_
   obtain ⟨x3, h3, hF⟩ := ob_elim hF
   refine VR [.callB (.tup [.bool x3.1, .agg (c_Fault x3.2)])] [0, 1, 2, 3, 9, 10, 11, 12, 13] [11, 13] [] [] [(12, .bool x3.1), (13, .ptr 13 0)] [(13, (c_Fault x3.2))] [] [] (hc (file_May_ok x1 row x3 h3) .nil) ?_
   obtain ⟨x4, h4, hF⟩ := ob_elim hF
   refine VR [.callB (.tup [.str x4.1, .bool x4.2.1, .i x4.2.2.1, .agg (c_Fault x4.2.2.2)])] [0, 1, 2, 3, 9, 10, 11, 12, 13, 14, 15, 16, 17] [11, 13, 17] [] [] [(14, .str x4.1), (15, .bool x4.2.1), (16, .i x4.2.2.1), (17, .ptr 17 0)] [(17, (c_Fault x4.2.2.2))] [] [] (hc (file_Find_ok x1 row col time x4 h4) .nil) ?_
   obtain ⟨x5, h5, hF⟩ := ob_elim hF
   refine VR [.call (.tup [.sl 5 (x5.1.map e_Cell), .sl 1 (x5.2.1.map e_i64), .agg (c_Fault x5.2.2)])] [0, 1, 2, 3, 9, 10, 11, 12, 13, 14, 15, 16, 17, 18, 19, 20] [11, 13, 17, 18, 20] [] [] [(18, .ptr 18 0), (19, .sl 1 (x5.2.1.map e_i64)), (20, .ptr 20 0)] [(18, [.sl 5 (x5.1.map e_Cell)]), (20, (c_Fault x5.2.2))] [] [] (hc (R_OpenedFile_v1_ok b x5 h5) .nil) ?_
   obtain ⟨x6, h6, hF⟩ := ob_elim hF
   obtain ⟨x7, h7, hF⟩ := lt_split hF
   refine NR [.callR [18] [] [] [] (.bool x6), .callB (.bool x7)] [1, 2, 3, 12, 14, 15, 16, 17, 18, 19, 20, 74] [17, 18, 20] [] [(74, .bool (((!x6) || (!(decide (x3.2.Code = x5.2.2.Code) && (decide (x3.2.At = x5.2.2.At) && true)))) || (!x7)))] (hc (Pe.ren (law_cellsAs_ok x2.1 x2.2 x5.2.2 x5.1 x6 h6) ⟨[(100000, 18)], [], [], []⟩) (hc (fun (ga0 : (!((!x6) || (!(decide (x3.2.Code = x5.2.2.Code) && (decide (x3.2.At = x5.2.2.At) && true))))) = true) => (R_Same_ok x1 b x7 h7)) .nil)) ?_
   refine Nif hF (fun hb hF => ?_) (fun hb hF => ?_)
   ·refine NR [] [8] [] [] [(8, .bool false)] .nil ?_
    cases hF
    exact Wk_ret (hfin _ ⟨[], [], [], [], [], [], by kernel_rfl⟩)
   ·obtain ⟨x8, h8, hF⟩ := ob_elim hF
    refine NR [.callB (.bool x8)] [1, 2, 3, 14, 15, 16, 17, 18, 19, 20, 84] [17, 18, 20] [] [(84, .bool (!(x3.1 == ((decide (x5.2.2.Code = 0)) && x8))))] (hc (fun (ga0 : (decide (x5.2.2.Code = 0)) = true) => (R_MayBe_ok x5.1 row x8 (ite_t h8 ga0))) .nil) ?_
    refine Nif hF (fun hb hF => ?_) (fun hb hF => ?_)
    ·refine NR [] [8] [] [] [(8, .bool false)] .nil ?_
     cases hF
     exact Wk_ret (hfin _ ⟨[], [], [], [], [], [], by kernel_rfl⟩)
    ·refine NR [] [1, 2, 3, 14, 15, 16, 17, 18, 19, 20, 95] [17, 18, 20] [] [(95, .bool ((decide (x5.2.2.Code = 0)) && ((decide (time < 0)) || (decide (1000000000 < time)))))] .nil ?_
     obtain ⟨v, hv, hF⟩ := ob_elim hF
     refine Nmeet (⟨[(1, .str row), (2, .str col), (3, .i time), (14, .str x4.1), (15, .bool x4.2.1), (16, .i x4.2.2.1), (17, .ptr 17 0), (18, .ptr 18 0), (19, .sl 1 (x5.2.1.map e_i64)), (20, .ptr 20 0)], [(17, (c_Fault v.1)), (18, [.sl 5 (x5.1.map e_Cell)]), (20, (c_Fault v.2))], [], [], []⟩ : S) ?_ ?_
     ·have hF := hv
      refine Nif hF (fun hb hF => ?_) (fun hb hF => ?_)
      ·obtain ⟨x9, h9, hF⟩ := lt_split hF
       refine VR [.callB (.agg (c_Fault x9))] [1, 2, 3, 14, 15, 16, 17, 18, 19, 20] [17, 18, 20] [] [] [] [(20, (c_Fault x9))] [] [] (hc (R_F_ok 3 (-1) x9 h9) .nil) ?_
       cases hF
       exact met [] (by kernel_rfl)
      ·cases hF
       exact met [] (by kernel_rfl)
     ·refine NR [] [1, 2, 3, 14, 15, 16, 18, 19, 20, 99] [18, 20] [] [(99, .bool (!(decide (v.1.Code = v.2.Code) && (decide (v.1.At = v.2.At) && true))))] .nil ?_
      refine Nif hF (fun hb hF => ?_) (fun hb hF => ?_)
      ·refine NR [] [8] [] [] [(8, .bool false)] .nil ?_
       cases hF
       exact Wk_ret (hfin _ ⟨[], [], [], [], [], [], by kernel_rfl⟩)
      ·refine NR [] [1, 2, 3, 14, 15, 16, 18, 19, 102] [18] [] [(102, .bool (!decide (v.2.Code = 0)))] .nil ?_
       refine Nif hF (fun hb hF => ?_) (fun hb hF => ?_)
       ·refine NRL (((decide (x4.1 = ([] : List UInt8))) && (!x4.2.1)) && (decide (x4.2.2.1 = 0))) (fun v1 : Bool => ([(8, .bool v1)], [], [], [])) [] [8] [] [] [] .nil (fun v1 hv => ?_)
        have hF := lt_elim hF hv
        cases hF
        exact Wk_ret (hfin _ ⟨[], [], [], [], [], [], by kernel_rfl⟩)
       ·refine NR [] [1, 2, 3, 14, 15, 16, 18, 19, 21] [18] [] [(21, .i 0)] .nil ?_
        obtain ⟨x10, h10, hF⟩ := ob_elim hF
        refine NR [.callB (.bool x10)] [1, 2, 3, 14, 15, 16, 18, 19, 21, 115] [18] [] [(115, .bool x10)] (hc (R_MayBe_ok x5.1 row x10 h10) .nil) ?_
        obtain ⟨v2, hv, hF⟩ := ob_elim hF
        refine Nmeet (⟨[(1, .str row), (2, .str col), (3, .i time), (14, .str x4.1), (15, .bool x4.2.1), (16, .i x4.2.2.1), (18, .ptr 18 0), (21, .i v2)], [(18, [.sl 5 (x5.1.map e_Cell)])], [], [], []⟩ : S) ?_ ?_
        ·have hF := hv
         refine Nif hF (fun hb hF => ?_) (fun hb hF => ?_)
         ·obtain ⟨x11, h11, hF⟩ := ob_elim hF
          refine NR [.callB (.i x11)] [1, 2, 3, 14, 15, 16, 18, 21] [18] [] [(21, .i x11)] (hc (R_BlocksFor_ok x5.1 x5.2.1 row x11 h11) .nil) ?_
          cases hF
          exact met [] (by kernel_rfl)
         ·cases hF
          exact met [] (by kernel_rfl)
        ·obtain ⟨x12, h12, hF⟩ := ob_elim hF
         refine VR [.callB (.tup [.agg (c_Cell x12.1), .bool x12.2])] [14, 15, 16, 21, 22, 23] [22] [] [] [(22, .ptr 22 0), (23, .bool x12.2)] [(22, (c_Cell x12.1))] [] [] (hc (R_SeenCell_ok x5.1 row col time x12 h12) .nil) ?_
         refine NRL (((x4.2.1 == x12.2) && (decide (x4.1 = x12.1.Value))) && (decide (x4.2.2.1 = v2))) (fun v3 : Bool => ([(8, .bool v3)], [], [], [])) [] [8] [] [] [] .nil (fun v3 hv => ?_)
         have hF := lt_elim hF hv
         cases hF
         exact Wk_ret (hfin _ ⟨[], [], [], [], [], [], by kernel_rfl⟩)

/- cell.Get -/
noncomputable def cell_Get (l : List Cell) (row : List UInt8) (col : List UInt8) (time : Int) : Option (List UInt8 × Bool × Fault) :=
 ob (cell_Check l) fun x =>
 if (!decide (x.Code = 0)) = true then
  some (([] : List UInt8), false, x)
 else
  if ((decide (time < 0)) || (decide (1000000000 < time))) = true then
   lt (cell_fault 3 (-1)) fun x1 =>
   some (([] : List UInt8), false, x1)
  else
   ob (cell_Newest l row col time) fun x2 =>
   some (x2.1.Value, x2.2 && (!x2.1.Gone), (⟨0, 0⟩ : Fault))

/- tabularylaw.FileFinds -/
noncomputable def law_FileFinds_J1 (l : List Cell) (row : List UInt8) (col : List UInt8) (time : Int) (x1 : List UInt8 × Fault) (v : Unit) : Option Bool :=
 ob (file_Find x1.1 row col time) fun x2 =>
 ob (cell_Get l row col time) fun x3 =>
 if ((!decide (x2.2.2.2.Code = 0)) || (!decide (x3.2.2.Code = 0))) = true then
  lt ((decide (x2.2.2.2.Code = x3.2.2.Code) && (decide (x2.2.2.2.At = x3.2.2.At) && true))) fun (v1 : Bool) =>
  some v1
 else
  ob (file_Make_v1 l 50) fun x4 =>
  if (!decide (x4.2.Code = 0)) = true then
   some (decide (x4.2.Code = 9))
  else
   ob (file_Find x4.1 row col time) fun x5 =>
   lt (((((decide (x2.1 = x3.1)) && (x2.2.1 == x3.2.1)) && (decide (x5.2.2.2.Code = 0))) && (decide (x5.1 = x3.1))) && (x5.2.1 == x3.2.1)) fun (v2 : Bool) =>
   some v2
noncomputable def law_FileFinds_B1 (l : List Cell) (row : List UInt8) (col : List UInt8) (time : Int) (x1 : List UInt8 × Fault) (v3 : Int) : Option (Int ⊕ Bool) :=
 if (decide (v3 < (l.length : Int))) = true then
  asrt (0 ≤ v3 ∧ v3 < (l.length : Int)) <|
  ob (file_May x1.1 ((lget l v3).Row)) fun x6 =>
  if ((!decide (x6.2.Code = 0)) || (!x6.1)) = true then
   some (Sum.inr false)
  else
   some (Sum.inl (w64 (v3 + 1)))
 else
  inrO (law_FileFinds_J1 l row col time x1 ())
noncomputable def law_FileFinds_L1 (l : List Cell) (row : List UInt8) (col : List UInt8) (time : Int) (x1 : List UInt8 × Fault) (v0 : Int) : Option Bool :=
 loopO (fun y => law_FileFinds_B1 l row col time x1 y) v0
noncomputable def law_FileFinds (l : List Cell) (size : Int) (row : List UInt8) (col : List UInt8) (time : Int) : Option Bool :=
 ob (law_fileBegun) fun x =>
 if (!x) = true then
  some false
 else
  if (decide (150 < (l.length : Int))) = true then
   some true
  else
   ob (file_Make_v1 l size) fun x1 =>
   if (!decide (x1.2.Code = 0)) = true then
    some true
   else
    law_FileFinds_L1 l row col time x1 0

end G
end Go.Proofs.Ytollmifjbcccgaa
