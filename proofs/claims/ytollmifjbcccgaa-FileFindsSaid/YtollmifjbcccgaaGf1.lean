/- The program's functions as plain functions, and that they are these. Written by a program (dec2.py). -/
import Derived.Test.YtollmifjbcccgaaGf0
namespace Go.Proofs.Ytollmifjbcccgaa
open Go Go.Dm
set_option linter.unusedVariables false
set_option linter.unusedSimpArgs false
set_option maxRecDepth 100000
namespace G
/- file.open -/
noncomputable def file_open_J1 (x1 : List (List UInt8) × Int) (v : List (List UInt8) × Reader) : Option (Bool × opened × Fault) :=
 lt (wire_Reader_Ok v.2) fun x4 =>
 if (!x4) = true then
  lt (file_fault 5 1) fun x5 =>
  some (false, default, x5)
 else
  some (true, (⟨(ltake x1.1 (w64 ((x1.1.length : Int) - 2))), v.1, (lget x1.1 (w64 ((w64 ((x1.1.length : Int) - 2)) + 1)))⟩ : opened), (⟨0, 0⟩ : Fault))
noncomputable def file_open_B1 (x1 : List (List UInt8) × Int) (v1 : List (List UInt8) × Reader × Int) : Option ((List (List UInt8) × Reader × Int) ⊕ (Bool × opened × Fault)) :=
 if (decide (v1.2.2 < (w64 ((x1.1.length : Int) - 2)))) = true then
  ob (wire_Reader_Text v1.2.1) fun x6 =>
  asrt (((v1.1 ++ ([x6.1] : List (List UInt8))).length : Int) * 16 ≤ 140737488351232) <|
  ob (wire_Reader_Num x6.2) fun x7 =>
  asrt (0 ≤ v1.2.2 ∧ v1.2.2 < (x1.1.length : Int)) <|
  if (!decide (x7.1 = ((lget x1.1 v1.2.2).length : Int))) = true then
   lt (file_fault 5 1) fun x8 =>
   some (Sum.inr (false, default, x8))
  else
   some (Sum.inl ((v1.1 ++ ([x6.1] : List (List UInt8))), x7.2, w64 (v1.2.2 + 1)))
 else
  inrO (file_open_J1 x1 (v1.1, v1.2.1))
noncomputable def file_open_L1 (x1 : List (List UInt8) × Int) (v0 : List (List UInt8) × Reader × Int) : Option (Bool × opened × Fault) :=
 loopO (fun y => file_open_B1 x1 y) v0
noncomputable def file_open (b : List UInt8) : Option (Bool × opened × Fault) :=
 if (decide (60000 < (b.length : Int))) = true then
  lt (file_fault 8 0) fun x =>
  some (false, default, x)
 else
  ob (wire_Opened_v1 b) fun x1 =>
  asrt ((!((!decide (x1.2 = (b.length : Int))) || (decide ((w64 ((x1.1.length : Int) - 2)) < 0)))) = true → 0 ≤ w64 ((w64 ((x1.1.length : Int) - 2)) + 1) ∧ w64 ((w64 ((x1.1.length : Int) - 2)) + 1) < (x1.1.length : Int)) <|
  if (((!decide (x1.2 = (b.length : Int))) || (decide ((w64 ((x1.1.length : Int) - 2)) < 0))) || (decide (((lget x1.1 (w64 ((w64 ((x1.1.length : Int) - 2)) + 1))).length : Int) = 0))) = true then
   lt (file_fault 5 0) fun x2 =>
   some (false, default, x2)
  else
   asrt (0 ≤ w64 ((x1.1.length : Int) - 2) ∧ w64 ((x1.1.length : Int) - 2) ≤ (x1.1.length : Int)) <|
   asrt (0 ≤ w64 ((w64 ((x1.1.length : Int) - 2)) + 1) ∧ w64 ((w64 ((x1.1.length : Int) - 2)) + 1) < (x1.1.length : Int)) <|
   asrt (0 ≤ w64 ((x1.1.length : Int) - 2) ∧ w64 ((x1.1.length : Int) - 2) < (x1.1.length : Int)) <|
   lt (wire_Read_v1 (lget x1.1 (w64 ((x1.1.length : Int) - 2)))) fun x3 =>
   file_open_L1 x1 (([] : List (List UInt8)), x3, 0)
theorem file_open_ok (b : List UInt8) (r : Bool × opened × Fault) (hF : file_open b = some r) : Pe Try.prog 86 S.none [.sl 1 (b.map e_u8)] (.tup [.popt r.1 (.rp (.agg (c_opened r.2.1))), .agg (c_Fault r.2.2)]) S.none := by
 refine PeN 86 [.tmp 2, .cell 3 31] [122, 31] Ty.ok Fn.b86 Try.func86 ?_
 intro Q g hfin
 unfold file_open at hF
 refine VR [] [0, 3] [3] [] [] [(3, .ptr 3 0)] [(3, [.i 0, .i 0])] [] [] .nil ?_
 refine NR [.nat (b.length : Int)] [0, 3, 12] [3] [] [(12, .bool (decide (60000 < (b.length : Int))))] (hc (len_ok e_u8 b) .nil) ?_
 refine Nif hF (fun hb hF => ?_) (fun hb hF => ?_)
 ·obtain ⟨x, h0, hF⟩ := lt_split hF
  refine VR [.callB (.agg (c_Fault x))] [2, 3] [3] [] [] [(2, .nilp)] [(3, (c_Fault x))] [] [] (hc (file_fault_ok 8 0 x h0) .nil) ?_
  cases hF
  refine Wk_coe 2 (.popt false (.rp (.agg (c_opened default)))) rfl (.cell rfl (CoeS.popF _)) ?_
  exact Wk_ret (hfin _ ⟨[], [], [], [], [], [], by kernel_rfl⟩)
 ·obtain ⟨x1, h1, hF⟩ := ob_elim hF
  refine NR [.call (.tup [.sl 1 (x1.1.map e_L_u8), .i x1.2])] [0, 3, 4, 5] [3] [] [(4, .sl 1 (x1.1.map e_L_u8)), (5, .i x1.2)] (hc (wire_Opened_v1_ok b x1 h1) .nil) ?_
  refine NR [.nat (x1.1.length : Int)] [0, 3, 4, 5, 6] [3] [] [(6, .i (w64 ((x1.1.length : Int) - 2)))] (hc (len_ok e_L_u8 x1.1) .nil) ?_
  obtain ⟨h2, hF⟩ := asrt_elim hF
  refine NR [.nat (b.length : Int), .av (e_L_u8 (lget x1.1 (w64 ((w64 ((x1.1.length : Int) - 2)) + 1)))), .nat ((lget x1.1 (w64 ((w64 ((x1.1.length : Int) - 2)) + 1))).length : Int)] [3, 4, 6, 38] [3] [] [(38, .bool (((!decide (x1.2 = (b.length : Int))) || (decide ((w64 ((x1.1.length : Int) - 2)) < 0))) || (decide (((lget x1.1 (w64 ((w64 ((x1.1.length : Int) - 2)) + 1))).length : Int) = 0))))] (hc (len_ok e_u8 b) (hc (fun (ga0 : (!((!decide (x1.2 = (b.length : Int))) || (decide ((w64 ((x1.1.length : Int) - 2)) < 0)))) = true) => (idx_ok e_L_u8 (h2 ga0))) (hc (fun (_ : (!((!decide (x1.2 = (b.length : Int))) || (decide ((w64 ((x1.1.length : Int) - 2)) < 0)))) = true) => (len_ok e_u8 (lget x1.1 (w64 ((w64 ((x1.1.length : Int) - 2)) + 1))))) .nil))) ?_
  refine Nif hF (fun hb hF => ?_) (fun hb hF => ?_)
  ·obtain ⟨x2, h3, hF⟩ := lt_split hF
   refine VR [.callB (.agg (c_Fault x2))] [2, 3] [3] [] [] [(2, .nilp)] [(3, (c_Fault x2))] [] [] (hc (file_fault_ok 5 0 x2 h3) .nil) ?_
   cases hF
   refine Wk_coe 2 (.popt false (.rp (.agg (c_opened default)))) rfl (.cell rfl (CoeS.popF _)) ?_
   exact Wk_ret (hfin _ ⟨[], [], [], [], [], [], by kernel_rfl⟩)
  ·obtain ⟨h4, hF⟩ := asrt_elim hF
   obtain ⟨h5, hF⟩ := asrt_elim hF
   refine VD [.xs ((ltake x1.1 (w64 ((x1.1.length : Int) - 2))).map e_L_u8), .av (e_L_u8 (lget x1.1 (w64 ((w64 ((x1.1.length : Int) - 2)) + 1))))] [3, 4, 6, 7] [3, 49] [] [] [(7, .ptr 49 0)] [(49, [.sl 1 ((ltake x1.1 (w64 ((x1.1.length : Int) - 2))).map e_L_u8), .nils, .sl 1 ((lget x1.1 (w64 ((w64 ((x1.1.length : Int) - 2)) + 1))).map e_u8)])] [] [] (hc (sl01_ok e_L_u8 h4) (hc (idx_ok e_L_u8 h5) .nil)) ?_
   obtain ⟨h6, hF⟩ := asrt_elim hF
   obtain ⟨x3, h7, hF⟩ := lt_split hF
   refine VR [.av (e_L_u8 (lget x1.1 (w64 ((x1.1.length : Int) - 2)))), .callE [] [] [] [] (.ptr 54 0) ⟨[], [(54, (c_Reader x3))], [], [], []⟩] [3, 4, 6, 7, 8] [3, 49, 54] [] [] [(8, .ptr 54 0)] [(54, (c_Reader x3))] [] [] (hc (idx_ok e_L_u8 h6) (hc (Pe.ren (wire_Read_v1_ok (lget x1.1 (w64 ((x1.1.length : Int) - 2))) x3 h7) ⟨[(5, 54)], [], [], []⟩) .nil)) ?_
   refine NR [] [3, 4, 7, 8, 55, 56] [3, 49, 54] [] [(55, .i (w64 ((x1.1.length : Int) - 2))), (56, .i 0)] .nil ?_
   refine NmeetP (fun v : List (List UInt8) × Reader => (⟨[(3, .ptr 3 0), (7, .ptr 49 0), (8, .ptr 54 0)], [(3, [.i 0, .i 0]), (49, [.sl 1 ((ltake x1.1 (w64 ((x1.1.length : Int) - 2))).map e_L_u8), .row 67 0, .sl 1 ((lget x1.1 (w64 ((w64 ((x1.1.length : Int) - 2)) + 1))).map e_u8)]), (54, (c_Reader v.2))], [(67, .z 9 1 0 (v.1.map e_str))], [], []⟩ : S)) (fun v => file_open_J1 x1 v = some r) ?_ ?_
   ·refine Nblk ?_
    unfold file_open_L1 at hF
    refine Wk_nilrowB 49 1 60000 9 1 rfl rfl rfl rfl rfl ?_
    refine Wk_trim (fs := [3, 4, 7, 8, 55, 56]) (bs := [3, 49, 54]) (rs := [60000]) (ms := []) (aa := []) (nv := []) rfl ?_
    refine Wk_ren' ⟨[], [(60000, 67)], [], []⟩ rfl ?_
    refine Niter (fun v1 : List (List UInt8) × Reader × Int => (⟨[(3, .ptr 3 0), (4, .sl 1 (x1.1.map e_L_u8)), (7, .ptr 49 0), (8, .ptr 54 0), (55, .i (w64 ((x1.1.length : Int) - 2))), (56, .i v1.2.2)], [(3, [.i 0, .i 0]), (49, [.sl 1 ((ltake x1.1 (w64 ((x1.1.length : Int) - 2))).map e_L_u8), .row 67 0, .sl 1 ((lget x1.1 (w64 ((w64 ((x1.1.length : Int) - 2)) + 1))).map e_u8)]), (54, (c_Reader v1.2.1))], [(67, .z 9 1 0 (v1.1.map e_str))], [], []⟩ : S)) [] hF (by kernel_rfl) ?_
    intro n1 v1 y1 hF ih1 dn1
    unfold file_open_B1 at hF
    refine NR [] [3, 4, 7, 8, 55, 56, 57] [3, 49, 54] [67] [(57, .bool (decide (v1.2.2 < (w64 ((x1.1.length : Int) - 2)))))] .nil ?_
    refine Nif hF (fun hb hF => ?_) (fun hb hF => ?_)
    ·refine Nblk ?_
     refine NR [] [3, 4, 7, 8, 9, 55, 56] [3, 49, 54] [67] [(9, .i v1.2.2)] .nil ?_
     obtain ⟨x6, h10, hF⟩ := ob_elim hF
     obtain ⟨h11, hF⟩ := asrt_elim hF
     refine VD [.callE [54] [] [] [] (.str x6.1) ⟨[], [(54, (c_Reader x6.2))], [], [], []⟩, .sealed, .xs ((v1.1 ++ ([x6.1] : List (List UInt8))).map e_str)] [3, 4, 7, 8, 9, 55, 56] [3, 49, 54] [67] [] [] [(49, [.sl 1 ((ltake x1.1 (w64 ((x1.1.length : Int) - 2))).map e_L_u8), .row 67 1, .sl 1 ((lget x1.1 (w64 ((w64 ((x1.1.length : Int) - 2)) + 1))).map e_u8)]), (54, (c_Reader x6.2))] [(67, .z 9 1 1 ((v1.1 ++ ([x6.1] : List (List UInt8))).map e_str))] [] (hc (Pe.ren (wire_Reader_Text_ok v1.2.1 x6 h10) ⟨[(100000, 54)], [], [], []⟩) (hc (app_ok e_str v1.1 ([x6.1] : List (List UInt8))) (hc (appl_ok e_str h11) .nil))) ?_
     obtain ⟨x7, h12, hF⟩ := ob_elim hF
     obtain ⟨h13, hF⟩ := asrt_elim hF
     refine VD [.callE [54] [] [] [] (.i x7.1) ⟨[], [(54, (c_Reader x7.2))], [], [], []⟩, .av (e_L_u8 (lget x1.1 v1.2.2)), .nat ((lget x1.1 v1.2.2).length : Int)] [3, 4, 7, 8, 55, 56, 77] [3, 49, 54] [67] [] [(77, .bool (!decide (x7.1 = ((lget x1.1 v1.2.2).length : Int))))] [(54, (c_Reader x7.2))] [] [] (hc (Pe.ren (wire_Reader_Num_ok x6.2 x7 h12) ⟨[(100000, 54)], [], [], []⟩) (hc (idx_ok e_L_u8 h13) (hc (len_ok e_u8 (lget x1.1 v1.2.2)) .nil))) ?_
     refine Nif hF (fun hb hF => ?_) (fun hb hF => ?_)
     ·obtain ⟨x8, h14, hF⟩ := lt_split hF
      refine VR [.callB (.agg (c_Fault x8))] [2, 3] [3] [] [] [(2, .nilp)] [(3, (c_Fault x8))] [] [] (hc (file_fault_ok 5 1 x8 h14) .nil) ?_
      have hF := ret_done hF dn1
      cases hF
      refine Wk_coe 2 (.popt false (.rp (.agg (c_opened default)))) rfl (.cell rfl (CoeS.popF _)) ?_
      exact Wk_ret (hfin _ ⟨[], [], [], [], [], [], by kernel_rfl⟩)
     ·refine NR [] [3, 4, 7, 8, 55, 56] [3, 49, 54] [67] [(56, .i (w64 (v1.2.2 + 1)))] .nil ?_
      exact Nrnd [(67, ⟨0, true, true, false⟩)] hF ih1 (by kernel_rfl)
    ·refine Nexit rfl ?_
     have hF := inrO_done hF dn1
     exact metP (v1.1, v1.2.1) [] hF (by kernel_rfl)
   ·intro v hF
    have hF : file_open_J1 x1 v = some r := hF
    unfold file_open_J1 at hF
    obtain ⟨x4, h8, hF⟩ := lt_split hF
    refine NR [.callR [54] [] [] [] (.bool x4)] [3, 7, 82] [3, 49] [67] [(82, .bool (!x4))] (hc (Pe.ren (wire_Reader_Ok_ok v.2 x4 h8) ⟨[(100000, 54)], [], [], []⟩) .nil) ?_
    refine Nif hF (fun hb hF => ?_) (fun hb hF => ?_)
    ·obtain ⟨x5, h9, hF⟩ := lt_split hF
     refine VR [.callB (.agg (c_Fault x5))] [2, 3] [3] [] [] [(2, .nilp)] [(3, (c_Fault x5))] [] [] (hc (file_fault_ok 5 1 x5 h9) .nil) ?_
     cases hF
     refine Wk_coe 2 (.popt false (.rp (.agg (c_opened default)))) rfl (.cell rfl (CoeS.popF _)) ?_
     exact Wk_ret (hfin _ ⟨[], [], [], [], [], [], by kernel_rfl⟩)
    ·refine NR [] [2, 3] [3, 49] [67] [(2, .ptr 49 0)] .nil ?_
     refine Wk_sealBX [] 49 rfl rfl ?_
     refine Wk_rpBx 2 49 [3] [3] [] [] rfl rfl rfl rfl rfl rfl rfl (by kernel_rfl) rfl ?_
     cases hF
     refine Wk_coe 2 (.popt true (.rp (.agg [.sl 1 ((ltake x1.1 (w64 ((x1.1.length : Int) - 2))).map e_L_u8), .sl 1 (v.1.map e_str), .sl 1 ((lget x1.1 (w64 ((w64 ((x1.1.length : Int) - 2)) + 1))).map e_u8)]))) rfl (.cell rfl (CoeS.popT _)) ?_
     exact Wk_ret (hfin _ ⟨[], [], [], [], [], [], by kernel_rfl⟩)

/- (*wire.Reader).More -/
noncomputable def wire_Reader_More (box : Reader) : Bool :=
 decide (0 < (box.b.length : Int))
theorem wire_Reader_More_ok (box : Reader) (r : Bool) (hF : wire_Reader_More box = r) : Pe Try.prog 105 ⟨[], [(100000, (c_Reader box))], [], [], []⟩ [.ptr 100000 0] (.bool r) ⟨[], [(100000, (c_Reader box))], [], [], []⟩ := by
 refine PeN 9 [.tmp 2] [4] Ty.ok Fn.b105 Try.func105 ?_
 intro Q g hfin
 unfold wire_Reader_More at hF
 refine NR [] [0] [100000] [] [] .nil ?_
 refine NR [.nat (box.b.length : Int)] [2] [100000] [] [(2, .bool (decide (0 < (box.b.length : Int))))] (hc (len_ok e_u8 box.b) .nil) ?_
 cases hF
 exact Wk_ret (hfin _ ⟨[], [100000], [], [], [], [], by kernel_rfl⟩)

/- (*wire.Reader).Fine -/
noncomputable def wire_Reader_Fine (box : Reader) : Bool :=
 !box.bad
theorem wire_Reader_Fine_ok (box : Reader) (r : Bool) (hF : wire_Reader_Fine box = r) : Pe Try.prog 120 ⟨[], [(100000, (c_Reader box))], [], [], []⟩ [.ptr 100000 0] (.bool r) ⟨[], [(100000, (c_Reader box))], [], [], []⟩ := by
 refine PeN 8 [.tmp 2] [4] Ty.ok Fn.b120 Try.func120 ?_
 intro Q g hfin
 unfold wire_Reader_Fine at hF
 refine NR [] [0] [100000] [] [] .nil ?_
 refine NR [] [2] [100000] [] [(2, .bool (!box.bad))] .nil ?_
 cases hF
 exact Wk_ret (hfin _ ⟨[], [100000], [], [], [], [], by kernel_rfl⟩)

/- cell.From -/
noncomputable def cell_From (box : Reader) : Option (Cell × Bool × Reader) :=
 ob (wire_Reader_Text box) fun x =>
 ob (wire_Reader_Text x.2) fun x1 =>
 ob (wire_Reader_Num x1.2) fun x2 =>
 ob (wire_Reader_Num x2.2) fun x3 =>
 ob (wire_Reader_Text x3.2) fun x4 =>
 lt (wire_Reader_Fine x4.2) fun x5 =>
 lt (cell_code (⟨x.1, x1.1, x2.1, decide (x3.1 = 1), x4.1⟩ : Cell)) fun x6 =>
 some ((⟨x.1, x1.1, x2.1, decide (x3.1 = 1), x4.1⟩ : Cell), ((decide (x3.1 < 2)) && x5) && (decide (x6 = 0)), x4.2)
theorem cell_From_ok (box : Reader) (r : Cell × Bool × Reader) (hF : cell_From box = some r) : Pe Try.prog 106 ⟨[], [(100000, (c_Reader box))], [], [], []⟩ [.ptr 100000 0] (.tup [.agg (c_Cell r.1), .bool r.2.1]) ⟨[], [(100000, (c_Reader r.2.2))], [], [], []⟩ := by
 refine PeN 33 [.cell 2 96, .tmp 3] [96, 4] Ty.ok Fn.b106 Try.func106 ?_
 intro Q g hfin
 unfold cell_From at hF
 refine VR [] [0, 2] [2, 100000] [] [] [(2, .ptr 2 0)] [(2, [.str [], .str [], .i 0, .bool false, .str []])] [] [] .nil ?_
 obtain ⟨x, h0, hF⟩ := ob_elim hF
 obtain ⟨x1, h1, hF⟩ := ob_elim hF
 obtain ⟨x2, h2, hF⟩ := ob_elim hF
 refine VR [.callE [100000] [] [] [] (.str x.1) ⟨[], [(100000, (c_Reader x.2))], [], [], []⟩, .callE [100000] [] [] [] (.str x1.1) ⟨[], [(100000, (c_Reader x1.2))], [], [], []⟩, .callE [100000] [] [] [] (.i x2.1) ⟨[], [(100000, (c_Reader x2.2))], [], [], []⟩] [0, 2, 4] [2, 4, 100000] [] [] [(4, .ptr 4 0)] [(4, [.str x.1, .str x1.1, .i x2.1, .bool false, .str []]), (100000, (c_Reader x2.2))] [] [] (hc (Pe.ren (wire_Reader_Text_ok box x h0) ⟨[], [], [], []⟩) (hc (Pe.ren (wire_Reader_Text_ok x.2 x1 h1) ⟨[], [], [], []⟩) (hc (Pe.ren (wire_Reader_Num_ok x1.2 x2 h2) ⟨[], [], [], []⟩) .nil))) ?_
 obtain ⟨x3, h3, hF⟩ := ob_elim hF
 refine VR [.callE [100000] [] [] [] (.i x3.1) ⟨[], [(100000, (c_Reader x3.2))], [], [], []⟩] [0, 2, 4, 5] [2, 4, 100000] [] [] [(5, .i x3.1)] [(100000, (c_Reader x3.2))] [] [] (hc (Pe.ren (wire_Reader_Num_ok x2.2 x3 h3) ⟨[], [], [], []⟩) .nil) ?_
 obtain ⟨x4, h4, hF⟩ := ob_elim hF
 refine VR [.callE [100000] [] [] [] (.str x4.1) ⟨[], [(100000, (c_Reader x4.2))], [], [], []⟩] [0, 2, 4, 5] [2, 4, 100000] [] [] [] [(4, [.str x.1, .str x1.1, .i x2.1, .bool (decide (x3.1 = 1)), .str x4.1]), (100000, (c_Reader x4.2))] [] [] (hc (Pe.ren (wire_Reader_Text_ok x3.2 x4 h4) ⟨[], [], [], []⟩) .nil) ?_
 obtain ⟨x5, h5, hF⟩ := lt_split hF
 obtain ⟨x6, h6, hF⟩ := lt_split hF
 refine VD [.callR [100000] [] [] [] (.bool x5), .callB (.i x6)] [2, 3] [2, 100000] [] [] [(3, .bool (((decide (x3.1 < 2)) && x5) && (decide (x6 = 0))))] [(2, [.str x.1, .str x1.1, .i x2.1, .bool (decide (x3.1 = 1)), .str x4.1])] [] [] (hc (fun (ga0 : (decide (x3.1 < 2)) = true) => (Pe.ren (wire_Reader_Fine_ok x4.2 x5 h5) ⟨[], [], [], []⟩)) (hc (fun (ga0 : ((decide (x3.1 < 2)) && x5) = true) => (cell_code_ok (⟨x.1, x1.1, x2.1, decide (x3.1 = 1), x4.1⟩ : Cell) x6 h6)) .nil)) ?_
 cases hF
 exact Wk_ret (hfin _ ⟨[], [100000], [], [], [], [], by kernel_rfl⟩)

/- cell.Read -/
noncomputable def cell_Read_J1 (v : Fault × List Cell) : Option (List Cell × Fault) :=
 ob (cell_Check v.2) fun x2 =>
 if (!decide (x2.Code = 0)) = true then
  some (([] : List Cell), x2)
 else
  some (v.2, (⟨0, 0⟩ : Fault))
noncomputable def cell_Read_B1 (v1 : Fault × List Cell × Reader) : Option ((Fault × List Cell × Reader) ⊕ (List Cell × Fault)) :=
 lt (wire_Reader_More v1.2.2) fun x3 =>
 if x3 = true then
  ob (cell_From v1.2.2) fun x4 =>
  if (!x4.2.1) = true then
   lt (cell_fault 5 (v1.2.1.length : Int)) fun x5 =>
   some (Sum.inr (([] : List Cell), x5))
  else
   asrt (((v1.2.1 ++ [x4.1]).length : Int) * 64 ≤ 140737488351232) <|
   some (Sum.inl (v1.1, (v1.2.1 ++ [x4.1]), x4.2.2))
 else
  inrO (cell_Read_J1 (v1.1, v1.2.1))
noncomputable def cell_Read_L1 (v0 : Fault × List Cell × Reader) : Option (List Cell × Fault) :=
 loopO (fun y => cell_Read_B1 y) v0
noncomputable def cell_Read (b : List UInt8) : Option (List Cell × Fault) :=
 if (decide (60000 < (b.length : Int))) = true then
  lt (cell_fault 8 0) fun x =>
  some (([] : List Cell), x)
 else
  lt (wire_Read b) fun x1 =>
  cell_Read_L1 ((⟨0, 0⟩ : Fault), ([] : List Cell), x1)
theorem cell_Read_ok (b : List UInt8) (r : List Cell × Fault) (hF : cell_Read b = some r) : Pe Try.prog 69 S.none [.sl 1 (b.map e_u8)] (.tup [.row 30 0, .agg (c_Fault r.2)]) ⟨[], [], [(30, .z 96 5 0 (r.1.map e_Cell))], [], []⟩ := by
 refine PeN 39 [.tmp 2, .cell 3 31] [22, 31] Ty.ok Fn.b69 Try.func69 ?_
 intro Q g hfin
 unfold cell_Read at hF
 refine VR [] [0, 3] [3] [] [] [(3, .ptr 3 0)] [(3, [.i 0, .i 0])] [] [] .nil ?_
 refine NR [.nat (b.length : Int)] [0, 3, 11] [3] [] [(11, .bool (decide (60000 < (b.length : Int))))] (hc (len_ok e_u8 b) .nil) ?_
 refine Nif hF (fun hb hF => ?_) (fun hb hF => ?_)
 ·obtain ⟨x, h0, hF⟩ := lt_split hF
  refine VR [.callB (.agg (c_Fault x))] [2, 3] [3] [] [] [(2, .nils)] [(3, (c_Fault x))] [] [] (hc (cell_fault_ok 8 0 x h0) .nil) ?_
  cases hF
  refine Wk_nilrow 2 60000 96 5 rfl rfl rfl ?_
  refine Wk_ren' ⟨[], [(60000, 30)], [], []⟩ rfl ?_
  exact Wk_ret (hfin _ ⟨[30], [], [30], [], [], [], by kernel_rfl⟩)
 ·refine NR [] [0, 3, 4] [3] [] [(4, .nils)] .nil ?_
  obtain ⟨x1, h1, hF⟩ := lt_split hF
  refine VR [.callE [] [] [] [] (.ptr 14 0) ⟨[], [(14, (c_Reader x1))], [], [], []⟩] [3, 4, 5] [3, 14] [] [] [(5, .ptr 14 0)] [(14, (c_Reader x1))] [] [] (hc (Pe.ren (wire_Read_ok b x1 h1) ⟨[(5, 14)], [], [], []⟩) .nil) ?_
  refine NmeetP (fun v : Fault × List Cell => (⟨[(3, .ptr 3 0), (4, .row 30 0)], [(3, (c_Fault v.1))], [(30, .z 96 5 0 (v.2.map e_Cell))], [], []⟩ : S)) (fun v => cell_Read_J1 v = some r) ?_ ?_
  ·refine Nblk ?_
   unfold cell_Read_L1 at hF
   refine Wk_nilrow 4 60002 96 5 rfl rfl rfl ?_
   refine Wk_trim (fs := [3, 4, 5]) (bs := [3, 14]) (rs := [60002]) (ms := []) (aa := []) (nv := []) rfl ?_
   refine Wk_ren' ⟨[], [(60002, 30)], [], []⟩ rfl ?_
   refine Niter (fun v1 : Fault × List Cell × Reader => (⟨[(3, .ptr 3 0), (4, .row 30 0), (5, .ptr 14 0)], [(3, (c_Fault v1.1)), (14, (c_Reader v1.2.2))], [(30, .z 96 5 0 (v1.2.1.map e_Cell))], [], []⟩ : S)) [] hF (by kernel_rfl) ?_
   intro n1 v1 y1 hF ih1 dn1
   unfold cell_Read_B1 at hF
   obtain ⟨x3, h3, hF⟩ := lt_split hF
   refine NR [.callR [14] [] [] [] (.bool x3)] [3, 4, 5, 16] [3, 14] [30] [(16, .bool x3)] (hc (Pe.ren (wire_Reader_More_ok v1.2.2 x3 h3) ⟨[(100000, 14)], [], [], []⟩) .nil) ?_
   refine Nif hF (fun hb hF => ?_) (fun hb hF => ?_)
   ·refine Nblk ?_
    obtain ⟨x4, h4, hF⟩ := ob_elim hF
    refine VR [.callE [14] [] [] [] (.tup [.agg (c_Cell x4.1), .bool x4.2.1]) ⟨[], [(14, (c_Reader x4.2.2))], [], [], []⟩] [3, 4, 5, 6, 7] [3, 6, 14] [30] [] [(6, .ptr 6 0), (7, .bool x4.2.1)] [(6, (c_Cell x4.1)), (14, (c_Reader x4.2.2))] [] [] (hc (Pe.ren (cell_From_ok v1.2.2 x4 h4) ⟨[(100000, 14)], [], [], []⟩) .nil) ?_
    refine NR [] [3, 4, 5, 6, 23] [3, 6, 14] [30] [(23, .bool (!x4.2.1))] .nil ?_
    refine Nif hF (fun hb hF => ?_) (fun hb hF => ?_)
    ·obtain ⟨x5, h5, hF⟩ := lt_split hF
     refine VR [.nat (v1.2.1.length : Int), .callB (.agg (c_Fault x5))] [2, 3] [3] [] [] [(2, .nils)] [(3, (c_Fault x5))] [] [] (hc (len_ok e_Cell v1.2.1) (hc (cell_fault_ok 5 (v1.2.1.length : Int) x5 h5) .nil)) ?_
     have hF := ret_done hF dn1
     cases hF
     refine Wk_nilrow 2 60003 96 5 rfl rfl rfl ?_
     refine Wk_ren' ⟨[], [(60003, 30)], [], []⟩ rfl ?_
     exact Wk_ret (hfin _ ⟨[30], [], [30], [], [], [], by kernel_rfl⟩)
    ·obtain ⟨h6, hF⟩ := asrt_elim hF
     refine VR [.sealed, .xs ((v1.2.1 ++ [x4.1]).map e_Cell)] [3, 4, 5] [3, 14] [30] [] [(4, .row 30 1)] [] [(30, .z 96 5 1 ((v1.2.1 ++ [x4.1]).map e_Cell))] [] (hc (app_ok e_Cell v1.2.1 [x4.1]) (hc (appl_ok e_Cell h6) .nil)) ?_
     exact Nrnd [(30, ⟨0, true, true, false⟩)] hF ih1 (by kernel_rfl)
   ·refine Nexit rfl ?_
    have hF := inrO_done hF dn1
    exact metP (v1.1, v1.2.1) [] hF (by kernel_rfl)
  ·intro v hF
   have hF : cell_Read_J1 v = some r := hF
   unfold cell_Read_J1 at hF
   obtain ⟨x2, h2, hF⟩ := ob_elim hF
   refine VR [.callB (.agg (c_Fault x2))] [3, 4, 8] [3, 8] [30] [] [(8, .ptr 8 0)] [(8, (c_Fault x2))] [] [] (hc (cell_Check_ok v.2 x2 h2) .nil) ?_
   refine NR [] [3, 4, 8, 35] [3, 8] [30] [(35, .bool (!decide (x2.Code = 0)))] .nil ?_
   refine Nif hF (fun hb hF => ?_) (fun hb hF => ?_)
   ·refine VD [] [2, 3] [3] [] [] [(2, .nils)] [(3, (c_Fault x2))] [] [] .nil ?_
    cases hF
    refine Wk_nilrow 2 60001 96 5 rfl rfl rfl ?_
    refine Wk_ren' ⟨[], [(60001, 30)], [], []⟩ rfl ?_
    exact Wk_ret (hfin _ ⟨[30], [], [30], [], [], [], by kernel_rfl⟩)
   ·refine VR [] [2, 3] [3] [30] [] [(2, .row 30 0)] [(3, [.i 0, .i 0])] [] [] .nil ?_
    cases hF
    exact Wk_ret (hfin _ ⟨[30], [], [30], [], [], [], by kernel_rfl⟩)

/- (*file.opened).cells -/
noncomputable def file_opened_cells_J1 (v : List Cell) : Option (List Cell × Bool) :=
 ob (cell_Check v) fun x =>
 some (v, decide (x.Code = 0))
noncomputable def file_opened_cells_B1 (to0 : Int) (v1 : opened × List Cell × Int) : Option ((opened × List Cell × Int) ⊕ (List Cell × Bool)) :=
 if (decide (v1.2.2 < to0)) = true then
  asrt (0 ≤ v1.2.2 ∧ v1.2.2 < (v1.1.bodies.length : Int)) <|
  ob (cell_Read (lget v1.1.bodies v1.2.2)) fun x1 =>
  asrt ((!((!decide (x1.2.Code = 0)) || (decide ((x1.1.length : Int) = 0)))) = true → 0 ≤ (0 : Int) ∧ 0 < (x1.1.length : Int)) <|
  asrt ((!((!decide (x1.2.Code = 0)) || (decide ((x1.1.length : Int) = 0)))) = true → 0 ≤ (0 : Int) ∧ 0 < (x1.1.length : Int)) <|
  asrt ((!((!decide (x1.2.Code = 0)) || (decide ((x1.1.length : Int) = 0)))) = true → 0 ≤ v1.2.2 ∧ v1.2.2 < (v1.1.rows.length : Int)) <|
  if (((!decide (x1.2.Code = 0)) || (decide ((x1.1.length : Int) = 0))) || (!decide (((lget x1.1 0).Row) = (lget v1.1.rows v1.2.2)))) = true then
   some (Sum.inr (([] : List Cell), false))
  else
   asrt (((v1.2.1 ++ x1.1).length : Int) * 64 ≤ 140737488351232) <|
   some (Sum.inl (v1.1, (v1.2.1 ++ x1.1), w64 (v1.2.2 + 1)))
 else
  inrO (file_opened_cells_J1 v1.2.1)
noncomputable def file_opened_cells_L1 (to0 : Int) (v0 : opened × List Cell × Int) : Option (List Cell × Bool) :=
 loopO (fun y => file_opened_cells_B1 to0 y) v0
noncomputable def file_opened_cells (o : List (List UInt8)) (o1 : List (List UInt8)) (o2 : List UInt8) (from0 : Int) (to0 : Int) : Option (List Cell × Bool) :=
 file_opened_cells_L1 to0 ((⟨o, o1, o2⟩ : opened), ([] : List Cell), from0)
theorem file_opened_cells_ok (o : List (List UInt8)) (o1 : List (List UInt8)) (o2 : List UInt8) (from0 : Int) (to0 : Int) (r : List Cell × Bool) (hF : file_opened_cells o o1 o2 from0 to0 = some r) : Pe Try.prog 87 S.none [.rp (.agg [.sl 1 (o.map e_L_u8), .sl 1 (o1.map e_str), .sl 1 (o2.map e_u8)]), .i from0, .i to0] (.tup [.row 53 0, .bool r.2]) ⟨[], [], [(53, .z 96 5 0 (r.1.map e_Cell))], [], []⟩ := by
 refine PeN 59 [.tmp 6, .tmp 7] [22, 4] Ty.ok Fn.b87 Try.func87 ?_
 intro Q g hfin
 unfold file_opened_cells at hF
 refine NR [] [0, 1, 2] [] [] [] .nil ?_
 refine NR [] [0, 1, 2, 8] [] [] [(8, .nils)] .nil ?_
 refine NR [] [0, 2, 8, 9] [] [] [(9, .i from0)] .nil ?_
 refine NmeetP (fun v : List Cell => (⟨[(8, .row 53 0)], [], [(53, .z 96 5 0 (v.map e_Cell))], [], []⟩ : S)) (fun v => file_opened_cells_J1 v = some r) ?_ ?_
 ·refine Nblk ?_
  unfold file_opened_cells_L1 at hF
  refine Wk_nilrow 8 60000 96 5 rfl rfl rfl ?_
  refine Wk_trim (fs := [0, 2, 8, 9]) (bs := []) (rs := [60000]) (ms := []) (aa := []) (nv := []) rfl ?_
  refine Wk_ren' ⟨[], [(60000, 53)], [], []⟩ rfl ?_
  refine Niter (fun v1 : opened × List Cell × Int => (⟨[(0, .rp (.agg (c_opened v1.1))), (2, .i to0), (8, .row 53 0), (9, .i v1.2.2)], [], [(53, .z 96 5 0 (v1.2.1.map e_Cell))], [], []⟩ : S)) [] hF (by kernel_rfl) ?_
  intro n1 v1 y1 hF ih1 dn1
  unfold file_opened_cells_B1 at hF
  refine NR [] [0, 2, 8, 9, 15] [] [53] [(15, .bool (decide (v1.2.2 < to0)))] .nil ?_
  refine Nif hF (fun hb hF => ?_) (fun hb hF => ?_)
  ·refine Nblk ?_
   obtain ⟨h1, hF⟩ := asrt_elim hF
   obtain ⟨x1, h2, hF⟩ := ob_elim hF
   refine VR [.av (e_L_u8 (lget v1.1.bodies v1.2.2)), .callE [] [] [] [] (.tup [.row 26 0, .agg (c_Fault x1.2)]) ⟨[], [], [(26, .z 96 5 0 (x1.1.map e_Cell))], [], []⟩] [0, 2, 8, 9, 10, 11] [11] [26, 53] [] [(10, .row 26 0), (11, .ptr 11 0)] [(11, (c_Fault x1.2))] [(26, .z 96 5 0 (x1.1.map e_Cell))] [] (hc (idx_ok e_L_u8 h1) (hc (Pe.ren (cell_Read_ok (lget v1.1.bodies v1.2.2) x1 h2) ⟨[], [(30, 26)], [], []⟩) .nil)) ?_
   obtain ⟨h3, h4, hF⟩ := asrt2 hF
   obtain ⟨h5, hF⟩ := asrt_elim hF
   refine ND [.nat (x1.1.length : Int), .av (e_Cell (lget x1.1 0)), .av (e_str (lget v1.1.rows v1.2.2))] [0, 2, 8, 9, 10, 50] [] [26, 53] [(50, .bool (((!decide (x1.2.Code = 0)) || (decide ((x1.1.length : Int) = 0))) || (!decide (((lget x1.1 0).Row) = (lget v1.1.rows v1.2.2)))))] (hc (fun (_ : (!(!decide (x1.2.Code = 0))) = true) => (len_ok e_Cell x1.1)) (hc (fun (ga0 : (!((!decide (x1.2.Code = 0)) || (decide ((x1.1.length : Int) = 0)))) = true) => (ixr_ok e_Cell (h3 ga0))) (hc (fun (ga0 : (!((!decide (x1.2.Code = 0)) || (decide ((x1.1.length : Int) = 0)))) = true) => (ldr_ok e_Cell (h4 ga0))) (hc (fun (ga0 : (!((!decide (x1.2.Code = 0)) || (decide ((x1.1.length : Int) = 0)))) = true) => (idx_ok e_str (h5 ga0))) .nil)))) ?_
   refine Nif hF (fun hb hF => ?_) (fun hb hF => ?_)
   ·refine NR [] [6, 7] [] [] [(6, .nils), (7, .bool false)] .nil ?_
    have hF := ret_done hF dn1
    cases hF
    refine Wk_nilrow 6 60001 96 5 rfl rfl rfl ?_
    refine Wk_ren' ⟨[], [(60001, 53)], [], []⟩ rfl ?_
    exact Wk_ret (hfin _ ⟨[53], [], [53], [], [], [], by kernel_rfl⟩)
   ·obtain ⟨h6, hF⟩ := asrt_elim hF
    refine VR [.xs ((v1.2.1 ++ x1.1).map e_Cell)] [0, 2, 8, 9] [] [53] [] [(8, .row 53 1)] [] [(53, .z 96 5 1 ((v1.2.1 ++ x1.1).map e_Cell))] [] (hc (app_ok e_Cell v1.2.1 x1.1) (hc (appl_ok e_Cell h6) .nil)) ?_
    refine NR [] [0, 2, 8, 9] [] [53] [(9, .i (w64 (v1.2.2 + 1)))] .nil ?_
    exact Nrnd [(53, ⟨0, true, true, false⟩)] hF ih1 (by kernel_rfl)
  ·refine Nexit rfl ?_
   have hF := inrO_done hF dn1
   exact metP v1.2.1 [] hF (by kernel_rfl)
 ·intro v hF
  have hF : file_opened_cells_J1 v = some r := hF
  unfold file_opened_cells_J1 at hF
  obtain ⟨x, h0, hF⟩ := ob_elim hF
  refine NR [.callB (.agg (c_Fault x))] [6, 7] [] [53] [(6, .row 53 0), (7, .bool (decide (x.Code = 0)))] (hc (cell_Check_ok v x h0) .nil) ?_
  cases hF
  exact Wk_ret (hfin _ ⟨[53], [], [53], [], [], [], by kernel_rfl⟩)

/- file.Open -/
noncomputable def file_Open (b : List UInt8) : Option (List Cell × Fault) :=
 ob (file_open b) fun x =>
 if (!decide (x.2.2.Code = 0)) = true then
  some (([] : List Cell), x.2.2)
 else
  asrt (x.1 = true) <|
  ob (file_opened_cells x.2.1.bodies x.2.1.rows x.2.1.filter 0 (x.2.1.bodies.length : Int)) fun x1 =>
  if ((!x1.2) || (decide (500 < (x1.1.length : Int)))) = true then
   lt (file_fault 5 2) fun x2 =>
   some (([] : List Cell), x2)
  else
   ob (file_filter x1.1) fun x3 =>
   ob (slices_Equal_byte_byte x3 x.2.1.filter) fun x4 =>
   if (!x4) = true then
    lt (file_fault 5 3) fun x5 =>
    some (([] : List Cell), x5)
   else
    some (x1.1, x.2.2)
theorem file_Open_ok (b : List UInt8) (r : List Cell × Fault) (hF : file_Open b = some r) : Pe Try.prog 31 S.none [.sl 1 (b.map e_u8)] (.tup [.row 24 0, .agg (c_Fault r.2)]) ⟨[], [], [(24, ⟨96, 5, 0, (r.1.map e_Cell).length, 0, true, 0, [], (r.1.map e_Cell)⟩)], [], []⟩ := by
 refine PeN 46 [.tmp 2, .cell 3 31] [22, 31] Ty.ok Fn.b31 Try.func31 ?_
 intro Q g hfin
 unfold file_Open at hF
 refine VR [] [0, 3] [3] [] [] [(3, .ptr 3 0)] [(3, [.i 0, .i 0])] [] [] .nil ?_
 obtain ⟨x, h0, hF⟩ := ob_elim hF
 refine VR [.call (.tup [.popt x.1 (.rp (.agg (c_opened x.2.1))), .agg (c_Fault x.2.2)])] [3, 4, 5] [3, 5] [] [] [(4, .popt x.1 (.rp (.agg (c_opened x.2.1)))), (5, .ptr 5 0)] [(5, (c_Fault x.2.2))] [] [] (hc (file_open_ok b x h0) .nil) ?_
 refine NR [] [3, 4, 5, 15] [3, 5] [] [(15, .bool (!decide (x.2.2.Code = 0)))] .nil ?_
 refine Nif hF (fun hb hF => ?_) (fun hb hF => ?_)
 ·refine VD [] [2, 3] [3] [] [] [(2, .nils)] [(3, (c_Fault x.2.2))] [] [] .nil ?_
  cases hF
  refine Wk_nilrow 2 60000 96 5 rfl rfl rfl ?_
  refine Wk_ren' ⟨[], [(60000, 24)], [], []⟩ rfl ?_
  exact Wk_ret (hfin _ ⟨[24], [], [24], [], [], [(24, ⟨0, true, true, true⟩)], by kernel_rfl⟩)
 ·obtain ⟨h1, hF⟩ := asrt_elim hF
  refine Wk_coe 4 (.rp (.agg (c_opened x.2.1))) rfl (.cell rfl (CoeS.unp h1)) ?_
  obtain ⟨x1, h2, hF⟩ := ob_elim hF
  refine VR [.nat (x.2.1.bodies.length : Int), .callE [] [] [] [] (.tup [.row 24 0, .bool x1.2]) ⟨[], [], [(24, .z 96 5 0 (x1.1.map e_Cell))], [], []⟩] [3, 4, 5, 6, 7] [3, 5] [24] [] [(6, .row 24 0), (7, .bool x1.2)] [] [(24, .z 96 5 0 (x1.1.map e_Cell))] [] (hc (len_ok e_L_u8 x.2.1.bodies) (hc (Pe.ren (file_opened_cells_ok x.2.1.bodies x.2.1.rows x.2.1.filter 0 (x.2.1.bodies.length : Int) x1 h2) ⟨[], [(53, 24)], [], []⟩) .nil)) ?_
  refine NR [.nat (x1.1.length : Int)] [3, 4, 5, 6, 33] [3, 5] [24] [(33, .bool ((!x1.2) || (decide (500 < (x1.1.length : Int)))))] (hc (fun (_ : (!(!x1.2)) = true) => (len_ok e_Cell x1.1)) .nil) ?_
  refine Nif hF (fun hb hF => ?_) (fun hb hF => ?_)
  ·obtain ⟨x2, h3, hF⟩ := lt_split hF
   refine VR [.callB (.agg (c_Fault x2))] [2, 3] [3] [] [] [(2, .nils)] [(3, (c_Fault x2))] [] [] (hc (file_fault_ok 5 2 x2 h3) .nil) ?_
   cases hF
   refine Wk_nilrow 2 60001 96 5 rfl rfl rfl ?_
   refine Wk_ren' ⟨[], [(60001, 24)], [], []⟩ rfl ?_
   exact Wk_ret (hfin _ ⟨[24], [], [24], [], [], [(24, ⟨0, true, true, true⟩)], by kernel_rfl⟩)
  ·obtain ⟨x3, h4, hF⟩ := ob_elim hF
   obtain ⟨x4, h5, hF⟩ := ob_elim hF
   refine VD [.callE [] [] [] [] (.row 36 0) ⟨[], [], [(36, .o 5 1 0 (x3.map e_u8))], [], []⟩, .callB (.bool x4)] [3, 5, 6, 42] [3, 5] [24] [] [(42, .bool (!x4))] [] [(24, ⟨96, 5, 0, (x1.1.map e_Cell).length, 0, true, 0, [], (x1.1.map e_Cell)⟩)] [] (hc (Pe.ren (file_filter_ok x1.1 x3 h4) ⟨[], [], [], []⟩) (hc (slices_Equal_byte_byte_ok x3 x.2.1.filter x4 h5) .nil)) ?_
   refine Nif hF (fun hb hF => ?_) (fun hb hF => ?_)
   ·obtain ⟨x5, h6, hF⟩ := lt_split hF
    refine VR [.callB (.agg (c_Fault x5))] [2, 3] [3] [] [] [(2, .nils)] [(3, (c_Fault x5))] [] [] (hc (file_fault_ok 5 3 x5 h6) .nil) ?_
    cases hF
    refine Wk_nilrow 2 60002 96 5 rfl rfl rfl ?_
    refine Wk_ren' ⟨[], [(60002, 24)], [], []⟩ rfl ?_
    exact Wk_ret (hfin _ ⟨[24], [], [24], [], [], [(24, ⟨0, true, true, true⟩)], by kernel_rfl⟩)
   ·refine VD [] [2, 3] [3] [24] [] [(2, .row 24 0)] [(3, (c_Fault x.2.2))] [] [] .nil ?_
    cases hF
    exact Wk_ret (hfin _ ⟨[24], [], [24], [], [], [], by kernel_rfl⟩)

/- file.Open -/
noncomputable def file_Open_v1 (b : List UInt8) : Option (List Cell × Fault) :=
 ob (file_open b) fun x =>
 if (!decide (x.2.2.Code = 0)) = true then
  some (([] : List Cell), x.2.2)
 else
  asrt (x.1 = true) <|
  ob (file_opened_cells x.2.1.bodies x.2.1.rows x.2.1.filter 0 (x.2.1.bodies.length : Int)) fun x1 =>
  if ((!x1.2) || (decide (500 < (x1.1.length : Int)))) = true then
   lt (file_fault 5 2) fun x2 =>
   some (([] : List Cell), x2)
  else
   ob (file_filter x1.1) fun x3 =>
   ob (slices_Equal_byte_byte x3 x.2.1.filter) fun x4 =>
   if (!x4) = true then
    lt (file_fault 5 3) fun x5 =>
    some (([] : List Cell), x5)
   else
    some (x1.1, x.2.2)

/- tabularyref.Rest -/
noncomputable def R_Rest_J1 (v : Int) : Option Int :=
 some (IntKind.u32.wrap (4294967295 - v))
noncomputable def R_Rest_J2 (v1 : Int × Int) (v2 : Int) : Option ((Int × Int) ⊕ Int) :=
 some (Sum.inl (v2, w64 (v1.2 + 1)))
noncomputable def R_Rest_B2 (b : List UInt8) (v1 : Int × Int) (v3 : Int × Int) : Option ((Int × Int) ⊕ ((Int × Int) ⊕ Int)) :=
 if (decide (v3.2 < 8)) = true then
  asrt (0 ≤ v1.2 ∧ v1.2 < (b.length : Int)) <|
  asrt (0 ≤ v3.2) <|
  lt (Int.tmod (IntKind.u32.wrap ((toU8 (Int.fdiv ((lget b v1.2).toNat : Int) (2 ^ (min v3.2.toNat 8)))).toNat : Int)) 2) fun (v4 : Int) =>
  ob (
   if (decide ((Int.tmod (IntKind.u32.wrap (v3.1 + v4)) 2) = 1)) = true then
    some (bitsOp .xor .u32 (IntKind.u32.wrap (Int.tdiv v3.1 2)) 3988292384)
   else
    some (IntKind.u32.wrap (Int.tdiv v3.1 2))) fun (v5 : Int) =>
  some (Sum.inl (v5, w64 (v3.2 + 1)))
 else
  inrO (R_Rest_J2 v1 v3.1)
noncomputable def R_Rest_L2 (b : List UInt8) (v1 : Int × Int) (v0 : Int × Int) : Option ((Int × Int) ⊕ Int) :=
 loopO (fun y => R_Rest_B2 b v1 y) v0
noncomputable def R_Rest_B1 (b : List UInt8) (v1 : Int × Int) : Option ((Int × Int) ⊕ Int) :=
 if (decide (v1.2 < (b.length : Int))) = true then
  R_Rest_L2 b v1 (v1.1, 0)
 else
  inrO (R_Rest_J1 v1.1)
noncomputable def R_Rest_L1 (b : List UInt8) (v0 : Int × Int) : Option Int :=
 loopO (fun y => R_Rest_B1 b y) v0
noncomputable def R_Rest (b : List UInt8) : Option Int :=
 R_Rest_L1 b (4294967295, 0)
theorem R_Rest_ok (b : List UInt8) (r : Int) (hF : R_Rest b = some r) : Pe Try.prog 96 S.none [.sl 1 (b.map e_u8)] (.int .u32 r) S.none := by
 refine PeN 38 [.tmp 2] [133] Ty.ok Fn.b96 Try.func96 ?_
 intro Q g hfin
 unfold R_Rest at hF
 refine NR [] [0] [] [] [] .nil ?_
 refine NR [] [0, 3] [] [] [(3, .int .u32 4294967295)] .nil ?_
 refine NR [] [0, 3, 4] [] [] [(4, .i 0)] .nil ?_
 refine NmeetP (fun v : Int => (⟨[(3, .int .u32 v)], [], [], [], []⟩ : S)) (fun v => R_Rest_J1 v = some r) ?_ ?_
 ·refine Nblk ?_
  unfold R_Rest_L1 at hF
  refine Niter (fun v1 : Int × Int => (⟨[(0, .sl 1 (b.map e_u8)), (3, .int .u32 v1.1), (4, .i v1.2)], [], [], [], []⟩ : S)) [] hF (by kernel_rfl) ?_
  intro n1 v1 y1 hF ih1 dn1
  unfold R_Rest_B1 at hF
  refine NR [.nat (b.length : Int)] [0, 3, 4, 11] [] [] [(11, .bool (decide (v1.2 < (b.length : Int))))] (hc (len_ok e_u8 b) .nil) ?_
  refine Nif hF (fun hb hF => ?_) (fun hb hF => ?_)
  ·refine Nblk ?_
   refine NR [] [0, 3, 4, 5] [] [] [(5, .i 0)] .nil ?_
   refine NmeetP (fun v2 : Int => (⟨[(0, .sl 1 (b.map e_u8)), (3, .int .u32 v2), (4, .i v1.2)], [], [], [], []⟩ : S)) (fun v2 => R_Rest_J2 v1 v2 = some y1) ?_ ?_
   ·refine Nblk ?_
    unfold R_Rest_L2 at hF
    refine Niter (fun v3 : Int × Int => (⟨[(0, .sl 1 (b.map e_u8)), (3, .int .u32 v3.1), (4, .i v1.2), (5, .i v3.2)], [], [], [], []⟩ : S)) [] hF (by kernel_rfl) ?_
    intro n2 v3 y2 hF ih2 dn2
    unfold R_Rest_B2 at hF
    refine NR [] [0, 3, 4, 5, 15] [] [] [(15, .bool (decide (v3.2 < 8)))] .nil ?_
    refine Nif hF (fun hb hF => ?_) (fun hb hF => ?_)
    ·refine Nblk ?_
     obtain ⟨h0, h1, hF⟩ := asrt2 hF
     refine NRL (Int.tmod (IntKind.u32.wrap ((toU8 (Int.fdiv ((lget b v1.2).toNat : Int) (2 ^ (min v3.2.toNat 8)))).toNat : Int)) 2) (fun v4 : Int => ([(6, .int .u32 v4)], [], [], [])) [.av (e_u8 (lget b v1.2))] [0, 3, 4, 5, 6] [] [] [] (hc (idx_ok e_u8 h0) (hc h1 (hc (shr8_ok (lget b v1.2) (min v3.2.toNat 8)) (hc (by decide : (2 : Int) ≠ 0) .nil)))) (fun v4 hv => ?_)
     have hF := lt_elim hF hv
     refine NR [] [0, 3, 4, 5, 7] [] [] [(7, .int .u32 (Int.tmod (IntKind.u32.wrap (v3.1 + v4)) 2))] (hc (by decide : (2 : Int) ≠ 0) .nil) ?_
     refine NR [] [0, 3, 4, 5, 7] [] [] [(3, .int .u32 (IntKind.u32.wrap (Int.tdiv v3.1 2)))] (hc (by decide : (2 : Int) ≠ 0) .nil) ?_
     refine NR [] [0, 3, 4, 5, 33] [] [] [(33, .bool (decide ((Int.tmod (IntKind.u32.wrap (v3.1 + v4)) 2) = 1)))] .nil ?_
     obtain ⟨v5, hv, hF⟩ := ob_elim hF
     refine Nmeet (⟨[(0, .sl 1 (b.map e_u8)), (3, .int .u32 v5), (4, .i v1.2), (5, .i v3.2)], [], [], [], []⟩ : S) ?_ ?_
     ·have hF := hv
      refine Nif hF (fun hb hF => ?_) (fun hb hF => ?_)
      ·refine NR [] [0, 3, 4, 5] [] [] [(3, .int .u32 (bitsOp .xor .u32 (IntKind.u32.wrap (Int.tdiv v3.1 2)) 3988292384))] .nil ?_
       cases hF
       exact met [] (by kernel_rfl)
      ·cases hF
       exact met [] (by kernel_rfl)
     ·refine NR [] [0, 3, 4, 5] [] [] [(5, .i (w64 (v3.2 + 1)))] .nil ?_
      exact Nrnd [] hF ih2 (by kernel_rfl)
    ·refine Nexit rfl ?_
     have hF := inrO_done hF dn2
     exact metP v3.1 [] hF (by kernel_rfl)
   ·intro v2 hF
    have hF : R_Rest_J2 v1 v2 = some y1 := hF
    unfold R_Rest_J2 at hF
    refine NR [] [0, 3, 4] [] [] [(4, .i (w64 (v1.2 + 1)))] .nil ?_
    exact Nrnd [] hF ih1 (by kernel_rfl)
  ·refine Nexit rfl ?_
   have hF := inrO_done hF dn1
   exact metP v1.1 [] hF (by kernel_rfl)
 ·intro v hF
  have hF : R_Rest_J1 v = some r := hF
  unfold R_Rest_J1 at hF
  refine NR [] [2] [] [] [(2, .int .u32 (IntKind.u32.wrap (4294967295 - v)))] .nil ?_
  cases hF
  exact Wk_ret (hfin _ ⟨[], [], [], [], [], [], by kernel_rfl⟩)

/- tabularyref.Framed -/
noncomputable def R_Framed (body : List UInt8) : Option (List UInt8) :=
 asrt (((([toU8 (w64 (Int.tdiv (body.length : Int) 256)), toU8 (Int.tmod (body.length : Int) 256)] : List UInt8) ++ body).length : Int) * 1 ≤ 140737488351232) <|
 lt ((([toU8 (w64 (Int.tdiv (body.length : Int) 256)), toU8 (Int.tmod (body.length : Int) 256)] : List UInt8) ++ body)) fun (v : List UInt8) =>
 ob (R_Rest v) fun x =>
 asrt (((v ++ ([toU8 (IntKind.u32.wrap (Int.tdiv x 16777216)), toU8 (Int.tmod (IntKind.u32.wrap (Int.tdiv x 65536)) 256), toU8 (Int.tmod (IntKind.u32.wrap (Int.tdiv x 256)) 256), toU8 (Int.tmod x 256)] : List UInt8)).length : Int) * 1 ≤ 140737488351232) <|
 lt ((v ++ ([toU8 (IntKind.u32.wrap (Int.tdiv x 16777216)), toU8 (Int.tmod (IntKind.u32.wrap (Int.tdiv x 65536)) 256), toU8 (Int.tmod (IntKind.u32.wrap (Int.tdiv x 256)) 256), toU8 (Int.tmod x 256)] : List UInt8))) fun (v1 : List UInt8) =>
 some v1
theorem R_Framed_ok (body : List UInt8) (r : List UInt8) (hF : R_Framed body = some r) : Pe Try.prog 47 S.none [.sl 1 (body.map e_u8)] (.row 13 2) ⟨[], [], [(13, .z 5 1 2 (r.map e_u8))], [], []⟩ := by
 refine PeN 35 [.tmp 2] [25] Ty.ok Fn.b47 Try.func47 ?_
 intro Q g hfin
 unfold R_Framed at hF
 refine NR [] [0] [] [] [] .nil ?_
 obtain ⟨h0, hF⟩ := asrt_elim hF
 refine NRL ((([toU8 (w64 (Int.tdiv (body.length : Int) 256)), toU8 (Int.tmod (body.length : Int) 256)] : List UInt8) ++ body)) (fun v : List UInt8 => ([(3, .row 13 1)], [], [(13, .z 5 1 1 (v.map e_u8))], [])) [.nat (body.length : Int), .nat (body.length : Int), .xs ((([toU8 (w64 (Int.tdiv (body.length : Int) 256)), toU8 (Int.tmod (body.length : Int) 256)] : List UInt8) ++ body).map e_u8)] [3] [] [13] [] (hc (len_ok e_u8 body) (hc (by decide : (256 : Int) ≠ 0) (hc (len_ok e_u8 body) (hc (by decide : (256 : Int) ≠ 0) (hc (app_ok e_u8 ([toU8 (w64 (Int.tdiv (body.length : Int) 256)), toU8 (Int.tmod (body.length : Int) 256)] : List UInt8) body) (hc (appl_ok e_u8 h0) .nil)))))) (fun v hv => ?_)
 have hF := lt_elim hF hv
 obtain ⟨x, h1, hF⟩ := ob_elim hF
 refine NR [.callB (.int .u32 x)] [3, 4] [] [13] [(4, .int .u32 x)] (hc (R_Rest_ok v x h1) .nil) ?_
 obtain ⟨h2, hF⟩ := asrt_elim hF
 refine NRL ((v ++ ([toU8 (IntKind.u32.wrap (Int.tdiv x 16777216)), toU8 (Int.tmod (IntKind.u32.wrap (Int.tdiv x 65536)) 256), toU8 (Int.tmod (IntKind.u32.wrap (Int.tdiv x 256)) 256), toU8 (Int.tmod x 256)] : List UInt8))) (fun v1 : List UInt8 => ([(2, .row 13 2)], [], [(13, .z 5 1 2 (v1.map e_u8))], [])) [.sealed, .xs ((v ++ ([toU8 (IntKind.u32.wrap (Int.tdiv x 16777216)), toU8 (Int.tmod (IntKind.u32.wrap (Int.tdiv x 65536)) 256), toU8 (Int.tmod (IntKind.u32.wrap (Int.tdiv x 256)) 256), toU8 (Int.tmod x 256)] : List UInt8)).map e_u8)] [2] [] [13] [] (hc (by decide : (16777216 : Int) ≠ 0) (hc (by decide : (65536 : Int) ≠ 0) (hc (by decide : (256 : Int) ≠ 0) (hc (by decide : (256 : Int) ≠ 0) (hc (by decide : (256 : Int) ≠ 0) (hc (by decide : (256 : Int) ≠ 0) (hc (app_ok e_u8 v ([toU8 (IntKind.u32.wrap (Int.tdiv x 16777216)), toU8 (Int.tmod (IntKind.u32.wrap (Int.tdiv x 65536)) 256), toU8 (Int.tmod (IntKind.u32.wrap (Int.tdiv x 256)) 256), toU8 (Int.tmod x 256)] : List UInt8)) (hc (appl_ok e_u8 h2) .nil)))))))) (fun v1 hv => ?_)
 have hF := lt_elim hF hv
 cases hF
 exact Wk_ret (hfin _ ⟨[13], [], [13], [], [], [], by kernel_rfl⟩)

/- tabularyref.Same -/
noncomputable def R_Same (a0 : List UInt8) (b : List UInt8) : Bool :=
 decide (a0 = b)
theorem R_Same_ok (a0 : List UInt8) (b : List UInt8) (r : Bool) (hF : R_Same a0 b = r) : Pe Try.prog 18 S.none [.sl 1 (a0.map e_u8), .sl 1 (b.map e_u8)] (.bool r) S.none := by
 refine PeN 10 [.tmp 4] [4] Ty.ok Fn.b18 Try.func18 ?_
 intro Q g hfin
 unfold R_Same at hF
 refine NR [] [0, 1] [] [] [] .nil ?_
 refine NR [.str a0, .str b] [4] [] [] [(4, .bool (decide (a0 = b)))] (hc (u8s_ok a0) (hc (u8s_ok b) .nil)) ?_
 cases hF
 exact Wk_ret (hfin _ ⟨[], [], [], [], [], [], by kernel_rfl⟩)

/- tabularylaw.fileBegun -/
noncomputable def law_fileBegun  : Option Bool :=
 ob (file_Make ([] : List Cell) 50) fun x =>
 lt (law_versions) fun x1 =>
 ob (file_Make x1 50) fun x2 =>
 ob (file_Open x2.1) fun x3 =>
 if (((decide (x.2.Code = 0)) && (decide (x2.2.Code = 0))) && (decide (x3.2.Code = 0))) = true then
  ob (R_Framed ([] : List UInt8)) fun x4 =>
  ob (R_Framed ([(0 : UInt8)] : List UInt8)) fun x5 =>
  asrt (((x4 ++ x5).length : Int) * 1 ≤ 140737488351232) <|
  lt (R_Same x.1 (x4 ++ x5)) fun x6 =>
  some (x6 && (decide ((x3.1.length : Int) = 2)))
 else
  some (false && (decide ((x3.1.length : Int) = 2)))
theorem law_fileBegun_ok  (r : Bool) (hF : law_fileBegun  = some r) : Pe Try.prog 24 S.none [] (.bool r) S.none := by
 refine PeN 47 [.tmp 0] [4] Ty.ok Fn.b24 Try.func24 ?_
 intro Q g hfin
 unfold law_fileBegun at hF
 refine NR [] [] [] [] [] .nil ?_
 obtain ⟨x, h0, hF⟩ := ob_elim hF
 refine VR [.callE [] [] [] [] (.tup [.row 8 0, .agg (c_Fault x.2)]) ⟨[], [], [(8, ⟨5, 1, 0, (x.1.map e_u8).length, 0, true, 0, [], (x.1.map e_u8)⟩)], [], []⟩] [1, 2] [2] [8] [] [(1, .row 8 0), (2, .ptr 2 0)] [(2, (c_Fault x.2))] [(8, ⟨5, 1, 0, (x.1.map e_u8).length, 0, true, 0, [], (x.1.map e_u8)⟩)] [] (hc (Pe.ren (file_Make_ok ([] : List Cell) 50 x h0) ⟨[], [(76, 8)], [], []⟩) .nil) ?_
 obtain ⟨x1, h1, hF⟩ := lt_split hF
 obtain ⟨x2, h2, hF⟩ := ob_elim hF
 refine VR [.call (.sl 5 (x1.map e_Cell)), .callE [] [] [] [] (.tup [.row 13 0, .agg (c_Fault x2.2)]) ⟨[], [], [(13, ⟨5, 1, 0, (x2.1.map e_u8).length, 0, true, 0, [], (x2.1.map e_u8)⟩)], [], []⟩] [1, 2, 3, 4] [2, 4] [8, 13] [] [(3, .row 13 0), (4, .ptr 4 0)] [(4, (c_Fault x2.2))] [(13, ⟨5, 1, 0, (x2.1.map e_u8).length, 0, true, 0, [], (x2.1.map e_u8)⟩)] [] (hc (law_versions_ok  x1 h1) (hc (Pe.ren (file_Make_ok x1 50 x2 h2) ⟨[], [(76, 13)], [], []⟩) .nil)) ?_
 obtain ⟨x3, h3, hF⟩ := ob_elim hF
 refine VR [.callE [] [] [] [] (.tup [.row 18 0, .agg (c_Fault x3.2)]) ⟨[], [], [(18, ⟨96, 5, 0, (x3.1.map e_Cell).length, 0, true, 0, [], (x3.1.map e_Cell)⟩)], [], []⟩] [1, 2, 4, 5, 6] [2, 4, 6] [8, 18] [] [(5, .row 18 0), (6, .ptr 6 0)] [(6, (c_Fault x3.2))] [(18, ⟨96, 5, 0, (x3.1.map e_Cell).length, 0, true, 0, [], (x3.1.map e_Cell)⟩)] [] (hc (Pe.ren (file_Open_ok x2.1 x3 h3) ⟨[], [(24, 18)], [], []⟩) .nil) ?_
 cases hk2 : (((decide (x.2.Code = 0)) && (decide (x2.2.Code = 0))) && (decide (x3.2.Code = 0)))
 ·have hF := ite_f hF hk2
  refine NK [(34, false)] [.nat (x3.1.length : Int)] [0] [] [] [] ⟨[(0, .bool (false && (decide ((x3.1.length : Int) = 2))))], [], [], [], []⟩ (hc hk2 (hc hk2 (hc hk2 (hc hk2 (hc hk2 (hc hk2 (hc hk2 (hc (fun (_ : false = true) => (len_ok e_Cell x3.1)) .nil)))))))) ?_
  cases hF
  exact Wk_ret (hfin _ ⟨[], [], [], [], [], [], by kernel_rfl⟩)
 ·have hF := ite_t hF hk2
  obtain ⟨x4, h4, hF⟩ := ob_elim hF
  obtain ⟨x5, h5, hF⟩ := ob_elim hF
  obtain ⟨h6, hF⟩ := asrt_elim hF
  obtain ⟨x6, h7, hF⟩ := lt_split hF
  refine NK [(34, true)] [.callE [] [] [] [] (.row 36 2) ⟨[], [], [(36, .z 5 1 2 (x4.map e_u8))], [], []⟩, .sealed, .callE [] [] [] [] (.row 38 2) ⟨[], [], [(38, .z 5 1 2 (x5.map e_u8))], [], []⟩, .xs ((x4 ++ x5).map e_u8), .callB (.bool x6), .nat (x3.1.length : Int)] [0] [] [] [] ⟨[(0, .bool (x6 && (decide ((x3.1.length : Int) = 2))))], [], [], [], []⟩ (hc hk2 (hc hk2 (hc (Pe.ren (R_Framed_ok ([] : List UInt8) x4 h4) ⟨[], [(13, 36)], [], []⟩) (hc hk2 (hc hk2 (hc (Pe.ren (R_Framed_ok ([(0 : UInt8)] : List UInt8) x5 h5) ⟨[], [(13, 38)], [], []⟩) (hc hk2 (hc (app_ok e_u8 x4 x5) (hc (appl_ok e_u8 h6) (hc hk2 (hc (R_Same_ok x.1 (x4 ++ x5) x6 h7) (hc hk2 (hc (fun (_ : x6 = true) => (len_ok e_Cell x3.1)) .nil))))))))))))) ?_
  cases hF
  exact Wk_ret (hfin _ ⟨[], [], [], [], [], [], by kernel_rfl⟩)

/- tabularylaw.ownCells -/
noncomputable def law_ownCells_v1 (l : List Cell) : Option (List Cell) :=
 asrt ((l.length : Int) * 64 ≤ 140737488351232) <|
 some l

/- tabularyref.F -/
noncomputable def R_F (code : Int) (at0 : Int) : Fault :=
 (⟨code, at0⟩ : Fault)

/- tabularyref.CellCode -/
noncomputable def R_CellCode (c : Cell) : Int :=
 if ((((decide (c.Row = ([] : List UInt8))) || (decide (40 < (c.Row.length : Int)))) || (decide (40 < (c.Col.length : Int)))) || (decide (200 < (c.Value.length : Int)))) = true then
  8
 else
  if ((decide (c.Time < 0)) || (decide (1000000000 < c.Time))) = true then
   3
  else
   if (c.Gone && (!decide (c.Value = ([] : List UInt8)))) = true then
    5
   else
    0

/- tabularyref.Ahead -/
noncomputable def R_Ahead (a0 : Cell) (b : Cell) : Bool :=
 if (!decide (a0.Row = b.Row)) = true then
  Op.bytesLess a0.Row b.Row
 else
  if (!decide (a0.Col = b.Col)) = true then
   Op.bytesLess a0.Col b.Col
  else
   decide (b.Time < a0.Time)

/- tabularyref.CellsFault -/
noncomputable def R_CellsFault_J1 (v : Fault) : Option Fault :=
 some (⟨0, 0⟩ : Fault)
noncomputable def R_CellsFault_B1 (l : List Cell) (v1 : Fault × Int) : Option ((Fault × Int) ⊕ Fault) :=
 if (decide (v1.2 < (l.length : Int))) = true then
  asrt (0 ≤ v1.2 ∧ v1.2 < (l.length : Int)) <|
  lt (R_CellCode (⟨(lget l v1.2).Row, (lget l v1.2).Col, (lget l v1.2).Time, (lget l v1.2).Gone, (lget l v1.2).Value⟩ : Cell)) fun x1 =>
  if (!decide (x1 = 0)) = true then
   lt (R_F x1 v1.2) fun x2 =>
   some (Sum.inr x2)
  else
   asrt ((decide (0 < v1.2)) = true → 0 ≤ w64 (v1.2 - 1) ∧ w64 (v1.2 - 1) < (l.length : Int)) <|
   asrt ((decide (0 < v1.2)) = true → 0 ≤ v1.2 ∧ v1.2 < (l.length : Int)) <|
   lt (R_Ahead (⟨(lget l (w64 (v1.2 - 1))).Row, (lget l (w64 (v1.2 - 1))).Col, (lget l (w64 (v1.2 - 1))).Time, (lget l (w64 (v1.2 - 1))).Gone, (lget l (w64 (v1.2 - 1))).Value⟩ : Cell) (⟨(lget l v1.2).Row, (lget l v1.2).Col, (lget l v1.2).Time, (lget l v1.2).Gone, (lget l v1.2).Value⟩ : Cell)) fun x3 =>
   if ((decide (0 < v1.2)) && (!x3)) = true then
    lt (R_F 10 v1.2) fun x4 =>
    some (Sum.inr x4)
   else
    some (Sum.inl (v1.1, w64 (v1.2 + 1)))
 else
  inrO (R_CellsFault_J1 v1.1)
noncomputable def R_CellsFault_L1 (l : List Cell) (v0 : Fault × Int) : Option Fault :=
 loopO (fun y => R_CellsFault_B1 l y) v0
noncomputable def R_CellsFault (l : List Cell) : Option Fault :=
 if (decide (1000 < (l.length : Int))) = true then
  lt (R_F 2 0) fun x =>
  some x
 else
  R_CellsFault_L1 l ((⟨0, 0⟩ : Fault), 0)

/- tabularyref.Number -/
noncomputable def R_Number_S (rec : Int → Option (List UInt8)) (num : Int) : Option (List UInt8) :=
 if (decide (num < 128)) = true then
  some ([toU8 num] : List UInt8)
 else
  ob (rec (w64 (Int.tdiv num 128))) fun x =>
  asrt (((([toU8 (w64 ((Int.tmod num 128) + 128))] : List UInt8) ++ x).length : Int) * 1 ≤ 140737488351232) <|
  some (([toU8 (w64 ((Int.tmod num 128) + 128))] : List UInt8) ++ x)
noncomputable def R_Number (num : Int) : Option (List UInt8) := recO (fun rec (x : Int) => R_Number_S rec x) num

/- tabularyref.Written -/
noncomputable def R_Written (s0 : List UInt8) : Option (List UInt8) :=
 ob (R_Number (s0.length : Int)) fun x =>
 asrt (((x ++ s0).length : Int) * 1 ≤ 140737488351232) <|
 some (x ++ s0)

/- tabularyref.CellBytes -/
noncomputable def R_CellBytes (c : Cell) : Option (List UInt8) :=
 ob (R_Written c.Row) fun x =>
 ob (R_Written c.Col) fun x1 =>
 asrt (((x ++ x1).length : Int) * 1 ≤ 140737488351232) <|
 ob (R_Number c.Time) fun x2 =>
 asrt ((((x ++ x1) ++ x2).length : Int) * 1 ≤ 140737488351232) <|
 ob (
  if c.Gone = true then
   asrt (((((x ++ x1) ++ x2) ++ ([(1 : UInt8)] : List UInt8)).length : Int) * 1 ≤ 140737488351232) <|
   some (c, (((x ++ x1) ++ x2) ++ ([(1 : UInt8)] : List UInt8)))
  else
   asrt (((((x ++ x1) ++ x2) ++ ([(0 : UInt8)] : List UInt8)).length : Int) * 1 ≤ 140737488351232) <|
   some (c, (((x ++ x1) ++ x2) ++ ([(0 : UInt8)] : List UInt8)))) fun (v : Cell × List UInt8) =>
 ob (R_Written v.1.Value) fun x3 =>
 asrt (((v.2 ++ x3).length : Int) * 1 ≤ 140737488351232) <|
 some (v.2 ++ x3)

/- tabularyref.RowsOf -/
noncomputable def R_RowsOf_J1 (v : List (List UInt8)) : Option (List (List UInt8)) :=
 some v
noncomputable def R_RowsOf_B1 (l : List Cell) (v1 : List (List UInt8) × Int) : Option ((List (List UInt8) × Int) ⊕ (List (List UInt8))) :=
 if (decide (v1.2 < (l.length : Int))) = true then
  asrt ((!(decide ((v1.1.length : Int) = 0))) = true → 0 ≤ w64 ((v1.1.length : Int) - 1) ∧ w64 ((v1.1.length : Int) - 1) < (v1.1.length : Int)) <|
  asrt ((!(decide ((v1.1.length : Int) = 0))) = true → 0 ≤ w64 ((v1.1.length : Int) - 1) ∧ w64 ((v1.1.length : Int) - 1) < (v1.1.length : Int)) <|
  asrt ((!(decide ((v1.1.length : Int) = 0))) = true → 0 ≤ v1.2 ∧ v1.2 < (l.length : Int)) <|
  ob (
   if ((decide ((v1.1.length : Int) = 0)) || (!decide ((lget v1.1 (w64 ((v1.1.length : Int) - 1))) = ((lget l v1.2).Row)))) = true then
    asrt (0 ≤ v1.2 ∧ v1.2 < (l.length : Int)) <|
    asrt (((v1.1 ++ ([(lget l v1.2).Row] : List (List UInt8))).length : Int) * 16 ≤ 140737488351232) <|
    some (v1.1 ++ ([(lget l v1.2).Row] : List (List UInt8)))
   else
    some v1.1) fun (v2 : List (List UInt8)) =>
  some (Sum.inl (v2, w64 (v1.2 + 1)))
 else
  inrO (R_RowsOf_J1 v1.1)
noncomputable def R_RowsOf_L1 (l : List Cell) (v0 : List (List UInt8) × Int) : Option (List (List UInt8)) :=
 loopO (fun y => R_RowsOf_B1 l y) v0
noncomputable def R_RowsOf (l : List Cell) : Option (List (List UInt8)) :=
 R_RowsOf_L1 l (([] : List (List UInt8)), 0)

/- tabularyref.Bits -/
noncomputable def R_Bits (row : List UInt8) (num : Int) : Option (List Int) :=
 asrt ((row.length : Int) ≤ 140737488351232) <|
 ob (R_Rest row) fun x =>
 asrt ((IntKind.u64.wrap num) ≠ 0) <|
 asrt ((IntKind.u64.wrap num) ≠ 0) <|
 asrt ((IntKind.u64.wrap num) ≠ 0) <|
 lt (([w64 (Int.tmod (Int.tmod (IntKind.u64.wrap x) 65536) (IntKind.u64.wrap num)), w64 (Int.tmod (IntKind.u64.wrap ((Int.tmod (IntKind.u64.wrap x) 65536) + (IntKind.u64.wrap (Int.tdiv (IntKind.u64.wrap x) 65536)))) (IntKind.u64.wrap num)), w64 (Int.tmod (IntKind.u64.wrap ((Int.tmod (IntKind.u64.wrap x) 65536) + (IntKind.u64.wrap (2 * (IntKind.u64.wrap (Int.tdiv (IntKind.u64.wrap x) 65536)))))) (IntKind.u64.wrap num))] : List Int)) fun (v : List Int) =>
 some v

/- tabularyref.FilterOf -/
noncomputable def R_FilterOf_J2 (v2 : List UInt8) : Option (List UInt8) :=
 some v2
noncomputable def R_FilterOf_B1 (v1 : List Bool) (v3 : List UInt8 × Int) : Option ((List UInt8 × Int) ⊕ (List UInt8)) :=
 if (decide (v3.2 < (v1.length : Int))) = true then
  asrt (0 ≤ v3.2 ∧ v3.2 < (v1.length : Int)) <|
  asrt (0 ≤ v3.2 ∧ v3.2 < (v1.length : Int)) <|
  ob (
   if (lget v1 v3.2) = true then
    asrt (0 ≤ w64 (Int.tdiv v3.2 8) ∧ w64 (Int.tdiv v3.2 8) < (v3.1.length : Int)) <|
    asrt (0 ≤ w64 (Int.tdiv v3.2 8) ∧ w64 (Int.tdiv v3.2 8) < (v3.1.length : Int)) <|
    asrt (0 ≤ (Int.tmod v3.2 8)) <|
    asrt (0 ≤ w64 (Int.tdiv v3.2 8) ∧ w64 (Int.tdiv v3.2 8) < (v3.1.length : Int)) <|
    asrt (0 ≤ w64 (Int.tdiv v3.2 8) ∧ w64 (Int.tdiv v3.2 8) < (v3.1.length : Int)) <|
    lt ((lset v3.1 (w64 (Int.tdiv v3.2 8)) (toU8 (((lget v3.1 (w64 (Int.tdiv v3.2 8))).toNat : Int) + ((toU8 (((1 : UInt8).toNat : Int) * 2 ^ (min (Int.tmod v3.2 8).toNat 8))).toNat : Int))))) fun (v5 : List UInt8) =>
    some v5
   else
    some v3.1) fun (v4 : List UInt8) =>
  some (Sum.inl (v4, w64 (v3.2 + 1)))
 else
  inrO (R_FilterOf_J2 v3.1)
noncomputable def R_FilterOf_L1 (v1 : List Bool) (v0 : List UInt8 × Int) : Option (List UInt8) :=
 loopO (fun y => R_FilterOf_B1 v1 y) v0
noncomputable def R_FilterOf_J1 (v : Int) (v1 : List Bool) : Option (List UInt8) :=
 asrt (0 ≤ (v : Int) ∧ v ≤ v ∧ v * 1 ≤ 140737488351232) <|
 R_FilterOf_L1 v1 ((List.replicate v.toNat ((0 : UInt8) : UInt8)), 0)
noncomputable def R_FilterOf_J3 (v6 : List Bool × Int) (v7 : List Bool) : Option ((List Bool × Int) ⊕ (List UInt8)) :=
 some (Sum.inl (v7, w64 (v6.2 + 1)))
noncomputable def R_FilterOf_B3 (v6 : List Bool × Int) (x1 : List Int) (v8 : List Bool × Int) : Option ((List Bool × Int) ⊕ ((List Bool × Int) ⊕ (List UInt8))) :=
 if (decide (v8.2 < (x1.length : Int))) = true then
  asrt (0 ≤ v8.2 ∧ v8.2 < (x1.length : Int)) <|
  asrt (0 ≤ (lget x1 v8.2) ∧ (lget x1 v8.2) < (v8.1.length : Int)) <|
  asrt (0 ≤ (lget x1 v8.2) ∧ (lget x1 v8.2) < (v8.1.length : Int)) <|
  some (Sum.inl ((lset v8.1 (lget x1 v8.2) true), w64 (v8.2 + 1)))
 else
  inrO (R_FilterOf_J3 v6 v8.1)
noncomputable def R_FilterOf_L3 (v6 : List Bool × Int) (x1 : List Int) (v0 : List Bool × Int) : Option ((List Bool × Int) ⊕ (List UInt8)) :=
 loopO (fun y => R_FilterOf_B3 v6 x1 y) v0
noncomputable def R_FilterOf_B2 (x : List (List UInt8)) (v : Int) (v6 : List Bool × Int) : Option ((List Bool × Int) ⊕ (List UInt8)) :=
 if (decide (v6.2 < (x.length : Int))) = true then
  asrt (0 ≤ v6.2 ∧ v6.2 < (x.length : Int)) <|
  asrt (0 ≤ v6.2 ∧ v6.2 < (x.length : Int)) <|
  ob (R_Bits (lget x v6.2) (w64 (8 * v))) fun x1 =>
  R_FilterOf_L3 v6 x1 (v6.1, 0)
 else
  inrO (R_FilterOf_J1 v v6.1)
noncomputable def R_FilterOf_L2 (x : List (List UInt8)) (v : Int) (v0 : List Bool × Int) : Option (List UInt8) :=
 loopO (fun y => R_FilterOf_B2 x v y) v0
noncomputable def R_FilterOf (l : List Cell) : Option (List UInt8) :=
 ob (R_RowsOf l) fun x =>
 ob (
  if (decide ((x.length : Int) = 0)) = true then
   some 1
  else
   some (x.length : Int)) fun (v : Int) =>
 asrt (0 ≤ (w64 (8 * v) : Int) ∧ w64 (8 * v) ≤ w64 (8 * v) ∧ (w64 (8 * v)) * 1 ≤ 140737488351232) <|
 R_FilterOf_L2 x v ((List.replicate (w64 (8 * v)).toNat (false : Bool)), 0)

/- tabularyref.FileOf -/
noncomputable def R_FileOf_v1_J1 (l : List Cell) (v : List UInt8 × List UInt8) : Option (List UInt8) :=
 ob (R_Framed v.2) fun x =>
 asrt (((v.1 ++ x).length : Int) * 1 ≤ 140737488351232) <|
 ob (R_FilterOf l) fun x1 =>
 ob (R_Framed x1) fun x2 =>
 asrt ((((v.1 ++ x) ++ x2).length : Int) * 1 ≤ 140737488351232) <|
 some ((v.1 ++ x) ++ x2)
noncomputable def R_FileOf_v1_B1 (l : List Cell) (size : Int) (v1 : List UInt8 × List UInt8 × List UInt8 × List UInt8 × Int) : Option ((List UInt8 × List UInt8 × List UInt8 × List UInt8 × Int) ⊕ (List UInt8)) :=
 if (decide (v1.2.2.2.2 < (l.length : Int))) = true then
  ob (
   if (decide ((v1.2.2.1.length : Int) = 0)) = true then
    asrt (0 ≤ v1.2.2.2.2 ∧ v1.2.2.2.2 < (l.length : Int)) <|
    some ((lget l v1.2.2.2.2).Row)
   else
    some v1.2.2.2.1) fun (v2 : List UInt8) =>
  asrt (0 ≤ v1.2.2.2.2 ∧ v1.2.2.2.2 < (l.length : Int)) <|
  ob (R_CellBytes (⟨(lget l v1.2.2.2.2).Row, (lget l v1.2.2.2.2).Col, (lget l v1.2.2.2.2).Time, (lget l v1.2.2.2.2).Gone, (lget l v1.2.2.2.2).Value⟩ : Cell)) fun x3 =>
  asrt (((v1.2.2.1 ++ x3).length : Int) * 1 ≤ 140737488351232) <|
  ob (
   if ((decide (size ≤ ((v1.2.2.1 ++ x3).length : Int))) || (decide (v1.2.2.2.2 = (w64 ((l.length : Int) - 1))))) = true then
    ob (R_Framed (v1.2.2.1 ++ x3)) fun x4 =>
    asrt (((v1.1 ++ x4).length : Int) * 1 ≤ 140737488351232) <|
    ob (R_Written v2) fun x5 =>
    asrt (((v1.2.1 ++ x5).length : Int) * 1 ≤ 140737488351232) <|
    ob (R_Number ((v1.2.2.1 ++ x3).length : Int)) fun x6 =>
    asrt ((((v1.2.1 ++ x5) ++ x6).length : Int) * 1 ≤ 140737488351232) <|
    some ((v1.1 ++ x4), ((v1.2.1 ++ x5) ++ x6), ([] : List UInt8))
   else
    some (v1.1, v1.2.1, (v1.2.2.1 ++ x3))) fun (v3 : List UInt8 × List UInt8 × List UInt8) =>
  some (Sum.inl (v3.1, v3.2.1, v3.2.2, v2, w64 (v1.2.2.2.2 + 1)))
 else
  inrO (R_FileOf_v1_J1 l (v1.1, v1.2.1))
noncomputable def R_FileOf_v1_L1 (l : List Cell) (size : Int) (v0 : List UInt8 × List UInt8 × List UInt8 × List UInt8 × Int) : Option (List UInt8) :=
 loopO (fun y => R_FileOf_v1_B1 l size y) v0
noncomputable def R_FileOf_v1 (l : List Cell) (size : Int) : Option (List UInt8) :=
 R_FileOf_v1_L1 l size (([] : List UInt8), ([] : List UInt8), ([] : List UInt8), ([] : List UInt8), 0)

/- tabularylaw.FileMakes$1 -/
noncomputable def law_FileMakes_1 (box : List UInt8) : List UInt8 :=
 box

/- tabularylaw.bytesAs -/
noncomputable def law_bytesAs (b : List UInt8) (f : Fault) (w0 : Fault) (box : List UInt8) : Bool :=
 if (!(decide (f.Code = w0.Code) && (decide (f.At = w0.At) && true))) = true then
  false
 else
  if (!decide (w0.Code = 0)) = true then
   decide ((b.length : Int) = 0)
  else
   lt (law_FileMakes_1 box) fun x =>
   lt (R_Same b x) fun x1 =>
   x1

/- tabularyref.SameCells -/
noncomputable def R_SameCells_J1 (v : Unit) : Option Bool :=
 some true
noncomputable def R_SameCells_B1 (a0 : List Cell) (b : List Cell) (v1 : Int) : Option (Int ⊕ Bool) :=
 if (decide (v1 < (a0.length : Int))) = true then
  asrt (0 ≤ v1 ∧ v1 < (a0.length : Int)) <|
  asrt (0 ≤ v1 ∧ v1 < (b.length : Int)) <|
  if (!(decide ((lget a0 v1).Row = (lget b v1).Row) && (decide ((lget a0 v1).Col = (lget b v1).Col) && (decide ((lget a0 v1).Time = (lget b v1).Time) && ((((lget a0 v1).Gone) == ((lget b v1).Gone)) && (decide ((lget a0 v1).Value = (lget b v1).Value) && true)))))) = true then
   some (Sum.inr false)
  else
   some (Sum.inl (w64 (v1 + 1)))
 else
  inrO (R_SameCells_J1 ())
noncomputable def R_SameCells_L1 (a0 : List Cell) (b : List Cell) (v0 : Int) : Option Bool :=
 loopO (fun y => R_SameCells_B1 a0 b y) v0
noncomputable def R_SameCells (a0 : List Cell) (b : List Cell) : Option Bool :=
 if (!decide ((a0.length : Int) = (b.length : Int))) = true then
  some false
 else
  R_SameCells_L1 a0 b 0

/- tabularylaw.FileMakes -/
noncomputable def law_FileMakes (l : List Cell) (size : Int) : Option Bool :=
 ob (law_fileBegun) fun x =>
 if (!x) = true then
  some false
 else
  if (((decide (150 < (l.length : Int))) && (decide ((l.length : Int) < 490))) || (decide (2000 < (l.length : Int)))) = true then
   some true
  else
   ob (law_ownCells_v1 l) fun x1 =>
   ob (file_Make_v1 x1 size) fun x2 =>
   ob (R_CellsFault l) fun x3 =>
   ob (
    if ((decide (x3.Code = 0)) && (decide (500 < (l.length : Int)))) = true then
     lt (R_F 2 (-1)) fun x4 =>
     some (x2.2, x4)
    else
     some (x2.2, x3)) fun (v : Fault × Fault) =>
   ob (
    if ((decide (v.2.Code = 0)) && ((decide (size < 50)) || (decide (4000 < size)))) = true then
     lt (R_F 3 (-1)) fun x5 =>
     some (v.1, x5)
    else
     some (v.1, v.2)) fun (v1 : Fault × Fault) =>
   ob (
    if (decide (v1.2.Code = 0)) = true then
     ob (R_FileOf_v1 l size) fun x6 =>
     if (decide (60000 < (x6.length : Int))) = true then
      lt (R_F 9 0) fun x7 =>
      some (v1.1, x7, x6)
     else
      some (v1.1, v1.2, x6)
    else
     some (v1.1, v1.2, ([] : List UInt8))) fun (v2 : Fault × Fault × List UInt8) =>
   lt (law_bytesAs x2.1 v2.1 v2.2.1 v2.2.2) fun x8 =>
   if (!x8) = true then
    some false
   else
    if (!decide (v2.2.1.Code = 0)) = true then
     some true
    else
     ob (file_Open_v1 x2.1) fun x9 =>
     ob (if (decide (x9.2.Code = 0)) = true then (R_SameCells x9.1 l) else some default) fun x10 =>
     some ((decide (x9.2.Code = 0)) && x10)

/- tabularyref.Unframed -/
noncomputable def R_Unframed_J1 (v : List (List UInt8) × Int) : Option (List (List UInt8) × Int) :=
 some (v.1, v.2)
noncomputable def R_Unframed_B1 (b : List UInt8) (v1 : List (List UInt8) × Int) : Option ((List (List UInt8) × Int) ⊕ (List (List UInt8) × Int)) :=
 if (decide ((w64 (v1.2 + 6)) ≤ (b.length : Int))) = true then
  asrt (0 ≤ v1.2 ∧ v1.2 < (b.length : Int)) <|
  asrt (0 ≤ w64 (v1.2 + 1) ∧ w64 (v1.2 + 1) < (b.length : Int)) <|
  lt (w64 ((w64 ((w64 ((lget b v1.2).toNat : Int)) * 256)) + (w64 ((lget b (w64 (v1.2 + 1))).toNat : Int)))) fun (v2 : Int) =>
  if (decide ((b.length : Int) < (w64 ((w64 (v1.2 + 6)) + v2)))) = true then
   inrO (R_Unframed_J1 (v1.1, v1.2))
  else
   asrt (0 ≤ w64 (v1.2 + 2) ∧ w64 (v1.2 + 2) ≤ w64 ((w64 (v1.2 + 2)) + v2) ∧ w64 ((w64 (v1.2 + 2)) + v2) ≤ (b.length : Int)) <|
   ob (R_Framed (ldrop (ltake b (w64 ((w64 (v1.2 + 2)) + v2))) (w64 (v1.2 + 2)))) fun x =>
   asrt (0 ≤ v1.2 ∧ v1.2 ≤ w64 ((w64 (v1.2 + 6)) + v2) ∧ w64 ((w64 (v1.2 + 6)) + v2) ≤ (b.length : Int)) <|
   lt (R_Same x (ldrop (ltake b (w64 ((w64 (v1.2 + 6)) + v2))) v1.2)) fun x1 =>
   if (!x1) = true then
    inrO (R_Unframed_J1 (v1.1, v1.2))
   else
    asrt (((ldrop (ltake b (w64 ((w64 (v1.2 + 2)) + v2))) (w64 (v1.2 + 2))).length : Int) * 1 ≤ 140737488351232) <|
    asrt (((v1.1 ++ ([(ldrop (ltake b (w64 ((w64 (v1.2 + 2)) + v2))) (w64 (v1.2 + 2)))] : List (List UInt8))).length : Int) * 24 ≤ 140737488351232) <|
    lt ((v1.1 ++ ([(ldrop (ltake b (w64 ((w64 (v1.2 + 2)) + v2))) (w64 (v1.2 + 2)))] : List (List UInt8)))) fun (v3 : List (List UInt8)) =>
    some (Sum.inl (v3, w64 ((w64 (v1.2 + 6)) + v2)))
 else
  inrO (R_Unframed_J1 (v1.1, v1.2))
noncomputable def R_Unframed_L1 (b : List UInt8) (v0 : List (List UInt8) × Int) : Option (List (List UInt8) × Int) :=
 loopO (fun y => R_Unframed_B1 b y) v0
noncomputable def R_Unframed (b : List UInt8) : Option (List (List UInt8) × Int) :=
 R_Unframed_L1 b (([] : List (List UInt8)), 0)

/- tabularylaw.ownBytes -/
noncomputable def law_ownBytes (b : List UInt8) : Option (List UInt8) :=
 asrt ((b.length : Int) * 1 ≤ 140737488351232) <|
 some b

/- tabularylaw.ownBytes -/
noncomputable def law_ownBytes_v1 (b : List UInt8) : Option (List UInt8) :=
 asrt ((b.length : Int) * 1 ≤ 140737488351232) <|
 some b

/- tabularylaw.FileTorn -/
noncomputable def law_FileTorn_J1 (at0 : Int) (to0 : UInt8) (x1 : List UInt8 × Fault) (v : Fault) : Option Bool :=
 ob (law_ownBytes x1.1) fun x3 =>
 asrt (0 ≤ at0 ∧ at0 < (x3.length : Int)) <|
 asrt (0 ≤ at0 ∧ at0 < (x3.length : Int)) <|
 ob (file_Open (lset x3 at0 to0)) fun x4 =>
 lt (R_F 5 0) fun x5 =>
 lt ((decide (x4.2.Code = x5.Code) && (decide (x4.2.At = x5.At) && true)) && (decide ((x4.1.length : Int) = 0))) fun (v1 : Bool) =>
 some v1
noncomputable def law_FileTorn_B1 (at0 : Int) (to0 : UInt8) (x1 : List UInt8 × Fault) (x2 : List (List UInt8) × Int) (v2 : Fault × Int × Int) : Option ((Fault × Int × Int) ⊕ Bool) :=
 if (decide (v2.2.2 < (x2.1.length : Int))) = true then
  if ((decide (at0 = v2.2.1)) || (decide (at0 = (w64 (v2.2.1 + 1))))) = true then
   some (Sum.inr true)
  else
   asrt (0 ≤ v2.2.2 ∧ v2.2.2 < (x2.1.length : Int)) <|
   asrt (0 ≤ v2.2.2 ∧ v2.2.2 < (x2.1.length : Int)) <|
   some (Sum.inl (v2.1, w64 ((w64 (v2.2.1 + ((lget x2.1 v2.2.2).length : Int))) + 6), w64 (v2.2.2 + 1)))
 else
  inrO (law_FileTorn_J1 at0 to0 x1 v2.1)
noncomputable def law_FileTorn_L1 (at0 : Int) (to0 : UInt8) (x1 : List UInt8 × Fault) (x2 : List (List UInt8) × Int) (v0 : Fault × Int × Int) : Option Bool :=
 loopO (fun y => law_FileTorn_B1 at0 to0 x1 x2 y) v0
noncomputable def law_FileTorn (l : List Cell) (size : Int) (at0 : Int) (to0 : UInt8) : Option Bool :=
 ob (law_fileBegun) fun x =>
 if (!x) = true then
  some false
 else
  if (decide (60 < (l.length : Int))) = true then
   some true
  else
   ob (file_Make l size) fun x1 =>
   asrt ((!(((!decide (x1.2.Code = 0)) || (decide (at0 < 0))) || (decide ((x1.1.length : Int) ≤ at0)))) = true → 0 ≤ at0 ∧ at0 < (x1.1.length : Int)) <|
   asrt ((!(((!decide (x1.2.Code = 0)) || (decide (at0 < 0))) || (decide ((x1.1.length : Int) ≤ at0)))) = true → 0 ≤ at0 ∧ at0 < (x1.1.length : Int)) <|
   if ((((!decide (x1.2.Code = 0)) || (decide (at0 < 0))) || (decide ((x1.1.length : Int) ≤ at0))) || (decide (((lget x1.1 at0).toNat : Int) = (to0.toNat : Int)))) = true then
    some true
   else
    ob (R_Unframed x1.1) fun x2 =>
    law_FileTorn_L1 at0 to0 x1 x2 (x1.2, 0, 0)

/- file.may -/
noncomputable def file_may_J1 (v : Unit) : Option Bool :=
 some true
noncomputable def file_may (f : List UInt8) (row : List UInt8) : Option Bool :=
 ob (file_spots row (w64 (8 * (f.length : Int)))) fun x =>
 asrt (0 ≤ w64 (Int.tdiv x.p0 8) ∧ w64 (Int.tdiv x.p0 8) < (f.length : Int)) <|
 asrt (0 ≤ (Int.tmod x.p0 8)) <|
 if (decide (((toU8 (((BitVec.ofInt 8 ((toU8 (Int.fdiv ((lget f (w64 (Int.tdiv x.p0 8))).toNat : Int) (2 ^ (min (Int.tmod x.p0 8).toNat 8)))).toNat : Int) &&& BitVec.ofInt 8 ((1 : UInt8).toNat : Int)).toNat : Int))).toNat : Int) = ((0 : UInt8).toNat : Int))) = true then
  some false
 else
  asrt (0 ≤ w64 (Int.tdiv x.p1 8) ∧ w64 (Int.tdiv x.p1 8) < (f.length : Int)) <|
  asrt (0 ≤ (Int.tmod x.p1 8)) <|
  if (decide (((toU8 (((BitVec.ofInt 8 ((toU8 (Int.fdiv ((lget f (w64 (Int.tdiv x.p1 8))).toNat : Int) (2 ^ (min (Int.tmod x.p1 8).toNat 8)))).toNat : Int) &&& BitVec.ofInt 8 ((1 : UInt8).toNat : Int)).toNat : Int))).toNat : Int) = ((0 : UInt8).toNat : Int))) = true then
   some false
  else
   asrt (0 ≤ w64 (Int.tdiv x.p2 8) ∧ w64 (Int.tdiv x.p2 8) < (f.length : Int)) <|
   asrt (0 ≤ (Int.tmod x.p2 8)) <|
   if (decide (((toU8 (((BitVec.ofInt 8 ((toU8 (Int.fdiv ((lget f (w64 (Int.tdiv x.p2 8))).toNat : Int) (2 ^ (min (Int.tmod x.p2 8).toNat 8)))).toNat : Int) &&& BitVec.ofInt 8 ((1 : UInt8).toNat : Int)).toNat : Int))).toNat : Int) = ((0 : UInt8).toNat : Int))) = true then
    some false
   else
    file_may_J1 ()
theorem file_may_ok (f : List UInt8) (row : List UInt8) (r : Bool) (hF : file_may f row = some r) : Pe Try.prog 100 S.none [.sl 1 (f.map e_u8), .str row] (.bool r) S.none := by
 refine PeN 26 [.tmp 4] [4] Ty.ok Fn.b100 Try.func100 ?_
 intro Q g hfin
 unfold file_may at hF
 refine NR [] [0, 1] [] [] [] .nil ?_
 obtain ⟨x, h0, hF⟩ := ob_elim hF
 refine NR [.nat (f.length : Int), .callB (.agg (c_Arr3_3 x))] [0, 11, 12] [] [] [(11, .agg (c_Arr3_3 x)), (12, .i 0)] (hc (len_ok e_u8 f) (hc (file_spots_ok row (w64 (8 * (f.length : Int))) x h0) .nil)) ?_
 refine NmeetP (fun v : Unit => (S.none : S)) (fun v => file_may_J1 v = some r) ?_ ?_
 ·refine Nblk ?_
  refine Wk_unroll 9 ?_
  refine Nagain ?_
  refine NR [] [0, 11, 12, 13] [] [] [(13, .bool true)] .nil ?_
  refine Ntrue rfl ?_
  refine Nblk ?_
  refine NR [] [0, 6, 11, 12] [] [] [(6, .i x.p0)] (hc (⟨by decide, by decide⟩ : (0 : Int) ≤ 0 ∧ (0 : Int) < ((3 : Nat) : Int)) .nil) ?_
  obtain ⟨h1, h2, hF⟩ := asrt2 hF
  refine NR [.av (e_u8 (lget f (w64 (Int.tdiv x.p0 8))))] [0, 11, 12, 24] [] [] [(24, .bool (decide (((toU8 (((BitVec.ofInt 8 ((toU8 (Int.fdiv ((lget f (w64 (Int.tdiv x.p0 8))).toNat : Int) (2 ^ (min (Int.tmod x.p0 8).toNat 8)))).toNat : Int) &&& BitVec.ofInt 8 ((1 : UInt8).toNat : Int)).toNat : Int))).toNat : Int) = ((0 : UInt8).toNat : Int))))] (hc (by decide : (8 : Int) ≠ 0) (hc (idx_ok e_u8 h1) (hc (by decide : (8 : Int) ≠ 0) (hc h2 (hc (shr8_ok (lget f (w64 (Int.tdiv x.p0 8))) (min (Int.tmod x.p0 8).toNat 8)) .nil))))) ?_
  refine Nif hF (fun hb hF => ?_) (fun hb hF => ?_)
  ·refine NR [] [4] [] [] [(4, .bool false)] .nil ?_
   cases hF
   exact Wk_ret (hfin _ ⟨[], [], [], [], [], [], by kernel_rfl⟩)
  ·refine NR [] [0, 11, 12] [] [] [(12, .i 1)] .nil ?_
   refine Nagain ?_
   refine NR [] [0, 11, 12, 13] [] [] [(13, .bool true)] .nil ?_
   refine Ntrue rfl ?_
   refine Nblk ?_
   refine NR [] [0, 6, 11, 12] [] [] [(6, .i x.p1)] (hc (⟨by decide, by decide⟩ : (0 : Int) ≤ 1 ∧ (1 : Int) < ((3 : Nat) : Int)) .nil) ?_
   obtain ⟨h3, h4, hF⟩ := asrt2 hF
   refine NR [.av (e_u8 (lget f (w64 (Int.tdiv x.p1 8))))] [0, 11, 12, 24] [] [] [(24, .bool (decide (((toU8 (((BitVec.ofInt 8 ((toU8 (Int.fdiv ((lget f (w64 (Int.tdiv x.p1 8))).toNat : Int) (2 ^ (min (Int.tmod x.p1 8).toNat 8)))).toNat : Int) &&& BitVec.ofInt 8 ((1 : UInt8).toNat : Int)).toNat : Int))).toNat : Int) = ((0 : UInt8).toNat : Int))))] (hc (by decide : (8 : Int) ≠ 0) (hc (idx_ok e_u8 h3) (hc (by decide : (8 : Int) ≠ 0) (hc h4 (hc (shr8_ok (lget f (w64 (Int.tdiv x.p1 8))) (min (Int.tmod x.p1 8).toNat 8)) .nil))))) ?_
   refine Nif hF (fun hb hF => ?_) (fun hb hF => ?_)
   ·refine NR [] [4] [] [] [(4, .bool false)] .nil ?_
    cases hF
    exact Wk_ret (hfin _ ⟨[], [], [], [], [], [], by kernel_rfl⟩)
   ·refine NR [] [0, 11, 12] [] [] [(12, .i 2)] .nil ?_
    refine Nagain ?_
    refine NR [] [0, 11, 12, 13] [] [] [(13, .bool true)] .nil ?_
    refine Ntrue rfl ?_
    refine Nblk ?_
    refine NR [] [0, 6, 11, 12] [] [] [(6, .i x.p2)] (hc (⟨by decide, by decide⟩ : (0 : Int) ≤ 2 ∧ (2 : Int) < ((3 : Nat) : Int)) .nil) ?_
    obtain ⟨h5, h6, hF⟩ := asrt2 hF
    refine NR [.av (e_u8 (lget f (w64 (Int.tdiv x.p2 8))))] [0, 11, 12, 24] [] [] [(24, .bool (decide (((toU8 (((BitVec.ofInt 8 ((toU8 (Int.fdiv ((lget f (w64 (Int.tdiv x.p2 8))).toNat : Int) (2 ^ (min (Int.tmod x.p2 8).toNat 8)))).toNat : Int) &&& BitVec.ofInt 8 ((1 : UInt8).toNat : Int)).toNat : Int))).toNat : Int) = ((0 : UInt8).toNat : Int))))] (hc (by decide : (8 : Int) ≠ 0) (hc (idx_ok e_u8 h5) (hc (by decide : (8 : Int) ≠ 0) (hc h6 (hc (shr8_ok (lget f (w64 (Int.tdiv x.p2 8))) (min (Int.tmod x.p2 8).toNat 8)) .nil))))) ?_
    refine Nif hF (fun hb hF => ?_) (fun hb hF => ?_)
    ·refine NR [] [4] [] [] [(4, .bool false)] .nil ?_
     cases hF
     exact Wk_ret (hfin _ ⟨[], [], [], [], [], [], by kernel_rfl⟩)
    ·refine NR [] [0, 11, 12] [] [] [(12, .i 3)] .nil ?_
     refine Nagain ?_
     refine NR [] [0, 11, 12, 13] [] [] [(13, .bool false)] .nil ?_
     refine Nfalse rfl ?_
     refine Nexit rfl ?_
     exact metP () [] hF (by kernel_rfl)
 ·intro v hF
  have hF : file_may_J1 v = some r := hF
  unfold file_may_J1 at hF
  refine NR [] [4] [] [] [(4, .bool true)] .nil ?_
  cases hF
  exact Wk_ret (hfin _ ⟨[], [], [], [], [], [], by kernel_rfl⟩)

/- file.May -/
noncomputable def file_May (b : List UInt8) (row : List UInt8) : Option (Bool × Fault) :=
 ob (file_Open b) fun x =>
 if (!decide (x.2.Code = 0)) = true then
  some (false, x.2)
 else
  ob (file_open b) fun x1 =>
  asrt (x1.1 = true) <|
  ob (file_may x1.2.1.filter row) fun x2 =>
  some (x2, (⟨0, 0⟩ : Fault))
theorem file_May_ok (b : List UInt8) (row : List UInt8) (r : Bool × Fault) (hF : file_May b row = some r) : Pe Try.prog 53 S.none [.sl 1 (b.map e_u8), .str row] (.tup [.bool r.1, .agg (c_Fault r.2)]) S.none := by
 refine PeN 31 [.tmp 4, .cell 5 31] [4, 31] Ty.ok Fn.b53 Try.func53 ?_
 intro Q g hfin
 unfold file_May at hF
 refine VR [] [0, 1, 5] [5] [] [] [(5, .ptr 5 0)] [(5, [.i 0, .i 0])] [] [] .nil ?_
 obtain ⟨x, h0, hF⟩ := ob_elim hF
 refine VR [.callE [] [] [] [] (.tup [.row 12 0, .agg (c_Fault x.2)]) ⟨[], [], [(12, ⟨96, 5, 0, (x.1.map e_Cell).length, 0, true, 0, [], (x.1.map e_Cell)⟩)], [], []⟩] [0, 1, 5, 7] [5, 7] [] [] [(7, .ptr 7 0)] [(7, (c_Fault x.2))] [] [] (hc (Pe.ren (file_Open_ok b x h0) ⟨[], [(24, 12)], [], []⟩) .nil) ?_
 refine NR [] [0, 1, 5, 7, 17] [5, 7] [] [(17, .bool (!decide (x.2.Code = 0)))] .nil ?_
 refine Nif hF (fun hb hF => ?_) (fun hb hF => ?_)
 ·refine VD [] [4, 5] [5] [] [] [(4, .bool false)] [(5, (c_Fault x.2))] [] [] .nil ?_
  cases hF
  exact Wk_ret (hfin _ ⟨[], [], [], [], [], [], by kernel_rfl⟩)
 ·obtain ⟨x1, h1, hF⟩ := ob_elim hF
  refine NR [.call (.tup [.popt x1.1 (.rp (.agg (c_opened x1.2.1))), .agg (c_Fault x1.2.2)])] [1, 5, 8] [5] [] [(8, .popt x1.1 (.rp (.agg (c_opened x1.2.1))))] (hc (file_open_ok b x1 h1) .nil) ?_
  obtain ⟨h2, hF⟩ := asrt_elim hF
  refine Wk_coe 8 (.rp (.agg (c_opened x1.2.1))) rfl (.cell rfl (CoeS.unp h2)) ?_
  obtain ⟨x2, h3, hF⟩ := ob_elim hF
  refine NR [.callB (.bool x2)] [4, 5] [5] [] [(4, .bool x2)] (hc (file_may_ok x1.2.1.filter row x2 h3) .nil) ?_
  cases hF
  exact Wk_ret (hfin _ ⟨[], [], [], [], [], [], by kernel_rfl⟩)

/- slices.BinarySearchFunc[[]api.Cell,api.Cell,api.Cell] -/
noncomputable def slices_BinarySearchFunc_api_Cell_api_Cell_api_Cell_J1 (x : List Cell) (v : Cell × Int) : Option (Int × Bool) :=
 asrt ((decide (v.2 < (x.length : Int))) = true → 0 ≤ v.2 ∧ v.2 < (x.length : Int)) <|
 ob (if (decide (v.2 < (x.length : Int))) = true then (cell_Order (⟨(lget x v.2).Row, (lget x v.2).Col, (lget x v.2).Time, (lget x v.2).Gone, (lget x v.2).Value⟩ : Cell) v.1) else some default) fun x1 =>
 some (v.2, (decide (v.2 < (x.length : Int))) && (decide (x1 = 0)))
noncomputable def slices_BinarySearchFunc_api_Cell_api_Cell_api_Cell_B1 (x : List Cell) (v1 : Cell × Int × Int) : Option ((Cell × Int × Int) ⊕ (Int × Bool)) :=
 if (decide (v1.2.1 < v1.2.2)) = true then
  lt (w64 (Int.fdiv (IntKind.u64.wrap (w64 (v1.2.1 + v1.2.2))) (2 ^ (min (1 : Int).toNat 64)))) fun (v2 : Int) =>
  asrt (0 ≤ v2 ∧ v2 < (x.length : Int)) <|
  ob (cell_Order (⟨(lget x v2).Row, (lget x v2).Col, (lget x v2).Time, (lget x v2).Gone, (lget x v2).Value⟩ : Cell) v1.1) fun x2 =>
  if (decide (x2 < 0)) = true then
   some (Sum.inl (v1.1, w64 (v2 + 1), v1.2.2))
  else
   some (Sum.inl (v1.1, v1.2.1, v2))
 else
  inrO (slices_BinarySearchFunc_api_Cell_api_Cell_api_Cell_J1 x (v1.1, v1.2.1))
noncomputable def slices_BinarySearchFunc_api_Cell_api_Cell_api_Cell_L1 (x : List Cell) (v0 : Cell × Int × Int) : Option (Int × Bool) :=
 loopO (fun y => slices_BinarySearchFunc_api_Cell_api_Cell_api_Cell_B1 x y) v0
noncomputable def slices_BinarySearchFunc_api_Cell_api_Cell_api_Cell (x : List Cell) (target : Cell) : Option (Int × Bool) :=
 slices_BinarySearchFunc_api_Cell_api_Cell_api_Cell_L1 x (target, 0, (x.length : Int))
theorem slices_BinarySearchFunc_api_Cell_api_Cell_api_Cell_ok (x : List Cell) (target : Cell) (r : Int × Bool) (hF : slices_BinarySearchFunc_api_Cell_api_Cell_api_Cell x target = some r) : Pe Try.prog 119 S.none [.sl 5 (x.map e_Cell), .agg (c_Cell target), .fn 109 []] (.tup [.i r.1, .bool r.2]) S.none := by
 refine PeN 49 [.tmp 6, .tmp 7] [3, 4] Ty.ok Fn.b119 Try.func119 ?_
 intro Q g hfin
 unfold slices_BinarySearchFunc_api_Cell_api_Cell_api_Cell at hF
 refine VR [] [0, 2, 4] [4] [] [] [(4, .ptr 4 0)] [(4, (c_Cell target))] [] [] .nil ?_
 refine NR [.nat (x.length : Int)] [0, 2, 4, 8] [4] [] [(8, .i (x.length : Int))] (hc (len_ok e_Cell x) .nil) ?_
 refine NR [] [0, 2, 4, 8, 9, 10] [4] [] [(9, .i 0), (10, .i (x.length : Int))] .nil ?_
 refine NmeetP (fun v : Cell × Int => (⟨[(0, .sl 5 (x.map e_Cell)), (2, .fn 109 []), (4, .ptr 4 0), (8, .i (x.length : Int)), (9, .i v.2)], [(4, (c_Cell v.1))], [], [], []⟩ : S)) (fun v => slices_BinarySearchFunc_api_Cell_api_Cell_api_Cell_J1 x v = some r) ?_ ?_
 ·refine Nblk ?_
  unfold slices_BinarySearchFunc_api_Cell_api_Cell_api_Cell_L1 at hF
  refine Niter (fun v1 : Cell × Int × Int => (⟨[(0, .sl 5 (x.map e_Cell)), (2, .fn 109 []), (4, .ptr 4 0), (8, .i (x.length : Int)), (9, .i v1.2.1), (10, .i v1.2.2)], [(4, (c_Cell v1.1))], [], [], []⟩ : S)) [] hF (by kernel_rfl) ?_
  intro n1 v1 y1 hF ih1 dn1
  unfold slices_BinarySearchFunc_api_Cell_api_Cell_api_Cell_B1 at hF
  refine NR [] [0, 2, 4, 8, 9, 10, 17] [4] [] [(17, .bool (decide (v1.2.1 < v1.2.2)))] .nil ?_
  refine Nif hF (fun hb hF => ?_) (fun hb hF => ?_)
  ·refine Nblk ?_
   refine NRL (w64 (Int.fdiv (IntKind.u64.wrap (w64 (v1.2.1 + v1.2.2))) (2 ^ (min (1 : Int).toNat 64)))) (fun v2 : Int => ([(11, .i v2)], [], [], [])) [] [0, 2, 4, 8, 9, 10, 11] [4] [] [] (hc (by decide : (0 : Int) ≤ 1) .nil) (fun v2 hv => ?_)
   have hF := lt_elim hF hv
   obtain ⟨h2, hF⟩ := asrt_elim hF
   obtain ⟨x2, h3, hF⟩ := ob_elim hF
   refine ND [.av (e_Cell (lget x v2)), .callB (.i x2)] [0, 2, 4, 8, 9, 10, 11, 31] [4] [] [(31, .bool (decide (x2 < 0)))] (hc (idx_ok e_Cell h2) (hc (cell_Order_ok (⟨(lget x v2).Row, (lget x v2).Col, (lget x v2).Time, (lget x v2).Gone, (lget x v2).Value⟩ : Cell) v1.1 x2 h3) .nil)) ?_
   refine Nif hF (fun hb hF => ?_) (fun hb hF => ?_)
   ·refine NR [] [0, 2, 4, 8, 9, 10] [4] [] [(9, .i (w64 (v2 + 1)))] .nil ?_
    exact Nrnd [] hF ih1 (by kernel_rfl)
   ·refine NR [] [0, 2, 4, 8, 9, 10] [4] [] [(10, .i v2)] .nil ?_
    exact Nrnd [] hF ih1 (by kernel_rfl)
  ·refine Nexit rfl ?_
   have hF := inrO_done hF dn1
   exact metP (v1.1, v1.2.1) [] hF (by kernel_rfl)
 ·intro v hF
  have hF : slices_BinarySearchFunc_api_Cell_api_Cell_api_Cell_J1 x v = some r := hF
  unfold slices_BinarySearchFunc_api_Cell_api_Cell_api_Cell_J1 at hF
  obtain ⟨h0, hF⟩ := asrt_elim hF
  obtain ⟨x1, h1, hF⟩ := ob_elim hF
  refine ND [.av (e_Cell (lget x v.2)), .callB (.i x1)] [6, 7] [] [] [(6, .i v.2), (7, .bool ((decide (v.2 < (x.length : Int))) && (decide (x1 = 0))))] (hc (fun (ga0 : (decide (v.2 < (x.length : Int))) = true) => (idx_ok e_Cell (h0 ga0))) (hc (fun (ga0 : (decide (v.2 < (x.length : Int))) = true) => (cell_Order_ok (⟨(lget x v.2).Row, (lget x v.2).Col, (lget x v.2).Time, (lget x v.2).Gone, (lget x v.2).Value⟩ : Cell) v.1 x1 (ite_t h1 ga0))) .nil)) ?_
  cases hF
  exact Wk_ret (hfin _ ⟨[], [], [], [], [], [], by kernel_rfl⟩)

/- cell.Newest -/
noncomputable def cell_Newest (l : List Cell) (row : List UInt8) (col : List UInt8) (time : Int) : Option (Cell × Bool) :=
 ob (slices_BinarySearchFunc_api_Cell_api_Cell_api_Cell l (⟨row, col, time, false, ([] : List UInt8)⟩ : Cell)) fun x =>
 asrt ((decide (x.1 < (l.length : Int))) = true → 0 ≤ x.1 ∧ x.1 < (l.length : Int)) <|
 asrt (((decide (x.1 < (l.length : Int))) && (decide (((lget l x.1).Row) = row))) = true → 0 ≤ x.1 ∧ x.1 < (l.length : Int)) <|
 if (((decide (x.1 < (l.length : Int))) && (decide (((lget l x.1).Row) = row))) && (decide (((lget l x.1).Col) = col))) = true then
  asrt (0 ≤ x.1 ∧ x.1 < (l.length : Int)) <|
  some ((⟨(lget l x.1).Row, (lget l x.1).Col, (lget l x.1).Time, (lget l x.1).Gone, (lget l x.1).Value⟩ : Cell), true)
 else
  some ((⟨([] : List UInt8), ([] : List UInt8), 0, false, ([] : List UInt8)⟩ : Cell), false)
theorem cell_Newest_ok (l : List Cell) (row : List UInt8) (col : List UInt8) (time : Int) (r : Cell × Bool) (hF : cell_Newest l row col time = some r) : Pe Try.prog 101 S.none [.sl 5 (l.map e_Cell), .str row, .str col, .i time] (.tup [.agg (c_Cell r.1), .bool r.2]) S.none := by
 refine PeN 48 [.cell 8 96, .tmp 9] [96, 4] Ty.ok Fn.b101 Try.func101 ?_
 intro Q g hfin
 unfold cell_Newest at hF
 refine VR [] [0, 1, 2, 3, 8] [8] [] [] [(8, .ptr 8 0)] [(8, [.str [], .str [], .i 0, .bool false, .str []])] [] [] .nil ?_
 obtain ⟨x, h0, hF⟩ := ob_elim hF
 refine NR [.callB (.tup [.i x.1, .bool x.2])] [0, 1, 2, 8, 10] [8] [] [(10, .i x.1)] (hc (slices_BinarySearchFunc_api_Cell_api_Cell_api_Cell_ok l (⟨row, col, time, false, ([] : List UInt8)⟩ : Cell) x h0) .nil) ?_
 obtain ⟨h1, h2, hF⟩ := asrt2 hF
 refine NR [.nat (l.length : Int), .av (e_Cell (lget l x.1)), .av (e_Cell (lget l x.1))] [0, 8, 10, 42] [8] [] [(42, .bool (((decide (x.1 < (l.length : Int))) && (decide (((lget l x.1).Row) = row))) && (decide (((lget l x.1).Col) = col))))] (hc (len_ok e_Cell l) (hc (fun (ga0 : (decide (x.1 < (l.length : Int))) = true) => (idx_ok e_Cell (h1 ga0))) (hc (fun (ga0 : ((decide (x.1 < (l.length : Int))) && (decide (((lget l x.1).Row) = row))) = true) => (idx_ok e_Cell (h2 ga0))) .nil))) ?_
 refine Nif hF (fun hb hF => ?_) (fun hb hF => ?_)
 ·obtain ⟨h3, hF⟩ := asrt_elim hF
  refine VR [.av (e_Cell (lget l x.1))] [8, 9] [8] [] [] [(9, .bool true)] [(8, (c_Cell (lget l x.1)))] [] [] (hc (idx_ok e_Cell h3) .nil) ?_
  cases hF
  exact Wk_ret (hfin _ ⟨[], [], [], [], [], [], by kernel_rfl⟩)
 ·refine NR [] [8, 9] [8] [] [(9, .bool false)] .nil ?_
  cases hF
  exact Wk_ret (hfin _ ⟨[], [], [], [], [], [], by kernel_rfl⟩)

/- file.Find -/
noncomputable def file_Find_J1 (row : List UInt8) (col : List UInt8) (time : Int) (v : Fault × opened × Int × Int) : Option (List UInt8 × Bool × Int × Fault) :=
 ob (file_opened_cells v.2.1.bodies v.2.1.rows v.2.1.filter v.2.2.1 v.2.2.2) fun x4 =>
 ob (cell_Newest x4.1 row col time) fun x5 =>
 some (x5.1.Value, x5.2 && (!x5.1.Gone), w64 (v.2.2.2 - v.2.2.1), (⟨0, 0⟩ : Fault))
noncomputable def file_Find_B1 (row : List UInt8) (col : List UInt8) (time : Int) (v1 : Fault × opened × Int × Int × List (List UInt8) × Int × Int) : Option ((Fault × opened × Int × Int × List (List UInt8) × Int × Int) ⊕ (List UInt8 × Bool × Int × Fault)) :=
 if (decide (v1.2.2.2.2.2.2 < v1.2.2.2.2.2.1)) = true then
  asrt (0 ≤ v1.2.2.2.2.2.2 ∧ v1.2.2.2.2.2.2 < (v1.2.2.2.2.1.length : Int)) <|
  ob (
   if (Op.bytesLess (lget v1.2.2.2.2.1 v1.2.2.2.2.2.2) row) = true then
    some (v1.1, v1.2.1, v1.2.2.2.2.2.2)
   else
    some (v1.1, v1.2.1, v1.2.2.1)) fun (v2 : Fault × opened × Int) =>
  ob (
   if (!Op.bytesLess row (lget v1.2.2.2.2.1 v1.2.2.2.2.2.2)) = true then
    some (v2.1, v2.2.1, w64 (v1.2.2.2.2.2.2 + 1))
   else
    some (v2.1, v2.2.1, v1.2.2.2.1)) fun (v3 : Fault × opened × Int) =>
  some (Sum.inl (v3.1, v3.2.1, v2.2.2, v3.2.2, v1.2.2.2.2.1, v1.2.2.2.2.2.1, w64 (v1.2.2.2.2.2.2 + 1)))
 else
  inrO (file_Find_J1 row col time (v1.1, v1.2.1, v1.2.2.1, v1.2.2.2.1))
noncomputable def file_Find_L1 (row : List UInt8) (col : List UInt8) (time : Int) (v0 : Fault × opened × Int × Int × List (List UInt8) × Int × Int) : Option (List UInt8 × Bool × Int × Fault) :=
 loopO (fun y => file_Find_B1 row col time y) v0
noncomputable def file_Find (b : List UInt8) (row : List UInt8) (col : List UInt8) (time : Int) : Option (List UInt8 × Bool × Int × Fault) :=
 ob (file_Open b) fun x =>
 if (!decide (x.2.Code = 0)) = true then
  some (([] : List UInt8), false, 0, x.2)
 else
  if ((decide (time < 0)) || (decide (1000000000 < time))) = true then
   lt (file_fault 3 (-1)) fun x1 =>
   some (([] : List UInt8), false, 0, x1)
  else
   ob (file_open b) fun x2 =>
   asrt (x2.1 = true) <|
   ob (file_may x2.2.1.filter row) fun x3 =>
   if (!x3) = true then
    some (([] : List UInt8), false, 0, (⟨0, 0⟩ : Fault))
   else
    file_Find_L1 row col time ((⟨0, 0⟩ : Fault), x2.2.1, 0, 0, x2.2.1.rows, (x2.2.1.rows.length : Int), 0)
theorem file_Find_ok (b : List UInt8) (row : List UInt8) (col : List UInt8) (time : Int) (r : List UInt8 × Bool × Int × Fault) (hF : file_Find b row col time = some r) : Pe Try.prog 54 S.none [.sl 1 (b.map e_u8), .str row, .str col, .i time] (.tup [.str r.1, .bool r.2.1, .i r.2.2.1, .agg (c_Fault r.2.2.2)]) S.none := by
 refine PeN 100 [.tmp 8, .tmp 9, .tmp 10, .cell 11 31] [9, 4, 3, 31] Ty.ok Fn.b54 Try.func54 ?_
 intro Q g hfin
 unfold file_Find at hF
 refine VR [] [0, 1, 2, 3, 11] [11] [] [] [(11, .ptr 11 0)] [(11, [.i 0, .i 0])] [] [] .nil ?_
 obtain ⟨x, h0, hF⟩ := ob_elim hF
 refine VR [.callE [] [] [] [] (.tup [.row 26 0, .agg (c_Fault x.2)]) ⟨[], [], [(26, ⟨96, 5, 0, (x.1.map e_Cell).length, 0, true, 0, [], (x.1.map e_Cell)⟩)], [], []⟩] [0, 1, 2, 3, 11, 13] [11, 13] [] [] [(13, .ptr 13 0)] [(13, (c_Fault x.2))] [] [] (hc (Pe.ren (file_Open_ok b x h0) ⟨[], [(24, 26)], [], []⟩) .nil) ?_
 refine NR [] [0, 1, 2, 3, 11, 13, 31] [11, 13] [] [(31, .bool (!decide (x.2.Code = 0)))] .nil ?_
 refine Nif hF (fun hb hF => ?_) (fun hb hF => ?_)
 ·refine VD [] [8, 9, 10, 11] [11] [] [] [(8, .str ([] : List UInt8)), (9, .bool false), (10, .i 0)] [(11, (c_Fault x.2))] [] [] .nil ?_
  cases hF
  exact Wk_ret (hfin _ ⟨[], [], [], [], [], [], by kernel_rfl⟩)
 ·refine NR [] [0, 1, 2, 3, 11, 38] [11] [] [(38, .bool ((decide (time < 0)) || (decide (1000000000 < time))))] .nil ?_
  refine Nif hF (fun hb hF => ?_) (fun hb hF => ?_)
  ·obtain ⟨x1, h1, hF⟩ := lt_split hF
   refine VR [.callB (.agg (c_Fault x1))] [8, 9, 10, 11] [11] [] [] [(8, .str ([] : List UInt8)), (9, .bool false), (10, .i 0)] [(11, (c_Fault x1))] [] [] (hc (file_fault_ok 3 (-1) x1 h1) .nil) ?_
   cases hF
   exact Wk_ret (hfin _ ⟨[], [], [], [], [], [], by kernel_rfl⟩)
  ·obtain ⟨x2, h2, hF⟩ := ob_elim hF
   refine NR [.call (.tup [.popt x2.1 (.rp (.agg (c_opened x2.2.1))), .agg (c_Fault x2.2.2)])] [1, 2, 3, 11, 14] [11] [] [(14, .popt x2.1 (.rp (.agg (c_opened x2.2.1))))] (hc (file_open_ok b x2 h2) .nil) ?_
   obtain ⟨h3, hF⟩ := asrt_elim hF
   refine Wk_coe 14 (.rp (.agg (c_opened x2.2.1))) rfl (.cell rfl (CoeS.unp h3)) ?_
   obtain ⟨x3, h4, hF⟩ := ob_elim hF
   refine NR [.callB (.bool x3)] [1, 2, 3, 11, 14, 51] [11] [] [(51, .bool (!x3))] (hc (file_may_ok x2.2.1.filter row x3 h4) .nil) ?_
   refine Nif hF (fun hb hF => ?_) (fun hb hF => ?_)
   ·refine NR [] [8, 9, 10, 11] [11] [] [(8, .str ([] : List UInt8)), (9, .bool false), (10, .i 0)] .nil ?_
    cases hF
    exact Wk_ret (hfin _ ⟨[], [], [], [], [], [], by kernel_rfl⟩)
   ·refine NR [] [1, 2, 3, 11, 14, 16, 17] [11] [] [(16, .i 0), (17, .i 0)] .nil ?_
    refine NR [.nat (x2.2.1.rows.length : Int)] [1, 2, 3, 11, 14, 16, 17, 56, 57, 58] [11] [] [(56, .sl 1 (x2.2.1.rows.map e_str)), (57, .i (x2.2.1.rows.length : Int)), (58, .i 0)] (hc (len_ok e_str x2.2.1.rows) .nil) ?_
    refine NmeetP (fun v : Fault × opened × Int × Int => (⟨[(1, .str row), (2, .str col), (3, .i time), (11, .ptr 11 0), (14, .rp (.agg (c_opened v.2.1))), (16, .i v.2.2.1), (17, .i v.2.2.2)], [(11, (c_Fault v.1))], [], [], []⟩ : S)) (fun v => file_Find_J1 row col time v = some r) ?_ ?_
    ·refine Nblk ?_
     unfold file_Find_L1 at hF
     refine Niter (fun v1 : Fault × opened × Int × Int × List (List UInt8) × Int × Int => (⟨[(1, .str row), (2, .str col), (3, .i time), (11, .ptr 11 0), (14, .rp (.agg (c_opened v1.2.1))), (16, .i v1.2.2.1), (17, .i v1.2.2.2.1), (56, .sl 1 (v1.2.2.2.2.1.map e_str)), (57, .i v1.2.2.2.2.2.1), (58, .i v1.2.2.2.2.2.2)], [(11, (c_Fault v1.1))], [], [], []⟩ : S)) [] hF (by kernel_rfl) ?_
     intro n1 v1 y1 hF ih1 dn1
     unfold file_Find_B1 at hF
     refine NR [] [1, 2, 3, 11, 14, 16, 17, 56, 57, 58, 59] [11] [] [(59, .bool (decide (v1.2.2.2.2.2.2 < v1.2.2.2.2.2.1)))] .nil ?_
     refine Nif hF (fun hb hF => ?_) (fun hb hF => ?_)
     ·refine Nblk ?_
      obtain ⟨h7, hF⟩ := asrt_elim hF
      refine NR [.av (e_str (lget v1.2.2.2.2.1 v1.2.2.2.2.2.2))] [1, 2, 3, 11, 14, 16, 17, 18, 19, 56, 57, 58] [11] [] [(18, .i v1.2.2.2.2.2.2), (19, .str (lget v1.2.2.2.2.1 v1.2.2.2.2.2.2))] (hc (idx_ok e_str h7) .nil) ?_
      refine NR [] [1, 2, 3, 11, 14, 16, 17, 18, 19, 56, 57, 58, 65] [11] [] [(65, .bool (Op.bytesLess (lget v1.2.2.2.2.1 v1.2.2.2.2.2.2) row))] .nil ?_
      obtain ⟨v2, hv, hF⟩ := ob_elim hF
      refine Nmeet (⟨[(1, .str row), (2, .str col), (3, .i time), (11, .ptr 11 0), (14, .rp (.agg (c_opened v2.2.1))), (16, .i v2.2.2), (17, .i v1.2.2.2.1), (18, .i v1.2.2.2.2.2.2), (19, .str (lget v1.2.2.2.2.1 v1.2.2.2.2.2.2)), (56, .sl 1 (v1.2.2.2.2.1.map e_str)), (57, .i v1.2.2.2.2.2.1), (58, .i v1.2.2.2.2.2.2)], [(11, (c_Fault v2.1))], [], [], []⟩ : S) ?_ ?_
      ·have hF := hv
       refine Nif hF (fun hb hF => ?_) (fun hb hF => ?_)
       ·refine NR [] [1, 2, 3, 11, 14, 16, 17, 18, 19, 56, 57, 58] [11] [] [(16, .i v1.2.2.2.2.2.2)] .nil ?_
        cases hF
        exact met [] (by kernel_rfl)
       ·cases hF
        exact met [] (by kernel_rfl)
      ·refine NR [] [1, 2, 3, 11, 14, 16, 17, 18, 56, 57, 58, 69] [11] [] [(69, .bool (!Op.bytesLess row (lget v1.2.2.2.2.1 v1.2.2.2.2.2.2)))] .nil ?_
       obtain ⟨v3, hv, hF⟩ := ob_elim hF
       refine Nmeet (⟨[(1, .str row), (2, .str col), (3, .i time), (11, .ptr 11 0), (14, .rp (.agg (c_opened v3.2.1))), (16, .i v2.2.2), (17, .i v3.2.2), (56, .sl 1 (v1.2.2.2.2.1.map e_str)), (57, .i v1.2.2.2.2.2.1), (58, .i v1.2.2.2.2.2.2)], [(11, (c_Fault v3.1))], [], [], []⟩ : S) ?_ ?_
       ·have hF := hv
        refine Nif hF (fun hb hF => ?_) (fun hb hF => ?_)
        ·refine NR [] [1, 2, 3, 11, 14, 16, 17, 56, 57, 58] [11] [] [(17, .i (w64 (v1.2.2.2.2.2.2 + 1)))] .nil ?_
         cases hF
         exact met [] (by kernel_rfl)
        ·cases hF
         exact met [] (by kernel_rfl)
       ·refine NR [] [1, 2, 3, 11, 14, 16, 17, 56, 57, 58] [11] [] [(58, .i (w64 (v1.2.2.2.2.2.2 + 1)))] .nil ?_
        exact Nrnd [] hF ih1 (by kernel_rfl)
     ·refine Nexit rfl ?_
      have hF := inrO_done hF dn1
      exact metP (v1.1, v1.2.1, v1.2.2.1, v1.2.2.2.1) [] hF (by kernel_rfl)
    ·intro v hF
     have hF : file_Find_J1 row col time v = some r := hF
     unfold file_Find_J1 at hF
     obtain ⟨x4, h5, hF⟩ := ob_elim hF
     refine VR [.callE [] [] [] [] (.tup [.row 77 0, .bool x4.2]) ⟨[], [], [(77, .z 96 5 0 (x4.1.map e_Cell))], [], []⟩] [1, 2, 3, 11, 16, 17, 20] [11] [77] [] [(20, .row 77 0)] [] [(77, .z 96 5 0 (x4.1.map e_Cell))] [] (hc (Pe.ren (file_opened_cells_ok v.2.1.bodies v.2.1.rows v.2.1.filter v.2.2.1 v.2.2.2 x4 h5) ⟨[], [(53, 77)], [], []⟩) .nil) ?_
     obtain ⟨x5, h6, hF⟩ := ob_elim hF
     refine VR [.callB (.tup [.agg (c_Cell x5.1), .bool x5.2])] [11, 16, 17, 22, 23] [11, 22] [] [] [(22, .ptr 22 0), (23, .bool x5.2)] [(22, (c_Cell x5.1))] [] [] (hc (cell_Newest_ok x4.1 row col time x5 h6) .nil) ?_
     refine VD [] [8, 9, 10, 11] [11] [] [] [(8, .str x5.1.Value), (9, .bool (x5.2 && (!x5.1.Gone))), (10, .i (w64 (v.2.2.2 - v.2.2.1)))] [(11, [.i 0, .i 0])] [] [] .nil ?_
     cases hF
     exact Wk_ret (hfin _ ⟨[], [], [], [], [], [], by kernel_rfl⟩)

/- tabularyref.Number -/
noncomputable def R_Number_v1 (num : Int) : Option (List UInt8) :=
 if (decide (num < 128)) = true then
  some ([toU8 num] : List UInt8)
 else
  ob (R_Number (w64 (Int.tdiv num 128))) fun x =>
  asrt (((([toU8 (w64 ((Int.tmod num 128) + 128))] : List UInt8) ++ x).length : Int) * 1 ≤ 140737488351232) <|
  some (([toU8 (w64 ((Int.tmod num 128) + 128))] : List UInt8) ++ x)

/- tabularyref.NumberAt -/
noncomputable def R_NumberAt_J1 (v : Unit) : Option (Int × Int) :=
 some (0, 0)
noncomputable def R_NumberAt_J2 (b : List UInt8) (v1 : Int) (v2 : Int) : Option (Int ⊕ (Int × Int)) :=
 ob (if (decide (v2 ≤ 1000000000)) = true then (R_Number_v1 v2) else some default) fun x =>
 asrt ((decide (v2 ≤ 1000000000)) = true → 0 ≤ v1 ∧ v1 ≤ (b.length : Int)) <|
 lt (R_Same x (ltake b v1)) fun x1 =>
 if ((decide (v2 ≤ 1000000000)) && x1) = true then
  some (Sum.inr (v2, v1))
 else
  some (Sum.inl (w64 (v1 + 1)))
noncomputable def R_NumberAt_B2 (b : List UInt8) (v1 : Int) (v3 : Int × Int) : Option ((Int × Int) ⊕ (Int ⊕ (Int × Int))) :=
 if (decide (0 ≤ v3.2)) = true then
  asrt (0 ≤ v3.2 ∧ v3.2 < (b.length : Int)) <|
  lt (w64 ((w64 (v3.1 * 128)) + (Int.tmod (w64 ((lget b v3.2).toNat : Int)) 128))) fun (v4 : Int) =>
  some (Sum.inl (v4, w64 (v3.2 - 1)))
 else
  inrO (R_NumberAt_J2 b v1 v3.1)
noncomputable def R_NumberAt_L2 (b : List UInt8) (v1 : Int) (v0 : Int × Int) : Option (Int ⊕ (Int × Int)) :=
 loopO (fun y => R_NumberAt_B2 b v1 y) v0
noncomputable def R_NumberAt_B1 (b : List UInt8) (v1 : Int) : Option (Int ⊕ (Int × Int)) :=
 if ((decide (v1 ≤ 5)) && (decide (v1 ≤ (b.length : Int)))) = true then
  R_NumberAt_L2 b v1 (0, w64 (v1 - 1))
 else
  inrO (R_NumberAt_J1 ())
noncomputable def R_NumberAt_L1 (b : List UInt8) (v0 : Int) : Option (Int × Int) :=
 loopO (fun y => R_NumberAt_B1 b y) v0
noncomputable def R_NumberAt (b : List UInt8) : Option (Int × Int) :=
 R_NumberAt_L1 b 1

/- tabularyref.CellAt -/
noncomputable def R_CellAt_J1 (v : Cell × List (List UInt8) × List Int × Int) : Option (Cell × Int) :=
 asrt (0 ≤ (0 : Int) ∧ 0 < (v.2.1.length : Int)) <|
 asrt (0 ≤ (0 : Int) ∧ 0 < (v.2.1.length : Int)) <|
 asrt (0 ≤ (1 : Int) ∧ 1 < (v.2.1.length : Int)) <|
 asrt (0 ≤ (1 : Int) ∧ 1 < (v.2.1.length : Int)) <|
 asrt (0 ≤ (0 : Int) ∧ 0 < (v.2.2.1.length : Int)) <|
 asrt (0 ≤ (0 : Int) ∧ 0 < (v.2.2.1.length : Int)) <|
 asrt (0 ≤ (1 : Int) ∧ 1 < (v.2.2.1.length : Int)) <|
 asrt (0 ≤ (1 : Int) ∧ 1 < (v.2.2.1.length : Int)) <|
 asrt (0 ≤ (2 : Int) ∧ 2 < (v.2.1.length : Int)) <|
 asrt (0 ≤ (2 : Int) ∧ 2 < (v.2.1.length : Int)) <|
 asrt (0 ≤ (1 : Int) ∧ 1 < (v.2.2.1.length : Int)) <|
 asrt (0 ≤ (1 : Int) ∧ 1 < (v.2.2.1.length : Int)) <|
 lt (R_CellCode (⟨(lget v.2.1 0), (lget v.2.1 1), (lget v.2.2.1 0), decide ((lget v.2.2.1 1) = 1), (lget v.2.1 2)⟩ : Cell)) fun x =>
 if ((decide (1 < (lget v.2.2.1 1))) || (!decide (x = 0))) = true then
  some ((⟨([] : List UInt8), ([] : List UInt8), 0, false, ([] : List UInt8)⟩ : Cell), 0)
 else
  some ((⟨(lget v.2.1 0), (lget v.2.1 1), (lget v.2.2.1 0), decide ((lget v.2.2.1 1) = 1), (lget v.2.1 2)⟩ : Cell), v.2.2.2)
noncomputable def R_CellAt_J2 (v1 : Cell × List (List UInt8) × List Int × Int × Int) (v2 : Cell × List (List UInt8) × List Int × Int) : Option ((Cell × List (List UInt8) × List Int × Int × Int) ⊕ (Cell × Int)) :=
 some (Sum.inl (v2.1, v2.2.1, v2.2.2.1, v2.2.2.2, w64 (v1.2.2.2.2 + 1)))
noncomputable def R_CellAt_B1 (b : List UInt8) (v1 : Cell × List (List UInt8) × List Int × Int × Int) : Option ((Cell × List (List UInt8) × List Int × Int × Int) ⊕ (Cell × Int)) :=
 if (decide (v1.2.2.2.2 < 5)) = true then
  asrt (0 ≤ v1.2.2.2.1 ∧ v1.2.2.2.1 ≤ (b.length : Int)) <|
  ob (R_NumberAt (ldrop b v1.2.2.2.1)) fun x1 =>
  if (decide (x1.2 = 0)) = true then
   some (Sum.inr ((⟨([] : List UInt8), ([] : List UInt8), 0, false, ([] : List UInt8)⟩ : Cell), 0))
  else
   if ((decide (v1.2.2.2.2 = 2)) || (decide (v1.2.2.2.2 = 3))) = true then
    asrt (((v1.2.2.1 ++ ([x1.1] : List Int)).length : Int) * 8 ≤ 140737488351232) <|
    R_CellAt_J2 v1 (v1.1, v1.2.1, (v1.2.2.1 ++ ([x1.1] : List Int)), w64 (v1.2.2.2.1 + x1.2))
   else
    if (decide ((w64 ((b.length : Int) - (w64 (v1.2.2.2.1 + x1.2)))) < x1.1)) = true then
     some (Sum.inr ((⟨([] : List UInt8), ([] : List UInt8), 0, false, ([] : List UInt8)⟩ : Cell), 0))
    else
     asrt (0 ≤ w64 (v1.2.2.2.1 + x1.2) ∧ w64 (v1.2.2.2.1 + x1.2) ≤ w64 ((w64 (v1.2.2.2.1 + x1.2)) + x1.1) ∧ w64 ((w64 (v1.2.2.2.1 + x1.2)) + x1.1) ≤ (b.length : Int)) <|
     asrt (((v1.2.1 ++ ([(ldrop (ltake b (w64 ((w64 (v1.2.2.2.1 + x1.2)) + x1.1))) (w64 (v1.2.2.2.1 + x1.2)))] : List (List UInt8))).length : Int) * 16 ≤ 140737488351232) <|
     lt ((v1.2.1 ++ ([(ldrop (ltake b (w64 ((w64 (v1.2.2.2.1 + x1.2)) + x1.1))) (w64 (v1.2.2.2.1 + x1.2)))] : List (List UInt8)))) fun (v3 : List (List UInt8)) =>
     R_CellAt_J2 v1 (v1.1, v3, v1.2.2.1, w64 ((w64 (v1.2.2.2.1 + x1.2)) + x1.1))
 else
  inrO (R_CellAt_J1 (v1.1, v1.2.1, v1.2.2.1, v1.2.2.2.1))
noncomputable def R_CellAt_L1 (b : List UInt8) (v0 : Cell × List (List UInt8) × List Int × Int × Int) : Option (Cell × Int) :=
 loopO (fun y => R_CellAt_B1 b y) v0
noncomputable def R_CellAt (b : List UInt8) : Option (Cell × Int) :=
 R_CellAt_L1 b ((⟨([] : List UInt8), ([] : List UInt8), 0, false, ([] : List UInt8)⟩ : Cell), ([] : List (List UInt8)), ([] : List Int), 0, 0)

/- tabularyref.CellsOf -/
noncomputable def R_CellsOf_J1 (v : Fault × List Cell) : Option (List Cell × Fault) :=
 ob (R_CellsFault v.2) fun x1 =>
 if (!decide (x1.Code = 0)) = true then
  some (([] : List Cell), x1)
 else
  some (v.2, (⟨0, 0⟩ : Fault))
noncomputable def R_CellsOf_B1 (v1 : List UInt8 × Fault × List Cell) : Option ((List UInt8 × Fault × List Cell) ⊕ (List Cell × Fault)) :=
 if (decide (0 < (v1.1.length : Int))) = true then
  ob (R_CellAt v1.1) fun x2 =>
  if (decide (x2.2 = 0)) = true then
   lt (R_F 5 (v1.2.2.length : Int)) fun x3 =>
   some (Sum.inr (([] : List Cell), x3))
  else
   asrt (((v1.2.2 ++ [x2.1]).length : Int) * 64 ≤ 140737488351232) <|
   asrt (0 ≤ x2.2 ∧ x2.2 ≤ (v1.1.length : Int)) <|
   some (Sum.inl ((ldrop v1.1 x2.2), v1.2.1, (v1.2.2 ++ [x2.1])))
 else
  inrO (R_CellsOf_J1 (v1.2.1, v1.2.2))
noncomputable def R_CellsOf_L1 (v0 : List UInt8 × Fault × List Cell) : Option (List Cell × Fault) :=
 loopO (fun y => R_CellsOf_B1 y) v0
noncomputable def R_CellsOf (b : List UInt8) : Option (List Cell × Fault) :=
 if (decide (60000 < (b.length : Int))) = true then
  lt (R_F 8 0) fun x =>
  some (([] : List Cell), x)
 else
  R_CellsOf_L1 (b, (⟨0, 0⟩ : Fault), ([] : List Cell))

/- tabularyref.OpenedFile -/
noncomputable def R_OpenedFile_v1_J2 (x1 : List (List UInt8) × Int) (v1 : Fault × List Cell × List Int) : Option (List Cell × List Int × Fault) :=
 ob (R_CellsFault v1.2.1) fun x4 =>
 if ((!decide (x4.Code = 0)) || (decide (500 < (v1.2.1.length : Int)))) = true then
  lt (R_F 5 2) fun x5 =>
  some (([] : List Cell), ([] : List Int), x5)
 else
  ob (R_FilterOf v1.2.1) fun x6 =>
  asrt (0 ≤ w64 ((w64 ((x1.1.length : Int) - 2)) + 1) ∧ w64 ((w64 ((x1.1.length : Int) - 2)) + 1) < (x1.1.length : Int)) <|
  asrt (0 ≤ w64 ((w64 ((x1.1.length : Int) - 2)) + 1) ∧ w64 ((w64 ((x1.1.length : Int) - 2)) + 1) < (x1.1.length : Int)) <|
  lt (R_Same x6 (lget x1.1 (w64 ((w64 ((x1.1.length : Int) - 2)) + 1)))) fun x7 =>
  if (!x7) = true then
   lt (R_F 5 3) fun x8 =>
   some (([] : List Cell), ([] : List Int), x8)
  else
   some (v1.2.1, v1.2.2, (⟨0, 0⟩ : Fault))
noncomputable def R_OpenedFile_v1_B1 (x1 : List (List UInt8) × Int) (v : Fault × List UInt8 × List (List UInt8)) (v2 : Fault × List Cell × List Int × Int) : Option ((Fault × List Cell × List Int × Int) ⊕ (List Cell × List Int × Fault)) :=
 if (decide (v2.2.2.2 < (w64 ((x1.1.length : Int) - 2)))) = true then
  asrt (0 ≤ v2.2.2.2 ∧ v2.2.2.2 < (x1.1.length : Int)) <|
  asrt (0 ≤ v2.2.2.2 ∧ v2.2.2.2 < (x1.1.length : Int)) <|
  ob (R_CellsOf (lget x1.1 v2.2.2.2)) fun x9 =>
  asrt ((!((!decide (x9.2.Code = 0)) || (decide ((x9.1.length : Int) = 0)))) = true → 0 ≤ (0 : Int) ∧ 0 < (x9.1.length : Int)) <|
  asrt ((!((!decide (x9.2.Code = 0)) || (decide ((x9.1.length : Int) = 0)))) = true → 0 ≤ (0 : Int) ∧ 0 < (x9.1.length : Int)) <|
  asrt ((!((!decide (x9.2.Code = 0)) || (decide ((x9.1.length : Int) = 0)))) = true → 0 ≤ v2.2.2.2 ∧ v2.2.2.2 < (v.2.2.length : Int)) <|
  asrt ((!((!decide (x9.2.Code = 0)) || (decide ((x9.1.length : Int) = 0)))) = true → 0 ≤ v2.2.2.2 ∧ v2.2.2.2 < (v.2.2.length : Int)) <|
  if (((!decide (x9.2.Code = 0)) || (decide ((x9.1.length : Int) = 0))) || (!decide (((lget x9.1 0).Row) = (lget v.2.2 v2.2.2.2)))) = true then
   lt (R_F 5 2) fun x10 =>
   some (Sum.inr (([] : List Cell), ([] : List Int), x10))
  else
   asrt (((v2.2.1 ++ x9.1).length : Int) * 64 ≤ 140737488351232) <|
   asrt (((v2.2.2.1 ++ ([(x9.1.length : Int)] : List Int)).length : Int) * 8 ≤ 140737488351232) <|
   some (Sum.inl (v2.1, (v2.2.1 ++ x9.1), (v2.2.2.1 ++ ([(x9.1.length : Int)] : List Int)), w64 (v2.2.2.2 + 1)))
 else
  inrO (R_OpenedFile_v1_J2 x1 (v2.1, v2.2.1, v2.2.2.1))
noncomputable def R_OpenedFile_v1_L1 (x1 : List (List UInt8) × Int) (v : Fault × List UInt8 × List (List UInt8)) (v0 : Fault × List Cell × List Int × Int) : Option (List Cell × List Int × Fault) :=
 loopO (fun y => R_OpenedFile_v1_B1 x1 v y) v0
noncomputable def R_OpenedFile_v1_J1 (x1 : List (List UInt8) × Int) (v : Fault × List UInt8 × List (List UInt8)) : Option (List Cell × List Int × Fault) :=
 if (decide (0 < (v.2.1.length : Int))) = true then
  lt (R_F 5 1) fun x3 =>
  some (([] : List Cell), ([] : List Int), x3)
 else
  R_OpenedFile_v1_L1 x1 v (v.1, ([] : List Cell), ([] : List Int), 0)
noncomputable def R_OpenedFile_v1_B2 (x1 : List (List UInt8) × Int) (v3 : Fault × List UInt8 × List (List UInt8) × Int) : Option ((Fault × List UInt8 × List (List UInt8) × Int) ⊕ (List Cell × List Int × Fault)) :=
 if (decide (v3.2.2.2 < (w64 ((x1.1.length : Int) - 2)))) = true then
  ob (R_NumberAt v3.2.1) fun x11 =>
  if ((decide (x11.2 = 0)) || (decide ((w64 ((v3.2.1.length : Int) - x11.2)) < x11.1))) = true then
   lt (R_F 5 1) fun x12 =>
   some (Sum.inr (([] : List Cell), ([] : List Int), x12))
  else
   asrt (0 ≤ x11.2 ∧ x11.2 ≤ w64 (x11.2 + x11.1) ∧ w64 (x11.2 + x11.1) ≤ (v3.2.1.length : Int)) <|
   asrt (((v3.2.2.1 ++ ([(ldrop (ltake v3.2.1 (w64 (x11.2 + x11.1))) x11.2)] : List (List UInt8))).length : Int) * 16 ≤ 140737488351232) <|
   lt ((v3.2.2.1 ++ ([(ldrop (ltake v3.2.1 (w64 (x11.2 + x11.1))) x11.2)] : List (List UInt8)))) fun (v4 : List (List UInt8)) =>
   asrt (0 ≤ w64 (x11.2 + x11.1) ∧ w64 (x11.2 + x11.1) ≤ (v3.2.1.length : Int)) <|
   ob (R_NumberAt (ldrop v3.2.1 (w64 (x11.2 + x11.1)))) fun x13 =>
   asrt ((!(decide (x13.2 = 0))) = true → 0 ≤ v3.2.2.2 ∧ v3.2.2.2 < (x1.1.length : Int)) <|
   asrt ((!(decide (x13.2 = 0))) = true → 0 ≤ v3.2.2.2 ∧ v3.2.2.2 < (x1.1.length : Int)) <|
   if ((decide (x13.2 = 0)) || (!decide (x13.1 = ((lget x1.1 v3.2.2.2).length : Int)))) = true then
    lt (R_F 5 1) fun x14 =>
    some (Sum.inr (([] : List Cell), ([] : List Int), x14))
   else
    asrt (0 ≤ x13.2 ∧ x13.2 ≤ ((ldrop v3.2.1 (w64 (x11.2 + x11.1))).length : Int)) <|
    some (Sum.inl (v3.1, (ldrop (ldrop v3.2.1 (w64 (x11.2 + x11.1))) x13.2), v4, w64 (v3.2.2.2 + 1)))
 else
  inrO (R_OpenedFile_v1_J1 x1 (v3.1, v3.2.1, v3.2.2.1))
noncomputable def R_OpenedFile_v1_L2 (x1 : List (List UInt8) × Int) (v0 : Fault × List UInt8 × List (List UInt8) × Int) : Option (List Cell × List Int × Fault) :=
 loopO (fun y => R_OpenedFile_v1_B2 x1 y) v0
noncomputable def R_OpenedFile_v1 (b : List UInt8) : Option (List Cell × List Int × Fault) :=
 if (decide (60000 < (b.length : Int))) = true then
  lt (R_F 8 0) fun x =>
  some (([] : List Cell), ([] : List Int), x)
 else
  ob (R_Unframed b) fun x1 =>
  asrt ((!((!decide (x1.2 = (b.length : Int))) || (decide ((w64 ((x1.1.length : Int) - 2)) < 0)))) = true → 0 ≤ w64 ((w64 ((x1.1.length : Int) - 2)) + 1) ∧ w64 ((w64 ((x1.1.length : Int) - 2)) + 1) < (x1.1.length : Int)) <|
  asrt ((!((!decide (x1.2 = (b.length : Int))) || (decide ((w64 ((x1.1.length : Int) - 2)) < 0)))) = true → 0 ≤ w64 ((w64 ((x1.1.length : Int) - 2)) + 1) ∧ w64 ((w64 ((x1.1.length : Int) - 2)) + 1) < (x1.1.length : Int)) <|
  if (((!decide (x1.2 = (b.length : Int))) || (decide ((w64 ((x1.1.length : Int) - 2)) < 0))) || (decide (((lget x1.1 (w64 ((w64 ((x1.1.length : Int) - 2)) + 1))).length : Int) = 0))) = true then
   lt (R_F 5 0) fun x2 =>
   some (([] : List Cell), ([] : List Int), x2)
  else
   asrt (0 ≤ w64 ((x1.1.length : Int) - 2) ∧ w64 ((x1.1.length : Int) - 2) < (x1.1.length : Int)) <|
   asrt (0 ≤ w64 ((x1.1.length : Int) - 2) ∧ w64 ((x1.1.length : Int) - 2) < (x1.1.length : Int)) <|
   R_OpenedFile_v1_L2 x1 ((⟨0, 0⟩ : Fault), (lget x1.1 (w64 ((x1.1.length : Int) - 2))), ([] : List (List UInt8)), 0)

/- tabularylaw.FileOpens$1 -/
noncomputable def law_FileOpens_1 (box : List Cell) : List Cell :=
 box

/- tabularylaw.cellsAs -/
noncomputable def law_cellsAs (l : List Cell) (f : Fault) (w0 : Fault) (box : List Cell) : Option Bool :=
 if (!(decide (f.Code = w0.Code) && (decide (f.At = w0.At) && true))) = true then
  some false
 else
  if (!decide (w0.Code = 0)) = true then
   some (decide ((l.length : Int) = 0))
  else
   lt (law_FileOpens_1 box) fun x =>
   ob (R_SameCells l x) fun x1 =>
   some x1

/- tabularyref.MayBe -/
noncomputable def R_MayBe_J1 (v : Unit) : Option Bool :=
 some true
noncomputable def R_MayBe_B1 (x : List UInt8) (x1 : List Int) (v1 : Int) : Option (Int ⊕ Bool) :=
 if (decide (v1 < (x1.length : Int))) = true then
  asrt (0 ≤ v1 ∧ v1 < (x1.length : Int)) <|
  asrt (0 ≤ w64 (Int.tdiv (lget x1 v1) 8) ∧ w64 (Int.tdiv (lget x1 v1) 8) < (x.length : Int)) <|
  asrt (0 ≤ w64 (Int.tdiv (lget x1 v1) 8) ∧ w64 (Int.tdiv (lget x1 v1) 8) < (x.length : Int)) <|
  asrt (0 ≤ v1 ∧ v1 < (x1.length : Int)) <|
  asrt (0 ≤ (Int.tmod (lget x1 v1) 8)) <|
  asrt (((2 : UInt8).toNat : Int) ≠ 0) <|
  if (decide (((toU8 (Int.tmod ((toU8 (Int.fdiv ((lget x (w64 (Int.tdiv (lget x1 v1) 8))).toNat : Int) (2 ^ (min (Int.tmod (lget x1 v1) 8).toNat 8)))).toNat : Int) ((2 : UInt8).toNat : Int))).toNat : Int) = ((0 : UInt8).toNat : Int))) = true then
   some (Sum.inr false)
  else
   some (Sum.inl (w64 (v1 + 1)))
 else
  inrO (R_MayBe_J1 ())
noncomputable def R_MayBe_L1 (x : List UInt8) (x1 : List Int) (v0 : Int) : Option Bool :=
 loopO (fun y => R_MayBe_B1 x x1 y) v0
noncomputable def R_MayBe (l : List Cell) (row : List UInt8) : Option Bool :=
 ob (R_FilterOf l) fun x =>
 ob (R_Bits row (w64 (8 * (x.length : Int)))) fun x1 =>
 R_MayBe_L1 x x1 0

/- tabularyref.BlocksFor -/
noncomputable def R_BlocksFor_J1 (v : Int × Int) : Option Int :=
 some (w64 (v.2 - v.1))
noncomputable def R_BlocksFor_B1 (l : List Cell) (each : List Int) (row : List UInt8) (v1 : Int × Int × Int × Int) : Option ((Int × Int × Int × Int) ⊕ Int) :=
 if (decide (v1.2.2.2 < (each.length : Int))) = true then
  asrt (0 ≤ v1.2.2.1 ∧ v1.2.2.1 < (l.length : Int)) <|
  ob (
   if (Op.bytesLess ((lget l v1.2.2.1).Row) row) = true then
    some v1.2.2.2
   else
    some v1.1) fun (v2 : Int) =>
  asrt (0 ≤ v1.2.2.1 ∧ v1.2.2.1 < (l.length : Int)) <|
  ob (
   if (!Op.bytesLess row ((lget l v1.2.2.1).Row)) = true then
    some (w64 (v1.2.2.2 + 1))
   else
    some v1.2.1) fun (v3 : Int) =>
  asrt (0 ≤ v1.2.2.2 ∧ v1.2.2.2 < (each.length : Int)) <|
  some (Sum.inl (v2, v3, w64 (v1.2.2.1 + (lget each v1.2.2.2)), w64 (v1.2.2.2 + 1)))
 else
  inrO (R_BlocksFor_J1 (v1.1, v1.2.1))
noncomputable def R_BlocksFor_L1 (l : List Cell) (each : List Int) (row : List UInt8) (v0 : Int × Int × Int × Int) : Option Int :=
 loopO (fun y => R_BlocksFor_B1 l each row y) v0
noncomputable def R_BlocksFor (l : List Cell) (each : List Int) (row : List UInt8) : Option Int :=
 R_BlocksFor_L1 l each row (0, 0, 0, 0)

/- tabularyref.SeenCell -/
noncomputable def R_SeenCell_J1 (l : List Cell) (v : Cell × Int) : Option (Cell × Bool) :=
 asrt ((!(decide (v.2 < 0))) = true → 0 ≤ v.2 ∧ v.2 < (l.length : Int)) <|
 if ((decide (v.2 < 0)) || ((lget l v.2).Gone)) = true then
  some ((⟨([] : List UInt8), ([] : List UInt8), 0, false, ([] : List UInt8)⟩ : Cell), false)
 else
  asrt (0 ≤ v.2 ∧ v.2 < (l.length : Int)) <|
  some ((⟨(lget l v.2).Row, (lget l v.2).Col, (lget l v.2).Time, (lget l v.2).Gone, (lget l v.2).Value⟩ : Cell), true)
noncomputable def R_SeenCell_B1 (l : List Cell) (row : List UInt8) (col : List UInt8) (time : Int) (v1 : Cell × Int × Int) : Option ((Cell × Int × Int) ⊕ (Cell × Bool)) :=
 if (decide (v1.2.2 < (l.length : Int))) = true then
  asrt (0 ≤ v1.2.2 ∧ v1.2.2 < (l.length : Int)) <|
  asrt ((decide (((lget l v1.2.2).Row) = row)) = true → 0 ≤ v1.2.2 ∧ v1.2.2 < (l.length : Int)) <|
  asrt (((decide (((lget l v1.2.2).Row) = row)) && (decide (((lget l v1.2.2).Col) = col))) = true → 0 ≤ v1.2.2 ∧ v1.2.2 < (l.length : Int)) <|
  asrt ((!(decide (v1.2.1 < 0))) = true → (((decide (((lget l v1.2.2).Row) = row)) && (decide (((lget l v1.2.2).Col) = col))) && (decide (((lget l v1.2.2).Time) ≤ time))) = true → 0 ≤ v1.2.2 ∧ v1.2.2 < (l.length : Int)) <|
  asrt ((!(decide (v1.2.1 < 0))) = true → (((decide (((lget l v1.2.2).Row) = row)) && (decide (((lget l v1.2.2).Col) = col))) && (decide (((lget l v1.2.2).Time) ≤ time))) = true → 0 ≤ v1.2.1 ∧ v1.2.1 < (l.length : Int)) <|
  ob (
   if ((((decide (((lget l v1.2.2).Row) = row)) && (decide (((lget l v1.2.2).Col) = col))) && (decide (((lget l v1.2.2).Time) ≤ time))) && ((decide (v1.2.1 < 0)) || (decide (((lget l v1.2.1).Time) < ((lget l v1.2.2).Time))))) = true then
    some (v1.1, v1.2.2)
   else
    some (v1.1, v1.2.1)) fun (v2 : Cell × Int) =>
  some (Sum.inl (v2.1, v2.2, w64 (v1.2.2 + 1)))
 else
  inrO (R_SeenCell_J1 l (v1.1, v1.2.1))
noncomputable def R_SeenCell_L1 (l : List Cell) (row : List UInt8) (col : List UInt8) (time : Int) (v0 : Cell × Int × Int) : Option (Cell × Bool) :=
 loopO (fun y => R_SeenCell_B1 l row col time y) v0
noncomputable def R_SeenCell (l : List Cell) (row : List UInt8) (col : List UInt8) (time : Int) : Option (Cell × Bool) :=
 R_SeenCell_L1 l row col time ((⟨([] : List UInt8), ([] : List UInt8), 0, false, ([] : List UInt8)⟩ : Cell), (-1), 0)

/- tabularylaw.FileOpens -/
noncomputable def law_FileOpens (b : List UInt8) (row : List UInt8) (col : List UInt8) (time : Int) : Option Bool :=
 ob (law_fileBegun) fun x =>
 if (!x) = true then
  some false
 else
  if (decide (100000 < (b.length : Int))) = true then
   some true
  else
   ob (law_ownBytes_v1 b) fun x1 =>
   ob (file_Open_v1 x1) fun x2 =>
   ob (file_May x1 row) fun x3 =>
   ob (file_Find x1 row col time) fun x4 =>
   ob (R_OpenedFile_v1 b) fun x5 =>
   ob (law_cellsAs x2.1 x2.2 x5.2.2 x5.1) fun x6 =>
   lt (R_Same x1 b) fun x7 =>
   if (((!x6) || (!(decide (x3.2.Code = x5.2.2.Code) && (decide (x3.2.At = x5.2.2.At) && true)))) || (!x7)) = true then
    some false
   else
    ob (if (decide (x5.2.2.Code = 0)) = true then (R_MayBe x5.1 row) else some default) fun x8 =>
    if (!(x3.1 == ((decide (x5.2.2.Code = 0)) && x8))) = true then
     some false
    else
     ob (
      if ((decide (x5.2.2.Code = 0)) && ((decide (time < 0)) || (decide (1000000000 < time)))) = true then
       lt (R_F 3 (-1)) fun x9 =>
       some (x4.2.2.2, x9)
      else
       some (x4.2.2.2, x5.2.2)) fun (v : Fault × Fault) =>
     if (!(decide (v.1.Code = v.2.Code) && (decide (v.1.At = v.2.At) && true))) = true then
      some false
     else
      if (!decide (v.2.Code = 0)) = true then
       lt (((decide (x4.1 = ([] : List UInt8))) && (!x4.2.1)) && (decide (x4.2.2.1 = 0))) fun (v1 : Bool) =>
       some v1
      else
       ob (R_MayBe x5.1 row) fun x10 =>
       ob (
        if x10 = true then
         ob (R_BlocksFor x5.1 x5.2.1 row) fun x11 =>
         some x11
        else
         some 0) fun (v2 : Int) =>
       ob (R_SeenCell x5.1 row col time) fun x12 =>
       lt (((x4.2.1 == x12.2) && (decide (x4.1 = x12.1.Value))) && (decide (x4.2.2.1 = v2))) fun (v3 : Bool) =>
       some v3

/- cell.Get -/
noncomputable def cell_Get (l : List Cell) (row : List UInt8) (col : List UInt8) (time : Int) : Option (List UInt8 × Bool × Fault) :=
 ob (cell_Check l) fun x =>
 if (!decide (x.Code = 0)) = true then
  some (([] : List UInt8), false, x)
 else
  if ((decide (time < 0)) || (decide (1000000000 < time))) = true then
   lt (cell_fault 3 (-1)) fun x1 =>
   some (([] : List UInt8), false, x1)
  else
   ob (cell_Newest l row col time) fun x2 =>
   some (x2.1.Value, x2.2 && (!x2.1.Gone), (⟨0, 0⟩ : Fault))
theorem cell_Get_ok (l : List Cell) (row : List UInt8) (col : List UInt8) (time : Int) (r : List UInt8 × Bool × Fault) (hF : cell_Get l row col time = some r) : Pe Try.prog 60 S.none [.sl 5 (l.map e_Cell), .str row, .str col, .i time] (.tup [.str r.1, .bool r.2.1, .agg (c_Fault r.2.2)]) S.none := by
 refine PeN 44 [.tmp 8, .tmp 9, .cell 10 31] [9, 4, 31] Ty.ok Fn.b60 Try.func60 ?_
 intro Q g hfin
 unfold cell_Get at hF
 refine VR [] [0, 1, 2, 3, 10] [10] [] [] [(10, .ptr 10 0)] [(10, [.i 0, .i 0])] [] [] .nil ?_
 obtain ⟨x, h0, hF⟩ := ob_elim hF
 refine VR [.callB (.agg (c_Fault x))] [0, 1, 2, 3, 10, 11] [10, 11] [] [] [(11, .ptr 11 0)] [(11, (c_Fault x))] [] [] (hc (cell_Check_ok l x h0) .nil) ?_
 refine NR [] [0, 1, 2, 3, 10, 11, 18] [10, 11] [] [(18, .bool (!decide (x.Code = 0)))] .nil ?_
 refine Nif hF (fun hb hF => ?_) (fun hb hF => ?_)
 ·refine VD [] [8, 9, 10] [10] [] [] [(8, .str ([] : List UInt8)), (9, .bool false)] [(10, (c_Fault x))] [] [] .nil ?_
  cases hF
  exact Wk_ret (hfin _ ⟨[], [], [], [], [], [], by kernel_rfl⟩)
 ·refine NR [] [0, 1, 2, 3, 10, 25] [10] [] [(25, .bool ((decide (time < 0)) || (decide (1000000000 < time))))] .nil ?_
  refine Nif hF (fun hb hF => ?_) (fun hb hF => ?_)
  ·obtain ⟨x1, h1, hF⟩ := lt_split hF
   refine VR [.callB (.agg (c_Fault x1))] [8, 9, 10] [10] [] [] [(8, .str ([] : List UInt8)), (9, .bool false)] [(10, (c_Fault x1))] [] [] (hc (cell_fault_ok 3 (-1) x1 h1) .nil) ?_
   cases hF
   exact Wk_ret (hfin _ ⟨[], [], [], [], [], [], by kernel_rfl⟩)
  ·obtain ⟨x2, h2, hF⟩ := ob_elim hF
   refine VR [.callB (.tup [.agg (c_Cell x2.1), .bool x2.2])] [10, 12, 13] [10, 12] [] [] [(12, .ptr 12 0), (13, .bool x2.2)] [(12, (c_Cell x2.1))] [] [] (hc (cell_Newest_ok l row col time x2 h2) .nil) ?_
   refine ND [] [8, 9, 10] [10] [] [(8, .str x2.1.Value), (9, .bool (x2.2 && (!x2.1.Gone)))] .nil ?_
   cases hF
   exact Wk_ret (hfin _ ⟨[], [], [], [], [], [], by kernel_rfl⟩)

/- tabularylaw.FileFinds -/
noncomputable def law_FileFinds_J1 (l : List Cell) (row : List UInt8) (col : List UInt8) (time : Int) (x1 : List UInt8 × Fault) (v : Unit) : Option Bool :=
 ob (file_Find x1.1 row col time) fun x2 =>
 ob (cell_Get l row col time) fun x3 =>
 if ((!decide (x2.2.2.2.Code = 0)) || (!decide (x3.2.2.Code = 0))) = true then
  lt ((decide (x2.2.2.2.Code = x3.2.2.Code) && (decide (x2.2.2.2.At = x3.2.2.At) && true))) fun (v1 : Bool) =>
  some v1
 else
  ob (file_Make_v1 l 50) fun x4 =>
  if (!decide (x4.2.Code = 0)) = true then
   some (decide (x4.2.Code = 9))
  else
   ob (file_Find x4.1 row col time) fun x5 =>
   lt (((((decide (x2.1 = x3.1)) && (x2.2.1 == x3.2.1)) && (decide (x5.2.2.2.Code = 0))) && (decide (x5.1 = x3.1))) && (x5.2.1 == x3.2.1)) fun (v2 : Bool) =>
   some v2
noncomputable def law_FileFinds_B1 (l : List Cell) (row : List UInt8) (col : List UInt8) (time : Int) (x1 : List UInt8 × Fault) (v3 : Int) : Option (Int ⊕ Bool) :=
 if (decide (v3 < (l.length : Int))) = true then
  asrt (0 ≤ v3 ∧ v3 < (l.length : Int)) <|
  ob (file_May x1.1 ((lget l v3).Row)) fun x6 =>
  if ((!decide (x6.2.Code = 0)) || (!x6.1)) = true then
   some (Sum.inr false)
  else
   some (Sum.inl (w64 (v3 + 1)))
 else
  inrO (law_FileFinds_J1 l row col time x1 ())
noncomputable def law_FileFinds_L1 (l : List Cell) (row : List UInt8) (col : List UInt8) (time : Int) (x1 : List UInt8 × Fault) (v0 : Int) : Option Bool :=
 loopO (fun y => law_FileFinds_B1 l row col time x1 y) v0
noncomputable def law_FileFinds (l : List Cell) (size : Int) (row : List UInt8) (col : List UInt8) (time : Int) : Option Bool :=
 ob (law_fileBegun) fun x =>
 if (!x) = true then
  some false
 else
  if (decide (150 < (l.length : Int))) = true then
   some true
  else
   ob (file_Make_v1 l size) fun x1 =>
   if (!decide (x1.2.Code = 0)) = true then
    some true
   else
    law_FileFinds_L1 l row col time x1 0
theorem law_FileFinds_ok (l : List Cell) (size : Int) (row : List UInt8) (col : List UInt8) (time : Int) (r : Bool) (hF : law_FileFinds l size row col time = some r) : Pe Try.prog 10 S.none [.sl 5 (l.map e_Cell), .i size, .str row, .str col, .i time] (.bool r) S.none := by
 refine PeN 140 [.tmp 10] [4] Ty.ok Fn.b10 Try.func10 ?_
 intro Q g hfin
 unfold law_FileFinds at hF
 refine NR [] [0, 1, 2, 3, 4] [] [] [] .nil ?_
 obtain ⟨x, h0, hF⟩ := ob_elim hF
 refine NR [.callB (.bool x)] [0, 1, 2, 3, 4, 30] [] [] [(30, .bool (!x))] (hc (law_fileBegun_ok  x h0) .nil) ?_
 refine Nif hF (fun hb hF => ?_) (fun hb hF => ?_)
 ·refine NR [] [10] [] [] [(10, .bool false)] .nil ?_
  cases hF
  exact Wk_ret (hfin _ ⟨[], [], [], [], [], [], by kernel_rfl⟩)
 ·refine NR [.nat (l.length : Int)] [0, 1, 2, 3, 4, 33] [] [] [(33, .bool (decide (150 < (l.length : Int))))] (hc (len_ok e_Cell l) .nil) ?_
  refine Nif hF (fun hb hF => ?_) (fun hb hF => ?_)
  ·refine NR [] [10] [] [] [(10, .bool true)] .nil ?_
   cases hF
   exact Wk_ret (hfin _ ⟨[], [], [], [], [], [], by kernel_rfl⟩)
  ·obtain ⟨x1, h1, hF⟩ := ob_elim hF
   refine VR [.call (.tup [.sl 1 (x1.1.map e_u8), .agg (c_Fault x1.2)])] [0, 2, 3, 4, 11, 12] [12] [] [] [(11, .sl 1 (x1.1.map e_u8)), (12, .ptr 12 0)] [(12, (c_Fault x1.2))] [] [] (hc (file_Make_v1_ok l size x1 h1) .nil) ?_
   refine NR [] [0, 2, 3, 4, 11, 42] [] [] [(42, .bool (!decide (x1.2.Code = 0)))] .nil ?_
   refine Nif hF (fun hb hF => ?_) (fun hb hF => ?_)
   ·refine NR [] [10] [] [] [(10, .bool true)] .nil ?_
    cases hF
    exact Wk_ret (hfin _ ⟨[], [], [], [], [], [], by kernel_rfl⟩)
   ·refine NR [] [0, 2, 3, 4, 11, 13] [] [] [(13, .i 0)] .nil ?_
    refine NmeetP (fun v : Unit => (⟨[(0, .sl 5 (l.map e_Cell)), (2, .str row), (3, .str col), (4, .i time), (11, .sl 1 (x1.1.map e_u8))], [], [], [], []⟩ : S)) (fun v => law_FileFinds_J1 l row col time x1 v = some r) ?_ ?_
    ·refine Nblk ?_
     unfold law_FileFinds_L1 at hF
     refine Niter (fun v3 : Int => (⟨[(0, .sl 5 (l.map e_Cell)), (2, .str row), (3, .str col), (4, .i time), (11, .sl 1 (x1.1.map e_u8)), (13, .i v3)], [], [], [], []⟩ : S)) [] hF (by kernel_rfl) ?_
     intro n1 v3 y1 hF ih1 dn1
     unfold law_FileFinds_B1 at hF
     refine NR [.nat (l.length : Int)] [0, 2, 3, 4, 11, 13, 46] [] [] [(46, .bool (decide (v3 < (l.length : Int))))] (hc (len_ok e_Cell l) .nil) ?_
     refine Nif hF (fun hb hF => ?_) (fun hb hF => ?_)
     ·refine Nblk ?_
      obtain ⟨h6, hF⟩ := asrt_elim hF
      obtain ⟨x6, h7, hF⟩ := ob_elim hF
      refine VR [.av (e_Cell (lget l v3)), .callB (.tup [.bool x6.1, .agg (c_Fault x6.2)])] [0, 2, 3, 4, 11, 13, 14, 15] [15] [] [] [(14, .bool x6.1), (15, .ptr 15 0)] [(15, (c_Fault x6.2))] [] [] (hc (idx_ok e_Cell h6) (hc (file_May_ok x1.1 ((lget l v3).Row) x6 h7) .nil)) ?_
      refine NR [] [0, 2, 3, 4, 11, 13, 65] [] [] [(65, .bool ((!decide (x6.2.Code = 0)) || (!x6.1)))] .nil ?_
      refine Nif hF (fun hb hF => ?_) (fun hb hF => ?_)
      ·refine NR [] [10] [] [] [(10, .bool false)] .nil ?_
       have hF := ret_done hF dn1
       cases hF
       exact Wk_ret (hfin _ ⟨[], [], [], [], [], [], by kernel_rfl⟩)
      ·refine NR [] [0, 2, 3, 4, 11, 13] [] [] [(13, .i (w64 (v3 + 1)))] .nil ?_
       exact Nrnd [] hF ih1 (by kernel_rfl)
     ·refine Nexit rfl ?_
      have hF := inrO_done hF dn1
      exact metP () [] hF (by kernel_rfl)
    ·intro v hF
     have hF : law_FileFinds_J1 l row col time x1 v = some r := hF
     unfold law_FileFinds_J1 at hF
     obtain ⟨x2, h2, hF⟩ := ob_elim hF
     refine VR [.callB (.tup [.str x2.1, .bool x2.2.1, .i x2.2.2.1, .agg (c_Fault x2.2.2.2)])] [0, 2, 3, 4, 16, 17, 19] [19] [] [] [(16, .str x2.1), (17, .bool x2.2.1), (19, .ptr 19 0)] [(19, (c_Fault x2.2.2.2))] [] [] (hc (file_Find_ok x1.1 row col time x2 h2) .nil) ?_
     obtain ⟨x3, h3, hF⟩ := ob_elim hF
     refine VR [.callB (.tup [.str x3.1, .bool x3.2.1, .agg (c_Fault x3.2.2)])] [0, 2, 3, 4, 16, 17, 19, 20, 21, 22] [19, 22] [] [] [(20, .str x3.1), (21, .bool x3.2.1), (22, .ptr 22 0)] [(22, (c_Fault x3.2.2))] [] [] (hc (cell_Get_ok l row col time x3 h3) .nil) ?_
     refine NR [] [0, 2, 3, 4, 16, 17, 19, 20, 21, 22, 92] [19, 22] [] [(92, .bool ((!decide (x2.2.2.2.Code = 0)) || (!decide (x3.2.2.Code = 0))))] .nil ?_
     refine Nif hF (fun hb hF => ?_) (fun hb hF => ?_)
     ·refine NRL ((decide (x2.2.2.2.Code = x3.2.2.Code) && (decide (x2.2.2.2.At = x3.2.2.At) && true))) (fun v1 : Bool => ([(10, .bool v1)], [], [], [])) [] [10] [] [] [] .nil (fun v1 hv => ?_)
      have hF := lt_elim hF hv
      cases hF
      exact Wk_ret (hfin _ ⟨[], [], [], [], [], [], by kernel_rfl⟩)
     ·obtain ⟨x4, h4, hF⟩ := ob_elim hF
      refine VR [.call (.tup [.sl 1 (x4.1.map e_u8), .agg (c_Fault x4.2)])] [2, 3, 4, 16, 17, 20, 21, 23, 24] [24] [] [] [(23, .sl 1 (x4.1.map e_u8)), (24, .ptr 24 0)] [(24, (c_Fault x4.2))] [] [] (hc (file_Make_v1_ok l 50 x4 h4) .nil) ?_
      refine NR [] [2, 3, 4, 16, 17, 20, 21, 23, 24, 103] [24] [] [(103, .bool (!decide (x4.2.Code = 0)))] .nil ?_
      refine Nif hF (fun hb hF => ?_) (fun hb hF => ?_)
      ·refine NR [] [10] [] [] [(10, .bool (decide (x4.2.Code = 9)))] .nil ?_
       cases hF
       exact Wk_ret (hfin _ ⟨[], [], [], [], [], [], by kernel_rfl⟩)
      ·obtain ⟨x5, h5, hF⟩ := ob_elim hF
       refine VR [.callB (.tup [.str x5.1, .bool x5.2.1, .i x5.2.2.1, .agg (c_Fault x5.2.2.2)])] [16, 17, 20, 21, 25, 26, 28] [28] [] [] [(25, .str x5.1), (26, .bool x5.2.1), (28, .ptr 28 0)] [(28, (c_Fault x5.2.2.2))] [] [] (hc (file_Find_ok x4.1 row col time x5 h5) .nil) ?_
       refine NRL (((((decide (x2.1 = x3.1)) && (x2.2.1 == x3.2.1)) && (decide (x5.2.2.2.Code = 0))) && (decide (x5.1 = x3.1))) && (x5.2.1 == x3.2.1)) (fun v2 : Bool => ([(10, .bool v2)], [], [], [])) [] [10] [] [] [] .nil (fun v2 hv => ?_)
       have hF := lt_elim hF hv
       cases hF
       exact Wk_ret (hfin _ ⟨[], [], [], [], [], [], by kernel_rfl⟩)

end G
end Go.Proofs.Ytollmifjbcccgaa
