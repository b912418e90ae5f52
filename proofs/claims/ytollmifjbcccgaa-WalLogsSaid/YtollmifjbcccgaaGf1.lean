/- The program's functions as plain functions, and that they are these. Written by a program (dec2.py). -/
import Derived.Test.YtollmifjbcccgaaGf0
namespace Go.Proofs.Ytollmifjbcccgaa
open Go Go.Dm
set_option linter.unusedVariables false
set_option linter.unusedSimpArgs false
set_option maxRecDepth 100000
namespace G
/- wal.Notes -/
noncomputable def wal_Notes_J1 (v : List Note × Int) : Option (List Note × Int) :=
  some (v.1, v.2)
noncomputable def wal_Notes_B1 (x : List (List UInt8) × Int) (v1 : List Note × Int × Int) : Option ((List Note × Int × Int) ⊕ (List Note × Int)) :=
  if (decide (v1.2.2 < (x.1.length : Int))) = true then
    asrt (0 ≤ v1.2.2 ∧ v1.2.2 < (x.1.length : Int)) <|
    asrt (0 ≤ v1.2.2 ∧ v1.2.2 < (x.1.length : Int)) <|
    ob (wal_Read (lget x.1 v1.2.2)) fun x1 =>
    asrt ((decide (0 < (v1.1.length : Int))) = true → (!(!decide (x1.2.2.Code = 0))) = true → 0 ≤ w64 ((v1.1.length : Int) - 1) ∧ w64 ((v1.1.length : Int) - 1) < (v1.1.length : Int)) <|
    asrt ((decide (0 < (v1.1.length : Int))) = true → (!(!decide (x1.2.2.Code = 0))) = true → 0 ≤ w64 ((v1.1.length : Int) - 1) ∧ w64 ((v1.1.length : Int) - 1) < (v1.1.length : Int)) <|
    if ((!decide (x1.2.2.Code = 0)) || ((decide (0 < (v1.1.length : Int))) && (!decide (x1.1 = (w64 (((lget v1.1 (w64 ((v1.1.length : Int) - 1))).Seq) + 1)))))) = true then
      inrO (wal_Notes_J1 (v1.1, v1.2.1))
    else
      asrt (((v1.1 ++ [(⟨x1.1, x1.2.1⟩ : Note)]).length : Int) * 32 ≤ 140737488351232) <|
      some (Sum.inl ((v1.1 ++ [(⟨x1.1, x1.2.1⟩ : Note)]), w64 (v1.2.1 + (w64 (6 + ((lget x.1 v1.2.2).length : Int)))), w64 (v1.2.2 + 1)))
  else
    inrO (wal_Notes_J1 (v1.1, v1.2.1))
noncomputable def wal_Notes_L1 (x : List (List UInt8) × Int) (v0 : List Note × Int × Int) : Option (List Note × Int) :=
  loopO (fun y => wal_Notes_B1 x y) v0
noncomputable def wal_Notes (d : Disk) : Option (List Note × Int) :=
  ob (wire_Opened d.Bytes) fun x =>
  wal_Notes_L1 x (([] : List Note), 0, 0)
theorem wal_Notes_ok (d : Disk) (r : List Note × Int) (hF : wal_Notes d = some r) : Pe Try.prog 92 ⟨[], [], [], [], []⟩ [.agg [.sl 1 (d.Bytes.map e_u8), .i d.Kept]] (.tup [.row 53 0, .i r.2]) ⟨[], [], [(53, .z 24 2 0 (r.1.map e_Note))], [], []⟩ := by
  refine Pe_of (N := 62) (res := [.tmp 2, .tmp 3]) (ts := [56, 3]) Ty.ok Fn.b92 Try.func92 rfl rfl rfl rfl rfl rfl ?_
  intro Q g hfin
  unfold wal_Notes at hF
  refine URs [] [1] [1] [] [] [(1, .ptr 1 0)] [(1, [.sl 1 (d.Bytes.map e_u8), .i d.Kept])] [] [] .nil ?_
  refine Wk_seq ?_
  obtain ⟨x, h0, hF⟩ := ob_elim hF
  refine UR [.callE [] [] [] [] (.tup [.row 15 0, .i x.2]) ⟨[], [], [(15, .z 25 1 0 (x.1.map e_L_u8))], [], []⟩] [4] [] [15] [] [(4, .row 15 0)] [] [(15, .z 25 1 0 (x.1.map e_L_u8))] [] (.cons (Pe.ren (wire_Opened_ok d.Bytes x h0) ⟨[], [(66, 15)], [], []⟩) .nil) ?_
  refine ZRs [] [4, 6] [] [15] [(6, .nils)] .nil ?_
  refine ZRs [] [4, 6, 7] [] [15] [(7, .i 0)] .nil ?_
  refine Wk_seq ?_
  refine ZRs [.nat (x.1.length : Int)] [6, 7, 18, 19, 20] [] [15] [(18, .row 15 0), (19, .i (x.1.length : Int)), (20, .i 0)] (.cons (len_ok e_L_u8 x.1) .nil) ?_
  refine Wk_meetP (fun v : List Note × Int => (⟨[(6, .row 53 0), (7, .i v.2)], [], [(53, .z 24 2 0 (v.1.map e_Note))], [], []⟩ : S)) (fun v => wal_Notes_J1 v = some r) ?_ ?_
  · refine Wk_block ?_
    unfold wal_Notes_L1 at hF
    refine Wk_nilrow 6 60000 24 2 rfl rfl rfl ?_
    refine Wk_trim (fs := [6, 7, 18, 19, 20]) (bs := []) (rs := [15, 60000]) (ms := []) (aa := []) (nv := []) rfl ?_
    refine Wk_ren' ⟨[], [(60000, 53)], [], []⟩ rfl ?_
    refine Wk_trim (fs := [6, 7, 18, 19, 20]) (bs := []) (rs := [15, 53]) (ms := []) (aa := []) (nv := []) (t := (fun v1 : List Note × Int × Int => (⟨[(6, .row 53 0), (7, .i v1.2.1), (18, .row 15 0), (19, .i (x.1.length : Int)), (20, .i v1.2.2)], [], [(15, .z 25 1 0 (x.1.map e_L_u8)), (53, .z 24 2 0 (v1.1.map e_Note))], [], []⟩ : S)) (([] : List Note), 0, 0)) (by kernel_rfl) ?_
    refine Wk_iter (step := fun y => wal_Notes_B1 x y) (r := r) (fun v1 : List Note × Int × Int => (⟨[(6, .row 53 0), (7, .i v1.2.1), (18, .row 15 0), (19, .i (x.1.length : Int)), (20, .i v1.2.2)], [], [(15, .z 25 1 0 (x.1.map e_L_u8)), (53, .z 24 2 0 (v1.1.map e_Note))], [], []⟩ : S)) (([] : List Note), 0, 0) hF ?_
    intro n1 v1 y1 hF ih1 dn1
    have hF : wal_Notes_B1 x v1 = some y1 := hF
    unfold wal_Notes_B1 at hF
    refine ZRs [] [6, 7, 18, 19, 20, 21] [] [15, 53] [(21, .bool (decide (v1.2.2 < (x.1.length : Int))))] .nil ?_
    refine Wk_seq ?_
    refine Wk_split rfl (fun hb => ?_) (fun hb => ?_)
    · have hF := ite_t hF hb
      refine Wk_skip ?_
      refine Wk_seq ?_
      refine Wk_block ?_
      refine Wk_seq ?_
      obtain ⟨h1, hF⟩ := asrt_elim hF
      obtain ⟨h2, hF⟩ := asrt_elim hF
      refine ZR [.av (e_L_u8 (lget x.1 v1.2.2))] [6, 7, 9, 18, 19, 20] [] [15, 53] [(9, .sl 1 ((lget x.1 v1.2.2).map e_u8))] (.cons (ixr_ok e_L_u8 h1) (.cons (ldr_ok e_L_u8 h2) .nil)) ?_
      refine Wk_seq ?_
      obtain ⟨x1, h3, hF⟩ := ob_elim hF
      refine UR [.callE [] [] [] [] (.tup [.agg [.i x1.1, .row 26 0], .agg [.i x1.2.2.Code, .i x1.2.2.At]]) ⟨[], [], [(26, .z 96 5 0 (x1.2.1.map e_Cell))], [], []⟩] [6, 7, 9, 10, 11, 18, 19, 20] [10, 11] [15, 26, 53] [] [(10, .ptr 10 0), (11, .ptr 11 0)] [(10, [.i x1.1, .row 26 0]), (11, [.i x1.2.2.Code, .i x1.2.2.At])] [(26, .z 96 5 0 (x1.2.1.map e_Cell))] [] (.cons (Pe.ren (wal_Read_ok (lget x.1 v1.2.2) x1 h3) ⟨[], [(33, 26)], [], []⟩) .nil) ?_
      refine Wk_seq ?_
      refine Wk_seq ?_
      obtain ⟨h4, hF⟩ := asrt_elim hF
      obtain ⟨h5, hF⟩ := asrt_elim hF
      refine ZD [.nat (v1.1.length : Int), .nat (v1.1.length : Int), .av (e_Note (lget v1.1 (w64 ((v1.1.length : Int) - 1))))] [6, 7, 9, 10, 18, 19, 20, 49] [10] [15, 26, 53] [(49, .bool ((!decide (x1.2.2.Code = 0)) || ((decide (0 < (v1.1.length : Int))) && (!decide (x1.1 = (w64 (((lget v1.1 (w64 ((v1.1.length : Int) - 1))).Seq) + 1)))))))] (.cons (fun (_ : (!(!decide (x1.2.2.Code = 0))) = true) => (len_ok e_Note v1.1)) (.cons (fun (_ : (decide (0 < (v1.1.length : Int))) = true) (_ : (!(!decide (x1.2.2.Code = 0))) = true) => (len_ok e_Note v1.1)) (.cons (fun (ga0 : (decide (0 < (v1.1.length : Int))) = true) (ga1 : (!(!decide (x1.2.2.Code = 0))) = true) => (ixr_ok e_Note (h4 ga0 ga1))) (.cons (fun (ga0 : (decide (0 < (v1.1.length : Int))) = true) (ga1 : (!(!decide (x1.2.2.Code = 0))) = true) => (ldr_ok e_Note (h5 ga0 ga1))) .nil)))) ?_
      refine Wk_split rfl (fun hb => ?_) (fun hb => ?_)
      · have hF := ite_t hF hb
        refine Wk_exit rfl ?_
        have hF := inrO_done hF dn1
        exact Wk_metP (v1.1, v1.2.1) [6, 7] [] [53] [] [] [] hF (by kernel_rfl)
      · have hF := ite_f hF hb
        refine Wk_skip ?_
        refine Wk_seq ?_
        obtain ⟨h6, hF⟩ := asrt_elim hF
        refine UR [.sealed, .xs ((v1.1 ++ [(⟨x1.1, x1.2.1⟩ : Note)]).map e_Note)] [6, 7, 9, 18, 19, 20] [] [15, 53] [] [(6, .row 53 1)] [] [(53, ⟨24, 2, 1, 0, 0, true, 0, [], ((v1.1 ++ [(⟨x1.1, x1.2.1⟩ : Note)]).map e_Note)⟩)] [] (.cons (app_ok e_Note v1.1 [(⟨x1.1, x1.2.1⟩ : Note)]) (.cons (appl_ok e_Note h6) .nil)) ?_
        refine ZR [.nat ((lget x.1 v1.2.2).length : Int)] [6, 7, 18, 19, 20] [] [15, 53] [(7, .i (w64 (v1.2.1 + (w64 (6 + ((lget x.1 v1.2.2).length : Int))))))] (.cons (len_ok e_u8 (lget x.1 v1.2.2)) .nil) ?_
        refine Wk_blk ?_
        refine ZR [] [6, 7, 18, 19, 20] [] [15, 53] [(20, .i (w64 (v1.2.2 + 1)))] .nil ?_
        refine Wk_trim (fs := [6, 7, 18, 19, 20]) (bs := []) (rs := [15, 53]) (ms := []) (aa := []) (nv := [(53, ⟨0, true, true, false⟩)]) ?_ (ih1 _ (some_elim hF).symm)
        kernel_rfl
    · have hF := ite_f hF hb
      refine Wk_exit rfl ?_
      have hF := inrO_done hF dn1
      exact Wk_metP (v1.1, v1.2.1) [6, 7] [] [53] [] [] [] hF (by kernel_rfl)
  · intro v hF
    have hF : wal_Notes_J1 v = some r := hF
    unfold wal_Notes_J1 at hF
    refine ZRs [] [2, 3] [] [53] [(2, .row 53 0), (3, .i v.2)] .nil ?_
    have hF := some_elim hF
    exact Wk_ret (hfin _ ⟨[53], [], [53], [], [], [], by first | (rw [← hF]; kernel_rfl) | kernel_rfl⟩)

/- wire.AddFrame -/
noncomputable def wire_AddFrame_v1 (body : List UInt8) : Option (List UInt8) :=
  asrt ((([toU8 (Int.fdiv (body.length : Int) (2 ^ (min (8 : Int).toNat 64))), toU8 (body.length : Int)] : List UInt8).length : Int) * 1 ≤ 140737488351232) <|
  lt (([toU8 (Int.fdiv (body.length : Int) (2 ^ (min (8 : Int).toNat 64))), toU8 (body.length : Int)] : List UInt8)) fun (v : List UInt8) =>
  asrt (((v ++ body).length : Int) * 1 ≤ 140737488351232) <|
  asrt (0 ≤ (0 : Int) ∧ (0 : Int) ≤ ((v ++ body).length : Int)) <|
  ob (wire_Crc (ldrop (v ++ body) 0)) fun x =>
  asrt ((((v ++ body) ++ ([toU8 (Int.fdiv x (2 ^ (min (24 : Int).toNat 32))), toU8 (Int.fdiv x (2 ^ (min (16 : Int).toNat 32))), toU8 (Int.fdiv x (2 ^ (min (8 : Int).toNat 32))), toU8 x] : List UInt8)).length : Int) * 1 ≤ 140737488351232) <|
  lt (((v ++ body) ++ ([toU8 (Int.fdiv x (2 ^ (min (24 : Int).toNat 32))), toU8 (Int.fdiv x (2 ^ (min (16 : Int).toNat 32))), toU8 (Int.fdiv x (2 ^ (min (8 : Int).toNat 32))), toU8 x] : List UInt8))) fun (v1 : List UInt8) =>
  some v1
theorem wire_AddFrame_v1_ok (body : List UInt8) (r : List UInt8) (hF : wire_AddFrame_v1 body = some r) : Pe Try.prog 81 ⟨[], [], [], [], []⟩ [.nils, .sl 1 (body.map e_u8)] (.row 18 3) ⟨[], [], [(18, ⟨5, 1, 3, (r.map e_u8).length, 0, true, 0, [], (r.map e_u8)⟩)], [], []⟩ := by
  refine Pe_of (N := 40) (res := [.tmp 4]) (ts := [25]) Ty.ok Fn.b81 Try.func81 rfl rfl rfl rfl rfl rfl ?_
  intro Q g hfin
  unfold wire_AddFrame_v1 at hF
  refine ZRs [] [0, 1] [] [] [] .nil ?_
  refine ZRs [] [0, 1, 5] [] [] [(5, .i 0)] .nil ?_
  refine Wk_seq ?_
  obtain ⟨h0, hF⟩ := asrt_elim hF
  refine WRL (([toU8 (Int.fdiv (body.length : Int) (2 ^ (min (8 : Int).toNat 64))), toU8 (body.length : Int)] : List UInt8)) (fun v : List UInt8 => ⟨[(0, .row 18 1), (1, .sl 1 (body.map e_u8)), (5, .i 0)], [], [(18, .z 5 1 1 (v.map e_u8))], [], []⟩) [.nat (body.length : Int), .nat (body.length : Int), .sealed, .xs (([toU8 (Int.fdiv (body.length : Int) (2 ^ (min (8 : Int).toNat 64))), toU8 (body.length : Int)] : List UInt8).map e_u8)] [0, 1, 5] [] [18] [] [] [] (.cons (len_ok e_u8 body) (.cons (by decide : (0 : Int) ≤ 8) (.cons (len_ok e_u8 body) (.cons (app0_ok e_u8 ([toU8 (Int.fdiv (body.length : Int) (2 ^ (min (8 : Int).toNat 64))), toU8 (body.length : Int)] : List UInt8)) (.cons (appl_ok e_u8 h0) .nil))))) (by kernel_rfl) (fun v hv => ?_)
  have hF := lt_elim hF hv
  refine Wk_seq ?_
  obtain ⟨h1, hF⟩ := asrt_elim hF
  refine UR [.xs ((v ++ body).map e_u8)] [0, 5] [] [18] [] [(0, .row 18 2)] [] [(18, .z 5 1 2 ((v ++ body).map e_u8))] [] (.cons (app_ok e_u8 v body) (.cons (appl_ok e_u8 h1) .nil)) ?_
  refine Wk_seq ?_
  obtain ⟨h2, hF⟩ := asrt_elim hF
  obtain ⟨x, h3, hF⟩ := ob_elim hF
  refine UR [.xs ((ldrop (v ++ body) 0).map e_u8), .callB (.int .u32 x)] [0, 6] [] [18] [] [(6, .int .u32 x)] [] [(18, ⟨5, 1, 2, ((v ++ body).map e_u8).length, 0, true, 0, [], ((v ++ body).map e_u8)⟩)] [] (.cons (sl10_ok e_u8 h2) (.cons (wire_Crc_ok (ldrop (v ++ body) 0) x h3) .nil)) ?_
  refine Wk_seq ?_
  obtain ⟨h4, hF⟩ := asrt_elim hF
  refine WRL (((v ++ body) ++ ([toU8 (Int.fdiv x (2 ^ (min (24 : Int).toNat 32))), toU8 (Int.fdiv x (2 ^ (min (16 : Int).toNat 32))), toU8 (Int.fdiv x (2 ^ (min (8 : Int).toNat 32))), toU8 x] : List UInt8))) (fun v1 : List UInt8 => ⟨[(4, .row 18 3)], [], [(18, ⟨5, 1, 3, ((v ++ body).map e_u8).length, 0, true, 0, [], (v1.map e_u8)⟩)], [], []⟩) [.sealed, .xs (((v ++ body) ++ ([toU8 (Int.fdiv x (2 ^ (min (24 : Int).toNat 32))), toU8 (Int.fdiv x (2 ^ (min (16 : Int).toNat 32))), toU8 (Int.fdiv x (2 ^ (min (8 : Int).toNat 32))), toU8 x] : List UInt8)).map e_u8)] [4] [] [18] [] [] [] (.cons (by decide : (0 : Int) ≤ 24) (.cons (by decide : (0 : Int) ≤ 16) (.cons (by decide : (0 : Int) ≤ 8) (.cons (app_ok e_u8 (v ++ body) ([toU8 (Int.fdiv x (2 ^ (min (24 : Int).toNat 32))), toU8 (Int.fdiv x (2 ^ (min (16 : Int).toNat 32))), toU8 (Int.fdiv x (2 ^ (min (8 : Int).toNat 32))), toU8 x] : List UInt8)) (.cons (appl_ok e_u8 h4) .nil))))) (by kernel_rfl) (fun v1 hv => ?_)
  have hF := lt_elim hF hv
  have hF := some_elim hF
  exact Wk_ret (hfin _ ⟨[18], [], [18], [], [], [(18, ⟨3, true, true, true⟩)], by first | (rw [← hF]; kernel_rfl) | kernel_rfl⟩)

/- wal.Frame -/
noncomputable def wal_Frame_v1 (num : Note) : Option (List UInt8) :=
  ob (wal_bytes num) fun x =>
  ob (wire_AddFrame_v1 x) fun x1 =>
  some x1
theorem wal_Frame_v1_ok (num : Note) (r : List UInt8) (hF : wal_Frame_v1 num = some r) : Pe Try.prog 94 ⟨[], [], [], [], []⟩ [.nils, .agg [.i num.Seq, .sl 5 (num.Cells.map e_Cell)]] (.row 8 3) ⟨[], [], [(8, ⟨5, 1, 3, (r.map e_u8).length, 0, true, 0, [], (r.map e_u8)⟩)], [], []⟩ := by
  refine Pe_of (N := 9) (res := [.tmp 4]) (ts := [25]) Ty.ok Fn.b94 Try.func94 rfl rfl rfl rfl rfl rfl ?_
  intro Q g hfin
  unfold wal_Frame_v1 at hF
  refine URs [] [0, 3] [3] [] [] [(3, .ptr 3 0)] [(3, [.i num.Seq, .sl 5 (num.Cells.map e_Cell)])] [] [] .nil ?_
  refine Wk_seq ?_
  obtain ⟨x, h0, hF⟩ := ob_elim hF
  obtain ⟨x1, h1, hF⟩ := ob_elim hF
  refine UR [.callE [] [] [] [] (.row 7 0) ⟨[], [], [(7, .z 5 1 0 (x.map e_u8))], [], []⟩, .raw [0], .callE [] [] [] [] (.row 8 3) ⟨[], [], [(8, ⟨5, 1, 3, (x1.map e_u8).length, 0, true, 0, [], (x1.map e_u8)⟩)], [], []⟩] [4] [] [8] [] [(4, .row 8 3)] [] [(8, ⟨5, 1, 3, (x1.map e_u8).length, 0, true, 0, [], (x1.map e_u8)⟩)] [] (.cons (Pe.ren (wal_bytes_ok num x h0) ⟨[], [(8, 7)], [], []⟩) (.cons (Pe.ren (wire_AddFrame_v1_ok x x1 h1) ⟨[], [(18, 8)], [], []⟩) .nil)) ?_
  have hF := some_elim hF
  exact Wk_ret (hfin _ ⟨[8], [], [8], [], [], [], by first | (rw [← hF]; kernel_rfl) | kernel_rfl⟩)

/- slices.Grow[[]byte,byte] -/
noncomputable def slices_Grow_byte_byte_v1 (num : Int) : Option (List UInt8) :=
  ob (
    if (decide (num < 0)) = true then
      none
    else
      some ()) fun (v : Unit) =>
  ob (
    if (decide (0 < (w64 (num - (w64 (0 - 0)))))) = true then
      asrt (0 ≤ (w64 (num - (w64 (0 - 0)))) ∧ (w64 (num - (w64 (0 - 0)))).toNat * 1 ≤ 140737488351232) <|
      asrt (0 ≤ (0 : Int) ∧ (0 : Int) ≤ ((List.replicate (w64 (num - (w64 (0 - 0)))).toNat ((0 : UInt8) : UInt8)).length : Int)) <|
      lt ((List.replicate (w64 (num - (w64 (0 - 0)))).toNat ((0 : UInt8) : UInt8))) fun (v2 : List UInt8) =>
      asrt (((0 : Int).toNat) ≤ v2.length) <|
      some (v2.take ((0 : Int).toNat))
    else
      some ([] : List UInt8)) fun (v1 : List UInt8) =>
  some v1
theorem slices_Grow_byte_byte_v1_ok (num : Int) (r : List UInt8) (hF : slices_Grow_byte_byte_v1 num = some r) : Pe Try.prog 129 ⟨[], [], [], [], []⟩ [.nils, .i num] (.row 22 0) ⟨[], [], [(22, .o 5 1 0 (r.map e_u8))], [], []⟩ := by
  refine Pe_of (N := 27) (res := [.tmp 4]) (ts := [25]) Ty.ok Fn.b129 Try.func129 rfl rfl rfl rfl rfl rfl ?_
  intro Q g hfin
  unfold slices_Grow_byte_byte_v1 at hF
  refine ZRs [] [0, 1] [] [] [] .nil ?_
  refine Wk_seq ?_
  refine ZRs [] [0, 1, 6] [] [] [(6, .bool (decide (num < 0)))] .nil ?_
  obtain ⟨v, hv, hF⟩ := ob_elim hF
  refine Wk_meet (⟨[(0, .nils), (1, .i num)], [], [], [], []⟩ : S) ?_ ?_
  · have hF := hv
    refine Wk_split rfl (fun hb => ?_) (fun hb => ?_)
    · have hF := ite_t hF hb
      cases hF
    · have hF := ite_f hF hb
      refine Wk_skip ?_
      exact Wk_met (fs := [0, 1]) (bs := []) (rs := []) (ms := []) (aa := []) (nv := []) (by first | (rw [← some_elim hF]; kernel_rfl) | kernel_rfl)
  · refine Wk_seq ?_
    refine ZRs [] [0, 1] [] [] [(1, .i (w64 (num - (w64 (0 - 0)))))] .nil ?_
    refine ZRs [] [0, 1, 16] [] [] [(16, .bool (decide (0 < (w64 (num - (w64 (0 - 0)))))))] .nil ?_
    obtain ⟨v1, hv, hF⟩ := ob_elim hF
    refine Wk_meet (⟨[(0, .row 22 0)], [], [(22, .o 5 1 0 (v1.map e_u8))], [], []⟩ : S) ?_ ?_
    · have hF := hv
      refine Wk_split rfl (fun hb => ?_) (fun hb => ?_)
      · have hF := ite_t hF hb
        obtain ⟨h0, hF⟩ := asrt_elim hF
        obtain ⟨h1, hF⟩ := asrt_elim hF
        refine WRL ((List.replicate (w64 (num - (w64 (0 - 0)))).toNat ((0 : UInt8) : UInt8))) (fun v2 : List UInt8 => ⟨[(0, .rowv 22 0 0 ((0 : Int).toNat))], [], [(22, .z 5 1 0 (v2.map e_u8))], [], []⟩) [.xs ((List.replicate (w64 (num - (w64 (0 - 0)))).toNat ((0 : UInt8) : UInt8)).map e_u8), .vw ((0 : Int).toNat)] [0] [] [22] [] [] [] (.cons (rfl : (0 : Int) = 0) (.cons h0 (.cons (rep_ok e_u8 (w64 (num - (w64 (0 - 0)))) ((0 : UInt8) : UInt8)) (.cons (vw01_ok (cm := 0) e_u8 h1) .nil)))) (by kernel_rfl) (fun v2 hv => ?_)
        have hF := lt_elim hF hv
        obtain ⟨h2, hF⟩ := asrt_elim hF
        refine Wk_trunc 0 22 0 ((0 : Int).toNat) rfl rfl rfl rfl (tk_ok e_u8 h2).1 (Nat.zero_le _) ?_
        exact Wk_met (fs := [0]) (bs := []) (rs := [22]) (ms := []) (aa := []) (nv := [(22, ⟨0, false, true, false⟩)]) (by first | (rw [← some_elim hF]; kernel_rfl) | kernel_rfl)
      · have hF := ite_f hF hb
        refine Wk_skip ?_
        refine Wk_nilrow 0 60000 5 1 rfl rfl rfl ?_
        refine Wk_trim (fs := [0]) (bs := []) (rs := [60000]) (ms := []) (aa := []) (nv := []) rfl ?_
        refine Wk_ren' ⟨[], [(60000, 22)], [], []⟩ rfl ?_
        exact Wk_met (fs := [0]) (bs := []) (rs := [22]) (ms := []) (aa := []) (nv := [(22, ⟨0, true, false, false⟩)]) (by first | (rw [← some_elim hF]; kernel_rfl) | kernel_rfl)
    · refine ZRs [] [4] [] [22] [(4, .row 22 0)] .nil ?_
      have hF := some_elim hF
      exact Wk_ret (hfin _ ⟨[22], [], [22], [], [], [], by first | (rw [← hF]; kernel_rfl) | kernel_rfl⟩)

/- slices.Concat[[]byte,byte] -/
noncomputable def slices_Concat_byte_byte_J2 (v1 : List UInt8) : Option (List UInt8) :=
  some v1
noncomputable def slices_Concat_byte_byte_B1 (slices : List (List UInt8)) (v2 : List UInt8 × Int) : Option ((List UInt8 × Int) ⊕ (List UInt8)) :=
  if (decide (v2.2 < (slices.length : Int))) = true then
    asrt (0 ≤ v2.2 ∧ v2.2 < (slices.length : Int)) <|
    asrt (((v2.1 ++ (lget slices v2.2)).length : Int) * 1 ≤ 140737488351232) <|
    some (Sum.inl ((v2.1 ++ (lget slices v2.2)), w64 (v2.2 + 1)))
  else
    inrO (slices_Concat_byte_byte_J2 v2.1)
noncomputable def slices_Concat_byte_byte_L1 (slices : List (List UInt8)) (v0 : List UInt8 × Int) : Option (List UInt8) :=
  loopO (fun y => slices_Concat_byte_byte_B1 slices y) v0
noncomputable def slices_Concat_byte_byte_J1 (slices : List (List UInt8)) (v : Int) : Option (List UInt8) :=
  ob (slices_Grow_byte_byte_v1 v) fun x =>
  slices_Concat_byte_byte_L1 slices (x, 0)
noncomputable def slices_Concat_byte_byte_B2 (slices : List (List UInt8)) (v3 : Int × Int) : Option ((Int × Int) ⊕ (List UInt8)) :=
  if (decide (v3.2 < (slices.length : Int))) = true then
    asrt (0 ≤ v3.2 ∧ v3.2 < (slices.length : Int)) <|
    ob (
      if (decide ((w64 (v3.1 + ((lget slices v3.2).length : Int))) < 0)) = true then
        none
      else
        some ()) fun (v4 : Unit) =>
    some (Sum.inl (w64 (v3.1 + ((lget slices v3.2).length : Int)), w64 (v3.2 + 1)))
  else
    inrO (slices_Concat_byte_byte_J1 slices v3.1)
noncomputable def slices_Concat_byte_byte_L2 (slices : List (List UInt8)) (v0 : Int × Int) : Option (List UInt8) :=
  loopO (fun y => slices_Concat_byte_byte_B2 slices y) v0
noncomputable def slices_Concat_byte_byte (slices : List (List UInt8)) : Option (List UInt8) :=
  slices_Concat_byte_byte_L2 slices (0, 0)
theorem slices_Concat_byte_byte_ok (slices : List (List UInt8)) (r : List UInt8) (hF : slices_Concat_byte_byte slices = some r) : Pe Try.prog 118 ⟨[], [], [], [], []⟩ [.sl 1 (slices.map e_L_u8)] (.row 24 0) ⟨[], [], [(24, .o 5 1 0 (r.map e_u8))], [], []⟩ := by
  refine Pe_of (N := 36) (res := [.tmp 2]) (ts := [25]) Ty.ok Fn.b118 Try.func118 rfl rfl rfl rfl rfl rfl ?_
  intro Q g hfin
  unfold slices_Concat_byte_byte at hF
  refine ZRs [] [0] [] [] [] .nil ?_
  refine ZRs [] [0, 3] [] [] [(3, .i 0)] .nil ?_
  refine Wk_seq ?_
  refine ZRs [.nat (slices.length : Int)] [0, 3, 9, 10, 11] [] [] [(9, .sl 1 (slices.map e_L_u8)), (10, .i (slices.length : Int)), (11, .i 0)] (.cons (len_ok e_L_u8 slices) .nil) ?_
  refine Wk_meetP (fun v : Int => (⟨[(0, .sl 1 (slices.map e_L_u8)), (3, .i v)], [], [], [], []⟩ : S)) (fun v => slices_Concat_byte_byte_J1 slices v = some r) ?_ ?_
  · refine Wk_block ?_
    unfold slices_Concat_byte_byte_L2 at hF
    refine Wk_trim (fs := [0, 3, 9, 10, 11]) (bs := []) (rs := []) (ms := []) (aa := []) (nv := []) (t := (fun v3 : Int × Int => (⟨[(0, .sl 1 (slices.map e_L_u8)), (3, .i v3.1), (9, .sl 1 (slices.map e_L_u8)), (10, .i (slices.length : Int)), (11, .i v3.2)], [], [], [], []⟩ : S)) (0, 0)) (by kernel_rfl) ?_
    refine Wk_iter (step := fun y => slices_Concat_byte_byte_B2 slices y) (r := r) (fun v3 : Int × Int => (⟨[(0, .sl 1 (slices.map e_L_u8)), (3, .i v3.1), (9, .sl 1 (slices.map e_L_u8)), (10, .i (slices.length : Int)), (11, .i v3.2)], [], [], [], []⟩ : S)) (0, 0) hF ?_
    intro n1 v3 y1 hF ih1 dn1
    have hF : slices_Concat_byte_byte_B2 slices v3 = some y1 := hF
    unfold slices_Concat_byte_byte_B2 at hF
    refine ZRs [] [0, 3, 9, 10, 11, 12] [] [] [(12, .bool (decide (v3.2 < (slices.length : Int))))] .nil ?_
    refine Wk_seq ?_
    refine Wk_split rfl (fun hb => ?_) (fun hb => ?_)
    · have hF := ite_t hF hb
      refine Wk_skip ?_
      refine Wk_seq ?_
      refine Wk_block ?_
      refine Wk_seq ?_
      obtain ⟨h3, hF⟩ := asrt_elim hF
      refine ZR [.av (e_L_u8 (lget slices v3.2))] [0, 3, 5, 9, 10, 11] [] [] [(5, .sl 1 ((lget slices v3.2).map e_u8))] (.cons (idx_ok e_L_u8 h3) .nil) ?_
      refine ZRs [.nat ((lget slices v3.2).length : Int)] [0, 3, 9, 10, 11] [] [] [(3, .i (w64 (v3.1 + ((lget slices v3.2).length : Int))))] (.cons (len_ok e_u8 (lget slices v3.2)) .nil) ?_
      refine ZRs [] [0, 3, 9, 10, 11, 20] [] [] [(20, .bool (decide ((w64 (v3.1 + ((lget slices v3.2).length : Int))) < 0)))] .nil ?_
      obtain ⟨v4, hv, hF⟩ := ob_elim hF
      refine Wk_meet (⟨[(0, .sl 1 (slices.map e_L_u8)), (3, .i (w64 (v3.1 + ((lget slices v3.2).length : Int)))), (9, .sl 1 (slices.map e_L_u8)), (10, .i (slices.length : Int)), (11, .i v3.2)], [], [], [], []⟩ : S) ?_ ?_
      · have hF := hv
        refine Wk_split rfl (fun hb => ?_) (fun hb => ?_)
        · have hF := ite_t hF hb
          cases hF
        · have hF := ite_f hF hb
          refine Wk_skip ?_
          exact Wk_met (fs := [0, 3, 9, 10, 11]) (bs := []) (rs := []) (ms := []) (aa := []) (nv := []) (by first | (rw [← some_elim hF]; kernel_rfl) | kernel_rfl)
      · refine Wk_blk ?_
        refine ZR [] [0, 3, 9, 10, 11] [] [] [(11, .i (w64 (v3.2 + 1)))] .nil ?_
        refine Wk_trim (fs := [0, 3, 9, 10, 11]) (bs := []) (rs := []) (ms := []) (aa := []) (nv := []) ?_ (ih1 _ (some_elim hF).symm)
        kernel_rfl
    · have hF := ite_f hF hb
      refine Wk_exit rfl ?_
      have hF := inrO_done hF dn1
      exact Wk_metP v3.1 [0, 3] [] [] [] [] [] hF (by kernel_rfl)
  · intro v hF
    have hF : slices_Concat_byte_byte_J1 slices v = some r := hF
    unfold slices_Concat_byte_byte_J1 at hF
    refine Wk_seq ?_
    obtain ⟨x, h0, hF⟩ := ob_elim hF
    refine UR [.raw [0], .callE [] [] [] [] (.row 24 0) ⟨[], [], [(24, .o 5 1 0 (x.map e_u8))], [], []⟩] [0, 6] [] [24] [] [(6, .row 24 0)] [] [(24, .o 5 1 0 (x.map e_u8))] [] (.cons (Pe.ren (slices_Grow_byte_byte_v1_ok v x h0) ⟨[], [(22, 24)], [], []⟩) .nil) ?_
    refine Wk_seq ?_
    refine ZRs [.nat (slices.length : Int)] [6, 25, 26, 27] [] [24] [(25, .sl 1 (slices.map e_L_u8)), (26, .i (slices.length : Int)), (27, .i 0)] (.cons (len_ok e_L_u8 slices) .nil) ?_
    refine Wk_meetP (fun v1 : List UInt8 => (⟨[(6, .row 24 0)], [], [(24, .o 5 1 0 (v1.map e_u8))], [], []⟩ : S)) (fun v1 => slices_Concat_byte_byte_J2 v1 = some r) ?_ ?_
    · refine Wk_block ?_
      unfold slices_Concat_byte_byte_L1 at hF
      refine Wk_trim (fs := [6, 25, 26, 27]) (bs := []) (rs := [24]) (ms := []) (aa := []) (nv := []) (t := (fun v2 : List UInt8 × Int => (⟨[(6, .row 24 0), (25, .sl 1 (slices.map e_L_u8)), (26, .i (slices.length : Int)), (27, .i v2.2)], [], [(24, .o 5 1 0 (v2.1.map e_u8))], [], []⟩ : S)) (x, 0)) (by kernel_rfl) ?_
      refine Wk_iter (step := fun y => slices_Concat_byte_byte_B1 slices y) (r := r) (fun v2 : List UInt8 × Int => (⟨[(6, .row 24 0), (25, .sl 1 (slices.map e_L_u8)), (26, .i (slices.length : Int)), (27, .i v2.2)], [], [(24, .o 5 1 0 (v2.1.map e_u8))], [], []⟩ : S)) (x, 0) hF ?_
      intro n1 v2 y1 hF ih1 dn1
      have hF : slices_Concat_byte_byte_B1 slices v2 = some y1 := hF
      unfold slices_Concat_byte_byte_B1 at hF
      refine ZRs [] [6, 25, 26, 27, 28] [] [24] [(28, .bool (decide (v2.2 < (slices.length : Int))))] .nil ?_
      refine Wk_seq ?_
      refine Wk_split rfl (fun hb => ?_) (fun hb => ?_)
      · have hF := ite_t hF hb
        refine Wk_skip ?_
        refine Wk_seq ?_
        refine Wk_block ?_
        refine Wk_seq ?_
        obtain ⟨h1, hF⟩ := asrt_elim hF
        refine ZR [.av (e_L_u8 (lget slices v2.2))] [6, 8, 25, 26, 27] [] [24] [(8, .sl 1 ((lget slices v2.2).map e_u8))] (.cons (idx_ok e_L_u8 h1) .nil) ?_
        obtain ⟨h2, hF⟩ := asrt_elim hF
        refine UR [.xs ((v2.1 ++ (lget slices v2.2)).map e_u8)] [6, 25, 26, 27] [] [24] [] [(6, .row 24 1)] [] [(24, .o 5 1 1 ((v2.1 ++ (lget slices v2.2)).map e_u8))] [] (.cons (app_ok e_u8 v2.1 (lget slices v2.2)) (.cons (appl_ok e_u8 h2) .nil)) ?_
        refine Wk_blk ?_
        refine ZR [] [6, 25, 26, 27] [] [24] [(27, .i (w64 (v2.2 + 1)))] .nil ?_
        refine Wk_trim (fs := [6, 25, 26, 27]) (bs := []) (rs := [24]) (ms := []) (aa := []) (nv := [(24, ⟨0, true, true, false⟩)]) ?_ (ih1 _ (some_elim hF).symm)
        kernel_rfl
      · have hF := ite_f hF hb
        refine Wk_exit rfl ?_
        have hF := inrO_done hF dn1
        exact Wk_metP v2.1 [6] [] [24] [] [] [] hF (by kernel_rfl)
    · intro v1 hF
      have hF : slices_Concat_byte_byte_J2 v1 = some r := hF
      unfold slices_Concat_byte_byte_J2 at hF
      refine ZRs [] [2] [] [24] [(2, .row 24 0)] .nil ?_
      have hF := some_elim hF
      exact Wk_ret (hfin _ ⟨[24], [], [24], [], [], [], by first | (rw [← hF]; kernel_rfl) | kernel_rfl⟩)

/- disk.Append -/
noncomputable def disk_Append (d : Disk) (b : List UInt8) : Option (List UInt8 × Int × Fault) :=
  lt (disk_Check d) fun x =>
  if (!decide (x.Code = 0)) = true then
    some (([] : List UInt8), 0, x)
  else
    if (decide (60000 < (w64 ((d.Bytes.length : Int) + (b.length : Int))))) = true then
      lt (disk_fault 9 0) fun x1 =>
      some (([] : List UInt8), 0, x1)
    else
      ob (slices_Concat_byte_byte ([d.Bytes, b] : List (List UInt8))) fun x2 =>
      some (x2, d.Kept, (⟨0, 0⟩ : Fault))
theorem disk_Append_ok (d : Disk) (b : List UInt8) (r : List UInt8 × Int × Fault) (hF : disk_Append d b = some r) : Pe Try.prog 93 ⟨[], [], [], [], []⟩ [.agg [.sl 1 (d.Bytes.map e_u8), .i d.Kept], .sl 1 (b.map e_u8)] (.tup [.agg [.row 27 0, .i r.2.1], .agg [.i r.2.2.Code, .i r.2.2.At]]) ⟨[], [], [(27, .o 5 1 0 (r.1.map e_u8))], [], []⟩ := by
  refine Pe_of (N := 32) (res := [.cell 4 66, .cell 5 31]) (ts := [66, 31]) Ty.ok Fn.b93 Try.func93 rfl rfl rfl rfl rfl rfl ?_
  intro Q g hfin
  unfold disk_Append at hF
  refine URs [] [1, 2, 4, 5] [2, 4, 5] [] [] [(2, .ptr 2 0), (4, .ptr 4 0), (5, .ptr 5 0)] [(2, [.sl 1 (d.Bytes.map e_u8), .i d.Kept]), (4, [.nils, .i 0]), (5, [.i 0, .i 0])] [] [] .nil ?_
  refine Wk_seq ?_
  refine Wk_seq ?_
  obtain ⟨x, h0, hF⟩ := lt_split hF
  refine UR [.callB (.agg [.i x.Code, .i x.At])] [1, 2, 4, 5, 6] [2, 4, 5, 6] [] [] [(6, .ptr 6 0)] [(6, [.i x.Code, .i x.At])] [] [] (.cons (disk_Check_ok d x h0) .nil) ?_
  refine ZRs [] [1, 2, 4, 5, 6, 11] [2, 4, 5, 6] [] [(11, .bool (!decide (x.Code = 0)))] .nil ?_
  refine Wk_split rfl (fun hb => ?_) (fun hb => ?_)
  · have hF := ite_t hF hb
    refine UDs [] [4, 5] [4, 5] [] [] [] [(5, [.i x.Code, .i x.At])] [] [] .nil ?_
    have hF := some_elim hF
    refine Wk_nilrowB 4 0 60000 5 1 rfl rfl rfl rfl rfl ?_
    refine Wk_ren' ⟨[], [(60000, 27)], [], []⟩ rfl ?_
    exact Wk_ret (hfin _ ⟨[27], [], [27], [], [], [(27, ⟨0, true, false, false⟩)], by first | (rw [← hF]; kernel_rfl) | kernel_rfl⟩)
  · have hF := ite_f hF hb
    refine Wk_skip ?_
    refine Wk_seq ?_
    refine ZRs [.nat (d.Bytes.length : Int), .nat (b.length : Int)] [1, 2, 4, 5, 20] [2, 4, 5] [] [(20, .bool (decide (60000 < (w64 ((d.Bytes.length : Int) + (b.length : Int))))))] (.cons (len_ok e_u8 d.Bytes) (.cons (len_ok e_u8 b) .nil)) ?_
    refine Wk_split rfl (fun hb => ?_) (fun hb => ?_)
    · have hF := ite_t hF hb
      refine Wk_seq ?_
      obtain ⟨x1, h1, hF⟩ := lt_split hF
      refine UR [.callB (.agg [.i x1.Code, .i x1.At])] [4, 5] [4, 5] [] [] [] [(5, [.i x1.Code, .i x1.At])] [] [] (.cons (disk_fault_ok 9 0 x1 h1) .nil) ?_
      have hF := some_elim hF
      refine Wk_nilrowB 4 0 60001 5 1 rfl rfl rfl rfl rfl ?_
      refine Wk_ren' ⟨[], [(60001, 27)], [], []⟩ rfl ?_
      exact Wk_ret (hfin _ ⟨[27], [], [27], [], [], [(27, ⟨0, true, false, false⟩)], by first | (rw [← hF]; kernel_rfl) | kernel_rfl⟩)
    · have hF := ite_f hF hb
      refine Wk_skip ?_
      refine Wk_seq ?_
      obtain ⟨x2, h2, hF⟩ := ob_elim hF
      refine UD [.sealed, .callE [] [] [] [] (.row 27 0) ⟨[], [], [(27, .o 5 1 0 (x2.map e_u8))], [], []⟩] [4, 5] [4, 5] [27] [] [] [(4, [.row 27 0, .i d.Kept])] [(27, .o 5 1 0 (x2.map e_u8))] [] (.cons (Pe.ren (slices_Concat_byte_byte_ok ([d.Bytes, b] : List (List UInt8)) x2 h2) ⟨[], [(24, 27)], [], []⟩) .nil) ?_
      have hF := some_elim hF
      exact Wk_ret (hfin _ ⟨[27], [], [27], [], [], [], by first | (rw [← hF]; kernel_rfl) | kernel_rfl⟩)

/- wal.Log -/
noncomputable def wal_Log_v1 (d : Disk) (num : Note) : Option (Disk × Fault) :=
  lt (disk_Check d) fun x =>
  if (!decide (x.Code = 0)) = true then
    some ((⟨([] : List UInt8), 0⟩ : Disk), x)
  else
    ob (wal_Check num) fun x1 =>
    if (!decide (x1.Code = 0)) = true then
      some ((⟨([] : List UInt8), 0⟩ : Disk), x1)
    else
      ob (wal_Notes d) fun x2 =>
      asrt ((decide (0 < (x2.1.length : Int))) = true → (!(!decide (x2.2 = (d.Bytes.length : Int)))) = true → 0 ≤ w64 ((x2.1.length : Int) - 1) ∧ w64 ((x2.1.length : Int) - 1) < (x2.1.length : Int)) <|
      asrt ((decide (0 < (x2.1.length : Int))) = true → (!(!decide (x2.2 = (d.Bytes.length : Int)))) = true → 0 ≤ w64 ((x2.1.length : Int) - 1) ∧ w64 ((x2.1.length : Int) - 1) < (x2.1.length : Int)) <|
      if ((!decide (x2.2 = (d.Bytes.length : Int))) || ((decide (0 < (x2.1.length : Int))) && (!decide (num.Seq = (w64 (((lget x2.1 (w64 ((x2.1.length : Int) - 1))).Seq) + 1)))))) = true then
        lt (wal_fault 11 0) fun x3 =>
        some ((⟨([] : List UInt8), 0⟩ : Disk), x3)
      else
        ob (wal_Frame_v1 num) fun x4 =>
        ob (disk_Append d x4) fun x5 =>
        some ((⟨x5.1, x5.2.1⟩ : Disk), x5.2.2)
theorem wal_Log_v1_ok (d : Disk) (num : Note) (r : Disk × Fault) (hF : wal_Log_v1 d num = some r) : Pe Try.prog 42 S.none [.agg [.sl 1 (d.Bytes.map e_u8), .i d.Kept], .agg [.i num.Seq, .sl 5 (num.Cells.map e_Cell)]] (.tup [.agg [.sl 1 (r.1.Bytes.map e_u8), .i r.1.Kept], .agg [.i r.2.Code, .i r.2.At]]) S.none := by
  refine Pe_of (N := 60) (res := [.cell 4 66, .cell 5 31]) (ts := [66, 31]) Ty.ok Fn.b42 Try.func42 rfl rfl rfl rfl rfl rfl ?_
  intro Q g hfin
  unfold wal_Log_v1 at hF
  refine URs [] [2, 3, 4, 5] [2, 3, 4, 5] [] [] [(2, .ptr 2 0), (3, .ptr 3 0), (4, .ptr 4 0), (5, .ptr 5 0)] [(2, [.sl 1 (d.Bytes.map e_u8), .i d.Kept]), (3, [.i num.Seq, .sl 5 (num.Cells.map e_Cell)]), (4, [.nils, .i 0]), (5, [.i 0, .i 0])] [] [] .nil ?_
  refine Wk_seq ?_
  refine Wk_seq ?_
  obtain ⟨x, h0, hF⟩ := lt_split hF
  refine UR [.callB (.agg [.i x.Code, .i x.At])] [2, 3, 4, 5, 6] [2, 3, 4, 5, 6] [] [] [(6, .ptr 6 0)] [(6, [.i x.Code, .i x.At])] [] [] (.cons (disk_Check_ok d x h0) .nil) ?_
  refine ZRs [] [2, 3, 4, 5, 6, 14] [2, 3, 4, 5, 6] [] [(14, .bool (!decide (x.Code = 0)))] .nil ?_
  refine Wk_split rfl (fun hb => ?_) (fun hb => ?_)
  · have hF := ite_t hF hb
    refine UDs [] [4, 5] [4, 5] [] [] [] [(5, [.i x.Code, .i x.At])] [] [] .nil ?_
    have hF := some_elim hF
    exact Wk_ret (hfin _ ⟨[], [], [], [], [], [], by first | (rw [← hF]; kernel_rfl) | kernel_rfl⟩)
  · have hF := ite_f hF hb
    refine Wk_skip ?_
    refine Wk_seq ?_
    refine Wk_seq ?_
    obtain ⟨x1, h1, hF⟩ := ob_elim hF
    refine UR [.callB (.agg [.i x1.Code, .i x1.At])] [2, 3, 4, 5, 7] [2, 3, 4, 5, 7] [] [] [(7, .ptr 7 0)] [(7, [.i x1.Code, .i x1.At])] [] [] (.cons (wal_Check_ok num x1 h1) .nil) ?_
    refine ZRs [] [2, 3, 4, 5, 7, 21] [2, 3, 4, 5, 7] [] [(21, .bool (!decide (x1.Code = 0)))] .nil ?_
    refine Wk_split rfl (fun hb => ?_) (fun hb => ?_)
    · have hF := ite_t hF hb
      refine UDs [] [4, 5] [4, 5] [] [] [] [(5, [.i x1.Code, .i x1.At])] [] [] .nil ?_
      have hF := some_elim hF
      exact Wk_ret (hfin _ ⟨[], [], [], [], [], [], by first | (rw [← hF]; kernel_rfl) | kernel_rfl⟩)
    · have hF := ite_f hF hb
      refine Wk_skip ?_
      refine Wk_seq ?_
      obtain ⟨x2, h2, hF⟩ := ob_elim hF
      refine UR [.callE [] [] [] [] (.tup [.row 26 0, .i x2.2]) ⟨[], [], [(26, .z 24 2 0 (x2.1.map e_Note))], [], []⟩] [2, 3, 4, 5, 8, 9] [2, 3, 4, 5] [26] [] [(8, .row 26 0), (9, .i x2.2)] [] [(26, .z 24 2 0 (x2.1.map e_Note))] [] (.cons (Pe.ren (wal_Notes_ok d x2 h2) ⟨[], [(53, 26)], [], []⟩) .nil) ?_
      refine Wk_seq ?_
      refine Wk_seq ?_
      obtain ⟨h3, hF⟩ := asrt_elim hF
      obtain ⟨h4, hF⟩ := asrt_elim hF
      refine ZD [.nat (d.Bytes.length : Int), .nat (x2.1.length : Int), .nat (x2.1.length : Int), .av (e_Note (lget x2.1 (w64 ((x2.1.length : Int) - 1))))] [2, 3, 4, 5, 51] [2, 3, 4, 5] [] [(51, .bool ((!decide (x2.2 = (d.Bytes.length : Int))) || ((decide (0 < (x2.1.length : Int))) && (!decide (num.Seq = (w64 (((lget x2.1 (w64 ((x2.1.length : Int) - 1))).Seq) + 1)))))))] (.cons (len_ok e_u8 d.Bytes) (.cons (fun (_ : (!(!decide (x2.2 = (d.Bytes.length : Int)))) = true) => (len_ok e_Note x2.1)) (.cons (fun (_ : (decide (0 < (x2.1.length : Int))) = true) (_ : (!(!decide (x2.2 = (d.Bytes.length : Int)))) = true) => (len_ok e_Note x2.1)) (.cons (fun (ga0 : (decide (0 < (x2.1.length : Int))) = true) (ga1 : (!(!decide (x2.2 = (d.Bytes.length : Int)))) = true) => (ixr_ok e_Note (h3 ga0 ga1))) (.cons (fun (ga0 : (decide (0 < (x2.1.length : Int))) = true) (ga1 : (!(!decide (x2.2 = (d.Bytes.length : Int)))) = true) => (ldr_ok e_Note (h4 ga0 ga1))) .nil))))) ?_
      refine Wk_split rfl (fun hb => ?_) (fun hb => ?_)
      · have hF := ite_t hF hb
        refine Wk_seq ?_
        obtain ⟨x3, h5, hF⟩ := lt_split hF
        refine UR [.callB (.agg [.i x3.Code, .i x3.At])] [4, 5] [4, 5] [] [] [] [(5, [.i x3.Code, .i x3.At])] [] [] (.cons (wal_fault_ok 11 0 x3 h5) .nil) ?_
        have hF := some_elim hF
        exact Wk_ret (hfin _ ⟨[], [], [], [], [], [], by first | (rw [← hF]; kernel_rfl) | kernel_rfl⟩)
      · have hF := ite_f hF hb
        refine Wk_skip ?_
        refine Wk_seq ?_
        obtain ⟨x4, h6, hF⟩ := ob_elim hF
        obtain ⟨x5, h7, hF⟩ := ob_elim hF
        refine UD [.raw [0], .callE [] [] [] [] (.row 56 3) ⟨[], [], [(56, ⟨5, 1, 3, (x4.map e_u8).length, 0, true, 0, [], (x4.map e_u8)⟩)], [], []⟩, .callE [] [] [] [] (.tup [.agg [.row 57 0, .i x5.2.1], .agg [.i x5.2.2.Code, .i x5.2.2.At]]) ⟨[], [], [(57, .o 5 1 0 (x5.1.map e_u8))], [], []⟩] [4, 5] [4, 5] [57] [] [] [(4, [.row 57 0, .i x5.2.1]), (5, [.i x5.2.2.Code, .i x5.2.2.At])] [(57, .o 5 1 0 (x5.1.map e_u8))] [] (.cons (Pe.ren (wal_Frame_v1_ok num x4 h6) ⟨[], [(8, 56)], [], []⟩) (.cons (Pe.ren (disk_Append_ok d x4 x5 h7) ⟨[], [(27, 57)], [], []⟩) .nil)) ?_
        have hF := some_elim hF
        exact Wk_ret (hfin _ ⟨[], [], [], [], [], [], by first | (rw [← hF]; kernel_rfl) | kernel_rfl⟩)

/- wal.Replay -/
noncomputable def wal_Replay_v1 (d : Disk) : Option (Disk × List Note × Fault) :=
  lt (disk_Check d) fun x =>
  if (!decide (x.Code = 0)) = true then
    some ((⟨([] : List UInt8), 0⟩ : Disk), ([] : List Note), x)
  else
    ob (wal_Notes d) fun x1 =>
    if (decide (1000 < (x1.1.length : Int))) = true then
      lt (wal_fault 2 0) fun x2 =>
      some ((⟨([] : List UInt8), 0⟩ : Disk), ([] : List Note), x2)
    else
      asrt (0 ≤ x1.2 ∧ x1.2 ≤ (d.Bytes.length : Int)) <|
      ob (slices_Clone_byte_byte (ltake d.Bytes x1.2)) fun x3 =>
      some ((⟨x3, x1.2⟩ : Disk), x1.1, (⟨0, 0⟩ : Fault))
theorem wal_Replay_v1_ok (d : Disk) (r : Disk × List Note × Fault) (hF : wal_Replay_v1 d = some r) : Pe Try.prog 43 S.none [.agg [.sl 1 (d.Bytes.map e_u8), .i d.Kept]] (.tup [.agg [.sl 1 (r.1.Bytes.map e_u8), .i r.1.Kept], .sl 2 (r.2.1.map e_Note), .agg [.i r.2.2.Code, .i r.2.2.At]]) S.none := by
  refine Pe_of (N := 34) (res := [.cell 2 66, .tmp 3, .cell 4 31]) (ts := [66, 56, 31]) Ty.ok Fn.b43 Try.func43 rfl rfl rfl rfl rfl rfl ?_
  intro Q g hfin
  unfold wal_Replay_v1 at hF
  refine URs [] [1, 2, 4] [1, 2, 4] [] [] [(1, .ptr 1 0), (2, .ptr 2 0), (4, .ptr 4 0)] [(1, [.sl 1 (d.Bytes.map e_u8), .i d.Kept]), (2, [.nils, .i 0]), (4, [.i 0, .i 0])] [] [] .nil ?_
  refine Wk_seq ?_
  refine Wk_seq ?_
  obtain ⟨x, h0, hF⟩ := lt_split hF
  refine UR [.callB (.agg [.i x.Code, .i x.At])] [1, 2, 4, 5] [1, 2, 4, 5] [] [] [(5, .ptr 5 0)] [(5, [.i x.Code, .i x.At])] [] [] (.cons (disk_Check_ok d x h0) .nil) ?_
  refine ZRs [] [1, 2, 4, 5, 12] [1, 2, 4, 5] [] [(12, .bool (!decide (x.Code = 0)))] .nil ?_
  refine Wk_split rfl (fun hb => ?_) (fun hb => ?_)
  · have hF := ite_t hF hb
    refine UDs [] [2, 3, 4] [2, 4] [] [] [(3, .nils)] [(4, [.i x.Code, .i x.At])] [] [] .nil ?_
    have hF := some_elim hF
    exact Wk_ret (hfin _ ⟨[], [], [], [], [], [], by first | (rw [← hF]; kernel_rfl) | kernel_rfl⟩)
  · have hF := ite_f hF hb
    refine Wk_skip ?_
    refine Wk_seq ?_
    obtain ⟨x1, h1, hF⟩ := ob_elim hF
    refine UR [.callE [] [] [] [] (.tup [.row 17 0, .i x1.2]) ⟨[], [], [(17, .z 24 2 0 (x1.1.map e_Note))], [], []⟩] [1, 2, 4, 6, 7] [1, 2, 4] [17] [] [(6, .row 17 0), (7, .i x1.2)] [] [(17, .z 24 2 0 (x1.1.map e_Note))] [] (.cons (Pe.ren (wal_Notes_ok d x1 h1) ⟨[], [(53, 17)], [], []⟩) .nil) ?_
    refine Wk_seq ?_
    refine ZRs [.nat (x1.1.length : Int)] [1, 2, 4, 6, 7, 22] [1, 2, 4] [17] [(22, .bool (decide (1000 < (x1.1.length : Int))))] (.cons (len_ok e_Note x1.1) .nil) ?_
    refine Wk_split rfl (fun hb => ?_) (fun hb => ?_)
    · have hF := ite_t hF hb
      refine Wk_seq ?_
      obtain ⟨x2, h2, hF⟩ := lt_split hF
      refine UR [.callB (.agg [.i x2.Code, .i x2.At])] [2, 3, 4] [2, 4] [] [] [(3, .nils)] [(4, [.i x2.Code, .i x2.At])] [] [] (.cons (wal_fault_ok 2 0 x2 h2) .nil) ?_
      have hF := some_elim hF
      exact Wk_ret (hfin _ ⟨[], [], [], [], [], [], by first | (rw [← hF]; kernel_rfl) | kernel_rfl⟩)
    · have hF := ite_f hF hb
      refine Wk_skip ?_
      refine Wk_seq ?_
      obtain ⟨h3, hF⟩ := asrt_elim hF
      obtain ⟨x3, h4, hF⟩ := ob_elim hF
      refine UR [.xs ((ltake d.Bytes x1.2).map e_u8), .callE [] [] [] [] (.row 29 0) ⟨[], [], [(29, .o 5 1 0 (x3.map e_u8))], [], []⟩] [2, 3, 4] [2, 4] [17, 29] [] [(3, .row 17 0)] [(2, [.row 29 0, .i x1.2])] [(29, .o 5 1 0 (x3.map e_u8))] [] (.cons (sl01_ok e_u8 h3) (.cons (Pe.ren (slices_Clone_byte_byte_ok (ltake d.Bytes x1.2) x3 h4) ⟨[], [(5, 29)], [], []⟩) .nil)) ?_
      have hF := some_elim hF
      exact Wk_ret (hfin _ ⟨[], [], [], [], [], [], by first | (rw [← hF]; kernel_rfl) | kernel_rfl⟩)

/- tabularyref.SameDisk -/
noncomputable def R_SameDisk (a0 : Disk) (b : Disk) : Bool :=
  lt (R_Same a0.Bytes b.Bytes) fun x =>
  (decide (a0.Kept = b.Kept)) && x
theorem R_SameDisk_ok (a0 : Disk) (b : Disk) (r : Bool) (hF : R_SameDisk a0 b = r) : Pe Try.prog 44 S.none [.agg [.sl 1 (a0.Bytes.map e_u8), .i a0.Kept], .agg [.sl 1 (b.Bytes.map e_u8), .i b.Kept]] (.bool r) S.none := by
  refine Pe_of (N := 17) (res := [.tmp 4]) (ts := [4]) Ty.ok Fn.b44 Try.func44 rfl rfl rfl rfl rfl rfl ?_
  intro Q g hfin
  unfold R_SameDisk at hF
  refine URs [] [2, 3] [2, 3] [] [] [(2, .ptr 2 0), (3, .ptr 3 0)] [(2, [.sl 1 (a0.Bytes.map e_u8), .i a0.Kept]), (3, [.sl 1 (b.Bytes.map e_u8), .i b.Kept])] [] [] .nil ?_
  refine Wk_seq ?_
  obtain ⟨x, h0, hF⟩ := lt_split hF
  refine ZR [.callB (.bool x)] [4] [] [] [(4, .bool ((decide (a0.Kept = b.Kept)) && x))] (.cons (fun (ga0 : (decide (a0.Kept = b.Kept)) = true) => (R_Same_ok a0.Bytes b.Bytes x h0)) .nil) ?_
  exact Wk_ret (hfin _ ⟨[], [], [], [], [], [], by first | (rw [← hF]; kernel_rfl) | kernel_rfl⟩)

/- tabularyref.SameCells -/
noncomputable def R_SameCells_J1 (v : Unit) : Option Bool :=
  some true
noncomputable def R_SameCells_B1 (a0 : List Cell) (b : List Cell) (v1 : Int) : Option (Int ⊕ Bool) :=
  if (decide (v1 < (a0.length : Int))) = true then
    asrt (0 ≤ v1 ∧ v1 < (a0.length : Int)) <|
    asrt (0 ≤ v1 ∧ v1 < (b.length : Int)) <|
    if (!(decide ((lget a0 v1).Row = (lget b v1).Row) && (decide ((lget a0 v1).Col = (lget b v1).Col) && (decide ((lget a0 v1).Time = (lget b v1).Time) && ((((lget a0 v1).Gone) == ((lget b v1).Gone)) && (decide ((lget a0 v1).Value = (lget b v1).Value) && true)))))) = true then
      some (Sum.inr false)
    else
      some (Sum.inl (w64 (v1 + 1)))
  else
    inrO (R_SameCells_J1 ())
noncomputable def R_SameCells_L1 (a0 : List Cell) (b : List Cell) (v0 : Int) : Option Bool :=
  loopO (fun y => R_SameCells_B1 a0 b y) v0
noncomputable def R_SameCells (a0 : List Cell) (b : List Cell) : Option Bool :=
  if (!decide ((a0.length : Int) = (b.length : Int))) = true then
    some false
  else
    R_SameCells_L1 a0 b 0
theorem R_SameCells_ok (a0 : List Cell) (b : List Cell) (r : Bool) (hF : R_SameCells a0 b = some r) : Pe Try.prog 32 S.none [.sl 5 (a0.map e_Cell), .sl 5 (b.map e_Cell)] (.bool r) S.none := by
  refine Pe_of (N := 26) (res := [.tmp 4]) (ts := [4]) Ty.ok Fn.b32 Try.func32 rfl rfl rfl rfl rfl rfl ?_
  intro Q g hfin
  unfold R_SameCells at hF
  refine ZRs [] [0, 1] [] [] [] .nil ?_
  refine Wk_seq ?_
  refine ZRs [.nat (a0.length : Int), .nat (b.length : Int)] [0, 1, 10] [] [] [(10, .bool (!decide ((a0.length : Int) = (b.length : Int))))] (.cons (len_ok e_Cell a0) (.cons (len_ok e_Cell b) .nil)) ?_
  refine Wk_split rfl (fun hb => ?_) (fun hb => ?_)
  · have hF := ite_t hF hb
    refine ZRs [] [4] [] [] [(4, .bool false)] .nil ?_
    have hF := some_elim hF
    exact Wk_ret (hfin _ ⟨[], [], [], [], [], [], by first | (rw [← hF]; kernel_rfl) | kernel_rfl⟩)
  · have hF := ite_f hF hb
    refine Wk_skip ?_
    refine Wk_seq ?_
    refine ZRs [] [0, 1, 5] [] [] [(5, .i 0)] .nil ?_
    refine Wk_meetP (fun v : Unit => (⟨[], [], [], [], []⟩ : S)) (fun v => R_SameCells_J1 v = some r) ?_ ?_
    · refine Wk_block ?_
      unfold R_SameCells_L1 at hF
      refine Wk_trim (fs := [0, 1, 5]) (bs := []) (rs := []) (ms := []) (aa := []) (nv := []) (t := (fun v1 : Int => (⟨[(0, .sl 5 (a0.map e_Cell)), (1, .sl 5 (b.map e_Cell)), (5, .i v1)], [], [], [], []⟩ : S)) 0) (by kernel_rfl) ?_
      refine Wk_iter (step := fun y => R_SameCells_B1 a0 b y) (r := r) (fun v1 : Int => (⟨[(0, .sl 5 (a0.map e_Cell)), (1, .sl 5 (b.map e_Cell)), (5, .i v1)], [], [], [], []⟩ : S)) 0 hF ?_
      intro n1 v1 y1 hF ih1 dn1
      have hF : R_SameCells_B1 a0 b v1 = some y1 := hF
      unfold R_SameCells_B1 at hF
      refine Wk_seq ?_
      refine ZRs [.nat (a0.length : Int)] [0, 1, 5, 14] [] [] [(14, .bool (decide (v1 < (a0.length : Int))))] (.cons (len_ok e_Cell a0) .nil) ?_
      refine Wk_split rfl (fun hb => ?_) (fun hb => ?_)
      · have hF := ite_t hF hb
        refine Wk_skip ?_
        refine Wk_seq ?_
        refine Wk_block ?_
        refine Wk_seq ?_
        obtain ⟨h0, hF⟩ := asrt_elim hF
        obtain ⟨h1, hF⟩ := asrt_elim hF
        refine ZD [.av (e_Cell (lget a0 v1)), .av (e_Cell (lget b v1))] [0, 1, 5, 25] [] [] [(25, .bool (!(decide ((lget a0 v1).Row = (lget b v1).Row) && (decide ((lget a0 v1).Col = (lget b v1).Col) && (decide ((lget a0 v1).Time = (lget b v1).Time) && ((((lget a0 v1).Gone) == ((lget b v1).Gone)) && (decide ((lget a0 v1).Value = (lget b v1).Value) && true)))))))] (.cons (idx_ok e_Cell h0) (.cons (idx_ok e_Cell h1) .nil)) ?_
        refine Wk_split rfl (fun hb => ?_) (fun hb => ?_)
        · have hF := ite_t hF hb
          refine ZRs [] [4] [] [] [(4, .bool false)] .nil ?_
          have hF := ret_done hF dn1
          have hF := some_elim hF
          exact Wk_ret (hfin _ ⟨[], [], [], [], [], [], by first | (rw [← hF]; kernel_rfl) | kernel_rfl⟩)
        · have hF := ite_f hF hb
          refine Wk_skip ?_
          refine Wk_blk ?_
          refine ZR [] [0, 1, 5] [] [] [(5, .i (w64 (v1 + 1)))] .nil ?_
          refine Wk_trim (fs := [0, 1, 5]) (bs := []) (rs := []) (ms := []) (aa := []) (nv := []) ?_ (ih1 _ (some_elim hF).symm)
          kernel_rfl
      · have hF := ite_f hF hb
        refine Wk_exit rfl ?_
        have hF := inrO_done hF dn1
        exact Wk_metP () [] [] [] [] [] [] hF (by kernel_rfl)
    · intro v hF
      have hF : R_SameCells_J1 v = some r := hF
      unfold R_SameCells_J1 at hF
      refine ZRs [] [4] [] [] [(4, .bool true)] .nil ?_
      have hF := some_elim hF
      exact Wk_ret (hfin _ ⟨[], [], [], [], [], [], by first | (rw [← hF]; kernel_rfl) | kernel_rfl⟩)

/- tabularyref.SameNote -/
noncomputable def R_SameNote (a0 : Note) (b : Note) : Option Bool :=
  ob (if (decide (a0.Seq = b.Seq)) = true then (R_SameCells a0.Cells b.Cells) else some default) fun x =>
  some ((decide (a0.Seq = b.Seq)) && x)
theorem R_SameNote_ok (a0 : Note) (b : Note) (r : Bool) (hF : R_SameNote a0 b = some r) : Pe Try.prog 17 S.none [.agg [.i a0.Seq, .sl 5 (a0.Cells.map e_Cell)], .agg [.i b.Seq, .sl 5 (b.Cells.map e_Cell)]] (.bool r) S.none := by
  refine Pe_of (N := 17) (res := [.tmp 4]) (ts := [4]) Ty.ok Fn.b17 Try.func17 rfl rfl rfl rfl rfl rfl ?_
  intro Q g hfin
  unfold R_SameNote at hF
  refine URs [] [2, 3] [2, 3] [] [] [(2, .ptr 2 0), (3, .ptr 3 0)] [(2, [.i a0.Seq, .sl 5 (a0.Cells.map e_Cell)]), (3, [.i b.Seq, .sl 5 (b.Cells.map e_Cell)])] [] [] .nil ?_
  refine Wk_seq ?_
  obtain ⟨x, h0, hF⟩ := ob_elim hF
  refine ZR [.callB (.bool x)] [4] [] [] [(4, .bool ((decide (a0.Seq = b.Seq)) && x))] (.cons (fun (ga0 : (decide (a0.Seq = b.Seq)) = true) => (R_SameCells_ok a0.Cells b.Cells x (ite_t h0 ga0))) .nil) ?_
  have hF := some_elim hF
  exact Wk_ret (hfin _ ⟨[], [], [], [], [], [], by first | (rw [← hF]; kernel_rfl) | kernel_rfl⟩)

/- tabularyref.F -/
noncomputable def R_F (code : Int) (at0 : Int) : Fault :=
  (⟨code, at0⟩ : Fault)
theorem R_F_ok (code : Int) (at0 : Int) (r : Fault) (hF : R_F code at0 = r) : Pe Try.prog 28 S.none [.i code, .i at0] (.agg [.i r.Code, .i r.At]) S.none := by
  refine Pe_of (N := 8) (res := [.cell 4 31]) (ts := [31]) Ty.ok Fn.b28 Try.func28 rfl rfl rfl rfl rfl rfl ?_
  intro Q g hfin
  unfold R_F at hF
  refine URs [] [0, 1, 4] [4] [] [] [(4, .ptr 4 0)] [(4, [.i 0, .i 0])] [] [] .nil ?_
  refine URs [] [4] [4] [] [] [] [(4, [.i code, .i at0])] [] [] .nil ?_
  exact Wk_ret (hfin _ ⟨[], [], [], [], [], [], by first | (rw [← hF]; kernel_rfl) | kernel_rfl⟩)

/- tabularyref.DiskFault -/
noncomputable def R_DiskFault (d : Disk) : Fault :=
  if (decide (60000 < (d.Bytes.length : Int))) = true then
    lt (R_F 8 0) fun x =>
    x
  else
    if ((decide (d.Kept < 0)) || (decide ((d.Bytes.length : Int) < d.Kept))) = true then
      lt (R_F 3 0) fun x1 =>
      x1
    else
      (⟨0, 0⟩ : Fault)
theorem R_DiskFault_ok (d : Disk) (r : Fault) (hF : R_DiskFault d = r) : Pe Try.prog 45 S.none [.agg [.sl 1 (d.Bytes.map e_u8), .i d.Kept]] (.agg [.i r.Code, .i r.At]) S.none := by
  refine Pe_of (N := 21) (res := [.cell 2 31]) (ts := [31]) Ty.ok Fn.b45 Try.func45 rfl rfl rfl rfl rfl rfl ?_
  intro Q g hfin
  unfold R_DiskFault at hF
  refine URs [] [1, 2] [1, 2] [] [] [(1, .ptr 1 0), (2, .ptr 2 0)] [(1, [.sl 1 (d.Bytes.map e_u8), .i d.Kept]), (2, [.i 0, .i 0])] [] [] .nil ?_
  refine Wk_seq ?_
  refine ZRs [.nat (d.Bytes.length : Int)] [1, 2, 6] [1, 2] [] [(6, .bool (decide (60000 < (d.Bytes.length : Int))))] (.cons (len_ok e_u8 d.Bytes) .nil) ?_
  refine Wk_split rfl (fun hb => ?_) (fun hb => ?_)
  · have hF := ite_t hF hb
    refine Wk_seq ?_
    obtain ⟨x, h0, hF⟩ := lt_split hF
    refine UR [.callB (.agg [.i x.Code, .i x.At])] [2] [2] [] [] [] [(2, [.i x.Code, .i x.At])] [] [] (.cons (R_F_ok 8 0 x h0) .nil) ?_
    exact Wk_ret (hfin _ ⟨[], [], [], [], [], [], by first | (rw [← hF]; kernel_rfl) | kernel_rfl⟩)
  · have hF := ite_f hF hb
    refine Wk_skip ?_
    refine Wk_seq ?_
    refine ZRs [.nat (d.Bytes.length : Int)] [2, 18] [2] [] [(18, .bool ((decide (d.Kept < 0)) || (decide ((d.Bytes.length : Int) < d.Kept))))] (.cons (fun (_ : (!(decide (d.Kept < 0))) = true) => (len_ok e_u8 d.Bytes)) .nil) ?_
    refine Wk_split rfl (fun hb => ?_) (fun hb => ?_)
    · have hF := ite_t hF hb
      refine Wk_seq ?_
      obtain ⟨x1, h1, hF⟩ := lt_split hF
      refine UR [.callB (.agg [.i x1.Code, .i x1.At])] [2] [2] [] [] [] [(2, [.i x1.Code, .i x1.At])] [] [] (.cons (R_F_ok 3 0 x1 h1) .nil) ?_
      exact Wk_ret (hfin _ ⟨[], [], [], [], [], [], by first | (rw [← hF]; kernel_rfl) | kernel_rfl⟩)
    · have hF := ite_f hF hb
      refine Wk_skip ?_
      refine ZRs [] [2] [2] [] [] .nil ?_
      exact Wk_ret (hfin _ ⟨[], [], [], [], [], [], by first | (rw [← hF]; kernel_rfl) | kernel_rfl⟩)

/- tabularyref.Rest -/
noncomputable def R_Rest_J1 (v : Int) : Option Int :=
  some (IntKind.u32.wrap (4294967295 - v))
noncomputable def R_Rest_J2 (v1 : Int × Int) (v2 : Int) : Option ((Int × Int) ⊕ Int) :=
  some (Sum.inl (v2, w64 (v1.2 + 1)))
noncomputable def R_Rest_B2 (b : List UInt8) (v1 : Int × Int) (v3 : Int × Int) : Option ((Int × Int) ⊕ ((Int × Int) ⊕ Int)) :=
  if (decide (v3.2 < 8)) = true then
    asrt (0 ≤ v1.2 ∧ v1.2 < (b.length : Int)) <|
    asrt (0 ≤ v3.2) <|
    lt (Int.tmod (IntKind.u32.wrap ((toU8 (Int.fdiv ((lget b v1.2).toNat : Int) (2 ^ (min v3.2.toNat 8)))).toNat : Int)) 2) fun (v4 : Int) =>
    ob (
      if (decide ((Int.tmod (IntKind.u32.wrap (v3.1 + v4)) 2) = 1)) = true then
        some (bitsOp .xor .u32 (IntKind.u32.wrap (Int.tdiv v3.1 2)) 3988292384)
      else
        some (IntKind.u32.wrap (Int.tdiv v3.1 2))) fun (v5 : Int) =>
    some (Sum.inl (v5, w64 (v3.2 + 1)))
  else
    inrO (R_Rest_J2 v1 v3.1)
noncomputable def R_Rest_L2 (b : List UInt8) (v1 : Int × Int) (v0 : Int × Int) : Option ((Int × Int) ⊕ Int) :=
  loopO (fun y => R_Rest_B2 b v1 y) v0
noncomputable def R_Rest_B1 (b : List UInt8) (v1 : Int × Int) : Option ((Int × Int) ⊕ Int) :=
  if (decide (v1.2 < (b.length : Int))) = true then
    R_Rest_L2 b v1 (v1.1, 0)
  else
    inrO (R_Rest_J1 v1.1)
noncomputable def R_Rest_L1 (b : List UInt8) (v0 : Int × Int) : Option Int :=
  loopO (fun y => R_Rest_B1 b y) v0
noncomputable def R_Rest (b : List UInt8) : Option Int :=
  R_Rest_L1 b (4294967295, 0)
theorem R_Rest_ok (b : List UInt8) (r : Int) (hF : R_Rest b = some r) : Pe Try.prog 96 S.none [.sl 1 (b.map e_u8)] (.int .u32 r) S.none := by
  refine Pe_of (N := 38) (res := [.tmp 2]) (ts := [133]) Ty.ok Fn.b96 Try.func96 rfl rfl rfl rfl rfl rfl ?_
  intro Q g hfin
  unfold R_Rest at hF
  refine ZRs [] [0] [] [] [] .nil ?_
  refine ZRs [] [0, 3] [] [] [(3, .int .u32 4294967295)] .nil ?_
  refine Wk_seq ?_
  refine ZRs [] [0, 3, 4] [] [] [(4, .i 0)] .nil ?_
  refine Wk_meetP (fun v : Int => (⟨[(3, .int .u32 v)], [], [], [], []⟩ : S)) (fun v => R_Rest_J1 v = some r) ?_ ?_
  · refine Wk_block ?_
    unfold R_Rest_L1 at hF
    refine Wk_trim (fs := [0, 3, 4]) (bs := []) (rs := []) (ms := []) (aa := []) (nv := []) (t := (fun v1 : Int × Int => (⟨[(0, .sl 1 (b.map e_u8)), (3, .int .u32 v1.1), (4, .i v1.2)], [], [], [], []⟩ : S)) (4294967295, 0)) (by kernel_rfl) ?_
    refine Wk_iter (step := fun y => R_Rest_B1 b y) (r := r) (fun v1 : Int × Int => (⟨[(0, .sl 1 (b.map e_u8)), (3, .int .u32 v1.1), (4, .i v1.2)], [], [], [], []⟩ : S)) (4294967295, 0) hF ?_
    intro n1 v1 y1 hF ih1 dn1
    have hF : R_Rest_B1 b v1 = some y1 := hF
    unfold R_Rest_B1 at hF
    refine Wk_seq ?_
    refine ZRs [.nat (b.length : Int)] [0, 3, 4, 11] [] [] [(11, .bool (decide (v1.2 < (b.length : Int))))] (.cons (len_ok e_u8 b) .nil) ?_
    refine Wk_split rfl (fun hb => ?_) (fun hb => ?_)
    · have hF := ite_t hF hb
      refine Wk_skip ?_
      refine Wk_seq ?_
      refine Wk_block ?_
      refine ZRs [] [0, 3, 4, 5] [] [] [(5, .i 0)] .nil ?_
      refine Wk_meetP (fun v2 : Int => (⟨[(0, .sl 1 (b.map e_u8)), (3, .int .u32 v2), (4, .i v1.2)], [], [], [], []⟩ : S)) (fun v2 => R_Rest_J2 v1 v2 = some y1) ?_ ?_
      · refine Wk_block ?_
        unfold R_Rest_L2 at hF
        refine Wk_trim (fs := [0, 3, 4, 5]) (bs := []) (rs := []) (ms := []) (aa := []) (nv := []) (t := (fun v3 : Int × Int => (⟨[(0, .sl 1 (b.map e_u8)), (3, .int .u32 v3.1), (4, .i v1.2), (5, .i v3.2)], [], [], [], []⟩ : S)) (v1.1, 0)) (by kernel_rfl) ?_
        refine Wk_iter (step := fun y => R_Rest_B2 b v1 y) (r := y1) (fun v3 : Int × Int => (⟨[(0, .sl 1 (b.map e_u8)), (3, .int .u32 v3.1), (4, .i v1.2), (5, .i v3.2)], [], [], [], []⟩ : S)) (v1.1, 0) hF ?_
        intro n2 v3 y2 hF ih2 dn2
        have hF : R_Rest_B2 b v1 v3 = some y2 := hF
        unfold R_Rest_B2 at hF
        refine Wk_seq ?_
        refine ZRs [] [0, 3, 4, 5, 15] [] [] [(15, .bool (decide (v3.2 < 8)))] .nil ?_
        refine Wk_split rfl (fun hb => ?_) (fun hb => ?_)
        · have hF := ite_t hF hb
          refine Wk_skip ?_
          refine Wk_seq ?_
          refine Wk_block ?_
          refine Wk_seq ?_
          obtain ⟨h0, hF⟩ := asrt_elim hF
          obtain ⟨h1, hF⟩ := asrt_elim hF
          refine WRL (Int.tmod (IntKind.u32.wrap ((toU8 (Int.fdiv ((lget b v1.2).toNat : Int) (2 ^ (min v3.2.toNat 8)))).toNat : Int)) 2) (fun v4 : Int => ⟨[(0, .sl 1 (b.map e_u8)), (3, .int .u32 v3.1), (4, .i v1.2), (5, .i v3.2), (6, .int .u32 v4)], [], [], [], []⟩) [.av (e_u8 (lget b v1.2))] [0, 3, 4, 5, 6] [] [] [] [] [] (.cons (idx_ok e_u8 h0) (.cons h1 (.cons (shr8_ok (lget b v1.2) (min v3.2.toNat 8)) (.cons (by decide : (2 : Int) ≠ 0) .nil)))) (by kernel_rfl) (fun v4 hv => ?_)
          have hF := lt_elim hF hv
          refine ZRs [] [0, 3, 4, 5, 7] [] [] [(7, .int .u32 (Int.tmod (IntKind.u32.wrap (v3.1 + v4)) 2))] (.cons (by decide : (2 : Int) ≠ 0) .nil) ?_
          refine ZRs [] [0, 3, 4, 5, 7] [] [] [(3, .int .u32 (IntKind.u32.wrap (Int.tdiv v3.1 2)))] (.cons (by decide : (2 : Int) ≠ 0) .nil) ?_
          refine ZRs [] [0, 3, 4, 5, 33] [] [] [(33, .bool (decide ((Int.tmod (IntKind.u32.wrap (v3.1 + v4)) 2) = 1)))] .nil ?_
          obtain ⟨v5, hv, hF⟩ := ob_elim hF
          refine Wk_meet (⟨[(0, .sl 1 (b.map e_u8)), (3, .int .u32 v5), (4, .i v1.2), (5, .i v3.2)], [], [], [], []⟩ : S) ?_ ?_
          · have hF := hv
            refine Wk_split rfl (fun hb => ?_) (fun hb => ?_)
            · have hF := ite_t hF hb
              refine ZR [] [0, 3, 4, 5] [] [] [(3, .int .u32 (bitsOp .xor .u32 (IntKind.u32.wrap (Int.tdiv v3.1 2)) 3988292384))] .nil ?_
              exact Wk_met (fs := [0, 3, 4, 5]) (bs := []) (rs := []) (ms := []) (aa := []) (nv := []) (by first | (rw [← some_elim hF]; kernel_rfl) | kernel_rfl)
            · have hF := ite_f hF hb
              refine Wk_skip ?_
              exact Wk_met (fs := [0, 3, 4, 5]) (bs := []) (rs := []) (ms := []) (aa := []) (nv := []) (by first | (rw [← some_elim hF]; kernel_rfl) | kernel_rfl)
          · refine Wk_blk ?_
            refine ZR [] [0, 3, 4, 5] [] [] [(5, .i (w64 (v3.2 + 1)))] .nil ?_
            refine Wk_trim (fs := [0, 3, 4, 5]) (bs := []) (rs := []) (ms := []) (aa := []) (nv := []) ?_ (ih2 _ (some_elim hF).symm)
            kernel_rfl
        · have hF := ite_f hF hb
          refine Wk_exit rfl ?_
          have hF := inrO_done hF dn2
          exact Wk_metP v3.1 [0, 3, 4] [] [] [] [] [] hF (by kernel_rfl)
      · intro v2 hF
        have hF : R_Rest_J2 v1 v2 = some y1 := hF
        unfold R_Rest_J2 at hF
        refine Wk_blk ?_
        refine ZR [] [0, 3, 4] [] [] [(4, .i (w64 (v1.2 + 1)))] .nil ?_
        refine Wk_trim (fs := [0, 3, 4]) (bs := []) (rs := []) (ms := []) (aa := []) (nv := []) ?_ (ih1 _ (some_elim hF).symm)
        kernel_rfl
    · have hF := ite_f hF hb
      refine Wk_exit rfl ?_
      have hF := inrO_done hF dn1
      exact Wk_metP v1.1 [3] [] [] [] [] [] hF (by kernel_rfl)
  · intro v hF
    have hF : R_Rest_J1 v = some r := hF
    unfold R_Rest_J1 at hF
    refine ZRs [] [2] [] [] [(2, .int .u32 (IntKind.u32.wrap (4294967295 - v)))] .nil ?_
    have hF := some_elim hF
    exact Wk_ret (hfin _ ⟨[], [], [], [], [], [], by first | (rw [← hF]; kernel_rfl) | kernel_rfl⟩)

/- tabularyref.Framed -/
noncomputable def R_Framed (body : List UInt8) : Option (List UInt8) :=
  asrt (((([toU8 (w64 (Int.tdiv (body.length : Int) 256)), toU8 (Int.tmod (body.length : Int) 256)] : List UInt8) ++ body).length : Int) * 1 ≤ 140737488351232) <|
  lt ((([toU8 (w64 (Int.tdiv (body.length : Int) 256)), toU8 (Int.tmod (body.length : Int) 256)] : List UInt8) ++ body)) fun (v : List UInt8) =>
  ob (R_Rest v) fun x =>
  asrt (((v ++ ([toU8 (IntKind.u32.wrap (Int.tdiv x 16777216)), toU8 (Int.tmod (IntKind.u32.wrap (Int.tdiv x 65536)) 256), toU8 (Int.tmod (IntKind.u32.wrap (Int.tdiv x 256)) 256), toU8 (Int.tmod x 256)] : List UInt8)).length : Int) * 1 ≤ 140737488351232) <|
  lt ((v ++ ([toU8 (IntKind.u32.wrap (Int.tdiv x 16777216)), toU8 (Int.tmod (IntKind.u32.wrap (Int.tdiv x 65536)) 256), toU8 (Int.tmod (IntKind.u32.wrap (Int.tdiv x 256)) 256), toU8 (Int.tmod x 256)] : List UInt8))) fun (v1 : List UInt8) =>
  some v1
theorem R_Framed_ok (body : List UInt8) (r : List UInt8) (hF : R_Framed body = some r) : Pe Try.prog 47 ⟨[], [], [], [], []⟩ [.sl 1 (body.map e_u8)] (.row 13 2) ⟨[], [], [(13, .z 5 1 2 (r.map e_u8))], [], []⟩ := by
  refine Pe_of (N := 35) (res := [.tmp 2]) (ts := [25]) Ty.ok Fn.b47 Try.func47 rfl rfl rfl rfl rfl rfl ?_
  intro Q g hfin
  unfold R_Framed at hF
  refine ZRs [] [0] [] [] [] .nil ?_
  refine Wk_seq ?_
  obtain ⟨h0, hF⟩ := asrt_elim hF
  refine WRL ((([toU8 (w64 (Int.tdiv (body.length : Int) 256)), toU8 (Int.tmod (body.length : Int) 256)] : List UInt8) ++ body)) (fun v : List UInt8 => ⟨[(3, .row 13 1)], [], [(13, .z 5 1 1 (v.map e_u8))], [], []⟩) [.nat (body.length : Int), .nat (body.length : Int), .xs ((([toU8 (w64 (Int.tdiv (body.length : Int) 256)), toU8 (Int.tmod (body.length : Int) 256)] : List UInt8) ++ body).map e_u8)] [3] [] [13] [] [] [] (.cons (len_ok e_u8 body) (.cons (by decide : (256 : Int) ≠ 0) (.cons (len_ok e_u8 body) (.cons (by decide : (256 : Int) ≠ 0) (.cons (app_ok e_u8 ([toU8 (w64 (Int.tdiv (body.length : Int) 256)), toU8 (Int.tmod (body.length : Int) 256)] : List UInt8) body) (.cons (appl_ok e_u8 h0) .nil)))))) (by kernel_rfl) (fun v hv => ?_)
  have hF := lt_elim hF hv
  refine Wk_seq ?_
  obtain ⟨x, h1, hF⟩ := ob_elim hF
  refine ZR [.callB (.int .u32 x)] [3, 4] [] [13] [(4, .int .u32 x)] (.cons (R_Rest_ok v x h1) .nil) ?_
  refine Wk_seq ?_
  obtain ⟨h2, hF⟩ := asrt_elim hF
  refine WRL ((v ++ ([toU8 (IntKind.u32.wrap (Int.tdiv x 16777216)), toU8 (Int.tmod (IntKind.u32.wrap (Int.tdiv x 65536)) 256), toU8 (Int.tmod (IntKind.u32.wrap (Int.tdiv x 256)) 256), toU8 (Int.tmod x 256)] : List UInt8))) (fun v1 : List UInt8 => ⟨[(2, .row 13 2)], [], [(13, .z 5 1 2 (v1.map e_u8))], [], []⟩) [.sealed, .xs ((v ++ ([toU8 (IntKind.u32.wrap (Int.tdiv x 16777216)), toU8 (Int.tmod (IntKind.u32.wrap (Int.tdiv x 65536)) 256), toU8 (Int.tmod (IntKind.u32.wrap (Int.tdiv x 256)) 256), toU8 (Int.tmod x 256)] : List UInt8)).map e_u8)] [2] [] [13] [] [] [] (.cons (by decide : (16777216 : Int) ≠ 0) (.cons (by decide : (65536 : Int) ≠ 0) (.cons (by decide : (256 : Int) ≠ 0) (.cons (by decide : (256 : Int) ≠ 0) (.cons (by decide : (256 : Int) ≠ 0) (.cons (by decide : (256 : Int) ≠ 0) (.cons (app_ok e_u8 v ([toU8 (IntKind.u32.wrap (Int.tdiv x 16777216)), toU8 (Int.tmod (IntKind.u32.wrap (Int.tdiv x 65536)) 256), toU8 (Int.tmod (IntKind.u32.wrap (Int.tdiv x 256)) 256), toU8 (Int.tmod x 256)] : List UInt8)) (.cons (appl_ok e_u8 h2) .nil)))))))) (by kernel_rfl) (fun v1 hv => ?_)
  have hF := lt_elim hF hv
  have hF := some_elim hF
  exact Wk_ret (hfin _ ⟨[13], [], [13], [], [], [], by first | (rw [← hF]; kernel_rfl) | kernel_rfl⟩)

/- tabularyref.Unframed -/
noncomputable def R_Unframed_J1 (v : List (List UInt8) × Int) : Option (List (List UInt8) × Int) :=
  some (v.1, v.2)
noncomputable def R_Unframed_B1 (b : List UInt8) (v1 : List (List UInt8) × Int) : Option ((List (List UInt8) × Int) ⊕ (List (List UInt8) × Int)) :=
  if (decide ((w64 (v1.2 + 6)) ≤ (b.length : Int))) = true then
    asrt (0 ≤ v1.2 ∧ v1.2 < (b.length : Int)) <|
    asrt (0 ≤ w64 (v1.2 + 1) ∧ w64 (v1.2 + 1) < (b.length : Int)) <|
    lt (w64 ((w64 ((w64 ((lget b v1.2).toNat : Int)) * 256)) + (w64 ((lget b (w64 (v1.2 + 1))).toNat : Int)))) fun (v2 : Int) =>
    if (decide ((b.length : Int) < (w64 ((w64 (v1.2 + 6)) + v2)))) = true then
      inrO (R_Unframed_J1 (v1.1, v1.2))
    else
      asrt (0 ≤ w64 (v1.2 + 2) ∧ w64 (v1.2 + 2) ≤ w64 ((w64 (v1.2 + 2)) + v2) ∧ w64 ((w64 (v1.2 + 2)) + v2) ≤ (b.length : Int)) <|
      ob (R_Framed (ldrop (ltake b (w64 ((w64 (v1.2 + 2)) + v2))) (w64 (v1.2 + 2)))) fun x =>
      asrt (0 ≤ v1.2 ∧ v1.2 ≤ w64 ((w64 (v1.2 + 6)) + v2) ∧ w64 ((w64 (v1.2 + 6)) + v2) ≤ (b.length : Int)) <|
      lt (R_Same x (ldrop (ltake b (w64 ((w64 (v1.2 + 6)) + v2))) v1.2)) fun x1 =>
      if (!x1) = true then
        inrO (R_Unframed_J1 (v1.1, v1.2))
      else
        asrt (((ldrop (ltake b (w64 ((w64 (v1.2 + 2)) + v2))) (w64 (v1.2 + 2))).length : Int) * 1 ≤ 140737488351232) <|
        asrt (((v1.1 ++ ([(ldrop (ltake b (w64 ((w64 (v1.2 + 2)) + v2))) (w64 (v1.2 + 2)))] : List (List UInt8))).length : Int) * 24 ≤ 140737488351232) <|
        lt ((v1.1 ++ ([(ldrop (ltake b (w64 ((w64 (v1.2 + 2)) + v2))) (w64 (v1.2 + 2)))] : List (List UInt8)))) fun (v3 : List (List UInt8)) =>
        some (Sum.inl (v3, w64 ((w64 (v1.2 + 6)) + v2)))
  else
    inrO (R_Unframed_J1 (v1.1, v1.2))
noncomputable def R_Unframed_L1 (b : List UInt8) (v0 : List (List UInt8) × Int) : Option (List (List UInt8) × Int) :=
  loopO (fun y => R_Unframed_B1 b y) v0
noncomputable def R_Unframed (b : List UInt8) : Option (List (List UInt8) × Int) :=
  R_Unframed_L1 b (([] : List (List UInt8)), 0)
theorem R_Unframed_ok (b : List UInt8) (r : List (List UInt8) × Int) (hF : R_Unframed b = some r) : Pe Try.prog 33 ⟨[], [], [], [], []⟩ [.sl 1 (b.map e_u8)] (.tup [.row 56 0, .i r.2]) ⟨[], [], [(56, .z 25 1 0 (r.1.map e_L_u8))], [], []⟩ := by
  refine Pe_of (N := 63) (res := [.tmp 2, .tmp 3]) (ts := [52, 3]) Ty.ok Fn.b33 Try.func33 rfl rfl rfl rfl rfl rfl ?_
  intro Q g hfin
  unfold R_Unframed at hF
  refine ZRs [] [0] [] [] [] .nil ?_
  refine ZRs [] [0, 4] [] [] [(4, .nils)] .nil ?_
  refine ZRs [] [0, 4, 5] [] [] [(5, .i 0)] .nil ?_
  refine Wk_seq ?_
  refine Wk_meetP (fun v : List (List UInt8) × Int => (⟨[(4, .row 56 0), (5, .i v.2)], [], [(56, .z 25 1 0 (v.1.map e_L_u8))], [], []⟩ : S)) (fun v => R_Unframed_J1 v = some r) ?_ ?_
  · refine Wk_block ?_
    unfold R_Unframed_L1 at hF
    refine Wk_nilrow 4 60000 25 1 rfl rfl rfl ?_
    refine Wk_trim (fs := [0, 4, 5]) (bs := []) (rs := [60000]) (ms := []) (aa := []) (nv := []) rfl ?_
    refine Wk_ren' ⟨[], [(60000, 56)], [], []⟩ rfl ?_
    refine Wk_trim (fs := [0, 4, 5]) (bs := []) (rs := [56]) (ms := []) (aa := []) (nv := []) (t := (fun v1 : List (List UInt8) × Int => (⟨[(0, .sl 1 (b.map e_u8)), (4, .row 56 0), (5, .i v1.2)], [], [(56, .z 25 1 0 (v1.1.map e_L_u8))], [], []⟩ : S)) (([] : List (List UInt8)), 0)) (by kernel_rfl) ?_
    refine Wk_iter (step := fun y => R_Unframed_B1 b y) (r := r) (fun v1 : List (List UInt8) × Int => (⟨[(0, .sl 1 (b.map e_u8)), (4, .row 56 0), (5, .i v1.2)], [], [(56, .z 25 1 0 (v1.1.map e_L_u8))], [], []⟩ : S)) (([] : List (List UInt8)), 0) hF ?_
    intro n1 v1 y1 hF ih1 dn1
    have hF : R_Unframed_B1 b v1 = some y1 := hF
    unfold R_Unframed_B1 at hF
    refine Wk_seq ?_
    refine ZRs [.nat (b.length : Int)] [0, 4, 5, 12] [] [56] [(12, .bool (decide ((w64 (v1.2 + 6)) ≤ (b.length : Int))))] (.cons (len_ok e_u8 b) .nil) ?_
    refine Wk_split rfl (fun hb => ?_) (fun hb => ?_)
    · have hF := ite_t hF hb
      refine Wk_skip ?_
      refine Wk_block ?_
      refine Wk_seq ?_
      obtain ⟨h0, hF⟩ := asrt_elim hF
      obtain ⟨h1, hF⟩ := asrt_elim hF
      refine WDL (w64 ((w64 ((w64 ((lget b v1.2).toNat : Int)) * 256)) + (w64 ((lget b (w64 (v1.2 + 1))).toNat : Int)))) (fun v2 : Int => ⟨[(0, .sl 1 (b.map e_u8)), (4, .row 56 0), (5, .i v1.2), (6, .i v2)], [], [(56, .z 25 1 0 (v1.1.map e_L_u8))], [], []⟩) [.av (e_u8 (lget b v1.2)), .av (e_u8 (lget b (w64 (v1.2 + 1))))] [0, 4, 5, 6] [] [56] [] [] [] (.cons (idx_ok e_u8 h0) (.cons (idx_ok e_u8 h1) .nil)) (by kernel_rfl) (fun v2 hv => ?_)
      have hF := lt_elim hF hv
      refine Wk_seq ?_
      refine ZRs [.nat (b.length : Int)] [0, 4, 5, 6, 32] [] [56] [(32, .bool (decide ((b.length : Int) < (w64 ((w64 (v1.2 + 6)) + v2)))))] (.cons (len_ok e_u8 b) .nil) ?_
      refine Wk_split rfl (fun hb => ?_) (fun hb => ?_)
      · have hF := ite_t hF hb
        refine Wk_exit rfl ?_
        have hF := inrO_done hF dn1
        exact Wk_metP (v1.1, v1.2) [4, 5] [] [56] [] [] [] hF (by kernel_rfl)
      · have hF := ite_f hF hb
        refine Wk_skip ?_
        refine Wk_seq ?_
        obtain ⟨h2, hF⟩ := asrt_elim hF
        refine ZR [.xs ((ldrop (ltake b (w64 ((w64 (v1.2 + 2)) + v2))) (w64 (v1.2 + 2))).map e_u8)] [0, 4, 5, 6, 7] [] [56] [(7, .sl 1 ((ldrop (ltake b (w64 ((w64 (v1.2 + 2)) + v2))) (w64 (v1.2 + 2))).map e_u8))] (.cons (sl11_ok e_u8 h2) .nil) ?_
        refine Wk_seq ?_
        refine Wk_seq ?_
        obtain ⟨x, h3, hF⟩ := ob_elim hF
        obtain ⟨h4, hF⟩ := asrt_elim hF
        obtain ⟨x1, h5, hF⟩ := lt_split hF
        refine ZD [.callE [] [] [] [] (.row 42 2) ⟨[], [], [(42, .z 5 1 2 (x.map e_u8))], [], []⟩, .xs ((ldrop (ltake b (w64 ((w64 (v1.2 + 6)) + v2))) v1.2).map e_u8), .callB (.bool x1)] [0, 4, 5, 6, 7, 51] [] [56] [(51, .bool (!x1))] (.cons (Pe.ren (R_Framed_ok (ldrop (ltake b (w64 ((w64 (v1.2 + 2)) + v2))) (w64 (v1.2 + 2))) x h3) ⟨[], [(13, 42)], [], []⟩) (.cons (sl11_ok e_u8 h4) (.cons (R_Same_ok x (ldrop (ltake b (w64 ((w64 (v1.2 + 6)) + v2))) v1.2) x1 h5) .nil))) ?_
        refine Wk_split rfl (fun hb => ?_) (fun hb => ?_)
        · have hF := ite_t hF hb
          refine Wk_exit rfl ?_
          have hF := inrO_done hF dn1
          exact Wk_metP (v1.1, v1.2) [4, 5] [] [56] [] [] [] hF (by kernel_rfl)
        · have hF := ite_f hF hb
          refine Wk_skip ?_
          refine Wk_seq ?_
          obtain ⟨h6, hF⟩ := asrt_elim hF
          obtain ⟨h7, hF⟩ := asrt_elim hF
          refine WRL ((v1.1 ++ ([(ldrop (ltake b (w64 ((w64 (v1.2 + 2)) + v2))) (w64 (v1.2 + 2)))] : List (List UInt8)))) (fun v3 : List (List UInt8) => ⟨[(0, .sl 1 (b.map e_u8)), (4, .row 56 1), (5, .i v1.2), (6, .i v2)], [], [(56, .z 25 1 1 (v3.map e_L_u8))], [], []⟩) [.xs ((ldrop (ltake b (w64 ((w64 (v1.2 + 2)) + v2))) (w64 (v1.2 + 2))).map e_u8), .sealed, .xs ((v1.1 ++ ([(ldrop (ltake b (w64 ((w64 (v1.2 + 2)) + v2))) (w64 (v1.2 + 2)))] : List (List UInt8))).map e_L_u8)] [0, 4, 5, 6] [] [56] [] [] [] (.cons (app0_ok e_u8 (ldrop (ltake b (w64 ((w64 (v1.2 + 2)) + v2))) (w64 (v1.2 + 2)))) (.cons (appl_ok e_u8 h6) (.cons (app_ok e_L_u8 v1.1 ([(ldrop (ltake b (w64 ((w64 (v1.2 + 2)) + v2))) (w64 (v1.2 + 2)))] : List (List UInt8))) (.cons (appl_ok e_L_u8 h7) .nil)))) (by kernel_rfl) (fun v3 hv => ?_)
          have hF := lt_elim hF hv
          refine ZR [] [0, 4, 5] [] [56] [(5, .i (w64 ((w64 (v1.2 + 6)) + v2)))] .nil ?_
          refine Wk_blk ?_
          refine Wk_trim (fs := [0, 4, 5]) (bs := []) (rs := [56]) (ms := []) (aa := []) (nv := [(56, ⟨0, true, true, false⟩)]) ?_ (ih1 _ (some_elim hF).symm)
          kernel_rfl
    · have hF := ite_f hF hb
      refine Wk_exit rfl ?_
      have hF := inrO_done hF dn1
      exact Wk_metP (v1.1, v1.2) [4, 5] [] [56] [] [] [] hF (by kernel_rfl)
  · intro v hF
    have hF : R_Unframed_J1 v = some r := hF
    unfold R_Unframed_J1 at hF
    refine ZRs [] [2, 3] [] [56] [(2, .row 56 0), (3, .i v.2)] .nil ?_
    have hF := some_elim hF
    exact Wk_ret (hfin _ ⟨[56], [], [56], [], [], [], by first | (rw [← hF]; kernel_rfl) | kernel_rfl⟩)

/- tabularyref.Number -/
noncomputable def R_Number_S (rec : Int → Option (List UInt8)) (num : Int) : Option (List UInt8) :=
  if (decide (num < 128)) = true then
    some ([toU8 num] : List UInt8)
  else
    ob (rec (w64 (Int.tdiv num 128))) fun x =>
    asrt (((([toU8 (w64 ((Int.tmod num 128) + 128))] : List UInt8) ++ x).length : Int) * 1 ≤ 140737488351232) <|
    some (([toU8 (w64 ((Int.tmod num 128) + 128))] : List UInt8) ++ x)
noncomputable def R_Number (num : Int) : Option (List UInt8) := recO (fun rec (x : Int) => R_Number_S rec x) num
theorem R_Number_ok (num : Int) (r : List UInt8) (hF : R_Number num = some r) : Pe Try.prog 72 ⟨[], [], [], [], []⟩ [.i num] (.row 7 0) ⟨[], [], [(7, .z 5 1 0 (r.map e_u8))], [], []⟩ := by
  have key : ∀ (k : Nat) (x : Int) (r : List UInt8), fuelO (fun rec (x : Int) => R_Number_S rec x) k x = some r → Pe Try.prog 72 ⟨[], [], [], [], []⟩ [.i x] (.row 7 0) ⟨[], [], [(7, .z 5 1 0 (r.map e_u8))], [], []⟩ := by
    intro k
    induction k with
    | zero => intro x r hF; cases hF
    | succ k ih =>
      intro x r hF
      have hF : R_Number_S (fuelO (fun rec (x : Int) => R_Number_S rec x) k) x = some r := hF
      generalize fuelO (fun rec (x : Int) => R_Number_S rec x) k = rec at ih hF
      revert hF
      generalize x = num
      intro hF
      refine Pe_of (N := 17) (res := [.tmp 2]) (ts := [25]) Ty.ok Fn.b72 Try.func72 rfl rfl rfl rfl rfl rfl ?_
      intro Q g hfin
      unfold R_Number_S at hF
      refine ZRs [] [0] [] [] [] .nil ?_
      refine Wk_seq ?_
      refine ZRs [] [0, 4] [] [] [(4, .bool (decide (num < 128)))] .nil ?_
      refine Wk_split rfl (fun hb => ?_) (fun hb => ?_)
      · have hF := ite_t hF hb
        refine URs [] [2] [] [7] [] [(2, .row 7 0)] [] [(7, .z 5 1 0 (([toU8 num] : List UInt8).map e_u8))] [] .nil ?_
        have hF := some_elim hF
        exact Wk_ret (hfin _ ⟨[7], [], [7], [], [], [], by first | (rw [← hF]; kernel_rfl) | kernel_rfl⟩)
      · have hF := ite_f hF hb
        refine Wk_skip ?_
        refine Wk_seq ?_
        obtain ⟨x, h0, hF⟩ := ob_elim hF
        obtain ⟨h1, hF⟩ := asrt_elim hF
        refine UR [.callE [] [] [] [] (.row 15 0) ⟨[], [], [(15, .z 5 1 0 (x.map e_u8))], [], []⟩, .xs ((([toU8 (w64 ((Int.tmod num 128) + 128))] : List UInt8) ++ x).map e_u8)] [2] [] [12] [] [(2, .row 12 1)] [] [(12, .z 5 1 1 ((([toU8 (w64 ((Int.tmod num 128) + 128))] : List UInt8) ++ x).map e_u8))] [] (.cons (by decide : (128 : Int) ≠ 0) (.cons (by decide : (128 : Int) ≠ 0) (.cons (Pe.ren (ih (w64 (Int.tdiv num 128)) x h0) ⟨[], [(7, 15)], [], []⟩) (.cons (app_ok e_u8 ([toU8 (w64 ((Int.tmod num 128) + 128))] : List UInt8) x) (.cons (appl_ok e_u8 h1) .nil))))) ?_
        have hF := some_elim hF
        refine Wk_ren' ⟨[], [(12, 7)], [], []⟩ rfl ?_
        exact Wk_ret (hfin _ ⟨[7], [], [7], [], [], [(7, ⟨0, true, true, false⟩)], by first | (rw [← hF]; kernel_rfl) | kernel_rfl⟩)
  obtain ⟨k, hF⟩ := recO_elim hF
  exact key k _ r hF

/- tabularyref.Number -/
noncomputable def R_Number_v1 (num : Int) : Option (List UInt8) :=
  if (decide (num < 128)) = true then
    some ([toU8 num] : List UInt8)
  else
    ob (R_Number (w64 (Int.tdiv num 128))) fun x =>
    asrt (((([toU8 (w64 ((Int.tmod num 128) + 128))] : List UInt8) ++ x).length : Int) * 1 ≤ 140737488351232) <|
    some (([toU8 (w64 ((Int.tmod num 128) + 128))] : List UInt8) ++ x)
theorem R_Number_v1_ok (num : Int) (r : List UInt8) (hF : R_Number_v1 num = some r) : Pe Try.prog 72 S.none [.i num] (.sl 1 (r.map e_u8)) S.none := by
  refine Pe_of (N := 17) (res := [.tmp 2]) (ts := [25]) Ty.ok Fn.b72 Try.func72 rfl rfl rfl rfl rfl rfl ?_
  intro Q g hfin
  unfold R_Number_v1 at hF
  refine ZRs [] [0] [] [] [] .nil ?_
  refine Wk_seq ?_
  refine ZRs [] [0, 4] [] [] [(4, .bool (decide (num < 128)))] .nil ?_
  refine Wk_split rfl (fun hb => ?_) (fun hb => ?_)
  · have hF := ite_t hF hb
    refine URs [] [2] [] [7] [] [(2, .row 7 0)] [] [(7, .z 5 1 0 (([toU8 num] : List UInt8).map e_u8))] [] .nil ?_
    have hF := some_elim hF
    exact Wk_ret (hfin _ ⟨[], [], [], [], [], [], by first | (rw [← hF]; kernel_rfl) | kernel_rfl⟩)
  · have hF := ite_f hF hb
    refine Wk_skip ?_
    refine Wk_seq ?_
    obtain ⟨x, h0, hF⟩ := ob_elim hF
    obtain ⟨h1, hF⟩ := asrt_elim hF
    refine UR [.callE [] [] [] [] (.row 15 0) ⟨[], [], [(15, .z 5 1 0 (x.map e_u8))], [], []⟩, .xs ((([toU8 (w64 ((Int.tmod num 128) + 128))] : List UInt8) ++ x).map e_u8)] [2] [] [12] [] [(2, .row 12 1)] [] [(12, .z 5 1 1 ((([toU8 (w64 ((Int.tmod num 128) + 128))] : List UInt8) ++ x).map e_u8))] [] (.cons (by decide : (128 : Int) ≠ 0) (.cons (by decide : (128 : Int) ≠ 0) (.cons (Pe.ren (R_Number_ok (w64 (Int.tdiv num 128)) x h0) ⟨[], [(7, 15)], [], []⟩) (.cons (app_ok e_u8 ([toU8 (w64 ((Int.tmod num 128) + 128))] : List UInt8) x) (.cons (appl_ok e_u8 h1) .nil))))) ?_
    have hF := some_elim hF
    exact Wk_ret (hfin _ ⟨[], [], [], [], [], [], by first | (rw [← hF]; kernel_rfl) | kernel_rfl⟩)

/- tabularyref.NumberAt -/
noncomputable def R_NumberAt_J1 (v : Unit) : Option (Int × Int) :=
  some (0, 0)
noncomputable def R_NumberAt_J2 (b : List UInt8) (v1 : Int) (v2 : Int) : Option (Int ⊕ (Int × Int)) :=
  ob (if (decide (v2 ≤ 1000000000)) = true then (R_Number_v1 v2) else some default) fun x =>
  asrt ((decide (v2 ≤ 1000000000)) = true → 0 ≤ v1 ∧ v1 ≤ (b.length : Int)) <|
  lt (R_Same x (ltake b v1)) fun x1 =>
  if ((decide (v2 ≤ 1000000000)) && x1) = true then
    some (Sum.inr (v2, v1))
  else
    some (Sum.inl (w64 (v1 + 1)))
noncomputable def R_NumberAt_B2 (b : List UInt8) (v1 : Int) (v3 : Int × Int) : Option ((Int × Int) ⊕ (Int ⊕ (Int × Int))) :=
  if (decide (0 ≤ v3.2)) = true then
    asrt (0 ≤ v3.2 ∧ v3.2 < (b.length : Int)) <|
    lt (w64 ((w64 (v3.1 * 128)) + (Int.tmod (w64 ((lget b v3.2).toNat : Int)) 128))) fun (v4 : Int) =>
    some (Sum.inl (v4, w64 (v3.2 - 1)))
  else
    inrO (R_NumberAt_J2 b v1 v3.1)
noncomputable def R_NumberAt_L2 (b : List UInt8) (v1 : Int) (v0 : Int × Int) : Option (Int ⊕ (Int × Int)) :=
  loopO (fun y => R_NumberAt_B2 b v1 y) v0
noncomputable def R_NumberAt_B1 (b : List UInt8) (v1 : Int) : Option (Int ⊕ (Int × Int)) :=
  if ((decide (v1 ≤ 5)) && (decide (v1 ≤ (b.length : Int)))) = true then
    R_NumberAt_L2 b v1 (0, w64 (v1 - 1))
  else
    inrO (R_NumberAt_J1 ())
noncomputable def R_NumberAt_L1 (b : List UInt8) (v0 : Int) : Option (Int × Int) :=
  loopO (fun y => R_NumberAt_B1 b y) v0
noncomputable def R_NumberAt (b : List UInt8) : Option (Int × Int) :=
  R_NumberAt_L1 b 1
theorem R_NumberAt_ok (b : List UInt8) (r : Int × Int) (hF : R_NumberAt b = some r) : Pe Try.prog 70 S.none [.sl 1 (b.map e_u8)] (.tup [.i r.1, .i r.2]) S.none := by
  refine Pe_of (N := 44) (res := [.tmp 2, .tmp 3]) (ts := [3, 3]) Ty.ok Fn.b70 Try.func70 rfl rfl rfl rfl rfl rfl ?_
  intro Q g hfin
  unfold R_NumberAt at hF
  refine ZRs [] [0] [] [] [] .nil ?_
  refine Wk_seq ?_
  refine ZRs [] [0, 4] [] [] [(4, .i 1)] .nil ?_
  refine Wk_meetP (fun v : Unit => (⟨[], [], [], [], []⟩ : S)) (fun v => R_NumberAt_J1 v = some r) ?_ ?_
  · refine Wk_block ?_
    unfold R_NumberAt_L1 at hF
    refine Wk_trim (fs := [0, 4]) (bs := []) (rs := []) (ms := []) (aa := []) (nv := []) (t := (fun v1 : Int => (⟨[(0, .sl 1 (b.map e_u8)), (4, .i v1)], [], [], [], []⟩ : S)) 1) (by kernel_rfl) ?_
    refine Wk_iter (step := fun y => R_NumberAt_B1 b y) (r := r) (fun v1 : Int => (⟨[(0, .sl 1 (b.map e_u8)), (4, .i v1)], [], [], [], []⟩ : S)) 1 hF ?_
    intro n1 v1 y1 hF ih1 dn1
    have hF : R_NumberAt_B1 b v1 = some y1 := hF
    unfold R_NumberAt_B1 at hF
    refine Wk_seq ?_
    refine ZRs [.nat (b.length : Int)] [0, 4, 14] [] [] [(14, .bool ((decide (v1 ≤ 5)) && (decide (v1 ≤ (b.length : Int)))))] (.cons (fun (_ : (decide (v1 ≤ 5)) = true) => (len_ok e_u8 b)) .nil) ?_
    refine Wk_split rfl (fun hb => ?_) (fun hb => ?_)
    · have hF := ite_t hF hb
      refine Wk_skip ?_
      refine Wk_seq ?_
      refine Wk_block ?_
      refine ZRs [] [0, 4, 5] [] [] [(5, .i 0)] .nil ?_
      refine Wk_seq ?_
      refine ZRs [] [0, 4, 5, 6] [] [] [(6, .i (w64 (v1 - 1)))] .nil ?_
      refine Wk_meetP (fun v2 : Int => (⟨[(0, .sl 1 (b.map e_u8)), (4, .i v1), (5, .i v2)], [], [], [], []⟩ : S)) (fun v2 => R_NumberAt_J2 b v1 v2 = some y1) ?_ ?_
      · refine Wk_block ?_
        unfold R_NumberAt_L2 at hF
        refine Wk_trim (fs := [0, 4, 5, 6]) (bs := []) (rs := []) (ms := []) (aa := []) (nv := []) (t := (fun v3 : Int × Int => (⟨[(0, .sl 1 (b.map e_u8)), (4, .i v1), (5, .i v3.1), (6, .i v3.2)], [], [], [], []⟩ : S)) (0, w64 (v1 - 1))) (by kernel_rfl) ?_
        refine Wk_iter (step := fun y => R_NumberAt_B2 b v1 y) (r := y1) (fun v3 : Int × Int => (⟨[(0, .sl 1 (b.map e_u8)), (4, .i v1), (5, .i v3.1), (6, .i v3.2)], [], [], [], []⟩ : S)) (0, w64 (v1 - 1)) hF ?_
        intro n2 v3 y2 hF ih2 dn2
        have hF : R_NumberAt_B2 b v1 v3 = some y2 := hF
        unfold R_NumberAt_B2 at hF
        refine Wk_seq ?_
        refine ZRs [] [0, 4, 5, 6, 20] [] [] [(20, .bool (decide (0 ≤ v3.2)))] .nil ?_
        refine Wk_split rfl (fun hb => ?_) (fun hb => ?_)
        · have hF := ite_t hF hb
          refine Wk_skip ?_
          refine Wk_seq ?_
          refine Wk_block ?_
          obtain ⟨h3, hF⟩ := asrt_elim hF
          refine WRL (w64 ((w64 (v3.1 * 128)) + (Int.tmod (w64 ((lget b v3.2).toNat : Int)) 128))) (fun v4 : Int => ⟨[(0, .sl 1 (b.map e_u8)), (4, .i v1), (5, .i v4), (6, .i v3.2)], [], [], [], []⟩) [.av (e_u8 (lget b v3.2))] [0, 4, 5, 6] [] [] [] [] [] (.cons (idx_ok e_u8 h3) (.cons (by decide : (128 : Int) ≠ 0) .nil)) (by kernel_rfl) (fun v4 hv => ?_)
          have hF := lt_elim hF hv
          refine Wk_blk ?_
          refine ZR [] [0, 4, 5, 6] [] [] [(6, .i (w64 (v3.2 - 1)))] .nil ?_
          refine Wk_trim (fs := [0, 4, 5, 6]) (bs := []) (rs := []) (ms := []) (aa := []) (nv := []) ?_ (ih2 _ (some_elim hF).symm)
          kernel_rfl
        · have hF := ite_f hF hb
          refine Wk_exit rfl ?_
          have hF := inrO_done hF dn2
          exact Wk_metP v3.1 [0, 4, 5] [] [] [] [] [] hF (by kernel_rfl)
      · intro v2 hF
        have hF : R_NumberAt_J2 b v1 v2 = some y1 := hF
        unfold R_NumberAt_J2 at hF
        refine Wk_seq ?_
        obtain ⟨x, h0, hF⟩ := ob_elim hF
        obtain ⟨h1, hF⟩ := asrt_elim hF
        obtain ⟨x1, h2, hF⟩ := lt_split hF
        refine ZD [.call (.sl 1 (x.map e_u8)), .xs ((ltake b v1).map e_u8), .callB (.bool x1)] [0, 4, 5, 41] [] [] [(41, .bool ((decide (v2 ≤ 1000000000)) && x1))] (.cons (fun (ga0 : (decide (v2 ≤ 1000000000)) = true) => (R_Number_v1_ok v2 x (ite_t h0 ga0))) (.cons (fun (ga0 : (decide (v2 ≤ 1000000000)) = true) => (sl01_ok e_u8 (h1 ga0))) (.cons (fun (ga0 : (decide (v2 ≤ 1000000000)) = true) => (R_Same_ok x (ltake b v1) x1 h2)) .nil))) ?_
        refine Wk_split rfl (fun hb => ?_) (fun hb => ?_)
        · have hF := ite_t hF hb
          refine ZRs [] [2, 3] [] [] [(2, .i v2), (3, .i v1)] .nil ?_
          have hF := ret_done hF dn1
          have hF := some_elim hF
          exact Wk_ret (hfin _ ⟨[], [], [], [], [], [], by first | (rw [← hF]; kernel_rfl) | kernel_rfl⟩)
        · have hF := ite_f hF hb
          refine Wk_skip ?_
          refine Wk_blk ?_
          refine ZR [] [0, 4] [] [] [(4, .i (w64 (v1 + 1)))] .nil ?_
          refine Wk_trim (fs := [0, 4]) (bs := []) (rs := []) (ms := []) (aa := []) (nv := []) ?_ (ih1 _ (some_elim hF).symm)
          kernel_rfl
    · have hF := ite_f hF hb
      refine Wk_exit rfl ?_
      have hF := inrO_done hF dn1
      exact Wk_metP () [] [] [] [] [] [] hF (by kernel_rfl)
  · intro v hF
    have hF : R_NumberAt_J1 v = some r := hF
    unfold R_NumberAt_J1 at hF
    refine ZRs [] [2, 3] [] [] [(2, .i 0), (3, .i 0)] .nil ?_
    have hF := some_elim hF
    exact Wk_ret (hfin _ ⟨[], [], [], [], [], [], by first | (rw [← hF]; kernel_rfl) | kernel_rfl⟩)

/- tabularyref.CellCode -/
noncomputable def R_CellCode (c : Cell) : Int :=
  if ((((decide (c.Row = ([] : List UInt8))) || (decide (40 < (c.Row.length : Int)))) || (decide (40 < (c.Col.length : Int)))) || (decide (200 < (c.Value.length : Int)))) = true then
    8
  else
    if ((decide (c.Time < 0)) || (decide (1000000000 < c.Time))) = true then
      3
    else
      if (c.Gone && (!decide (c.Value = ([] : List UInt8)))) = true then
        5
      else
        0
theorem R_CellCode_ok (c : Cell) (r : Int) (hF : R_CellCode c = r) : Pe Try.prog 82 S.none [.agg (c_Cell c)] (.i r) S.none := by
  refine Pe_of (N := 39) (res := [.tmp 2]) (ts := [3]) Ty.ok Fn.b82 Try.func82 rfl rfl rfl rfl rfl rfl ?_
  intro Q g hfin
  unfold R_CellCode at hF
  refine URs [] [1] [1] [] [] [(1, .ptr 1 0)] [(1, (c_Cell c))] [] [] .nil ?_
  refine Wk_seq ?_
  refine ZRs [] [1, 23] [1] [] [(23, .bool ((((decide (c.Row = ([] : List UInt8))) || (decide (40 < (c.Row.length : Int)))) || (decide (40 < (c.Col.length : Int)))) || (decide (200 < (c.Value.length : Int)))))] .nil ?_
  refine Wk_split rfl (fun hb => ?_) (fun hb => ?_)
  · have hF := ite_t hF hb
    refine ZRs [] [2] [] [] [(2, .i 8)] .nil ?_
    exact Wk_ret (hfin _ ⟨[], [], [], [], [], [], by first | (rw [← hF]; kernel_rfl) | kernel_rfl⟩)
  · have hF := ite_f hF hb
    refine Wk_skip ?_
    refine Wk_seq ?_
    refine ZRs [] [1, 31] [1] [] [(31, .bool ((decide (c.Time < 0)) || (decide (1000000000 < c.Time))))] .nil ?_
    refine Wk_split rfl (fun hb => ?_) (fun hb => ?_)
    · have hF := ite_t hF hb
      refine ZRs [] [2] [] [] [(2, .i 3)] .nil ?_
      exact Wk_ret (hfin _ ⟨[], [], [], [], [], [], by first | (rw [← hF]; kernel_rfl) | kernel_rfl⟩)
    · have hF := ite_f hF hb
      refine Wk_skip ?_
      refine Wk_seq ?_
      refine ZRs [] [38] [] [] [(38, .bool (c.Gone && (!decide (c.Value = ([] : List UInt8)))))] .nil ?_
      refine Wk_split rfl (fun hb => ?_) (fun hb => ?_)
      · have hF := ite_t hF hb
        refine ZRs [] [2] [] [] [(2, .i 5)] .nil ?_
        exact Wk_ret (hfin _ ⟨[], [], [], [], [], [], by first | (rw [← hF]; kernel_rfl) | kernel_rfl⟩)
      · have hF := ite_f hF hb
        refine Wk_skip ?_
        refine ZRs [] [2] [] [] [(2, .i 0)] .nil ?_
        exact Wk_ret (hfin _ ⟨[], [], [], [], [], [], by first | (rw [← hF]; kernel_rfl) | kernel_rfl⟩)

/- tabularyref.CellAt -/
noncomputable def R_CellAt_J1 (v : Cell × List (List UInt8) × List Int × Int) : Option (Cell × Int) :=
  asrt (0 ≤ (0 : Int) ∧ 0 < (v.2.1.length : Int)) <|
  asrt (0 ≤ (0 : Int) ∧ 0 < (v.2.1.length : Int)) <|
  asrt (0 ≤ (1 : Int) ∧ 1 < (v.2.1.length : Int)) <|
  asrt (0 ≤ (1 : Int) ∧ 1 < (v.2.1.length : Int)) <|
  asrt (0 ≤ (0 : Int) ∧ 0 < (v.2.2.1.length : Int)) <|
  asrt (0 ≤ (0 : Int) ∧ 0 < (v.2.2.1.length : Int)) <|
  asrt (0 ≤ (1 : Int) ∧ 1 < (v.2.2.1.length : Int)) <|
  asrt (0 ≤ (1 : Int) ∧ 1 < (v.2.2.1.length : Int)) <|
  asrt (0 ≤ (2 : Int) ∧ 2 < (v.2.1.length : Int)) <|
  asrt (0 ≤ (2 : Int) ∧ 2 < (v.2.1.length : Int)) <|
  asrt (0 ≤ (1 : Int) ∧ 1 < (v.2.2.1.length : Int)) <|
  asrt (0 ≤ (1 : Int) ∧ 1 < (v.2.2.1.length : Int)) <|
  lt (R_CellCode (⟨(lget v.2.1 0), (lget v.2.1 1), (lget v.2.2.1 0), decide ((lget v.2.2.1 1) = 1), (lget v.2.1 2)⟩ : Cell)) fun x =>
  if ((decide (1 < (lget v.2.2.1 1))) || (!decide (x = 0))) = true then
    some ((⟨([] : List UInt8), ([] : List UInt8), 0, false, ([] : List UInt8)⟩ : Cell), 0)
  else
    some ((⟨(lget v.2.1 0), (lget v.2.1 1), (lget v.2.2.1 0), decide ((lget v.2.2.1 1) = 1), (lget v.2.1 2)⟩ : Cell), v.2.2.2)
noncomputable def R_CellAt_J2 (v1 : Cell × List (List UInt8) × List Int × Int × Int) (v2 : Cell × List (List UInt8) × List Int × Int) : Option ((Cell × List (List UInt8) × List Int × Int × Int) ⊕ (Cell × Int)) :=
  some (Sum.inl (v2.1, v2.2.1, v2.2.2.1, v2.2.2.2, w64 (v1.2.2.2.2 + 1)))
noncomputable def R_CellAt_B1 (b : List UInt8) (v1 : Cell × List (List UInt8) × List Int × Int × Int) : Option ((Cell × List (List UInt8) × List Int × Int × Int) ⊕ (Cell × Int)) :=
  if (decide (v1.2.2.2.2 < 5)) = true then
    asrt (0 ≤ v1.2.2.2.1 ∧ v1.2.2.2.1 ≤ (b.length : Int)) <|
    ob (R_NumberAt (ldrop b v1.2.2.2.1)) fun x1 =>
    if (decide (x1.2 = 0)) = true then
      some (Sum.inr ((⟨([] : List UInt8), ([] : List UInt8), 0, false, ([] : List UInt8)⟩ : Cell), 0))
    else
      if ((decide (v1.2.2.2.2 = 2)) || (decide (v1.2.2.2.2 = 3))) = true then
        asrt (((v1.2.2.1 ++ ([x1.1] : List Int)).length : Int) * 8 ≤ 140737488351232) <|
        R_CellAt_J2 v1 (v1.1, v1.2.1, (v1.2.2.1 ++ ([x1.1] : List Int)), w64 (v1.2.2.2.1 + x1.2))
      else
        if (decide ((w64 ((b.length : Int) - (w64 (v1.2.2.2.1 + x1.2)))) < x1.1)) = true then
          some (Sum.inr ((⟨([] : List UInt8), ([] : List UInt8), 0, false, ([] : List UInt8)⟩ : Cell), 0))
        else
          asrt (0 ≤ w64 (v1.2.2.2.1 + x1.2) ∧ w64 (v1.2.2.2.1 + x1.2) ≤ w64 ((w64 (v1.2.2.2.1 + x1.2)) + x1.1) ∧ w64 ((w64 (v1.2.2.2.1 + x1.2)) + x1.1) ≤ (b.length : Int)) <|
          asrt (((v1.2.1 ++ ([(ldrop (ltake b (w64 ((w64 (v1.2.2.2.1 + x1.2)) + x1.1))) (w64 (v1.2.2.2.1 + x1.2)))] : List (List UInt8))).length : Int) * 16 ≤ 140737488351232) <|
          lt ((v1.2.1 ++ ([(ldrop (ltake b (w64 ((w64 (v1.2.2.2.1 + x1.2)) + x1.1))) (w64 (v1.2.2.2.1 + x1.2)))] : List (List UInt8)))) fun (v3 : List (List UInt8)) =>
          R_CellAt_J2 v1 (v1.1, v3, v1.2.2.1, w64 ((w64 (v1.2.2.2.1 + x1.2)) + x1.1))
  else
    inrO (R_CellAt_J1 (v1.1, v1.2.1, v1.2.2.1, v1.2.2.2.1))
noncomputable def R_CellAt_L1 (b : List UInt8) (v0 : Cell × List (List UInt8) × List Int × Int × Int) : Option (Cell × Int) :=
  loopO (fun y => R_CellAt_B1 b y) v0
noncomputable def R_CellAt (b : List UInt8) : Option (Cell × Int) :=
  R_CellAt_L1 b ((⟨([] : List UInt8), ([] : List UInt8), 0, false, ([] : List UInt8)⟩ : Cell), ([] : List (List UInt8)), ([] : List Int), 0, 0)
theorem R_CellAt_ok (b : List UInt8) (r : Cell × Int) (hF : R_CellAt b = some r) : Pe Try.prog 107 S.none [.sl 1 (b.map e_u8)] (.tup [.agg (c_Cell r.1), .i r.2]) S.none := by
  refine Pe_of (N := 87) (res := [.cell 2 96, .tmp 3]) (ts := [96, 3]) Ty.ok Fn.b107 Try.func107 rfl rfl rfl rfl rfl rfl ?_
  intro Q g hfin
  unfold R_CellAt at hF
  refine URs [] [0, 2] [2] [] [] [(2, .ptr 2 0)] [(2, [.str [], .str [], .i 0, .bool false, .str []])] [] [] .nil ?_
  refine ZRs [] [0, 2, 4] [2] [] [(4, .nils)] .nil ?_
  refine ZRs [] [0, 2, 4, 5] [2] [] [(5, .nils)] .nil ?_
  refine ZRs [] [0, 2, 4, 5, 6] [2] [] [(6, .i 0)] .nil ?_
  refine Wk_seq ?_
  refine ZRs [] [0, 2, 4, 5, 6, 7] [2] [] [(7, .i 0)] .nil ?_
  refine Wk_meetP (fun v : Cell × List (List UInt8) × List Int × Int => (⟨[(2, .ptr 2 0), (4, .row 54 0), (5, .row 37 0), (6, .i v.2.2.2)], [(2, (c_Cell v.1))], [(37, .z 3 1 0 (v.2.2.1.map e_i64)), (54, .z 9 1 0 (v.2.1.map e_str))], [], []⟩ : S)) (fun v => R_CellAt_J1 v = some r) ?_ ?_
  · refine Wk_block ?_
    unfold R_CellAt_L1 at hF
    refine Wk_nilrow 4 60000 9 1 rfl rfl rfl ?_
    refine Wk_nilrow 5 60001 3 1 rfl rfl rfl ?_
    refine Wk_trim (fs := [0, 2, 4, 5, 6, 7]) (bs := [2]) (rs := [60000, 60001]) (ms := []) (aa := []) (nv := []) rfl ?_
    refine Wk_ren' ⟨[], [(60000, 54), (60001, 37)], [], []⟩ rfl ?_
    refine Wk_trim (fs := [0, 2, 4, 5, 6, 7]) (bs := [2]) (rs := [37, 54]) (ms := []) (aa := []) (nv := []) (t := (fun v1 : Cell × List (List UInt8) × List Int × Int × Int => (⟨[(0, .sl 1 (b.map e_u8)), (2, .ptr 2 0), (4, .row 54 0), (5, .row 37 0), (6, .i v1.2.2.2.1), (7, .i v1.2.2.2.2)], [(2, (c_Cell v1.1))], [(37, .z 3 1 0 (v1.2.2.1.map e_i64)), (54, .z 9 1 0 (v1.2.1.map e_str))], [], []⟩ : S)) ((⟨([] : List UInt8), ([] : List UInt8), 0, false, ([] : List UInt8)⟩ : Cell), ([] : List (List UInt8)), ([] : List Int), 0, 0)) (by kernel_rfl) ?_
    refine Wk_iter (step := fun y => R_CellAt_B1 b y) (r := r) (fun v1 : Cell × List (List UInt8) × List Int × Int × Int => (⟨[(0, .sl 1 (b.map e_u8)), (2, .ptr 2 0), (4, .row 54 0), (5, .row 37 0), (6, .i v1.2.2.2.1), (7, .i v1.2.2.2.2)], [(2, (c_Cell v1.1))], [(37, .z 3 1 0 (v1.2.2.1.map e_i64)), (54, .z 9 1 0 (v1.2.1.map e_str))], [], []⟩ : S)) ((⟨([] : List UInt8), ([] : List UInt8), 0, false, ([] : List UInt8)⟩ : Cell), ([] : List (List UInt8)), ([] : List Int), 0, 0) hF ?_
    intro n1 v1 y1 hF ih1 dn1
    have hF : R_CellAt_B1 b v1 = some y1 := hF
    unfold R_CellAt_B1 at hF
    refine Wk_seq ?_
    refine ZRs [] [0, 2, 4, 5, 6, 7, 12] [2] [37, 54] [(12, .bool (decide (v1.2.2.2.2 < 5)))] .nil ?_
    refine Wk_split rfl (fun hb => ?_) (fun hb => ?_)
    · have hF := ite_t hF hb
      refine Wk_skip ?_
      refine Wk_seq ?_
      refine Wk_meetP (fun v2 : Cell × List (List UInt8) × List Int × Int => (⟨[(0, .sl 1 (b.map e_u8)), (2, .ptr 2 0), (4, .row 54 0), (5, .row 37 0), (6, .i v2.2.2.2), (7, .i v1.2.2.2.2)], [(2, (c_Cell v2.1))], [(37, .z 3 1 0 (v2.2.2.1.map e_i64)), (54, .z 9 1 0 (v2.2.1.map e_str))], [], []⟩ : S)) (fun v2 => R_CellAt_J2 v1 v2 = some y1) ?_ ?_
      · refine Wk_block ?_
        refine Wk_seq ?_
        obtain ⟨h13, hF⟩ := asrt_elim hF
        obtain ⟨x1, h14, hF⟩ := ob_elim hF
        refine ZR [.xs ((ldrop b v1.2.2.2.1).map e_u8), .callB (.tup [.i x1.1, .i x1.2])] [0, 2, 4, 5, 6, 7, 8, 9] [2] [37, 54] [(8, .i x1.1), (9, .i x1.2)] (.cons (sl10_ok e_u8 h13) (.cons (R_NumberAt_ok (ldrop b v1.2.2.2.1) x1 h14) .nil)) ?_
        refine Wk_seq ?_
        refine ZRs [] [0, 2, 4, 5, 6, 7, 8, 9, 23] [2] [37, 54] [(23, .bool (decide (x1.2 = 0)))] .nil ?_
        refine Wk_split rfl (fun hb => ?_) (fun hb => ?_)
        · have hF := ite_t hF hb
          refine URs [] [2, 3] [2] [] [] [(3, .i 0)] [(2, [.str [], .str [], .i 0, .bool false, .str []])] [] [] .nil ?_
          have hF := ret_done hF dn1
          have hF := some_elim hF
          exact Wk_ret (hfin _ ⟨[], [], [], [], [], [], by first | (rw [← hF]; kernel_rfl) | kernel_rfl⟩)
        · have hF := ite_f hF hb
          refine Wk_skip ?_
          refine ZRs [] [0, 2, 4, 5, 6, 7, 8] [2] [37, 54] [(6, .i (w64 (v1.2.2.2.1 + x1.2)))] .nil ?_
          refine Wk_seq ?_
          refine ZRs [] [0, 2, 4, 5, 6, 7, 8, 33] [2] [37, 54] [(33, .bool ((decide (v1.2.2.2.2 = 2)) || (decide (v1.2.2.2.2 = 3))))] .nil ?_
          refine Wk_split rfl (fun hb => ?_) (fun hb => ?_)
          · have hF := ite_t hF hb
            refine Wk_seq ?_
            obtain ⟨h15, hF⟩ := asrt_elim hF
            refine UR [.sealed, .xs ((v1.2.2.1 ++ ([x1.1] : List Int)).map e_i64)] [0, 2, 4, 5, 6, 7] [2] [37, 54] [] [(5, .row 37 1)] [] [(37, .z 3 1 1 ((v1.2.2.1 ++ ([x1.1] : List Int)).map e_i64))] [] (.cons (app_ok e_i64 v1.2.2.1 ([x1.1] : List Int)) (.cons (appl_ok e_i64 h15) .nil)) ?_
            refine Wk_exit rfl ?_
            exact Wk_metP (v1.1, v1.2.1, (v1.2.2.1 ++ ([x1.1] : List Int)), w64 (v1.2.2.2.1 + x1.2)) [0, 2, 4, 5, 6, 7] [2] [37, 54] [] [] [(37, ⟨0, true, true, false⟩)] hF (by kernel_rfl)
          · have hF := ite_f hF hb
            refine Wk_skip ?_
            refine Wk_seq ?_
            refine ZRs [.nat (b.length : Int)] [0, 2, 4, 5, 6, 7, 8, 43] [2] [37, 54] [(43, .bool (decide ((w64 ((b.length : Int) - (w64 (v1.2.2.2.1 + x1.2)))) < x1.1)))] (.cons (len_ok e_u8 b) .nil) ?_
            refine Wk_split rfl (fun hb => ?_) (fun hb => ?_)
            · have hF := ite_t hF hb
              refine URs [] [2, 3] [2] [] [] [(3, .i 0)] [(2, [.str [], .str [], .i 0, .bool false, .str []])] [] [] .nil ?_
              have hF := ret_done hF dn1
              have hF := some_elim hF
              exact Wk_ret (hfin _ ⟨[], [], [], [], [], [], by first | (rw [← hF]; kernel_rfl) | kernel_rfl⟩)
            · have hF := ite_f hF hb
              refine Wk_skip ?_
              refine Wk_seq ?_
              obtain ⟨h16, hF⟩ := asrt_elim hF
              obtain ⟨h17, hF⟩ := asrt_elim hF
              refine WRL ((v1.2.1 ++ ([(ldrop (ltake b (w64 ((w64 (v1.2.2.2.1 + x1.2)) + x1.1))) (w64 (v1.2.2.2.1 + x1.2)))] : List (List UInt8)))) (fun v3 : List (List UInt8) => ⟨[(0, .sl 1 (b.map e_u8)), (2, .ptr 2 0), (4, .row 54 1), (5, .row 37 0), (6, .i (w64 (v1.2.2.2.1 + x1.2))), (7, .i v1.2.2.2.2), (8, .i x1.1)], [(2, (c_Cell v1.1))], [(37, .z 3 1 0 (v1.2.2.1.map e_i64)), (54, .z 9 1 1 (v3.map e_str))], [], []⟩) [.xs ((ldrop (ltake b (w64 ((w64 (v1.2.2.2.1 + x1.2)) + x1.1))) (w64 (v1.2.2.2.1 + x1.2))).map e_u8), .str (ldrop (ltake b (w64 ((w64 (v1.2.2.2.1 + x1.2)) + x1.1))) (w64 (v1.2.2.2.1 + x1.2))), .sealed, .xs ((v1.2.1 ++ ([(ldrop (ltake b (w64 ((w64 (v1.2.2.2.1 + x1.2)) + x1.1))) (w64 (v1.2.2.2.1 + x1.2)))] : List (List UInt8))).map e_str)] [0, 2, 4, 5, 6, 7, 8] [2] [37, 54] [] [] [] (.cons (sl11_ok e_u8 h16) (.cons (u8s_ok (ldrop (ltake b (w64 ((w64 (v1.2.2.2.1 + x1.2)) + x1.1))) (w64 (v1.2.2.2.1 + x1.2)))) (.cons (app_ok e_str v1.2.1 ([(ldrop (ltake b (w64 ((w64 (v1.2.2.2.1 + x1.2)) + x1.1))) (w64 (v1.2.2.2.1 + x1.2)))] : List (List UInt8))) (.cons (appl_ok e_str h17) .nil)))) (by kernel_rfl) (fun v3 hv => ?_)
              have hF := lt_elim hF hv
              refine ZR [] [0, 2, 4, 5, 6, 7] [2] [37, 54] [(6, .i (w64 ((w64 (v1.2.2.2.1 + x1.2)) + x1.1)))] .nil ?_
              refine Wk_blk ?_
              exact Wk_metP (v1.1, v3, v1.2.2.1, w64 ((w64 (v1.2.2.2.1 + x1.2)) + x1.1)) [0, 2, 4, 5, 6, 7] [2] [37, 54] [] [] [(54, ⟨0, true, true, false⟩)] hF (by kernel_rfl)
      · intro v2 hF
        have hF : R_CellAt_J2 v1 v2 = some y1 := hF
        unfold R_CellAt_J2 at hF
        refine ZR [] [0, 2, 4, 5, 6, 7] [2] [37, 54] [(7, .i (w64 (v1.2.2.2.2 + 1)))] .nil ?_
        refine Wk_trim (fs := [0, 2, 4, 5, 6, 7]) (bs := [2]) (rs := [37, 54]) (ms := []) (aa := []) (nv := []) ?_ (ih1 _ (some_elim hF).symm)
        kernel_rfl
    · have hF := ite_f hF hb
      refine Wk_exit rfl ?_
      have hF := inrO_done hF dn1
      exact Wk_metP (v1.1, v1.2.1, v1.2.2.1, v1.2.2.2.1) [2, 4, 5, 6] [2] [37, 54] [] [] [] hF (by kernel_rfl)
  · intro v hF
    have hF : R_CellAt_J1 v = some r := hF
    unfold R_CellAt_J1 at hF
    refine Wk_seq ?_
    obtain ⟨h0, hF⟩ := asrt_elim hF
    obtain ⟨h1, hF⟩ := asrt_elim hF
    obtain ⟨h2, hF⟩ := asrt_elim hF
    obtain ⟨h3, hF⟩ := asrt_elim hF
    obtain ⟨h4, hF⟩ := asrt_elim hF
    obtain ⟨h5, hF⟩ := asrt_elim hF
    obtain ⟨h6, hF⟩ := asrt_elim hF
    obtain ⟨h7, hF⟩ := asrt_elim hF
    obtain ⟨h8, hF⟩ := asrt_elim hF
    obtain ⟨h9, hF⟩ := asrt_elim hF
    refine UD [.av (e_str (lget v.2.1 0)), .av (e_str (lget v.2.1 1)), .av (e_i64 (lget v.2.2.1 0)), .av (e_i64 (lget v.2.2.1 1)), .av (e_str (lget v.2.1 2))] [2, 5, 6, 10] [2, 10] [37] [] [(10, .ptr 10 0)] [(10, [.str (lget v.2.1 0), .str (lget v.2.1 1), .i (lget v.2.2.1 0), .bool (decide ((lget v.2.2.1 1) = 1)), .str (lget v.2.1 2)])] [] [] (.cons (ixr_ok e_str h0) (.cons (ldr_ok e_str h1) (.cons (ixr_ok e_str h2) (.cons (ldr_ok e_str h3) (.cons (ixr_ok e_i64 h4) (.cons (ldr_ok e_i64 h5) (.cons (ixr_ok e_i64 h6) (.cons (ldr_ok e_i64 h7) (.cons (ixr_ok e_str h8) (.cons (ldr_ok e_str h9) .nil)))))))))) ?_
    refine Wk_seq ?_
    refine Wk_seq ?_
    obtain ⟨h10, hF⟩ := asrt_elim hF
    obtain ⟨h11, hF⟩ := asrt_elim hF
    obtain ⟨x, h12, hF⟩ := lt_split hF
    refine ZR [.av (e_i64 (lget v.2.2.1 1)), .callB (.i x)] [2, 6, 10, 83] [2, 10] [] [(83, .bool ((decide (1 < (lget v.2.2.1 1))) || (!decide (x = 0))))] (.cons (ixr_ok e_i64 h10) (.cons (ldr_ok e_i64 h11) (.cons (fun (ga0 : (!(decide (1 < (lget v.2.2.1 1)))) = true) => (R_CellCode_ok (⟨(lget v.2.1 0), (lget v.2.1 1), (lget v.2.2.1 0), decide ((lget v.2.2.1 1) = 1), (lget v.2.1 2)⟩ : Cell) x h12)) .nil))) ?_
    refine Wk_split rfl (fun hb => ?_) (fun hb => ?_)
    · have hF := ite_t hF hb
      refine URs [] [2, 3] [2] [] [] [(3, .i 0)] [(2, [.str [], .str [], .i 0, .bool false, .str []])] [] [] .nil ?_
      have hF := some_elim hF
      exact Wk_ret (hfin _ ⟨[], [], [], [], [], [], by first | (rw [← hF]; kernel_rfl) | kernel_rfl⟩)
    · have hF := ite_f hF hb
      refine Wk_skip ?_
      refine URs [] [2, 3] [2] [] [] [(3, .i v.2.2.2)] [(2, [.str (lget v.2.1 0), .str (lget v.2.1 1), .i (lget v.2.2.1 0), .bool (decide ((lget v.2.2.1 1) = 1)), .str (lget v.2.1 2)])] [] [] .nil ?_
      have hF := some_elim hF
      exact Wk_ret (hfin _ ⟨[], [], [], [], [], [], by first | (rw [← hF]; kernel_rfl) | kernel_rfl⟩)

/- tabularyref.Ahead -/
noncomputable def R_Ahead (a0 : Cell) (b : Cell) : Bool :=
  if (!decide (a0.Row = b.Row)) = true then
    Op.bytesLess a0.Row b.Row
  else
    if (!decide (a0.Col = b.Col)) = true then
      Op.bytesLess a0.Col b.Col
    else
      decide (b.Time < a0.Time)
theorem R_Ahead_ok (a0 : Cell) (b : Cell) (r : Bool) (hF : R_Ahead a0 b = r) : Pe Try.prog 83 S.none [.agg (c_Cell a0), .agg (c_Cell b)] (.bool r) S.none := by
  refine Pe_of (N := 30) (res := [.tmp 4]) (ts := [4]) Ty.ok Fn.b83 Try.func83 rfl rfl rfl rfl rfl rfl ?_
  intro Q g hfin
  unfold R_Ahead at hF
  refine URs [] [2, 3] [2, 3] [] [] [(2, .ptr 2 0), (3, .ptr 3 0)] [(2, (c_Cell a0)), (3, (c_Cell b))] [] [] .nil ?_
  refine Wk_seq ?_
  refine ZRs [] [2, 3, 9] [2, 3] [] [(9, .bool (!decide (a0.Row = b.Row)))] .nil ?_
  refine Wk_split rfl (fun hb => ?_) (fun hb => ?_)
  · have hF := ite_t hF hb
    refine ZRs [] [4] [] [] [(4, .bool (Op.bytesLess a0.Row b.Row))] .nil ?_
    exact Wk_ret (hfin _ ⟨[], [], [], [], [], [], by first | (rw [← hF]; kernel_rfl) | kernel_rfl⟩)
  · have hF := ite_f hF hb
    refine Wk_skip ?_
    refine Wk_seq ?_
    refine ZRs [] [2, 3, 19] [2, 3] [] [(19, .bool (!decide (a0.Col = b.Col)))] .nil ?_
    refine Wk_split rfl (fun hb => ?_) (fun hb => ?_)
    · have hF := ite_t hF hb
      refine ZRs [] [4] [] [] [(4, .bool (Op.bytesLess a0.Col b.Col))] .nil ?_
      exact Wk_ret (hfin _ ⟨[], [], [], [], [], [], by first | (rw [← hF]; kernel_rfl) | kernel_rfl⟩)
    · have hF := ite_f hF hb
      refine Wk_skip ?_
      refine ZRs [] [4] [] [] [(4, .bool (decide (b.Time < a0.Time)))] .nil ?_
      exact Wk_ret (hfin _ ⟨[], [], [], [], [], [], by first | (rw [← hF]; kernel_rfl) | kernel_rfl⟩)

/- tabularyref.CellsFault -/
noncomputable def R_CellsFault_J1 (v : Fault) : Option Fault :=
  some (⟨0, 0⟩ : Fault)
noncomputable def R_CellsFault_B1 (l : List Cell) (v1 : Fault × Int) : Option ((Fault × Int) ⊕ Fault) :=
  if (decide (v1.2 < (l.length : Int))) = true then
    asrt (0 ≤ v1.2 ∧ v1.2 < (l.length : Int)) <|
    lt (R_CellCode (⟨(lget l v1.2).Row, (lget l v1.2).Col, (lget l v1.2).Time, (lget l v1.2).Gone, (lget l v1.2).Value⟩ : Cell)) fun x1 =>
    if (!decide (x1 = 0)) = true then
      lt (R_F x1 v1.2) fun x2 =>
      some (Sum.inr x2)
    else
      asrt ((decide (0 < v1.2)) = true → 0 ≤ w64 (v1.2 - 1) ∧ w64 (v1.2 - 1) < (l.length : Int)) <|
      asrt ((decide (0 < v1.2)) = true → 0 ≤ v1.2 ∧ v1.2 < (l.length : Int)) <|
      lt (R_Ahead (⟨(lget l (w64 (v1.2 - 1))).Row, (lget l (w64 (v1.2 - 1))).Col, (lget l (w64 (v1.2 - 1))).Time, (lget l (w64 (v1.2 - 1))).Gone, (lget l (w64 (v1.2 - 1))).Value⟩ : Cell) (⟨(lget l v1.2).Row, (lget l v1.2).Col, (lget l v1.2).Time, (lget l v1.2).Gone, (lget l v1.2).Value⟩ : Cell)) fun x3 =>
      if ((decide (0 < v1.2)) && (!x3)) = true then
        lt (R_F 10 v1.2) fun x4 =>
        some (Sum.inr x4)
      else
        some (Sum.inl (v1.1, w64 (v1.2 + 1)))
  else
    inrO (R_CellsFault_J1 v1.1)
noncomputable def R_CellsFault_L1 (l : List Cell) (v0 : Fault × Int) : Option Fault :=
  loopO (fun y => R_CellsFault_B1 l y) v0
noncomputable def R_CellsFault (l : List Cell) : Option Fault :=
  if (decide (1000 < (l.length : Int))) = true then
    lt (R_F 2 0) fun x =>
    some x
  else
    R_CellsFault_L1 l ((⟨0, 0⟩ : Fault), 0)
theorem R_CellsFault_ok (l : List Cell) (r : Fault) (hF : R_CellsFault l = some r) : Pe Try.prog 27 S.none [.sl 5 (l.map e_Cell)] (.agg [.i r.Code, .i r.At]) S.none := by
  refine Pe_of (N := 43) (res := [.cell 2 31]) (ts := [31]) Ty.ok Fn.b27 Try.func27 rfl rfl rfl rfl rfl rfl ?_
  intro Q g hfin
  unfold R_CellsFault at hF
  refine URs [] [0, 2] [2] [] [] [(2, .ptr 2 0)] [(2, [.i 0, .i 0])] [] [] .nil ?_
  refine Wk_seq ?_
  refine ZRs [.nat (l.length : Int)] [0, 2, 7] [2] [] [(7, .bool (decide (1000 < (l.length : Int))))] (.cons (len_ok e_Cell l) .nil) ?_
  refine Wk_split rfl (fun hb => ?_) (fun hb => ?_)
  · have hF := ite_t hF hb
    refine Wk_seq ?_
    obtain ⟨x, h0, hF⟩ := lt_split hF
    refine UR [.callB (.agg [.i x.Code, .i x.At])] [2] [2] [] [] [] [(2, [.i x.Code, .i x.At])] [] [] (.cons (R_F_ok 2 0 x h0) .nil) ?_
    have hF := some_elim hF
    exact Wk_ret (hfin _ ⟨[], [], [], [], [], [], by first | (rw [← hF]; kernel_rfl) | kernel_rfl⟩)
  · have hF := ite_f hF hb
    refine Wk_skip ?_
    refine Wk_seq ?_
    refine ZRs [] [0, 2, 3] [2] [] [(3, .i 0)] .nil ?_
    refine Wk_meetP (fun v : Fault => (⟨[(2, .ptr 2 0)], [(2, [.i v.Code, .i v.At])], [], [], []⟩ : S)) (fun v => R_CellsFault_J1 v = some r) ?_ ?_
    · refine Wk_block ?_
      unfold R_CellsFault_L1 at hF
      refine Wk_trim (fs := [0, 2, 3]) (bs := [2]) (rs := []) (ms := []) (aa := []) (nv := []) (t := (fun v1 : Fault × Int => (⟨[(0, .sl 5 (l.map e_Cell)), (2, .ptr 2 0), (3, .i v1.2)], [(2, [.i v1.1.Code, .i v1.1.At])], [], [], []⟩ : S)) ((⟨0, 0⟩ : Fault), 0)) (by kernel_rfl) ?_
      refine Wk_iter (step := fun y => R_CellsFault_B1 l y) (r := r) (fun v1 : Fault × Int => (⟨[(0, .sl 5 (l.map e_Cell)), (2, .ptr 2 0), (3, .i v1.2)], [(2, [.i v1.1.Code, .i v1.1.At])], [], [], []⟩ : S)) ((⟨0, 0⟩ : Fault), 0) hF ?_
      intro n1 v1 y1 hF ih1 dn1
      have hF : R_CellsFault_B1 l v1 = some y1 := hF
      unfold R_CellsFault_B1 at hF
      refine Wk_seq ?_
      refine ZRs [.nat (l.length : Int)] [0, 2, 3, 12] [2] [] [(12, .bool (decide (v1.2 < (l.length : Int))))] (.cons (len_ok e_Cell l) .nil) ?_
      refine Wk_split rfl (fun hb => ?_) (fun hb => ?_)
      · have hF := ite_t hF hb
        refine Wk_skip ?_
        refine Wk_seq ?_
        refine Wk_block ?_
        refine Wk_seq ?_
        obtain ⟨h1, hF⟩ := asrt_elim hF
        obtain ⟨x1, h2, hF⟩ := lt_split hF
        refine ZR [.av (e_Cell (lget l v1.2)), .callB (.i x1)] [0, 2, 3, 4] [2] [] [(4, .i x1)] (.cons (idx_ok e_Cell h1) (.cons (R_CellCode_ok (⟨(lget l v1.2).Row, (lget l v1.2).Col, (lget l v1.2).Time, (lget l v1.2).Gone, (lget l v1.2).Value⟩ : Cell) x1 h2) .nil)) ?_
        refine Wk_seq ?_
        refine ZRs [] [0, 2, 3, 4, 21] [2] [] [(21, .bool (!decide (x1 = 0)))] .nil ?_
        refine Wk_split rfl (fun hb => ?_) (fun hb => ?_)
        · have hF := ite_t hF hb
          refine Wk_seq ?_
          obtain ⟨x2, h3, hF⟩ := lt_split hF
          refine UR [.callB (.agg [.i x2.Code, .i x2.At])] [2] [2] [] [] [] [(2, [.i x2.Code, .i x2.At])] [] [] (.cons (R_F_ok x1 v1.2 x2 h3) .nil) ?_
          have hF := ret_done hF dn1
          have hF := some_elim hF
          exact Wk_ret (hfin _ ⟨[], [], [], [], [], [], by first | (rw [← hF]; kernel_rfl) | kernel_rfl⟩)
        · have hF := ite_f hF hb
          refine Wk_skip ?_
          refine Wk_seq ?_
          obtain ⟨h4, hF⟩ := asrt_elim hF
          obtain ⟨h5, hF⟩ := asrt_elim hF
          obtain ⟨x3, h6, hF⟩ := lt_split hF
          refine ZD [.av (e_Cell (lget l (w64 (v1.2 - 1)))), .av (e_Cell (lget l v1.2)), .callB (.bool x3)] [0, 2, 3, 39] [2] [] [(39, .bool ((decide (0 < v1.2)) && (!x3)))] (.cons (fun (ga0 : (decide (0 < v1.2)) = true) => (idx_ok e_Cell (h4 ga0))) (.cons (fun (ga0 : (decide (0 < v1.2)) = true) => (idx_ok e_Cell (h5 ga0))) (.cons (fun (ga0 : (decide (0 < v1.2)) = true) => (R_Ahead_ok (⟨(lget l (w64 (v1.2 - 1))).Row, (lget l (w64 (v1.2 - 1))).Col, (lget l (w64 (v1.2 - 1))).Time, (lget l (w64 (v1.2 - 1))).Gone, (lget l (w64 (v1.2 - 1))).Value⟩ : Cell) (⟨(lget l v1.2).Row, (lget l v1.2).Col, (lget l v1.2).Time, (lget l v1.2).Gone, (lget l v1.2).Value⟩ : Cell) x3 h6)) .nil))) ?_
          refine Wk_split rfl (fun hb => ?_) (fun hb => ?_)
          · have hF := ite_t hF hb
            refine Wk_seq ?_
            obtain ⟨x4, h7, hF⟩ := lt_split hF
            refine UR [.callB (.agg [.i x4.Code, .i x4.At])] [2] [2] [] [] [] [(2, [.i x4.Code, .i x4.At])] [] [] (.cons (R_F_ok 10 v1.2 x4 h7) .nil) ?_
            have hF := ret_done hF dn1
            have hF := some_elim hF
            exact Wk_ret (hfin _ ⟨[], [], [], [], [], [], by first | (rw [← hF]; kernel_rfl) | kernel_rfl⟩)
          · have hF := ite_f hF hb
            refine Wk_skip ?_
            refine Wk_blk ?_
            refine ZR [] [0, 2, 3] [2] [] [(3, .i (w64 (v1.2 + 1)))] .nil ?_
            refine Wk_trim (fs := [0, 2, 3]) (bs := [2]) (rs := []) (ms := []) (aa := []) (nv := []) ?_ (ih1 _ (some_elim hF).symm)
            kernel_rfl
      · have hF := ite_f hF hb
        refine Wk_exit rfl ?_
        have hF := inrO_done hF dn1
        exact Wk_metP v1.1 [2] [2] [] [] [] [] hF (by kernel_rfl)
    · intro v hF
      have hF : R_CellsFault_J1 v = some r := hF
      unfold R_CellsFault_J1 at hF
      refine URs [] [2] [2] [] [] [] [(2, [.i 0, .i 0])] [] [] .nil ?_
      have hF := some_elim hF
      exact Wk_ret (hfin _ ⟨[], [], [], [], [], [], by first | (rw [← hF]; kernel_rfl) | kernel_rfl⟩)

/- tabularyref.CellsOf -/
noncomputable def R_CellsOf_J1 (v : Fault × List Cell) : Option (List Cell × Fault) :=
  ob (R_CellsFault v.2) fun x1 =>
  if (!decide (x1.Code = 0)) = true then
    some (([] : List Cell), x1)
  else
    some (v.2, (⟨0, 0⟩ : Fault))
noncomputable def R_CellsOf_B1 (v1 : List UInt8 × Fault × List Cell) : Option ((List UInt8 × Fault × List Cell) ⊕ (List Cell × Fault)) :=
  if (decide (0 < (v1.1.length : Int))) = true then
    ob (R_CellAt v1.1) fun x2 =>
    if (decide (x2.2 = 0)) = true then
      lt (R_F 5 (v1.2.2.length : Int)) fun x3 =>
      some (Sum.inr (([] : List Cell), x3))
    else
      asrt (((v1.2.2 ++ [x2.1]).length : Int) * 64 ≤ 140737488351232) <|
      asrt (0 ≤ x2.2 ∧ x2.2 ≤ (v1.1.length : Int)) <|
      some (Sum.inl ((ldrop v1.1 x2.2), v1.2.1, (v1.2.2 ++ [x2.1])))
  else
    inrO (R_CellsOf_J1 (v1.2.1, v1.2.2))
noncomputable def R_CellsOf_L1 (v0 : List UInt8 × Fault × List Cell) : Option (List Cell × Fault) :=
  loopO (fun y => R_CellsOf_B1 y) v0
noncomputable def R_CellsOf (b : List UInt8) : Option (List Cell × Fault) :=
  if (decide (60000 < (b.length : Int))) = true then
    lt (R_F 8 0) fun x =>
    some (([] : List Cell), x)
  else
    R_CellsOf_L1 (b, (⟨0, 0⟩ : Fault), ([] : List Cell))
theorem R_CellsOf_ok (b : List UInt8) (r : List Cell × Fault) (hF : R_CellsOf b = some r) : Pe Try.prog 71 ⟨[], [], [], [], []⟩ [.sl 1 (b.map e_u8)] (.tup [.row 28 0, .agg [.i r.2.Code, .i r.2.At]]) ⟨[], [], [(28, .z 96 5 0 (r.1.map e_Cell))], [], []⟩ := by
  refine Pe_of (N := 40) (res := [.tmp 2, .cell 3 31]) (ts := [22, 31]) Ty.ok Fn.b71 Try.func71 rfl rfl rfl rfl rfl rfl ?_
  intro Q g hfin
  unfold R_CellsOf at hF
  refine URs [] [0, 3] [3] [] [] [(3, .ptr 3 0)] [(3, [.i 0, .i 0])] [] [] .nil ?_
  refine Wk_seq ?_
  refine ZRs [.nat (b.length : Int)] [0, 3, 10] [3] [] [(10, .bool (decide (60000 < (b.length : Int))))] (.cons (len_ok e_u8 b) .nil) ?_
  refine Wk_split rfl (fun hb => ?_) (fun hb => ?_)
  · have hF := ite_t hF hb
    refine Wk_seq ?_
    obtain ⟨x, h0, hF⟩ := lt_split hF
    refine UR [.callB (.agg [.i x.Code, .i x.At])] [2, 3] [3] [] [] [(2, .nils)] [(3, [.i x.Code, .i x.At])] [] [] (.cons (R_F_ok 8 0 x h0) .nil) ?_
    have hF := some_elim hF
    refine Wk_nilrow 2 60000 96 5 rfl rfl rfl ?_
    refine Wk_ren' ⟨[], [(60000, 28)], [], []⟩ rfl ?_
    exact Wk_ret (hfin _ ⟨[28], [], [28], [], [], [], by first | (rw [← hF]; kernel_rfl) | kernel_rfl⟩)
  · have hF := ite_f hF hb
    refine Wk_skip ?_
    refine ZRs [] [0, 3, 4] [3] [] [(4, .nils)] .nil ?_
    refine Wk_seq ?_
    refine Wk_meetP (fun v : Fault × List Cell => (⟨[(3, .ptr 3 0), (4, .row 28 0)], [(3, [.i v.1.Code, .i v.1.At])], [(28, .z 96 5 0 (v.2.map e_Cell))], [], []⟩ : S)) (fun v => R_CellsOf_J1 v = some r) ?_ ?_
    · refine Wk_block ?_
      unfold R_CellsOf_L1 at hF
      refine Wk_nilrow 4 60002 96 5 rfl rfl rfl ?_
      refine Wk_trim (fs := [0, 3, 4]) (bs := [3]) (rs := [60002]) (ms := []) (aa := []) (nv := []) rfl ?_
      refine Wk_ren' ⟨[], [(60002, 28)], [], []⟩ rfl ?_
      refine Wk_trim (fs := [0, 3, 4]) (bs := [3]) (rs := [28]) (ms := []) (aa := []) (nv := []) (t := (fun v1 : List UInt8 × Fault × List Cell => (⟨[(0, .sl 1 (v1.1.map e_u8)), (3, .ptr 3 0), (4, .row 28 0)], [(3, [.i v1.2.1.Code, .i v1.2.1.At])], [(28, .z 96 5 0 (v1.2.2.map e_Cell))], [], []⟩ : S)) (b, (⟨0, 0⟩ : Fault), ([] : List Cell))) (by kernel_rfl) ?_
      refine Wk_iter (step := fun y => R_CellsOf_B1 y) (r := r) (fun v1 : List UInt8 × Fault × List Cell => (⟨[(0, .sl 1 (v1.1.map e_u8)), (3, .ptr 3 0), (4, .row 28 0)], [(3, [.i v1.2.1.Code, .i v1.2.1.At])], [(28, .z 96 5 0 (v1.2.2.map e_Cell))], [], []⟩ : S)) (b, (⟨0, 0⟩ : Fault), ([] : List Cell)) hF ?_
      intro n1 v1 y1 hF ih1 dn1
      have hF : R_CellsOf_B1 v1 = some y1 := hF
      unfold R_CellsOf_B1 at hF
      refine Wk_seq ?_
      refine ZRs [.nat (v1.1.length : Int)] [0, 3, 4, 14] [3] [28] [(14, .bool (decide (0 < (v1.1.length : Int))))] (.cons (len_ok e_u8 v1.1) .nil) ?_
      refine Wk_split rfl (fun hb => ?_) (fun hb => ?_)
      · have hF := ite_t hF hb
        refine Wk_skip ?_
        refine Wk_block ?_
        refine Wk_seq ?_
        obtain ⟨x2, h2, hF⟩ := ob_elim hF
        refine UR [.callB (.tup [.agg (c_Cell x2.1), .i x2.2])] [0, 3, 4, 5, 6] [3, 5] [28] [] [(5, .ptr 5 0), (6, .i x2.2)] [(5, (c_Cell x2.1))] [] [] (.cons (R_CellAt_ok v1.1 x2 h2) .nil) ?_
        refine Wk_seq ?_
        refine ZRs [] [0, 3, 4, 5, 6, 21] [3, 5] [28] [(21, .bool (decide (x2.2 = 0)))] .nil ?_
        refine Wk_split rfl (fun hb => ?_) (fun hb => ?_)
        · have hF := ite_t hF hb
          refine Wk_seq ?_
          obtain ⟨x3, h3, hF⟩ := lt_split hF
          refine UR [.nat (v1.2.2.length : Int), .callB (.agg [.i x3.Code, .i x3.At])] [2, 3] [3] [] [] [(2, .nils)] [(3, [.i x3.Code, .i x3.At])] [] [] (.cons (len_ok e_Cell v1.2.2) (.cons (R_F_ok 5 (v1.2.2.length : Int) x3 h3) .nil)) ?_
          have hF := ret_done hF dn1
          have hF := some_elim hF
          refine Wk_nilrow 2 60003 96 5 rfl rfl rfl ?_
          refine Wk_ren' ⟨[], [(60003, 28)], [], []⟩ rfl ?_
          exact Wk_ret (hfin _ ⟨[28], [], [28], [], [], [], by first | (rw [← hF]; kernel_rfl) | kernel_rfl⟩)
        · have hF := ite_f hF hb
          refine Wk_skip ?_
          refine Wk_seq ?_
          obtain ⟨h4, hF⟩ := asrt_elim hF
          refine UR [.sealed, .xs ((v1.2.2 ++ [x2.1]).map e_Cell)] [0, 3, 4, 6] [3] [28] [] [(4, .row 28 1)] [] [(28, .z 96 5 1 ((v1.2.2 ++ [x2.1]).map e_Cell))] [] (.cons (app_ok e_Cell v1.2.2 [x2.1]) (.cons (appl_ok e_Cell h4) .nil)) ?_
          obtain ⟨h5, hF⟩ := asrt_elim hF
          refine ZR [.xs ((ldrop v1.1 x2.2).map e_u8)] [0, 3, 4] [3] [28] [(0, .sl 1 ((ldrop v1.1 x2.2).map e_u8))] (.cons (sl10_ok e_u8 h5) .nil) ?_
          refine Wk_blk ?_
          refine Wk_trim (fs := [0, 3, 4]) (bs := [3]) (rs := [28]) (ms := []) (aa := []) (nv := [(28, ⟨0, true, true, false⟩)]) ?_ (ih1 _ (some_elim hF).symm)
          kernel_rfl
      · have hF := ite_f hF hb
        refine Wk_exit rfl ?_
        have hF := inrO_done hF dn1
        exact Wk_metP (v1.2.1, v1.2.2) [3, 4] [3] [28] [] [] [] hF (by kernel_rfl)
    · intro v hF
      have hF : R_CellsOf_J1 v = some r := hF
      unfold R_CellsOf_J1 at hF
      refine Wk_seq ?_
      obtain ⟨x1, h1, hF⟩ := ob_elim hF
      refine UR [.callB (.agg [.i x1.Code, .i x1.At])] [3, 4, 7] [3, 7] [28] [] [(7, .ptr 7 0)] [(7, [.i x1.Code, .i x1.At])] [] [] (.cons (R_CellsFault_ok v.2 x1 h1) .nil) ?_
      refine Wk_seq ?_
      refine ZRs [] [3, 4, 7, 36] [3, 7] [28] [(36, .bool (!decide (x1.Code = 0)))] .nil ?_
      refine Wk_split rfl (fun hb => ?_) (fun hb => ?_)
      · have hF := ite_t hF hb
        refine UDs [] [2, 3] [3] [] [] [(2, .nils)] [(3, [.i x1.Code, .i x1.At])] [] [] .nil ?_
        have hF := some_elim hF
        refine Wk_nilrow 2 60001 96 5 rfl rfl rfl ?_
        refine Wk_ren' ⟨[], [(60001, 28)], [], []⟩ rfl ?_
        exact Wk_ret (hfin _ ⟨[28], [], [28], [], [], [], by first | (rw [← hF]; kernel_rfl) | kernel_rfl⟩)
      · have hF := ite_f hF hb
        refine Wk_skip ?_
        refine URs [] [2, 3] [3] [28] [] [(2, .row 28 0)] [(3, [.i 0, .i 0])] [] [] .nil ?_
        have hF := some_elim hF
        exact Wk_ret (hfin _ ⟨[28], [], [28], [], [], [], by first | (rw [← hF]; kernel_rfl) | kernel_rfl⟩)

/- tabularyref.NoteFault -/
noncomputable def R_NoteFault (num : Note) : Option Fault :=
  if ((decide (num.Seq < 1)) || (decide (1000000000 < num.Seq))) = true then
    lt (R_F 3 (-1)) fun x =>
    some x
  else
    if ((decide ((num.Cells.length : Int) = 0)) || (decide (20 < (num.Cells.length : Int)))) = true then
      lt (R_F 2 (-1)) fun x1 =>
      some x1
    else
      ob (R_CellsFault num.Cells) fun x2 =>
      some x2
theorem R_NoteFault_ok (num : Note) (r : Fault) (hF : R_NoteFault num = some r) : Pe Try.prog 21 S.none [.agg [.i num.Seq, .sl 5 (num.Cells.map e_Cell)]] (.agg [.i r.Code, .i r.At]) S.none := by
  refine Pe_of (N := 26) (res := [.cell 2 31]) (ts := [31]) Ty.ok Fn.b21 Try.func21 rfl rfl rfl rfl rfl rfl ?_
  intro Q g hfin
  unfold R_NoteFault at hF
  refine URs [] [1, 2] [1, 2] [] [] [(1, .ptr 1 0), (2, .ptr 2 0)] [(1, [.i num.Seq, .sl 5 (num.Cells.map e_Cell)]), (2, [.i 0, .i 0])] [] [] .nil ?_
  refine Wk_seq ?_
  refine ZRs [] [1, 2, 10] [1, 2] [] [(10, .bool ((decide (num.Seq < 1)) || (decide (1000000000 < num.Seq))))] .nil ?_
  refine Wk_split rfl (fun hb => ?_) (fun hb => ?_)
  · have hF := ite_t hF hb
    refine Wk_seq ?_
    obtain ⟨x, h0, hF⟩ := lt_split hF
    refine UR [.callB (.agg [.i x.Code, .i x.At])] [2] [2] [] [] [] [(2, [.i x.Code, .i x.At])] [] [] (.cons (R_F_ok 3 (-1) x h0) .nil) ?_
    have hF := some_elim hF
    exact Wk_ret (hfin _ ⟨[], [], [], [], [], [], by first | (rw [← hF]; kernel_rfl) | kernel_rfl⟩)
  · have hF := ite_f hF hb
    refine Wk_skip ?_
    refine Wk_seq ?_
    refine ZRs [.nat (num.Cells.length : Int), .nat (num.Cells.length : Int)] [1, 2, 21] [1, 2] [] [(21, .bool ((decide ((num.Cells.length : Int) = 0)) || (decide (20 < (num.Cells.length : Int)))))] (.cons (len_ok e_Cell num.Cells) (.cons (fun (_ : (!(decide ((num.Cells.length : Int) = 0))) = true) => (len_ok e_Cell num.Cells)) .nil)) ?_
    refine Wk_split rfl (fun hb => ?_) (fun hb => ?_)
    · have hF := ite_t hF hb
      refine Wk_seq ?_
      obtain ⟨x1, h1, hF⟩ := lt_split hF
      refine UR [.callB (.agg [.i x1.Code, .i x1.At])] [2] [2] [] [] [] [(2, [.i x1.Code, .i x1.At])] [] [] (.cons (R_F_ok 2 (-1) x1 h1) .nil) ?_
      have hF := some_elim hF
      exact Wk_ret (hfin _ ⟨[], [], [], [], [], [], by first | (rw [← hF]; kernel_rfl) | kernel_rfl⟩)
    · have hF := ite_f hF hb
      refine Wk_skip ?_
      refine Wk_seq ?_
      obtain ⟨x2, h2, hF⟩ := ob_elim hF
      refine UR [.callB (.agg [.i x2.Code, .i x2.At])] [2] [2] [] [] [] [(2, [.i x2.Code, .i x2.At])] [] [] (.cons (R_CellsFault_ok num.Cells x2 h2) .nil) ?_
      have hF := some_elim hF
      exact Wk_ret (hfin _ ⟨[], [], [], [], [], [], by first | (rw [← hF]; kernel_rfl) | kernel_rfl⟩)

end G
end Go.Proofs.Ytollmifjbcccgaa
