/- The program's functions as plain functions, and that they are these. Written by a program (dec2.py). -/
import Derived.Test.YtiakadlmebbafaaTys
namespace Go.Proofs.Ytiakadlmebbafaa
open Go Go.Dm
set_option linter.unusedVariables false
set_option linter.unusedSimpArgs false
set_option maxRecDepth 100000
namespace G
/- disk.fault -/
noncomputable def disk_fault (code : Int) (at0 : Int) : Fault :=
  (⟨code, at0⟩ : Fault)
theorem disk_fault_ok (code : Int) (at0 : Int) (r : Fault) (hF : disk_fault code at0 = r) : Pe Try.prog 60 S.none [.int .i64 code, .int .i64 at0] (.agg [.int .i64 r.Code, .int .i64 r.At]) S.none := by
  refine Pe_of (N := 8) (res := [.cell 4 26]) (ts := [26]) Ty.ok Fn.b60 Try.func60 rfl rfl rfl rfl rfl rfl ?_
  intro Q g hfin
  unfold disk_fault at hF
  refine Wk_seq ?_
  refine WR [] [0, 1, 4] [4] [] [] [] [] ⟨[(0, .int .i64 code), (1, .int .i64 at0), (4, .ptr 4 0)], [(4, [.int .i64 0, .int .i64 0])], [], [], []⟩ .nil (by kernel_rfl) ?_
  refine Wk_seq ?_
  refine WR [] [4] [4] [] [] [] [] ⟨[(4, .ptr 4 0)], [(4, [.int .i64 code, .int .i64 at0])], [], [], []⟩ .nil (by kernel_rfl) ?_
  exact Wk_ret (hfin _ ⟨[], [], [], [], [], [], by first | (rw [← hF]; kernel_rfl) | kernel_rfl⟩)

/- disk.Check -/
noncomputable def disk_Check (d : Disk) : Fault :=
  if (decide (60000 < (d.Bytes.length : Int))) = true then
    lt (disk_fault 8 0) fun x =>
    x
  else
    if ((decide (d.Kept < 0)) || (decide ((d.Bytes.length : Int) < d.Kept))) = true then
      lt (disk_fault 3 0) fun x1 =>
      x1
    else
      (⟨0, 0⟩ : Fault)
theorem disk_Check_ok (d : Disk) (r : Fault) (hF : disk_Check d = r) : Pe Try.prog 45 S.none [.agg [.sl 1 (d.Bytes.map e_u8), .int .i64 d.Kept]] (.agg [.int .i64 r.Code, .int .i64 r.At]) S.none := by
  refine Pe_of (N := 21) (res := [.cell 2 26]) (ts := [26]) Ty.ok Fn.b45 Try.func45 rfl rfl rfl rfl rfl rfl ?_
  intro Q g hfin
  unfold disk_Check at hF
  refine Wk_seq ?_
  refine WR [] [1, 2] [1, 2] [] [] [] [] ⟨[(1, .ptr 1 0), (2, .ptr 2 0)], [(1, [.sl 1 (d.Bytes.map e_u8), .int .i64 d.Kept]), (2, [.int .i64 0, .int .i64 0])], [], [], []⟩ .nil (by kernel_rfl) ?_
  refine Wk_seq ?_
  refine Wk_seq ?_
  refine WR [.nat (d.Bytes.length : Int)] [1, 2, 6] [1, 2] [] [] [] [] ⟨[(1, .ptr 1 0), (2, .ptr 2 0), (6, .bool (decide (60000 < (d.Bytes.length : Int))))], [(1, [.sl 1 (d.Bytes.map e_u8), .int .i64 d.Kept]), (2, [.int .i64 0, .int .i64 0])], [], [], []⟩ (.cons (len_ok e_u8 d.Bytes) .nil) (by kernel_rfl) ?_
  refine Wk_split rfl (fun hb => ?_) (fun hb => ?_)
  · have hF := ite_t hF hb
    refine Wk_seq ?_
    obtain ⟨x, h0, hF⟩ := lt_split hF
    refine WR [.callB (.agg [.int .i64 x.Code, .int .i64 x.At])] [2] [2] [] [] [] [] ⟨[(2, .ptr 2 0)], [(2, [.int .i64 x.Code, .int .i64 x.At])], [], [], []⟩ (.cons (disk_fault_ok 8 0 x h0) .nil) (by kernel_rfl) ?_
    exact Wk_ret (hfin _ ⟨[], [], [], [], [], [], by first | (rw [← hF]; kernel_rfl) | kernel_rfl⟩)
  · have hF := ite_f hF hb
    refine Wk_skip ?_
    refine Wk_seq ?_
    refine Wk_seq ?_
    refine WR [.nat (d.Bytes.length : Int)] [2, 18] [2] [] [] [] [] ⟨[(2, .ptr 2 0), (18, .bool ((decide (d.Kept < 0)) || (decide ((d.Bytes.length : Int) < d.Kept))))], [(2, [.int .i64 0, .int .i64 0])], [], [], []⟩ (.cons (fun (_ : (!(decide (d.Kept < 0))) = true) => (len_ok e_u8 d.Bytes)) .nil) (by kernel_rfl) ?_
    refine Wk_split rfl (fun hb => ?_) (fun hb => ?_)
    · have hF := ite_t hF hb
      refine Wk_seq ?_
      obtain ⟨x1, h1, hF⟩ := lt_split hF
      refine WR [.callB (.agg [.int .i64 x1.Code, .int .i64 x1.At])] [2] [2] [] [] [] [] ⟨[(2, .ptr 2 0)], [(2, [.int .i64 x1.Code, .int .i64 x1.At])], [], [], []⟩ (.cons (disk_fault_ok 3 0 x1 h1) .nil) (by kernel_rfl) ?_
      exact Wk_ret (hfin _ ⟨[], [], [], [], [], [], by first | (rw [← hF]; kernel_rfl) | kernel_rfl⟩)
    · have hF := ite_f hF hb
      refine Wk_skip ?_
      refine Wk_seq ?_
      refine WR [] [2] [2] [] [] [] [] ⟨[(2, .ptr 2 0)], [(2, [.int .i64 0, .int .i64 0])], [], [], []⟩ .nil (by kernel_rfl) ?_
      exact Wk_ret (hfin _ ⟨[], [], [], [], [], [], by first | (rw [← hF]; kernel_rfl) | kernel_rfl⟩)

/- slices.Grow[[]byte,byte] -/
noncomputable def slices_Grow_byte_byte_v1 (num : Int) : Option (List UInt8) :=
  ob (
    if (decide (num < 0)) = true then
      none
    else
      some ()) fun (v : Unit) =>
  ob (
    if (decide (0 < (w64 (num - (w64 (0 - 0)))))) = true then
      asrt (0 ≤ (w64 (num - (w64 (0 - 0)))) ∧ (w64 (num - (w64 (0 - 0)))).toNat * 1 ≤ 140737488351232) <|
      asrt (0 ≤ (0 : Int) ∧ (0 : Int) ≤ ((List.replicate (w64 (num - (w64 (0 - 0)))).toNat ((0 : UInt8) : UInt8)).length : Int)) <|
      lt ((List.replicate (w64 (num - (w64 (0 - 0)))).toNat ((0 : UInt8) : UInt8))) fun (v2 : List UInt8) =>
      asrt (((0 : Int).toNat) ≤ v2.length) <|
      some (v2.take ((0 : Int).toNat))
    else
      some ([] : List UInt8)) fun (v1 : List UInt8) =>
  some v1
theorem slices_Grow_byte_byte_v1_ok (num : Int) (r : List UInt8) (hF : slices_Grow_byte_byte_v1 num = some r) : Pe Try.prog 69 ⟨[], [], [], [], []⟩ [.nils, .int .i64 num] (.row 22 0) ⟨[], [], [(22, ⟨5, 1, 0, 0, 0, false, 0, [], (r.map e_u8)⟩)], [], []⟩ := by
  refine Pe_of (N := 27) (res := [.tmp 4]) (ts := [23]) Ty.ok Fn.b69 Try.func69 rfl rfl rfl rfl rfl rfl ?_
  intro Q g hfin
  unfold slices_Grow_byte_byte_v1 at hF
  refine Wk_seq ?_
  refine WR [] [0, 1] [] [] [] [] [] ⟨[(0, .nils), (1, .int .i64 num)], [], [], [], []⟩ .nil (by kernel_rfl) ?_
  refine Wk_seq ?_
  refine Wk_seq ?_
  refine WR [] [0, 1, 6] [] [] [] [] [] ⟨[(0, .nils), (1, .int .i64 num), (6, .bool (decide (num < 0)))], [], [], [], []⟩ .nil (by kernel_rfl) ?_
  obtain ⟨v, hv, hF⟩ := ob_elim hF
  refine Wk_meet (⟨[(0, .nils), (1, .int .i64 num)], [], [], [], []⟩ : S) ?_ ?_
  · have hF := hv
    refine Wk_split rfl (fun hb => ?_) (fun hb => ?_)
    · have hF := ite_t hF hb
      cases hF
    · have hF := ite_f hF hb
      refine Wk_skip ?_
      exact Wk_met (fs := [0, 1]) (bs := []) (rs := []) (ms := []) (aa := []) (nv := []) (by first | (rw [← some_elim hF]; kernel_rfl) | kernel_rfl)
  · refine Wk_seq ?_
    refine Wk_seq ?_
    refine WR [] [0, 1] [] [] [] [] [] ⟨[(0, .nils), (1, .int .i64 (w64 (num - (w64 (0 - 0)))))], [], [], [], []⟩ .nil (by kernel_rfl) ?_
    refine Wk_seq ?_
    refine WR [] [0, 1, 16] [] [] [] [] [] ⟨[(0, .nils), (1, .int .i64 (w64 (num - (w64 (0 - 0))))), (16, .bool (decide (0 < (w64 (num - (w64 (0 - 0)))))))], [], [], [], []⟩ .nil (by kernel_rfl) ?_
    obtain ⟨v1, hv, hF⟩ := ob_elim hF
    refine Wk_meet (⟨[(0, .row 22 0)], [], [(22, ⟨5, 1, 0, 0, 0, false, 0, [], (v1.map e_u8)⟩)], [], []⟩ : S) ?_ ?_
    · have hF := hv
      refine Wk_split rfl (fun hb => ?_) (fun hb => ?_)
      · have hF := ite_t hF hb
        obtain ⟨h0, hF⟩ := asrt_elim hF
        obtain ⟨h1, hF⟩ := asrt_elim hF
        refine WRL ((List.replicate (w64 (num - (w64 (0 - 0)))).toNat ((0 : UInt8) : UInt8))) (fun v2 : List UInt8 => ⟨[(0, .rowv 22 0 0 ((0 : Int).toNat))], [], [(22, ⟨5, 1, 0, 0, 0, true, 0, [], (v2.map e_u8)⟩)], [], []⟩) [.xs ((List.replicate (w64 (num - (w64 (0 - 0)))).toNat ((0 : UInt8) : UInt8)).map e_u8), .vw ((0 : Int).toNat)] [0] [] [22] [] [] [] (.cons (rfl : (0 : Int) = 0) (.cons h0 (.cons (rep_ok e_u8 (w64 (num - (w64 (0 - 0)))) ((0 : UInt8) : UInt8)) (.cons (vw01_ok (cm := 0) e_u8 h1) .nil)))) (by kernel_rfl) (fun v2 hv => ?_)
        have hF := lt_elim hF hv
        obtain ⟨h2, hF⟩ := asrt_elim hF
        refine Wk_trunc 0 22 0 ((0 : Int).toNat) rfl rfl rfl rfl (tk_ok e_u8 h2).1 (Nat.zero_le _) ?_
        exact Wk_met (fs := [0]) (bs := []) (rs := [22]) (ms := []) (aa := []) (nv := [(22, ⟨0, false, true, false⟩)]) (by first | (rw [← some_elim hF]; kernel_rfl) | kernel_rfl)
      · have hF := ite_f hF hb
        refine Wk_skip ?_
        refine Wk_nilrow 0 60000 5 1 rfl rfl rfl ?_
        refine Wk_trim (fs := [0]) (bs := []) (rs := [60000]) (ms := []) (aa := []) (nv := []) rfl ?_
        refine Wk_ren' ⟨[], [(60000, 22)], [], []⟩ rfl ?_
        exact Wk_met (fs := [0]) (bs := []) (rs := [22]) (ms := []) (aa := []) (nv := [(22, ⟨0, true, false, false⟩)]) (by first | (rw [← some_elim hF]; kernel_rfl) | kernel_rfl)
    · refine Wk_seq ?_
      refine WR [] [4] [] [22] [] [] [] ⟨[(4, .row 22 0)], [], [(22, ⟨5, 1, 0, 0, 0, false, 0, [], (v1.map e_u8)⟩)], [], []⟩ .nil (by kernel_rfl) ?_
      have hF := some_elim hF
      exact Wk_ret (hfin _ ⟨[22], [], [22], [], [], [], by first | (rw [← hF]; kernel_rfl) | kernel_rfl⟩)

/- slices.Concat[[]byte,byte] -/
noncomputable def slices_Concat_byte_byte_J2 (v1 : List UInt8) : Option (List UInt8) :=
  some v1
noncomputable def slices_Concat_byte_byte_B1 (slices : List (List UInt8)) (v2 : List UInt8 × Int) : Option ((List UInt8 × Int) ⊕ (List UInt8)) :=
  if (decide (v2.2 < (slices.length : Int))) = true then
    asrt (0 ≤ v2.2 ∧ v2.2 < (slices.length : Int)) <|
    asrt (((v2.1 ++ (lget slices v2.2)).length : Int) * 1 ≤ 140737488351232) <|
    some (Sum.inl ((v2.1 ++ (lget slices v2.2)), w64 (v2.2 + 1)))
  else
    inrO (slices_Concat_byte_byte_J2 v2.1)
noncomputable def slices_Concat_byte_byte_L1 (slices : List (List UInt8)) (v0 : List UInt8 × Int) : Option (List UInt8) :=
  loopO (fun y => slices_Concat_byte_byte_B1 slices y) v0
noncomputable def slices_Concat_byte_byte_J1 (slices : List (List UInt8)) (v : Int) : Option (List UInt8) :=
  ob (slices_Grow_byte_byte_v1 v) fun x =>
  slices_Concat_byte_byte_L1 slices (x, 0)
noncomputable def slices_Concat_byte_byte_B2 (slices : List (List UInt8)) (v3 : Int × Int) : Option ((Int × Int) ⊕ (List UInt8)) :=
  if (decide (v3.2 < (slices.length : Int))) = true then
    asrt (0 ≤ v3.2 ∧ v3.2 < (slices.length : Int)) <|
    ob (
      if (decide ((w64 (v3.1 + ((lget slices v3.2).length : Int))) < 0)) = true then
        none
      else
        some ()) fun (v4 : Unit) =>
    some (Sum.inl (w64 (v3.1 + ((lget slices v3.2).length : Int)), w64 (v3.2 + 1)))
  else
    inrO (slices_Concat_byte_byte_J1 slices v3.1)
noncomputable def slices_Concat_byte_byte_L2 (slices : List (List UInt8)) (v0 : Int × Int) : Option (List UInt8) :=
  loopO (fun y => slices_Concat_byte_byte_B2 slices y) v0
noncomputable def slices_Concat_byte_byte (slices : List (List UInt8)) : Option (List UInt8) :=
  slices_Concat_byte_byte_L2 slices (0, 0)
theorem slices_Concat_byte_byte_ok (slices : List (List UInt8)) (r : List UInt8) (hF : slices_Concat_byte_byte slices = some r) : Pe Try.prog 61 ⟨[], [], [], [], []⟩ [.sl 1 (slices.map e_L_u8)] (.row 24 0) ⟨[], [], [(24, ⟨5, 1, 0, 0, 0, false, 0, [], (r.map e_u8)⟩)], [], []⟩ := by
  refine Pe_of (N := 36) (res := [.tmp 2]) (ts := [23]) Ty.ok Fn.b61 Try.func61 rfl rfl rfl rfl rfl rfl ?_
  intro Q g hfin
  unfold slices_Concat_byte_byte at hF
  refine Wk_seq ?_
  refine WR [] [0] [] [] [] [] [] ⟨[(0, .sl 1 (slices.map e_L_u8))], [], [], [], []⟩ .nil (by kernel_rfl) ?_
  refine Wk_seq ?_
  refine WR [] [0, 3] [] [] [] [] [] ⟨[(0, .sl 1 (slices.map e_L_u8)), (3, .int .i64 0)], [], [], [], []⟩ .nil (by kernel_rfl) ?_
  refine Wk_seq ?_
  refine Wk_seq ?_
  refine WR [.nat (slices.length : Int)] [0, 3, 9, 10, 11] [] [] [] [] [] ⟨[(0, .sl 1 (slices.map e_L_u8)), (3, .int .i64 0), (9, .sl 1 (slices.map e_L_u8)), (10, .int .i64 (slices.length : Int)), (11, .int .i64 0)], [], [], [], []⟩ (.cons (len_ok e_L_u8 slices) .nil) (by kernel_rfl) ?_
  refine Wk_meetP (fun v : Int => (⟨[(0, .sl 1 (slices.map e_L_u8)), (3, .int .i64 v)], [], [], [], []⟩ : S)) (fun v => slices_Concat_byte_byte_J1 slices v = some r) ?_ ?_
  · refine Wk_block ?_
    unfold slices_Concat_byte_byte_L2 at hF
    refine Wk_trim (fs := [0, 3, 9, 10, 11]) (bs := []) (rs := []) (ms := []) (aa := []) (nv := []) (t := (fun v3 : Int × Int => (⟨[(0, .sl 1 (slices.map e_L_u8)), (3, .int .i64 v3.1), (9, .sl 1 (slices.map e_L_u8)), (10, .int .i64 (slices.length : Int)), (11, .int .i64 v3.2)], [], [], [], []⟩ : S)) (0, 0)) (by kernel_rfl) ?_
    refine Wk_iter (step := fun y => slices_Concat_byte_byte_B2 slices y) (r := r) (fun v3 : Int × Int => (⟨[(0, .sl 1 (slices.map e_L_u8)), (3, .int .i64 v3.1), (9, .sl 1 (slices.map e_L_u8)), (10, .int .i64 (slices.length : Int)), (11, .int .i64 v3.2)], [], [], [], []⟩ : S)) (0, 0) hF ?_
    intro n1 v3 y1 hF ih1 dn1
    have hF : slices_Concat_byte_byte_B2 slices v3 = some y1 := hF
    unfold slices_Concat_byte_byte_B2 at hF
    refine Wk_seq ?_
    refine WR [] [0, 3, 9, 10, 11, 12] [] [] [] [] [] ⟨[(0, .sl 1 (slices.map e_L_u8)), (3, .int .i64 v3.1), (9, .sl 1 (slices.map e_L_u8)), (10, .int .i64 (slices.length : Int)), (11, .int .i64 v3.2), (12, .bool (decide (v3.2 < (slices.length : Int))))], [], [], [], []⟩ .nil (by kernel_rfl) ?_
    refine Wk_seq ?_
    refine Wk_split rfl (fun hb => ?_) (fun hb => ?_)
    · have hF := ite_t hF hb
      refine Wk_skip ?_
      refine Wk_seq ?_
      refine Wk_block ?_
      refine Wk_seq ?_
      obtain ⟨h3, hF⟩ := asrt_elim hF
      refine WR [.av (e_L_u8 (lget slices v3.2))] [0, 3, 5, 9, 10, 11] [] [] [] [] [] ⟨[(0, .sl 1 (slices.map e_L_u8)), (3, .int .i64 v3.1), (5, .sl 1 ((lget slices v3.2).map e_u8)), (9, .sl 1 (slices.map e_L_u8)), (10, .int .i64 (slices.length : Int)), (11, .int .i64 v3.2)], [], [], [], []⟩ (.cons (idx_ok e_L_u8 h3) .nil) (by kernel_rfl) ?_
      refine Wk_seq ?_
      refine WR [.nat ((lget slices v3.2).length : Int)] [0, 3, 9, 10, 11] [] [] [] [] [] ⟨[(0, .sl 1 (slices.map e_L_u8)), (3, .int .i64 (w64 (v3.1 + ((lget slices v3.2).length : Int)))), (9, .sl 1 (slices.map e_L_u8)), (10, .int .i64 (slices.length : Int)), (11, .int .i64 v3.2)], [], [], [], []⟩ (.cons (len_ok e_u8 (lget slices v3.2)) .nil) (by kernel_rfl) ?_
      refine Wk_seq ?_
      refine WR [] [0, 3, 9, 10, 11, 20] [] [] [] [] [] ⟨[(0, .sl 1 (slices.map e_L_u8)), (3, .int .i64 (w64 (v3.1 + ((lget slices v3.2).length : Int)))), (9, .sl 1 (slices.map e_L_u8)), (10, .int .i64 (slices.length : Int)), (11, .int .i64 v3.2), (20, .bool (decide ((w64 (v3.1 + ((lget slices v3.2).length : Int))) < 0)))], [], [], [], []⟩ .nil (by kernel_rfl) ?_
      obtain ⟨v4, hv, hF⟩ := ob_elim hF
      refine Wk_meet (⟨[(0, .sl 1 (slices.map e_L_u8)), (3, .int .i64 (w64 (v3.1 + ((lget slices v3.2).length : Int)))), (9, .sl 1 (slices.map e_L_u8)), (10, .int .i64 (slices.length : Int)), (11, .int .i64 v3.2)], [], [], [], []⟩ : S) ?_ ?_
      · have hF := hv
        refine Wk_split rfl (fun hb => ?_) (fun hb => ?_)
        · have hF := ite_t hF hb
          cases hF
        · have hF := ite_f hF hb
          refine Wk_skip ?_
          exact Wk_met (fs := [0, 3, 9, 10, 11]) (bs := []) (rs := []) (ms := []) (aa := []) (nv := []) (by first | (rw [← some_elim hF]; kernel_rfl) | kernel_rfl)
      · refine Wk_blk ?_
        refine WR [] [0, 3, 9, 10, 11] [] [] [] [] [] ⟨[(0, .sl 1 (slices.map e_L_u8)), (3, .int .i64 (w64 (v3.1 + ((lget slices v3.2).length : Int)))), (9, .sl 1 (slices.map e_L_u8)), (10, .int .i64 (slices.length : Int)), (11, .int .i64 (w64 (v3.2 + 1)))], [], [], [], []⟩ .nil (by kernel_rfl) ?_
        refine Wk_trim (fs := [0, 3, 9, 10, 11]) (bs := []) (rs := []) (ms := []) (aa := []) (nv := []) ?_ (ih1 _ (some_elim hF).symm)
        kernel_rfl
    · have hF := ite_f hF hb
      refine Wk_exit rfl ?_
      have hF := inrO_done hF dn1
      exact Wk_metP v3.1 [0, 3] [] [] [] [] [] hF (by kernel_rfl)
  · intro v hF
    have hF : slices_Concat_byte_byte_J1 slices v = some r := hF
    unfold slices_Concat_byte_byte_J1 at hF
    refine Wk_seq ?_
    obtain ⟨x, h0, hF⟩ := ob_elim hF
    refine WR [.raw [0], .callE [] [] [] [] (.row 24 0) ⟨[], [], [(24, ⟨5, 1, 0, 0, 0, false, 0, [], (x.map e_u8)⟩)], [], []⟩] [0, 6] [] [24] [] [] [] ⟨[(0, .sl 1 (slices.map e_L_u8)), (6, .row 24 0)], [], [(24, ⟨5, 1, 0, 0, 0, false, 0, [], (x.map e_u8)⟩)], [], []⟩ (.cons (Pe.ren (slices_Grow_byte_byte_v1_ok v x h0) ⟨[], [(22, 24)], [], []⟩) .nil) (by kernel_rfl) ?_
    refine Wk_seq ?_
    refine Wk_seq ?_
    refine WR [.nat (slices.length : Int)] [6, 25, 26, 27] [] [24] [] [] [] ⟨[(6, .row 24 0), (25, .sl 1 (slices.map e_L_u8)), (26, .int .i64 (slices.length : Int)), (27, .int .i64 0)], [], [(24, ⟨5, 1, 0, 0, 0, false, 0, [], (x.map e_u8)⟩)], [], []⟩ (.cons (len_ok e_L_u8 slices) .nil) (by kernel_rfl) ?_
    refine Wk_meetP (fun v1 : List UInt8 => (⟨[(6, .row 24 0)], [], [(24, ⟨5, 1, 0, 0, 0, false, 0, [], (v1.map e_u8)⟩)], [], []⟩ : S)) (fun v1 => slices_Concat_byte_byte_J2 v1 = some r) ?_ ?_
    · refine Wk_block ?_
      unfold slices_Concat_byte_byte_L1 at hF
      refine Wk_trim (fs := [6, 25, 26, 27]) (bs := []) (rs := [24]) (ms := []) (aa := []) (nv := []) (t := (fun v2 : List UInt8 × Int => (⟨[(6, .row 24 0), (25, .sl 1 (slices.map e_L_u8)), (26, .int .i64 (slices.length : Int)), (27, .int .i64 v2.2)], [], [(24, ⟨5, 1, 0, 0, 0, false, 0, [], (v2.1.map e_u8)⟩)], [], []⟩ : S)) (x, 0)) (by kernel_rfl) ?_
      refine Wk_iter (step := fun y => slices_Concat_byte_byte_B1 slices y) (r := r) (fun v2 : List UInt8 × Int => (⟨[(6, .row 24 0), (25, .sl 1 (slices.map e_L_u8)), (26, .int .i64 (slices.length : Int)), (27, .int .i64 v2.2)], [], [(24, ⟨5, 1, 0, 0, 0, false, 0, [], (v2.1.map e_u8)⟩)], [], []⟩ : S)) (x, 0) hF ?_
      intro n1 v2 y1 hF ih1 dn1
      have hF : slices_Concat_byte_byte_B1 slices v2 = some y1 := hF
      unfold slices_Concat_byte_byte_B1 at hF
      refine Wk_seq ?_
      refine WR [] [6, 25, 26, 27, 28] [] [24] [] [] [] ⟨[(6, .row 24 0), (25, .sl 1 (slices.map e_L_u8)), (26, .int .i64 (slices.length : Int)), (27, .int .i64 v2.2), (28, .bool (decide (v2.2 < (slices.length : Int))))], [], [(24, ⟨5, 1, 0, 0, 0, false, 0, [], (v2.1.map e_u8)⟩)], [], []⟩ .nil (by kernel_rfl) ?_
      refine Wk_seq ?_
      refine Wk_split rfl (fun hb => ?_) (fun hb => ?_)
      · have hF := ite_t hF hb
        refine Wk_skip ?_
        refine Wk_seq ?_
        refine Wk_block ?_
        refine Wk_seq ?_
        obtain ⟨h1, hF⟩ := asrt_elim hF
        refine WR [.av (e_L_u8 (lget slices v2.2))] [6, 8, 25, 26, 27] [] [24] [] [] [] ⟨[(6, .row 24 0), (8, .sl 1 ((lget slices v2.2).map e_u8)), (25, .sl 1 (slices.map e_L_u8)), (26, .int .i64 (slices.length : Int)), (27, .int .i64 v2.2)], [], [(24, ⟨5, 1, 0, 0, 0, false, 0, [], (v2.1.map e_u8)⟩)], [], []⟩ (.cons (idx_ok e_L_u8 h1) .nil) (by kernel_rfl) ?_
        obtain ⟨h2, hF⟩ := asrt_elim hF
        refine WR [.xs ((v2.1 ++ (lget slices v2.2)).map e_u8)] [6, 25, 26, 27] [] [24] [] [] [] ⟨[(6, .row 24 1), (25, .sl 1 (slices.map e_L_u8)), (26, .int .i64 (slices.length : Int)), (27, .int .i64 v2.2)], [], [(24, ⟨5, 1, 1, 0, 0, false, 0, [], ((v2.1 ++ (lget slices v2.2)).map e_u8)⟩)], [], []⟩ (.cons (app_ok e_u8 v2.1 (lget slices v2.2)) (.cons (appl_ok e_u8 h2) .nil)) (by kernel_rfl) ?_
        refine Wk_blk ?_
        refine WR [] [6, 25, 26, 27] [] [24] [] [] [] ⟨[(6, .row 24 1), (25, .sl 1 (slices.map e_L_u8)), (26, .int .i64 (slices.length : Int)), (27, .int .i64 (w64 (v2.2 + 1)))], [], [(24, ⟨5, 1, 1, 0, 0, false, 0, [], ((v2.1 ++ (lget slices v2.2)).map e_u8)⟩)], [], []⟩ .nil (by kernel_rfl) ?_
        refine Wk_trim (fs := [6, 25, 26, 27]) (bs := []) (rs := [24]) (ms := []) (aa := []) (nv := [(24, ⟨0, true, true, false⟩)]) ?_ (ih1 _ (some_elim hF).symm)
        kernel_rfl
      · have hF := ite_f hF hb
        refine Wk_exit rfl ?_
        have hF := inrO_done hF dn1
        exact Wk_metP v2.1 [6] [] [24] [] [] [] hF (by kernel_rfl)
    · intro v1 hF
      have hF : slices_Concat_byte_byte_J2 v1 = some r := hF
      unfold slices_Concat_byte_byte_J2 at hF
      refine Wk_seq ?_
      refine WR [] [2] [] [24] [] [] [] ⟨[(2, .row 24 0)], [], [(24, ⟨5, 1, 0, 0, 0, false, 0, [], (v1.map e_u8)⟩)], [], []⟩ .nil (by kernel_rfl) ?_
      have hF := some_elim hF
      exact Wk_ret (hfin _ ⟨[24], [], [24], [], [], [], by first | (rw [← hF]; kernel_rfl) | kernel_rfl⟩)

/- disk.Append -/
noncomputable def disk_Append_v1 (d : Disk) (b : List UInt8) : Option (Disk × Fault) :=
  lt (disk_Check d) fun x =>
  if (!decide (x.Code = 0)) = true then
    some ((⟨([] : List UInt8), 0⟩ : Disk), x)
  else
    if (decide (60000 < (w64 ((d.Bytes.length : Int) + (b.length : Int))))) = true then
      lt (disk_fault 9 0) fun x1 =>
      some ((⟨([] : List UInt8), 0⟩ : Disk), x1)
    else
      ob (slices_Concat_byte_byte ([d.Bytes, b] : List (List UInt8))) fun x2 =>
      some ((⟨x2, d.Kept⟩ : Disk), (⟨0, 0⟩ : Fault))
theorem disk_Append_v1_ok (d : Disk) (b : List UInt8) (r : Disk × Fault) (hF : disk_Append_v1 d b = some r) : Pe Try.prog 23 S.none [.agg [.sl 1 (d.Bytes.map e_u8), .int .i64 d.Kept], .sl 1 (b.map e_u8)] (.tup [.agg [.sl 1 (r.1.Bytes.map e_u8), .int .i64 r.1.Kept], .agg [.int .i64 r.2.Code, .int .i64 r.2.At]]) S.none := by
  refine Pe_of (N := 32) (res := [.cell 4 43, .cell 5 26]) (ts := [43, 26]) Ty.ok Fn.b23 Try.func23 rfl rfl rfl rfl rfl rfl ?_
  intro Q g hfin
  unfold disk_Append_v1 at hF
  refine Wk_seq ?_
  refine WR [] [1, 2, 4, 5] [2, 4, 5] [] [] [] [] ⟨[(1, .sl 1 (b.map e_u8)), (2, .ptr 2 0), (4, .ptr 4 0), (5, .ptr 5 0)], [(2, [.sl 1 (d.Bytes.map e_u8), .int .i64 d.Kept]), (4, [.nils, .int .i64 0]), (5, [.int .i64 0, .int .i64 0])], [], [], []⟩ .nil (by kernel_rfl) ?_
  refine Wk_seq ?_
  refine Wk_seq ?_
  obtain ⟨x, h0, hF⟩ := lt_split hF
  refine WR [.callB (.agg [.int .i64 x.Code, .int .i64 x.At])] [1, 2, 4, 5, 6] [2, 4, 5, 6] [] [] [] [] ⟨[(1, .sl 1 (b.map e_u8)), (2, .ptr 2 0), (4, .ptr 4 0), (5, .ptr 5 0), (6, .ptr 6 0)], [(2, [.sl 1 (d.Bytes.map e_u8), .int .i64 d.Kept]), (4, [.nils, .int .i64 0]), (5, [.int .i64 0, .int .i64 0]), (6, [.int .i64 x.Code, .int .i64 x.At])], [], [], []⟩ (.cons (disk_Check_ok d x h0) .nil) (by kernel_rfl) ?_
  refine Wk_seq ?_
  refine WR [] [1, 2, 4, 5, 6, 11] [2, 4, 5, 6] [] [] [] [] ⟨[(1, .sl 1 (b.map e_u8)), (2, .ptr 2 0), (4, .ptr 4 0), (5, .ptr 5 0), (6, .ptr 6 0), (11, .bool (!decide (x.Code = 0)))], [(2, [.sl 1 (d.Bytes.map e_u8), .int .i64 d.Kept]), (4, [.nils, .int .i64 0]), (5, [.int .i64 0, .int .i64 0]), (6, [.int .i64 x.Code, .int .i64 x.At])], [], [], []⟩ .nil (by kernel_rfl) ?_
  refine Wk_split rfl (fun hb => ?_) (fun hb => ?_)
  · have hF := ite_t hF hb
    refine Wk_seq ?_
    refine WD [] [4, 5] [4, 5] [] [] [] [] ⟨[(4, .ptr 4 0), (5, .ptr 5 0)], [(4, [.nils, .int .i64 0]), (5, [.int .i64 x.Code, .int .i64 x.At])], [], [], []⟩ .nil (by kernel_rfl) ?_
    have hF := some_elim hF
    exact Wk_ret (hfin _ ⟨[], [], [], [], [], [], by first | (rw [← hF]; kernel_rfl) | kernel_rfl⟩)
  · have hF := ite_f hF hb
    refine Wk_skip ?_
    refine Wk_seq ?_
    refine Wk_seq ?_
    refine WR [.nat (d.Bytes.length : Int), .nat (b.length : Int)] [1, 2, 4, 5, 20] [2, 4, 5] [] [] [] [] ⟨[(1, .sl 1 (b.map e_u8)), (2, .ptr 2 0), (4, .ptr 4 0), (5, .ptr 5 0), (20, .bool (decide (60000 < (w64 ((d.Bytes.length : Int) + (b.length : Int))))))], [(2, [.sl 1 (d.Bytes.map e_u8), .int .i64 d.Kept]), (4, [.nils, .int .i64 0]), (5, [.int .i64 0, .int .i64 0])], [], [], []⟩ (.cons (len_ok e_u8 d.Bytes) (.cons (len_ok e_u8 b) .nil)) (by kernel_rfl) ?_
    refine Wk_split rfl (fun hb => ?_) (fun hb => ?_)
    · have hF := ite_t hF hb
      refine Wk_seq ?_
      obtain ⟨x1, h1, hF⟩ := lt_split hF
      refine WR [.callB (.agg [.int .i64 x1.Code, .int .i64 x1.At])] [4, 5] [4, 5] [] [] [] [] ⟨[(4, .ptr 4 0), (5, .ptr 5 0)], [(4, [.nils, .int .i64 0]), (5, [.int .i64 x1.Code, .int .i64 x1.At])], [], [], []⟩ (.cons (disk_fault_ok 9 0 x1 h1) .nil) (by kernel_rfl) ?_
      have hF := some_elim hF
      exact Wk_ret (hfin _ ⟨[], [], [], [], [], [], by first | (rw [← hF]; kernel_rfl) | kernel_rfl⟩)
    · have hF := ite_f hF hb
      refine Wk_skip ?_
      refine Wk_seq ?_
      obtain ⟨x2, h2, hF⟩ := ob_elim hF
      refine WD [.sealed, .callE [] [] [] [] (.row 27 0) ⟨[], [], [(27, ⟨5, 1, 0, 0, 0, false, 0, [], (x2.map e_u8)⟩)], [], []⟩] [4, 5] [4, 5] [27] [] [] [] ⟨[(4, .ptr 4 0), (5, .ptr 5 0)], [(4, [.row 27 0, .int .i64 d.Kept]), (5, [.int .i64 0, .int .i64 0])], [(27, ⟨5, 1, 0, 0, 0, false, 0, [], (x2.map e_u8)⟩)], [], []⟩ (.cons (Pe.ren (slices_Concat_byte_byte_ok ([d.Bytes, b] : List (List UInt8)) x2 h2) ⟨[], [(24, 27)], [], []⟩) .nil) (by kernel_rfl) ?_
      have hF := some_elim hF
      exact Wk_ret (hfin _ ⟨[], [], [], [], [], [], by first | (rw [← hF]; kernel_rfl) | kernel_rfl⟩)

/- slices.Clone[[]byte,byte] -/
noncomputable def slices_Clone_byte_byte (s0 : List UInt8) : Option (List UInt8) :=
  ubO (decide (s0.length = 0)) (
    some ([] : List UInt8)) (
    asrt (((([] : List UInt8) ++ s0).length : Int) * 1 ≤ 140737488351232) <|
    some (([] : List UInt8) ++ s0))
theorem slices_Clone_byte_byte_ok (s0 : List UInt8) (r : List UInt8) (hF : slices_Clone_byte_byte s0 = some r) : Pe Try.prog 70 ⟨[], [], [], [], []⟩ [.sl 1 (s0.map e_u8)] (.row 5 0) ⟨[], [], [(5, ⟨5, 1, 0, 0, 0, false, 0, [], (r.map e_u8)⟩)], [], []⟩ := by
  refine Pe_of (N := 8) (res := [.tmp 2]) (ts := [23]) Ty.ok Fn.b70 Try.func70 rfl rfl rfl rfl rfl rfl ?_
  intro Q g hfin
  unfold slices_Clone_byte_byte at hF
  refine Wk_seq ?_
  refine WR [] [0] [] [] [] [] [] ⟨[(0, .sl 1 (s0.map e_u8))], [], [], [], []⟩ .nil (by kernel_rfl) ?_
  refine Wk_seq ?_
  refine Wk_seq ?_
  refine WR [.bo (decide (s0.length = 0))] [0, 4] [] [] [] [] [] ⟨[(0, .sl 1 (s0.map e_u8)), (4, .ub (decide (s0.length = 0)) true)], [], [], [], []⟩ (.cons (ubn_ok e_u8 s0) .nil) (by kernel_rfl) ?_
  refine Wk_ub 4 rfl fun b hb1 hb2 => ?_
  refine Wk_split rfl (fun hb => ?_) (fun hb => ?_)
  · have hb := hb1 hb
    have hF := (ubO_elim hF).1 hb
    refine Wk_seq ?_
    refine WR [] [2] [] [] [] [] [] ⟨[(2, .nils)], [], [], [], []⟩ .nil (by kernel_rfl) ?_
    have hF := some_elim hF
    refine Wk_nilrow 2 60000 5 1 rfl rfl rfl ?_
    refine Wk_ren' ⟨[], [(60000, 5)], [], []⟩ rfl ?_
    exact Wk_ret (hfin _ ⟨[5], [], [5], [], [], [(5, ⟨0, true, false, false⟩)], by first | (rw [← hF]; kernel_rfl) | kernel_rfl⟩)
  · have hF := (ubO_elim hF).2
    refine Wk_skip ?_
    refine Wk_seq ?_
    obtain ⟨h0, hF⟩ := asrt_elim hF
    refine WR [.xs ((([] : List UInt8) ++ s0).map e_u8)] [2] [] [5] [] [] [] ⟨[(2, .row 5 1)], [], [(5, ⟨5, 1, 1, 0, 0, false, 0, [], ((([] : List UInt8) ++ s0).map e_u8)⟩)], [], []⟩ (.cons (app_ok e_u8 ([] : List UInt8) s0) (.cons (appl_ok e_u8 h0) .nil)) (by kernel_rfl) ?_
    have hF := some_elim hF
    exact Wk_ret (hfin _ ⟨[5], [], [5], [], [], [(5, ⟨0, true, true, false⟩)], by first | (rw [← hF]; kernel_rfl) | kernel_rfl⟩)

/- disk.cut -/
noncomputable def disk_cut (d : Disk) (num : Int) : Option (List UInt8 × Int) :=
  asrt (0 ≤ num ∧ num ≤ (d.Bytes.length : Int)) <|
  ob (slices_Clone_byte_byte (ltake d.Bytes num)) fun x =>
  some (x, num)
theorem disk_cut_ok (d : Disk) (num : Int) (r : List UInt8 × Int) (hF : disk_cut d num = some r) : Pe Try.prog 63 ⟨[], [], [], [], []⟩ [.agg [.sl 1 (d.Bytes.map e_u8), .int .i64 d.Kept], .int .i64 num] (.agg [.row 9 0, .int .i64 r.2]) ⟨[], [], [(9, ⟨5, 1, 0, 0, 0, false, 0, [], (r.1.map e_u8)⟩)], [], []⟩ := by
  refine Pe_of (N := 12) (res := [.cell 4 43]) (ts := [43]) Ty.ok Fn.b63 Try.func63 rfl rfl rfl rfl rfl rfl ?_
  intro Q g hfin
  unfold disk_cut at hF
  refine Wk_seq ?_
  refine WR [] [1, 2, 4] [2, 4] [] [] [] [] ⟨[(1, .int .i64 num), (2, .ptr 2 0), (4, .ptr 4 0)], [(2, [.sl 1 (d.Bytes.map e_u8), .int .i64 d.Kept]), (4, [.nils, .int .i64 0])], [], [], []⟩ .nil (by kernel_rfl) ?_
  refine Wk_seq ?_
  obtain ⟨h0, hF⟩ := asrt_elim hF
  obtain ⟨x, h1, hF⟩ := ob_elim hF
  refine WR [.xs ((ltake d.Bytes num).map e_u8), .callE [] [] [] [] (.row 9 0) ⟨[], [], [(9, ⟨5, 1, 0, 0, 0, false, 0, [], (x.map e_u8)⟩)], [], []⟩] [4] [4] [9] [] [] [] ⟨[(4, .ptr 4 0)], [(4, [.row 9 0, .int .i64 num])], [(9, ⟨5, 1, 0, 0, 0, false, 0, [], (x.map e_u8)⟩)], [], []⟩ (.cons (sl01_ok e_u8 h0) (.cons (Pe.ren (slices_Clone_byte_byte_ok (ltake d.Bytes num) x h1) ⟨[], [(5, 9)], [], []⟩) .nil)) (by kernel_rfl) ?_
  have hF := some_elim hF
  exact Wk_ret (hfin _ ⟨[9], [], [9], [], [], [], by first | (rw [← hF]; kernel_rfl) | kernel_rfl⟩)

/- disk.Crash -/
noncomputable def disk_Crash_v1 (d : Disk) (num : Int) : Option (Disk × Fault) :=
  lt (disk_Check d) fun x =>
  if (!decide (x.Code = 0)) = true then
    some ((⟨([] : List UInt8), 0⟩ : Disk), x)
  else
    if ((decide (num < 0)) || (decide ((w64 ((d.Bytes.length : Int) - d.Kept)) < num))) = true then
      lt (disk_fault 3 (-1)) fun x1 =>
      some ((⟨([] : List UInt8), 0⟩ : Disk), x1)
    else
      ob (disk_cut d (w64 (d.Kept + num))) fun x2 =>
      some ((⟨x2.1, x2.2⟩ : Disk), (⟨0, 0⟩ : Fault))
theorem disk_Crash_v1_ok (d : Disk) (num : Int) (r : Disk × Fault) (hF : disk_Crash_v1 d num = some r) : Pe Try.prog 25 S.none [.agg [.sl 1 (d.Bytes.map e_u8), .int .i64 d.Kept], .int .i64 num] (.tup [.agg [.sl 1 (r.1.Bytes.map e_u8), .int .i64 r.1.Kept], .agg [.int .i64 r.2.Code, .int .i64 r.2.At]]) S.none := by
  refine Pe_of (N := 35) (res := [.cell 4 43, .cell 5 26]) (ts := [43, 26]) Ty.ok Fn.b25 Try.func25 rfl rfl rfl rfl rfl rfl ?_
  intro Q g hfin
  unfold disk_Crash_v1 at hF
  refine Wk_seq ?_
  refine WR [] [1, 2, 4, 5] [2, 4, 5] [] [] [] [] ⟨[(1, .int .i64 num), (2, .ptr 2 0), (4, .ptr 4 0), (5, .ptr 5 0)], [(2, [.sl 1 (d.Bytes.map e_u8), .int .i64 d.Kept]), (4, [.nils, .int .i64 0]), (5, [.int .i64 0, .int .i64 0])], [], [], []⟩ .nil (by kernel_rfl) ?_
  refine Wk_seq ?_
  refine Wk_seq ?_
  obtain ⟨x, h0, hF⟩ := lt_split hF
  refine WR [.callB (.agg [.int .i64 x.Code, .int .i64 x.At])] [1, 2, 4, 5, 6] [2, 4, 5, 6] [] [] [] [] ⟨[(1, .int .i64 num), (2, .ptr 2 0), (4, .ptr 4 0), (5, .ptr 5 0), (6, .ptr 6 0)], [(2, [.sl 1 (d.Bytes.map e_u8), .int .i64 d.Kept]), (4, [.nils, .int .i64 0]), (5, [.int .i64 0, .int .i64 0]), (6, [.int .i64 x.Code, .int .i64 x.At])], [], [], []⟩ (.cons (disk_Check_ok d x h0) .nil) (by kernel_rfl) ?_
  refine Wk_seq ?_
  refine WR [] [1, 2, 4, 5, 6, 11] [2, 4, 5, 6] [] [] [] [] ⟨[(1, .int .i64 num), (2, .ptr 2 0), (4, .ptr 4 0), (5, .ptr 5 0), (6, .ptr 6 0), (11, .bool (!decide (x.Code = 0)))], [(2, [.sl 1 (d.Bytes.map e_u8), .int .i64 d.Kept]), (4, [.nils, .int .i64 0]), (5, [.int .i64 0, .int .i64 0]), (6, [.int .i64 x.Code, .int .i64 x.At])], [], [], []⟩ .nil (by kernel_rfl) ?_
  refine Wk_split rfl (fun hb => ?_) (fun hb => ?_)
  · have hF := ite_t hF hb
    refine Wk_seq ?_
    refine WD [] [4, 5] [4, 5] [] [] [] [] ⟨[(4, .ptr 4 0), (5, .ptr 5 0)], [(4, [.nils, .int .i64 0]), (5, [.int .i64 x.Code, .int .i64 x.At])], [], [], []⟩ .nil (by kernel_rfl) ?_
    have hF := some_elim hF
    exact Wk_ret (hfin _ ⟨[], [], [], [], [], [], by first | (rw [← hF]; kernel_rfl) | kernel_rfl⟩)
  · have hF := ite_f hF hb
    refine Wk_skip ?_
    refine Wk_seq ?_
    refine Wk_seq ?_
    refine WR [.nat (d.Bytes.length : Int)] [1, 2, 4, 5, 25] [2, 4, 5] [] [] [] [] ⟨[(1, .int .i64 num), (2, .ptr 2 0), (4, .ptr 4 0), (5, .ptr 5 0), (25, .bool ((decide (num < 0)) || (decide ((w64 ((d.Bytes.length : Int) - d.Kept)) < num))))], [(2, [.sl 1 (d.Bytes.map e_u8), .int .i64 d.Kept]), (4, [.nils, .int .i64 0]), (5, [.int .i64 0, .int .i64 0])], [], [], []⟩ (.cons (fun (_ : (!(decide (num < 0))) = true) => (len_ok e_u8 d.Bytes)) .nil) (by kernel_rfl) ?_
    refine Wk_split rfl (fun hb => ?_) (fun hb => ?_)
    · have hF := ite_t hF hb
      refine Wk_seq ?_
      obtain ⟨x1, h1, hF⟩ := lt_split hF
      refine WR [.callB (.agg [.int .i64 x1.Code, .int .i64 x1.At])] [4, 5] [4, 5] [] [] [] [] ⟨[(4, .ptr 4 0), (5, .ptr 5 0)], [(4, [.nils, .int .i64 0]), (5, [.int .i64 x1.Code, .int .i64 x1.At])], [], [], []⟩ (.cons (disk_fault_ok 3 (-1) x1 h1) .nil) (by kernel_rfl) ?_
      have hF := some_elim hF
      exact Wk_ret (hfin _ ⟨[], [], [], [], [], [], by first | (rw [← hF]; kernel_rfl) | kernel_rfl⟩)
    · have hF := ite_f hF hb
      refine Wk_skip ?_
      refine Wk_seq ?_
      obtain ⟨x2, h2, hF⟩ := ob_elim hF
      refine WR [.callE [] [] [] [] (.agg [.row 33 0, .int .i64 x2.2]) ⟨[], [], [(33, ⟨5, 1, 0, 0, 0, false, 0, [], (x2.1.map e_u8)⟩)], [], []⟩] [4, 5] [4, 5] [33] [] [] [] ⟨[(4, .ptr 4 0), (5, .ptr 5 0)], [(4, [.row 33 0, .int .i64 x2.2]), (5, [.int .i64 0, .int .i64 0])], [(33, ⟨5, 1, 0, 0, 0, false, 0, [], (x2.1.map e_u8)⟩)], [], []⟩ (.cons (Pe.ren (disk_cut_ok d (w64 (d.Kept + num)) x2 h2) ⟨[], [(9, 33)], [], []⟩) .nil) (by kernel_rfl) ?_
      have hF := some_elim hF
      exact Wk_ret (hfin _ ⟨[], [], [], [], [], [], by first | (rw [← hF]; kernel_rfl) | kernel_rfl⟩)

/- tabularyref.Same -/
noncomputable def R_Same (a0 : List UInt8) (b : List UInt8) : Bool :=
  decide (a0 = b)
theorem R_Same_ok (a0 : List UInt8) (b : List UInt8) (r : Bool) (hF : R_Same a0 b = r) : Pe Try.prog 26 S.none [.sl 1 (a0.map e_u8), .sl 1 (b.map e_u8)] (.bool r) S.none := by
  refine Pe_of (N := 10) (res := [.tmp 4]) (ts := [4]) Ty.ok Fn.b26 Try.func26 rfl rfl rfl rfl rfl rfl ?_
  intro Q g hfin
  unfold R_Same at hF
  refine Wk_seq ?_
  refine WR [] [0, 1] [] [] [] [] [] ⟨[(0, .sl 1 (a0.map e_u8)), (1, .sl 1 (b.map e_u8))], [], [], [], []⟩ .nil (by kernel_rfl) ?_
  refine Wk_seq ?_
  refine WR [.str a0, .str b] [4] [] [] [] [] [] ⟨[(4, .bool (decide (a0 = b)))], [], [], [], []⟩ (.cons (u8s_ok a0) (.cons (u8s_ok b) .nil)) (by kernel_rfl) ?_
  exact Wk_ret (hfin _ ⟨[], [], [], [], [], [], by first | (rw [← hF]; kernel_rfl) | kernel_rfl⟩)

/- tabularyref.SameDisk -/
noncomputable def R_SameDisk (a0 : Disk) (b : Disk) : Bool :=
  lt (R_Same a0.Bytes b.Bytes) fun x =>
  (decide (a0.Kept = b.Kept)) && x
theorem R_SameDisk_ok (a0 : Disk) (b : Disk) (r : Bool) (hF : R_SameDisk a0 b = r) : Pe Try.prog 43 S.none [.agg [.sl 1 (a0.Bytes.map e_u8), .int .i64 a0.Kept], .agg [.sl 1 (b.Bytes.map e_u8), .int .i64 b.Kept]] (.bool r) S.none := by
  refine Pe_of (N := 17) (res := [.tmp 4]) (ts := [4]) Ty.ok Fn.b43 Try.func43 rfl rfl rfl rfl rfl rfl ?_
  intro Q g hfin
  unfold R_SameDisk at hF
  refine Wk_seq ?_
  refine WR [] [2, 3] [2, 3] [] [] [] [] ⟨[(2, .ptr 2 0), (3, .ptr 3 0)], [(2, [.sl 1 (a0.Bytes.map e_u8), .int .i64 a0.Kept]), (3, [.sl 1 (b.Bytes.map e_u8), .int .i64 b.Kept])], [], [], []⟩ .nil (by kernel_rfl) ?_
  refine Wk_seq ?_
  obtain ⟨x, h0, hF⟩ := lt_split hF
  refine WR [.callB (.bool x)] [4] [] [] [] [] [] ⟨[(4, .bool ((decide (a0.Kept = b.Kept)) && x))], [], [], [], []⟩ (.cons (fun (ga0 : (decide (a0.Kept = b.Kept)) = true) => (R_Same_ok a0.Bytes b.Bytes x h0)) .nil) (by kernel_rfl) ?_
  exact Wk_ret (hfin _ ⟨[], [], [], [], [], [], by first | (rw [← hF]; kernel_rfl) | kernel_rfl⟩)

/- tabularylaw.diskBegun -/
noncomputable def law_diskBegun  : Option Bool :=
  ob (disk_Append_v1 (⟨([] : List UInt8), 0⟩ : Disk) ([(1 : UInt8), (2 : UInt8), (3 : UInt8)] : List UInt8)) fun x =>
  ob (disk_Crash_v1 x.1 1) fun x1 =>
  lt (R_SameDisk x1.1 (⟨([(1 : UInt8)] : List UInt8), 1⟩ : Disk)) fun x2 =>
  some (((decide (x.2.Code = 0)) && (decide (x1.2.Code = 0))) && x2)
theorem law_diskBegun_ok  (r : Bool) (hF : law_diskBegun  = some r) : Pe Try.prog 22 S.none [] (.bool r) S.none := by
  refine Pe_of (N := 30) (res := [.tmp 0]) (ts := [4]) Ty.ok Fn.b22 Try.func22 rfl rfl rfl rfl rfl rfl ?_
  intro Q g hfin
  unfold law_diskBegun at hF
  refine Wk_seq ?_
  refine WR [] [] [] [] [] [] [] ⟨[], [], [], [], []⟩ .nil (by kernel_rfl) ?_
  refine Wk_seq ?_
  obtain ⟨x, h0, hF⟩ := ob_elim hF
  refine WR [.sealed, .call (.tup [.agg [.sl 1 (x.1.Bytes.map e_u8), .int .i64 x.1.Kept], .agg [.int .i64 x.2.Code, .int .i64 x.2.At]])] [1, 2] [1, 2] [] [] [] [] ⟨[(1, .ptr 1 0), (2, .ptr 2 0)], [(1, [.sl 1 (x.1.Bytes.map e_u8), .int .i64 x.1.Kept]), (2, [.int .i64 x.2.Code, .int .i64 x.2.At])], [], [], []⟩ (.cons (disk_Append_v1_ok (⟨([] : List UInt8), 0⟩ : Disk) ([(1 : UInt8), (2 : UInt8), (3 : UInt8)] : List UInt8) x h0) .nil) (by kernel_rfl) ?_
  refine Wk_seq ?_
  obtain ⟨x1, h1, hF⟩ := ob_elim hF
  refine WR [.call (.tup [.agg [.sl 1 (x1.1.Bytes.map e_u8), .int .i64 x1.1.Kept], .agg [.int .i64 x1.2.Code, .int .i64 x1.2.At]])] [2, 3, 4] [2, 3, 4] [] [] [] [] ⟨[(2, .ptr 2 0), (3, .ptr 3 0), (4, .ptr 4 0)], [(2, [.int .i64 x.2.Code, .int .i64 x.2.At]), (3, [.sl 1 (x1.1.Bytes.map e_u8), .int .i64 x1.1.Kept]), (4, [.int .i64 x1.2.Code, .int .i64 x1.2.At])], [], [], []⟩ (.cons (disk_Crash_v1_ok x.1 1 x1 h1) .nil) (by kernel_rfl) ?_
  refine Wk_seq ?_
  obtain ⟨x2, h2, hF⟩ := lt_split hF
  refine WR [.sealed, .callB (.bool x2)] [0] [] [] [] [] [] ⟨[(0, .bool (((decide (x.2.Code = 0)) && (decide (x1.2.Code = 0))) && x2))], [], [], [], []⟩ (.cons (fun (ga0 : ((decide (x.2.Code = 0)) && (decide (x1.2.Code = 0))) = true) => (R_SameDisk_ok x1.1 (⟨([(1 : UInt8)] : List UInt8), 1⟩ : Disk) x2 h2)) .nil) (by kernel_rfl) ?_
  have hF := some_elim hF
  exact Wk_ret (hfin _ ⟨[], [], [], [], [], [], by first | (rw [← hF]; kernel_rfl) | kernel_rfl⟩)

/- disk.Copy -/
noncomputable def disk_Copy (d : Disk) : Option (List UInt8 × Int) :=
  ob (slices_Clone_byte_byte d.Bytes) fun x =>
  some (x, d.Kept)
theorem disk_Copy_ok (d : Disk) (r : List UInt8 × Int) (hF : disk_Copy d = some r) : Pe Try.prog 62 ⟨[], [], [], [], []⟩ [.agg [.sl 1 (d.Bytes.map e_u8), .int .i64 d.Kept]] (.agg [.row 5 0, .int .i64 r.2]) ⟨[], [], [(5, ⟨5, 1, 0, 0, 0, false, 0, [], (r.1.map e_u8)⟩)], [], []⟩ := by
  refine Pe_of (N := 9) (res := [.cell 2 43]) (ts := [43]) Ty.ok Fn.b62 Try.func62 rfl rfl rfl rfl rfl rfl ?_
  intro Q g hfin
  unfold disk_Copy at hF
  refine Wk_seq ?_
  refine WR [] [1, 2] [1, 2] [] [] [] [] ⟨[(1, .ptr 1 0), (2, .ptr 2 0)], [(1, [.sl 1 (d.Bytes.map e_u8), .int .i64 d.Kept]), (2, [.nils, .int .i64 0])], [], [], []⟩ .nil (by kernel_rfl) ?_
  refine Wk_seq ?_
  obtain ⟨x, h0, hF⟩ := ob_elim hF
  refine WD [.callE [] [] [] [] (.row 5 0) ⟨[], [], [(5, ⟨5, 1, 0, 0, 0, false, 0, [], (x.map e_u8)⟩)], [], []⟩] [2] [2] [5] [] [] [] ⟨[(2, .ptr 2 0)], [(2, [.row 5 0, .int .i64 d.Kept])], [(5, ⟨5, 1, 0, 0, 0, false, 0, [], (x.map e_u8)⟩)], [], []⟩ (.cons (Pe.ren (slices_Clone_byte_byte_ok d.Bytes x h0) ⟨[], [], [], []⟩) .nil) (by kernel_rfl) ?_
  have hF := some_elim hF
  exact Wk_ret (hfin _ ⟨[5], [], [5], [], [], [], by first | (rw [← hF]; kernel_rfl) | kernel_rfl⟩)

/- disk.Sync -/
noncomputable def disk_Sync_v1 (d : Disk) : Option (Disk × Fault) :=
  lt (disk_Check d) fun x =>
  if (!decide (x.Code = 0)) = true then
    some ((⟨([] : List UInt8), 0⟩ : Disk), x)
  else
    ob (disk_Copy d) fun x1 =>
    some ((⟨x1.1, (x1.1.length : Int)⟩ : Disk), (⟨0, 0⟩ : Fault))
theorem disk_Sync_v1_ok (d : Disk) (r : Disk × Fault) (hF : disk_Sync_v1 d = some r) : Pe Try.prog 24 S.none [.agg [.sl 1 (d.Bytes.map e_u8), .int .i64 d.Kept]] (.tup [.agg [.sl 1 (r.1.Bytes.map e_u8), .int .i64 r.1.Kept], .agg [.int .i64 r.2.Code, .int .i64 r.2.At]]) S.none := by
  refine Pe_of (N := 21) (res := [.cell 2 43, .cell 3 26]) (ts := [43, 26]) Ty.ok Fn.b24 Try.func24 rfl rfl rfl rfl rfl rfl ?_
  intro Q g hfin
  unfold disk_Sync_v1 at hF
  refine Wk_seq ?_
  refine WR [] [1, 2, 3] [1, 2, 3] [] [] [] [] ⟨[(1, .ptr 1 0), (2, .ptr 2 0), (3, .ptr 3 0)], [(1, [.sl 1 (d.Bytes.map e_u8), .int .i64 d.Kept]), (2, [.nils, .int .i64 0]), (3, [.int .i64 0, .int .i64 0])], [], [], []⟩ .nil (by kernel_rfl) ?_
  refine Wk_seq ?_
  refine Wk_seq ?_
  obtain ⟨x, h0, hF⟩ := lt_split hF
  refine WR [.callB (.agg [.int .i64 x.Code, .int .i64 x.At])] [1, 2, 3, 4] [1, 2, 3, 4] [] [] [] [] ⟨[(1, .ptr 1 0), (2, .ptr 2 0), (3, .ptr 3 0), (4, .ptr 4 0)], [(1, [.sl 1 (d.Bytes.map e_u8), .int .i64 d.Kept]), (2, [.nils, .int .i64 0]), (3, [.int .i64 0, .int .i64 0]), (4, [.int .i64 x.Code, .int .i64 x.At])], [], [], []⟩ (.cons (disk_Check_ok d x h0) .nil) (by kernel_rfl) ?_
  refine Wk_seq ?_
  refine WR [] [1, 2, 3, 4, 10] [1, 2, 3, 4] [] [] [] [] ⟨[(1, .ptr 1 0), (2, .ptr 2 0), (3, .ptr 3 0), (4, .ptr 4 0), (10, .bool (!decide (x.Code = 0)))], [(1, [.sl 1 (d.Bytes.map e_u8), .int .i64 d.Kept]), (2, [.nils, .int .i64 0]), (3, [.int .i64 0, .int .i64 0]), (4, [.int .i64 x.Code, .int .i64 x.At])], [], [], []⟩ .nil (by kernel_rfl) ?_
  refine Wk_split rfl (fun hb => ?_) (fun hb => ?_)
  · have hF := ite_t hF hb
    refine Wk_seq ?_
    refine WD [] [2, 3] [2, 3] [] [] [] [] ⟨[(2, .ptr 2 0), (3, .ptr 3 0)], [(2, [.nils, .int .i64 0]), (3, [.int .i64 x.Code, .int .i64 x.At])], [], [], []⟩ .nil (by kernel_rfl) ?_
    have hF := some_elim hF
    exact Wk_ret (hfin _ ⟨[], [], [], [], [], [], by first | (rw [← hF]; kernel_rfl) | kernel_rfl⟩)
  · have hF := ite_f hF hb
    refine Wk_skip ?_
    refine Wk_seq ?_
    obtain ⟨x1, h1, hF⟩ := ob_elim hF
    refine WR [.callE [] [] [] [] (.agg [.row 14 0, .int .i64 x1.2]) ⟨[], [], [(14, ⟨5, 1, 0, 0, 0, false, 0, [], (x1.1.map e_u8)⟩)], [], []⟩] [2, 3, 5] [2, 3, 5] [14] [] [] [] ⟨[(2, .ptr 2 0), (3, .ptr 3 0), (5, .ptr 5 0)], [(2, [.nils, .int .i64 0]), (3, [.int .i64 0, .int .i64 0]), (5, [.row 14 0, .int .i64 x1.2])], [(14, ⟨5, 1, 0, 0, 0, false, 0, [], (x1.1.map e_u8)⟩)], [], []⟩ (.cons (Pe.ren (disk_Copy_ok d x1 h1) ⟨[], [(5, 14)], [], []⟩) .nil) (by kernel_rfl) ?_
    refine Wk_seq ?_
    refine WR [.nat (x1.1.length : Int)] [2, 3, 5] [2, 3, 5] [14] [] [] [] ⟨[(2, .ptr 2 0), (3, .ptr 3 0), (5, .ptr 5 0)], [(2, [.nils, .int .i64 0]), (3, [.int .i64 0, .int .i64 0]), (5, [.row 14 0, .int .i64 (x1.1.length : Int)])], [(14, ⟨5, 1, 0, 0, 0, false, 0, [], (x1.1.map e_u8)⟩)], [], []⟩ (.cons (len_ok e_u8 x1.1) .nil) (by kernel_rfl) ?_
    refine Wk_seq ?_
    refine WR [] [2, 3] [2, 3] [14] [] [] [] ⟨[(2, .ptr 2 0), (3, .ptr 3 0)], [(2, [.row 14 0, .int .i64 (x1.1.length : Int)]), (3, [.int .i64 0, .int .i64 0])], [(14, ⟨5, 1, 0, 0, 0, false, 0, [], (x1.1.map e_u8)⟩)], [], []⟩ .nil (by kernel_rfl) ?_
    have hF := some_elim hF
    exact Wk_ret (hfin _ ⟨[], [], [], [], [], [], by first | (rw [← hF]; kernel_rfl) | kernel_rfl⟩)

/- tabularylaw.ownBytes -/
noncomputable def law_ownBytes (b : List UInt8) : Option (List UInt8) :=
  asrt ((b.length : Int) * 1 ≤ 140737488351232) <|
  some b
theorem law_ownBytes_ok (b : List UInt8) (r : List UInt8) (hF : law_ownBytes b = some r) : Pe Try.prog 15 ⟨[], [], [], [], []⟩ [.sl 1 (b.map e_u8)] (.row 4 1) ⟨[], [], [(4, ⟨5, 1, 1, 0, 0, true, 0, [], (r.map e_u8)⟩)], [], []⟩ := by
  refine Pe_of (N := 5) (res := [.tmp 2]) (ts := [23]) Ty.ok Fn.b15 Try.func15 rfl rfl rfl rfl rfl rfl ?_
  intro Q g hfin
  unfold law_ownBytes at hF
  refine Wk_seq ?_
  refine WR [] [0] [] [] [] [] [] ⟨[(0, .sl 1 (b.map e_u8))], [], [], [], []⟩ .nil (by kernel_rfl) ?_
  refine Wk_seq ?_
  obtain ⟨h0, hF⟩ := asrt_elim hF
  refine WR [.xs (b.map e_u8)] [2] [] [4] [] [] [] ⟨[(2, .row 4 1)], [], [(4, ⟨5, 1, 1, 0, 0, true, 0, [], (b.map e_u8)⟩)], [], []⟩ (.cons (app0_ok e_u8 b) (.cons (appl_ok e_u8 h0) .nil)) (by kernel_rfl) ?_
  have hF := some_elim hF
  exact Wk_ret (hfin _ ⟨[4], [], [4], [], [], [], by first | (rw [← hF]; kernel_rfl) | kernel_rfl⟩)

/- tabularylaw.ownBytes -/
noncomputable def law_ownBytes_v1 (b : List UInt8) : Option (List UInt8) :=
  asrt ((b.length : Int) * 1 ≤ 140737488351232) <|
  some b
theorem law_ownBytes_v1_ok (b : List UInt8) (r : List UInt8) (hF : law_ownBytes_v1 b = some r) : Pe Try.prog 15 S.none [.sl 1 (b.map e_u8)] (.sl 1 (r.map e_u8)) S.none := by
  refine Pe_of (N := 5) (res := [.tmp 2]) (ts := [23]) Ty.ok Fn.b15 Try.func15 rfl rfl rfl rfl rfl rfl ?_
  intro Q g hfin
  unfold law_ownBytes_v1 at hF
  refine Wk_seq ?_
  refine WR [] [0] [] [] [] [] [] ⟨[(0, .sl 1 (b.map e_u8))], [], [], [], []⟩ .nil (by kernel_rfl) ?_
  refine Wk_seq ?_
  obtain ⟨h0, hF⟩ := asrt_elim hF
  refine WR [.xs (b.map e_u8)] [2] [] [4] [] [] [] ⟨[(2, .row 4 1)], [], [(4, ⟨5, 1, 1, 0, 0, true, 0, [], (b.map e_u8)⟩)], [], []⟩ (.cons (app0_ok e_u8 b) (.cons (appl_ok e_u8 h0) .nil)) (by kernel_rfl) ?_
  have hF := some_elim hF
  exact Wk_ret (hfin _ ⟨[], [], [], [], [], [], by first | (rw [← hF]; kernel_rfl) | kernel_rfl⟩)

/- tabularylaw.ownBytes -/
noncomputable def law_ownBytes_v3 (row : List UInt8) : Option (List UInt8) :=
  asrt ((row.length : Int) * 1 ≤ 140737488351232) <|
  some row
theorem law_ownBytes_v3_ok (row : List UInt8) (rk : Nat) (rc : Nat) (rn : Bool) (r : List UInt8) (hF : law_ownBytes_v3 row = some r) : Pe Try.prog 15 ⟨[], [], [(100000, ⟨5, 1, 0, rk, rc, rn, 0, [], (row.map e_u8)⟩)], [], []⟩ [.row 100000 0] (.sl 1 (r.map e_u8)) ⟨[], [], [(100000, ⟨5, 1, 0, rk, rc, rn, 0, [], (row.map e_u8)⟩)], [], []⟩ := by
  refine Pe_of (N := 5) (res := [.tmp 2]) (ts := [23]) Ty.ok Fn.b15 Try.func15 rfl rfl rfl rfl rfl rfl ?_
  intro Q g hfin
  unfold law_ownBytes_v3 at hF
  refine Wk_seq ?_
  refine WR [] [0] [] [100000] [] [] [] ⟨[(0, .row 100000 0)], [], [(100000, ⟨5, 1, 0, rk, rc, rn, 0, [], (row.map e_u8)⟩)], [], []⟩ .nil (by kernel_rfl) ?_
  refine Wk_seq ?_
  obtain ⟨h0, hF⟩ := asrt_elim hF
  refine WR [.xs (row.map e_u8)] [2] [] [4, 100000] [] [] [] ⟨[(2, .row 4 1)], [], [(4, ⟨5, 1, 1, 0, 0, true, 0, [], (row.map e_u8)⟩), (100000, ⟨5, 1, 0, rk, rc, rn, 0, [], (row.map e_u8)⟩)], [], []⟩ (.cons (app0_ok e_u8 row) (.cons (appl_ok e_u8 h0) .nil)) (by kernel_rfl) ?_
  have hF := some_elim hF
  exact Wk_ret (hfin _ ⟨[100000], [], [100000], [], [], [], by first | (rw [← hF]; kernel_rfl) | kernel_rfl⟩)

/- tabularylaw.DiskKeeps -/
noncomputable def law_DiskKeeps_J1 (v : Unit) : Option Bool :=
  some true
noncomputable def law_DiskKeeps_J2 (v1 : Disk × List UInt8 × List UInt8 × Int × Int) (v2 : Disk × List UInt8 × List UInt8 × Int) : Option ((Disk × List UInt8 × List UInt8 × Int × Int) ⊕ Bool) :=
  some (Sum.inl (v2.1, v2.2.1, v2.2.2.1, v2.2.2.2, w64 (v1.2.2.2.2 + 1)))
noncomputable def law_DiskKeeps_J3 (v1 : Disk × List UInt8 × List UInt8 × Int × Int) (v3 : Disk × List UInt8 × List UInt8 × Int × Disk × Fault) : Option ((Disk × List UInt8 × List UInt8 × Int × Int) ⊕ Bool) :=
  if (!decide (v3.2.2.2.2.2.Code = 0)) = true then
    law_DiskKeeps_J2 v1 (v3.1, v3.2.1, v3.2.2.1, v3.2.2.2.1)
  else
    lt (R_Same v3.2.2.2.2.1.Bytes v3.2.2.1) fun x1 =>
    asrt ((!((!decide (v3.2.2.2.2.1.Kept = (v3.2.1.length : Int))) || (!x1))) = true → 0 ≤ v3.2.2.2.2.1.Kept ∧ v3.2.2.2.2.1.Kept ≤ (v3.2.2.2.2.1.Bytes.length : Int)) <|
    lt (R_Same (ltake v3.2.2.2.2.1.Bytes v3.2.2.2.2.1.Kept) v3.2.1) fun x2 =>
    if (((!decide (v3.2.2.2.2.1.Kept = (v3.2.1.length : Int))) || (!x1)) || (!x2)) = true then
      some (Sum.inr false)
    else
      law_DiskKeeps_J2 v1 (v3.2.2.2.2.1, v3.2.1, v3.2.2.1, v3.2.2.2.1)
noncomputable def law_DiskKeeps_B1 (parts : List (List UInt8)) (moves : List Int) (v1 : Disk × List UInt8 × List UInt8 × Int × Int) : Option ((Disk × List UInt8 × List UInt8 × Int × Int) ⊕ Bool) :=
  if (decide (v1.2.2.2.2 < (moves.length : Int))) = true then
    asrt (0 ≤ v1.2.2.2.2 ∧ v1.2.2.2.2 < (moves.length : Int)) <|
    if (decide ((lget moves v1.2.2.2.2) < 0)) = true then
      if (decide ((parts.length : Int) ≤ v1.2.2.2.1)) = true then
        law_DiskKeeps_J2 v1 (v1.1, v1.2.1, v1.2.2.1, v1.2.2.2.1)
      else
        asrt (0 ≤ v1.2.2.2.1 ∧ v1.2.2.2.1 < (parts.length : Int)) <|
        ob (disk_Append_v1 v1.1 (lget parts v1.2.2.2.1)) fun x3 =>
        ob (
          if (decide (x3.2.Code = 0)) = true then
            asrt (0 ≤ v1.2.2.2.1 ∧ v1.2.2.2.1 < (parts.length : Int)) <|
            asrt (((v1.2.2.1 ++ (lget parts v1.2.2.2.1)).length : Int) * 1 ≤ 140737488351232) <|
            some (v1.1, (v1.2.2.1 ++ (lget parts v1.2.2.2.1)), x3.1, x3.2)
          else
            some (v1.1, v1.2.2.1, x3.1, x3.2)) fun (v4 : Disk × List UInt8 × Disk × Fault) =>
        law_DiskKeeps_J3 v1 (v4.1, v1.2.1, v4.2.1, w64 (v1.2.2.2.1 + 1), v4.2.2.1, v4.2.2.2)
    else
      if (decide ((lget moves v1.2.2.2.2) = 0)) = true then
        ob (disk_Sync_v1 v1.1) fun x4 =>
        if (decide (x4.2.Code = 0)) = true then
          ob (law_ownBytes_v3 v1.2.2.1) fun x5 =>
          law_DiskKeeps_J3 v1 (v1.1, x5, v1.2.2.1, v1.2.2.2.1, x4.1, x4.2)
        else
          law_DiskKeeps_J3 v1 (v1.1, v1.2.1, v1.2.2.1, v1.2.2.2.1, x4.1, x4.2)
      else
        ob (disk_Crash_v1 v1.1 (w64 ((lget moves v1.2.2.2.2) - 1))) fun x6 =>
        if (decide (x6.2.Code = 0)) = true then
          asrt (0 ≤ w64 ((w64 ((v1.2.1.length : Int) + (lget moves v1.2.2.2.2))) - 1) ∧ (w64 ((w64 ((v1.2.1.length : Int) + (lget moves v1.2.2.2.2))) - 1)).toNat ≤ v1.2.2.1.length ∧ 0 ≤ (w64 ((w64 ((v1.2.1.length : Int) + (lget moves v1.2.2.2.2))) - 1)).toNat) <|
          lt ((v1.2.2.1.take (w64 ((w64 ((v1.2.1.length : Int) + (lget moves v1.2.2.2.2))) - 1)).toNat)) fun (v5 : List UInt8) =>
          ob (law_ownBytes_v3 v5) fun x7 =>
          law_DiskKeeps_J3 v1 (v1.1, x7, v5, v1.2.2.2.1, x6.1, x6.2)
        else
          law_DiskKeeps_J3 v1 (v1.1, v1.2.1, v1.2.2.1, v1.2.2.2.1, x6.1, x6.2)
  else
    inrO (law_DiskKeeps_J1 ())
noncomputable def law_DiskKeeps_L1 (parts : List (List UInt8)) (moves : List Int) (v0 : Disk × List UInt8 × List UInt8 × Int × Int) : Option Bool :=
  loopO (fun y => law_DiskKeeps_B1 parts moves y) v0
noncomputable def law_DiskKeeps (parts : List (List UInt8)) (moves : List Int) : Option Bool :=
  ob (law_diskBegun) fun x =>
  if (!x) = true then
    some false
  else
    if ((decide (100 < (parts.length : Int))) || (decide (200 < (moves.length : Int)))) = true then
      some true
    else
      law_DiskKeeps_L1 parts moves ((⟨([] : List UInt8), 0⟩ : Disk), ([] : List UInt8), ([] : List UInt8), 0, 0)
theorem law_DiskKeeps_ok (parts : List (List UInt8)) (moves : List Int) (r : Bool) (hF : law_DiskKeeps parts moves = some r) : Pe Try.prog 4 S.none [.sl 1 (parts.map e_L_u8), .sl 1 (moves.map e_i64)] (.bool r) S.none := by
  refine Pe_of (N := 119) (res := [.tmp 4]) (ts := [4]) Ty.ok Fn.b4 Try.func4 rfl rfl rfl rfl rfl rfl ?_
  intro Q g hfin
  unfold law_DiskKeeps at hF
  refine Wk_seq ?_
  refine WR [] [0, 1] [] [] [] [] [] ⟨[(0, .sl 1 (parts.map e_L_u8)), (1, .sl 1 (moves.map e_i64))], [], [], [], []⟩ .nil (by kernel_rfl) ?_
  refine Wk_seq ?_
  refine Wk_seq ?_
  obtain ⟨x, h0, hF⟩ := ob_elim hF
  refine WR [.callB (.bool x)] [0, 1, 14] [] [] [] [] [] ⟨[(0, .sl 1 (parts.map e_L_u8)), (1, .sl 1 (moves.map e_i64)), (14, .bool (!x))], [], [], [], []⟩ (.cons (law_diskBegun_ok  x h0) .nil) (by kernel_rfl) ?_
  refine Wk_split rfl (fun hb => ?_) (fun hb => ?_)
  · have hF := ite_t hF hb
    refine Wk_seq ?_
    refine WR [] [4] [] [] [] [] [] ⟨[(4, .bool false)], [], [], [], []⟩ .nil (by kernel_rfl) ?_
    have hF := some_elim hF
    exact Wk_ret (hfin _ ⟨[], [], [], [], [], [], by first | (rw [← hF]; kernel_rfl) | kernel_rfl⟩)
  · have hF := ite_f hF hb
    refine Wk_skip ?_
    refine Wk_seq ?_
    refine Wk_seq ?_
    refine WR [.nat (parts.length : Int), .nat (moves.length : Int)] [0, 1, 22] [] [] [] [] [] ⟨[(0, .sl 1 (parts.map e_L_u8)), (1, .sl 1 (moves.map e_i64)), (22, .bool ((decide (100 < (parts.length : Int))) || (decide (200 < (moves.length : Int)))))], [], [], [], []⟩ (.cons (len_ok e_L_u8 parts) (.cons (fun (_ : (!(decide (100 < (parts.length : Int)))) = true) => (len_ok e_i64 moves)) .nil)) (by kernel_rfl) ?_
    refine Wk_split rfl (fun hb => ?_) (fun hb => ?_)
    · have hF := ite_t hF hb
      refine Wk_seq ?_
      refine WR [] [4] [] [] [] [] [] ⟨[(4, .bool true)], [], [], [], []⟩ .nil (by kernel_rfl) ?_
      have hF := some_elim hF
      exact Wk_ret (hfin _ ⟨[], [], [], [], [], [], by first | (rw [← hF]; kernel_rfl) | kernel_rfl⟩)
    · have hF := ite_f hF hb
      refine Wk_skip ?_
      refine Wk_seq ?_
      refine WR [] [0, 1, 5] [5] [] [] [] [] ⟨[(0, .sl 1 (parts.map e_L_u8)), (1, .sl 1 (moves.map e_i64)), (5, .ptr 5 0)], [(5, [.nils, .int .i64 0])], [], [], []⟩ .nil (by kernel_rfl) ?_
      refine Wk_seq ?_
      refine WR [] [0, 1, 5, 6, 7] [5] [] [] [] [] ⟨[(0, .sl 1 (parts.map e_L_u8)), (1, .sl 1 (moves.map e_i64)), (5, .ptr 5 0), (6, .nils), (7, .nils)], [(5, [.nils, .int .i64 0])], [], [], []⟩ .nil (by kernel_rfl) ?_
      refine Wk_seq ?_
      refine WR [] [0, 1, 5, 6, 7, 8] [5] [] [] [] [] ⟨[(0, .sl 1 (parts.map e_L_u8)), (1, .sl 1 (moves.map e_i64)), (5, .ptr 5 0), (6, .nils), (7, .nils), (8, .int .i64 0)], [(5, [.nils, .int .i64 0])], [], [], []⟩ .nil (by kernel_rfl) ?_
      refine Wk_seq ?_
      refine Wk_seq ?_
      refine WR [] [0, 1, 5, 6, 7, 8, 9] [5] [] [] [] [] ⟨[(0, .sl 1 (parts.map e_L_u8)), (1, .sl 1 (moves.map e_i64)), (5, .ptr 5 0), (6, .nils), (7, .nils), (8, .int .i64 0), (9, .int .i64 0)], [(5, [.nils, .int .i64 0])], [], [], []⟩ .nil (by kernel_rfl) ?_
      refine Wk_meetP (fun v : Unit => (⟨[], [], [], [], []⟩ : S)) (fun v => law_DiskKeeps_J1 v = some r) ?_ ?_
      · refine Wk_block ?_
        unfold law_DiskKeeps_L1 at hF
        refine Wk_coe 6 (.sl 1 (([] : List UInt8).map e_u8)) rfl (.cell rfl (CoeS.nils 1)) ?_
        refine Wk_nilrow 7 60000 5 1 rfl rfl rfl ?_
        refine Wk_coeB 5 [.sl 1 (([] : List UInt8).map e_u8), .int .i64 0] rfl (.cons (CoeS.nils 1) (.cons (CoeS.refl _) .nil)) ?_
        refine Wk_trim (fs := [0, 1, 5, 6, 7, 8, 9]) (bs := [5]) (rs := [60000]) (ms := []) (aa := []) (nv := []) rfl ?_
        refine Wk_ren' ⟨[], [(60000, 59)], [], []⟩ rfl ?_
        refine Wk_trim (fs := [0, 1, 5, 6, 7, 8, 9]) (bs := [5]) (rs := [59]) (ms := []) (aa := []) (nv := [(59, ⟨0, true, false, false⟩)]) (t := (fun v1 : Disk × List UInt8 × List UInt8 × Int × Int => (⟨[(0, .sl 1 (parts.map e_L_u8)), (1, .sl 1 (moves.map e_i64)), (5, .ptr 5 0), (6, .sl 1 (v1.2.1.map e_u8)), (7, .row 59 0), (8, .int .i64 v1.2.2.2.1), (9, .int .i64 v1.2.2.2.2)], [(5, [.sl 1 (v1.1.Bytes.map e_u8), .int .i64 v1.1.Kept])], [(59, ⟨5, 1, 0, 0, 0, false, 0, [], (v1.2.2.1.map e_u8)⟩)], [], []⟩ : S)) ((⟨([] : List UInt8), 0⟩ : Disk), ([] : List UInt8), ([] : List UInt8), 0, 0)) (by kernel_rfl) ?_
        refine Wk_iter (step := fun y => law_DiskKeeps_B1 parts moves y) (r := r) (fun v1 : Disk × List UInt8 × List UInt8 × Int × Int => (⟨[(0, .sl 1 (parts.map e_L_u8)), (1, .sl 1 (moves.map e_i64)), (5, .ptr 5 0), (6, .sl 1 (v1.2.1.map e_u8)), (7, .row 59 0), (8, .int .i64 v1.2.2.2.1), (9, .int .i64 v1.2.2.2.2)], [(5, [.sl 1 (v1.1.Bytes.map e_u8), .int .i64 v1.1.Kept])], [(59, ⟨5, 1, 0, 0, 0, false, 0, [], (v1.2.2.1.map e_u8)⟩)], [], []⟩ : S)) ((⟨([] : List UInt8), 0⟩ : Disk), ([] : List UInt8), ([] : List UInt8), 0, 0) hF ?_
        intro n1 v1 y1 hF ih1 dn1
        have hF : law_DiskKeeps_B1 parts moves v1 = some y1 := hF
        unfold law_DiskKeeps_B1 at hF
        refine Wk_seq ?_
        refine Wk_seq ?_
        refine WR [.nat (moves.length : Int)] [0, 1, 5, 6, 7, 8, 9, 27] [5] [59] [] [] [] ⟨[(0, .sl 1 (parts.map e_L_u8)), (1, .sl 1 (moves.map e_i64)), (5, .ptr 5 0), (6, .sl 1 (v1.2.1.map e_u8)), (7, .row 59 0), (8, .int .i64 v1.2.2.2.1), (9, .int .i64 v1.2.2.2.2), (27, .bool (decide (v1.2.2.2.2 < (moves.length : Int))))], [(5, [.sl 1 (v1.1.Bytes.map e_u8), .int .i64 v1.1.Kept])], [(59, ⟨5, 1, 0, 0, 0, false, 0, [], (v1.2.2.1.map e_u8)⟩)], [], []⟩ (.cons (len_ok e_i64 moves) .nil) (by kernel_rfl) ?_
        refine Wk_split rfl (fun hb => ?_) (fun hb => ?_)
        · have hF := ite_t hF hb
          refine Wk_skip ?_
          refine Wk_seq ?_
          refine Wk_meetP (fun v2 : Disk × List UInt8 × List UInt8 × Int => (⟨[(0, .sl 1 (parts.map e_L_u8)), (1, .sl 1 (moves.map e_i64)), (5, .ptr 5 0), (6, .sl 1 (v2.2.1.map e_u8)), (7, .row 59 0), (8, .int .i64 v2.2.2.2), (9, .int .i64 v1.2.2.2.2)], [(5, [.sl 1 (v2.1.Bytes.map e_u8), .int .i64 v2.1.Kept])], [(59, ⟨5, 1, 0, 0, 0, false, 0, [], (v2.2.2.1.map e_u8)⟩)], [], []⟩ : S)) (fun v2 => law_DiskKeeps_J2 v1 v2 = some y1) ?_ ?_
          · refine Wk_block ?_
            refine Wk_seq ?_
            refine WR [] [0, 1, 5, 6, 7, 8, 9, 10, 11] [5, 10, 11] [59] [] [] [] ⟨[(0, .sl 1 (parts.map e_L_u8)), (1, .sl 1 (moves.map e_i64)), (5, .ptr 5 0), (6, .sl 1 (v1.2.1.map e_u8)), (7, .row 59 0), (8, .int .i64 v1.2.2.2.1), (9, .int .i64 v1.2.2.2.2), (10, .ptr 10 0), (11, .ptr 11 0)], [(5, [.sl 1 (v1.1.Bytes.map e_u8), .int .i64 v1.1.Kept]), (10, [.sl 1 (v1.1.Bytes.map e_u8), .int .i64 v1.1.Kept]), (11, [.int .i64 0, .int .i64 0])], [(59, ⟨5, 1, 0, 0, 0, false, 0, [], (v1.2.2.1.map e_u8)⟩)], [], []⟩ .nil (by kernel_rfl) ?_
            refine Wk_seq ?_
            obtain ⟨h1, hF⟩ := asrt_elim hF
            refine WR [.av (e_i64 (lget moves v1.2.2.2.2))] [0, 1, 5, 6, 7, 8, 9, 10, 11, 12] [5, 10, 11] [59] [] [] [] ⟨[(0, .sl 1 (parts.map e_L_u8)), (1, .sl 1 (moves.map e_i64)), (5, .ptr 5 0), (6, .sl 1 (v1.2.1.map e_u8)), (7, .row 59 0), (8, .int .i64 v1.2.2.2.1), (9, .int .i64 v1.2.2.2.2), (10, .ptr 10 0), (11, .ptr 11 0), (12, .int .i64 (lget moves v1.2.2.2.2))], [(5, [.sl 1 (v1.1.Bytes.map e_u8), .int .i64 v1.1.Kept]), (10, [.sl 1 (v1.1.Bytes.map e_u8), .int .i64 v1.1.Kept]), (11, [.int .i64 0, .int .i64 0])], [(59, ⟨5, 1, 0, 0, 0, false, 0, [], (v1.2.2.1.map e_u8)⟩)], [], []⟩ (.cons (idx_ok e_i64 h1) .nil) (by kernel_rfl) ?_
            refine Wk_seq ?_
            refine Wk_seq ?_
            refine WR [] [0, 1, 5, 6, 7, 8, 9, 10, 11, 12, 37] [5, 10, 11] [59] [] [] [] ⟨[(0, .sl 1 (parts.map e_L_u8)), (1, .sl 1 (moves.map e_i64)), (5, .ptr 5 0), (6, .sl 1 (v1.2.1.map e_u8)), (7, .row 59 0), (8, .int .i64 v1.2.2.2.1), (9, .int .i64 v1.2.2.2.2), (10, .ptr 10 0), (11, .ptr 11 0), (12, .int .i64 (lget moves v1.2.2.2.2)), (37, .bool (decide ((lget moves v1.2.2.2.2) < 0)))], [(5, [.sl 1 (v1.1.Bytes.map e_u8), .int .i64 v1.1.Kept]), (10, [.sl 1 (v1.1.Bytes.map e_u8), .int .i64 v1.1.Kept]), (11, [.int .i64 0, .int .i64 0])], [(59, ⟨5, 1, 0, 0, 0, false, 0, [], (v1.2.2.1.map e_u8)⟩)], [], []⟩ .nil (by kernel_rfl) ?_
            refine Wk_meetP (fun v3 : Disk × List UInt8 × List UInt8 × Int × Disk × Fault => (⟨[(0, .sl 1 (parts.map e_L_u8)), (1, .sl 1 (moves.map e_i64)), (5, .ptr 5 0), (6, .sl 1 (v3.2.1.map e_u8)), (7, .row 59 0), (8, .int .i64 v3.2.2.2.1), (9, .int .i64 v1.2.2.2.2), (10, .ptr 10 0), (11, .ptr 11 0)], [(5, [.sl 1 (v3.1.Bytes.map e_u8), .int .i64 v3.1.Kept]), (10, [.sl 1 (v3.2.2.2.2.1.Bytes.map e_u8), .int .i64 v3.2.2.2.2.1.Kept]), (11, [.int .i64 v3.2.2.2.2.2.Code, .int .i64 v3.2.2.2.2.2.At])], [(59, ⟨5, 1, 0, 0, 0, false, 0, [], (v3.2.2.1.map e_u8)⟩)], [], []⟩ : S)) (fun v3 => law_DiskKeeps_J3 v1 v3 = some y1) ?_ ?_
            · refine Wk_split rfl (fun hb => ?_) (fun hb => ?_)
              · have hF := ite_t hF hb
                refine Wk_seq ?_
                refine Wk_seq ?_
                refine WR [.nat (parts.length : Int)] [0, 1, 5, 6, 7, 8, 9, 10, 11, 41] [5, 10, 11] [59] [] [] [] ⟨[(0, .sl 1 (parts.map e_L_u8)), (1, .sl 1 (moves.map e_i64)), (5, .ptr 5 0), (6, .sl 1 (v1.2.1.map e_u8)), (7, .row 59 0), (8, .int .i64 v1.2.2.2.1), (9, .int .i64 v1.2.2.2.2), (10, .ptr 10 0), (11, .ptr 11 0), (41, .bool (decide ((parts.length : Int) ≤ v1.2.2.2.1)))], [(5, [.sl 1 (v1.1.Bytes.map e_u8), .int .i64 v1.1.Kept]), (10, [.sl 1 (v1.1.Bytes.map e_u8), .int .i64 v1.1.Kept]), (11, [.int .i64 0, .int .i64 0])], [(59, ⟨5, 1, 0, 0, 0, false, 0, [], (v1.2.2.1.map e_u8)⟩)], [], []⟩ (.cons (len_ok e_L_u8 parts) .nil) (by kernel_rfl) ?_
                refine Wk_split rfl (fun hb => ?_) (fun hb => ?_)
                · have hF := ite_t hF hb
                  refine Wk_exit rfl ?_
                  exact Wk_metP (v1.1, v1.2.1, v1.2.2.1, v1.2.2.2.1) [0, 1, 5, 6, 7, 8, 9] [5] [59] [] [] [] hF (by kernel_rfl)
                · have hF := ite_f hF hb
                  refine Wk_skip ?_
                  refine Wk_seq ?_
                  obtain ⟨h5, hF⟩ := asrt_elim hF
                  obtain ⟨x3, h6, hF⟩ := ob_elim hF
                  refine WD [.av (e_L_u8 (lget parts v1.2.2.2.1)), .call (.tup [.agg [.sl 1 (x3.1.Bytes.map e_u8), .int .i64 x3.1.Kept], .agg [.int .i64 x3.2.Code, .int .i64 x3.2.At]])] [0, 1, 5, 6, 7, 8, 9, 10, 11] [5, 10, 11] [59] [] [] [] ⟨[(0, .sl 1 (parts.map e_L_u8)), (1, .sl 1 (moves.map e_i64)), (5, .ptr 5 0), (6, .sl 1 (v1.2.1.map e_u8)), (7, .row 59 0), (8, .int .i64 v1.2.2.2.1), (9, .int .i64 v1.2.2.2.2), (10, .ptr 10 0), (11, .ptr 11 0)], [(5, [.sl 1 (v1.1.Bytes.map e_u8), .int .i64 v1.1.Kept]), (10, [.sl 1 (x3.1.Bytes.map e_u8), .int .i64 x3.1.Kept]), (11, [.int .i64 x3.2.Code, .int .i64 x3.2.At])], [(59, ⟨5, 1, 0, 0, 0, false, 0, [], (v1.2.2.1.map e_u8)⟩)], [], []⟩ (.cons (idx_ok e_L_u8 h5) (.cons (disk_Append_v1_ok v1.1 (lget parts v1.2.2.2.1) x3 h6) .nil)) (by kernel_rfl) ?_
                  refine Wk_seq ?_
                  refine Wk_seq ?_
                  refine WR [] [0, 1, 5, 6, 7, 8, 9, 10, 11, 53] [5, 10, 11] [59] [] [] [] ⟨[(0, .sl 1 (parts.map e_L_u8)), (1, .sl 1 (moves.map e_i64)), (5, .ptr 5 0), (6, .sl 1 (v1.2.1.map e_u8)), (7, .row 59 0), (8, .int .i64 v1.2.2.2.1), (9, .int .i64 v1.2.2.2.2), (10, .ptr 10 0), (11, .ptr 11 0), (53, .bool (decide (x3.2.Code = 0)))], [(5, [.sl 1 (v1.1.Bytes.map e_u8), .int .i64 v1.1.Kept]), (10, [.sl 1 (x3.1.Bytes.map e_u8), .int .i64 x3.1.Kept]), (11, [.int .i64 x3.2.Code, .int .i64 x3.2.At])], [(59, ⟨5, 1, 0, 0, 0, false, 0, [], (v1.2.2.1.map e_u8)⟩)], [], []⟩ .nil (by kernel_rfl) ?_
                  obtain ⟨v4, hv, hF⟩ := ob_elim hF
                  refine Wk_meet (⟨[(0, .sl 1 (parts.map e_L_u8)), (1, .sl 1 (moves.map e_i64)), (5, .ptr 5 0), (6, .sl 1 (v1.2.1.map e_u8)), (7, .row 59 0), (8, .int .i64 v1.2.2.2.1), (9, .int .i64 v1.2.2.2.2), (10, .ptr 10 0), (11, .ptr 11 0)], [(5, [.sl 1 (v4.1.Bytes.map e_u8), .int .i64 v4.1.Kept]), (10, [.sl 1 (v4.2.2.1.Bytes.map e_u8), .int .i64 v4.2.2.1.Kept]), (11, [.int .i64 v4.2.2.2.Code, .int .i64 v4.2.2.2.At])], [(59, ⟨5, 1, 0, 0, 0, false, 0, [], (v4.2.1.map e_u8)⟩)], [], []⟩ : S) ?_ ?_
                  · have hF := hv
                    refine Wk_split rfl (fun hb => ?_) (fun hb => ?_)
                    · have hF := ite_t hF hb
                      obtain ⟨h7, hF⟩ := asrt_elim hF
                      obtain ⟨h8, hF⟩ := asrt_elim hF
                      refine WR [.av (e_L_u8 (lget parts v1.2.2.2.1)), .xs ((v1.2.2.1 ++ (lget parts v1.2.2.2.1)).map e_u8)] [0, 1, 5, 6, 7, 8, 9, 10, 11] [5, 10, 11] [59] [] [] [] ⟨[(0, .sl 1 (parts.map e_L_u8)), (1, .sl 1 (moves.map e_i64)), (5, .ptr 5 0), (6, .sl 1 (v1.2.1.map e_u8)), (7, .row 59 1), (8, .int .i64 v1.2.2.2.1), (9, .int .i64 v1.2.2.2.2), (10, .ptr 10 0), (11, .ptr 11 0)], [(5, [.sl 1 (v1.1.Bytes.map e_u8), .int .i64 v1.1.Kept]), (10, [.sl 1 (x3.1.Bytes.map e_u8), .int .i64 x3.1.Kept]), (11, [.int .i64 x3.2.Code, .int .i64 x3.2.At])], [(59, ⟨5, 1, 1, 0, 0, false, 0, [], ((v1.2.2.1 ++ (lget parts v1.2.2.2.1)).map e_u8)⟩)], [], []⟩ (.cons (idx_ok e_L_u8 h7) (.cons (app_ok e_u8 v1.2.2.1 (lget parts v1.2.2.2.1)) (.cons (appl_ok e_u8 h8) .nil))) (by kernel_rfl) ?_
                      exact Wk_met (fs := [0, 1, 5, 6, 7, 8, 9, 10, 11]) (bs := [5, 10, 11]) (rs := [59]) (ms := []) (aa := []) (nv := [(59, ⟨0, true, true, false⟩)]) (by first | (rw [← some_elim hF]; kernel_rfl) | kernel_rfl)
                    · have hF := ite_f hF hb
                      refine Wk_skip ?_
                      exact Wk_met (fs := [0, 1, 5, 6, 7, 8, 9, 10, 11]) (bs := [5, 10, 11]) (rs := [59]) (ms := []) (aa := []) (nv := []) (by first | (rw [← some_elim hF]; kernel_rfl) | kernel_rfl)
                  · refine WR [] [0, 1, 5, 6, 7, 8, 9, 10, 11] [5, 10, 11] [59] [] [] [] ⟨[(0, .sl 1 (parts.map e_L_u8)), (1, .sl 1 (moves.map e_i64)), (5, .ptr 5 0), (6, .sl 1 (v1.2.1.map e_u8)), (7, .row 59 0), (8, .int .i64 (w64 (v1.2.2.2.1 + 1))), (9, .int .i64 v1.2.2.2.2), (10, .ptr 10 0), (11, .ptr 11 0)], [(5, [.sl 1 (v4.1.Bytes.map e_u8), .int .i64 v4.1.Kept]), (10, [.sl 1 (v4.2.2.1.Bytes.map e_u8), .int .i64 v4.2.2.1.Kept]), (11, [.int .i64 v4.2.2.2.Code, .int .i64 v4.2.2.2.At])], [(59, ⟨5, 1, 0, 0, 0, false, 0, [], (v4.2.1.map e_u8)⟩)], [], []⟩ .nil (by kernel_rfl) ?_
                    exact Wk_metP (v4.1, v1.2.1, v4.2.1, w64 (v1.2.2.2.1 + 1), v4.2.2.1, v4.2.2.2) [0, 1, 5, 6, 7, 8, 9, 10, 11] [5, 10, 11] [59] [] [] [] hF (by kernel_rfl)
              · have hF := ite_f hF hb
                refine Wk_seq ?_
                refine WR [] [0, 1, 5, 6, 7, 8, 9, 10, 11, 12, 63] [5, 10, 11] [59] [] [] [] ⟨[(0, .sl 1 (parts.map e_L_u8)), (1, .sl 1 (moves.map e_i64)), (5, .ptr 5 0), (6, .sl 1 (v1.2.1.map e_u8)), (7, .row 59 0), (8, .int .i64 v1.2.2.2.1), (9, .int .i64 v1.2.2.2.2), (10, .ptr 10 0), (11, .ptr 11 0), (12, .int .i64 (lget moves v1.2.2.2.2)), (63, .bool (decide ((lget moves v1.2.2.2.2) = 0)))], [(5, [.sl 1 (v1.1.Bytes.map e_u8), .int .i64 v1.1.Kept]), (10, [.sl 1 (v1.1.Bytes.map e_u8), .int .i64 v1.1.Kept]), (11, [.int .i64 0, .int .i64 0])], [(59, ⟨5, 1, 0, 0, 0, false, 0, [], (v1.2.2.1.map e_u8)⟩)], [], []⟩ .nil (by kernel_rfl) ?_
                refine Wk_split rfl (fun hb => ?_) (fun hb => ?_)
                · have hF := ite_t hF hb
                  refine Wk_seq ?_
                  obtain ⟨x4, h9, hF⟩ := ob_elim hF
                  refine WR [.call (.tup [.agg [.sl 1 (x4.1.Bytes.map e_u8), .int .i64 x4.1.Kept], .agg [.int .i64 x4.2.Code, .int .i64 x4.2.At]])] [0, 1, 5, 6, 7, 8, 9, 10, 11] [5, 10, 11] [59] [] [] [] ⟨[(0, .sl 1 (parts.map e_L_u8)), (1, .sl 1 (moves.map e_i64)), (5, .ptr 5 0), (6, .sl 1 (v1.2.1.map e_u8)), (7, .row 59 0), (8, .int .i64 v1.2.2.2.1), (9, .int .i64 v1.2.2.2.2), (10, .ptr 10 0), (11, .ptr 11 0)], [(5, [.sl 1 (v1.1.Bytes.map e_u8), .int .i64 v1.1.Kept]), (10, [.sl 1 (x4.1.Bytes.map e_u8), .int .i64 x4.1.Kept]), (11, [.int .i64 x4.2.Code, .int .i64 x4.2.At])], [(59, ⟨5, 1, 0, 0, 0, false, 0, [], (v1.2.2.1.map e_u8)⟩)], [], []⟩ (.cons (disk_Sync_v1_ok v1.1 x4 h9) .nil) (by kernel_rfl) ?_
                  refine Wk_seq ?_
                  refine WR [] [0, 1, 5, 6, 7, 8, 9, 10, 11, 71] [5, 10, 11] [59] [] [] [] ⟨[(0, .sl 1 (parts.map e_L_u8)), (1, .sl 1 (moves.map e_i64)), (5, .ptr 5 0), (6, .sl 1 (v1.2.1.map e_u8)), (7, .row 59 0), (8, .int .i64 v1.2.2.2.1), (9, .int .i64 v1.2.2.2.2), (10, .ptr 10 0), (11, .ptr 11 0), (71, .bool (decide (x4.2.Code = 0)))], [(5, [.sl 1 (v1.1.Bytes.map e_u8), .int .i64 v1.1.Kept]), (10, [.sl 1 (x4.1.Bytes.map e_u8), .int .i64 x4.1.Kept]), (11, [.int .i64 x4.2.Code, .int .i64 x4.2.At])], [(59, ⟨5, 1, 0, 0, 0, false, 0, [], (v1.2.2.1.map e_u8)⟩)], [], []⟩ .nil (by kernel_rfl) ?_
                  refine Wk_split rfl (fun hb => ?_) (fun hb => ?_)
                  · have hF := ite_t hF hb
                    obtain ⟨x5, h10, hF⟩ := ob_elim hF
                    refine WR [.callR [] [59] [] [] (.sl 1 (x5.map e_u8))] [0, 1, 5, 6, 7, 8, 9, 10, 11] [5, 10, 11] [59] [] [] [] ⟨[(0, .sl 1 (parts.map e_L_u8)), (1, .sl 1 (moves.map e_i64)), (5, .ptr 5 0), (6, .sl 1 (x5.map e_u8)), (7, .row 59 0), (8, .int .i64 v1.2.2.2.1), (9, .int .i64 v1.2.2.2.2), (10, .ptr 10 0), (11, .ptr 11 0)], [(5, [.sl 1 (v1.1.Bytes.map e_u8), .int .i64 v1.1.Kept]), (10, [.sl 1 (x4.1.Bytes.map e_u8), .int .i64 x4.1.Kept]), (11, [.int .i64 x4.2.Code, .int .i64 x4.2.At])], [(59, ⟨5, 1, 0, 0, 0, false, 0, [], (v1.2.2.1.map e_u8)⟩)], [], []⟩ (.cons (Pe.ren (law_ownBytes_v3_ok v1.2.2.1 0 0 false x5 h10) ⟨[], [(100000, 59)], [], []⟩) .nil) (by kernel_rfl) ?_
                    exact Wk_metP (v1.1, x5, v1.2.2.1, v1.2.2.2.1, x4.1, x4.2) [0, 1, 5, 6, 7, 8, 9, 10, 11] [5, 10, 11] [59] [] [] [] hF (by kernel_rfl)
                  · have hF := ite_f hF hb
                    refine Wk_skip ?_
                    exact Wk_metP (v1.1, v1.2.1, v1.2.2.1, v1.2.2.2.1, x4.1, x4.2) [0, 1, 5, 6, 7, 8, 9, 10, 11] [5, 10, 11] [59] [] [] [] hF (by kernel_rfl)
                · have hF := ite_f hF hb
                  refine Wk_seq ?_
                  obtain ⟨x6, h11, hF⟩ := ob_elim hF
                  refine WR [.call (.tup [.agg [.sl 1 (x6.1.Bytes.map e_u8), .int .i64 x6.1.Kept], .agg [.int .i64 x6.2.Code, .int .i64 x6.2.At]])] [0, 1, 5, 6, 7, 8, 9, 10, 11, 12] [5, 10, 11] [59] [] [] [] ⟨[(0, .sl 1 (parts.map e_L_u8)), (1, .sl 1 (moves.map e_i64)), (5, .ptr 5 0), (6, .sl 1 (v1.2.1.map e_u8)), (7, .row 59 0), (8, .int .i64 v1.2.2.2.1), (9, .int .i64 v1.2.2.2.2), (10, .ptr 10 0), (11, .ptr 11 0), (12, .int .i64 (lget moves v1.2.2.2.2))], [(5, [.sl 1 (v1.1.Bytes.map e_u8), .int .i64 v1.1.Kept]), (10, [.sl 1 (x6.1.Bytes.map e_u8), .int .i64 x6.1.Kept]), (11, [.int .i64 x6.2.Code, .int .i64 x6.2.At])], [(59, ⟨5, 1, 0, 0, 0, false, 0, [], (v1.2.2.1.map e_u8)⟩)], [], []⟩ (.cons (disk_Crash_v1_ok v1.1 (w64 ((lget moves v1.2.2.2.2) - 1)) x6 h11) .nil) (by kernel_rfl) ?_
                  refine Wk_seq ?_
                  refine WR [] [0, 1, 5, 6, 7, 8, 9, 10, 11, 12, 83] [5, 10, 11] [59] [] [] [] ⟨[(0, .sl 1 (parts.map e_L_u8)), (1, .sl 1 (moves.map e_i64)), (5, .ptr 5 0), (6, .sl 1 (v1.2.1.map e_u8)), (7, .row 59 0), (8, .int .i64 v1.2.2.2.1), (9, .int .i64 v1.2.2.2.2), (10, .ptr 10 0), (11, .ptr 11 0), (12, .int .i64 (lget moves v1.2.2.2.2)), (83, .bool (decide (x6.2.Code = 0)))], [(5, [.sl 1 (v1.1.Bytes.map e_u8), .int .i64 v1.1.Kept]), (10, [.sl 1 (x6.1.Bytes.map e_u8), .int .i64 x6.1.Kept]), (11, [.int .i64 x6.2.Code, .int .i64 x6.2.At])], [(59, ⟨5, 1, 0, 0, 0, false, 0, [], (v1.2.2.1.map e_u8)⟩)], [], []⟩ .nil (by kernel_rfl) ?_
                  refine Wk_split rfl (fun hb => ?_) (fun hb => ?_)
                  · have hF := ite_t hF hb
                    refine Wk_seq ?_
                    obtain ⟨h12, hF⟩ := asrt_elim hF
                    refine WRL ((v1.2.2.1.take (w64 ((w64 ((v1.2.1.length : Int) + (lget moves v1.2.2.2.2))) - 1)).toNat)) (fun v5 : List UInt8 => ⟨[(0, .sl 1 (parts.map e_L_u8)), (1, .sl 1 (moves.map e_i64)), (5, .ptr 5 0), (7, .row 59 1), (8, .int .i64 v1.2.2.2.1), (9, .int .i64 v1.2.2.2.2), (10, .ptr 10 0), (11, .ptr 11 0)], [(5, [.sl 1 (v1.1.Bytes.map e_u8), .int .i64 v1.1.Kept]), (10, [.sl 1 (x6.1.Bytes.map e_u8), .int .i64 x6.1.Kept]), (11, [.int .i64 x6.2.Code, .int .i64 x6.2.At])], [(59, ⟨5, 1, 1, 0, (v1.2.2.1.map e_u8).length, false, 0, [], (v5.map e_u8)⟩)], [], []⟩) [.nat (v1.2.1.length : Int), .tr ((v1.2.2.1.take (w64 ((w64 ((v1.2.1.length : Int) + (lget moves v1.2.2.2.2))) - 1)).toNat).map e_u8)] [0, 1, 5, 7, 8, 9, 10, 11] [5, 10, 11] [59] [] [] [] (.cons (len_ok e_u8 v1.2.1) (.cons (tr_ok e_u8 h12) .nil)) (by kernel_rfl) (fun v5 hv => ?_)
                    have hF := lt_elim hF hv
                    obtain ⟨x7, h13, hF⟩ := ob_elim hF
                    refine WR [.callR [] [59] [] [] (.sl 1 (x7.map e_u8))] [0, 1, 5, 6, 7, 8, 9, 10, 11] [5, 10, 11] [59] [] [] [] ⟨[(0, .sl 1 (parts.map e_L_u8)), (1, .sl 1 (moves.map e_i64)), (5, .ptr 5 0), (6, .sl 1 (x7.map e_u8)), (7, .row 59 1), (8, .int .i64 v1.2.2.2.1), (9, .int .i64 v1.2.2.2.2), (10, .ptr 10 0), (11, .ptr 11 0)], [(5, [.sl 1 (v1.1.Bytes.map e_u8), .int .i64 v1.1.Kept]), (10, [.sl 1 (x6.1.Bytes.map e_u8), .int .i64 x6.1.Kept]), (11, [.int .i64 x6.2.Code, .int .i64 x6.2.At])], [(59, ⟨5, 1, 1, 0, (v1.2.2.1.map e_u8).length, false, 0, [], (v5.map e_u8)⟩)], [], []⟩ (.cons (Pe.ren (law_ownBytes_v3_ok v5 0 ((v1.2.2.1.map e_u8).length) false x7 h13) ⟨[], [(100000, 59)], [], [(100000, 1)]⟩) .nil) (by kernel_rfl) ?_
                    exact Wk_metP (v1.1, x7, v5, v1.2.2.2.1, x6.1, x6.2) [0, 1, 5, 6, 7, 8, 9, 10, 11] [5, 10, 11] [59] [] [] [(59, ⟨0, false, true, false⟩)] hF (by kernel_rfl)
                  · have hF := ite_f hF hb
                    refine Wk_skip ?_
                    exact Wk_metP (v1.1, v1.2.1, v1.2.2.1, v1.2.2.2.1, x6.1, x6.2) [0, 1, 5, 6, 7, 8, 9, 10, 11] [5, 10, 11] [59] [] [] [] hF (by kernel_rfl)
            · intro v3 hF
              have hF : law_DiskKeeps_J3 v1 v3 = some y1 := hF
              unfold law_DiskKeeps_J3 at hF
              refine Wk_seq ?_
              refine Wk_seq ?_
              refine WR [] [0, 1, 5, 6, 7, 8, 9, 10, 95] [5, 10] [59] [] [] [] ⟨[(0, .sl 1 (parts.map e_L_u8)), (1, .sl 1 (moves.map e_i64)), (5, .ptr 5 0), (6, .sl 1 (v3.2.1.map e_u8)), (7, .row 59 0), (8, .int .i64 v3.2.2.2.1), (9, .int .i64 v1.2.2.2.2), (10, .ptr 10 0), (95, .bool (!decide (v3.2.2.2.2.2.Code = 0)))], [(5, [.sl 1 (v3.1.Bytes.map e_u8), .int .i64 v3.1.Kept]), (10, [.sl 1 (v3.2.2.2.2.1.Bytes.map e_u8), .int .i64 v3.2.2.2.2.1.Kept])], [(59, ⟨5, 1, 0, 0, 0, false, 0, [], (v3.2.2.1.map e_u8)⟩)], [], []⟩ .nil (by kernel_rfl) ?_
              refine Wk_split rfl (fun hb => ?_) (fun hb => ?_)
              · have hF := ite_t hF hb
                refine Wk_exit rfl ?_
                exact Wk_metP (v3.1, v3.2.1, v3.2.2.1, v3.2.2.2.1) [0, 1, 5, 6, 7, 8, 9] [5] [59] [] [] [] hF (by kernel_rfl)
              · have hF := ite_f hF hb
                refine Wk_skip ?_
                refine Wk_seq ?_
                refine WR [] [0, 1, 5, 6, 7, 8, 9] [5] [59] [] [] [] ⟨[(0, .sl 1 (parts.map e_L_u8)), (1, .sl 1 (moves.map e_i64)), (5, .ptr 5 0), (6, .sl 1 (v3.2.1.map e_u8)), (7, .row 59 0), (8, .int .i64 v3.2.2.2.1), (9, .int .i64 v1.2.2.2.2)], [(5, [.sl 1 (v3.2.2.2.2.1.Bytes.map e_u8), .int .i64 v3.2.2.2.2.1.Kept])], [(59, ⟨5, 1, 0, 0, 0, false, 0, [], (v3.2.2.1.map e_u8)⟩)], [], []⟩ .nil (by kernel_rfl) ?_
                refine Wk_seq ?_
                obtain ⟨x1, h2, hF⟩ := lt_split hF
                obtain ⟨h3, hF⟩ := asrt_elim hF
                obtain ⟨x2, h4, hF⟩ := lt_split hF
                refine WR [.nat (v3.2.1.length : Int), .callB (.bool x1), .xs ((ltake v3.2.2.2.2.1.Bytes v3.2.2.2.2.1.Kept).map e_u8), .callB (.bool x2)] [0, 1, 5, 6, 7, 8, 9, 118] [5] [59] [] [] [] ⟨[(0, .sl 1 (parts.map e_L_u8)), (1, .sl 1 (moves.map e_i64)), (5, .ptr 5 0), (6, .sl 1 (v3.2.1.map e_u8)), (7, .row 59 0), (8, .int .i64 v3.2.2.2.1), (9, .int .i64 v1.2.2.2.2), (118, .bool (((!decide (v3.2.2.2.2.1.Kept = (v3.2.1.length : Int))) || (!x1)) || (!x2)))], [(5, [.sl 1 (v3.2.2.2.2.1.Bytes.map e_u8), .int .i64 v3.2.2.2.2.1.Kept])], [(59, ⟨5, 1, 0, 0, 0, false, 0, [], (v3.2.2.1.map e_u8)⟩)], [], []⟩ (.cons (len_ok e_u8 v3.2.1) (.cons (fun (ga0 : (!(!decide (v3.2.2.2.2.1.Kept = (v3.2.1.length : Int)))) = true) => (R_Same_ok v3.2.2.2.2.1.Bytes v3.2.2.1 x1 h2)) (.cons (fun (ga0 : (!((!decide (v3.2.2.2.2.1.Kept = (v3.2.1.length : Int))) || (!x1))) = true) => (sl01_ok e_u8 (h3 ga0))) (.cons (fun (ga0 : (!((!decide (v3.2.2.2.2.1.Kept = (v3.2.1.length : Int))) || (!x1))) = true) => (R_Same_ok (ltake v3.2.2.2.2.1.Bytes v3.2.2.2.2.1.Kept) v3.2.1 x2 h4)) .nil)))) (by kernel_rfl) ?_
                refine Wk_split rfl (fun hb => ?_) (fun hb => ?_)
                · have hF := ite_t hF hb
                  refine Wk_seq ?_
                  refine WR [] [4] [] [] [] [] [] ⟨[(4, .bool false)], [], [], [], []⟩ .nil (by kernel_rfl) ?_
                  have hF := ret_done hF dn1
                  have hF := some_elim hF
                  exact Wk_ret (hfin _ ⟨[], [], [], [], [], [], by first | (rw [← hF]; kernel_rfl) | kernel_rfl⟩)
                · have hF := ite_f hF hb
                  refine Wk_skip ?_
                  refine Wk_blk ?_
                  exact Wk_metP (v3.2.2.2.2.1, v3.2.1, v3.2.2.1, v3.2.2.2.1) [0, 1, 5, 6, 7, 8, 9] [5] [59] [] [] [] hF (by kernel_rfl)
          · intro v2 hF
            have hF : law_DiskKeeps_J2 v1 v2 = some y1 := hF
            unfold law_DiskKeeps_J2 at hF
            refine WR [] [0, 1, 5, 6, 7, 8, 9] [5] [59] [] [] [] ⟨[(0, .sl 1 (parts.map e_L_u8)), (1, .sl 1 (moves.map e_i64)), (5, .ptr 5 0), (6, .sl 1 (v2.2.1.map e_u8)), (7, .row 59 0), (8, .int .i64 v2.2.2.2), (9, .int .i64 (w64 (v1.2.2.2.2 + 1)))], [(5, [.sl 1 (v2.1.Bytes.map e_u8), .int .i64 v2.1.Kept])], [(59, ⟨5, 1, 0, 0, 0, false, 0, [], (v2.2.2.1.map e_u8)⟩)], [], []⟩ .nil (by kernel_rfl) ?_
            refine Wk_trim (fs := [0, 1, 5, 6, 7, 8, 9]) (bs := [5]) (rs := [59]) (ms := []) (aa := []) (nv := []) ?_ (ih1 _ (some_elim hF).symm)
            kernel_rfl
        · have hF := ite_f hF hb
          refine Wk_exit rfl ?_
          have hF := inrO_done hF dn1
          exact Wk_metP () [] [] [] [] [] [] hF (by kernel_rfl)
      · intro v hF
        have hF : law_DiskKeeps_J1 v = some r := hF
        unfold law_DiskKeeps_J1 at hF
        refine Wk_seq ?_
        refine WR [] [4] [] [] [] [] [] ⟨[(4, .bool true)], [], [], [], []⟩ .nil (by kernel_rfl) ?_
        have hF := some_elim hF
        exact Wk_ret (hfin _ ⟨[], [], [], [], [], [], by first | (rw [← hF]; kernel_rfl) | kernel_rfl⟩)

/- tabularyref.Rest -/
noncomputable def R_Rest_J1 (v : Int) : Option Int :=
  some (IntKind.u32.wrap (4294967295 - v))
noncomputable def R_Rest_J2 (v1 : Int × Int) (v2 : Int) : Option ((Int × Int) ⊕ Int) :=
  some (Sum.inl (v2, w64 (v1.2 + 1)))
noncomputable def R_Rest_B2 (b : List UInt8) (v1 : Int × Int) (v3 : Int × Int) : Option ((Int × Int) ⊕ ((Int × Int) ⊕ Int)) :=
  if (decide (v3.2 < 8)) = true then
    asrt (0 ≤ v1.2 ∧ v1.2 < (b.length : Int)) <|
    asrt (0 ≤ v3.2) <|
    lt (Int.tmod (IntKind.u32.wrap ((toU8 (Int.fdiv ((lget b v1.2).toNat : Int) (2 ^ (min v3.2.toNat 8)))).toNat : Int)) 2) fun (v4 : Int) =>
    ob (
      if (decide ((Int.tmod (IntKind.u32.wrap (v3.1 + v4)) 2) = 1)) = true then
        some (bitsOp .xor .u32 (IntKind.u32.wrap (Int.tdiv v3.1 2)) 3988292384)
      else
        some (IntKind.u32.wrap (Int.tdiv v3.1 2))) fun (v5 : Int) =>
    some (Sum.inl (v5, w64 (v3.2 + 1)))
  else
    inrO (R_Rest_J2 v1 v3.1)
noncomputable def R_Rest_L2 (b : List UInt8) (v1 : Int × Int) (v0 : Int × Int) : Option ((Int × Int) ⊕ Int) :=
  loopO (fun y => R_Rest_B2 b v1 y) v0
noncomputable def R_Rest_B1 (b : List UInt8) (v1 : Int × Int) : Option ((Int × Int) ⊕ Int) :=
  if (decide (v1.2 < (b.length : Int))) = true then
    R_Rest_L2 b v1 (v1.1, 0)
  else
    inrO (R_Rest_J1 v1.1)
noncomputable def R_Rest_L1 (b : List UInt8) (v0 : Int × Int) : Option Int :=
  loopO (fun y => R_Rest_B1 b y) v0
noncomputable def R_Rest (b : List UInt8) : Option Int :=
  R_Rest_L1 b (4294967295, 0)
theorem R_Rest_ok (b : List UInt8) (r : Int) (hF : R_Rest b = some r) : Pe Try.prog 38 S.none [.sl 1 (b.map e_u8)] (.int .u32 r) S.none := by
  refine Pe_of (N := 38) (res := [.tmp 2]) (ts := [65]) Ty.ok Fn.b38 Try.func38 rfl rfl rfl rfl rfl rfl ?_
  intro Q g hfin
  unfold R_Rest at hF
  refine Wk_seq ?_
  refine WR [] [0] [] [] [] [] [] ⟨[(0, .sl 1 (b.map e_u8))], [], [], [], []⟩ .nil (by kernel_rfl) ?_
  refine Wk_seq ?_
  refine WR [] [0, 3] [] [] [] [] [] ⟨[(0, .sl 1 (b.map e_u8)), (3, .int .u32 4294967295)], [], [], [], []⟩ .nil (by kernel_rfl) ?_
  refine Wk_seq ?_
  refine Wk_seq ?_
  refine WR [] [0, 3, 4] [] [] [] [] [] ⟨[(0, .sl 1 (b.map e_u8)), (3, .int .u32 4294967295), (4, .int .i64 0)], [], [], [], []⟩ .nil (by kernel_rfl) ?_
  refine Wk_meetP (fun v : Int => (⟨[(3, .int .u32 v)], [], [], [], []⟩ : S)) (fun v => R_Rest_J1 v = some r) ?_ ?_
  · refine Wk_block ?_
    unfold R_Rest_L1 at hF
    refine Wk_trim (fs := [0, 3, 4]) (bs := []) (rs := []) (ms := []) (aa := []) (nv := []) (t := (fun v1 : Int × Int => (⟨[(0, .sl 1 (b.map e_u8)), (3, .int .u32 v1.1), (4, .int .i64 v1.2)], [], [], [], []⟩ : S)) (4294967295, 0)) (by kernel_rfl) ?_
    refine Wk_iter (step := fun y => R_Rest_B1 b y) (r := r) (fun v1 : Int × Int => (⟨[(0, .sl 1 (b.map e_u8)), (3, .int .u32 v1.1), (4, .int .i64 v1.2)], [], [], [], []⟩ : S)) (4294967295, 0) hF ?_
    intro n1 v1 y1 hF ih1 dn1
    have hF : R_Rest_B1 b v1 = some y1 := hF
    unfold R_Rest_B1 at hF
    refine Wk_seq ?_
    refine Wk_seq ?_
    refine WR [.nat (b.length : Int)] [0, 3, 4, 11] [] [] [] [] [] ⟨[(0, .sl 1 (b.map e_u8)), (3, .int .u32 v1.1), (4, .int .i64 v1.2), (11, .bool (decide (v1.2 < (b.length : Int))))], [], [], [], []⟩ (.cons (len_ok e_u8 b) .nil) (by kernel_rfl) ?_
    refine Wk_split rfl (fun hb => ?_) (fun hb => ?_)
    · have hF := ite_t hF hb
      refine Wk_skip ?_
      refine Wk_seq ?_
      refine Wk_block ?_
      refine Wk_seq ?_
      refine WR [] [0, 3, 4, 5] [] [] [] [] [] ⟨[(0, .sl 1 (b.map e_u8)), (3, .int .u32 v1.1), (4, .int .i64 v1.2), (5, .int .i64 0)], [], [], [], []⟩ .nil (by kernel_rfl) ?_
      refine Wk_meetP (fun v2 : Int => (⟨[(0, .sl 1 (b.map e_u8)), (3, .int .u32 v2), (4, .int .i64 v1.2)], [], [], [], []⟩ : S)) (fun v2 => R_Rest_J2 v1 v2 = some y1) ?_ ?_
      · refine Wk_block ?_
        unfold R_Rest_L2 at hF
        refine Wk_trim (fs := [0, 3, 4, 5]) (bs := []) (rs := []) (ms := []) (aa := []) (nv := []) (t := (fun v3 : Int × Int => (⟨[(0, .sl 1 (b.map e_u8)), (3, .int .u32 v3.1), (4, .int .i64 v1.2), (5, .int .i64 v3.2)], [], [], [], []⟩ : S)) (v1.1, 0)) (by kernel_rfl) ?_
        refine Wk_iter (step := fun y => R_Rest_B2 b v1 y) (r := y1) (fun v3 : Int × Int => (⟨[(0, .sl 1 (b.map e_u8)), (3, .int .u32 v3.1), (4, .int .i64 v1.2), (5, .int .i64 v3.2)], [], [], [], []⟩ : S)) (v1.1, 0) hF ?_
        intro n2 v3 y2 hF ih2 dn2
        have hF : R_Rest_B2 b v1 v3 = some y2 := hF
        unfold R_Rest_B2 at hF
        refine Wk_seq ?_
        refine Wk_seq ?_
        refine WR [] [0, 3, 4, 5, 15] [] [] [] [] [] ⟨[(0, .sl 1 (b.map e_u8)), (3, .int .u32 v3.1), (4, .int .i64 v1.2), (5, .int .i64 v3.2), (15, .bool (decide (v3.2 < 8)))], [], [], [], []⟩ .nil (by kernel_rfl) ?_
        refine Wk_split rfl (fun hb => ?_) (fun hb => ?_)
        · have hF := ite_t hF hb
          refine Wk_skip ?_
          refine Wk_seq ?_
          refine Wk_block ?_
          refine Wk_seq ?_
          obtain ⟨h0, hF⟩ := asrt_elim hF
          obtain ⟨h1, hF⟩ := asrt_elim hF
          refine WRL (Int.tmod (IntKind.u32.wrap ((toU8 (Int.fdiv ((lget b v1.2).toNat : Int) (2 ^ (min v3.2.toNat 8)))).toNat : Int)) 2) (fun v4 : Int => ⟨[(0, .sl 1 (b.map e_u8)), (3, .int .u32 v3.1), (4, .int .i64 v1.2), (5, .int .i64 v3.2), (6, .int .u32 v4)], [], [], [], []⟩) [.av (e_u8 (lget b v1.2))] [0, 3, 4, 5, 6] [] [] [] [] [] (.cons (idx_ok e_u8 h0) (.cons h1 (.cons (shr8_ok (lget b v1.2) (min v3.2.toNat 8)) (.cons (by decide : (2 : Int) ≠ 0) .nil)))) (by kernel_rfl) (fun v4 hv => ?_)
          have hF := lt_elim hF hv
          refine Wk_seq ?_
          refine WR [] [0, 3, 4, 5, 7] [] [] [] [] [] ⟨[(0, .sl 1 (b.map e_u8)), (3, .int .u32 v3.1), (4, .int .i64 v1.2), (5, .int .i64 v3.2), (7, .int .u32 (Int.tmod (IntKind.u32.wrap (v3.1 + v4)) 2))], [], [], [], []⟩ (.cons (by decide : (2 : Int) ≠ 0) .nil) (by kernel_rfl) ?_
          refine Wk_seq ?_
          refine WR [] [0, 3, 4, 5, 7] [] [] [] [] [] ⟨[(0, .sl 1 (b.map e_u8)), (3, .int .u32 (IntKind.u32.wrap (Int.tdiv v3.1 2))), (4, .int .i64 v1.2), (5, .int .i64 v3.2), (7, .int .u32 (Int.tmod (IntKind.u32.wrap (v3.1 + v4)) 2))], [], [], [], []⟩ (.cons (by decide : (2 : Int) ≠ 0) .nil) (by kernel_rfl) ?_
          refine Wk_seq ?_
          refine WR [] [0, 3, 4, 5, 33] [] [] [] [] [] ⟨[(0, .sl 1 (b.map e_u8)), (3, .int .u32 (IntKind.u32.wrap (Int.tdiv v3.1 2))), (4, .int .i64 v1.2), (5, .int .i64 v3.2), (33, .bool (decide ((Int.tmod (IntKind.u32.wrap (v3.1 + v4)) 2) = 1)))], [], [], [], []⟩ .nil (by kernel_rfl) ?_
          obtain ⟨v5, hv, hF⟩ := ob_elim hF
          refine Wk_meet (⟨[(0, .sl 1 (b.map e_u8)), (3, .int .u32 v5), (4, .int .i64 v1.2), (5, .int .i64 v3.2)], [], [], [], []⟩ : S) ?_ ?_
          · have hF := hv
            refine Wk_split rfl (fun hb => ?_) (fun hb => ?_)
            · have hF := ite_t hF hb
              refine WR [] [0, 3, 4, 5] [] [] [] [] [] ⟨[(0, .sl 1 (b.map e_u8)), (3, .int .u32 (bitsOp .xor .u32 (IntKind.u32.wrap (Int.tdiv v3.1 2)) 3988292384)), (4, .int .i64 v1.2), (5, .int .i64 v3.2)], [], [], [], []⟩ .nil (by kernel_rfl) ?_
              exact Wk_met (fs := [0, 3, 4, 5]) (bs := []) (rs := []) (ms := []) (aa := []) (nv := []) (by first | (rw [← some_elim hF]; kernel_rfl) | kernel_rfl)
            · have hF := ite_f hF hb
              refine Wk_skip ?_
              exact Wk_met (fs := [0, 3, 4, 5]) (bs := []) (rs := []) (ms := []) (aa := []) (nv := []) (by first | (rw [← some_elim hF]; kernel_rfl) | kernel_rfl)
          · refine Wk_blk ?_
            refine WR [] [0, 3, 4, 5] [] [] [] [] [] ⟨[(0, .sl 1 (b.map e_u8)), (3, .int .u32 v5), (4, .int .i64 v1.2), (5, .int .i64 (w64 (v3.2 + 1)))], [], [], [], []⟩ .nil (by kernel_rfl) ?_
            refine Wk_trim (fs := [0, 3, 4, 5]) (bs := []) (rs := []) (ms := []) (aa := []) (nv := []) ?_ (ih2 _ (some_elim hF).symm)
            kernel_rfl
        · have hF := ite_f hF hb
          refine Wk_exit rfl ?_
          have hF := inrO_done hF dn2
          exact Wk_metP v3.1 [0, 3, 4] [] [] [] [] [] hF (by kernel_rfl)
      · intro v2 hF
        have hF : R_Rest_J2 v1 v2 = some y1 := hF
        unfold R_Rest_J2 at hF
        refine Wk_blk ?_
        refine WR [] [0, 3, 4] [] [] [] [] [] ⟨[(0, .sl 1 (b.map e_u8)), (3, .int .u32 v2), (4, .int .i64 (w64 (v1.2 + 1)))], [], [], [], []⟩ .nil (by kernel_rfl) ?_
        refine Wk_trim (fs := [0, 3, 4]) (bs := []) (rs := []) (ms := []) (aa := []) (nv := []) ?_ (ih1 _ (some_elim hF).symm)
        kernel_rfl
    · have hF := ite_f hF hb
      refine Wk_exit rfl ?_
      have hF := inrO_done hF dn1
      exact Wk_metP v1.1 [3] [] [] [] [] [] hF (by kernel_rfl)
  · intro v hF
    have hF : R_Rest_J1 v = some r := hF
    unfold R_Rest_J1 at hF
    refine Wk_seq ?_
    refine WR [] [2] [] [] [] [] [] ⟨[(2, .int .u32 (IntKind.u32.wrap (4294967295 - v)))], [], [], [], []⟩ .nil (by kernel_rfl) ?_
    have hF := some_elim hF
    exact Wk_ret (hfin _ ⟨[], [], [], [], [], [], by first | (rw [← hF]; kernel_rfl) | kernel_rfl⟩)

/- tabularyref.Framed -/
noncomputable def R_Framed (body : List UInt8) : Option (List UInt8) :=
  asrt (((([toU8 (w64 (Int.tdiv (body.length : Int) 256)), toU8 (Int.tmod (body.length : Int) 256)] : List UInt8) ++ body).length : Int) * 1 ≤ 140737488351232) <|
  lt ((([toU8 (w64 (Int.tdiv (body.length : Int) 256)), toU8 (Int.tmod (body.length : Int) 256)] : List UInt8) ++ body)) fun (v : List UInt8) =>
  ob (R_Rest v) fun x =>
  asrt (((v ++ ([toU8 (IntKind.u32.wrap (Int.tdiv x 16777216)), toU8 (Int.tmod (IntKind.u32.wrap (Int.tdiv x 65536)) 256), toU8 (Int.tmod (IntKind.u32.wrap (Int.tdiv x 256)) 256), toU8 (Int.tmod x 256)] : List UInt8)).length : Int) * 1 ≤ 140737488351232) <|
  lt ((v ++ ([toU8 (IntKind.u32.wrap (Int.tdiv x 16777216)), toU8 (Int.tmod (IntKind.u32.wrap (Int.tdiv x 65536)) 256), toU8 (Int.tmod (IntKind.u32.wrap (Int.tdiv x 256)) 256), toU8 (Int.tmod x 256)] : List UInt8))) fun (v1 : List UInt8) =>
  some v1
theorem R_Framed_ok (body : List UInt8) (r : List UInt8) (hF : R_Framed body = some r) : Pe Try.prog 41 ⟨[], [], [], [], []⟩ [.sl 1 (body.map e_u8)] (.row 13 2) ⟨[], [], [(13, ⟨5, 1, 2, 0, 0, true, 0, [], (r.map e_u8)⟩)], [], []⟩ := by
  refine Pe_of (N := 35) (res := [.tmp 2]) (ts := [23]) Ty.ok Fn.b41 Try.func41 rfl rfl rfl rfl rfl rfl ?_
  intro Q g hfin
  unfold R_Framed at hF
  refine Wk_seq ?_
  refine WR [] [0] [] [] [] [] [] ⟨[(0, .sl 1 (body.map e_u8))], [], [], [], []⟩ .nil (by kernel_rfl) ?_
  refine Wk_seq ?_
  obtain ⟨h0, hF⟩ := asrt_elim hF
  refine WRL ((([toU8 (w64 (Int.tdiv (body.length : Int) 256)), toU8 (Int.tmod (body.length : Int) 256)] : List UInt8) ++ body)) (fun v : List UInt8 => ⟨[(3, .row 13 1)], [], [(13, ⟨5, 1, 1, 0, 0, true, 0, [], (v.map e_u8)⟩)], [], []⟩) [.nat (body.length : Int), .nat (body.length : Int), .xs ((([toU8 (w64 (Int.tdiv (body.length : Int) 256)), toU8 (Int.tmod (body.length : Int) 256)] : List UInt8) ++ body).map e_u8)] [3] [] [13] [] [] [] (.cons (len_ok e_u8 body) (.cons (by decide : (256 : Int) ≠ 0) (.cons (len_ok e_u8 body) (.cons (by decide : (256 : Int) ≠ 0) (.cons (app_ok e_u8 ([toU8 (w64 (Int.tdiv (body.length : Int) 256)), toU8 (Int.tmod (body.length : Int) 256)] : List UInt8) body) (.cons (appl_ok e_u8 h0) .nil)))))) (by kernel_rfl) (fun v hv => ?_)
  have hF := lt_elim hF hv
  refine Wk_seq ?_
  obtain ⟨x, h1, hF⟩ := ob_elim hF
  refine WR [.callB (.int .u32 x)] [3, 4] [] [13] [] [] [] ⟨[(3, .row 13 1), (4, .int .u32 x)], [], [(13, ⟨5, 1, 1, 0, 0, true, 0, [], (v.map e_u8)⟩)], [], []⟩ (.cons (R_Rest_ok v x h1) .nil) (by kernel_rfl) ?_
  refine Wk_seq ?_
  obtain ⟨h2, hF⟩ := asrt_elim hF
  refine WRL ((v ++ ([toU8 (IntKind.u32.wrap (Int.tdiv x 16777216)), toU8 (Int.tmod (IntKind.u32.wrap (Int.tdiv x 65536)) 256), toU8 (Int.tmod (IntKind.u32.wrap (Int.tdiv x 256)) 256), toU8 (Int.tmod x 256)] : List UInt8))) (fun v1 : List UInt8 => ⟨[(2, .row 13 2)], [], [(13, ⟨5, 1, 2, 0, 0, true, 0, [], (v1.map e_u8)⟩)], [], []⟩) [.sealed, .xs ((v ++ ([toU8 (IntKind.u32.wrap (Int.tdiv x 16777216)), toU8 (Int.tmod (IntKind.u32.wrap (Int.tdiv x 65536)) 256), toU8 (Int.tmod (IntKind.u32.wrap (Int.tdiv x 256)) 256), toU8 (Int.tmod x 256)] : List UInt8)).map e_u8)] [2] [] [13] [] [] [] (.cons (by decide : (16777216 : Int) ≠ 0) (.cons (by decide : (65536 : Int) ≠ 0) (.cons (by decide : (256 : Int) ≠ 0) (.cons (by decide : (256 : Int) ≠ 0) (.cons (by decide : (256 : Int) ≠ 0) (.cons (by decide : (256 : Int) ≠ 0) (.cons (app_ok e_u8 v ([toU8 (IntKind.u32.wrap (Int.tdiv x 16777216)), toU8 (Int.tmod (IntKind.u32.wrap (Int.tdiv x 65536)) 256), toU8 (Int.tmod (IntKind.u32.wrap (Int.tdiv x 256)) 256), toU8 (Int.tmod x 256)] : List UInt8)) (.cons (appl_ok e_u8 h2) .nil)))))))) (by kernel_rfl) (fun v1 hv => ?_)
  have hF := lt_elim hF hv
  have hF := some_elim hF
  exact Wk_ret (hfin _ ⟨[13], [], [13], [], [], [], by first | (rw [← hF]; kernel_rfl) | kernel_rfl⟩)

/- tabularyref.Framed -/
noncomputable def R_Framed_v1 (body : List UInt8) : Option (List UInt8) :=
  asrt (((([toU8 (w64 (Int.tdiv (body.length : Int) 256)), toU8 (Int.tmod (body.length : Int) 256)] : List UInt8) ++ body).length : Int) * 1 ≤ 140737488351232) <|
  lt ((([toU8 (w64 (Int.tdiv (body.length : Int) 256)), toU8 (Int.tmod (body.length : Int) 256)] : List UInt8) ++ body)) fun (v : List UInt8) =>
  ob (R_Rest v) fun x =>
  asrt (((v ++ ([toU8 (IntKind.u32.wrap (Int.tdiv x 16777216)), toU8 (Int.tmod (IntKind.u32.wrap (Int.tdiv x 65536)) 256), toU8 (Int.tmod (IntKind.u32.wrap (Int.tdiv x 256)) 256), toU8 (Int.tmod x 256)] : List UInt8)).length : Int) * 1 ≤ 140737488351232) <|
  lt ((v ++ ([toU8 (IntKind.u32.wrap (Int.tdiv x 16777216)), toU8 (Int.tmod (IntKind.u32.wrap (Int.tdiv x 65536)) 256), toU8 (Int.tmod (IntKind.u32.wrap (Int.tdiv x 256)) 256), toU8 (Int.tmod x 256)] : List UInt8))) fun (v1 : List UInt8) =>
  some v1
theorem R_Framed_v1_ok (body : List UInt8) (r : List UInt8) (hF : R_Framed_v1 body = some r) : Pe Try.prog 41 S.none [.sl 1 (body.map e_u8)] (.sl 1 (r.map e_u8)) S.none := by
  refine Pe_of (N := 35) (res := [.tmp 2]) (ts := [23]) Ty.ok Fn.b41 Try.func41 rfl rfl rfl rfl rfl rfl ?_
  intro Q g hfin
  unfold R_Framed_v1 at hF
  refine Wk_seq ?_
  refine WR [] [0] [] [] [] [] [] ⟨[(0, .sl 1 (body.map e_u8))], [], [], [], []⟩ .nil (by kernel_rfl) ?_
  refine Wk_seq ?_
  obtain ⟨h0, hF⟩ := asrt_elim hF
  refine WRL ((([toU8 (w64 (Int.tdiv (body.length : Int) 256)), toU8 (Int.tmod (body.length : Int) 256)] : List UInt8) ++ body)) (fun v : List UInt8 => ⟨[(3, .row 13 1)], [], [(13, ⟨5, 1, 1, 0, 0, true, 0, [], (v.map e_u8)⟩)], [], []⟩) [.nat (body.length : Int), .nat (body.length : Int), .xs ((([toU8 (w64 (Int.tdiv (body.length : Int) 256)), toU8 (Int.tmod (body.length : Int) 256)] : List UInt8) ++ body).map e_u8)] [3] [] [13] [] [] [] (.cons (len_ok e_u8 body) (.cons (by decide : (256 : Int) ≠ 0) (.cons (len_ok e_u8 body) (.cons (by decide : (256 : Int) ≠ 0) (.cons (app_ok e_u8 ([toU8 (w64 (Int.tdiv (body.length : Int) 256)), toU8 (Int.tmod (body.length : Int) 256)] : List UInt8) body) (.cons (appl_ok e_u8 h0) .nil)))))) (by kernel_rfl) (fun v hv => ?_)
  have hF := lt_elim hF hv
  refine Wk_seq ?_
  obtain ⟨x, h1, hF⟩ := ob_elim hF
  refine WR [.callB (.int .u32 x)] [3, 4] [] [13] [] [] [] ⟨[(3, .row 13 1), (4, .int .u32 x)], [], [(13, ⟨5, 1, 1, 0, 0, true, 0, [], (v.map e_u8)⟩)], [], []⟩ (.cons (R_Rest_ok v x h1) .nil) (by kernel_rfl) ?_
  refine Wk_seq ?_
  obtain ⟨h2, hF⟩ := asrt_elim hF
  refine WRL ((v ++ ([toU8 (IntKind.u32.wrap (Int.tdiv x 16777216)), toU8 (Int.tmod (IntKind.u32.wrap (Int.tdiv x 65536)) 256), toU8 (Int.tmod (IntKind.u32.wrap (Int.tdiv x 256)) 256), toU8 (Int.tmod x 256)] : List UInt8))) (fun v1 : List UInt8 => ⟨[(2, .row 13 2)], [], [(13, ⟨5, 1, 2, 0, 0, true, 0, [], (v1.map e_u8)⟩)], [], []⟩) [.sealed, .xs ((v ++ ([toU8 (IntKind.u32.wrap (Int.tdiv x 16777216)), toU8 (Int.tmod (IntKind.u32.wrap (Int.tdiv x 65536)) 256), toU8 (Int.tmod (IntKind.u32.wrap (Int.tdiv x 256)) 256), toU8 (Int.tmod x 256)] : List UInt8)).map e_u8)] [2] [] [13] [] [] [] (.cons (by decide : (16777216 : Int) ≠ 0) (.cons (by decide : (65536 : Int) ≠ 0) (.cons (by decide : (256 : Int) ≠ 0) (.cons (by decide : (256 : Int) ≠ 0) (.cons (by decide : (256 : Int) ≠ 0) (.cons (by decide : (256 : Int) ≠ 0) (.cons (app_ok e_u8 v ([toU8 (IntKind.u32.wrap (Int.tdiv x 16777216)), toU8 (Int.tmod (IntKind.u32.wrap (Int.tdiv x 65536)) 256), toU8 (Int.tmod (IntKind.u32.wrap (Int.tdiv x 256)) 256), toU8 (Int.tmod x 256)] : List UInt8)) (.cons (appl_ok e_u8 h2) .nil)))))))) (by kernel_rfl) (fun v1 hv => ?_)
  have hF := lt_elim hF hv
  have hF := some_elim hF
  exact Wk_ret (hfin _ ⟨[], [], [], [], [], [], by first | (rw [← hF]; kernel_rfl) | kernel_rfl⟩)

/- tabularyref.F -/
noncomputable def R_F (code : Int) (at0 : Int) : Fault :=
  (⟨code, at0⟩ : Fault)
theorem R_F_ok (code : Int) (at0 : Int) (r : Fault) (hF : R_F code at0 = r) : Pe Try.prog 16 S.none [.int .i64 code, .int .i64 at0] (.agg [.int .i64 r.Code, .int .i64 r.At]) S.none := by
  refine Pe_of (N := 8) (res := [.cell 4 26]) (ts := [26]) Ty.ok Fn.b16 Try.func16 rfl rfl rfl rfl rfl rfl ?_
  intro Q g hfin
  unfold R_F at hF
  refine Wk_seq ?_
  refine WR [] [0, 1, 4] [4] [] [] [] [] ⟨[(0, .int .i64 code), (1, .int .i64 at0), (4, .ptr 4 0)], [(4, [.int .i64 0, .int .i64 0])], [], [], []⟩ .nil (by kernel_rfl) ?_
  refine Wk_seq ?_
  refine WR [] [4] [4] [] [] [] [] ⟨[(4, .ptr 4 0)], [(4, [.int .i64 code, .int .i64 at0])], [], [], []⟩ .nil (by kernel_rfl) ?_
  exact Wk_ret (hfin _ ⟨[], [], [], [], [], [], by first | (rw [← hF]; kernel_rfl) | kernel_rfl⟩)

/- wire.fault -/
noncomputable def wire_fault (code : Int) (at0 : Int) : Fault :=
  (⟨code, at0⟩ : Fault)
theorem wire_fault_ok (code : Int) (at0 : Int) (r : Fault) (hF : wire_fault code at0 = r) : Pe Try.prog 54 S.none [.int .i64 code, .int .i64 at0] (.agg [.int .i64 r.Code, .int .i64 r.At]) S.none := by
  refine Pe_of (N := 8) (res := [.cell 4 26]) (ts := [26]) Ty.ok Fn.b54 Try.func54 rfl rfl rfl rfl rfl rfl ?_
  intro Q g hfin
  unfold wire_fault at hF
  refine Wk_seq ?_
  refine WR [] [0, 1, 4] [4] [] [] [] [] ⟨[(0, .int .i64 code), (1, .int .i64 at0), (4, .ptr 4 0)], [(4, [.int .i64 0, .int .i64 0])], [], [], []⟩ .nil (by kernel_rfl) ?_
  refine Wk_seq ?_
  refine WR [] [4] [4] [] [] [] [] ⟨[(4, .ptr 4 0)], [(4, [.int .i64 code, .int .i64 at0])], [], [], []⟩ .nil (by kernel_rfl) ?_
  exact Wk_ret (hfin _ ⟨[], [], [], [], [], [], by first | (rw [← hF]; kernel_rfl) | kernel_rfl⟩)

/- wire.Crc -/
noncomputable def wire_Crc_J1 (v : Int) : Option Int :=
  lt (bitsOp .xor .u32 (if IntKind.signed .u32 = true then -1 else IntKind.max .u32) v) fun (v1 : Int) =>
  some v1
noncomputable def wire_Crc_J2 (v2 : Int × Int) (v3 : Int) : Option ((Int × Int) ⊕ Int) :=
  some (Sum.inl (v3, w64 (v2.2 + 1)))
noncomputable def wire_Crc_B2 (v2 : Int × Int) (v4 : Int × Int) : Option ((Int × Int) ⊕ ((Int × Int) ⊕ Int)) :=
  if (decide (v4.2 < 8)) = true then
    ob (
      if (decide ((bitsOp .and .u32 v4.1 1) = 1)) = true then
        lt (bitsOp .xor .u32 (Int.fdiv v4.1 (2 ^ (min (1 : Int).toNat 32))) 3988292384) fun (v6 : Int) =>
        some v6
      else
        some (Int.fdiv v4.1 (2 ^ (min (1 : Int).toNat 32)))) fun (v5 : Int) =>
    some (Sum.inl (v5, w64 (v4.2 + 1)))
  else
    inrO (wire_Crc_J2 v2 v4.1)
noncomputable def wire_Crc_L2 (v2 : Int × Int) (v0 : Int × Int) : Option ((Int × Int) ⊕ Int) :=
  loopO (fun y => wire_Crc_B2 v2 y) v0
noncomputable def wire_Crc_B1 (b : List UInt8) (v2 : Int × Int) : Option ((Int × Int) ⊕ Int) :=
  if (decide (v2.2 < (b.length : Int))) = true then
    asrt (0 ≤ v2.2 ∧ v2.2 < (b.length : Int)) <|
    wire_Crc_L2 v2 (bitsOp .xor .u32 v2.1 (IntKind.u32.wrap ((lget b v2.2).toNat : Int)), 0)
  else
    inrO (wire_Crc_J1 v2.1)
noncomputable def wire_Crc_L1 (b : List UInt8) (v0 : Int × Int) : Option Int :=
  loopO (fun y => wire_Crc_B1 b y) v0
noncomputable def wire_Crc (b : List UInt8) : Option Int :=
  wire_Crc_L1 b (4294967295, 0)
theorem wire_Crc_ok (b : List UInt8) (r : Int) (hF : wire_Crc b = some r) : Pe Try.prog 68 S.none [.sl 1 (b.map e_u8)] (.int .u32 r) S.none := by
  refine Pe_of (N := 31) (res := [.tmp 2]) (ts := [65]) Ty.ok Fn.b68 Try.func68 rfl rfl rfl rfl rfl rfl ?_
  intro Q g hfin
  unfold wire_Crc at hF
  refine Wk_seq ?_
  refine WR [] [0] [] [] [] [] [] ⟨[(0, .sl 1 (b.map e_u8))], [], [], [], []⟩ .nil (by kernel_rfl) ?_
  refine Wk_seq ?_
  refine WR [] [0, 3] [] [] [] [] [] ⟨[(0, .sl 1 (b.map e_u8)), (3, .int .u32 4294967295)], [], [], [], []⟩ .nil (by kernel_rfl) ?_
  refine Wk_seq ?_
  refine Wk_seq ?_
  refine WR [.nat (b.length : Int)] [3, 7, 8, 9] [] [] [] [] [] ⟨[(3, .int .u32 4294967295), (7, .sl 1 (b.map e_u8)), (8, .int .i64 (b.length : Int)), (9, .int .i64 0)], [], [], [], []⟩ (.cons (len_ok e_u8 b) .nil) (by kernel_rfl) ?_
  refine Wk_meetP (fun v : Int => (⟨[(3, .int .u32 v)], [], [], [], []⟩ : S)) (fun v => wire_Crc_J1 v = some r) ?_ ?_
  · refine Wk_block ?_
    unfold wire_Crc_L1 at hF
    refine Wk_trim (fs := [3, 7, 8, 9]) (bs := []) (rs := []) (ms := []) (aa := []) (nv := []) (t := (fun v2 : Int × Int => (⟨[(3, .int .u32 v2.1), (7, .sl 1 (b.map e_u8)), (8, .int .i64 (b.length : Int)), (9, .int .i64 v2.2)], [], [], [], []⟩ : S)) (4294967295, 0)) (by kernel_rfl) ?_
    refine Wk_iter (step := fun y => wire_Crc_B1 b y) (r := r) (fun v2 : Int × Int => (⟨[(3, .int .u32 v2.1), (7, .sl 1 (b.map e_u8)), (8, .int .i64 (b.length : Int)), (9, .int .i64 v2.2)], [], [], [], []⟩ : S)) (4294967295, 0) hF ?_
    intro n1 v2 y1 hF ih1 dn1
    have hF : wire_Crc_B1 b v2 = some y1 := hF
    unfold wire_Crc_B1 at hF
    refine Wk_seq ?_
    refine WR [] [3, 7, 8, 9, 10] [] [] [] [] [] ⟨[(3, .int .u32 v2.1), (7, .sl 1 (b.map e_u8)), (8, .int .i64 (b.length : Int)), (9, .int .i64 v2.2), (10, .bool (decide (v2.2 < (b.length : Int))))], [], [], [], []⟩ .nil (by kernel_rfl) ?_
    refine Wk_seq ?_
    refine Wk_split rfl (fun hb => ?_) (fun hb => ?_)
    · have hF := ite_t hF hb
      refine Wk_skip ?_
      refine Wk_seq ?_
      refine Wk_block ?_
      refine Wk_seq ?_
      obtain ⟨h0, hF⟩ := asrt_elim hF
      refine WR [.av (e_u8 (lget b v2.2))] [3, 5, 7, 8, 9] [] [] [] [] [] ⟨[(3, .int .u32 v2.1), (5, .int .u8 (((lget b v2.2)).toNat : Int)), (7, .sl 1 (b.map e_u8)), (8, .int .i64 (b.length : Int)), (9, .int .i64 v2.2)], [], [], [], []⟩ (.cons (idx_ok e_u8 h0) .nil) (by kernel_rfl) ?_
      refine Wk_seq ?_
      refine WR [] [3, 7, 8, 9] [] [] [] [] [] ⟨[(3, .int .u32 (bitsOp .xor .u32 v2.1 (IntKind.u32.wrap ((lget b v2.2).toNat : Int)))), (7, .sl 1 (b.map e_u8)), (8, .int .i64 (b.length : Int)), (9, .int .i64 v2.2)], [], [], [], []⟩ .nil (by kernel_rfl) ?_
      refine Wk_seq ?_
      refine WR [] [3, 7, 8, 9, 17] [] [] [] [] [] ⟨[(3, .int .u32 (bitsOp .xor .u32 v2.1 (IntKind.u32.wrap ((lget b v2.2).toNat : Int)))), (7, .sl 1 (b.map e_u8)), (8, .int .i64 (b.length : Int)), (9, .int .i64 v2.2), (17, .int .i64 0)], [], [], [], []⟩ .nil (by kernel_rfl) ?_
      refine Wk_meetP (fun v3 : Int => (⟨[(3, .int .u32 v3), (7, .sl 1 (b.map e_u8)), (8, .int .i64 (b.length : Int)), (9, .int .i64 v2.2)], [], [], [], []⟩ : S)) (fun v3 => wire_Crc_J2 v2 v3 = some y1) ?_ ?_
      · refine Wk_block ?_
        unfold wire_Crc_L2 at hF
        refine Wk_trim (fs := [3, 7, 8, 9, 17]) (bs := []) (rs := []) (ms := []) (aa := []) (nv := []) (t := (fun v4 : Int × Int => (⟨[(3, .int .u32 v4.1), (7, .sl 1 (b.map e_u8)), (8, .int .i64 (b.length : Int)), (9, .int .i64 v2.2), (17, .int .i64 v4.2)], [], [], [], []⟩ : S)) (bitsOp .xor .u32 v2.1 (IntKind.u32.wrap ((lget b v2.2).toNat : Int)), 0)) (by kernel_rfl) ?_
        refine Wk_iter (step := fun y => wire_Crc_B2 v2 y) (r := y1) (fun v4 : Int × Int => (⟨[(3, .int .u32 v4.1), (7, .sl 1 (b.map e_u8)), (8, .int .i64 (b.length : Int)), (9, .int .i64 v2.2), (17, .int .i64 v4.2)], [], [], [], []⟩ : S)) (bitsOp .xor .u32 v2.1 (IntKind.u32.wrap ((lget b v2.2).toNat : Int)), 0) hF ?_
        intro n2 v4 y2 hF ih2 dn2
        have hF : wire_Crc_B2 v2 v4 = some y2 := hF
        unfold wire_Crc_B2 at hF
        refine Wk_seq ?_
        refine WR [] [3, 7, 8, 9, 17, 18] [] [] [] [] [] ⟨[(3, .int .u32 v4.1), (7, .sl 1 (b.map e_u8)), (8, .int .i64 (b.length : Int)), (9, .int .i64 v2.2), (17, .int .i64 v4.2), (18, .bool (decide (v4.2 < 8)))], [], [], [], []⟩ .nil (by kernel_rfl) ?_
        refine Wk_seq ?_
        refine Wk_split rfl (fun hb => ?_) (fun hb => ?_)
        · have hF := ite_t hF hb
          refine Wk_skip ?_
          refine Wk_seq ?_
          refine Wk_block ?_
          refine Wk_seq ?_
          refine WR [] [3, 6, 7, 8, 9, 17] [] [] [] [] [] ⟨[(3, .int .u32 v4.1), (6, .int .u32 (bitsOp .and .u32 v4.1 1)), (7, .sl 1 (b.map e_u8)), (8, .int .i64 (b.length : Int)), (9, .int .i64 v2.2), (17, .int .i64 v4.2)], [], [], [], []⟩ .nil (by kernel_rfl) ?_
          refine Wk_seq ?_
          refine WR [] [3, 6, 7, 8, 9, 17] [] [] [] [] [] ⟨[(3, .int .u32 (Int.fdiv v4.1 (2 ^ (min (1 : Int).toNat 32)))), (6, .int .u32 (bitsOp .and .u32 v4.1 1)), (7, .sl 1 (b.map e_u8)), (8, .int .i64 (b.length : Int)), (9, .int .i64 v2.2), (17, .int .i64 v4.2)], [], [], [], []⟩ (.cons (by decide : (0 : Int) ≤ 1) .nil) (by kernel_rfl) ?_
          refine Wk_seq ?_
          refine WR [] [3, 7, 8, 9, 17, 24] [] [] [] [] [] ⟨[(3, .int .u32 (Int.fdiv v4.1 (2 ^ (min (1 : Int).toNat 32)))), (7, .sl 1 (b.map e_u8)), (8, .int .i64 (b.length : Int)), (9, .int .i64 v2.2), (17, .int .i64 v4.2), (24, .bool (decide ((bitsOp .and .u32 v4.1 1) = 1)))], [], [], [], []⟩ .nil (by kernel_rfl) ?_
          obtain ⟨v5, hv, hF⟩ := ob_elim hF
          refine Wk_meet (⟨[(3, .int .u32 v5), (7, .sl 1 (b.map e_u8)), (8, .int .i64 (b.length : Int)), (9, .int .i64 v2.2), (17, .int .i64 v4.2)], [], [], [], []⟩ : S) ?_ ?_
          · have hF := hv
            refine Wk_split rfl (fun hb => ?_) (fun hb => ?_)
            · have hF := ite_t hF hb
              refine WRL (bitsOp .xor .u32 (Int.fdiv v4.1 (2 ^ (min (1 : Int).toNat 32))) 3988292384) (fun v6 : Int => ⟨[(3, .int .u32 v6), (7, .sl 1 (b.map e_u8)), (8, .int .i64 (b.length : Int)), (9, .int .i64 v2.2), (17, .int .i64 v4.2)], [], [], [], []⟩) [] [3, 7, 8, 9, 17] [] [] [] [] [] .nil (by kernel_rfl) (fun v6 hv => ?_)
              have hF := lt_elim hF hv
              exact Wk_met (fs := [3, 7, 8, 9, 17]) (bs := []) (rs := []) (ms := []) (aa := []) (nv := []) (by first | (rw [← some_elim hF]; kernel_rfl) | kernel_rfl)
            · have hF := ite_f hF hb
              refine Wk_skip ?_
              exact Wk_met (fs := [3, 7, 8, 9, 17]) (bs := []) (rs := []) (ms := []) (aa := []) (nv := []) (by first | (rw [← some_elim hF]; kernel_rfl) | kernel_rfl)
          · refine Wk_blk ?_
            refine WR [] [3, 7, 8, 9, 17] [] [] [] [] [] ⟨[(3, .int .u32 v5), (7, .sl 1 (b.map e_u8)), (8, .int .i64 (b.length : Int)), (9, .int .i64 v2.2), (17, .int .i64 (w64 (v4.2 + 1)))], [], [], [], []⟩ .nil (by kernel_rfl) ?_
            refine Wk_trim (fs := [3, 7, 8, 9, 17]) (bs := []) (rs := []) (ms := []) (aa := []) (nv := []) ?_ (ih2 _ (some_elim hF).symm)
            kernel_rfl
        · have hF := ite_f hF hb
          refine Wk_exit rfl ?_
          have hF := inrO_done hF dn2
          exact Wk_metP v4.1 [3, 7, 8, 9] [] [] [] [] [] hF (by kernel_rfl)
      · intro v3 hF
        have hF : wire_Crc_J2 v2 v3 = some y1 := hF
        unfold wire_Crc_J2 at hF
        refine Wk_blk ?_
        refine WR [] [3, 7, 8, 9] [] [] [] [] [] ⟨[(3, .int .u32 v3), (7, .sl 1 (b.map e_u8)), (8, .int .i64 (b.length : Int)), (9, .int .i64 (w64 (v2.2 + 1)))], [], [], [], []⟩ .nil (by kernel_rfl) ?_
        refine Wk_trim (fs := [3, 7, 8, 9]) (bs := []) (rs := []) (ms := []) (aa := []) (nv := []) ?_ (ih1 _ (some_elim hF).symm)
        kernel_rfl
    · have hF := ite_f hF hb
      refine Wk_exit rfl ?_
      have hF := inrO_done hF dn1
      exact Wk_metP v2.1 [3] [] [] [] [] [] hF (by kernel_rfl)
  · intro v hF
    have hF : wire_Crc_J1 v = some r := hF
    unfold wire_Crc_J1 at hF
    refine Wk_seq ?_
    refine WRL (bitsOp .xor .u32 (if IntKind.signed .u32 = true then -1 else IntKind.max .u32) v) (fun v1 : Int => ⟨[(2, .int .u32 v1)], [], [], [], []⟩) [] [2] [] [] [] [] [] .nil (by kernel_rfl) (fun v1 hv => ?_)
    have hF := lt_elim hF hv
    have hF := some_elim hF
    exact Wk_ret (hfin _ ⟨[], [], [], [], [], [], by first | (rw [← hF]; kernel_rfl) | kernel_rfl⟩)

/- slices.Equal[[]byte,byte] -/
noncomputable def slices_Equal_byte_byte_J1 (v : Unit) : Option Bool :=
  some true
noncomputable def slices_Equal_byte_byte_B1 (s1 : List UInt8) (s2 : List UInt8) (v1 : Int) : Option (Int ⊕ Bool) :=
  if (decide (v1 < (s1.length : Int))) = true then
    asrt (0 ≤ v1 ∧ v1 < (s1.length : Int)) <|
    asrt (0 ≤ v1 ∧ v1 < (s2.length : Int)) <|
    if (!decide (((lget s1 v1).toNat : Int) = ((lget s2 v1).toNat : Int))) = true then
      some (Sum.inr false)
    else
      some (Sum.inl (w64 (v1 + 1)))
  else
    inrO (slices_Equal_byte_byte_J1 ())
noncomputable def slices_Equal_byte_byte_L1 (s1 : List UInt8) (s2 : List UInt8) (v0 : Int) : Option Bool :=
  loopO (fun y => slices_Equal_byte_byte_B1 s1 s2 y) v0
noncomputable def slices_Equal_byte_byte (s1 : List UInt8) (s2 : List UInt8) : Option Bool :=
  if (!decide ((s1.length : Int) = (s2.length : Int))) = true then
    some false
  else
    slices_Equal_byte_byte_L1 s1 s2 0
theorem slices_Equal_byte_byte_ok (s1 : List UInt8) (s2 : List UInt8) (r : Bool) (hF : slices_Equal_byte_byte s1 s2 = some r) : Pe Try.prog 71 S.none [.sl 1 (s1.map e_u8), .sl 1 (s2.map e_u8)] (.bool r) S.none := by
  refine Pe_of (N := 26) (res := [.tmp 4]) (ts := [4]) Ty.ok Fn.b71 Try.func71 rfl rfl rfl rfl rfl rfl ?_
  intro Q g hfin
  unfold slices_Equal_byte_byte at hF
  refine Wk_seq ?_
  refine WR [] [0, 1] [] [] [] [] [] ⟨[(0, .sl 1 (s1.map e_u8)), (1, .sl 1 (s2.map e_u8))], [], [], [], []⟩ .nil (by kernel_rfl) ?_
  refine Wk_seq ?_
  refine Wk_seq ?_
  refine WR [.nat (s1.length : Int), .nat (s2.length : Int)] [0, 1, 10] [] [] [] [] [] ⟨[(0, .sl 1 (s1.map e_u8)), (1, .sl 1 (s2.map e_u8)), (10, .bool (!decide ((s1.length : Int) = (s2.length : Int))))], [], [], [], []⟩ (.cons (len_ok e_u8 s1) (.cons (len_ok e_u8 s2) .nil)) (by kernel_rfl) ?_
  refine Wk_split rfl (fun hb => ?_) (fun hb => ?_)
  · have hF := ite_t hF hb
    refine Wk_seq ?_
    refine WR [] [4] [] [] [] [] [] ⟨[(4, .bool false)], [], [], [], []⟩ .nil (by kernel_rfl) ?_
    have hF := some_elim hF
    exact Wk_ret (hfin _ ⟨[], [], [], [], [], [], by first | (rw [← hF]; kernel_rfl) | kernel_rfl⟩)
  · have hF := ite_f hF hb
    refine Wk_skip ?_
    refine Wk_seq ?_
    refine Wk_seq ?_
    refine WR [.nat (s1.length : Int)] [0, 1, 12, 13] [] [] [] [] [] ⟨[(0, .sl 1 (s1.map e_u8)), (1, .sl 1 (s2.map e_u8)), (12, .int .i64 (s1.length : Int)), (13, .int .i64 0)], [], [], [], []⟩ (.cons (len_ok e_u8 s1) .nil) (by kernel_rfl) ?_
    refine Wk_meetP (fun v : Unit => (⟨[], [], [], [], []⟩ : S)) (fun v => slices_Equal_byte_byte_J1 v = some r) ?_ ?_
    · refine Wk_block ?_
      unfold slices_Equal_byte_byte_L1 at hF
      refine Wk_trim (fs := [0, 1, 12, 13]) (bs := []) (rs := []) (ms := []) (aa := []) (nv := []) (t := (fun v1 : Int => (⟨[(0, .sl 1 (s1.map e_u8)), (1, .sl 1 (s2.map e_u8)), (12, .int .i64 (s1.length : Int)), (13, .int .i64 v1)], [], [], [], []⟩ : S)) 0) (by kernel_rfl) ?_
      refine Wk_iter (step := fun y => slices_Equal_byte_byte_B1 s1 s2 y) (r := r) (fun v1 : Int => (⟨[(0, .sl 1 (s1.map e_u8)), (1, .sl 1 (s2.map e_u8)), (12, .int .i64 (s1.length : Int)), (13, .int .i64 v1)], [], [], [], []⟩ : S)) 0 hF ?_
      intro n1 v1 y1 hF ih1 dn1
      have hF : slices_Equal_byte_byte_B1 s1 s2 v1 = some y1 := hF
      unfold slices_Equal_byte_byte_B1 at hF
      refine Wk_seq ?_
      refine WR [] [0, 1, 12, 13, 14] [] [] [] [] [] ⟨[(0, .sl 1 (s1.map e_u8)), (1, .sl 1 (s2.map e_u8)), (12, .int .i64 (s1.length : Int)), (13, .int .i64 v1), (14, .bool (decide (v1 < (s1.length : Int))))], [], [], [], []⟩ .nil (by kernel_rfl) ?_
      refine Wk_seq ?_
      refine Wk_split rfl (fun hb => ?_) (fun hb => ?_)
      · have hF := ite_t hF hb
        refine Wk_skip ?_
        refine Wk_seq ?_
        refine Wk_block ?_
        refine Wk_seq ?_
        refine WR [] [0, 1, 5, 12, 13] [] [] [] [] [] ⟨[(0, .sl 1 (s1.map e_u8)), (1, .sl 1 (s2.map e_u8)), (5, .int .i64 v1), (12, .int .i64 (s1.length : Int)), (13, .int .i64 v1)], [], [], [], []⟩ .nil (by kernel_rfl) ?_
        refine Wk_seq ?_
        obtain ⟨h0, hF⟩ := asrt_elim hF
        obtain ⟨h1, hF⟩ := asrt_elim hF
        refine WD [.av (e_u8 (lget s1 v1)), .av (e_u8 (lget s2 v1))] [0, 1, 12, 13, 24] [] [] [] [] [] ⟨[(0, .sl 1 (s1.map e_u8)), (1, .sl 1 (s2.map e_u8)), (12, .int .i64 (s1.length : Int)), (13, .int .i64 v1), (24, .bool (!decide (((lget s1 v1).toNat : Int) = ((lget s2 v1).toNat : Int))))], [], [], [], []⟩ (.cons (idx_ok e_u8 h0) (.cons (idx_ok e_u8 h1) .nil)) (by kernel_rfl) ?_
        refine Wk_split rfl (fun hb => ?_) (fun hb => ?_)
        · have hF := ite_t hF hb
          refine Wk_seq ?_
          refine WR [] [4] [] [] [] [] [] ⟨[(4, .bool false)], [], [], [], []⟩ .nil (by kernel_rfl) ?_
          have hF := ret_done hF dn1
          have hF := some_elim hF
          exact Wk_ret (hfin _ ⟨[], [], [], [], [], [], by first | (rw [← hF]; kernel_rfl) | kernel_rfl⟩)
        · have hF := ite_f hF hb
          refine Wk_skip ?_
          refine Wk_blk ?_
          refine WR [] [0, 1, 12, 13] [] [] [] [] [] ⟨[(0, .sl 1 (s1.map e_u8)), (1, .sl 1 (s2.map e_u8)), (12, .int .i64 (s1.length : Int)), (13, .int .i64 (w64 (v1 + 1)))], [], [], [], []⟩ .nil (by kernel_rfl) ?_
          refine Wk_trim (fs := [0, 1, 12, 13]) (bs := []) (rs := []) (ms := []) (aa := []) (nv := []) ?_ (ih1 _ (some_elim hF).symm)
          kernel_rfl
      · have hF := ite_f hF hb
        refine Wk_exit rfl ?_
        have hF := inrO_done hF dn1
        exact Wk_metP () [] [] [] [] [] [] hF (by kernel_rfl)
    · intro v hF
      have hF : slices_Equal_byte_byte_J1 v = some r := hF
      unfold slices_Equal_byte_byte_J1 at hF
      refine Wk_seq ?_
      refine WR [] [4] [] [] [] [] [] ⟨[(4, .bool true)], [], [], [], []⟩ .nil (by kernel_rfl) ?_
      have hF := some_elim hF
      exact Wk_ret (hfin _ ⟨[], [], [], [], [], [], by first | (rw [← hF]; kernel_rfl) | kernel_rfl⟩)

end G
end Go.Proofs.Ytiakadlmebbafaa
