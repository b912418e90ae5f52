/- The program's functions as plain functions, and that they are these. Written by a program (dec2.py). -/
import Derived.Test.YtiakadlmebbafaaGf1
namespace Go.Proofs.Ytiakadlmebbafaa
open Go Go.Dm
set_option linter.unusedVariables false
set_option linter.unusedSimpArgs false
set_option maxRecDepth 100000
namespace G
/- wire.Opened -/
noncomputable def wire_Opened_J1 (v : List (List UInt8) × Int) : Option (List (List UInt8) × Int) :=
  some (v.1, v.2)
noncomputable def wire_Opened_B1 (b : List UInt8) (v1 : List (List UInt8) × Int) : Option ((List (List UInt8) × Int) ⊕ (List (List UInt8) × Int)) :=
  if (decide (6 ≤ (w64 ((b.length : Int) - v1.2)))) = true then
    asrt (0 ≤ v1.2 ∧ v1.2 < (b.length : Int)) <|
    asrt (0 ≤ w64 (v1.2 + 1) ∧ w64 (v1.2 + 1) < (b.length : Int)) <|
    lt (bitsOp .or .i64 (w64 ((w64 ((lget b v1.2).toNat : Int)) * 2 ^ (min (8 : Int).toNat 64))) (w64 ((lget b (w64 (v1.2 + 1))).toNat : Int))) fun (v2 : Int) =>
    if (decide ((b.length : Int) < (w64 ((w64 ((w64 (v1.2 + 2)) + v2)) + 4)))) = true then
      inrO (wire_Opened_J1 (v1.1, v1.2))
    else
      asrt (0 ≤ v1.2 ∧ v1.2 ≤ w64 ((w64 (v1.2 + 2)) + v2) ∧ w64 ((w64 (v1.2 + 2)) + v2) ≤ (b.length : Int)) <|
      ob (wire_Crc (ldrop (ltake b (w64 ((w64 (v1.2 + 2)) + v2))) v1.2)) fun x =>
      asrt (0 ≤ w64 ((w64 (v1.2 + 2)) + v2) ∧ w64 ((w64 (v1.2 + 2)) + v2) ≤ w64 ((w64 ((w64 (v1.2 + 2)) + v2)) + 4) ∧ w64 ((w64 ((w64 (v1.2 + 2)) + v2)) + 4) ≤ (b.length : Int)) <|
      ob (slices_Equal_byte_byte (ldrop (ltake b (w64 ((w64 ((w64 (v1.2 + 2)) + v2)) + 4))) (w64 ((w64 (v1.2 + 2)) + v2))) ([toU8 (Int.fdiv x (2 ^ (min (24 : Int).toNat 32))), toU8 (Int.fdiv x (2 ^ (min (16 : Int).toNat 32))), toU8 (Int.fdiv x (2 ^ (min (8 : Int).toNat 32))), toU8 x] : List UInt8)) fun x1 =>
      if (!x1) = true then
        inrO (wire_Opened_J1 (v1.1, v1.2))
      else
        asrt (0 ≤ w64 (v1.2 + 2) ∧ w64 (v1.2 + 2) ≤ w64 ((w64 (v1.2 + 2)) + v2) ∧ w64 ((w64 (v1.2 + 2)) + v2) ≤ (b.length : Int)) <|
        ob (slices_Clone_byte_byte (ldrop (ltake b (w64 ((w64 (v1.2 + 2)) + v2))) (w64 (v1.2 + 2)))) fun x2 =>
        asrt (((v1.1 ++ ([x2] : List (List UInt8))).length : Int) * 24 ≤ 140737488351232) <|
        some (Sum.inl ((v1.1 ++ ([x2] : List (List UInt8))), w64 ((w64 ((w64 (v1.2 + 2)) + v2)) + 4)))
  else
    inrO (wire_Opened_J1 (v1.1, v1.2))
noncomputable def wire_Opened_L1 (b : List UInt8) (v0 : List (List UInt8) × Int) : Option (List (List UInt8) × Int) :=
  loopO (fun y => wire_Opened_B1 b y) v0
noncomputable def wire_Opened (b : List UInt8) : Option (List (List UInt8) × Int) :=
  wire_Opened_L1 b (([] : List (List UInt8)), 0)
theorem wire_Opened_ok (b : List UInt8) (r : List (List UInt8) × Int) (hF : wire_Opened b = some r) : Pe Try.prog 67 ⟨[], [], [], [], []⟩ [.sl 1 (b.map e_u8)] (.tup [.row 66 0, .int .i64 r.2]) ⟨[], [], [(66, ⟨23, 1, 0, 0, 0, true, 0, [], (r.1.map e_L_u8)⟩)], [], []⟩ := by
  refine Pe_of (N := 71) (res := [.tmp 2, .tmp 3]) (ts := [41, 3]) Ty.ok Fn.b67 Try.func67 rfl rfl rfl rfl rfl rfl ?_
  intro Q g hfin
  unfold wire_Opened at hF
  refine Wk_seq ?_
  refine WR [] [0, 2, 3] [] [] [] [] [] ⟨[(0, .sl 1 (b.map e_u8)), (2, .nils), (3, .int .i64 0)], [], [], [], []⟩ .nil (by kernel_rfl) ?_
  refine Wk_seq ?_
  refine Wk_meetP (fun v : List (List UInt8) × Int => (⟨[(2, .row 66 0), (3, .int .i64 v.2)], [], [(66, ⟨23, 1, 0, 0, 0, true, 0, [], (v.1.map e_L_u8)⟩)], [], []⟩ : S)) (fun v => wire_Opened_J1 v = some r) ?_ ?_
  · refine Wk_block ?_
    unfold wire_Opened_L1 at hF
    refine Wk_nilrow 2 60000 23 1 rfl rfl rfl ?_
    refine Wk_trim (fs := [0, 2, 3]) (bs := []) (rs := [60000]) (ms := []) (aa := []) (nv := []) rfl ?_
    refine Wk_ren' ⟨[], [(60000, 66)], [], []⟩ rfl ?_
    refine Wk_trim (fs := [0, 2, 3]) (bs := []) (rs := [66]) (ms := []) (aa := []) (nv := []) (t := (fun v1 : List (List UInt8) × Int => (⟨[(0, .sl 1 (b.map e_u8)), (2, .row 66 0), (3, .int .i64 v1.2)], [], [(66, ⟨23, 1, 0, 0, 0, true, 0, [], (v1.1.map e_L_u8)⟩)], [], []⟩ : S)) (([] : List (List UInt8)), 0)) (by kernel_rfl) ?_
    refine Wk_iter (step := fun y => wire_Opened_B1 b y) (r := r) (fun v1 : List (List UInt8) × Int => (⟨[(0, .sl 1 (b.map e_u8)), (2, .row 66 0), (3, .int .i64 v1.2)], [], [(66, ⟨23, 1, 0, 0, 0, true, 0, [], (v1.1.map e_L_u8)⟩)], [], []⟩ : S)) (([] : List (List UInt8)), 0) hF ?_
    intro n1 v1 y1 hF ih1 dn1
    have hF : wire_Opened_B1 b v1 = some y1 := hF
    unfold wire_Opened_B1 at hF
    refine Wk_seq ?_
    refine Wk_seq ?_
    refine WR [.nat (b.length : Int)] [0, 2, 3, 11] [] [66] [] [] [] ⟨[(0, .sl 1 (b.map e_u8)), (2, .row 66 0), (3, .int .i64 v1.2), (11, .bool (decide (6 ≤ (w64 ((b.length : Int) - v1.2)))))], [], [(66, ⟨23, 1, 0, 0, 0, true, 0, [], (v1.1.map e_L_u8)⟩)], [], []⟩ (.cons (len_ok e_u8 b) .nil) (by kernel_rfl) ?_
    refine Wk_split rfl (fun hb => ?_) (fun hb => ?_)
    · have hF := ite_t hF hb
      refine Wk_skip ?_
      refine Wk_block ?_
      refine Wk_seq ?_
      obtain ⟨h0, hF⟩ := asrt_elim hF
      obtain ⟨h1, hF⟩ := asrt_elim hF
      refine WDL (bitsOp .or .i64 (w64 ((w64 ((lget b v1.2).toNat : Int)) * 2 ^ (min (8 : Int).toNat 64))) (w64 ((lget b (w64 (v1.2 + 1))).toNat : Int))) (fun v2 : Int => ⟨[(0, .sl 1 (b.map e_u8)), (2, .row 66 0), (3, .int .i64 v1.2), (4, .int .i64 v2)], [], [(66, ⟨23, 1, 0, 0, 0, true, 0, [], (v1.1.map e_L_u8)⟩)], [], []⟩) [.av (e_u8 (lget b v1.2)), .av (e_u8 (lget b (w64 (v1.2 + 1))))] [0, 2, 3, 4] [] [66] [] [] [] (.cons (idx_ok e_u8 h0) (.cons (by decide : (0 : Int) ≤ 8) (.cons (idx_ok e_u8 h1) .nil))) (by kernel_rfl) (fun v2 hv => ?_)
      have hF := lt_elim hF hv
      refine Wk_seq ?_
      refine WR [] [0, 2, 3, 5] [] [66] [] [] [] ⟨[(0, .sl 1 (b.map e_u8)), (2, .row 66 0), (3, .int .i64 v1.2), (5, .int .i64 (w64 ((w64 (v1.2 + 2)) + v2)))], [], [(66, ⟨23, 1, 0, 0, 0, true, 0, [], (v1.1.map e_L_u8)⟩)], [], []⟩ .nil (by kernel_rfl) ?_
      refine Wk_seq ?_
      refine Wk_seq ?_
      refine WR [.nat (b.length : Int)] [0, 2, 3, 5, 33] [] [66] [] [] [] ⟨[(0, .sl 1 (b.map e_u8)), (2, .row 66 0), (3, .int .i64 v1.2), (5, .int .i64 (w64 ((w64 (v1.2 + 2)) + v2))), (33, .bool (decide ((b.length : Int) < (w64 ((w64 ((w64 (v1.2 + 2)) + v2)) + 4)))))], [], [(66, ⟨23, 1, 0, 0, 0, true, 0, [], (v1.1.map e_L_u8)⟩)], [], []⟩ (.cons (len_ok e_u8 b) .nil) (by kernel_rfl) ?_
      refine Wk_split rfl (fun hb => ?_) (fun hb => ?_)
      · have hF := ite_t hF hb
        refine Wk_exit rfl ?_
        have hF := inrO_done hF dn1
        exact Wk_metP (v1.1, v1.2) [2, 3] [] [66] [] [] [] hF (by kernel_rfl)
      · have hF := ite_f hF hb
        refine Wk_skip ?_
        refine Wk_seq ?_
        obtain ⟨h2, hF⟩ := asrt_elim hF
        obtain ⟨x, h3, hF⟩ := ob_elim hF
        refine WR [.xs ((ldrop (ltake b (w64 ((w64 (v1.2 + 2)) + v2))) v1.2).map e_u8), .callB (.int .u32 x)] [0, 2, 3, 5, 6] [] [66] [] [] [] ⟨[(0, .sl 1 (b.map e_u8)), (2, .row 66 0), (3, .int .i64 v1.2), (5, .int .i64 (w64 ((w64 (v1.2 + 2)) + v2))), (6, .int .u32 x)], [], [(66, ⟨23, 1, 0, 0, 0, true, 0, [], (v1.1.map e_L_u8)⟩)], [], []⟩ (.cons (sl11_ok e_u8 h2) (.cons (wire_Crc_ok (ldrop (ltake b (w64 ((w64 (v1.2 + 2)) + v2))) v1.2) x h3) .nil)) (by kernel_rfl) ?_
        refine Wk_seq ?_
        refine Wk_seq ?_
        obtain ⟨h4, hF⟩ := asrt_elim hF
        obtain ⟨x1, h5, hF⟩ := ob_elim hF
        refine WR [.xs ((ldrop (ltake b (w64 ((w64 ((w64 (v1.2 + 2)) + v2)) + 4))) (w64 ((w64 (v1.2 + 2)) + v2))).map e_u8), .sealed, .callB (.bool x1)] [0, 2, 3, 5, 57] [] [66] [] [] [] ⟨[(0, .sl 1 (b.map e_u8)), (2, .row 66 0), (3, .int .i64 v1.2), (5, .int .i64 (w64 ((w64 (v1.2 + 2)) + v2))), (57, .bool (!x1))], [], [(66, ⟨23, 1, 0, 0, 0, true, 0, [], (v1.1.map e_L_u8)⟩)], [], []⟩ (.cons (sl11_ok e_u8 h4) (.cons (by decide : (0 : Int) ≤ 24) (.cons (by decide : (0 : Int) ≤ 16) (.cons (by decide : (0 : Int) ≤ 8) (.cons (slices_Equal_byte_byte_ok (ldrop (ltake b (w64 ((w64 ((w64 (v1.2 + 2)) + v2)) + 4))) (w64 ((w64 (v1.2 + 2)) + v2))) ([toU8 (Int.fdiv x (2 ^ (min (24 : Int).toNat 32))), toU8 (Int.fdiv x (2 ^ (min (16 : Int).toNat 32))), toU8 (Int.fdiv x (2 ^ (min (8 : Int).toNat 32))), toU8 x] : List UInt8) x1 h5) .nil))))) (by kernel_rfl) ?_
        refine Wk_split rfl (fun hb => ?_) (fun hb => ?_)
        · have hF := ite_t hF hb
          refine Wk_exit rfl ?_
          have hF := inrO_done hF dn1
          exact Wk_metP (v1.1, v1.2) [2, 3] [] [66] [] [] [] hF (by kernel_rfl)
        · have hF := ite_f hF hb
          refine Wk_skip ?_
          refine Wk_seq ?_
          obtain ⟨h6, hF⟩ := asrt_elim hF
          obtain ⟨x2, h7, hF⟩ := ob_elim hF
          obtain ⟨h8, hF⟩ := asrt_elim hF
          refine WR [.xs ((ldrop (ltake b (w64 ((w64 (v1.2 + 2)) + v2))) (w64 (v1.2 + 2))).map e_u8), .callE [] [] [] [] (.row 64 0) ⟨[], [], [(64, ⟨5, 1, 0, 0, 0, false, 0, [], (x2.map e_u8)⟩)], [], []⟩, .sealed, .xs ((v1.1 ++ ([x2] : List (List UInt8))).map e_L_u8)] [0, 2, 5] [] [66] [] [] [] ⟨[(0, .sl 1 (b.map e_u8)), (2, .row 66 1), (5, .int .i64 (w64 ((w64 (v1.2 + 2)) + v2)))], [], [(66, ⟨23, 1, 1, 0, 0, true, 0, [], ((v1.1 ++ ([x2] : List (List UInt8))).map e_L_u8)⟩)], [], []⟩ (.cons (sl11_ok e_u8 h6) (.cons (Pe.ren (slices_Clone_byte_byte_ok (ldrop (ltake b (w64 ((w64 (v1.2 + 2)) + v2))) (w64 (v1.2 + 2))) x2 h7) ⟨[], [(5, 64)], [], []⟩) (.cons (app_ok e_L_u8 v1.1 ([x2] : List (List UInt8))) (.cons (appl_ok e_L_u8 h8) .nil)))) (by kernel_rfl) ?_
          refine WR [] [0, 2, 3] [] [66] [] [] [] ⟨[(0, .sl 1 (b.map e_u8)), (2, .row 66 1), (3, .int .i64 (w64 ((w64 ((w64 (v1.2 + 2)) + v2)) + 4)))], [], [(66, ⟨23, 1, 1, 0, 0, true, 0, [], ((v1.1 ++ ([x2] : List (List UInt8))).map e_L_u8)⟩)], [], []⟩ .nil (by kernel_rfl) ?_
          refine Wk_blk ?_
          refine Wk_trim (fs := [0, 2, 3]) (bs := []) (rs := [66]) (ms := []) (aa := []) (nv := [(66, ⟨0, true, true, false⟩)]) ?_ (ih1 _ (some_elim hF).symm)
          kernel_rfl
    · have hF := ite_f hF hb
      refine Wk_exit rfl ?_
      have hF := inrO_done hF dn1
      exact Wk_metP (v1.1, v1.2) [2, 3] [] [66] [] [] [] hF (by kernel_rfl)
  · intro v hF
    have hF : wire_Opened_J1 v = some r := hF
    unfold wire_Opened_J1 at hF
    refine Wk_seq ?_
    refine WR [] [2, 3] [] [66] [] [] [] ⟨[(2, .row 66 0), (3, .int .i64 v.2)], [], [(66, ⟨23, 1, 0, 0, 0, true, 0, [], (v.1.map e_L_u8)⟩)], [], []⟩ .nil (by kernel_rfl) ?_
    have hF := some_elim hF
    exact Wk_ret (hfin _ ⟨[66], [], [66], [], [], [], by first | (rw [← hF]; kernel_rfl) | kernel_rfl⟩)

/- wire.Open -/
noncomputable def wire_Open (b : List UInt8) : Option (List (List UInt8) × Int × Fault) :=
  if (decide (60000 < (b.length : Int))) = true then
    lt (wire_fault 8 0) fun x =>
    some (([] : List (List UInt8)), 0, x)
  else
    ob (wire_Opened b) fun x1 =>
    if (decide (1000 < (x1.1.length : Int))) = true then
      lt (wire_fault 2 0) fun x2 =>
      some (([] : List (List UInt8)), 0, x2)
    else
      some (x1.1, x1.2, (⟨0, 0⟩ : Fault))
theorem wire_Open_ok (b : List UInt8) (r : List (List UInt8) × Int × Fault) (hF : wire_Open b = some r) : Pe Try.prog 34 ⟨[], [], [], [], []⟩ [.sl 1 (b.map e_u8)] (.tup [.row 13 0, .int .i64 r.2.1, .agg [.int .i64 r.2.2.Code, .int .i64 r.2.2.At]]) ⟨[], [], [(13, ⟨23, 1, 0, 0, 0, true, 0, [], (r.1.map e_L_u8)⟩)], [], []⟩ := by
  refine Pe_of (N := 23) (res := [.tmp 2, .tmp 3, .cell 4 26]) (ts := [41, 3, 26]) Ty.ok Fn.b34 Try.func34 rfl rfl rfl rfl rfl rfl ?_
  intro Q g hfin
  unfold wire_Open at hF
  refine Wk_seq ?_
  refine WR [] [0, 4] [4] [] [] [] [] ⟨[(0, .sl 1 (b.map e_u8)), (4, .ptr 4 0)], [(4, [.int .i64 0, .int .i64 0])], [], [], []⟩ .nil (by kernel_rfl) ?_
  refine Wk_seq ?_
  refine Wk_seq ?_
  refine WR [.nat (b.length : Int)] [0, 4, 9] [4] [] [] [] [] ⟨[(0, .sl 1 (b.map e_u8)), (4, .ptr 4 0), (9, .bool (decide (60000 < (b.length : Int))))], [(4, [.int .i64 0, .int .i64 0])], [], [], []⟩ (.cons (len_ok e_u8 b) .nil) (by kernel_rfl) ?_
  refine Wk_split rfl (fun hb => ?_) (fun hb => ?_)
  · have hF := ite_t hF hb
    refine Wk_seq ?_
    obtain ⟨x, h0, hF⟩ := lt_split hF
    refine WR [.callB (.agg [.int .i64 x.Code, .int .i64 x.At])] [2, 3, 4] [4] [] [] [] [] ⟨[(2, .nils), (3, .int .i64 0), (4, .ptr 4 0)], [(4, [.int .i64 x.Code, .int .i64 x.At])], [], [], []⟩ (.cons (wire_fault_ok 8 0 x h0) .nil) (by kernel_rfl) ?_
    have hF := some_elim hF
    refine Wk_nilrow 2 60000 23 1 rfl rfl rfl ?_
    refine Wk_ren' ⟨[], [(60000, 13)], [], []⟩ rfl ?_
    exact Wk_ret (hfin _ ⟨[13], [], [13], [], [], [], by first | (rw [← hF]; kernel_rfl) | kernel_rfl⟩)
  · have hF := ite_f hF hb
    refine Wk_skip ?_
    refine Wk_seq ?_
    obtain ⟨x1, h1, hF⟩ := ob_elim hF
    refine WR [.callE [] [] [] [] (.tup [.row 13 0, .int .i64 x1.2]) ⟨[], [], [(13, ⟨23, 1, 0, 0, 0, true, 0, [], (x1.1.map e_L_u8)⟩)], [], []⟩] [4, 5, 6] [4] [13] [] [] [] ⟨[(4, .ptr 4 0), (5, .row 13 0), (6, .int .i64 x1.2)], [(4, [.int .i64 0, .int .i64 0])], [(13, ⟨23, 1, 0, 0, 0, true, 0, [], (x1.1.map e_L_u8)⟩)], [], []⟩ (.cons (Pe.ren (wire_Opened_ok b x1 h1) ⟨[], [(66, 13)], [], []⟩) .nil) (by kernel_rfl) ?_
    refine Wk_seq ?_
    refine Wk_seq ?_
    refine WR [.nat (x1.1.length : Int)] [4, 5, 6, 18] [4] [13] [] [] [] ⟨[(4, .ptr 4 0), (5, .row 13 0), (6, .int .i64 x1.2), (18, .bool (decide (1000 < (x1.1.length : Int))))], [(4, [.int .i64 0, .int .i64 0])], [(13, ⟨23, 1, 0, 0, 0, true, 0, [], (x1.1.map e_L_u8)⟩)], [], []⟩ (.cons (len_ok e_L_u8 x1.1) .nil) (by kernel_rfl) ?_
    refine Wk_split rfl (fun hb => ?_) (fun hb => ?_)
    · have hF := ite_t hF hb
      refine Wk_seq ?_
      obtain ⟨x2, h2, hF⟩ := lt_split hF
      refine WR [.callB (.agg [.int .i64 x2.Code, .int .i64 x2.At])] [2, 3, 4] [4] [] [] [] [] ⟨[(2, .nils), (3, .int .i64 0), (4, .ptr 4 0)], [(4, [.int .i64 x2.Code, .int .i64 x2.At])], [], [], []⟩ (.cons (wire_fault_ok 2 0 x2 h2) .nil) (by kernel_rfl) ?_
      have hF := some_elim hF
      refine Wk_nilrow 2 60001 23 1 rfl rfl rfl ?_
      refine Wk_ren' ⟨[], [(60001, 13)], [], []⟩ rfl ?_
      exact Wk_ret (hfin _ ⟨[13], [], [13], [], [], [], by first | (rw [← hF]; kernel_rfl) | kernel_rfl⟩)
    · have hF := ite_f hF hb
      refine Wk_skip ?_
      refine Wk_seq ?_
      refine WR [] [2, 3, 4] [4] [13] [] [] [] ⟨[(2, .row 13 0), (3, .int .i64 x1.2), (4, .ptr 4 0)], [(4, [.int .i64 0, .int .i64 0])], [(13, ⟨23, 1, 0, 0, 0, true, 0, [], (x1.1.map e_L_u8)⟩)], [], []⟩ .nil (by kernel_rfl) ?_
      have hF := some_elim hF
      exact Wk_ret (hfin _ ⟨[13], [], [13], [], [], [], by first | (rw [← hF]; kernel_rfl) | kernel_rfl⟩)

/- wire.Open -/
noncomputable def wire_Open_v1 (b : List UInt8) : Option (List (List UInt8) × Int × Fault) :=
  if (decide (60000 < (b.length : Int))) = true then
    lt (wire_fault 8 0) fun x =>
    some (([] : List (List UInt8)), 0, x)
  else
    ob (wire_Opened b) fun x1 =>
    if (decide (1000 < (x1.1.length : Int))) = true then
      lt (wire_fault 2 0) fun x2 =>
      some (([] : List (List UInt8)), 0, x2)
    else
      some (x1.1, x1.2, (⟨0, 0⟩ : Fault))
theorem wire_Open_v1_ok (b : List UInt8) (r : List (List UInt8) × Int × Fault) (hF : wire_Open_v1 b = some r) : Pe Try.prog 34 S.none [.sl 1 (b.map e_u8)] (.tup [.sl 1 (r.1.map e_L_u8), .int .i64 r.2.1, .agg [.int .i64 r.2.2.Code, .int .i64 r.2.2.At]]) S.none := by
  refine Pe_of (N := 23) (res := [.tmp 2, .tmp 3, .cell 4 26]) (ts := [41, 3, 26]) Ty.ok Fn.b34 Try.func34 rfl rfl rfl rfl rfl rfl ?_
  intro Q g hfin
  unfold wire_Open_v1 at hF
  refine Wk_seq ?_
  refine WR [] [0, 4] [4] [] [] [] [] ⟨[(0, .sl 1 (b.map e_u8)), (4, .ptr 4 0)], [(4, [.int .i64 0, .int .i64 0])], [], [], []⟩ .nil (by kernel_rfl) ?_
  refine Wk_seq ?_
  refine Wk_seq ?_
  refine WR [.nat (b.length : Int)] [0, 4, 9] [4] [] [] [] [] ⟨[(0, .sl 1 (b.map e_u8)), (4, .ptr 4 0), (9, .bool (decide (60000 < (b.length : Int))))], [(4, [.int .i64 0, .int .i64 0])], [], [], []⟩ (.cons (len_ok e_u8 b) .nil) (by kernel_rfl) ?_
  refine Wk_split rfl (fun hb => ?_) (fun hb => ?_)
  · have hF := ite_t hF hb
    refine Wk_seq ?_
    obtain ⟨x, h0, hF⟩ := lt_split hF
    refine WR [.callB (.agg [.int .i64 x.Code, .int .i64 x.At])] [2, 3, 4] [4] [] [] [] [] ⟨[(2, .nils), (3, .int .i64 0), (4, .ptr 4 0)], [(4, [.int .i64 x.Code, .int .i64 x.At])], [], [], []⟩ (.cons (wire_fault_ok 8 0 x h0) .nil) (by kernel_rfl) ?_
    have hF := some_elim hF
    exact Wk_ret (hfin _ ⟨[], [], [], [], [], [], by first | (rw [← hF]; kernel_rfl) | kernel_rfl⟩)
  · have hF := ite_f hF hb
    refine Wk_skip ?_
    refine Wk_seq ?_
    obtain ⟨x1, h1, hF⟩ := ob_elim hF
    refine WR [.callE [] [] [] [] (.tup [.row 13 0, .int .i64 x1.2]) ⟨[], [], [(13, ⟨23, 1, 0, 0, 0, true, 0, [], (x1.1.map e_L_u8)⟩)], [], []⟩] [4, 5, 6] [4] [13] [] [] [] ⟨[(4, .ptr 4 0), (5, .row 13 0), (6, .int .i64 x1.2)], [(4, [.int .i64 0, .int .i64 0])], [(13, ⟨23, 1, 0, 0, 0, true, 0, [], (x1.1.map e_L_u8)⟩)], [], []⟩ (.cons (Pe.ren (wire_Opened_ok b x1 h1) ⟨[], [(66, 13)], [], []⟩) .nil) (by kernel_rfl) ?_
    refine Wk_seq ?_
    refine Wk_seq ?_
    refine WR [.nat (x1.1.length : Int)] [4, 5, 6, 18] [4] [13] [] [] [] ⟨[(4, .ptr 4 0), (5, .row 13 0), (6, .int .i64 x1.2), (18, .bool (decide (1000 < (x1.1.length : Int))))], [(4, [.int .i64 0, .int .i64 0])], [(13, ⟨23, 1, 0, 0, 0, true, 0, [], (x1.1.map e_L_u8)⟩)], [], []⟩ (.cons (len_ok e_L_u8 x1.1) .nil) (by kernel_rfl) ?_
    refine Wk_split rfl (fun hb => ?_) (fun hb => ?_)
    · have hF := ite_t hF hb
      refine Wk_seq ?_
      obtain ⟨x2, h2, hF⟩ := lt_split hF
      refine WR [.callB (.agg [.int .i64 x2.Code, .int .i64 x2.At])] [2, 3, 4] [4] [] [] [] [] ⟨[(2, .nils), (3, .int .i64 0), (4, .ptr 4 0)], [(4, [.int .i64 x2.Code, .int .i64 x2.At])], [], [], []⟩ (.cons (wire_fault_ok 2 0 x2 h2) .nil) (by kernel_rfl) ?_
      have hF := some_elim hF
      exact Wk_ret (hfin _ ⟨[], [], [], [], [], [], by first | (rw [← hF]; kernel_rfl) | kernel_rfl⟩)
    · have hF := ite_f hF hb
      refine Wk_skip ?_
      refine Wk_seq ?_
      refine WR [] [2, 3, 4] [4] [13] [] [] [] ⟨[(2, .row 13 0), (3, .int .i64 x1.2), (4, .ptr 4 0)], [(4, [.int .i64 0, .int .i64 0])], [(13, ⟨23, 1, 0, 0, 0, true, 0, [], (x1.1.map e_L_u8)⟩)], [], []⟩ .nil (by kernel_rfl) ?_
      have hF := some_elim hF
      exact Wk_ret (hfin _ ⟨[], [], [], [], [], [], by first | (rw [← hF]; kernel_rfl) | kernel_rfl⟩)

/- tabularyref.SameBodies -/
noncomputable def R_SameBodies_J1 (v : Unit) : Option Bool :=
  some true
noncomputable def R_SameBodies_B1 (a0 : List (List UInt8)) (b : List (List UInt8)) (v1 : Int) : Option (Int ⊕ Bool) :=
  if (decide (v1 < (a0.length : Int))) = true then
    asrt (0 ≤ v1 ∧ v1 < (a0.length : Int)) <|
    asrt (0 ≤ v1 ∧ v1 < (b.length : Int)) <|
    lt (R_Same (lget a0 v1) (lget b v1)) fun x =>
    if (!x) = true then
      some (Sum.inr false)
    else
      some (Sum.inl (w64 (v1 + 1)))
  else
    inrO (R_SameBodies_J1 ())
noncomputable def R_SameBodies_L1 (a0 : List (List UInt8)) (b : List (List UInt8)) (v0 : Int) : Option Bool :=
  loopO (fun y => R_SameBodies_B1 a0 b y) v0
noncomputable def R_SameBodies (a0 : List (List UInt8)) (b : List (List UInt8)) : Option Bool :=
  if (!decide ((a0.length : Int) = (b.length : Int))) = true then
    some false
  else
    R_SameBodies_L1 a0 b 0
theorem R_SameBodies_ok (a0 : List (List UInt8)) (b : List (List UInt8)) (r : Bool) (hF : R_SameBodies a0 b = some r) : Pe Try.prog 35 S.none [.sl 1 (a0.map e_L_u8), .sl 1 (b.map e_L_u8)] (.bool r) S.none := by
  refine Pe_of (N := 27) (res := [.tmp 4]) (ts := [4]) Ty.ok Fn.b35 Try.func35 rfl rfl rfl rfl rfl rfl ?_
  intro Q g hfin
  unfold R_SameBodies at hF
  refine Wk_seq ?_
  refine WR [] [0, 1] [] [] [] [] [] ⟨[(0, .sl 1 (a0.map e_L_u8)), (1, .sl 1 (b.map e_L_u8))], [], [], [], []⟩ .nil (by kernel_rfl) ?_
  refine Wk_seq ?_
  refine Wk_seq ?_
  refine WR [.nat (a0.length : Int), .nat (b.length : Int)] [0, 1, 10] [] [] [] [] [] ⟨[(0, .sl 1 (a0.map e_L_u8)), (1, .sl 1 (b.map e_L_u8)), (10, .bool (!decide ((a0.length : Int) = (b.length : Int))))], [], [], [], []⟩ (.cons (len_ok e_L_u8 a0) (.cons (len_ok e_L_u8 b) .nil)) (by kernel_rfl) ?_
  refine Wk_split rfl (fun hb => ?_) (fun hb => ?_)
  · have hF := ite_t hF hb
    refine Wk_seq ?_
    refine WR [] [4] [] [] [] [] [] ⟨[(4, .bool false)], [], [], [], []⟩ .nil (by kernel_rfl) ?_
    have hF := some_elim hF
    exact Wk_ret (hfin _ ⟨[], [], [], [], [], [], by first | (rw [← hF]; kernel_rfl) | kernel_rfl⟩)
  · have hF := ite_f hF hb
    refine Wk_skip ?_
    refine Wk_seq ?_
    refine Wk_seq ?_
    refine WR [] [0, 1, 5] [] [] [] [] [] ⟨[(0, .sl 1 (a0.map e_L_u8)), (1, .sl 1 (b.map e_L_u8)), (5, .int .i64 0)], [], [], [], []⟩ .nil (by kernel_rfl) ?_
    refine Wk_meetP (fun v : Unit => (⟨[], [], [], [], []⟩ : S)) (fun v => R_SameBodies_J1 v = some r) ?_ ?_
    · refine Wk_block ?_
      unfold R_SameBodies_L1 at hF
      refine Wk_trim (fs := [0, 1, 5]) (bs := []) (rs := []) (ms := []) (aa := []) (nv := []) (t := (fun v1 : Int => (⟨[(0, .sl 1 (a0.map e_L_u8)), (1, .sl 1 (b.map e_L_u8)), (5, .int .i64 v1)], [], [], [], []⟩ : S)) 0) (by kernel_rfl) ?_
      refine Wk_iter (step := fun y => R_SameBodies_B1 a0 b y) (r := r) (fun v1 : Int => (⟨[(0, .sl 1 (a0.map e_L_u8)), (1, .sl 1 (b.map e_L_u8)), (5, .int .i64 v1)], [], [], [], []⟩ : S)) 0 hF ?_
      intro n1 v1 y1 hF ih1 dn1
      have hF : R_SameBodies_B1 a0 b v1 = some y1 := hF
      unfold R_SameBodies_B1 at hF
      refine Wk_seq ?_
      refine Wk_seq ?_
      refine WR [.nat (a0.length : Int)] [0, 1, 5, 14] [] [] [] [] [] ⟨[(0, .sl 1 (a0.map e_L_u8)), (1, .sl 1 (b.map e_L_u8)), (5, .int .i64 v1), (14, .bool (decide (v1 < (a0.length : Int))))], [], [], [], []⟩ (.cons (len_ok e_L_u8 a0) .nil) (by kernel_rfl) ?_
      refine Wk_split rfl (fun hb => ?_) (fun hb => ?_)
      · have hF := ite_t hF hb
        refine Wk_skip ?_
        refine Wk_seq ?_
        refine Wk_block ?_
        refine Wk_seq ?_
        obtain ⟨h0, hF⟩ := asrt_elim hF
        obtain ⟨h1, hF⟩ := asrt_elim hF
        obtain ⟨x, h2, hF⟩ := lt_split hF
        refine WD [.av (e_L_u8 (lget a0 v1)), .av (e_L_u8 (lget b v1)), .callB (.bool x)] [0, 1, 5, 26] [] [] [] [] [] ⟨[(0, .sl 1 (a0.map e_L_u8)), (1, .sl 1 (b.map e_L_u8)), (5, .int .i64 v1), (26, .bool (!x))], [], [], [], []⟩ (.cons (idx_ok e_L_u8 h0) (.cons (idx_ok e_L_u8 h1) (.cons (R_Same_ok (lget a0 v1) (lget b v1) x h2) .nil))) (by kernel_rfl) ?_
        refine Wk_split rfl (fun hb => ?_) (fun hb => ?_)
        · have hF := ite_t hF hb
          refine Wk_seq ?_
          refine WR [] [4] [] [] [] [] [] ⟨[(4, .bool false)], [], [], [], []⟩ .nil (by kernel_rfl) ?_
          have hF := ret_done hF dn1
          have hF := some_elim hF
          exact Wk_ret (hfin _ ⟨[], [], [], [], [], [], by first | (rw [← hF]; kernel_rfl) | kernel_rfl⟩)
        · have hF := ite_f hF hb
          refine Wk_skip ?_
          refine Wk_blk ?_
          refine WR [] [0, 1, 5] [] [] [] [] [] ⟨[(0, .sl 1 (a0.map e_L_u8)), (1, .sl 1 (b.map e_L_u8)), (5, .int .i64 (w64 (v1 + 1)))], [], [], [], []⟩ .nil (by kernel_rfl) ?_
          refine Wk_trim (fs := [0, 1, 5]) (bs := []) (rs := []) (ms := []) (aa := []) (nv := []) ?_ (ih1 _ (some_elim hF).symm)
          kernel_rfl
      · have hF := ite_f hF hb
        refine Wk_exit rfl ?_
        have hF := inrO_done hF dn1
        exact Wk_metP () [] [] [] [] [] [] hF (by kernel_rfl)
    · intro v hF
      have hF : R_SameBodies_J1 v = some r := hF
      unfold R_SameBodies_J1 at hF
      refine Wk_seq ?_
      refine WR [] [4] [] [] [] [] [] ⟨[(4, .bool true)], [], [], [], []⟩ .nil (by kernel_rfl) ?_
      have hF := some_elim hF
      exact Wk_ret (hfin _ ⟨[], [], [], [], [], [], by first | (rw [← hF]; kernel_rfl) | kernel_rfl⟩)

/- tabularylaw.WireTorn -/
noncomputable def law_WireTorn_J2 (l : List (List UInt8)) (at0 : Int) (to0 : UInt8) (x1 : List UInt8 × Fault) (v1 : Fault × Int × Int) : Option Bool :=
  if (decide (at0 < (w64 (v1.2.2 + 2)))) = true then
    some true
  else
    ob (law_ownBytes x1.1) fun x4 =>
    asrt (0 ≤ at0 ∧ at0 < (x4.length : Int)) <|
    asrt (0 ≤ at0 ∧ at0 < (x4.length : Int)) <|
    ob (wire_Open (lset x4 at0 to0)) fun x5 =>
    asrt (((decide (x5.2.2.Code = 0)) && (decide (x5.2.1 = v1.2.2))) = true → 0 ≤ v1.2.1 ∧ v1.2.1 ≤ (l.length : Int)) <|
    ob (if ((decide (x5.2.2.Code = 0)) && (decide (x5.2.1 = v1.2.2))) = true then (R_SameBodies x5.1 (ltake l v1.2.1)) else some default) fun x6 =>
    some (((decide (x5.2.2.Code = 0)) && (decide (x5.2.1 = v1.2.2))) && x6)
noncomputable def law_WireTorn_B1 (l : List (List UInt8)) (at0 : Int) (to0 : UInt8) (x1 : List UInt8 × Fault) (v2 : Fault × Int × Int) : Option ((Fault × Int × Int) ⊕ Bool) :=
  asrt (0 ≤ v2.2.1 ∧ v2.2.1 < (l.length : Int)) <|
  if (decide ((w64 ((w64 (v2.2.2 + ((lget l v2.2.1).length : Int))) + 6)) ≤ at0)) = true then
    asrt (0 ≤ v2.2.1 ∧ v2.2.1 < (l.length : Int)) <|
    some (Sum.inl (v2.1, w64 (v2.2.1 + 1), w64 ((w64 (v2.2.2 + ((lget l v2.2.1).length : Int))) + 6)))
  else
    inrO (law_WireTorn_J2 l at0 to0 x1 (v2.1, v2.2.1, v2.2.2))
noncomputable def law_WireTorn_L1 (l : List (List UInt8)) (at0 : Int) (to0 : UInt8) (x1 : List UInt8 × Fault) (v0 : Fault × Int × Int) : Option Bool :=
  loopO (fun y => law_WireTorn_B1 l at0 to0 x1 y) v0
noncomputable def law_WireTorn_J1 (l : List (List UInt8)) (cut : Int) (at0 : Int) (to0 : UInt8) (x1 : List UInt8 × Fault) (v : Fault × Int × Int) : Option Bool :=
  asrt (0 ≤ cut ∧ cut ≤ (x1.1.length : Int)) <|
  ob (wire_Open (ltake x1.1 cut)) fun x2 =>
  asrt ((!((!decide (x2.2.2.Code = 0)) || (!decide (x2.2.1 = v.2.2)))) = true → 0 ≤ v.2.1 ∧ v.2.1 ≤ (l.length : Int)) <|
  ob (if (!((!decide (x2.2.2.Code = 0)) || (!decide (x2.2.1 = v.2.2)))) = true then (R_SameBodies x2.1 (ltake l v.2.1)) else some default) fun x3 =>
  if (((!decide (x2.2.2.Code = 0)) || (!decide (x2.2.1 = v.2.2))) || (!x3)) = true then
    some false
  else
    asrt ((!((decide (at0 < 0)) || (decide ((x1.1.length : Int) ≤ at0)))) = true → 0 ≤ at0 ∧ at0 < (x1.1.length : Int)) <|
    asrt ((!((decide (at0 < 0)) || (decide ((x1.1.length : Int) ≤ at0)))) = true → 0 ≤ at0 ∧ at0 < (x1.1.length : Int)) <|
    if (((decide (at0 < 0)) || (decide ((x1.1.length : Int) ≤ at0))) || (decide (((lget x1.1 at0).toNat : Int) = (to0.toNat : Int)))) = true then
      some true
    else
      law_WireTorn_L1 l at0 to0 x1 (x2.2.2, 0, 0)
noncomputable def law_WireTorn_B2 (l : List (List UInt8)) (cut : Int) (at0 : Int) (to0 : UInt8) (x1 : List UInt8 × Fault) (v3 : Fault × Int × Int) : Option ((Fault × Int × Int) ⊕ Bool) :=
  asrt ((decide (v3.2.1 < (l.length : Int))) = true → 0 ≤ v3.2.1 ∧ v3.2.1 < (l.length : Int)) <|
  if ((decide (v3.2.1 < (l.length : Int))) && (decide ((w64 ((w64 (v3.2.2 + ((lget l v3.2.1).length : Int))) + 6)) ≤ cut))) = true then
    asrt (0 ≤ v3.2.1 ∧ v3.2.1 < (l.length : Int)) <|
    some (Sum.inl (v3.1, w64 (v3.2.1 + 1), w64 ((w64 (v3.2.2 + ((lget l v3.2.1).length : Int))) + 6)))
  else
    inrO (law_WireTorn_J1 l cut at0 to0 x1 (v3.1, v3.2.1, v3.2.2))
noncomputable def law_WireTorn_L2 (l : List (List UInt8)) (cut : Int) (at0 : Int) (to0 : UInt8) (x1 : List UInt8 × Fault) (v0 : Fault × Int × Int) : Option Bool :=
  loopO (fun y => law_WireTorn_B2 l cut at0 to0 x1 y) v0
noncomputable def law_WireTorn (l : List (List UInt8)) (cut : Int) (at0 : Int) (to0 : UInt8) : Option Bool :=
  ob (law_wireBegun) fun x =>
  if (!x) = true then
    some false
  else
    if (decide (200 < (l.length : Int))) = true then
      some true
    else
      ob (wire_Frames l) fun x1 =>
      if (((!decide (x1.2.Code = 0)) || (decide (cut < 0))) || (decide ((x1.1.length : Int) < cut))) = true then
        some true
      else
        law_WireTorn_L2 l cut at0 to0 x1 (x1.2, 0, 0)
theorem law_WireTorn_ok (l : List (List UInt8)) (cut : Int) (at0 : Int) (to0 : UInt8) (r : Bool) (hF : law_WireTorn l cut at0 to0 = some r) : Pe Try.prog 7 S.none [.sl 1 (l.map e_L_u8), .int .i64 cut, .int .i64 at0, .int .u8 ((to0).toNat : Int)] (.bool r) S.none := by
  refine Pe_of (N := 158) (res := [.tmp 8]) (ts := [4]) Ty.ok Fn.b7 Try.func7 rfl rfl rfl rfl rfl rfl ?_
  intro Q g hfin
  unfold law_WireTorn at hF
  refine Wk_seq ?_
  refine WR [] [0, 1, 2, 3] [] [] [] [] [] ⟨[(0, .sl 1 (l.map e_L_u8)), (1, .int .i64 cut), (2, .int .i64 at0), (3, .int .u8 ((to0).toNat : Int))], [], [], [], []⟩ .nil (by kernel_rfl) ?_
  refine Wk_seq ?_
  refine Wk_seq ?_
  obtain ⟨x, h0, hF⟩ := ob_elim hF
  refine WR [.callB (.bool x)] [0, 1, 2, 3, 19] [] [] [] [] [] ⟨[(0, .sl 1 (l.map e_L_u8)), (1, .int .i64 cut), (2, .int .i64 at0), (3, .int .u8 ((to0).toNat : Int)), (19, .bool (!x))], [], [], [], []⟩ (.cons (law_wireBegun_ok  x h0) .nil) (by kernel_rfl) ?_
  refine Wk_split rfl (fun hb => ?_) (fun hb => ?_)
  · have hF := ite_t hF hb
    refine Wk_seq ?_
    refine WR [] [8] [] [] [] [] [] ⟨[(8, .bool false)], [], [], [], []⟩ .nil (by kernel_rfl) ?_
    have hF := some_elim hF
    exact Wk_ret (hfin _ ⟨[], [], [], [], [], [], by first | (rw [← hF]; kernel_rfl) | kernel_rfl⟩)
  · have hF := ite_f hF hb
    refine Wk_skip ?_
    refine Wk_seq ?_
    refine Wk_seq ?_
    refine WR [.nat (l.length : Int)] [0, 1, 2, 3, 22] [] [] [] [] [] ⟨[(0, .sl 1 (l.map e_L_u8)), (1, .int .i64 cut), (2, .int .i64 at0), (3, .int .u8 ((to0).toNat : Int)), (22, .bool (decide (200 < (l.length : Int))))], [], [], [], []⟩ (.cons (len_ok e_L_u8 l) .nil) (by kernel_rfl) ?_
    refine Wk_split rfl (fun hb => ?_) (fun hb => ?_)
    · have hF := ite_t hF hb
      refine Wk_seq ?_
      refine WR [] [8] [] [] [] [] [] ⟨[(8, .bool true)], [], [], [], []⟩ .nil (by kernel_rfl) ?_
      have hF := some_elim hF
      exact Wk_ret (hfin _ ⟨[], [], [], [], [], [], by first | (rw [← hF]; kernel_rfl) | kernel_rfl⟩)
    · have hF := ite_f hF hb
      refine Wk_skip ?_
      refine Wk_seq ?_
      obtain ⟨x1, h1, hF⟩ := ob_elim hF
      refine WR [.callE [] [] [] [] (.tup [.row 25 0, .agg [.int .i64 x1.2.Code, .int .i64 x1.2.At]]) ⟨[], [], [(25, ⟨5, 1, 0, (x1.1.map e_u8).length, 0, true, 0, [], (x1.1.map e_u8)⟩)], [], []⟩] [0, 1, 2, 3, 9, 10] [10] [25] [] [] [] ⟨[(0, .sl 1 (l.map e_L_u8)), (1, .int .i64 cut), (2, .int .i64 at0), (3, .int .u8 ((to0).toNat : Int)), (9, .row 25 0), (10, .ptr 10 0)], [(10, [.int .i64 x1.2.Code, .int .i64 x1.2.At])], [(25, ⟨5, 1, 0, (x1.1.map e_u8).length, 0, true, 0, [], (x1.1.map e_u8)⟩)], [], []⟩ (.cons (Pe.ren (wire_Frames_ok l x1 h1) ⟨[], [(27, 25)], [], []⟩) .nil) (by kernel_rfl) ?_
      refine Wk_seq ?_
      refine Wk_seq ?_
      refine WR [.nat (x1.1.length : Int)] [0, 1, 2, 3, 9, 10, 40] [10] [25] [] [] [] ⟨[(0, .sl 1 (l.map e_L_u8)), (1, .int .i64 cut), (2, .int .i64 at0), (3, .int .u8 ((to0).toNat : Int)), (9, .row 25 0), (10, .ptr 10 0), (40, .bool (((!decide (x1.2.Code = 0)) || (decide (cut < 0))) || (decide ((x1.1.length : Int) < cut))))], [(10, [.int .i64 x1.2.Code, .int .i64 x1.2.At])], [(25, ⟨5, 1, 0, (x1.1.map e_u8).length, 0, true, 0, [], (x1.1.map e_u8)⟩)], [], []⟩ (.cons (fun (_ : (!((!decide (x1.2.Code = 0)) || (decide (cut < 0)))) = true) => (len_ok e_u8 x1.1)) .nil) (by kernel_rfl) ?_
      refine Wk_split rfl (fun hb => ?_) (fun hb => ?_)
      · have hF := ite_t hF hb
        refine Wk_seq ?_
        refine WR [] [8] [] [] [] [] [] ⟨[(8, .bool true)], [], [], [], []⟩ .nil (by kernel_rfl) ?_
        have hF := some_elim hF
        exact Wk_ret (hfin _ ⟨[], [], [], [], [], [], by first | (rw [← hF]; kernel_rfl) | kernel_rfl⟩)
      · have hF := ite_f hF hb
        refine Wk_skip ?_
        refine Wk_seq ?_
        refine WR [] [0, 1, 2, 3, 9, 10, 11, 12] [10] [25] [] [] [] ⟨[(0, .sl 1 (l.map e_L_u8)), (1, .int .i64 cut), (2, .int .i64 at0), (3, .int .u8 ((to0).toNat : Int)), (9, .row 25 0), (10, .ptr 10 0), (11, .int .i64 0), (12, .int .i64 0)], [(10, [.int .i64 x1.2.Code, .int .i64 x1.2.At])], [(25, ⟨5, 1, 0, (x1.1.map e_u8).length, 0, true, 0, [], (x1.1.map e_u8)⟩)], [], []⟩ .nil (by kernel_rfl) ?_
        refine Wk_seq ?_
        refine Wk_meetP (fun v : Fault × Int × Int => (⟨[(0, .sl 1 (l.map e_L_u8)), (1, .int .i64 cut), (2, .int .i64 at0), (3, .int .u8 ((to0).toNat : Int)), (9, .row 25 0), (10, .ptr 10 0), (11, .int .i64 v.2.1), (12, .int .i64 v.2.2)], [(10, [.int .i64 v.1.Code, .int .i64 v.1.At])], [(25, ⟨5, 1, 0, (x1.1.map e_u8).length, 0, true, 0, [], (x1.1.map e_u8)⟩)], [], []⟩ : S)) (fun v => law_WireTorn_J1 l cut at0 to0 x1 v = some r) ?_ ?_
        · refine Wk_block ?_
          unfold law_WireTorn_L2 at hF
          refine Wk_trim (fs := [0, 1, 2, 3, 9, 10, 11, 12]) (bs := [10]) (rs := [25]) (ms := []) (aa := []) (nv := []) (t := (fun v3 : Fault × Int × Int => (⟨[(0, .sl 1 (l.map e_L_u8)), (1, .int .i64 cut), (2, .int .i64 at0), (3, .int .u8 ((to0).toNat : Int)), (9, .row 25 0), (10, .ptr 10 0), (11, .int .i64 v3.2.1), (12, .int .i64 v3.2.2)], [(10, [.int .i64 v3.1.Code, .int .i64 v3.1.At])], [(25, ⟨5, 1, 0, (x1.1.map e_u8).length, 0, true, 0, [], (x1.1.map e_u8)⟩)], [], []⟩ : S)) (x1.2, 0, 0)) (by kernel_rfl) ?_
          refine Wk_iter (step := fun y => law_WireTorn_B2 l cut at0 to0 x1 y) (r := r) (fun v3 : Fault × Int × Int => (⟨[(0, .sl 1 (l.map e_L_u8)), (1, .int .i64 cut), (2, .int .i64 at0), (3, .int .u8 ((to0).toNat : Int)), (9, .row 25 0), (10, .ptr 10 0), (11, .int .i64 v3.2.1), (12, .int .i64 v3.2.2)], [(10, [.int .i64 v3.1.Code, .int .i64 v3.1.At])], [(25, ⟨5, 1, 0, (x1.1.map e_u8).length, 0, true, 0, [], (x1.1.map e_u8)⟩)], [], []⟩ : S)) (x1.2, 0, 0) hF ?_
          intro n1 v3 y1 hF ih1 dn1
          have hF : law_WireTorn_B2 l cut at0 to0 x1 v3 = some y1 := hF
          unfold law_WireTorn_B2 at hF
          refine Wk_seq ?_
          refine Wk_seq ?_
          obtain ⟨h16, hF⟩ := asrt_elim hF
          refine WR [.nat (l.length : Int), .av (e_L_u8 (lget l v3.2.1)), .nat ((lget l v3.2.1).length : Int)] [0, 1, 2, 3, 9, 10, 11, 12, 56] [10] [25] [] [] [] ⟨[(0, .sl 1 (l.map e_L_u8)), (1, .int .i64 cut), (2, .int .i64 at0), (3, .int .u8 ((to0).toNat : Int)), (9, .row 25 0), (10, .ptr 10 0), (11, .int .i64 v3.2.1), (12, .int .i64 v3.2.2), (56, .bool ((decide (v3.2.1 < (l.length : Int))) && (decide ((w64 ((w64 (v3.2.2 + ((lget l v3.2.1).length : Int))) + 6)) ≤ cut))))], [(10, [.int .i64 v3.1.Code, .int .i64 v3.1.At])], [(25, ⟨5, 1, 0, (x1.1.map e_u8).length, 0, true, 0, [], (x1.1.map e_u8)⟩)], [], []⟩ (.cons (len_ok e_L_u8 l) (.cons (fun (ga0 : (decide (v3.2.1 < (l.length : Int))) = true) => (idx_ok e_L_u8 (h16 ga0))) (.cons (fun (_ : (decide (v3.2.1 < (l.length : Int))) = true) => (len_ok e_u8 (lget l v3.2.1))) .nil))) (by kernel_rfl) ?_
          refine Wk_split rfl (fun hb => ?_) (fun hb => ?_)
          · have hF := ite_t hF hb
            refine Wk_skip ?_
            refine Wk_block ?_
            refine Wk_seq ?_
            obtain ⟨h17, hF⟩ := asrt_elim hF
            refine WR [.av (e_L_u8 (lget l v3.2.1)), .nat ((lget l v3.2.1).length : Int)] [0, 1, 2, 3, 9, 10, 11, 12] [10] [25] [] [] [] ⟨[(0, .sl 1 (l.map e_L_u8)), (1, .int .i64 cut), (2, .int .i64 at0), (3, .int .u8 ((to0).toNat : Int)), (9, .row 25 0), (10, .ptr 10 0), (11, .int .i64 v3.2.1), (12, .int .i64 (w64 ((w64 (v3.2.2 + ((lget l v3.2.1).length : Int))) + 6)))], [(10, [.int .i64 v3.1.Code, .int .i64 v3.1.At])], [(25, ⟨5, 1, 0, (x1.1.map e_u8).length, 0, true, 0, [], (x1.1.map e_u8)⟩)], [], []⟩ (.cons (idx_ok e_L_u8 h17) (.cons (len_ok e_u8 (lget l v3.2.1)) .nil)) (by kernel_rfl) ?_
            refine WR [] [0, 1, 2, 3, 9, 10, 11, 12] [10] [25] [] [] [] ⟨[(0, .sl 1 (l.map e_L_u8)), (1, .int .i64 cut), (2, .int .i64 at0), (3, .int .u8 ((to0).toNat : Int)), (9, .row 25 0), (10, .ptr 10 0), (11, .int .i64 (w64 (v3.2.1 + 1))), (12, .int .i64 (w64 ((w64 (v3.2.2 + ((lget l v3.2.1).length : Int))) + 6)))], [(10, [.int .i64 v3.1.Code, .int .i64 v3.1.At])], [(25, ⟨5, 1, 0, (x1.1.map e_u8).length, 0, true, 0, [], (x1.1.map e_u8)⟩)], [], []⟩ .nil (by kernel_rfl) ?_
            refine Wk_blk ?_
            refine Wk_trim (fs := [0, 1, 2, 3, 9, 10, 11, 12]) (bs := [10]) (rs := [25]) (ms := []) (aa := []) (nv := []) ?_ (ih1 _ (some_elim hF).symm)
            kernel_rfl
          · have hF := ite_f hF hb
            refine Wk_exit rfl ?_
            have hF := inrO_done hF dn1
            exact Wk_metP (v3.1, v3.2.1, v3.2.2) [0, 1, 2, 3, 9, 10, 11, 12] [10] [25] [] [] [] hF (by kernel_rfl)
        · intro v hF
          have hF : law_WireTorn_J1 l cut at0 to0 x1 v = some r := hF
          unfold law_WireTorn_J1 at hF
          refine Wk_seq ?_
          obtain ⟨h2, hF⟩ := asrt_elim hF
          obtain ⟨x2, h3, hF⟩ := ob_elim hF
          refine WR [.xs ((ltake x1.1 cut).map e_u8), .callE [] [] [] [] (.tup [.row 71 0, .int .i64 x2.2.1, .agg [.int .i64 x2.2.2.Code, .int .i64 x2.2.2.At]]) ⟨[], [], [(71, ⟨23, 1, 0, 0, 0, true, 0, [], (x2.1.map e_L_u8)⟩)], [], []⟩] [0, 2, 3, 9, 10, 11, 12, 13, 14] [10] [25, 71] [] [] [] ⟨[(0, .sl 1 (l.map e_L_u8)), (2, .int .i64 at0), (3, .int .u8 ((to0).toNat : Int)), (9, .row 25 0), (10, .ptr 10 0), (11, .int .i64 v.2.1), (12, .int .i64 v.2.2), (13, .row 71 0), (14, .int .i64 x2.2.1)], [(10, [.int .i64 x2.2.2.Code, .int .i64 x2.2.2.At])], [(25, ⟨5, 1, 0, (x1.1.map e_u8).length, 0, true, 0, [], (x1.1.map e_u8)⟩), (71, ⟨23, 1, 0, 0, 0, true, 0, [], (x2.1.map e_L_u8)⟩)], [], []⟩ (.cons (sl01_ok e_u8 h2) (.cons (Pe.ren (wire_Open_ok (ltake x1.1 cut) x2 h3) ⟨[], [(13, 71)], [], []⟩) .nil)) (by kernel_rfl) ?_
          refine Wk_seq ?_
          refine Wk_seq ?_
          obtain ⟨h4, hF⟩ := asrt_elim hF
          obtain ⟨x3, h5, hF⟩ := ob_elim hF
          refine WR [.xs ((ltake l v.2.1).map e_L_u8), .callB (.bool x3)] [0, 2, 3, 9, 10, 90] [10] [25] [] [] [] ⟨[(0, .sl 1 (l.map e_L_u8)), (2, .int .i64 at0), (3, .int .u8 ((to0).toNat : Int)), (9, .row 25 0), (10, .ptr 10 0), (90, .bool (((!decide (x2.2.2.Code = 0)) || (!decide (x2.2.1 = v.2.2))) || (!x3)))], [(10, [.int .i64 x2.2.2.Code, .int .i64 x2.2.2.At])], [(25, ⟨5, 1, 0, (x1.1.map e_u8).length, 0, true, 0, [], (x1.1.map e_u8)⟩)], [], []⟩ (.cons (fun (ga0 : (!((!decide (x2.2.2.Code = 0)) || (!decide (x2.2.1 = v.2.2)))) = true) => (sl01_ok e_L_u8 (h4 ga0))) (.cons (fun (ga0 : (!((!decide (x2.2.2.Code = 0)) || (!decide (x2.2.1 = v.2.2)))) = true) => (R_SameBodies_ok x2.1 (ltake l v.2.1) x3 (ite_t h5 ga0))) .nil)) (by kernel_rfl) ?_
          refine Wk_split rfl (fun hb => ?_) (fun hb => ?_)
          · have hF := ite_t hF hb
            refine Wk_seq ?_
            refine WR [] [8] [] [] [] [] [] ⟨[(8, .bool false)], [], [], [], []⟩ .nil (by kernel_rfl) ?_
            have hF := some_elim hF
            exact Wk_ret (hfin _ ⟨[], [], [], [], [], [], by first | (rw [← hF]; kernel_rfl) | kernel_rfl⟩)
          · have hF := ite_f hF hb
            refine Wk_skip ?_
            refine Wk_seq ?_
            refine Wk_seq ?_
            obtain ⟨h6, hF⟩ := asrt_elim hF
            obtain ⟨h7, hF⟩ := asrt_elim hF
            refine WR [.nat (x1.1.length : Int), .av (e_u8 (lget x1.1 at0))] [0, 2, 3, 9, 10, 106] [10] [25] [] [] [] ⟨[(0, .sl 1 (l.map e_L_u8)), (2, .int .i64 at0), (3, .int .u8 ((to0).toNat : Int)), (9, .row 25 0), (10, .ptr 10 0), (106, .bool (((decide (at0 < 0)) || (decide ((x1.1.length : Int) ≤ at0))) || (decide (((lget x1.1 at0).toNat : Int) = (to0.toNat : Int)))))], [(10, [.int .i64 x2.2.2.Code, .int .i64 x2.2.2.At])], [(25, ⟨5, 1, 0, (x1.1.map e_u8).length, 0, true, 0, [], (x1.1.map e_u8)⟩)], [], []⟩ (.cons (fun (_ : (!(decide (at0 < 0))) = true) => (len_ok e_u8 x1.1)) (.cons (fun (ga0 : (!((decide (at0 < 0)) || (decide ((x1.1.length : Int) ≤ at0)))) = true) => (ixr_ok e_u8 (h6 ga0))) (.cons (fun (ga0 : (!((decide (at0 < 0)) || (decide ((x1.1.length : Int) ≤ at0)))) = true) => (ldr_ok e_u8 (h7 ga0))) .nil))) (by kernel_rfl) ?_
            refine Wk_split rfl (fun hb => ?_) (fun hb => ?_)
            · have hF := ite_t hF hb
              refine Wk_seq ?_
              refine WR [] [8] [] [] [] [] [] ⟨[(8, .bool true)], [], [], [], []⟩ .nil (by kernel_rfl) ?_
              have hF := some_elim hF
              exact Wk_ret (hfin _ ⟨[], [], [], [], [], [], by first | (rw [← hF]; kernel_rfl) | kernel_rfl⟩)
            · have hF := ite_f hF hb
              refine Wk_skip ?_
              refine Wk_seq ?_
              refine WR [] [0, 2, 3, 9, 10, 15, 16] [10] [25] [] [] [] ⟨[(0, .sl 1 (l.map e_L_u8)), (2, .int .i64 at0), (3, .int .u8 ((to0).toNat : Int)), (9, .row 25 0), (10, .ptr 10 0), (15, .int .i64 0), (16, .int .i64 0)], [(10, [.int .i64 x2.2.2.Code, .int .i64 x2.2.2.At])], [(25, ⟨5, 1, 0, (x1.1.map e_u8).length, 0, true, 0, [], (x1.1.map e_u8)⟩)], [], []⟩ .nil (by kernel_rfl) ?_
              refine Wk_seq ?_
              refine Wk_meetP (fun v1 : Fault × Int × Int => (⟨[(0, .sl 1 (l.map e_L_u8)), (2, .int .i64 at0), (3, .int .u8 ((to0).toNat : Int)), (9, .row 25 0), (10, .ptr 10 0), (15, .int .i64 v1.2.1), (16, .int .i64 v1.2.2)], [(10, [.int .i64 v1.1.Code, .int .i64 v1.1.At])], [(25, ⟨5, 1, 0, (x1.1.map e_u8).length, 0, true, 0, [], (x1.1.map e_u8)⟩)], [], []⟩ : S)) (fun v1 => law_WireTorn_J2 l at0 to0 x1 v1 = some r) ?_ ?_
              · refine Wk_block ?_
                unfold law_WireTorn_L1 at hF
                refine Wk_trim (fs := [0, 2, 3, 9, 10, 15, 16]) (bs := [10]) (rs := [25]) (ms := []) (aa := []) (nv := []) (t := (fun v2 : Fault × Int × Int => (⟨[(0, .sl 1 (l.map e_L_u8)), (2, .int .i64 at0), (3, .int .u8 ((to0).toNat : Int)), (9, .row 25 0), (10, .ptr 10 0), (15, .int .i64 v2.2.1), (16, .int .i64 v2.2.2)], [(10, [.int .i64 v2.1.Code, .int .i64 v2.1.At])], [(25, ⟨5, 1, 0, (x1.1.map e_u8).length, 0, true, 0, [], (x1.1.map e_u8)⟩)], [], []⟩ : S)) (x2.2.2, 0, 0)) (by kernel_rfl) ?_
                refine Wk_iter (step := fun y => law_WireTorn_B1 l at0 to0 x1 y) (r := r) (fun v2 : Fault × Int × Int => (⟨[(0, .sl 1 (l.map e_L_u8)), (2, .int .i64 at0), (3, .int .u8 ((to0).toNat : Int)), (9, .row 25 0), (10, .ptr 10 0), (15, .int .i64 v2.2.1), (16, .int .i64 v2.2.2)], [(10, [.int .i64 v2.1.Code, .int .i64 v2.1.At])], [(25, ⟨5, 1, 0, (x1.1.map e_u8).length, 0, true, 0, [], (x1.1.map e_u8)⟩)], [], []⟩ : S)) (x2.2.2, 0, 0) hF ?_
                intro n1 v2 y1 hF ih1 dn1
                have hF : law_WireTorn_B1 l at0 to0 x1 v2 = some y1 := hF
                unfold law_WireTorn_B1 at hF
                refine Wk_seq ?_
                refine Wk_seq ?_
                obtain ⟨h14, hF⟩ := asrt_elim hF
                refine WR [.av (e_L_u8 (lget l v2.2.1)), .nat ((lget l v2.2.1).length : Int)] [0, 2, 3, 9, 10, 15, 16, 116] [10] [25] [] [] [] ⟨[(0, .sl 1 (l.map e_L_u8)), (2, .int .i64 at0), (3, .int .u8 ((to0).toNat : Int)), (9, .row 25 0), (10, .ptr 10 0), (15, .int .i64 v2.2.1), (16, .int .i64 v2.2.2), (116, .bool (decide ((w64 ((w64 (v2.2.2 + ((lget l v2.2.1).length : Int))) + 6)) ≤ at0)))], [(10, [.int .i64 v2.1.Code, .int .i64 v2.1.At])], [(25, ⟨5, 1, 0, (x1.1.map e_u8).length, 0, true, 0, [], (x1.1.map e_u8)⟩)], [], []⟩ (.cons (idx_ok e_L_u8 h14) (.cons (len_ok e_u8 (lget l v2.2.1)) .nil)) (by kernel_rfl) ?_
                refine Wk_split rfl (fun hb => ?_) (fun hb => ?_)
                · have hF := ite_t hF hb
                  refine Wk_skip ?_
                  refine Wk_block ?_
                  refine Wk_seq ?_
                  obtain ⟨h15, hF⟩ := asrt_elim hF
                  refine WR [.av (e_L_u8 (lget l v2.2.1)), .nat ((lget l v2.2.1).length : Int)] [0, 2, 3, 9, 10, 15, 16] [10] [25] [] [] [] ⟨[(0, .sl 1 (l.map e_L_u8)), (2, .int .i64 at0), (3, .int .u8 ((to0).toNat : Int)), (9, .row 25 0), (10, .ptr 10 0), (15, .int .i64 v2.2.1), (16, .int .i64 (w64 ((w64 (v2.2.2 + ((lget l v2.2.1).length : Int))) + 6)))], [(10, [.int .i64 v2.1.Code, .int .i64 v2.1.At])], [(25, ⟨5, 1, 0, (x1.1.map e_u8).length, 0, true, 0, [], (x1.1.map e_u8)⟩)], [], []⟩ (.cons (idx_ok e_L_u8 h15) (.cons (len_ok e_u8 (lget l v2.2.1)) .nil)) (by kernel_rfl) ?_
                  refine WR [] [0, 2, 3, 9, 10, 15, 16] [10] [25] [] [] [] ⟨[(0, .sl 1 (l.map e_L_u8)), (2, .int .i64 at0), (3, .int .u8 ((to0).toNat : Int)), (9, .row 25 0), (10, .ptr 10 0), (15, .int .i64 (w64 (v2.2.1 + 1))), (16, .int .i64 (w64 ((w64 (v2.2.2 + ((lget l v2.2.1).length : Int))) + 6)))], [(10, [.int .i64 v2.1.Code, .int .i64 v2.1.At])], [(25, ⟨5, 1, 0, (x1.1.map e_u8).length, 0, true, 0, [], (x1.1.map e_u8)⟩)], [], []⟩ .nil (by kernel_rfl) ?_
                  refine Wk_blk ?_
                  refine Wk_trim (fs := [0, 2, 3, 9, 10, 15, 16]) (bs := [10]) (rs := [25]) (ms := []) (aa := []) (nv := []) ?_ (ih1 _ (some_elim hF).symm)
                  kernel_rfl
                · have hF := ite_f hF hb
                  refine Wk_exit rfl ?_
                  have hF := inrO_done hF dn1
                  exact Wk_metP (v2.1, v2.2.1, v2.2.2) [0, 2, 3, 9, 10, 15, 16] [10] [25] [] [] [] hF (by kernel_rfl)
              · intro v1 hF
                have hF : law_WireTorn_J2 l at0 to0 x1 v1 = some r := hF
                unfold law_WireTorn_J2 at hF
                refine Wk_seq ?_
                refine Wk_seq ?_
                refine WR [] [0, 2, 3, 9, 10, 15, 16, 130] [10] [25] [] [] [] ⟨[(0, .sl 1 (l.map e_L_u8)), (2, .int .i64 at0), (3, .int .u8 ((to0).toNat : Int)), (9, .row 25 0), (10, .ptr 10 0), (15, .int .i64 v1.2.1), (16, .int .i64 v1.2.2), (130, .bool (decide (at0 < (w64 (v1.2.2 + 2)))))], [(10, [.int .i64 v1.1.Code, .int .i64 v1.1.At])], [(25, ⟨5, 1, 0, (x1.1.map e_u8).length, 0, true, 0, [], (x1.1.map e_u8)⟩)], [], []⟩ .nil (by kernel_rfl) ?_
                refine Wk_split rfl (fun hb => ?_) (fun hb => ?_)
                · have hF := ite_t hF hb
                  refine Wk_seq ?_
                  refine WR [] [8] [] [] [] [] [] ⟨[(8, .bool true)], [], [], [], []⟩ .nil (by kernel_rfl) ?_
                  have hF := some_elim hF
                  exact Wk_ret (hfin _ ⟨[], [], [], [], [], [], by first | (rw [← hF]; kernel_rfl) | kernel_rfl⟩)
                · have hF := ite_f hF hb
                  refine Wk_skip ?_
                  refine Wk_seq ?_
                  obtain ⟨x4, h8, hF⟩ := ob_elim hF
                  refine WR [.callE [] [] [] [] (.row 132 1) ⟨[], [], [(132, ⟨5, 1, 1, 0, 0, true, 0, [], (x4.map e_u8)⟩)], [], []⟩] [0, 2, 3, 10, 15, 16, 17] [10] [132] [] [] [] ⟨[(0, .sl 1 (l.map e_L_u8)), (2, .int .i64 at0), (3, .int .u8 ((to0).toNat : Int)), (10, .ptr 10 0), (15, .int .i64 v1.2.1), (16, .int .i64 v1.2.2), (17, .row 132 1)], [(10, [.int .i64 v1.1.Code, .int .i64 v1.1.At])], [(132, ⟨5, 1, 1, 0, 0, true, 0, [], (x4.map e_u8)⟩)], [], []⟩ (.cons (Pe.ren (law_ownBytes_ok x1.1 x4 h8) ⟨[], [(4, 132)], [], []⟩) .nil) (by kernel_rfl) ?_
                  refine Wk_seq ?_
                  obtain ⟨h9, hF⟩ := asrt_elim hF
                  obtain ⟨h10, hF⟩ := asrt_elim hF
                  refine WR [.av (e_u8 (lget x4 at0)), .xs ((lset x4 at0 to0).map e_u8)] [0, 10, 15, 16, 17] [10] [132] [] [] [] ⟨[(0, .sl 1 (l.map e_L_u8)), (10, .ptr 10 0), (15, .int .i64 v1.2.1), (16, .int .i64 v1.2.2), (17, .row 132 1)], [(10, [.int .i64 v1.1.Code, .int .i64 v1.1.At])], [(132, ⟨5, 1, 1, 0, 0, true, 0, [], ((lset x4 at0 to0).map e_u8)⟩)], [], []⟩ (.cons (ixr_ok e_u8 h9) (.cons (ldr_ok e_u8 h10) (.cons (set_ok e_u8 x4 at0 to0) (.cons (Nat.zero_le at0.toNat) .nil)))) (by kernel_rfl) ?_
                  refine Wk_seq ?_
                  obtain ⟨x5, h11, hF⟩ := ob_elim hF
                  refine WR [.callE [] [] [] [] (.tup [.row 139 0, .int .i64 x5.2.1, .agg [.int .i64 x5.2.2.Code, .int .i64 x5.2.2.At]]) ⟨[], [], [(139, ⟨23, 1, 0, 0, 0, true, 0, [], (x5.1.map e_L_u8)⟩)], [], []⟩] [0, 10, 13, 14, 15, 16] [10] [139] [] [] [] ⟨[(0, .sl 1 (l.map e_L_u8)), (10, .ptr 10 0), (13, .row 139 0), (14, .int .i64 x5.2.1), (15, .int .i64 v1.2.1), (16, .int .i64 v1.2.2)], [(10, [.int .i64 x5.2.2.Code, .int .i64 x5.2.2.At])], [(139, ⟨23, 1, 0, 0, 0, true, 0, [], (x5.1.map e_L_u8)⟩)], [], []⟩ (.cons (Pe.ren (wire_Open_ok (lset x4 at0 to0) x5 h11) ⟨[], [(13, 139)], [], []⟩) .nil) (by kernel_rfl) ?_
                  refine Wk_seq ?_
                  obtain ⟨h12, hF⟩ := asrt_elim hF
                  obtain ⟨x6, h13, hF⟩ := ob_elim hF
                  refine WR [.xs ((ltake l v1.2.1).map e_L_u8), .callB (.bool x6)] [8] [] [] [] [] [] ⟨[(8, .bool (((decide (x5.2.2.Code = 0)) && (decide (x5.2.1 = v1.2.2))) && x6))], [], [], [], []⟩ (.cons (fun (ga0 : ((decide (x5.2.2.Code = 0)) && (decide (x5.2.1 = v1.2.2))) = true) => (sl01_ok e_L_u8 (h12 ga0))) (.cons (fun (ga0 : ((decide (x5.2.2.Code = 0)) && (decide (x5.2.1 = v1.2.2))) = true) => (R_SameBodies_ok x5.1 (ltake l v1.2.1) x6 (ite_t h13 ga0))) .nil)) (by kernel_rfl) ?_
                  have hF := some_elim hF
                  exact Wk_ret (hfin _ ⟨[], [], [], [], [], [], by first | (rw [← hF]; kernel_rfl) | kernel_rfl⟩)

/- wire.Sum -/
noncomputable def wire_Sum (b : List UInt8) : Option (Int × Fault) :=
  if (decide (60000 < (b.length : Int))) = true then
    lt (wire_fault 8 0) fun x =>
    some (0, x)
  else
    ob (wire_Crc b) fun x1 =>
    some (x1, (⟨0, 0⟩ : Fault))
theorem wire_Sum_ok (b : List UInt8) (r : Int × Fault) (hF : wire_Sum b = some r) : Pe Try.prog 36 S.none [.sl 1 (b.map e_u8)] (.tup [.int .u32 r.1, .agg [.int .i64 r.2.Code, .int .i64 r.2.At]]) S.none := by
  refine Pe_of (N := 11) (res := [.tmp 2, .cell 3 26]) (ts := [65, 26]) Ty.ok Fn.b36 Try.func36 rfl rfl rfl rfl rfl rfl ?_
  intro Q g hfin
  unfold wire_Sum at hF
  refine Wk_seq ?_
  refine WR [] [0, 3] [3] [] [] [] [] ⟨[(0, .sl 1 (b.map e_u8)), (3, .ptr 3 0)], [(3, [.int .i64 0, .int .i64 0])], [], [], []⟩ .nil (by kernel_rfl) ?_
  refine Wk_seq ?_
  refine Wk_seq ?_
  refine WR [.nat (b.length : Int)] [0, 3, 6] [3] [] [] [] [] ⟨[(0, .sl 1 (b.map e_u8)), (3, .ptr 3 0), (6, .bool (decide (60000 < (b.length : Int))))], [(3, [.int .i64 0, .int .i64 0])], [], [], []⟩ (.cons (len_ok e_u8 b) .nil) (by kernel_rfl) ?_
  refine Wk_split rfl (fun hb => ?_) (fun hb => ?_)
  · have hF := ite_t hF hb
    refine Wk_seq ?_
    obtain ⟨x, h0, hF⟩ := lt_split hF
    refine WR [.callB (.agg [.int .i64 x.Code, .int .i64 x.At])] [2, 3] [3] [] [] [] [] ⟨[(2, .int .u32 0), (3, .ptr 3 0)], [(3, [.int .i64 x.Code, .int .i64 x.At])], [], [], []⟩ (.cons (wire_fault_ok 8 0 x h0) .nil) (by kernel_rfl) ?_
    have hF := some_elim hF
    exact Wk_ret (hfin _ ⟨[], [], [], [], [], [], by first | (rw [← hF]; kernel_rfl) | kernel_rfl⟩)
  · have hF := ite_f hF hb
    refine Wk_skip ?_
    refine Wk_seq ?_
    obtain ⟨x1, h1, hF⟩ := ob_elim hF
    refine WR [.callB (.int .u32 x1)] [2, 3] [3] [] [] [] [] ⟨[(2, .int .u32 x1), (3, .ptr 3 0)], [(3, [.int .i64 0, .int .i64 0])], [], [], []⟩ (.cons (wire_Crc_ok b x1 h1) .nil) (by kernel_rfl) ?_
    have hF := some_elim hF
    exact Wk_ret (hfin _ ⟨[], [], [], [], [], [], by first | (rw [← hF]; kernel_rfl) | kernel_rfl⟩)

/- tabularylaw.ownBodies -/
noncomputable def law_ownBodies_v1_J1 (v : List (List UInt8)) : Option (List (List UInt8)) :=
  some v
noncomputable def law_ownBodies_v1_B1 (l : List (List UInt8)) (v1 : List (List UInt8) × Int) : Option ((List (List UInt8) × Int) ⊕ (List (List UInt8))) :=
  if (decide (v1.2 < (l.length : Int))) = true then
    asrt (0 ≤ v1.2 ∧ v1.2 < (l.length : Int)) <|
    ob (law_ownBytes_v1 (lget l v1.2)) fun x =>
    asrt (((v1.1 ++ ([x] : List (List UInt8))).length : Int) * 24 ≤ 140737488351232) <|
    some (Sum.inl ((v1.1 ++ ([x] : List (List UInt8))), w64 (v1.2 + 1)))
  else
    inrO (law_ownBodies_v1_J1 v1.1)
noncomputable def law_ownBodies_v1_L1 (l : List (List UInt8)) (v0 : List (List UInt8) × Int) : Option (List (List UInt8)) :=
  loopO (fun y => law_ownBodies_v1_B1 l y) v0
noncomputable def law_ownBodies_v1 (l : List (List UInt8)) : Option (List (List UInt8)) :=
  law_ownBodies_v1_L1 l (([] : List (List UInt8)), 0)
theorem law_ownBodies_v1_ok (l : List (List UInt8)) (r : List (List UInt8)) (hF : law_ownBodies_v1 l = some r) : Pe Try.prog 37 S.none [.sl 1 (l.map e_L_u8)] (.sl 1 (r.map e_L_u8)) S.none := by
  refine Pe_of (N := 20) (res := [.tmp 2]) (ts := [41]) Ty.ok Fn.b37 Try.func37 rfl rfl rfl rfl rfl rfl ?_
  intro Q g hfin
  unfold law_ownBodies_v1 at hF
  refine Wk_seq ?_
  refine WR [] [0] [] [] [] [] [] ⟨[(0, .sl 1 (l.map e_L_u8))], [], [], [], []⟩ .nil (by kernel_rfl) ?_
  refine Wk_seq ?_
  refine WR [] [0, 3] [] [] [] [] [] ⟨[(0, .sl 1 (l.map e_L_u8)), (3, .nils)], [], [], [], []⟩ .nil (by kernel_rfl) ?_
  refine Wk_seq ?_
  refine Wk_seq ?_
  refine WR [] [0, 3, 4] [] [] [] [] [] ⟨[(0, .sl 1 (l.map e_L_u8)), (3, .nils), (4, .int .i64 0)], [], [], [], []⟩ .nil (by kernel_rfl) ?_
  refine Wk_meetP (fun v : List (List UInt8) => (⟨[(3, .row 18 0)], [], [(18, ⟨23, 1, 0, 0, 0, true, 0, [], (v.map e_L_u8)⟩)], [], []⟩ : S)) (fun v => law_ownBodies_v1_J1 v = some r) ?_ ?_
  · refine Wk_block ?_
    unfold law_ownBodies_v1_L1 at hF
    refine Wk_nilrow 3 60000 23 1 rfl rfl rfl ?_
    refine Wk_trim (fs := [0, 3, 4]) (bs := []) (rs := [60000]) (ms := []) (aa := []) (nv := []) rfl ?_
    refine Wk_ren' ⟨[], [(60000, 18)], [], []⟩ rfl ?_
    refine Wk_trim (fs := [0, 3, 4]) (bs := []) (rs := [18]) (ms := []) (aa := []) (nv := []) (t := (fun v1 : List (List UInt8) × Int => (⟨[(0, .sl 1 (l.map e_L_u8)), (3, .row 18 0), (4, .int .i64 v1.2)], [], [(18, ⟨23, 1, 0, 0, 0, true, 0, [], (v1.1.map e_L_u8)⟩)], [], []⟩ : S)) (([] : List (List UInt8)), 0)) (by kernel_rfl) ?_
    refine Wk_iter (step := fun y => law_ownBodies_v1_B1 l y) (r := r) (fun v1 : List (List UInt8) × Int => (⟨[(0, .sl 1 (l.map e_L_u8)), (3, .row 18 0), (4, .int .i64 v1.2)], [], [(18, ⟨23, 1, 0, 0, 0, true, 0, [], (v1.1.map e_L_u8)⟩)], [], []⟩ : S)) (([] : List (List UInt8)), 0) hF ?_
    intro n1 v1 y1 hF ih1 dn1
    have hF : law_ownBodies_v1_B1 l v1 = some y1 := hF
    unfold law_ownBodies_v1_B1 at hF
    refine Wk_seq ?_
    refine Wk_seq ?_
    refine WR [.nat (l.length : Int)] [0, 3, 4, 8] [] [18] [] [] [] ⟨[(0, .sl 1 (l.map e_L_u8)), (3, .row 18 0), (4, .int .i64 v1.2), (8, .bool (decide (v1.2 < (l.length : Int))))], [], [(18, ⟨23, 1, 0, 0, 0, true, 0, [], (v1.1.map e_L_u8)⟩)], [], []⟩ (.cons (len_ok e_L_u8 l) .nil) (by kernel_rfl) ?_
    refine Wk_split rfl (fun hb => ?_) (fun hb => ?_)
    · have hF := ite_t hF hb
      refine Wk_skip ?_
      refine Wk_seq ?_
      refine Wk_block ?_
      obtain ⟨h0, hF⟩ := asrt_elim hF
      obtain ⟨x, h1, hF⟩ := ob_elim hF
      obtain ⟨h2, hF⟩ := asrt_elim hF
      refine WR [.av (e_L_u8 (lget l v1.2)), .call (.sl 1 (x.map e_u8)), .sealed, .xs ((v1.1 ++ ([x] : List (List UInt8))).map e_L_u8)] [0, 3, 4] [] [18] [] [] [] ⟨[(0, .sl 1 (l.map e_L_u8)), (3, .row 18 1), (4, .int .i64 v1.2)], [], [(18, ⟨23, 1, 1, 0, 0, true, 0, [], ((v1.1 ++ ([x] : List (List UInt8))).map e_L_u8)⟩)], [], []⟩ (.cons (idx_ok e_L_u8 h0) (.cons (law_ownBytes_v1_ok (lget l v1.2) x h1) (.cons (app_ok e_L_u8 v1.1 ([x] : List (List UInt8))) (.cons (appl_ok e_L_u8 h2) .nil)))) (by kernel_rfl) ?_
      refine Wk_blk ?_
      refine WR [] [0, 3, 4] [] [18] [] [] [] ⟨[(0, .sl 1 (l.map e_L_u8)), (3, .row 18 1), (4, .int .i64 (w64 (v1.2 + 1)))], [], [(18, ⟨23, 1, 1, 0, 0, true, 0, [], ((v1.1 ++ ([x] : List (List UInt8))).map e_L_u8)⟩)], [], []⟩ .nil (by kernel_rfl) ?_
      refine Wk_trim (fs := [0, 3, 4]) (bs := []) (rs := [18]) (ms := []) (aa := []) (nv := [(18, ⟨0, true, true, false⟩)]) ?_ (ih1 _ (some_elim hF).symm)
      kernel_rfl
    · have hF := ite_f hF hb
      refine Wk_exit rfl ?_
      have hF := inrO_done hF dn1
      exact Wk_metP v1.1 [3] [] [18] [] [] [] hF (by kernel_rfl)
  · intro v hF
    have hF : law_ownBodies_v1_J1 v = some r := hF
    unfold law_ownBodies_v1_J1 at hF
    refine Wk_seq ?_
    refine WR [] [2] [] [18] [] [] [] ⟨[(2, .row 18 0)], [], [(18, ⟨23, 1, 0, 0, 0, true, 0, [], (v.map e_L_u8)⟩)], [], []⟩ .nil (by kernel_rfl) ?_
    have hF := some_elim hF
    exact Wk_ret (hfin _ ⟨[], [], [], [], [], [], by first | (rw [← hF]; kernel_rfl) | kernel_rfl⟩)

/- tabularyref.Rest -/
noncomputable def R_Rest_J1 (v : Int) : Option Int :=
  some (IntKind.u32.wrap (4294967295 - v))
noncomputable def R_Rest_J2 (v1 : Int × Int) (v2 : Int) : Option ((Int × Int) ⊕ Int) :=
  some (Sum.inl (v2, w64 (v1.2 + 1)))
noncomputable def R_Rest_B2 (b : List UInt8) (v1 : Int × Int) (v3 : Int × Int) : Option ((Int × Int) ⊕ ((Int × Int) ⊕ Int)) :=
  if (decide (v3.2 < 8)) = true then
    asrt (0 ≤ v1.2 ∧ v1.2 < (b.length : Int)) <|
    asrt (0 ≤ v3.2) <|
    lt (Int.tmod (IntKind.u32.wrap ((toU8 (Int.fdiv ((lget b v1.2).toNat : Int) (2 ^ (min v3.2.toNat 8)))).toNat : Int)) 2) fun (v4 : Int) =>
    ob (
      if (decide ((Int.tmod (IntKind.u32.wrap (v3.1 + v4)) 2) = 1)) = true then
        some (bitsOp .xor .u32 (IntKind.u32.wrap (Int.tdiv v3.1 2)) 3988292384)
      else
        some (IntKind.u32.wrap (Int.tdiv v3.1 2))) fun (v5 : Int) =>
    some (Sum.inl (v5, w64 (v3.2 + 1)))
  else
    inrO (R_Rest_J2 v1 v3.1)
noncomputable def R_Rest_L2 (b : List UInt8) (v1 : Int × Int) (v0 : Int × Int) : Option ((Int × Int) ⊕ Int) :=
  loopO (fun y => R_Rest_B2 b v1 y) v0
noncomputable def R_Rest_B1 (b : List UInt8) (v1 : Int × Int) : Option ((Int × Int) ⊕ Int) :=
  if (decide (v1.2 < (b.length : Int))) = true then
    R_Rest_L2 b v1 (v1.1, 0)
  else
    inrO (R_Rest_J1 v1.1)
noncomputable def R_Rest_L1 (b : List UInt8) (v0 : Int × Int) : Option Int :=
  loopO (fun y => R_Rest_B1 b y) v0
noncomputable def R_Rest (b : List UInt8) : Option Int :=
  R_Rest_L1 b (4294967295, 0)
theorem R_Rest_ok (b : List UInt8) (r : Int) (hF : R_Rest b = some r) : Pe Try.prog 38 S.none [.sl 1 (b.map e_u8)] (.int .u32 r) S.none := by
  refine Pe_of (N := 38) (res := [.tmp 2]) (ts := [65]) Ty.ok Fn.b38 Try.func38 rfl rfl rfl rfl rfl rfl ?_
  intro Q g hfin
  unfold R_Rest at hF
  refine Wk_seq ?_
  refine WR [] [0] [] [] [] [] [] ⟨[(0, .sl 1 (b.map e_u8))], [], [], [], []⟩ .nil (by kernel_rfl) ?_
  refine Wk_seq ?_
  refine WR [] [0, 3] [] [] [] [] [] ⟨[(0, .sl 1 (b.map e_u8)), (3, .int .u32 4294967295)], [], [], [], []⟩ .nil (by kernel_rfl) ?_
  refine Wk_seq ?_
  refine Wk_seq ?_
  refine WR [] [0, 3, 4] [] [] [] [] [] ⟨[(0, .sl 1 (b.map e_u8)), (3, .int .u32 4294967295), (4, .int .i64 0)], [], [], [], []⟩ .nil (by kernel_rfl) ?_
  refine Wk_meetP (fun v : Int => (⟨[(3, .int .u32 v)], [], [], [], []⟩ : S)) (fun v => R_Rest_J1 v = some r) ?_ ?_
  · refine Wk_block ?_
    unfold R_Rest_L1 at hF
    refine Wk_trim (fs := [0, 3, 4]) (bs := []) (rs := []) (ms := []) (aa := []) (nv := []) (t := (fun v1 : Int × Int => (⟨[(0, .sl 1 (b.map e_u8)), (3, .int .u32 v1.1), (4, .int .i64 v1.2)], [], [], [], []⟩ : S)) (4294967295, 0)) (by kernel_rfl) ?_
    refine Wk_iter (step := fun y => R_Rest_B1 b y) (r := r) (fun v1 : Int × Int => (⟨[(0, .sl 1 (b.map e_u8)), (3, .int .u32 v1.1), (4, .int .i64 v1.2)], [], [], [], []⟩ : S)) (4294967295, 0) hF ?_
    intro n1 v1 y1 hF ih1 dn1
    have hF : R_Rest_B1 b v1 = some y1 := hF
    unfold R_Rest_B1 at hF
    refine Wk_seq ?_
    refine Wk_seq ?_
    refine WR [.nat (b.length : Int)] [0, 3, 4, 11] [] [] [] [] [] ⟨[(0, .sl 1 (b.map e_u8)), (3, .int .u32 v1.1), (4, .int .i64 v1.2), (11, .bool (decide (v1.2 < (b.length : Int))))], [], [], [], []⟩ (.cons (len_ok e_u8 b) .nil) (by kernel_rfl) ?_
    refine Wk_split rfl (fun hb => ?_) (fun hb => ?_)
    · have hF := ite_t hF hb
      refine Wk_skip ?_
      refine Wk_seq ?_
      refine Wk_block ?_
      refine Wk_seq ?_
      refine WR [] [0, 3, 4, 5] [] [] [] [] [] ⟨[(0, .sl 1 (b.map e_u8)), (3, .int .u32 v1.1), (4, .int .i64 v1.2), (5, .int .i64 0)], [], [], [], []⟩ .nil (by kernel_rfl) ?_
      refine Wk_meetP (fun v2 : Int => (⟨[(0, .sl 1 (b.map e_u8)), (3, .int .u32 v2), (4, .int .i64 v1.2)], [], [], [], []⟩ : S)) (fun v2 => R_Rest_J2 v1 v2 = some y1) ?_ ?_
      · refine Wk_block ?_
        unfold R_Rest_L2 at hF
        refine Wk_trim (fs := [0, 3, 4, 5]) (bs := []) (rs := []) (ms := []) (aa := []) (nv := []) (t := (fun v3 : Int × Int => (⟨[(0, .sl 1 (b.map e_u8)), (3, .int .u32 v3.1), (4, .int .i64 v1.2), (5, .int .i64 v3.2)], [], [], [], []⟩ : S)) (v1.1, 0)) (by kernel_rfl) ?_
        refine Wk_iter (step := fun y => R_Rest_B2 b v1 y) (r := y1) (fun v3 : Int × Int => (⟨[(0, .sl 1 (b.map e_u8)), (3, .int .u32 v3.1), (4, .int .i64 v1.2), (5, .int .i64 v3.2)], [], [], [], []⟩ : S)) (v1.1, 0) hF ?_
        intro n2 v3 y2 hF ih2 dn2
        have hF : R_Rest_B2 b v1 v3 = some y2 := hF
        unfold R_Rest_B2 at hF
        refine Wk_seq ?_
        refine Wk_seq ?_
        refine WR [] [0, 3, 4, 5, 15] [] [] [] [] [] ⟨[(0, .sl 1 (b.map e_u8)), (3, .int .u32 v3.1), (4, .int .i64 v1.2), (5, .int .i64 v3.2), (15, .bool (decide (v3.2 < 8)))], [], [], [], []⟩ .nil (by kernel_rfl) ?_
        refine Wk_split rfl (fun hb => ?_) (fun hb => ?_)
        · have hF := ite_t hF hb
          refine Wk_skip ?_
          refine Wk_seq ?_
          refine Wk_block ?_
          refine Wk_seq ?_
          obtain ⟨h0, hF⟩ := asrt_elim hF
          obtain ⟨h1, hF⟩ := asrt_elim hF
          refine WRL (Int.tmod (IntKind.u32.wrap ((toU8 (Int.fdiv ((lget b v1.2).toNat : Int) (2 ^ (min v3.2.toNat 8)))).toNat : Int)) 2) (fun v4 : Int => ⟨[(0, .sl 1 (b.map e_u8)), (3, .int .u32 v3.1), (4, .int .i64 v1.2), (5, .int .i64 v3.2), (6, .int .u32 v4)], [], [], [], []⟩) [.av (e_u8 (lget b v1.2))] [0, 3, 4, 5, 6] [] [] [] [] [] (.cons (idx_ok e_u8 h0) (.cons h1 (.cons (shr8_ok (lget b v1.2) (min v3.2.toNat 8)) (.cons (by decide : (2 : Int) ≠ 0) .nil)))) (by kernel_rfl) (fun v4 hv => ?_)
          have hF := lt_elim hF hv
          refine Wk_seq ?_
          refine WR [] [0, 3, 4, 5, 7] [] [] [] [] [] ⟨[(0, .sl 1 (b.map e_u8)), (3, .int .u32 v3.1), (4, .int .i64 v1.2), (5, .int .i64 v3.2), (7, .int .u32 (Int.tmod (IntKind.u32.wrap (v3.1 + v4)) 2))], [], [], [], []⟩ (.cons (by decide : (2 : Int) ≠ 0) .nil) (by kernel_rfl) ?_
          refine Wk_seq ?_
          refine WR [] [0, 3, 4, 5, 7] [] [] [] [] [] ⟨[(0, .sl 1 (b.map e_u8)), (3, .int .u32 (IntKind.u32.wrap (Int.tdiv v3.1 2))), (4, .int .i64 v1.2), (5, .int .i64 v3.2), (7, .int .u32 (Int.tmod (IntKind.u32.wrap (v3.1 + v4)) 2))], [], [], [], []⟩ (.cons (by decide : (2 : Int) ≠ 0) .nil) (by kernel_rfl) ?_
          refine Wk_seq ?_
          refine WR [] [0, 3, 4, 5, 33] [] [] [] [] [] ⟨[(0, .sl 1 (b.map e_u8)), (3, .int .u32 (IntKind.u32.wrap (Int.tdiv v3.1 2))), (4, .int .i64 v1.2), (5, .int .i64 v3.2), (33, .bool (decide ((Int.tmod (IntKind.u32.wrap (v3.1 + v4)) 2) = 1)))], [], [], [], []⟩ .nil (by kernel_rfl) ?_
          obtain ⟨v5, hv, hF⟩ := ob_elim hF
          refine Wk_meet (⟨[(0, .sl 1 (b.map e_u8)), (3, .int .u32 v5), (4, .int .i64 v1.2), (5, .int .i64 v3.2)], [], [], [], []⟩ : S) ?_ ?_
          · have hF := hv
            refine Wk_split rfl (fun hb => ?_) (fun hb => ?_)
            · have hF := ite_t hF hb
              refine WR [] [0, 3, 4, 5] [] [] [] [] [] ⟨[(0, .sl 1 (b.map e_u8)), (3, .int .u32 (bitsOp .xor .u32 (IntKind.u32.wrap (Int.tdiv v3.1 2)) 3988292384)), (4, .int .i64 v1.2), (5, .int .i64 v3.2)], [], [], [], []⟩ .nil (by kernel_rfl) ?_
              exact Wk_met (fs := [0, 3, 4, 5]) (bs := []) (rs := []) (ms := []) (aa := []) (nv := []) (by first | (rw [← some_elim hF]; kernel_rfl) | kernel_rfl)
            · have hF := ite_f hF hb
              refine Wk_skip ?_
              exact Wk_met (fs := [0, 3, 4, 5]) (bs := []) (rs := []) (ms := []) (aa := []) (nv := []) (by first | (rw [← some_elim hF]; kernel_rfl) | kernel_rfl)
          · refine Wk_blk ?_
            refine WR [] [0, 3, 4, 5] [] [] [] [] [] ⟨[(0, .sl 1 (b.map e_u8)), (3, .int .u32 v5), (4, .int .i64 v1.2), (5, .int .i64 (w64 (v3.2 + 1)))], [], [], [], []⟩ .nil (by kernel_rfl) ?_
            refine Wk_trim (fs := [0, 3, 4, 5]) (bs := []) (rs := []) (ms := []) (aa := []) (nv := []) ?_ (ih2 _ (some_elim hF).symm)
            kernel_rfl
        · have hF := ite_f hF hb
          refine Wk_exit rfl ?_
          have hF := inrO_done hF dn2
          exact Wk_metP v3.1 [0, 3, 4] [] [] [] [] [] hF (by kernel_rfl)
      · intro v2 hF
        have hF : R_Rest_J2 v1 v2 = some y1 := hF
        unfold R_Rest_J2 at hF
        refine Wk_blk ?_
        refine WR [] [0, 3, 4] [] [] [] [] [] ⟨[(0, .sl 1 (b.map e_u8)), (3, .int .u32 v2), (4, .int .i64 (w64 (v1.2 + 1)))], [], [], [], []⟩ .nil (by kernel_rfl) ?_
        refine Wk_trim (fs := [0, 3, 4]) (bs := []) (rs := []) (ms := []) (aa := []) (nv := []) ?_ (ih1 _ (some_elim hF).symm)
        kernel_rfl
    · have hF := ite_f hF hb
      refine Wk_exit rfl ?_
      have hF := inrO_done hF dn1
      exact Wk_metP v1.1 [3] [] [] [] [] [] hF (by kernel_rfl)
  · intro v hF
    have hF : R_Rest_J1 v = some r := hF
    unfold R_Rest_J1 at hF
    refine Wk_seq ?_
    refine WR [] [2] [] [] [] [] [] ⟨[(2, .int .u32 (IntKind.u32.wrap (4294967295 - v)))], [], [], [], []⟩ .nil (by kernel_rfl) ?_
    have hF := some_elim hF
    exact Wk_ret (hfin _ ⟨[], [], [], [], [], [], by first | (rw [← hF]; kernel_rfl) | kernel_rfl⟩)

/- tabularyref.Framed -/
noncomputable def R_Framed (body : List UInt8) : Option (List UInt8) :=
  asrt (((([toU8 (w64 (Int.tdiv (body.length : Int) 256)), toU8 (Int.tmod (body.length : Int) 256)] : List UInt8) ++ body).length : Int) * 1 ≤ 140737488351232) <|
  lt ((([toU8 (w64 (Int.tdiv (body.length : Int) 256)), toU8 (Int.tmod (body.length : Int) 256)] : List UInt8) ++ body)) fun (v : List UInt8) =>
  ob (R_Rest v) fun x =>
  asrt (((v ++ ([toU8 (IntKind.u32.wrap (Int.tdiv x 16777216)), toU8 (Int.tmod (IntKind.u32.wrap (Int.tdiv x 65536)) 256), toU8 (Int.tmod (IntKind.u32.wrap (Int.tdiv x 256)) 256), toU8 (Int.tmod x 256)] : List UInt8)).length : Int) * 1 ≤ 140737488351232) <|
  lt ((v ++ ([toU8 (IntKind.u32.wrap (Int.tdiv x 16777216)), toU8 (Int.tmod (IntKind.u32.wrap (Int.tdiv x 65536)) 256), toU8 (Int.tmod (IntKind.u32.wrap (Int.tdiv x 256)) 256), toU8 (Int.tmod x 256)] : List UInt8))) fun (v1 : List UInt8) =>
  some v1
theorem R_Framed_ok (body : List UInt8) (r : List UInt8) (hF : R_Framed body = some r) : Pe Try.prog 41 ⟨[], [], [], [], []⟩ [.sl 1 (body.map e_u8)] (.row 13 2) ⟨[], [], [(13, ⟨5, 1, 2, 0, 0, true, 0, [], (r.map e_u8)⟩)], [], []⟩ := by
  refine Pe_of (N := 35) (res := [.tmp 2]) (ts := [23]) Ty.ok Fn.b41 Try.func41 rfl rfl rfl rfl rfl rfl ?_
  intro Q g hfin
  unfold R_Framed at hF
  refine Wk_seq ?_
  refine WR [] [0] [] [] [] [] [] ⟨[(0, .sl 1 (body.map e_u8))], [], [], [], []⟩ .nil (by kernel_rfl) ?_
  refine Wk_seq ?_
  obtain ⟨h0, hF⟩ := asrt_elim hF
  refine WRL ((([toU8 (w64 (Int.tdiv (body.length : Int) 256)), toU8 (Int.tmod (body.length : Int) 256)] : List UInt8) ++ body)) (fun v : List UInt8 => ⟨[(3, .row 13 1)], [], [(13, ⟨5, 1, 1, 0, 0, true, 0, [], (v.map e_u8)⟩)], [], []⟩) [.nat (body.length : Int), .nat (body.length : Int), .xs ((([toU8 (w64 (Int.tdiv (body.length : Int) 256)), toU8 (Int.tmod (body.length : Int) 256)] : List UInt8) ++ body).map e_u8)] [3] [] [13] [] [] [] (.cons (len_ok e_u8 body) (.cons (by decide : (256 : Int) ≠ 0) (.cons (len_ok e_u8 body) (.cons (by decide : (256 : Int) ≠ 0) (.cons (app_ok e_u8 ([toU8 (w64 (Int.tdiv (body.length : Int) 256)), toU8 (Int.tmod (body.length : Int) 256)] : List UInt8) body) (.cons (appl_ok e_u8 h0) .nil)))))) (by kernel_rfl) (fun v hv => ?_)
  have hF := lt_elim hF hv
  refine Wk_seq ?_
  obtain ⟨x, h1, hF⟩ := ob_elim hF
  refine WR [.callB (.int .u32 x)] [3, 4] [] [13] [] [] [] ⟨[(3, .row 13 1), (4, .int .u32 x)], [], [(13, ⟨5, 1, 1, 0, 0, true, 0, [], (v.map e_u8)⟩)], [], []⟩ (.cons (R_Rest_ok v x h1) .nil) (by kernel_rfl) ?_
  refine Wk_seq ?_
  obtain ⟨h2, hF⟩ := asrt_elim hF
  refine WRL ((v ++ ([toU8 (IntKind.u32.wrap (Int.tdiv x 16777216)), toU8 (Int.tmod (IntKind.u32.wrap (Int.tdiv x 65536)) 256), toU8 (Int.tmod (IntKind.u32.wrap (Int.tdiv x 256)) 256), toU8 (Int.tmod x 256)] : List UInt8))) (fun v1 : List UInt8 => ⟨[(2, .row 13 2)], [], [(13, ⟨5, 1, 2, 0, 0, true, 0, [], (v1.map e_u8)⟩)], [], []⟩) [.sealed, .xs ((v ++ ([toU8 (IntKind.u32.wrap (Int.tdiv x 16777216)), toU8 (Int.tmod (IntKind.u32.wrap (Int.tdiv x 65536)) 256), toU8 (Int.tmod (IntKind.u32.wrap (Int.tdiv x 256)) 256), toU8 (Int.tmod x 256)] : List UInt8)).map e_u8)] [2] [] [13] [] [] [] (.cons (by decide : (16777216 : Int) ≠ 0) (.cons (by decide : (65536 : Int) ≠ 0) (.cons (by decide : (256 : Int) ≠ 0) (.cons (by decide : (256 : Int) ≠ 0) (.cons (by decide : (256 : Int) ≠ 0) (.cons (by decide : (256 : Int) ≠ 0) (.cons (app_ok e_u8 v ([toU8 (IntKind.u32.wrap (Int.tdiv x 16777216)), toU8 (Int.tmod (IntKind.u32.wrap (Int.tdiv x 65536)) 256), toU8 (Int.tmod (IntKind.u32.wrap (Int.tdiv x 256)) 256), toU8 (Int.tmod x 256)] : List UInt8)) (.cons (appl_ok e_u8 h2) .nil)))))))) (by kernel_rfl) (fun v1 hv => ?_)
  have hF := lt_elim hF hv
  have hF := some_elim hF
  exact Wk_ret (hfin _ ⟨[13], [], [13], [], [], [], by first | (rw [← hF]; kernel_rfl) | kernel_rfl⟩)

/- tabularyref.Unframed -/
noncomputable def R_Unframed_v1_J1 (v : List (List UInt8) × Int) : Option (List (List UInt8) × Int) :=
  some (v.1, v.2)
noncomputable def R_Unframed_v1_B1 (b : List UInt8) (v1 : List (List UInt8) × Int) : Option ((List (List UInt8) × Int) ⊕ (List (List UInt8) × Int)) :=
  if (decide ((w64 (v1.2 + 6)) ≤ (b.length : Int))) = true then
    asrt (0 ≤ v1.2 ∧ v1.2 < (b.length : Int)) <|
    asrt (0 ≤ w64 (v1.2 + 1) ∧ w64 (v1.2 + 1) < (b.length : Int)) <|
    lt (w64 ((w64 ((w64 ((lget b v1.2).toNat : Int)) * 256)) + (w64 ((lget b (w64 (v1.2 + 1))).toNat : Int)))) fun (v2 : Int) =>
    if (decide ((b.length : Int) < (w64 ((w64 (v1.2 + 6)) + v2)))) = true then
      inrO (R_Unframed_v1_J1 (v1.1, v1.2))
    else
      asrt (0 ≤ w64 (v1.2 + 2) ∧ w64 (v1.2 + 2) ≤ w64 ((w64 (v1.2 + 2)) + v2) ∧ w64 ((w64 (v1.2 + 2)) + v2) ≤ (b.length : Int)) <|
      ob (R_Framed (ldrop (ltake b (w64 ((w64 (v1.2 + 2)) + v2))) (w64 (v1.2 + 2)))) fun x =>
      asrt (0 ≤ v1.2 ∧ v1.2 ≤ w64 ((w64 (v1.2 + 6)) + v2) ∧ w64 ((w64 (v1.2 + 6)) + v2) ≤ (b.length : Int)) <|
      lt (R_Same x (ldrop (ltake b (w64 ((w64 (v1.2 + 6)) + v2))) v1.2)) fun x1 =>
      if (!x1) = true then
        inrO (R_Unframed_v1_J1 (v1.1, v1.2))
      else
        asrt (((ldrop (ltake b (w64 ((w64 (v1.2 + 2)) + v2))) (w64 (v1.2 + 2))).length : Int) * 1 ≤ 140737488351232) <|
        asrt (((v1.1 ++ ([(ldrop (ltake b (w64 ((w64 (v1.2 + 2)) + v2))) (w64 (v1.2 + 2)))] : List (List UInt8))).length : Int) * 24 ≤ 140737488351232) <|
        lt ((v1.1 ++ ([(ldrop (ltake b (w64 ((w64 (v1.2 + 2)) + v2))) (w64 (v1.2 + 2)))] : List (List UInt8)))) fun (v3 : List (List UInt8)) =>
        some (Sum.inl (v3, w64 ((w64 (v1.2 + 6)) + v2)))
  else
    inrO (R_Unframed_v1_J1 (v1.1, v1.2))
noncomputable def R_Unframed_v1_L1 (b : List UInt8) (v0 : List (List UInt8) × Int) : Option (List (List UInt8) × Int) :=
  loopO (fun y => R_Unframed_v1_B1 b y) v0
noncomputable def R_Unframed_v1 (b : List UInt8) : Option (List (List UInt8) × Int) :=
  R_Unframed_v1_L1 b (([] : List (List UInt8)), 0)
theorem R_Unframed_v1_ok (b : List UInt8) (r : List (List UInt8) × Int) (hF : R_Unframed_v1 b = some r) : Pe Try.prog 39 S.none [.sl 1 (b.map e_u8)] (.tup [.sl 1 (r.1.map e_L_u8), .int .i64 r.2]) S.none := by
  refine Pe_of (N := 63) (res := [.tmp 2, .tmp 3]) (ts := [41, 3]) Ty.ok Fn.b39 Try.func39 rfl rfl rfl rfl rfl rfl ?_
  intro Q g hfin
  unfold R_Unframed_v1 at hF
  refine Wk_seq ?_
  refine WR [] [0] [] [] [] [] [] ⟨[(0, .sl 1 (b.map e_u8))], [], [], [], []⟩ .nil (by kernel_rfl) ?_
  refine Wk_seq ?_
  refine WR [] [0, 4] [] [] [] [] [] ⟨[(0, .sl 1 (b.map e_u8)), (4, .nils)], [], [], [], []⟩ .nil (by kernel_rfl) ?_
  refine Wk_seq ?_
  refine WR [] [0, 4, 5] [] [] [] [] [] ⟨[(0, .sl 1 (b.map e_u8)), (4, .nils), (5, .int .i64 0)], [], [], [], []⟩ .nil (by kernel_rfl) ?_
  refine Wk_seq ?_
  refine Wk_meetP (fun v : List (List UInt8) × Int => (⟨[(4, .row 56 0), (5, .int .i64 v.2)], [], [(56, ⟨23, 1, 0, 0, 0, true, 0, [], (v.1.map e_L_u8)⟩)], [], []⟩ : S)) (fun v => R_Unframed_v1_J1 v = some r) ?_ ?_
  · refine Wk_block ?_
    unfold R_Unframed_v1_L1 at hF
    refine Wk_nilrow 4 60000 23 1 rfl rfl rfl ?_
    refine Wk_trim (fs := [0, 4, 5]) (bs := []) (rs := [60000]) (ms := []) (aa := []) (nv := []) rfl ?_
    refine Wk_ren' ⟨[], [(60000, 56)], [], []⟩ rfl ?_
    refine Wk_trim (fs := [0, 4, 5]) (bs := []) (rs := [56]) (ms := []) (aa := []) (nv := []) (t := (fun v1 : List (List UInt8) × Int => (⟨[(0, .sl 1 (b.map e_u8)), (4, .row 56 0), (5, .int .i64 v1.2)], [], [(56, ⟨23, 1, 0, 0, 0, true, 0, [], (v1.1.map e_L_u8)⟩)], [], []⟩ : S)) (([] : List (List UInt8)), 0)) (by kernel_rfl) ?_
    refine Wk_iter (step := fun y => R_Unframed_v1_B1 b y) (r := r) (fun v1 : List (List UInt8) × Int => (⟨[(0, .sl 1 (b.map e_u8)), (4, .row 56 0), (5, .int .i64 v1.2)], [], [(56, ⟨23, 1, 0, 0, 0, true, 0, [], (v1.1.map e_L_u8)⟩)], [], []⟩ : S)) (([] : List (List UInt8)), 0) hF ?_
    intro n1 v1 y1 hF ih1 dn1
    have hF : R_Unframed_v1_B1 b v1 = some y1 := hF
    unfold R_Unframed_v1_B1 at hF
    refine Wk_seq ?_
    refine Wk_seq ?_
    refine WR [.nat (b.length : Int)] [0, 4, 5, 12] [] [56] [] [] [] ⟨[(0, .sl 1 (b.map e_u8)), (4, .row 56 0), (5, .int .i64 v1.2), (12, .bool (decide ((w64 (v1.2 + 6)) ≤ (b.length : Int))))], [], [(56, ⟨23, 1, 0, 0, 0, true, 0, [], (v1.1.map e_L_u8)⟩)], [], []⟩ (.cons (len_ok e_u8 b) .nil) (by kernel_rfl) ?_
    refine Wk_split rfl (fun hb => ?_) (fun hb => ?_)
    · have hF := ite_t hF hb
      refine Wk_skip ?_
      refine Wk_block ?_
      refine Wk_seq ?_
      obtain ⟨h0, hF⟩ := asrt_elim hF
      obtain ⟨h1, hF⟩ := asrt_elim hF
      refine WDL (w64 ((w64 ((w64 ((lget b v1.2).toNat : Int)) * 256)) + (w64 ((lget b (w64 (v1.2 + 1))).toNat : Int)))) (fun v2 : Int => ⟨[(0, .sl 1 (b.map e_u8)), (4, .row 56 0), (5, .int .i64 v1.2), (6, .int .i64 v2)], [], [(56, ⟨23, 1, 0, 0, 0, true, 0, [], (v1.1.map e_L_u8)⟩)], [], []⟩) [.av (e_u8 (lget b v1.2)), .av (e_u8 (lget b (w64 (v1.2 + 1))))] [0, 4, 5, 6] [] [56] [] [] [] (.cons (idx_ok e_u8 h0) (.cons (idx_ok e_u8 h1) .nil)) (by kernel_rfl) (fun v2 hv => ?_)
      have hF := lt_elim hF hv
      refine Wk_seq ?_
      refine Wk_seq ?_
      refine WR [.nat (b.length : Int)] [0, 4, 5, 6, 32] [] [56] [] [] [] ⟨[(0, .sl 1 (b.map e_u8)), (4, .row 56 0), (5, .int .i64 v1.2), (6, .int .i64 v2), (32, .bool (decide ((b.length : Int) < (w64 ((w64 (v1.2 + 6)) + v2)))))], [], [(56, ⟨23, 1, 0, 0, 0, true, 0, [], (v1.1.map e_L_u8)⟩)], [], []⟩ (.cons (len_ok e_u8 b) .nil) (by kernel_rfl) ?_
      refine Wk_split rfl (fun hb => ?_) (fun hb => ?_)
      · have hF := ite_t hF hb
        refine Wk_exit rfl ?_
        have hF := inrO_done hF dn1
        exact Wk_metP (v1.1, v1.2) [4, 5] [] [56] [] [] [] hF (by kernel_rfl)
      · have hF := ite_f hF hb
        refine Wk_skip ?_
        refine Wk_seq ?_
        obtain ⟨h2, hF⟩ := asrt_elim hF
        refine WR [.xs ((ldrop (ltake b (w64 ((w64 (v1.2 + 2)) + v2))) (w64 (v1.2 + 2))).map e_u8)] [0, 4, 5, 6, 7] [] [56] [] [] [] ⟨[(0, .sl 1 (b.map e_u8)), (4, .row 56 0), (5, .int .i64 v1.2), (6, .int .i64 v2), (7, .sl 1 ((ldrop (ltake b (w64 ((w64 (v1.2 + 2)) + v2))) (w64 (v1.2 + 2))).map e_u8))], [], [(56, ⟨23, 1, 0, 0, 0, true, 0, [], (v1.1.map e_L_u8)⟩)], [], []⟩ (.cons (sl11_ok e_u8 h2) .nil) (by kernel_rfl) ?_
        refine Wk_seq ?_
        refine Wk_seq ?_
        obtain ⟨x, h3, hF⟩ := ob_elim hF
        obtain ⟨h4, hF⟩ := asrt_elim hF
        obtain ⟨x1, h5, hF⟩ := lt_split hF
        refine WD [.callE [] [] [] [] (.row 42 2) ⟨[], [], [(42, ⟨5, 1, 2, 0, 0, true, 0, [], (x.map e_u8)⟩)], [], []⟩, .xs ((ldrop (ltake b (w64 ((w64 (v1.2 + 6)) + v2))) v1.2).map e_u8), .callB (.bool x1)] [0, 4, 5, 6, 7, 51] [] [56] [] [] [] ⟨[(0, .sl 1 (b.map e_u8)), (4, .row 56 0), (5, .int .i64 v1.2), (6, .int .i64 v2), (7, .sl 1 ((ldrop (ltake b (w64 ((w64 (v1.2 + 2)) + v2))) (w64 (v1.2 + 2))).map e_u8)), (51, .bool (!x1))], [], [(56, ⟨23, 1, 0, 0, 0, true, 0, [], (v1.1.map e_L_u8)⟩)], [], []⟩ (.cons (Pe.ren (R_Framed_ok (ldrop (ltake b (w64 ((w64 (v1.2 + 2)) + v2))) (w64 (v1.2 + 2))) x h3) ⟨[], [(13, 42)], [], []⟩) (.cons (sl11_ok e_u8 h4) (.cons (R_Same_ok x (ldrop (ltake b (w64 ((w64 (v1.2 + 6)) + v2))) v1.2) x1 h5) .nil))) (by kernel_rfl) ?_
        refine Wk_split rfl (fun hb => ?_) (fun hb => ?_)
        · have hF := ite_t hF hb
          refine Wk_exit rfl ?_
          have hF := inrO_done hF dn1
          exact Wk_metP (v1.1, v1.2) [4, 5] [] [56] [] [] [] hF (by kernel_rfl)
        · have hF := ite_f hF hb
          refine Wk_skip ?_
          refine Wk_seq ?_
          obtain ⟨h6, hF⟩ := asrt_elim hF
          obtain ⟨h7, hF⟩ := asrt_elim hF
          refine WRL ((v1.1 ++ ([(ldrop (ltake b (w64 ((w64 (v1.2 + 2)) + v2))) (w64 (v1.2 + 2)))] : List (List UInt8)))) (fun v3 : List (List UInt8) => ⟨[(0, .sl 1 (b.map e_u8)), (4, .row 56 1), (5, .int .i64 v1.2), (6, .int .i64 v2)], [], [(56, ⟨23, 1, 1, 0, 0, true, 0, [], (v3.map e_L_u8)⟩)], [], []⟩) [.xs ((ldrop (ltake b (w64 ((w64 (v1.2 + 2)) + v2))) (w64 (v1.2 + 2))).map e_u8), .sealed, .xs ((v1.1 ++ ([(ldrop (ltake b (w64 ((w64 (v1.2 + 2)) + v2))) (w64 (v1.2 + 2)))] : List (List UInt8))).map e_L_u8)] [0, 4, 5, 6] [] [56] [] [] [] (.cons (app0_ok e_u8 (ldrop (ltake b (w64 ((w64 (v1.2 + 2)) + v2))) (w64 (v1.2 + 2)))) (.cons (appl_ok e_u8 h6) (.cons (app_ok e_L_u8 v1.1 ([(ldrop (ltake b (w64 ((w64 (v1.2 + 2)) + v2))) (w64 (v1.2 + 2)))] : List (List UInt8))) (.cons (appl_ok e_L_u8 h7) .nil)))) (by kernel_rfl) (fun v3 hv => ?_)
          have hF := lt_elim hF hv
          refine WR [] [0, 4, 5] [] [56] [] [] [] ⟨[(0, .sl 1 (b.map e_u8)), (4, .row 56 1), (5, .int .i64 (w64 ((w64 (v1.2 + 6)) + v2)))], [], [(56, ⟨23, 1, 1, 0, 0, true, 0, [], (v3.map e_L_u8)⟩)], [], []⟩ .nil (by kernel_rfl) ?_
          refine Wk_blk ?_
          refine Wk_trim (fs := [0, 4, 5]) (bs := []) (rs := [56]) (ms := []) (aa := []) (nv := [(56, ⟨0, true, true, false⟩)]) ?_ (ih1 _ (some_elim hF).symm)
          kernel_rfl
    · have hF := ite_f hF hb
      refine Wk_exit rfl ?_
      have hF := inrO_done hF dn1
      exact Wk_metP (v1.1, v1.2) [4, 5] [] [56] [] [] [] hF (by kernel_rfl)
  · intro v hF
    have hF : R_Unframed_v1_J1 v = some r := hF
    unfold R_Unframed_v1_J1 at hF
    refine Wk_seq ?_
    refine WR [] [2, 3] [] [56] [] [] [] ⟨[(2, .row 56 0), (3, .int .i64 v.2)], [], [(56, ⟨23, 1, 0, 0, 0, true, 0, [], (v.1.map e_L_u8)⟩)], [], []⟩ .nil (by kernel_rfl) ?_
    have hF := some_elim hF
    exact Wk_ret (hfin _ ⟨[], [], [], [], [], [], by first | (rw [← hF]; kernel_rfl) | kernel_rfl⟩)

/- tabularyref.Framed -/
noncomputable def R_Framed_v1 (body : List UInt8) : Option (List UInt8) :=
  asrt (((([toU8 (w64 (Int.tdiv (body.length : Int) 256)), toU8 (Int.tmod (body.length : Int) 256)] : List UInt8) ++ body).length : Int) * 1 ≤ 140737488351232) <|
  lt ((([toU8 (w64 (Int.tdiv (body.length : Int) 256)), toU8 (Int.tmod (body.length : Int) 256)] : List UInt8) ++ body)) fun (v : List UInt8) =>
  ob (R_Rest v) fun x =>
  asrt (((v ++ ([toU8 (IntKind.u32.wrap (Int.tdiv x 16777216)), toU8 (Int.tmod (IntKind.u32.wrap (Int.tdiv x 65536)) 256), toU8 (Int.tmod (IntKind.u32.wrap (Int.tdiv x 256)) 256), toU8 (Int.tmod x 256)] : List UInt8)).length : Int) * 1 ≤ 140737488351232) <|
  lt ((v ++ ([toU8 (IntKind.u32.wrap (Int.tdiv x 16777216)), toU8 (Int.tmod (IntKind.u32.wrap (Int.tdiv x 65536)) 256), toU8 (Int.tmod (IntKind.u32.wrap (Int.tdiv x 256)) 256), toU8 (Int.tmod x 256)] : List UInt8))) fun (v1 : List UInt8) =>
  some v1
theorem R_Framed_v1_ok (body : List UInt8) (r : List UInt8) (hF : R_Framed_v1 body = some r) : Pe Try.prog 41 S.none [.sl 1 (body.map e_u8)] (.sl 1 (r.map e_u8)) S.none := by
  refine Pe_of (N := 35) (res := [.tmp 2]) (ts := [23]) Ty.ok Fn.b41 Try.func41 rfl rfl rfl rfl rfl rfl ?_
  intro Q g hfin
  unfold R_Framed_v1 at hF
  refine Wk_seq ?_
  refine WR [] [0] [] [] [] [] [] ⟨[(0, .sl 1 (body.map e_u8))], [], [], [], []⟩ .nil (by kernel_rfl) ?_
  refine Wk_seq ?_
  obtain ⟨h0, hF⟩ := asrt_elim hF
  refine WRL ((([toU8 (w64 (Int.tdiv (body.length : Int) 256)), toU8 (Int.tmod (body.length : Int) 256)] : List UInt8) ++ body)) (fun v : List UInt8 => ⟨[(3, .row 13 1)], [], [(13, ⟨5, 1, 1, 0, 0, true, 0, [], (v.map e_u8)⟩)], [], []⟩) [.nat (body.length : Int), .nat (body.length : Int), .xs ((([toU8 (w64 (Int.tdiv (body.length : Int) 256)), toU8 (Int.tmod (body.length : Int) 256)] : List UInt8) ++ body).map e_u8)] [3] [] [13] [] [] [] (.cons (len_ok e_u8 body) (.cons (by decide : (256 : Int) ≠ 0) (.cons (len_ok e_u8 body) (.cons (by decide : (256 : Int) ≠ 0) (.cons (app_ok e_u8 ([toU8 (w64 (Int.tdiv (body.length : Int) 256)), toU8 (Int.tmod (body.length : Int) 256)] : List UInt8) body) (.cons (appl_ok e_u8 h0) .nil)))))) (by kernel_rfl) (fun v hv => ?_)
  have hF := lt_elim hF hv
  refine Wk_seq ?_
  obtain ⟨x, h1, hF⟩ := ob_elim hF
  refine WR [.callB (.int .u32 x)] [3, 4] [] [13] [] [] [] ⟨[(3, .row 13 1), (4, .int .u32 x)], [], [(13, ⟨5, 1, 1, 0, 0, true, 0, [], (v.map e_u8)⟩)], [], []⟩ (.cons (R_Rest_ok v x h1) .nil) (by kernel_rfl) ?_
  refine Wk_seq ?_
  obtain ⟨h2, hF⟩ := asrt_elim hF
  refine WRL ((v ++ ([toU8 (IntKind.u32.wrap (Int.tdiv x 16777216)), toU8 (Int.tmod (IntKind.u32.wrap (Int.tdiv x 65536)) 256), toU8 (Int.tmod (IntKind.u32.wrap (Int.tdiv x 256)) 256), toU8 (Int.tmod x 256)] : List UInt8))) (fun v1 : List UInt8 => ⟨[(2, .row 13 2)], [], [(13, ⟨5, 1, 2, 0, 0, true, 0, [], (v1.map e_u8)⟩)], [], []⟩) [.sealed, .xs ((v ++ ([toU8 (IntKind.u32.wrap (Int.tdiv x 16777216)), toU8 (Int.tmod (IntKind.u32.wrap (Int.tdiv x 65536)) 256), toU8 (Int.tmod (IntKind.u32.wrap (Int.tdiv x 256)) 256), toU8 (Int.tmod x 256)] : List UInt8)).map e_u8)] [2] [] [13] [] [] [] (.cons (by decide : (16777216 : Int) ≠ 0) (.cons (by decide : (65536 : Int) ≠ 0) (.cons (by decide : (256 : Int) ≠ 0) (.cons (by decide : (256 : Int) ≠ 0) (.cons (by decide : (256 : Int) ≠ 0) (.cons (by decide : (256 : Int) ≠ 0) (.cons (app_ok e_u8 v ([toU8 (IntKind.u32.wrap (Int.tdiv x 16777216)), toU8 (Int.tmod (IntKind.u32.wrap (Int.tdiv x 65536)) 256), toU8 (Int.tmod (IntKind.u32.wrap (Int.tdiv x 256)) 256), toU8 (Int.tmod x 256)] : List UInt8)) (.cons (appl_ok e_u8 h2) .nil)))))))) (by kernel_rfl) (fun v1 hv => ?_)
  have hF := lt_elim hF hv
  have hF := some_elim hF
  exact Wk_ret (hfin _ ⟨[], [], [], [], [], [], by first | (rw [← hF]; kernel_rfl) | kernel_rfl⟩)

/- tabularylaw.WireFrames$1 -/
noncomputable def law_WireFrames_1_v1_J1 (v : List UInt8) : Option (List UInt8) :=
  some v
noncomputable def law_WireFrames_1_v1_B1 (box : List (List UInt8)) (v1 : List UInt8 × Int) : Option ((List UInt8 × Int) ⊕ (List UInt8)) :=
  if (decide (v1.2 < (box.length : Int))) = true then
    asrt (0 ≤ v1.2 ∧ v1.2 < (box.length : Int)) <|
    ob (R_Framed_v1 (lget box v1.2)) fun x =>
    asrt (((v1.1 ++ x).length : Int) * 1 ≤ 140737488351232) <|
    some (Sum.inl ((v1.1 ++ x), w64 (v1.2 + 1)))
  else
    inrO (law_WireFrames_1_v1_J1 v1.1)
noncomputable def law_WireFrames_1_v1_L1 (box : List (List UInt8)) (v0 : List UInt8 × Int) : Option (List UInt8) :=
  loopO (fun y => law_WireFrames_1_v1_B1 box y) v0
noncomputable def law_WireFrames_1_v1 (box : List (List UInt8)) : Option (List UInt8) :=
  law_WireFrames_1_v1_L1 box (([] : List UInt8), 0)
theorem law_WireFrames_1_v1_ok (box : List (List UInt8)) (r : List UInt8) (hF : law_WireFrames_1_v1 box = some r) : Pe Try.prog 40 ⟨[], [(100000, [.sl 1 (box.map e_L_u8)])], [], [], []⟩ [.ptr 100000 0] (.sl 1 (r.map e_u8)) ⟨[], [(100000, [.sl 1 (box.map e_L_u8)])], [], [], []⟩ := by
  refine Pe_of (N := 18) (res := [.tmp 1]) (ts := [23]) Ty.ok Fn.b40 Try.func40 rfl rfl rfl rfl rfl rfl ?_
  intro Q g hfin
  unfold law_WireFrames_1_v1 at hF
  refine Wk_seq ?_
  refine WR [] [0] [100000] [] [] [] [] ⟨[(0, .ptr 100000 0)], [(100000, [.sl 1 (box.map e_L_u8)])], [], [], []⟩ .nil (by kernel_rfl) ?_
  refine Wk_seq ?_
  refine WR [] [0, 2] [100000] [] [] [] [] ⟨[(0, .ptr 100000 0), (2, .nils)], [(100000, [.sl 1 (box.map e_L_u8)])], [], [], []⟩ .nil (by kernel_rfl) ?_
  refine Wk_seq ?_
  refine Wk_seq ?_
  refine WR [] [0, 2, 3] [100000] [] [] [] [] ⟨[(0, .ptr 100000 0), (2, .nils), (3, .int .i64 0)], [(100000, [.sl 1 (box.map e_L_u8)])], [], [], []⟩ .nil (by kernel_rfl) ?_
  refine Wk_meetP (fun v : List UInt8 => (⟨[(2, .row 16 0)], [(100000, [.sl 1 (box.map e_L_u8)])], [(16, ⟨5, 1, 0, 0, 0, true, 0, [], (v.map e_u8)⟩)], [], []⟩ : S)) (fun v => law_WireFrames_1_v1_J1 v = some r) ?_ ?_
  · refine Wk_block ?_
    unfold law_WireFrames_1_v1_L1 at hF
    refine Wk_nilrow 2 60000 5 1 rfl rfl rfl ?_
    refine Wk_trim (fs := [0, 2, 3]) (bs := [100000]) (rs := [60000]) (ms := []) (aa := []) (nv := []) rfl ?_
    refine Wk_ren' ⟨[], [(60000, 16)], [], []⟩ rfl ?_
    refine Wk_trim (fs := [0, 2, 3]) (bs := [100000]) (rs := [16]) (ms := []) (aa := []) (nv := []) (t := (fun v1 : List UInt8 × Int => (⟨[(0, .ptr 100000 0), (2, .row 16 0), (3, .int .i64 v1.2)], [(100000, [.sl 1 (box.map e_L_u8)])], [(16, ⟨5, 1, 0, 0, 0, true, 0, [], (v1.1.map e_u8)⟩)], [], []⟩ : S)) (([] : List UInt8), 0)) (by kernel_rfl) ?_
    refine Wk_iter (step := fun y => law_WireFrames_1_v1_B1 box y) (r := r) (fun v1 : List UInt8 × Int => (⟨[(0, .ptr 100000 0), (2, .row 16 0), (3, .int .i64 v1.2)], [(100000, [.sl 1 (box.map e_L_u8)])], [(16, ⟨5, 1, 0, 0, 0, true, 0, [], (v1.1.map e_u8)⟩)], [], []⟩ : S)) (([] : List UInt8), 0) hF ?_
    intro n1 v1 y1 hF ih1 dn1
    have hF : law_WireFrames_1_v1_B1 box v1 = some y1 := hF
    unfold law_WireFrames_1_v1_B1 at hF
    refine Wk_seq ?_
    refine Wk_seq ?_
    refine WR [.nat (box.length : Int)] [0, 2, 3, 7] [100000] [16] [] [] [] ⟨[(0, .ptr 100000 0), (2, .row 16 0), (3, .int .i64 v1.2), (7, .bool (decide (v1.2 < (box.length : Int))))], [(100000, [.sl 1 (box.map e_L_u8)])], [(16, ⟨5, 1, 0, 0, 0, true, 0, [], (v1.1.map e_u8)⟩)], [], []⟩ (.cons (len_ok e_L_u8 box) .nil) (by kernel_rfl) ?_
    refine Wk_split rfl (fun hb => ?_) (fun hb => ?_)
    · have hF := ite_t hF hb
      refine Wk_skip ?_
      refine Wk_seq ?_
      refine Wk_block ?_
      obtain ⟨h0, hF⟩ := asrt_elim hF
      obtain ⟨x, h1, hF⟩ := ob_elim hF
      obtain ⟨h2, hF⟩ := asrt_elim hF
      refine WR [.av (e_L_u8 (lget box v1.2)), .call (.sl 1 (x.map e_u8)), .xs ((v1.1 ++ x).map e_u8)] [0, 2, 3] [100000] [16] [] [] [] ⟨[(0, .ptr 100000 0), (2, .row 16 1), (3, .int .i64 v1.2)], [(100000, [.sl 1 (box.map e_L_u8)])], [(16, ⟨5, 1, 1, 0, 0, true, 0, [], ((v1.1 ++ x).map e_u8)⟩)], [], []⟩ (.cons (idx_ok e_L_u8 h0) (.cons (R_Framed_v1_ok (lget box v1.2) x h1) (.cons (app_ok e_u8 v1.1 x) (.cons (appl_ok e_u8 h2) .nil)))) (by kernel_rfl) ?_
      refine Wk_blk ?_
      refine WR [] [0, 2, 3] [100000] [16] [] [] [] ⟨[(0, .ptr 100000 0), (2, .row 16 1), (3, .int .i64 (w64 (v1.2 + 1)))], [(100000, [.sl 1 (box.map e_L_u8)])], [(16, ⟨5, 1, 1, 0, 0, true, 0, [], ((v1.1 ++ x).map e_u8)⟩)], [], []⟩ .nil (by kernel_rfl) ?_
      refine Wk_trim (fs := [0, 2, 3]) (bs := [100000]) (rs := [16]) (ms := []) (aa := []) (nv := [(16, ⟨0, true, true, false⟩)]) ?_ (ih1 _ (some_elim hF).symm)
      kernel_rfl
    · have hF := ite_f hF hb
      refine Wk_exit rfl ?_
      have hF := inrO_done hF dn1
      exact Wk_metP v1.1 [2] [100000] [16] [] [] [] hF (by kernel_rfl)
  · intro v hF
    have hF : law_WireFrames_1_v1_J1 v = some r := hF
    unfold law_WireFrames_1_v1_J1 at hF
    refine Wk_seq ?_
    refine WR [] [1] [100000] [16] [] [] [] ⟨[(1, .row 16 0)], [(100000, [.sl 1 (box.map e_L_u8)])], [(16, ⟨5, 1, 0, 0, 0, true, 0, [], (v.map e_u8)⟩)], [], []⟩ .nil (by kernel_rfl) ?_
    have hF := some_elim hF
    exact Wk_ret (hfin _ ⟨[], [100000], [], [], [], [], by first | (rw [← hF]; kernel_rfl) | kernel_rfl⟩)

/- tabularylaw.bytesAs -/
noncomputable def law_bytesAs_v2 (b : List UInt8) (f : Fault) (w0 : Fault) (box : List (List UInt8)) : Option Bool :=
  if (!(decide (f.Code = w0.Code) && (decide (f.At = w0.At) && true))) = true then
    some false
  else
    if (!decide (w0.Code = 0)) = true then
      some (decide ((b.length : Int) = 0))
    else
      ob (law_WireFrames_1_v1 box) fun x =>
      lt (R_Same b x) fun x1 =>
      some x1
theorem law_bytesAs_v2_ok (b : List UInt8) (f : Fault) (w0 : Fault) (box : List (List UInt8)) (r : Bool) (hF : law_bytesAs_v2 b f w0 box = some r) : Pe Try.prog 17 ⟨[], [(100000, [.sl 1 (box.map e_L_u8)])], [], [], []⟩ [.sl 1 (b.map e_u8), .agg [.int .i64 f.Code, .int .i64 f.At], .agg [.int .i64 w0.Code, .int .i64 w0.At], .fn 40 [.ptr 100000 0]] (.bool r) ⟨[], [(100000, [.sl 1 (box.map e_L_u8)])], [], [], []⟩ := by
  refine Pe_of (N := 22) (res := [.tmp 8]) (ts := [4]) Ty.ok Fn.b17 Try.func17 rfl rfl rfl rfl rfl rfl ?_
  intro Q g hfin
  unfold law_bytesAs_v2 at hF
  refine Wk_seq ?_
  refine WR [] [0, 3, 5, 6] [5, 6, 100000] [] [] [] [] ⟨[(0, .sl 1 (b.map e_u8)), (3, .fn 40 [.ptr 100000 0]), (5, .ptr 5 0), (6, .ptr 6 0)], [(5, [.int .i64 f.Code, .int .i64 f.At]), (6, [.int .i64 w0.Code, .int .i64 w0.At]), (100000, [.sl 1 (box.map e_L_u8)])], [], [], []⟩ .nil (by kernel_rfl) ?_
  refine Wk_seq ?_
  refine Wk_seq ?_
  refine WR [] [0, 3, 6, 11] [6, 100000] [] [] [] [] ⟨[(0, .sl 1 (b.map e_u8)), (3, .fn 40 [.ptr 100000 0]), (6, .ptr 6 0), (11, .bool (!(decide (f.Code = w0.Code) && (decide (f.At = w0.At) && true))))], [(6, [.int .i64 w0.Code, .int .i64 w0.At]), (100000, [.sl 1 (box.map e_L_u8)])], [], [], []⟩ .nil (by kernel_rfl) ?_
  refine Wk_split rfl (fun hb => ?_) (fun hb => ?_)
  · have hF := ite_t hF hb
    refine Wk_seq ?_
    refine WR [] [8] [100000] [] [] [] [] ⟨[(8, .bool false)], [(100000, [.sl 1 (box.map e_L_u8)])], [], [], []⟩ .nil (by kernel_rfl) ?_
    have hF := some_elim hF
    exact Wk_ret (hfin _ ⟨[], [100000], [], [], [], [], by first | (rw [← hF]; kernel_rfl) | kernel_rfl⟩)
  · have hF := ite_f hF hb
    refine Wk_skip ?_
    refine Wk_seq ?_
    refine Wk_seq ?_
    refine WR [] [0, 3, 14] [100000] [] [] [] [] ⟨[(0, .sl 1 (b.map e_u8)), (3, .fn 40 [.ptr 100000 0]), (14, .bool (!decide (w0.Code = 0)))], [(100000, [.sl 1 (box.map e_L_u8)])], [], [], []⟩ .nil (by kernel_rfl) ?_
    refine Wk_split rfl (fun hb => ?_) (fun hb => ?_)
    · have hF := ite_t hF hb
      refine Wk_seq ?_
      refine WR [.nat (b.length : Int)] [8] [100000] [] [] [] [] ⟨[(8, .bool (decide ((b.length : Int) = 0)))], [(100000, [.sl 1 (box.map e_L_u8)])], [], [], []⟩ (.cons (len_ok e_u8 b) .nil) (by kernel_rfl) ?_
      have hF := some_elim hF
      exact Wk_ret (hfin _ ⟨[], [100000], [], [], [], [], by first | (rw [← hF]; kernel_rfl) | kernel_rfl⟩)
    · have hF := ite_f hF hb
      refine Wk_skip ?_
      refine Wk_seq ?_
      obtain ⟨x, h0, hF⟩ := ob_elim hF
      obtain ⟨x1, h1, hF⟩ := lt_split hF
      refine WR [.callR [100000] [] [] [] (.sl 1 (x.map e_u8)), .callB (.bool x1)] [8] [100000] [] [] [] [] ⟨[(8, .bool x1)], [(100000, [.sl 1 (box.map e_L_u8)])], [], [], []⟩ (.cons (Pe.ren (law_WireFrames_1_v1_ok box x h0) ⟨[], [], [], []⟩) (.cons (R_Same_ok b x x1 h1) .nil)) (by kernel_rfl) ?_
      have hF := some_elim hF
      exact Wk_ret (hfin _ ⟨[], [100000], [], [], [], [], by first | (rw [← hF]; kernel_rfl) | kernel_rfl⟩)

/- tabularylaw.WireFrames -/
noncomputable def law_WireFrames_J1 (l : List (List UInt8)) (b : List UInt8) (v : Int) : Option Bool :=
  if (decide (200000 < v)) = true then
    some true
  else
    ob (law_ownBytes_v1 b) fun x1 =>
    ob (wire_Sum x1) fun x2 =>
    ob (law_ownBodies_v1 l) fun x3 =>
    ob (wire_Frames_v1 x3) fun x4 =>
    ob (law_ownBytes_v1 b) fun x5 =>
    ob (wire_Open_v1 x5) fun x6 =>
    ob (
      if (decide (60000 < (b.length : Int))) = true then
        lt (R_F 8 0) fun x7 =>
        some (x2.2, x4.2, x6.2.2, x7)
      else
        some (x2.2, x4.2, x6.2.2, (⟨0, 0⟩ : Fault))) fun (v1 : Fault × Fault × Fault × Fault) =>
    ob (if (decide (v1.2.2.2.Code = 0)) = true then (if (!(!(decide (v1.1.Code = v1.2.2.2.Code) && (decide (v1.1.At = v1.2.2.2.At) && true)))) = true then (R_Rest b) else some default) else some default) fun x8 =>
    if (((!(decide (v1.1.Code = v1.2.2.2.Code) && (decide (v1.1.At = v1.2.2.2.At) && true))) || ((decide (v1.2.2.2.Code = 0)) && (!decide (x2.1 = x8)))) || ((!decide (v1.2.2.2.Code = 0)) && (!decide (x2.1 = 0)))) = true then
      some false
    else
      ob (
        if (decide (v1.2.2.2.Code = 0)) = true then
          ob (R_Unframed_v1 b) fun x9 =>
          if (decide (1000 < (x9.1.length : Int))) = true then
            lt (R_F 2 0) fun x10 =>
            some (v1.2.1, v1.2.2.1, x10, ([] : List (List UInt8)), 0)
          else
            some (v1.2.1, v1.2.2.1, v1.2.2.2, x9.1, x9.2)
        else
          some (v1.2.1, v1.2.2.1, v1.2.2.2, ([] : List (List UInt8)), 0)) fun (v2 : Fault × Fault × Fault × List (List UInt8) × Int) =>
      ob (if (!((!(decide (v2.2.1.Code = v2.2.2.1.Code) && (decide (v2.2.1.At = v2.2.2.1.At) && true))) || (!decide (x6.2.1 = v2.2.2.2.2)))) = true then (R_SameBodies x6.1 v2.2.2.2.1) else some default) fun x11 =>
      if (((!(decide (v2.2.1.Code = v2.2.2.1.Code) && (decide (v2.2.1.At = v2.2.2.1.At) && true))) || (!decide (x6.2.1 = v2.2.2.2.2))) || (!x11)) = true then
        some false
      else
        ob (
          if (decide (1000 < (l.length : Int))) = true then
            lt (R_F 2 0) fun x12 =>
            some (v2.1, x12)
          else
            if (decide (60000 < v)) = true then
              lt (R_F 9 0) fun x13 =>
              some (v2.1, x13)
            else
              some (v2.1, (⟨0, 0⟩ : Fault))) fun (v3 : Fault × Fault) =>
        ob (law_bytesAs_v2 x4.1 v3.1 v3.2 l) fun x14 =>
        some x14
noncomputable def law_WireFrames_B1 (l : List (List UInt8)) (b : List UInt8) (v4 : Int × Int) : Option ((Int × Int) ⊕ Bool) :=
  if (decide (v4.2 < (l.length : Int))) = true then
    asrt (0 ≤ v4.2 ∧ v4.2 < (l.length : Int)) <|
    some (Sum.inl (w64 ((w64 (v4.1 + ((lget l v4.2).length : Int))) + 6), w64 (v4.2 + 1)))
  else
    inrO (law_WireFrames_J1 l b v4.1)
noncomputable def law_WireFrames_L1 (l : List (List UInt8)) (b : List UInt8) (v0 : Int × Int) : Option Bool :=
  loopO (fun y => law_WireFrames_B1 l b y) v0
noncomputable def law_WireFrames (l : List (List UInt8)) (b : List UInt8) : Option Bool :=
  ob (law_wireBegun) fun x =>
  if (!x) = true then
    some false
  else
    if ((decide (3000 < (l.length : Int))) || (decide (100000 < (b.length : Int)))) = true then
      some true
    else
      law_WireFrames_L1 l b (0, 0)
theorem law_WireFrames_ok (l : List (List UInt8)) (b : List UInt8) (r : Bool) (hF : law_WireFrames l b = some r) : Pe Try.prog 8 S.none [.sl 1 (l.map e_L_u8), .sl 1 (b.map e_u8)] (.bool r) S.none := by
  refine Pe_of (N := 129) (res := [.tmp 4]) (ts := [4]) Ty.ok Fn.b8 Try.func8 rfl rfl rfl rfl rfl rfl ?_
  intro Q g hfin
  unfold law_WireFrames at hF
  refine Wk_seq ?_
  refine WR [] [1, 2] [2] [] [] [] [] ⟨[(1, .sl 1 (b.map e_u8)), (2, .ptr 2 0)], [(2, [.sl 1 (l.map e_L_u8)])], [], [], []⟩ .nil (by kernel_rfl) ?_
  refine Wk_seq ?_
  refine Wk_seq ?_
  obtain ⟨x, h0, hF⟩ := ob_elim hF
  refine WR [.callB (.bool x)] [1, 2, 18] [2] [] [] [] [] ⟨[(1, .sl 1 (b.map e_u8)), (2, .ptr 2 0), (18, .bool (!x))], [(2, [.sl 1 (l.map e_L_u8)])], [], [], []⟩ (.cons (law_wireBegun_ok  x h0) .nil) (by kernel_rfl) ?_
  refine Wk_split rfl (fun hb => ?_) (fun hb => ?_)
  · have hF := ite_t hF hb
    refine Wk_seq ?_
    refine WR [] [4] [] [] [] [] [] ⟨[(4, .bool false)], [], [], [], []⟩ .nil (by kernel_rfl) ?_
    have hF := some_elim hF
    exact Wk_ret (hfin _ ⟨[], [], [], [], [], [], by first | (rw [← hF]; kernel_rfl) | kernel_rfl⟩)
  · have hF := ite_f hF hb
    refine Wk_skip ?_
    refine Wk_seq ?_
    refine Wk_seq ?_
    refine WR [.nat (l.length : Int), .nat (b.length : Int)] [1, 2, 26] [2] [] [] [] [] ⟨[(1, .sl 1 (b.map e_u8)), (2, .ptr 2 0), (26, .bool ((decide (3000 < (l.length : Int))) || (decide (100000 < (b.length : Int)))))], [(2, [.sl 1 (l.map e_L_u8)])], [], [], []⟩ (.cons (len_ok e_L_u8 l) (.cons (fun (_ : (!(decide (3000 < (l.length : Int)))) = true) => (len_ok e_u8 b)) .nil)) (by kernel_rfl) ?_
    refine Wk_split rfl (fun hb => ?_) (fun hb => ?_)
    · have hF := ite_t hF hb
      refine Wk_seq ?_
      refine WR [] [4] [] [] [] [] [] ⟨[(4, .bool true)], [], [], [], []⟩ .nil (by kernel_rfl) ?_
      have hF := some_elim hF
      exact Wk_ret (hfin _ ⟨[], [], [], [], [], [], by first | (rw [← hF]; kernel_rfl) | kernel_rfl⟩)
    · have hF := ite_f hF hb
      refine Wk_skip ?_
      refine Wk_seq ?_
      refine WR [] [1, 2, 5] [2] [] [] [] [] ⟨[(1, .sl 1 (b.map e_u8)), (2, .ptr 2 0), (5, .int .i64 0)], [(2, [.sl 1 (l.map e_L_u8)])], [], [], []⟩ .nil (by kernel_rfl) ?_
      refine Wk_seq ?_
      refine Wk_seq ?_
      refine WR [] [1, 2, 5, 6] [2] [] [] [] [] ⟨[(1, .sl 1 (b.map e_u8)), (2, .ptr 2 0), (5, .int .i64 0), (6, .int .i64 0)], [(2, [.sl 1 (l.map e_L_u8)])], [], [], []⟩ .nil (by kernel_rfl) ?_
      refine Wk_meetP (fun v : Int => (⟨[(1, .sl 1 (b.map e_u8)), (2, .ptr 2 0), (5, .int .i64 v)], [(2, [.sl 1 (l.map e_L_u8)])], [], [], []⟩ : S)) (fun v => law_WireFrames_J1 l b v = some r) ?_ ?_
      · refine Wk_block ?_
        unfold law_WireFrames_L1 at hF
        refine Wk_trim (fs := [1, 2, 5, 6]) (bs := [2]) (rs := []) (ms := []) (aa := []) (nv := []) (t := (fun v4 : Int × Int => (⟨[(1, .sl 1 (b.map e_u8)), (2, .ptr 2 0), (5, .int .i64 v4.1), (6, .int .i64 v4.2)], [(2, [.sl 1 (l.map e_L_u8)])], [], [], []⟩ : S)) (0, 0)) (by kernel_rfl) ?_
        refine Wk_iter (step := fun y => law_WireFrames_B1 l b y) (r := r) (fun v4 : Int × Int => (⟨[(1, .sl 1 (b.map e_u8)), (2, .ptr 2 0), (5, .int .i64 v4.1), (6, .int .i64 v4.2)], [(2, [.sl 1 (l.map e_L_u8)])], [], [], []⟩ : S)) (0, 0) hF ?_
        intro n1 v4 y1 hF ih1 dn1
        have hF : law_WireFrames_B1 l b v4 = some y1 := hF
        unfold law_WireFrames_B1 at hF
        refine Wk_seq ?_
        refine Wk_seq ?_
        refine WR [.nat (l.length : Int)] [1, 2, 5, 6, 30] [2] [] [] [] [] ⟨[(1, .sl 1 (b.map e_u8)), (2, .ptr 2 0), (5, .int .i64 v4.1), (6, .int .i64 v4.2), (30, .bool (decide (v4.2 < (l.length : Int))))], [(2, [.sl 1 (l.map e_L_u8)])], [], [], []⟩ (.cons (len_ok e_L_u8 l) .nil) (by kernel_rfl) ?_
        refine Wk_split rfl (fun hb => ?_) (fun hb => ?_)
        · have hF := ite_t hF hb
          refine Wk_skip ?_
          refine Wk_seq ?_
          refine Wk_block ?_
          obtain ⟨h15, hF⟩ := asrt_elim hF
          refine WR [.av (e_L_u8 (lget l v4.2)), .nat ((lget l v4.2).length : Int)] [1, 2, 5, 6] [2] [] [] [] [] ⟨[(1, .sl 1 (b.map e_u8)), (2, .ptr 2 0), (5, .int .i64 (w64 ((w64 (v4.1 + ((lget l v4.2).length : Int))) + 6))), (6, .int .i64 v4.2)], [(2, [.sl 1 (l.map e_L_u8)])], [], [], []⟩ (.cons (idx_ok e_L_u8 h15) (.cons (len_ok e_u8 (lget l v4.2)) .nil)) (by kernel_rfl) ?_
          refine Wk_blk ?_
          refine WR [] [1, 2, 5, 6] [2] [] [] [] [] ⟨[(1, .sl 1 (b.map e_u8)), (2, .ptr 2 0), (5, .int .i64 (w64 ((w64 (v4.1 + ((lget l v4.2).length : Int))) + 6))), (6, .int .i64 (w64 (v4.2 + 1)))], [(2, [.sl 1 (l.map e_L_u8)])], [], [], []⟩ .nil (by kernel_rfl) ?_
          refine Wk_trim (fs := [1, 2, 5, 6]) (bs := [2]) (rs := []) (ms := []) (aa := []) (nv := []) ?_ (ih1 _ (some_elim hF).symm)
          kernel_rfl
        · have hF := ite_f hF hb
          refine Wk_exit rfl ?_
          have hF := inrO_done hF dn1
          exact Wk_metP v4.1 [1, 2, 5] [2] [] [] [] [] hF (by kernel_rfl)
      · intro v hF
        have hF : law_WireFrames_J1 l b v = some r := hF
        unfold law_WireFrames_J1 at hF
        refine Wk_seq ?_
        refine Wk_seq ?_
        refine WR [] [1, 2, 5, 42] [2] [] [] [] [] ⟨[(1, .sl 1 (b.map e_u8)), (2, .ptr 2 0), (5, .int .i64 v), (42, .bool (decide (200000 < v)))], [(2, [.sl 1 (l.map e_L_u8)])], [], [], []⟩ .nil (by kernel_rfl) ?_
        refine Wk_split rfl (fun hb => ?_) (fun hb => ?_)
        · have hF := ite_t hF hb
          refine Wk_seq ?_
          refine WR [] [4] [] [] [] [] [] ⟨[(4, .bool true)], [], [], [], []⟩ .nil (by kernel_rfl) ?_
          have hF := some_elim hF
          exact Wk_ret (hfin _ ⟨[], [], [], [], [], [], by first | (rw [← hF]; kernel_rfl) | kernel_rfl⟩)
        · have hF := ite_f hF hb
          refine Wk_skip ?_
          refine Wk_seq ?_
          obtain ⟨x1, h1, hF⟩ := ob_elim hF
          obtain ⟨x2, h2, hF⟩ := ob_elim hF
          refine WR [.call (.sl 1 (x1.map e_u8)), .callB (.tup [.int .u32 x2.1, .agg [.int .i64 x2.2.Code, .int .i64 x2.2.At]])] [1, 2, 5, 7, 8] [2, 8] [] [] [] [] ⟨[(1, .sl 1 (b.map e_u8)), (2, .ptr 2 0), (5, .int .i64 v), (7, .int .u32 x2.1), (8, .ptr 8 0)], [(2, [.sl 1 (l.map e_L_u8)]), (8, [.int .i64 x2.2.Code, .int .i64 x2.2.At])], [], [], []⟩ (.cons (law_ownBytes_v1_ok b x1 h1) (.cons (wire_Sum_ok x1 x2 h2) .nil)) (by kernel_rfl) ?_
          refine Wk_seq ?_
          obtain ⟨x3, h3, hF⟩ := ob_elim hF
          obtain ⟨x4, h4, hF⟩ := ob_elim hF
          refine WR [.call (.sl 1 (x3.map e_L_u8)), .call (.tup [.sl 1 (x4.1.map e_u8), .agg [.int .i64 x4.2.Code, .int .i64 x4.2.At]])] [1, 2, 5, 7, 8, 9, 10] [2, 8, 10] [] [] [] [] ⟨[(1, .sl 1 (b.map e_u8)), (2, .ptr 2 0), (5, .int .i64 v), (7, .int .u32 x2.1), (8, .ptr 8 0), (9, .sl 1 (x4.1.map e_u8)), (10, .ptr 10 0)], [(2, [.sl 1 (l.map e_L_u8)]), (8, [.int .i64 x2.2.Code, .int .i64 x2.2.At]), (10, [.int .i64 x4.2.Code, .int .i64 x4.2.At])], [], [], []⟩ (.cons (law_ownBodies_v1_ok l x3 h3) (.cons (wire_Frames_v1_ok x3 x4 h4) .nil)) (by kernel_rfl) ?_
          refine Wk_seq ?_
          obtain ⟨x5, h5, hF⟩ := ob_elim hF
          obtain ⟨x6, h6, hF⟩ := ob_elim hF
          refine WR [.call (.sl 1 (x5.map e_u8)), .call (.tup [.sl 1 (x6.1.map e_L_u8), .int .i64 x6.2.1, .agg [.int .i64 x6.2.2.Code, .int .i64 x6.2.2.At]])] [1, 2, 5, 7, 8, 9, 10, 11, 12, 13] [2, 8, 10, 13] [] [] [] [] ⟨[(1, .sl 1 (b.map e_u8)), (2, .ptr 2 0), (5, .int .i64 v), (7, .int .u32 x2.1), (8, .ptr 8 0), (9, .sl 1 (x4.1.map e_u8)), (10, .ptr 10 0), (11, .sl 1 (x6.1.map e_L_u8)), (12, .int .i64 x6.2.1), (13, .ptr 13 0)], [(2, [.sl 1 (l.map e_L_u8)]), (8, [.int .i64 x2.2.Code, .int .i64 x2.2.At]), (10, [.int .i64 x4.2.Code, .int .i64 x4.2.At]), (13, [.int .i64 x6.2.2.Code, .int .i64 x6.2.2.At])], [], [], []⟩ (.cons (law_ownBytes_v1_ok b x5 h5) (.cons (wire_Open_v1_ok x5 x6 h6) .nil)) (by kernel_rfl) ?_
          refine Wk_seq ?_
          refine WR [] [1, 2, 5, 7, 8, 9, 10, 11, 12, 13, 14] [2, 8, 10, 13, 14] [] [] [] [] ⟨[(1, .sl 1 (b.map e_u8)), (2, .ptr 2 0), (5, .int .i64 v), (7, .int .u32 x2.1), (8, .ptr 8 0), (9, .sl 1 (x4.1.map e_u8)), (10, .ptr 10 0), (11, .sl 1 (x6.1.map e_L_u8)), (12, .int .i64 x6.2.1), (13, .ptr 13 0), (14, .ptr 14 0)], [(2, [.sl 1 (l.map e_L_u8)]), (8, [.int .i64 x2.2.Code, .int .i64 x2.2.At]), (10, [.int .i64 x4.2.Code, .int .i64 x4.2.At]), (13, [.int .i64 x6.2.2.Code, .int .i64 x6.2.2.At]), (14, [.int .i64 0, .int .i64 0])], [], [], []⟩ .nil (by kernel_rfl) ?_
          refine Wk_seq ?_
          refine Wk_seq ?_
          refine WR [.nat (b.length : Int)] [1, 2, 5, 7, 8, 9, 10, 11, 12, 13, 14, 65] [2, 8, 10, 13, 14] [] [] [] [] ⟨[(1, .sl 1 (b.map e_u8)), (2, .ptr 2 0), (5, .int .i64 v), (7, .int .u32 x2.1), (8, .ptr 8 0), (9, .sl 1 (x4.1.map e_u8)), (10, .ptr 10 0), (11, .sl 1 (x6.1.map e_L_u8)), (12, .int .i64 x6.2.1), (13, .ptr 13 0), (14, .ptr 14 0), (65, .bool (decide (60000 < (b.length : Int))))], [(2, [.sl 1 (l.map e_L_u8)]), (8, [.int .i64 x2.2.Code, .int .i64 x2.2.At]), (10, [.int .i64 x4.2.Code, .int .i64 x4.2.At]), (13, [.int .i64 x6.2.2.Code, .int .i64 x6.2.2.At]), (14, [.int .i64 0, .int .i64 0])], [], [], []⟩ (.cons (len_ok e_u8 b) .nil) (by kernel_rfl) ?_
          obtain ⟨v1, hv, hF⟩ := ob_elim hF
          refine Wk_meet (⟨[(1, .sl 1 (b.map e_u8)), (2, .ptr 2 0), (5, .int .i64 v), (7, .int .u32 x2.1), (8, .ptr 8 0), (9, .sl 1 (x4.1.map e_u8)), (10, .ptr 10 0), (11, .sl 1 (x6.1.map e_L_u8)), (12, .int .i64 x6.2.1), (13, .ptr 13 0), (14, .ptr 14 0)], [(2, [.sl 1 (l.map e_L_u8)]), (8, [.int .i64 v1.1.Code, .int .i64 v1.1.At]), (10, [.int .i64 v1.2.1.Code, .int .i64 v1.2.1.At]), (13, [.int .i64 v1.2.2.1.Code, .int .i64 v1.2.2.1.At]), (14, [.int .i64 v1.2.2.2.Code, .int .i64 v1.2.2.2.At])], [], [], []⟩ : S) ?_ ?_
          · have hF := hv
            refine Wk_split rfl (fun hb => ?_) (fun hb => ?_)
            · have hF := ite_t hF hb
              obtain ⟨x7, h7, hF⟩ := lt_split hF
              refine WR [.callB (.agg [.int .i64 x7.Code, .int .i64 x7.At])] [1, 2, 5, 7, 8, 9, 10, 11, 12, 13, 14] [2, 8, 10, 13, 14] [] [] [] [] ⟨[(1, .sl 1 (b.map e_u8)), (2, .ptr 2 0), (5, .int .i64 v), (7, .int .u32 x2.1), (8, .ptr 8 0), (9, .sl 1 (x4.1.map e_u8)), (10, .ptr 10 0), (11, .sl 1 (x6.1.map e_L_u8)), (12, .int .i64 x6.2.1), (13, .ptr 13 0), (14, .ptr 14 0)], [(2, [.sl 1 (l.map e_L_u8)]), (8, [.int .i64 x2.2.Code, .int .i64 x2.2.At]), (10, [.int .i64 x4.2.Code, .int .i64 x4.2.At]), (13, [.int .i64 x6.2.2.Code, .int .i64 x6.2.2.At]), (14, [.int .i64 x7.Code, .int .i64 x7.At])], [], [], []⟩ (.cons (R_F_ok 8 0 x7 h7) .nil) (by kernel_rfl) ?_
              exact Wk_met (fs := [1, 2, 5, 7, 8, 9, 10, 11, 12, 13, 14]) (bs := [2, 8, 10, 13, 14]) (rs := []) (ms := []) (aa := []) (nv := []) (by first | (rw [← some_elim hF]; kernel_rfl) | kernel_rfl)
            · have hF := ite_f hF hb
              refine Wk_skip ?_
              exact Wk_met (fs := [1, 2, 5, 7, 8, 9, 10, 11, 12, 13, 14]) (bs := [2, 8, 10, 13, 14]) (rs := []) (ms := []) (aa := []) (nv := []) (by first | (rw [← some_elim hF]; kernel_rfl) | kernel_rfl)
          · refine Wk_seq ?_
            refine Wk_seq ?_
            obtain ⟨x8, h8, hF⟩ := ob_elim hF
            refine WR [.callB (.int .u32 x8)] [1, 2, 5, 9, 10, 11, 12, 13, 14, 89] [2, 10, 13, 14] [] [] [] [] ⟨[(1, .sl 1 (b.map e_u8)), (2, .ptr 2 0), (5, .int .i64 v), (9, .sl 1 (x4.1.map e_u8)), (10, .ptr 10 0), (11, .sl 1 (x6.1.map e_L_u8)), (12, .int .i64 x6.2.1), (13, .ptr 13 0), (14, .ptr 14 0), (89, .bool (((!(decide (v1.1.Code = v1.2.2.2.Code) && (decide (v1.1.At = v1.2.2.2.At) && true))) || ((decide (v1.2.2.2.Code = 0)) && (!decide (x2.1 = x8)))) || ((!decide (v1.2.2.2.Code = 0)) && (!decide (x2.1 = 0)))))], [(2, [.sl 1 (l.map e_L_u8)]), (10, [.int .i64 v1.2.1.Code, .int .i64 v1.2.1.At]), (13, [.int .i64 v1.2.2.1.Code, .int .i64 v1.2.2.1.At]), (14, [.int .i64 v1.2.2.2.Code, .int .i64 v1.2.2.2.At])], [], [], []⟩ (.cons (fun (ga0 : (decide (v1.2.2.2.Code = 0)) = true) (ga1 : (!(!(decide (v1.1.Code = v1.2.2.2.Code) && (decide (v1.1.At = v1.2.2.2.At) && true)))) = true) => (R_Rest_ok b x8 (ite_t (ite_t h8 ga0) ga1))) .nil) (by kernel_rfl) ?_
            refine Wk_split rfl (fun hb => ?_) (fun hb => ?_)
            · have hF := ite_t hF hb
              refine Wk_seq ?_
              refine WR [] [4] [] [] [] [] [] ⟨[(4, .bool false)], [], [], [], []⟩ .nil (by kernel_rfl) ?_
              have hF := some_elim hF
              exact Wk_ret (hfin _ ⟨[], [], [], [], [], [], by first | (rw [← hF]; kernel_rfl) | kernel_rfl⟩)
            · have hF := ite_f hF hb
              refine Wk_skip ?_
              refine Wk_seq ?_
              refine WR [] [1, 2, 5, 9, 10, 11, 12, 13, 14, 15, 16] [2, 10, 13, 14] [] [] [] [] ⟨[(1, .sl 1 (b.map e_u8)), (2, .ptr 2 0), (5, .int .i64 v), (9, .sl 1 (x4.1.map e_u8)), (10, .ptr 10 0), (11, .sl 1 (x6.1.map e_L_u8)), (12, .int .i64 x6.2.1), (13, .ptr 13 0), (14, .ptr 14 0), (15, .nils), (16, .int .i64 0)], [(2, [.sl 1 (l.map e_L_u8)]), (10, [.int .i64 v1.2.1.Code, .int .i64 v1.2.1.At]), (13, [.int .i64 v1.2.2.1.Code, .int .i64 v1.2.2.1.At]), (14, [.int .i64 v1.2.2.2.Code, .int .i64 v1.2.2.2.At])], [], [], []⟩ .nil (by kernel_rfl) ?_
              refine Wk_seq ?_
              refine Wk_seq ?_
              refine WR [] [1, 2, 5, 9, 10, 11, 12, 13, 14, 15, 16, 92] [2, 10, 13, 14] [] [] [] [] ⟨[(1, .sl 1 (b.map e_u8)), (2, .ptr 2 0), (5, .int .i64 v), (9, .sl 1 (x4.1.map e_u8)), (10, .ptr 10 0), (11, .sl 1 (x6.1.map e_L_u8)), (12, .int .i64 x6.2.1), (13, .ptr 13 0), (14, .ptr 14 0), (15, .nils), (16, .int .i64 0), (92, .bool (decide (v1.2.2.2.Code = 0)))], [(2, [.sl 1 (l.map e_L_u8)]), (10, [.int .i64 v1.2.1.Code, .int .i64 v1.2.1.At]), (13, [.int .i64 v1.2.2.1.Code, .int .i64 v1.2.2.1.At]), (14, [.int .i64 v1.2.2.2.Code, .int .i64 v1.2.2.2.At])], [], [], []⟩ .nil (by kernel_rfl) ?_
              obtain ⟨v2, hv, hF⟩ := ob_elim hF
              refine Wk_meet (⟨[(2, .ptr 2 0), (5, .int .i64 v), (9, .sl 1 (x4.1.map e_u8)), (10, .ptr 10 0), (11, .sl 1 (x6.1.map e_L_u8)), (12, .int .i64 x6.2.1), (13, .ptr 13 0), (14, .ptr 14 0), (15, .sl 1 (v2.2.2.2.1.map e_L_u8)), (16, .int .i64 v2.2.2.2.2)], [(2, [.sl 1 (l.map e_L_u8)]), (10, [.int .i64 v2.1.Code, .int .i64 v2.1.At]), (13, [.int .i64 v2.2.1.Code, .int .i64 v2.2.1.At]), (14, [.int .i64 v2.2.2.1.Code, .int .i64 v2.2.2.1.At])], [], [], []⟩ : S) ?_ ?_
              · have hF := hv
                refine Wk_split rfl (fun hb => ?_) (fun hb => ?_)
                · have hF := ite_t hF hb
                  refine Wk_seq ?_
                  obtain ⟨x9, h9, hF⟩ := ob_elim hF
                  refine WR [.call (.tup [.sl 1 (x9.1.map e_L_u8), .int .i64 x9.2])] [2, 5, 9, 10, 11, 12, 13, 14, 15, 16] [2, 10, 13, 14] [] [] [] [] ⟨[(2, .ptr 2 0), (5, .int .i64 v), (9, .sl 1 (x4.1.map e_u8)), (10, .ptr 10 0), (11, .sl 1 (x6.1.map e_L_u8)), (12, .int .i64 x6.2.1), (13, .ptr 13 0), (14, .ptr 14 0), (15, .sl 1 (x9.1.map e_L_u8)), (16, .int .i64 x9.2)], [(2, [.sl 1 (l.map e_L_u8)]), (10, [.int .i64 v1.2.1.Code, .int .i64 v1.2.1.At]), (13, [.int .i64 v1.2.2.1.Code, .int .i64 v1.2.2.1.At]), (14, [.int .i64 v1.2.2.2.Code, .int .i64 v1.2.2.2.At])], [], [], []⟩ (.cons (R_Unframed_v1_ok b x9 h9) .nil) (by kernel_rfl) ?_
                  refine Wk_seq ?_
                  refine WR [.nat (x9.1.length : Int)] [2, 5, 9, 10, 11, 12, 13, 14, 15, 16, 100] [2, 10, 13, 14] [] [] [] [] ⟨[(2, .ptr 2 0), (5, .int .i64 v), (9, .sl 1 (x4.1.map e_u8)), (10, .ptr 10 0), (11, .sl 1 (x6.1.map e_L_u8)), (12, .int .i64 x6.2.1), (13, .ptr 13 0), (14, .ptr 14 0), (15, .sl 1 (x9.1.map e_L_u8)), (16, .int .i64 x9.2), (100, .bool (decide (1000 < (x9.1.length : Int))))], [(2, [.sl 1 (l.map e_L_u8)]), (10, [.int .i64 v1.2.1.Code, .int .i64 v1.2.1.At]), (13, [.int .i64 v1.2.2.1.Code, .int .i64 v1.2.2.1.At]), (14, [.int .i64 v1.2.2.2.Code, .int .i64 v1.2.2.2.At])], [], [], []⟩ (.cons (len_ok e_L_u8 x9.1) .nil) (by kernel_rfl) ?_
                  refine Wk_split rfl (fun hb => ?_) (fun hb => ?_)
                  · have hF := ite_t hF hb
                    refine Wk_seq ?_
                    obtain ⟨x10, h10, hF⟩ := lt_split hF
                    refine WR [.callB (.agg [.int .i64 x10.Code, .int .i64 x10.At])] [2, 5, 9, 10, 11, 12, 13, 14] [2, 10, 13, 14] [] [] [] [] ⟨[(2, .ptr 2 0), (5, .int .i64 v), (9, .sl 1 (x4.1.map e_u8)), (10, .ptr 10 0), (11, .sl 1 (x6.1.map e_L_u8)), (12, .int .i64 x6.2.1), (13, .ptr 13 0), (14, .ptr 14 0)], [(2, [.sl 1 (l.map e_L_u8)]), (10, [.int .i64 v1.2.1.Code, .int .i64 v1.2.1.At]), (13, [.int .i64 v1.2.2.1.Code, .int .i64 v1.2.2.1.At]), (14, [.int .i64 x10.Code, .int .i64 x10.At])], [], [], []⟩ (.cons (R_F_ok 2 0 x10 h10) .nil) (by kernel_rfl) ?_
                    refine Wk_seq ?_
                    refine WR [] [2, 5, 9, 10, 11, 12, 13, 14, 15] [2, 10, 13, 14] [] [] [] [] ⟨[(2, .ptr 2 0), (5, .int .i64 v), (9, .sl 1 (x4.1.map e_u8)), (10, .ptr 10 0), (11, .sl 1 (x6.1.map e_L_u8)), (12, .int .i64 x6.2.1), (13, .ptr 13 0), (14, .ptr 14 0), (15, .nils)], [(2, [.sl 1 (l.map e_L_u8)]), (10, [.int .i64 v1.2.1.Code, .int .i64 v1.2.1.At]), (13, [.int .i64 v1.2.2.1.Code, .int .i64 v1.2.2.1.At]), (14, [.int .i64 x10.Code, .int .i64 x10.At])], [], [], []⟩ .nil (by kernel_rfl) ?_
                    refine WR [] [2, 5, 9, 10, 11, 12, 13, 14, 15, 16] [2, 10, 13, 14] [] [] [] [] ⟨[(2, .ptr 2 0), (5, .int .i64 v), (9, .sl 1 (x4.1.map e_u8)), (10, .ptr 10 0), (11, .sl 1 (x6.1.map e_L_u8)), (12, .int .i64 x6.2.1), (13, .ptr 13 0), (14, .ptr 14 0), (15, .nils), (16, .int .i64 0)], [(2, [.sl 1 (l.map e_L_u8)]), (10, [.int .i64 v1.2.1.Code, .int .i64 v1.2.1.At]), (13, [.int .i64 v1.2.2.1.Code, .int .i64 v1.2.2.1.At]), (14, [.int .i64 x10.Code, .int .i64 x10.At])], [], [], []⟩ .nil (by kernel_rfl) ?_
                    refine Wk_coe 15 (.sl 1 (([] : List (List UInt8)).map e_L_u8)) rfl (.cell rfl (CoeS.nils 1)) ?_
                    exact Wk_met (fs := [2, 5, 9, 10, 11, 12, 13, 14, 15, 16]) (bs := [2, 10, 13, 14]) (rs := []) (ms := []) (aa := []) (nv := []) (by first | (rw [← some_elim hF]; kernel_rfl) | kernel_rfl)
                  · have hF := ite_f hF hb
                    refine Wk_skip ?_
                    exact Wk_met (fs := [2, 5, 9, 10, 11, 12, 13, 14, 15, 16]) (bs := [2, 10, 13, 14]) (rs := []) (ms := []) (aa := []) (nv := []) (by first | (rw [← some_elim hF]; kernel_rfl) | kernel_rfl)
                · have hF := ite_f hF hb
                  refine Wk_skip ?_
                  refine Wk_coe 15 (.sl 1 (([] : List (List UInt8)).map e_L_u8)) rfl (.cell rfl (CoeS.nils 1)) ?_
                  exact Wk_met (fs := [2, 5, 9, 10, 11, 12, 13, 14, 15, 16]) (bs := [2, 10, 13, 14]) (rs := []) (ms := []) (aa := []) (nv := []) (by first | (rw [← some_elim hF]; kernel_rfl) | kernel_rfl)
              · refine Wk_seq ?_
                refine Wk_seq ?_
                obtain ⟨x11, h11, hF⟩ := ob_elim hF
                refine WR [.callB (.bool x11)] [2, 5, 9, 10, 14, 115] [2, 10, 14] [] [] [] [] ⟨[(2, .ptr 2 0), (5, .int .i64 v), (9, .sl 1 (x4.1.map e_u8)), (10, .ptr 10 0), (14, .ptr 14 0), (115, .bool (((!(decide (v2.2.1.Code = v2.2.2.1.Code) && (decide (v2.2.1.At = v2.2.2.1.At) && true))) || (!decide (x6.2.1 = v2.2.2.2.2))) || (!x11)))], [(2, [.sl 1 (l.map e_L_u8)]), (10, [.int .i64 v2.1.Code, .int .i64 v2.1.At]), (14, [.int .i64 v2.2.2.1.Code, .int .i64 v2.2.2.1.At])], [], [], []⟩ (.cons (fun (ga0 : (!((!(decide (v2.2.1.Code = v2.2.2.1.Code) && (decide (v2.2.1.At = v2.2.2.1.At) && true))) || (!decide (x6.2.1 = v2.2.2.2.2)))) = true) => (R_SameBodies_ok x6.1 v2.2.2.2.1 x11 (ite_t h11 ga0))) .nil) (by kernel_rfl) ?_
                refine Wk_split rfl (fun hb => ?_) (fun hb => ?_)
                · have hF := ite_t hF hb
                  refine Wk_seq ?_
                  refine WR [] [4] [] [] [] [] [] ⟨[(4, .bool false)], [], [], [], []⟩ .nil (by kernel_rfl) ?_
                  have hF := some_elim hF
                  exact Wk_ret (hfin _ ⟨[], [], [], [], [], [], by first | (rw [← hF]; kernel_rfl) | kernel_rfl⟩)
                · have hF := ite_f hF hb
                  refine Wk_skip ?_
                  refine Wk_seq ?_
                  refine WR [] [2, 5, 9, 10, 14] [2, 10, 14] [] [] [] [] ⟨[(2, .ptr 2 0), (5, .int .i64 v), (9, .sl 1 (x4.1.map e_u8)), (10, .ptr 10 0), (14, .ptr 14 0)], [(2, [.sl 1 (l.map e_L_u8)]), (10, [.int .i64 v2.1.Code, .int .i64 v2.1.At]), (14, [.int .i64 0, .int .i64 0])], [], [], []⟩ .nil (by kernel_rfl) ?_
                  refine Wk_seq ?_
                  refine Wk_seq ?_
                  refine WR [.nat (l.length : Int)] [2, 5, 9, 10, 14, 119] [2, 10, 14] [] [] [] [] ⟨[(2, .ptr 2 0), (5, .int .i64 v), (9, .sl 1 (x4.1.map e_u8)), (10, .ptr 10 0), (14, .ptr 14 0), (119, .bool (decide (1000 < (l.length : Int))))], [(2, [.sl 1 (l.map e_L_u8)]), (10, [.int .i64 v2.1.Code, .int .i64 v2.1.At]), (14, [.int .i64 0, .int .i64 0])], [], [], []⟩ (.cons (len_ok e_L_u8 l) .nil) (by kernel_rfl) ?_
                  obtain ⟨v3, hv, hF⟩ := ob_elim hF
                  refine Wk_meet (⟨[(2, .ptr 2 0), (9, .sl 1 (x4.1.map e_u8)), (10, .ptr 10 0), (14, .ptr 14 0)], [(2, [.sl 1 (l.map e_L_u8)]), (10, [.int .i64 v3.1.Code, .int .i64 v3.1.At]), (14, [.int .i64 v3.2.Code, .int .i64 v3.2.At])], [], [], []⟩ : S) ?_ ?_
                  · have hF := hv
                    refine Wk_split rfl (fun hb => ?_) (fun hb => ?_)
                    · have hF := ite_t hF hb
                      obtain ⟨x12, h12, hF⟩ := lt_split hF
                      refine WR [.callB (.agg [.int .i64 x12.Code, .int .i64 x12.At])] [2, 9, 10, 14] [2, 10, 14] [] [] [] [] ⟨[(2, .ptr 2 0), (9, .sl 1 (x4.1.map e_u8)), (10, .ptr 10 0), (14, .ptr 14 0)], [(2, [.sl 1 (l.map e_L_u8)]), (10, [.int .i64 v2.1.Code, .int .i64 v2.1.At]), (14, [.int .i64 x12.Code, .int .i64 x12.At])], [], [], []⟩ (.cons (R_F_ok 2 0 x12 h12) .nil) (by kernel_rfl) ?_
                      exact Wk_met (fs := [2, 9, 10, 14]) (bs := [2, 10, 14]) (rs := []) (ms := []) (aa := []) (nv := []) (by first | (rw [← some_elim hF]; kernel_rfl) | kernel_rfl)
                    · have hF := ite_f hF hb
                      refine Wk_seq ?_
                      refine WR [] [2, 9, 10, 14, 122] [2, 10, 14] [] [] [] [] ⟨[(2, .ptr 2 0), (9, .sl 1 (x4.1.map e_u8)), (10, .ptr 10 0), (14, .ptr 14 0), (122, .bool (decide (60000 < v)))], [(2, [.sl 1 (l.map e_L_u8)]), (10, [.int .i64 v2.1.Code, .int .i64 v2.1.At]), (14, [.int .i64 0, .int .i64 0])], [], [], []⟩ .nil (by kernel_rfl) ?_
                      refine Wk_split rfl (fun hb => ?_) (fun hb => ?_)
                      · have hF := ite_t hF hb
                        obtain ⟨x13, h13, hF⟩ := lt_split hF
                        refine WR [.callB (.agg [.int .i64 x13.Code, .int .i64 x13.At])] [2, 9, 10, 14] [2, 10, 14] [] [] [] [] ⟨[(2, .ptr 2 0), (9, .sl 1 (x4.1.map e_u8)), (10, .ptr 10 0), (14, .ptr 14 0)], [(2, [.sl 1 (l.map e_L_u8)]), (10, [.int .i64 v2.1.Code, .int .i64 v2.1.At]), (14, [.int .i64 x13.Code, .int .i64 x13.At])], [], [], []⟩ (.cons (R_F_ok 9 0 x13 h13) .nil) (by kernel_rfl) ?_
                        exact Wk_met (fs := [2, 9, 10, 14]) (bs := [2, 10, 14]) (rs := []) (ms := []) (aa := []) (nv := []) (by first | (rw [← some_elim hF]; kernel_rfl) | kernel_rfl)
                      · have hF := ite_f hF hb
                        refine Wk_skip ?_
                        exact Wk_met (fs := [2, 9, 10, 14]) (bs := [2, 10, 14]) (rs := []) (ms := []) (aa := []) (nv := []) (by first | (rw [← some_elim hF]; kernel_rfl) | kernel_rfl)
                  · refine Wk_seq ?_
                    obtain ⟨x14, h14, hF⟩ := ob_elim hF
                    refine WR [.callR [2] [] [] [] (.bool x14)] [4] [] [] [] [] [] ⟨[(4, .bool x14)], [], [], [], []⟩ (.cons (Pe.ren (law_bytesAs_v2_ok x4.1 v3.1 v3.2 l x14 h14) ⟨[(100000, 2)], [], [], []⟩) .nil) (by kernel_rfl) ?_
                    have hF := some_elim hF
                    exact Wk_ret (hfin _ ⟨[], [], [], [], [], [], by first | (rw [← hF]; kernel_rfl) | kernel_rfl⟩)

end G
end Go.Proofs.Ytiakadlmebbafaa
