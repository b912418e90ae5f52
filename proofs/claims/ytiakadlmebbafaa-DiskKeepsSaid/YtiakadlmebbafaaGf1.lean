/- The program's functions as plain functions, and that they are these. Written by a program (dec2.py). -/
import Derived.Test.YtiakadlmebbafaaGf0
namespace Go.Proofs.Ytiakadlmebbafaa
open Go Go.Dm
set_option linter.unusedVariables false
set_option linter.unusedSimpArgs false
set_option maxRecDepth 100000
namespace G
/- wire.Opened -/
noncomputable def wire_Opened_J1 (v : List (List UInt8) × Int) : Option (List (List UInt8) × Int) :=
  some (v.1, v.2)
noncomputable def wire_Opened_B1 (b : List UInt8) (v1 : List (List UInt8) × Int) : Option ((List (List UInt8) × Int) ⊕ (List (List UInt8) × Int)) :=
  if (decide (6 ≤ (w64 ((b.length : Int) - v1.2)))) = true then
    asrt (0 ≤ v1.2 ∧ v1.2 < (b.length : Int)) <|
    asrt (0 ≤ w64 (v1.2 + 1) ∧ w64 (v1.2 + 1) < (b.length : Int)) <|
    lt (bitsOp .or .i64 (w64 ((w64 ((lget b v1.2).toNat : Int)) * 2 ^ (min (8 : Int).toNat 64))) (w64 ((lget b (w64 (v1.2 + 1))).toNat : Int))) fun (v2 : Int) =>
    if (decide ((b.length : Int) < (w64 ((w64 ((w64 (v1.2 + 2)) + v2)) + 4)))) = true then
      inrO (wire_Opened_J1 (v1.1, v1.2))
    else
      asrt (0 ≤ v1.2 ∧ v1.2 ≤ w64 ((w64 (v1.2 + 2)) + v2) ∧ w64 ((w64 (v1.2 + 2)) + v2) ≤ (b.length : Int)) <|
      ob (wire_Crc (ldrop (ltake b (w64 ((w64 (v1.2 + 2)) + v2))) v1.2)) fun x =>
      asrt (0 ≤ w64 ((w64 (v1.2 + 2)) + v2) ∧ w64 ((w64 (v1.2 + 2)) + v2) ≤ w64 ((w64 ((w64 (v1.2 + 2)) + v2)) + 4) ∧ w64 ((w64 ((w64 (v1.2 + 2)) + v2)) + 4) ≤ (b.length : Int)) <|
      ob (slices_Equal_byte_byte (ldrop (ltake b (w64 ((w64 ((w64 (v1.2 + 2)) + v2)) + 4))) (w64 ((w64 (v1.2 + 2)) + v2))) ([toU8 (Int.fdiv x (2 ^ (min (24 : Int).toNat 32))), toU8 (Int.fdiv x (2 ^ (min (16 : Int).toNat 32))), toU8 (Int.fdiv x (2 ^ (min (8 : Int).toNat 32))), toU8 x] : List UInt8)) fun x1 =>
      if (!x1) = true then
        inrO (wire_Opened_J1 (v1.1, v1.2))
      else
        asrt (0 ≤ w64 (v1.2 + 2) ∧ w64 (v1.2 + 2) ≤ w64 ((w64 (v1.2 + 2)) + v2) ∧ w64 ((w64 (v1.2 + 2)) + v2) ≤ (b.length : Int)) <|
        ob (slices_Clone_byte_byte (ldrop (ltake b (w64 ((w64 (v1.2 + 2)) + v2))) (w64 (v1.2 + 2)))) fun x2 =>
        asrt (((v1.1 ++ ([x2] : List (List UInt8))).length : Int) * 24 ≤ 140737488351232) <|
        some (Sum.inl ((v1.1 ++ ([x2] : List (List UInt8))), w64 ((w64 ((w64 (v1.2 + 2)) + v2)) + 4)))
  else
    inrO (wire_Opened_J1 (v1.1, v1.2))
noncomputable def wire_Opened_L1 (b : List UInt8) (v0 : List (List UInt8) × Int) : Option (List (List UInt8) × Int) :=
  loopO (fun y => wire_Opened_B1 b y) v0
noncomputable def wire_Opened (b : List UInt8) : Option (List (List UInt8) × Int) :=
  wire_Opened_L1 b (([] : List (List UInt8)), 0)
theorem wire_Opened_ok (b : List UInt8) (r : List (List UInt8) × Int) (hF : wire_Opened b = some r) : Pe Try.prog 67 ⟨[], [], [], [], []⟩ [.sl 1 (b.map e_u8)] (.tup [.row 66 0, .int .i64 r.2]) ⟨[], [], [(66, ⟨23, 1, 0, 0, 0, true, 0, [], (r.1.map e_L_u8)⟩)], [], []⟩ := by
  refine Pe_of (N := 71) (res := [.tmp 2, .tmp 3]) (ts := [41, 3]) Ty.ok Fn.b67 Try.func67 rfl rfl rfl rfl rfl rfl ?_
  intro Q g hfin
  unfold wire_Opened at hF
  refine Wk_seq ?_
  refine WR [] [0, 2, 3] [] [] [] [] [] ⟨[(0, .sl 1 (b.map e_u8)), (2, .nils), (3, .int .i64 0)], [], [], [], []⟩ .nil (by kernel_rfl) ?_
  refine Wk_seq ?_
  refine Wk_meetP (fun v : List (List UInt8) × Int => (⟨[(2, .row 66 0), (3, .int .i64 v.2)], [], [(66, ⟨23, 1, 0, 0, 0, true, 0, [], (v.1.map e_L_u8)⟩)], [], []⟩ : S)) (fun v => wire_Opened_J1 v = some r) ?_ ?_
  · refine Wk_block ?_
    unfold wire_Opened_L1 at hF
    refine Wk_nilrow 2 60000 23 1 rfl rfl rfl ?_
    refine Wk_trim (fs := [0, 2, 3]) (bs := []) (rs := [60000]) (ms := []) (aa := []) (nv := []) rfl ?_
    refine Wk_ren' ⟨[], [(60000, 66)], [], []⟩ rfl ?_
    refine Wk_trim (fs := [0, 2, 3]) (bs := []) (rs := [66]) (ms := []) (aa := []) (nv := []) (t := (fun v1 : List (List UInt8) × Int => (⟨[(0, .sl 1 (b.map e_u8)), (2, .row 66 0), (3, .int .i64 v1.2)], [], [(66, ⟨23, 1, 0, 0, 0, true, 0, [], (v1.1.map e_L_u8)⟩)], [], []⟩ : S)) (([] : List (List UInt8)), 0)) (by kernel_rfl) ?_
    refine Wk_iter (step := fun y => wire_Opened_B1 b y) (r := r) (fun v1 : List (List UInt8) × Int => (⟨[(0, .sl 1 (b.map e_u8)), (2, .row 66 0), (3, .int .i64 v1.2)], [], [(66, ⟨23, 1, 0, 0, 0, true, 0, [], (v1.1.map e_L_u8)⟩)], [], []⟩ : S)) (([] : List (List UInt8)), 0) hF ?_
    intro n1 v1 y1 hF ih1 dn1
    have hF : wire_Opened_B1 b v1 = some y1 := hF
    unfold wire_Opened_B1 at hF
    refine Wk_seq ?_
    refine Wk_seq ?_
    refine WR [.nat (b.length : Int)] [0, 2, 3, 11] [] [66] [] [] [] ⟨[(0, .sl 1 (b.map e_u8)), (2, .row 66 0), (3, .int .i64 v1.2), (11, .bool (decide (6 ≤ (w64 ((b.length : Int) - v1.2)))))], [], [(66, ⟨23, 1, 0, 0, 0, true, 0, [], (v1.1.map e_L_u8)⟩)], [], []⟩ (.cons (len_ok e_u8 b) .nil) (by kernel_rfl) ?_
    refine Wk_split rfl (fun hb => ?_) (fun hb => ?_)
    · have hF := ite_t hF hb
      refine Wk_skip ?_
      refine Wk_block ?_
      refine Wk_seq ?_
      obtain ⟨h0, hF⟩ := asrt_elim hF
      obtain ⟨h1, hF⟩ := asrt_elim hF
      refine WDL (bitsOp .or .i64 (w64 ((w64 ((lget b v1.2).toNat : Int)) * 2 ^ (min (8 : Int).toNat 64))) (w64 ((lget b (w64 (v1.2 + 1))).toNat : Int))) (fun v2 : Int => ⟨[(0, .sl 1 (b.map e_u8)), (2, .row 66 0), (3, .int .i64 v1.2), (4, .int .i64 v2)], [], [(66, ⟨23, 1, 0, 0, 0, true, 0, [], (v1.1.map e_L_u8)⟩)], [], []⟩) [.av (e_u8 (lget b v1.2)), .av (e_u8 (lget b (w64 (v1.2 + 1))))] [0, 2, 3, 4] [] [66] [] [] [] (.cons (idx_ok e_u8 h0) (.cons (by decide : (0 : Int) ≤ 8) (.cons (idx_ok e_u8 h1) .nil))) (by kernel_rfl) (fun v2 hv => ?_)
      have hF := lt_elim hF hv
      refine Wk_seq ?_
      refine WR [] [0, 2, 3, 5] [] [66] [] [] [] ⟨[(0, .sl 1 (b.map e_u8)), (2, .row 66 0), (3, .int .i64 v1.2), (5, .int .i64 (w64 ((w64 (v1.2 + 2)) + v2)))], [], [(66, ⟨23, 1, 0, 0, 0, true, 0, [], (v1.1.map e_L_u8)⟩)], [], []⟩ .nil (by kernel_rfl) ?_
      refine Wk_seq ?_
      refine Wk_seq ?_
      refine WR [.nat (b.length : Int)] [0, 2, 3, 5, 33] [] [66] [] [] [] ⟨[(0, .sl 1 (b.map e_u8)), (2, .row 66 0), (3, .int .i64 v1.2), (5, .int .i64 (w64 ((w64 (v1.2 + 2)) + v2))), (33, .bool (decide ((b.length : Int) < (w64 ((w64 ((w64 (v1.2 + 2)) + v2)) + 4)))))], [], [(66, ⟨23, 1, 0, 0, 0, true, 0, [], (v1.1.map e_L_u8)⟩)], [], []⟩ (.cons (len_ok e_u8 b) .nil) (by kernel_rfl) ?_
      refine Wk_split rfl (fun hb => ?_) (fun hb => ?_)
      · have hF := ite_t hF hb
        refine Wk_exit rfl ?_
        have hF := inrO_done hF dn1
        exact Wk_metP (v1.1, v1.2) [2, 3] [] [66] [] [] [] hF (by kernel_rfl)
      · have hF := ite_f hF hb
        refine Wk_skip ?_
        refine Wk_seq ?_
        obtain ⟨h2, hF⟩ := asrt_elim hF
        obtain ⟨x, h3, hF⟩ := ob_elim hF
        refine WR [.xs ((ldrop (ltake b (w64 ((w64 (v1.2 + 2)) + v2))) v1.2).map e_u8), .callB (.int .u32 x)] [0, 2, 3, 5, 6] [] [66] [] [] [] ⟨[(0, .sl 1 (b.map e_u8)), (2, .row 66 0), (3, .int .i64 v1.2), (5, .int .i64 (w64 ((w64 (v1.2 + 2)) + v2))), (6, .int .u32 x)], [], [(66, ⟨23, 1, 0, 0, 0, true, 0, [], (v1.1.map e_L_u8)⟩)], [], []⟩ (.cons (sl11_ok e_u8 h2) (.cons (wire_Crc_ok (ldrop (ltake b (w64 ((w64 (v1.2 + 2)) + v2))) v1.2) x h3) .nil)) (by kernel_rfl) ?_
        refine Wk_seq ?_
        refine Wk_seq ?_
        obtain ⟨h4, hF⟩ := asrt_elim hF
        obtain ⟨x1, h5, hF⟩ := ob_elim hF
        refine WR [.xs ((ldrop (ltake b (w64 ((w64 ((w64 (v1.2 + 2)) + v2)) + 4))) (w64 ((w64 (v1.2 + 2)) + v2))).map e_u8), .sealed, .callB (.bool x1)] [0, 2, 3, 5, 57] [] [66] [] [] [] ⟨[(0, .sl 1 (b.map e_u8)), (2, .row 66 0), (3, .int .i64 v1.2), (5, .int .i64 (w64 ((w64 (v1.2 + 2)) + v2))), (57, .bool (!x1))], [], [(66, ⟨23, 1, 0, 0, 0, true, 0, [], (v1.1.map e_L_u8)⟩)], [], []⟩ (.cons (sl11_ok e_u8 h4) (.cons (by decide : (0 : Int) ≤ 24) (.cons (by decide : (0 : Int) ≤ 16) (.cons (by decide : (0 : Int) ≤ 8) (.cons (slices_Equal_byte_byte_ok (ldrop (ltake b (w64 ((w64 ((w64 (v1.2 + 2)) + v2)) + 4))) (w64 ((w64 (v1.2 + 2)) + v2))) ([toU8 (Int.fdiv x (2 ^ (min (24 : Int).toNat 32))), toU8 (Int.fdiv x (2 ^ (min (16 : Int).toNat 32))), toU8 (Int.fdiv x (2 ^ (min (8 : Int).toNat 32))), toU8 x] : List UInt8) x1 h5) .nil))))) (by kernel_rfl) ?_
        refine Wk_split rfl (fun hb => ?_) (fun hb => ?_)
        · have hF := ite_t hF hb
          refine Wk_exit rfl ?_
          have hF := inrO_done hF dn1
          exact Wk_metP (v1.1, v1.2) [2, 3] [] [66] [] [] [] hF (by kernel_rfl)
        · have hF := ite_f hF hb
          refine Wk_skip ?_
          refine Wk_seq ?_
          obtain ⟨h6, hF⟩ := asrt_elim hF
          obtain ⟨x2, h7, hF⟩ := ob_elim hF
          obtain ⟨h8, hF⟩ := asrt_elim hF
          refine WR [.xs ((ldrop (ltake b (w64 ((w64 (v1.2 + 2)) + v2))) (w64 (v1.2 + 2))).map e_u8), .callE [] [] [] [] (.row 64 0) ⟨[], [], [(64, ⟨5, 1, 0, 0, 0, false, 0, [], (x2.map e_u8)⟩)], [], []⟩, .sealed, .xs ((v1.1 ++ ([x2] : List (List UInt8))).map e_L_u8)] [0, 2, 5] [] [66] [] [] [] ⟨[(0, .sl 1 (b.map e_u8)), (2, .row 66 1), (5, .int .i64 (w64 ((w64 (v1.2 + 2)) + v2)))], [], [(66, ⟨23, 1, 1, 0, 0, true, 0, [], ((v1.1 ++ ([x2] : List (List UInt8))).map e_L_u8)⟩)], [], []⟩ (.cons (sl11_ok e_u8 h6) (.cons (Pe.ren (slices_Clone_byte_byte_ok (ldrop (ltake b (w64 ((w64 (v1.2 + 2)) + v2))) (w64 (v1.2 + 2))) x2 h7) ⟨[], [(5, 64)], [], []⟩) (.cons (app_ok e_L_u8 v1.1 ([x2] : List (List UInt8))) (.cons (appl_ok e_L_u8 h8) .nil)))) (by kernel_rfl) ?_
          refine WR [] [0, 2, 3] [] [66] [] [] [] ⟨[(0, .sl 1 (b.map e_u8)), (2, .row 66 1), (3, .int .i64 (w64 ((w64 ((w64 (v1.2 + 2)) + v2)) + 4)))], [], [(66, ⟨23, 1, 1, 0, 0, true, 0, [], ((v1.1 ++ ([x2] : List (List UInt8))).map e_L_u8)⟩)], [], []⟩ .nil (by kernel_rfl) ?_
          refine Wk_blk ?_
          refine Wk_trim (fs := [0, 2, 3]) (bs := []) (rs := [66]) (ms := []) (aa := []) (nv := [(66, ⟨0, true, true, false⟩)]) ?_ (ih1 _ (some_elim hF).symm)
          kernel_rfl
    · have hF := ite_f hF hb
      refine Wk_exit rfl ?_
      have hF := inrO_done hF dn1
      exact Wk_metP (v1.1, v1.2) [2, 3] [] [66] [] [] [] hF (by kernel_rfl)
  · intro v hF
    have hF : wire_Opened_J1 v = some r := hF
    unfold wire_Opened_J1 at hF
    refine Wk_seq ?_
    refine WR [] [2, 3] [] [66] [] [] [] ⟨[(2, .row 66 0), (3, .int .i64 v.2)], [], [(66, ⟨23, 1, 0, 0, 0, true, 0, [], (v.1.map e_L_u8)⟩)], [], []⟩ .nil (by kernel_rfl) ?_
    have hF := some_elim hF
    exact Wk_ret (hfin _ ⟨[66], [], [66], [], [], [], by first | (rw [← hF]; kernel_rfl) | kernel_rfl⟩)

/- wire.Open -/
noncomputable def wire_Open (b : List UInt8) : Option (List (List UInt8) × Int × Fault) :=
  if (decide (60000 < (b.length : Int))) = true then
    lt (wire_fault 8 0) fun x =>
    some (([] : List (List UInt8)), 0, x)
  else
    ob (wire_Opened b) fun x1 =>
    if (decide (1000 < (x1.1.length : Int))) = true then
      lt (wire_fault 2 0) fun x2 =>
      some (([] : List (List UInt8)), 0, x2)
    else
      some (x1.1, x1.2, (⟨0, 0⟩ : Fault))
theorem wire_Open_ok (b : List UInt8) (r : List (List UInt8) × Int × Fault) (hF : wire_Open b = some r) : Pe Try.prog 34 ⟨[], [], [], [], []⟩ [.sl 1 (b.map e_u8)] (.tup [.row 13 0, .int .i64 r.2.1, .agg [.int .i64 r.2.2.Code, .int .i64 r.2.2.At]]) ⟨[], [], [(13, ⟨23, 1, 0, 0, 0, true, 0, [], (r.1.map e_L_u8)⟩)], [], []⟩ := by
  refine Pe_of (N := 23) (res := [.tmp 2, .tmp 3, .cell 4 26]) (ts := [41, 3, 26]) Ty.ok Fn.b34 Try.func34 rfl rfl rfl rfl rfl rfl ?_
  intro Q g hfin
  unfold wire_Open at hF
  refine Wk_seq ?_
  refine WR [] [0, 4] [4] [] [] [] [] ⟨[(0, .sl 1 (b.map e_u8)), (4, .ptr 4 0)], [(4, [.int .i64 0, .int .i64 0])], [], [], []⟩ .nil (by kernel_rfl) ?_
  refine Wk_seq ?_
  refine Wk_seq ?_
  refine WR [.nat (b.length : Int)] [0, 4, 9] [4] [] [] [] [] ⟨[(0, .sl 1 (b.map e_u8)), (4, .ptr 4 0), (9, .bool (decide (60000 < (b.length : Int))))], [(4, [.int .i64 0, .int .i64 0])], [], [], []⟩ (.cons (len_ok e_u8 b) .nil) (by kernel_rfl) ?_
  refine Wk_split rfl (fun hb => ?_) (fun hb => ?_)
  · have hF := ite_t hF hb
    refine Wk_seq ?_
    obtain ⟨x, h0, hF⟩ := lt_split hF
    refine WR [.callB (.agg [.int .i64 x.Code, .int .i64 x.At])] [2, 3, 4] [4] [] [] [] [] ⟨[(2, .nils), (3, .int .i64 0), (4, .ptr 4 0)], [(4, [.int .i64 x.Code, .int .i64 x.At])], [], [], []⟩ (.cons (wire_fault_ok 8 0 x h0) .nil) (by kernel_rfl) ?_
    have hF := some_elim hF
    refine Wk_nilrow 2 60000 23 1 rfl rfl rfl ?_
    refine Wk_ren' ⟨[], [(60000, 13)], [], []⟩ rfl ?_
    exact Wk_ret (hfin _ ⟨[13], [], [13], [], [], [], by first | (rw [← hF]; kernel_rfl) | kernel_rfl⟩)
  · have hF := ite_f hF hb
    refine Wk_skip ?_
    refine Wk_seq ?_
    obtain ⟨x1, h1, hF⟩ := ob_elim hF
    refine WR [.callE [] [] [] [] (.tup [.row 13 0, .int .i64 x1.2]) ⟨[], [], [(13, ⟨23, 1, 0, 0, 0, true, 0, [], (x1.1.map e_L_u8)⟩)], [], []⟩] [4, 5, 6] [4] [13] [] [] [] ⟨[(4, .ptr 4 0), (5, .row 13 0), (6, .int .i64 x1.2)], [(4, [.int .i64 0, .int .i64 0])], [(13, ⟨23, 1, 0, 0, 0, true, 0, [], (x1.1.map e_L_u8)⟩)], [], []⟩ (.cons (Pe.ren (wire_Opened_ok b x1 h1) ⟨[], [(66, 13)], [], []⟩) .nil) (by kernel_rfl) ?_
    refine Wk_seq ?_
    refine Wk_seq ?_
    refine WR [.nat (x1.1.length : Int)] [4, 5, 6, 18] [4] [13] [] [] [] ⟨[(4, .ptr 4 0), (5, .row 13 0), (6, .int .i64 x1.2), (18, .bool (decide (1000 < (x1.1.length : Int))))], [(4, [.int .i64 0, .int .i64 0])], [(13, ⟨23, 1, 0, 0, 0, true, 0, [], (x1.1.map e_L_u8)⟩)], [], []⟩ (.cons (len_ok e_L_u8 x1.1) .nil) (by kernel_rfl) ?_
    refine Wk_split rfl (fun hb => ?_) (fun hb => ?_)
    · have hF := ite_t hF hb
      refine Wk_seq ?_
      obtain ⟨x2, h2, hF⟩ := lt_split hF
      refine WR [.callB (.agg [.int .i64 x2.Code, .int .i64 x2.At])] [2, 3, 4] [4] [] [] [] [] ⟨[(2, .nils), (3, .int .i64 0), (4, .ptr 4 0)], [(4, [.int .i64 x2.Code, .int .i64 x2.At])], [], [], []⟩ (.cons (wire_fault_ok 2 0 x2 h2) .nil) (by kernel_rfl) ?_
      have hF := some_elim hF
      refine Wk_nilrow 2 60001 23 1 rfl rfl rfl ?_
      refine Wk_ren' ⟨[], [(60001, 13)], [], []⟩ rfl ?_
      exact Wk_ret (hfin _ ⟨[13], [], [13], [], [], [], by first | (rw [← hF]; kernel_rfl) | kernel_rfl⟩)
    · have hF := ite_f hF hb
      refine Wk_skip ?_
      refine Wk_seq ?_
      refine WR [] [2, 3, 4] [4] [13] [] [] [] ⟨[(2, .row 13 0), (3, .int .i64 x1.2), (4, .ptr 4 0)], [(4, [.int .i64 0, .int .i64 0])], [(13, ⟨23, 1, 0, 0, 0, true, 0, [], (x1.1.map e_L_u8)⟩)], [], []⟩ .nil (by kernel_rfl) ?_
      have hF := some_elim hF
      exact Wk_ret (hfin _ ⟨[13], [], [13], [], [], [], by first | (rw [← hF]; kernel_rfl) | kernel_rfl⟩)

/- disk.Recover -/
noncomputable def disk_Recover_v1 (d : Disk) : Option (Disk × List (List UInt8) × Fault) :=
  lt (disk_Check d) fun x =>
  if (!decide (x.Code = 0)) = true then
    some ((⟨([] : List UInt8), 0⟩ : Disk), ([] : List (List UInt8)), x)
  else
    ob (wire_Open d.Bytes) fun x1 =>
    if (!decide (x1.2.2.Code = 0)) = true then
      some ((⟨([] : List UInt8), 0⟩ : Disk), ([] : List (List UInt8)), x1.2.2)
    else
      ob (disk_cut d x1.2.1) fun x2 =>
      some ((⟨x2.1, x2.2⟩ : Disk), x1.1, x1.2.2)
theorem disk_Recover_v1_ok (d : Disk) (r : Disk × List (List UInt8) × Fault) (hF : disk_Recover_v1 d = some r) : Pe Try.prog 42 S.none [.agg [.sl 1 (d.Bytes.map e_u8), .int .i64 d.Kept]] (.tup [.agg [.sl 1 (r.1.Bytes.map e_u8), .int .i64 r.1.Kept], .sl 1 (r.2.1.map e_L_u8), .agg [.int .i64 r.2.2.Code, .int .i64 r.2.2.At]]) S.none := by
  refine Pe_of (N := 33) (res := [.cell 2 43, .tmp 3, .cell 4 26]) (ts := [43, 41, 26]) Ty.ok Fn.b42 Try.func42 rfl rfl rfl rfl rfl rfl ?_
  intro Q g hfin
  unfold disk_Recover_v1 at hF
  refine Wk_seq ?_
  refine WR [] [1, 2, 4] [1, 2, 4] [] [] [] [] ⟨[(1, .ptr 1 0), (2, .ptr 2 0), (4, .ptr 4 0)], [(1, [.sl 1 (d.Bytes.map e_u8), .int .i64 d.Kept]), (2, [.nils, .int .i64 0]), (4, [.int .i64 0, .int .i64 0])], [], [], []⟩ .nil (by kernel_rfl) ?_
  refine Wk_seq ?_
  refine Wk_seq ?_
  obtain ⟨x, h0, hF⟩ := lt_split hF
  refine WR [.callB (.agg [.int .i64 x.Code, .int .i64 x.At])] [1, 2, 4, 5] [1, 2, 4, 5] [] [] [] [] ⟨[(1, .ptr 1 0), (2, .ptr 2 0), (4, .ptr 4 0), (5, .ptr 5 0)], [(1, [.sl 1 (d.Bytes.map e_u8), .int .i64 d.Kept]), (2, [.nils, .int .i64 0]), (4, [.int .i64 0, .int .i64 0]), (5, [.int .i64 x.Code, .int .i64 x.At])], [], [], []⟩ (.cons (disk_Check_ok d x h0) .nil) (by kernel_rfl) ?_
  refine Wk_seq ?_
  refine WR [] [1, 2, 4, 5, 13] [1, 2, 4, 5] [] [] [] [] ⟨[(1, .ptr 1 0), (2, .ptr 2 0), (4, .ptr 4 0), (5, .ptr 5 0), (13, .bool (!decide (x.Code = 0)))], [(1, [.sl 1 (d.Bytes.map e_u8), .int .i64 d.Kept]), (2, [.nils, .int .i64 0]), (4, [.int .i64 0, .int .i64 0]), (5, [.int .i64 x.Code, .int .i64 x.At])], [], [], []⟩ .nil (by kernel_rfl) ?_
  refine Wk_split rfl (fun hb => ?_) (fun hb => ?_)
  · have hF := ite_t hF hb
    refine Wk_seq ?_
    refine WD [] [2, 3, 4] [2, 4] [] [] [] [] ⟨[(2, .ptr 2 0), (3, .nils), (4, .ptr 4 0)], [(2, [.nils, .int .i64 0]), (4, [.int .i64 x.Code, .int .i64 x.At])], [], [], []⟩ .nil (by kernel_rfl) ?_
    have hF := some_elim hF
    exact Wk_ret (hfin _ ⟨[], [], [], [], [], [], by first | (rw [← hF]; kernel_rfl) | kernel_rfl⟩)
  · have hF := ite_f hF hb
    refine Wk_skip ?_
    refine Wk_seq ?_
    obtain ⟨x1, h1, hF⟩ := ob_elim hF
    refine WR [.callE [] [] [] [] (.tup [.row 19 0, .int .i64 x1.2.1, .agg [.int .i64 x1.2.2.Code, .int .i64 x1.2.2.At]]) ⟨[], [], [(19, ⟨23, 1, 0, 0, 0, true, 0, [], (x1.1.map e_L_u8)⟩)], [], []⟩] [1, 2, 4, 6, 7, 8] [1, 2, 4, 8] [19] [] [] [] ⟨[(1, .ptr 1 0), (2, .ptr 2 0), (4, .ptr 4 0), (6, .row 19 0), (7, .int .i64 x1.2.1), (8, .ptr 8 0)], [(1, [.sl 1 (d.Bytes.map e_u8), .int .i64 d.Kept]), (2, [.nils, .int .i64 0]), (4, [.int .i64 0, .int .i64 0]), (8, [.int .i64 x1.2.2.Code, .int .i64 x1.2.2.At])], [(19, ⟨23, 1, 0, 0, 0, true, 0, [], (x1.1.map e_L_u8)⟩)], [], []⟩ (.cons (Pe.ren (wire_Open_ok d.Bytes x1 h1) ⟨[], [(13, 19)], [], []⟩) .nil) (by kernel_rfl) ?_
    refine Wk_seq ?_
    refine Wk_seq ?_
    refine WR [] [1, 2, 4, 6, 7, 8, 25] [1, 2, 4, 8] [19] [] [] [] ⟨[(1, .ptr 1 0), (2, .ptr 2 0), (4, .ptr 4 0), (6, .row 19 0), (7, .int .i64 x1.2.1), (8, .ptr 8 0), (25, .bool (!decide (x1.2.2.Code = 0)))], [(1, [.sl 1 (d.Bytes.map e_u8), .int .i64 d.Kept]), (2, [.nils, .int .i64 0]), (4, [.int .i64 0, .int .i64 0]), (8, [.int .i64 x1.2.2.Code, .int .i64 x1.2.2.At])], [(19, ⟨23, 1, 0, 0, 0, true, 0, [], (x1.1.map e_L_u8)⟩)], [], []⟩ .nil (by kernel_rfl) ?_
    refine Wk_split rfl (fun hb => ?_) (fun hb => ?_)
    · have hF := ite_t hF hb
      refine Wk_seq ?_
      refine WD [] [2, 3, 4] [2, 4] [] [] [] [] ⟨[(2, .ptr 2 0), (3, .nils), (4, .ptr 4 0)], [(2, [.nils, .int .i64 0]), (4, [.int .i64 x1.2.2.Code, .int .i64 x1.2.2.At])], [], [], []⟩ .nil (by kernel_rfl) ?_
      have hF := some_elim hF
      exact Wk_ret (hfin _ ⟨[], [], [], [], [], [], by first | (rw [← hF]; kernel_rfl) | kernel_rfl⟩)
    · have hF := ite_f hF hb
      refine Wk_skip ?_
      refine Wk_seq ?_
      obtain ⟨x2, h2, hF⟩ := ob_elim hF
      refine WD [.callE [] [] [] [] (.agg [.row 30 0, .int .i64 x2.2]) ⟨[], [], [(30, ⟨5, 1, 0, 0, 0, false, 0, [], (x2.1.map e_u8)⟩)], [], []⟩] [2, 3, 4] [2, 4] [19, 30] [] [] [] ⟨[(2, .ptr 2 0), (3, .row 19 0), (4, .ptr 4 0)], [(2, [.row 30 0, .int .i64 x2.2]), (4, [.int .i64 x1.2.2.Code, .int .i64 x1.2.2.At])], [(19, ⟨23, 1, 0, 0, 0, true, 0, [], (x1.1.map e_L_u8)⟩), (30, ⟨5, 1, 0, 0, 0, false, 0, [], (x2.1.map e_u8)⟩)], [], []⟩ (.cons (Pe.ren (disk_cut_ok d x1.2.1 x2 h2) ⟨[], [(9, 30)], [], []⟩) .nil) (by kernel_rfl) ?_
      have hF := some_elim hF
      exact Wk_ret (hfin _ ⟨[], [], [], [], [], [], by first | (rw [← hF]; kernel_rfl) | kernel_rfl⟩)

/- tabularyref.SameBodies -/
noncomputable def R_SameBodies_J1 (v : Unit) : Option Bool :=
  some true
noncomputable def R_SameBodies_B1 (a0 : List (List UInt8)) (b : List (List UInt8)) (v1 : Int) : Option (Int ⊕ Bool) :=
  if (decide (v1 < (a0.length : Int))) = true then
    asrt (0 ≤ v1 ∧ v1 < (a0.length : Int)) <|
    asrt (0 ≤ v1 ∧ v1 < (b.length : Int)) <|
    lt (R_Same (lget a0 v1) (lget b v1)) fun x =>
    if (!x) = true then
      some (Sum.inr false)
    else
      some (Sum.inl (w64 (v1 + 1)))
  else
    inrO (R_SameBodies_J1 ())
noncomputable def R_SameBodies_L1 (a0 : List (List UInt8)) (b : List (List UInt8)) (v0 : Int) : Option Bool :=
  loopO (fun y => R_SameBodies_B1 a0 b y) v0
noncomputable def R_SameBodies (a0 : List (List UInt8)) (b : List (List UInt8)) : Option Bool :=
  if (!decide ((a0.length : Int) = (b.length : Int))) = true then
    some false
  else
    R_SameBodies_L1 a0 b 0
theorem R_SameBodies_ok (a0 : List (List UInt8)) (b : List (List UInt8)) (r : Bool) (hF : R_SameBodies a0 b = some r) : Pe Try.prog 35 S.none [.sl 1 (a0.map e_L_u8), .sl 1 (b.map e_L_u8)] (.bool r) S.none := by
  refine Pe_of (N := 27) (res := [.tmp 4]) (ts := [4]) Ty.ok Fn.b35 Try.func35 rfl rfl rfl rfl rfl rfl ?_
  intro Q g hfin
  unfold R_SameBodies at hF
  refine Wk_seq ?_
  refine WR [] [0, 1] [] [] [] [] [] ⟨[(0, .sl 1 (a0.map e_L_u8)), (1, .sl 1 (b.map e_L_u8))], [], [], [], []⟩ .nil (by kernel_rfl) ?_
  refine Wk_seq ?_
  refine Wk_seq ?_
  refine WR [.nat (a0.length : Int), .nat (b.length : Int)] [0, 1, 10] [] [] [] [] [] ⟨[(0, .sl 1 (a0.map e_L_u8)), (1, .sl 1 (b.map e_L_u8)), (10, .bool (!decide ((a0.length : Int) = (b.length : Int))))], [], [], [], []⟩ (.cons (len_ok e_L_u8 a0) (.cons (len_ok e_L_u8 b) .nil)) (by kernel_rfl) ?_
  refine Wk_split rfl (fun hb => ?_) (fun hb => ?_)
  · have hF := ite_t hF hb
    refine Wk_seq ?_
    refine WR [] [4] [] [] [] [] [] ⟨[(4, .bool false)], [], [], [], []⟩ .nil (by kernel_rfl) ?_
    have hF := some_elim hF
    exact Wk_ret (hfin _ ⟨[], [], [], [], [], [], by first | (rw [← hF]; kernel_rfl) | kernel_rfl⟩)
  · have hF := ite_f hF hb
    refine Wk_skip ?_
    refine Wk_seq ?_
    refine Wk_seq ?_
    refine WR [] [0, 1, 5] [] [] [] [] [] ⟨[(0, .sl 1 (a0.map e_L_u8)), (1, .sl 1 (b.map e_L_u8)), (5, .int .i64 0)], [], [], [], []⟩ .nil (by kernel_rfl) ?_
    refine Wk_meetP (fun v : Unit => (⟨[], [], [], [], []⟩ : S)) (fun v => R_SameBodies_J1 v = some r) ?_ ?_
    · refine Wk_block ?_
      unfold R_SameBodies_L1 at hF
      refine Wk_trim (fs := [0, 1, 5]) (bs := []) (rs := []) (ms := []) (aa := []) (nv := []) (t := (fun v1 : Int => (⟨[(0, .sl 1 (a0.map e_L_u8)), (1, .sl 1 (b.map e_L_u8)), (5, .int .i64 v1)], [], [], [], []⟩ : S)) 0) (by kernel_rfl) ?_
      refine Wk_iter (step := fun y => R_SameBodies_B1 a0 b y) (r := r) (fun v1 : Int => (⟨[(0, .sl 1 (a0.map e_L_u8)), (1, .sl 1 (b.map e_L_u8)), (5, .int .i64 v1)], [], [], [], []⟩ : S)) 0 hF ?_
      intro n1 v1 y1 hF ih1 dn1
      have hF : R_SameBodies_B1 a0 b v1 = some y1 := hF
      unfold R_SameBodies_B1 at hF
      refine Wk_seq ?_
      refine Wk_seq ?_
      refine WR [.nat (a0.length : Int)] [0, 1, 5, 14] [] [] [] [] [] ⟨[(0, .sl 1 (a0.map e_L_u8)), (1, .sl 1 (b.map e_L_u8)), (5, .int .i64 v1), (14, .bool (decide (v1 < (a0.length : Int))))], [], [], [], []⟩ (.cons (len_ok e_L_u8 a0) .nil) (by kernel_rfl) ?_
      refine Wk_split rfl (fun hb => ?_) (fun hb => ?_)
      · have hF := ite_t hF hb
        refine Wk_skip ?_
        refine Wk_seq ?_
        refine Wk_block ?_
        refine Wk_seq ?_
        obtain ⟨h0, hF⟩ := asrt_elim hF
        obtain ⟨h1, hF⟩ := asrt_elim hF
        obtain ⟨x, h2, hF⟩ := lt_split hF
        refine WD [.av (e_L_u8 (lget a0 v1)), .av (e_L_u8 (lget b v1)), .callB (.bool x)] [0, 1, 5, 26] [] [] [] [] [] ⟨[(0, .sl 1 (a0.map e_L_u8)), (1, .sl 1 (b.map e_L_u8)), (5, .int .i64 v1), (26, .bool (!x))], [], [], [], []⟩ (.cons (idx_ok e_L_u8 h0) (.cons (idx_ok e_L_u8 h1) (.cons (R_Same_ok (lget a0 v1) (lget b v1) x h2) .nil))) (by kernel_rfl) ?_
        refine Wk_split rfl (fun hb => ?_) (fun hb => ?_)
        · have hF := ite_t hF hb
          refine Wk_seq ?_
          refine WR [] [4] [] [] [] [] [] ⟨[(4, .bool false)], [], [], [], []⟩ .nil (by kernel_rfl) ?_
          have hF := ret_done hF dn1
          have hF := some_elim hF
          exact Wk_ret (hfin _ ⟨[], [], [], [], [], [], by first | (rw [← hF]; kernel_rfl) | kernel_rfl⟩)
        · have hF := ite_f hF hb
          refine Wk_skip ?_
          refine Wk_blk ?_
          refine WR [] [0, 1, 5] [] [] [] [] [] ⟨[(0, .sl 1 (a0.map e_L_u8)), (1, .sl 1 (b.map e_L_u8)), (5, .int .i64 (w64 (v1 + 1)))], [], [], [], []⟩ .nil (by kernel_rfl) ?_
          refine Wk_trim (fs := [0, 1, 5]) (bs := []) (rs := []) (ms := []) (aa := []) (nv := []) ?_ (ih1 _ (some_elim hF).symm)
          kernel_rfl
      · have hF := ite_f hF hb
        refine Wk_exit rfl ?_
        have hF := inrO_done hF dn1
        exact Wk_metP () [] [] [] [] [] [] hF (by kernel_rfl)
    · intro v hF
      have hF : R_SameBodies_J1 v = some r := hF
      unfold R_SameBodies_J1 at hF
      refine Wk_seq ?_
      refine WR [] [4] [] [] [] [] [] ⟨[(4, .bool true)], [], [], [], []⟩ .nil (by kernel_rfl) ?_
      have hF := some_elim hF
      exact Wk_ret (hfin _ ⟨[], [], [], [], [], [], by first | (rw [← hF]; kernel_rfl) | kernel_rfl⟩)

/- tabularylaw.DiskRecovers -/
noncomputable def law_DiskRecovers_J1 (bodies : List (List UInt8)) (synced : Int) (num : Int) (v : Disk) : Option Bool :=
  ob (
    if (decide (synced = (bodies.length : Int))) = true then
      ob (disk_Sync_v1 v) fun x1 =>
      some x1.1
    else
      some v) fun (v1 : Disk) =>
  ob (disk_Crash_v1 v1 num) fun x2 =>
  if (!decide (x2.2.Code = 0)) = true then
    lt (R_F 3 (-1)) fun x3 =>
    some (decide (x2.2.Code = x3.Code) && (decide (x2.2.At = x3.At) && true))
  else
    ob (disk_Recover_v1 x2.1) fun x4 =>
    asrt ((!(((!decide (x4.2.2.Code = 0)) || (decide ((x4.2.1.length : Int) < synced))) || (decide ((bodies.length : Int) < (x4.2.1.length : Int))))) = true → 0 ≤ (x4.2.1.length : Int) ∧ (x4.2.1.length : Int) ≤ (bodies.length : Int)) <|
    ob (if (!(((!decide (x4.2.2.Code = 0)) || (decide ((x4.2.1.length : Int) < synced))) || (decide ((bodies.length : Int) < (x4.2.1.length : Int))))) = true then (R_SameBodies x4.2.1 (ltake bodies (x4.2.1.length : Int))) else some default) fun x5 =>
    if ((((!decide (x4.2.2.Code = 0)) || (decide ((x4.2.1.length : Int) < synced))) || (decide ((bodies.length : Int) < (x4.2.1.length : Int)))) || (!x5)) = true then
      some false
    else
      ob (disk_Recover_v1 x4.1) fun x6 =>
      lt (R_SameDisk x6.1 x4.1) fun x7 =>
      ob (if ((decide (x6.2.2.Code = 0)) && x7) = true then (R_SameBodies x6.2.1 x4.2.1) else some default) fun x8 =>
      lt ((((decide (x6.2.2.Code = 0)) && x7) && x8) && (decide (x4.1.Kept = (x4.1.Bytes.length : Int)))) fun (v2 : Bool) =>
      some v2
noncomputable def law_DiskRecovers_J2 (bodies : List (List UInt8)) (v3 : Disk × Int) (v4 : Disk) : Option ((Disk × Int) ⊕ Bool) :=
  asrt (0 ≤ v3.2 ∧ v3.2 < (bodies.length : Int)) <|
  ob (R_Framed_v1 (lget bodies v3.2)) fun x9 =>
  ob (disk_Append_v1 v4 x9) fun x10 =>
  if (!decide (x10.2.Code = 0)) = true then
    lt (R_F 9 0) fun x11 =>
    lt ((decide (x10.2.Code = x11.Code) && (decide (x10.2.At = x11.At) && true))) fun (v5 : Bool) =>
    some (Sum.inr v5)
  else
    some (Sum.inl (x10.1, w64 (v3.2 + 1)))
noncomputable def law_DiskRecovers_B1 (bodies : List (List UInt8)) (synced : Int) (num : Int) (v3 : Disk × Int) : Option ((Disk × Int) ⊕ Bool) :=
  if (decide (v3.2 < (bodies.length : Int))) = true then
    asrt (0 ≤ v3.2 ∧ v3.2 < (bodies.length : Int)) <|
    if (decide (500 < ((lget bodies v3.2).length : Int))) = true then
      some (Sum.inr true)
    else
      if (decide (v3.2 = synced)) = true then
        ob (disk_Sync_v1 v3.1) fun x12 =>
        if (!decide (x12.2.Code = 0)) = true then
          some (Sum.inr false)
        else
          law_DiskRecovers_J2 bodies v3 x12.1
      else
        law_DiskRecovers_J2 bodies v3 v3.1
  else
    inrO (law_DiskRecovers_J1 bodies synced num v3.1)
noncomputable def law_DiskRecovers_L1 (bodies : List (List UInt8)) (synced : Int) (num : Int) (v0 : Disk × Int) : Option Bool :=
  loopO (fun y => law_DiskRecovers_B1 bodies synced num y) v0
noncomputable def law_DiskRecovers (bodies : List (List UInt8)) (synced : Int) (num : Int) : Option Bool :=
  ob (law_diskBegun) fun x =>
  if (!x) = true then
    some false
  else
    if (((decide (100 < (bodies.length : Int))) || (decide (synced < 0))) || (decide ((bodies.length : Int) < synced))) = true then
      some true
    else
      law_DiskRecovers_L1 bodies synced num ((⟨([] : List UInt8), 0⟩ : Disk), 0)
theorem law_DiskRecovers_ok (bodies : List (List UInt8)) (synced : Int) (num : Int) (r : Bool) (hF : law_DiskRecovers bodies synced num = some r) : Pe Try.prog 9 S.none [.sl 1 (bodies.map e_L_u8), .int .i64 synced, .int .i64 num] (.bool r) S.none := by
  refine Pe_of (N := 155) (res := [.tmp 6]) (ts := [4]) Ty.ok Fn.b9 Try.func9 rfl rfl rfl rfl rfl rfl ?_
  intro Q g hfin
  unfold law_DiskRecovers at hF
  refine Wk_seq ?_
  refine WR [] [0, 1, 2] [] [] [] [] [] ⟨[(0, .sl 1 (bodies.map e_L_u8)), (1, .int .i64 synced), (2, .int .i64 num)], [], [], [], []⟩ .nil (by kernel_rfl) ?_
  refine Wk_seq ?_
  refine Wk_seq ?_
  obtain ⟨x, h0, hF⟩ := ob_elim hF
  refine WR [.callB (.bool x)] [0, 1, 2, 20] [] [] [] [] [] ⟨[(0, .sl 1 (bodies.map e_L_u8)), (1, .int .i64 synced), (2, .int .i64 num), (20, .bool (!x))], [], [], [], []⟩ (.cons (law_diskBegun_ok  x h0) .nil) (by kernel_rfl) ?_
  refine Wk_split rfl (fun hb => ?_) (fun hb => ?_)
  · have hF := ite_t hF hb
    refine Wk_seq ?_
    refine WR [] [6] [] [] [] [] [] ⟨[(6, .bool false)], [], [], [], []⟩ .nil (by kernel_rfl) ?_
    have hF := some_elim hF
    exact Wk_ret (hfin _ ⟨[], [], [], [], [], [], by first | (rw [← hF]; kernel_rfl) | kernel_rfl⟩)
  · have hF := ite_f hF hb
    refine Wk_skip ?_
    refine Wk_seq ?_
    refine Wk_seq ?_
    refine WR [.nat (bodies.length : Int), .nat (bodies.length : Int)] [0, 1, 2, 33] [] [] [] [] [] ⟨[(0, .sl 1 (bodies.map e_L_u8)), (1, .int .i64 synced), (2, .int .i64 num), (33, .bool (((decide (100 < (bodies.length : Int))) || (decide (synced < 0))) || (decide ((bodies.length : Int) < synced))))], [], [], [], []⟩ (.cons (len_ok e_L_u8 bodies) (.cons (fun (_ : (!((decide (100 < (bodies.length : Int))) || (decide (synced < 0)))) = true) => (len_ok e_L_u8 bodies)) .nil)) (by kernel_rfl) ?_
    refine Wk_split rfl (fun hb => ?_) (fun hb => ?_)
    · have hF := ite_t hF hb
      refine Wk_seq ?_
      refine WR [] [6] [] [] [] [] [] ⟨[(6, .bool true)], [], [], [], []⟩ .nil (by kernel_rfl) ?_
      have hF := some_elim hF
      exact Wk_ret (hfin _ ⟨[], [], [], [], [], [], by first | (rw [← hF]; kernel_rfl) | kernel_rfl⟩)
    · have hF := ite_f hF hb
      refine Wk_skip ?_
      refine Wk_seq ?_
      refine WR [] [0, 1, 2, 7] [7] [] [] [] [] ⟨[(0, .sl 1 (bodies.map e_L_u8)), (1, .int .i64 synced), (2, .int .i64 num), (7, .ptr 7 0)], [(7, [.nils, .int .i64 0])], [], [], []⟩ .nil (by kernel_rfl) ?_
      refine Wk_seq ?_
      refine Wk_seq ?_
      refine WR [] [0, 1, 2, 7, 8] [7] [] [] [] [] ⟨[(0, .sl 1 (bodies.map e_L_u8)), (1, .int .i64 synced), (2, .int .i64 num), (7, .ptr 7 0), (8, .int .i64 0)], [(7, [.nils, .int .i64 0])], [], [], []⟩ .nil (by kernel_rfl) ?_
      refine Wk_meetP (fun v : Disk => (⟨[(0, .sl 1 (bodies.map e_L_u8)), (1, .int .i64 synced), (2, .int .i64 num), (7, .ptr 7 0)], [(7, [.sl 1 (v.Bytes.map e_u8), .int .i64 v.Kept])], [], [], []⟩ : S)) (fun v => law_DiskRecovers_J1 bodies synced num v = some r) ?_ ?_
      · refine Wk_block ?_
        unfold law_DiskRecovers_L1 at hF
        refine Wk_coeB 7 [.sl 1 (([] : List UInt8).map e_u8), .int .i64 0] rfl (.cons (CoeS.nils 1) (.cons (CoeS.refl _) .nil)) ?_
        refine Wk_trim (fs := [0, 1, 2, 7, 8]) (bs := [7]) (rs := []) (ms := []) (aa := []) (nv := []) (t := (fun v3 : Disk × Int => (⟨[(0, .sl 1 (bodies.map e_L_u8)), (1, .int .i64 synced), (2, .int .i64 num), (7, .ptr 7 0), (8, .int .i64 v3.2)], [(7, [.sl 1 (v3.1.Bytes.map e_u8), .int .i64 v3.1.Kept])], [], [], []⟩ : S)) ((⟨([] : List UInt8), 0⟩ : Disk), 0)) (by kernel_rfl) ?_
        refine Wk_iter (step := fun y => law_DiskRecovers_B1 bodies synced num y) (r := r) (fun v3 : Disk × Int => (⟨[(0, .sl 1 (bodies.map e_L_u8)), (1, .int .i64 synced), (2, .int .i64 num), (7, .ptr 7 0), (8, .int .i64 v3.2)], [(7, [.sl 1 (v3.1.Bytes.map e_u8), .int .i64 v3.1.Kept])], [], [], []⟩ : S)) ((⟨([] : List UInt8), 0⟩ : Disk), 0) hF ?_
        intro n1 v3 y1 hF ih1 dn1
        have hF : law_DiskRecovers_B1 bodies synced num v3 = some y1 := hF
        unfold law_DiskRecovers_B1 at hF
        refine Wk_seq ?_
        refine Wk_seq ?_
        refine WR [.nat (bodies.length : Int)] [0, 1, 2, 7, 8, 38] [7] [] [] [] [] ⟨[(0, .sl 1 (bodies.map e_L_u8)), (1, .int .i64 synced), (2, .int .i64 num), (7, .ptr 7 0), (8, .int .i64 v3.2), (38, .bool (decide (v3.2 < (bodies.length : Int))))], [(7, [.sl 1 (v3.1.Bytes.map e_u8), .int .i64 v3.1.Kept])], [], [], []⟩ (.cons (len_ok e_L_u8 bodies) .nil) (by kernel_rfl) ?_
        refine Wk_split rfl (fun hb => ?_) (fun hb => ?_)
        · have hF := ite_t hF hb
          refine Wk_skip ?_
          refine Wk_seq ?_
          refine Wk_block ?_
          refine Wk_seq ?_
          refine Wk_seq ?_
          obtain ⟨h10, hF⟩ := asrt_elim hF
          refine WR [.av (e_L_u8 (lget bodies v3.2)), .nat ((lget bodies v3.2).length : Int)] [0, 1, 2, 7, 8, 46] [7] [] [] [] [] ⟨[(0, .sl 1 (bodies.map e_L_u8)), (1, .int .i64 synced), (2, .int .i64 num), (7, .ptr 7 0), (8, .int .i64 v3.2), (46, .bool (decide (500 < ((lget bodies v3.2).length : Int))))], [(7, [.sl 1 (v3.1.Bytes.map e_u8), .int .i64 v3.1.Kept])], [], [], []⟩ (.cons (idx_ok e_L_u8 h10) (.cons (len_ok e_u8 (lget bodies v3.2)) .nil)) (by kernel_rfl) ?_
          refine Wk_split rfl (fun hb => ?_) (fun hb => ?_)
          · have hF := ite_t hF hb
            refine Wk_seq ?_
            refine WR [] [6] [] [] [] [] [] ⟨[(6, .bool true)], [], [], [], []⟩ .nil (by kernel_rfl) ?_
            have hF := ret_done hF dn1
            have hF := some_elim hF
            exact Wk_ret (hfin _ ⟨[], [], [], [], [], [], by first | (rw [← hF]; kernel_rfl) | kernel_rfl⟩)
          · have hF := ite_f hF hb
            refine Wk_skip ?_
            refine Wk_seq ?_
            refine Wk_seq ?_
            refine WR [] [0, 1, 2, 7, 8, 49] [7] [] [] [] [] ⟨[(0, .sl 1 (bodies.map e_L_u8)), (1, .int .i64 synced), (2, .int .i64 num), (7, .ptr 7 0), (8, .int .i64 v3.2), (49, .bool (decide (v3.2 = synced)))], [(7, [.sl 1 (v3.1.Bytes.map e_u8), .int .i64 v3.1.Kept])], [], [], []⟩ .nil (by kernel_rfl) ?_
            refine Wk_meetP (fun v4 : Disk => (⟨[(0, .sl 1 (bodies.map e_L_u8)), (1, .int .i64 synced), (2, .int .i64 num), (7, .ptr 7 0), (8, .int .i64 v3.2)], [(7, [.sl 1 (v4.Bytes.map e_u8), .int .i64 v4.Kept])], [], [], []⟩ : S)) (fun v4 => law_DiskRecovers_J2 bodies v3 v4 = some y1) ?_ ?_
            · refine Wk_split rfl (fun hb => ?_) (fun hb => ?_)
              · have hF := ite_t hF hb
                refine Wk_seq ?_
                obtain ⟨x12, h15, hF⟩ := ob_elim hF
                refine WR [.call (.tup [.agg [.sl 1 (x12.1.Bytes.map e_u8), .int .i64 x12.1.Kept], .agg [.int .i64 x12.2.Code, .int .i64 x12.2.At]])] [0, 1, 2, 7, 8, 9, 10] [7, 9, 10] [] [] [] [] ⟨[(0, .sl 1 (bodies.map e_L_u8)), (1, .int .i64 synced), (2, .int .i64 num), (7, .ptr 7 0), (8, .int .i64 v3.2), (9, .ptr 9 0), (10, .ptr 10 0)], [(7, [.sl 1 (v3.1.Bytes.map e_u8), .int .i64 v3.1.Kept]), (9, [.sl 1 (x12.1.Bytes.map e_u8), .int .i64 x12.1.Kept]), (10, [.int .i64 x12.2.Code, .int .i64 x12.2.At])], [], [], []⟩ (.cons (disk_Sync_v1_ok v3.1 x12 h15) .nil) (by kernel_rfl) ?_
                refine Wk_seq ?_
                refine Wk_seq ?_
                refine WR [] [0, 1, 2, 7, 8, 9, 57] [7, 9] [] [] [] [] ⟨[(0, .sl 1 (bodies.map e_L_u8)), (1, .int .i64 synced), (2, .int .i64 num), (7, .ptr 7 0), (8, .int .i64 v3.2), (9, .ptr 9 0), (57, .bool (!decide (x12.2.Code = 0)))], [(7, [.sl 1 (v3.1.Bytes.map e_u8), .int .i64 v3.1.Kept]), (9, [.sl 1 (x12.1.Bytes.map e_u8), .int .i64 x12.1.Kept])], [], [], []⟩ .nil (by kernel_rfl) ?_
                refine Wk_split rfl (fun hb => ?_) (fun hb => ?_)
                · have hF := ite_t hF hb
                  refine Wk_seq ?_
                  refine WR [] [6] [] [] [] [] [] ⟨[(6, .bool false)], [], [], [], []⟩ .nil (by kernel_rfl) ?_
                  have hF := ret_done hF dn1
                  have hF := some_elim hF
                  exact Wk_ret (hfin _ ⟨[], [], [], [], [], [], by first | (rw [← hF]; kernel_rfl) | kernel_rfl⟩)
                · have hF := ite_f hF hb
                  refine Wk_skip ?_
                  refine WR [] [0, 1, 2, 7, 8] [7] [] [] [] [] ⟨[(0, .sl 1 (bodies.map e_L_u8)), (1, .int .i64 synced), (2, .int .i64 num), (7, .ptr 7 0), (8, .int .i64 v3.2)], [(7, [.sl 1 (x12.1.Bytes.map e_u8), .int .i64 x12.1.Kept])], [], [], []⟩ .nil (by kernel_rfl) ?_
                  exact Wk_metP x12.1 [0, 1, 2, 7, 8] [7] [] [] [] [] hF (by kernel_rfl)
              · have hF := ite_f hF hb
                refine Wk_skip ?_
                exact Wk_metP v3.1 [0, 1, 2, 7, 8] [7] [] [] [] [] hF (by kernel_rfl)
            · intro v4 hF
              have hF : law_DiskRecovers_J2 bodies v3 v4 = some y1 := hF
              unfold law_DiskRecovers_J2 at hF
              refine Wk_seq ?_
              obtain ⟨h11, hF⟩ := asrt_elim hF
              obtain ⟨x9, h12, hF⟩ := ob_elim hF
              obtain ⟨x10, h13, hF⟩ := ob_elim hF
              refine WD [.av (e_L_u8 (lget bodies v3.2)), .call (.sl 1 (x9.map e_u8)), .call (.tup [.agg [.sl 1 (x10.1.Bytes.map e_u8), .int .i64 x10.1.Kept], .agg [.int .i64 x10.2.Code, .int .i64 x10.2.At]])] [0, 1, 2, 7, 8, 11, 12] [7, 11, 12] [] [] [] [] ⟨[(0, .sl 1 (bodies.map e_L_u8)), (1, .int .i64 synced), (2, .int .i64 num), (7, .ptr 7 0), (8, .int .i64 v3.2), (11, .ptr 11 0), (12, .ptr 12 0)], [(7, [.sl 1 (v4.Bytes.map e_u8), .int .i64 v4.Kept]), (11, [.sl 1 (x10.1.Bytes.map e_u8), .int .i64 x10.1.Kept]), (12, [.int .i64 x10.2.Code, .int .i64 x10.2.At])], [], [], []⟩ (.cons (idx_ok e_L_u8 h11) (.cons (R_Framed_v1_ok (lget bodies v3.2) x9 h12) (.cons (disk_Append_v1_ok v4 x9 x10 h13) .nil))) (by kernel_rfl) ?_
              refine Wk_seq ?_
              refine Wk_seq ?_
              refine WR [] [0, 1, 2, 7, 8, 11, 12, 71] [7, 11, 12] [] [] [] [] ⟨[(0, .sl 1 (bodies.map e_L_u8)), (1, .int .i64 synced), (2, .int .i64 num), (7, .ptr 7 0), (8, .int .i64 v3.2), (11, .ptr 11 0), (12, .ptr 12 0), (71, .bool (!decide (x10.2.Code = 0)))], [(7, [.sl 1 (v4.Bytes.map e_u8), .int .i64 v4.Kept]), (11, [.sl 1 (x10.1.Bytes.map e_u8), .int .i64 x10.1.Kept]), (12, [.int .i64 x10.2.Code, .int .i64 x10.2.At])], [], [], []⟩ .nil (by kernel_rfl) ?_
              refine Wk_split rfl (fun hb => ?_) (fun hb => ?_)
              · have hF := ite_t hF hb
                refine Wk_seq ?_
                obtain ⟨x11, h14, hF⟩ := lt_split hF
                refine WDL ((decide (x10.2.Code = x11.Code) && (decide (x10.2.At = x11.At) && true))) (fun v5 : Bool => ⟨[(6, .bool v5)], [], [], [], []⟩) [.callB (.agg [.int .i64 x11.Code, .int .i64 x11.At])] [6] [] [] [] [] [] (.cons (R_F_ok 9 0 x11 h14) .nil) (by kernel_rfl) (fun v5 hv => ?_)
                have hF := lt_elim hF hv
                have hF := ret_done hF dn1
                have hF := some_elim hF
                exact Wk_ret (hfin _ ⟨[], [], [], [], [], [], by first | (rw [← hF]; kernel_rfl) | kernel_rfl⟩)
              · have hF := ite_f hF hb
                refine Wk_skip ?_
                refine WR [] [0, 1, 2, 7, 8] [7] [] [] [] [] ⟨[(0, .sl 1 (bodies.map e_L_u8)), (1, .int .i64 synced), (2, .int .i64 num), (7, .ptr 7 0), (8, .int .i64 v3.2)], [(7, [.sl 1 (x10.1.Bytes.map e_u8), .int .i64 x10.1.Kept])], [], [], []⟩ .nil (by kernel_rfl) ?_
                refine Wk_blk ?_
                refine WR [] [0, 1, 2, 7, 8] [7] [] [] [] [] ⟨[(0, .sl 1 (bodies.map e_L_u8)), (1, .int .i64 synced), (2, .int .i64 num), (7, .ptr 7 0), (8, .int .i64 (w64 (v3.2 + 1)))], [(7, [.sl 1 (x10.1.Bytes.map e_u8), .int .i64 x10.1.Kept])], [], [], []⟩ .nil (by kernel_rfl) ?_
                refine Wk_trim (fs := [0, 1, 2, 7, 8]) (bs := [7]) (rs := []) (ms := []) (aa := []) (nv := []) ?_ (ih1 _ (some_elim hF).symm)
                kernel_rfl
        · have hF := ite_f hF hb
          refine Wk_exit rfl ?_
          have hF := inrO_done hF dn1
          exact Wk_metP v3.1 [0, 1, 2, 7] [7] [] [] [] [] hF (by kernel_rfl)
      · intro v hF
        have hF : law_DiskRecovers_J1 bodies synced num v = some r := hF
        unfold law_DiskRecovers_J1 at hF
        refine Wk_seq ?_
        refine Wk_seq ?_
        refine WR [.nat (bodies.length : Int)] [0, 1, 2, 7, 79] [7] [] [] [] [] ⟨[(0, .sl 1 (bodies.map e_L_u8)), (1, .int .i64 synced), (2, .int .i64 num), (7, .ptr 7 0), (79, .bool (decide (synced = (bodies.length : Int))))], [(7, [.sl 1 (v.Bytes.map e_u8), .int .i64 v.Kept])], [], [], []⟩ (.cons (len_ok e_L_u8 bodies) .nil) (by kernel_rfl) ?_
        obtain ⟨v1, hv, hF⟩ := ob_elim hF
        refine Wk_meet (⟨[(0, .sl 1 (bodies.map e_L_u8)), (1, .int .i64 synced), (2, .int .i64 num), (7, .ptr 7 0)], [(7, [.sl 1 (v1.Bytes.map e_u8), .int .i64 v1.Kept])], [], [], []⟩ : S) ?_ ?_
        · have hF := hv
          refine Wk_split rfl (fun hb => ?_) (fun hb => ?_)
          · have hF := ite_t hF hb
            obtain ⟨x1, h1, hF⟩ := ob_elim hF
            refine WR [.call (.tup [.agg [.sl 1 (x1.1.Bytes.map e_u8), .int .i64 x1.1.Kept], .agg [.int .i64 x1.2.Code, .int .i64 x1.2.At]])] [0, 1, 2, 7] [7] [] [] [] [] ⟨[(0, .sl 1 (bodies.map e_L_u8)), (1, .int .i64 synced), (2, .int .i64 num), (7, .ptr 7 0)], [(7, [.sl 1 (x1.1.Bytes.map e_u8), .int .i64 x1.1.Kept])], [], [], []⟩ (.cons (disk_Sync_v1_ok v x1 h1) .nil) (by kernel_rfl) ?_
            exact Wk_met (fs := [0, 1, 2, 7]) (bs := [7]) (rs := []) (ms := []) (aa := []) (nv := []) (by first | (rw [← some_elim hF]; kernel_rfl) | kernel_rfl)
          · have hF := ite_f hF hb
            refine Wk_skip ?_
            exact Wk_met (fs := [0, 1, 2, 7]) (bs := [7]) (rs := []) (ms := []) (aa := []) (nv := []) (by first | (rw [← some_elim hF]; kernel_rfl) | kernel_rfl)
        · refine Wk_seq ?_
          obtain ⟨x2, h2, hF⟩ := ob_elim hF
          refine WR [.call (.tup [.agg [.sl 1 (x2.1.Bytes.map e_u8), .int .i64 x2.1.Kept], .agg [.int .i64 x2.2.Code, .int .i64 x2.2.At]])] [0, 1, 13, 14] [13, 14] [] [] [] [] ⟨[(0, .sl 1 (bodies.map e_L_u8)), (1, .int .i64 synced), (13, .ptr 13 0), (14, .ptr 14 0)], [(13, [.sl 1 (x2.1.Bytes.map e_u8), .int .i64 x2.1.Kept]), (14, [.int .i64 x2.2.Code, .int .i64 x2.2.At])], [], [], []⟩ (.cons (disk_Crash_v1_ok v1 num x2 h2) .nil) (by kernel_rfl) ?_
          refine Wk_seq ?_
          refine Wk_seq ?_
          refine WR [] [0, 1, 13, 14, 93] [13, 14] [] [] [] [] ⟨[(0, .sl 1 (bodies.map e_L_u8)), (1, .int .i64 synced), (13, .ptr 13 0), (14, .ptr 14 0), (93, .bool (!decide (x2.2.Code = 0)))], [(13, [.sl 1 (x2.1.Bytes.map e_u8), .int .i64 x2.1.Kept]), (14, [.int .i64 x2.2.Code, .int .i64 x2.2.At])], [], [], []⟩ .nil (by kernel_rfl) ?_
          refine Wk_split rfl (fun hb => ?_) (fun hb => ?_)
          · have hF := ite_t hF hb
            refine Wk_seq ?_
            obtain ⟨x3, h3, hF⟩ := lt_split hF
            refine WD [.callB (.agg [.int .i64 x3.Code, .int .i64 x3.At])] [6] [] [] [] [] [] ⟨[(6, .bool (decide (x2.2.Code = x3.Code) && (decide (x2.2.At = x3.At) && true)))], [], [], [], []⟩ (.cons (R_F_ok 3 (-1) x3 h3) .nil) (by kernel_rfl) ?_
            have hF := some_elim hF
            exact Wk_ret (hfin _ ⟨[], [], [], [], [], [], by first | (rw [← hF]; kernel_rfl) | kernel_rfl⟩)
          · have hF := ite_f hF hb
            refine Wk_skip ?_
            refine Wk_seq ?_
            obtain ⟨x4, h4, hF⟩ := ob_elim hF
            refine WR [.call (.tup [.agg [.sl 1 (x4.1.Bytes.map e_u8), .int .i64 x4.1.Kept], .sl 1 (x4.2.1.map e_L_u8), .agg [.int .i64 x4.2.2.Code, .int .i64 x4.2.2.At]])] [0, 1, 14, 15, 16] [14, 15] [] [] [] [] ⟨[(0, .sl 1 (bodies.map e_L_u8)), (1, .int .i64 synced), (14, .ptr 14 0), (15, .ptr 15 0), (16, .sl 1 (x4.2.1.map e_L_u8))], [(14, [.int .i64 x4.2.2.Code, .int .i64 x4.2.2.At]), (15, [.sl 1 (x4.1.Bytes.map e_u8), .int .i64 x4.1.Kept])], [], [], []⟩ (.cons (disk_Recover_v1_ok x2.1 x4 h4) .nil) (by kernel_rfl) ?_
            refine Wk_seq ?_
            refine Wk_seq ?_
            obtain ⟨h5, hF⟩ := asrt_elim hF
            obtain ⟨x5, h6, hF⟩ := ob_elim hF
            refine WR [.nat (x4.2.1.length : Int), .nat (x4.2.1.length : Int), .nat (bodies.length : Int), .nat (x4.2.1.length : Int), .xs ((ltake bodies (x4.2.1.length : Int)).map e_L_u8), .callB (.bool x5)] [14, 15, 16, 127] [14, 15] [] [] [] [] ⟨[(14, .ptr 14 0), (15, .ptr 15 0), (16, .sl 1 (x4.2.1.map e_L_u8)), (127, .bool ((((!decide (x4.2.2.Code = 0)) || (decide ((x4.2.1.length : Int) < synced))) || (decide ((bodies.length : Int) < (x4.2.1.length : Int)))) || (!x5)))], [(14, [.int .i64 x4.2.2.Code, .int .i64 x4.2.2.At]), (15, [.sl 1 (x4.1.Bytes.map e_u8), .int .i64 x4.1.Kept])], [], [], []⟩ (.cons (fun (_ : (!(!decide (x4.2.2.Code = 0))) = true) => (len_ok e_L_u8 x4.2.1)) (.cons (fun (_ : (!((!decide (x4.2.2.Code = 0)) || (decide ((x4.2.1.length : Int) < synced)))) = true) => (len_ok e_L_u8 x4.2.1)) (.cons (fun (_ : (!((!decide (x4.2.2.Code = 0)) || (decide ((x4.2.1.length : Int) < synced)))) = true) => (len_ok e_L_u8 bodies)) (.cons (fun (_ : (!(((!decide (x4.2.2.Code = 0)) || (decide ((x4.2.1.length : Int) < synced))) || (decide ((bodies.length : Int) < (x4.2.1.length : Int))))) = true) => (len_ok e_L_u8 x4.2.1)) (.cons (fun (ga0 : (!(((!decide (x4.2.2.Code = 0)) || (decide ((x4.2.1.length : Int) < synced))) || (decide ((bodies.length : Int) < (x4.2.1.length : Int))))) = true) => (sl01_ok e_L_u8 (h5 ga0))) (.cons (fun (ga0 : (!(((!decide (x4.2.2.Code = 0)) || (decide ((x4.2.1.length : Int) < synced))) || (decide ((bodies.length : Int) < (x4.2.1.length : Int))))) = true) => (R_SameBodies_ok x4.2.1 (ltake bodies (x4.2.1.length : Int)) x5 (ite_t h6 ga0))) .nil)))))) (by kernel_rfl) ?_
            refine Wk_split rfl (fun hb => ?_) (fun hb => ?_)
            · have hF := ite_t hF hb
              refine Wk_seq ?_
              refine WR [] [6] [] [] [] [] [] ⟨[(6, .bool false)], [], [], [], []⟩ .nil (by kernel_rfl) ?_
              have hF := some_elim hF
              exact Wk_ret (hfin _ ⟨[], [], [], [], [], [], by first | (rw [← hF]; kernel_rfl) | kernel_rfl⟩)
            · have hF := ite_f hF hb
              refine Wk_skip ?_
              refine Wk_seq ?_
              obtain ⟨x6, h7, hF⟩ := ob_elim hF
              refine WR [.call (.tup [.agg [.sl 1 (x6.1.Bytes.map e_u8), .int .i64 x6.1.Kept], .sl 1 (x6.2.1.map e_L_u8), .agg [.int .i64 x6.2.2.Code, .int .i64 x6.2.2.At]])] [14, 15, 16, 17, 18] [14, 15, 17] [] [] [] [] ⟨[(14, .ptr 14 0), (15, .ptr 15 0), (16, .sl 1 (x4.2.1.map e_L_u8)), (17, .ptr 17 0), (18, .sl 1 (x6.2.1.map e_L_u8))], [(14, [.int .i64 x6.2.2.Code, .int .i64 x6.2.2.At]), (15, [.sl 1 (x4.1.Bytes.map e_u8), .int .i64 x4.1.Kept]), (17, [.sl 1 (x6.1.Bytes.map e_u8), .int .i64 x6.1.Kept])], [], [], []⟩ (.cons (disk_Recover_v1_ok x4.1 x6 h7) .nil) (by kernel_rfl) ?_
              refine Wk_seq ?_
              obtain ⟨x7, h8, hF⟩ := lt_split hF
              obtain ⟨x8, h9, hF⟩ := ob_elim hF
              refine WRL ((((decide (x6.2.2.Code = 0)) && x7) && x8) && (decide (x4.1.Kept = (x4.1.Bytes.length : Int)))) (fun v2 : Bool => ⟨[(6, .bool v2)], [], [], [], []⟩) [.callB (.bool x7), .callB (.bool x8), .nat (x4.1.Bytes.length : Int)] [6] [] [] [] [] [] (.cons (fun (ga0 : (decide (x6.2.2.Code = 0)) = true) => (R_SameDisk_ok x6.1 x4.1 x7 h8)) (.cons (fun (ga0 : ((decide (x6.2.2.Code = 0)) && x7) = true) => (R_SameBodies_ok x6.2.1 x4.2.1 x8 (ite_t h9 ga0))) (.cons (fun (_ : (((decide (x6.2.2.Code = 0)) && x7) && x8) = true) => (len_ok e_u8 x4.1.Bytes)) .nil))) (by kernel_rfl) (fun v2 hv => ?_)
              have hF := lt_elim hF hv
              have hF := some_elim hF
              exact Wk_ret (hfin _ ⟨[], [], [], [], [], [], by first | (rw [← hF]; kernel_rfl) | kernel_rfl⟩)

/- tabularylaw.ownDisk -/
noncomputable def law_ownDisk (d : Disk) : Option Disk :=
  ob (law_ownBytes_v1 d.Bytes) fun x =>
  some (⟨x, d.Kept⟩ : Disk)
theorem law_ownDisk_ok (d : Disk) (r : Disk) (hF : law_ownDisk d = some r) : Pe Try.prog 44 S.none [.agg [.sl 1 (d.Bytes.map e_u8), .int .i64 d.Kept]] (.agg [.sl 1 (r.Bytes.map e_u8), .int .i64 r.Kept]) S.none := by
  refine Pe_of (N := 9) (res := [.cell 2 43]) (ts := [43]) Ty.ok Fn.b44 Try.func44 rfl rfl rfl rfl rfl rfl ?_
  intro Q g hfin
  unfold law_ownDisk at hF
  refine Wk_seq ?_
  refine WR [] [1, 2] [1, 2] [] [] [] [] ⟨[(1, .ptr 1 0), (2, .ptr 2 0)], [(1, [.sl 1 (d.Bytes.map e_u8), .int .i64 d.Kept]), (2, [.nils, .int .i64 0])], [], [], []⟩ .nil (by kernel_rfl) ?_
  refine Wk_seq ?_
  obtain ⟨x, h0, hF⟩ := ob_elim hF
  refine WD [.call (.sl 1 (x.map e_u8))] [2] [2] [] [] [] [] ⟨[(2, .ptr 2 0)], [(2, [.sl 1 (x.map e_u8), .int .i64 d.Kept])], [], [], []⟩ (.cons (law_ownBytes_v1_ok d.Bytes x h0) .nil) (by kernel_rfl) ?_
  have hF := some_elim hF
  exact Wk_ret (hfin _ ⟨[], [], [], [], [], [], by first | (rw [← hF]; kernel_rfl) | kernel_rfl⟩)

/- disk.Trim -/
noncomputable def disk_Trim_v1 (d : Disk) (num : Int) : Option (Disk × Fault) :=
  lt (disk_Check d) fun x =>
  if (!decide (x.Code = 0)) = true then
    some ((⟨([] : List UInt8), 0⟩ : Disk), x)
  else
    if ((decide (num < 0)) || (decide ((d.Bytes.length : Int) < num))) = true then
      lt (disk_fault 3 (-1)) fun x1 =>
      some ((⟨([] : List UInt8), 0⟩ : Disk), x1)
    else
      ob (disk_cut d num) fun x2 =>
      some ((⟨x2.1, x2.2⟩ : Disk), (⟨0, 0⟩ : Fault))
theorem disk_Trim_v1_ok (d : Disk) (num : Int) (r : Disk × Fault) (hF : disk_Trim_v1 d num = some r) : Pe Try.prog 46 S.none [.agg [.sl 1 (d.Bytes.map e_u8), .int .i64 d.Kept], .int .i64 num] (.tup [.agg [.sl 1 (r.1.Bytes.map e_u8), .int .i64 r.1.Kept], .agg [.int .i64 r.2.Code, .int .i64 r.2.At]]) S.none := by
  refine Pe_of (N := 29) (res := [.cell 4 43, .cell 5 26]) (ts := [43, 26]) Ty.ok Fn.b46 Try.func46 rfl rfl rfl rfl rfl rfl ?_
  intro Q g hfin
  unfold disk_Trim_v1 at hF
  refine Wk_seq ?_
  refine WR [] [1, 2, 4, 5] [2, 4, 5] [] [] [] [] ⟨[(1, .int .i64 num), (2, .ptr 2 0), (4, .ptr 4 0), (5, .ptr 5 0)], [(2, [.sl 1 (d.Bytes.map e_u8), .int .i64 d.Kept]), (4, [.nils, .int .i64 0]), (5, [.int .i64 0, .int .i64 0])], [], [], []⟩ .nil (by kernel_rfl) ?_
  refine Wk_seq ?_
  refine Wk_seq ?_
  obtain ⟨x, h0, hF⟩ := lt_split hF
  refine WR [.callB (.agg [.int .i64 x.Code, .int .i64 x.At])] [1, 2, 4, 5, 6] [2, 4, 5, 6] [] [] [] [] ⟨[(1, .int .i64 num), (2, .ptr 2 0), (4, .ptr 4 0), (5, .ptr 5 0), (6, .ptr 6 0)], [(2, [.sl 1 (d.Bytes.map e_u8), .int .i64 d.Kept]), (4, [.nils, .int .i64 0]), (5, [.int .i64 0, .int .i64 0]), (6, [.int .i64 x.Code, .int .i64 x.At])], [], [], []⟩ (.cons (disk_Check_ok d x h0) .nil) (by kernel_rfl) ?_
  refine Wk_seq ?_
  refine WR [] [1, 2, 4, 5, 6, 11] [2, 4, 5, 6] [] [] [] [] ⟨[(1, .int .i64 num), (2, .ptr 2 0), (4, .ptr 4 0), (5, .ptr 5 0), (6, .ptr 6 0), (11, .bool (!decide (x.Code = 0)))], [(2, [.sl 1 (d.Bytes.map e_u8), .int .i64 d.Kept]), (4, [.nils, .int .i64 0]), (5, [.int .i64 0, .int .i64 0]), (6, [.int .i64 x.Code, .int .i64 x.At])], [], [], []⟩ .nil (by kernel_rfl) ?_
  refine Wk_split rfl (fun hb => ?_) (fun hb => ?_)
  · have hF := ite_t hF hb
    refine Wk_seq ?_
    refine WD [] [4, 5] [4, 5] [] [] [] [] ⟨[(4, .ptr 4 0), (5, .ptr 5 0)], [(4, [.nils, .int .i64 0]), (5, [.int .i64 x.Code, .int .i64 x.At])], [], [], []⟩ .nil (by kernel_rfl) ?_
    have hF := some_elim hF
    exact Wk_ret (hfin _ ⟨[], [], [], [], [], [], by first | (rw [← hF]; kernel_rfl) | kernel_rfl⟩)
  · have hF := ite_f hF hb
    refine Wk_skip ?_
    refine Wk_seq ?_
    refine Wk_seq ?_
    refine WR [.nat (d.Bytes.length : Int)] [1, 2, 4, 5, 22] [2, 4, 5] [] [] [] [] ⟨[(1, .int .i64 num), (2, .ptr 2 0), (4, .ptr 4 0), (5, .ptr 5 0), (22, .bool ((decide (num < 0)) || (decide ((d.Bytes.length : Int) < num))))], [(2, [.sl 1 (d.Bytes.map e_u8), .int .i64 d.Kept]), (4, [.nils, .int .i64 0]), (5, [.int .i64 0, .int .i64 0])], [], [], []⟩ (.cons (fun (_ : (!(decide (num < 0))) = true) => (len_ok e_u8 d.Bytes)) .nil) (by kernel_rfl) ?_
    refine Wk_split rfl (fun hb => ?_) (fun hb => ?_)
    · have hF := ite_t hF hb
      refine Wk_seq ?_
      obtain ⟨x1, h1, hF⟩ := lt_split hF
      refine WR [.callB (.agg [.int .i64 x1.Code, .int .i64 x1.At])] [4, 5] [4, 5] [] [] [] [] ⟨[(4, .ptr 4 0), (5, .ptr 5 0)], [(4, [.nils, .int .i64 0]), (5, [.int .i64 x1.Code, .int .i64 x1.At])], [], [], []⟩ (.cons (disk_fault_ok 3 (-1) x1 h1) .nil) (by kernel_rfl) ?_
      have hF := some_elim hF
      exact Wk_ret (hfin _ ⟨[], [], [], [], [], [], by first | (rw [← hF]; kernel_rfl) | kernel_rfl⟩)
    · have hF := ite_f hF hb
      refine Wk_skip ?_
      refine Wk_seq ?_
      obtain ⟨x2, h2, hF⟩ := ob_elim hF
      refine WR [.callE [] [] [] [] (.agg [.row 27 0, .int .i64 x2.2]) ⟨[], [], [(27, ⟨5, 1, 0, 0, 0, false, 0, [], (x2.1.map e_u8)⟩)], [], []⟩] [4, 5] [4, 5] [27] [] [] [] ⟨[(4, .ptr 4 0), (5, .ptr 5 0)], [(4, [.row 27 0, .int .i64 x2.2]), (5, [.int .i64 0, .int .i64 0])], [(27, ⟨5, 1, 0, 0, 0, false, 0, [], (x2.1.map e_u8)⟩)], [], []⟩ (.cons (Pe.ren (disk_cut_ok d num x2 h2) ⟨[], [(9, 27)], [], []⟩) .nil) (by kernel_rfl) ?_
      have hF := some_elim hF
      exact Wk_ret (hfin _ ⟨[], [], [], [], [], [], by first | (rw [← hF]; kernel_rfl) | kernel_rfl⟩)

/- tabularyref.DiskFault -/
noncomputable def R_DiskFault (d : Disk) : Fault :=
  if (decide (60000 < (d.Bytes.length : Int))) = true then
    lt (R_F 8 0) fun x =>
    x
  else
    if ((decide (d.Kept < 0)) || (decide ((d.Bytes.length : Int) < d.Kept))) = true then
      lt (R_F 3 0) fun x1 =>
      x1
    else
      (⟨0, 0⟩ : Fault)
theorem R_DiskFault_ok (d : Disk) (r : Fault) (hF : R_DiskFault d = r) : Pe Try.prog 47 S.none [.agg [.sl 1 (d.Bytes.map e_u8), .int .i64 d.Kept]] (.agg [.int .i64 r.Code, .int .i64 r.At]) S.none := by
  refine Pe_of (N := 21) (res := [.cell 2 26]) (ts := [26]) Ty.ok Fn.b47 Try.func47 rfl rfl rfl rfl rfl rfl ?_
  intro Q g hfin
  unfold R_DiskFault at hF
  refine Wk_seq ?_
  refine WR [] [1, 2] [1, 2] [] [] [] [] ⟨[(1, .ptr 1 0), (2, .ptr 2 0)], [(1, [.sl 1 (d.Bytes.map e_u8), .int .i64 d.Kept]), (2, [.int .i64 0, .int .i64 0])], [], [], []⟩ .nil (by kernel_rfl) ?_
  refine Wk_seq ?_
  refine Wk_seq ?_
  refine WR [.nat (d.Bytes.length : Int)] [1, 2, 6] [1, 2] [] [] [] [] ⟨[(1, .ptr 1 0), (2, .ptr 2 0), (6, .bool (decide (60000 < (d.Bytes.length : Int))))], [(1, [.sl 1 (d.Bytes.map e_u8), .int .i64 d.Kept]), (2, [.int .i64 0, .int .i64 0])], [], [], []⟩ (.cons (len_ok e_u8 d.Bytes) .nil) (by kernel_rfl) ?_
  refine Wk_split rfl (fun hb => ?_) (fun hb => ?_)
  · have hF := ite_t hF hb
    refine Wk_seq ?_
    obtain ⟨x, h0, hF⟩ := lt_split hF
    refine WR [.callB (.agg [.int .i64 x.Code, .int .i64 x.At])] [2] [2] [] [] [] [] ⟨[(2, .ptr 2 0)], [(2, [.int .i64 x.Code, .int .i64 x.At])], [], [], []⟩ (.cons (R_F_ok 8 0 x h0) .nil) (by kernel_rfl) ?_
    exact Wk_ret (hfin _ ⟨[], [], [], [], [], [], by first | (rw [← hF]; kernel_rfl) | kernel_rfl⟩)
  · have hF := ite_f hF hb
    refine Wk_skip ?_
    refine Wk_seq ?_
    refine Wk_seq ?_
    refine WR [.nat (d.Bytes.length : Int)] [2, 18] [2] [] [] [] [] ⟨[(2, .ptr 2 0), (18, .bool ((decide (d.Kept < 0)) || (decide ((d.Bytes.length : Int) < d.Kept))))], [(2, [.int .i64 0, .int .i64 0])], [], [], []⟩ (.cons (fun (_ : (!(decide (d.Kept < 0))) = true) => (len_ok e_u8 d.Bytes)) .nil) (by kernel_rfl) ?_
    refine Wk_split rfl (fun hb => ?_) (fun hb => ?_)
    · have hF := ite_t hF hb
      refine Wk_seq ?_
      obtain ⟨x1, h1, hF⟩ := lt_split hF
      refine WR [.callB (.agg [.int .i64 x1.Code, .int .i64 x1.At])] [2] [2] [] [] [] [] ⟨[(2, .ptr 2 0)], [(2, [.int .i64 x1.Code, .int .i64 x1.At])], [], [], []⟩ (.cons (R_F_ok 3 0 x1 h1) .nil) (by kernel_rfl) ?_
      exact Wk_ret (hfin _ ⟨[], [], [], [], [], [], by first | (rw [← hF]; kernel_rfl) | kernel_rfl⟩)
    · have hF := ite_f hF hb
      refine Wk_skip ?_
      refine Wk_seq ?_
      refine WR [] [2] [2] [] [] [] [] ⟨[(2, .ptr 2 0)], [(2, [.int .i64 0, .int .i64 0])], [], [], []⟩ .nil (by kernel_rfl) ?_
      exact Wk_ret (hfin _ ⟨[], [], [], [], [], [], by first | (rw [← hF]; kernel_rfl) | kernel_rfl⟩)

/- tabularylaw.DiskDoes$1 -/
noncomputable def law_DiskDoes_1_v1 (box : Disk) (box1 : List UInt8) : Option Disk :=
  ob (law_ownBytes box.Bytes) fun x =>
  asrt (((x ++ box1).length : Int) * 1 ≤ 140737488351232) <|
  some (⟨(x ++ box1), box.Kept⟩ : Disk)
theorem law_DiskDoes_1_v1_ok (box : Disk) (box1 : List UInt8) (r : Disk) (hF : law_DiskDoes_1_v1 box box1 = some r) : Pe Try.prog 49 ⟨[], [(100000, [.sl 1 (box.Bytes.map e_u8), .int .i64 box.Kept]), (100001, [.sl 1 (box1.map e_u8)])], [], [], []⟩ [.ptr 100000 0, .ptr 100001 0] (.agg [.sl 1 (r.Bytes.map e_u8), .int .i64 r.Kept]) ⟨[], [(100000, [.sl 1 (box.Bytes.map e_u8), .int .i64 box.Kept]), (100001, [.sl 1 (box1.map e_u8)])], [], [], []⟩ := by
  refine Pe_of (N := 11) (res := [.cell 2 43]) (ts := [43]) Ty.ok Fn.b49 Try.func49 rfl rfl rfl rfl rfl rfl ?_
  intro Q g hfin
  unfold law_DiskDoes_1_v1 at hF
  refine Wk_seq ?_
  refine WR [] [0, 1, 2] [2, 100000, 100001] [] [] [] [] ⟨[(0, .ptr 100000 0), (1, .ptr 100001 0), (2, .ptr 2 0)], [(2, [.nils, .int .i64 0]), (100000, [.sl 1 (box.Bytes.map e_u8), .int .i64 box.Kept]), (100001, [.sl 1 (box1.map e_u8)])], [], [], []⟩ .nil (by kernel_rfl) ?_
  refine Wk_seq ?_
  obtain ⟨x, h0, hF⟩ := ob_elim hF
  obtain ⟨h1, hF⟩ := asrt_elim hF
  refine WD [.callE [] [] [] [] (.row 5 1) ⟨[], [], [(5, ⟨5, 1, 1, 0, 0, true, 0, [], (x.map e_u8)⟩)], [], []⟩, .xs ((x ++ box1).map e_u8)] [2] [2, 100000, 100001] [5] [] [] [] ⟨[(2, .ptr 2 0)], [(2, [.row 5 2, .int .i64 box.Kept]), (100000, [.sl 1 (box.Bytes.map e_u8), .int .i64 box.Kept]), (100001, [.sl 1 (box1.map e_u8)])], [(5, ⟨5, 1, 2, 0, 0, true, 0, [], ((x ++ box1).map e_u8)⟩)], [], []⟩ (.cons (Pe.ren (law_ownBytes_ok box.Bytes x h0) ⟨[], [(4, 5)], [], []⟩) (.cons (app_ok e_u8 x box1) (.cons (appl_ok e_u8 h1) .nil))) (by kernel_rfl) ?_
  have hF := some_elim hF
  exact Wk_ret (hfin _ ⟨[], [100000, 100001], [], [], [], [], by first | (rw [← hF]; kernel_rfl) | kernel_rfl⟩)

/- tabularylaw.diskAs -/
noncomputable def law_diskAs (d : Disk) (f : Fault) (w0 : Fault) (box : Disk) (box1 : List UInt8) : Option Bool :=
  if (!(decide (f.Code = w0.Code) && (decide (f.At = w0.At) && true))) = true then
    some false
  else
    if (!decide (w0.Code = 0)) = true then
      lt (R_SameDisk d (⟨([] : List UInt8), 0⟩ : Disk)) fun x =>
      some x
    else
      ob (law_DiskDoes_1_v1 box box1) fun x1 =>
      lt (R_SameDisk d x1) fun x2 =>
      some x2
theorem law_diskAs_ok (d : Disk) (f : Fault) (w0 : Fault) (box : Disk) (box1 : List UInt8) (r : Bool) (hF : law_diskAs d f w0 box box1 = some r) : Pe Try.prog 48 ⟨[], [(100000, [.sl 1 (box.Bytes.map e_u8), .int .i64 box.Kept]), (100001, [.sl 1 (box1.map e_u8)])], [], [], []⟩ [.agg [.sl 1 (d.Bytes.map e_u8), .int .i64 d.Kept], .agg [.int .i64 f.Code, .int .i64 f.At], .agg [.int .i64 w0.Code, .int .i64 w0.At], .fn 49 [.ptr 100000 0, .ptr 100001 0]] (.bool r) ⟨[], [(100000, [.sl 1 (box.Bytes.map e_u8), .int .i64 box.Kept]), (100001, [.sl 1 (box1.map e_u8)])], [], [], []⟩ := by
  refine Pe_of (N := 22) (res := [.tmp 8]) (ts := [4]) Ty.ok Fn.b48 Try.func48 rfl rfl rfl rfl rfl rfl ?_
  intro Q g hfin
  unfold law_diskAs at hF
  refine Wk_seq ?_
  refine WR [] [3, 4, 5, 6] [4, 5, 6, 100000, 100001] [] [] [] [] ⟨[(3, .fn 49 [.ptr 100000 0, .ptr 100001 0]), (4, .ptr 4 0), (5, .ptr 5 0), (6, .ptr 6 0)], [(4, [.sl 1 (d.Bytes.map e_u8), .int .i64 d.Kept]), (5, [.int .i64 f.Code, .int .i64 f.At]), (6, [.int .i64 w0.Code, .int .i64 w0.At]), (100000, [.sl 1 (box.Bytes.map e_u8), .int .i64 box.Kept]), (100001, [.sl 1 (box1.map e_u8)])], [], [], []⟩ .nil (by kernel_rfl) ?_
  refine Wk_seq ?_
  refine Wk_seq ?_
  refine WR [] [3, 4, 6, 11] [4, 6, 100000, 100001] [] [] [] [] ⟨[(3, .fn 49 [.ptr 100000 0, .ptr 100001 0]), (4, .ptr 4 0), (6, .ptr 6 0), (11, .bool (!(decide (f.Code = w0.Code) && (decide (f.At = w0.At) && true))))], [(4, [.sl 1 (d.Bytes.map e_u8), .int .i64 d.Kept]), (6, [.int .i64 w0.Code, .int .i64 w0.At]), (100000, [.sl 1 (box.Bytes.map e_u8), .int .i64 box.Kept]), (100001, [.sl 1 (box1.map e_u8)])], [], [], []⟩ .nil (by kernel_rfl) ?_
  refine Wk_split rfl (fun hb => ?_) (fun hb => ?_)
  · have hF := ite_t hF hb
    refine Wk_seq ?_
    refine WR [] [8] [100000, 100001] [] [] [] [] ⟨[(8, .bool false)], [(100000, [.sl 1 (box.Bytes.map e_u8), .int .i64 box.Kept]), (100001, [.sl 1 (box1.map e_u8)])], [], [], []⟩ .nil (by kernel_rfl) ?_
    have hF := some_elim hF
    exact Wk_ret (hfin _ ⟨[], [100000, 100001], [], [], [], [], by first | (rw [← hF]; kernel_rfl) | kernel_rfl⟩)
  · have hF := ite_f hF hb
    refine Wk_skip ?_
    refine Wk_seq ?_
    refine Wk_seq ?_
    refine WR [] [3, 4, 14] [4, 100000, 100001] [] [] [] [] ⟨[(3, .fn 49 [.ptr 100000 0, .ptr 100001 0]), (4, .ptr 4 0), (14, .bool (!decide (w0.Code = 0)))], [(4, [.sl 1 (d.Bytes.map e_u8), .int .i64 d.Kept]), (100000, [.sl 1 (box.Bytes.map e_u8), .int .i64 box.Kept]), (100001, [.sl 1 (box1.map e_u8)])], [], [], []⟩ .nil (by kernel_rfl) ?_
    refine Wk_split rfl (fun hb => ?_) (fun hb => ?_)
    · have hF := ite_t hF hb
      refine Wk_seq ?_
      obtain ⟨x, h0, hF⟩ := lt_split hF
      refine WR [.callB (.bool x)] [8] [100000, 100001] [] [] [] [] ⟨[(8, .bool x)], [(100000, [.sl 1 (box.Bytes.map e_u8), .int .i64 box.Kept]), (100001, [.sl 1 (box1.map e_u8)])], [], [], []⟩ (.cons (R_SameDisk_ok d (⟨([] : List UInt8), 0⟩ : Disk) x h0) .nil) (by kernel_rfl) ?_
      have hF := some_elim hF
      exact Wk_ret (hfin _ ⟨[], [100000, 100001], [], [], [], [], by first | (rw [← hF]; kernel_rfl) | kernel_rfl⟩)
    · have hF := ite_f hF hb
      refine Wk_skip ?_
      refine Wk_seq ?_
      obtain ⟨x1, h1, hF⟩ := ob_elim hF
      obtain ⟨x2, h2, hF⟩ := lt_split hF
      refine WD [.callR [100000, 100001] [] [] [] (.agg [.sl 1 (x1.Bytes.map e_u8), .int .i64 x1.Kept]), .callB (.bool x2)] [8] [100000, 100001] [] [] [] [] ⟨[(8, .bool x2)], [(100000, [.sl 1 (box.Bytes.map e_u8), .int .i64 box.Kept]), (100001, [.sl 1 (box1.map e_u8)])], [], [], []⟩ (.cons (Pe.ren (law_DiskDoes_1_v1_ok box box1 x1 h1) ⟨[], [], [], []⟩) (.cons (R_SameDisk_ok d x1 x2 h2) .nil)) (by kernel_rfl) ?_
      have hF := some_elim hF
      exact Wk_ret (hfin _ ⟨[], [100000, 100001], [], [], [], [], by first | (rw [← hF]; kernel_rfl) | kernel_rfl⟩)

/- tabularylaw.DiskDoes$2 -/
noncomputable def law_DiskDoes_2 (box : Disk) : Disk :=
  (⟨box.Bytes, (box.Bytes.length : Int)⟩ : Disk)
theorem law_DiskDoes_2_ok (box : Disk) (r : Disk) (hF : law_DiskDoes_2 box = r) : Pe Try.prog 50 ⟨[], [(100000, [.sl 1 (box.Bytes.map e_u8), .int .i64 box.Kept])], [], [], []⟩ [.ptr 100000 0] (.agg [.sl 1 (r.Bytes.map e_u8), .int .i64 r.Kept]) ⟨[], [(100000, [.sl 1 (box.Bytes.map e_u8), .int .i64 box.Kept])], [], [], []⟩ := by
  refine Pe_of (N := 8) (res := [.cell 1 43]) (ts := [43]) Ty.ok Fn.b50 Try.func50 rfl rfl rfl rfl rfl rfl ?_
  intro Q g hfin
  unfold law_DiskDoes_2 at hF
  refine Wk_seq ?_
  refine WR [] [0, 1] [1, 100000] [] [] [] [] ⟨[(0, .ptr 100000 0), (1, .ptr 1 0)], [(1, [.nils, .int .i64 0]), (100000, [.sl 1 (box.Bytes.map e_u8), .int .i64 box.Kept])], [], [], []⟩ .nil (by kernel_rfl) ?_
  refine Wk_seq ?_
  refine WR [.nat (box.Bytes.length : Int)] [1] [1, 100000] [] [] [] [] ⟨[(1, .ptr 1 0)], [(1, [.sl 1 (box.Bytes.map e_u8), .int .i64 (box.Bytes.length : Int)]), (100000, [.sl 1 (box.Bytes.map e_u8), .int .i64 box.Kept])], [], [], []⟩ (.cons (len_ok e_u8 box.Bytes) .nil) (by kernel_rfl) ?_
  exact Wk_ret (hfin _ ⟨[], [100000], [], [], [], [], by first | (rw [← hF]; kernel_rfl) | kernel_rfl⟩)

/- tabularylaw.diskAs -/
noncomputable def law_diskAs_v1 (d : Disk) (f : Fault) (w0 : Fault) (box : Disk) : Bool :=
  if (!(decide (f.Code = w0.Code) && (decide (f.At = w0.At) && true))) = true then
    false
  else
    if (!decide (w0.Code = 0)) = true then
      lt (R_SameDisk d (⟨([] : List UInt8), 0⟩ : Disk)) fun x =>
      x
    else
      lt (law_DiskDoes_2 box) fun x1 =>
      lt (R_SameDisk d x1) fun x2 =>
      x2
theorem law_diskAs_v1_ok (d : Disk) (f : Fault) (w0 : Fault) (box : Disk) (r : Bool) (hF : law_diskAs_v1 d f w0 box = r) : Pe Try.prog 48 ⟨[], [(100000, [.sl 1 (box.Bytes.map e_u8), .int .i64 box.Kept])], [], [], []⟩ [.agg [.sl 1 (d.Bytes.map e_u8), .int .i64 d.Kept], .agg [.int .i64 f.Code, .int .i64 f.At], .agg [.int .i64 w0.Code, .int .i64 w0.At], .fn 50 [.ptr 100000 0]] (.bool r) ⟨[], [(100000, [.sl 1 (box.Bytes.map e_u8), .int .i64 box.Kept])], [], [], []⟩ := by
  refine Pe_of (N := 22) (res := [.tmp 8]) (ts := [4]) Ty.ok Fn.b48 Try.func48 rfl rfl rfl rfl rfl rfl ?_
  intro Q g hfin
  unfold law_diskAs_v1 at hF
  refine Wk_seq ?_
  refine WR [] [3, 4, 5, 6] [4, 5, 6, 100000] [] [] [] [] ⟨[(3, .fn 50 [.ptr 100000 0]), (4, .ptr 4 0), (5, .ptr 5 0), (6, .ptr 6 0)], [(4, [.sl 1 (d.Bytes.map e_u8), .int .i64 d.Kept]), (5, [.int .i64 f.Code, .int .i64 f.At]), (6, [.int .i64 w0.Code, .int .i64 w0.At]), (100000, [.sl 1 (box.Bytes.map e_u8), .int .i64 box.Kept])], [], [], []⟩ .nil (by kernel_rfl) ?_
  refine Wk_seq ?_
  refine Wk_seq ?_
  refine WR [] [3, 4, 6, 11] [4, 6, 100000] [] [] [] [] ⟨[(3, .fn 50 [.ptr 100000 0]), (4, .ptr 4 0), (6, .ptr 6 0), (11, .bool (!(decide (f.Code = w0.Code) && (decide (f.At = w0.At) && true))))], [(4, [.sl 1 (d.Bytes.map e_u8), .int .i64 d.Kept]), (6, [.int .i64 w0.Code, .int .i64 w0.At]), (100000, [.sl 1 (box.Bytes.map e_u8), .int .i64 box.Kept])], [], [], []⟩ .nil (by kernel_rfl) ?_
  refine Wk_split rfl (fun hb => ?_) (fun hb => ?_)
  · have hF := ite_t hF hb
    refine Wk_seq ?_
    refine WR [] [8] [100000] [] [] [] [] ⟨[(8, .bool false)], [(100000, [.sl 1 (box.Bytes.map e_u8), .int .i64 box.Kept])], [], [], []⟩ .nil (by kernel_rfl) ?_
    exact Wk_ret (hfin _ ⟨[], [100000], [], [], [], [], by first | (rw [← hF]; kernel_rfl) | kernel_rfl⟩)
  · have hF := ite_f hF hb
    refine Wk_skip ?_
    refine Wk_seq ?_
    refine Wk_seq ?_
    refine WR [] [3, 4, 14] [4, 100000] [] [] [] [] ⟨[(3, .fn 50 [.ptr 100000 0]), (4, .ptr 4 0), (14, .bool (!decide (w0.Code = 0)))], [(4, [.sl 1 (d.Bytes.map e_u8), .int .i64 d.Kept]), (100000, [.sl 1 (box.Bytes.map e_u8), .int .i64 box.Kept])], [], [], []⟩ .nil (by kernel_rfl) ?_
    refine Wk_split rfl (fun hb => ?_) (fun hb => ?_)
    · have hF := ite_t hF hb
      refine Wk_seq ?_
      obtain ⟨x, h0, hF⟩ := lt_split hF
      refine WR [.callB (.bool x)] [8] [100000] [] [] [] [] ⟨[(8, .bool x)], [(100000, [.sl 1 (box.Bytes.map e_u8), .int .i64 box.Kept])], [], [], []⟩ (.cons (R_SameDisk_ok d (⟨([] : List UInt8), 0⟩ : Disk) x h0) .nil) (by kernel_rfl) ?_
      exact Wk_ret (hfin _ ⟨[], [100000], [], [], [], [], by first | (rw [← hF]; kernel_rfl) | kernel_rfl⟩)
    · have hF := ite_f hF hb
      refine Wk_skip ?_
      refine Wk_seq ?_
      obtain ⟨x1, h1, hF⟩ := lt_split hF
      obtain ⟨x2, h2, hF⟩ := lt_split hF
      refine WD [.callR [100000] [] [] [] (.agg [.sl 1 (x1.Bytes.map e_u8), .int .i64 x1.Kept]), .callB (.bool x2)] [8] [100000] [] [] [] [] ⟨[(8, .bool x2)], [(100000, [.sl 1 (box.Bytes.map e_u8), .int .i64 box.Kept])], [], [], []⟩ (.cons (Pe.ren (law_DiskDoes_2_ok box x1 h1) ⟨[], [], [], []⟩) (.cons (R_SameDisk_ok d x1 x2 h2) .nil)) (by kernel_rfl) ?_
      exact Wk_ret (hfin _ ⟨[], [100000], [], [], [], [], by first | (rw [← hF]; kernel_rfl) | kernel_rfl⟩)

/- tabularylaw.DiskDoes$3 -/
noncomputable def law_DiskDoes_3 (box : Disk) (box1 : Int) : Option Disk :=
  asrt (0 ≤ w64 (box.Kept + box1) ∧ w64 (box.Kept + box1) ≤ (box.Bytes.length : Int)) <|
  some (⟨(ltake box.Bytes (w64 (box.Kept + box1))), w64 (box.Kept + box1)⟩ : Disk)
theorem law_DiskDoes_3_ok (box : Disk) (box1 : Int) (r : Disk) (hF : law_DiskDoes_3 box box1 = some r) : Pe Try.prog 51 ⟨[], [(100000, [.sl 1 (box.Bytes.map e_u8), .int .i64 box.Kept]), (100001, [.int .i64 box1])], [], [], []⟩ [.ptr 100000 0, .ptr 100001 0] (.agg [.sl 1 (r.Bytes.map e_u8), .int .i64 r.Kept]) ⟨[], [(100000, [.sl 1 (box.Bytes.map e_u8), .int .i64 box.Kept]), (100001, [.int .i64 box1])], [], [], []⟩ := by
  refine Pe_of (N := 15) (res := [.cell 2 43]) (ts := [43]) Ty.ok Fn.b51 Try.func51 rfl rfl rfl rfl rfl rfl ?_
  intro Q g hfin
  unfold law_DiskDoes_3 at hF
  refine Wk_seq ?_
  refine WR [] [0, 1, 2] [2, 100000, 100001] [] [] [] [] ⟨[(0, .ptr 100000 0), (1, .ptr 100001 0), (2, .ptr 2 0)], [(2, [.nils, .int .i64 0]), (100000, [.sl 1 (box.Bytes.map e_u8), .int .i64 box.Kept]), (100001, [.int .i64 box1])], [], [], []⟩ .nil (by kernel_rfl) ?_
  refine Wk_seq ?_
  obtain ⟨h0, hF⟩ := asrt_elim hF
  refine WD [.xs ((ltake box.Bytes (w64 (box.Kept + box1))).map e_u8)] [2] [2, 100000, 100001] [] [] [] [] ⟨[(2, .ptr 2 0)], [(2, [.sl 1 ((ltake box.Bytes (w64 (box.Kept + box1))).map e_u8), .int .i64 (w64 (box.Kept + box1))]), (100000, [.sl 1 (box.Bytes.map e_u8), .int .i64 box.Kept]), (100001, [.int .i64 box1])], [], [], []⟩ (.cons (sl01_ok e_u8 h0) .nil) (by kernel_rfl) ?_
  have hF := some_elim hF
  exact Wk_ret (hfin _ ⟨[], [100000, 100001], [], [], [], [], by first | (rw [← hF]; kernel_rfl) | kernel_rfl⟩)

/- tabularylaw.diskAs -/
noncomputable def law_diskAs_v2 (d : Disk) (f : Fault) (w0 : Fault) (box : Disk) (box1 : Int) : Option Bool :=
  if (!(decide (f.Code = w0.Code) && (decide (f.At = w0.At) && true))) = true then
    some false
  else
    if (!decide (w0.Code = 0)) = true then
      lt (R_SameDisk d (⟨([] : List UInt8), 0⟩ : Disk)) fun x =>
      some x
    else
      ob (law_DiskDoes_3 box box1) fun x1 =>
      lt (R_SameDisk d x1) fun x2 =>
      some x2
theorem law_diskAs_v2_ok (d : Disk) (f : Fault) (w0 : Fault) (box : Disk) (box1 : Int) (r : Bool) (hF : law_diskAs_v2 d f w0 box box1 = some r) : Pe Try.prog 48 ⟨[], [(100000, [.sl 1 (box.Bytes.map e_u8), .int .i64 box.Kept]), (100001, [.int .i64 box1])], [], [], []⟩ [.agg [.sl 1 (d.Bytes.map e_u8), .int .i64 d.Kept], .agg [.int .i64 f.Code, .int .i64 f.At], .agg [.int .i64 w0.Code, .int .i64 w0.At], .fn 51 [.ptr 100000 0, .ptr 100001 0]] (.bool r) ⟨[], [(100000, [.sl 1 (box.Bytes.map e_u8), .int .i64 box.Kept]), (100001, [.int .i64 box1])], [], [], []⟩ := by
  refine Pe_of (N := 22) (res := [.tmp 8]) (ts := [4]) Ty.ok Fn.b48 Try.func48 rfl rfl rfl rfl rfl rfl ?_
  intro Q g hfin
  unfold law_diskAs_v2 at hF
  refine Wk_seq ?_
  refine WR [] [3, 4, 5, 6] [4, 5, 6, 100000, 100001] [] [] [] [] ⟨[(3, .fn 51 [.ptr 100000 0, .ptr 100001 0]), (4, .ptr 4 0), (5, .ptr 5 0), (6, .ptr 6 0)], [(4, [.sl 1 (d.Bytes.map e_u8), .int .i64 d.Kept]), (5, [.int .i64 f.Code, .int .i64 f.At]), (6, [.int .i64 w0.Code, .int .i64 w0.At]), (100000, [.sl 1 (box.Bytes.map e_u8), .int .i64 box.Kept]), (100001, [.int .i64 box1])], [], [], []⟩ .nil (by kernel_rfl) ?_
  refine Wk_seq ?_
  refine Wk_seq ?_
  refine WR [] [3, 4, 6, 11] [4, 6, 100000, 100001] [] [] [] [] ⟨[(3, .fn 51 [.ptr 100000 0, .ptr 100001 0]), (4, .ptr 4 0), (6, .ptr 6 0), (11, .bool (!(decide (f.Code = w0.Code) && (decide (f.At = w0.At) && true))))], [(4, [.sl 1 (d.Bytes.map e_u8), .int .i64 d.Kept]), (6, [.int .i64 w0.Code, .int .i64 w0.At]), (100000, [.sl 1 (box.Bytes.map e_u8), .int .i64 box.Kept]), (100001, [.int .i64 box1])], [], [], []⟩ .nil (by kernel_rfl) ?_
  refine Wk_split rfl (fun hb => ?_) (fun hb => ?_)
  · have hF := ite_t hF hb
    refine Wk_seq ?_
    refine WR [] [8] [100000, 100001] [] [] [] [] ⟨[(8, .bool false)], [(100000, [.sl 1 (box.Bytes.map e_u8), .int .i64 box.Kept]), (100001, [.int .i64 box1])], [], [], []⟩ .nil (by kernel_rfl) ?_
    have hF := some_elim hF
    exact Wk_ret (hfin _ ⟨[], [100000, 100001], [], [], [], [], by first | (rw [← hF]; kernel_rfl) | kernel_rfl⟩)
  · have hF := ite_f hF hb
    refine Wk_skip ?_
    refine Wk_seq ?_
    refine Wk_seq ?_
    refine WR [] [3, 4, 14] [4, 100000, 100001] [] [] [] [] ⟨[(3, .fn 51 [.ptr 100000 0, .ptr 100001 0]), (4, .ptr 4 0), (14, .bool (!decide (w0.Code = 0)))], [(4, [.sl 1 (d.Bytes.map e_u8), .int .i64 d.Kept]), (100000, [.sl 1 (box.Bytes.map e_u8), .int .i64 box.Kept]), (100001, [.int .i64 box1])], [], [], []⟩ .nil (by kernel_rfl) ?_
    refine Wk_split rfl (fun hb => ?_) (fun hb => ?_)
    · have hF := ite_t hF hb
      refine Wk_seq ?_
      obtain ⟨x, h0, hF⟩ := lt_split hF
      refine WR [.callB (.bool x)] [8] [100000, 100001] [] [] [] [] ⟨[(8, .bool x)], [(100000, [.sl 1 (box.Bytes.map e_u8), .int .i64 box.Kept]), (100001, [.int .i64 box1])], [], [], []⟩ (.cons (R_SameDisk_ok d (⟨([] : List UInt8), 0⟩ : Disk) x h0) .nil) (by kernel_rfl) ?_
      have hF := some_elim hF
      exact Wk_ret (hfin _ ⟨[], [100000, 100001], [], [], [], [], by first | (rw [← hF]; kernel_rfl) | kernel_rfl⟩)
    · have hF := ite_f hF hb
      refine Wk_skip ?_
      refine Wk_seq ?_
      obtain ⟨x1, h1, hF⟩ := ob_elim hF
      obtain ⟨x2, h2, hF⟩ := lt_split hF
      refine WD [.callR [100000, 100001] [] [] [] (.agg [.sl 1 (x1.Bytes.map e_u8), .int .i64 x1.Kept]), .callB (.bool x2)] [8] [100000, 100001] [] [] [] [] ⟨[(8, .bool x2)], [(100000, [.sl 1 (box.Bytes.map e_u8), .int .i64 box.Kept]), (100001, [.int .i64 box1])], [], [], []⟩ (.cons (Pe.ren (law_DiskDoes_3_ok box box1 x1 h1) ⟨[], [], [], []⟩) (.cons (R_SameDisk_ok d x1 x2 h2) .nil)) (by kernel_rfl) ?_
      have hF := some_elim hF
      exact Wk_ret (hfin _ ⟨[], [100000, 100001], [], [], [], [], by first | (rw [← hF]; kernel_rfl) | kernel_rfl⟩)

/- tabularylaw.DiskDoes$4 -/
noncomputable def law_DiskDoes_4 (box : Disk) (box1 : Int) : Option Disk :=
  asrt (0 ≤ box1 ∧ box1 ≤ (box.Bytes.length : Int)) <|
  some (⟨(ltake box.Bytes box1), box1⟩ : Disk)
theorem law_DiskDoes_4_ok (box : Disk) (box1 : Int) (r : Disk) (hF : law_DiskDoes_4 box box1 = some r) : Pe Try.prog 52 ⟨[], [(100000, [.sl 1 (box.Bytes.map e_u8), .int .i64 box.Kept]), (100001, [.int .i64 box1])], [], [], []⟩ [.ptr 100000 0, .ptr 100001 0] (.agg [.sl 1 (r.Bytes.map e_u8), .int .i64 r.Kept]) ⟨[], [(100000, [.sl 1 (box.Bytes.map e_u8), .int .i64 box.Kept]), (100001, [.int .i64 box1])], [], [], []⟩ := by
  refine Pe_of (N := 9) (res := [.cell 2 43]) (ts := [43]) Ty.ok Fn.b52 Try.func52 rfl rfl rfl rfl rfl rfl ?_
  intro Q g hfin
  unfold law_DiskDoes_4 at hF
  refine Wk_seq ?_
  refine WR [] [0, 1, 2] [2, 100000, 100001] [] [] [] [] ⟨[(0, .ptr 100000 0), (1, .ptr 100001 0), (2, .ptr 2 0)], [(2, [.nils, .int .i64 0]), (100000, [.sl 1 (box.Bytes.map e_u8), .int .i64 box.Kept]), (100001, [.int .i64 box1])], [], [], []⟩ .nil (by kernel_rfl) ?_
  refine Wk_seq ?_
  obtain ⟨h0, hF⟩ := asrt_elim hF
  refine WD [.xs ((ltake box.Bytes box1).map e_u8)] [2] [2, 100000, 100001] [] [] [] [] ⟨[(2, .ptr 2 0)], [(2, [.sl 1 ((ltake box.Bytes box1).map e_u8), .int .i64 box1]), (100000, [.sl 1 (box.Bytes.map e_u8), .int .i64 box.Kept]), (100001, [.int .i64 box1])], [], [], []⟩ (.cons (sl01_ok e_u8 h0) .nil) (by kernel_rfl) ?_
  have hF := some_elim hF
  exact Wk_ret (hfin _ ⟨[], [100000, 100001], [], [], [], [], by first | (rw [← hF]; kernel_rfl) | kernel_rfl⟩)

/- tabularylaw.diskAs -/
noncomputable def law_diskAs_v3 (d : Disk) (f : Fault) (w0 : Fault) (box : Disk) (box1 : Int) : Option Bool :=
  if (!(decide (f.Code = w0.Code) && (decide (f.At = w0.At) && true))) = true then
    some false
  else
    if (!decide (w0.Code = 0)) = true then
      lt (R_SameDisk d (⟨([] : List UInt8), 0⟩ : Disk)) fun x =>
      some x
    else
      ob (law_DiskDoes_4 box box1) fun x1 =>
      lt (R_SameDisk d x1) fun x2 =>
      some x2
theorem law_diskAs_v3_ok (d : Disk) (f : Fault) (w0 : Fault) (box : Disk) (box1 : Int) (r : Bool) (hF : law_diskAs_v3 d f w0 box box1 = some r) : Pe Try.prog 48 ⟨[], [(100000, [.sl 1 (box.Bytes.map e_u8), .int .i64 box.Kept]), (100001, [.int .i64 box1])], [], [], []⟩ [.agg [.sl 1 (d.Bytes.map e_u8), .int .i64 d.Kept], .agg [.int .i64 f.Code, .int .i64 f.At], .agg [.int .i64 w0.Code, .int .i64 w0.At], .fn 52 [.ptr 100000 0, .ptr 100001 0]] (.bool r) ⟨[], [(100000, [.sl 1 (box.Bytes.map e_u8), .int .i64 box.Kept]), (100001, [.int .i64 box1])], [], [], []⟩ := by
  refine Pe_of (N := 22) (res := [.tmp 8]) (ts := [4]) Ty.ok Fn.b48 Try.func48 rfl rfl rfl rfl rfl rfl ?_
  intro Q g hfin
  unfold law_diskAs_v3 at hF
  refine Wk_seq ?_
  refine WR [] [3, 4, 5, 6] [4, 5, 6, 100000, 100001] [] [] [] [] ⟨[(3, .fn 52 [.ptr 100000 0, .ptr 100001 0]), (4, .ptr 4 0), (5, .ptr 5 0), (6, .ptr 6 0)], [(4, [.sl 1 (d.Bytes.map e_u8), .int .i64 d.Kept]), (5, [.int .i64 f.Code, .int .i64 f.At]), (6, [.int .i64 w0.Code, .int .i64 w0.At]), (100000, [.sl 1 (box.Bytes.map e_u8), .int .i64 box.Kept]), (100001, [.int .i64 box1])], [], [], []⟩ .nil (by kernel_rfl) ?_
  refine Wk_seq ?_
  refine Wk_seq ?_
  refine WR [] [3, 4, 6, 11] [4, 6, 100000, 100001] [] [] [] [] ⟨[(3, .fn 52 [.ptr 100000 0, .ptr 100001 0]), (4, .ptr 4 0), (6, .ptr 6 0), (11, .bool (!(decide (f.Code = w0.Code) && (decide (f.At = w0.At) && true))))], [(4, [.sl 1 (d.Bytes.map e_u8), .int .i64 d.Kept]), (6, [.int .i64 w0.Code, .int .i64 w0.At]), (100000, [.sl 1 (box.Bytes.map e_u8), .int .i64 box.Kept]), (100001, [.int .i64 box1])], [], [], []⟩ .nil (by kernel_rfl) ?_
  refine Wk_split rfl (fun hb => ?_) (fun hb => ?_)
  · have hF := ite_t hF hb
    refine Wk_seq ?_
    refine WR [] [8] [100000, 100001] [] [] [] [] ⟨[(8, .bool false)], [(100000, [.sl 1 (box.Bytes.map e_u8), .int .i64 box.Kept]), (100001, [.int .i64 box1])], [], [], []⟩ .nil (by kernel_rfl) ?_
    have hF := some_elim hF
    exact Wk_ret (hfin _ ⟨[], [100000, 100001], [], [], [], [], by first | (rw [← hF]; kernel_rfl) | kernel_rfl⟩)
  · have hF := ite_f hF hb
    refine Wk_skip ?_
    refine Wk_seq ?_
    refine Wk_seq ?_
    refine WR [] [3, 4, 14] [4, 100000, 100001] [] [] [] [] ⟨[(3, .fn 52 [.ptr 100000 0, .ptr 100001 0]), (4, .ptr 4 0), (14, .bool (!decide (w0.Code = 0)))], [(4, [.sl 1 (d.Bytes.map e_u8), .int .i64 d.Kept]), (100000, [.sl 1 (box.Bytes.map e_u8), .int .i64 box.Kept]), (100001, [.int .i64 box1])], [], [], []⟩ .nil (by kernel_rfl) ?_
    refine Wk_split rfl (fun hb => ?_) (fun hb => ?_)
    · have hF := ite_t hF hb
      refine Wk_seq ?_
      obtain ⟨x, h0, hF⟩ := lt_split hF
      refine WR [.callB (.bool x)] [8] [100000, 100001] [] [] [] [] ⟨[(8, .bool x)], [(100000, [.sl 1 (box.Bytes.map e_u8), .int .i64 box.Kept]), (100001, [.int .i64 box1])], [], [], []⟩ (.cons (R_SameDisk_ok d (⟨([] : List UInt8), 0⟩ : Disk) x h0) .nil) (by kernel_rfl) ?_
      have hF := some_elim hF
      exact Wk_ret (hfin _ ⟨[], [100000, 100001], [], [], [], [], by first | (rw [← hF]; kernel_rfl) | kernel_rfl⟩)
    · have hF := ite_f hF hb
      refine Wk_skip ?_
      refine Wk_seq ?_
      obtain ⟨x1, h1, hF⟩ := ob_elim hF
      obtain ⟨x2, h2, hF⟩ := lt_split hF
      refine WD [.callR [100000, 100001] [] [] [] (.agg [.sl 1 (x1.Bytes.map e_u8), .int .i64 x1.Kept]), .callB (.bool x2)] [8] [100000, 100001] [] [] [] [] ⟨[(8, .bool x2)], [(100000, [.sl 1 (box.Bytes.map e_u8), .int .i64 box.Kept]), (100001, [.int .i64 box1])], [], [], []⟩ (.cons (Pe.ren (law_DiskDoes_4_ok box box1 x1 h1) ⟨[], [], [], []⟩) (.cons (R_SameDisk_ok d x1 x2 h2) .nil)) (by kernel_rfl) ?_
      have hF := some_elim hF
      exact Wk_ret (hfin _ ⟨[], [100000, 100001], [], [], [], [], by first | (rw [← hF]; kernel_rfl) | kernel_rfl⟩)

/- tabularyref.Unframed -/
noncomputable def R_Unframed_v1_J1 (v : List (List UInt8) × Int) : Option (List (List UInt8) × Int) :=
  some (v.1, v.2)
noncomputable def R_Unframed_v1_B1 (b : List UInt8) (v1 : List (List UInt8) × Int) : Option ((List (List UInt8) × Int) ⊕ (List (List UInt8) × Int)) :=
  if (decide ((w64 (v1.2 + 6)) ≤ (b.length : Int))) = true then
    asrt (0 ≤ v1.2 ∧ v1.2 < (b.length : Int)) <|
    asrt (0 ≤ w64 (v1.2 + 1) ∧ w64 (v1.2 + 1) < (b.length : Int)) <|
    lt (w64 ((w64 ((w64 ((lget b v1.2).toNat : Int)) * 256)) + (w64 ((lget b (w64 (v1.2 + 1))).toNat : Int)))) fun (v2 : Int) =>
    if (decide ((b.length : Int) < (w64 ((w64 (v1.2 + 6)) + v2)))) = true then
      inrO (R_Unframed_v1_J1 (v1.1, v1.2))
    else
      asrt (0 ≤ w64 (v1.2 + 2) ∧ w64 (v1.2 + 2) ≤ w64 ((w64 (v1.2 + 2)) + v2) ∧ w64 ((w64 (v1.2 + 2)) + v2) ≤ (b.length : Int)) <|
      ob (R_Framed (ldrop (ltake b (w64 ((w64 (v1.2 + 2)) + v2))) (w64 (v1.2 + 2)))) fun x =>
      asrt (0 ≤ v1.2 ∧ v1.2 ≤ w64 ((w64 (v1.2 + 6)) + v2) ∧ w64 ((w64 (v1.2 + 6)) + v2) ≤ (b.length : Int)) <|
      lt (R_Same x (ldrop (ltake b (w64 ((w64 (v1.2 + 6)) + v2))) v1.2)) fun x1 =>
      if (!x1) = true then
        inrO (R_Unframed_v1_J1 (v1.1, v1.2))
      else
        asrt (((ldrop (ltake b (w64 ((w64 (v1.2 + 2)) + v2))) (w64 (v1.2 + 2))).length : Int) * 1 ≤ 140737488351232) <|
        asrt (((v1.1 ++ ([(ldrop (ltake b (w64 ((w64 (v1.2 + 2)) + v2))) (w64 (v1.2 + 2)))] : List (List UInt8))).length : Int) * 24 ≤ 140737488351232) <|
        lt ((v1.1 ++ ([(ldrop (ltake b (w64 ((w64 (v1.2 + 2)) + v2))) (w64 (v1.2 + 2)))] : List (List UInt8)))) fun (v3 : List (List UInt8)) =>
        some (Sum.inl (v3, w64 ((w64 (v1.2 + 6)) + v2)))
  else
    inrO (R_Unframed_v1_J1 (v1.1, v1.2))
noncomputable def R_Unframed_v1_L1 (b : List UInt8) (v0 : List (List UInt8) × Int) : Option (List (List UInt8) × Int) :=
  loopO (fun y => R_Unframed_v1_B1 b y) v0
noncomputable def R_Unframed_v1 (b : List UInt8) : Option (List (List UInt8) × Int) :=
  R_Unframed_v1_L1 b (([] : List (List UInt8)), 0)
theorem R_Unframed_v1_ok (b : List UInt8) (r : List (List UInt8) × Int) (hF : R_Unframed_v1 b = some r) : Pe Try.prog 39 S.none [.sl 1 (b.map e_u8)] (.tup [.sl 1 (r.1.map e_L_u8), .int .i64 r.2]) S.none := by
  refine Pe_of (N := 63) (res := [.tmp 2, .tmp 3]) (ts := [41, 3]) Ty.ok Fn.b39 Try.func39 rfl rfl rfl rfl rfl rfl ?_
  intro Q g hfin
  unfold R_Unframed_v1 at hF
  refine Wk_seq ?_
  refine WR [] [0] [] [] [] [] [] ⟨[(0, .sl 1 (b.map e_u8))], [], [], [], []⟩ .nil (by kernel_rfl) ?_
  refine Wk_seq ?_
  refine WR [] [0, 4] [] [] [] [] [] ⟨[(0, .sl 1 (b.map e_u8)), (4, .nils)], [], [], [], []⟩ .nil (by kernel_rfl) ?_
  refine Wk_seq ?_
  refine WR [] [0, 4, 5] [] [] [] [] [] ⟨[(0, .sl 1 (b.map e_u8)), (4, .nils), (5, .int .i64 0)], [], [], [], []⟩ .nil (by kernel_rfl) ?_
  refine Wk_seq ?_
  refine Wk_meetP (fun v : List (List UInt8) × Int => (⟨[(4, .row 56 0), (5, .int .i64 v.2)], [], [(56, ⟨23, 1, 0, 0, 0, true, 0, [], (v.1.map e_L_u8)⟩)], [], []⟩ : S)) (fun v => R_Unframed_v1_J1 v = some r) ?_ ?_
  · refine Wk_block ?_
    unfold R_Unframed_v1_L1 at hF
    refine Wk_nilrow 4 60000 23 1 rfl rfl rfl ?_
    refine Wk_trim (fs := [0, 4, 5]) (bs := []) (rs := [60000]) (ms := []) (aa := []) (nv := []) rfl ?_
    refine Wk_ren' ⟨[], [(60000, 56)], [], []⟩ rfl ?_
    refine Wk_trim (fs := [0, 4, 5]) (bs := []) (rs := [56]) (ms := []) (aa := []) (nv := []) (t := (fun v1 : List (List UInt8) × Int => (⟨[(0, .sl 1 (b.map e_u8)), (4, .row 56 0), (5, .int .i64 v1.2)], [], [(56, ⟨23, 1, 0, 0, 0, true, 0, [], (v1.1.map e_L_u8)⟩)], [], []⟩ : S)) (([] : List (List UInt8)), 0)) (by kernel_rfl) ?_
    refine Wk_iter (step := fun y => R_Unframed_v1_B1 b y) (r := r) (fun v1 : List (List UInt8) × Int => (⟨[(0, .sl 1 (b.map e_u8)), (4, .row 56 0), (5, .int .i64 v1.2)], [], [(56, ⟨23, 1, 0, 0, 0, true, 0, [], (v1.1.map e_L_u8)⟩)], [], []⟩ : S)) (([] : List (List UInt8)), 0) hF ?_
    intro n1 v1 y1 hF ih1 dn1
    have hF : R_Unframed_v1_B1 b v1 = some y1 := hF
    unfold R_Unframed_v1_B1 at hF
    refine Wk_seq ?_
    refine Wk_seq ?_
    refine WR [.nat (b.length : Int)] [0, 4, 5, 12] [] [56] [] [] [] ⟨[(0, .sl 1 (b.map e_u8)), (4, .row 56 0), (5, .int .i64 v1.2), (12, .bool (decide ((w64 (v1.2 + 6)) ≤ (b.length : Int))))], [], [(56, ⟨23, 1, 0, 0, 0, true, 0, [], (v1.1.map e_L_u8)⟩)], [], []⟩ (.cons (len_ok e_u8 b) .nil) (by kernel_rfl) ?_
    refine Wk_split rfl (fun hb => ?_) (fun hb => ?_)
    · have hF := ite_t hF hb
      refine Wk_skip ?_
      refine Wk_block ?_
      refine Wk_seq ?_
      obtain ⟨h0, hF⟩ := asrt_elim hF
      obtain ⟨h1, hF⟩ := asrt_elim hF
      refine WDL (w64 ((w64 ((w64 ((lget b v1.2).toNat : Int)) * 256)) + (w64 ((lget b (w64 (v1.2 + 1))).toNat : Int)))) (fun v2 : Int => ⟨[(0, .sl 1 (b.map e_u8)), (4, .row 56 0), (5, .int .i64 v1.2), (6, .int .i64 v2)], [], [(56, ⟨23, 1, 0, 0, 0, true, 0, [], (v1.1.map e_L_u8)⟩)], [], []⟩) [.av (e_u8 (lget b v1.2)), .av (e_u8 (lget b (w64 (v1.2 + 1))))] [0, 4, 5, 6] [] [56] [] [] [] (.cons (idx_ok e_u8 h0) (.cons (idx_ok e_u8 h1) .nil)) (by kernel_rfl) (fun v2 hv => ?_)
      have hF := lt_elim hF hv
      refine Wk_seq ?_
      refine Wk_seq ?_
      refine WR [.nat (b.length : Int)] [0, 4, 5, 6, 32] [] [56] [] [] [] ⟨[(0, .sl 1 (b.map e_u8)), (4, .row 56 0), (5, .int .i64 v1.2), (6, .int .i64 v2), (32, .bool (decide ((b.length : Int) < (w64 ((w64 (v1.2 + 6)) + v2)))))], [], [(56, ⟨23, 1, 0, 0, 0, true, 0, [], (v1.1.map e_L_u8)⟩)], [], []⟩ (.cons (len_ok e_u8 b) .nil) (by kernel_rfl) ?_
      refine Wk_split rfl (fun hb => ?_) (fun hb => ?_)
      · have hF := ite_t hF hb
        refine Wk_exit rfl ?_
        have hF := inrO_done hF dn1
        exact Wk_metP (v1.1, v1.2) [4, 5] [] [56] [] [] [] hF (by kernel_rfl)
      · have hF := ite_f hF hb
        refine Wk_skip ?_
        refine Wk_seq ?_
        obtain ⟨h2, hF⟩ := asrt_elim hF
        refine WR [.xs ((ldrop (ltake b (w64 ((w64 (v1.2 + 2)) + v2))) (w64 (v1.2 + 2))).map e_u8)] [0, 4, 5, 6, 7] [] [56] [] [] [] ⟨[(0, .sl 1 (b.map e_u8)), (4, .row 56 0), (5, .int .i64 v1.2), (6, .int .i64 v2), (7, .sl 1 ((ldrop (ltake b (w64 ((w64 (v1.2 + 2)) + v2))) (w64 (v1.2 + 2))).map e_u8))], [], [(56, ⟨23, 1, 0, 0, 0, true, 0, [], (v1.1.map e_L_u8)⟩)], [], []⟩ (.cons (sl11_ok e_u8 h2) .nil) (by kernel_rfl) ?_
        refine Wk_seq ?_
        refine Wk_seq ?_
        obtain ⟨x, h3, hF⟩ := ob_elim hF
        obtain ⟨h4, hF⟩ := asrt_elim hF
        obtain ⟨x1, h5, hF⟩ := lt_split hF
        refine WD [.callE [] [] [] [] (.row 42 2) ⟨[], [], [(42, ⟨5, 1, 2, 0, 0, true, 0, [], (x.map e_u8)⟩)], [], []⟩, .xs ((ldrop (ltake b (w64 ((w64 (v1.2 + 6)) + v2))) v1.2).map e_u8), .callB (.bool x1)] [0, 4, 5, 6, 7, 51] [] [56] [] [] [] ⟨[(0, .sl 1 (b.map e_u8)), (4, .row 56 0), (5, .int .i64 v1.2), (6, .int .i64 v2), (7, .sl 1 ((ldrop (ltake b (w64 ((w64 (v1.2 + 2)) + v2))) (w64 (v1.2 + 2))).map e_u8)), (51, .bool (!x1))], [], [(56, ⟨23, 1, 0, 0, 0, true, 0, [], (v1.1.map e_L_u8)⟩)], [], []⟩ (.cons (Pe.ren (R_Framed_ok (ldrop (ltake b (w64 ((w64 (v1.2 + 2)) + v2))) (w64 (v1.2 + 2))) x h3) ⟨[], [(13, 42)], [], []⟩) (.cons (sl11_ok e_u8 h4) (.cons (R_Same_ok x (ldrop (ltake b (w64 ((w64 (v1.2 + 6)) + v2))) v1.2) x1 h5) .nil))) (by kernel_rfl) ?_
        refine Wk_split rfl (fun hb => ?_) (fun hb => ?_)
        · have hF := ite_t hF hb
          refine Wk_exit rfl ?_
          have hF := inrO_done hF dn1
          exact Wk_metP (v1.1, v1.2) [4, 5] [] [56] [] [] [] hF (by kernel_rfl)
        · have hF := ite_f hF hb
          refine Wk_skip ?_
          refine Wk_seq ?_
          obtain ⟨h6, hF⟩ := asrt_elim hF
          obtain ⟨h7, hF⟩ := asrt_elim hF
          refine WRL ((v1.1 ++ ([(ldrop (ltake b (w64 ((w64 (v1.2 + 2)) + v2))) (w64 (v1.2 + 2)))] : List (List UInt8)))) (fun v3 : List (List UInt8) => ⟨[(0, .sl 1 (b.map e_u8)), (4, .row 56 1), (5, .int .i64 v1.2), (6, .int .i64 v2)], [], [(56, ⟨23, 1, 1, 0, 0, true, 0, [], (v3.map e_L_u8)⟩)], [], []⟩) [.xs ((ldrop (ltake b (w64 ((w64 (v1.2 + 2)) + v2))) (w64 (v1.2 + 2))).map e_u8), .sealed, .xs ((v1.1 ++ ([(ldrop (ltake b (w64 ((w64 (v1.2 + 2)) + v2))) (w64 (v1.2 + 2)))] : List (List UInt8))).map e_L_u8)] [0, 4, 5, 6] [] [56] [] [] [] (.cons (app0_ok e_u8 (ldrop (ltake b (w64 ((w64 (v1.2 + 2)) + v2))) (w64 (v1.2 + 2)))) (.cons (appl_ok e_u8 h6) (.cons (app_ok e_L_u8 v1.1 ([(ldrop (ltake b (w64 ((w64 (v1.2 + 2)) + v2))) (w64 (v1.2 + 2)))] : List (List UInt8))) (.cons (appl_ok e_L_u8 h7) .nil)))) (by kernel_rfl) (fun v3 hv => ?_)
          have hF := lt_elim hF hv
          refine WR [] [0, 4, 5] [] [56] [] [] [] ⟨[(0, .sl 1 (b.map e_u8)), (4, .row 56 1), (5, .int .i64 (w64 ((w64 (v1.2 + 6)) + v2)))], [], [(56, ⟨23, 1, 1, 0, 0, true, 0, [], (v3.map e_L_u8)⟩)], [], []⟩ .nil (by kernel_rfl) ?_
          refine Wk_blk ?_
          refine Wk_trim (fs := [0, 4, 5]) (bs := []) (rs := [56]) (ms := []) (aa := []) (nv := [(56, ⟨0, true, true, false⟩)]) ?_ (ih1 _ (some_elim hF).symm)
          kernel_rfl
    · have hF := ite_f hF hb
      refine Wk_exit rfl ?_
      have hF := inrO_done hF dn1
      exact Wk_metP (v1.1, v1.2) [4, 5] [] [56] [] [] [] hF (by kernel_rfl)
  · intro v hF
    have hF : R_Unframed_v1_J1 v = some r := hF
    unfold R_Unframed_v1_J1 at hF
    refine Wk_seq ?_
    refine WR [] [2, 3] [] [56] [] [] [] ⟨[(2, .row 56 0), (3, .int .i64 v.2)], [], [(56, ⟨23, 1, 0, 0, 0, true, 0, [], (v.1.map e_L_u8)⟩)], [], []⟩ .nil (by kernel_rfl) ?_
    have hF := some_elim hF
    exact Wk_ret (hfin _ ⟨[], [], [], [], [], [], by first | (rw [← hF]; kernel_rfl) | kernel_rfl⟩)

/- tabularylaw.DiskDoes$5 -/
noncomputable def law_DiskDoes_5 (box : Disk) (box1 : Int) : Option Disk :=
  asrt (0 ≤ box1 ∧ box1 ≤ (box.Bytes.length : Int)) <|
  some (⟨(ltake box.Bytes box1), box1⟩ : Disk)
theorem law_DiskDoes_5_ok (box : Disk) (box1 : Int) (r : Disk) (hF : law_DiskDoes_5 box box1 = some r) : Pe Try.prog 53 ⟨[], [(100000, [.sl 1 (box.Bytes.map e_u8), .int .i64 box.Kept]), (100001, [.int .i64 box1])], [], [], []⟩ [.ptr 100000 0, .ptr 100001 0] (.agg [.sl 1 (r.Bytes.map e_u8), .int .i64 r.Kept]) ⟨[], [(100000, [.sl 1 (box.Bytes.map e_u8), .int .i64 box.Kept]), (100001, [.int .i64 box1])], [], [], []⟩ := by
  refine Pe_of (N := 9) (res := [.cell 2 43]) (ts := [43]) Ty.ok Fn.b53 Try.func53 rfl rfl rfl rfl rfl rfl ?_
  intro Q g hfin
  unfold law_DiskDoes_5 at hF
  refine Wk_seq ?_
  refine WR [] [0, 1, 2] [2, 100000, 100001] [] [] [] [] ⟨[(0, .ptr 100000 0), (1, .ptr 100001 0), (2, .ptr 2 0)], [(2, [.nils, .int .i64 0]), (100000, [.sl 1 (box.Bytes.map e_u8), .int .i64 box.Kept]), (100001, [.int .i64 box1])], [], [], []⟩ .nil (by kernel_rfl) ?_
  refine Wk_seq ?_
  obtain ⟨h0, hF⟩ := asrt_elim hF
  refine WD [.xs ((ltake box.Bytes box1).map e_u8)] [2] [2, 100000, 100001] [] [] [] [] ⟨[(2, .ptr 2 0)], [(2, [.sl 1 ((ltake box.Bytes box1).map e_u8), .int .i64 box1]), (100000, [.sl 1 (box.Bytes.map e_u8), .int .i64 box.Kept]), (100001, [.int .i64 box1])], [], [], []⟩ (.cons (sl01_ok e_u8 h0) .nil) (by kernel_rfl) ?_
  have hF := some_elim hF
  exact Wk_ret (hfin _ ⟨[], [100000, 100001], [], [], [], [], by first | (rw [← hF]; kernel_rfl) | kernel_rfl⟩)

/- tabularylaw.diskAs -/
noncomputable def law_diskAs_v4 (d : Disk) (f : Fault) (w0 : Fault) (box : Disk) (box1 : Int) : Option Bool :=
  if (!(decide (f.Code = w0.Code) && (decide (f.At = w0.At) && true))) = true then
    some false
  else
    if (!decide (w0.Code = 0)) = true then
      lt (R_SameDisk d (⟨([] : List UInt8), 0⟩ : Disk)) fun x =>
      some x
    else
      ob (law_DiskDoes_5 box box1) fun x1 =>
      lt (R_SameDisk d x1) fun x2 =>
      some x2
theorem law_diskAs_v4_ok (d : Disk) (f : Fault) (w0 : Fault) (box : Disk) (box1 : Int) (r : Bool) (hF : law_diskAs_v4 d f w0 box box1 = some r) : Pe Try.prog 48 ⟨[], [(100000, [.sl 1 (box.Bytes.map e_u8), .int .i64 box.Kept]), (100001, [.int .i64 box1])], [], [], []⟩ [.agg [.sl 1 (d.Bytes.map e_u8), .int .i64 d.Kept], .agg [.int .i64 f.Code, .int .i64 f.At], .agg [.int .i64 w0.Code, .int .i64 w0.At], .fn 53 [.ptr 100000 0, .ptr 100001 0]] (.bool r) ⟨[], [(100000, [.sl 1 (box.Bytes.map e_u8), .int .i64 box.Kept]), (100001, [.int .i64 box1])], [], [], []⟩ := by
  refine Pe_of (N := 22) (res := [.tmp 8]) (ts := [4]) Ty.ok Fn.b48 Try.func48 rfl rfl rfl rfl rfl rfl ?_
  intro Q g hfin
  unfold law_diskAs_v4 at hF
  refine Wk_seq ?_
  refine WR [] [3, 4, 5, 6] [4, 5, 6, 100000, 100001] [] [] [] [] ⟨[(3, .fn 53 [.ptr 100000 0, .ptr 100001 0]), (4, .ptr 4 0), (5, .ptr 5 0), (6, .ptr 6 0)], [(4, [.sl 1 (d.Bytes.map e_u8), .int .i64 d.Kept]), (5, [.int .i64 f.Code, .int .i64 f.At]), (6, [.int .i64 w0.Code, .int .i64 w0.At]), (100000, [.sl 1 (box.Bytes.map e_u8), .int .i64 box.Kept]), (100001, [.int .i64 box1])], [], [], []⟩ .nil (by kernel_rfl) ?_
  refine Wk_seq ?_
  refine Wk_seq ?_
  refine WR [] [3, 4, 6, 11] [4, 6, 100000, 100001] [] [] [] [] ⟨[(3, .fn 53 [.ptr 100000 0, .ptr 100001 0]), (4, .ptr 4 0), (6, .ptr 6 0), (11, .bool (!(decide (f.Code = w0.Code) && (decide (f.At = w0.At) && true))))], [(4, [.sl 1 (d.Bytes.map e_u8), .int .i64 d.Kept]), (6, [.int .i64 w0.Code, .int .i64 w0.At]), (100000, [.sl 1 (box.Bytes.map e_u8), .int .i64 box.Kept]), (100001, [.int .i64 box1])], [], [], []⟩ .nil (by kernel_rfl) ?_
  refine Wk_split rfl (fun hb => ?_) (fun hb => ?_)
  · have hF := ite_t hF hb
    refine Wk_seq ?_
    refine WR [] [8] [100000, 100001] [] [] [] [] ⟨[(8, .bool false)], [(100000, [.sl 1 (box.Bytes.map e_u8), .int .i64 box.Kept]), (100001, [.int .i64 box1])], [], [], []⟩ .nil (by kernel_rfl) ?_
    have hF := some_elim hF
    exact Wk_ret (hfin _ ⟨[], [100000, 100001], [], [], [], [], by first | (rw [← hF]; kernel_rfl) | kernel_rfl⟩)
  · have hF := ite_f hF hb
    refine Wk_skip ?_
    refine Wk_seq ?_
    refine Wk_seq ?_
    refine WR [] [3, 4, 14] [4, 100000, 100001] [] [] [] [] ⟨[(3, .fn 53 [.ptr 100000 0, .ptr 100001 0]), (4, .ptr 4 0), (14, .bool (!decide (w0.Code = 0)))], [(4, [.sl 1 (d.Bytes.map e_u8), .int .i64 d.Kept]), (100000, [.sl 1 (box.Bytes.map e_u8), .int .i64 box.Kept]), (100001, [.int .i64 box1])], [], [], []⟩ .nil (by kernel_rfl) ?_
    refine Wk_split rfl (fun hb => ?_) (fun hb => ?_)
    · have hF := ite_t hF hb
      refine Wk_seq ?_
      obtain ⟨x, h0, hF⟩ := lt_split hF
      refine WR [.callB (.bool x)] [8] [100000, 100001] [] [] [] [] ⟨[(8, .bool x)], [(100000, [.sl 1 (box.Bytes.map e_u8), .int .i64 box.Kept]), (100001, [.int .i64 box1])], [], [], []⟩ (.cons (R_SameDisk_ok d (⟨([] : List UInt8), 0⟩ : Disk) x h0) .nil) (by kernel_rfl) ?_
      have hF := some_elim hF
      exact Wk_ret (hfin _ ⟨[], [100000, 100001], [], [], [], [], by first | (rw [← hF]; kernel_rfl) | kernel_rfl⟩)
    · have hF := ite_f hF hb
      refine Wk_skip ?_
      refine Wk_seq ?_
      obtain ⟨x1, h1, hF⟩ := ob_elim hF
      obtain ⟨x2, h2, hF⟩ := lt_split hF
      refine WD [.callR [100000, 100001] [] [] [] (.agg [.sl 1 (x1.Bytes.map e_u8), .int .i64 x1.Kept]), .callB (.bool x2)] [8] [100000, 100001] [] [] [] [] ⟨[(8, .bool x2)], [(100000, [.sl 1 (box.Bytes.map e_u8), .int .i64 box.Kept]), (100001, [.int .i64 box1])], [], [], []⟩ (.cons (Pe.ren (law_DiskDoes_5_ok box box1 x1 h1) ⟨[], [], [], []⟩) (.cons (R_SameDisk_ok d x1 x2 h2) .nil)) (by kernel_rfl) ?_
      have hF := some_elim hF
      exact Wk_ret (hfin _ ⟨[], [100000, 100001], [], [], [], [], by first | (rw [← hF]; kernel_rfl) | kernel_rfl⟩)

end G
end Go.Proofs.Ytiakadlmebbafaa
