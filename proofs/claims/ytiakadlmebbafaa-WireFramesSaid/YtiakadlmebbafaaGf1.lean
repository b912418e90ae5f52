/- The program's functions as plain functions, and that they are these. Written by a program (dec2.py). -/
import Derived.Test.YtiakadlmebbafaaGf0
namespace Go.Proofs.Ytiakadlmebbafaa
open Go Go.Dm
set_option linter.unusedVariables false
set_option linter.unusedSimpArgs false
set_option maxRecDepth 100000
namespace G
/- wire.ReadTexts -/
noncomputable def wire_ReadTexts_v1_J1 (v : Fault × List (List UInt8)) : Option (List (List UInt8) × Fault) :=
  if (decide (1000 < (v.2.length : Int))) = true then
    lt (wire_fault 2 0) fun x2 =>
    some (([] : List (List UInt8)), x2)
  else
    some (v.2, (⟨0, 0⟩ : Fault))
noncomputable def wire_ReadTexts_v1_B1 (v1 : Fault × List (List UInt8) × Reader) : Option ((Fault × List (List UInt8) × Reader) ⊕ (List (List UInt8) × Fault)) :=
  lt (wire_Reader_More v1.2.2) fun x3 =>
  if x3 = true then
    ob (wire_Reader_Text v1.2.2) fun x4 =>
    if x4.2.bad = true then
      lt (wire_fault 5 (v1.2.1.length : Int)) fun x5 =>
      some (Sum.inr (([] : List (List UInt8)), x5))
    else
      asrt (((v1.2.1 ++ ([x4.1] : List (List UInt8))).length : Int) * 16 ≤ 140737488351232) <|
      some (Sum.inl (v1.1, (v1.2.1 ++ ([x4.1] : List (List UInt8))), x4.2))
  else
    inrO (wire_ReadTexts_v1_J1 (v1.1, v1.2.1))
noncomputable def wire_ReadTexts_v1_L1 (v0 : Fault × List (List UInt8) × Reader) : Option (List (List UInt8) × Fault) :=
  loopO (fun y => wire_ReadTexts_v1_B1 y) v0
noncomputable def wire_ReadTexts_v1 (b : List UInt8) : Option (List (List UInt8) × Fault) :=
  if (decide (60000 < (b.length : Int))) = true then
    lt (wire_fault 8 0) fun x =>
    some (([] : List (List UInt8)), x)
  else
    lt (wire_Read b) fun x1 =>
    wire_ReadTexts_v1_L1 ((⟨0, 0⟩ : Fault), ([] : List (List UInt8)), x1)
theorem wire_ReadTexts_v1_ok (b : List UInt8) (r : List (List UInt8) × Fault) (hF : wire_ReadTexts_v1 b = some r) : Pe Try.prog 28 S.none [.sl 1 (b.map e_u8)] (.tup [.sl 1 (r.1.map e_str), .agg [.int .i64 r.2.Code, .int .i64 r.2.At]]) S.none := by
  refine Pe_of (N := 34) (res := [.tmp 2, .cell 3 26]) (ts := [50, 26]) Ty.ok Fn.b28 Try.func28 rfl rfl rfl rfl rfl rfl ?_
  intro Q g hfin
  unfold wire_ReadTexts_v1 at hF
  refine Wk_seq ?_
  refine WR [] [0, 3] [3] [] [] [] [] ⟨[(0, .sl 1 (b.map e_u8)), (3, .ptr 3 0)], [(3, [.int .i64 0, .int .i64 0])], [], [], []⟩ .nil (by kernel_rfl) ?_
  refine Wk_seq ?_
  refine Wk_seq ?_
  refine WR [.nat (b.length : Int)] [0, 3, 9] [3] [] [] [] [] ⟨[(0, .sl 1 (b.map e_u8)), (3, .ptr 3 0), (9, .bool (decide (60000 < (b.length : Int))))], [(3, [.int .i64 0, .int .i64 0])], [], [], []⟩ (.cons (len_ok e_u8 b) .nil) (by kernel_rfl) ?_
  refine Wk_split rfl (fun hb => ?_) (fun hb => ?_)
  · have hF := ite_t hF hb
    refine Wk_seq ?_
    obtain ⟨x, h0, hF⟩ := lt_split hF
    refine WR [.callB (.agg [.int .i64 x.Code, .int .i64 x.At])] [2, 3] [3] [] [] [] [] ⟨[(2, .nils), (3, .ptr 3 0)], [(3, [.int .i64 x.Code, .int .i64 x.At])], [], [], []⟩ (.cons (wire_fault_ok 8 0 x h0) .nil) (by kernel_rfl) ?_
    have hF := some_elim hF
    exact Wk_ret (hfin _ ⟨[], [], [], [], [], [], by first | (rw [← hF]; kernel_rfl) | kernel_rfl⟩)
  · have hF := ite_f hF hb
    refine Wk_skip ?_
    refine Wk_seq ?_
    refine WR [] [0, 3, 4] [3] [] [] [] [] ⟨[(0, .sl 1 (b.map e_u8)), (3, .ptr 3 0), (4, .nils)], [(3, [.int .i64 0, .int .i64 0])], [], [], []⟩ .nil (by kernel_rfl) ?_
    refine Wk_seq ?_
    refine Wk_seq ?_
    obtain ⟨x1, h1, hF⟩ := lt_split hF
    refine WR [.callE [] [] [] [] (.ptr 12 0) ⟨[], [(12, [.sl 1 (x1.b.map e_u8), .bool x1.bad])], [], [], []⟩] [3, 4, 5] [3, 12] [] [] [] [] ⟨[(3, .ptr 3 0), (4, .nils), (5, .ptr 12 0)], [(3, [.int .i64 0, .int .i64 0]), (12, [.sl 1 (x1.b.map e_u8), .bool x1.bad])], [], [], []⟩ (.cons (Pe.ren (wire_Read_ok b x1 h1) ⟨[(5, 12)], [], [], []⟩) .nil) (by kernel_rfl) ?_
    refine Wk_meetP (fun v : Fault × List (List UInt8) => (⟨[(3, .ptr 3 0), (4, .row 27 0)], [(3, [.int .i64 v.1.Code, .int .i64 v.1.At])], [(27, ⟨9, 1, 0, 0, 0, true, 0, [], (v.2.map e_str)⟩)], [], []⟩ : S)) (fun v => wire_ReadTexts_v1_J1 v = some r) ?_ ?_
    · refine Wk_block ?_
      unfold wire_ReadTexts_v1_L1 at hF
      refine Wk_nilrow 4 60000 9 1 rfl rfl rfl ?_
      refine Wk_trim (fs := [3, 4, 5]) (bs := [3, 12]) (rs := [60000]) (ms := []) (aa := []) (nv := []) rfl ?_
      refine Wk_ren' ⟨[], [(60000, 27)], [], []⟩ rfl ?_
      refine Wk_trim (fs := [3, 4, 5]) (bs := [3, 12]) (rs := [27]) (ms := []) (aa := []) (nv := []) (t := (fun v1 : Fault × List (List UInt8) × Reader => (⟨[(3, .ptr 3 0), (4, .row 27 0), (5, .ptr 12 0)], [(3, [.int .i64 v1.1.Code, .int .i64 v1.1.At]), (12, [.sl 1 (v1.2.2.b.map e_u8), .bool v1.2.2.bad])], [(27, ⟨9, 1, 0, 0, 0, true, 0, [], (v1.2.1.map e_str)⟩)], [], []⟩ : S)) ((⟨0, 0⟩ : Fault), ([] : List (List UInt8)), x1)) (by kernel_rfl) ?_
      refine Wk_iter (step := fun y => wire_ReadTexts_v1_B1 y) (r := r) (fun v1 : Fault × List (List UInt8) × Reader => (⟨[(3, .ptr 3 0), (4, .row 27 0), (5, .ptr 12 0)], [(3, [.int .i64 v1.1.Code, .int .i64 v1.1.At]), (12, [.sl 1 (v1.2.2.b.map e_u8), .bool v1.2.2.bad])], [(27, ⟨9, 1, 0, 0, 0, true, 0, [], (v1.2.1.map e_str)⟩)], [], []⟩ : S)) ((⟨0, 0⟩ : Fault), ([] : List (List UInt8)), x1) hF ?_
      intro n1 v1 y1 hF ih1 dn1
      have hF : wire_ReadTexts_v1_B1 v1 = some y1 := hF
      unfold wire_ReadTexts_v1_B1 at hF
      refine Wk_seq ?_
      refine Wk_seq ?_
      obtain ⟨x3, h3, hF⟩ := lt_split hF
      refine WR [.callR [12] [] [] [] (.bool x3)] [3, 4, 5, 14] [3, 12] [27] [] [] [] ⟨[(3, .ptr 3 0), (4, .row 27 0), (5, .ptr 12 0), (14, .bool x3)], [(3, [.int .i64 v1.1.Code, .int .i64 v1.1.At]), (12, [.sl 1 (v1.2.2.b.map e_u8), .bool v1.2.2.bad])], [(27, ⟨9, 1, 0, 0, 0, true, 0, [], (v1.2.1.map e_str)⟩)], [], []⟩ (.cons (Pe.ren (wire_Reader_More_ok v1.2.2 x3 h3) ⟨[(100000, 12)], [], [], []⟩) .nil) (by kernel_rfl) ?_
      refine Wk_split rfl (fun hb => ?_) (fun hb => ?_)
      · have hF := ite_t hF hb
        refine Wk_skip ?_
        refine Wk_block ?_
        refine Wk_seq ?_
        obtain ⟨x4, h4, hF⟩ := ob_elim hF
        refine WR [.callE [12] [] [] [] (.str x4.1) ⟨[], [(12, [.sl 1 (x4.2.b.map e_u8), .bool x4.2.bad])], [], [], []⟩] [3, 4, 5, 6] [3, 12] [27] [] [] [] ⟨[(3, .ptr 3 0), (4, .row 27 0), (5, .ptr 12 0), (6, .str x4.1)], [(3, [.int .i64 v1.1.Code, .int .i64 v1.1.At]), (12, [.sl 1 (x4.2.b.map e_u8), .bool x4.2.bad])], [(27, ⟨9, 1, 0, 0, 0, true, 0, [], (v1.2.1.map e_str)⟩)], [], []⟩ (.cons (Pe.ren (wire_Reader_Text_ok v1.2.2 x4 h4) ⟨[(100000, 12)], [], [], []⟩) .nil) (by kernel_rfl) ?_
        refine Wk_seq ?_
        refine Wk_seq ?_
        refine WR [] [3, 4, 5, 6, 20] [3, 12] [27] [] [] [] ⟨[(3, .ptr 3 0), (4, .row 27 0), (5, .ptr 12 0), (6, .str x4.1), (20, .bool x4.2.bad)], [(3, [.int .i64 v1.1.Code, .int .i64 v1.1.At]), (12, [.sl 1 (x4.2.b.map e_u8), .bool x4.2.bad])], [(27, ⟨9, 1, 0, 0, 0, true, 0, [], (v1.2.1.map e_str)⟩)], [], []⟩ .nil (by kernel_rfl) ?_
        refine Wk_split rfl (fun hb => ?_) (fun hb => ?_)
        · have hF := ite_t hF hb
          refine Wk_seq ?_
          obtain ⟨x5, h5, hF⟩ := lt_split hF
          refine WR [.nat (v1.2.1.length : Int), .callB (.agg [.int .i64 x5.Code, .int .i64 x5.At])] [2, 3] [3] [] [] [] [] ⟨[(2, .nils), (3, .ptr 3 0)], [(3, [.int .i64 x5.Code, .int .i64 x5.At])], [], [], []⟩ (.cons (len_ok e_str v1.2.1) (.cons (wire_fault_ok 5 (v1.2.1.length : Int) x5 h5) .nil)) (by kernel_rfl) ?_
          have hF := ret_done hF dn1
          have hF := some_elim hF
          exact Wk_ret (hfin _ ⟨[], [], [], [], [], [], by first | (rw [← hF]; kernel_rfl) | kernel_rfl⟩)
        · have hF := ite_f hF hb
          refine Wk_skip ?_
          obtain ⟨h6, hF⟩ := asrt_elim hF
          refine WR [.sealed, .xs ((v1.2.1 ++ ([x4.1] : List (List UInt8))).map e_str)] [3, 4, 5] [3, 12] [27] [] [] [] ⟨[(3, .ptr 3 0), (4, .row 27 1), (5, .ptr 12 0)], [(3, [.int .i64 v1.1.Code, .int .i64 v1.1.At]), (12, [.sl 1 (x4.2.b.map e_u8), .bool x4.2.bad])], [(27, ⟨9, 1, 1, 0, 0, true, 0, [], ((v1.2.1 ++ ([x4.1] : List (List UInt8))).map e_str)⟩)], [], []⟩ (.cons (app_ok e_str v1.2.1 ([x4.1] : List (List UInt8))) (.cons (appl_ok e_str h6) .nil)) (by kernel_rfl) ?_
          refine Wk_blk ?_
          refine Wk_trim (fs := [3, 4, 5]) (bs := [3, 12]) (rs := [27]) (ms := []) (aa := []) (nv := [(27, ⟨0, true, true, false⟩)]) ?_ (ih1 _ (some_elim hF).symm)
          kernel_rfl
      · have hF := ite_f hF hb
        refine Wk_exit rfl ?_
        have hF := inrO_done hF dn1
        exact Wk_metP (v1.1, v1.2.1) [3, 4] [3] [27] [] [] [] hF (by kernel_rfl)
    · intro v hF
      have hF : wire_ReadTexts_v1_J1 v = some r := hF
      unfold wire_ReadTexts_v1_J1 at hF
      refine Wk_seq ?_
      refine Wk_seq ?_
      refine WR [.nat (v.2.length : Int)] [3, 4, 30] [3] [27] [] [] [] ⟨[(3, .ptr 3 0), (4, .row 27 0), (30, .bool (decide (1000 < (v.2.length : Int))))], [(3, [.int .i64 v.1.Code, .int .i64 v.1.At])], [(27, ⟨9, 1, 0, 0, 0, true, 0, [], (v.2.map e_str)⟩)], [], []⟩ (.cons (len_ok e_str v.2) .nil) (by kernel_rfl) ?_
      refine Wk_split rfl (fun hb => ?_) (fun hb => ?_)
      · have hF := ite_t hF hb
        refine Wk_seq ?_
        obtain ⟨x2, h2, hF⟩ := lt_split hF
        refine WR [.callB (.agg [.int .i64 x2.Code, .int .i64 x2.At])] [2, 3] [3] [] [] [] [] ⟨[(2, .nils), (3, .ptr 3 0)], [(3, [.int .i64 x2.Code, .int .i64 x2.At])], [], [], []⟩ (.cons (wire_fault_ok 2 0 x2 h2) .nil) (by kernel_rfl) ?_
        have hF := some_elim hF
        exact Wk_ret (hfin _ ⟨[], [], [], [], [], [], by first | (rw [← hF]; kernel_rfl) | kernel_rfl⟩)
      · have hF := ite_f hF hb
        refine Wk_skip ?_
        refine Wk_seq ?_
        refine WR [] [2, 3] [3] [27] [] [] [] ⟨[(2, .row 27 0), (3, .ptr 3 0)], [(3, [.int .i64 0, .int .i64 0])], [(27, ⟨9, 1, 0, 0, 0, true, 0, [], (v.2.map e_str)⟩)], [], []⟩ .nil (by kernel_rfl) ?_
        have hF := some_elim hF
        exact Wk_ret (hfin _ ⟨[], [], [], [], [], [], by first | (rw [← hF]; kernel_rfl) | kernel_rfl⟩)

/- tabularyref.Written -/
noncomputable def R_Written_v1 (s0 : List UInt8) : Option (List UInt8) :=
  ob (R_Number (s0.length : Int)) fun x =>
  asrt (((x ++ s0).length : Int) * 1 ≤ 140737488351232) <|
  some (x ++ s0)
theorem R_Written_v1_ok (s0 : List UInt8) (r : List UInt8) (hF : R_Written_v1 s0 = some r) : Pe Try.prog 29 S.none [.str s0] (.sl 1 (r.map e_u8)) S.none := by
  refine Pe_of (N := 8) (res := [.tmp 2]) (ts := [23]) Ty.ok Fn.b29 Try.func29 rfl rfl rfl rfl rfl rfl ?_
  intro Q g hfin
  unfold R_Written_v1 at hF
  refine Wk_seq ?_
  refine WR [] [0] [] [] [] [] [] ⟨[(0, .str s0)], [], [], [], []⟩ .nil (by kernel_rfl) ?_
  refine Wk_seq ?_
  obtain ⟨x, h0, hF⟩ := ob_elim hF
  obtain ⟨h1, hF⟩ := asrt_elim hF
  refine WR [.callE [] [] [] [] (.row 5 0) ⟨[], [], [(5, ⟨5, 1, 0, 0, 0, true, 0, [], (x.map e_u8)⟩)], [], []⟩, .xs ((x ++ s0).map e_u8)] [2] [] [5] [] [] [] ⟨[(2, .row 5 1)], [], [(5, ⟨5, 1, 1, 0, 0, true, 0, [], ((x ++ s0).map e_u8)⟩)], [], []⟩ (.cons (Pe.ren (R_Number_ok (s0.length : Int) x h0) ⟨[], [(7, 5)], [], []⟩) (.cons (app_ok e_u8 x s0) (.cons (appl_ok e_u8 h1) .nil))) (by kernel_rfl) ?_
  have hF := some_elim hF
  exact Wk_ret (hfin _ ⟨[], [], [], [], [], [], by first | (rw [← hF]; kernel_rfl) | kernel_rfl⟩)

/- tabularylaw.WireTexts$1 -/
noncomputable def law_WireTexts_1 (row : List UInt8) : Unit :=
  ()
theorem law_WireTexts_1_ok (row : List UInt8) (rk : Nat) (rc : Nat) (rn : Bool) (r : Unit) (hF : law_WireTexts_1 row = r) : Pe Try.prog 30 ⟨[], [(100000, [.row 100000 0])], [(100000, ⟨5, 1, 0, rk, rc, rn, 0, [], (row.map e_u8)⟩)], [], []⟩ [.ptr 100000 0] (.row 100000 0) ⟨[], [(100000, [.row 100000 0])], [(100000, ⟨5, 1, 0, rk, rc, rn, 0, [], (row.map e_u8)⟩)], [], []⟩ := by
  refine Pe_of (N := 3) (res := [.tmp 1]) (ts := [23]) Ty.ok Fn.b30 Try.func30 rfl rfl rfl rfl rfl rfl ?_
  intro Q g hfin
  unfold law_WireTexts_1 at hF
  refine Wk_seq ?_
  refine WR [] [0] [100000] [100000] [] [] [] ⟨[(0, .ptr 100000 0)], [(100000, [.row 100000 0])], [(100000, ⟨5, 1, 0, rk, rc, rn, 0, [], (row.map e_u8)⟩)], [], []⟩ .nil (by kernel_rfl) ?_
  refine Wk_seq ?_
  refine WR [] [1] [100000] [100000] [] [] [] ⟨[(1, .row 100000 0)], [(100000, [.row 100000 0])], [(100000, ⟨5, 1, 0, rk, rc, rn, 0, [], (row.map e_u8)⟩)], [], []⟩ .nil (by kernel_rfl) ?_
  exact Wk_ret (hfin _ ⟨[100000], [100000], [100000], [], [], [], by first | (rw [← hF]; kernel_rfl) | kernel_rfl⟩)

/- tabularylaw.bytesAs -/
noncomputable def law_bytesAs_v1 (b : List UInt8) (f : Fault) (w0 : Fault) (row : List UInt8) : Bool :=
  if (!(decide (f.Code = w0.Code) && (decide (f.At = w0.At) && true))) = true then
    false
  else
    if (!decide (w0.Code = 0)) = true then
      decide ((b.length : Int) = 0)
    else
      lt (law_WireTexts_1 row) fun x =>
      lt (R_Same b row) fun x1 =>
      x1
theorem law_bytesAs_v1_ok (b : List UInt8) (f : Fault) (w0 : Fault) (row : List UInt8) (rk : Nat) (rc : Nat) (rn : Bool) (r : Bool) (hF : law_bytesAs_v1 b f w0 row = r) : Pe Try.prog 17 ⟨[], [(100000, [.row 100000 0])], [(100000, ⟨5, 1, 0, rk, rc, rn, 0, [], (row.map e_u8)⟩)], [], []⟩ [.sl 1 (b.map e_u8), .agg [.int .i64 f.Code, .int .i64 f.At], .agg [.int .i64 w0.Code, .int .i64 w0.At], .fn 30 [.ptr 100000 0]] (.bool r) ⟨[], [(100000, [.row 100000 0])], [(100000, ⟨5, 1, 0, rk, rc, rn, 0, [], (row.map e_u8)⟩)], [], []⟩ := by
  refine Pe_of (N := 22) (res := [.tmp 8]) (ts := [4]) Ty.ok Fn.b17 Try.func17 rfl rfl rfl rfl rfl rfl ?_
  intro Q g hfin
  unfold law_bytesAs_v1 at hF
  refine Wk_seq ?_
  refine WR [] [0, 3, 5, 6] [5, 6, 100000] [100000] [] [] [] ⟨[(0, .sl 1 (b.map e_u8)), (3, .fn 30 [.ptr 100000 0]), (5, .ptr 5 0), (6, .ptr 6 0)], [(5, [.int .i64 f.Code, .int .i64 f.At]), (6, [.int .i64 w0.Code, .int .i64 w0.At]), (100000, [.row 100000 0])], [(100000, ⟨5, 1, 0, rk, rc, rn, 0, [], (row.map e_u8)⟩)], [], []⟩ .nil (by kernel_rfl) ?_
  refine Wk_seq ?_
  refine Wk_seq ?_
  refine WR [] [0, 3, 6, 11] [6, 100000] [100000] [] [] [] ⟨[(0, .sl 1 (b.map e_u8)), (3, .fn 30 [.ptr 100000 0]), (6, .ptr 6 0), (11, .bool (!(decide (f.Code = w0.Code) && (decide (f.At = w0.At) && true))))], [(6, [.int .i64 w0.Code, .int .i64 w0.At]), (100000, [.row 100000 0])], [(100000, ⟨5, 1, 0, rk, rc, rn, 0, [], (row.map e_u8)⟩)], [], []⟩ .nil (by kernel_rfl) ?_
  refine Wk_split rfl (fun hb => ?_) (fun hb => ?_)
  · have hF := ite_t hF hb
    refine Wk_seq ?_
    refine WR [] [8] [100000] [100000] [] [] [] ⟨[(8, .bool false)], [(100000, [.row 100000 0])], [(100000, ⟨5, 1, 0, rk, rc, rn, 0, [], (row.map e_u8)⟩)], [], []⟩ .nil (by kernel_rfl) ?_
    exact Wk_ret (hfin _ ⟨[100000], [100000], [100000], [], [], [], by first | (rw [← hF]; kernel_rfl) | kernel_rfl⟩)
  · have hF := ite_f hF hb
    refine Wk_skip ?_
    refine Wk_seq ?_
    refine Wk_seq ?_
    refine WR [] [0, 3, 14] [100000] [100000] [] [] [] ⟨[(0, .sl 1 (b.map e_u8)), (3, .fn 30 [.ptr 100000 0]), (14, .bool (!decide (w0.Code = 0)))], [(100000, [.row 100000 0])], [(100000, ⟨5, 1, 0, rk, rc, rn, 0, [], (row.map e_u8)⟩)], [], []⟩ .nil (by kernel_rfl) ?_
    refine Wk_split rfl (fun hb => ?_) (fun hb => ?_)
    · have hF := ite_t hF hb
      refine Wk_seq ?_
      refine WR [.nat (b.length : Int)] [8] [100000] [100000] [] [] [] ⟨[(8, .bool (decide ((b.length : Int) = 0)))], [(100000, [.row 100000 0])], [(100000, ⟨5, 1, 0, rk, rc, rn, 0, [], (row.map e_u8)⟩)], [], []⟩ (.cons (len_ok e_u8 b) .nil) (by kernel_rfl) ?_
      exact Wk_ret (hfin _ ⟨[100000], [100000], [100000], [], [], [], by first | (rw [← hF]; kernel_rfl) | kernel_rfl⟩)
    · have hF := ite_f hF hb
      refine Wk_skip ?_
      refine Wk_seq ?_
      obtain ⟨x, h0, hF⟩ := lt_split hF
      obtain ⟨x1, h1, hF⟩ := lt_split hF
      refine WR [.callR [100000] [100000] [] [] (.row 100000 0), .callB (.bool x1)] [8] [100000] [100000] [] [] [] ⟨[(8, .bool x1)], [(100000, [.row 100000 0])], [(100000, ⟨5, 1, 0, rk, rc, rn, 0, [], (row.map e_u8)⟩)], [], []⟩ (.cons (Pe.ren (law_WireTexts_1_ok row rk rc rn x h0) ⟨[], [], [], []⟩) (.cons (R_Same_ok b row x1 h1) .nil)) (by kernel_rfl) ?_
      exact Wk_ret (hfin _ ⟨[100000], [100000], [100000], [], [], [], by first | (rw [← hF]; kernel_rfl) | kernel_rfl⟩)

/- tabularyref.ReadWritten -/
noncomputable def R_ReadWritten_v1_J1 (v : List (List UInt8)) : Option (List (List UInt8) × Int) :=
  some (v, (-1))
noncomputable def R_ReadWritten_v1_B1 (v1 : List UInt8 × List (List UInt8)) : Option ((List UInt8 × List (List UInt8)) ⊕ (List (List UInt8) × Int)) :=
  if (decide (0 < (v1.1.length : Int))) = true then
    ob (R_NumberAt v1.1) fun x =>
    if ((decide (x.2 = 0)) || (decide ((w64 ((v1.1.length : Int) - x.2)) < x.1))) = true then
      some (Sum.inr (([] : List (List UInt8)), (v1.2.length : Int)))
    else
      asrt (0 ≤ x.2 ∧ x.2 ≤ w64 (x.2 + x.1) ∧ w64 (x.2 + x.1) ≤ (v1.1.length : Int)) <|
      asrt (((v1.2 ++ ([(ldrop (ltake v1.1 (w64 (x.2 + x.1))) x.2)] : List (List UInt8))).length : Int) * 16 ≤ 140737488351232) <|
      lt ((v1.2 ++ ([(ldrop (ltake v1.1 (w64 (x.2 + x.1))) x.2)] : List (List UInt8)))) fun (v2 : List (List UInt8)) =>
      asrt (0 ≤ w64 (x.2 + x.1) ∧ w64 (x.2 + x.1) ≤ (v1.1.length : Int)) <|
      some (Sum.inl ((ldrop v1.1 (w64 (x.2 + x.1))), v2))
  else
    inrO (R_ReadWritten_v1_J1 v1.2)
noncomputable def R_ReadWritten_v1_L1 (v0 : List UInt8 × List (List UInt8)) : Option (List (List UInt8) × Int) :=
  loopO (fun y => R_ReadWritten_v1_B1 y) v0
noncomputable def R_ReadWritten_v1 (b : List UInt8) : Option (List (List UInt8) × Int) :=
  R_ReadWritten_v1_L1 (b, ([] : List (List UInt8)))
theorem R_ReadWritten_v1_ok (b : List UInt8) (r : List (List UInt8) × Int) (hF : R_ReadWritten_v1 b = some r) : Pe Try.prog 31 S.none [.sl 1 (b.map e_u8)] (.tup [.sl 1 (r.1.map e_str), .int .i64 r.2]) S.none := by
  refine Pe_of (N := 43) (res := [.tmp 2, .tmp 3]) (ts := [50, 3]) Ty.ok Fn.b31 Try.func31 rfl rfl rfl rfl rfl rfl ?_
  intro Q g hfin
  unfold R_ReadWritten_v1 at hF
  refine Wk_seq ?_
  refine WR [] [0] [] [] [] [] [] ⟨[(0, .sl 1 (b.map e_u8))], [], [], [], []⟩ .nil (by kernel_rfl) ?_
  refine Wk_seq ?_
  refine WR [] [0, 4] [] [] [] [] [] ⟨[(0, .sl 1 (b.map e_u8)), (4, .nils)], [], [], [], []⟩ .nil (by kernel_rfl) ?_
  refine Wk_seq ?_
  refine Wk_meetP (fun v : List (List UInt8) => (⟨[(4, .row 36 0)], [], [(36, ⟨9, 1, 0, 0, 0, true, 0, [], (v.map e_str)⟩)], [], []⟩ : S)) (fun v => R_ReadWritten_v1_J1 v = some r) ?_ ?_
  · refine Wk_block ?_
    unfold R_ReadWritten_v1_L1 at hF
    refine Wk_nilrow 4 60000 9 1 rfl rfl rfl ?_
    refine Wk_trim (fs := [0, 4]) (bs := []) (rs := [60000]) (ms := []) (aa := []) (nv := []) rfl ?_
    refine Wk_ren' ⟨[], [(60000, 36)], [], []⟩ rfl ?_
    refine Wk_trim (fs := [0, 4]) (bs := []) (rs := [36]) (ms := []) (aa := []) (nv := []) (t := (fun v1 : List UInt8 × List (List UInt8) => (⟨[(0, .sl 1 (v1.1.map e_u8)), (4, .row 36 0)], [], [(36, ⟨9, 1, 0, 0, 0, true, 0, [], (v1.2.map e_str)⟩)], [], []⟩ : S)) (b, ([] : List (List UInt8)))) (by kernel_rfl) ?_
    refine Wk_iter (step := fun y => R_ReadWritten_v1_B1 y) (r := r) (fun v1 : List UInt8 × List (List UInt8) => (⟨[(0, .sl 1 (v1.1.map e_u8)), (4, .row 36 0)], [], [(36, ⟨9, 1, 0, 0, 0, true, 0, [], (v1.2.map e_str)⟩)], [], []⟩ : S)) (b, ([] : List (List UInt8))) hF ?_
    intro n1 v1 y1 hF ih1 dn1
    have hF : R_ReadWritten_v1_B1 v1 = some y1 := hF
    unfold R_ReadWritten_v1_B1 at hF
    refine Wk_seq ?_
    refine Wk_seq ?_
    refine WR [.nat (v1.1.length : Int)] [0, 4, 9] [] [36] [] [] [] ⟨[(0, .sl 1 (v1.1.map e_u8)), (4, .row 36 0), (9, .bool (decide (0 < (v1.1.length : Int))))], [], [(36, ⟨9, 1, 0, 0, 0, true, 0, [], (v1.2.map e_str)⟩)], [], []⟩ (.cons (len_ok e_u8 v1.1) .nil) (by kernel_rfl) ?_
    refine Wk_split rfl (fun hb => ?_) (fun hb => ?_)
    · have hF := ite_t hF hb
      refine Wk_skip ?_
      refine Wk_block ?_
      refine Wk_seq ?_
      obtain ⟨x, h0, hF⟩ := ob_elim hF
      refine WR [.callB (.tup [.int .i64 x.1, .int .i64 x.2])] [0, 4, 5, 6] [] [36] [] [] [] ⟨[(0, .sl 1 (v1.1.map e_u8)), (4, .row 36 0), (5, .int .i64 x.1), (6, .int .i64 x.2)], [], [(36, ⟨9, 1, 0, 0, 0, true, 0, [], (v1.2.map e_str)⟩)], [], []⟩ (.cons (R_NumberAt_ok v1.1 x h0) .nil) (by kernel_rfl) ?_
      refine Wk_seq ?_
      refine Wk_seq ?_
      refine WR [.nat (v1.1.length : Int)] [0, 4, 5, 6, 24] [] [36] [] [] [] ⟨[(0, .sl 1 (v1.1.map e_u8)), (4, .row 36 0), (5, .int .i64 x.1), (6, .int .i64 x.2), (24, .bool ((decide (x.2 = 0)) || (decide ((w64 ((v1.1.length : Int) - x.2)) < x.1))))], [], [(36, ⟨9, 1, 0, 0, 0, true, 0, [], (v1.2.map e_str)⟩)], [], []⟩ (.cons (fun (_ : (!(decide (x.2 = 0))) = true) => (len_ok e_u8 v1.1)) .nil) (by kernel_rfl) ?_
      refine Wk_split rfl (fun hb => ?_) (fun hb => ?_)
      · have hF := ite_t hF hb
        refine Wk_seq ?_
        refine WR [.nat (v1.2.length : Int)] [2, 3] [] [] [] [] [] ⟨[(2, .nils), (3, .int .i64 (v1.2.length : Int))], [], [], [], []⟩ (.cons (len_ok e_str v1.2) .nil) (by kernel_rfl) ?_
        have hF := ret_done hF dn1
        have hF := some_elim hF
        exact Wk_ret (hfin _ ⟨[], [], [], [], [], [], by first | (rw [← hF]; kernel_rfl) | kernel_rfl⟩)
      · have hF := ite_f hF hb
        refine Wk_skip ?_
        refine Wk_seq ?_
        obtain ⟨h1, hF⟩ := asrt_elim hF
        obtain ⟨h2, hF⟩ := asrt_elim hF
        refine WRL ((v1.2 ++ ([(ldrop (ltake v1.1 (w64 (x.2 + x.1))) x.2)] : List (List UInt8)))) (fun v2 : List (List UInt8) => ⟨[(0, .sl 1 (v1.1.map e_u8)), (4, .row 36 1), (5, .int .i64 x.1), (6, .int .i64 x.2)], [], [(36, ⟨9, 1, 1, 0, 0, true, 0, [], (v2.map e_str)⟩)], [], []⟩) [.xs ((ldrop (ltake v1.1 (w64 (x.2 + x.1))) x.2).map e_u8), .str (ldrop (ltake v1.1 (w64 (x.2 + x.1))) x.2), .sealed, .xs ((v1.2 ++ ([(ldrop (ltake v1.1 (w64 (x.2 + x.1))) x.2)] : List (List UInt8))).map e_str)] [0, 4, 5, 6] [] [36] [] [] [] (.cons (sl11_ok e_u8 h1) (.cons (u8s_ok (ldrop (ltake v1.1 (w64 (x.2 + x.1))) x.2)) (.cons (app_ok e_str v1.2 ([(ldrop (ltake v1.1 (w64 (x.2 + x.1))) x.2)] : List (List UInt8))) (.cons (appl_ok e_str h2) .nil)))) (by kernel_rfl) (fun v2 hv => ?_)
        have hF := lt_elim hF hv
        obtain ⟨h3, hF⟩ := asrt_elim hF
        refine WR [.xs ((ldrop v1.1 (w64 (x.2 + x.1))).map e_u8)] [0, 4] [] [36] [] [] [] ⟨[(0, .sl 1 ((ldrop v1.1 (w64 (x.2 + x.1))).map e_u8)), (4, .row 36 1)], [], [(36, ⟨9, 1, 1, 0, 0, true, 0, [], (v2.map e_str)⟩)], [], []⟩ (.cons (sl10_ok e_u8 h3) .nil) (by kernel_rfl) ?_
        refine Wk_blk ?_
        refine Wk_trim (fs := [0, 4]) (bs := []) (rs := [36]) (ms := []) (aa := []) (nv := [(36, ⟨0, true, true, false⟩)]) ?_ (ih1 _ (some_elim hF).symm)
        kernel_rfl
    · have hF := ite_f hF hb
      refine Wk_exit rfl ?_
      have hF := inrO_done hF dn1
      exact Wk_metP v1.2 [4] [] [36] [] [] [] hF (by kernel_rfl)
  · intro v hF
    have hF : R_ReadWritten_v1_J1 v = some r := hF
    unfold R_ReadWritten_v1_J1 at hF
    refine Wk_seq ?_
    refine WR [] [2, 3] [] [36] [] [] [] ⟨[(2, .row 36 0), (3, .int .i64 (-1))], [], [(36, ⟨9, 1, 0, 0, 0, true, 0, [], (v.map e_str)⟩)], [], []⟩ .nil (by kernel_rfl) ?_
    have hF := some_elim hF
    exact Wk_ret (hfin _ ⟨[], [], [], [], [], [], by first | (rw [← hF]; kernel_rfl) | kernel_rfl⟩)

/- tabularyref.SameTexts -/
noncomputable def R_SameTexts_J1 (v : Unit) : Option Bool :=
  some true
noncomputable def R_SameTexts_B1 (a0 : List (List UInt8)) (b : List (List UInt8)) (v1 : Int) : Option (Int ⊕ Bool) :=
  if (decide (v1 < (a0.length : Int))) = true then
    asrt (0 ≤ v1 ∧ v1 < (a0.length : Int)) <|
    asrt (0 ≤ v1 ∧ v1 < (b.length : Int)) <|
    if (!decide ((lget a0 v1) = (lget b v1))) = true then
      some (Sum.inr false)
    else
      some (Sum.inl (w64 (v1 + 1)))
  else
    inrO (R_SameTexts_J1 ())
noncomputable def R_SameTexts_L1 (a0 : List (List UInt8)) (b : List (List UInt8)) (v0 : Int) : Option Bool :=
  loopO (fun y => R_SameTexts_B1 a0 b y) v0
noncomputable def R_SameTexts (a0 : List (List UInt8)) (b : List (List UInt8)) : Option Bool :=
  if (!decide ((a0.length : Int) = (b.length : Int))) = true then
    some false
  else
    R_SameTexts_L1 a0 b 0
theorem R_SameTexts_ok (a0 : List (List UInt8)) (b : List (List UInt8)) (r : Bool) (hF : R_SameTexts a0 b = some r) : Pe Try.prog 32 S.none [.sl 1 (a0.map e_str), .sl 1 (b.map e_str)] (.bool r) S.none := by
  refine Pe_of (N := 26) (res := [.tmp 4]) (ts := [4]) Ty.ok Fn.b32 Try.func32 rfl rfl rfl rfl rfl rfl ?_
  intro Q g hfin
  unfold R_SameTexts at hF
  refine Wk_seq ?_
  refine WR [] [0, 1] [] [] [] [] [] ⟨[(0, .sl 1 (a0.map e_str)), (1, .sl 1 (b.map e_str))], [], [], [], []⟩ .nil (by kernel_rfl) ?_
  refine Wk_seq ?_
  refine Wk_seq ?_
  refine WR [.nat (a0.length : Int), .nat (b.length : Int)] [0, 1, 10] [] [] [] [] [] ⟨[(0, .sl 1 (a0.map e_str)), (1, .sl 1 (b.map e_str)), (10, .bool (!decide ((a0.length : Int) = (b.length : Int))))], [], [], [], []⟩ (.cons (len_ok e_str a0) (.cons (len_ok e_str b) .nil)) (by kernel_rfl) ?_
  refine Wk_split rfl (fun hb => ?_) (fun hb => ?_)
  · have hF := ite_t hF hb
    refine Wk_seq ?_
    refine WR [] [4] [] [] [] [] [] ⟨[(4, .bool false)], [], [], [], []⟩ .nil (by kernel_rfl) ?_
    have hF := some_elim hF
    exact Wk_ret (hfin _ ⟨[], [], [], [], [], [], by first | (rw [← hF]; kernel_rfl) | kernel_rfl⟩)
  · have hF := ite_f hF hb
    refine Wk_skip ?_
    refine Wk_seq ?_
    refine Wk_seq ?_
    refine WR [] [0, 1, 5] [] [] [] [] [] ⟨[(0, .sl 1 (a0.map e_str)), (1, .sl 1 (b.map e_str)), (5, .int .i64 0)], [], [], [], []⟩ .nil (by kernel_rfl) ?_
    refine Wk_meetP (fun v : Unit => (⟨[], [], [], [], []⟩ : S)) (fun v => R_SameTexts_J1 v = some r) ?_ ?_
    · refine Wk_block ?_
      unfold R_SameTexts_L1 at hF
      refine Wk_trim (fs := [0, 1, 5]) (bs := []) (rs := []) (ms := []) (aa := []) (nv := []) (t := (fun v1 : Int => (⟨[(0, .sl 1 (a0.map e_str)), (1, .sl 1 (b.map e_str)), (5, .int .i64 v1)], [], [], [], []⟩ : S)) 0) (by kernel_rfl) ?_
      refine Wk_iter (step := fun y => R_SameTexts_B1 a0 b y) (r := r) (fun v1 : Int => (⟨[(0, .sl 1 (a0.map e_str)), (1, .sl 1 (b.map e_str)), (5, .int .i64 v1)], [], [], [], []⟩ : S)) 0 hF ?_
      intro n1 v1 y1 hF ih1 dn1
      have hF : R_SameTexts_B1 a0 b v1 = some y1 := hF
      unfold R_SameTexts_B1 at hF
      refine Wk_seq ?_
      refine Wk_seq ?_
      refine WR [.nat (a0.length : Int)] [0, 1, 5, 14] [] [] [] [] [] ⟨[(0, .sl 1 (a0.map e_str)), (1, .sl 1 (b.map e_str)), (5, .int .i64 v1), (14, .bool (decide (v1 < (a0.length : Int))))], [], [], [], []⟩ (.cons (len_ok e_str a0) .nil) (by kernel_rfl) ?_
      refine Wk_split rfl (fun hb => ?_) (fun hb => ?_)
      · have hF := ite_t hF hb
        refine Wk_skip ?_
        refine Wk_seq ?_
        refine Wk_block ?_
        refine Wk_seq ?_
        obtain ⟨h0, hF⟩ := asrt_elim hF
        obtain ⟨h1, hF⟩ := asrt_elim hF
        refine WD [.av (e_str (lget a0 v1)), .av (e_str (lget b v1))] [0, 1, 5, 25] [] [] [] [] [] ⟨[(0, .sl 1 (a0.map e_str)), (1, .sl 1 (b.map e_str)), (5, .int .i64 v1), (25, .bool (!decide ((lget a0 v1) = (lget b v1))))], [], [], [], []⟩ (.cons (idx_ok e_str h0) (.cons (idx_ok e_str h1) .nil)) (by kernel_rfl) ?_
        refine Wk_split rfl (fun hb => ?_) (fun hb => ?_)
        · have hF := ite_t hF hb
          refine Wk_seq ?_
          refine WR [] [4] [] [] [] [] [] ⟨[(4, .bool false)], [], [], [], []⟩ .nil (by kernel_rfl) ?_
          have hF := ret_done hF dn1
          have hF := some_elim hF
          exact Wk_ret (hfin _ ⟨[], [], [], [], [], [], by first | (rw [← hF]; kernel_rfl) | kernel_rfl⟩)
        · have hF := ite_f hF hb
          refine Wk_skip ?_
          refine Wk_blk ?_
          refine WR [] [0, 1, 5] [] [] [] [] [] ⟨[(0, .sl 1 (a0.map e_str)), (1, .sl 1 (b.map e_str)), (5, .int .i64 (w64 (v1 + 1)))], [], [], [], []⟩ .nil (by kernel_rfl) ?_
          refine Wk_trim (fs := [0, 1, 5]) (bs := []) (rs := []) (ms := []) (aa := []) (nv := []) ?_ (ih1 _ (some_elim hF).symm)
          kernel_rfl
      · have hF := ite_f hF hb
        refine Wk_exit rfl ?_
        have hF := inrO_done hF dn1
        exact Wk_metP () [] [] [] [] [] [] hF (by kernel_rfl)
    · intro v hF
      have hF : R_SameTexts_J1 v = some r := hF
      unfold R_SameTexts_J1 at hF
      refine Wk_seq ?_
      refine WR [] [4] [] [] [] [] [] ⟨[(4, .bool true)], [], [], [], []⟩ .nil (by kernel_rfl) ?_
      have hF := some_elim hF
      exact Wk_ret (hfin _ ⟨[], [], [], [], [], [], by first | (rw [← hF]; kernel_rfl) | kernel_rfl⟩)

/- tabularylaw.WireTexts -/
noncomputable def law_WireTexts_J2 (l : List (List UInt8)) (b : List UInt8) (x1 : List UInt8 × Fault) (x3 : List (List UInt8) × Fault) (v1 : Fault × Fault × List UInt8) : Option Bool :=
  ob (
    if (decide (1000 < (l.length : Int))) = true then
      lt (R_F 2 0) fun x4 =>
      some (v1.1, v1.2.1, x4)
    else
      if (decide (60000 < (v1.2.2.length : Int))) = true then
        lt (R_F 9 0) fun x5 =>
        some (v1.1, v1.2.1, x5)
      else
        some (v1.1, v1.2.1, (⟨0, 0⟩ : Fault))) fun (v2 : Fault × Fault × Fault) =>
  lt (law_bytesAs_v1 x1.1 v2.1 v2.2.2 v1.2.2) fun x6 =>
  if (!x6) = true then
    some false
  else
    if (decide (60000 < (b.length : Int))) = true then
      lt (R_F 8 0) fun x7 =>
      lt ((decide (v2.2.1.Code = x7.Code) && (decide (v2.2.1.At = x7.At) && true)) && (decide ((x3.1.length : Int) = 0))) fun (v3 : Bool) =>
      some v3
    else
      ob (R_ReadWritten_v1 b) fun x8 =>
      if (decide (0 ≤ x8.2)) = true then
        lt (R_F 5 x8.2) fun x9 =>
        lt ((decide (v2.2.1.Code = x9.Code) && (decide (v2.2.1.At = x9.At) && true)) && (decide ((x3.1.length : Int) = 0))) fun (v4 : Bool) =>
        some v4
      else
        if (decide (1000 < (x8.1.length : Int))) = true then
          lt (R_F 2 0) fun x10 =>
          lt ((decide (v2.2.1.Code = x10.Code) && (decide (v2.2.1.At = x10.At) && true)) && (decide ((x3.1.length : Int) = 0))) fun (v5 : Bool) =>
          some v5
        else
          ob (if (decide (v2.2.1.Code = 0)) = true then (R_SameTexts x3.1 x8.1) else some default) fun x11 =>
          some ((decide (v2.2.1.Code = 0)) && x11)
noncomputable def law_WireTexts_B1 (l : List (List UInt8)) (b : List UInt8) (x1 : List UInt8 × Fault) (x3 : List (List UInt8) × Fault) (v6 : Fault × Fault × List UInt8 × Int) : Option ((Fault × Fault × List UInt8 × Int) ⊕ Bool) :=
  if (decide (v6.2.2.2 < (l.length : Int))) = true then
    asrt (0 ≤ v6.2.2.2 ∧ v6.2.2.2 < (l.length : Int)) <|
    ob (R_Written_v1 (lget l v6.2.2.2)) fun x12 =>
    asrt (((v6.2.2.1 ++ x12).length : Int) * 1 ≤ 140737488351232) <|
    some (Sum.inl (v6.1, v6.2.1, (v6.2.2.1 ++ x12), w64 (v6.2.2.2 + 1)))
  else
    inrO (law_WireTexts_J2 l b x1 x3 (v6.1, v6.2.1, v6.2.2.1))
noncomputable def law_WireTexts_L1 (l : List (List UInt8)) (b : List UInt8) (x1 : List UInt8 × Fault) (x3 : List (List UInt8) × Fault) (v0 : Fault × Fault × List UInt8 × Int) : Option Bool :=
  loopO (fun y => law_WireTexts_B1 l b x1 x3 y) v0
noncomputable def law_WireTexts_J1 (l : List (List UInt8)) (b : List UInt8) (v : Int) : Option Bool :=
  if (decide (300000 < v)) = true then
    some true
  else
    asrt ((l.length : Int) * 16 ≤ 140737488351232) <|
    ob (wire_Texts_v1 l) fun x1 =>
    ob (law_ownBytes_v1 b) fun x2 =>
    ob (wire_ReadTexts_v1 x2) fun x3 =>
    law_WireTexts_L1 l b x1 x3 (x1.2, x3.2, ([] : List UInt8), 0)
noncomputable def law_WireTexts_B2 (l : List (List UInt8)) (b : List UInt8) (v7 : Int × Int) : Option ((Int × Int) ⊕ Bool) :=
  if (decide (v7.2 < (l.length : Int))) = true then
    asrt (0 ≤ v7.2 ∧ v7.2 < (l.length : Int)) <|
    some (Sum.inl (w64 (v7.1 + ((lget l v7.2).length : Int)), w64 (v7.2 + 1)))
  else
    inrO (law_WireTexts_J1 l b v7.1)
noncomputable def law_WireTexts_L2 (l : List (List UInt8)) (b : List UInt8) (v0 : Int × Int) : Option Bool :=
  loopO (fun y => law_WireTexts_B2 l b y) v0
noncomputable def law_WireTexts (l : List (List UInt8)) (b : List UInt8) : Option Bool :=
  ob (law_wireBegun) fun x =>
  if (!x) = true then
    some false
  else
    if ((decide (3000 < (l.length : Int))) || (decide (100000 < (b.length : Int)))) = true then
      some true
    else
      law_WireTexts_L2 l b (0, 0)
theorem law_WireTexts_ok (l : List (List UInt8)) (b : List UInt8) (r : Bool) (hF : law_WireTexts l b = some r) : Pe Try.prog 5 S.none [.sl 1 (l.map e_str), .sl 1 (b.map e_u8)] (.bool r) S.none := by
  refine Pe_of (N := 127) (res := [.tmp 4]) (ts := [4]) Ty.ok Fn.b5 Try.func5 rfl rfl rfl rfl rfl rfl ?_
  intro Q g hfin
  unfold law_WireTexts at hF
  refine Wk_seq ?_
  refine WR [] [0, 1] [] [] [] [] [] ⟨[(0, .sl 1 (l.map e_str)), (1, .sl 1 (b.map e_u8))], [], [], [], []⟩ .nil (by kernel_rfl) ?_
  refine Wk_seq ?_
  refine Wk_seq ?_
  obtain ⟨x, h0, hF⟩ := ob_elim hF
  refine WR [.callB (.bool x)] [0, 1, 17] [] [] [] [] [] ⟨[(0, .sl 1 (l.map e_str)), (1, .sl 1 (b.map e_u8)), (17, .bool (!x))], [], [], [], []⟩ (.cons (law_wireBegun_ok  x h0) .nil) (by kernel_rfl) ?_
  refine Wk_split rfl (fun hb => ?_) (fun hb => ?_)
  · have hF := ite_t hF hb
    refine Wk_seq ?_
    refine WR [] [4] [] [] [] [] [] ⟨[(4, .bool false)], [], [], [], []⟩ .nil (by kernel_rfl) ?_
    have hF := some_elim hF
    exact Wk_ret (hfin _ ⟨[], [], [], [], [], [], by first | (rw [← hF]; kernel_rfl) | kernel_rfl⟩)
  · have hF := ite_f hF hb
    refine Wk_skip ?_
    refine Wk_seq ?_
    refine Wk_seq ?_
    refine WR [.nat (l.length : Int), .nat (b.length : Int)] [0, 1, 25] [] [] [] [] [] ⟨[(0, .sl 1 (l.map e_str)), (1, .sl 1 (b.map e_u8)), (25, .bool ((decide (3000 < (l.length : Int))) || (decide (100000 < (b.length : Int)))))], [], [], [], []⟩ (.cons (len_ok e_str l) (.cons (fun (_ : (!(decide (3000 < (l.length : Int)))) = true) => (len_ok e_u8 b)) .nil)) (by kernel_rfl) ?_
    refine Wk_split rfl (fun hb => ?_) (fun hb => ?_)
    · have hF := ite_t hF hb
      refine Wk_seq ?_
      refine WR [] [4] [] [] [] [] [] ⟨[(4, .bool true)], [], [], [], []⟩ .nil (by kernel_rfl) ?_
      have hF := some_elim hF
      exact Wk_ret (hfin _ ⟨[], [], [], [], [], [], by first | (rw [← hF]; kernel_rfl) | kernel_rfl⟩)
    · have hF := ite_f hF hb
      refine Wk_skip ?_
      refine Wk_seq ?_
      refine WR [] [0, 1, 5] [] [] [] [] [] ⟨[(0, .sl 1 (l.map e_str)), (1, .sl 1 (b.map e_u8)), (5, .int .i64 0)], [], [], [], []⟩ .nil (by kernel_rfl) ?_
      refine Wk_seq ?_
      refine Wk_seq ?_
      refine WR [] [0, 1, 5, 6] [] [] [] [] [] ⟨[(0, .sl 1 (l.map e_str)), (1, .sl 1 (b.map e_u8)), (5, .int .i64 0), (6, .int .i64 0)], [], [], [], []⟩ .nil (by kernel_rfl) ?_
      refine Wk_meetP (fun v : Int => (⟨[(0, .sl 1 (l.map e_str)), (1, .sl 1 (b.map e_u8)), (5, .int .i64 v)], [], [], [], []⟩ : S)) (fun v => law_WireTexts_J1 l b v = some r) ?_ ?_
      · refine Wk_block ?_
        unfold law_WireTexts_L2 at hF
        refine Wk_trim (fs := [0, 1, 5, 6]) (bs := []) (rs := []) (ms := []) (aa := []) (nv := []) (t := (fun v7 : Int × Int => (⟨[(0, .sl 1 (l.map e_str)), (1, .sl 1 (b.map e_u8)), (5, .int .i64 v7.1), (6, .int .i64 v7.2)], [], [], [], []⟩ : S)) (0, 0)) (by kernel_rfl) ?_
        refine Wk_iter (step := fun y => law_WireTexts_B2 l b y) (r := r) (fun v7 : Int × Int => (⟨[(0, .sl 1 (l.map e_str)), (1, .sl 1 (b.map e_u8)), (5, .int .i64 v7.1), (6, .int .i64 v7.2)], [], [], [], []⟩ : S)) (0, 0) hF ?_
        intro n1 v7 y1 hF ih1 dn1
        have hF : law_WireTexts_B2 l b v7 = some y1 := hF
        unfold law_WireTexts_B2 at hF
        refine Wk_seq ?_
        refine Wk_seq ?_
        refine WR [.nat (l.length : Int)] [0, 1, 5, 6, 29] [] [] [] [] [] ⟨[(0, .sl 1 (l.map e_str)), (1, .sl 1 (b.map e_u8)), (5, .int .i64 v7.1), (6, .int .i64 v7.2), (29, .bool (decide (v7.2 < (l.length : Int))))], [], [], [], []⟩ (.cons (len_ok e_str l) .nil) (by kernel_rfl) ?_
        refine Wk_split rfl (fun hb => ?_) (fun hb => ?_)
        · have hF := ite_t hF hb
          refine Wk_skip ?_
          refine Wk_seq ?_
          refine Wk_block ?_
          obtain ⟨h16, hF⟩ := asrt_elim hF
          refine WR [.av (e_str (lget l v7.2))] [0, 1, 5, 6] [] [] [] [] [] ⟨[(0, .sl 1 (l.map e_str)), (1, .sl 1 (b.map e_u8)), (5, .int .i64 (w64 (v7.1 + ((lget l v7.2).length : Int)))), (6, .int .i64 v7.2)], [], [], [], []⟩ (.cons (idx_ok e_str h16) .nil) (by kernel_rfl) ?_
          refine Wk_blk ?_
          refine WR [] [0, 1, 5, 6] [] [] [] [] [] ⟨[(0, .sl 1 (l.map e_str)), (1, .sl 1 (b.map e_u8)), (5, .int .i64 (w64 (v7.1 + ((lget l v7.2).length : Int)))), (6, .int .i64 (w64 (v7.2 + 1)))], [], [], [], []⟩ .nil (by kernel_rfl) ?_
          refine Wk_trim (fs := [0, 1, 5, 6]) (bs := []) (rs := []) (ms := []) (aa := []) (nv := []) ?_ (ih1 _ (some_elim hF).symm)
          kernel_rfl
        · have hF := ite_f hF hb
          refine Wk_exit rfl ?_
          have hF := inrO_done hF dn1
          exact Wk_metP v7.1 [0, 1, 5] [] [] [] [] [] hF (by kernel_rfl)
      · intro v hF
        have hF : law_WireTexts_J1 l b v = some r := hF
        unfold law_WireTexts_J1 at hF
        refine Wk_seq ?_
        refine Wk_seq ?_
        refine WR [] [0, 1, 40] [] [] [] [] [] ⟨[(0, .sl 1 (l.map e_str)), (1, .sl 1 (b.map e_u8)), (40, .bool (decide (300000 < v)))], [], [], [], []⟩ .nil (by kernel_rfl) ?_
        refine Wk_split rfl (fun hb => ?_) (fun hb => ?_)
        · have hF := ite_t hF hb
          refine Wk_seq ?_
          refine WR [] [4] [] [] [] [] [] ⟨[(4, .bool true)], [], [], [], []⟩ .nil (by kernel_rfl) ?_
          have hF := some_elim hF
          exact Wk_ret (hfin _ ⟨[], [], [], [], [], [], by first | (rw [← hF]; kernel_rfl) | kernel_rfl⟩)
        · have hF := ite_f hF hb
          refine Wk_skip ?_
          refine Wk_seq ?_
          obtain ⟨h1, hF⟩ := asrt_elim hF
          obtain ⟨x1, h2, hF⟩ := ob_elim hF
          refine WR [.xs (l.map e_str), .call (.tup [.sl 1 (x1.1.map e_u8), .agg [.int .i64 x1.2.Code, .int .i64 x1.2.At]])] [0, 1, 7, 8] [8] [] [] [] [] ⟨[(0, .sl 1 (l.map e_str)), (1, .sl 1 (b.map e_u8)), (7, .sl 1 (x1.1.map e_u8)), (8, .ptr 8 0)], [(8, [.int .i64 x1.2.Code, .int .i64 x1.2.At])], [], [], []⟩ (.cons (app0_ok e_str l) (.cons (appl_ok e_str h1) (.cons (wire_Texts_v1_ok l x1 h2) .nil))) (by kernel_rfl) ?_
          refine Wk_seq ?_
          obtain ⟨x2, h3, hF⟩ := ob_elim hF
          obtain ⟨x3, h4, hF⟩ := ob_elim hF
          refine WR [.call (.sl 1 (x2.map e_u8)), .call (.tup [.sl 1 (x3.1.map e_str), .agg [.int .i64 x3.2.Code, .int .i64 x3.2.At]])] [0, 1, 7, 8, 9, 10] [8, 10] [] [] [] [] ⟨[(0, .sl 1 (l.map e_str)), (1, .sl 1 (b.map e_u8)), (7, .sl 1 (x1.1.map e_u8)), (8, .ptr 8 0), (9, .sl 1 (x3.1.map e_str)), (10, .ptr 10 0)], [(8, [.int .i64 x1.2.Code, .int .i64 x1.2.At]), (10, [.int .i64 x3.2.Code, .int .i64 x3.2.At])], [], [], []⟩ (.cons (law_ownBytes_v1_ok b x2 h3) (.cons (wire_ReadTexts_v1_ok x2 x3 h4) .nil)) (by kernel_rfl) ?_
          refine Wk_seq ?_
          refine WR [] [0, 1, 7, 8, 9, 10, 11] [8, 10, 11] [] [] [] [] ⟨[(0, .sl 1 (l.map e_str)), (1, .sl 1 (b.map e_u8)), (7, .sl 1 (x1.1.map e_u8)), (8, .ptr 8 0), (9, .sl 1 (x3.1.map e_str)), (10, .ptr 10 0), (11, .ptr 11 0)], [(8, [.int .i64 x1.2.Code, .int .i64 x1.2.At]), (10, [.int .i64 x3.2.Code, .int .i64 x3.2.At]), (11, [.nils])], [], [], []⟩ .nil (by kernel_rfl) ?_
          refine Wk_seq ?_
          refine Wk_seq ?_
          refine WR [] [0, 1, 7, 8, 9, 10, 11, 12] [8, 10, 11] [] [] [] [] ⟨[(0, .sl 1 (l.map e_str)), (1, .sl 1 (b.map e_u8)), (7, .sl 1 (x1.1.map e_u8)), (8, .ptr 8 0), (9, .sl 1 (x3.1.map e_str)), (10, .ptr 10 0), (11, .ptr 11 0), (12, .int .i64 0)], [(8, [.int .i64 x1.2.Code, .int .i64 x1.2.At]), (10, [.int .i64 x3.2.Code, .int .i64 x3.2.At]), (11, [.nils])], [], [], []⟩ .nil (by kernel_rfl) ?_
          refine Wk_meetP (fun v1 : Fault × Fault × List UInt8 => (⟨[(0, .sl 1 (l.map e_str)), (1, .sl 1 (b.map e_u8)), (7, .sl 1 (x1.1.map e_u8)), (8, .ptr 8 0), (9, .sl 1 (x3.1.map e_str)), (10, .ptr 10 0), (11, .ptr 11 0)], [(8, [.int .i64 v1.1.Code, .int .i64 v1.1.At]), (10, [.int .i64 v1.2.1.Code, .int .i64 v1.2.1.At]), (11, [.row 65 0])], [(65, ⟨5, 1, 0, 0, 0, true, 0, [], (v1.2.2.map e_u8)⟩)], [], []⟩ : S)) (fun v1 => law_WireTexts_J2 l b x1 x3 v1 = some r) ?_ ?_
          · refine Wk_block ?_
            unfold law_WireTexts_L1 at hF
            refine Wk_nilrowB 11 0 60000 5 1 rfl rfl rfl rfl rfl ?_
            refine Wk_trim (fs := [0, 1, 7, 8, 9, 10, 11, 12]) (bs := [8, 10, 11]) (rs := [60000]) (ms := []) (aa := []) (nv := []) rfl ?_
            refine Wk_ren' ⟨[], [(60000, 65)], [], []⟩ rfl ?_
            refine Wk_trim (fs := [0, 1, 7, 8, 9, 10, 11, 12]) (bs := [8, 10, 11]) (rs := [65]) (ms := []) (aa := []) (nv := []) (t := (fun v6 : Fault × Fault × List UInt8 × Int => (⟨[(0, .sl 1 (l.map e_str)), (1, .sl 1 (b.map e_u8)), (7, .sl 1 (x1.1.map e_u8)), (8, .ptr 8 0), (9, .sl 1 (x3.1.map e_str)), (10, .ptr 10 0), (11, .ptr 11 0), (12, .int .i64 v6.2.2.2)], [(8, [.int .i64 v6.1.Code, .int .i64 v6.1.At]), (10, [.int .i64 v6.2.1.Code, .int .i64 v6.2.1.At]), (11, [.row 65 0])], [(65, ⟨5, 1, 0, 0, 0, true, 0, [], (v6.2.2.1.map e_u8)⟩)], [], []⟩ : S)) (x1.2, x3.2, ([] : List UInt8), 0)) (by kernel_rfl) ?_
            refine Wk_iter (step := fun y => law_WireTexts_B1 l b x1 x3 y) (r := r) (fun v6 : Fault × Fault × List UInt8 × Int => (⟨[(0, .sl 1 (l.map e_str)), (1, .sl 1 (b.map e_u8)), (7, .sl 1 (x1.1.map e_u8)), (8, .ptr 8 0), (9, .sl 1 (x3.1.map e_str)), (10, .ptr 10 0), (11, .ptr 11 0), (12, .int .i64 v6.2.2.2)], [(8, [.int .i64 v6.1.Code, .int .i64 v6.1.At]), (10, [.int .i64 v6.2.1.Code, .int .i64 v6.2.1.At]), (11, [.row 65 0])], [(65, ⟨5, 1, 0, 0, 0, true, 0, [], (v6.2.2.1.map e_u8)⟩)], [], []⟩ : S)) (x1.2, x3.2, ([] : List UInt8), 0) hF ?_
            intro n1 v6 y1 hF ih1 dn1
            have hF : law_WireTexts_B1 l b x1 x3 v6 = some y1 := hF
            unfold law_WireTexts_B1 at hF
            refine Wk_seq ?_
            refine Wk_seq ?_
            refine WR [.nat (l.length : Int)] [0, 1, 7, 8, 9, 10, 11, 12, 56] [8, 10, 11] [65] [] [] [] ⟨[(0, .sl 1 (l.map e_str)), (1, .sl 1 (b.map e_u8)), (7, .sl 1 (x1.1.map e_u8)), (8, .ptr 8 0), (9, .sl 1 (x3.1.map e_str)), (10, .ptr 10 0), (11, .ptr 11 0), (12, .int .i64 v6.2.2.2), (56, .bool (decide (v6.2.2.2 < (l.length : Int))))], [(8, [.int .i64 v6.1.Code, .int .i64 v6.1.At]), (10, [.int .i64 v6.2.1.Code, .int .i64 v6.2.1.At]), (11, [.row 65 0])], [(65, ⟨5, 1, 0, 0, 0, true, 0, [], (v6.2.2.1.map e_u8)⟩)], [], []⟩ (.cons (len_ok e_str l) .nil) (by kernel_rfl) ?_
            refine Wk_split rfl (fun hb => ?_) (fun hb => ?_)
            · have hF := ite_t hF hb
              refine Wk_skip ?_
              refine Wk_seq ?_
              refine Wk_block ?_
              obtain ⟨h13, hF⟩ := asrt_elim hF
              obtain ⟨x12, h14, hF⟩ := ob_elim hF
              obtain ⟨h15, hF⟩ := asrt_elim hF
              refine WD [.av (e_str (lget l v6.2.2.2)), .call (.sl 1 (x12.map e_u8)), .xs ((v6.2.2.1 ++ x12).map e_u8)] [0, 1, 7, 8, 9, 10, 11, 12] [8, 10, 11] [65] [] [] [] ⟨[(0, .sl 1 (l.map e_str)), (1, .sl 1 (b.map e_u8)), (7, .sl 1 (x1.1.map e_u8)), (8, .ptr 8 0), (9, .sl 1 (x3.1.map e_str)), (10, .ptr 10 0), (11, .ptr 11 0), (12, .int .i64 v6.2.2.2)], [(8, [.int .i64 v6.1.Code, .int .i64 v6.1.At]), (10, [.int .i64 v6.2.1.Code, .int .i64 v6.2.1.At]), (11, [.row 65 1])], [(65, ⟨5, 1, 1, 0, 0, true, 0, [], ((v6.2.2.1 ++ x12).map e_u8)⟩)], [], []⟩ (.cons (idx_ok e_str h13) (.cons (R_Written_v1_ok (lget l v6.2.2.2) x12 h14) (.cons (app_ok e_u8 v6.2.2.1 x12) (.cons (appl_ok e_u8 h15) .nil)))) (by kernel_rfl) ?_
              refine Wk_blk ?_
              refine WR [] [0, 1, 7, 8, 9, 10, 11, 12] [8, 10, 11] [65] [] [] [] ⟨[(0, .sl 1 (l.map e_str)), (1, .sl 1 (b.map e_u8)), (7, .sl 1 (x1.1.map e_u8)), (8, .ptr 8 0), (9, .sl 1 (x3.1.map e_str)), (10, .ptr 10 0), (11, .ptr 11 0), (12, .int .i64 (w64 (v6.2.2.2 + 1)))], [(8, [.int .i64 v6.1.Code, .int .i64 v6.1.At]), (10, [.int .i64 v6.2.1.Code, .int .i64 v6.2.1.At]), (11, [.row 65 1])], [(65, ⟨5, 1, 1, 0, 0, true, 0, [], ((v6.2.2.1 ++ x12).map e_u8)⟩)], [], []⟩ .nil (by kernel_rfl) ?_
              refine Wk_trim (fs := [0, 1, 7, 8, 9, 10, 11, 12]) (bs := [8, 10, 11]) (rs := [65]) (ms := []) (aa := []) (nv := [(65, ⟨0, true, true, false⟩)]) ?_ (ih1 _ (some_elim hF).symm)
              kernel_rfl
            · have hF := ite_f hF hb
              refine Wk_exit rfl ?_
              have hF := inrO_done hF dn1
              exact Wk_metP (v6.1, v6.2.1, v6.2.2.1) [0, 1, 7, 8, 9, 10, 11] [8, 10, 11] [65] [] [] [] hF (by kernel_rfl)
          · intro v1 hF
            have hF : law_WireTexts_J2 l b x1 x3 v1 = some r := hF
            unfold law_WireTexts_J2 at hF
            refine Wk_seq ?_
            refine WR [] [0, 1, 7, 8, 9, 10, 11, 13] [8, 10, 11, 13] [65] [] [] [] ⟨[(0, .sl 1 (l.map e_str)), (1, .sl 1 (b.map e_u8)), (7, .sl 1 (x1.1.map e_u8)), (8, .ptr 8 0), (9, .sl 1 (x3.1.map e_str)), (10, .ptr 10 0), (11, .ptr 11 0), (13, .ptr 13 0)], [(8, [.int .i64 v1.1.Code, .int .i64 v1.1.At]), (10, [.int .i64 v1.2.1.Code, .int .i64 v1.2.1.At]), (11, [.row 65 0]), (13, [.int .i64 0, .int .i64 0])], [(65, ⟨5, 1, 0, 0, 0, true, 0, [], (v1.2.2.map e_u8)⟩)], [], []⟩ .nil (by kernel_rfl) ?_
            refine Wk_seq ?_
            refine Wk_seq ?_
            refine WR [.nat (l.length : Int)] [1, 7, 8, 9, 10, 11, 13, 69] [8, 10, 11, 13] [65] [] [] [] ⟨[(1, .sl 1 (b.map e_u8)), (7, .sl 1 (x1.1.map e_u8)), (8, .ptr 8 0), (9, .sl 1 (x3.1.map e_str)), (10, .ptr 10 0), (11, .ptr 11 0), (13, .ptr 13 0), (69, .bool (decide (1000 < (l.length : Int))))], [(8, [.int .i64 v1.1.Code, .int .i64 v1.1.At]), (10, [.int .i64 v1.2.1.Code, .int .i64 v1.2.1.At]), (11, [.row 65 0]), (13, [.int .i64 0, .int .i64 0])], [(65, ⟨5, 1, 0, 0, 0, true, 0, [], (v1.2.2.map e_u8)⟩)], [], []⟩ (.cons (len_ok e_str l) .nil) (by kernel_rfl) ?_
            obtain ⟨v2, hv, hF⟩ := ob_elim hF
            refine Wk_meet (⟨[(1, .sl 1 (b.map e_u8)), (7, .sl 1 (x1.1.map e_u8)), (8, .ptr 8 0), (9, .sl 1 (x3.1.map e_str)), (10, .ptr 10 0), (11, .ptr 11 0), (13, .ptr 13 0)], [(8, [.int .i64 v2.1.Code, .int .i64 v2.1.At]), (10, [.int .i64 v2.2.1.Code, .int .i64 v2.2.1.At]), (11, [.row 65 0]), (13, [.int .i64 v2.2.2.Code, .int .i64 v2.2.2.At])], [(65, ⟨5, 1, 0, 0, 0, true, 0, [], (v1.2.2.map e_u8)⟩)], [], []⟩ : S) ?_ ?_
            · have hF := hv
              refine Wk_split rfl (fun hb => ?_) (fun hb => ?_)
              · have hF := ite_t hF hb
                obtain ⟨x4, h5, hF⟩ := lt_split hF
                refine WR [.callB (.agg [.int .i64 x4.Code, .int .i64 x4.At])] [1, 7, 8, 9, 10, 11, 13] [8, 10, 11, 13] [65] [] [] [] ⟨[(1, .sl 1 (b.map e_u8)), (7, .sl 1 (x1.1.map e_u8)), (8, .ptr 8 0), (9, .sl 1 (x3.1.map e_str)), (10, .ptr 10 0), (11, .ptr 11 0), (13, .ptr 13 0)], [(8, [.int .i64 v1.1.Code, .int .i64 v1.1.At]), (10, [.int .i64 v1.2.1.Code, .int .i64 v1.2.1.At]), (11, [.row 65 0]), (13, [.int .i64 x4.Code, .int .i64 x4.At])], [(65, ⟨5, 1, 0, 0, 0, true, 0, [], (v1.2.2.map e_u8)⟩)], [], []⟩ (.cons (R_F_ok 2 0 x4 h5) .nil) (by kernel_rfl) ?_
                exact Wk_met (fs := [1, 7, 8, 9, 10, 11, 13]) (bs := [8, 10, 11, 13]) (rs := [65]) (ms := []) (aa := []) (nv := []) (by first | (rw [← some_elim hF]; kernel_rfl) | kernel_rfl)
              · have hF := ite_f hF hb
                refine Wk_seq ?_
                refine WR [.nat (v1.2.2.length : Int)] [1, 7, 8, 9, 10, 11, 13, 73] [8, 10, 11, 13] [65] [] [] [] ⟨[(1, .sl 1 (b.map e_u8)), (7, .sl 1 (x1.1.map e_u8)), (8, .ptr 8 0), (9, .sl 1 (x3.1.map e_str)), (10, .ptr 10 0), (11, .ptr 11 0), (13, .ptr 13 0), (73, .bool (decide (60000 < (v1.2.2.length : Int))))], [(8, [.int .i64 v1.1.Code, .int .i64 v1.1.At]), (10, [.int .i64 v1.2.1.Code, .int .i64 v1.2.1.At]), (11, [.row 65 0]), (13, [.int .i64 0, .int .i64 0])], [(65, ⟨5, 1, 0, 0, 0, true, 0, [], (v1.2.2.map e_u8)⟩)], [], []⟩ (.cons (len_ok e_u8 v1.2.2) .nil) (by kernel_rfl) ?_
                refine Wk_split rfl (fun hb => ?_) (fun hb => ?_)
                · have hF := ite_t hF hb
                  obtain ⟨x5, h6, hF⟩ := lt_split hF
                  refine WR [.callB (.agg [.int .i64 x5.Code, .int .i64 x5.At])] [1, 7, 8, 9, 10, 11, 13] [8, 10, 11, 13] [65] [] [] [] ⟨[(1, .sl 1 (b.map e_u8)), (7, .sl 1 (x1.1.map e_u8)), (8, .ptr 8 0), (9, .sl 1 (x3.1.map e_str)), (10, .ptr 10 0), (11, .ptr 11 0), (13, .ptr 13 0)], [(8, [.int .i64 v1.1.Code, .int .i64 v1.1.At]), (10, [.int .i64 v1.2.1.Code, .int .i64 v1.2.1.At]), (11, [.row 65 0]), (13, [.int .i64 x5.Code, .int .i64 x5.At])], [(65, ⟨5, 1, 0, 0, 0, true, 0, [], (v1.2.2.map e_u8)⟩)], [], []⟩ (.cons (R_F_ok 9 0 x5 h6) .nil) (by kernel_rfl) ?_
                  exact Wk_met (fs := [1, 7, 8, 9, 10, 11, 13]) (bs := [8, 10, 11, 13]) (rs := [65]) (ms := []) (aa := []) (nv := []) (by first | (rw [← some_elim hF]; kernel_rfl) | kernel_rfl)
                · have hF := ite_f hF hb
                  refine Wk_skip ?_
                  exact Wk_met (fs := [1, 7, 8, 9, 10, 11, 13]) (bs := [8, 10, 11, 13]) (rs := [65]) (ms := []) (aa := []) (nv := []) (by first | (rw [← some_elim hF]; kernel_rfl) | kernel_rfl)
            · refine Wk_seq ?_
              refine Wk_seq ?_
              obtain ⟨x6, h7, hF⟩ := lt_split hF
              refine WR [.callR [11] [65] [] [] (.bool x6)] [1, 9, 10, 80] [10] [] [] [] [] ⟨[(1, .sl 1 (b.map e_u8)), (9, .sl 1 (x3.1.map e_str)), (10, .ptr 10 0), (80, .bool (!x6))], [(10, [.int .i64 v2.2.1.Code, .int .i64 v2.2.1.At])], [], [], []⟩ (.cons (Pe.ren (law_bytesAs_v1_ok x1.1 v2.1 v2.2.2 v1.2.2 0 0 true x6 h7) ⟨[(100000, 11)], [(100000, 65)], [], []⟩) .nil) (by kernel_rfl) ?_
              refine Wk_split rfl (fun hb => ?_) (fun hb => ?_)
              · have hF := ite_t hF hb
                refine Wk_seq ?_
                refine WR [] [4] [] [] [] [] [] ⟨[(4, .bool false)], [], [], [], []⟩ .nil (by kernel_rfl) ?_
                have hF := some_elim hF
                exact Wk_ret (hfin _ ⟨[], [], [], [], [], [], by first | (rw [← hF]; kernel_rfl) | kernel_rfl⟩)
              · have hF := ite_f hF hb
                refine Wk_skip ?_
                refine Wk_seq ?_
                refine Wk_seq ?_
                refine WR [.nat (b.length : Int)] [1, 9, 10, 83] [10] [] [] [] [] ⟨[(1, .sl 1 (b.map e_u8)), (9, .sl 1 (x3.1.map e_str)), (10, .ptr 10 0), (83, .bool (decide (60000 < (b.length : Int))))], [(10, [.int .i64 v2.2.1.Code, .int .i64 v2.2.1.At])], [], [], []⟩ (.cons (len_ok e_u8 b) .nil) (by kernel_rfl) ?_
                refine Wk_split rfl (fun hb => ?_) (fun hb => ?_)
                · have hF := ite_t hF hb
                  refine Wk_seq ?_
                  obtain ⟨x7, h8, hF⟩ := lt_split hF
                  refine WDL ((decide (v2.2.1.Code = x7.Code) && (decide (v2.2.1.At = x7.At) && true)) && (decide ((x3.1.length : Int) = 0))) (fun v3 : Bool => ⟨[(4, .bool v3)], [], [], [], []⟩) [.callB (.agg [.int .i64 x7.Code, .int .i64 x7.At]), .nat (x3.1.length : Int)] [4] [] [] [] [] [] (.cons (R_F_ok 8 0 x7 h8) (.cons (fun (_ : (decide (v2.2.1.Code = x7.Code) && (decide (v2.2.1.At = x7.At) && true)) = true) => (len_ok e_str x3.1)) .nil)) (by kernel_rfl) (fun v3 hv => ?_)
                  have hF := lt_elim hF hv
                  have hF := some_elim hF
                  exact Wk_ret (hfin _ ⟨[], [], [], [], [], [], by first | (rw [← hF]; kernel_rfl) | kernel_rfl⟩)
                · have hF := ite_f hF hb
                  refine Wk_skip ?_
                  refine Wk_seq ?_
                  obtain ⟨x8, h9, hF⟩ := ob_elim hF
                  refine WR [.call (.tup [.sl 1 (x8.1.map e_str), .int .i64 x8.2])] [9, 10, 14, 15] [10] [] [] [] [] ⟨[(9, .sl 1 (x3.1.map e_str)), (10, .ptr 10 0), (14, .sl 1 (x8.1.map e_str)), (15, .int .i64 x8.2)], [(10, [.int .i64 v2.2.1.Code, .int .i64 v2.2.1.At])], [], [], []⟩ (.cons (R_ReadWritten_v1_ok b x8 h9) .nil) (by kernel_rfl) ?_
                  refine Wk_seq ?_
                  refine Wk_seq ?_
                  refine WR [] [9, 10, 14, 15, 98] [10] [] [] [] [] ⟨[(9, .sl 1 (x3.1.map e_str)), (10, .ptr 10 0), (14, .sl 1 (x8.1.map e_str)), (15, .int .i64 x8.2), (98, .bool (decide (0 ≤ x8.2)))], [(10, [.int .i64 v2.2.1.Code, .int .i64 v2.2.1.At])], [], [], []⟩ .nil (by kernel_rfl) ?_
                  refine Wk_split rfl (fun hb => ?_) (fun hb => ?_)
                  · have hF := ite_t hF hb
                    refine Wk_seq ?_
                    obtain ⟨x9, h10, hF⟩ := lt_split hF
                    refine WDL ((decide (v2.2.1.Code = x9.Code) && (decide (v2.2.1.At = x9.At) && true)) && (decide ((x3.1.length : Int) = 0))) (fun v4 : Bool => ⟨[(4, .bool v4)], [], [], [], []⟩) [.callB (.agg [.int .i64 x9.Code, .int .i64 x9.At]), .nat (x3.1.length : Int)] [4] [] [] [] [] [] (.cons (R_F_ok 5 x8.2 x9 h10) (.cons (fun (_ : (decide (v2.2.1.Code = x9.Code) && (decide (v2.2.1.At = x9.At) && true)) = true) => (len_ok e_str x3.1)) .nil)) (by kernel_rfl) (fun v4 hv => ?_)
                    have hF := lt_elim hF hv
                    have hF := some_elim hF
                    exact Wk_ret (hfin _ ⟨[], [], [], [], [], [], by first | (rw [← hF]; kernel_rfl) | kernel_rfl⟩)
                  · have hF := ite_f hF hb
                    refine Wk_skip ?_
                    refine Wk_seq ?_
                    refine Wk_seq ?_
                    refine WR [.nat (x8.1.length : Int)] [9, 10, 14, 110] [10] [] [] [] [] ⟨[(9, .sl 1 (x3.1.map e_str)), (10, .ptr 10 0), (14, .sl 1 (x8.1.map e_str)), (110, .bool (decide (1000 < (x8.1.length : Int))))], [(10, [.int .i64 v2.2.1.Code, .int .i64 v2.2.1.At])], [], [], []⟩ (.cons (len_ok e_str x8.1) .nil) (by kernel_rfl) ?_
                    refine Wk_split rfl (fun hb => ?_) (fun hb => ?_)
                    · have hF := ite_t hF hb
                      refine Wk_seq ?_
                      obtain ⟨x10, h11, hF⟩ := lt_split hF
                      refine WDL ((decide (v2.2.1.Code = x10.Code) && (decide (v2.2.1.At = x10.At) && true)) && (decide ((x3.1.length : Int) = 0))) (fun v5 : Bool => ⟨[(4, .bool v5)], [], [], [], []⟩) [.callB (.agg [.int .i64 x10.Code, .int .i64 x10.At]), .nat (x3.1.length : Int)] [4] [] [] [] [] [] (.cons (R_F_ok 2 0 x10 h11) (.cons (fun (_ : (decide (v2.2.1.Code = x10.Code) && (decide (v2.2.1.At = x10.At) && true)) = true) => (len_ok e_str x3.1)) .nil)) (by kernel_rfl) (fun v5 hv => ?_)
                      have hF := lt_elim hF hv
                      have hF := some_elim hF
                      exact Wk_ret (hfin _ ⟨[], [], [], [], [], [], by first | (rw [← hF]; kernel_rfl) | kernel_rfl⟩)
                    · have hF := ite_f hF hb
                      refine Wk_skip ?_
                      refine Wk_seq ?_
                      obtain ⟨x11, h12, hF⟩ := ob_elim hF
                      refine WR [.callB (.bool x11)] [4] [] [] [] [] [] ⟨[(4, .bool ((decide (v2.2.1.Code = 0)) && x11))], [], [], [], []⟩ (.cons (fun (ga0 : (decide (v2.2.1.Code = 0)) = true) => (R_SameTexts_ok x3.1 x8.1 x11 (ite_t h12 ga0))) .nil) (by kernel_rfl) ?_
                      have hF := some_elim hF
                      exact Wk_ret (hfin _ ⟨[], [], [], [], [], [], by first | (rw [← hF]; kernel_rfl) | kernel_rfl⟩)

/- tabularylaw.WireBack -/
noncomputable def law_WireBack_J3 (b : List UInt8) (v2 : Fault) : Option Bool :=
  ob (wire_ReadTexts_v1 b) fun x4 =>
  if (!decide (x4.2.Code = 0)) = true then
    some true
  else
    ob (wire_Texts_v1 x4.1) fun x5 =>
    lt (R_Same x5.1 b) fun x6 =>
    some ((decide (x5.2.Code = 0)) && x6)
noncomputable def law_WireBack_J2 (b : List UInt8) (v1 : Fault) : Option Bool :=
  ob (wire_ReadNums_v1 b) fun x3 =>
  if (decide (x3.2.Code = 0)) = true then
    ob (wire_Nums_v1 x3.1) fun x7 =>
    lt (R_Same x7.1 b) fun x8 =>
    if ((!decide (x7.2.Code = 0)) || (!x8)) = true then
      some false
    else
      law_WireBack_J3 b x3.2
  else
    law_WireBack_J3 b x3.2
noncomputable def law_WireBack_J1 (t0 : List (List UInt8)) (b : List UInt8) (v : Fault) : Option Bool :=
  ob (wire_Texts_v1 t0) fun x2 =>
  if (decide (x2.2.Code = 0)) = true then
    ob (wire_ReadTexts_v1 x2.1) fun x9 =>
    ob (if (!(!decide (x9.2.Code = 0))) = true then (R_SameTexts x9.1 t0) else some default) fun x10 =>
    if ((!decide (x9.2.Code = 0)) || (!x10)) = true then
      some false
    else
      law_WireBack_J2 b x2.2
  else
    law_WireBack_J2 b x2.2
noncomputable def law_WireBack (l : List Int) (t0 : List (List UInt8)) (b : List UInt8) : Option Bool :=
  ob (law_wireBegun) fun x =>
  if (!x) = true then
    some false
  else
    ob (wire_Nums_v1 l) fun x1 =>
    if (decide (x1.2.Code = 0)) = true then
      ob (wire_ReadNums_v1 x1.1) fun x11 =>
      ob (if (!(!decide (x11.2.Code = 0))) = true then (R_Ints x11.1 l) else some default) fun x12 =>
      if ((!decide (x11.2.Code = 0)) || (!x12)) = true then
        some false
      else
        law_WireBack_J1 t0 b x1.2
    else
      law_WireBack_J1 t0 b x1.2
theorem law_WireBack_ok (l : List Int) (t0 : List (List UInt8)) (b : List UInt8) (r : Bool) (hF : law_WireBack l t0 b = some r) : Pe Try.prog 6 S.none [.sl 1 (l.map e_i64), .sl 1 (t0.map e_str), .sl 1 (b.map e_u8)] (.bool r) S.none := by
  refine Pe_of (N := 109) (res := [.tmp 6]) (ts := [4]) Ty.ok Fn.b6 Try.func6 rfl rfl rfl rfl rfl rfl ?_
  intro Q g hfin
  unfold law_WireBack at hF
  refine Wk_seq ?_
  refine WR [] [0, 1, 2] [] [] [] [] [] ⟨[(0, .sl 1 (l.map e_i64)), (1, .sl 1 (t0.map e_str)), (2, .sl 1 (b.map e_u8))], [], [], [], []⟩ .nil (by kernel_rfl) ?_
  refine Wk_seq ?_
  refine Wk_seq ?_
  obtain ⟨x, h0, hF⟩ := ob_elim hF
  refine WR [.callB (.bool x)] [0, 1, 2, 21] [] [] [] [] [] ⟨[(0, .sl 1 (l.map e_i64)), (1, .sl 1 (t0.map e_str)), (2, .sl 1 (b.map e_u8)), (21, .bool (!x))], [], [], [], []⟩ (.cons (law_wireBegun_ok  x h0) .nil) (by kernel_rfl) ?_
  refine Wk_split rfl (fun hb => ?_) (fun hb => ?_)
  · have hF := ite_t hF hb
    refine Wk_seq ?_
    refine WR [] [6] [] [] [] [] [] ⟨[(6, .bool false)], [], [], [], []⟩ .nil (by kernel_rfl) ?_
    have hF := some_elim hF
    exact Wk_ret (hfin _ ⟨[], [], [], [], [], [], by first | (rw [← hF]; kernel_rfl) | kernel_rfl⟩)
  · have hF := ite_f hF hb
    refine Wk_skip ?_
    refine Wk_seq ?_
    obtain ⟨x1, h1, hF⟩ := ob_elim hF
    refine WR [.call (.tup [.sl 1 (x1.1.map e_u8), .agg [.int .i64 x1.2.Code, .int .i64 x1.2.At]])] [0, 1, 2, 7, 8] [8] [] [] [] [] ⟨[(0, .sl 1 (l.map e_i64)), (1, .sl 1 (t0.map e_str)), (2, .sl 1 (b.map e_u8)), (7, .sl 1 (x1.1.map e_u8)), (8, .ptr 8 0)], [(8, [.int .i64 x1.2.Code, .int .i64 x1.2.At])], [], [], []⟩ (.cons (wire_Nums_v1_ok l x1 h1) .nil) (by kernel_rfl) ?_
    refine Wk_seq ?_
    refine Wk_seq ?_
    refine WR [] [0, 1, 2, 7, 8, 29] [8] [] [] [] [] ⟨[(0, .sl 1 (l.map e_i64)), (1, .sl 1 (t0.map e_str)), (2, .sl 1 (b.map e_u8)), (7, .sl 1 (x1.1.map e_u8)), (8, .ptr 8 0), (29, .bool (decide (x1.2.Code = 0)))], [(8, [.int .i64 x1.2.Code, .int .i64 x1.2.At])], [], [], []⟩ .nil (by kernel_rfl) ?_
    refine Wk_meetP (fun v : Fault => (⟨[(1, .sl 1 (t0.map e_str)), (2, .sl 1 (b.map e_u8)), (8, .ptr 8 0)], [(8, [.int .i64 v.Code, .int .i64 v.At])], [], [], []⟩ : S)) (fun v => law_WireBack_J1 t0 b v = some r) ?_ ?_
    · refine Wk_split rfl (fun hb => ?_) (fun hb => ?_)
      · have hF := ite_t hF hb
        refine Wk_seq ?_
        obtain ⟨x11, h11, hF⟩ := ob_elim hF
        refine WR [.call (.tup [.sl 1 (x11.1.map e_i64), .agg [.int .i64 x11.2.Code, .int .i64 x11.2.At]])] [0, 1, 2, 8, 9, 10] [8, 10] [] [] [] [] ⟨[(0, .sl 1 (l.map e_i64)), (1, .sl 1 (t0.map e_str)), (2, .sl 1 (b.map e_u8)), (8, .ptr 8 0), (9, .sl 1 (x11.1.map e_i64)), (10, .ptr 10 0)], [(8, [.int .i64 x1.2.Code, .int .i64 x1.2.At]), (10, [.int .i64 x11.2.Code, .int .i64 x11.2.At])], [], [], []⟩ (.cons (wire_ReadNums_v1_ok x1.1 x11 h11) .nil) (by kernel_rfl) ?_
        refine Wk_seq ?_
        obtain ⟨x12, h12, hF⟩ := ob_elim hF
        refine WR [.callB (.bool x12)] [1, 2, 8, 43] [8] [] [] [] [] ⟨[(1, .sl 1 (t0.map e_str)), (2, .sl 1 (b.map e_u8)), (8, .ptr 8 0), (43, .bool ((!decide (x11.2.Code = 0)) || (!x12)))], [(8, [.int .i64 x1.2.Code, .int .i64 x1.2.At])], [], [], []⟩ (.cons (fun (ga0 : (!(!decide (x11.2.Code = 0))) = true) => (R_Ints_ok x11.1 l x12 (ite_t h12 ga0))) .nil) (by kernel_rfl) ?_
        refine Wk_split rfl (fun hb => ?_) (fun hb => ?_)
        · have hF := ite_t hF hb
          refine Wk_seq ?_
          refine WR [] [6] [] [] [] [] [] ⟨[(6, .bool false)], [], [], [], []⟩ .nil (by kernel_rfl) ?_
          have hF := some_elim hF
          exact Wk_ret (hfin _ ⟨[], [], [], [], [], [], by first | (rw [← hF]; kernel_rfl) | kernel_rfl⟩)
        · have hF := ite_f hF hb
          refine Wk_skip ?_
          exact Wk_metP x1.2 [1, 2, 8] [8] [] [] [] [] hF (by kernel_rfl)
      · have hF := ite_f hF hb
        refine Wk_skip ?_
        exact Wk_metP x1.2 [1, 2, 8] [8] [] [] [] [] hF (by kernel_rfl)
    · intro v hF
      have hF : law_WireBack_J1 t0 b v = some r := hF
      unfold law_WireBack_J1 at hF
      refine Wk_seq ?_
      obtain ⟨x2, h2, hF⟩ := ob_elim hF
      refine WR [.call (.tup [.sl 1 (x2.1.map e_u8), .agg [.int .i64 x2.2.Code, .int .i64 x2.2.At]])] [1, 2, 8, 11] [8] [] [] [] [] ⟨[(1, .sl 1 (t0.map e_str)), (2, .sl 1 (b.map e_u8)), (8, .ptr 8 0), (11, .sl 1 (x2.1.map e_u8))], [(8, [.int .i64 x2.2.Code, .int .i64 x2.2.At])], [], [], []⟩ (.cons (wire_Texts_v1_ok t0 x2 h2) .nil) (by kernel_rfl) ?_
      refine Wk_seq ?_
      refine Wk_seq ?_
      refine WR [] [1, 2, 8, 11, 51] [8] [] [] [] [] ⟨[(1, .sl 1 (t0.map e_str)), (2, .sl 1 (b.map e_u8)), (8, .ptr 8 0), (11, .sl 1 (x2.1.map e_u8)), (51, .bool (decide (x2.2.Code = 0)))], [(8, [.int .i64 x2.2.Code, .int .i64 x2.2.At])], [], [], []⟩ .nil (by kernel_rfl) ?_
      refine Wk_meetP (fun v1 : Fault => (⟨[(2, .sl 1 (b.map e_u8)), (8, .ptr 8 0)], [(8, [.int .i64 v1.Code, .int .i64 v1.At])], [], [], []⟩ : S)) (fun v1 => law_WireBack_J2 b v1 = some r) ?_ ?_
      · refine Wk_split rfl (fun hb => ?_) (fun hb => ?_)
        · have hF := ite_t hF hb
          refine Wk_seq ?_
          obtain ⟨x9, h9, hF⟩ := ob_elim hF
          refine WR [.call (.tup [.sl 1 (x9.1.map e_str), .agg [.int .i64 x9.2.Code, .int .i64 x9.2.At]])] [1, 2, 8, 12, 13] [8, 13] [] [] [] [] ⟨[(1, .sl 1 (t0.map e_str)), (2, .sl 1 (b.map e_u8)), (8, .ptr 8 0), (12, .sl 1 (x9.1.map e_str)), (13, .ptr 13 0)], [(8, [.int .i64 x2.2.Code, .int .i64 x2.2.At]), (13, [.int .i64 x9.2.Code, .int .i64 x9.2.At])], [], [], []⟩ (.cons (wire_ReadTexts_v1_ok x2.1 x9 h9) .nil) (by kernel_rfl) ?_
          refine Wk_seq ?_
          obtain ⟨x10, h10, hF⟩ := ob_elim hF
          refine WR [.callB (.bool x10)] [2, 8, 65] [8] [] [] [] [] ⟨[(2, .sl 1 (b.map e_u8)), (8, .ptr 8 0), (65, .bool ((!decide (x9.2.Code = 0)) || (!x10)))], [(8, [.int .i64 x2.2.Code, .int .i64 x2.2.At])], [], [], []⟩ (.cons (fun (ga0 : (!(!decide (x9.2.Code = 0))) = true) => (R_SameTexts_ok x9.1 t0 x10 (ite_t h10 ga0))) .nil) (by kernel_rfl) ?_
          refine Wk_split rfl (fun hb => ?_) (fun hb => ?_)
          · have hF := ite_t hF hb
            refine Wk_seq ?_
            refine WR [] [6] [] [] [] [] [] ⟨[(6, .bool false)], [], [], [], []⟩ .nil (by kernel_rfl) ?_
            have hF := some_elim hF
            exact Wk_ret (hfin _ ⟨[], [], [], [], [], [], by first | (rw [← hF]; kernel_rfl) | kernel_rfl⟩)
          · have hF := ite_f hF hb
            refine Wk_skip ?_
            exact Wk_metP x2.2 [2, 8] [8] [] [] [] [] hF (by kernel_rfl)
        · have hF := ite_f hF hb
          refine Wk_skip ?_
          exact Wk_metP x2.2 [2, 8] [8] [] [] [] [] hF (by kernel_rfl)
      · intro v1 hF
        have hF : law_WireBack_J2 b v1 = some r := hF
        unfold law_WireBack_J2 at hF
        refine Wk_seq ?_
        obtain ⟨x3, h3, hF⟩ := ob_elim hF
        refine WR [.call (.tup [.sl 1 (x3.1.map e_i64), .agg [.int .i64 x3.2.Code, .int .i64 x3.2.At]])] [2, 8, 14] [8] [] [] [] [] ⟨[(2, .sl 1 (b.map e_u8)), (8, .ptr 8 0), (14, .sl 1 (x3.1.map e_i64))], [(8, [.int .i64 x3.2.Code, .int .i64 x3.2.At])], [], [], []⟩ (.cons (wire_ReadNums_v1_ok b x3 h3) .nil) (by kernel_rfl) ?_
        refine Wk_seq ?_
        refine Wk_seq ?_
        refine WR [] [2, 8, 14, 73] [8] [] [] [] [] ⟨[(2, .sl 1 (b.map e_u8)), (8, .ptr 8 0), (14, .sl 1 (x3.1.map e_i64)), (73, .bool (decide (x3.2.Code = 0)))], [(8, [.int .i64 x3.2.Code, .int .i64 x3.2.At])], [], [], []⟩ .nil (by kernel_rfl) ?_
        refine Wk_meetP (fun v2 : Fault => (⟨[(2, .sl 1 (b.map e_u8)), (8, .ptr 8 0)], [(8, [.int .i64 v2.Code, .int .i64 v2.At])], [], [], []⟩ : S)) (fun v2 => law_WireBack_J3 b v2 = some r) ?_ ?_
        · refine Wk_split rfl (fun hb => ?_) (fun hb => ?_)
          · have hF := ite_t hF hb
            refine Wk_seq ?_
            obtain ⟨x7, h7, hF⟩ := ob_elim hF
            refine WR [.call (.tup [.sl 1 (x7.1.map e_u8), .agg [.int .i64 x7.2.Code, .int .i64 x7.2.At]])] [2, 8, 15, 16] [8, 16] [] [] [] [] ⟨[(2, .sl 1 (b.map e_u8)), (8, .ptr 8 0), (15, .sl 1 (x7.1.map e_u8)), (16, .ptr 16 0)], [(8, [.int .i64 x3.2.Code, .int .i64 x3.2.At]), (16, [.int .i64 x7.2.Code, .int .i64 x7.2.At])], [], [], []⟩ (.cons (wire_Nums_v1_ok x3.1 x7 h7) .nil) (by kernel_rfl) ?_
            refine Wk_seq ?_
            obtain ⟨x8, h8, hF⟩ := lt_split hF
            refine WR [.callB (.bool x8)] [2, 8, 87] [8] [] [] [] [] ⟨[(2, .sl 1 (b.map e_u8)), (8, .ptr 8 0), (87, .bool ((!decide (x7.2.Code = 0)) || (!x8)))], [(8, [.int .i64 x3.2.Code, .int .i64 x3.2.At])], [], [], []⟩ (.cons (fun (ga0 : (!(!decide (x7.2.Code = 0))) = true) => (R_Same_ok x7.1 b x8 h8)) .nil) (by kernel_rfl) ?_
            refine Wk_split rfl (fun hb => ?_) (fun hb => ?_)
            · have hF := ite_t hF hb
              refine Wk_seq ?_
              refine WR [] [6] [] [] [] [] [] ⟨[(6, .bool false)], [], [], [], []⟩ .nil (by kernel_rfl) ?_
              have hF := some_elim hF
              exact Wk_ret (hfin _ ⟨[], [], [], [], [], [], by first | (rw [← hF]; kernel_rfl) | kernel_rfl⟩)
            · have hF := ite_f hF hb
              refine Wk_skip ?_
              exact Wk_metP x3.2 [2, 8] [8] [] [] [] [] hF (by kernel_rfl)
          · have hF := ite_f hF hb
            refine Wk_skip ?_
            exact Wk_metP x3.2 [2, 8] [8] [] [] [] [] hF (by kernel_rfl)
        · intro v2 hF
          have hF : law_WireBack_J3 b v2 = some r := hF
          unfold law_WireBack_J3 at hF
          refine Wk_seq ?_
          obtain ⟨x4, h4, hF⟩ := ob_elim hF
          refine WR [.call (.tup [.sl 1 (x4.1.map e_str), .agg [.int .i64 x4.2.Code, .int .i64 x4.2.At]])] [2, 8, 17] [8] [] [] [] [] ⟨[(2, .sl 1 (b.map e_u8)), (8, .ptr 8 0), (17, .sl 1 (x4.1.map e_str))], [(8, [.int .i64 x4.2.Code, .int .i64 x4.2.At])], [], [], []⟩ (.cons (wire_ReadTexts_v1_ok b x4 h4) .nil) (by kernel_rfl) ?_
          refine Wk_seq ?_
          refine Wk_seq ?_
          refine WR [] [2, 17, 95] [] [] [] [] [] ⟨[(2, .sl 1 (b.map e_u8)), (17, .sl 1 (x4.1.map e_str)), (95, .bool (!decide (x4.2.Code = 0)))], [], [], [], []⟩ .nil (by kernel_rfl) ?_
          refine Wk_split rfl (fun hb => ?_) (fun hb => ?_)
          · have hF := ite_t hF hb
            refine Wk_seq ?_
            refine WR [] [6] [] [] [] [] [] ⟨[(6, .bool true)], [], [], [], []⟩ .nil (by kernel_rfl) ?_
            have hF := some_elim hF
            exact Wk_ret (hfin _ ⟨[], [], [], [], [], [], by first | (rw [← hF]; kernel_rfl) | kernel_rfl⟩)
          · have hF := ite_f hF hb
            refine Wk_skip ?_
            refine Wk_seq ?_
            obtain ⟨x5, h5, hF⟩ := ob_elim hF
            refine WR [.call (.tup [.sl 1 (x5.1.map e_u8), .agg [.int .i64 x5.2.Code, .int .i64 x5.2.At]])] [2, 18, 19] [19] [] [] [] [] ⟨[(2, .sl 1 (b.map e_u8)), (18, .sl 1 (x5.1.map e_u8)), (19, .ptr 19 0)], [(19, [.int .i64 x5.2.Code, .int .i64 x5.2.At])], [], [], []⟩ (.cons (wire_Texts_v1_ok x4.1 x5 h5) .nil) (by kernel_rfl) ?_
            refine Wk_seq ?_
            obtain ⟨x6, h6, hF⟩ := lt_split hF
            refine WR [.callB (.bool x6)] [6] [] [] [] [] [] ⟨[(6, .bool ((decide (x5.2.Code = 0)) && x6))], [], [], [], []⟩ (.cons (fun (ga0 : (decide (x5.2.Code = 0)) = true) => (R_Same_ok x5.1 b x6 h6)) .nil) (by kernel_rfl) ?_
            have hF := some_elim hF
            exact Wk_ret (hfin _ ⟨[], [], [], [], [], [], by first | (rw [← hF]; kernel_rfl) | kernel_rfl⟩)

/- wire.Crc -/
noncomputable def wire_Crc_J1 (v : Int) : Option Int :=
  lt (bitsOp .xor .u32 (if IntKind.signed .u32 = true then -1 else IntKind.max .u32) v) fun (v1 : Int) =>
  some v1
noncomputable def wire_Crc_J2 (v2 : Int × Int) (v3 : Int) : Option ((Int × Int) ⊕ Int) :=
  some (Sum.inl (v3, w64 (v2.2 + 1)))
noncomputable def wire_Crc_B2 (v2 : Int × Int) (v4 : Int × Int) : Option ((Int × Int) ⊕ ((Int × Int) ⊕ Int)) :=
  if (decide (v4.2 < 8)) = true then
    ob (
      if (decide ((bitsOp .and .u32 v4.1 1) = 1)) = true then
        lt (bitsOp .xor .u32 (Int.fdiv v4.1 (2 ^ (min (1 : Int).toNat 32))) 3988292384) fun (v6 : Int) =>
        some v6
      else
        some (Int.fdiv v4.1 (2 ^ (min (1 : Int).toNat 32)))) fun (v5 : Int) =>
    some (Sum.inl (v5, w64 (v4.2 + 1)))
  else
    inrO (wire_Crc_J2 v2 v4.1)
noncomputable def wire_Crc_L2 (v2 : Int × Int) (v0 : Int × Int) : Option ((Int × Int) ⊕ Int) :=
  loopO (fun y => wire_Crc_B2 v2 y) v0
noncomputable def wire_Crc_B1 (b : List UInt8) (v2 : Int × Int) : Option ((Int × Int) ⊕ Int) :=
  if (decide (v2.2 < (b.length : Int))) = true then
    asrt (0 ≤ v2.2 ∧ v2.2 < (b.length : Int)) <|
    wire_Crc_L2 v2 (bitsOp .xor .u32 v2.1 (IntKind.u32.wrap ((lget b v2.2).toNat : Int)), 0)
  else
    inrO (wire_Crc_J1 v2.1)
noncomputable def wire_Crc_L1 (b : List UInt8) (v0 : Int × Int) : Option Int :=
  loopO (fun y => wire_Crc_B1 b y) v0
noncomputable def wire_Crc (b : List UInt8) : Option Int :=
  wire_Crc_L1 b (4294967295, 0)
theorem wire_Crc_ok (b : List UInt8) (r : Int) (hF : wire_Crc b = some r) : Pe Try.prog 68 S.none [.sl 1 (b.map e_u8)] (.int .u32 r) S.none := by
  refine Pe_of (N := 31) (res := [.tmp 2]) (ts := [65]) Ty.ok Fn.b68 Try.func68 rfl rfl rfl rfl rfl rfl ?_
  intro Q g hfin
  unfold wire_Crc at hF
  refine Wk_seq ?_
  refine WR [] [0] [] [] [] [] [] ⟨[(0, .sl 1 (b.map e_u8))], [], [], [], []⟩ .nil (by kernel_rfl) ?_
  refine Wk_seq ?_
  refine WR [] [0, 3] [] [] [] [] [] ⟨[(0, .sl 1 (b.map e_u8)), (3, .int .u32 4294967295)], [], [], [], []⟩ .nil (by kernel_rfl) ?_
  refine Wk_seq ?_
  refine Wk_seq ?_
  refine WR [.nat (b.length : Int)] [3, 7, 8, 9] [] [] [] [] [] ⟨[(3, .int .u32 4294967295), (7, .sl 1 (b.map e_u8)), (8, .int .i64 (b.length : Int)), (9, .int .i64 0)], [], [], [], []⟩ (.cons (len_ok e_u8 b) .nil) (by kernel_rfl) ?_
  refine Wk_meetP (fun v : Int => (⟨[(3, .int .u32 v)], [], [], [], []⟩ : S)) (fun v => wire_Crc_J1 v = some r) ?_ ?_
  · refine Wk_block ?_
    unfold wire_Crc_L1 at hF
    refine Wk_trim (fs := [3, 7, 8, 9]) (bs := []) (rs := []) (ms := []) (aa := []) (nv := []) (t := (fun v2 : Int × Int => (⟨[(3, .int .u32 v2.1), (7, .sl 1 (b.map e_u8)), (8, .int .i64 (b.length : Int)), (9, .int .i64 v2.2)], [], [], [], []⟩ : S)) (4294967295, 0)) (by kernel_rfl) ?_
    refine Wk_iter (step := fun y => wire_Crc_B1 b y) (r := r) (fun v2 : Int × Int => (⟨[(3, .int .u32 v2.1), (7, .sl 1 (b.map e_u8)), (8, .int .i64 (b.length : Int)), (9, .int .i64 v2.2)], [], [], [], []⟩ : S)) (4294967295, 0) hF ?_
    intro n1 v2 y1 hF ih1 dn1
    have hF : wire_Crc_B1 b v2 = some y1 := hF
    unfold wire_Crc_B1 at hF
    refine Wk_seq ?_
    refine WR [] [3, 7, 8, 9, 10] [] [] [] [] [] ⟨[(3, .int .u32 v2.1), (7, .sl 1 (b.map e_u8)), (8, .int .i64 (b.length : Int)), (9, .int .i64 v2.2), (10, .bool (decide (v2.2 < (b.length : Int))))], [], [], [], []⟩ .nil (by kernel_rfl) ?_
    refine Wk_seq ?_
    refine Wk_split rfl (fun hb => ?_) (fun hb => ?_)
    · have hF := ite_t hF hb
      refine Wk_skip ?_
      refine Wk_seq ?_
      refine Wk_block ?_
      refine Wk_seq ?_
      obtain ⟨h0, hF⟩ := asrt_elim hF
      refine WR [.av (e_u8 (lget b v2.2))] [3, 5, 7, 8, 9] [] [] [] [] [] ⟨[(3, .int .u32 v2.1), (5, .int .u8 (((lget b v2.2)).toNat : Int)), (7, .sl 1 (b.map e_u8)), (8, .int .i64 (b.length : Int)), (9, .int .i64 v2.2)], [], [], [], []⟩ (.cons (idx_ok e_u8 h0) .nil) (by kernel_rfl) ?_
      refine Wk_seq ?_
      refine WR [] [3, 7, 8, 9] [] [] [] [] [] ⟨[(3, .int .u32 (bitsOp .xor .u32 v2.1 (IntKind.u32.wrap ((lget b v2.2).toNat : Int)))), (7, .sl 1 (b.map e_u8)), (8, .int .i64 (b.length : Int)), (9, .int .i64 v2.2)], [], [], [], []⟩ .nil (by kernel_rfl) ?_
      refine Wk_seq ?_
      refine WR [] [3, 7, 8, 9, 17] [] [] [] [] [] ⟨[(3, .int .u32 (bitsOp .xor .u32 v2.1 (IntKind.u32.wrap ((lget b v2.2).toNat : Int)))), (7, .sl 1 (b.map e_u8)), (8, .int .i64 (b.length : Int)), (9, .int .i64 v2.2), (17, .int .i64 0)], [], [], [], []⟩ .nil (by kernel_rfl) ?_
      refine Wk_meetP (fun v3 : Int => (⟨[(3, .int .u32 v3), (7, .sl 1 (b.map e_u8)), (8, .int .i64 (b.length : Int)), (9, .int .i64 v2.2)], [], [], [], []⟩ : S)) (fun v3 => wire_Crc_J2 v2 v3 = some y1) ?_ ?_
      · refine Wk_block ?_
        unfold wire_Crc_L2 at hF
        refine Wk_trim (fs := [3, 7, 8, 9, 17]) (bs := []) (rs := []) (ms := []) (aa := []) (nv := []) (t := (fun v4 : Int × Int => (⟨[(3, .int .u32 v4.1), (7, .sl 1 (b.map e_u8)), (8, .int .i64 (b.length : Int)), (9, .int .i64 v2.2), (17, .int .i64 v4.2)], [], [], [], []⟩ : S)) (bitsOp .xor .u32 v2.1 (IntKind.u32.wrap ((lget b v2.2).toNat : Int)), 0)) (by kernel_rfl) ?_
        refine Wk_iter (step := fun y => wire_Crc_B2 v2 y) (r := y1) (fun v4 : Int × Int => (⟨[(3, .int .u32 v4.1), (7, .sl 1 (b.map e_u8)), (8, .int .i64 (b.length : Int)), (9, .int .i64 v2.2), (17, .int .i64 v4.2)], [], [], [], []⟩ : S)) (bitsOp .xor .u32 v2.1 (IntKind.u32.wrap ((lget b v2.2).toNat : Int)), 0) hF ?_
        intro n2 v4 y2 hF ih2 dn2
        have hF : wire_Crc_B2 v2 v4 = some y2 := hF
        unfold wire_Crc_B2 at hF
        refine Wk_seq ?_
        refine WR [] [3, 7, 8, 9, 17, 18] [] [] [] [] [] ⟨[(3, .int .u32 v4.1), (7, .sl 1 (b.map e_u8)), (8, .int .i64 (b.length : Int)), (9, .int .i64 v2.2), (17, .int .i64 v4.2), (18, .bool (decide (v4.2 < 8)))], [], [], [], []⟩ .nil (by kernel_rfl) ?_
        refine Wk_seq ?_
        refine Wk_split rfl (fun hb => ?_) (fun hb => ?_)
        · have hF := ite_t hF hb
          refine Wk_skip ?_
          refine Wk_seq ?_
          refine Wk_block ?_
          refine Wk_seq ?_
          refine WR [] [3, 6, 7, 8, 9, 17] [] [] [] [] [] ⟨[(3, .int .u32 v4.1), (6, .int .u32 (bitsOp .and .u32 v4.1 1)), (7, .sl 1 (b.map e_u8)), (8, .int .i64 (b.length : Int)), (9, .int .i64 v2.2), (17, .int .i64 v4.2)], [], [], [], []⟩ .nil (by kernel_rfl) ?_
          refine Wk_seq ?_
          refine WR [] [3, 6, 7, 8, 9, 17] [] [] [] [] [] ⟨[(3, .int .u32 (Int.fdiv v4.1 (2 ^ (min (1 : Int).toNat 32)))), (6, .int .u32 (bitsOp .and .u32 v4.1 1)), (7, .sl 1 (b.map e_u8)), (8, .int .i64 (b.length : Int)), (9, .int .i64 v2.2), (17, .int .i64 v4.2)], [], [], [], []⟩ (.cons (by decide : (0 : Int) ≤ 1) .nil) (by kernel_rfl) ?_
          refine Wk_seq ?_
          refine WR [] [3, 7, 8, 9, 17, 24] [] [] [] [] [] ⟨[(3, .int .u32 (Int.fdiv v4.1 (2 ^ (min (1 : Int).toNat 32)))), (7, .sl 1 (b.map e_u8)), (8, .int .i64 (b.length : Int)), (9, .int .i64 v2.2), (17, .int .i64 v4.2), (24, .bool (decide ((bitsOp .and .u32 v4.1 1) = 1)))], [], [], [], []⟩ .nil (by kernel_rfl) ?_
          obtain ⟨v5, hv, hF⟩ := ob_elim hF
          refine Wk_meet (⟨[(3, .int .u32 v5), (7, .sl 1 (b.map e_u8)), (8, .int .i64 (b.length : Int)), (9, .int .i64 v2.2), (17, .int .i64 v4.2)], [], [], [], []⟩ : S) ?_ ?_
          · have hF := hv
            refine Wk_split rfl (fun hb => ?_) (fun hb => ?_)
            · have hF := ite_t hF hb
              refine WRL (bitsOp .xor .u32 (Int.fdiv v4.1 (2 ^ (min (1 : Int).toNat 32))) 3988292384) (fun v6 : Int => ⟨[(3, .int .u32 v6), (7, .sl 1 (b.map e_u8)), (8, .int .i64 (b.length : Int)), (9, .int .i64 v2.2), (17, .int .i64 v4.2)], [], [], [], []⟩) [] [3, 7, 8, 9, 17] [] [] [] [] [] .nil (by kernel_rfl) (fun v6 hv => ?_)
              have hF := lt_elim hF hv
              exact Wk_met (fs := [3, 7, 8, 9, 17]) (bs := []) (rs := []) (ms := []) (aa := []) (nv := []) (by first | (rw [← some_elim hF]; kernel_rfl) | kernel_rfl)
            · have hF := ite_f hF hb
              refine Wk_skip ?_
              exact Wk_met (fs := [3, 7, 8, 9, 17]) (bs := []) (rs := []) (ms := []) (aa := []) (nv := []) (by first | (rw [← some_elim hF]; kernel_rfl) | kernel_rfl)
          · refine Wk_blk ?_
            refine WR [] [3, 7, 8, 9, 17] [] [] [] [] [] ⟨[(3, .int .u32 v5), (7, .sl 1 (b.map e_u8)), (8, .int .i64 (b.length : Int)), (9, .int .i64 v2.2), (17, .int .i64 (w64 (v4.2 + 1)))], [], [], [], []⟩ .nil (by kernel_rfl) ?_
            refine Wk_trim (fs := [3, 7, 8, 9, 17]) (bs := []) (rs := []) (ms := []) (aa := []) (nv := []) ?_ (ih2 _ (some_elim hF).symm)
            kernel_rfl
        · have hF := ite_f hF hb
          refine Wk_exit rfl ?_
          have hF := inrO_done hF dn2
          exact Wk_metP v4.1 [3, 7, 8, 9] [] [] [] [] [] hF (by kernel_rfl)
      · intro v3 hF
        have hF : wire_Crc_J2 v2 v3 = some y1 := hF
        unfold wire_Crc_J2 at hF
        refine Wk_blk ?_
        refine WR [] [3, 7, 8, 9] [] [] [] [] [] ⟨[(3, .int .u32 v3), (7, .sl 1 (b.map e_u8)), (8, .int .i64 (b.length : Int)), (9, .int .i64 (w64 (v2.2 + 1)))], [], [], [], []⟩ .nil (by kernel_rfl) ?_
        refine Wk_trim (fs := [3, 7, 8, 9]) (bs := []) (rs := []) (ms := []) (aa := []) (nv := []) ?_ (ih1 _ (some_elim hF).symm)
        kernel_rfl
    · have hF := ite_f hF hb
      refine Wk_exit rfl ?_
      have hF := inrO_done hF dn1
      exact Wk_metP v2.1 [3] [] [] [] [] [] hF (by kernel_rfl)
  · intro v hF
    have hF : wire_Crc_J1 v = some r := hF
    unfold wire_Crc_J1 at hF
    refine Wk_seq ?_
    refine WRL (bitsOp .xor .u32 (if IntKind.signed .u32 = true then -1 else IntKind.max .u32) v) (fun v1 : Int => ⟨[(2, .int .u32 v1)], [], [], [], []⟩) [] [2] [] [] [] [] [] .nil (by kernel_rfl) (fun v1 hv => ?_)
    have hF := lt_elim hF hv
    have hF := some_elim hF
    exact Wk_ret (hfin _ ⟨[], [], [], [], [], [], by first | (rw [← hF]; kernel_rfl) | kernel_rfl⟩)

/- wire.AddFrame -/
noncomputable def wire_AddFrame_v2 (body : List UInt8) (row : List UInt8) : Option (List UInt8) :=
  asrt (((row ++ ([toU8 (Int.fdiv (body.length : Int) (2 ^ (min (8 : Int).toNat 64))), toU8 (body.length : Int)] : List UInt8)).length : Int) * 1 ≤ 140737488351232) <|
  lt ((row ++ ([toU8 (Int.fdiv (body.length : Int) (2 ^ (min (8 : Int).toNat 64))), toU8 (body.length : Int)] : List UInt8))) fun (v : List UInt8) =>
  asrt (((v ++ body).length : Int) * 1 ≤ 140737488351232) <|
  asrt (0 ≤ (row.length : Int) ∧ (row.length : Int) ≤ ((v ++ body).length : Int)) <|
  ob (wire_Crc (ldrop (v ++ body) (row.length : Int))) fun x =>
  asrt ((((v ++ body) ++ ([toU8 (Int.fdiv x (2 ^ (min (24 : Int).toNat 32))), toU8 (Int.fdiv x (2 ^ (min (16 : Int).toNat 32))), toU8 (Int.fdiv x (2 ^ (min (8 : Int).toNat 32))), toU8 x] : List UInt8)).length : Int) * 1 ≤ 140737488351232) <|
  lt (((v ++ body) ++ ([toU8 (Int.fdiv x (2 ^ (min (24 : Int).toNat 32))), toU8 (Int.fdiv x (2 ^ (min (16 : Int).toNat 32))), toU8 (Int.fdiv x (2 ^ (min (8 : Int).toNat 32))), toU8 x] : List UInt8))) fun (v1 : List UInt8) =>
  some v1
theorem wire_AddFrame_v2_ok (body : List UInt8) (row : List UInt8) (rk : Nat) (rc : Nat) (rn : Bool) (r : List UInt8) (hF : wire_AddFrame_v2 body row = some r) : Pe Try.prog 66 ⟨[], [], [(100000, ⟨5, 1, 0, rk, rc, rn, 0, [], (row.map e_u8)⟩)], [], []⟩ [.row 100000 0, .sl 1 (body.map e_u8)] (.row 100000 3) ⟨[], [], [(100000, ⟨5, 1, 3, (r.map e_u8).length, rc, rn, 0, [], (r.map e_u8)⟩)], [], []⟩ := by
  refine Pe_of (N := 40) (res := [.tmp 4]) (ts := [23]) Ty.ok Fn.b66 Try.func66 rfl rfl rfl rfl rfl rfl ?_
  intro Q g hfin
  unfold wire_AddFrame_v2 at hF
  refine Wk_seq ?_
  refine WR [] [0, 1] [] [100000] [] [] [] ⟨[(0, .row 100000 0), (1, .sl 1 (body.map e_u8))], [], [(100000, ⟨5, 1, 0, rk, rc, rn, 0, [], (row.map e_u8)⟩)], [], []⟩ .nil (by kernel_rfl) ?_
  refine Wk_seq ?_
  refine WR [.nat (row.length : Int)] [0, 1, 5] [] [100000] [] [] [] ⟨[(0, .row 100000 0), (1, .sl 1 (body.map e_u8)), (5, .int .i64 (row.length : Int))], [], [(100000, ⟨5, 1, 0, rk, rc, rn, 0, [], (row.map e_u8)⟩)], [], []⟩ (.cons (len_ok e_u8 row) .nil) (by kernel_rfl) ?_
  refine Wk_seq ?_
  obtain ⟨h0, hF⟩ := asrt_elim hF
  refine WRL ((row ++ ([toU8 (Int.fdiv (body.length : Int) (2 ^ (min (8 : Int).toNat 64))), toU8 (body.length : Int)] : List UInt8))) (fun v : List UInt8 => ⟨[(0, .row 100000 1), (1, .sl 1 (body.map e_u8)), (5, .int .i64 (row.length : Int))], [], [(100000, ⟨5, 1, 1, rk, rc, rn, 0, [], (v.map e_u8)⟩)], [], []⟩) [.nat (body.length : Int), .nat (body.length : Int), .sealed, .xs ((row ++ ([toU8 (Int.fdiv (body.length : Int) (2 ^ (min (8 : Int).toNat 64))), toU8 (body.length : Int)] : List UInt8)).map e_u8)] [0, 1, 5] [] [100000] [] [] [] (.cons (len_ok e_u8 body) (.cons (by decide : (0 : Int) ≤ 8) (.cons (len_ok e_u8 body) (.cons (app_ok e_u8 row ([toU8 (Int.fdiv (body.length : Int) (2 ^ (min (8 : Int).toNat 64))), toU8 (body.length : Int)] : List UInt8)) (.cons (appl_ok e_u8 h0) .nil))))) (by kernel_rfl) (fun v hv => ?_)
  have hF := lt_elim hF hv
  refine Wk_seq ?_
  obtain ⟨h1, hF⟩ := asrt_elim hF
  refine WR [.xs ((v ++ body).map e_u8)] [0, 5] [] [100000] [] [] [] ⟨[(0, .row 100000 2), (5, .int .i64 (row.length : Int))], [], [(100000, ⟨5, 1, 2, rk, rc, rn, 0, [], ((v ++ body).map e_u8)⟩)], [], []⟩ (.cons (app_ok e_u8 v body) (.cons (appl_ok e_u8 h1) .nil)) (by kernel_rfl) ?_
  refine Wk_seq ?_
  obtain ⟨h2, hF⟩ := asrt_elim hF
  obtain ⟨x, h3, hF⟩ := ob_elim hF
  refine WR [.xs ((ldrop (v ++ body) (row.length : Int)).map e_u8), .callB (.int .u32 x)] [0, 6] [] [100000] [] [] [] ⟨[(0, .row 100000 2), (6, .int .u32 x)], [], [(100000, ⟨5, 1, 2, ((v ++ body).map e_u8).length, rc, rn, 0, [], ((v ++ body).map e_u8)⟩)], [], []⟩ (.cons (sl10_ok e_u8 h2) (.cons (wire_Crc_ok (ldrop (v ++ body) (row.length : Int)) x h3) .nil)) (by kernel_rfl) ?_
  refine Wk_seq ?_
  obtain ⟨h4, hF⟩ := asrt_elim hF
  refine WRL (((v ++ body) ++ ([toU8 (Int.fdiv x (2 ^ (min (24 : Int).toNat 32))), toU8 (Int.fdiv x (2 ^ (min (16 : Int).toNat 32))), toU8 (Int.fdiv x (2 ^ (min (8 : Int).toNat 32))), toU8 x] : List UInt8))) (fun v1 : List UInt8 => ⟨[(4, .row 100000 3)], [], [(100000, ⟨5, 1, 3, ((v ++ body).map e_u8).length, rc, rn, 0, [], (v1.map e_u8)⟩)], [], []⟩) [.sealed, .xs (((v ++ body) ++ ([toU8 (Int.fdiv x (2 ^ (min (24 : Int).toNat 32))), toU8 (Int.fdiv x (2 ^ (min (16 : Int).toNat 32))), toU8 (Int.fdiv x (2 ^ (min (8 : Int).toNat 32))), toU8 x] : List UInt8)).map e_u8)] [4] [] [100000] [] [] [] (.cons (by decide : (0 : Int) ≤ 24) (.cons (by decide : (0 : Int) ≤ 16) (.cons (by decide : (0 : Int) ≤ 8) (.cons (app_ok e_u8 (v ++ body) ([toU8 (Int.fdiv x (2 ^ (min (24 : Int).toNat 32))), toU8 (Int.fdiv x (2 ^ (min (16 : Int).toNat 32))), toU8 (Int.fdiv x (2 ^ (min (8 : Int).toNat 32))), toU8 x] : List UInt8)) (.cons (appl_ok e_u8 h4) .nil))))) (by kernel_rfl) (fun v1 hv => ?_)
  have hF := lt_elim hF hv
  have hF := some_elim hF
  exact Wk_ret (hfin _ ⟨[100000], [], [100000], [], [], [(100000, ⟨3, true, true, true⟩)], by first | (rw [← hF]; kernel_rfl) | kernel_rfl⟩)

/- wire.Frames -/
noncomputable def wire_Frames_J1 (v : Fault × List UInt8) : Option (List UInt8 × Fault) :=
  some (v.2, (⟨0, 0⟩ : Fault))
noncomputable def wire_Frames_B1 (bodies : List (List UInt8)) (v1 : Fault × List UInt8 × Int) : Option ((Fault × List UInt8 × Int) ⊕ (List UInt8 × Fault)) :=
  if (decide (v1.2.2 < (bodies.length : Int))) = true then
    asrt (0 ≤ v1.2.2 ∧ v1.2.2 < (bodies.length : Int)) <|
    if (decide (60000 < (w64 ((w64 (((lget bodies v1.2.2).length : Int) + (v1.2.1.length : Int))) + 6)))) = true then
      lt (wire_fault 9 0) fun x1 =>
      some (Sum.inr (([] : List UInt8), x1))
    else
      ob (wire_AddFrame_v2 (lget bodies v1.2.2) v1.2.1) fun x2 =>
      some (Sum.inl (v1.1, x2, w64 (v1.2.2 + 1)))
  else
    inrO (wire_Frames_J1 (v1.1, v1.2.1))
noncomputable def wire_Frames_L1 (bodies : List (List UInt8)) (v0 : Fault × List UInt8 × Int) : Option (List UInt8 × Fault) :=
  loopO (fun y => wire_Frames_B1 bodies y) v0
noncomputable def wire_Frames (bodies : List (List UInt8)) : Option (List UInt8 × Fault) :=
  if (decide (1000 < (bodies.length : Int))) = true then
    lt (wire_fault 2 0) fun x =>
    some (([] : List UInt8), x)
  else
    wire_Frames_L1 bodies ((⟨0, 0⟩ : Fault), ([] : List UInt8), 0)
theorem wire_Frames_ok (bodies : List (List UInt8)) (r : List UInt8 × Fault) (hF : wire_Frames bodies = some r) : Pe Try.prog 33 ⟨[], [], [], [], []⟩ [.sl 1 (bodies.map e_L_u8)] (.tup [.row 27 0, .agg [.int .i64 r.2.Code, .int .i64 r.2.At]]) ⟨[], [], [(27, ⟨5, 1, 0, (r.1.map e_u8).length, 0, true, 0, [], (r.1.map e_u8)⟩)], [], []⟩ := by
  refine Pe_of (N := 31) (res := [.tmp 2, .cell 3 26]) (ts := [23, 26]) Ty.ok Fn.b33 Try.func33 rfl rfl rfl rfl rfl rfl ?_
  intro Q g hfin
  unfold wire_Frames at hF
  refine Wk_seq ?_
  refine WR [] [0, 3] [3] [] [] [] [] ⟨[(0, .sl 1 (bodies.map e_L_u8)), (3, .ptr 3 0)], [(3, [.int .i64 0, .int .i64 0])], [], [], []⟩ .nil (by kernel_rfl) ?_
  refine Wk_seq ?_
  refine Wk_seq ?_
  refine WR [.nat (bodies.length : Int)] [0, 3, 9] [3] [] [] [] [] ⟨[(0, .sl 1 (bodies.map e_L_u8)), (3, .ptr 3 0), (9, .bool (decide (1000 < (bodies.length : Int))))], [(3, [.int .i64 0, .int .i64 0])], [], [], []⟩ (.cons (len_ok e_L_u8 bodies) .nil) (by kernel_rfl) ?_
  refine Wk_split rfl (fun hb => ?_) (fun hb => ?_)
  · have hF := ite_t hF hb
    refine Wk_seq ?_
    obtain ⟨x, h0, hF⟩ := lt_split hF
    refine WR [.callB (.agg [.int .i64 x.Code, .int .i64 x.At])] [2, 3] [3] [] [] [] [] ⟨[(2, .nils), (3, .ptr 3 0)], [(3, [.int .i64 x.Code, .int .i64 x.At])], [], [], []⟩ (.cons (wire_fault_ok 2 0 x h0) .nil) (by kernel_rfl) ?_
    have hF := some_elim hF
    refine Wk_nilrow 2 60000 5 1 rfl rfl rfl ?_
    refine Wk_ren' ⟨[], [(60000, 27)], [], []⟩ rfl ?_
    exact Wk_ret (hfin _ ⟨[27], [], [27], [], [], [(27, ⟨0, true, true, true⟩)], by first | (rw [← hF]; kernel_rfl) | kernel_rfl⟩)
  · have hF := ite_f hF hb
    refine Wk_skip ?_
    refine Wk_seq ?_
    refine WR [] [0, 3, 4] [3] [] [] [] [] ⟨[(0, .sl 1 (bodies.map e_L_u8)), (3, .ptr 3 0), (4, .nils)], [(3, [.int .i64 0, .int .i64 0])], [], [], []⟩ .nil (by kernel_rfl) ?_
    refine Wk_seq ?_
    refine Wk_seq ?_
    refine WR [.nat (bodies.length : Int)] [3, 4, 11, 12, 13] [3] [] [] [] [] ⟨[(3, .ptr 3 0), (4, .nils), (11, .sl 1 (bodies.map e_L_u8)), (12, .int .i64 (bodies.length : Int)), (13, .int .i64 0)], [(3, [.int .i64 0, .int .i64 0])], [], [], []⟩ (.cons (len_ok e_L_u8 bodies) .nil) (by kernel_rfl) ?_
    refine Wk_meetP (fun v : Fault × List UInt8 => (⟨[(3, .ptr 3 0), (4, .row 27 0)], [(3, [.int .i64 v.1.Code, .int .i64 v.1.At])], [(27, ⟨5, 1, 0, (v.2.map e_u8).length, 0, true, 0, [], (v.2.map e_u8)⟩)], [], []⟩ : S)) (fun v => wire_Frames_J1 v = some r) ?_ ?_
    · refine Wk_block ?_
      unfold wire_Frames_L1 at hF
      refine Wk_nilrow 4 60001 5 1 rfl rfl rfl ?_
      refine Wk_trim (fs := [3, 4, 11, 12, 13]) (bs := [3]) (rs := [60001]) (ms := []) (aa := []) (nv := []) rfl ?_
      refine Wk_ren' ⟨[], [(60001, 27)], [], []⟩ rfl ?_
      refine Wk_trim (fs := [3, 4, 11, 12, 13]) (bs := [3]) (rs := [27]) (ms := []) (aa := []) (nv := [(27, ⟨0, true, true, true⟩)]) (t := (fun v1 : Fault × List UInt8 × Int => (⟨[(3, .ptr 3 0), (4, .row 27 0), (11, .sl 1 (bodies.map e_L_u8)), (12, .int .i64 (bodies.length : Int)), (13, .int .i64 v1.2.2)], [(3, [.int .i64 v1.1.Code, .int .i64 v1.1.At])], [(27, ⟨5, 1, 0, (v1.2.1.map e_u8).length, 0, true, 0, [], (v1.2.1.map e_u8)⟩)], [], []⟩ : S)) ((⟨0, 0⟩ : Fault), ([] : List UInt8), 0)) (by kernel_rfl) ?_
      refine Wk_iter (step := fun y => wire_Frames_B1 bodies y) (r := r) (fun v1 : Fault × List UInt8 × Int => (⟨[(3, .ptr 3 0), (4, .row 27 0), (11, .sl 1 (bodies.map e_L_u8)), (12, .int .i64 (bodies.length : Int)), (13, .int .i64 v1.2.2)], [(3, [.int .i64 v1.1.Code, .int .i64 v1.1.At])], [(27, ⟨5, 1, 0, (v1.2.1.map e_u8).length, 0, true, 0, [], (v1.2.1.map e_u8)⟩)], [], []⟩ : S)) ((⟨0, 0⟩ : Fault), ([] : List UInt8), 0) hF ?_
      intro n1 v1 y1 hF ih1 dn1
      have hF : wire_Frames_B1 bodies v1 = some y1 := hF
      unfold wire_Frames_B1 at hF
      refine Wk_seq ?_
      refine WR [] [3, 4, 11, 12, 13, 14] [3] [27] [] [] [] ⟨[(3, .ptr 3 0), (4, .row 27 0), (11, .sl 1 (bodies.map e_L_u8)), (12, .int .i64 (bodies.length : Int)), (13, .int .i64 v1.2.2), (14, .bool (decide (v1.2.2 < (bodies.length : Int))))], [(3, [.int .i64 v1.1.Code, .int .i64 v1.1.At])], [(27, ⟨5, 1, 0, (v1.2.1.map e_u8).length, 0, true, 0, [], (v1.2.1.map e_u8)⟩)], [], []⟩ .nil (by kernel_rfl) ?_
      refine Wk_seq ?_
      refine Wk_split rfl (fun hb => ?_) (fun hb => ?_)
      · have hF := ite_t hF hb
        refine Wk_skip ?_
        refine Wk_seq ?_
        refine Wk_block ?_
        refine Wk_seq ?_
        obtain ⟨h1, hF⟩ := asrt_elim hF
        refine WR [.av (e_L_u8 (lget bodies v1.2.2))] [3, 4, 6, 11, 12, 13] [3] [27] [] [] [] ⟨[(3, .ptr 3 0), (4, .row 27 0), (6, .sl 1 ((lget bodies v1.2.2).map e_u8)), (11, .sl 1 (bodies.map e_L_u8)), (12, .int .i64 (bodies.length : Int)), (13, .int .i64 v1.2.2)], [(3, [.int .i64 v1.1.Code, .int .i64 v1.1.At])], [(27, ⟨5, 1, 0, (v1.2.1.map e_u8).length, 0, true, 0, [], (v1.2.1.map e_u8)⟩)], [], []⟩ (.cons (idx_ok e_L_u8 h1) .nil) (by kernel_rfl) ?_
        refine Wk_seq ?_
        refine Wk_seq ?_
        refine WR [.nat ((lget bodies v1.2.2).length : Int), .nat (v1.2.1.length : Int)] [3, 4, 6, 11, 12, 13, 23] [3] [27] [] [] [] ⟨[(3, .ptr 3 0), (4, .row 27 0), (6, .sl 1 ((lget bodies v1.2.2).map e_u8)), (11, .sl 1 (bodies.map e_L_u8)), (12, .int .i64 (bodies.length : Int)), (13, .int .i64 v1.2.2), (23, .bool (decide (60000 < (w64 ((w64 (((lget bodies v1.2.2).length : Int) + (v1.2.1.length : Int))) + 6)))))], [(3, [.int .i64 v1.1.Code, .int .i64 v1.1.At])], [(27, ⟨5, 1, 0, (v1.2.1.map e_u8).length, 0, true, 0, [], (v1.2.1.map e_u8)⟩)], [], []⟩ (.cons (len_ok e_u8 (lget bodies v1.2.2)) (.cons (len_ok e_u8 v1.2.1) .nil)) (by kernel_rfl) ?_
        refine Wk_split rfl (fun hb => ?_) (fun hb => ?_)
        · have hF := ite_t hF hb
          refine Wk_seq ?_
          obtain ⟨x1, h2, hF⟩ := lt_split hF
          refine WR [.callB (.agg [.int .i64 x1.Code, .int .i64 x1.At])] [2, 3] [3] [] [] [] [] ⟨[(2, .nils), (3, .ptr 3 0)], [(3, [.int .i64 x1.Code, .int .i64 x1.At])], [], [], []⟩ (.cons (wire_fault_ok 9 0 x1 h2) .nil) (by kernel_rfl) ?_
          have hF := ret_done hF dn1
          have hF := some_elim hF
          refine Wk_nilrow 2 60002 5 1 rfl rfl rfl ?_
          refine Wk_ren' ⟨[], [(60002, 27)], [], []⟩ rfl ?_
          exact Wk_ret (hfin _ ⟨[27], [], [27], [], [], [(27, ⟨0, true, true, true⟩)], by first | (rw [← hF]; kernel_rfl) | kernel_rfl⟩)
        · have hF := ite_f hF hb
          refine Wk_skip ?_
          obtain ⟨x2, h3, hF⟩ := ob_elim hF
          refine WR [.callE [] [27] [] [] (.row 27 3) ⟨[], [], [(27, ⟨5, 1, 3, (x2.map e_u8).length, 0, true, 0, [], (x2.map e_u8)⟩)], [], []⟩] [3, 4, 11, 12, 13] [3] [27] [] [] [] ⟨[(3, .ptr 3 0), (4, .row 27 3), (11, .sl 1 (bodies.map e_L_u8)), (12, .int .i64 (bodies.length : Int)), (13, .int .i64 v1.2.2)], [(3, [.int .i64 v1.1.Code, .int .i64 v1.1.At])], [(27, ⟨5, 1, 3, (x2.map e_u8).length, 0, true, 0, [], (x2.map e_u8)⟩)], [], []⟩ (.cons (Pe.ren (wire_AddFrame_v2_ok (lget bodies v1.2.2) v1.2.1 ((v1.2.1.map e_u8).length) 0 true x2 h3) ⟨[], [(100000, 27)], [], []⟩) .nil) (by kernel_rfl) ?_
          refine Wk_blk ?_
          refine WR [] [3, 4, 11, 12, 13] [3] [27] [] [] [] ⟨[(3, .ptr 3 0), (4, .row 27 3), (11, .sl 1 (bodies.map e_L_u8)), (12, .int .i64 (bodies.length : Int)), (13, .int .i64 (w64 (v1.2.2 + 1)))], [(3, [.int .i64 v1.1.Code, .int .i64 v1.1.At])], [(27, ⟨5, 1, 3, (x2.map e_u8).length, 0, true, 0, [], (x2.map e_u8)⟩)], [], []⟩ .nil (by kernel_rfl) ?_
          refine Wk_trim (fs := [3, 4, 11, 12, 13]) (bs := [3]) (rs := [27]) (ms := []) (aa := []) (nv := [(27, ⟨0, true, true, true⟩)]) ?_ (ih1 _ (some_elim hF).symm)
          kernel_rfl
      · have hF := ite_f hF hb
        refine Wk_exit rfl ?_
        have hF := inrO_done hF dn1
        exact Wk_metP (v1.1, v1.2.1) [3, 4] [3] [27] [] [] [] hF (by kernel_rfl)
    · intro v hF
      have hF : wire_Frames_J1 v = some r := hF
      unfold wire_Frames_J1 at hF
      refine Wk_seq ?_
      refine WR [] [2, 3] [3] [27] [] [] [] ⟨[(2, .row 27 0), (3, .ptr 3 0)], [(3, [.int .i64 0, .int .i64 0])], [(27, ⟨5, 1, 0, (v.2.map e_u8).length, 0, true, 0, [], (v.2.map e_u8)⟩)], [], []⟩ .nil (by kernel_rfl) ?_
      have hF := some_elim hF
      exact Wk_ret (hfin _ ⟨[27], [], [27], [], [], [], by first | (rw [← hF]; kernel_rfl) | kernel_rfl⟩)

/- wire.Frames -/
noncomputable def wire_Frames_v1_J1 (v : Fault × List UInt8) : Option (List UInt8 × Fault) :=
  some (v.2, (⟨0, 0⟩ : Fault))
noncomputable def wire_Frames_v1_B1 (bodies : List (List UInt8)) (v1 : Fault × List UInt8 × Int) : Option ((Fault × List UInt8 × Int) ⊕ (List UInt8 × Fault)) :=
  if (decide (v1.2.2 < (bodies.length : Int))) = true then
    asrt (0 ≤ v1.2.2 ∧ v1.2.2 < (bodies.length : Int)) <|
    if (decide (60000 < (w64 ((w64 (((lget bodies v1.2.2).length : Int) + (v1.2.1.length : Int))) + 6)))) = true then
      lt (wire_fault 9 0) fun x1 =>
      some (Sum.inr (([] : List UInt8), x1))
    else
      ob (wire_AddFrame_v2 (lget bodies v1.2.2) v1.2.1) fun x2 =>
      some (Sum.inl (v1.1, x2, w64 (v1.2.2 + 1)))
  else
    inrO (wire_Frames_v1_J1 (v1.1, v1.2.1))
noncomputable def wire_Frames_v1_L1 (bodies : List (List UInt8)) (v0 : Fault × List UInt8 × Int) : Option (List UInt8 × Fault) :=
  loopO (fun y => wire_Frames_v1_B1 bodies y) v0
noncomputable def wire_Frames_v1 (bodies : List (List UInt8)) : Option (List UInt8 × Fault) :=
  if (decide (1000 < (bodies.length : Int))) = true then
    lt (wire_fault 2 0) fun x =>
    some (([] : List UInt8), x)
  else
    wire_Frames_v1_L1 bodies ((⟨0, 0⟩ : Fault), ([] : List UInt8), 0)
theorem wire_Frames_v1_ok (bodies : List (List UInt8)) (r : List UInt8 × Fault) (hF : wire_Frames_v1 bodies = some r) : Pe Try.prog 33 S.none [.sl 1 (bodies.map e_L_u8)] (.tup [.sl 1 (r.1.map e_u8), .agg [.int .i64 r.2.Code, .int .i64 r.2.At]]) S.none := by
  refine Pe_of (N := 31) (res := [.tmp 2, .cell 3 26]) (ts := [23, 26]) Ty.ok Fn.b33 Try.func33 rfl rfl rfl rfl rfl rfl ?_
  intro Q g hfin
  unfold wire_Frames_v1 at hF
  refine Wk_seq ?_
  refine WR [] [0, 3] [3] [] [] [] [] ⟨[(0, .sl 1 (bodies.map e_L_u8)), (3, .ptr 3 0)], [(3, [.int .i64 0, .int .i64 0])], [], [], []⟩ .nil (by kernel_rfl) ?_
  refine Wk_seq ?_
  refine Wk_seq ?_
  refine WR [.nat (bodies.length : Int)] [0, 3, 9] [3] [] [] [] [] ⟨[(0, .sl 1 (bodies.map e_L_u8)), (3, .ptr 3 0), (9, .bool (decide (1000 < (bodies.length : Int))))], [(3, [.int .i64 0, .int .i64 0])], [], [], []⟩ (.cons (len_ok e_L_u8 bodies) .nil) (by kernel_rfl) ?_
  refine Wk_split rfl (fun hb => ?_) (fun hb => ?_)
  · have hF := ite_t hF hb
    refine Wk_seq ?_
    obtain ⟨x, h0, hF⟩ := lt_split hF
    refine WR [.callB (.agg [.int .i64 x.Code, .int .i64 x.At])] [2, 3] [3] [] [] [] [] ⟨[(2, .nils), (3, .ptr 3 0)], [(3, [.int .i64 x.Code, .int .i64 x.At])], [], [], []⟩ (.cons (wire_fault_ok 2 0 x h0) .nil) (by kernel_rfl) ?_
    have hF := some_elim hF
    exact Wk_ret (hfin _ ⟨[], [], [], [], [], [], by first | (rw [← hF]; kernel_rfl) | kernel_rfl⟩)
  · have hF := ite_f hF hb
    refine Wk_skip ?_
    refine Wk_seq ?_
    refine WR [] [0, 3, 4] [3] [] [] [] [] ⟨[(0, .sl 1 (bodies.map e_L_u8)), (3, .ptr 3 0), (4, .nils)], [(3, [.int .i64 0, .int .i64 0])], [], [], []⟩ .nil (by kernel_rfl) ?_
    refine Wk_seq ?_
    refine Wk_seq ?_
    refine WR [.nat (bodies.length : Int)] [3, 4, 11, 12, 13] [3] [] [] [] [] ⟨[(3, .ptr 3 0), (4, .nils), (11, .sl 1 (bodies.map e_L_u8)), (12, .int .i64 (bodies.length : Int)), (13, .int .i64 0)], [(3, [.int .i64 0, .int .i64 0])], [], [], []⟩ (.cons (len_ok e_L_u8 bodies) .nil) (by kernel_rfl) ?_
    refine Wk_meetP (fun v : Fault × List UInt8 => (⟨[(3, .ptr 3 0), (4, .row 27 0)], [(3, [.int .i64 v.1.Code, .int .i64 v.1.At])], [(27, ⟨5, 1, 0, (v.2.map e_u8).length, 0, true, 0, [], (v.2.map e_u8)⟩)], [], []⟩ : S)) (fun v => wire_Frames_v1_J1 v = some r) ?_ ?_
    · refine Wk_block ?_
      unfold wire_Frames_v1_L1 at hF
      refine Wk_nilrow 4 60000 5 1 rfl rfl rfl ?_
      refine Wk_trim (fs := [3, 4, 11, 12, 13]) (bs := [3]) (rs := [60000]) (ms := []) (aa := []) (nv := []) rfl ?_
      refine Wk_ren' ⟨[], [(60000, 27)], [], []⟩ rfl ?_
      refine Wk_trim (fs := [3, 4, 11, 12, 13]) (bs := [3]) (rs := [27]) (ms := []) (aa := []) (nv := [(27, ⟨0, true, true, true⟩)]) (t := (fun v1 : Fault × List UInt8 × Int => (⟨[(3, .ptr 3 0), (4, .row 27 0), (11, .sl 1 (bodies.map e_L_u8)), (12, .int .i64 (bodies.length : Int)), (13, .int .i64 v1.2.2)], [(3, [.int .i64 v1.1.Code, .int .i64 v1.1.At])], [(27, ⟨5, 1, 0, (v1.2.1.map e_u8).length, 0, true, 0, [], (v1.2.1.map e_u8)⟩)], [], []⟩ : S)) ((⟨0, 0⟩ : Fault), ([] : List UInt8), 0)) (by kernel_rfl) ?_
      refine Wk_iter (step := fun y => wire_Frames_v1_B1 bodies y) (r := r) (fun v1 : Fault × List UInt8 × Int => (⟨[(3, .ptr 3 0), (4, .row 27 0), (11, .sl 1 (bodies.map e_L_u8)), (12, .int .i64 (bodies.length : Int)), (13, .int .i64 v1.2.2)], [(3, [.int .i64 v1.1.Code, .int .i64 v1.1.At])], [(27, ⟨5, 1, 0, (v1.2.1.map e_u8).length, 0, true, 0, [], (v1.2.1.map e_u8)⟩)], [], []⟩ : S)) ((⟨0, 0⟩ : Fault), ([] : List UInt8), 0) hF ?_
      intro n1 v1 y1 hF ih1 dn1
      have hF : wire_Frames_v1_B1 bodies v1 = some y1 := hF
      unfold wire_Frames_v1_B1 at hF
      refine Wk_seq ?_
      refine WR [] [3, 4, 11, 12, 13, 14] [3] [27] [] [] [] ⟨[(3, .ptr 3 0), (4, .row 27 0), (11, .sl 1 (bodies.map e_L_u8)), (12, .int .i64 (bodies.length : Int)), (13, .int .i64 v1.2.2), (14, .bool (decide (v1.2.2 < (bodies.length : Int))))], [(3, [.int .i64 v1.1.Code, .int .i64 v1.1.At])], [(27, ⟨5, 1, 0, (v1.2.1.map e_u8).length, 0, true, 0, [], (v1.2.1.map e_u8)⟩)], [], []⟩ .nil (by kernel_rfl) ?_
      refine Wk_seq ?_
      refine Wk_split rfl (fun hb => ?_) (fun hb => ?_)
      · have hF := ite_t hF hb
        refine Wk_skip ?_
        refine Wk_seq ?_
        refine Wk_block ?_
        refine Wk_seq ?_
        obtain ⟨h1, hF⟩ := asrt_elim hF
        refine WR [.av (e_L_u8 (lget bodies v1.2.2))] [3, 4, 6, 11, 12, 13] [3] [27] [] [] [] ⟨[(3, .ptr 3 0), (4, .row 27 0), (6, .sl 1 ((lget bodies v1.2.2).map e_u8)), (11, .sl 1 (bodies.map e_L_u8)), (12, .int .i64 (bodies.length : Int)), (13, .int .i64 v1.2.2)], [(3, [.int .i64 v1.1.Code, .int .i64 v1.1.At])], [(27, ⟨5, 1, 0, (v1.2.1.map e_u8).length, 0, true, 0, [], (v1.2.1.map e_u8)⟩)], [], []⟩ (.cons (idx_ok e_L_u8 h1) .nil) (by kernel_rfl) ?_
        refine Wk_seq ?_
        refine Wk_seq ?_
        refine WR [.nat ((lget bodies v1.2.2).length : Int), .nat (v1.2.1.length : Int)] [3, 4, 6, 11, 12, 13, 23] [3] [27] [] [] [] ⟨[(3, .ptr 3 0), (4, .row 27 0), (6, .sl 1 ((lget bodies v1.2.2).map e_u8)), (11, .sl 1 (bodies.map e_L_u8)), (12, .int .i64 (bodies.length : Int)), (13, .int .i64 v1.2.2), (23, .bool (decide (60000 < (w64 ((w64 (((lget bodies v1.2.2).length : Int) + (v1.2.1.length : Int))) + 6)))))], [(3, [.int .i64 v1.1.Code, .int .i64 v1.1.At])], [(27, ⟨5, 1, 0, (v1.2.1.map e_u8).length, 0, true, 0, [], (v1.2.1.map e_u8)⟩)], [], []⟩ (.cons (len_ok e_u8 (lget bodies v1.2.2)) (.cons (len_ok e_u8 v1.2.1) .nil)) (by kernel_rfl) ?_
        refine Wk_split rfl (fun hb => ?_) (fun hb => ?_)
        · have hF := ite_t hF hb
          refine Wk_seq ?_
          obtain ⟨x1, h2, hF⟩ := lt_split hF
          refine WR [.callB (.agg [.int .i64 x1.Code, .int .i64 x1.At])] [2, 3] [3] [] [] [] [] ⟨[(2, .nils), (3, .ptr 3 0)], [(3, [.int .i64 x1.Code, .int .i64 x1.At])], [], [], []⟩ (.cons (wire_fault_ok 9 0 x1 h2) .nil) (by kernel_rfl) ?_
          have hF := ret_done hF dn1
          have hF := some_elim hF
          exact Wk_ret (hfin _ ⟨[], [], [], [], [], [], by first | (rw [← hF]; kernel_rfl) | kernel_rfl⟩)
        · have hF := ite_f hF hb
          refine Wk_skip ?_
          obtain ⟨x2, h3, hF⟩ := ob_elim hF
          refine WR [.callE [] [27] [] [] (.row 27 3) ⟨[], [], [(27, ⟨5, 1, 3, (x2.map e_u8).length, 0, true, 0, [], (x2.map e_u8)⟩)], [], []⟩] [3, 4, 11, 12, 13] [3] [27] [] [] [] ⟨[(3, .ptr 3 0), (4, .row 27 3), (11, .sl 1 (bodies.map e_L_u8)), (12, .int .i64 (bodies.length : Int)), (13, .int .i64 v1.2.2)], [(3, [.int .i64 v1.1.Code, .int .i64 v1.1.At])], [(27, ⟨5, 1, 3, (x2.map e_u8).length, 0, true, 0, [], (x2.map e_u8)⟩)], [], []⟩ (.cons (Pe.ren (wire_AddFrame_v2_ok (lget bodies v1.2.2) v1.2.1 ((v1.2.1.map e_u8).length) 0 true x2 h3) ⟨[], [(100000, 27)], [], []⟩) .nil) (by kernel_rfl) ?_
          refine Wk_blk ?_
          refine WR [] [3, 4, 11, 12, 13] [3] [27] [] [] [] ⟨[(3, .ptr 3 0), (4, .row 27 3), (11, .sl 1 (bodies.map e_L_u8)), (12, .int .i64 (bodies.length : Int)), (13, .int .i64 (w64 (v1.2.2 + 1)))], [(3, [.int .i64 v1.1.Code, .int .i64 v1.1.At])], [(27, ⟨5, 1, 3, (x2.map e_u8).length, 0, true, 0, [], (x2.map e_u8)⟩)], [], []⟩ .nil (by kernel_rfl) ?_
          refine Wk_trim (fs := [3, 4, 11, 12, 13]) (bs := [3]) (rs := [27]) (ms := []) (aa := []) (nv := [(27, ⟨0, true, true, true⟩)]) ?_ (ih1 _ (some_elim hF).symm)
          kernel_rfl
      · have hF := ite_f hF hb
        refine Wk_exit rfl ?_
        have hF := inrO_done hF dn1
        exact Wk_metP (v1.1, v1.2.1) [3, 4] [3] [27] [] [] [] hF (by kernel_rfl)
    · intro v hF
      have hF : wire_Frames_v1_J1 v = some r := hF
      unfold wire_Frames_v1_J1 at hF
      refine Wk_seq ?_
      refine WR [] [2, 3] [3] [27] [] [] [] ⟨[(2, .row 27 0), (3, .ptr 3 0)], [(3, [.int .i64 0, .int .i64 0])], [(27, ⟨5, 1, 0, (v.2.map e_u8).length, 0, true, 0, [], (v.2.map e_u8)⟩)], [], []⟩ .nil (by kernel_rfl) ?_
      have hF := some_elim hF
      exact Wk_ret (hfin _ ⟨[], [], [], [], [], [], by first | (rw [← hF]; kernel_rfl) | kernel_rfl⟩)

/- slices.Equal[[]byte,byte] -/
noncomputable def slices_Equal_byte_byte_J1 (v : Unit) : Option Bool :=
  some true
noncomputable def slices_Equal_byte_byte_B1 (s1 : List UInt8) (s2 : List UInt8) (v1 : Int) : Option (Int ⊕ Bool) :=
  if (decide (v1 < (s1.length : Int))) = true then
    asrt (0 ≤ v1 ∧ v1 < (s1.length : Int)) <|
    asrt (0 ≤ v1 ∧ v1 < (s2.length : Int)) <|
    if (!decide (((lget s1 v1).toNat : Int) = ((lget s2 v1).toNat : Int))) = true then
      some (Sum.inr false)
    else
      some (Sum.inl (w64 (v1 + 1)))
  else
    inrO (slices_Equal_byte_byte_J1 ())
noncomputable def slices_Equal_byte_byte_L1 (s1 : List UInt8) (s2 : List UInt8) (v0 : Int) : Option Bool :=
  loopO (fun y => slices_Equal_byte_byte_B1 s1 s2 y) v0
noncomputable def slices_Equal_byte_byte (s1 : List UInt8) (s2 : List UInt8) : Option Bool :=
  if (!decide ((s1.length : Int) = (s2.length : Int))) = true then
    some false
  else
    slices_Equal_byte_byte_L1 s1 s2 0
theorem slices_Equal_byte_byte_ok (s1 : List UInt8) (s2 : List UInt8) (r : Bool) (hF : slices_Equal_byte_byte s1 s2 = some r) : Pe Try.prog 71 S.none [.sl 1 (s1.map e_u8), .sl 1 (s2.map e_u8)] (.bool r) S.none := by
  refine Pe_of (N := 26) (res := [.tmp 4]) (ts := [4]) Ty.ok Fn.b71 Try.func71 rfl rfl rfl rfl rfl rfl ?_
  intro Q g hfin
  unfold slices_Equal_byte_byte at hF
  refine Wk_seq ?_
  refine WR [] [0, 1] [] [] [] [] [] ⟨[(0, .sl 1 (s1.map e_u8)), (1, .sl 1 (s2.map e_u8))], [], [], [], []⟩ .nil (by kernel_rfl) ?_
  refine Wk_seq ?_
  refine Wk_seq ?_
  refine WR [.nat (s1.length : Int), .nat (s2.length : Int)] [0, 1, 10] [] [] [] [] [] ⟨[(0, .sl 1 (s1.map e_u8)), (1, .sl 1 (s2.map e_u8)), (10, .bool (!decide ((s1.length : Int) = (s2.length : Int))))], [], [], [], []⟩ (.cons (len_ok e_u8 s1) (.cons (len_ok e_u8 s2) .nil)) (by kernel_rfl) ?_
  refine Wk_split rfl (fun hb => ?_) (fun hb => ?_)
  · have hF := ite_t hF hb
    refine Wk_seq ?_
    refine WR [] [4] [] [] [] [] [] ⟨[(4, .bool false)], [], [], [], []⟩ .nil (by kernel_rfl) ?_
    have hF := some_elim hF
    exact Wk_ret (hfin _ ⟨[], [], [], [], [], [], by first | (rw [← hF]; kernel_rfl) | kernel_rfl⟩)
  · have hF := ite_f hF hb
    refine Wk_skip ?_
    refine Wk_seq ?_
    refine Wk_seq ?_
    refine WR [.nat (s1.length : Int)] [0, 1, 12, 13] [] [] [] [] [] ⟨[(0, .sl 1 (s1.map e_u8)), (1, .sl 1 (s2.map e_u8)), (12, .int .i64 (s1.length : Int)), (13, .int .i64 0)], [], [], [], []⟩ (.cons (len_ok e_u8 s1) .nil) (by kernel_rfl) ?_
    refine Wk_meetP (fun v : Unit => (⟨[], [], [], [], []⟩ : S)) (fun v => slices_Equal_byte_byte_J1 v = some r) ?_ ?_
    · refine Wk_block ?_
      unfold slices_Equal_byte_byte_L1 at hF
      refine Wk_trim (fs := [0, 1, 12, 13]) (bs := []) (rs := []) (ms := []) (aa := []) (nv := []) (t := (fun v1 : Int => (⟨[(0, .sl 1 (s1.map e_u8)), (1, .sl 1 (s2.map e_u8)), (12, .int .i64 (s1.length : Int)), (13, .int .i64 v1)], [], [], [], []⟩ : S)) 0) (by kernel_rfl) ?_
      refine Wk_iter (step := fun y => slices_Equal_byte_byte_B1 s1 s2 y) (r := r) (fun v1 : Int => (⟨[(0, .sl 1 (s1.map e_u8)), (1, .sl 1 (s2.map e_u8)), (12, .int .i64 (s1.length : Int)), (13, .int .i64 v1)], [], [], [], []⟩ : S)) 0 hF ?_
      intro n1 v1 y1 hF ih1 dn1
      have hF : slices_Equal_byte_byte_B1 s1 s2 v1 = some y1 := hF
      unfold slices_Equal_byte_byte_B1 at hF
      refine Wk_seq ?_
      refine WR [] [0, 1, 12, 13, 14] [] [] [] [] [] ⟨[(0, .sl 1 (s1.map e_u8)), (1, .sl 1 (s2.map e_u8)), (12, .int .i64 (s1.length : Int)), (13, .int .i64 v1), (14, .bool (decide (v1 < (s1.length : Int))))], [], [], [], []⟩ .nil (by kernel_rfl) ?_
      refine Wk_seq ?_
      refine Wk_split rfl (fun hb => ?_) (fun hb => ?_)
      · have hF := ite_t hF hb
        refine Wk_skip ?_
        refine Wk_seq ?_
        refine Wk_block ?_
        refine Wk_seq ?_
        refine WR [] [0, 1, 5, 12, 13] [] [] [] [] [] ⟨[(0, .sl 1 (s1.map e_u8)), (1, .sl 1 (s2.map e_u8)), (5, .int .i64 v1), (12, .int .i64 (s1.length : Int)), (13, .int .i64 v1)], [], [], [], []⟩ .nil (by kernel_rfl) ?_
        refine Wk_seq ?_
        obtain ⟨h0, hF⟩ := asrt_elim hF
        obtain ⟨h1, hF⟩ := asrt_elim hF
        refine WD [.av (e_u8 (lget s1 v1)), .av (e_u8 (lget s2 v1))] [0, 1, 12, 13, 24] [] [] [] [] [] ⟨[(0, .sl 1 (s1.map e_u8)), (1, .sl 1 (s2.map e_u8)), (12, .int .i64 (s1.length : Int)), (13, .int .i64 v1), (24, .bool (!decide (((lget s1 v1).toNat : Int) = ((lget s2 v1).toNat : Int))))], [], [], [], []⟩ (.cons (idx_ok e_u8 h0) (.cons (idx_ok e_u8 h1) .nil)) (by kernel_rfl) ?_
        refine Wk_split rfl (fun hb => ?_) (fun hb => ?_)
        · have hF := ite_t hF hb
          refine Wk_seq ?_
          refine WR [] [4] [] [] [] [] [] ⟨[(4, .bool false)], [], [], [], []⟩ .nil (by kernel_rfl) ?_
          have hF := ret_done hF dn1
          have hF := some_elim hF
          exact Wk_ret (hfin _ ⟨[], [], [], [], [], [], by first | (rw [← hF]; kernel_rfl) | kernel_rfl⟩)
        · have hF := ite_f hF hb
          refine Wk_skip ?_
          refine Wk_blk ?_
          refine WR [] [0, 1, 12, 13] [] [] [] [] [] ⟨[(0, .sl 1 (s1.map e_u8)), (1, .sl 1 (s2.map e_u8)), (12, .int .i64 (s1.length : Int)), (13, .int .i64 (w64 (v1 + 1)))], [], [], [], []⟩ .nil (by kernel_rfl) ?_
          refine Wk_trim (fs := [0, 1, 12, 13]) (bs := []) (rs := []) (ms := []) (aa := []) (nv := []) ?_ (ih1 _ (some_elim hF).symm)
          kernel_rfl
      · have hF := ite_f hF hb
        refine Wk_exit rfl ?_
        have hF := inrO_done hF dn1
        exact Wk_metP () [] [] [] [] [] [] hF (by kernel_rfl)
    · intro v hF
      have hF : slices_Equal_byte_byte_J1 v = some r := hF
      unfold slices_Equal_byte_byte_J1 at hF
      refine Wk_seq ?_
      refine WR [] [4] [] [] [] [] [] ⟨[(4, .bool true)], [], [], [], []⟩ .nil (by kernel_rfl) ?_
      have hF := some_elim hF
      exact Wk_ret (hfin _ ⟨[], [], [], [], [], [], by first | (rw [← hF]; kernel_rfl) | kernel_rfl⟩)

/- slices.Clone[[]byte,byte] -/
noncomputable def slices_Clone_byte_byte (s0 : List UInt8) : Option (List UInt8) :=
  ubO (decide (s0.length = 0)) (
    some ([] : List UInt8)) (
    asrt (((([] : List UInt8) ++ s0).length : Int) * 1 ≤ 140737488351232) <|
    some (([] : List UInt8) ++ s0))
theorem slices_Clone_byte_byte_ok (s0 : List UInt8) (r : List UInt8) (hF : slices_Clone_byte_byte s0 = some r) : Pe Try.prog 70 ⟨[], [], [], [], []⟩ [.sl 1 (s0.map e_u8)] (.row 5 0) ⟨[], [], [(5, ⟨5, 1, 0, 0, 0, false, 0, [], (r.map e_u8)⟩)], [], []⟩ := by
  refine Pe_of (N := 8) (res := [.tmp 2]) (ts := [23]) Ty.ok Fn.b70 Try.func70 rfl rfl rfl rfl rfl rfl ?_
  intro Q g hfin
  unfold slices_Clone_byte_byte at hF
  refine Wk_seq ?_
  refine WR [] [0] [] [] [] [] [] ⟨[(0, .sl 1 (s0.map e_u8))], [], [], [], []⟩ .nil (by kernel_rfl) ?_
  refine Wk_seq ?_
  refine Wk_seq ?_
  refine WR [.bo (decide (s0.length = 0))] [0, 4] [] [] [] [] [] ⟨[(0, .sl 1 (s0.map e_u8)), (4, .ub (decide (s0.length = 0)) true)], [], [], [], []⟩ (.cons (ubn_ok e_u8 s0) .nil) (by kernel_rfl) ?_
  refine Wk_ub 4 rfl fun b hb1 hb2 => ?_
  refine Wk_split rfl (fun hb => ?_) (fun hb => ?_)
  · have hb := hb1 hb
    have hF := (ubO_elim hF).1 hb
    refine Wk_seq ?_
    refine WR [] [2] [] [] [] [] [] ⟨[(2, .nils)], [], [], [], []⟩ .nil (by kernel_rfl) ?_
    have hF := some_elim hF
    refine Wk_nilrow 2 60000 5 1 rfl rfl rfl ?_
    refine Wk_ren' ⟨[], [(60000, 5)], [], []⟩ rfl ?_
    exact Wk_ret (hfin _ ⟨[5], [], [5], [], [], [(5, ⟨0, true, false, false⟩)], by first | (rw [← hF]; kernel_rfl) | kernel_rfl⟩)
  · have hF := (ubO_elim hF).2
    refine Wk_skip ?_
    refine Wk_seq ?_
    obtain ⟨h0, hF⟩ := asrt_elim hF
    refine WR [.xs ((([] : List UInt8) ++ s0).map e_u8)] [2] [] [5] [] [] [] ⟨[(2, .row 5 1)], [], [(5, ⟨5, 1, 1, 0, 0, false, 0, [], ((([] : List UInt8) ++ s0).map e_u8)⟩)], [], []⟩ (.cons (app_ok e_u8 ([] : List UInt8) s0) (.cons (appl_ok e_u8 h0) .nil)) (by kernel_rfl) ?_
    have hF := some_elim hF
    exact Wk_ret (hfin _ ⟨[5], [], [5], [], [], [(5, ⟨0, true, true, false⟩)], by first | (rw [← hF]; kernel_rfl) | kernel_rfl⟩)

end G
end Go.Proofs.Ytiakadlmebbafaa
