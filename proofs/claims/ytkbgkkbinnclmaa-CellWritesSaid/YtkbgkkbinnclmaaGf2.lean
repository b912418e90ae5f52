/- The program's functions as plain functions, and that they are these. Written by a program (dec2.py). -/
import Derived.Test.YtkbgkkbinnclmaaGf1
namespace Go.Proofs.Ytkbgkkbinnclmaa
open Go Go.Dm
set_option linter.unusedVariables false
set_option linter.unusedSimpArgs false
set_option maxRecDepth 100000
namespace G
/- tabularyref.NumberAt -/
noncomputable def R_NumberAt_J1 (v : Unit) : Option (Int × Int) :=
  some (0, 0)
noncomputable def R_NumberAt_J2 (b : List UInt8) (v1 : Int) (v2 : Int) : Option (Int ⊕ (Int × Int)) :=
  ob (if (decide (v2 ≤ 1000000000)) = true then (R_Number_v1 v2) else some default) fun x =>
  asrt ((decide (v2 ≤ 1000000000)) = true → 0 ≤ v1 ∧ v1 ≤ (b.length : Int)) <|
  lt (R_Same x (ltake b v1)) fun x1 =>
  if ((decide (v2 ≤ 1000000000)) && x1) = true then
    some (Sum.inr (v2, v1))
  else
    some (Sum.inl (w64 (v1 + 1)))
noncomputable def R_NumberAt_B2 (b : List UInt8) (v1 : Int) (v3 : Int × Int) : Option ((Int × Int) ⊕ (Int ⊕ (Int × Int))) :=
  if (decide (0 ≤ v3.2)) = true then
    asrt (0 ≤ v3.2 ∧ v3.2 < (b.length : Int)) <|
    lt (w64 ((w64 (v3.1 * 128)) + (Int.tmod (w64 ((lget b v3.2).toNat : Int)) 128))) fun (v4 : Int) =>
    some (Sum.inl (v4, w64 (v3.2 - 1)))
  else
    inrO (R_NumberAt_J2 b v1 v3.1)
noncomputable def R_NumberAt_L2 (b : List UInt8) (v1 : Int) (v0 : Int × Int) : Option (Int ⊕ (Int × Int)) :=
  loopO (fun y => R_NumberAt_B2 b v1 y) v0
noncomputable def R_NumberAt_B1 (b : List UInt8) (v1 : Int) : Option (Int ⊕ (Int × Int)) :=
  if ((decide (v1 ≤ 5)) && (decide (v1 ≤ (b.length : Int)))) = true then
    R_NumberAt_L2 b v1 (0, w64 (v1 - 1))
  else
    inrO (R_NumberAt_J1 ())
noncomputable def R_NumberAt_L1 (b : List UInt8) (v0 : Int) : Option (Int × Int) :=
  loopO (fun y => R_NumberAt_B1 b y) v0
noncomputable def R_NumberAt (b : List UInt8) : Option (Int × Int) :=
  R_NumberAt_L1 b 1
theorem R_NumberAt_ok (b : List UInt8) (r : Int × Int) (hF : R_NumberAt b = some r) : Pe Try.prog 81 S.none [.sl 1 (b.map e_u8)] (.tup [.int .i64 r.1, .int .i64 r.2]) S.none := by
  refine Pe_of (N := 44) (res := [.tmp 2, .tmp 3]) (ts := [3, 3]) Ty.ok Fn.b81 Try.func81 rfl rfl rfl rfl rfl rfl ?_
  intro Q g hfin
  unfold R_NumberAt at hF
  refine Wk_seq ?_
  refine WR [] [0] [] [] [] [] [] ⟨[(0, .sl 1 (b.map e_u8))], [], [], [], []⟩ .nil (by kernel_rfl) ?_
  refine Wk_seq ?_
  refine Wk_seq ?_
  refine WR [] [0, 4] [] [] [] [] [] ⟨[(0, .sl 1 (b.map e_u8)), (4, .int .i64 1)], [], [], [], []⟩ .nil (by kernel_rfl) ?_
  refine Wk_meetP (fun v : Unit => (⟨[], [], [], [], []⟩ : S)) (fun v => R_NumberAt_J1 v = some r) ?_ ?_
  · refine Wk_block ?_
    unfold R_NumberAt_L1 at hF
    refine Wk_trim (fs := [0, 4]) (bs := []) (rs := []) (ms := []) (aa := []) (nv := []) (t := (fun v1 : Int => (⟨[(0, .sl 1 (b.map e_u8)), (4, .int .i64 v1)], [], [], [], []⟩ : S)) 1) (by kernel_rfl) ?_
    refine Wk_iter (step := fun y => R_NumberAt_B1 b y) (r := r) (fun v1 : Int => (⟨[(0, .sl 1 (b.map e_u8)), (4, .int .i64 v1)], [], [], [], []⟩ : S)) 1 hF ?_
    intro n1 v1 y1 hF ih1 dn1
    have hF : R_NumberAt_B1 b v1 = some y1 := hF
    unfold R_NumberAt_B1 at hF
    refine Wk_seq ?_
    refine Wk_seq ?_
    refine WR [.nat (b.length : Int)] [0, 4, 14] [] [] [] [] [] ⟨[(0, .sl 1 (b.map e_u8)), (4, .int .i64 v1), (14, .bool ((decide (v1 ≤ 5)) && (decide (v1 ≤ (b.length : Int)))))], [], [], [], []⟩ (.cons (fun (_ : (decide (v1 ≤ 5)) = true) => (len_ok e_u8 b)) .nil) (by kernel_rfl) ?_
    refine Wk_split rfl (fun hb => ?_) (fun hb => ?_)
    · have hF := ite_t hF hb
      refine Wk_skip ?_
      refine Wk_seq ?_
      refine Wk_block ?_
      refine Wk_seq ?_
      refine WR [] [0, 4, 5] [] [] [] [] [] ⟨[(0, .sl 1 (b.map e_u8)), (4, .int .i64 v1), (5, .int .i64 0)], [], [], [], []⟩ .nil (by kernel_rfl) ?_
      refine Wk_seq ?_
      refine Wk_seq ?_
      refine WR [] [0, 4, 5, 6] [] [] [] [] [] ⟨[(0, .sl 1 (b.map e_u8)), (4, .int .i64 v1), (5, .int .i64 0), (6, .int .i64 (w64 (v1 - 1)))], [], [], [], []⟩ .nil (by kernel_rfl) ?_
      refine Wk_meetP (fun v2 : Int => (⟨[(0, .sl 1 (b.map e_u8)), (4, .int .i64 v1), (5, .int .i64 v2)], [], [], [], []⟩ : S)) (fun v2 => R_NumberAt_J2 b v1 v2 = some y1) ?_ ?_
      · refine Wk_block ?_
        unfold R_NumberAt_L2 at hF
        refine Wk_trim (fs := [0, 4, 5, 6]) (bs := []) (rs := []) (ms := []) (aa := []) (nv := []) (t := (fun v3 : Int × Int => (⟨[(0, .sl 1 (b.map e_u8)), (4, .int .i64 v1), (5, .int .i64 v3.1), (6, .int .i64 v3.2)], [], [], [], []⟩ : S)) (0, w64 (v1 - 1))) (by kernel_rfl) ?_
        refine Wk_iter (step := fun y => R_NumberAt_B2 b v1 y) (r := y1) (fun v3 : Int × Int => (⟨[(0, .sl 1 (b.map e_u8)), (4, .int .i64 v1), (5, .int .i64 v3.1), (6, .int .i64 v3.2)], [], [], [], []⟩ : S)) (0, w64 (v1 - 1)) hF ?_
        intro n2 v3 y2 hF ih2 dn2
        have hF : R_NumberAt_B2 b v1 v3 = some y2 := hF
        unfold R_NumberAt_B2 at hF
        refine Wk_seq ?_
        refine Wk_seq ?_
        refine WR [] [0, 4, 5, 6, 20] [] [] [] [] [] ⟨[(0, .sl 1 (b.map e_u8)), (4, .int .i64 v1), (5, .int .i64 v3.1), (6, .int .i64 v3.2), (20, .bool (decide (0 ≤ v3.2)))], [], [], [], []⟩ .nil (by kernel_rfl) ?_
        refine Wk_split rfl (fun hb => ?_) (fun hb => ?_)
        · have hF := ite_t hF hb
          refine Wk_skip ?_
          refine Wk_seq ?_
          refine Wk_block ?_
          obtain ⟨h3, hF⟩ := asrt_elim hF
          refine WRL (w64 ((w64 (v3.1 * 128)) + (Int.tmod (w64 ((lget b v3.2).toNat : Int)) 128))) (fun v4 : Int => ⟨[(0, .sl 1 (b.map e_u8)), (4, .int .i64 v1), (5, .int .i64 v4), (6, .int .i64 v3.2)], [], [], [], []⟩) [.av (e_u8 (lget b v3.2))] [0, 4, 5, 6] [] [] [] [] [] (.cons (idx_ok e_u8 h3) (.cons (by decide : (128 : Int) ≠ 0) .nil)) (by kernel_rfl) (fun v4 hv => ?_)
          have hF := lt_elim hF hv
          refine Wk_blk ?_
          refine WR [] [0, 4, 5, 6] [] [] [] [] [] ⟨[(0, .sl 1 (b.map e_u8)), (4, .int .i64 v1), (5, .int .i64 v4), (6, .int .i64 (w64 (v3.2 - 1)))], [], [], [], []⟩ .nil (by kernel_rfl) ?_
          refine Wk_trim (fs := [0, 4, 5, 6]) (bs := []) (rs := []) (ms := []) (aa := []) (nv := []) ?_ (ih2 _ (some_elim hF).symm)
          kernel_rfl
        · have hF := ite_f hF hb
          refine Wk_exit rfl ?_
          have hF := inrO_done hF dn2
          exact Wk_metP v3.1 [0, 4, 5] [] [] [] [] [] hF (by kernel_rfl)
      · intro v2 hF
        have hF : R_NumberAt_J2 b v1 v2 = some y1 := hF
        unfold R_NumberAt_J2 at hF
        refine Wk_seq ?_
        obtain ⟨x, h0, hF⟩ := ob_elim hF
        obtain ⟨h1, hF⟩ := asrt_elim hF
        obtain ⟨x1, h2, hF⟩ := lt_split hF
        refine WD [.call (.sl 1 (x.map e_u8)), .xs ((ltake b v1).map e_u8), .callB (.bool x1)] [0, 4, 5, 41] [] [] [] [] [] ⟨[(0, .sl 1 (b.map e_u8)), (4, .int .i64 v1), (5, .int .i64 v2), (41, .bool ((decide (v2 ≤ 1000000000)) && x1))], [], [], [], []⟩ (.cons (fun (ga0 : (decide (v2 ≤ 1000000000)) = true) => (R_Number_v1_ok v2 x (ite_t h0 ga0))) (.cons (fun (ga0 : (decide (v2 ≤ 1000000000)) = true) => (sl01_ok e_u8 (h1 ga0))) (.cons (fun (ga0 : (decide (v2 ≤ 1000000000)) = true) => (R_Same_ok x (ltake b v1) x1 h2)) .nil))) (by kernel_rfl) ?_
        refine Wk_split rfl (fun hb => ?_) (fun hb => ?_)
        · have hF := ite_t hF hb
          refine Wk_seq ?_
          refine WR [] [2, 3] [] [] [] [] [] ⟨[(2, .int .i64 v2), (3, .int .i64 v1)], [], [], [], []⟩ .nil (by kernel_rfl) ?_
          have hF := ret_done hF dn1
          have hF := some_elim hF
          exact Wk_ret (hfin _ ⟨[], [], [], [], [], [], by first | (rw [← hF]; kernel_rfl) | kernel_rfl⟩)
        · have hF := ite_f hF hb
          refine Wk_skip ?_
          refine Wk_blk ?_
          refine WR [] [0, 4] [] [] [] [] [] ⟨[(0, .sl 1 (b.map e_u8)), (4, .int .i64 (w64 (v1 + 1)))], [], [], [], []⟩ .nil (by kernel_rfl) ?_
          refine Wk_trim (fs := [0, 4]) (bs := []) (rs := []) (ms := []) (aa := []) (nv := []) ?_ (ih1 _ (some_elim hF).symm)
          kernel_rfl
    · have hF := ite_f hF hb
      refine Wk_exit rfl ?_
      have hF := inrO_done hF dn1
      exact Wk_metP () [] [] [] [] [] [] hF (by kernel_rfl)
  · intro v hF
    have hF : R_NumberAt_J1 v = some r := hF
    unfold R_NumberAt_J1 at hF
    refine Wk_seq ?_
    refine WR [] [2, 3] [] [] [] [] [] ⟨[(2, .int .i64 0), (3, .int .i64 0)], [], [], [], []⟩ .nil (by kernel_rfl) ?_
    have hF := some_elim hF
    exact Wk_ret (hfin _ ⟨[], [], [], [], [], [], by first | (rw [← hF]; kernel_rfl) | kernel_rfl⟩)

/- tabularyref.CellAt -/
noncomputable def R_CellAt_J1 (v : Cell × List (List UInt8) × List Int × Int) : Option (Cell × Int) :=
  asrt (0 ≤ (0 : Int) ∧ 0 < (v.2.1.length : Int)) <|
  asrt (0 ≤ (0 : Int) ∧ 0 < (v.2.1.length : Int)) <|
  asrt (0 ≤ (1 : Int) ∧ 1 < (v.2.1.length : Int)) <|
  asrt (0 ≤ (1 : Int) ∧ 1 < (v.2.1.length : Int)) <|
  asrt (0 ≤ (0 : Int) ∧ 0 < (v.2.2.1.length : Int)) <|
  asrt (0 ≤ (0 : Int) ∧ 0 < (v.2.2.1.length : Int)) <|
  asrt (0 ≤ (1 : Int) ∧ 1 < (v.2.2.1.length : Int)) <|
  asrt (0 ≤ (1 : Int) ∧ 1 < (v.2.2.1.length : Int)) <|
  asrt (0 ≤ (2 : Int) ∧ 2 < (v.2.1.length : Int)) <|
  asrt (0 ≤ (2 : Int) ∧ 2 < (v.2.1.length : Int)) <|
  asrt (0 ≤ (1 : Int) ∧ 1 < (v.2.2.1.length : Int)) <|
  asrt (0 ≤ (1 : Int) ∧ 1 < (v.2.2.1.length : Int)) <|
  lt (R_CellCode (⟨(lget v.2.1 0), (lget v.2.1 1), (lget v.2.2.1 0), decide ((lget v.2.2.1 1) = 1), (lget v.2.1 2)⟩ : Cell)) fun x =>
  if ((decide (1 < (lget v.2.2.1 1))) || (!decide (x = 0))) = true then
    some ((⟨([] : List UInt8), ([] : List UInt8), 0, false, ([] : List UInt8)⟩ : Cell), 0)
  else
    some ((⟨(lget v.2.1 0), (lget v.2.1 1), (lget v.2.2.1 0), decide ((lget v.2.2.1 1) = 1), (lget v.2.1 2)⟩ : Cell), v.2.2.2)
noncomputable def R_CellAt_J2 (v1 : Cell × List (List UInt8) × List Int × Int × Int) (v2 : Cell × List (List UInt8) × List Int × Int) : Option ((Cell × List (List UInt8) × List Int × Int × Int) ⊕ (Cell × Int)) :=
  some (Sum.inl (v2.1, v2.2.1, v2.2.2.1, v2.2.2.2, w64 (v1.2.2.2.2 + 1)))
noncomputable def R_CellAt_B1 (b : List UInt8) (v1 : Cell × List (List UInt8) × List Int × Int × Int) : Option ((Cell × List (List UInt8) × List Int × Int × Int) ⊕ (Cell × Int)) :=
  if (decide (v1.2.2.2.2 < 5)) = true then
    asrt (0 ≤ v1.2.2.2.1 ∧ v1.2.2.2.1 ≤ (b.length : Int)) <|
    ob (R_NumberAt (ldrop b v1.2.2.2.1)) fun x1 =>
    if (decide (x1.2 = 0)) = true then
      some (Sum.inr ((⟨([] : List UInt8), ([] : List UInt8), 0, false, ([] : List UInt8)⟩ : Cell), 0))
    else
      if ((decide (v1.2.2.2.2 = 2)) || (decide (v1.2.2.2.2 = 3))) = true then
        asrt (((v1.2.2.1 ++ ([x1.1] : List Int)).length : Int) * 8 ≤ 140737488351232) <|
        R_CellAt_J2 v1 (v1.1, v1.2.1, (v1.2.2.1 ++ ([x1.1] : List Int)), w64 (v1.2.2.2.1 + x1.2))
      else
        if (decide ((w64 ((b.length : Int) - (w64 (v1.2.2.2.1 + x1.2)))) < x1.1)) = true then
          some (Sum.inr ((⟨([] : List UInt8), ([] : List UInt8), 0, false, ([] : List UInt8)⟩ : Cell), 0))
        else
          asrt (0 ≤ w64 (v1.2.2.2.1 + x1.2) ∧ w64 (v1.2.2.2.1 + x1.2) ≤ w64 ((w64 (v1.2.2.2.1 + x1.2)) + x1.1) ∧ w64 ((w64 (v1.2.2.2.1 + x1.2)) + x1.1) ≤ (b.length : Int)) <|
          asrt (((v1.2.1 ++ ([(ldrop (ltake b (w64 ((w64 (v1.2.2.2.1 + x1.2)) + x1.1))) (w64 (v1.2.2.2.1 + x1.2)))] : List (List UInt8))).length : Int) * 16 ≤ 140737488351232) <|
          lt ((v1.2.1 ++ ([(ldrop (ltake b (w64 ((w64 (v1.2.2.2.1 + x1.2)) + x1.1))) (w64 (v1.2.2.2.1 + x1.2)))] : List (List UInt8)))) fun (v3 : List (List UInt8)) =>
          R_CellAt_J2 v1 (v1.1, v3, v1.2.2.1, w64 ((w64 (v1.2.2.2.1 + x1.2)) + x1.1))
  else
    inrO (R_CellAt_J1 (v1.1, v1.2.1, v1.2.2.1, v1.2.2.2.1))
noncomputable def R_CellAt_L1 (b : List UInt8) (v0 : Cell × List (List UInt8) × List Int × Int × Int) : Option (Cell × Int) :=
  loopO (fun y => R_CellAt_B1 b y) v0
noncomputable def R_CellAt (b : List UInt8) : Option (Cell × Int) :=
  R_CellAt_L1 b ((⟨([] : List UInt8), ([] : List UInt8), 0, false, ([] : List UInt8)⟩ : Cell), ([] : List (List UInt8)), ([] : List Int), 0, 0)
theorem R_CellAt_ok (b : List UInt8) (r : Cell × Int) (hF : R_CellAt b = some r) : Pe Try.prog 62 S.none [.sl 1 (b.map e_u8)] (.tup [.agg [.str r.1.Row, .str r.1.Col, .int .i64 r.1.Time, .bool r.1.Gone, .str r.1.Value], .int .i64 r.2]) S.none := by
  refine Pe_of (N := 87) (res := [.cell 2 37, .tmp 3]) (ts := [37, 3]) Ty.ok Fn.b62 Try.func62 rfl rfl rfl rfl rfl rfl ?_
  intro Q g hfin
  unfold R_CellAt at hF
  refine Wk_seq ?_
  refine WR [] [0, 2] [2] [] [] [] [] ⟨[(0, .sl 1 (b.map e_u8)), (2, .ptr 2 0)], [(2, [.str [], .str [], .int .i64 0, .bool false, .str []])], [], [], []⟩ .nil (by kernel_rfl) ?_
  refine Wk_seq ?_
  refine WR [] [0, 2, 4] [2] [] [] [] [] ⟨[(0, .sl 1 (b.map e_u8)), (2, .ptr 2 0), (4, .nils)], [(2, [.str [], .str [], .int .i64 0, .bool false, .str []])], [], [], []⟩ .nil (by kernel_rfl) ?_
  refine Wk_seq ?_
  refine WR [] [0, 2, 4, 5] [2] [] [] [] [] ⟨[(0, .sl 1 (b.map e_u8)), (2, .ptr 2 0), (4, .nils), (5, .nils)], [(2, [.str [], .str [], .int .i64 0, .bool false, .str []])], [], [], []⟩ .nil (by kernel_rfl) ?_
  refine Wk_seq ?_
  refine WR [] [0, 2, 4, 5, 6] [2] [] [] [] [] ⟨[(0, .sl 1 (b.map e_u8)), (2, .ptr 2 0), (4, .nils), (5, .nils), (6, .int .i64 0)], [(2, [.str [], .str [], .int .i64 0, .bool false, .str []])], [], [], []⟩ .nil (by kernel_rfl) ?_
  refine Wk_seq ?_
  refine Wk_seq ?_
  refine WR [] [0, 2, 4, 5, 6, 7] [2] [] [] [] [] ⟨[(0, .sl 1 (b.map e_u8)), (2, .ptr 2 0), (4, .nils), (5, .nils), (6, .int .i64 0), (7, .int .i64 0)], [(2, [.str [], .str [], .int .i64 0, .bool false, .str []])], [], [], []⟩ .nil (by kernel_rfl) ?_
  refine Wk_meetP (fun v : Cell × List (List UInt8) × List Int × Int => (⟨[(2, .ptr 2 0), (4, .row 54 0), (5, .row 37 0), (6, .int .i64 v.2.2.2)], [(2, [.str v.1.Row, .str v.1.Col, .int .i64 v.1.Time, .bool v.1.Gone, .str v.1.Value])], [(37, ⟨3, 1, 0, 0, 0, true, 0, [], (v.2.2.1.map e_i64)⟩), (54, ⟨9, 1, 0, 0, 0, true, 0, [], (v.2.1.map e_str)⟩)], [], []⟩ : S)) (fun v => R_CellAt_J1 v = some r) ?_ ?_
  · refine Wk_block ?_
    unfold R_CellAt_L1 at hF
    refine Wk_nilrow 4 60000 9 1 rfl rfl rfl ?_
    refine Wk_nilrow 5 60001 3 1 rfl rfl rfl ?_
    refine Wk_trim (fs := [0, 2, 4, 5, 6, 7]) (bs := [2]) (rs := [60000, 60001]) (ms := []) (aa := []) (nv := []) rfl ?_
    refine Wk_ren' ⟨[], [(60000, 54), (60001, 37)], [], []⟩ rfl ?_
    refine Wk_trim (fs := [0, 2, 4, 5, 6, 7]) (bs := [2]) (rs := [37, 54]) (ms := []) (aa := []) (nv := []) (t := (fun v1 : Cell × List (List UInt8) × List Int × Int × Int => (⟨[(0, .sl 1 (b.map e_u8)), (2, .ptr 2 0), (4, .row 54 0), (5, .row 37 0), (6, .int .i64 v1.2.2.2.1), (7, .int .i64 v1.2.2.2.2)], [(2, [.str v1.1.Row, .str v1.1.Col, .int .i64 v1.1.Time, .bool v1.1.Gone, .str v1.1.Value])], [(37, ⟨3, 1, 0, 0, 0, true, 0, [], (v1.2.2.1.map e_i64)⟩), (54, ⟨9, 1, 0, 0, 0, true, 0, [], (v1.2.1.map e_str)⟩)], [], []⟩ : S)) ((⟨([] : List UInt8), ([] : List UInt8), 0, false, ([] : List UInt8)⟩ : Cell), ([] : List (List UInt8)), ([] : List Int), 0, 0)) (by kernel_rfl) ?_
    refine Wk_iter (step := fun y => R_CellAt_B1 b y) (r := r) (fun v1 : Cell × List (List UInt8) × List Int × Int × Int => (⟨[(0, .sl 1 (b.map e_u8)), (2, .ptr 2 0), (4, .row 54 0), (5, .row 37 0), (6, .int .i64 v1.2.2.2.1), (7, .int .i64 v1.2.2.2.2)], [(2, [.str v1.1.Row, .str v1.1.Col, .int .i64 v1.1.Time, .bool v1.1.Gone, .str v1.1.Value])], [(37, ⟨3, 1, 0, 0, 0, true, 0, [], (v1.2.2.1.map e_i64)⟩), (54, ⟨9, 1, 0, 0, 0, true, 0, [], (v1.2.1.map e_str)⟩)], [], []⟩ : S)) ((⟨([] : List UInt8), ([] : List UInt8), 0, false, ([] : List UInt8)⟩ : Cell), ([] : List (List UInt8)), ([] : List Int), 0, 0) hF ?_
    intro n1 v1 y1 hF ih1 dn1
    have hF : R_CellAt_B1 b v1 = some y1 := hF
    unfold R_CellAt_B1 at hF
    refine Wk_seq ?_
    refine Wk_seq ?_
    refine WR [] [0, 2, 4, 5, 6, 7, 12] [2] [37, 54] [] [] [] ⟨[(0, .sl 1 (b.map e_u8)), (2, .ptr 2 0), (4, .row 54 0), (5, .row 37 0), (6, .int .i64 v1.2.2.2.1), (7, .int .i64 v1.2.2.2.2), (12, .bool (decide (v1.2.2.2.2 < 5)))], [(2, [.str v1.1.Row, .str v1.1.Col, .int .i64 v1.1.Time, .bool v1.1.Gone, .str v1.1.Value])], [(37, ⟨3, 1, 0, 0, 0, true, 0, [], (v1.2.2.1.map e_i64)⟩), (54, ⟨9, 1, 0, 0, 0, true, 0, [], (v1.2.1.map e_str)⟩)], [], []⟩ .nil (by kernel_rfl) ?_
    refine Wk_split rfl (fun hb => ?_) (fun hb => ?_)
    · have hF := ite_t hF hb
      refine Wk_skip ?_
      refine Wk_seq ?_
      refine Wk_meetP (fun v2 : Cell × List (List UInt8) × List Int × Int => (⟨[(0, .sl 1 (b.map e_u8)), (2, .ptr 2 0), (4, .row 54 0), (5, .row 37 0), (6, .int .i64 v2.2.2.2), (7, .int .i64 v1.2.2.2.2)], [(2, [.str v2.1.Row, .str v2.1.Col, .int .i64 v2.1.Time, .bool v2.1.Gone, .str v2.1.Value])], [(37, ⟨3, 1, 0, 0, 0, true, 0, [], (v2.2.2.1.map e_i64)⟩), (54, ⟨9, 1, 0, 0, 0, true, 0, [], (v2.2.1.map e_str)⟩)], [], []⟩ : S)) (fun v2 => R_CellAt_J2 v1 v2 = some y1) ?_ ?_
      · refine Wk_block ?_
        refine Wk_seq ?_
        obtain ⟨h13, hF⟩ := asrt_elim hF
        obtain ⟨x1, h14, hF⟩ := ob_elim hF
        refine WR [.xs ((ldrop b v1.2.2.2.1).map e_u8), .callB (.tup [.int .i64 x1.1, .int .i64 x1.2])] [0, 2, 4, 5, 6, 7, 8, 9] [2] [37, 54] [] [] [] ⟨[(0, .sl 1 (b.map e_u8)), (2, .ptr 2 0), (4, .row 54 0), (5, .row 37 0), (6, .int .i64 v1.2.2.2.1), (7, .int .i64 v1.2.2.2.2), (8, .int .i64 x1.1), (9, .int .i64 x1.2)], [(2, [.str v1.1.Row, .str v1.1.Col, .int .i64 v1.1.Time, .bool v1.1.Gone, .str v1.1.Value])], [(37, ⟨3, 1, 0, 0, 0, true, 0, [], (v1.2.2.1.map e_i64)⟩), (54, ⟨9, 1, 0, 0, 0, true, 0, [], (v1.2.1.map e_str)⟩)], [], []⟩ (.cons (sl10_ok e_u8 h13) (.cons (R_NumberAt_ok (ldrop b v1.2.2.2.1) x1 h14) .nil)) (by kernel_rfl) ?_
        refine Wk_seq ?_
        refine Wk_seq ?_
        refine WR [] [0, 2, 4, 5, 6, 7, 8, 9, 23] [2] [37, 54] [] [] [] ⟨[(0, .sl 1 (b.map e_u8)), (2, .ptr 2 0), (4, .row 54 0), (5, .row 37 0), (6, .int .i64 v1.2.2.2.1), (7, .int .i64 v1.2.2.2.2), (8, .int .i64 x1.1), (9, .int .i64 x1.2), (23, .bool (decide (x1.2 = 0)))], [(2, [.str v1.1.Row, .str v1.1.Col, .int .i64 v1.1.Time, .bool v1.1.Gone, .str v1.1.Value])], [(37, ⟨3, 1, 0, 0, 0, true, 0, [], (v1.2.2.1.map e_i64)⟩), (54, ⟨9, 1, 0, 0, 0, true, 0, [], (v1.2.1.map e_str)⟩)], [], []⟩ .nil (by kernel_rfl) ?_
        refine Wk_split rfl (fun hb => ?_) (fun hb => ?_)
        · have hF := ite_t hF hb
          refine Wk_seq ?_
          refine WR [] [2, 3] [2] [] [] [] [] ⟨[(2, .ptr 2 0), (3, .int .i64 0)], [(2, [.str [], .str [], .int .i64 0, .bool false, .str []])], [], [], []⟩ .nil (by kernel_rfl) ?_
          have hF := ret_done hF dn1
          have hF := some_elim hF
          exact Wk_ret (hfin _ ⟨[], [], [], [], [], [], by first | (rw [← hF]; kernel_rfl) | kernel_rfl⟩)
        · have hF := ite_f hF hb
          refine Wk_skip ?_
          refine Wk_seq ?_
          refine WR [] [0, 2, 4, 5, 6, 7, 8] [2] [37, 54] [] [] [] ⟨[(0, .sl 1 (b.map e_u8)), (2, .ptr 2 0), (4, .row 54 0), (5, .row 37 0), (6, .int .i64 (w64 (v1.2.2.2.1 + x1.2))), (7, .int .i64 v1.2.2.2.2), (8, .int .i64 x1.1)], [(2, [.str v1.1.Row, .str v1.1.Col, .int .i64 v1.1.Time, .bool v1.1.Gone, .str v1.1.Value])], [(37, ⟨3, 1, 0, 0, 0, true, 0, [], (v1.2.2.1.map e_i64)⟩), (54, ⟨9, 1, 0, 0, 0, true, 0, [], (v1.2.1.map e_str)⟩)], [], []⟩ .nil (by kernel_rfl) ?_
          refine Wk_seq ?_
          refine Wk_seq ?_
          refine WR [] [0, 2, 4, 5, 6, 7, 8, 33] [2] [37, 54] [] [] [] ⟨[(0, .sl 1 (b.map e_u8)), (2, .ptr 2 0), (4, .row 54 0), (5, .row 37 0), (6, .int .i64 (w64 (v1.2.2.2.1 + x1.2))), (7, .int .i64 v1.2.2.2.2), (8, .int .i64 x1.1), (33, .bool ((decide (v1.2.2.2.2 = 2)) || (decide (v1.2.2.2.2 = 3))))], [(2, [.str v1.1.Row, .str v1.1.Col, .int .i64 v1.1.Time, .bool v1.1.Gone, .str v1.1.Value])], [(37, ⟨3, 1, 0, 0, 0, true, 0, [], (v1.2.2.1.map e_i64)⟩), (54, ⟨9, 1, 0, 0, 0, true, 0, [], (v1.2.1.map e_str)⟩)], [], []⟩ .nil (by kernel_rfl) ?_
          refine Wk_split rfl (fun hb => ?_) (fun hb => ?_)
          · have hF := ite_t hF hb
            refine Wk_seq ?_
            obtain ⟨h15, hF⟩ := asrt_elim hF
            refine WR [.sealed, .xs ((v1.2.2.1 ++ ([x1.1] : List Int)).map e_i64)] [0, 2, 4, 5, 6, 7] [2] [37, 54] [] [] [] ⟨[(0, .sl 1 (b.map e_u8)), (2, .ptr 2 0), (4, .row 54 0), (5, .row 37 1), (6, .int .i64 (w64 (v1.2.2.2.1 + x1.2))), (7, .int .i64 v1.2.2.2.2)], [(2, [.str v1.1.Row, .str v1.1.Col, .int .i64 v1.1.Time, .bool v1.1.Gone, .str v1.1.Value])], [(37, ⟨3, 1, 1, 0, 0, true, 0, [], ((v1.2.2.1 ++ ([x1.1] : List Int)).map e_i64)⟩), (54, ⟨9, 1, 0, 0, 0, true, 0, [], (v1.2.1.map e_str)⟩)], [], []⟩ (.cons (app_ok e_i64 v1.2.2.1 ([x1.1] : List Int)) (.cons (appl_ok e_i64 h15) .nil)) (by kernel_rfl) ?_
            refine Wk_exit rfl ?_
            exact Wk_metP (v1.1, v1.2.1, (v1.2.2.1 ++ ([x1.1] : List Int)), w64 (v1.2.2.2.1 + x1.2)) [0, 2, 4, 5, 6, 7] [2] [37, 54] [] [] [(37, ⟨0, true, true, false⟩)] hF (by kernel_rfl)
          · have hF := ite_f hF hb
            refine Wk_skip ?_
            refine Wk_seq ?_
            refine Wk_seq ?_
            refine WR [.nat (b.length : Int)] [0, 2, 4, 5, 6, 7, 8, 43] [2] [37, 54] [] [] [] ⟨[(0, .sl 1 (b.map e_u8)), (2, .ptr 2 0), (4, .row 54 0), (5, .row 37 0), (6, .int .i64 (w64 (v1.2.2.2.1 + x1.2))), (7, .int .i64 v1.2.2.2.2), (8, .int .i64 x1.1), (43, .bool (decide ((w64 ((b.length : Int) - (w64 (v1.2.2.2.1 + x1.2)))) < x1.1)))], [(2, [.str v1.1.Row, .str v1.1.Col, .int .i64 v1.1.Time, .bool v1.1.Gone, .str v1.1.Value])], [(37, ⟨3, 1, 0, 0, 0, true, 0, [], (v1.2.2.1.map e_i64)⟩), (54, ⟨9, 1, 0, 0, 0, true, 0, [], (v1.2.1.map e_str)⟩)], [], []⟩ (.cons (len_ok e_u8 b) .nil) (by kernel_rfl) ?_
            refine Wk_split rfl (fun hb => ?_) (fun hb => ?_)
            · have hF := ite_t hF hb
              refine Wk_seq ?_
              refine WR [] [2, 3] [2] [] [] [] [] ⟨[(2, .ptr 2 0), (3, .int .i64 0)], [(2, [.str [], .str [], .int .i64 0, .bool false, .str []])], [], [], []⟩ .nil (by kernel_rfl) ?_
              have hF := ret_done hF dn1
              have hF := some_elim hF
              exact Wk_ret (hfin _ ⟨[], [], [], [], [], [], by first | (rw [← hF]; kernel_rfl) | kernel_rfl⟩)
            · have hF := ite_f hF hb
              refine Wk_skip ?_
              refine Wk_seq ?_
              obtain ⟨h16, hF⟩ := asrt_elim hF
              obtain ⟨h17, hF⟩ := asrt_elim hF
              refine WRL ((v1.2.1 ++ ([(ldrop (ltake b (w64 ((w64 (v1.2.2.2.1 + x1.2)) + x1.1))) (w64 (v1.2.2.2.1 + x1.2)))] : List (List UInt8)))) (fun v3 : List (List UInt8) => ⟨[(0, .sl 1 (b.map e_u8)), (2, .ptr 2 0), (4, .row 54 1), (5, .row 37 0), (6, .int .i64 (w64 (v1.2.2.2.1 + x1.2))), (7, .int .i64 v1.2.2.2.2), (8, .int .i64 x1.1)], [(2, [.str v1.1.Row, .str v1.1.Col, .int .i64 v1.1.Time, .bool v1.1.Gone, .str v1.1.Value])], [(37, ⟨3, 1, 0, 0, 0, true, 0, [], (v1.2.2.1.map e_i64)⟩), (54, ⟨9, 1, 1, 0, 0, true, 0, [], (v3.map e_str)⟩)], [], []⟩) [.xs ((ldrop (ltake b (w64 ((w64 (v1.2.2.2.1 + x1.2)) + x1.1))) (w64 (v1.2.2.2.1 + x1.2))).map e_u8), .str (ldrop (ltake b (w64 ((w64 (v1.2.2.2.1 + x1.2)) + x1.1))) (w64 (v1.2.2.2.1 + x1.2))), .sealed, .xs ((v1.2.1 ++ ([(ldrop (ltake b (w64 ((w64 (v1.2.2.2.1 + x1.2)) + x1.1))) (w64 (v1.2.2.2.1 + x1.2)))] : List (List UInt8))).map e_str)] [0, 2, 4, 5, 6, 7, 8] [2] [37, 54] [] [] [] (.cons (sl11_ok e_u8 h16) (.cons (u8s_ok (ldrop (ltake b (w64 ((w64 (v1.2.2.2.1 + x1.2)) + x1.1))) (w64 (v1.2.2.2.1 + x1.2)))) (.cons (app_ok e_str v1.2.1 ([(ldrop (ltake b (w64 ((w64 (v1.2.2.2.1 + x1.2)) + x1.1))) (w64 (v1.2.2.2.1 + x1.2)))] : List (List UInt8))) (.cons (appl_ok e_str h17) .nil)))) (by kernel_rfl) (fun v3 hv => ?_)
              have hF := lt_elim hF hv
              refine WR [] [0, 2, 4, 5, 6, 7] [2] [37, 54] [] [] [] ⟨[(0, .sl 1 (b.map e_u8)), (2, .ptr 2 0), (4, .row 54 1), (5, .row 37 0), (6, .int .i64 (w64 ((w64 (v1.2.2.2.1 + x1.2)) + x1.1))), (7, .int .i64 v1.2.2.2.2)], [(2, [.str v1.1.Row, .str v1.1.Col, .int .i64 v1.1.Time, .bool v1.1.Gone, .str v1.1.Value])], [(37, ⟨3, 1, 0, 0, 0, true, 0, [], (v1.2.2.1.map e_i64)⟩), (54, ⟨9, 1, 1, 0, 0, true, 0, [], (v3.map e_str)⟩)], [], []⟩ .nil (by kernel_rfl) ?_
              refine Wk_blk ?_
              exact Wk_metP (v1.1, v3, v1.2.2.1, w64 ((w64 (v1.2.2.2.1 + x1.2)) + x1.1)) [0, 2, 4, 5, 6, 7] [2] [37, 54] [] [] [(54, ⟨0, true, true, false⟩)] hF (by kernel_rfl)
      · intro v2 hF
        have hF : R_CellAt_J2 v1 v2 = some y1 := hF
        unfold R_CellAt_J2 at hF
        refine WR [] [0, 2, 4, 5, 6, 7] [2] [37, 54] [] [] [] ⟨[(0, .sl 1 (b.map e_u8)), (2, .ptr 2 0), (4, .row 54 0), (5, .row 37 0), (6, .int .i64 v2.2.2.2), (7, .int .i64 (w64 (v1.2.2.2.2 + 1)))], [(2, [.str v2.1.Row, .str v2.1.Col, .int .i64 v2.1.Time, .bool v2.1.Gone, .str v2.1.Value])], [(37, ⟨3, 1, 0, 0, 0, true, 0, [], (v2.2.2.1.map e_i64)⟩), (54, ⟨9, 1, 0, 0, 0, true, 0, [], (v2.2.1.map e_str)⟩)], [], []⟩ .nil (by kernel_rfl) ?_
        refine Wk_trim (fs := [0, 2, 4, 5, 6, 7]) (bs := [2]) (rs := [37, 54]) (ms := []) (aa := []) (nv := []) ?_ (ih1 _ (some_elim hF).symm)
        kernel_rfl
    · have hF := ite_f hF hb
      refine Wk_exit rfl ?_
      have hF := inrO_done hF dn1
      exact Wk_metP (v1.1, v1.2.1, v1.2.2.1, v1.2.2.2.1) [2, 4, 5, 6] [2] [37, 54] [] [] [] hF (by kernel_rfl)
  · intro v hF
    have hF : R_CellAt_J1 v = some r := hF
    unfold R_CellAt_J1 at hF
    refine Wk_seq ?_
    obtain ⟨h0, hF⟩ := asrt_elim hF
    obtain ⟨h1, hF⟩ := asrt_elim hF
    obtain ⟨h2, hF⟩ := asrt_elim hF
    obtain ⟨h3, hF⟩ := asrt_elim hF
    obtain ⟨h4, hF⟩ := asrt_elim hF
    obtain ⟨h5, hF⟩ := asrt_elim hF
    obtain ⟨h6, hF⟩ := asrt_elim hF
    obtain ⟨h7, hF⟩ := asrt_elim hF
    obtain ⟨h8, hF⟩ := asrt_elim hF
    obtain ⟨h9, hF⟩ := asrt_elim hF
    refine WD [.av (e_str (lget v.2.1 0)), .av (e_str (lget v.2.1 1)), .av (e_i64 (lget v.2.2.1 0)), .av (e_i64 (lget v.2.2.1 1)), .av (e_str (lget v.2.1 2))] [2, 5, 6, 10] [2, 10] [37] [] [] [] ⟨[(2, .ptr 2 0), (5, .row 37 0), (6, .int .i64 v.2.2.2), (10, .ptr 10 0)], [(2, [.str v.1.Row, .str v.1.Col, .int .i64 v.1.Time, .bool v.1.Gone, .str v.1.Value]), (10, [.str (lget v.2.1 0), .str (lget v.2.1 1), .int .i64 (lget v.2.2.1 0), .bool (decide ((lget v.2.2.1 1) = 1)), .str (lget v.2.1 2)])], [(37, ⟨3, 1, 0, 0, 0, true, 0, [], (v.2.2.1.map e_i64)⟩)], [], []⟩ (.cons (ixr_ok e_str h0) (.cons (ldr_ok e_str h1) (.cons (ixr_ok e_str h2) (.cons (ldr_ok e_str h3) (.cons (ixr_ok e_i64 h4) (.cons (ldr_ok e_i64 h5) (.cons (ixr_ok e_i64 h6) (.cons (ldr_ok e_i64 h7) (.cons (ixr_ok e_str h8) (.cons (ldr_ok e_str h9) .nil)))))))))) (by kernel_rfl) ?_
    refine Wk_seq ?_
    refine Wk_seq ?_
    obtain ⟨h10, hF⟩ := asrt_elim hF
    obtain ⟨h11, hF⟩ := asrt_elim hF
    obtain ⟨x, h12, hF⟩ := lt_split hF
    refine WR [.av (e_i64 (lget v.2.2.1 1)), .callB (.int .i64 x)] [2, 6, 10, 83] [2, 10] [] [] [] [] ⟨[(2, .ptr 2 0), (6, .int .i64 v.2.2.2), (10, .ptr 10 0), (83, .bool ((decide (1 < (lget v.2.2.1 1))) || (!decide (x = 0))))], [(2, [.str v.1.Row, .str v.1.Col, .int .i64 v.1.Time, .bool v.1.Gone, .str v.1.Value]), (10, [.str (lget v.2.1 0), .str (lget v.2.1 1), .int .i64 (lget v.2.2.1 0), .bool (decide ((lget v.2.2.1 1) = 1)), .str (lget v.2.1 2)])], [], [], []⟩ (.cons (ixr_ok e_i64 h10) (.cons (ldr_ok e_i64 h11) (.cons (fun (ga0 : (!(decide (1 < (lget v.2.2.1 1)))) = true) => (R_CellCode_ok (⟨(lget v.2.1 0), (lget v.2.1 1), (lget v.2.2.1 0), decide ((lget v.2.2.1 1) = 1), (lget v.2.1 2)⟩ : Cell) x h12)) .nil))) (by kernel_rfl) ?_
    refine Wk_split rfl (fun hb => ?_) (fun hb => ?_)
    · have hF := ite_t hF hb
      refine Wk_seq ?_
      refine WR [] [2, 3] [2] [] [] [] [] ⟨[(2, .ptr 2 0), (3, .int .i64 0)], [(2, [.str [], .str [], .int .i64 0, .bool false, .str []])], [], [], []⟩ .nil (by kernel_rfl) ?_
      have hF := some_elim hF
      exact Wk_ret (hfin _ ⟨[], [], [], [], [], [], by first | (rw [← hF]; kernel_rfl) | kernel_rfl⟩)
    · have hF := ite_f hF hb
      refine Wk_skip ?_
      refine Wk_seq ?_
      refine WR [] [2, 3] [2] [] [] [] [] ⟨[(2, .ptr 2 0), (3, .int .i64 v.2.2.2)], [(2, [.str (lget v.2.1 0), .str (lget v.2.1 1), .int .i64 (lget v.2.2.1 0), .bool (decide ((lget v.2.2.1 1) = 1)), .str (lget v.2.1 2)])], [], [], []⟩ .nil (by kernel_rfl) ?_
      have hF := some_elim hF
      exact Wk_ret (hfin _ ⟨[], [], [], [], [], [], by first | (rw [← hF]; kernel_rfl) | kernel_rfl⟩)

/- tabularyref.CellsOf -/
noncomputable def R_CellsOf_v1_J1 (v : Fault × List Cell) : Option (List Cell × Fault) :=
  ob (R_CellsFault v.2) fun x1 =>
  if (!decide (x1.Code = 0)) = true then
    some (([] : List Cell), x1)
  else
    some (v.2, (⟨0, 0⟩ : Fault))
noncomputable def R_CellsOf_v1_B1 (v1 : List UInt8 × Fault × List Cell) : Option ((List UInt8 × Fault × List Cell) ⊕ (List Cell × Fault)) :=
  if (decide (0 < (v1.1.length : Int))) = true then
    ob (R_CellAt v1.1) fun x2 =>
    if (decide (x2.2 = 0)) = true then
      lt (R_F 5 (v1.2.2.length : Int)) fun x3 =>
      some (Sum.inr (([] : List Cell), x3))
    else
      asrt (((v1.2.2 ++ [x2.1]).length : Int) * 64 ≤ 140737488351232) <|
      asrt (0 ≤ x2.2 ∧ x2.2 ≤ (v1.1.length : Int)) <|
      some (Sum.inl ((ldrop v1.1 x2.2), v1.2.1, (v1.2.2 ++ [x2.1])))
  else
    inrO (R_CellsOf_v1_J1 (v1.2.1, v1.2.2))
noncomputable def R_CellsOf_v1_L1 (v0 : List UInt8 × Fault × List Cell) : Option (List Cell × Fault) :=
  loopO (fun y => R_CellsOf_v1_B1 y) v0
noncomputable def R_CellsOf_v1 (b : List UInt8) : Option (List Cell × Fault) :=
  if (decide (60000 < (b.length : Int))) = true then
    lt (R_F 8 0) fun x =>
    some (([] : List Cell), x)
  else
    R_CellsOf_v1_L1 (b, (⟨0, 0⟩ : Fault), ([] : List Cell))
theorem R_CellsOf_v1_ok (b : List UInt8) (r : List Cell × Fault) (hF : R_CellsOf_v1 b = some r) : Pe Try.prog 36 S.none [.sl 1 (b.map e_u8)] (.tup [.sl 5 (r.1.map e_Cell), .agg [.int .i64 r.2.Code, .int .i64 r.2.At]]) S.none := by
  refine Pe_of (N := 40) (res := [.tmp 2, .cell 3 28]) (ts := [22, 28]) Ty.ok Fn.b36 Try.func36 rfl rfl rfl rfl rfl rfl ?_
  intro Q g hfin
  unfold R_CellsOf_v1 at hF
  refine Wk_seq ?_
  refine WR [] [0, 3] [3] [] [] [] [] ⟨[(0, .sl 1 (b.map e_u8)), (3, .ptr 3 0)], [(3, [.int .i64 0, .int .i64 0])], [], [], []⟩ .nil (by kernel_rfl) ?_
  refine Wk_seq ?_
  refine Wk_seq ?_
  refine WR [.nat (b.length : Int)] [0, 3, 10] [3] [] [] [] [] ⟨[(0, .sl 1 (b.map e_u8)), (3, .ptr 3 0), (10, .bool (decide (60000 < (b.length : Int))))], [(3, [.int .i64 0, .int .i64 0])], [], [], []⟩ (.cons (len_ok e_u8 b) .nil) (by kernel_rfl) ?_
  refine Wk_split rfl (fun hb => ?_) (fun hb => ?_)
  · have hF := ite_t hF hb
    refine Wk_seq ?_
    obtain ⟨x, h0, hF⟩ := lt_split hF
    refine WR [.callB (.agg [.int .i64 x.Code, .int .i64 x.At])] [2, 3] [3] [] [] [] [] ⟨[(2, .nils), (3, .ptr 3 0)], [(3, [.int .i64 x.Code, .int .i64 x.At])], [], [], []⟩ (.cons (R_F_ok 8 0 x h0) .nil) (by kernel_rfl) ?_
    have hF := some_elim hF
    exact Wk_ret (hfin _ ⟨[], [], [], [], [], [], by first | (rw [← hF]; kernel_rfl) | kernel_rfl⟩)
  · have hF := ite_f hF hb
    refine Wk_skip ?_
    refine Wk_seq ?_
    refine WR [] [0, 3, 4] [3] [] [] [] [] ⟨[(0, .sl 1 (b.map e_u8)), (3, .ptr 3 0), (4, .nils)], [(3, [.int .i64 0, .int .i64 0])], [], [], []⟩ .nil (by kernel_rfl) ?_
    refine Wk_seq ?_
    refine Wk_meetP (fun v : Fault × List Cell => (⟨[(3, .ptr 3 0), (4, .row 28 0)], [(3, [.int .i64 v.1.Code, .int .i64 v.1.At])], [(28, ⟨37, 5, 0, 0, 0, true, 0, [], (v.2.map e_Cell)⟩)], [], []⟩ : S)) (fun v => R_CellsOf_v1_J1 v = some r) ?_ ?_
    · refine Wk_block ?_
      unfold R_CellsOf_v1_L1 at hF
      refine Wk_nilrow 4 60000 37 5 rfl rfl rfl ?_
      refine Wk_trim (fs := [0, 3, 4]) (bs := [3]) (rs := [60000]) (ms := []) (aa := []) (nv := []) rfl ?_
      refine Wk_ren' ⟨[], [(60000, 28)], [], []⟩ rfl ?_
      refine Wk_trim (fs := [0, 3, 4]) (bs := [3]) (rs := [28]) (ms := []) (aa := []) (nv := []) (t := (fun v1 : List UInt8 × Fault × List Cell => (⟨[(0, .sl 1 (v1.1.map e_u8)), (3, .ptr 3 0), (4, .row 28 0)], [(3, [.int .i64 v1.2.1.Code, .int .i64 v1.2.1.At])], [(28, ⟨37, 5, 0, 0, 0, true, 0, [], (v1.2.2.map e_Cell)⟩)], [], []⟩ : S)) (b, (⟨0, 0⟩ : Fault), ([] : List Cell))) (by kernel_rfl) ?_
      refine Wk_iter (step := fun y => R_CellsOf_v1_B1 y) (r := r) (fun v1 : List UInt8 × Fault × List Cell => (⟨[(0, .sl 1 (v1.1.map e_u8)), (3, .ptr 3 0), (4, .row 28 0)], [(3, [.int .i64 v1.2.1.Code, .int .i64 v1.2.1.At])], [(28, ⟨37, 5, 0, 0, 0, true, 0, [], (v1.2.2.map e_Cell)⟩)], [], []⟩ : S)) (b, (⟨0, 0⟩ : Fault), ([] : List Cell)) hF ?_
      intro n1 v1 y1 hF ih1 dn1
      have hF : R_CellsOf_v1_B1 v1 = some y1 := hF
      unfold R_CellsOf_v1_B1 at hF
      refine Wk_seq ?_
      refine Wk_seq ?_
      refine WR [.nat (v1.1.length : Int)] [0, 3, 4, 14] [3] [28] [] [] [] ⟨[(0, .sl 1 (v1.1.map e_u8)), (3, .ptr 3 0), (4, .row 28 0), (14, .bool (decide (0 < (v1.1.length : Int))))], [(3, [.int .i64 v1.2.1.Code, .int .i64 v1.2.1.At])], [(28, ⟨37, 5, 0, 0, 0, true, 0, [], (v1.2.2.map e_Cell)⟩)], [], []⟩ (.cons (len_ok e_u8 v1.1) .nil) (by kernel_rfl) ?_
      refine Wk_split rfl (fun hb => ?_) (fun hb => ?_)
      · have hF := ite_t hF hb
        refine Wk_skip ?_
        refine Wk_block ?_
        refine Wk_seq ?_
        obtain ⟨x2, h2, hF⟩ := ob_elim hF
        refine WR [.callB (.tup [.agg [.str x2.1.Row, .str x2.1.Col, .int .i64 x2.1.Time, .bool x2.1.Gone, .str x2.1.Value], .int .i64 x2.2])] [0, 3, 4, 5, 6] [3, 5] [28] [] [] [] ⟨[(0, .sl 1 (v1.1.map e_u8)), (3, .ptr 3 0), (4, .row 28 0), (5, .ptr 5 0), (6, .int .i64 x2.2)], [(3, [.int .i64 v1.2.1.Code, .int .i64 v1.2.1.At]), (5, [.str x2.1.Row, .str x2.1.Col, .int .i64 x2.1.Time, .bool x2.1.Gone, .str x2.1.Value])], [(28, ⟨37, 5, 0, 0, 0, true, 0, [], (v1.2.2.map e_Cell)⟩)], [], []⟩ (.cons (R_CellAt_ok v1.1 x2 h2) .nil) (by kernel_rfl) ?_
        refine Wk_seq ?_
        refine Wk_seq ?_
        refine WR [] [0, 3, 4, 5, 6, 21] [3, 5] [28] [] [] [] ⟨[(0, .sl 1 (v1.1.map e_u8)), (3, .ptr 3 0), (4, .row 28 0), (5, .ptr 5 0), (6, .int .i64 x2.2), (21, .bool (decide (x2.2 = 0)))], [(3, [.int .i64 v1.2.1.Code, .int .i64 v1.2.1.At]), (5, [.str x2.1.Row, .str x2.1.Col, .int .i64 x2.1.Time, .bool x2.1.Gone, .str x2.1.Value])], [(28, ⟨37, 5, 0, 0, 0, true, 0, [], (v1.2.2.map e_Cell)⟩)], [], []⟩ .nil (by kernel_rfl) ?_
        refine Wk_split rfl (fun hb => ?_) (fun hb => ?_)
        · have hF := ite_t hF hb
          refine Wk_seq ?_
          obtain ⟨x3, h3, hF⟩ := lt_split hF
          refine WR [.nat (v1.2.2.length : Int), .callB (.agg [.int .i64 x3.Code, .int .i64 x3.At])] [2, 3] [3] [] [] [] [] ⟨[(2, .nils), (3, .ptr 3 0)], [(3, [.int .i64 x3.Code, .int .i64 x3.At])], [], [], []⟩ (.cons (len_ok e_Cell v1.2.2) (.cons (R_F_ok 5 (v1.2.2.length : Int) x3 h3) .nil)) (by kernel_rfl) ?_
          have hF := ret_done hF dn1
          have hF := some_elim hF
          exact Wk_ret (hfin _ ⟨[], [], [], [], [], [], by first | (rw [← hF]; kernel_rfl) | kernel_rfl⟩)
        · have hF := ite_f hF hb
          refine Wk_skip ?_
          refine Wk_seq ?_
          obtain ⟨h4, hF⟩ := asrt_elim hF
          refine WR [.sealed, .xs ((v1.2.2 ++ [x2.1]).map e_Cell)] [0, 3, 4, 6] [3] [28] [] [] [] ⟨[(0, .sl 1 (v1.1.map e_u8)), (3, .ptr 3 0), (4, .row 28 1), (6, .int .i64 x2.2)], [(3, [.int .i64 v1.2.1.Code, .int .i64 v1.2.1.At])], [(28, ⟨37, 5, 1, 0, 0, true, 0, [], ((v1.2.2 ++ [x2.1]).map e_Cell)⟩)], [], []⟩ (.cons (app_ok e_Cell v1.2.2 [x2.1]) (.cons (appl_ok e_Cell h4) .nil)) (by kernel_rfl) ?_
          obtain ⟨h5, hF⟩ := asrt_elim hF
          refine WR [.xs ((ldrop v1.1 x2.2).map e_u8)] [0, 3, 4] [3] [28] [] [] [] ⟨[(0, .sl 1 ((ldrop v1.1 x2.2).map e_u8)), (3, .ptr 3 0), (4, .row 28 1)], [(3, [.int .i64 v1.2.1.Code, .int .i64 v1.2.1.At])], [(28, ⟨37, 5, 1, 0, 0, true, 0, [], ((v1.2.2 ++ [x2.1]).map e_Cell)⟩)], [], []⟩ (.cons (sl10_ok e_u8 h5) .nil) (by kernel_rfl) ?_
          refine Wk_blk ?_
          refine Wk_trim (fs := [0, 3, 4]) (bs := [3]) (rs := [28]) (ms := []) (aa := []) (nv := [(28, ⟨0, true, true, false⟩)]) ?_ (ih1 _ (some_elim hF).symm)
          kernel_rfl
      · have hF := ite_f hF hb
        refine Wk_exit rfl ?_
        have hF := inrO_done hF dn1
        exact Wk_metP (v1.2.1, v1.2.2) [3, 4] [3] [28] [] [] [] hF (by kernel_rfl)
    · intro v hF
      have hF : R_CellsOf_v1_J1 v = some r := hF
      unfold R_CellsOf_v1_J1 at hF
      refine Wk_seq ?_
      obtain ⟨x1, h1, hF⟩ := ob_elim hF
      refine WR [.callB (.agg [.int .i64 x1.Code, .int .i64 x1.At])] [3, 4, 7] [3, 7] [28] [] [] [] ⟨[(3, .ptr 3 0), (4, .row 28 0), (7, .ptr 7 0)], [(3, [.int .i64 v.1.Code, .int .i64 v.1.At]), (7, [.int .i64 x1.Code, .int .i64 x1.At])], [(28, ⟨37, 5, 0, 0, 0, true, 0, [], (v.2.map e_Cell)⟩)], [], []⟩ (.cons (R_CellsFault_ok v.2 x1 h1) .nil) (by kernel_rfl) ?_
      refine Wk_seq ?_
      refine Wk_seq ?_
      refine WR [] [3, 4, 7, 36] [3, 7] [28] [] [] [] ⟨[(3, .ptr 3 0), (4, .row 28 0), (7, .ptr 7 0), (36, .bool (!decide (x1.Code = 0)))], [(3, [.int .i64 v.1.Code, .int .i64 v.1.At]), (7, [.int .i64 x1.Code, .int .i64 x1.At])], [(28, ⟨37, 5, 0, 0, 0, true, 0, [], (v.2.map e_Cell)⟩)], [], []⟩ .nil (by kernel_rfl) ?_
      refine Wk_split rfl (fun hb => ?_) (fun hb => ?_)
      · have hF := ite_t hF hb
        refine Wk_seq ?_
        refine WD [] [2, 3] [3] [] [] [] [] ⟨[(2, .nils), (3, .ptr 3 0)], [(3, [.int .i64 x1.Code, .int .i64 x1.At])], [], [], []⟩ .nil (by kernel_rfl) ?_
        have hF := some_elim hF
        exact Wk_ret (hfin _ ⟨[], [], [], [], [], [], by first | (rw [← hF]; kernel_rfl) | kernel_rfl⟩)
      · have hF := ite_f hF hb
        refine Wk_skip ?_
        refine Wk_seq ?_
        refine WR [] [2, 3] [3] [28] [] [] [] ⟨[(2, .row 28 0), (3, .ptr 3 0)], [(3, [.int .i64 0, .int .i64 0])], [(28, ⟨37, 5, 0, 0, 0, true, 0, [], (v.2.map e_Cell)⟩)], [], []⟩ .nil (by kernel_rfl) ?_
        have hF := some_elim hF
        exact Wk_ret (hfin _ ⟨[], [], [], [], [], [], by first | (rw [← hF]; kernel_rfl) | kernel_rfl⟩)

/- tabularyref.Written -/
noncomputable def R_Written (s0 : List UInt8) : Option (List UInt8) :=
  ob (R_Number (s0.length : Int)) fun x =>
  asrt (((x ++ s0).length : Int) * 1 ≤ 140737488351232) <|
  some (x ++ s0)
theorem R_Written_ok (s0 : List UInt8) (r : List UInt8) (hF : R_Written s0 = some r) : Pe Try.prog 63 ⟨[], [], [], [], []⟩ [.str s0] (.row 5 1) ⟨[], [], [(5, ⟨5, 1, 1, 0, 0, true, 0, [], (r.map e_u8)⟩)], [], []⟩ := by
  refine Pe_of (N := 8) (res := [.tmp 2]) (ts := [56]) Ty.ok Fn.b63 Try.func63 rfl rfl rfl rfl rfl rfl ?_
  intro Q g hfin
  unfold R_Written at hF
  refine Wk_seq ?_
  refine WR [] [0] [] [] [] [] [] ⟨[(0, .str s0)], [], [], [], []⟩ .nil (by kernel_rfl) ?_
  refine Wk_seq ?_
  obtain ⟨x, h0, hF⟩ := ob_elim hF
  obtain ⟨h1, hF⟩ := asrt_elim hF
  refine WR [.callE [] [] [] [] (.row 5 0) ⟨[], [], [(5, ⟨5, 1, 0, 0, 0, true, 0, [], (x.map e_u8)⟩)], [], []⟩, .xs ((x ++ s0).map e_u8)] [2] [] [5] [] [] [] ⟨[(2, .row 5 1)], [], [(5, ⟨5, 1, 1, 0, 0, true, 0, [], ((x ++ s0).map e_u8)⟩)], [], []⟩ (.cons (Pe.ren (R_Number_ok (s0.length : Int) x h0) ⟨[], [(7, 5)], [], []⟩) (.cons (app_ok e_u8 x s0) (.cons (appl_ok e_u8 h1) .nil))) (by kernel_rfl) ?_
  have hF := some_elim hF
  exact Wk_ret (hfin _ ⟨[5], [], [5], [], [], [], by first | (rw [← hF]; kernel_rfl) | kernel_rfl⟩)

/- tabularyref.CellBytes -/
noncomputable def R_CellBytes_v1 (c : Cell) : Option (List UInt8) :=
  ob (R_Written c.Row) fun x =>
  ob (R_Written c.Col) fun x1 =>
  asrt (((x ++ x1).length : Int) * 1 ≤ 140737488351232) <|
  ob (R_Number c.Time) fun x2 =>
  asrt ((((x ++ x1) ++ x2).length : Int) * 1 ≤ 140737488351232) <|
  ob (
    if c.Gone = true then
      asrt (((((x ++ x1) ++ x2) ++ ([(1 : UInt8)] : List UInt8)).length : Int) * 1 ≤ 140737488351232) <|
      some (c, (((x ++ x1) ++ x2) ++ ([(1 : UInt8)] : List UInt8)))
    else
      asrt (((((x ++ x1) ++ x2) ++ ([(0 : UInt8)] : List UInt8)).length : Int) * 1 ≤ 140737488351232) <|
      some (c, (((x ++ x1) ++ x2) ++ ([(0 : UInt8)] : List UInt8)))) fun (v : Cell × List UInt8) =>
  ob (R_Written v.1.Value) fun x3 =>
  asrt (((v.2 ++ x3).length : Int) * 1 ≤ 140737488351232) <|
  some (v.2 ++ x3)
theorem R_CellBytes_v1_ok (c : Cell) (r : List UInt8) (hF : R_CellBytes_v1 c = some r) : Pe Try.prog 37 S.none [.agg [.str c.Row, .str c.Col, .int .i64 c.Time, .bool c.Gone, .str c.Value]] (.sl 1 (r.map e_u8)) S.none := by
  refine Pe_of (N := 29) (res := [.tmp 2]) (ts := [56]) Ty.ok Fn.b37 Try.func37 rfl rfl rfl rfl rfl rfl ?_
  intro Q g hfin
  unfold R_CellBytes_v1 at hF
  refine Wk_seq ?_
  refine WR [] [1] [1] [] [] [] [] ⟨[(1, .ptr 1 0)], [(1, [.str c.Row, .str c.Col, .int .i64 c.Time, .bool c.Gone, .str c.Value])], [], [], []⟩ .nil (by kernel_rfl) ?_
  refine Wk_seq ?_
  obtain ⟨x, h0, hF⟩ := ob_elim hF
  obtain ⟨x1, h1, hF⟩ := ob_elim hF
  obtain ⟨h2, hF⟩ := asrt_elim hF
  refine WD [.callE [] [] [] [] (.row 6 1) ⟨[], [], [(6, ⟨5, 1, 1, 0, 0, true, 0, [], (x.map e_u8)⟩)], [], []⟩, .callE [] [] [] [] (.row 9 1) ⟨[], [], [(9, ⟨5, 1, 1, 0, 0, true, 0, [], (x1.map e_u8)⟩)], [], []⟩, .xs ((x ++ x1).map e_u8)] [1, 3] [1] [6] [] [] [] ⟨[(1, .ptr 1 0), (3, .row 6 2)], [(1, [.str c.Row, .str c.Col, .int .i64 c.Time, .bool c.Gone, .str c.Value])], [(6, ⟨5, 1, 2, 0, 0, true, 0, [], ((x ++ x1).map e_u8)⟩)], [], []⟩ (.cons (Pe.ren (R_Written_ok c.Row x h0) ⟨[], [(5, 6)], [], []⟩) (.cons (Pe.ren (R_Written_ok c.Col x1 h1) ⟨[], [(5, 9)], [], []⟩) (.cons (app_ok e_u8 x x1) (.cons (appl_ok e_u8 h2) .nil)))) (by kernel_rfl) ?_
  refine Wk_seq ?_
  obtain ⟨x2, h3, hF⟩ := ob_elim hF
  obtain ⟨h4, hF⟩ := asrt_elim hF
  refine WR [.callE [] [] [] [] (.row 14 0) ⟨[], [], [(14, ⟨5, 1, 0, 0, 0, true, 0, [], (x2.map e_u8)⟩)], [], []⟩, .xs (((x ++ x1) ++ x2).map e_u8)] [1, 3] [1] [6] [] [] [] ⟨[(1, .ptr 1 0), (3, .row 6 3)], [(1, [.str c.Row, .str c.Col, .int .i64 c.Time, .bool c.Gone, .str c.Value])], [(6, ⟨5, 1, 3, 0, 0, true, 0, [], (((x ++ x1) ++ x2).map e_u8)⟩)], [], []⟩ (.cons (Pe.ren (R_Number_ok c.Time x2 h3) ⟨[], [(7, 14)], [], []⟩) (.cons (app_ok e_u8 (x ++ x1) x2) (.cons (appl_ok e_u8 h4) .nil))) (by kernel_rfl) ?_
  refine Wk_seq ?_
  refine Wk_seq ?_
  refine WR [] [1, 3, 17] [1] [6] [] [] [] ⟨[(1, .ptr 1 0), (3, .row 6 3), (17, .bool c.Gone)], [(1, [.str c.Row, .str c.Col, .int .i64 c.Time, .bool c.Gone, .str c.Value])], [(6, ⟨5, 1, 3, 0, 0, true, 0, [], (((x ++ x1) ++ x2).map e_u8)⟩)], [], []⟩ .nil (by kernel_rfl) ?_
  obtain ⟨v, hv, hF⟩ := ob_elim hF
  refine Wk_meet (⟨[(1, .ptr 1 0), (3, .row 6 4)], [(1, [.str v.1.Row, .str v.1.Col, .int .i64 v.1.Time, .bool v.1.Gone, .str v.1.Value])], [(6, ⟨5, 1, 4, 0, 0, true, 0, [], (v.2.map e_u8)⟩)], [], []⟩ : S) ?_ ?_
  · have hF := hv
    refine Wk_split rfl (fun hb => ?_) (fun hb => ?_)
    · have hF := ite_t hF hb
      obtain ⟨h5, hF⟩ := asrt_elim hF
      refine WR [.sealed, .xs ((((x ++ x1) ++ x2) ++ ([(1 : UInt8)] : List UInt8)).map e_u8)] [1, 3] [1] [6] [] [] [] ⟨[(1, .ptr 1 0), (3, .row 6 4)], [(1, [.str c.Row, .str c.Col, .int .i64 c.Time, .bool c.Gone, .str c.Value])], [(6, ⟨5, 1, 4, 0, 0, true, 0, [], ((((x ++ x1) ++ x2) ++ ([(1 : UInt8)] : List UInt8)).map e_u8)⟩)], [], []⟩ (.cons (app_ok e_u8 ((x ++ x1) ++ x2) ([(1 : UInt8)] : List UInt8)) (.cons (appl_ok e_u8 h5) .nil)) (by kernel_rfl) ?_
      exact Wk_met (fs := [1, 3]) (bs := [1]) (rs := [6]) (ms := []) (aa := []) (nv := []) (by first | (rw [← some_elim hF]; kernel_rfl) | kernel_rfl)
    · have hF := ite_f hF hb
      obtain ⟨h6, hF⟩ := asrt_elim hF
      refine WR [.sealed, .xs ((((x ++ x1) ++ x2) ++ ([(0 : UInt8)] : List UInt8)).map e_u8)] [1, 3] [1] [6] [] [] [] ⟨[(1, .ptr 1 0), (3, .row 6 4)], [(1, [.str c.Row, .str c.Col, .int .i64 c.Time, .bool c.Gone, .str c.Value])], [(6, ⟨5, 1, 4, 0, 0, true, 0, [], ((((x ++ x1) ++ x2) ++ ([(0 : UInt8)] : List UInt8)).map e_u8)⟩)], [], []⟩ (.cons (app_ok e_u8 ((x ++ x1) ++ x2) ([(0 : UInt8)] : List UInt8)) (.cons (appl_ok e_u8 h6) .nil)) (by kernel_rfl) ?_
      exact Wk_met (fs := [1, 3]) (bs := [1]) (rs := [6]) (ms := []) (aa := []) (nv := []) (by first | (rw [← some_elim hF]; kernel_rfl) | kernel_rfl)
  · refine Wk_seq ?_
    obtain ⟨x3, h7, hF⟩ := ob_elim hF
    obtain ⟨h8, hF⟩ := asrt_elim hF
    refine WR [.callE [] [] [] [] (.row 27 1) ⟨[], [], [(27, ⟨5, 1, 1, 0, 0, true, 0, [], (x3.map e_u8)⟩)], [], []⟩, .xs ((v.2 ++ x3).map e_u8)] [2] [] [6] [] [] [] ⟨[(2, .row 6 5)], [], [(6, ⟨5, 1, 5, 0, 0, true, 0, [], ((v.2 ++ x3).map e_u8)⟩)], [], []⟩ (.cons (Pe.ren (R_Written_ok v.1.Value x3 h7) ⟨[], [(5, 27)], [], []⟩) (.cons (app_ok e_u8 v.2 x3) (.cons (appl_ok e_u8 h8) .nil))) (by kernel_rfl) ?_
    have hF := some_elim hF
    exact Wk_ret (hfin _ ⟨[], [], [], [], [], [], by first | (rw [← hF]; kernel_rfl) | kernel_rfl⟩)

/- tabularylaw.CellWrites$1 -/
noncomputable def law_CellWrites_1 (row : List UInt8) : Unit :=
  ()
theorem law_CellWrites_1_ok (row : List UInt8) (rk : Nat) (rc : Nat) (rn : Bool) (r : Unit) (hF : law_CellWrites_1 row = r) : Pe Try.prog 39 ⟨[], [(100000, [.row 100000 0])], [(100000, ⟨5, 1, 0, rk, rc, rn, 0, [], (row.map e_u8)⟩)], [], []⟩ [.ptr 100000 0] (.row 100000 0) ⟨[], [(100000, [.row 100000 0])], [(100000, ⟨5, 1, 0, rk, rc, rn, 0, [], (row.map e_u8)⟩)], [], []⟩ := by
  refine Pe_of (N := 3) (res := [.tmp 1]) (ts := [56]) Ty.ok Fn.b39 Try.func39 rfl rfl rfl rfl rfl rfl ?_
  intro Q g hfin
  unfold law_CellWrites_1 at hF
  refine Wk_seq ?_
  refine WR [] [0] [100000] [100000] [] [] [] ⟨[(0, .ptr 100000 0)], [(100000, [.row 100000 0])], [(100000, ⟨5, 1, 0, rk, rc, rn, 0, [], (row.map e_u8)⟩)], [], []⟩ .nil (by kernel_rfl) ?_
  refine Wk_seq ?_
  refine WR [] [1] [100000] [100000] [] [] [] ⟨[(1, .row 100000 0)], [(100000, [.row 100000 0])], [(100000, ⟨5, 1, 0, rk, rc, rn, 0, [], (row.map e_u8)⟩)], [], []⟩ .nil (by kernel_rfl) ?_
  exact Wk_ret (hfin _ ⟨[100000], [100000], [100000], [], [], [], by first | (rw [← hF]; kernel_rfl) | kernel_rfl⟩)

/- tabularylaw.bytesAs -/
noncomputable def law_bytesAs (b : List UInt8) (f : Fault) (w0 : Fault) (row : List UInt8) : Bool :=
  if (!(decide (f.Code = w0.Code) && (decide (f.At = w0.At) && true))) = true then
    false
  else
    if (!decide (w0.Code = 0)) = true then
      decide ((b.length : Int) = 0)
    else
      lt (law_CellWrites_1 row) fun x =>
      lt (R_Same b row) fun x1 =>
      x1
theorem law_bytesAs_ok (b : List UInt8) (f : Fault) (w0 : Fault) (row : List UInt8) (rk : Nat) (rc : Nat) (rn : Bool) (r : Bool) (hF : law_bytesAs b f w0 row = r) : Pe Try.prog 38 ⟨[], [(100000, [.row 100000 0])], [(100000, ⟨5, 1, 0, rk, rc, rn, 0, [], (row.map e_u8)⟩)], [], []⟩ [.sl 1 (b.map e_u8), .agg [.int .i64 f.Code, .int .i64 f.At], .agg [.int .i64 w0.Code, .int .i64 w0.At], .fn 39 [.ptr 100000 0]] (.bool r) ⟨[], [(100000, [.row 100000 0])], [(100000, ⟨5, 1, 0, rk, rc, rn, 0, [], (row.map e_u8)⟩)], [], []⟩ := by
  refine Pe_of (N := 22) (res := [.tmp 8]) (ts := [4]) Ty.ok Fn.b38 Try.func38 rfl rfl rfl rfl rfl rfl ?_
  intro Q g hfin
  unfold law_bytesAs at hF
  refine Wk_seq ?_
  refine WR [] [0, 3, 5, 6] [5, 6, 100000] [100000] [] [] [] ⟨[(0, .sl 1 (b.map e_u8)), (3, .fn 39 [.ptr 100000 0]), (5, .ptr 5 0), (6, .ptr 6 0)], [(5, [.int .i64 f.Code, .int .i64 f.At]), (6, [.int .i64 w0.Code, .int .i64 w0.At]), (100000, [.row 100000 0])], [(100000, ⟨5, 1, 0, rk, rc, rn, 0, [], (row.map e_u8)⟩)], [], []⟩ .nil (by kernel_rfl) ?_
  refine Wk_seq ?_
  refine Wk_seq ?_
  refine WR [] [0, 3, 6, 11] [6, 100000] [100000] [] [] [] ⟨[(0, .sl 1 (b.map e_u8)), (3, .fn 39 [.ptr 100000 0]), (6, .ptr 6 0), (11, .bool (!(decide (f.Code = w0.Code) && (decide (f.At = w0.At) && true))))], [(6, [.int .i64 w0.Code, .int .i64 w0.At]), (100000, [.row 100000 0])], [(100000, ⟨5, 1, 0, rk, rc, rn, 0, [], (row.map e_u8)⟩)], [], []⟩ .nil (by kernel_rfl) ?_
  refine Wk_split rfl (fun hb => ?_) (fun hb => ?_)
  · have hF := ite_t hF hb
    refine Wk_seq ?_
    refine WR [] [8] [100000] [100000] [] [] [] ⟨[(8, .bool false)], [(100000, [.row 100000 0])], [(100000, ⟨5, 1, 0, rk, rc, rn, 0, [], (row.map e_u8)⟩)], [], []⟩ .nil (by kernel_rfl) ?_
    exact Wk_ret (hfin _ ⟨[100000], [100000], [100000], [], [], [], by first | (rw [← hF]; kernel_rfl) | kernel_rfl⟩)
  · have hF := ite_f hF hb
    refine Wk_skip ?_
    refine Wk_seq ?_
    refine Wk_seq ?_
    refine WR [] [0, 3, 14] [100000] [100000] [] [] [] ⟨[(0, .sl 1 (b.map e_u8)), (3, .fn 39 [.ptr 100000 0]), (14, .bool (!decide (w0.Code = 0)))], [(100000, [.row 100000 0])], [(100000, ⟨5, 1, 0, rk, rc, rn, 0, [], (row.map e_u8)⟩)], [], []⟩ .nil (by kernel_rfl) ?_
    refine Wk_split rfl (fun hb => ?_) (fun hb => ?_)
    · have hF := ite_t hF hb
      refine Wk_seq ?_
      refine WR [.nat (b.length : Int)] [8] [100000] [100000] [] [] [] ⟨[(8, .bool (decide ((b.length : Int) = 0)))], [(100000, [.row 100000 0])], [(100000, ⟨5, 1, 0, rk, rc, rn, 0, [], (row.map e_u8)⟩)], [], []⟩ (.cons (len_ok e_u8 b) .nil) (by kernel_rfl) ?_
      exact Wk_ret (hfin _ ⟨[100000], [100000], [100000], [], [], [], by first | (rw [← hF]; kernel_rfl) | kernel_rfl⟩)
    · have hF := ite_f hF hb
      refine Wk_skip ?_
      refine Wk_seq ?_
      obtain ⟨x, h0, hF⟩ := lt_split hF
      obtain ⟨x1, h1, hF⟩ := lt_split hF
      refine WR [.callR [100000] [100000] [] [] (.row 100000 0), .callB (.bool x1)] [8] [100000] [100000] [] [] [] ⟨[(8, .bool x1)], [(100000, [.row 100000 0])], [(100000, ⟨5, 1, 0, rk, rc, rn, 0, [], (row.map e_u8)⟩)], [], []⟩ (.cons (Pe.ren (law_CellWrites_1_ok row rk rc rn x h0) ⟨[], [], [], []⟩) (.cons (R_Same_ok b row x1 h1) .nil)) (by kernel_rfl) ?_
      exact Wk_ret (hfin _ ⟨[100000], [100000], [100000], [], [], [], by first | (rw [← hF]; kernel_rfl) | kernel_rfl⟩)

/- tabularylaw.CellWrites -/
noncomputable def law_CellWrites_J1 (l : List Cell) (x3 : List UInt8 × Fault) (v : Fault × Fault × List UInt8) : Option Bool :=
  ob (
    if ((decide (v.2.1.Code = 0)) && (decide (60000 < (v.2.2.length : Int)))) = true then
      lt (R_F 9 0) fun x9 =>
      some (v.1, x9)
    else
      some (v.1, v.2.1)) fun (v1 : Fault × Fault) =>
  lt (law_bytesAs x3.1 v1.1 v1.2 v.2.2) fun x10 =>
  if (!x10) = true then
    some false
  else
    if (!decide (v1.2.Code = 0)) = true then
      some true
    else
      ob (cell_Read_v1 x3.1) fun x11 =>
      ob (if (decide (x11.2.Code = 0)) = true then (R_SameCells x11.1 l) else some default) fun x12 =>
      some ((decide (x11.2.Code = 0)) && x12)
noncomputable def law_CellWrites_B1 (l : List Cell) (x3 : List UInt8 × Fault) (v2 : Fault × Fault × List UInt8 × Int) : Option ((Fault × Fault × List UInt8 × Int) ⊕ Bool) :=
  if ((decide (v2.2.2.2 < (l.length : Int))) && (decide (v2.2.1.Code = 0))) = true then
    asrt (0 ≤ v2.2.2.2 ∧ v2.2.2.2 < (l.length : Int)) <|
    ob (R_CellBytes_v1 (⟨(lget l v2.2.2.2).Row, (lget l v2.2.2.2).Col, (lget l v2.2.2.2).Time, (lget l v2.2.2.2).Gone, (lget l v2.2.2.2).Value⟩ : Cell)) fun x13 =>
    asrt (((v2.2.2.1 ++ x13).length : Int) * 1 ≤ 140737488351232) <|
    some (Sum.inl (v2.1, v2.2.1, (v2.2.2.1 ++ x13), w64 (v2.2.2.2 + 1)))
  else
    inrO (law_CellWrites_J1 l x3 (v2.1, v2.2.1, v2.2.2.1))
noncomputable def law_CellWrites_L1 (l : List Cell) (x3 : List UInt8 × Fault) (v0 : Fault × Fault × List UInt8 × Int) : Option Bool :=
  loopO (fun y => law_CellWrites_B1 l x3 y) v0
noncomputable def law_CellWrites (l : List Cell) (b : List UInt8) : Option Bool :=
  ob (law_cellBegun) fun x =>
  if (!x) = true then
    some false
  else
    lt (law_many (l.length : Int)) fun x1 =>
    if (x1 || (decide (100000 < (b.length : Int)))) = true then
      some true
    else
      ob (law_ownCells_v1 l) fun x2 =>
      ob (cell_Write_v1 x2) fun x3 =>
      ob (law_ownBytes_v1 b) fun x4 =>
      ob (cell_Read_v1 x4) fun x5 =>
      ob (R_CellsOf_v1 b) fun x6 =>
      ob (if (!(!(decide (x5.2.Code = x6.2.Code) && (decide (x5.2.At = x6.2.At) && true)))) = true then (R_SameCells x5.1 x6.1) else some default) fun x7 =>
      if ((!(decide (x5.2.Code = x6.2.Code) && (decide (x5.2.At = x6.2.At) && true))) || (!x7)) = true then
        some false
      else
        ob (R_CellsFault l) fun x8 =>
        law_CellWrites_L1 l x3 (x3.2, x8, ([] : List UInt8), 0)
theorem law_CellWrites_ok (l : List Cell) (b : List UInt8) (r : Bool) (hF : law_CellWrites l b = some r) : Pe Try.prog 7 S.none [.sl 5 (l.map e_Cell), .sl 1 (b.map e_u8)] (.bool r) S.none := by
  refine Pe_of (N := 102) (res := [.tmp 4]) (ts := [4]) Ty.ok Fn.b7 Try.func7 rfl rfl rfl rfl rfl rfl ?_
  intro Q g hfin
  unfold law_CellWrites at hF
  refine Wk_seq ?_
  refine WR [] [0, 1] [] [] [] [] [] ⟨[(0, .sl 5 (l.map e_Cell)), (1, .sl 1 (b.map e_u8))], [], [], [], []⟩ .nil (by kernel_rfl) ?_
  refine Wk_seq ?_
  refine Wk_seq ?_
  obtain ⟨x, h0, hF⟩ := ob_elim hF
  refine WR [.callB (.bool x)] [0, 1, 16] [] [] [] [] [] ⟨[(0, .sl 5 (l.map e_Cell)), (1, .sl 1 (b.map e_u8)), (16, .bool (!x))], [], [], [], []⟩ (.cons (law_cellBegun_ok  x h0) .nil) (by kernel_rfl) ?_
  refine Wk_split rfl (fun hb => ?_) (fun hb => ?_)
  · have hF := ite_t hF hb
    refine Wk_seq ?_
    refine WR [] [4] [] [] [] [] [] ⟨[(4, .bool false)], [], [], [], []⟩ .nil (by kernel_rfl) ?_
    have hF := some_elim hF
    exact Wk_ret (hfin _ ⟨[], [], [], [], [], [], by first | (rw [← hF]; kernel_rfl) | kernel_rfl⟩)
  · have hF := ite_f hF hb
    refine Wk_skip ?_
    refine Wk_seq ?_
    refine Wk_seq ?_
    obtain ⟨x1, h1, hF⟩ := lt_split hF
    refine WR [.nat (l.length : Int), .callB (.bool x1), .nat (b.length : Int)] [0, 1, 24] [] [] [] [] [] ⟨[(0, .sl 5 (l.map e_Cell)), (1, .sl 1 (b.map e_u8)), (24, .bool (x1 || (decide (100000 < (b.length : Int)))))], [], [], [], []⟩ (.cons (len_ok e_Cell l) (.cons (law_many_ok (l.length : Int) x1 h1) (.cons (fun (_ : (!x1) = true) => (len_ok e_u8 b)) .nil))) (by kernel_rfl) ?_
    refine Wk_split rfl (fun hb => ?_) (fun hb => ?_)
    · have hF := ite_t hF hb
      refine Wk_seq ?_
      refine WR [] [4] [] [] [] [] [] ⟨[(4, .bool true)], [], [], [], []⟩ .nil (by kernel_rfl) ?_
      have hF := some_elim hF
      exact Wk_ret (hfin _ ⟨[], [], [], [], [], [], by first | (rw [← hF]; kernel_rfl) | kernel_rfl⟩)
    · have hF := ite_f hF hb
      refine Wk_skip ?_
      refine Wk_seq ?_
      obtain ⟨x2, h2, hF⟩ := ob_elim hF
      obtain ⟨x3, h3, hF⟩ := ob_elim hF
      refine WR [.call (.sl 5 (x2.map e_Cell)), .call (.tup [.sl 1 (x3.1.map e_u8), .agg [.int .i64 x3.2.Code, .int .i64 x3.2.At]])] [0, 1, 5, 6] [6] [] [] [] [] ⟨[(0, .sl 5 (l.map e_Cell)), (1, .sl 1 (b.map e_u8)), (5, .sl 1 (x3.1.map e_u8)), (6, .ptr 6 0)], [(6, [.int .i64 x3.2.Code, .int .i64 x3.2.At])], [], [], []⟩ (.cons (law_ownCells_v1_ok l x2 h2) (.cons (cell_Write_v1_ok x2 x3 h3) .nil)) (by kernel_rfl) ?_
      refine Wk_seq ?_
      obtain ⟨x4, h4, hF⟩ := ob_elim hF
      obtain ⟨x5, h5, hF⟩ := ob_elim hF
      refine WR [.call (.sl 1 (x4.map e_u8)), .call (.tup [.sl 5 (x5.1.map e_Cell), .agg [.int .i64 x5.2.Code, .int .i64 x5.2.At]])] [0, 1, 5, 6, 7, 8] [6, 8] [] [] [] [] ⟨[(0, .sl 5 (l.map e_Cell)), (1, .sl 1 (b.map e_u8)), (5, .sl 1 (x3.1.map e_u8)), (6, .ptr 6 0), (7, .sl 5 (x5.1.map e_Cell)), (8, .ptr 8 0)], [(6, [.int .i64 x3.2.Code, .int .i64 x3.2.At]), (8, [.int .i64 x5.2.Code, .int .i64 x5.2.At])], [], [], []⟩ (.cons (law_ownBytes_v1_ok b x4 h4) (.cons (cell_Read_v1_ok x4 x5 h5) .nil)) (by kernel_rfl) ?_
      refine Wk_seq ?_
      obtain ⟨x6, h6, hF⟩ := ob_elim hF
      refine WR [.call (.tup [.sl 5 (x6.1.map e_Cell), .agg [.int .i64 x6.2.Code, .int .i64 x6.2.At]])] [0, 5, 6, 7, 8, 9, 10] [6, 8, 10] [] [] [] [] ⟨[(0, .sl 5 (l.map e_Cell)), (5, .sl 1 (x3.1.map e_u8)), (6, .ptr 6 0), (7, .sl 5 (x5.1.map e_Cell)), (8, .ptr 8 0), (9, .sl 5 (x6.1.map e_Cell)), (10, .ptr 10 0)], [(6, [.int .i64 x3.2.Code, .int .i64 x3.2.At]), (8, [.int .i64 x5.2.Code, .int .i64 x5.2.At]), (10, [.int .i64 x6.2.Code, .int .i64 x6.2.At])], [], [], []⟩ (.cons (R_CellsOf_v1_ok b x6 h6) .nil) (by kernel_rfl) ?_
      refine Wk_seq ?_
      refine Wk_seq ?_
      obtain ⟨x7, h7, hF⟩ := ob_elim hF
      refine WR [.callB (.bool x7)] [0, 5, 6, 10, 50] [6, 10] [] [] [] [] ⟨[(0, .sl 5 (l.map e_Cell)), (5, .sl 1 (x3.1.map e_u8)), (6, .ptr 6 0), (10, .ptr 10 0), (50, .bool ((!(decide (x5.2.Code = x6.2.Code) && (decide (x5.2.At = x6.2.At) && true))) || (!x7)))], [(6, [.int .i64 x3.2.Code, .int .i64 x3.2.At]), (10, [.int .i64 x6.2.Code, .int .i64 x6.2.At])], [], [], []⟩ (.cons (fun (ga0 : (!(!(decide (x5.2.Code = x6.2.Code) && (decide (x5.2.At = x6.2.At) && true)))) = true) => (R_SameCells_ok x5.1 x6.1 x7 (ite_t h7 ga0))) .nil) (by kernel_rfl) ?_
      refine Wk_split rfl (fun hb => ?_) (fun hb => ?_)
      · have hF := ite_t hF hb
        refine Wk_seq ?_
        refine WR [] [4] [] [] [] [] [] ⟨[(4, .bool false)], [], [], [], []⟩ .nil (by kernel_rfl) ?_
        have hF := some_elim hF
        exact Wk_ret (hfin _ ⟨[], [], [], [], [], [], by first | (rw [← hF]; kernel_rfl) | kernel_rfl⟩)
      · have hF := ite_f hF hb
        refine Wk_skip ?_
        refine Wk_seq ?_
        obtain ⟨x8, h8, hF⟩ := ob_elim hF
        refine WR [.callB (.agg [.int .i64 x8.Code, .int .i64 x8.At])] [0, 5, 6, 10] [6, 10] [] [] [] [] ⟨[(0, .sl 5 (l.map e_Cell)), (5, .sl 1 (x3.1.map e_u8)), (6, .ptr 6 0), (10, .ptr 10 0)], [(6, [.int .i64 x3.2.Code, .int .i64 x3.2.At]), (10, [.int .i64 x8.Code, .int .i64 x8.At])], [], [], []⟩ (.cons (R_CellsFault_ok l x8 h8) .nil) (by kernel_rfl) ?_
        refine Wk_seq ?_
        refine WR [] [0, 5, 6, 10, 11] [6, 10, 11] [] [] [] [] ⟨[(0, .sl 5 (l.map e_Cell)), (5, .sl 1 (x3.1.map e_u8)), (6, .ptr 6 0), (10, .ptr 10 0), (11, .ptr 11 0)], [(6, [.int .i64 x3.2.Code, .int .i64 x3.2.At]), (10, [.int .i64 x8.Code, .int .i64 x8.At]), (11, [.nils])], [], [], []⟩ .nil (by kernel_rfl) ?_
        refine Wk_seq ?_
        refine Wk_seq ?_
        refine WR [] [0, 5, 6, 10, 11, 12] [6, 10, 11] [] [] [] [] ⟨[(0, .sl 5 (l.map e_Cell)), (5, .sl 1 (x3.1.map e_u8)), (6, .ptr 6 0), (10, .ptr 10 0), (11, .ptr 11 0), (12, .int .i64 0)], [(6, [.int .i64 x3.2.Code, .int .i64 x3.2.At]), (10, [.int .i64 x8.Code, .int .i64 x8.At]), (11, [.nils])], [], [], []⟩ .nil (by kernel_rfl) ?_
        refine Wk_meetP (fun v : Fault × Fault × List UInt8 => (⟨[(0, .sl 5 (l.map e_Cell)), (5, .sl 1 (x3.1.map e_u8)), (6, .ptr 6 0), (10, .ptr 10 0), (11, .ptr 11 0)], [(6, [.int .i64 v.1.Code, .int .i64 v.1.At]), (10, [.int .i64 v.2.1.Code, .int .i64 v.2.1.At]), (11, [.row 70 0])], [(70, ⟨5, 1, 0, 0, 0, true, 0, [], (v.2.2.map e_u8)⟩)], [], []⟩ : S)) (fun v => law_CellWrites_J1 l x3 v = some r) ?_ ?_
        · refine Wk_block ?_
          unfold law_CellWrites_L1 at hF
          refine Wk_nilrowB 11 0 60000 5 1 rfl rfl rfl rfl rfl ?_
          refine Wk_trim (fs := [0, 5, 6, 10, 11, 12]) (bs := [6, 10, 11]) (rs := [60000]) (ms := []) (aa := []) (nv := []) rfl ?_
          refine Wk_ren' ⟨[], [(60000, 70)], [], []⟩ rfl ?_
          refine Wk_trim (fs := [0, 5, 6, 10, 11, 12]) (bs := [6, 10, 11]) (rs := [70]) (ms := []) (aa := []) (nv := []) (t := (fun v2 : Fault × Fault × List UInt8 × Int => (⟨[(0, .sl 5 (l.map e_Cell)), (5, .sl 1 (x3.1.map e_u8)), (6, .ptr 6 0), (10, .ptr 10 0), (11, .ptr 11 0), (12, .int .i64 v2.2.2.2)], [(6, [.int .i64 v2.1.Code, .int .i64 v2.1.At]), (10, [.int .i64 v2.2.1.Code, .int .i64 v2.2.1.At]), (11, [.row 70 0])], [(70, ⟨5, 1, 0, 0, 0, true, 0, [], (v2.2.2.1.map e_u8)⟩)], [], []⟩ : S)) (x3.2, x8, ([] : List UInt8), 0)) (by kernel_rfl) ?_
          refine Wk_iter (step := fun y => law_CellWrites_B1 l x3 y) (r := r) (fun v2 : Fault × Fault × List UInt8 × Int => (⟨[(0, .sl 5 (l.map e_Cell)), (5, .sl 1 (x3.1.map e_u8)), (6, .ptr 6 0), (10, .ptr 10 0), (11, .ptr 11 0), (12, .int .i64 v2.2.2.2)], [(6, [.int .i64 v2.1.Code, .int .i64 v2.1.At]), (10, [.int .i64 v2.2.1.Code, .int .i64 v2.2.1.At]), (11, [.row 70 0])], [(70, ⟨5, 1, 0, 0, 0, true, 0, [], (v2.2.2.1.map e_u8)⟩)], [], []⟩ : S)) (x3.2, x8, ([] : List UInt8), 0) hF ?_
          intro n1 v2 y1 hF ih1 dn1
          have hF : law_CellWrites_B1 l x3 v2 = some y1 := hF
          unfold law_CellWrites_B1 at hF
          refine Wk_seq ?_
          refine Wk_seq ?_
          refine WR [.nat (l.length : Int)] [0, 5, 6, 10, 11, 12, 61] [6, 10, 11] [70] [] [] [] ⟨[(0, .sl 5 (l.map e_Cell)), (5, .sl 1 (x3.1.map e_u8)), (6, .ptr 6 0), (10, .ptr 10 0), (11, .ptr 11 0), (12, .int .i64 v2.2.2.2), (61, .bool ((decide (v2.2.2.2 < (l.length : Int))) && (decide (v2.2.1.Code = 0))))], [(6, [.int .i64 v2.1.Code, .int .i64 v2.1.At]), (10, [.int .i64 v2.2.1.Code, .int .i64 v2.2.1.At]), (11, [.row 70 0])], [(70, ⟨5, 1, 0, 0, 0, true, 0, [], (v2.2.2.1.map e_u8)⟩)], [], []⟩ (.cons (len_ok e_Cell l) .nil) (by kernel_rfl) ?_
          refine Wk_split rfl (fun hb => ?_) (fun hb => ?_)
          · have hF := ite_t hF hb
            refine Wk_skip ?_
            refine Wk_seq ?_
            refine Wk_block ?_
            obtain ⟨h13, hF⟩ := asrt_elim hF
            obtain ⟨x13, h14, hF⟩ := ob_elim hF
            obtain ⟨h15, hF⟩ := asrt_elim hF
            refine WD [.av (e_Cell (lget l v2.2.2.2)), .call (.sl 1 (x13.map e_u8)), .xs ((v2.2.2.1 ++ x13).map e_u8)] [0, 5, 6, 10, 11, 12] [6, 10, 11] [70] [] [] [] ⟨[(0, .sl 5 (l.map e_Cell)), (5, .sl 1 (x3.1.map e_u8)), (6, .ptr 6 0), (10, .ptr 10 0), (11, .ptr 11 0), (12, .int .i64 v2.2.2.2)], [(6, [.int .i64 v2.1.Code, .int .i64 v2.1.At]), (10, [.int .i64 v2.2.1.Code, .int .i64 v2.2.1.At]), (11, [.row 70 1])], [(70, ⟨5, 1, 1, 0, 0, true, 0, [], ((v2.2.2.1 ++ x13).map e_u8)⟩)], [], []⟩ (.cons (idx_ok e_Cell h13) (.cons (R_CellBytes_v1_ok (⟨(lget l v2.2.2.2).Row, (lget l v2.2.2.2).Col, (lget l v2.2.2.2).Time, (lget l v2.2.2.2).Gone, (lget l v2.2.2.2).Value⟩ : Cell) x13 h14) (.cons (app_ok e_u8 v2.2.2.1 x13) (.cons (appl_ok e_u8 h15) .nil)))) (by kernel_rfl) ?_
            refine Wk_blk ?_
            refine WR [] [0, 5, 6, 10, 11, 12] [6, 10, 11] [70] [] [] [] ⟨[(0, .sl 5 (l.map e_Cell)), (5, .sl 1 (x3.1.map e_u8)), (6, .ptr 6 0), (10, .ptr 10 0), (11, .ptr 11 0), (12, .int .i64 (w64 (v2.2.2.2 + 1)))], [(6, [.int .i64 v2.1.Code, .int .i64 v2.1.At]), (10, [.int .i64 v2.2.1.Code, .int .i64 v2.2.1.At]), (11, [.row 70 1])], [(70, ⟨5, 1, 1, 0, 0, true, 0, [], ((v2.2.2.1 ++ x13).map e_u8)⟩)], [], []⟩ .nil (by kernel_rfl) ?_
            refine Wk_trim (fs := [0, 5, 6, 10, 11, 12]) (bs := [6, 10, 11]) (rs := [70]) (ms := []) (aa := []) (nv := [(70, ⟨0, true, true, false⟩)]) ?_ (ih1 _ (some_elim hF).symm)
            kernel_rfl
          · have hF := ite_f hF hb
            refine Wk_exit rfl ?_
            have hF := inrO_done hF dn1
            exact Wk_metP (v2.1, v2.2.1, v2.2.2.1) [0, 5, 6, 10, 11] [6, 10, 11] [70] [] [] [] hF (by kernel_rfl)
        · intro v hF
          have hF : law_CellWrites_J1 l x3 v = some r := hF
          unfold law_CellWrites_J1 at hF
          refine Wk_seq ?_
          refine Wk_seq ?_
          refine WR [.nat (v.2.2.length : Int)] [0, 5, 6, 10, 11, 78] [6, 10, 11] [70] [] [] [] ⟨[(0, .sl 5 (l.map e_Cell)), (5, .sl 1 (x3.1.map e_u8)), (6, .ptr 6 0), (10, .ptr 10 0), (11, .ptr 11 0), (78, .bool ((decide (v.2.1.Code = 0)) && (decide (60000 < (v.2.2.length : Int)))))], [(6, [.int .i64 v.1.Code, .int .i64 v.1.At]), (10, [.int .i64 v.2.1.Code, .int .i64 v.2.1.At]), (11, [.row 70 0])], [(70, ⟨5, 1, 0, 0, 0, true, 0, [], (v.2.2.map e_u8)⟩)], [], []⟩ (.cons (fun (_ : (decide (v.2.1.Code = 0)) = true) => (len_ok e_u8 v.2.2)) .nil) (by kernel_rfl) ?_
          obtain ⟨v1, hv, hF⟩ := ob_elim hF
          refine Wk_meet (⟨[(0, .sl 5 (l.map e_Cell)), (5, .sl 1 (x3.1.map e_u8)), (6, .ptr 6 0), (10, .ptr 10 0), (11, .ptr 11 0)], [(6, [.int .i64 v1.1.Code, .int .i64 v1.1.At]), (10, [.int .i64 v1.2.Code, .int .i64 v1.2.At]), (11, [.row 70 0])], [(70, ⟨5, 1, 0, 0, 0, true, 0, [], (v.2.2.map e_u8)⟩)], [], []⟩ : S) ?_ ?_
          · have hF := hv
            refine Wk_split rfl (fun hb => ?_) (fun hb => ?_)
            · have hF := ite_t hF hb
              obtain ⟨x9, h9, hF⟩ := lt_split hF
              refine WR [.callB (.agg [.int .i64 x9.Code, .int .i64 x9.At])] [0, 5, 6, 10, 11] [6, 10, 11] [70] [] [] [] ⟨[(0, .sl 5 (l.map e_Cell)), (5, .sl 1 (x3.1.map e_u8)), (6, .ptr 6 0), (10, .ptr 10 0), (11, .ptr 11 0)], [(6, [.int .i64 v.1.Code, .int .i64 v.1.At]), (10, [.int .i64 x9.Code, .int .i64 x9.At]), (11, [.row 70 0])], [(70, ⟨5, 1, 0, 0, 0, true, 0, [], (v.2.2.map e_u8)⟩)], [], []⟩ (.cons (R_F_ok 9 0 x9 h9) .nil) (by kernel_rfl) ?_
              exact Wk_met (fs := [0, 5, 6, 10, 11]) (bs := [6, 10, 11]) (rs := [70]) (ms := []) (aa := []) (nv := []) (by first | (rw [← some_elim hF]; kernel_rfl) | kernel_rfl)
            · have hF := ite_f hF hb
              refine Wk_skip ?_
              exact Wk_met (fs := [0, 5, 6, 10, 11]) (bs := [6, 10, 11]) (rs := [70]) (ms := []) (aa := []) (nv := []) (by first | (rw [← some_elim hF]; kernel_rfl) | kernel_rfl)
          · refine Wk_seq ?_
            refine Wk_seq ?_
            obtain ⟨x10, h10, hF⟩ := lt_split hF
            refine WR [.callR [11] [70] [] [] (.bool x10)] [0, 5, 10, 85] [10] [] [] [] [] ⟨[(0, .sl 5 (l.map e_Cell)), (5, .sl 1 (x3.1.map e_u8)), (10, .ptr 10 0), (85, .bool (!x10))], [(10, [.int .i64 v1.2.Code, .int .i64 v1.2.At])], [], [], []⟩ (.cons (Pe.ren (law_bytesAs_ok x3.1 v1.1 v1.2 v.2.2 0 0 true x10 h10) ⟨[(100000, 11)], [(100000, 70)], [], []⟩) .nil) (by kernel_rfl) ?_
            refine Wk_split rfl (fun hb => ?_) (fun hb => ?_)
            · have hF := ite_t hF hb
              refine Wk_seq ?_
              refine WR [] [4] [] [] [] [] [] ⟨[(4, .bool false)], [], [], [], []⟩ .nil (by kernel_rfl) ?_
              have hF := some_elim hF
              exact Wk_ret (hfin _ ⟨[], [], [], [], [], [], by first | (rw [← hF]; kernel_rfl) | kernel_rfl⟩)
            · have hF := ite_f hF hb
              refine Wk_skip ?_
              refine Wk_seq ?_
              refine Wk_seq ?_
              refine WR [] [0, 5, 88] [] [] [] [] [] ⟨[(0, .sl 5 (l.map e_Cell)), (5, .sl 1 (x3.1.map e_u8)), (88, .bool (!decide (v1.2.Code = 0)))], [], [], [], []⟩ .nil (by kernel_rfl) ?_
              refine Wk_split rfl (fun hb => ?_) (fun hb => ?_)
              · have hF := ite_t hF hb
                refine Wk_seq ?_
                refine WR [] [4] [] [] [] [] [] ⟨[(4, .bool true)], [], [], [], []⟩ .nil (by kernel_rfl) ?_
                have hF := some_elim hF
                exact Wk_ret (hfin _ ⟨[], [], [], [], [], [], by first | (rw [← hF]; kernel_rfl) | kernel_rfl⟩)
              · have hF := ite_f hF hb
                refine Wk_skip ?_
                refine Wk_seq ?_
                obtain ⟨x11, h11, hF⟩ := ob_elim hF
                refine WR [.call (.tup [.sl 5 (x11.1.map e_Cell), .agg [.int .i64 x11.2.Code, .int .i64 x11.2.At]])] [0, 13, 14] [14] [] [] [] [] ⟨[(0, .sl 5 (l.map e_Cell)), (13, .sl 5 (x11.1.map e_Cell)), (14, .ptr 14 0)], [(14, [.int .i64 x11.2.Code, .int .i64 x11.2.At])], [], [], []⟩ (.cons (cell_Read_v1_ok x3.1 x11 h11) .nil) (by kernel_rfl) ?_
                refine Wk_seq ?_
                obtain ⟨x12, h12, hF⟩ := ob_elim hF
                refine WR [.callB (.bool x12)] [4] [] [] [] [] [] ⟨[(4, .bool ((decide (x11.2.Code = 0)) && x12))], [], [], [], []⟩ (.cons (fun (ga0 : (decide (x11.2.Code = 0)) = true) => (R_SameCells_ok x11.1 l x12 (ite_t h12 ga0))) .nil) (by kernel_rfl) ?_
                have hF := some_elim hF
                exact Wk_ret (hfin _ ⟨[], [], [], [], [], [], by first | (rw [← hF]; kernel_rfl) | kernel_rfl⟩)

end G
end Go.Proofs.Ytkbgkkbinnclmaa
