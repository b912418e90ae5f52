/- The program's functions as plain functions, and that they are these. Written by a program (dec2.py). -/
import Derived.Test.YtollmifjbcccgaaGf0
namespace Go.Proofs.Ytollmifjbcccgaa
open Go Go.Dm
set_option linter.unusedVariables false
set_option linter.unusedSimpArgs false
set_option maxRecDepth 100000
namespace G
/- tabularyref.SameCells -/
noncomputable def R_SameCells_J1 (v : Unit) : Option Bool :=
  some true
noncomputable def R_SameCells_B1 (a0 : List Cell) (b : List Cell) (v1 : Int) : Option (Int ⊕ Bool) :=
  if (decide (v1 < (a0.length : Int))) = true then
    asrt (0 ≤ v1 ∧ v1 < (a0.length : Int)) <|
    asrt (0 ≤ v1 ∧ v1 < (b.length : Int)) <|
    if (!(decide ((lget a0 v1).Row = (lget b v1).Row) && (decide ((lget a0 v1).Col = (lget b v1).Col) && (decide ((lget a0 v1).Time = (lget b v1).Time) && ((((lget a0 v1).Gone) == ((lget b v1).Gone)) && (decide ((lget a0 v1).Value = (lget b v1).Value) && true)))))) = true then
      some (Sum.inr false)
    else
      some (Sum.inl (w64 (v1 + 1)))
  else
    inrO (R_SameCells_J1 ())
noncomputable def R_SameCells_L1 (a0 : List Cell) (b : List Cell) (v0 : Int) : Option Bool :=
  loopO (fun y => R_SameCells_B1 a0 b y) v0
noncomputable def R_SameCells (a0 : List Cell) (b : List Cell) : Option Bool :=
  if (!decide ((a0.length : Int) = (b.length : Int))) = true then
    some false
  else
    R_SameCells_L1 a0 b 0
theorem R_SameCells_ok (a0 : List Cell) (b : List Cell) (r : Bool) (hF : R_SameCells a0 b = some r) : Pe Try.prog 32 S.none [.sl 5 (a0.map e_Cell), .sl 5 (b.map e_Cell)] (.bool r) S.none := by
  refine Pe_of (N := 26) (res := [.tmp 4]) (ts := [4]) Ty.ok Fn.b32 Try.func32 rfl rfl rfl rfl rfl rfl ?_
  intro Q g hfin
  unfold R_SameCells at hF
  refine Wk_seq ?_
  refine WR [] [0, 1] [] [] [] [] [] ⟨[(0, .sl 5 (a0.map e_Cell)), (1, .sl 5 (b.map e_Cell))], [], [], [], []⟩ .nil (by kernel_rfl) ?_
  refine Wk_seq ?_
  refine Wk_seq ?_
  refine WR [.nat (a0.length : Int), .nat (b.length : Int)] [0, 1, 10] [] [] [] [] [] ⟨[(0, .sl 5 (a0.map e_Cell)), (1, .sl 5 (b.map e_Cell)), (10, .bool (!decide ((a0.length : Int) = (b.length : Int))))], [], [], [], []⟩ (.cons (len_ok e_Cell a0) (.cons (len_ok e_Cell b) .nil)) (by kernel_rfl) ?_
  refine Wk_split rfl (fun hb => ?_) (fun hb => ?_)
  · have hF := ite_t hF hb
    refine Wk_seq ?_
    refine WR [] [4] [] [] [] [] [] ⟨[(4, .bool false)], [], [], [], []⟩ .nil (by kernel_rfl) ?_
    have hF := some_elim hF
    exact Wk_ret (hfin _ ⟨[], [], [], [], [], [], by first | (rw [← hF]; kernel_rfl) | kernel_rfl⟩)
  · have hF := ite_f hF hb
    refine Wk_skip ?_
    refine Wk_seq ?_
    refine Wk_seq ?_
    refine WR [] [0, 1, 5] [] [] [] [] [] ⟨[(0, .sl 5 (a0.map e_Cell)), (1, .sl 5 (b.map e_Cell)), (5, .int .i64 0)], [], [], [], []⟩ .nil (by kernel_rfl) ?_
    refine Wk_meetP (fun v : Unit => (⟨[], [], [], [], []⟩ : S)) (fun v => R_SameCells_J1 v = some r) ?_ ?_
    · refine Wk_block ?_
      unfold R_SameCells_L1 at hF
      refine Wk_trim (fs := [0, 1, 5]) (bs := []) (rs := []) (ms := []) (aa := []) (nv := []) (t := (fun v1 : Int => (⟨[(0, .sl 5 (a0.map e_Cell)), (1, .sl 5 (b.map e_Cell)), (5, .int .i64 v1)], [], [], [], []⟩ : S)) 0) (by kernel_rfl) ?_
      refine Wk_iter (step := fun y => R_SameCells_B1 a0 b y) (r := r) (fun v1 : Int => (⟨[(0, .sl 5 (a0.map e_Cell)), (1, .sl 5 (b.map e_Cell)), (5, .int .i64 v1)], [], [], [], []⟩ : S)) 0 hF ?_
      intro n1 v1 y1 hF ih1 dn1
      have hF : R_SameCells_B1 a0 b v1 = some y1 := hF
      unfold R_SameCells_B1 at hF
      refine Wk_seq ?_
      refine Wk_seq ?_
      refine WR [.nat (a0.length : Int)] [0, 1, 5, 14] [] [] [] [] [] ⟨[(0, .sl 5 (a0.map e_Cell)), (1, .sl 5 (b.map e_Cell)), (5, .int .i64 v1), (14, .bool (decide (v1 < (a0.length : Int))))], [], [], [], []⟩ (.cons (len_ok e_Cell a0) .nil) (by kernel_rfl) ?_
      refine Wk_split rfl (fun hb => ?_) (fun hb => ?_)
      · have hF := ite_t hF hb
        refine Wk_skip ?_
        refine Wk_seq ?_
        refine Wk_block ?_
        refine Wk_seq ?_
        obtain ⟨h0, hF⟩ := asrt_elim hF
        obtain ⟨h1, hF⟩ := asrt_elim hF
        refine WD [.av (e_Cell (lget a0 v1)), .av (e_Cell (lget b v1))] [0, 1, 5, 25] [] [] [] [] [] ⟨[(0, .sl 5 (a0.map e_Cell)), (1, .sl 5 (b.map e_Cell)), (5, .int .i64 v1), (25, .bool (!(decide ((lget a0 v1).Row = (lget b v1).Row) && (decide ((lget a0 v1).Col = (lget b v1).Col) && (decide ((lget a0 v1).Time = (lget b v1).Time) && ((((lget a0 v1).Gone) == ((lget b v1).Gone)) && (decide ((lget a0 v1).Value = (lget b v1).Value) && true)))))))], [], [], [], []⟩ (.cons (idx_ok e_Cell h0) (.cons (idx_ok e_Cell h1) .nil)) (by kernel_rfl) ?_
        refine Wk_split rfl (fun hb => ?_) (fun hb => ?_)
        · have hF := ite_t hF hb
          refine Wk_seq ?_
          refine WR [] [4] [] [] [] [] [] ⟨[(4, .bool false)], [], [], [], []⟩ .nil (by kernel_rfl) ?_
          have hF := ret_done hF dn1
          have hF := some_elim hF
          exact Wk_ret (hfin _ ⟨[], [], [], [], [], [], by first | (rw [← hF]; kernel_rfl) | kernel_rfl⟩)
        · have hF := ite_f hF hb
          refine Wk_skip ?_
          refine Wk_blk ?_
          refine WR [] [0, 1, 5] [] [] [] [] [] ⟨[(0, .sl 5 (a0.map e_Cell)), (1, .sl 5 (b.map e_Cell)), (5, .int .i64 (w64 (v1 + 1)))], [], [], [], []⟩ .nil (by kernel_rfl) ?_
          refine Wk_trim (fs := [0, 1, 5]) (bs := []) (rs := []) (ms := []) (aa := []) (nv := []) ?_ (ih1 _ (some_elim hF).symm)
          kernel_rfl
      · have hF := ite_f hF hb
        refine Wk_exit rfl ?_
        have hF := inrO_done hF dn1
        exact Wk_metP () [] [] [] [] [] [] hF (by kernel_rfl)
    · intro v hF
      have hF : R_SameCells_J1 v = some r := hF
      unfold R_SameCells_J1 at hF
      refine Wk_seq ?_
      refine WR [] [4] [] [] [] [] [] ⟨[(4, .bool true)], [], [], [], []⟩ .nil (by kernel_rfl) ?_
      have hF := some_elim hF
      exact Wk_ret (hfin _ ⟨[], [], [], [], [], [], by first | (rw [← hF]; kernel_rfl) | kernel_rfl⟩)

/- tabularyref.SameNote -/
noncomputable def R_SameNote (a0 : Note) (b : Note) : Option Bool :=
  ob (if (decide (a0.Seq = b.Seq)) = true then (R_SameCells a0.Cells b.Cells) else some default) fun x =>
  some ((decide (a0.Seq = b.Seq)) && x)
theorem R_SameNote_ok (a0 : Note) (b : Note) (r : Bool) (hF : R_SameNote a0 b = some r) : Pe Try.prog 17 S.none [.agg [.int .i64 a0.Seq, .sl 5 (a0.Cells.map e_Cell)], .agg [.int .i64 b.Seq, .sl 5 (b.Cells.map e_Cell)]] (.bool r) S.none := by
  refine Pe_of (N := 17) (res := [.tmp 4]) (ts := [4]) Ty.ok Fn.b17 Try.func17 rfl rfl rfl rfl rfl rfl ?_
  intro Q g hfin
  unfold R_SameNote at hF
  refine Wk_seq ?_
  refine WR [] [2, 3] [2, 3] [] [] [] [] ⟨[(2, .ptr 2 0), (3, .ptr 3 0)], [(2, [.int .i64 a0.Seq, .sl 5 (a0.Cells.map e_Cell)]), (3, [.int .i64 b.Seq, .sl 5 (b.Cells.map e_Cell)])], [], [], []⟩ .nil (by kernel_rfl) ?_
  refine Wk_seq ?_
  obtain ⟨x, h0, hF⟩ := ob_elim hF
  refine WR [.callB (.bool x)] [4] [] [] [] [] [] ⟨[(4, .bool ((decide (a0.Seq = b.Seq)) && x))], [], [], [], []⟩ (.cons (fun (ga0 : (decide (a0.Seq = b.Seq)) = true) => (R_SameCells_ok a0.Cells b.Cells x (ite_t h0 ga0))) .nil) (by kernel_rfl) ?_
  have hF := some_elim hF
  exact Wk_ret (hfin _ ⟨[], [], [], [], [], [], by first | (rw [← hF]; kernel_rfl) | kernel_rfl⟩)

/- tabularyref.F -/
noncomputable def R_F (code : Int) (at0 : Int) : Fault :=
  (⟨code, at0⟩ : Fault)
theorem R_F_ok (code : Int) (at0 : Int) (r : Fault) (hF : R_F code at0 = r) : Pe Try.prog 28 S.none [.int .i64 code, .int .i64 at0] (.agg [.int .i64 r.Code, .int .i64 r.At]) S.none := by
  refine Pe_of (N := 8) (res := [.cell 4 31]) (ts := [31]) Ty.ok Fn.b28 Try.func28 rfl rfl rfl rfl rfl rfl ?_
  intro Q g hfin
  unfold R_F at hF
  refine Wk_seq ?_
  refine WR [] [0, 1, 4] [4] [] [] [] [] ⟨[(0, .int .i64 code), (1, .int .i64 at0), (4, .ptr 4 0)], [(4, [.int .i64 0, .int .i64 0])], [], [], []⟩ .nil (by kernel_rfl) ?_
  refine Wk_seq ?_
  refine WR [] [4] [4] [] [] [] [] ⟨[(4, .ptr 4 0)], [(4, [.int .i64 code, .int .i64 at0])], [], [], []⟩ .nil (by kernel_rfl) ?_
  exact Wk_ret (hfin _ ⟨[], [], [], [], [], [], by first | (rw [← hF]; kernel_rfl) | kernel_rfl⟩)

/- tabularyref.Number -/
noncomputable def R_Number_S (rec : Int → Option (List UInt8)) (num : Int) : Option (List UInt8) :=
  if (decide (num < 128)) = true then
    some ([toU8 num] : List UInt8)
  else
    ob (rec (w64 (Int.tdiv num 128))) fun x =>
    asrt (((([toU8 (w64 ((Int.tmod num 128) + 128))] : List UInt8) ++ x).length : Int) * 1 ≤ 140737488351232) <|
    some (([toU8 (w64 ((Int.tmod num 128) + 128))] : List UInt8) ++ x)
noncomputable def R_Number (num : Int) : Option (List UInt8) := recO (fun rec (x : Int) => R_Number_S rec x) num
theorem R_Number_ok (num : Int) (r : List UInt8) (hF : R_Number num = some r) : Pe Try.prog 72 ⟨[], [], [], [], []⟩ [.int .i64 num] (.row 7 0) ⟨[], [], [(7, ⟨5, 1, 0, 0, 0, true, 0, [], (r.map e_u8)⟩)], [], []⟩ := by
  have key : ∀ (k : Nat) (x : Int) (r : List UInt8), fuelO (fun rec (x : Int) => R_Number_S rec x) k x = some r → Pe Try.prog 72 ⟨[], [], [], [], []⟩ [.int .i64 x] (.row 7 0) ⟨[], [], [(7, ⟨5, 1, 0, 0, 0, true, 0, [], (r.map e_u8)⟩)], [], []⟩ := by
    intro k
    induction k with
    | zero => intro x r hF; cases hF
    | succ k ih =>
      intro x r hF
      have hF : R_Number_S (fuelO (fun rec (x : Int) => R_Number_S rec x) k) x = some r := hF
      generalize fuelO (fun rec (x : Int) => R_Number_S rec x) k = rec at ih hF
      revert hF
      generalize x = num
      intro hF
      refine Pe_of (N := 17) (res := [.tmp 2]) (ts := [25]) Ty.ok Fn.b72 Try.func72 rfl rfl rfl rfl rfl rfl ?_
      intro Q g hfin
      unfold R_Number_S at hF
      refine Wk_seq ?_
      refine WR [] [0] [] [] [] [] [] ⟨[(0, .int .i64 num)], [], [], [], []⟩ .nil (by kernel_rfl) ?_
      refine Wk_seq ?_
      refine Wk_seq ?_
      refine WR [] [0, 4] [] [] [] [] [] ⟨[(0, .int .i64 num), (4, .bool (decide (num < 128)))], [], [], [], []⟩ .nil (by kernel_rfl) ?_
      refine Wk_split rfl (fun hb => ?_) (fun hb => ?_)
      · have hF := ite_t hF hb
        refine Wk_seq ?_
        refine WR [] [2] [] [7] [] [] [] ⟨[(2, .row 7 0)], [], [(7, ⟨5, 1, 0, 0, 0, true, 0, [], (([toU8 num] : List UInt8).map e_u8)⟩)], [], []⟩ .nil (by kernel_rfl) ?_
        have hF := some_elim hF
        exact Wk_ret (hfin _ ⟨[7], [], [7], [], [], [], by first | (rw [← hF]; kernel_rfl) | kernel_rfl⟩)
      · have hF := ite_f hF hb
        refine Wk_skip ?_
        refine Wk_seq ?_
        obtain ⟨x, h0, hF⟩ := ob_elim hF
        obtain ⟨h1, hF⟩ := asrt_elim hF
        refine WR [.callE [] [] [] [] (.row 15 0) ⟨[], [], [(15, ⟨5, 1, 0, 0, 0, true, 0, [], (x.map e_u8)⟩)], [], []⟩, .xs ((([toU8 (w64 ((Int.tmod num 128) + 128))] : List UInt8) ++ x).map e_u8)] [2] [] [12] [] [] [] ⟨[(2, .row 12 1)], [], [(12, ⟨5, 1, 1, 0, 0, true, 0, [], ((([toU8 (w64 ((Int.tmod num 128) + 128))] : List UInt8) ++ x).map e_u8)⟩)], [], []⟩ (.cons (by decide : (128 : Int) ≠ 0) (.cons (by decide : (128 : Int) ≠ 0) (.cons (Pe.ren (ih (w64 (Int.tdiv num 128)) x h0) ⟨[], [(7, 15)], [], []⟩) (.cons (app_ok e_u8 ([toU8 (w64 ((Int.tmod num 128) + 128))] : List UInt8) x) (.cons (appl_ok e_u8 h1) .nil))))) (by kernel_rfl) ?_
        have hF := some_elim hF
        refine Wk_ren' ⟨[], [(12, 7)], [], []⟩ rfl ?_
        exact Wk_ret (hfin _ ⟨[7], [], [7], [], [], [(7, ⟨0, true, true, false⟩)], by first | (rw [← hF]; kernel_rfl) | kernel_rfl⟩)
  obtain ⟨k, hF⟩ := recO_elim hF
  exact key k _ r hF

/- tabularyref.Number -/
noncomputable def R_Number_v1 (num : Int) : Option (List UInt8) :=
  if (decide (num < 128)) = true then
    some ([toU8 num] : List UInt8)
  else
    ob (R_Number (w64 (Int.tdiv num 128))) fun x =>
    asrt (((([toU8 (w64 ((Int.tmod num 128) + 128))] : List UInt8) ++ x).length : Int) * 1 ≤ 140737488351232) <|
    some (([toU8 (w64 ((Int.tmod num 128) + 128))] : List UInt8) ++ x)
theorem R_Number_v1_ok (num : Int) (r : List UInt8) (hF : R_Number_v1 num = some r) : Pe Try.prog 72 S.none [.int .i64 num] (.sl 1 (r.map e_u8)) S.none := by
  refine Pe_of (N := 17) (res := [.tmp 2]) (ts := [25]) Ty.ok Fn.b72 Try.func72 rfl rfl rfl rfl rfl rfl ?_
  intro Q g hfin
  unfold R_Number_v1 at hF
  refine Wk_seq ?_
  refine WR [] [0] [] [] [] [] [] ⟨[(0, .int .i64 num)], [], [], [], []⟩ .nil (by kernel_rfl) ?_
  refine Wk_seq ?_
  refine Wk_seq ?_
  refine WR [] [0, 4] [] [] [] [] [] ⟨[(0, .int .i64 num), (4, .bool (decide (num < 128)))], [], [], [], []⟩ .nil (by kernel_rfl) ?_
  refine Wk_split rfl (fun hb => ?_) (fun hb => ?_)
  · have hF := ite_t hF hb
    refine Wk_seq ?_
    refine WR [] [2] [] [7] [] [] [] ⟨[(2, .row 7 0)], [], [(7, ⟨5, 1, 0, 0, 0, true, 0, [], (([toU8 num] : List UInt8).map e_u8)⟩)], [], []⟩ .nil (by kernel_rfl) ?_
    have hF := some_elim hF
    exact Wk_ret (hfin _ ⟨[], [], [], [], [], [], by first | (rw [← hF]; kernel_rfl) | kernel_rfl⟩)
  · have hF := ite_f hF hb
    refine Wk_skip ?_
    refine Wk_seq ?_
    obtain ⟨x, h0, hF⟩ := ob_elim hF
    obtain ⟨h1, hF⟩ := asrt_elim hF
    refine WR [.callE [] [] [] [] (.row 15 0) ⟨[], [], [(15, ⟨5, 1, 0, 0, 0, true, 0, [], (x.map e_u8)⟩)], [], []⟩, .xs ((([toU8 (w64 ((Int.tmod num 128) + 128))] : List UInt8) ++ x).map e_u8)] [2] [] [12] [] [] [] ⟨[(2, .row 12 1)], [], [(12, ⟨5, 1, 1, 0, 0, true, 0, [], ((([toU8 (w64 ((Int.tmod num 128) + 128))] : List UInt8) ++ x).map e_u8)⟩)], [], []⟩ (.cons (by decide : (128 : Int) ≠ 0) (.cons (by decide : (128 : Int) ≠ 0) (.cons (Pe.ren (R_Number_ok (w64 (Int.tdiv num 128)) x h0) ⟨[], [(7, 15)], [], []⟩) (.cons (app_ok e_u8 ([toU8 (w64 ((Int.tmod num 128) + 128))] : List UInt8) x) (.cons (appl_ok e_u8 h1) .nil))))) (by kernel_rfl) ?_
    have hF := some_elim hF
    exact Wk_ret (hfin _ ⟨[], [], [], [], [], [], by first | (rw [← hF]; kernel_rfl) | kernel_rfl⟩)

/- tabularyref.NumberAt -/
noncomputable def R_NumberAt_J1 (v : Unit) : Option (Int × Int) :=
  some (0, 0)
noncomputable def R_NumberAt_J2 (b : List UInt8) (v1 : Int) (v2 : Int) : Option (Int ⊕ (Int × Int)) :=
  ob (if (decide (v2 ≤ 1000000000)) = true then (R_Number_v1 v2) else some default) fun x =>
  asrt ((decide (v2 ≤ 1000000000)) = true → 0 ≤ v1 ∧ v1 ≤ (b.length : Int)) <|
  lt (R_Same x (ltake b v1)) fun x1 =>
  if ((decide (v2 ≤ 1000000000)) && x1) = true then
    some (Sum.inr (v2, v1))
  else
    some (Sum.inl (w64 (v1 + 1)))
noncomputable def R_NumberAt_B2 (b : List UInt8) (v1 : Int) (v3 : Int × Int) : Option ((Int × Int) ⊕ (Int ⊕ (Int × Int))) :=
  if (decide (0 ≤ v3.2)) = true then
    asrt (0 ≤ v3.2 ∧ v3.2 < (b.length : Int)) <|
    lt (w64 ((w64 (v3.1 * 128)) + (Int.tmod (w64 ((lget b v3.2).toNat : Int)) 128))) fun (v4 : Int) =>
    some (Sum.inl (v4, w64 (v3.2 - 1)))
  else
    inrO (R_NumberAt_J2 b v1 v3.1)
noncomputable def R_NumberAt_L2 (b : List UInt8) (v1 : Int) (v0 : Int × Int) : Option (Int ⊕ (Int × Int)) :=
  loopO (fun y => R_NumberAt_B2 b v1 y) v0
noncomputable def R_NumberAt_B1 (b : List UInt8) (v1 : Int) : Option (Int ⊕ (Int × Int)) :=
  if ((decide (v1 ≤ 5)) && (decide (v1 ≤ (b.length : Int)))) = true then
    R_NumberAt_L2 b v1 (0, w64 (v1 - 1))
  else
    inrO (R_NumberAt_J1 ())
noncomputable def R_NumberAt_L1 (b : List UInt8) (v0 : Int) : Option (Int × Int) :=
  loopO (fun y => R_NumberAt_B1 b y) v0
noncomputable def R_NumberAt (b : List UInt8) : Option (Int × Int) :=
  R_NumberAt_L1 b 1
theorem R_NumberAt_ok (b : List UInt8) (r : Int × Int) (hF : R_NumberAt b = some r) : Pe Try.prog 70 S.none [.sl 1 (b.map e_u8)] (.tup [.int .i64 r.1, .int .i64 r.2]) S.none := by
  refine Pe_of (N := 44) (res := [.tmp 2, .tmp 3]) (ts := [3, 3]) Ty.ok Fn.b70 Try.func70 rfl rfl rfl rfl rfl rfl ?_
  intro Q g hfin
  unfold R_NumberAt at hF
  refine Wk_seq ?_
  refine WR [] [0] [] [] [] [] [] ⟨[(0, .sl 1 (b.map e_u8))], [], [], [], []⟩ .nil (by kernel_rfl) ?_
  refine Wk_seq ?_
  refine Wk_seq ?_
  refine WR [] [0, 4] [] [] [] [] [] ⟨[(0, .sl 1 (b.map e_u8)), (4, .int .i64 1)], [], [], [], []⟩ .nil (by kernel_rfl) ?_
  refine Wk_meetP (fun v : Unit => (⟨[], [], [], [], []⟩ : S)) (fun v => R_NumberAt_J1 v = some r) ?_ ?_
  · refine Wk_block ?_
    unfold R_NumberAt_L1 at hF
    refine Wk_trim (fs := [0, 4]) (bs := []) (rs := []) (ms := []) (aa := []) (nv := []) (t := (fun v1 : Int => (⟨[(0, .sl 1 (b.map e_u8)), (4, .int .i64 v1)], [], [], [], []⟩ : S)) 1) (by kernel_rfl) ?_
    refine Wk_iter (step := fun y => R_NumberAt_B1 b y) (r := r) (fun v1 : Int => (⟨[(0, .sl 1 (b.map e_u8)), (4, .int .i64 v1)], [], [], [], []⟩ : S)) 1 hF ?_
    intro n1 v1 y1 hF ih1 dn1
    have hF : R_NumberAt_B1 b v1 = some y1 := hF
    unfold R_NumberAt_B1 at hF
    refine Wk_seq ?_
    refine Wk_seq ?_
    refine WR [.nat (b.length : Int)] [0, 4, 14] [] [] [] [] [] ⟨[(0, .sl 1 (b.map e_u8)), (4, .int .i64 v1), (14, .bool ((decide (v1 ≤ 5)) && (decide (v1 ≤ (b.length : Int)))))], [], [], [], []⟩ (.cons (fun (_ : (decide (v1 ≤ 5)) = true) => (len_ok e_u8 b)) .nil) (by kernel_rfl) ?_
    refine Wk_split rfl (fun hb => ?_) (fun hb => ?_)
    · have hF := ite_t hF hb
      refine Wk_skip ?_
      refine Wk_seq ?_
      refine Wk_block ?_
      refine Wk_seq ?_
      refine WR [] [0, 4, 5] [] [] [] [] [] ⟨[(0, .sl 1 (b.map e_u8)), (4, .int .i64 v1), (5, .int .i64 0)], [], [], [], []⟩ .nil (by kernel_rfl) ?_
      refine Wk_seq ?_
      refine Wk_seq ?_
      refine WR [] [0, 4, 5, 6] [] [] [] [] [] ⟨[(0, .sl 1 (b.map e_u8)), (4, .int .i64 v1), (5, .int .i64 0), (6, .int .i64 (w64 (v1 - 1)))], [], [], [], []⟩ .nil (by kernel_rfl) ?_
      refine Wk_meetP (fun v2 : Int => (⟨[(0, .sl 1 (b.map e_u8)), (4, .int .i64 v1), (5, .int .i64 v2)], [], [], [], []⟩ : S)) (fun v2 => R_NumberAt_J2 b v1 v2 = some y1) ?_ ?_
      · refine Wk_block ?_
        unfold R_NumberAt_L2 at hF
        refine Wk_trim (fs := [0, 4, 5, 6]) (bs := []) (rs := []) (ms := []) (aa := []) (nv := []) (t := (fun v3 : Int × Int => (⟨[(0, .sl 1 (b.map e_u8)), (4, .int .i64 v1), (5, .int .i64 v3.1), (6, .int .i64 v3.2)], [], [], [], []⟩ : S)) (0, w64 (v1 - 1))) (by kernel_rfl) ?_
        refine Wk_iter (step := fun y => R_NumberAt_B2 b v1 y) (r := y1) (fun v3 : Int × Int => (⟨[(0, .sl 1 (b.map e_u8)), (4, .int .i64 v1), (5, .int .i64 v3.1), (6, .int .i64 v3.2)], [], [], [], []⟩ : S)) (0, w64 (v1 - 1)) hF ?_
        intro n2 v3 y2 hF ih2 dn2
        have hF : R_NumberAt_B2 b v1 v3 = some y2 := hF
        unfold R_NumberAt_B2 at hF
        refine Wk_seq ?_
        refine Wk_seq ?_
        refine WR [] [0, 4, 5, 6, 20] [] [] [] [] [] ⟨[(0, .sl 1 (b.map e_u8)), (4, .int .i64 v1), (5, .int .i64 v3.1), (6, .int .i64 v3.2), (20, .bool (decide (0 ≤ v3.2)))], [], [], [], []⟩ .nil (by kernel_rfl) ?_
        refine Wk_split rfl (fun hb => ?_) (fun hb => ?_)
        · have hF := ite_t hF hb
          refine Wk_skip ?_
          refine Wk_seq ?_
          refine Wk_block ?_
          obtain ⟨h3, hF⟩ := asrt_elim hF
          refine WRL (w64 ((w64 (v3.1 * 128)) + (Int.tmod (w64 ((lget b v3.2).toNat : Int)) 128))) (fun v4 : Int => ⟨[(0, .sl 1 (b.map e_u8)), (4, .int .i64 v1), (5, .int .i64 v4), (6, .int .i64 v3.2)], [], [], [], []⟩) [.av (e_u8 (lget b v3.2))] [0, 4, 5, 6] [] [] [] [] [] (.cons (idx_ok e_u8 h3) (.cons (by decide : (128 : Int) ≠ 0) .nil)) (by kernel_rfl) (fun v4 hv => ?_)
          have hF := lt_elim hF hv
          refine Wk_blk ?_
          refine WR [] [0, 4, 5, 6] [] [] [] [] [] ⟨[(0, .sl 1 (b.map e_u8)), (4, .int .i64 v1), (5, .int .i64 v4), (6, .int .i64 (w64 (v3.2 - 1)))], [], [], [], []⟩ .nil (by kernel_rfl) ?_
          refine Wk_trim (fs := [0, 4, 5, 6]) (bs := []) (rs := []) (ms := []) (aa := []) (nv := []) ?_ (ih2 _ (some_elim hF).symm)
          kernel_rfl
        · have hF := ite_f hF hb
          refine Wk_exit rfl ?_
          have hF := inrO_done hF dn2
          exact Wk_metP v3.1 [0, 4, 5] [] [] [] [] [] hF (by kernel_rfl)
      · intro v2 hF
        have hF : R_NumberAt_J2 b v1 v2 = some y1 := hF
        unfold R_NumberAt_J2 at hF
        refine Wk_seq ?_
        obtain ⟨x, h0, hF⟩ := ob_elim hF
        obtain ⟨h1, hF⟩ := asrt_elim hF
        obtain ⟨x1, h2, hF⟩ := lt_split hF
        refine WD [.call (.sl 1 (x.map e_u8)), .xs ((ltake b v1).map e_u8), .callB (.bool x1)] [0, 4, 5, 41] [] [] [] [] [] ⟨[(0, .sl 1 (b.map e_u8)), (4, .int .i64 v1), (5, .int .i64 v2), (41, .bool ((decide (v2 ≤ 1000000000)) && x1))], [], [], [], []⟩ (.cons (fun (ga0 : (decide (v2 ≤ 1000000000)) = true) => (R_Number_v1_ok v2 x (ite_t h0 ga0))) (.cons (fun (ga0 : (decide (v2 ≤ 1000000000)) = true) => (sl01_ok e_u8 (h1 ga0))) (.cons (fun (ga0 : (decide (v2 ≤ 1000000000)) = true) => (R_Same_ok x (ltake b v1) x1 h2)) .nil))) (by kernel_rfl) ?_
        refine Wk_split rfl (fun hb => ?_) (fun hb => ?_)
        · have hF := ite_t hF hb
          refine Wk_seq ?_
          refine WR [] [2, 3] [] [] [] [] [] ⟨[(2, .int .i64 v2), (3, .int .i64 v1)], [], [], [], []⟩ .nil (by kernel_rfl) ?_
          have hF := ret_done hF dn1
          have hF := some_elim hF
          exact Wk_ret (hfin _ ⟨[], [], [], [], [], [], by first | (rw [← hF]; kernel_rfl) | kernel_rfl⟩)
        · have hF := ite_f hF hb
          refine Wk_skip ?_
          refine Wk_blk ?_
          refine WR [] [0, 4] [] [] [] [] [] ⟨[(0, .sl 1 (b.map e_u8)), (4, .int .i64 (w64 (v1 + 1)))], [], [], [], []⟩ .nil (by kernel_rfl) ?_
          refine Wk_trim (fs := [0, 4]) (bs := []) (rs := []) (ms := []) (aa := []) (nv := []) ?_ (ih1 _ (some_elim hF).symm)
          kernel_rfl
    · have hF := ite_f hF hb
      refine Wk_exit rfl ?_
      have hF := inrO_done hF dn1
      exact Wk_metP () [] [] [] [] [] [] hF (by kernel_rfl)
  · intro v hF
    have hF : R_NumberAt_J1 v = some r := hF
    unfold R_NumberAt_J1 at hF
    refine Wk_seq ?_
    refine WR [] [2, 3] [] [] [] [] [] ⟨[(2, .int .i64 0), (3, .int .i64 0)], [], [], [], []⟩ .nil (by kernel_rfl) ?_
    have hF := some_elim hF
    exact Wk_ret (hfin _ ⟨[], [], [], [], [], [], by first | (rw [← hF]; kernel_rfl) | kernel_rfl⟩)

/- tabularyref.CellCode -/
noncomputable def R_CellCode (c : Cell) : Int :=
  if ((((decide (c.Row = ([] : List UInt8))) || (decide (40 < (c.Row.length : Int)))) || (decide (40 < (c.Col.length : Int)))) || (decide (200 < (c.Value.length : Int)))) = true then
    8
  else
    if ((decide (c.Time < 0)) || (decide (1000000000 < c.Time))) = true then
      3
    else
      if (c.Gone && (!decide (c.Value = ([] : List UInt8)))) = true then
        5
      else
        0
theorem R_CellCode_ok (c : Cell) (r : Int) (hF : R_CellCode c = r) : Pe Try.prog 82 S.none [.agg (c_Cell c)] (.int .i64 r) S.none := by
  refine Pe_of (N := 39) (res := [.tmp 2]) (ts := [3]) Ty.ok Fn.b82 Try.func82 rfl rfl rfl rfl rfl rfl ?_
  intro Q g hfin
  unfold R_CellCode at hF
  refine Wk_seq ?_
  refine WR [] [1] [1] [] [] [] [] ⟨[(1, .ptr 1 0)], [(1, (c_Cell c))], [], [], []⟩ .nil (by kernel_rfl) ?_
  refine Wk_seq ?_
  refine Wk_seq ?_
  refine WR [] [1, 23] [1] [] [] [] [] ⟨[(1, .ptr 1 0), (23, .bool ((((decide (c.Row = ([] : List UInt8))) || (decide (40 < (c.Row.length : Int)))) || (decide (40 < (c.Col.length : Int)))) || (decide (200 < (c.Value.length : Int)))))], [(1, (c_Cell c))], [], [], []⟩ .nil (by kernel_rfl) ?_
  refine Wk_split rfl (fun hb => ?_) (fun hb => ?_)
  · have hF := ite_t hF hb
    refine Wk_seq ?_
    refine WR [] [2] [] [] [] [] [] ⟨[(2, .int .i64 8)], [], [], [], []⟩ .nil (by kernel_rfl) ?_
    exact Wk_ret (hfin _ ⟨[], [], [], [], [], [], by first | (rw [← hF]; kernel_rfl) | kernel_rfl⟩)
  · have hF := ite_f hF hb
    refine Wk_skip ?_
    refine Wk_seq ?_
    refine Wk_seq ?_
    refine WR [] [1, 31] [1] [] [] [] [] ⟨[(1, .ptr 1 0), (31, .bool ((decide (c.Time < 0)) || (decide (1000000000 < c.Time))))], [(1, (c_Cell c))], [], [], []⟩ .nil (by kernel_rfl) ?_
    refine Wk_split rfl (fun hb => ?_) (fun hb => ?_)
    · have hF := ite_t hF hb
      refine Wk_seq ?_
      refine WR [] [2] [] [] [] [] [] ⟨[(2, .int .i64 3)], [], [], [], []⟩ .nil (by kernel_rfl) ?_
      exact Wk_ret (hfin _ ⟨[], [], [], [], [], [], by first | (rw [← hF]; kernel_rfl) | kernel_rfl⟩)
    · have hF := ite_f hF hb
      refine Wk_skip ?_
      refine Wk_seq ?_
      refine Wk_seq ?_
      refine WR [] [38] [] [] [] [] [] ⟨[(38, .bool (c.Gone && (!decide (c.Value = ([] : List UInt8)))))], [], [], [], []⟩ .nil (by kernel_rfl) ?_
      refine Wk_split rfl (fun hb => ?_) (fun hb => ?_)
      · have hF := ite_t hF hb
        refine Wk_seq ?_
        refine WR [] [2] [] [] [] [] [] ⟨[(2, .int .i64 5)], [], [], [], []⟩ .nil (by kernel_rfl) ?_
        exact Wk_ret (hfin _ ⟨[], [], [], [], [], [], by first | (rw [← hF]; kernel_rfl) | kernel_rfl⟩)
      · have hF := ite_f hF hb
        refine Wk_skip ?_
        refine Wk_seq ?_
        refine WR [] [2] [] [] [] [] [] ⟨[(2, .int .i64 0)], [], [], [], []⟩ .nil (by kernel_rfl) ?_
        exact Wk_ret (hfin _ ⟨[], [], [], [], [], [], by first | (rw [← hF]; kernel_rfl) | kernel_rfl⟩)

/- tabularyref.CellAt -/
noncomputable def R_CellAt_J1 (v : Cell × List (List UInt8) × List Int × Int) : Option (Cell × Int) :=
  asrt (0 ≤ (0 : Int) ∧ 0 < (v.2.1.length : Int)) <|
  asrt (0 ≤ (0 : Int) ∧ 0 < (v.2.1.length : Int)) <|
  asrt (0 ≤ (1 : Int) ∧ 1 < (v.2.1.length : Int)) <|
  asrt (0 ≤ (1 : Int) ∧ 1 < (v.2.1.length : Int)) <|
  asrt (0 ≤ (0 : Int) ∧ 0 < (v.2.2.1.length : Int)) <|
  asrt (0 ≤ (0 : Int) ∧ 0 < (v.2.2.1.length : Int)) <|
  asrt (0 ≤ (1 : Int) ∧ 1 < (v.2.2.1.length : Int)) <|
  asrt (0 ≤ (1 : Int) ∧ 1 < (v.2.2.1.length : Int)) <|
  asrt (0 ≤ (2 : Int) ∧ 2 < (v.2.1.length : Int)) <|
  asrt (0 ≤ (2 : Int) ∧ 2 < (v.2.1.length : Int)) <|
  asrt (0 ≤ (1 : Int) ∧ 1 < (v.2.2.1.length : Int)) <|
  asrt (0 ≤ (1 : Int) ∧ 1 < (v.2.2.1.length : Int)) <|
  lt (R_CellCode (⟨(lget v.2.1 0), (lget v.2.1 1), (lget v.2.2.1 0), decide ((lget v.2.2.1 1) = 1), (lget v.2.1 2)⟩ : Cell)) fun x =>
  if ((decide (1 < (lget v.2.2.1 1))) || (!decide (x = 0))) = true then
    some ((⟨([] : List UInt8), ([] : List UInt8), 0, false, ([] : List UInt8)⟩ : Cell), 0)
  else
    some ((⟨(lget v.2.1 0), (lget v.2.1 1), (lget v.2.2.1 0), decide ((lget v.2.2.1 1) = 1), (lget v.2.1 2)⟩ : Cell), v.2.2.2)
noncomputable def R_CellAt_J2 (v1 : Cell × List (List UInt8) × List Int × Int × Int) (v2 : Cell × List (List UInt8) × List Int × Int) : Option ((Cell × List (List UInt8) × List Int × Int × Int) ⊕ (Cell × Int)) :=
  some (Sum.inl (v2.1, v2.2.1, v2.2.2.1, v2.2.2.2, w64 (v1.2.2.2.2 + 1)))
noncomputable def R_CellAt_B1 (b : List UInt8) (v1 : Cell × List (List UInt8) × List Int × Int × Int) : Option ((Cell × List (List UInt8) × List Int × Int × Int) ⊕ (Cell × Int)) :=
  if (decide (v1.2.2.2.2 < 5)) = true then
    asrt (0 ≤ v1.2.2.2.1 ∧ v1.2.2.2.1 ≤ (b.length : Int)) <|
    ob (R_NumberAt (ldrop b v1.2.2.2.1)) fun x1 =>
    if (decide (x1.2 = 0)) = true then
      some (Sum.inr ((⟨([] : List UInt8), ([] : List UInt8), 0, false, ([] : List UInt8)⟩ : Cell), 0))
    else
      if ((decide (v1.2.2.2.2 = 2)) || (decide (v1.2.2.2.2 = 3))) = true then
        asrt (((v1.2.2.1 ++ ([x1.1] : List Int)).length : Int) * 8 ≤ 140737488351232) <|
        R_CellAt_J2 v1 (v1.1, v1.2.1, (v1.2.2.1 ++ ([x1.1] : List Int)), w64 (v1.2.2.2.1 + x1.2))
      else
        if (decide ((w64 ((b.length : Int) - (w64 (v1.2.2.2.1 + x1.2)))) < x1.1)) = true then
          some (Sum.inr ((⟨([] : List UInt8), ([] : List UInt8), 0, false, ([] : List UInt8)⟩ : Cell), 0))
        else
          asrt (0 ≤ w64 (v1.2.2.2.1 + x1.2) ∧ w64 (v1.2.2.2.1 + x1.2) ≤ w64 ((w64 (v1.2.2.2.1 + x1.2)) + x1.1) ∧ w64 ((w64 (v1.2.2.2.1 + x1.2)) + x1.1) ≤ (b.length : Int)) <|
          asrt (((v1.2.1 ++ ([(ldrop (ltake b (w64 ((w64 (v1.2.2.2.1 + x1.2)) + x1.1))) (w64 (v1.2.2.2.1 + x1.2)))] : List (List UInt8))).length : Int) * 16 ≤ 140737488351232) <|
          lt ((v1.2.1 ++ ([(ldrop (ltake b (w64 ((w64 (v1.2.2.2.1 + x1.2)) + x1.1))) (w64 (v1.2.2.2.1 + x1.2)))] : List (List UInt8)))) fun (v3 : List (List UInt8)) =>
          R_CellAt_J2 v1 (v1.1, v3, v1.2.2.1, w64 ((w64 (v1.2.2.2.1 + x1.2)) + x1.1))
  else
    inrO (R_CellAt_J1 (v1.1, v1.2.1, v1.2.2.1, v1.2.2.2.1))
noncomputable def R_CellAt_L1 (b : List UInt8) (v0 : Cell × List (List UInt8) × List Int × Int × Int) : Option (Cell × Int) :=
  loopO (fun y => R_CellAt_B1 b y) v0
noncomputable def R_CellAt (b : List UInt8) : Option (Cell × Int) :=
  R_CellAt_L1 b ((⟨([] : List UInt8), ([] : List UInt8), 0, false, ([] : List UInt8)⟩ : Cell), ([] : List (List UInt8)), ([] : List Int), 0, 0)
theorem R_CellAt_ok (b : List UInt8) (r : Cell × Int) (hF : R_CellAt b = some r) : Pe Try.prog 107 S.none [.sl 1 (b.map e_u8)] (.tup [.agg (c_Cell r.1), .int .i64 r.2]) S.none := by
  refine Pe_of (N := 87) (res := [.cell 2 96, .tmp 3]) (ts := [96, 3]) Ty.ok Fn.b107 Try.func107 rfl rfl rfl rfl rfl rfl ?_
  intro Q g hfin
  unfold R_CellAt at hF
  refine Wk_seq ?_
  refine WR [] [0, 2] [2] [] [] [] [] ⟨[(0, .sl 1 (b.map e_u8)), (2, .ptr 2 0)], [(2, [.str [], .str [], .int .i64 0, .bool false, .str []])], [], [], []⟩ .nil (by kernel_rfl) ?_
  refine Wk_seq ?_
  refine WR [] [0, 2, 4] [2] [] [] [] [] ⟨[(0, .sl 1 (b.map e_u8)), (2, .ptr 2 0), (4, .nils)], [(2, [.str [], .str [], .int .i64 0, .bool false, .str []])], [], [], []⟩ .nil (by kernel_rfl) ?_
  refine Wk_seq ?_
  refine WR [] [0, 2, 4, 5] [2] [] [] [] [] ⟨[(0, .sl 1 (b.map e_u8)), (2, .ptr 2 0), (4, .nils), (5, .nils)], [(2, [.str [], .str [], .int .i64 0, .bool false, .str []])], [], [], []⟩ .nil (by kernel_rfl) ?_
  refine Wk_seq ?_
  refine WR [] [0, 2, 4, 5, 6] [2] [] [] [] [] ⟨[(0, .sl 1 (b.map e_u8)), (2, .ptr 2 0), (4, .nils), (5, .nils), (6, .int .i64 0)], [(2, [.str [], .str [], .int .i64 0, .bool false, .str []])], [], [], []⟩ .nil (by kernel_rfl) ?_
  refine Wk_seq ?_
  refine Wk_seq ?_
  refine WR [] [0, 2, 4, 5, 6, 7] [2] [] [] [] [] ⟨[(0, .sl 1 (b.map e_u8)), (2, .ptr 2 0), (4, .nils), (5, .nils), (6, .int .i64 0), (7, .int .i64 0)], [(2, [.str [], .str [], .int .i64 0, .bool false, .str []])], [], [], []⟩ .nil (by kernel_rfl) ?_
  refine Wk_meetP (fun v : Cell × List (List UInt8) × List Int × Int => (⟨[(2, .ptr 2 0), (4, .row 54 0), (5, .row 37 0), (6, .int .i64 v.2.2.2)], [(2, (c_Cell v.1))], [(37, ⟨3, 1, 0, 0, 0, true, 0, [], (v.2.2.1.map e_i64)⟩), (54, ⟨9, 1, 0, 0, 0, true, 0, [], (v.2.1.map e_str)⟩)], [], []⟩ : S)) (fun v => R_CellAt_J1 v = some r) ?_ ?_
  · refine Wk_block ?_
    unfold R_CellAt_L1 at hF
    refine Wk_nilrow 4 60000 9 1 rfl rfl rfl ?_
    refine Wk_nilrow 5 60001 3 1 rfl rfl rfl ?_
    refine Wk_trim (fs := [0, 2, 4, 5, 6, 7]) (bs := [2]) (rs := [60000, 60001]) (ms := []) (aa := []) (nv := []) rfl ?_
    refine Wk_ren' ⟨[], [(60000, 54), (60001, 37)], [], []⟩ rfl ?_
    refine Wk_trim (fs := [0, 2, 4, 5, 6, 7]) (bs := [2]) (rs := [37, 54]) (ms := []) (aa := []) (nv := []) (t := (fun v1 : Cell × List (List UInt8) × List Int × Int × Int => (⟨[(0, .sl 1 (b.map e_u8)), (2, .ptr 2 0), (4, .row 54 0), (5, .row 37 0), (6, .int .i64 v1.2.2.2.1), (7, .int .i64 v1.2.2.2.2)], [(2, (c_Cell v1.1))], [(37, ⟨3, 1, 0, 0, 0, true, 0, [], (v1.2.2.1.map e_i64)⟩), (54, ⟨9, 1, 0, 0, 0, true, 0, [], (v1.2.1.map e_str)⟩)], [], []⟩ : S)) ((⟨([] : List UInt8), ([] : List UInt8), 0, false, ([] : List UInt8)⟩ : Cell), ([] : List (List UInt8)), ([] : List Int), 0, 0)) (by kernel_rfl) ?_
    refine Wk_iter (step := fun y => R_CellAt_B1 b y) (r := r) (fun v1 : Cell × List (List UInt8) × List Int × Int × Int => (⟨[(0, .sl 1 (b.map e_u8)), (2, .ptr 2 0), (4, .row 54 0), (5, .row 37 0), (6, .int .i64 v1.2.2.2.1), (7, .int .i64 v1.2.2.2.2)], [(2, (c_Cell v1.1))], [(37, ⟨3, 1, 0, 0, 0, true, 0, [], (v1.2.2.1.map e_i64)⟩), (54, ⟨9, 1, 0, 0, 0, true, 0, [], (v1.2.1.map e_str)⟩)], [], []⟩ : S)) ((⟨([] : List UInt8), ([] : List UInt8), 0, false, ([] : List UInt8)⟩ : Cell), ([] : List (List UInt8)), ([] : List Int), 0, 0) hF ?_
    intro n1 v1 y1 hF ih1 dn1
    have hF : R_CellAt_B1 b v1 = some y1 := hF
    unfold R_CellAt_B1 at hF
    refine Wk_seq ?_
    refine Wk_seq ?_
    refine WR [] [0, 2, 4, 5, 6, 7, 12] [2] [37, 54] [] [] [] ⟨[(0, .sl 1 (b.map e_u8)), (2, .ptr 2 0), (4, .row 54 0), (5, .row 37 0), (6, .int .i64 v1.2.2.2.1), (7, .int .i64 v1.2.2.2.2), (12, .bool (decide (v1.2.2.2.2 < 5)))], [(2, (c_Cell v1.1))], [(37, ⟨3, 1, 0, 0, 0, true, 0, [], (v1.2.2.1.map e_i64)⟩), (54, ⟨9, 1, 0, 0, 0, true, 0, [], (v1.2.1.map e_str)⟩)], [], []⟩ .nil (by kernel_rfl) ?_
    refine Wk_split rfl (fun hb => ?_) (fun hb => ?_)
    · have hF := ite_t hF hb
      refine Wk_skip ?_
      refine Wk_seq ?_
      refine Wk_meetP (fun v2 : Cell × List (List UInt8) × List Int × Int => (⟨[(0, .sl 1 (b.map e_u8)), (2, .ptr 2 0), (4, .row 54 0), (5, .row 37 0), (6, .int .i64 v2.2.2.2), (7, .int .i64 v1.2.2.2.2)], [(2, (c_Cell v2.1))], [(37, ⟨3, 1, 0, 0, 0, true, 0, [], (v2.2.2.1.map e_i64)⟩), (54, ⟨9, 1, 0, 0, 0, true, 0, [], (v2.2.1.map e_str)⟩)], [], []⟩ : S)) (fun v2 => R_CellAt_J2 v1 v2 = some y1) ?_ ?_
      · refine Wk_block ?_
        refine Wk_seq ?_
        obtain ⟨h13, hF⟩ := asrt_elim hF
        obtain ⟨x1, h14, hF⟩ := ob_elim hF
        refine WR [.xs ((ldrop b v1.2.2.2.1).map e_u8), .callB (.tup [.int .i64 x1.1, .int .i64 x1.2])] [0, 2, 4, 5, 6, 7, 8, 9] [2] [37, 54] [] [] [] ⟨[(0, .sl 1 (b.map e_u8)), (2, .ptr 2 0), (4, .row 54 0), (5, .row 37 0), (6, .int .i64 v1.2.2.2.1), (7, .int .i64 v1.2.2.2.2), (8, .int .i64 x1.1), (9, .int .i64 x1.2)], [(2, (c_Cell v1.1))], [(37, ⟨3, 1, 0, 0, 0, true, 0, [], (v1.2.2.1.map e_i64)⟩), (54, ⟨9, 1, 0, 0, 0, true, 0, [], (v1.2.1.map e_str)⟩)], [], []⟩ (.cons (sl10_ok e_u8 h13) (.cons (R_NumberAt_ok (ldrop b v1.2.2.2.1) x1 h14) .nil)) (by kernel_rfl) ?_
        refine Wk_seq ?_
        refine Wk_seq ?_
        refine WR [] [0, 2, 4, 5, 6, 7, 8, 9, 23] [2] [37, 54] [] [] [] ⟨[(0, .sl 1 (b.map e_u8)), (2, .ptr 2 0), (4, .row 54 0), (5, .row 37 0), (6, .int .i64 v1.2.2.2.1), (7, .int .i64 v1.2.2.2.2), (8, .int .i64 x1.1), (9, .int .i64 x1.2), (23, .bool (decide (x1.2 = 0)))], [(2, (c_Cell v1.1))], [(37, ⟨3, 1, 0, 0, 0, true, 0, [], (v1.2.2.1.map e_i64)⟩), (54, ⟨9, 1, 0, 0, 0, true, 0, [], (v1.2.1.map e_str)⟩)], [], []⟩ .nil (by kernel_rfl) ?_
        refine Wk_split rfl (fun hb => ?_) (fun hb => ?_)
        · have hF := ite_t hF hb
          refine Wk_seq ?_
          refine WR [] [2, 3] [2] [] [] [] [] ⟨[(2, .ptr 2 0), (3, .int .i64 0)], [(2, [.str [], .str [], .int .i64 0, .bool false, .str []])], [], [], []⟩ .nil (by kernel_rfl) ?_
          have hF := ret_done hF dn1
          have hF := some_elim hF
          exact Wk_ret (hfin _ ⟨[], [], [], [], [], [], by first | (rw [← hF]; kernel_rfl) | kernel_rfl⟩)
        · have hF := ite_f hF hb
          refine Wk_skip ?_
          refine Wk_seq ?_
          refine WR [] [0, 2, 4, 5, 6, 7, 8] [2] [37, 54] [] [] [] ⟨[(0, .sl 1 (b.map e_u8)), (2, .ptr 2 0), (4, .row 54 0), (5, .row 37 0), (6, .int .i64 (w64 (v1.2.2.2.1 + x1.2))), (7, .int .i64 v1.2.2.2.2), (8, .int .i64 x1.1)], [(2, (c_Cell v1.1))], [(37, ⟨3, 1, 0, 0, 0, true, 0, [], (v1.2.2.1.map e_i64)⟩), (54, ⟨9, 1, 0, 0, 0, true, 0, [], (v1.2.1.map e_str)⟩)], [], []⟩ .nil (by kernel_rfl) ?_
          refine Wk_seq ?_
          refine Wk_seq ?_
          refine WR [] [0, 2, 4, 5, 6, 7, 8, 33] [2] [37, 54] [] [] [] ⟨[(0, .sl 1 (b.map e_u8)), (2, .ptr 2 0), (4, .row 54 0), (5, .row 37 0), (6, .int .i64 (w64 (v1.2.2.2.1 + x1.2))), (7, .int .i64 v1.2.2.2.2), (8, .int .i64 x1.1), (33, .bool ((decide (v1.2.2.2.2 = 2)) || (decide (v1.2.2.2.2 = 3))))], [(2, (c_Cell v1.1))], [(37, ⟨3, 1, 0, 0, 0, true, 0, [], (v1.2.2.1.map e_i64)⟩), (54, ⟨9, 1, 0, 0, 0, true, 0, [], (v1.2.1.map e_str)⟩)], [], []⟩ .nil (by kernel_rfl) ?_
          refine Wk_split rfl (fun hb => ?_) (fun hb => ?_)
          · have hF := ite_t hF hb
            refine Wk_seq ?_
            obtain ⟨h15, hF⟩ := asrt_elim hF
            refine WR [.sealed, .xs ((v1.2.2.1 ++ ([x1.1] : List Int)).map e_i64)] [0, 2, 4, 5, 6, 7] [2] [37, 54] [] [] [] ⟨[(0, .sl 1 (b.map e_u8)), (2, .ptr 2 0), (4, .row 54 0), (5, .row 37 1), (6, .int .i64 (w64 (v1.2.2.2.1 + x1.2))), (7, .int .i64 v1.2.2.2.2)], [(2, (c_Cell v1.1))], [(37, ⟨3, 1, 1, 0, 0, true, 0, [], ((v1.2.2.1 ++ ([x1.1] : List Int)).map e_i64)⟩), (54, ⟨9, 1, 0, 0, 0, true, 0, [], (v1.2.1.map e_str)⟩)], [], []⟩ (.cons (app_ok e_i64 v1.2.2.1 ([x1.1] : List Int)) (.cons (appl_ok e_i64 h15) .nil)) (by kernel_rfl) ?_
            refine Wk_exit rfl ?_
            exact Wk_metP (v1.1, v1.2.1, (v1.2.2.1 ++ ([x1.1] : List Int)), w64 (v1.2.2.2.1 + x1.2)) [0, 2, 4, 5, 6, 7] [2] [37, 54] [] [] [(37, ⟨0, true, true, false⟩)] hF (by kernel_rfl)
          · have hF := ite_f hF hb
            refine Wk_skip ?_
            refine Wk_seq ?_
            refine Wk_seq ?_
            refine WR [.nat (b.length : Int)] [0, 2, 4, 5, 6, 7, 8, 43] [2] [37, 54] [] [] [] ⟨[(0, .sl 1 (b.map e_u8)), (2, .ptr 2 0), (4, .row 54 0), (5, .row 37 0), (6, .int .i64 (w64 (v1.2.2.2.1 + x1.2))), (7, .int .i64 v1.2.2.2.2), (8, .int .i64 x1.1), (43, .bool (decide ((w64 ((b.length : Int) - (w64 (v1.2.2.2.1 + x1.2)))) < x1.1)))], [(2, (c_Cell v1.1))], [(37, ⟨3, 1, 0, 0, 0, true, 0, [], (v1.2.2.1.map e_i64)⟩), (54, ⟨9, 1, 0, 0, 0, true, 0, [], (v1.2.1.map e_str)⟩)], [], []⟩ (.cons (len_ok e_u8 b) .nil) (by kernel_rfl) ?_
            refine Wk_split rfl (fun hb => ?_) (fun hb => ?_)
            · have hF := ite_t hF hb
              refine Wk_seq ?_
              refine WR [] [2, 3] [2] [] [] [] [] ⟨[(2, .ptr 2 0), (3, .int .i64 0)], [(2, [.str [], .str [], .int .i64 0, .bool false, .str []])], [], [], []⟩ .nil (by kernel_rfl) ?_
              have hF := ret_done hF dn1
              have hF := some_elim hF
              exact Wk_ret (hfin _ ⟨[], [], [], [], [], [], by first | (rw [← hF]; kernel_rfl) | kernel_rfl⟩)
            · have hF := ite_f hF hb
              refine Wk_skip ?_
              refine Wk_seq ?_
              obtain ⟨h16, hF⟩ := asrt_elim hF
              obtain ⟨h17, hF⟩ := asrt_elim hF
              refine WRL ((v1.2.1 ++ ([(ldrop (ltake b (w64 ((w64 (v1.2.2.2.1 + x1.2)) + x1.1))) (w64 (v1.2.2.2.1 + x1.2)))] : List (List UInt8)))) (fun v3 : List (List UInt8) => ⟨[(0, .sl 1 (b.map e_u8)), (2, .ptr 2 0), (4, .row 54 1), (5, .row 37 0), (6, .int .i64 (w64 (v1.2.2.2.1 + x1.2))), (7, .int .i64 v1.2.2.2.2), (8, .int .i64 x1.1)], [(2, (c_Cell v1.1))], [(37, ⟨3, 1, 0, 0, 0, true, 0, [], (v1.2.2.1.map e_i64)⟩), (54, ⟨9, 1, 1, 0, 0, true, 0, [], (v3.map e_str)⟩)], [], []⟩) [.xs ((ldrop (ltake b (w64 ((w64 (v1.2.2.2.1 + x1.2)) + x1.1))) (w64 (v1.2.2.2.1 + x1.2))).map e_u8), .str (ldrop (ltake b (w64 ((w64 (v1.2.2.2.1 + x1.2)) + x1.1))) (w64 (v1.2.2.2.1 + x1.2))), .sealed, .xs ((v1.2.1 ++ ([(ldrop (ltake b (w64 ((w64 (v1.2.2.2.1 + x1.2)) + x1.1))) (w64 (v1.2.2.2.1 + x1.2)))] : List (List UInt8))).map e_str)] [0, 2, 4, 5, 6, 7, 8] [2] [37, 54] [] [] [] (.cons (sl11_ok e_u8 h16) (.cons (u8s_ok (ldrop (ltake b (w64 ((w64 (v1.2.2.2.1 + x1.2)) + x1.1))) (w64 (v1.2.2.2.1 + x1.2)))) (.cons (app_ok e_str v1.2.1 ([(ldrop (ltake b (w64 ((w64 (v1.2.2.2.1 + x1.2)) + x1.1))) (w64 (v1.2.2.2.1 + x1.2)))] : List (List UInt8))) (.cons (appl_ok e_str h17) .nil)))) (by kernel_rfl) (fun v3 hv => ?_)
              have hF := lt_elim hF hv
              refine WR [] [0, 2, 4, 5, 6, 7] [2] [37, 54] [] [] [] ⟨[(0, .sl 1 (b.map e_u8)), (2, .ptr 2 0), (4, .row 54 1), (5, .row 37 0), (6, .int .i64 (w64 ((w64 (v1.2.2.2.1 + x1.2)) + x1.1))), (7, .int .i64 v1.2.2.2.2)], [(2, (c_Cell v1.1))], [(37, ⟨3, 1, 0, 0, 0, true, 0, [], (v1.2.2.1.map e_i64)⟩), (54, ⟨9, 1, 1, 0, 0, true, 0, [], (v3.map e_str)⟩)], [], []⟩ .nil (by kernel_rfl) ?_
              refine Wk_blk ?_
              exact Wk_metP (v1.1, v3, v1.2.2.1, w64 ((w64 (v1.2.2.2.1 + x1.2)) + x1.1)) [0, 2, 4, 5, 6, 7] [2] [37, 54] [] [] [(54, ⟨0, true, true, false⟩)] hF (by kernel_rfl)
      · intro v2 hF
        have hF : R_CellAt_J2 v1 v2 = some y1 := hF
        unfold R_CellAt_J2 at hF
        refine WR [] [0, 2, 4, 5, 6, 7] [2] [37, 54] [] [] [] ⟨[(0, .sl 1 (b.map e_u8)), (2, .ptr 2 0), (4, .row 54 0), (5, .row 37 0), (6, .int .i64 v2.2.2.2), (7, .int .i64 (w64 (v1.2.2.2.2 + 1)))], [(2, (c_Cell v2.1))], [(37, ⟨3, 1, 0, 0, 0, true, 0, [], (v2.2.2.1.map e_i64)⟩), (54, ⟨9, 1, 0, 0, 0, true, 0, [], (v2.2.1.map e_str)⟩)], [], []⟩ .nil (by kernel_rfl) ?_
        refine Wk_trim (fs := [0, 2, 4, 5, 6, 7]) (bs := [2]) (rs := [37, 54]) (ms := []) (aa := []) (nv := []) ?_ (ih1 _ (some_elim hF).symm)
        kernel_rfl
    · have hF := ite_f hF hb
      refine Wk_exit rfl ?_
      have hF := inrO_done hF dn1
      exact Wk_metP (v1.1, v1.2.1, v1.2.2.1, v1.2.2.2.1) [2, 4, 5, 6] [2] [37, 54] [] [] [] hF (by kernel_rfl)
  · intro v hF
    have hF : R_CellAt_J1 v = some r := hF
    unfold R_CellAt_J1 at hF
    refine Wk_seq ?_
    obtain ⟨h0, hF⟩ := asrt_elim hF
    obtain ⟨h1, hF⟩ := asrt_elim hF
    obtain ⟨h2, hF⟩ := asrt_elim hF
    obtain ⟨h3, hF⟩ := asrt_elim hF
    obtain ⟨h4, hF⟩ := asrt_elim hF
    obtain ⟨h5, hF⟩ := asrt_elim hF
    obtain ⟨h6, hF⟩ := asrt_elim hF
    obtain ⟨h7, hF⟩ := asrt_elim hF
    obtain ⟨h8, hF⟩ := asrt_elim hF
    obtain ⟨h9, hF⟩ := asrt_elim hF
    refine WD [.av (e_str (lget v.2.1 0)), .av (e_str (lget v.2.1 1)), .av (e_i64 (lget v.2.2.1 0)), .av (e_i64 (lget v.2.2.1 1)), .av (e_str (lget v.2.1 2))] [2, 5, 6, 10] [2, 10] [37] [] [] [] ⟨[(2, .ptr 2 0), (5, .row 37 0), (6, .int .i64 v.2.2.2), (10, .ptr 10 0)], [(2, (c_Cell v.1)), (10, [.str (lget v.2.1 0), .str (lget v.2.1 1), .int .i64 (lget v.2.2.1 0), .bool (decide ((lget v.2.2.1 1) = 1)), .str (lget v.2.1 2)])], [(37, ⟨3, 1, 0, 0, 0, true, 0, [], (v.2.2.1.map e_i64)⟩)], [], []⟩ (.cons (ixr_ok e_str h0) (.cons (ldr_ok e_str h1) (.cons (ixr_ok e_str h2) (.cons (ldr_ok e_str h3) (.cons (ixr_ok e_i64 h4) (.cons (ldr_ok e_i64 h5) (.cons (ixr_ok e_i64 h6) (.cons (ldr_ok e_i64 h7) (.cons (ixr_ok e_str h8) (.cons (ldr_ok e_str h9) .nil)))))))))) (by kernel_rfl) ?_
    refine Wk_seq ?_
    refine Wk_seq ?_
    obtain ⟨h10, hF⟩ := asrt_elim hF
    obtain ⟨h11, hF⟩ := asrt_elim hF
    obtain ⟨x, h12, hF⟩ := lt_split hF
    refine WR [.av (e_i64 (lget v.2.2.1 1)), .callB (.int .i64 x)] [2, 6, 10, 83] [2, 10] [] [] [] [] ⟨[(2, .ptr 2 0), (6, .int .i64 v.2.2.2), (10, .ptr 10 0), (83, .bool ((decide (1 < (lget v.2.2.1 1))) || (!decide (x = 0))))], [(2, (c_Cell v.1)), (10, [.str (lget v.2.1 0), .str (lget v.2.1 1), .int .i64 (lget v.2.2.1 0), .bool (decide ((lget v.2.2.1 1) = 1)), .str (lget v.2.1 2)])], [], [], []⟩ (.cons (ixr_ok e_i64 h10) (.cons (ldr_ok e_i64 h11) (.cons (fun (ga0 : (!(decide (1 < (lget v.2.2.1 1)))) = true) => (R_CellCode_ok (⟨(lget v.2.1 0), (lget v.2.1 1), (lget v.2.2.1 0), decide ((lget v.2.2.1 1) = 1), (lget v.2.1 2)⟩ : Cell) x h12)) .nil))) (by kernel_rfl) ?_
    refine Wk_split rfl (fun hb => ?_) (fun hb => ?_)
    · have hF := ite_t hF hb
      refine Wk_seq ?_
      refine WR [] [2, 3] [2] [] [] [] [] ⟨[(2, .ptr 2 0), (3, .int .i64 0)], [(2, [.str [], .str [], .int .i64 0, .bool false, .str []])], [], [], []⟩ .nil (by kernel_rfl) ?_
      have hF := some_elim hF
      exact Wk_ret (hfin _ ⟨[], [], [], [], [], [], by first | (rw [← hF]; kernel_rfl) | kernel_rfl⟩)
    · have hF := ite_f hF hb
      refine Wk_skip ?_
      refine Wk_seq ?_
      refine WR [] [2, 3] [2] [] [] [] [] ⟨[(2, .ptr 2 0), (3, .int .i64 v.2.2.2)], [(2, [.str (lget v.2.1 0), .str (lget v.2.1 1), .int .i64 (lget v.2.2.1 0), .bool (decide ((lget v.2.2.1 1) = 1)), .str (lget v.2.1 2)])], [], [], []⟩ .nil (by kernel_rfl) ?_
      have hF := some_elim hF
      exact Wk_ret (hfin _ ⟨[], [], [], [], [], [], by first | (rw [← hF]; kernel_rfl) | kernel_rfl⟩)

/- tabularyref.Ahead -/
noncomputable def R_Ahead (a0 : Cell) (b : Cell) : Bool :=
  if (!decide (a0.Row = b.Row)) = true then
    Op.bytesLess a0.Row b.Row
  else
    if (!decide (a0.Col = b.Col)) = true then
      Op.bytesLess a0.Col b.Col
    else
      decide (b.Time < a0.Time)
theorem R_Ahead_ok (a0 : Cell) (b : Cell) (r : Bool) (hF : R_Ahead a0 b = r) : Pe Try.prog 83 S.none [.agg (c_Cell a0), .agg (c_Cell b)] (.bool r) S.none := by
  refine Pe_of (N := 30) (res := [.tmp 4]) (ts := [4]) Ty.ok Fn.b83 Try.func83 rfl rfl rfl rfl rfl rfl ?_
  intro Q g hfin
  unfold R_Ahead at hF
  refine Wk_seq ?_
  refine WR [] [2, 3] [2, 3] [] [] [] [] ⟨[(2, .ptr 2 0), (3, .ptr 3 0)], [(2, (c_Cell a0)), (3, (c_Cell b))], [], [], []⟩ .nil (by kernel_rfl) ?_
  refine Wk_seq ?_
  refine Wk_seq ?_
  refine WR [] [2, 3, 9] [2, 3] [] [] [] [] ⟨[(2, .ptr 2 0), (3, .ptr 3 0), (9, .bool (!decide (a0.Row = b.Row)))], [(2, (c_Cell a0)), (3, (c_Cell b))], [], [], []⟩ .nil (by kernel_rfl) ?_
  refine Wk_split rfl (fun hb => ?_) (fun hb => ?_)
  · have hF := ite_t hF hb
    refine Wk_seq ?_
    refine WR [] [4] [] [] [] [] [] ⟨[(4, .bool (Op.bytesLess a0.Row b.Row))], [], [], [], []⟩ .nil (by kernel_rfl) ?_
    exact Wk_ret (hfin _ ⟨[], [], [], [], [], [], by first | (rw [← hF]; kernel_rfl) | kernel_rfl⟩)
  · have hF := ite_f hF hb
    refine Wk_skip ?_
    refine Wk_seq ?_
    refine Wk_seq ?_
    refine WR [] [2, 3, 19] [2, 3] [] [] [] [] ⟨[(2, .ptr 2 0), (3, .ptr 3 0), (19, .bool (!decide (a0.Col = b.Col)))], [(2, (c_Cell a0)), (3, (c_Cell b))], [], [], []⟩ .nil (by kernel_rfl) ?_
    refine Wk_split rfl (fun hb => ?_) (fun hb => ?_)
    · have hF := ite_t hF hb
      refine Wk_seq ?_
      refine WR [] [4] [] [] [] [] [] ⟨[(4, .bool (Op.bytesLess a0.Col b.Col))], [], [], [], []⟩ .nil (by kernel_rfl) ?_
      exact Wk_ret (hfin _ ⟨[], [], [], [], [], [], by first | (rw [← hF]; kernel_rfl) | kernel_rfl⟩)
    · have hF := ite_f hF hb
      refine Wk_skip ?_
      refine Wk_seq ?_
      refine WR [] [4] [] [] [] [] [] ⟨[(4, .bool (decide (b.Time < a0.Time)))], [], [], [], []⟩ .nil (by kernel_rfl) ?_
      exact Wk_ret (hfin _ ⟨[], [], [], [], [], [], by first | (rw [← hF]; kernel_rfl) | kernel_rfl⟩)

/- tabularyref.CellsFault -/
noncomputable def R_CellsFault_J1 (v : Fault) : Option Fault :=
  some (⟨0, 0⟩ : Fault)
noncomputable def R_CellsFault_B1 (l : List Cell) (v1 : Fault × Int) : Option ((Fault × Int) ⊕ Fault) :=
  if (decide (v1.2 < (l.length : Int))) = true then
    asrt (0 ≤ v1.2 ∧ v1.2 < (l.length : Int)) <|
    lt (R_CellCode (⟨(lget l v1.2).Row, (lget l v1.2).Col, (lget l v1.2).Time, (lget l v1.2).Gone, (lget l v1.2).Value⟩ : Cell)) fun x1 =>
    if (!decide (x1 = 0)) = true then
      lt (R_F x1 v1.2) fun x2 =>
      some (Sum.inr x2)
    else
      asrt ((decide (0 < v1.2)) = true → 0 ≤ w64 (v1.2 - 1) ∧ w64 (v1.2 - 1) < (l.length : Int)) <|
      asrt ((decide (0 < v1.2)) = true → 0 ≤ v1.2 ∧ v1.2 < (l.length : Int)) <|
      lt (R_Ahead (⟨(lget l (w64 (v1.2 - 1))).Row, (lget l (w64 (v1.2 - 1))).Col, (lget l (w64 (v1.2 - 1))).Time, (lget l (w64 (v1.2 - 1))).Gone, (lget l (w64 (v1.2 - 1))).Value⟩ : Cell) (⟨(lget l v1.2).Row, (lget l v1.2).Col, (lget l v1.2).Time, (lget l v1.2).Gone, (lget l v1.2).Value⟩ : Cell)) fun x3 =>
      if ((decide (0 < v1.2)) && (!x3)) = true then
        lt (R_F 10 v1.2) fun x4 =>
        some (Sum.inr x4)
      else
        some (Sum.inl (v1.1, w64 (v1.2 + 1)))
  else
    inrO (R_CellsFault_J1 v1.1)
noncomputable def R_CellsFault_L1 (l : List Cell) (v0 : Fault × Int) : Option Fault :=
  loopO (fun y => R_CellsFault_B1 l y) v0
noncomputable def R_CellsFault (l : List Cell) : Option Fault :=
  if (decide (1000 < (l.length : Int))) = true then
    lt (R_F 2 0) fun x =>
    some x
  else
    R_CellsFault_L1 l ((⟨0, 0⟩ : Fault), 0)
theorem R_CellsFault_ok (l : List Cell) (r : Fault) (hF : R_CellsFault l = some r) : Pe Try.prog 27 S.none [.sl 5 (l.map e_Cell)] (.agg [.int .i64 r.Code, .int .i64 r.At]) S.none := by
  refine Pe_of (N := 43) (res := [.cell 2 31]) (ts := [31]) Ty.ok Fn.b27 Try.func27 rfl rfl rfl rfl rfl rfl ?_
  intro Q g hfin
  unfold R_CellsFault at hF
  refine Wk_seq ?_
  refine WR [] [0, 2] [2] [] [] [] [] ⟨[(0, .sl 5 (l.map e_Cell)), (2, .ptr 2 0)], [(2, [.int .i64 0, .int .i64 0])], [], [], []⟩ .nil (by kernel_rfl) ?_
  refine Wk_seq ?_
  refine Wk_seq ?_
  refine WR [.nat (l.length : Int)] [0, 2, 7] [2] [] [] [] [] ⟨[(0, .sl 5 (l.map e_Cell)), (2, .ptr 2 0), (7, .bool (decide (1000 < (l.length : Int))))], [(2, [.int .i64 0, .int .i64 0])], [], [], []⟩ (.cons (len_ok e_Cell l) .nil) (by kernel_rfl) ?_
  refine Wk_split rfl (fun hb => ?_) (fun hb => ?_)
  · have hF := ite_t hF hb
    refine Wk_seq ?_
    obtain ⟨x, h0, hF⟩ := lt_split hF
    refine WR [.callB (.agg [.int .i64 x.Code, .int .i64 x.At])] [2] [2] [] [] [] [] ⟨[(2, .ptr 2 0)], [(2, [.int .i64 x.Code, .int .i64 x.At])], [], [], []⟩ (.cons (R_F_ok 2 0 x h0) .nil) (by kernel_rfl) ?_
    have hF := some_elim hF
    exact Wk_ret (hfin _ ⟨[], [], [], [], [], [], by first | (rw [← hF]; kernel_rfl) | kernel_rfl⟩)
  · have hF := ite_f hF hb
    refine Wk_skip ?_
    refine Wk_seq ?_
    refine Wk_seq ?_
    refine WR [] [0, 2, 3] [2] [] [] [] [] ⟨[(0, .sl 5 (l.map e_Cell)), (2, .ptr 2 0), (3, .int .i64 0)], [(2, [.int .i64 0, .int .i64 0])], [], [], []⟩ .nil (by kernel_rfl) ?_
    refine Wk_meetP (fun v : Fault => (⟨[(2, .ptr 2 0)], [(2, [.int .i64 v.Code, .int .i64 v.At])], [], [], []⟩ : S)) (fun v => R_CellsFault_J1 v = some r) ?_ ?_
    · refine Wk_block ?_
      unfold R_CellsFault_L1 at hF
      refine Wk_trim (fs := [0, 2, 3]) (bs := [2]) (rs := []) (ms := []) (aa := []) (nv := []) (t := (fun v1 : Fault × Int => (⟨[(0, .sl 5 (l.map e_Cell)), (2, .ptr 2 0), (3, .int .i64 v1.2)], [(2, [.int .i64 v1.1.Code, .int .i64 v1.1.At])], [], [], []⟩ : S)) ((⟨0, 0⟩ : Fault), 0)) (by kernel_rfl) ?_
      refine Wk_iter (step := fun y => R_CellsFault_B1 l y) (r := r) (fun v1 : Fault × Int => (⟨[(0, .sl 5 (l.map e_Cell)), (2, .ptr 2 0), (3, .int .i64 v1.2)], [(2, [.int .i64 v1.1.Code, .int .i64 v1.1.At])], [], [], []⟩ : S)) ((⟨0, 0⟩ : Fault), 0) hF ?_
      intro n1 v1 y1 hF ih1 dn1
      have hF : R_CellsFault_B1 l v1 = some y1 := hF
      unfold R_CellsFault_B1 at hF
      refine Wk_seq ?_
      refine Wk_seq ?_
      refine WR [.nat (l.length : Int)] [0, 2, 3, 12] [2] [] [] [] [] ⟨[(0, .sl 5 (l.map e_Cell)), (2, .ptr 2 0), (3, .int .i64 v1.2), (12, .bool (decide (v1.2 < (l.length : Int))))], [(2, [.int .i64 v1.1.Code, .int .i64 v1.1.At])], [], [], []⟩ (.cons (len_ok e_Cell l) .nil) (by kernel_rfl) ?_
      refine Wk_split rfl (fun hb => ?_) (fun hb => ?_)
      · have hF := ite_t hF hb
        refine Wk_skip ?_
        refine Wk_seq ?_
        refine Wk_block ?_
        refine Wk_seq ?_
        obtain ⟨h1, hF⟩ := asrt_elim hF
        obtain ⟨x1, h2, hF⟩ := lt_split hF
        refine WR [.av (e_Cell (lget l v1.2)), .callB (.int .i64 x1)] [0, 2, 3, 4] [2] [] [] [] [] ⟨[(0, .sl 5 (l.map e_Cell)), (2, .ptr 2 0), (3, .int .i64 v1.2), (4, .int .i64 x1)], [(2, [.int .i64 v1.1.Code, .int .i64 v1.1.At])], [], [], []⟩ (.cons (idx_ok e_Cell h1) (.cons (R_CellCode_ok (⟨(lget l v1.2).Row, (lget l v1.2).Col, (lget l v1.2).Time, (lget l v1.2).Gone, (lget l v1.2).Value⟩ : Cell) x1 h2) .nil)) (by kernel_rfl) ?_
        refine Wk_seq ?_
        refine Wk_seq ?_
        refine WR [] [0, 2, 3, 4, 21] [2] [] [] [] [] ⟨[(0, .sl 5 (l.map e_Cell)), (2, .ptr 2 0), (3, .int .i64 v1.2), (4, .int .i64 x1), (21, .bool (!decide (x1 = 0)))], [(2, [.int .i64 v1.1.Code, .int .i64 v1.1.At])], [], [], []⟩ .nil (by kernel_rfl) ?_
        refine Wk_split rfl (fun hb => ?_) (fun hb => ?_)
        · have hF := ite_t hF hb
          refine Wk_seq ?_
          obtain ⟨x2, h3, hF⟩ := lt_split hF
          refine WR [.callB (.agg [.int .i64 x2.Code, .int .i64 x2.At])] [2] [2] [] [] [] [] ⟨[(2, .ptr 2 0)], [(2, [.int .i64 x2.Code, .int .i64 x2.At])], [], [], []⟩ (.cons (R_F_ok x1 v1.2 x2 h3) .nil) (by kernel_rfl) ?_
          have hF := ret_done hF dn1
          have hF := some_elim hF
          exact Wk_ret (hfin _ ⟨[], [], [], [], [], [], by first | (rw [← hF]; kernel_rfl) | kernel_rfl⟩)
        · have hF := ite_f hF hb
          refine Wk_skip ?_
          refine Wk_seq ?_
          obtain ⟨h4, hF⟩ := asrt_elim hF
          obtain ⟨h5, hF⟩ := asrt_elim hF
          obtain ⟨x3, h6, hF⟩ := lt_split hF
          refine WD [.av (e_Cell (lget l (w64 (v1.2 - 1)))), .av (e_Cell (lget l v1.2)), .callB (.bool x3)] [0, 2, 3, 39] [2] [] [] [] [] ⟨[(0, .sl 5 (l.map e_Cell)), (2, .ptr 2 0), (3, .int .i64 v1.2), (39, .bool ((decide (0 < v1.2)) && (!x3)))], [(2, [.int .i64 v1.1.Code, .int .i64 v1.1.At])], [], [], []⟩ (.cons (fun (ga0 : (decide (0 < v1.2)) = true) => (idx_ok e_Cell (h4 ga0))) (.cons (fun (ga0 : (decide (0 < v1.2)) = true) => (idx_ok e_Cell (h5 ga0))) (.cons (fun (ga0 : (decide (0 < v1.2)) = true) => (R_Ahead_ok (⟨(lget l (w64 (v1.2 - 1))).Row, (lget l (w64 (v1.2 - 1))).Col, (lget l (w64 (v1.2 - 1))).Time, (lget l (w64 (v1.2 - 1))).Gone, (lget l (w64 (v1.2 - 1))).Value⟩ : Cell) (⟨(lget l v1.2).Row, (lget l v1.2).Col, (lget l v1.2).Time, (lget l v1.2).Gone, (lget l v1.2).Value⟩ : Cell) x3 h6)) .nil))) (by kernel_rfl) ?_
          refine Wk_split rfl (fun hb => ?_) (fun hb => ?_)
          · have hF := ite_t hF hb
            refine Wk_seq ?_
            obtain ⟨x4, h7, hF⟩ := lt_split hF
            refine WR [.callB (.agg [.int .i64 x4.Code, .int .i64 x4.At])] [2] [2] [] [] [] [] ⟨[(2, .ptr 2 0)], [(2, [.int .i64 x4.Code, .int .i64 x4.At])], [], [], []⟩ (.cons (R_F_ok 10 v1.2 x4 h7) .nil) (by kernel_rfl) ?_
            have hF := ret_done hF dn1
            have hF := some_elim hF
            exact Wk_ret (hfin _ ⟨[], [], [], [], [], [], by first | (rw [← hF]; kernel_rfl) | kernel_rfl⟩)
          · have hF := ite_f hF hb
            refine Wk_skip ?_
            refine Wk_blk ?_
            refine WR [] [0, 2, 3] [2] [] [] [] [] ⟨[(0, .sl 5 (l.map e_Cell)), (2, .ptr 2 0), (3, .int .i64 (w64 (v1.2 + 1)))], [(2, [.int .i64 v1.1.Code, .int .i64 v1.1.At])], [], [], []⟩ .nil (by kernel_rfl) ?_
            refine Wk_trim (fs := [0, 2, 3]) (bs := [2]) (rs := []) (ms := []) (aa := []) (nv := []) ?_ (ih1 _ (some_elim hF).symm)
            kernel_rfl
      · have hF := ite_f hF hb
        refine Wk_exit rfl ?_
        have hF := inrO_done hF dn1
        exact Wk_metP v1.1 [2] [2] [] [] [] [] hF (by kernel_rfl)
    · intro v hF
      have hF : R_CellsFault_J1 v = some r := hF
      unfold R_CellsFault_J1 at hF
      refine Wk_seq ?_
      refine WR [] [2] [2] [] [] [] [] ⟨[(2, .ptr 2 0)], [(2, [.int .i64 0, .int .i64 0])], [], [], []⟩ .nil (by kernel_rfl) ?_
      have hF := some_elim hF
      exact Wk_ret (hfin _ ⟨[], [], [], [], [], [], by first | (rw [← hF]; kernel_rfl) | kernel_rfl⟩)

/- tabularyref.CellsOf -/
noncomputable def R_CellsOf_J1 (v : Fault × List Cell) : Option (List Cell × Fault) :=
  ob (R_CellsFault v.2) fun x1 =>
  if (!decide (x1.Code = 0)) = true then
    some (([] : List Cell), x1)
  else
    some (v.2, (⟨0, 0⟩ : Fault))
noncomputable def R_CellsOf_B1 (v1 : List UInt8 × Fault × List Cell) : Option ((List UInt8 × Fault × List Cell) ⊕ (List Cell × Fault)) :=
  if (decide (0 < (v1.1.length : Int))) = true then
    ob (R_CellAt v1.1) fun x2 =>
    if (decide (x2.2 = 0)) = true then
      lt (R_F 5 (v1.2.2.length : Int)) fun x3 =>
      some (Sum.inr (([] : List Cell), x3))
    else
      asrt (((v1.2.2 ++ [x2.1]).length : Int) * 64 ≤ 140737488351232) <|
      asrt (0 ≤ x2.2 ∧ x2.2 ≤ (v1.1.length : Int)) <|
      some (Sum.inl ((ldrop v1.1 x2.2), v1.2.1, (v1.2.2 ++ [x2.1])))
  else
    inrO (R_CellsOf_J1 (v1.2.1, v1.2.2))
noncomputable def R_CellsOf_L1 (v0 : List UInt8 × Fault × List Cell) : Option (List Cell × Fault) :=
  loopO (fun y => R_CellsOf_B1 y) v0
noncomputable def R_CellsOf (b : List UInt8) : Option (List Cell × Fault) :=
  if (decide (60000 < (b.length : Int))) = true then
    lt (R_F 8 0) fun x =>
    some (([] : List Cell), x)
  else
    R_CellsOf_L1 (b, (⟨0, 0⟩ : Fault), ([] : List Cell))
theorem R_CellsOf_ok (b : List UInt8) (r : List Cell × Fault) (hF : R_CellsOf b = some r) : Pe Try.prog 71 ⟨[], [], [], [], []⟩ [.sl 1 (b.map e_u8)] (.tup [.row 28 0, .agg [.int .i64 r.2.Code, .int .i64 r.2.At]]) ⟨[], [], [(28, ⟨96, 5, 0, 0, 0, true, 0, [], (r.1.map e_Cell)⟩)], [], []⟩ := by
  refine Pe_of (N := 40) (res := [.tmp 2, .cell 3 31]) (ts := [22, 31]) Ty.ok Fn.b71 Try.func71 rfl rfl rfl rfl rfl rfl ?_
  intro Q g hfin
  unfold R_CellsOf at hF
  refine Wk_seq ?_
  refine WR [] [0, 3] [3] [] [] [] [] ⟨[(0, .sl 1 (b.map e_u8)), (3, .ptr 3 0)], [(3, [.int .i64 0, .int .i64 0])], [], [], []⟩ .nil (by kernel_rfl) ?_
  refine Wk_seq ?_
  refine Wk_seq ?_
  refine WR [.nat (b.length : Int)] [0, 3, 10] [3] [] [] [] [] ⟨[(0, .sl 1 (b.map e_u8)), (3, .ptr 3 0), (10, .bool (decide (60000 < (b.length : Int))))], [(3, [.int .i64 0, .int .i64 0])], [], [], []⟩ (.cons (len_ok e_u8 b) .nil) (by kernel_rfl) ?_
  refine Wk_split rfl (fun hb => ?_) (fun hb => ?_)
  · have hF := ite_t hF hb
    refine Wk_seq ?_
    obtain ⟨x, h0, hF⟩ := lt_split hF
    refine WR [.callB (.agg [.int .i64 x.Code, .int .i64 x.At])] [2, 3] [3] [] [] [] [] ⟨[(2, .nils), (3, .ptr 3 0)], [(3, [.int .i64 x.Code, .int .i64 x.At])], [], [], []⟩ (.cons (R_F_ok 8 0 x h0) .nil) (by kernel_rfl) ?_
    have hF := some_elim hF
    refine Wk_nilrow 2 60000 96 5 rfl rfl rfl ?_
    refine Wk_ren' ⟨[], [(60000, 28)], [], []⟩ rfl ?_
    exact Wk_ret (hfin _ ⟨[28], [], [28], [], [], [], by first | (rw [← hF]; kernel_rfl) | kernel_rfl⟩)
  · have hF := ite_f hF hb
    refine Wk_skip ?_
    refine Wk_seq ?_
    refine WR [] [0, 3, 4] [3] [] [] [] [] ⟨[(0, .sl 1 (b.map e_u8)), (3, .ptr 3 0), (4, .nils)], [(3, [.int .i64 0, .int .i64 0])], [], [], []⟩ .nil (by kernel_rfl) ?_
    refine Wk_seq ?_
    refine Wk_meetP (fun v : Fault × List Cell => (⟨[(3, .ptr 3 0), (4, .row 28 0)], [(3, [.int .i64 v.1.Code, .int .i64 v.1.At])], [(28, ⟨96, 5, 0, 0, 0, true, 0, [], (v.2.map e_Cell)⟩)], [], []⟩ : S)) (fun v => R_CellsOf_J1 v = some r) ?_ ?_
    · refine Wk_block ?_
      unfold R_CellsOf_L1 at hF
      refine Wk_nilrow 4 60002 96 5 rfl rfl rfl ?_
      refine Wk_trim (fs := [0, 3, 4]) (bs := [3]) (rs := [60002]) (ms := []) (aa := []) (nv := []) rfl ?_
      refine Wk_ren' ⟨[], [(60002, 28)], [], []⟩ rfl ?_
      refine Wk_trim (fs := [0, 3, 4]) (bs := [3]) (rs := [28]) (ms := []) (aa := []) (nv := []) (t := (fun v1 : List UInt8 × Fault × List Cell => (⟨[(0, .sl 1 (v1.1.map e_u8)), (3, .ptr 3 0), (4, .row 28 0)], [(3, [.int .i64 v1.2.1.Code, .int .i64 v1.2.1.At])], [(28, ⟨96, 5, 0, 0, 0, true, 0, [], (v1.2.2.map e_Cell)⟩)], [], []⟩ : S)) (b, (⟨0, 0⟩ : Fault), ([] : List Cell))) (by kernel_rfl) ?_
      refine Wk_iter (step := fun y => R_CellsOf_B1 y) (r := r) (fun v1 : List UInt8 × Fault × List Cell => (⟨[(0, .sl 1 (v1.1.map e_u8)), (3, .ptr 3 0), (4, .row 28 0)], [(3, [.int .i64 v1.2.1.Code, .int .i64 v1.2.1.At])], [(28, ⟨96, 5, 0, 0, 0, true, 0, [], (v1.2.2.map e_Cell)⟩)], [], []⟩ : S)) (b, (⟨0, 0⟩ : Fault), ([] : List Cell)) hF ?_
      intro n1 v1 y1 hF ih1 dn1
      have hF : R_CellsOf_B1 v1 = some y1 := hF
      unfold R_CellsOf_B1 at hF
      refine Wk_seq ?_
      refine Wk_seq ?_
      refine WR [.nat (v1.1.length : Int)] [0, 3, 4, 14] [3] [28] [] [] [] ⟨[(0, .sl 1 (v1.1.map e_u8)), (3, .ptr 3 0), (4, .row 28 0), (14, .bool (decide (0 < (v1.1.length : Int))))], [(3, [.int .i64 v1.2.1.Code, .int .i64 v1.2.1.At])], [(28, ⟨96, 5, 0, 0, 0, true, 0, [], (v1.2.2.map e_Cell)⟩)], [], []⟩ (.cons (len_ok e_u8 v1.1) .nil) (by kernel_rfl) ?_
      refine Wk_split rfl (fun hb => ?_) (fun hb => ?_)
      · have hF := ite_t hF hb
        refine Wk_skip ?_
        refine Wk_block ?_
        refine Wk_seq ?_
        obtain ⟨x2, h2, hF⟩ := ob_elim hF
        refine WR [.callB (.tup [.agg (c_Cell x2.1), .int .i64 x2.2])] [0, 3, 4, 5, 6] [3, 5] [28] [] [] [] ⟨[(0, .sl 1 (v1.1.map e_u8)), (3, .ptr 3 0), (4, .row 28 0), (5, .ptr 5 0), (6, .int .i64 x2.2)], [(3, [.int .i64 v1.2.1.Code, .int .i64 v1.2.1.At]), (5, (c_Cell x2.1))], [(28, ⟨96, 5, 0, 0, 0, true, 0, [], (v1.2.2.map e_Cell)⟩)], [], []⟩ (.cons (R_CellAt_ok v1.1 x2 h2) .nil) (by kernel_rfl) ?_
        refine Wk_seq ?_
        refine Wk_seq ?_
        refine WR [] [0, 3, 4, 5, 6, 21] [3, 5] [28] [] [] [] ⟨[(0, .sl 1 (v1.1.map e_u8)), (3, .ptr 3 0), (4, .row 28 0), (5, .ptr 5 0), (6, .int .i64 x2.2), (21, .bool (decide (x2.2 = 0)))], [(3, [.int .i64 v1.2.1.Code, .int .i64 v1.2.1.At]), (5, (c_Cell x2.1))], [(28, ⟨96, 5, 0, 0, 0, true, 0, [], (v1.2.2.map e_Cell)⟩)], [], []⟩ .nil (by kernel_rfl) ?_
        refine Wk_split rfl (fun hb => ?_) (fun hb => ?_)
        · have hF := ite_t hF hb
          refine Wk_seq ?_
          obtain ⟨x3, h3, hF⟩ := lt_split hF
          refine WR [.nat (v1.2.2.length : Int), .callB (.agg [.int .i64 x3.Code, .int .i64 x3.At])] [2, 3] [3] [] [] [] [] ⟨[(2, .nils), (3, .ptr 3 0)], [(3, [.int .i64 x3.Code, .int .i64 x3.At])], [], [], []⟩ (.cons (len_ok e_Cell v1.2.2) (.cons (R_F_ok 5 (v1.2.2.length : Int) x3 h3) .nil)) (by kernel_rfl) ?_
          have hF := ret_done hF dn1
          have hF := some_elim hF
          refine Wk_nilrow 2 60003 96 5 rfl rfl rfl ?_
          refine Wk_ren' ⟨[], [(60003, 28)], [], []⟩ rfl ?_
          exact Wk_ret (hfin _ ⟨[28], [], [28], [], [], [], by first | (rw [← hF]; kernel_rfl) | kernel_rfl⟩)
        · have hF := ite_f hF hb
          refine Wk_skip ?_
          refine Wk_seq ?_
          obtain ⟨h4, hF⟩ := asrt_elim hF
          refine WR [.sealed, .xs ((v1.2.2 ++ [x2.1]).map e_Cell)] [0, 3, 4, 6] [3] [28] [] [] [] ⟨[(0, .sl 1 (v1.1.map e_u8)), (3, .ptr 3 0), (4, .row 28 1), (6, .int .i64 x2.2)], [(3, [.int .i64 v1.2.1.Code, .int .i64 v1.2.1.At])], [(28, ⟨96, 5, 1, 0, 0, true, 0, [], ((v1.2.2 ++ [x2.1]).map e_Cell)⟩)], [], []⟩ (.cons (app_ok e_Cell v1.2.2 [x2.1]) (.cons (appl_ok e_Cell h4) .nil)) (by kernel_rfl) ?_
          obtain ⟨h5, hF⟩ := asrt_elim hF
          refine WR [.xs ((ldrop v1.1 x2.2).map e_u8)] [0, 3, 4] [3] [28] [] [] [] ⟨[(0, .sl 1 ((ldrop v1.1 x2.2).map e_u8)), (3, .ptr 3 0), (4, .row 28 1)], [(3, [.int .i64 v1.2.1.Code, .int .i64 v1.2.1.At])], [(28, ⟨96, 5, 1, 0, 0, true, 0, [], ((v1.2.2 ++ [x2.1]).map e_Cell)⟩)], [], []⟩ (.cons (sl10_ok e_u8 h5) .nil) (by kernel_rfl) ?_
          refine Wk_blk ?_
          refine Wk_trim (fs := [0, 3, 4]) (bs := [3]) (rs := [28]) (ms := []) (aa := []) (nv := [(28, ⟨0, true, true, false⟩)]) ?_ (ih1 _ (some_elim hF).symm)
          kernel_rfl
      · have hF := ite_f hF hb
        refine Wk_exit rfl ?_
        have hF := inrO_done hF dn1
        exact Wk_metP (v1.2.1, v1.2.2) [3, 4] [3] [28] [] [] [] hF (by kernel_rfl)
    · intro v hF
      have hF : R_CellsOf_J1 v = some r := hF
      unfold R_CellsOf_J1 at hF
      refine Wk_seq ?_
      obtain ⟨x1, h1, hF⟩ := ob_elim hF
      refine WR [.callB (.agg [.int .i64 x1.Code, .int .i64 x1.At])] [3, 4, 7] [3, 7] [28] [] [] [] ⟨[(3, .ptr 3 0), (4, .row 28 0), (7, .ptr 7 0)], [(3, [.int .i64 v.1.Code, .int .i64 v.1.At]), (7, [.int .i64 x1.Code, .int .i64 x1.At])], [(28, ⟨96, 5, 0, 0, 0, true, 0, [], (v.2.map e_Cell)⟩)], [], []⟩ (.cons (R_CellsFault_ok v.2 x1 h1) .nil) (by kernel_rfl) ?_
      refine Wk_seq ?_
      refine Wk_seq ?_
      refine WR [] [3, 4, 7, 36] [3, 7] [28] [] [] [] ⟨[(3, .ptr 3 0), (4, .row 28 0), (7, .ptr 7 0), (36, .bool (!decide (x1.Code = 0)))], [(3, [.int .i64 v.1.Code, .int .i64 v.1.At]), (7, [.int .i64 x1.Code, .int .i64 x1.At])], [(28, ⟨96, 5, 0, 0, 0, true, 0, [], (v.2.map e_Cell)⟩)], [], []⟩ .nil (by kernel_rfl) ?_
      refine Wk_split rfl (fun hb => ?_) (fun hb => ?_)
      · have hF := ite_t hF hb
        refine Wk_seq ?_
        refine WD [] [2, 3] [3] [] [] [] [] ⟨[(2, .nils), (3, .ptr 3 0)], [(3, [.int .i64 x1.Code, .int .i64 x1.At])], [], [], []⟩ .nil (by kernel_rfl) ?_
        have hF := some_elim hF
        refine Wk_nilrow 2 60001 96 5 rfl rfl rfl ?_
        refine Wk_ren' ⟨[], [(60001, 28)], [], []⟩ rfl ?_
        exact Wk_ret (hfin _ ⟨[28], [], [28], [], [], [], by first | (rw [← hF]; kernel_rfl) | kernel_rfl⟩)
      · have hF := ite_f hF hb
        refine Wk_skip ?_
        refine Wk_seq ?_
        refine WR [] [2, 3] [3] [28] [] [] [] ⟨[(2, .row 28 0), (3, .ptr 3 0)], [(3, [.int .i64 0, .int .i64 0])], [(28, ⟨96, 5, 0, 0, 0, true, 0, [], (v.2.map e_Cell)⟩)], [], []⟩ .nil (by kernel_rfl) ?_
        have hF := some_elim hF
        exact Wk_ret (hfin _ ⟨[28], [], [28], [], [], [], by first | (rw [← hF]; kernel_rfl) | kernel_rfl⟩)

/- tabularyref.NoteFault -/
noncomputable def R_NoteFault (num : Note) : Option Fault :=
  if ((decide (num.Seq < 1)) || (decide (1000000000 < num.Seq))) = true then
    lt (R_F 3 (-1)) fun x =>
    some x
  else
    if ((decide ((num.Cells.length : Int) = 0)) || (decide (20 < (num.Cells.length : Int)))) = true then
      lt (R_F 2 (-1)) fun x1 =>
      some x1
    else
      ob (R_CellsFault num.Cells) fun x2 =>
      some x2
theorem R_NoteFault_ok (num : Note) (r : Fault) (hF : R_NoteFault num = some r) : Pe Try.prog 21 S.none [.agg [.int .i64 num.Seq, .sl 5 (num.Cells.map e_Cell)]] (.agg [.int .i64 r.Code, .int .i64 r.At]) S.none := by
  refine Pe_of (N := 26) (res := [.cell 2 31]) (ts := [31]) Ty.ok Fn.b21 Try.func21 rfl rfl rfl rfl rfl rfl ?_
  intro Q g hfin
  unfold R_NoteFault at hF
  refine Wk_seq ?_
  refine WR [] [1, 2] [1, 2] [] [] [] [] ⟨[(1, .ptr 1 0), (2, .ptr 2 0)], [(1, [.int .i64 num.Seq, .sl 5 (num.Cells.map e_Cell)]), (2, [.int .i64 0, .int .i64 0])], [], [], []⟩ .nil (by kernel_rfl) ?_
  refine Wk_seq ?_
  refine Wk_seq ?_
  refine WR [] [1, 2, 10] [1, 2] [] [] [] [] ⟨[(1, .ptr 1 0), (2, .ptr 2 0), (10, .bool ((decide (num.Seq < 1)) || (decide (1000000000 < num.Seq))))], [(1, [.int .i64 num.Seq, .sl 5 (num.Cells.map e_Cell)]), (2, [.int .i64 0, .int .i64 0])], [], [], []⟩ .nil (by kernel_rfl) ?_
  refine Wk_split rfl (fun hb => ?_) (fun hb => ?_)
  · have hF := ite_t hF hb
    refine Wk_seq ?_
    obtain ⟨x, h0, hF⟩ := lt_split hF
    refine WR [.callB (.agg [.int .i64 x.Code, .int .i64 x.At])] [2] [2] [] [] [] [] ⟨[(2, .ptr 2 0)], [(2, [.int .i64 x.Code, .int .i64 x.At])], [], [], []⟩ (.cons (R_F_ok 3 (-1) x h0) .nil) (by kernel_rfl) ?_
    have hF := some_elim hF
    exact Wk_ret (hfin _ ⟨[], [], [], [], [], [], by first | (rw [← hF]; kernel_rfl) | kernel_rfl⟩)
  · have hF := ite_f hF hb
    refine Wk_skip ?_
    refine Wk_seq ?_
    refine Wk_seq ?_
    refine WR [.nat (num.Cells.length : Int), .nat (num.Cells.length : Int)] [1, 2, 21] [1, 2] [] [] [] [] ⟨[(1, .ptr 1 0), (2, .ptr 2 0), (21, .bool ((decide ((num.Cells.length : Int) = 0)) || (decide (20 < (num.Cells.length : Int)))))], [(1, [.int .i64 num.Seq, .sl 5 (num.Cells.map e_Cell)]), (2, [.int .i64 0, .int .i64 0])], [], [], []⟩ (.cons (len_ok e_Cell num.Cells) (.cons (fun (_ : (!(decide ((num.Cells.length : Int) = 0))) = true) => (len_ok e_Cell num.Cells)) .nil)) (by kernel_rfl) ?_
    refine Wk_split rfl (fun hb => ?_) (fun hb => ?_)
    · have hF := ite_t hF hb
      refine Wk_seq ?_
      obtain ⟨x1, h1, hF⟩ := lt_split hF
      refine WR [.callB (.agg [.int .i64 x1.Code, .int .i64 x1.At])] [2] [2] [] [] [] [] ⟨[(2, .ptr 2 0)], [(2, [.int .i64 x1.Code, .int .i64 x1.At])], [], [], []⟩ (.cons (R_F_ok 2 (-1) x1 h1) .nil) (by kernel_rfl) ?_
      have hF := some_elim hF
      exact Wk_ret (hfin _ ⟨[], [], [], [], [], [], by first | (rw [← hF]; kernel_rfl) | kernel_rfl⟩)
    · have hF := ite_f hF hb
      refine Wk_skip ?_
      refine Wk_seq ?_
      obtain ⟨x2, h2, hF⟩ := ob_elim hF
      refine WR [.callB (.agg [.int .i64 x2.Code, .int .i64 x2.At])] [2] [2] [] [] [] [] ⟨[(2, .ptr 2 0)], [(2, [.int .i64 x2.Code, .int .i64 x2.At])], [], [], []⟩ (.cons (R_CellsFault_ok num.Cells x2 h2) .nil) (by kernel_rfl) ?_
      have hF := some_elim hF
      exact Wk_ret (hfin _ ⟨[], [], [], [], [], [], by first | (rw [← hF]; kernel_rfl) | kernel_rfl⟩)

/- tabularyref.NoteOf -/
noncomputable def R_NoteOf_v1 (b : List UInt8) : Option (Note × Fault) :=
  if (decide (60000 < (b.length : Int))) = true then
    lt (R_F 8 0) fun x =>
    some ((⟨0, ([] : List Cell)⟩ : Note), x)
  else
    ob (R_NumberAt b) fun x1 =>
    if (decide (x1.2 = 0)) = true then
      lt (R_F 5 (-1)) fun x2 =>
      some ((⟨0, ([] : List Cell)⟩ : Note), x2)
    else
      asrt (0 ≤ x1.2 ∧ x1.2 ≤ (b.length : Int)) <|
      ob (R_CellsOf (ldrop b x1.2)) fun x3 =>
      if (!decide (x3.2.Code = 0)) = true then
        some ((⟨0, ([] : List Cell)⟩ : Note), x3.2)
      else
        ob (R_NoteFault (⟨x1.1, x3.1⟩ : Note)) fun x4 =>
        if (!decide (x4.Code = 0)) = true then
          some ((⟨0, ([] : List Cell)⟩ : Note), x4)
        else
          some ((⟨x1.1, x3.1⟩ : Note), (⟨0, 0⟩ : Fault))
theorem R_NoteOf_v1_ok (b : List UInt8) (r : Note × Fault) (hF : R_NoteOf_v1 b = some r) : Pe Try.prog 19 S.none [.sl 1 (b.map e_u8)] (.tup [.agg [.int .i64 r.1.Seq, .sl 5 (r.1.Cells.map e_Cell)], .agg [.int .i64 r.2.Code, .int .i64 r.2.At]]) S.none := by
  refine Pe_of (N := 47) (res := [.cell 2 24, .cell 3 31]) (ts := [24, 31]) Ty.ok Fn.b19 Try.func19 rfl rfl rfl rfl rfl rfl ?_
  intro Q g hfin
  unfold R_NoteOf_v1 at hF
  refine Wk_seq ?_
  refine WR [] [0, 2, 3] [2, 3] [] [] [] [] ⟨[(0, .sl 1 (b.map e_u8)), (2, .ptr 2 0), (3, .ptr 3 0)], [(2, [.int .i64 0, .nils]), (3, [.int .i64 0, .int .i64 0])], [], [], []⟩ .nil (by kernel_rfl) ?_
  refine Wk_seq ?_
  refine Wk_seq ?_
  refine WR [.nat (b.length : Int)] [0, 2, 3, 11] [2, 3] [] [] [] [] ⟨[(0, .sl 1 (b.map e_u8)), (2, .ptr 2 0), (3, .ptr 3 0), (11, .bool (decide (60000 < (b.length : Int))))], [(2, [.int .i64 0, .nils]), (3, [.int .i64 0, .int .i64 0])], [], [], []⟩ (.cons (len_ok e_u8 b) .nil) (by kernel_rfl) ?_
  refine Wk_split rfl (fun hb => ?_) (fun hb => ?_)
  · have hF := ite_t hF hb
    refine Wk_seq ?_
    obtain ⟨x, h0, hF⟩ := lt_split hF
    refine WR [.callB (.agg [.int .i64 x.Code, .int .i64 x.At])] [2, 3] [2, 3] [] [] [] [] ⟨[(2, .ptr 2 0), (3, .ptr 3 0)], [(2, [.int .i64 0, .nils]), (3, [.int .i64 x.Code, .int .i64 x.At])], [], [], []⟩ (.cons (R_F_ok 8 0 x h0) .nil) (by kernel_rfl) ?_
    have hF := some_elim hF
    exact Wk_ret (hfin _ ⟨[], [], [], [], [], [], by first | (rw [← hF]; kernel_rfl) | kernel_rfl⟩)
  · have hF := ite_f hF hb
    refine Wk_skip ?_
    refine Wk_seq ?_
    obtain ⟨x1, h1, hF⟩ := ob_elim hF
    refine WR [.callB (.tup [.int .i64 x1.1, .int .i64 x1.2])] [0, 2, 3, 4, 5] [2, 3] [] [] [] [] ⟨[(0, .sl 1 (b.map e_u8)), (2, .ptr 2 0), (3, .ptr 3 0), (4, .int .i64 x1.1), (5, .int .i64 x1.2)], [(2, [.int .i64 0, .nils]), (3, [.int .i64 0, .int .i64 0])], [], [], []⟩ (.cons (R_NumberAt_ok b x1 h1) .nil) (by kernel_rfl) ?_
    refine Wk_seq ?_
    refine Wk_seq ?_
    refine WR [] [0, 2, 3, 4, 5, 20] [2, 3] [] [] [] [] ⟨[(0, .sl 1 (b.map e_u8)), (2, .ptr 2 0), (3, .ptr 3 0), (4, .int .i64 x1.1), (5, .int .i64 x1.2), (20, .bool (decide (x1.2 = 0)))], [(2, [.int .i64 0, .nils]), (3, [.int .i64 0, .int .i64 0])], [], [], []⟩ .nil (by kernel_rfl) ?_
    refine Wk_split rfl (fun hb => ?_) (fun hb => ?_)
    · have hF := ite_t hF hb
      refine Wk_seq ?_
      obtain ⟨x2, h2, hF⟩ := lt_split hF
      refine WR [.callB (.agg [.int .i64 x2.Code, .int .i64 x2.At])] [2, 3] [2, 3] [] [] [] [] ⟨[(2, .ptr 2 0), (3, .ptr 3 0)], [(2, [.int .i64 0, .nils]), (3, [.int .i64 x2.Code, .int .i64 x2.At])], [], [], []⟩ (.cons (R_F_ok 5 (-1) x2 h2) .nil) (by kernel_rfl) ?_
      have hF := some_elim hF
      exact Wk_ret (hfin _ ⟨[], [], [], [], [], [], by first | (rw [← hF]; kernel_rfl) | kernel_rfl⟩)
    · have hF := ite_f hF hb
      refine Wk_skip ?_
      refine Wk_seq ?_
      obtain ⟨h3, hF⟩ := asrt_elim hF
      obtain ⟨x3, h4, hF⟩ := ob_elim hF
      refine WR [.xs ((ldrop b x1.2).map e_u8), .callE [] [] [] [] (.tup [.row 27 0, .agg [.int .i64 x3.2.Code, .int .i64 x3.2.At]]) ⟨[], [], [(27, ⟨96, 5, 0, 0, 0, true, 0, [], (x3.1.map e_Cell)⟩)], [], []⟩] [2, 3, 4, 6, 7] [2, 3, 7] [27] [] [] [] ⟨[(2, .ptr 2 0), (3, .ptr 3 0), (4, .int .i64 x1.1), (6, .row 27 0), (7, .ptr 7 0)], [(2, [.int .i64 0, .nils]), (3, [.int .i64 0, .int .i64 0]), (7, [.int .i64 x3.2.Code, .int .i64 x3.2.At])], [(27, ⟨96, 5, 0, 0, 0, true, 0, [], (x3.1.map e_Cell)⟩)], [], []⟩ (.cons (sl10_ok e_u8 h3) (.cons (Pe.ren (R_CellsOf_ok (ldrop b x1.2) x3 h4) ⟨[], [(28, 27)], [], []⟩) .nil)) (by kernel_rfl) ?_
      refine Wk_seq ?_
      refine Wk_seq ?_
      refine WR [] [2, 3, 4, 6, 7, 32] [2, 3, 7] [27] [] [] [] ⟨[(2, .ptr 2 0), (3, .ptr 3 0), (4, .int .i64 x1.1), (6, .row 27 0), (7, .ptr 7 0), (32, .bool (!decide (x3.2.Code = 0)))], [(2, [.int .i64 0, .nils]), (3, [.int .i64 0, .int .i64 0]), (7, [.int .i64 x3.2.Code, .int .i64 x3.2.At])], [(27, ⟨96, 5, 0, 0, 0, true, 0, [], (x3.1.map e_Cell)⟩)], [], []⟩ .nil (by kernel_rfl) ?_
      refine Wk_split rfl (fun hb => ?_) (fun hb => ?_)
      · have hF := ite_t hF hb
        refine Wk_seq ?_
        refine WD [] [2, 3] [2, 3] [] [] [] [] ⟨[(2, .ptr 2 0), (3, .ptr 3 0)], [(2, [.int .i64 0, .nils]), (3, [.int .i64 x3.2.Code, .int .i64 x3.2.At])], [], [], []⟩ .nil (by kernel_rfl) ?_
        have hF := some_elim hF
        exact Wk_ret (hfin _ ⟨[], [], [], [], [], [], by first | (rw [← hF]; kernel_rfl) | kernel_rfl⟩)
      · have hF := ite_f hF hb
        refine Wk_skip ?_
        refine Wk_seq ?_
        refine WR [] [2, 3, 7, 8] [2, 3, 7, 8] [27] [] [] [] ⟨[(2, .ptr 2 0), (3, .ptr 3 0), (7, .ptr 7 0), (8, .ptr 8 0)], [(2, [.int .i64 0, .nils]), (3, [.int .i64 0, .int .i64 0]), (7, [.int .i64 x3.2.Code, .int .i64 x3.2.At]), (8, [.int .i64 x1.1, .row 27 0])], [(27, ⟨96, 5, 0, 0, 0, true, 0, [], (x3.1.map e_Cell)⟩)], [], []⟩ .nil (by kernel_rfl) ?_
        refine Wk_seq ?_
        obtain ⟨x4, h5, hF⟩ := ob_elim hF
        refine WR [.callB (.agg [.int .i64 x4.Code, .int .i64 x4.At])] [2, 3, 7, 8] [2, 3, 7, 8] [27] [] [] [] ⟨[(2, .ptr 2 0), (3, .ptr 3 0), (7, .ptr 7 0), (8, .ptr 8 0)], [(2, [.int .i64 0, .nils]), (3, [.int .i64 0, .int .i64 0]), (7, [.int .i64 x4.Code, .int .i64 x4.At]), (8, [.int .i64 x1.1, .row 27 0])], [(27, ⟨96, 5, 0, 0, 0, true, 0, [], (x3.1.map e_Cell)⟩)], [], []⟩ (.cons (R_NoteFault_ok (⟨x1.1, x3.1⟩ : Note) x4 h5) .nil) (by kernel_rfl) ?_
        refine Wk_seq ?_
        refine Wk_seq ?_
        refine WR [] [2, 3, 7, 8, 42] [2, 3, 7, 8] [27] [] [] [] ⟨[(2, .ptr 2 0), (3, .ptr 3 0), (7, .ptr 7 0), (8, .ptr 8 0), (42, .bool (!decide (x4.Code = 0)))], [(2, [.int .i64 0, .nils]), (3, [.int .i64 0, .int .i64 0]), (7, [.int .i64 x4.Code, .int .i64 x4.At]), (8, [.int .i64 x1.1, .row 27 0])], [(27, ⟨96, 5, 0, 0, 0, true, 0, [], (x3.1.map e_Cell)⟩)], [], []⟩ .nil (by kernel_rfl) ?_
        refine Wk_split rfl (fun hb => ?_) (fun hb => ?_)
        · have hF := ite_t hF hb
          refine Wk_seq ?_
          refine WD [] [2, 3] [2, 3] [] [] [] [] ⟨[(2, .ptr 2 0), (3, .ptr 3 0)], [(2, [.int .i64 0, .nils]), (3, [.int .i64 x4.Code, .int .i64 x4.At])], [], [], []⟩ .nil (by kernel_rfl) ?_
          have hF := some_elim hF
          exact Wk_ret (hfin _ ⟨[], [], [], [], [], [], by first | (rw [← hF]; kernel_rfl) | kernel_rfl⟩)
        · have hF := ite_f hF hb
          refine Wk_skip ?_
          refine Wk_seq ?_
          refine WR [] [2, 3] [2, 3] [27] [] [] [] ⟨[(2, .ptr 2 0), (3, .ptr 3 0)], [(2, [.int .i64 x1.1, .row 27 0]), (3, [.int .i64 0, .int .i64 0])], [(27, ⟨96, 5, 0, 0, 0, true, 0, [], (x3.1.map e_Cell)⟩)], [], []⟩ .nil (by kernel_rfl) ?_
          have hF := some_elim hF
          exact Wk_ret (hfin _ ⟨[], [], [], [], [], [], by first | (rw [← hF]; kernel_rfl) | kernel_rfl⟩)

/- tabularyref.Written -/
noncomputable def R_Written (s0 : List UInt8) : Option (List UInt8) :=
  ob (R_Number (s0.length : Int)) fun x =>
  asrt (((x ++ s0).length : Int) * 1 ≤ 140737488351232) <|
  some (x ++ s0)
theorem R_Written_ok (s0 : List UInt8) (r : List UInt8) (hF : R_Written s0 = some r) : Pe Try.prog 84 ⟨[], [], [], [], []⟩ [.str s0] (.row 5 1) ⟨[], [], [(5, ⟨5, 1, 1, 0, 0, true, 0, [], (r.map e_u8)⟩)], [], []⟩ := by
  refine Pe_of (N := 8) (res := [.tmp 2]) (ts := [25]) Ty.ok Fn.b84 Try.func84 rfl rfl rfl rfl rfl rfl ?_
  intro Q g hfin
  unfold R_Written at hF
  refine Wk_seq ?_
  refine WR [] [0] [] [] [] [] [] ⟨[(0, .str s0)], [], [], [], []⟩ .nil (by kernel_rfl) ?_
  refine Wk_seq ?_
  obtain ⟨x, h0, hF⟩ := ob_elim hF
  obtain ⟨h1, hF⟩ := asrt_elim hF
  refine WR [.callE [] [] [] [] (.row 5 0) ⟨[], [], [(5, ⟨5, 1, 0, 0, 0, true, 0, [], (x.map e_u8)⟩)], [], []⟩, .xs ((x ++ s0).map e_u8)] [2] [] [5] [] [] [] ⟨[(2, .row 5 1)], [], [(5, ⟨5, 1, 1, 0, 0, true, 0, [], ((x ++ s0).map e_u8)⟩)], [], []⟩ (.cons (Pe.ren (R_Number_ok (s0.length : Int) x h0) ⟨[], [(7, 5)], [], []⟩) (.cons (app_ok e_u8 x s0) (.cons (appl_ok e_u8 h1) .nil))) (by kernel_rfl) ?_
  have hF := some_elim hF
  exact Wk_ret (hfin _ ⟨[5], [], [5], [], [], [], by first | (rw [← hF]; kernel_rfl) | kernel_rfl⟩)

/- tabularyref.CellBytes -/
noncomputable def R_CellBytes (c : Cell) : Option (List UInt8) :=
  ob (R_Written c.Row) fun x =>
  ob (R_Written c.Col) fun x1 =>
  asrt (((x ++ x1).length : Int) * 1 ≤ 140737488351232) <|
  ob (R_Number c.Time) fun x2 =>
  asrt ((((x ++ x1) ++ x2).length : Int) * 1 ≤ 140737488351232) <|
  ob (
    if c.Gone = true then
      asrt (((((x ++ x1) ++ x2) ++ ([(1 : UInt8)] : List UInt8)).length : Int) * 1 ≤ 140737488351232) <|
      some (c, (((x ++ x1) ++ x2) ++ ([(1 : UInt8)] : List UInt8)))
    else
      asrt (((((x ++ x1) ++ x2) ++ ([(0 : UInt8)] : List UInt8)).length : Int) * 1 ≤ 140737488351232) <|
      some (c, (((x ++ x1) ++ x2) ++ ([(0 : UInt8)] : List UInt8)))) fun (v : Cell × List UInt8) =>
  ob (R_Written v.1.Value) fun x3 =>
  asrt (((v.2 ++ x3).length : Int) * 1 ≤ 140737488351232) <|
  some (v.2 ++ x3)
theorem R_CellBytes_ok (c : Cell) (r : List UInt8) (hF : R_CellBytes c = some r) : Pe Try.prog 73 ⟨[], [], [], [], []⟩ [.agg (c_Cell c)] (.row 6 5) ⟨[], [], [(6, ⟨5, 1, 5, 0, 0, true, 0, [], (r.map e_u8)⟩)], [], []⟩ := by
  refine Pe_of (N := 29) (res := [.tmp 2]) (ts := [25]) Ty.ok Fn.b73 Try.func73 rfl rfl rfl rfl rfl rfl ?_
  intro Q g hfin
  unfold R_CellBytes at hF
  refine Wk_seq ?_
  refine WR [] [1] [1] [] [] [] [] ⟨[(1, .ptr 1 0)], [(1, (c_Cell c))], [], [], []⟩ .nil (by kernel_rfl) ?_
  refine Wk_seq ?_
  obtain ⟨x, h0, hF⟩ := ob_elim hF
  obtain ⟨x1, h1, hF⟩ := ob_elim hF
  obtain ⟨h2, hF⟩ := asrt_elim hF
  refine WD [.callE [] [] [] [] (.row 6 1) ⟨[], [], [(6, ⟨5, 1, 1, 0, 0, true, 0, [], (x.map e_u8)⟩)], [], []⟩, .callE [] [] [] [] (.row 9 1) ⟨[], [], [(9, ⟨5, 1, 1, 0, 0, true, 0, [], (x1.map e_u8)⟩)], [], []⟩, .xs ((x ++ x1).map e_u8)] [1, 3] [1] [6] [] [] [] ⟨[(1, .ptr 1 0), (3, .row 6 2)], [(1, (c_Cell c))], [(6, ⟨5, 1, 2, 0, 0, true, 0, [], ((x ++ x1).map e_u8)⟩)], [], []⟩ (.cons (Pe.ren (R_Written_ok c.Row x h0) ⟨[], [(5, 6)], [], []⟩) (.cons (Pe.ren (R_Written_ok c.Col x1 h1) ⟨[], [(5, 9)], [], []⟩) (.cons (app_ok e_u8 x x1) (.cons (appl_ok e_u8 h2) .nil)))) (by kernel_rfl) ?_
  refine Wk_seq ?_
  obtain ⟨x2, h3, hF⟩ := ob_elim hF
  obtain ⟨h4, hF⟩ := asrt_elim hF
  refine WR [.callE [] [] [] [] (.row 14 0) ⟨[], [], [(14, ⟨5, 1, 0, 0, 0, true, 0, [], (x2.map e_u8)⟩)], [], []⟩, .xs (((x ++ x1) ++ x2).map e_u8)] [1, 3] [1] [6] [] [] [] ⟨[(1, .ptr 1 0), (3, .row 6 3)], [(1, (c_Cell c))], [(6, ⟨5, 1, 3, 0, 0, true, 0, [], (((x ++ x1) ++ x2).map e_u8)⟩)], [], []⟩ (.cons (Pe.ren (R_Number_ok c.Time x2 h3) ⟨[], [(7, 14)], [], []⟩) (.cons (app_ok e_u8 (x ++ x1) x2) (.cons (appl_ok e_u8 h4) .nil))) (by kernel_rfl) ?_
  refine Wk_seq ?_
  refine Wk_seq ?_
  refine WR [] [1, 3, 17] [1] [6] [] [] [] ⟨[(1, .ptr 1 0), (3, .row 6 3), (17, .bool c.Gone)], [(1, (c_Cell c))], [(6, ⟨5, 1, 3, 0, 0, true, 0, [], (((x ++ x1) ++ x2).map e_u8)⟩)], [], []⟩ .nil (by kernel_rfl) ?_
  obtain ⟨v, hv, hF⟩ := ob_elim hF
  refine Wk_meet (⟨[(1, .ptr 1 0), (3, .row 6 4)], [(1, (c_Cell v.1))], [(6, ⟨5, 1, 4, 0, 0, true, 0, [], (v.2.map e_u8)⟩)], [], []⟩ : S) ?_ ?_
  · have hF := hv
    refine Wk_split rfl (fun hb => ?_) (fun hb => ?_)
    · have hF := ite_t hF hb
      obtain ⟨h5, hF⟩ := asrt_elim hF
      refine WR [.sealed, .xs ((((x ++ x1) ++ x2) ++ ([(1 : UInt8)] : List UInt8)).map e_u8)] [1, 3] [1] [6] [] [] [] ⟨[(1, .ptr 1 0), (3, .row 6 4)], [(1, (c_Cell c))], [(6, ⟨5, 1, 4, 0, 0, true, 0, [], ((((x ++ x1) ++ x2) ++ ([(1 : UInt8)] : List UInt8)).map e_u8)⟩)], [], []⟩ (.cons (app_ok e_u8 ((x ++ x1) ++ x2) ([(1 : UInt8)] : List UInt8)) (.cons (appl_ok e_u8 h5) .nil)) (by kernel_rfl) ?_
      exact Wk_met (fs := [1, 3]) (bs := [1]) (rs := [6]) (ms := []) (aa := []) (nv := []) (by first | (rw [← some_elim hF]; kernel_rfl) | kernel_rfl)
    · have hF := ite_f hF hb
      obtain ⟨h6, hF⟩ := asrt_elim hF
      refine WR [.sealed, .xs ((((x ++ x1) ++ x2) ++ ([(0 : UInt8)] : List UInt8)).map e_u8)] [1, 3] [1] [6] [] [] [] ⟨[(1, .ptr 1 0), (3, .row 6 4)], [(1, (c_Cell c))], [(6, ⟨5, 1, 4, 0, 0, true, 0, [], ((((x ++ x1) ++ x2) ++ ([(0 : UInt8)] : List UInt8)).map e_u8)⟩)], [], []⟩ (.cons (app_ok e_u8 ((x ++ x1) ++ x2) ([(0 : UInt8)] : List UInt8)) (.cons (appl_ok e_u8 h6) .nil)) (by kernel_rfl) ?_
      exact Wk_met (fs := [1, 3]) (bs := [1]) (rs := [6]) (ms := []) (aa := []) (nv := []) (by first | (rw [← some_elim hF]; kernel_rfl) | kernel_rfl)
  · refine Wk_seq ?_
    obtain ⟨x3, h7, hF⟩ := ob_elim hF
    obtain ⟨h8, hF⟩ := asrt_elim hF
    refine WR [.callE [] [] [] [] (.row 27 1) ⟨[], [], [(27, ⟨5, 1, 1, 0, 0, true, 0, [], (x3.map e_u8)⟩)], [], []⟩, .xs ((v.2 ++ x3).map e_u8)] [2] [] [6] [] [] [] ⟨[(2, .row 6 5)], [], [(6, ⟨5, 1, 5, 0, 0, true, 0, [], ((v.2 ++ x3).map e_u8)⟩)], [], []⟩ (.cons (Pe.ren (R_Written_ok v.1.Value x3 h7) ⟨[], [(5, 27)], [], []⟩) (.cons (app_ok e_u8 v.2 x3) (.cons (appl_ok e_u8 h8) .nil))) (by kernel_rfl) ?_
    have hF := some_elim hF
    exact Wk_ret (hfin _ ⟨[6], [], [6], [], [], [], by first | (rw [← hF]; kernel_rfl) | kernel_rfl⟩)

/- tabularyref.NoteBytes -/
noncomputable def R_NoteBytes_v1_J1 (v : List UInt8) : Option (List UInt8) :=
  some v
noncomputable def R_NoteBytes_v1_B1 (v1 : Note × List UInt8 × Int) : Option ((Note × List UInt8 × Int) ⊕ (List UInt8)) :=
  if (decide (v1.2.2 < (v1.1.Cells.length : Int))) = true then
    asrt (0 ≤ v1.2.2 ∧ v1.2.2 < (v1.1.Cells.length : Int)) <|
    ob (R_CellBytes (⟨(lget v1.1.Cells v1.2.2).Row, (lget v1.1.Cells v1.2.2).Col, (lget v1.1.Cells v1.2.2).Time, (lget v1.1.Cells v1.2.2).Gone, (lget v1.1.Cells v1.2.2).Value⟩ : Cell)) fun x1 =>
    asrt (((v1.2.1 ++ x1).length : Int) * 1 ≤ 140737488351232) <|
    some (Sum.inl (v1.1, (v1.2.1 ++ x1), w64 (v1.2.2 + 1)))
  else
    inrO (R_NoteBytes_v1_J1 v1.2.1)
noncomputable def R_NoteBytes_v1_L1 (v0 : Note × List UInt8 × Int) : Option (List UInt8) :=
  loopO (fun y => R_NoteBytes_v1_B1 y) v0
noncomputable def R_NoteBytes_v1 (num : Note) : Option (List UInt8) :=
  ob (R_Number num.Seq) fun x =>
  R_NoteBytes_v1_L1 (num, x, 0)
theorem R_NoteBytes_v1_ok (num : Note) (r : List UInt8) (hF : R_NoteBytes_v1 num = some r) : Pe Try.prog 23 S.none [.agg [.int .i64 num.Seq, .sl 5 (num.Cells.map e_Cell)]] (.sl 1 (r.map e_u8)) S.none := by
  refine Pe_of (N := 24) (res := [.tmp 2]) (ts := [25]) Ty.ok Fn.b23 Try.func23 rfl rfl rfl rfl rfl rfl ?_
  intro Q g hfin
  unfold R_NoteBytes_v1 at hF
  refine Wk_seq ?_
  refine WR [] [1] [1] [] [] [] [] ⟨[(1, .ptr 1 0)], [(1, [.int .i64 num.Seq, .sl 5 (num.Cells.map e_Cell)])], [], [], []⟩ .nil (by kernel_rfl) ?_
  refine Wk_seq ?_
  obtain ⟨x, h0, hF⟩ := ob_elim hF
  refine WR [.callE [] [] [] [] (.row 7 0) ⟨[], [], [(7, ⟨5, 1, 0, 0, 0, true, 0, [], (x.map e_u8)⟩)], [], []⟩] [1, 3] [1] [7] [] [] [] ⟨[(1, .ptr 1 0), (3, .row 7 0)], [(1, [.int .i64 num.Seq, .sl 5 (num.Cells.map e_Cell)])], [(7, ⟨5, 1, 0, 0, 0, true, 0, [], (x.map e_u8)⟩)], [], []⟩ (.cons (Pe.ren (R_Number_ok num.Seq x h0) ⟨[], [], [], []⟩) .nil) (by kernel_rfl) ?_
  refine Wk_seq ?_
  refine Wk_seq ?_
  refine WR [] [1, 3, 4] [1] [7] [] [] [] ⟨[(1, .ptr 1 0), (3, .row 7 0), (4, .int .i64 0)], [(1, [.int .i64 num.Seq, .sl 5 (num.Cells.map e_Cell)])], [(7, ⟨5, 1, 0, 0, 0, true, 0, [], (x.map e_u8)⟩)], [], []⟩ .nil (by kernel_rfl) ?_
  refine Wk_meetP (fun v : List UInt8 => (⟨[(3, .row 7 0)], [], [(7, ⟨5, 1, 0, 0, 0, true, 0, [], (v.map e_u8)⟩)], [], []⟩ : S)) (fun v => R_NoteBytes_v1_J1 v = some r) ?_ ?_
  · refine Wk_block ?_
    unfold R_NoteBytes_v1_L1 at hF
    refine Wk_trim (fs := [1, 3, 4]) (bs := [1]) (rs := [7]) (ms := []) (aa := []) (nv := []) (t := (fun v1 : Note × List UInt8 × Int => (⟨[(1, .ptr 1 0), (3, .row 7 0), (4, .int .i64 v1.2.2)], [(1, [.int .i64 v1.1.Seq, .sl 5 (v1.1.Cells.map e_Cell)])], [(7, ⟨5, 1, 0, 0, 0, true, 0, [], (v1.2.1.map e_u8)⟩)], [], []⟩ : S)) (num, x, 0)) (by kernel_rfl) ?_
    refine Wk_iter (step := fun y => R_NoteBytes_v1_B1 y) (r := r) (fun v1 : Note × List UInt8 × Int => (⟨[(1, .ptr 1 0), (3, .row 7 0), (4, .int .i64 v1.2.2)], [(1, [.int .i64 v1.1.Seq, .sl 5 (v1.1.Cells.map e_Cell)])], [(7, ⟨5, 1, 0, 0, 0, true, 0, [], (v1.2.1.map e_u8)⟩)], [], []⟩ : S)) (num, x, 0) hF ?_
    intro n1 v1 y1 hF ih1 dn1
    have hF : R_NoteBytes_v1_B1 v1 = some y1 := hF
    unfold R_NoteBytes_v1_B1 at hF
    refine Wk_seq ?_
    refine Wk_seq ?_
    refine WR [.nat (v1.1.Cells.length : Int)] [1, 3, 4, 12] [1] [7] [] [] [] ⟨[(1, .ptr 1 0), (3, .row 7 0), (4, .int .i64 v1.2.2), (12, .bool (decide (v1.2.2 < (v1.1.Cells.length : Int))))], [(1, [.int .i64 v1.1.Seq, .sl 5 (v1.1.Cells.map e_Cell)])], [(7, ⟨5, 1, 0, 0, 0, true, 0, [], (v1.2.1.map e_u8)⟩)], [], []⟩ (.cons (len_ok e_Cell v1.1.Cells) .nil) (by kernel_rfl) ?_
    refine Wk_split rfl (fun hb => ?_) (fun hb => ?_)
    · have hF := ite_t hF hb
      refine Wk_skip ?_
      refine Wk_seq ?_
      refine Wk_block ?_
      obtain ⟨h1, hF⟩ := asrt_elim hF
      obtain ⟨x1, h2, hF⟩ := ob_elim hF
      obtain ⟨h3, hF⟩ := asrt_elim hF
      refine WR [.av (e_Cell (lget v1.1.Cells v1.2.2)), .callE [] [] [] [] (.row 21 5) ⟨[], [], [(21, ⟨5, 1, 5, 0, 0, true, 0, [], (x1.map e_u8)⟩)], [], []⟩, .xs ((v1.2.1 ++ x1).map e_u8)] [1, 3, 4] [1] [7] [] [] [] ⟨[(1, .ptr 1 0), (3, .row 7 1), (4, .int .i64 v1.2.2)], [(1, [.int .i64 v1.1.Seq, .sl 5 (v1.1.Cells.map e_Cell)])], [(7, ⟨5, 1, 1, 0, 0, true, 0, [], ((v1.2.1 ++ x1).map e_u8)⟩)], [], []⟩ (.cons (idx_ok e_Cell h1) (.cons (Pe.ren (R_CellBytes_ok (⟨(lget v1.1.Cells v1.2.2).Row, (lget v1.1.Cells v1.2.2).Col, (lget v1.1.Cells v1.2.2).Time, (lget v1.1.Cells v1.2.2).Gone, (lget v1.1.Cells v1.2.2).Value⟩ : Cell) x1 h2) ⟨[], [(6, 21)], [], []⟩) (.cons (app_ok e_u8 v1.2.1 x1) (.cons (appl_ok e_u8 h3) .nil)))) (by kernel_rfl) ?_
      refine Wk_blk ?_
      refine WR [] [1, 3, 4] [1] [7] [] [] [] ⟨[(1, .ptr 1 0), (3, .row 7 1), (4, .int .i64 (w64 (v1.2.2 + 1)))], [(1, [.int .i64 v1.1.Seq, .sl 5 (v1.1.Cells.map e_Cell)])], [(7, ⟨5, 1, 1, 0, 0, true, 0, [], ((v1.2.1 ++ x1).map e_u8)⟩)], [], []⟩ .nil (by kernel_rfl) ?_
      refine Wk_trim (fs := [1, 3, 4]) (bs := [1]) (rs := [7]) (ms := []) (aa := []) (nv := [(7, ⟨0, true, true, false⟩)]) ?_ (ih1 _ (some_elim hF).symm)
      kernel_rfl
    · have hF := ite_f hF hb
      refine Wk_exit rfl ?_
      have hF := inrO_done hF dn1
      exact Wk_metP v1.2.1 [3] [] [7] [] [] [] hF (by kernel_rfl)
  · intro v hF
    have hF : R_NoteBytes_v1_J1 v = some r := hF
    unfold R_NoteBytes_v1_J1 at hF
    refine Wk_seq ?_
    refine WR [] [2] [] [7] [] [] [] ⟨[(2, .row 7 0)], [], [(7, ⟨5, 1, 0, 0, 0, true, 0, [], (v.map e_u8)⟩)], [], []⟩ .nil (by kernel_rfl) ?_
    have hF := some_elim hF
    exact Wk_ret (hfin _ ⟨[], [], [], [], [], [], by first | (rw [← hF]; kernel_rfl) | kernel_rfl⟩)

/- tabularylaw.WalNotes$1 -/
noncomputable def law_WalNotes_1 (box : Note) : Option (List UInt8) :=
  ob (R_NoteBytes_v1 box) fun x =>
  some x
theorem law_WalNotes_1_ok (box : Note) (r : List UInt8) (hF : law_WalNotes_1 box = some r) : Pe Try.prog 22 ⟨[], [(100000, [.int .i64 box.Seq, .sl 5 (box.Cells.map e_Cell)])], [], [], []⟩ [.ptr 100000 0] (.sl 1 (r.map e_u8)) ⟨[], [(100000, [.int .i64 box.Seq, .sl 5 (box.Cells.map e_Cell)])], [], [], []⟩ := by
  refine Pe_of (N := 4) (res := [.tmp 1]) (ts := [25]) Ty.ok Fn.b22 Try.func22 rfl rfl rfl rfl rfl rfl ?_
  intro Q g hfin
  unfold law_WalNotes_1 at hF
  refine Wk_seq ?_
  refine WR [] [0] [100000] [] [] [] [] ⟨[(0, .ptr 100000 0)], [(100000, [.int .i64 box.Seq, .sl 5 (box.Cells.map e_Cell)])], [], [], []⟩ .nil (by kernel_rfl) ?_
  refine Wk_seq ?_
  obtain ⟨x, h0, hF⟩ := ob_elim hF
  refine WR [.call (.sl 1 (x.map e_u8))] [1] [100000] [] [] [] [] ⟨[(1, .sl 1 (x.map e_u8))], [(100000, [.int .i64 box.Seq, .sl 5 (box.Cells.map e_Cell)])], [], [], []⟩ (.cons (R_NoteBytes_v1_ok box x h0) .nil) (by kernel_rfl) ?_
  have hF := some_elim hF
  exact Wk_ret (hfin _ ⟨[], [100000], [], [], [], [], by first | (rw [← hF]; kernel_rfl) | kernel_rfl⟩)

/- tabularylaw.bytesAs -/
noncomputable def law_bytesAs (b : List UInt8) (f : Fault) (w0 : Fault) (box : Note) : Option Bool :=
  if (!(decide (f.Code = w0.Code) && (decide (f.At = w0.At) && true))) = true then
    some false
  else
    if (!decide (w0.Code = 0)) = true then
      some (decide ((b.length : Int) = 0))
    else
      ob (law_WalNotes_1 box) fun x =>
      lt (R_Same b x) fun x1 =>
      some x1
theorem law_bytesAs_ok (b : List UInt8) (f : Fault) (w0 : Fault) (box : Note) (r : Bool) (hF : law_bytesAs b f w0 box = some r) : Pe Try.prog 20 ⟨[], [(100000, [.int .i64 box.Seq, .sl 5 (box.Cells.map e_Cell)])], [], [], []⟩ [.sl 1 (b.map e_u8), .agg [.int .i64 f.Code, .int .i64 f.At], .agg [.int .i64 w0.Code, .int .i64 w0.At], .fn 22 [.ptr 100000 0]] (.bool r) ⟨[], [(100000, [.int .i64 box.Seq, .sl 5 (box.Cells.map e_Cell)])], [], [], []⟩ := by
  refine Pe_of (N := 22) (res := [.tmp 8]) (ts := [4]) Ty.ok Fn.b20 Try.func20 rfl rfl rfl rfl rfl rfl ?_
  intro Q g hfin
  unfold law_bytesAs at hF
  refine Wk_seq ?_
  refine WR [] [0, 3, 5, 6] [5, 6, 100000] [] [] [] [] ⟨[(0, .sl 1 (b.map e_u8)), (3, .fn 22 [.ptr 100000 0]), (5, .ptr 5 0), (6, .ptr 6 0)], [(5, [.int .i64 f.Code, .int .i64 f.At]), (6, [.int .i64 w0.Code, .int .i64 w0.At]), (100000, [.int .i64 box.Seq, .sl 5 (box.Cells.map e_Cell)])], [], [], []⟩ .nil (by kernel_rfl) ?_
  refine Wk_seq ?_
  refine Wk_seq ?_
  refine WR [] [0, 3, 6, 11] [6, 100000] [] [] [] [] ⟨[(0, .sl 1 (b.map e_u8)), (3, .fn 22 [.ptr 100000 0]), (6, .ptr 6 0), (11, .bool (!(decide (f.Code = w0.Code) && (decide (f.At = w0.At) && true))))], [(6, [.int .i64 w0.Code, .int .i64 w0.At]), (100000, [.int .i64 box.Seq, .sl 5 (box.Cells.map e_Cell)])], [], [], []⟩ .nil (by kernel_rfl) ?_
  refine Wk_split rfl (fun hb => ?_) (fun hb => ?_)
  · have hF := ite_t hF hb
    refine Wk_seq ?_
    refine WR [] [8] [100000] [] [] [] [] ⟨[(8, .bool false)], [(100000, [.int .i64 box.Seq, .sl 5 (box.Cells.map e_Cell)])], [], [], []⟩ .nil (by kernel_rfl) ?_
    have hF := some_elim hF
    exact Wk_ret (hfin _ ⟨[], [100000], [], [], [], [], by first | (rw [← hF]; kernel_rfl) | kernel_rfl⟩)
  · have hF := ite_f hF hb
    refine Wk_skip ?_
    refine Wk_seq ?_
    refine Wk_seq ?_
    refine WR [] [0, 3, 14] [100000] [] [] [] [] ⟨[(0, .sl 1 (b.map e_u8)), (3, .fn 22 [.ptr 100000 0]), (14, .bool (!decide (w0.Code = 0)))], [(100000, [.int .i64 box.Seq, .sl 5 (box.Cells.map e_Cell)])], [], [], []⟩ .nil (by kernel_rfl) ?_
    refine Wk_split rfl (fun hb => ?_) (fun hb => ?_)
    · have hF := ite_t hF hb
      refine Wk_seq ?_
      refine WR [.nat (b.length : Int)] [8] [100000] [] [] [] [] ⟨[(8, .bool (decide ((b.length : Int) = 0)))], [(100000, [.int .i64 box.Seq, .sl 5 (box.Cells.map e_Cell)])], [], [], []⟩ (.cons (len_ok e_u8 b) .nil) (by kernel_rfl) ?_
      have hF := some_elim hF
      exact Wk_ret (hfin _ ⟨[], [100000], [], [], [], [], by first | (rw [← hF]; kernel_rfl) | kernel_rfl⟩)
    · have hF := ite_f hF hb
      refine Wk_skip ?_
      refine Wk_seq ?_
      obtain ⟨x, h0, hF⟩ := ob_elim hF
      obtain ⟨x1, h1, hF⟩ := lt_split hF
      refine WR [.callR [100000] [] [] [] (.sl 1 (x.map e_u8)), .callB (.bool x1)] [8] [100000] [] [] [] [] ⟨[(8, .bool x1)], [(100000, [.int .i64 box.Seq, .sl 5 (box.Cells.map e_Cell)])], [], [], []⟩ (.cons (Pe.ren (law_WalNotes_1_ok box x h0) ⟨[], [], [], []⟩) (.cons (R_Same_ok b x x1 h1) .nil)) (by kernel_rfl) ?_
      have hF := some_elim hF
      exact Wk_ret (hfin _ ⟨[], [100000], [], [], [], [], by first | (rw [← hF]; kernel_rfl) | kernel_rfl⟩)

/- tabularylaw.WalNotes -/
noncomputable def law_WalNotes (num : Note) (b : List UInt8) : Option Bool :=
  ob (law_walBegun) fun x =>
  if (!x) = true then
    some false
  else
    lt (law_many (num.Cells.length : Int)) fun x1 =>
    if (x1 || (decide (100000 < (b.length : Int)))) = true then
      some true
    else
      ob (law_ownNote num) fun x2 =>
      ob (law_ownBytes_v1 b) fun x3 =>
      ob (wal_Write_v1 x2) fun x4 =>
      ob (wal_Read_v1 x3) fun x5 =>
      ob (R_SameNote x2 num) fun x6 =>
      lt (R_Same x3 b) fun x7 =>
      if ((!x6) || (!x7)) = true then
        some false
      else
        ob (R_NoteOf_v1 b) fun x8 =>
        ob (R_NoteFault num) fun x9 =>
        ob (law_bytesAs x4.1 x4.2 x9 num) fun x10 =>
        ob (if (x10 && (decide (x5.2.Code = x8.2.Code) && (decide (x5.2.At = x8.2.At) && true))) = true then (R_SameNote x5.1 x8.1) else some default) fun x11 =>
        lt ((x10 && (decide (x5.2.Code = x8.2.Code) && (decide (x5.2.At = x8.2.At) && true))) && x11) fun (v : Bool) =>
        some v
theorem law_WalNotes_ok (num : Note) (b : List UInt8) (r : Bool) (hF : law_WalNotes num b = some r) : Pe Try.prog 3 S.none [.agg [.int .i64 num.Seq, .sl 5 (num.Cells.map e_Cell)], .sl 1 (b.map e_u8)] (.bool r) S.none := by
  refine Pe_of (N := 69) (res := [.tmp 4]) (ts := [4]) Ty.ok Fn.b3 Try.func3 rfl rfl rfl rfl rfl rfl ?_
  intro Q g hfin
  unfold law_WalNotes at hF
  refine Wk_seq ?_
  refine WR [] [1, 2] [2] [] [] [] [] ⟨[(1, .sl 1 (b.map e_u8)), (2, .ptr 2 0)], [(2, [.int .i64 num.Seq, .sl 5 (num.Cells.map e_Cell)])], [], [], []⟩ .nil (by kernel_rfl) ?_
  refine Wk_seq ?_
  refine Wk_seq ?_
  obtain ⟨x, h0, hF⟩ := ob_elim hF
  refine WR [.callB (.bool x)] [1, 2, 14] [2] [] [] [] [] ⟨[(1, .sl 1 (b.map e_u8)), (2, .ptr 2 0), (14, .bool (!x))], [(2, [.int .i64 num.Seq, .sl 5 (num.Cells.map e_Cell)])], [], [], []⟩ (.cons (law_walBegun_ok  x h0) .nil) (by kernel_rfl) ?_
  refine Wk_split rfl (fun hb => ?_) (fun hb => ?_)
  · have hF := ite_t hF hb
    refine Wk_seq ?_
    refine WR [] [4] [] [] [] [] [] ⟨[(4, .bool false)], [], [], [], []⟩ .nil (by kernel_rfl) ?_
    have hF := some_elim hF
    exact Wk_ret (hfin _ ⟨[], [], [], [], [], [], by first | (rw [← hF]; kernel_rfl) | kernel_rfl⟩)
  · have hF := ite_f hF hb
    refine Wk_skip ?_
    refine Wk_seq ?_
    refine Wk_seq ?_
    obtain ⟨x1, h1, hF⟩ := lt_split hF
    refine WR [.nat (num.Cells.length : Int), .callB (.bool x1), .nat (b.length : Int)] [1, 2, 23] [2] [] [] [] [] ⟨[(1, .sl 1 (b.map e_u8)), (2, .ptr 2 0), (23, .bool (x1 || (decide (100000 < (b.length : Int)))))], [(2, [.int .i64 num.Seq, .sl 5 (num.Cells.map e_Cell)])], [], [], []⟩ (.cons (len_ok e_Cell num.Cells) (.cons (law_many_ok (num.Cells.length : Int) x1 h1) (.cons (fun (_ : (!x1) = true) => (len_ok e_u8 b)) .nil))) (by kernel_rfl) ?_
    refine Wk_split rfl (fun hb => ?_) (fun hb => ?_)
    · have hF := ite_t hF hb
      refine Wk_seq ?_
      refine WR [] [4] [] [] [] [] [] ⟨[(4, .bool true)], [], [], [], []⟩ .nil (by kernel_rfl) ?_
      have hF := some_elim hF
      exact Wk_ret (hfin _ ⟨[], [], [], [], [], [], by first | (rw [← hF]; kernel_rfl) | kernel_rfl⟩)
    · have hF := ite_f hF hb
      refine Wk_skip ?_
      refine Wk_seq ?_
      obtain ⟨x2, h2, hF⟩ := ob_elim hF
      refine WR [.call (.agg [.int .i64 x2.Seq, .sl 5 (x2.Cells.map e_Cell)])] [1, 2, 5] [2, 5] [] [] [] [] ⟨[(1, .sl 1 (b.map e_u8)), (2, .ptr 2 0), (5, .ptr 5 0)], [(2, [.int .i64 num.Seq, .sl 5 (num.Cells.map e_Cell)]), (5, [.int .i64 x2.Seq, .sl 5 (x2.Cells.map e_Cell)])], [], [], []⟩ (.cons (law_ownNote_ok num x2 h2) .nil) (by kernel_rfl) ?_
      refine Wk_seq ?_
      obtain ⟨x3, h3, hF⟩ := ob_elim hF
      refine WR [.call (.sl 1 (x3.map e_u8))] [1, 2, 5, 6] [2, 5] [] [] [] [] ⟨[(1, .sl 1 (b.map e_u8)), (2, .ptr 2 0), (5, .ptr 5 0), (6, .sl 1 (x3.map e_u8))], [(2, [.int .i64 num.Seq, .sl 5 (num.Cells.map e_Cell)]), (5, [.int .i64 x2.Seq, .sl 5 (x2.Cells.map e_Cell)])], [], [], []⟩ (.cons (law_ownBytes_v1_ok b x3 h3) .nil) (by kernel_rfl) ?_
      refine Wk_seq ?_
      obtain ⟨x4, h4, hF⟩ := ob_elim hF
      refine WR [.call (.tup [.sl 1 (x4.1.map e_u8), .agg [.int .i64 x4.2.Code, .int .i64 x4.2.At]])] [1, 2, 5, 6, 7, 8] [2, 5, 8] [] [] [] [] ⟨[(1, .sl 1 (b.map e_u8)), (2, .ptr 2 0), (5, .ptr 5 0), (6, .sl 1 (x3.map e_u8)), (7, .sl 1 (x4.1.map e_u8)), (8, .ptr 8 0)], [(2, [.int .i64 num.Seq, .sl 5 (num.Cells.map e_Cell)]), (5, [.int .i64 x2.Seq, .sl 5 (x2.Cells.map e_Cell)]), (8, [.int .i64 x4.2.Code, .int .i64 x4.2.At])], [], [], []⟩ (.cons (wal_Write_v1_ok x2 x4 h4) .nil) (by kernel_rfl) ?_
      refine Wk_seq ?_
      obtain ⟨x5, h5, hF⟩ := ob_elim hF
      refine WR [.call (.tup [.agg [.int .i64 x5.1.Seq, .sl 5 (x5.1.Cells.map e_Cell)], .agg [.int .i64 x5.2.Code, .int .i64 x5.2.At]])] [1, 2, 5, 6, 7, 8, 9, 10] [2, 5, 8, 9, 10] [] [] [] [] ⟨[(1, .sl 1 (b.map e_u8)), (2, .ptr 2 0), (5, .ptr 5 0), (6, .sl 1 (x3.map e_u8)), (7, .sl 1 (x4.1.map e_u8)), (8, .ptr 8 0), (9, .ptr 9 0), (10, .ptr 10 0)], [(2, [.int .i64 num.Seq, .sl 5 (num.Cells.map e_Cell)]), (5, [.int .i64 x2.Seq, .sl 5 (x2.Cells.map e_Cell)]), (8, [.int .i64 x4.2.Code, .int .i64 x4.2.At]), (9, [.int .i64 x5.1.Seq, .sl 5 (x5.1.Cells.map e_Cell)]), (10, [.int .i64 x5.2.Code, .int .i64 x5.2.At])], [], [], []⟩ (.cons (wal_Read_v1_ok x3 x5 h5) .nil) (by kernel_rfl) ?_
      refine Wk_seq ?_
      refine Wk_seq ?_
      obtain ⟨x6, h6, hF⟩ := ob_elim hF
      obtain ⟨x7, h7, hF⟩ := lt_split hF
      refine WR [.callB (.bool x6), .callB (.bool x7)] [1, 2, 7, 8, 9, 10, 47] [2, 8, 9, 10] [] [] [] [] ⟨[(1, .sl 1 (b.map e_u8)), (2, .ptr 2 0), (7, .sl 1 (x4.1.map e_u8)), (8, .ptr 8 0), (9, .ptr 9 0), (10, .ptr 10 0), (47, .bool ((!x6) || (!x7)))], [(2, [.int .i64 num.Seq, .sl 5 (num.Cells.map e_Cell)]), (8, [.int .i64 x4.2.Code, .int .i64 x4.2.At]), (9, [.int .i64 x5.1.Seq, .sl 5 (x5.1.Cells.map e_Cell)]), (10, [.int .i64 x5.2.Code, .int .i64 x5.2.At])], [], [], []⟩ (.cons (R_SameNote_ok x2 num x6 h6) (.cons (fun (ga0 : (!(!x6)) = true) => (R_Same_ok x3 b x7 h7)) .nil)) (by kernel_rfl) ?_
      refine Wk_split rfl (fun hb => ?_) (fun hb => ?_)
      · have hF := ite_t hF hb
        refine Wk_seq ?_
        refine WR [] [4] [] [] [] [] [] ⟨[(4, .bool false)], [], [], [], []⟩ .nil (by kernel_rfl) ?_
        have hF := some_elim hF
        exact Wk_ret (hfin _ ⟨[], [], [], [], [], [], by first | (rw [← hF]; kernel_rfl) | kernel_rfl⟩)
      · have hF := ite_f hF hb
        refine Wk_skip ?_
        refine Wk_seq ?_
        obtain ⟨x8, h8, hF⟩ := ob_elim hF
        refine WR [.call (.tup [.agg [.int .i64 x8.1.Seq, .sl 5 (x8.1.Cells.map e_Cell)], .agg [.int .i64 x8.2.Code, .int .i64 x8.2.At]])] [2, 7, 8, 9, 10, 11, 12] [2, 8, 9, 10, 11, 12] [] [] [] [] ⟨[(2, .ptr 2 0), (7, .sl 1 (x4.1.map e_u8)), (8, .ptr 8 0), (9, .ptr 9 0), (10, .ptr 10 0), (11, .ptr 11 0), (12, .ptr 12 0)], [(2, [.int .i64 num.Seq, .sl 5 (num.Cells.map e_Cell)]), (8, [.int .i64 x4.2.Code, .int .i64 x4.2.At]), (9, [.int .i64 x5.1.Seq, .sl 5 (x5.1.Cells.map e_Cell)]), (10, [.int .i64 x5.2.Code, .int .i64 x5.2.At]), (11, [.int .i64 x8.1.Seq, .sl 5 (x8.1.Cells.map e_Cell)]), (12, [.int .i64 x8.2.Code, .int .i64 x8.2.At])], [], [], []⟩ (.cons (R_NoteOf_v1_ok b x8 h8) .nil) (by kernel_rfl) ?_
        refine Wk_seq ?_
        obtain ⟨x9, h9, hF⟩ := ob_elim hF
        obtain ⟨x10, h10, hF⟩ := ob_elim hF
        obtain ⟨x11, h11, hF⟩ := ob_elim hF
        refine WDL ((x10 && (decide (x5.2.Code = x8.2.Code) && (decide (x5.2.At = x8.2.At) && true))) && x11) (fun v : Bool => ⟨[(4, .bool v)], [], [], [], []⟩) [.callB (.agg [.int .i64 x9.Code, .int .i64 x9.At]), .callR [2] [] [] [] (.bool x10), .callB (.bool x11)] [4] [] [] [] [] [] (.cons (R_NoteFault_ok num x9 h9) (.cons (Pe.ren (law_bytesAs_ok x4.1 x4.2 x9 num x10 h10) ⟨[(100000, 2)], [], [], []⟩) (.cons (fun (ga0 : (x10 && (decide (x5.2.Code = x8.2.Code) && (decide (x5.2.At = x8.2.At) && true))) = true) => (R_SameNote_ok x5.1 x8.1 x11 (ite_t h11 ga0))) .nil))) (by kernel_rfl) (fun v hv => ?_)
        have hF := lt_elim hF hv
        have hF := some_elim hF
        exact Wk_ret (hfin _ ⟨[], [], [], [], [], [], by first | (rw [← hF]; kernel_rfl) | kernel_rfl⟩)

end G
end Go.Proofs.Ytollmifjbcccgaa
