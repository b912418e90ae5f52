/- The program's functions as plain functions, and that they are these. Written by a program (dec2.py). -/
import Derived.Test.YtollmifjbcccgaaGf1
namespace Go.Proofs.Ytollmifjbcccgaa
open Go Go.Dm
set_option linter.unusedVariables false
set_option linter.unusedSimpArgs false
set_option maxRecDepth 100000
namespace G
/- tabularyref.CellAt -/
noncomputable def R_CellAt_J1 (v : Cell × List (List UInt8) × List Int × Int) : Option (Cell × Int) :=
 asrt (0 ≤ (0 : Int) ∧ 0 < (v.2.1.length : Int)) <|
 asrt (0 ≤ (0 : Int) ∧ 0 < (v.2.1.length : Int)) <|
 asrt (0 ≤ (1 : Int) ∧ 1 < (v.2.1.length : Int)) <|
 asrt (0 ≤ (1 : Int) ∧ 1 < (v.2.1.length : Int)) <|
 asrt (0 ≤ (0 : Int) ∧ 0 < (v.2.2.1.length : Int)) <|
 asrt (0 ≤ (0 : Int) ∧ 0 < (v.2.2.1.length : Int)) <|
 asrt (0 ≤ (1 : Int) ∧ 1 < (v.2.2.1.length : Int)) <|
 asrt (0 ≤ (1 : Int) ∧ 1 < (v.2.2.1.length : Int)) <|
 asrt (0 ≤ (2 : Int) ∧ 2 < (v.2.1.length : Int)) <|
 asrt (0 ≤ (2 : Int) ∧ 2 < (v.2.1.length : Int)) <|
 asrt (0 ≤ (1 : Int) ∧ 1 < (v.2.2.1.length : Int)) <|
 asrt (0 ≤ (1 : Int) ∧ 1 < (v.2.2.1.length : Int)) <|
 lt (R_CellCode (⟨(lget v.2.1 0), (lget v.2.1 1), (lget v.2.2.1 0), decide ((lget v.2.2.1 1) = 1), (lget v.2.1 2)⟩ : Cell)) fun x =>
 if ((decide (1 < (lget v.2.2.1 1))) || (!decide (x = 0))) = true then
  some ((⟨([] : List UInt8), ([] : List UInt8), 0, false, ([] : List UInt8)⟩ : Cell), 0)
 else
  some ((⟨(lget v.2.1 0), (lget v.2.1 1), (lget v.2.2.1 0), decide ((lget v.2.2.1 1) = 1), (lget v.2.1 2)⟩ : Cell), v.2.2.2)
noncomputable def R_CellAt_J2 (v1 : Cell × List (List UInt8) × List Int × Int × Int) (v2 : Cell × List (List UInt8) × List Int × Int) : Option ((Cell × List (List UInt8) × List Int × Int × Int) ⊕ (Cell × Int)) :=
 some (Sum.inl (v2.1, v2.2.1, v2.2.2.1, v2.2.2.2, w64 (v1.2.2.2.2 + 1)))
noncomputable def R_CellAt_B1 (b : List UInt8) (v1 : Cell × List (List UInt8) × List Int × Int × Int) : Option ((Cell × List (List UInt8) × List Int × Int × Int) ⊕ (Cell × Int)) :=
 if (decide (v1.2.2.2.2 < 5)) = true then
  asrt (0 ≤ v1.2.2.2.1 ∧ v1.2.2.2.1 ≤ (b.length : Int)) <|
  ob (R_NumberAt (ldrop b v1.2.2.2.1)) fun x1 =>
  if (decide (x1.2 = 0)) = true then
   some (Sum.inr ((⟨([] : List UInt8), ([] : List UInt8), 0, false, ([] : List UInt8)⟩ : Cell), 0))
  else
   if ((decide (v1.2.2.2.2 = 2)) || (decide (v1.2.2.2.2 = 3))) = true then
    asrt (((v1.2.2.1 ++ ([x1.1] : List Int)).length : Int) * 8 ≤ 140737488351232) <|
    R_CellAt_J2 v1 (v1.1, v1.2.1, (v1.2.2.1 ++ ([x1.1] : List Int)), w64 (v1.2.2.2.1 + x1.2))
   else
    if (decide ((w64 ((b.length : Int) - (w64 (v1.2.2.2.1 + x1.2)))) < x1.1)) = true then
     some (Sum.inr ((⟨([] : List UInt8), ([] : List UInt8), 0, false, ([] : List UInt8)⟩ : Cell), 0))
    else
     asrt (0 ≤ w64 (v1.2.2.2.1 + x1.2) ∧ w64 (v1.2.2.2.1 + x1.2) ≤ w64 ((w64 (v1.2.2.2.1 + x1.2)) + x1.1) ∧ w64 ((w64 (v1.2.2.2.1 + x1.2)) + x1.1) ≤ (b.length : Int)) <|
     asrt (((v1.2.1 ++ ([(ldrop (ltake b (w64 ((w64 (v1.2.2.2.1 + x1.2)) + x1.1))) (w64 (v1.2.2.2.1 + x1.2)))] : List (List UInt8))).length : Int) * 16 ≤ 140737488351232) <|
     lt ((v1.2.1 ++ ([(ldrop (ltake b (w64 ((w64 (v1.2.2.2.1 + x1.2)) + x1.1))) (w64 (v1.2.2.2.1 + x1.2)))] : List (List UInt8)))) fun (v3 : List (List UInt8)) =>
     R_CellAt_J2 v1 (v1.1, v3, v1.2.2.1, w64 ((w64 (v1.2.2.2.1 + x1.2)) + x1.1))
 else
  inrO (R_CellAt_J1 (v1.1, v1.2.1, v1.2.2.1, v1.2.2.2.1))
noncomputable def R_CellAt_L1 (b : List UInt8) (v0 : Cell × List (List UInt8) × List Int × Int × Int) : Option (Cell × Int) :=
 loopO (fun y => R_CellAt_B1 b y) v0
noncomputable def R_CellAt (b : List UInt8) : Option (Cell × Int) :=
 R_CellAt_L1 b ((⟨([] : List UInt8), ([] : List UInt8), 0, false, ([] : List UInt8)⟩ : Cell), ([] : List (List UInt8)), ([] : List Int), 0, 0)

/- tabularyref.CellsOf -/
noncomputable def R_CellsOf_J1 (v : Fault × List Cell) : Option (List Cell × Fault) :=
 ob (R_CellsFault v.2) fun x1 =>
 if (!decide (x1.Code = 0)) = true then
  some (([] : List Cell), x1)
 else
  some (v.2, (⟨0, 0⟩ : Fault))
noncomputable def R_CellsOf_B1 (v1 : List UInt8 × Fault × List Cell) : Option ((List UInt8 × Fault × List Cell) ⊕ (List Cell × Fault)) :=
 if (decide (0 < (v1.1.length : Int))) = true then
  ob (R_CellAt v1.1) fun x2 =>
  if (decide (x2.2 = 0)) = true then
   lt (R_F 5 (v1.2.2.length : Int)) fun x3 =>
   some (Sum.inr (([] : List Cell), x3))
  else
   asrt (((v1.2.2 ++ [x2.1]).length : Int) * 64 ≤ 140737488351232) <|
   asrt (0 ≤ x2.2 ∧ x2.2 ≤ (v1.1.length : Int)) <|
   some (Sum.inl ((ldrop v1.1 x2.2), v1.2.1, (v1.2.2 ++ [x2.1])))
 else
  inrO (R_CellsOf_J1 (v1.2.1, v1.2.2))
noncomputable def R_CellsOf_L1 (v0 : List UInt8 × Fault × List Cell) : Option (List Cell × Fault) :=
 loopO (fun y => R_CellsOf_B1 y) v0
noncomputable def R_CellsOf (b : List UInt8) : Option (List Cell × Fault) :=
 if (decide (60000 < (b.length : Int))) = true then
  lt (R_F 8 0) fun x =>
  some (([] : List Cell), x)
 else
  R_CellsOf_L1 (b, (⟨0, 0⟩ : Fault), ([] : List Cell))

/- tabularyref.OpenedFile -/
noncomputable def R_OpenedFile_v1_J2 (x1 : List (List UInt8) × Int) (v1 : Fault × List Cell × List Int) : Option (List Cell × List Int × Fault) :=
 ob (R_CellsFault v1.2.1) fun x4 =>
 if ((!decide (x4.Code = 0)) || (decide (500 < (v1.2.1.length : Int)))) = true then
  lt (R_F 5 2) fun x5 =>
  some (([] : List Cell), ([] : List Int), x5)
 else
  ob (R_FilterOf v1.2.1) fun x6 =>
  asrt (0 ≤ w64 ((w64 ((x1.1.length : Int) - 2)) + 1) ∧ w64 ((w64 ((x1.1.length : Int) - 2)) + 1) < (x1.1.length : Int)) <|
  asrt (0 ≤ w64 ((w64 ((x1.1.length : Int) - 2)) + 1) ∧ w64 ((w64 ((x1.1.length : Int) - 2)) + 1) < (x1.1.length : Int)) <|
  lt (R_Same x6 (lget x1.1 (w64 ((w64 ((x1.1.length : Int) - 2)) + 1)))) fun x7 =>
  if (!x7) = true then
   lt (R_F 5 3) fun x8 =>
   some (([] : List Cell), ([] : List Int), x8)
  else
   some (v1.2.1, v1.2.2, (⟨0, 0⟩ : Fault))
noncomputable def R_OpenedFile_v1_B1 (x1 : List (List UInt8) × Int) (v : Fault × List UInt8 × List (List UInt8)) (v2 : Fault × List Cell × List Int × Int) : Option ((Fault × List Cell × List Int × Int) ⊕ (List Cell × List Int × Fault)) :=
 if (decide (v2.2.2.2 < (w64 ((x1.1.length : Int) - 2)))) = true then
  asrt (0 ≤ v2.2.2.2 ∧ v2.2.2.2 < (x1.1.length : Int)) <|
  asrt (0 ≤ v2.2.2.2 ∧ v2.2.2.2 < (x1.1.length : Int)) <|
  ob (R_CellsOf (lget x1.1 v2.2.2.2)) fun x9 =>
  asrt ((!((!decide (x9.2.Code = 0)) || (decide ((x9.1.length : Int) = 0)))) = true → 0 ≤ (0 : Int) ∧ 0 < (x9.1.length : Int)) <|
  asrt ((!((!decide (x9.2.Code = 0)) || (decide ((x9.1.length : Int) = 0)))) = true → 0 ≤ (0 : Int) ∧ 0 < (x9.1.length : Int)) <|
  asrt ((!((!decide (x9.2.Code = 0)) || (decide ((x9.1.length : Int) = 0)))) = true → 0 ≤ v2.2.2.2 ∧ v2.2.2.2 < (v.2.2.length : Int)) <|
  asrt ((!((!decide (x9.2.Code = 0)) || (decide ((x9.1.length : Int) = 0)))) = true → 0 ≤ v2.2.2.2 ∧ v2.2.2.2 < (v.2.2.length : Int)) <|
  if (((!decide (x9.2.Code = 0)) || (decide ((x9.1.length : Int) = 0))) || (!decide (((lget x9.1 0).Row) = (lget v.2.2 v2.2.2.2)))) = true then
   lt (R_F 5 2) fun x10 =>
   some (Sum.inr (([] : List Cell), ([] : List Int), x10))
  else
   asrt (((v2.2.1 ++ x9.1).length : Int) * 64 ≤ 140737488351232) <|
   asrt (((v2.2.2.1 ++ ([(x9.1.length : Int)] : List Int)).length : Int) * 8 ≤ 140737488351232) <|
   some (Sum.inl (v2.1, (v2.2.1 ++ x9.1), (v2.2.2.1 ++ ([(x9.1.length : Int)] : List Int)), w64 (v2.2.2.2 + 1)))
 else
  inrO (R_OpenedFile_v1_J2 x1 (v2.1, v2.2.1, v2.2.2.1))
noncomputable def R_OpenedFile_v1_L1 (x1 : List (List UInt8) × Int) (v : Fault × List UInt8 × List (List UInt8)) (v0 : Fault × List Cell × List Int × Int) : Option (List Cell × List Int × Fault) :=
 loopO (fun y => R_OpenedFile_v1_B1 x1 v y) v0
noncomputable def R_OpenedFile_v1_J1 (x1 : List (List UInt8) × Int) (v : Fault × List UInt8 × List (List UInt8)) : Option (List Cell × List Int × Fault) :=
 if (decide (0 < (v.2.1.length : Int))) = true then
  lt (R_F 5 1) fun x3 =>
  some (([] : List Cell), ([] : List Int), x3)
 else
  R_OpenedFile_v1_L1 x1 v (v.1, ([] : List Cell), ([] : List Int), 0)
noncomputable def R_OpenedFile_v1_B2 (x1 : List (List UInt8) × Int) (v3 : Fault × List UInt8 × List (List UInt8) × Int) : Option ((Fault × List UInt8 × List (List UInt8) × Int) ⊕ (List Cell × List Int × Fault)) :=
 if (decide (v3.2.2.2 < (w64 ((x1.1.length : Int) - 2)))) = true then
  ob (R_NumberAt v3.2.1) fun x11 =>
  if ((decide (x11.2 = 0)) || (decide ((w64 ((v3.2.1.length : Int) - x11.2)) < x11.1))) = true then
   lt (R_F 5 1) fun x12 =>
   some (Sum.inr (([] : List Cell), ([] : List Int), x12))
  else
   asrt (0 ≤ x11.2 ∧ x11.2 ≤ w64 (x11.2 + x11.1) ∧ w64 (x11.2 + x11.1) ≤ (v3.2.1.length : Int)) <|
   asrt (((v3.2.2.1 ++ ([(ldrop (ltake v3.2.1 (w64 (x11.2 + x11.1))) x11.2)] : List (List UInt8))).length : Int) * 16 ≤ 140737488351232) <|
   lt ((v3.2.2.1 ++ ([(ldrop (ltake v3.2.1 (w64 (x11.2 + x11.1))) x11.2)] : List (List UInt8)))) fun (v4 : List (List UInt8)) =>
   asrt (0 ≤ w64 (x11.2 + x11.1) ∧ w64 (x11.2 + x11.1) ≤ (v3.2.1.length : Int)) <|
   ob (R_NumberAt (ldrop v3.2.1 (w64 (x11.2 + x11.1)))) fun x13 =>
   asrt ((!(decide (x13.2 = 0))) = true → 0 ≤ v3.2.2.2 ∧ v3.2.2.2 < (x1.1.length : Int)) <|
   asrt ((!(decide (x13.2 = 0))) = true → 0 ≤ v3.2.2.2 ∧ v3.2.2.2 < (x1.1.length : Int)) <|
   if ((decide (x13.2 = 0)) || (!decide (x13.1 = ((lget x1.1 v3.2.2.2).length : Int)))) = true then
    lt (R_F 5 1) fun x14 =>
    some (Sum.inr (([] : List Cell), ([] : List Int), x14))
   else
    asrt (0 ≤ x13.2 ∧ x13.2 ≤ ((ldrop v3.2.1 (w64 (x11.2 + x11.1))).length : Int)) <|
    some (Sum.inl (v3.1, (ldrop (ldrop v3.2.1 (w64 (x11.2 + x11.1))) x13.2), v4, w64 (v3.2.2.2 + 1)))
 else
  inrO (R_OpenedFile_v1_J1 x1 (v3.1, v3.2.1, v3.2.2.1))
noncomputable def R_OpenedFile_v1_L2 (x1 : List (List UInt8) × Int) (v0 : Fault × List UInt8 × List (List UInt8) × Int) : Option (List Cell × List Int × Fault) :=
 loopO (fun y => R_OpenedFile_v1_B2 x1 y) v0
noncomputable def R_OpenedFile_v1 (b : List UInt8) : Option (List Cell × List Int × Fault) :=
 if (decide (60000 < (b.length : Int))) = true then
  lt (R_F 8 0) fun x =>
  some (([] : List Cell), ([] : List Int), x)
 else
  ob (R_Unframed b) fun x1 =>
  asrt ((!((!decide (x1.2 = (b.length : Int))) || (decide ((w64 ((x1.1.length : Int) - 2)) < 0)))) = true → 0 ≤ w64 ((w64 ((x1.1.length : Int) - 2)) + 1) ∧ w64 ((w64 ((x1.1.length : Int) - 2)) + 1) < (x1.1.length : Int)) <|
  asrt ((!((!decide (x1.2 = (b.length : Int))) || (decide ((w64 ((x1.1.length : Int) - 2)) < 0)))) = true → 0 ≤ w64 ((w64 ((x1.1.length : Int) - 2)) + 1) ∧ w64 ((w64 ((x1.1.length : Int) - 2)) + 1) < (x1.1.length : Int)) <|
  if (((!decide (x1.2 = (b.length : Int))) || (decide ((w64 ((x1.1.length : Int) - 2)) < 0))) || (decide (((lget x1.1 (w64 ((w64 ((x1.1.length : Int) - 2)) + 1))).length : Int) = 0))) = true then
   lt (R_F 5 0) fun x2 =>
   some (([] : List Cell), ([] : List Int), x2)
  else
   asrt (0 ≤ w64 ((x1.1.length : Int) - 2) ∧ w64 ((x1.1.length : Int) - 2) < (x1.1.length : Int)) <|
   asrt (0 ≤ w64 ((x1.1.length : Int) - 2) ∧ w64 ((x1.1.length : Int) - 2) < (x1.1.length : Int)) <|
   R_OpenedFile_v1_L2 x1 ((⟨0, 0⟩ : Fault), (lget x1.1 (w64 ((x1.1.length : Int) - 2))), ([] : List (List UInt8)), 0)

/- tabularylaw.FileOpens$1 -/
noncomputable def law_FileOpens_1 (box : List Cell) : List Cell :=
 box

/- tabularylaw.cellsAs -/
noncomputable def law_cellsAs (l : List Cell) (f : Fault) (w0 : Fault) (box : List Cell) : Option Bool :=
 if (!(decide (f.Code = w0.Code) && (decide (f.At = w0.At) && true))) = true then
  some false
 else
  if (!decide (w0.Code = 0)) = true then
   some (decide ((l.length : Int) = 0))
  else
   lt (law_FileOpens_1 box) fun x =>
   ob (R_SameCells l x) fun x1 =>
   some x1

/- tabularyref.MayBe -/
noncomputable def R_MayBe_J1 (v : Unit) : Option Bool :=
 some true
noncomputable def R_MayBe_B1 (x : List UInt8) (x1 : List Int) (v1 : Int) : Option (Int ⊕ Bool) :=
 if (decide (v1 < (x1.length : Int))) = true then
  asrt (0 ≤ v1 ∧ v1 < (x1.length : Int)) <|
  asrt (0 ≤ w64 (Int.tdiv (lget x1 v1) 8) ∧ w64 (Int.tdiv (lget x1 v1) 8) < (x.length : Int)) <|
  asrt (0 ≤ w64 (Int.tdiv (lget x1 v1) 8) ∧ w64 (Int.tdiv (lget x1 v1) 8) < (x.length : Int)) <|
  asrt (0 ≤ v1 ∧ v1 < (x1.length : Int)) <|
  asrt (0 ≤ (Int.tmod (lget x1 v1) 8)) <|
  asrt (((2 : UInt8).toNat : Int) ≠ 0) <|
  if (decide (((toU8 (Int.tmod ((toU8 (Int.fdiv ((lget x (w64 (Int.tdiv (lget x1 v1) 8))).toNat : Int) (2 ^ (min (Int.tmod (lget x1 v1) 8).toNat 8)))).toNat : Int) ((2 : UInt8).toNat : Int))).toNat : Int) = ((0 : UInt8).toNat : Int))) = true then
   some (Sum.inr false)
  else
   some (Sum.inl (w64 (v1 + 1)))
 else
  inrO (R_MayBe_J1 ())
noncomputable def R_MayBe_L1 (x : List UInt8) (x1 : List Int) (v0 : Int) : Option Bool :=
 loopO (fun y => R_MayBe_B1 x x1 y) v0
noncomputable def R_MayBe (l : List Cell) (row : List UInt8) : Option Bool :=
 ob (R_FilterOf l) fun x =>
 ob (R_Bits row (w64 (8 * (x.length : Int)))) fun x1 =>
 R_MayBe_L1 x x1 0

/- tabularyref.BlocksFor -/
noncomputable def R_BlocksFor_J1 (v : Int × Int) : Option Int :=
 some (w64 (v.2 - v.1))
noncomputable def R_BlocksFor_B1 (l : List Cell) (each : List Int) (row : List UInt8) (v1 : Int × Int × Int × Int) : Option ((Int × Int × Int × Int) ⊕ Int) :=
 if (decide (v1.2.2.2 < (each.length : Int))) = true then
  asrt (0 ≤ v1.2.2.1 ∧ v1.2.2.1 < (l.length : Int)) <|
  ob (
   if (Op.bytesLess ((lget l v1.2.2.1).Row) row) = true then
    some v1.2.2.2
   else
    some v1.1) fun (v2 : Int) =>
  asrt (0 ≤ v1.2.2.1 ∧ v1.2.2.1 < (l.length : Int)) <|
  ob (
   if (!Op.bytesLess row ((lget l v1.2.2.1).Row)) = true then
    some (w64 (v1.2.2.2 + 1))
   else
    some v1.2.1) fun (v3 : Int) =>
  asrt (0 ≤ v1.2.2.2 ∧ v1.2.2.2 < (each.length : Int)) <|
  some (Sum.inl (v2, v3, w64 (v1.2.2.1 + (lget each v1.2.2.2)), w64 (v1.2.2.2 + 1)))
 else
  inrO (R_BlocksFor_J1 (v1.1, v1.2.1))
noncomputable def R_BlocksFor_L1 (l : List Cell) (each : List Int) (row : List UInt8) (v0 : Int × Int × Int × Int) : Option Int :=
 loopO (fun y => R_BlocksFor_B1 l each row y) v0
noncomputable def R_BlocksFor (l : List Cell) (each : List Int) (row : List UInt8) : Option Int :=
 R_BlocksFor_L1 l each row (0, 0, 0, 0)

/- tabularyref.SeenCell -/
noncomputable def R_SeenCell_J1 (l : List Cell) (v : Cell × Int) : Option (Cell × Bool) :=
 asrt ((!(decide (v.2 < 0))) = true → 0 ≤ v.2 ∧ v.2 < (l.length : Int)) <|
 if ((decide (v.2 < 0)) || ((lget l v.2).Gone)) = true then
  some ((⟨([] : List UInt8), ([] : List UInt8), 0, false, ([] : List UInt8)⟩ : Cell), false)
 else
  asrt (0 ≤ v.2 ∧ v.2 < (l.length : Int)) <|
  some ((⟨(lget l v.2).Row, (lget l v.2).Col, (lget l v.2).Time, (lget l v.2).Gone, (lget l v.2).Value⟩ : Cell), true)
noncomputable def R_SeenCell_B1 (l : List Cell) (row : List UInt8) (col : List UInt8) (time : Int) (v1 : Cell × Int × Int) : Option ((Cell × Int × Int) ⊕ (Cell × Bool)) :=
 if (decide (v1.2.2 < (l.length : Int))) = true then
  asrt (0 ≤ v1.2.2 ∧ v1.2.2 < (l.length : Int)) <|
  asrt ((decide (((lget l v1.2.2).Row) = row)) = true → 0 ≤ v1.2.2 ∧ v1.2.2 < (l.length : Int)) <|
  asrt (((decide (((lget l v1.2.2).Row) = row)) && (decide (((lget l v1.2.2).Col) = col))) = true → 0 ≤ v1.2.2 ∧ v1.2.2 < (l.length : Int)) <|
  asrt ((!(decide (v1.2.1 < 0))) = true → (((decide (((lget l v1.2.2).Row) = row)) && (decide (((lget l v1.2.2).Col) = col))) && (decide (((lget l v1.2.2).Time) ≤ time))) = true → 0 ≤ v1.2.2 ∧ v1.2.2 < (l.length : Int)) <|
  asrt ((!(decide (v1.2.1 < 0))) = true → (((decide (((lget l v1.2.2).Row) = row)) && (decide (((lget l v1.2.2).Col) = col))) && (decide (((lget l v1.2.2).Time) ≤ time))) = true → 0 ≤ v1.2.1 ∧ v1.2.1 < (l.length : Int)) <|
  ob (
   if ((((decide (((lget l v1.2.2).Row) = row)) && (decide (((lget l v1.2.2).Col) = col))) && (decide (((lget l v1.2.2).Time) ≤ time))) && ((decide (v1.2.1 < 0)) || (decide (((lget l v1.2.1).Time) < ((lget l v1.2.2).Time))))) = true then
    some (v1.1, v1.2.2)
   else
    some (v1.1, v1.2.1)) fun (v2 : Cell × Int) =>
  some (Sum.inl (v2.1, v2.2, w64 (v1.2.2 + 1)))
 else
  inrO (R_SeenCell_J1 l (v1.1, v1.2.1))
noncomputable def R_SeenCell_L1 (l : List Cell) (row : List UInt8) (col : List UInt8) (time : Int) (v0 : Cell × Int × Int) : Option (Cell × Bool) :=
 loopO (fun y => R_SeenCell_B1 l row col time y) v0
noncomputable def R_SeenCell (l : List Cell) (row : List UInt8) (col : List UInt8) (time : Int) : Option (Cell × Bool) :=
 R_SeenCell_L1 l row col time ((⟨([] : List UInt8), ([] : List UInt8), 0, false, ([] : List UInt8)⟩ : Cell), (-1), 0)

/- tabularylaw.FileOpens -/
noncomputable def law_FileOpens (b : List UInt8) (row : List UInt8) (col : List UInt8) (time : Int) : Option Bool :=
 ob (law_fileBegun) fun x =>
 if (!x) = true then
  some false
 else
  if (decide (100000 < (b.length : Int))) = true then
   some true
  else
   ob (law_ownBytes_v1 b) fun x1 =>
   ob (file_Open_v1 x1) fun x2 =>
   ob (file_May x1 row) fun x3 =>
   ob (file_Find x1 row col time) fun x4 =>
   ob (R_OpenedFile_v1 b) fun x5 =>
   ob (law_cellsAs x2.1 x2.2 x5.2.2 x5.1) fun x6 =>
   lt (R_Same x1 b) fun x7 =>
   if (((!x6) || (!(decide (x3.2.Code = x5.2.2.Code) && (decide (x3.2.At = x5.2.2.At) && true)))) || (!x7)) = true then
    some false
   else
    ob (if (decide (x5.2.2.Code = 0)) = true then (R_MayBe x5.1 row) else some default) fun x8 =>
    if (!(x3.1 == ((decide (x5.2.2.Code = 0)) && x8))) = true then
     some false
    else
     ob (
      if ((decide (x5.2.2.Code = 0)) && ((decide (time < 0)) || (decide (1000000000 < time)))) = true then
       lt (R_F 3 (-1)) fun x9 =>
       some (x4.2.2.2, x9)
      else
       some (x4.2.2.2, x5.2.2)) fun (v : Fault × Fault) =>
     if (!(decide (v.1.Code = v.2.Code) && (decide (v.1.At = v.2.At) && true))) = true then
      some false
     else
      if (!decide (v.2.Code = 0)) = true then
       lt (((decide (x4.1 = ([] : List UInt8))) && (!x4.2.1)) && (decide (x4.2.2.1 = 0))) fun (v1 : Bool) =>
       some v1
      else
       ob (R_MayBe x5.1 row) fun x10 =>
       ob (
        if x10 = true then
         ob (R_BlocksFor x5.1 x5.2.1 row) fun x11 =>
         some x11
        else
         some 0) fun (v2 : Int) =>
       ob (R_SeenCell x5.1 row col time) fun x12 =>
       lt (((x4.2.1 == x12.2) && (decide (x4.1 = x12.1.Value))) && (decide (x4.2.2.1 = v2))) fun (v3 : Bool) =>
       some v3

/- cell.Get -/
noncomputable def cell_Get (l : List Cell) (row : List UInt8) (col : List UInt8) (time : Int) : Option (List UInt8 × Bool × Fault) :=
 ob (cell_Check l) fun x =>
 if (!decide (x.Code = 0)) = true then
  some (([] : List UInt8), false, x)
 else
  if ((decide (time < 0)) || (decide (1000000000 < time))) = true then
   lt (cell_fault 3 (-1)) fun x1 =>
   some (([] : List UInt8), false, x1)
  else
   ob (cell_Newest l row col time) fun x2 =>
   some (x2.1.Value, x2.2 && (!x2.1.Gone), (⟨0, 0⟩ : Fault))

/- tabularylaw.FileFinds -/
noncomputable def law_FileFinds_J1 (l : List Cell) (row : List UInt8) (col : List UInt8) (time : Int) (x1 : List UInt8 × Fault) (v : Unit) : Option Bool :=
 ob (file_Find x1.1 row col time) fun x2 =>
 ob (cell_Get l row col time) fun x3 =>
 if ((!decide (x2.2.2.2.Code = 0)) || (!decide (x3.2.2.Code = 0))) = true then
  lt ((decide (x2.2.2.2.Code = x3.2.2.Code) && (decide (x2.2.2.2.At = x3.2.2.At) && true))) fun (v1 : Bool) =>
  some v1
 else
  ob (file_Make_v1 l 50) fun x4 =>
  if (!decide (x4.2.Code = 0)) = true then
   some (decide (x4.2.Code = 9))
  else
   ob (file_Find x4.1 row col time) fun x5 =>
   lt (((((decide (x2.1 = x3.1)) && (x2.2.1 == x3.2.1)) && (decide (x5.2.2.2.Code = 0))) && (decide (x5.1 = x3.1))) && (x5.2.1 == x3.2.1)) fun (v2 : Bool) =>
   some v2
noncomputable def law_FileFinds_B1 (l : List Cell) (row : List UInt8) (col : List UInt8) (time : Int) (x1 : List UInt8 × Fault) (v3 : Int) : Option (Int ⊕ Bool) :=
 if (decide (v3 < (l.length : Int))) = true then
  asrt (0 ≤ v3 ∧ v3 < (l.length : Int)) <|
  ob (file_May x1.1 ((lget l v3).Row)) fun x6 =>
  if ((!decide (x6.2.Code = 0)) || (!x6.1)) = true then
   some (Sum.inr false)
  else
   some (Sum.inl (w64 (v3 + 1)))
 else
  inrO (law_FileFinds_J1 l row col time x1 ())
noncomputable def law_FileFinds_L1 (l : List Cell) (row : List UInt8) (col : List UInt8) (time : Int) (x1 : List UInt8 × Fault) (v0 : Int) : Option Bool :=
 loopO (fun y => law_FileFinds_B1 l row col time x1 y) v0
noncomputable def law_FileFinds (l : List Cell) (size : Int) (row : List UInt8) (col : List UInt8) (time : Int) : Option Bool :=
 ob (law_fileBegun) fun x =>
 if (!x) = true then
  some false
 else
  if (decide (150 < (l.length : Int))) = true then
   some true
  else
   ob (file_Make_v1 l size) fun x1 =>
   if (!decide (x1.2.Code = 0)) = true then
    some true
   else
    law_FileFinds_L1 l row col time x1 0

end G
end Go.Proofs.Ytollmifjbcccgaa
