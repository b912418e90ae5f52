/- The program's functions as plain functions, and that they are these. Written by a program (dec2.py). -/
import Derived.Test.YtkbgkkbinnclmaaGf0
namespace Go.Proofs.Ytkbgkkbinnclmaa
open Go Go.Dm
set_option linter.unusedVariables false
set_option linter.unusedSimpArgs false
set_option maxRecDepth 100000
namespace G
/- slices.symMergeCmpFunc[api.Cell] -/
noncomputable def slices_symMergeCmpFunc_api_Cell_v1_J2 (v1 : List Cell) : Option (List Cell) :=
 some v1
noncomputable def slices_symMergeCmpFunc_api_Cell_v1_B1 (v : Int) (v2 : List Cell × Int) : Option ((List Cell × Int) ⊕ (List Cell)) :=
 if (decide (v2.2 < (w64 (v - 1)))) = true then
  asrt (0 ≤ w64 (v2.2 + 1) ∧ w64 (v2.2 + 1) < (v2.1.length : Int)) <|
  asrt (0 ≤ w64 (v2.2 + 1) ∧ w64 (v2.2 + 1) < (v2.1.length : Int)) <|
  asrt (0 ≤ v2.2 ∧ v2.2 < (v2.1.length : Int)) <|
  asrt (0 ≤ v2.2 ∧ v2.2 < (v2.1.length : Int)) <|
  asrt (0 ≤ v2.2 ∧ v2.2 < (v2.1.length : Int)) <|
  asrt (0 ≤ v2.2 ∧ v2.2 < (v2.1.length : Int)) <|
  asrt (0 ≤ w64 (v2.2 + 1) ∧ w64 (v2.2 + 1) < ((lset v2.1 v2.2 (⟨(lget v2.1 (w64 (v2.2 + 1))).Row, (lget v2.1 (w64 (v2.2 + 1))).Col, (lget v2.1 (w64 (v2.2 + 1))).Time, (lget v2.1 (w64 (v2.2 + 1))).Gone, (lget v2.1 (w64 (v2.2 + 1))).Value⟩ : Cell)).length : Int)) <|
  asrt (0 ≤ w64 (v2.2 + 1) ∧ w64 (v2.2 + 1) < ((lset v2.1 v2.2 (⟨(lget v2.1 (w64 (v2.2 + 1))).Row, (lget v2.1 (w64 (v2.2 + 1))).Col, (lget v2.1 (w64 (v2.2 + 1))).Time, (lget v2.1 (w64 (v2.2 + 1))).Gone, (lget v2.1 (w64 (v2.2 + 1))).Value⟩ : Cell)).length : Int)) <|
  lt ((lset (lset v2.1 v2.2 (⟨(lget v2.1 (w64 (v2.2 + 1))).Row, (lget v2.1 (w64 (v2.2 + 1))).Col, (lget v2.1 (w64 (v2.2 + 1))).Time, (lget v2.1 (w64 (v2.2 + 1))).Gone, (lget v2.1 (w64 (v2.2 + 1))).Value⟩ : Cell)) (w64 (v2.2 + 1)) (⟨(lget v2.1 v2.2).Row, (lget v2.1 v2.2).Col, (lget v2.1 v2.2).Time, (lget v2.1 v2.2).Gone, (lget v2.1 v2.2).Value⟩ : Cell))) fun (v3 : List Cell) =>
  some (Sum.inl (v3, w64 (v2.2 + 1)))
 else
  inrO (slices_symMergeCmpFunc_api_Cell_v1_J2 v2.1)
noncomputable def slices_symMergeCmpFunc_api_Cell_v1_L1 (v : Int) (v0 : List Cell × Int) : Option (List Cell) :=
 loopO (fun y => slices_symMergeCmpFunc_api_Cell_v1_B1 v y) v0
noncomputable def slices_symMergeCmpFunc_api_Cell_v1_J1 (a0 : Int) (row : List Cell) (v : Int) : Option (List Cell) :=
 slices_symMergeCmpFunc_api_Cell_v1_L1 v (row, a0)
noncomputable def slices_symMergeCmpFunc_api_Cell_v1_B2 (a0 : Int) (row : List Cell) (v4 : Int × Int) : Option ((Int × Int) ⊕ (List Cell)) :=
 if (decide (v4.1 < v4.2)) = true then
  lt (w64 (Int.fdiv (IntKind.u64.wrap (w64 (v4.1 + v4.2))) (2 ^ (min (1 : Int).toNat 64)))) fun (v5 : Int) =>
  asrt (0 ≤ v5 ∧ v5 < (row.length : Int)) <|
  asrt (0 ≤ v5 ∧ v5 < (row.length : Int)) <|
  asrt (0 ≤ a0 ∧ a0 < (row.length : Int)) <|
  asrt (0 ≤ a0 ∧ a0 < (row.length : Int)) <|
  ob (cell_Order (⟨(lget row v5).Row, (lget row v5).Col, (lget row v5).Time, (lget row v5).Gone, (lget row v5).Value⟩ : Cell) (⟨(lget row a0).Row, (lget row a0).Col, (lget row a0).Time, (lget row a0).Gone, (lget row a0).Value⟩ : Cell)) fun x =>
  if (decide (x < 0)) = true then
   some (Sum.inl (w64 (v5 + 1), v4.2))
  else
   some (Sum.inl (v4.1, v5))
 else
  inrO (slices_symMergeCmpFunc_api_Cell_v1_J1 a0 row v4.1)
noncomputable def slices_symMergeCmpFunc_api_Cell_v1_L2 (a0 : Int) (row : List Cell) (v0 : Int × Int) : Option (List Cell) :=
 loopO (fun y => slices_symMergeCmpFunc_api_Cell_v1_B2 a0 row y) v0
noncomputable def slices_symMergeCmpFunc_api_Cell_v1_J4 (v7 : List Cell) : Option (List Cell) :=
 some v7
noncomputable def slices_symMergeCmpFunc_api_Cell_v1_B3 (v6 : Int) (v8 : List Cell × Int) : Option ((List Cell × Int) ⊕ (List Cell)) :=
 if (decide (v6 < v8.2)) = true then
  asrt (0 ≤ w64 (v8.2 - 1) ∧ w64 (v8.2 - 1) < (v8.1.length : Int)) <|
  asrt (0 ≤ w64 (v8.2 - 1) ∧ w64 (v8.2 - 1) < (v8.1.length : Int)) <|
  asrt (0 ≤ v8.2 ∧ v8.2 < (v8.1.length : Int)) <|
  asrt (0 ≤ v8.2 ∧ v8.2 < (v8.1.length : Int)) <|
  asrt (0 ≤ v8.2 ∧ v8.2 < (v8.1.length : Int)) <|
  asrt (0 ≤ v8.2 ∧ v8.2 < (v8.1.length : Int)) <|
  asrt (0 ≤ w64 (v8.2 - 1) ∧ w64 (v8.2 - 1) < ((lset v8.1 v8.2 (⟨(lget v8.1 (w64 (v8.2 - 1))).Row, (lget v8.1 (w64 (v8.2 - 1))).Col, (lget v8.1 (w64 (v8.2 - 1))).Time, (lget v8.1 (w64 (v8.2 - 1))).Gone, (lget v8.1 (w64 (v8.2 - 1))).Value⟩ : Cell)).length : Int)) <|
  asrt (0 ≤ w64 (v8.2 - 1) ∧ w64 (v8.2 - 1) < ((lset v8.1 v8.2 (⟨(lget v8.1 (w64 (v8.2 - 1))).Row, (lget v8.1 (w64 (v8.2 - 1))).Col, (lget v8.1 (w64 (v8.2 - 1))).Time, (lget v8.1 (w64 (v8.2 - 1))).Gone, (lget v8.1 (w64 (v8.2 - 1))).Value⟩ : Cell)).length : Int)) <|
  lt ((lset (lset v8.1 v8.2 (⟨(lget v8.1 (w64 (v8.2 - 1))).Row, (lget v8.1 (w64 (v8.2 - 1))).Col, (lget v8.1 (w64 (v8.2 - 1))).Time, (lget v8.1 (w64 (v8.2 - 1))).Gone, (lget v8.1 (w64 (v8.2 - 1))).Value⟩ : Cell)) (w64 (v8.2 - 1)) (⟨(lget v8.1 v8.2).Row, (lget v8.1 v8.2).Col, (lget v8.1 v8.2).Time, (lget v8.1 v8.2).Gone, (lget v8.1 v8.2).Value⟩ : Cell))) fun (v9 : List Cell) =>
  some (Sum.inl (v9, w64 (v8.2 - 1)))
 else
  inrO (slices_symMergeCmpFunc_api_Cell_v1_J4 v8.1)
noncomputable def slices_symMergeCmpFunc_api_Cell_v1_L3 (v6 : Int) (v0 : List Cell × Int) : Option (List Cell) :=
 loopO (fun y => slices_symMergeCmpFunc_api_Cell_v1_B3 v6 y) v0
noncomputable def slices_symMergeCmpFunc_api_Cell_v1_J3 (m : Int) (row : List Cell) (v6 : Int) : Option (List Cell) :=
 slices_symMergeCmpFunc_api_Cell_v1_L3 v6 (row, m)
noncomputable def slices_symMergeCmpFunc_api_Cell_v1_B4 (m : Int) (row : List Cell) (v10 : Int × Int) : Option ((Int × Int) ⊕ (List Cell)) :=
 if (decide (v10.1 < v10.2)) = true then
  lt (w64 (Int.fdiv (IntKind.u64.wrap (w64 (v10.1 + v10.2))) (2 ^ (min (1 : Int).toNat 64)))) fun (v11 : Int) =>
  asrt (0 ≤ m ∧ m < (row.length : Int)) <|
  asrt (0 ≤ m ∧ m < (row.length : Int)) <|
  asrt (0 ≤ v11 ∧ v11 < (row.length : Int)) <|
  asrt (0 ≤ v11 ∧ v11 < (row.length : Int)) <|
  ob (cell_Order (⟨(lget row m).Row, (lget row m).Col, (lget row m).Time, (lget row m).Gone, (lget row m).Value⟩ : Cell) (⟨(lget row v11).Row, (lget row v11).Col, (lget row v11).Time, (lget row v11).Gone, (lget row v11).Value⟩ : Cell)) fun x1 =>
  if (!(decide (x1 < 0))) = true then
   some (Sum.inl (w64 (v11 + 1), v10.2))
  else
   some (Sum.inl (v10.1, v11))
 else
  inrO (slices_symMergeCmpFunc_api_Cell_v1_J3 m row v10.1)
noncomputable def slices_symMergeCmpFunc_api_Cell_v1_L4 (m : Int) (row : List Cell) (v0 : Int × Int) : Option (List Cell) :=
 loopO (fun y => slices_symMergeCmpFunc_api_Cell_v1_B4 m row y) v0
noncomputable def slices_symMergeCmpFunc_api_Cell_v1_J5 (a0 : Int) (m : Int) (b : Int) (row : List Cell) (rec : (Int × Int × Int × List Cell) → Option (List Cell)) (v12 : Int) (v14 : Int) : Option (List Cell) :=
 ob (
  if ((decide (v14 < m)) && (decide (m < (w64 ((w64 (v12 + m)) - v14))))) = true then
   ob (slices_rotateCmpFunc_api_Cell_v1 v14 m (w64 ((w64 (v12 + m)) - v14)) row) fun x2 =>
   some x2
  else
   some row) fun (v15 : List Cell) =>
 ob (
  if ((decide (a0 < v14)) && (decide (v14 < v12))) = true then
   ob (rec (a0, v14, v12, v15)) fun x3 =>
   some x3
  else
   some v15) fun (v16 : List Cell) =>
 if ((decide (v12 < (w64 ((w64 (v12 + m)) - v14)))) && (decide ((w64 ((w64 (v12 + m)) - v14)) < b))) = true then
  ob (rec (v12, w64 ((w64 (v12 + m)) - v14), b, v16)) fun x4 =>
  some x4
 else
  some v16
noncomputable def slices_symMergeCmpFunc_api_Cell_v1_B5 (a0 : Int) (m : Int) (b : Int) (row : List Cell) (rec : (Int × Int × Int × List Cell) → Option (List Cell)) (v12 : Int) (v17 : Int × Int) : Option ((Int × Int) ⊕ (List Cell)) :=
 if (decide (v17.1 < v17.2)) = true then
  lt (w64 (Int.fdiv (IntKind.u64.wrap (w64 (v17.1 + v17.2))) (2 ^ (min (1 : Int).toNat 64)))) fun (v18 : Int) =>
  asrt (0 ≤ w64 ((w64 ((w64 (v12 + m)) - 1)) - v18) ∧ w64 ((w64 ((w64 (v12 + m)) - 1)) - v18) < (row.length : Int)) <|
  asrt (0 ≤ w64 ((w64 ((w64 (v12 + m)) - 1)) - v18) ∧ w64 ((w64 ((w64 (v12 + m)) - 1)) - v18) < (row.length : Int)) <|
  asrt (0 ≤ v18 ∧ v18 < (row.length : Int)) <|
  asrt (0 ≤ v18 ∧ v18 < (row.length : Int)) <|
  ob (cell_Order (⟨(lget row (w64 ((w64 ((w64 (v12 + m)) - 1)) - v18))).Row, (lget row (w64 ((w64 ((w64 (v12 + m)) - 1)) - v18))).Col, (lget row (w64 ((w64 ((w64 (v12 + m)) - 1)) - v18))).Time, (lget row (w64 ((w64 ((w64 (v12 + m)) - 1)) - v18))).Gone, (lget row (w64 ((w64 ((w64 (v12 + m)) - 1)) - v18))).Value⟩ : Cell) (⟨(lget row v18).Row, (lget row v18).Col, (lget row v18).Time, (lget row v18).Gone, (lget row v18).Value⟩ : Cell)) fun x5 =>
  if (!(decide (x5 < 0))) = true then
   some (Sum.inl (w64 (v18 + 1), v17.2))
  else
   some (Sum.inl (v17.1, v18))
 else
  inrO (slices_symMergeCmpFunc_api_Cell_v1_J5 a0 m b row rec v12 v17.1)
noncomputable def slices_symMergeCmpFunc_api_Cell_v1_L5 (a0 : Int) (m : Int) (b : Int) (row : List Cell) (rec : (Int × Int × Int × List Cell) → Option (List Cell)) (v12 : Int) (v0 : Int × Int) : Option (List Cell) :=
 loopO (fun y => slices_symMergeCmpFunc_api_Cell_v1_B5 a0 m b row rec v12 y) v0
noncomputable def slices_symMergeCmpFunc_api_Cell_v1_S (rec : (Int × Int × Int × List Cell) → Option (List Cell)) (a0 : Int) (m : Int) (b : Int) (row : List Cell) : Option (List Cell) :=
 if (decide ((w64 (m - a0)) = 1)) = true then
  slices_symMergeCmpFunc_api_Cell_v1_L2 a0 row (m, b)
 else
  if (decide ((w64 (b - m)) = 1)) = true then
   slices_symMergeCmpFunc_api_Cell_v1_L4 m row (a0, m)
  else
   lt (w64 (Int.fdiv (IntKind.u64.wrap (w64 (a0 + b))) (2 ^ (min (1 : Int).toNat 64)))) fun (v12 : Int) =>
   ob (
    if (decide (v12 < m)) = true then
     some (w64 ((w64 (v12 + m)) - b), v12)
    else
     some (a0, m)) fun (v13 : Int × Int) =>
   slices_symMergeCmpFunc_api_Cell_v1_L5 a0 m b row rec v12 (v13.1, v13.2)
noncomputable def slices_symMergeCmpFunc_api_Cell_v1 (a0 : Int) (m : Int) (b : Int) (row : List Cell) : Option (List Cell) := recO (fun rec (x : Int × Int × Int × List Cell) => slices_symMergeCmpFunc_api_Cell_v1_S rec x.1 x.2.1 x.2.2.1 x.2.2.2) (a0, m, b, row)
theorem slices_symMergeCmpFunc_api_Cell_v1_ok (a0 : Int) (m : Int) (b : Int) (row : List Cell) (rk : Nat) (rc : Nat) (rn : Bool) (r : List Cell) (hF : slices_symMergeCmpFunc_api_Cell_v1 a0 m b row = some r) : Pe Try.prog 93 ⟨[], [], [(100000, ⟨37, 5, 0, 0, rc, rn, 0, [], (row.map e_Cell)⟩)], [], []⟩ [.row 100000 0, .i a0, .i m, .i b, .fn 57 []] (.tup []) ⟨[], [], [(100000, ⟨37, 5, 0, 0, rc, rn, 0, [], (r.map e_Cell)⟩)], [], []⟩ := by
 have key : ∀ (k : Nat) (x : Int × Int × Int × List Cell) (rk : Nat) (rc : Nat) (rn : Bool) (r : List Cell), fuelO (fun rec (x : Int × Int × Int × List Cell) => slices_symMergeCmpFunc_api_Cell_v1_S rec x.1 x.2.1 x.2.2.1 x.2.2.2) k x = some r → Pe Try.prog 93 ⟨[], [], [(100000, ⟨37, 5, 0, 0, rc, rn, 0, [], (x.2.2.2.map e_Cell)⟩)], [], []⟩ [.row 100000 0, .i x.1, .i x.2.1, .i x.2.2.1, .fn 57 []] (.tup []) ⟨[], [], [(100000, ⟨37, 5, 0, 0, rc, rn, 0, [], (r.map e_Cell)⟩)], [], []⟩ := by
  intro k
  induction k with
  | zero => intro x rk rc rn r hF; cases hF
  | succ k ih =>
   intro x rk rc rn r hF
   have hF : slices_symMergeCmpFunc_api_Cell_v1_S (fuelO (fun rec (x : Int × Int × Int × List Cell) => slices_symMergeCmpFunc_api_Cell_v1_S rec x.1 x.2.1 x.2.2.1 x.2.2.2) k) x.1 x.2.1 x.2.2.1 x.2.2.2 = some r := hF
   generalize fuelO (fun rec (x : Int × Int × Int × List Cell) => slices_symMergeCmpFunc_api_Cell_v1_S rec x.1 x.2.1 x.2.2.1 x.2.2.2) k = rec at ih hF
   obtain ⟨a0, m, b, row⟩ := x
   simp only at hF ⊢
   refine PeN 220 [] [] Ty.ok Fn.b93 Try.func93 ?_
   intro Q g hfin
   unfold slices_symMergeCmpFunc_api_Cell_v1_S at hF
   refine NR [] [0, 1, 2, 3, 4, 28] [] [100000] [(28, .bool (decide ((w64 (m - a0)) = 1)))] .nil ?_
   refine Nif hF (fun hb hF => ?_) (fun hb hF => ?_)
   ·refine NR [] [0, 1, 3, 4, 10] [] [100000] [(10, .i m)] .nil ?_
    refine NR [] [0, 1, 4, 10, 11] [] [100000] [(11, .i b)] .nil ?_
    refine NmeetP (fun v : Int => (⟨[(0, .row 100000 0), (1, .i a0), (10, .i v)], [], [(100000, ⟨37, 5, 0, 0, rc, rn, 0, [], (row.map e_Cell)⟩)], [], []⟩ : S)) (fun v => slices_symMergeCmpFunc_api_Cell_v1_J1 a0 row v = some r) ?_ ?_
    ·refine Nblk ?_
     unfold slices_symMergeCmpFunc_api_Cell_v1_L2 at hF
     refine Niter (fun v4 : Int × Int => (⟨[(0, .row 100000 0), (1, .i a0), (4, .fn 57 []), (10, .i v4.1), (11, .i v4.2)], [], [(100000, ⟨37, 5, 0, 0, rc, rn, 0, [], (row.map e_Cell)⟩)], [], []⟩ : S)) [] hF (by kernel_rfl) ?_
     intro n1 v4 y1 hF ih1 dn1
     unfold slices_symMergeCmpFunc_api_Cell_v1_B2 at hF
     refine NR [] [0, 1, 4, 10, 11, 33] [] [100000] [(33, .bool (decide (v4.1 < v4.2)))] .nil ?_
     refine Nif hF (fun hb hF => ?_) (fun hb hF => ?_)
     ·refine Nblk ?_
      refine NRL (w64 (Int.fdiv (IntKind.u64.wrap (w64 (v4.1 + v4.2))) (2 ^ (min (1 : Int).toNat 64)))) (fun v5 : Int => ([(12, .i v5)], [], [], [])) [] [0, 1, 4, 10, 11, 12] [] [100000] [] (hc (by decide : (0 : Int) ≤ 1) .nil) (fun v5 hv => ?_)
      have hF := lt_elim hF hv
      obtain ⟨h8, h9, h10, h11, hF⟩ := asrt4 hF
      obtain ⟨x, h12, hF⟩ := ob_elim hF
      refine ND [.av (e_Cell (lget row v5)), .av (e_Cell (lget row a0)), .callB (.i x)] [0, 1, 4, 10, 11, 12, 50] [] [100000] [(50, .bool (decide (x < 0)))] (hc (ixr_ok e_Cell h8) (hc (ldr_ok e_Cell h9) (hc (ixr_ok e_Cell h10) (hc (ldr_ok e_Cell h11) (hc (cell_Order_ok (⟨(lget row v5).Row, (lget row v5).Col, (lget row v5).Time, (lget row v5).Gone, (lget row v5).Value⟩ : Cell) (⟨(lget row a0).Row, (lget row a0).Col, (lget row a0).Time, (lget row a0).Gone, (lget row a0).Value⟩ : Cell) x h12) .nil))))) ?_
      refine Nif hF (fun hb hF => ?_) (fun hb hF => ?_)
      ·refine NR [] [0, 1, 4, 10, 11] [] [100000] [(10, .i (w64 (v5 + 1)))] .nil ?_
       exact Nrnd [] hF ih1 (by kernel_rfl)
      ·refine NR [] [0, 1, 4, 10, 11] [] [100000] [(11, .i v5)] .nil ?_
       exact Nrnd [] hF ih1 (by kernel_rfl)
     ·refine Nexit rfl ?_
      have hF := inrO_done hF dn1
      exact metP v4.1 [] hF (by kernel_rfl)
    ·intro v hF
     have hF : slices_symMergeCmpFunc_api_Cell_v1_J1 a0 row v = some r := hF
     unfold slices_symMergeCmpFunc_api_Cell_v1_J1 at hF
     refine NR [] [0, 10, 13] [] [100000] [(13, .i a0)] .nil ?_
     refine NmeetP (fun v1 : List Cell => (⟨[], [], [(100000, ⟨37, 5, 0, 0, rc, rn, 0, [], (v1.map e_Cell)⟩)], [], []⟩ : S)) (fun v1 => slices_symMergeCmpFunc_api_Cell_v1_J2 v1 = some r) ?_ ?_
     ·refine Nblk ?_
      unfold slices_symMergeCmpFunc_api_Cell_v1_L1 at hF
      refine Niter (fun v2 : List Cell × Int => (⟨[(0, .row 100000 0), (10, .i v), (13, .i v2.2)], [], [(100000, ⟨37, 5, 0, 0, rc, rn, 0, [], (v2.1.map e_Cell)⟩)], [], []⟩ : S)) [] hF (by kernel_rfl) ?_
      intro n1 v2 y1 hF ih1 dn1
      unfold slices_symMergeCmpFunc_api_Cell_v1_B1 at hF
      refine NR [] [0, 10, 13, 58] [] [100000] [(58, .bool (decide (v2.2 < (w64 (v - 1)))))] .nil ?_
      refine Nif hF (fun hb hF => ?_) (fun hb hF => ?_)
      ·refine Nblk ?_
       obtain ⟨h0, h1, h2, h3, hF⟩ := asrt4 hF
       obtain ⟨h4, h5, h6, h7, hF⟩ := asrt4 hF
       refine NDL ((lset (lset v2.1 v2.2 (⟨(lget v2.1 (w64 (v2.2 + 1))).Row, (lget v2.1 (w64 (v2.2 + 1))).Col, (lget v2.1 (w64 (v2.2 + 1))).Time, (lget v2.1 (w64 (v2.2 + 1))).Gone, (lget v2.1 (w64 (v2.2 + 1))).Value⟩ : Cell)) (w64 (v2.2 + 1)) (⟨(lget v2.1 v2.2).Row, (lget v2.1 v2.2).Col, (lget v2.1 v2.2).Time, (lget v2.1 v2.2).Gone, (lget v2.1 v2.2).Value⟩ : Cell))) (fun v3 : List Cell => ([], [], [(100000, ⟨37, 5, 0, 0, rc, rn, 0, [], (v3.map e_Cell)⟩)], [])) [.av (e_Cell (lget v2.1 (w64 (v2.2 + 1)))), .av (e_Cell (lget v2.1 v2.2)), .av (e_Cell (lget v2.1 v2.2)), .xs ((lset v2.1 v2.2 (⟨(lget v2.1 (w64 (v2.2 + 1))).Row, (lget v2.1 (w64 (v2.2 + 1))).Col, (lget v2.1 (w64 (v2.2 + 1))).Time, (lget v2.1 (w64 (v2.2 + 1))).Gone, (lget v2.1 (w64 (v2.2 + 1))).Value⟩ : Cell)).map e_Cell), .av (e_Cell (lget (lset v2.1 v2.2 (⟨(lget v2.1 (w64 (v2.2 + 1))).Row, (lget v2.1 (w64 (v2.2 + 1))).Col, (lget v2.1 (w64 (v2.2 + 1))).Time, (lget v2.1 (w64 (v2.2 + 1))).Gone, (lget v2.1 (w64 (v2.2 + 1))).Value⟩ : Cell)) (w64 (v2.2 + 1)))), .xs ((lset (lset v2.1 v2.2 (⟨(lget v2.1 (w64 (v2.2 + 1))).Row, (lget v2.1 (w64 (v2.2 + 1))).Col, (lget v2.1 (w64 (v2.2 + 1))).Time, (lget v2.1 (w64 (v2.2 + 1))).Gone, (lget v2.1 (w64 (v2.2 + 1))).Value⟩ : Cell)) (w64 (v2.2 + 1)) (⟨(lget v2.1 v2.2).Row, (lget v2.1 v2.2).Col, (lget v2.1 v2.2).Time, (lget v2.1 v2.2).Gone, (lget v2.1 v2.2).Value⟩ : Cell)).map e_Cell)] [0, 10, 13] [] [100000] [] (hc (ixr_ok e_Cell h0) (hc (ldr_ok e_Cell h1) (hc (ixr_ok e_Cell h2) (hc (ldr_ok e_Cell h3) (hc (ixr_ok e_Cell h4) (hc (ldr_ok e_Cell h5) (hc (set_ok e_Cell v2.1 v2.2 (⟨(lget v2.1 (w64 (v2.2 + 1))).Row, (lget v2.1 (w64 (v2.2 + 1))).Col, (lget v2.1 (w64 (v2.2 + 1))).Time, (lget v2.1 (w64 (v2.2 + 1))).Gone, (lget v2.1 (w64 (v2.2 + 1))).Value⟩ : Cell)) (hc (Nat.zero_le v2.2.toNat) (hc (ixr_ok e_Cell h6) (hc (ldr_ok e_Cell h7) (hc (set_ok e_Cell (lset v2.1 v2.2 (⟨(lget v2.1 (w64 (v2.2 + 1))).Row, (lget v2.1 (w64 (v2.2 + 1))).Col, (lget v2.1 (w64 (v2.2 + 1))).Time, (lget v2.1 (w64 (v2.2 + 1))).Gone, (lget v2.1 (w64 (v2.2 + 1))).Value⟩ : Cell)) (w64 (v2.2 + 1)) (⟨(lget v2.1 v2.2).Row, (lget v2.1 v2.2).Col, (lget v2.1 v2.2).Time, (lget v2.1 v2.2).Gone, (lget v2.1 v2.2).Value⟩ : Cell)) (hc (Nat.zero_le ((w64 (v2.2 + 1)).toNat)) .nil)))))))))))) (fun v3 hv => ?_)
       have hF := lt_elim hF hv
       refine NR [] [0, 10, 13] [] [100000] [(13, .i (w64 (v2.2 + 1)))] .nil ?_
       exact Nrnd [] hF ih1 (by kernel_rfl)
      ·refine Nexit rfl ?_
       have hF := inrO_done hF dn1
       exact metP v2.1 [] hF (by kernel_rfl)
     ·intro v1 hF
      have hF : slices_symMergeCmpFunc_api_Cell_v1_J2 v1 = some r := hF
      unfold slices_symMergeCmpFunc_api_Cell_v1_J2 at hF
      cases hF
      exact Wk_ret (hfin _ ⟨[100000], [], [100000], [], [], [], by kernel_rfl⟩)
   ·refine NR [] [0, 1, 2, 3, 4, 80] [] [100000] [(80, .bool (decide ((w64 (b - m)) = 1)))] .nil ?_
    refine Nif hF (fun hb hF => ?_) (fun hb hF => ?_)
    ·refine NR [] [0, 2, 4, 14] [] [100000] [(14, .i a0)] .nil ?_
     refine NR [] [0, 2, 4, 14, 15] [] [100000] [(15, .i m)] .nil ?_
     refine NmeetP (fun v6 : Int => (⟨[(0, .row 100000 0), (2, .i m), (14, .i v6)], [], [(100000, ⟨37, 5, 0, 0, rc, rn, 0, [], (row.map e_Cell)⟩)], [], []⟩ : S)) (fun v6 => slices_symMergeCmpFunc_api_Cell_v1_J3 m row v6 = some r) ?_ ?_
     ·refine Nblk ?_
      unfold slices_symMergeCmpFunc_api_Cell_v1_L4 at hF
      refine Niter (fun v10 : Int × Int => (⟨[(0, .row 100000 0), (2, .i m), (4, .fn 57 []), (14, .i v10.1), (15, .i v10.2)], [], [(100000, ⟨37, 5, 0, 0, rc, rn, 0, [], (row.map e_Cell)⟩)], [], []⟩ : S)) [] hF (by kernel_rfl) ?_
      intro n1 v10 y1 hF ih1 dn1
      unfold slices_symMergeCmpFunc_api_Cell_v1_B4 at hF
      refine NR [] [0, 2, 4, 14, 15, 85] [] [100000] [(85, .bool (decide (v10.1 < v10.2)))] .nil ?_
      refine Nif hF (fun hb hF => ?_) (fun hb hF => ?_)
      ·refine Nblk ?_
       refine NRL (w64 (Int.fdiv (IntKind.u64.wrap (w64 (v10.1 + v10.2))) (2 ^ (min (1 : Int).toNat 64)))) (fun v11 : Int => ([(16, .i v11)], [], [], [])) [] [0, 2, 4, 14, 15, 16] [] [100000] [] (hc (by decide : (0 : Int) ≤ 1) .nil) (fun v11 hv => ?_)
       have hF := lt_elim hF hv
       obtain ⟨h21, h22, h23, h24, hF⟩ := asrt4 hF
       obtain ⟨x1, h25, hF⟩ := ob_elim hF
       refine ND [.av (e_Cell (lget row m)), .av (e_Cell (lget row v11)), .callB (.i x1)] [0, 2, 4, 14, 15, 16, 103] [] [100000] [(103, .bool (!(decide (x1 < 0))))] (hc (ixr_ok e_Cell h21) (hc (ldr_ok e_Cell h22) (hc (ixr_ok e_Cell h23) (hc (ldr_ok e_Cell h24) (hc (cell_Order_ok (⟨(lget row m).Row, (lget row m).Col, (lget row m).Time, (lget row m).Gone, (lget row m).Value⟩ : Cell) (⟨(lget row v11).Row, (lget row v11).Col, (lget row v11).Time, (lget row v11).Gone, (lget row v11).Value⟩ : Cell) x1 h25) .nil))))) ?_
       refine Nif hF (fun hb hF => ?_) (fun hb hF => ?_)
       ·refine NR [] [0, 2, 4, 14, 15] [] [100000] [(14, .i (w64 (v11 + 1)))] .nil ?_
        exact Nrnd [] hF ih1 (by kernel_rfl)
       ·refine NR [] [0, 2, 4, 14, 15] [] [100000] [(15, .i v11)] .nil ?_
        exact Nrnd [] hF ih1 (by kernel_rfl)
      ·refine Nexit rfl ?_
       have hF := inrO_done hF dn1
       exact metP v10.1 [] hF (by kernel_rfl)
     ·intro v6 hF
      have hF : slices_symMergeCmpFunc_api_Cell_v1_J3 m row v6 = some r := hF
      unfold slices_symMergeCmpFunc_api_Cell_v1_J3 at hF
      refine NR [] [0, 14, 17] [] [100000] [(17, .i m)] .nil ?_
      refine NmeetP (fun v7 : List Cell => (⟨[], [], [(100000, ⟨37, 5, 0, 0, rc, rn, 0, [], (v7.map e_Cell)⟩)], [], []⟩ : S)) (fun v7 => slices_symMergeCmpFunc_api_Cell_v1_J4 v7 = some r) ?_ ?_
      ·refine Nblk ?_
       unfold slices_symMergeCmpFunc_api_Cell_v1_L3 at hF
       refine Niter (fun v8 : List Cell × Int => (⟨[(0, .row 100000 0), (14, .i v6), (17, .i v8.2)], [], [(100000, ⟨37, 5, 0, 0, rc, rn, 0, [], (v8.1.map e_Cell)⟩)], [], []⟩ : S)) [] hF (by kernel_rfl) ?_
       intro n1 v8 y1 hF ih1 dn1
       unfold slices_symMergeCmpFunc_api_Cell_v1_B3 at hF
       refine NR [] [0, 14, 17, 110] [] [100000] [(110, .bool (decide (v6 < v8.2)))] .nil ?_
       refine Nif hF (fun hb hF => ?_) (fun hb hF => ?_)
       ·refine Nblk ?_
        obtain ⟨h13, h14, h15, h16, hF⟩ := asrt4 hF
        obtain ⟨h17, h18, h19, h20, hF⟩ := asrt4 hF
        refine NDL ((lset (lset v8.1 v8.2 (⟨(lget v8.1 (w64 (v8.2 - 1))).Row, (lget v8.1 (w64 (v8.2 - 1))).Col, (lget v8.1 (w64 (v8.2 - 1))).Time, (lget v8.1 (w64 (v8.2 - 1))).Gone, (lget v8.1 (w64 (v8.2 - 1))).Value⟩ : Cell)) (w64 (v8.2 - 1)) (⟨(lget v8.1 v8.2).Row, (lget v8.1 v8.2).Col, (lget v8.1 v8.2).Time, (lget v8.1 v8.2).Gone, (lget v8.1 v8.2).Value⟩ : Cell))) (fun v9 : List Cell => ([], [], [(100000, ⟨37, 5, 0, 0, rc, rn, 0, [], (v9.map e_Cell)⟩)], [])) [.av (e_Cell (lget v8.1 (w64 (v8.2 - 1)))), .av (e_Cell (lget v8.1 v8.2)), .av (e_Cell (lget v8.1 v8.2)), .xs ((lset v8.1 v8.2 (⟨(lget v8.1 (w64 (v8.2 - 1))).Row, (lget v8.1 (w64 (v8.2 - 1))).Col, (lget v8.1 (w64 (v8.2 - 1))).Time, (lget v8.1 (w64 (v8.2 - 1))).Gone, (lget v8.1 (w64 (v8.2 - 1))).Value⟩ : Cell)).map e_Cell), .av (e_Cell (lget (lset v8.1 v8.2 (⟨(lget v8.1 (w64 (v8.2 - 1))).Row, (lget v8.1 (w64 (v8.2 - 1))).Col, (lget v8.1 (w64 (v8.2 - 1))).Time, (lget v8.1 (w64 (v8.2 - 1))).Gone, (lget v8.1 (w64 (v8.2 - 1))).Value⟩ : Cell)) (w64 (v8.2 - 1)))), .xs ((lset (lset v8.1 v8.2 (⟨(lget v8.1 (w64 (v8.2 - 1))).Row, (lget v8.1 (w64 (v8.2 - 1))).Col, (lget v8.1 (w64 (v8.2 - 1))).Time, (lget v8.1 (w64 (v8.2 - 1))).Gone, (lget v8.1 (w64 (v8.2 - 1))).Value⟩ : Cell)) (w64 (v8.2 - 1)) (⟨(lget v8.1 v8.2).Row, (lget v8.1 v8.2).Col, (lget v8.1 v8.2).Time, (lget v8.1 v8.2).Gone, (lget v8.1 v8.2).Value⟩ : Cell)).map e_Cell)] [0, 14, 17] [] [100000] [] (hc (ixr_ok e_Cell h13) (hc (ldr_ok e_Cell h14) (hc (ixr_ok e_Cell h15) (hc (ldr_ok e_Cell h16) (hc (ixr_ok e_Cell h17) (hc (ldr_ok e_Cell h18) (hc (set_ok e_Cell v8.1 v8.2 (⟨(lget v8.1 (w64 (v8.2 - 1))).Row, (lget v8.1 (w64 (v8.2 - 1))).Col, (lget v8.1 (w64 (v8.2 - 1))).Time, (lget v8.1 (w64 (v8.2 - 1))).Gone, (lget v8.1 (w64 (v8.2 - 1))).Value⟩ : Cell)) (hc (Nat.zero_le v8.2.toNat) (hc (ixr_ok e_Cell h19) (hc (ldr_ok e_Cell h20) (hc (set_ok e_Cell (lset v8.1 v8.2 (⟨(lget v8.1 (w64 (v8.2 - 1))).Row, (lget v8.1 (w64 (v8.2 - 1))).Col, (lget v8.1 (w64 (v8.2 - 1))).Time, (lget v8.1 (w64 (v8.2 - 1))).Gone, (lget v8.1 (w64 (v8.2 - 1))).Value⟩ : Cell)) (w64 (v8.2 - 1)) (⟨(lget v8.1 v8.2).Row, (lget v8.1 v8.2).Col, (lget v8.1 v8.2).Time, (lget v8.1 v8.2).Gone, (lget v8.1 v8.2).Value⟩ : Cell)) (hc (Nat.zero_le ((w64 (v8.2 - 1)).toNat)) .nil)))))))))))) (fun v9 hv => ?_)
        have hF := lt_elim hF hv
        refine NR [] [0, 14, 17] [] [100000] [(17, .i (w64 (v8.2 - 1)))] .nil ?_
        exact Nrnd [] hF ih1 (by kernel_rfl)
       ·refine Nexit rfl ?_
        have hF := inrO_done hF dn1
        exact metP v8.1 [] hF (by kernel_rfl)
      ·intro v7 hF
       have hF : slices_symMergeCmpFunc_api_Cell_v1_J4 v7 = some r := hF
       unfold slices_symMergeCmpFunc_api_Cell_v1_J4 at hF
       cases hF
       exact Wk_ret (hfin _ ⟨[100000], [], [100000], [], [], [], by kernel_rfl⟩)
    ·refine NRL (w64 (Int.fdiv (IntKind.u64.wrap (w64 (a0 + b))) (2 ^ (min (1 : Int).toNat 64)))) (fun v12 : Int => ([(18, .i v12)], [], [], [])) [] [0, 1, 2, 3, 4, 18] [] [100000] [] (hc (by decide : (0 : Int) ≤ 1) .nil) (fun v12 hv => ?_)
     have hF := lt_elim hF hv
     refine NR [] [0, 1, 2, 3, 4, 18, 19] [] [100000] [(19, .i (w64 (v12 + m)))] .nil ?_
     refine NR [] [0, 1, 2, 3, 4, 18, 19] [] [100000] [] .nil ?_
     refine NR [] [0, 1, 2, 3, 4, 18, 19, 140] [] [100000] [(140, .bool (decide (v12 < m)))] .nil ?_
     obtain ⟨v13, hv, hF⟩ := ob_elim hF
     refine Nmeet (⟨[(0, .row 100000 0), (1, .i a0), (2, .i m), (3, .i b), (4, .fn 57 []), (18, .i v12), (19, .i (w64 (v12 + m))), (20, .i v13.1), (21, .i v13.2)], [], [(100000, ⟨37, 5, 0, 0, rc, rn, 0, [], (row.map e_Cell)⟩)], [], []⟩ : S) ?_ ?_
     ·have hF := hv
      refine Nif hF (fun hb hF => ?_) (fun hb hF => ?_)
      ·refine NR [] [0, 1, 2, 3, 4, 18, 19, 20] [] [100000] [(20, .i (w64 ((w64 (v12 + m)) - b)))] .nil ?_
       refine NR [] [0, 1, 2, 3, 4, 18, 19, 20, 21] [] [100000] [(21, .i v12)] .nil ?_
       cases hF
       exact met [] (by kernel_rfl)
      ·refine NR [] [0, 1, 2, 3, 4, 18, 19, 20] [] [100000] [(20, .i a0)] .nil ?_
       refine NR [] [0, 1, 2, 3, 4, 18, 19, 20, 21] [] [100000] [(21, .i m)] .nil ?_
       cases hF
       exact met [] (by kernel_rfl)
     ·refine NR [] [0, 1, 2, 3, 4, 18, 19, 20, 21, 22] [] [100000] [(22, .i (w64 ((w64 (v12 + m)) - 1)))] .nil ?_
      refine NmeetP (fun v14 : Int => (⟨[(0, .row 100000 0), (1, .i a0), (2, .i m), (3, .i b), (4, .fn 57 []), (18, .i v12), (19, .i (w64 (v12 + m))), (20, .i v14)], [], [(100000, ⟨37, 5, 0, 0, rc, rn, 0, [], (row.map e_Cell)⟩)], [], []⟩ : S)) (fun v14 => slices_symMergeCmpFunc_api_Cell_v1_J5 a0 m b row rec v12 v14 = some r) ?_ ?_
      ·refine Nblk ?_
       unfold slices_symMergeCmpFunc_api_Cell_v1_L5 at hF
       refine Niter (fun v17 : Int × Int => (⟨[(0, .row 100000 0), (1, .i a0), (2, .i m), (3, .i b), (4, .fn 57 []), (18, .i v12), (19, .i (w64 (v12 + m))), (20, .i v17.1), (21, .i v17.2), (22, .i (w64 ((w64 (v12 + m)) - 1)))], [], [(100000, ⟨37, 5, 0, 0, rc, rn, 0, [], (row.map e_Cell)⟩)], [], []⟩ : S)) [] hF (by kernel_rfl) ?_
       intro n1 v17 y1 hF ih1 dn1
       unfold slices_symMergeCmpFunc_api_Cell_v1_B5 at hF
       refine NR [] [0, 1, 2, 3, 4, 18, 19, 20, 21, 22, 151] [] [100000] [(151, .bool (decide (v17.1 < v17.2)))] .nil ?_
       refine Nif hF (fun hb hF => ?_) (fun hb hF => ?_)
       ·refine Nblk ?_
        refine NRL (w64 (Int.fdiv (IntKind.u64.wrap (w64 (v17.1 + v17.2))) (2 ^ (min (1 : Int).toNat 64)))) (fun v18 : Int => ([(23, .i v18)], [], [], [])) [] [0, 1, 2, 3, 4, 18, 19, 20, 21, 22, 23] [] [100000] [] (hc (by decide : (0 : Int) ≤ 1) .nil) (fun v18 hv => ?_)
        have hF := lt_elim hF hv
        obtain ⟨h29, h30, h31, h32, hF⟩ := asrt4 hF
        obtain ⟨x5, h33, hF⟩ := ob_elim hF
        refine ND [.av (e_Cell (lget row (w64 ((w64 ((w64 (v12 + m)) - 1)) - v18)))), .av (e_Cell (lget row v18)), .callB (.i x5)] [0, 1, 2, 3, 4, 18, 19, 20, 21, 22, 23, 171] [] [100000] [(171, .bool (!(decide (x5 < 0))))] (hc (ixr_ok e_Cell h29) (hc (ldr_ok e_Cell h30) (hc (ixr_ok e_Cell h31) (hc (ldr_ok e_Cell h32) (hc (cell_Order_ok (⟨(lget row (w64 ((w64 ((w64 (v12 + m)) - 1)) - v18))).Row, (lget row (w64 ((w64 ((w64 (v12 + m)) - 1)) - v18))).Col, (lget row (w64 ((w64 ((w64 (v12 + m)) - 1)) - v18))).Time, (lget row (w64 ((w64 ((w64 (v12 + m)) - 1)) - v18))).Gone, (lget row (w64 ((w64 ((w64 (v12 + m)) - 1)) - v18))).Value⟩ : Cell) (⟨(lget row v18).Row, (lget row v18).Col, (lget row v18).Time, (lget row v18).Gone, (lget row v18).Value⟩ : Cell) x5 h33) .nil))))) ?_
        refine Nif hF (fun hb hF => ?_) (fun hb hF => ?_)
        ·refine NR [] [0, 1, 2, 3, 4, 18, 19, 20, 21, 22] [] [100000] [(20, .i (w64 (v18 + 1)))] .nil ?_
         exact Nrnd [] hF ih1 (by kernel_rfl)
        ·refine NR [] [0, 1, 2, 3, 4, 18, 19, 20, 21, 22] [] [100000] [(21, .i v18)] .nil ?_
         exact Nrnd [] hF ih1 (by kernel_rfl)
       ·refine Nexit rfl ?_
        have hF := inrO_done hF dn1
        exact metP v17.1 [] hF (by kernel_rfl)
      ·intro v14 hF
       have hF : slices_symMergeCmpFunc_api_Cell_v1_J5 a0 m b row rec v12 v14 = some r := hF
       unfold slices_symMergeCmpFunc_api_Cell_v1_J5 at hF
       refine NR [] [0, 1, 2, 3, 4, 18, 20, 24] [] [100000] [(24, .i (w64 ((w64 (v12 + m)) - v14)))] .nil ?_
       refine NR [] [0, 1, 2, 3, 4, 18, 20, 24, 185] [] [100000] [(185, .bool ((decide (v14 < m)) && (decide (m < (w64 ((w64 (v12 + m)) - v14))))))] .nil ?_
       obtain ⟨v15, hv, hF⟩ := ob_elim hF
       refine Nmeet (⟨[(0, .row 100000 0), (1, .i a0), (3, .i b), (4, .fn 57 []), (18, .i v12), (20, .i v14), (24, .i (w64 ((w64 (v12 + m)) - v14)))], [], [(100000, ⟨37, 5, 0, 0, rc, rn, 0, [], (v15.map e_Cell)⟩)], [], []⟩ : S) ?_ ?_
       ·have hF := hv
        refine Nif hF (fun hb hF => ?_) (fun hb hF => ?_)
        ·obtain ⟨x2, h26, hF⟩ := ob_elim hF
         refine VR [.callE [] [100000] [] [] (.tup []) ⟨[], [], [(100000, ⟨37, 5, 0, 0, rc, rn, 0, [], (x2.map e_Cell)⟩)], [], []⟩] [0, 1, 3, 4, 18, 20, 24] [] [100000] [] [] [] [(100000, ⟨37, 5, 0, 0, rc, rn, 0, [], (x2.map e_Cell)⟩)] [] (hc (Pe.ren (slices_rotateCmpFunc_api_Cell_v1_ok v14 m (w64 ((w64 (v12 + m)) - v14)) row 0 rc rn x2 h26) ⟨[], [], [], []⟩) .nil) ?_
         cases hF
         exact met [] (by kernel_rfl)
        ·cases hF
         exact met [] (by kernel_rfl)
       ·refine NR [] [0, 1, 3, 4, 18, 20, 24, 199] [] [100000] [(199, .bool ((decide (a0 < v14)) && (decide (v14 < v12))))] .nil ?_
        obtain ⟨v16, hv, hF⟩ := ob_elim hF
        refine Nmeet (⟨[(0, .row 100000 0), (3, .i b), (4, .fn 57 []), (18, .i v12), (24, .i (w64 ((w64 (v12 + m)) - v14)))], [], [(100000, ⟨37, 5, 0, 0, rc, rn, 0, [], (v16.map e_Cell)⟩)], [], []⟩ : S) ?_ ?_
        ·have hF := hv
         refine Nif hF (fun hb hF => ?_) (fun hb hF => ?_)
         ·obtain ⟨x3, h27, hF⟩ := ob_elim hF
          refine VR [.callE [] [100000] [] [] (.tup []) ⟨[], [], [(100000, ⟨37, 5, 0, 0, rc, rn, 0, [], (x3.map e_Cell)⟩)], [], []⟩] [0, 3, 4, 18, 24] [] [100000] [] [] [] [(100000, ⟨37, 5, 0, 0, rc, rn, 0, [], (x3.map e_Cell)⟩)] [] (hc (Pe.ren (ih (a0, v14, v12, v15) 0 rc rn x3 h27) ⟨[], [], [], []⟩) .nil) ?_
          cases hF
          exact met [] (by kernel_rfl)
         ·cases hF
          exact met [] (by kernel_rfl)
        ·refine NR [] [0, 3, 4, 18, 24, 213] [] [100000] [(213, .bool ((decide (v12 < (w64 ((w64 (v12 + m)) - v14)))) && (decide ((w64 ((w64 (v12 + m)) - v14)) < b))))] .nil ?_
         refine Nif hF (fun hb hF => ?_) (fun hb hF => ?_)
         ·obtain ⟨x4, h28, hF⟩ := ob_elim hF
          refine VR [.callE [] [100000] [] [] (.tup []) ⟨[], [], [(100000, ⟨37, 5, 0, 0, rc, rn, 0, [], (x4.map e_Cell)⟩)], [], []⟩] [] [] [100000] [] [] [] [(100000, ⟨37, 5, 0, 0, rc, rn, 0, [], (x4.map e_Cell)⟩)] [] (hc (Pe.ren (ih (v12, w64 ((w64 (v12 + m)) - v14), b, v16) 0 rc rn x4 h28) ⟨[], [], [], []⟩) .nil) ?_
          cases hF
          exact Wk_end (hfin _ ⟨[100000], [], [100000], [], [], [], by kernel_rfl⟩)
         ·cases hF
          exact Wk_end (hfin _ ⟨[100000], [], [100000], [], [], [], by kernel_rfl⟩)
 obtain ⟨k, hF⟩ := recO_elim hF
 exact key k _ rk rc rn r hF

/- slices.stableCmpFunc[api.Cell] -/
noncomputable def slices_stableCmpFunc_api_Cell_v1_J2 (v1 : List Cell) : Option (List Cell) :=
 some v1
noncomputable def slices_stableCmpFunc_api_Cell_v1_J3 (num : Int) (v2 : List Cell × Int) (v3 : List Cell × Int) : Option ((List Cell × Int) ⊕ (List Cell)) :=
 ob (
  if (decide ((w64 (v3.2 + v2.2)) < num)) = true then
   ob (slices_symMergeCmpFunc_api_Cell_v1 v3.2 (w64 (v3.2 + v2.2)) num v3.1) fun x1 =>
   some x1
  else
   some v3.1) fun (v4 : List Cell) =>
 some (Sum.inl (v4, w64 (v2.2 * 2)))
noncomputable def slices_stableCmpFunc_api_Cell_v1_B2 (num : Int) (v2 : List Cell × Int) (v5 : List Cell × Int × Int) : Option ((List Cell × Int × Int) ⊕ ((List Cell × Int) ⊕ (List Cell))) :=
 if (decide (v5.2.2 ≤ num)) = true then
  ob (slices_symMergeCmpFunc_api_Cell_v1 v5.2.1 (w64 (v5.2.1 + v2.2)) v5.2.2 v5.1) fun x2 =>
  some (Sum.inl (x2, v5.2.2, w64 (v5.2.2 + (w64 (2 * v2.2)))))
 else
  inrO (slices_stableCmpFunc_api_Cell_v1_J3 num v2 (v5.1, v5.2.1))
noncomputable def slices_stableCmpFunc_api_Cell_v1_L2 (num : Int) (v2 : List Cell × Int) (v0 : List Cell × Int × Int) : Option ((List Cell × Int) ⊕ (List Cell)) :=
 loopO (fun y => slices_stableCmpFunc_api_Cell_v1_B2 num v2 y) v0
noncomputable def slices_stableCmpFunc_api_Cell_v1_B1 (num : Int) (v2 : List Cell × Int) : Option ((List Cell × Int) ⊕ (List Cell)) :=
 if (decide (v2.2 < num)) = true then
  slices_stableCmpFunc_api_Cell_v1_L2 num v2 (v2.1, 0, w64 (2 * v2.2))
 else
  inrO (slices_stableCmpFunc_api_Cell_v1_J2 v2.1)
noncomputable def slices_stableCmpFunc_api_Cell_v1_L1 (num : Int) (v0 : List Cell × Int) : Option (List Cell) :=
 loopO (fun y => slices_stableCmpFunc_api_Cell_v1_B1 num y) v0
noncomputable def slices_stableCmpFunc_api_Cell_v1_J1 (num : Int) (v : List Cell × Int) : Option (List Cell) :=
 ob (slices_insertionSortCmpFunc_api_Cell_v1 v.2 num v.1) fun x =>
 slices_stableCmpFunc_api_Cell_v1_L1 num (x, 20)
noncomputable def slices_stableCmpFunc_api_Cell_v1_B3 (num : Int) (v6 : List Cell × Int × Int) : Option ((List Cell × Int × Int) ⊕ (List Cell)) :=
 if (decide (v6.2.2 ≤ num)) = true then
  ob (slices_insertionSortCmpFunc_api_Cell_v1 v6.2.1 v6.2.2 v6.1) fun x3 =>
  some (Sum.inl (x3, v6.2.2, w64 (v6.2.2 + 20)))
 else
  inrO (slices_stableCmpFunc_api_Cell_v1_J1 num (v6.1, v6.2.1))
noncomputable def slices_stableCmpFunc_api_Cell_v1_L3 (num : Int) (v0 : List Cell × Int × Int) : Option (List Cell) :=
 loopO (fun y => slices_stableCmpFunc_api_Cell_v1_B3 num y) v0
noncomputable def slices_stableCmpFunc_api_Cell_v1 (num : Int) (row : List Cell) : Option (List Cell) :=
 slices_stableCmpFunc_api_Cell_v1_L3 num (row, 0, 20)
theorem slices_stableCmpFunc_api_Cell_v1_ok (num : Int) (row : List Cell) (rk : Nat) (rc : Nat) (rn : Bool) (r : List Cell) (hF : slices_stableCmpFunc_api_Cell_v1 num row = some r) : Pe Try.prog 90 ⟨[], [], [(100000, ⟨37, 5, 0, 0, rc, rn, 0, [], (row.map e_Cell)⟩)], [], []⟩ [.row 100000 0, .i num, .fn 57 []] (.tup []) ⟨[], [], [(100000, ⟨37, 5, 0, 0, rc, rn, 0, [], (r.map e_Cell)⟩)], [], []⟩ := by
 refine PeN 63 [] [] Ty.ok Fn.b90 Try.func90 ?_
 intro Q g hfin
 unfold slices_stableCmpFunc_api_Cell_v1 at hF
 refine NR [] [0, 1, 2, 6] [] [100000] [(6, .i 20)] .nil ?_
 refine NR [] [0, 1, 2, 6, 7, 8] [] [100000] [(7, .i 0), (8, .i 20)] .nil ?_
 refine NmeetP (fun v : List Cell × Int => (⟨[(0, .row 100000 0), (1, .i num), (2, .fn 57 []), (6, .i 20), (7, .i v.2)], [], [(100000, ⟨37, 5, 0, 0, rc, rn, 0, [], (v.1.map e_Cell)⟩)], [], []⟩ : S)) (fun v => slices_stableCmpFunc_api_Cell_v1_J1 num v = some r) ?_ ?_
 ·refine Nblk ?_
  unfold slices_stableCmpFunc_api_Cell_v1_L3 at hF
  refine Niter (fun v6 : List Cell × Int × Int => (⟨[(0, .row 100000 0), (1, .i num), (2, .fn 57 []), (6, .i 20), (7, .i v6.2.1), (8, .i v6.2.2)], [], [(100000, ⟨37, 5, 0, 0, rc, rn, 0, [], (v6.1.map e_Cell)⟩)], [], []⟩ : S)) [] hF (by kernel_rfl) ?_
  intro n1 v6 y1 hF ih1 dn1
  unfold slices_stableCmpFunc_api_Cell_v1_B3 at hF
  refine NR [] [0, 1, 2, 6, 7, 8, 13] [] [100000] [(13, .bool (decide (v6.2.2 ≤ num)))] .nil ?_
  refine Nif hF (fun hb hF => ?_) (fun hb hF => ?_)
  ·refine Nblk ?_
   obtain ⟨x3, h3, hF⟩ := ob_elim hF
   refine VR [.callE [] [100000] [] [] (.tup []) ⟨[], [], [(100000, ⟨37, 5, 0, 0, rc, rn, 0, [], (x3.map e_Cell)⟩)], [], []⟩] [0, 1, 2, 6, 8] [] [100000] [] [] [] [(100000, ⟨37, 5, 0, 0, rc, rn, 0, [], (x3.map e_Cell)⟩)] [] (hc (Pe.ren (slices_insertionSortCmpFunc_api_Cell_v1_ok v6.2.1 v6.2.2 v6.1 0 rc rn x3 h3) ⟨[], [], [], []⟩) .nil) ?_
   refine NR [] [0, 1, 2, 6, 7, 8] [] [100000] [(7, .i v6.2.2)] .nil ?_
   refine NR [] [0, 1, 2, 6, 7, 8] [] [100000] [(8, .i (w64 (v6.2.2 + 20)))] .nil ?_
   exact Nrnd [] hF ih1 (by kernel_rfl)
  ·refine Nexit rfl ?_
   have hF := inrO_done hF dn1
   exact metP (v6.1, v6.2.1) [] hF (by kernel_rfl)
 ·intro v hF
  have hF : slices_stableCmpFunc_api_Cell_v1_J1 num v = some r := hF
  unfold slices_stableCmpFunc_api_Cell_v1_J1 at hF
  obtain ⟨x, h0, hF⟩ := ob_elim hF
  refine VR [.callE [] [100000] [] [] (.tup []) ⟨[], [], [(100000, ⟨37, 5, 0, 0, rc, rn, 0, [], (x.map e_Cell)⟩)], [], []⟩] [0, 1, 2, 6] [] [100000] [] [] [] [(100000, ⟨37, 5, 0, 0, rc, rn, 0, [], (x.map e_Cell)⟩)] [] (hc (Pe.ren (slices_insertionSortCmpFunc_api_Cell_v1_ok v.2 num v.1 0 rc rn x h0) ⟨[], [], [], []⟩) .nil) ?_
  refine NmeetP (fun v1 : List Cell => (⟨[], [], [(100000, ⟨37, 5, 0, 0, rc, rn, 0, [], (v1.map e_Cell)⟩)], [], []⟩ : S)) (fun v1 => slices_stableCmpFunc_api_Cell_v1_J2 v1 = some r) ?_ ?_
  ·refine Nblk ?_
   unfold slices_stableCmpFunc_api_Cell_v1_L1 at hF
   refine Niter (fun v2 : List Cell × Int => (⟨[(0, .row 100000 0), (1, .i num), (2, .fn 57 []), (6, .i v2.2)], [], [(100000, ⟨37, 5, 0, 0, rc, rn, 0, [], (v2.1.map e_Cell)⟩)], [], []⟩ : S)) [] hF (by kernel_rfl) ?_
   intro n1 v2 y1 hF ih1 dn1
   unfold slices_stableCmpFunc_api_Cell_v1_B1 at hF
   refine NR [] [0, 1, 2, 6, 30] [] [100000] [(30, .bool (decide (v2.2 < num)))] .nil ?_
   refine Nif hF (fun hb hF => ?_) (fun hb hF => ?_)
   ·refine Nblk ?_
    refine NR [] [0, 1, 2, 6, 7, 8] [] [100000] [(7, .i 0), (8, .i (w64 (2 * v2.2)))] .nil ?_
    refine NmeetP (fun v3 : List Cell × Int => (⟨[(0, .row 100000 0), (1, .i num), (2, .fn 57 []), (6, .i v2.2), (7, .i v3.2)], [], [(100000, ⟨37, 5, 0, 0, rc, rn, 0, [], (v3.1.map e_Cell)⟩)], [], []⟩ : S)) (fun v3 => slices_stableCmpFunc_api_Cell_v1_J3 num v2 v3 = some y1) ?_ ?_
    ·refine Nblk ?_
     unfold slices_stableCmpFunc_api_Cell_v1_L2 at hF
     refine Niter (fun v5 : List Cell × Int × Int => (⟨[(0, .row 100000 0), (1, .i num), (2, .fn 57 []), (6, .i v2.2), (7, .i v5.2.1), (8, .i v5.2.2)], [], [(100000, ⟨37, 5, 0, 0, rc, rn, 0, [], (v5.1.map e_Cell)⟩)], [], []⟩ : S)) [] hF (by kernel_rfl) ?_
     intro n2 v5 y2 hF ih2 dn2
     unfold slices_stableCmpFunc_api_Cell_v1_B2 at hF
     refine NR [] [0, 1, 2, 6, 7, 8, 35] [] [100000] [(35, .bool (decide (v5.2.2 ≤ num)))] .nil ?_
     refine Nif hF (fun hb hF => ?_) (fun hb hF => ?_)
     ·refine Nblk ?_
      obtain ⟨x2, h2, hF⟩ := ob_elim hF
      refine VR [.callE [] [100000] [] [] (.tup []) ⟨[], [], [(100000, ⟨37, 5, 0, 0, rc, rn, 0, [], (x2.map e_Cell)⟩)], [], []⟩] [0, 1, 2, 6, 8] [] [100000] [] [] [] [(100000, ⟨37, 5, 0, 0, rc, rn, 0, [], (x2.map e_Cell)⟩)] [] (hc (Pe.ren (slices_symMergeCmpFunc_api_Cell_v1_ok v5.2.1 (w64 (v5.2.1 + v2.2)) v5.2.2 v5.1 0 rc rn x2 h2) ⟨[], [], [], []⟩) .nil) ?_
      refine NR [] [0, 1, 2, 6, 7, 8] [] [100000] [(7, .i v5.2.2)] .nil ?_
      refine NR [] [0, 1, 2, 6, 7, 8] [] [100000] [(8, .i (w64 (v5.2.2 + (w64 (2 * v2.2)))))] .nil ?_
      exact Nrnd [] hF ih2 (by kernel_rfl)
     ·refine Nexit rfl ?_
      have hF := inrO_done hF dn2
      exact metP (v5.1, v5.2.1) [] hF (by kernel_rfl)
    ·intro v3 hF
     have hF : slices_stableCmpFunc_api_Cell_v1_J3 num v2 v3 = some y1 := hF
     unfold slices_stableCmpFunc_api_Cell_v1_J3 at hF
     refine NR [] [0, 1, 2, 6, 7, 9] [] [100000] [(9, .i (w64 (v3.2 + v2.2)))] .nil ?_
     refine NR [] [0, 1, 2, 6, 7, 9, 54] [] [100000] [(54, .bool (decide ((w64 (v3.2 + v2.2)) < num)))] .nil ?_
     obtain ⟨v4, hv, hF⟩ := ob_elim hF
     refine Nmeet (⟨[(0, .row 100000 0), (1, .i num), (2, .fn 57 []), (6, .i v2.2)], [], [(100000, ⟨37, 5, 0, 0, rc, rn, 0, [], (v4.map e_Cell)⟩)], [], []⟩ : S) ?_ ?_
     ·have hF := hv
      refine Nif hF (fun hb hF => ?_) (fun hb hF => ?_)
      ·obtain ⟨x1, h1, hF⟩ := ob_elim hF
       refine VR [.callE [] [100000] [] [] (.tup []) ⟨[], [], [(100000, ⟨37, 5, 0, 0, rc, rn, 0, [], (x1.map e_Cell)⟩)], [], []⟩] [0, 1, 2, 6] [] [100000] [] [] [] [(100000, ⟨37, 5, 0, 0, rc, rn, 0, [], (x1.map e_Cell)⟩)] [] (hc (Pe.ren (slices_symMergeCmpFunc_api_Cell_v1_ok v3.2 (w64 (v3.2 + v2.2)) num v3.1 0 rc rn x1 h1) ⟨[], [], [], []⟩) .nil) ?_
       cases hF
       exact met [] (by kernel_rfl)
      ·cases hF
       exact met [] (by kernel_rfl)
     ·refine NR [] [0, 1, 2, 6] [] [100000] [(6, .i (w64 (v2.2 * 2)))] .nil ?_
      exact Nrnd [] hF ih1 (by kernel_rfl)
   ·refine Nexit rfl ?_
    have hF := inrO_done hF dn1
    exact metP v2.1 [] hF (by kernel_rfl)
  ·intro v1 hF
   have hF : slices_stableCmpFunc_api_Cell_v1_J2 v1 = some r := hF
   unfold slices_stableCmpFunc_api_Cell_v1_J2 at hF
   cases hF
   exact Wk_end (hfin _ ⟨[100000], [], [100000], [], [], [], by kernel_rfl⟩)

/- slices.SortStableFunc[[]api.Cell,api.Cell] -/
noncomputable def slices_SortStableFunc_api_Cell_api_Cell_v1 (row : List Cell) : Option (List Cell) :=
 ob (slices_stableCmpFunc_api_Cell_v1 (row.length : Int) row) fun x =>
 some x
theorem slices_SortStableFunc_api_Cell_api_Cell_v1_ok (row : List Cell) (rk : Nat) (rc : Nat) (rn : Bool) (r : List Cell) (hF : slices_SortStableFunc_api_Cell_api_Cell_v1 row = some r) : Pe Try.prog 83 ⟨[], [], [(100000, ⟨37, 5, 0, 0, rc, rn, 0, [], (row.map e_Cell)⟩)], [], []⟩ [.row 100000 0, .fn 57 []] (.tup []) ⟨[], [], [(100000, ⟨37, 5, 0, 0, rc, rn, 0, [], (r.map e_Cell)⟩)], [], []⟩ := by
 refine PeN 9 [] [] Ty.ok Fn.b83 Try.func83 ?_
 intro Q g hfin
 unfold slices_SortStableFunc_api_Cell_api_Cell_v1 at hF
 obtain ⟨x, h0, hF⟩ := ob_elim hF
 refine VR [.nat (row.length : Int), .callE [] [100000] [] [] (.tup []) ⟨[], [], [(100000, ⟨37, 5, 0, 0, rc, rn, 0, [], (x.map e_Cell)⟩)], [], []⟩] [] [] [100000] [] [] [] [(100000, ⟨37, 5, 0, 0, rc, rn, 0, [], (x.map e_Cell)⟩)] [] (hc (len_ok e_Cell row) (hc (Pe.ren (slices_stableCmpFunc_api_Cell_v1_ok (row.length : Int) row 0 rc rn x h0) ⟨[], [], [], []⟩) .nil)) ?_
 cases hF
 exact Wk_end (hfin _ ⟨[100000], [], [100000], [], [], [], by kernel_rfl⟩)

/- cell.Merge$1 -/
noncomputable def cell_Merge_1 (a0 : Cell) (b : Cell) : Option Bool :=
 ob (cell_Order a0 b) fun x =>
 some (decide (x = 0))
theorem cell_Merge_1_ok (a0 : Cell) (b : Cell) (r : Bool) (hF : cell_Merge_1 a0 b = some r) : Pe Try.prog 85 S.none [.agg (c_Cell a0), .agg (c_Cell b)] (.bool r) S.none := by
 refine PeN 9 [.tmp 4] [4] Ty.ok Fn.b85 Try.func85 ?_
 intro Q g hfin
 unfold cell_Merge_1 at hF
 refine VR [] [2, 3] [2, 3] [] [] [(2, .ptr 2 0), (3, .ptr 3 0)] [(2, (c_Cell a0)), (3, (c_Cell b))] [] [] .nil ?_
 obtain ⟨x, h0, hF⟩ := ob_elim hF
 refine NR [.callB (.i x)] [4] [] [] [(4, .bool (decide (x = 0)))] (hc (cell_Order_ok a0 b x h0) .nil) ?_
 cases hF
 exact Wk_ret (hfin _ ⟨[], [], [], [], [], [], by kernel_rfl⟩)

/- slices.CompactFunc[[]api.Cell,api.Cell] -/
noncomputable def slices_CompactFunc_api_Cell_api_Cell_v1_J1 (row : List Cell) (v : Unit) : Option (List Cell) :=
 some row
noncomputable def slices_CompactFunc_api_Cell_api_Cell_v1_J2 (v2 : List Cell × Int) : Option (Int ⊕ (List Cell)) :=
 asrt (0 ≤ v2.2 ∧ v2.2 ≤ (v2.1.length : Int)) <|
 lt ((lclear v2.1 v2.2.toNat (v2.1.length - v2.2.toNat) ((⟨([] : List UInt8), ([] : List UInt8), 0, false, ([] : List UInt8)⟩ : Cell) : Cell))) fun (v3 : List Cell) =>
 asrt (0 ≤ v2.2 ∧ v2.2 ≤ (v3.length : Int)) <|
 asrt (v2.2.toNat ≤ v3.length) <|
 some (Sum.inr (v3.take v2.2.toNat))
noncomputable def slices_CompactFunc_api_Cell_api_Cell_v1_B2 (row : List Cell) (v1 : Int) (v4 : List Cell × Int × Int) : Option ((List Cell × Int × Int) ⊕ (Int ⊕ (List Cell))) :=
 if (decide (v4.2.2 < (((row.length - v1.toNat) : Nat) : Int))) = true then
  asrt (0 ≤ v4.2.2 ∧ v4.2.2.toNat < (row.length - v1.toNat)) <|
  asrt (0 ≤ (((v1.toNat + v4.2.2.toNat) : Nat) : Int) ∧ (((v1.toNat + v4.2.2.toNat) : Nat) : Int) < (v4.1.length : Int)) <|
  asrt (0 ≤ w64 (v4.2.2 - 1) ∧ (w64 (v4.2.2 - 1)).toNat < (row.length - v1.toNat)) <|
  asrt (0 ≤ (((v1.toNat + (w64 (v4.2.2 - 1)).toNat) : Nat) : Int) ∧ (((v1.toNat + (w64 (v4.2.2 - 1)).toNat) : Nat) : Int) < (v4.1.length : Int)) <|
  ob (cell_Merge_1 (⟨(lget v4.1 (((v1.toNat + v4.2.2.toNat) : Nat) : Int)).Row, (lget v4.1 (((v1.toNat + v4.2.2.toNat) : Nat) : Int)).Col, (lget v4.1 (((v1.toNat + v4.2.2.toNat) : Nat) : Int)).Time, (lget v4.1 (((v1.toNat + v4.2.2.toNat) : Nat) : Int)).Gone, (lget v4.1 (((v1.toNat + v4.2.2.toNat) : Nat) : Int)).Value⟩ : Cell) (⟨(lget v4.1 (((v1.toNat + (w64 (v4.2.2 - 1)).toNat) : Nat) : Int)).Row, (lget v4.1 (((v1.toNat + (w64 (v4.2.2 - 1)).toNat) : Nat) : Int)).Col, (lget v4.1 (((v1.toNat + (w64 (v4.2.2 - 1)).toNat) : Nat) : Int)).Time, (lget v4.1 (((v1.toNat + (w64 (v4.2.2 - 1)).toNat) : Nat) : Int)).Gone, (lget v4.1 (((v1.toNat + (w64 (v4.2.2 - 1)).toNat) : Nat) : Int)).Value⟩ : Cell)) fun x1 =>
  ob (
   if (!x1) = true then
    asrt (0 ≤ v4.2.2 ∧ v4.2.2.toNat < (row.length - v1.toNat)) <|
    asrt (0 ≤ (((v1.toNat + v4.2.2.toNat) : Nat) : Int) ∧ (((v1.toNat + v4.2.2.toNat) : Nat) : Int) < (v4.1.length : Int)) <|
    asrt (0 ≤ v4.2.1 ∧ v4.2.1 < (v4.1.length : Int)) <|
    asrt (0 ≤ v4.2.1 ∧ v4.2.1 < (v4.1.length : Int)) <|
    lt ((lset v4.1 v4.2.1 (⟨(lget v4.1 (((v1.toNat + v4.2.2.toNat) : Nat) : Int)).Row, (lget v4.1 (((v1.toNat + v4.2.2.toNat) : Nat) : Int)).Col, (lget v4.1 (((v1.toNat + v4.2.2.toNat) : Nat) : Int)).Time, (lget v4.1 (((v1.toNat + v4.2.2.toNat) : Nat) : Int)).Gone, (lget v4.1 (((v1.toNat + v4.2.2.toNat) : Nat) : Int)).Value⟩ : Cell))) fun (v6 : List Cell) =>
    some (v6, w64 (v4.2.1 + 1))
   else
    some (v4.1, v4.2.1)) fun (v5 : List Cell × Int) =>
  some (Sum.inl (v5.1, v5.2, w64 (v4.2.2 + 1)))
 else
  inrO (slices_CompactFunc_api_Cell_api_Cell_v1_J2 (v4.1, v4.2.1))
noncomputable def slices_CompactFunc_api_Cell_api_Cell_v1_L2 (row : List Cell) (v1 : Int) (v0 : List Cell × Int × Int) : Option (Int ⊕ (List Cell)) :=
 loopO (fun y => slices_CompactFunc_api_Cell_api_Cell_v1_B2 row v1 y) v0
noncomputable def slices_CompactFunc_api_Cell_api_Cell_v1_B1 (row : List Cell) (v1 : Int) : Option (Int ⊕ (List Cell)) :=
 if (decide (v1 < (row.length : Int))) = true then
  asrt (0 ≤ v1 ∧ v1 < (row.length : Int)) <|
  asrt (0 ≤ v1 ∧ v1 < (row.length : Int)) <|
  asrt (0 ≤ w64 (v1 - 1) ∧ w64 (v1 - 1) < (row.length : Int)) <|
  asrt (0 ≤ w64 (v1 - 1) ∧ w64 (v1 - 1) < (row.length : Int)) <|
  ob (cell_Merge_1 (⟨(lget row v1).Row, (lget row v1).Col, (lget row v1).Time, (lget row v1).Gone, (lget row v1).Value⟩ : Cell) (⟨(lget row (w64 (v1 - 1))).Row, (lget row (w64 (v1 - 1))).Col, (lget row (w64 (v1 - 1))).Time, (lget row (w64 (v1 - 1))).Gone, (lget row (w64 (v1 - 1))).Value⟩ : Cell)) fun x =>
  if x = true then
   asrt (0 ≤ v1 ∧ v1 ≤ (row.length : Int)) <|
   slices_CompactFunc_api_Cell_api_Cell_v1_L2 row v1 (row, v1, 1)
  else
   some (Sum.inl (w64 (v1 + 1)))
 else
  inrO (slices_CompactFunc_api_Cell_api_Cell_v1_J1 row ())
noncomputable def slices_CompactFunc_api_Cell_api_Cell_v1_L1 (row : List Cell) (v0 : Int) : Option (List Cell) :=
 loopO (fun y => slices_CompactFunc_api_Cell_api_Cell_v1_B1 row y) v0
noncomputable def slices_CompactFunc_api_Cell_api_Cell_v1 (row : List Cell) : Option (List Cell) :=
 if (decide ((row.length : Int) < 2)) = true then
  some row
 else
  slices_CompactFunc_api_Cell_api_Cell_v1_L1 row 1
theorem slices_CompactFunc_api_Cell_api_Cell_v1_ok (row : List Cell) (rk : Nat) (rc : Nat) (rn : Bool) (r : List Cell) (hF : slices_CompactFunc_api_Cell_api_Cell_v1 row = some r) : Pe Try.prog 84 ⟨[], [], [(100000, ⟨37, 5, 0, 0, rc, rn, 0, [], (row.map e_Cell)⟩)], [], []⟩ [.row 100000 0, .fn 85 []] (.row 100000 1) ⟨[], [], [(100000, .o 37 5 1 (r.map e_Cell))], [], []⟩ := by
 refine PeN 66 [.tmp 4] [22] Ty.ok Fn.b84 Try.func84 ?_
 intro Q g hfin
 unfold slices_CompactFunc_api_Cell_api_Cell_v1 at hF
 refine NR [] [0, 1] [] [100000] [] .nil ?_
 refine NR [.nat (row.length : Int)] [0, 1, 10] [] [100000] [(10, .bool (decide ((row.length : Int) < 2)))] (hc (len_ok e_Cell row) .nil) ?_
 refine Nif hF (fun hb hF => ?_) (fun hb hF => ?_)
 ·refine NR [] [4] [] [100000] [(4, .row 100000 0)] .nil ?_
  cases hF
  exact Wk_ret (hfin _ ⟨[100000], [], [100000], [], [], [(100000, ⟨1, false, false, false⟩)], by kernel_rfl⟩)
 ·refine NR [] [0, 1, 5] [] [100000] [(5, .i 1)] .nil ?_
  refine NmeetP (fun v : Unit => (⟨[(0, .row 100000 0)], [], [(100000, ⟨37, 5, 0, 0, rc, rn, 0, [], (row.map e_Cell)⟩)], [], []⟩ : S)) (fun v => slices_CompactFunc_api_Cell_api_Cell_v1_J1 row v = some r) ?_ ?_
  ·refine Nblk ?_
   unfold slices_CompactFunc_api_Cell_api_Cell_v1_L1 at hF
   refine Niter (fun v1 : Int => (⟨[(0, .row 100000 0), (1, .fn 85 []), (5, .i v1)], [], [(100000, ⟨37, 5, 0, 0, rc, rn, 0, [], (row.map e_Cell)⟩)], [], []⟩ : S)) [] hF (by kernel_rfl) ?_
   intro n1 v1 y1 hF ih1 dn1
   unfold slices_CompactFunc_api_Cell_api_Cell_v1_B1 at hF
   refine NR [.nat (row.length : Int)] [0, 1, 5, 15] [] [100000] [(15, .bool (decide (v1 < (row.length : Int))))] (hc (len_ok e_Cell row) .nil) ?_
   refine Nif hF (fun hb hF => ?_) (fun hb hF => ?_)
   ·refine Nblk ?_
    obtain ⟨h0, h1, h2, h3, hF⟩ := asrt4 hF
    obtain ⟨x, h4, hF⟩ := ob_elim hF
    refine ND [.av (e_Cell (lget row v1)), .av (e_Cell (lget row (w64 (v1 - 1)))), .callB (.bool x)] [0, 1, 5, 28] [] [100000] [(28, .bool x)] (hc (ixr_ok e_Cell h0) (hc (ldr_ok e_Cell h1) (hc (ixr_ok e_Cell h2) (hc (ldr_ok e_Cell h3) (hc (cell_Merge_1_ok (⟨(lget row v1).Row, (lget row v1).Col, (lget row v1).Time, (lget row v1).Gone, (lget row v1).Value⟩ : Cell) (⟨(lget row (w64 (v1 - 1))).Row, (lget row (w64 (v1 - 1))).Col, (lget row (w64 (v1 - 1))).Time, (lget row (w64 (v1 - 1))).Gone, (lget row (w64 (v1 - 1))).Value⟩ : Cell) x h4) .nil))))) ?_
    refine Nif hF (fun hb hF => ?_) (fun hb hF => ?_)
    ·obtain ⟨h5, hF⟩ := asrt_elim hF
     refine NR [.vw (row.length - v1.toNat)] [0, 1, 5, 6] [] [100000] [(6, .rowv 100000 0 v1.toNat (row.length - v1.toNat))] (hc (vw10_ok e_Cell h5) .nil) ?_
     refine NR [] [0, 1, 5, 6, 7] [] [100000] [(7, .i 1)] .nil ?_
     refine NmeetP (fun v2 : List Cell × Int => (⟨[(0, .row 100000 0), (5, .i v2.2)], [], [(100000, ⟨37, 5, 0, 0, rc, rn, 0, [], (v2.1.map e_Cell)⟩)], [], []⟩ : S)) (fun v2 => slices_CompactFunc_api_Cell_api_Cell_v1_J2 v2 = some y1) ?_ ?_
     ·refine Nblk ?_
      unfold slices_CompactFunc_api_Cell_api_Cell_v1_L2 at hF
      refine Niter (fun v4 : List Cell × Int × Int => (⟨[(0, .row 100000 0), (1, .fn 85 []), (5, .i v4.2.1), (6, .rowv 100000 0 v1.toNat (row.length - v1.toNat)), (7, .i v4.2.2)], [], [(100000, ⟨37, 5, 0, 0, rc, rn, 0, [], (v4.1.map e_Cell)⟩)], [], []⟩ : S)) [] hF (by kernel_rfl) ?_
      intro n2 v4 y2 hF ih2 dn2
      unfold slices_CompactFunc_api_Cell_api_Cell_v1_B2 at hF
      refine NR [] [0, 1, 5, 6, 7, 35] [] [100000] [(35, .bool (decide (v4.2.2 < (((row.length - v1.toNat) : Nat) : Int))))] .nil ?_
      refine Nif hF (fun hb hF => ?_) (fun hb hF => ?_)
      ·refine Nblk ?_
       obtain ⟨h9, h10, h11, h12, hF⟩ := asrt4 hF
       obtain ⟨x1, h13, hF⟩ := ob_elim hF
       refine ND [.av (e_Cell (lget v4.1 (((v1.toNat + v4.2.2.toNat) : Nat) : Int))), .av (e_Cell (lget v4.1 (((v1.toNat + (w64 (v4.2.2 - 1)).toNat) : Nat) : Int))), .callB (.bool x1)] [0, 1, 5, 6, 7, 49] [] [100000] [(49, .bool (!x1))] (hc h9 (hc (ldr_ok e_Cell h10) (hc h11 (hc (ldr_ok e_Cell h12) (hc (cell_Merge_1_ok (⟨(lget v4.1 (((v1.toNat + v4.2.2.toNat) : Nat) : Int)).Row, (lget v4.1 (((v1.toNat + v4.2.2.toNat) : Nat) : Int)).Col, (lget v4.1 (((v1.toNat + v4.2.2.toNat) : Nat) : Int)).Time, (lget v4.1 (((v1.toNat + v4.2.2.toNat) : Nat) : Int)).Gone, (lget v4.1 (((v1.toNat + v4.2.2.toNat) : Nat) : Int)).Value⟩ : Cell) (⟨(lget v4.1 (((v1.toNat + (w64 (v4.2.2 - 1)).toNat) : Nat) : Int)).Row, (lget v4.1 (((v1.toNat + (w64 (v4.2.2 - 1)).toNat) : Nat) : Int)).Col, (lget v4.1 (((v1.toNat + (w64 (v4.2.2 - 1)).toNat) : Nat) : Int)).Time, (lget v4.1 (((v1.toNat + (w64 (v4.2.2 - 1)).toNat) : Nat) : Int)).Gone, (lget v4.1 (((v1.toNat + (w64 (v4.2.2 - 1)).toNat) : Nat) : Int)).Value⟩ : Cell) x1 h13) .nil))))) ?_
       obtain ⟨v5, hv, hF⟩ := ob_elim hF
       refine Nmeet (⟨[(0, .row 100000 0), (1, .fn 85 []), (5, .i v5.2), (6, .rowv 100000 0 v1.toNat (row.length - v1.toNat)), (7, .i v4.2.2)], [], [(100000, ⟨37, 5, 0, 0, rc, rn, 0, [], (v5.1.map e_Cell)⟩)], [], []⟩ : S) ?_ ?_
       ·have hF := hv
        refine Nif hF (fun hb hF => ?_) (fun hb hF => ?_)
        ·obtain ⟨h14, hF⟩ := asrt_elim hF
         obtain ⟨h15, h16, hF⟩ := asrt2 hF
         obtain ⟨h17, hF⟩ := asrt_elim hF
         refine NRL ((lset v4.1 v4.2.1 (⟨(lget v4.1 (((v1.toNat + v4.2.2.toNat) : Nat) : Int)).Row, (lget v4.1 (((v1.toNat + v4.2.2.toNat) : Nat) : Int)).Col, (lget v4.1 (((v1.toNat + v4.2.2.toNat) : Nat) : Int)).Time, (lget v4.1 (((v1.toNat + v4.2.2.toNat) : Nat) : Int)).Gone, (lget v4.1 (((v1.toNat + v4.2.2.toNat) : Nat) : Int)).Value⟩ : Cell))) (fun v6 : List Cell => ([], [], [(100000, ⟨37, 5, 0, 0, rc, rn, 0, [], (v6.map e_Cell)⟩)], [])) [.av (e_Cell (lget v4.1 (((v1.toNat + v4.2.2.toNat) : Nat) : Int))), .av (e_Cell (lget v4.1 v4.2.1)), .xs ((lset v4.1 v4.2.1 (⟨(lget v4.1 (((v1.toNat + v4.2.2.toNat) : Nat) : Int)).Row, (lget v4.1 (((v1.toNat + v4.2.2.toNat) : Nat) : Int)).Col, (lget v4.1 (((v1.toNat + v4.2.2.toNat) : Nat) : Int)).Time, (lget v4.1 (((v1.toNat + v4.2.2.toNat) : Nat) : Int)).Gone, (lget v4.1 (((v1.toNat + v4.2.2.toNat) : Nat) : Int)).Value⟩ : Cell)).map e_Cell)] [0, 1, 5, 6, 7] [] [100000] [] (hc h14 (hc (ldr_ok e_Cell h15) (hc (ixr_ok e_Cell h16) (hc (ldr_ok e_Cell h17) (hc (set_ok e_Cell v4.1 v4.2.1 (⟨(lget v4.1 (((v1.toNat + v4.2.2.toNat) : Nat) : Int)).Row, (lget v4.1 (((v1.toNat + v4.2.2.toNat) : Nat) : Int)).Col, (lget v4.1 (((v1.toNat + v4.2.2.toNat) : Nat) : Int)).Time, (lget v4.1 (((v1.toNat + v4.2.2.toNat) : Nat) : Int)).Gone, (lget v4.1 (((v1.toNat + v4.2.2.toNat) : Nat) : Int)).Value⟩ : Cell)) (hc (Nat.zero_le v4.2.1.toNat) .nil)))))) (fun v6 hv => ?_)
         have hF := lt_elim hF hv
         refine NR [] [0, 1, 5, 6, 7] [] [100000] [(5, .i (w64 (v4.2.1 + 1)))] .nil ?_
         cases hF
         exact met [] (by kernel_rfl)
        ·cases hF
         exact met [] (by kernel_rfl)
       ·refine NR [] [0, 1, 5, 6, 7] [] [100000] [(7, .i (w64 (v4.2.2 + 1)))] .nil ?_
        exact Nrnd [] hF ih2 (by kernel_rfl)
      ·refine Nexit rfl ?_
       have hF := inrO_done hF dn2
       exact metP (v4.1, v4.2.1) [] hF (by kernel_rfl)
     ·intro v2 hF
      have hF : slices_CompactFunc_api_Cell_api_Cell_v1_J2 v2 = some y1 := hF
      unfold slices_CompactFunc_api_Cell_api_Cell_v1_J2 at hF
      obtain ⟨h6, hF⟩ := asrt_elim hF
      refine NRL ((lclear v2.1 v2.2.toNat (v2.1.length - v2.2.toNat) ((⟨([] : List UInt8), ([] : List UInt8), 0, false, ([] : List UInt8)⟩ : Cell) : Cell))) (fun v3 : List Cell => ([], [], [(100000, ⟨37, 5, 0, 0, rc, rn, 0, [], (v3.map e_Cell)⟩)], [])) [.vw (v2.1.length - v2.2.toNat), .xs ((lclear v2.1 v2.2.toNat (v2.1.length - v2.2.toNat) ((⟨([] : List UInt8), ([] : List UInt8), 0, false, ([] : List UInt8)⟩ : Cell) : Cell)).map e_Cell)] [0, 5] [] [100000] [] (hc (vw10_ok e_Cell h6) (hc (clr_ok e_Cell v2.1 v2.2.toNat (v2.1.length - v2.2.toNat) ((⟨([] : List UInt8), ([] : List UInt8), 0, false, ([] : List UInt8)⟩ : Cell) : Cell)) (hc (Nat.zero_le v2.2.toNat) .nil))) (fun v3 hv => ?_)
      have hF := lt_elim hF hv
      obtain ⟨h7, hF⟩ := asrt_elim hF
      refine NR [.vw v2.2.toNat] [4] [] [100000] [(4, .rowv 100000 0 0 v2.2.toNat)] (hc (vw01_ok (cm := rc) e_Cell h7) .nil) ?_
      obtain ⟨h8, hF⟩ := asrt_elim hF
      refine Wk_truncL 4 100000 0 v2.2.toNat ((v3.take v2.2.toNat).map e_Cell) rfl rfl rfl rfl (tk_ok e_Cell h8).1 (Nat.zero_le _) (List.map_take).symm ?_
      have hF := ret_done hF dn1
      cases hF
      exact Wk_ret (hfin _ ⟨[100000], [], [100000], [], [], [(100000, ⟨1, false, true, false⟩)], by kernel_rfl⟩)
    ·refine NR [] [0, 1, 5] [] [100000] [(5, .i (w64 (v1 + 1)))] .nil ?_
     exact Nrnd [] hF ih1 (by kernel_rfl)
   ·refine Nexit rfl ?_
    have hF := inrO_done hF dn1
    exact metP () [] hF (by kernel_rfl)
  ·intro v hF
   have hF : slices_CompactFunc_api_Cell_api_Cell_v1_J1 row v = some r := hF
   unfold slices_CompactFunc_api_Cell_api_Cell_v1_J1 at hF
   refine NR [] [4] [] [100000] [(4, .row 100000 0)] .nil ?_
   cases hF
   exact Wk_ret (hfin _ ⟨[100000], [], [100000], [], [], [(100000, ⟨1, false, false, false⟩)], by kernel_rfl⟩)

/- cell.Merge -/
noncomputable def cell_Merge (lists : List (List Cell)) : Option (List Cell) :=
 ob (slices_Concat_api_Cell_api_Cell lists) fun x =>
 ob (slices_SortStableFunc_api_Cell_api_Cell_v1 x) fun x1 =>
 ob (slices_CompactFunc_api_Cell_api_Cell_v1 x1) fun x2 =>
 some x2
theorem cell_Merge_ok (lists : List (List Cell)) (r : List Cell) (hF : cell_Merge lists = some r) : Pe Try.prog 68 S.none [.sl 1 (lists.map e_L_Cell)] (.row 5 1) ⟨[], [], [(5, .o 37 5 1 (r.map e_Cell))], [], []⟩ := by
 refine PeN 10 [.tmp 2] [22] Ty.ok Fn.b68 Try.func68 ?_
 intro Q g hfin
 unfold cell_Merge at hF
 refine NR [] [0] [] [] [] .nil ?_
 obtain ⟨x, h0, hF⟩ := ob_elim hF
 refine VR [.callE [] [] [] [] (.row 5 0) ⟨[], [], [(5, .o 37 5 0 (x.map e_Cell))], [], []⟩] [3] [] [5] [] [(3, .row 5 0)] [] [(5, .o 37 5 0 (x.map e_Cell))] [] (hc (Pe.ren (slices_Concat_api_Cell_api_Cell_ok lists x h0) ⟨[], [(24, 5)], [], []⟩) .nil) ?_
 obtain ⟨x1, h1, hF⟩ := ob_elim hF
 refine VR [.callE [] [5] [] [] (.tup []) ⟨[], [], [(5, .o 37 5 0 (x1.map e_Cell))], [], []⟩] [3] [] [5] [] [] [] [(5, .o 37 5 0 (x1.map e_Cell))] [] (hc (Pe.ren (slices_SortStableFunc_api_Cell_api_Cell_v1_ok x 0 0 false x1 h1) ⟨[], [(100000, 5)], [], []⟩) .nil) ?_
 obtain ⟨x2, h2, hF⟩ := ob_elim hF
 refine VR [.callE [] [5] [] [] (.row 5 1) ⟨[], [], [(5, .o 37 5 1 (x2.map e_Cell))], [], []⟩] [2] [] [5] [] [(2, .row 5 1)] [] [(5, .o 37 5 1 (x2.map e_Cell))] [] (hc (Pe.ren (slices_CompactFunc_api_Cell_api_Cell_v1_ok x1 0 0 false x2 h2) ⟨[], [(100000, 5)], [], []⟩) .nil) ?_
 cases hF
 exact Wk_ret (hfin _ ⟨[5], [], [5], [], [], [], by kernel_rfl⟩)

/- cell.Sort -/
noncomputable def cell_Sort_v1_J1 (l : List Cell) (v : Fault) : Option (List Cell × Fault) :=
 ob (slices_Clone_api_Cell_api_Cell l) fun x1 =>
 ob (slices_Reverse_api_Cell_api_Cell_v1 x1) fun x2 =>
 ob (cell_Merge ([x2] : List (List Cell))) fun x3 =>
 some (x3, (⟨0, 0⟩ : Fault))
noncomputable def cell_Sort_v1_B1 (l : List Cell) (v1 : Fault × Int) : Option ((Fault × Int) ⊕ (List Cell × Fault)) :=
 if (decide (v1.2 < (l.length : Int))) = true then
  asrt (0 ≤ v1.2 ∧ v1.2 < (l.length : Int)) <|
  lt (cell_code (⟨(lget l v1.2).Row, (lget l v1.2).Col, (lget l v1.2).Time, (lget l v1.2).Gone, (lget l v1.2).Value⟩ : Cell)) fun x4 =>
  if (!decide (x4 = 0)) = true then
   lt (cell_fault x4 v1.2) fun x5 =>
   some (Sum.inr (([] : List Cell), x5))
  else
   some (Sum.inl (v1.1, w64 (v1.2 + 1)))
 else
  inrO (cell_Sort_v1_J1 l v1.1)
noncomputable def cell_Sort_v1_L1 (l : List Cell) (v0 : Fault × Int) : Option (List Cell × Fault) :=
 loopO (fun y => cell_Sort_v1_B1 l y) v0
noncomputable def cell_Sort_v1 (l : List Cell) : Option (List Cell × Fault) :=
 if (decide (1000 < (l.length : Int))) = true then
  lt (cell_fault 2 0) fun x =>
  some (([] : List Cell), x)
 else
  cell_Sort_v1_L1 l ((⟨0, 0⟩ : Fault), 0)
theorem cell_Sort_v1_ok (l : List Cell) (r : List Cell × Fault) (hF : cell_Sort_v1 l = some r) : Pe Try.prog 43 S.none [.sl 5 (l.map e_Cell)] (.tup [.sl 5 (r.1.map e_Cell), .agg (c_Fault r.2)]) S.none := by
 refine PeN 35 [.tmp 2, .cell 3 28] [22, 28] Ty.ok Fn.b43 Try.func43 ?_
 intro Q g hfin
 unfold cell_Sort_v1 at hF
 refine VR [] [0, 3] [3] [] [] [(3, .ptr 3 0)] [(3, [.i 0, .i 0])] [] [] .nil ?_
 refine NR [.nat (l.length : Int)] [0, 3, 10] [3] [] [(10, .bool (decide (1000 < (l.length : Int))))] (hc (len_ok e_Cell l) .nil) ?_
 refine Nif hF (fun hb hF => ?_) (fun hb hF => ?_)
 ·obtain ⟨x, h0, hF⟩ := lt_split hF
  refine VR [.callB (.agg (c_Fault x))] [2, 3] [3] [] [] [(2, .nils)] [(3, (c_Fault x))] [] [] (hc (cell_fault_ok 2 0 x h0) .nil) ?_
  cases hF
  exact Wk_ret (hfin _ ⟨[], [], [], [], [], [], by kernel_rfl⟩)
 ·refine NR [.nat (l.length : Int)] [0, 3, 12, 13, 14] [3] [] [(12, .sl 5 (l.map e_Cell)), (13, .i (l.length : Int)), (14, .i 0)] (hc (len_ok e_Cell l) .nil) ?_
  refine NmeetP (fun v : Fault => (⟨[(0, .sl 5 (l.map e_Cell)), (3, .ptr 3 0)], [(3, (c_Fault v))], [], [], []⟩ : S)) (fun v => cell_Sort_v1_J1 l v = some r) ?_ ?_
  ·refine Nblk ?_
   unfold cell_Sort_v1_L1 at hF
   refine Niter (fun v1 : Fault × Int => (⟨[(0, .sl 5 (l.map e_Cell)), (3, .ptr 3 0), (12, .sl 5 (l.map e_Cell)), (13, .i (l.length : Int)), (14, .i v1.2)], [(3, (c_Fault v1.1))], [], [], []⟩ : S)) [] hF (by kernel_rfl) ?_
   intro n1 v1 y1 hF ih1 dn1
   unfold cell_Sort_v1_B1 at hF
   refine NR [] [0, 3, 12, 13, 14, 15] [3] [] [(15, .bool (decide (v1.2 < (l.length : Int))))] .nil ?_
   refine Nif hF (fun hb hF => ?_) (fun hb hF => ?_)
   ·refine Nblk ?_
    obtain ⟨h4, hF⟩ := asrt_elim hF
    refine VR [.av (e_Cell (lget l v1.2))] [0, 3, 4, 5, 12, 13, 14] [3, 5] [] [] [(4, .i v1.2), (5, .ptr 5 0)] [(5, (c_Cell (lget l v1.2)))] [] [] (hc (idx_ok e_Cell h4) .nil) ?_
    obtain ⟨x4, h5, hF⟩ := lt_split hF
    refine NR [.callB (.i x4)] [0, 3, 4, 6, 12, 13, 14] [3] [] [(6, .i x4)] (hc (cell_code_ok (⟨(lget l v1.2).Row, (lget l v1.2).Col, (lget l v1.2).Time, (lget l v1.2).Gone, (lget l v1.2).Value⟩ : Cell) x4 h5) .nil) ?_
    refine NR [] [0, 3, 4, 6, 12, 13, 14, 22] [3] [] [(22, .bool (!decide (x4 = 0)))] .nil ?_
    refine Nif hF (fun hb hF => ?_) (fun hb hF => ?_)
    ·obtain ⟨x5, h6, hF⟩ := lt_split hF
     refine VR [.callB (.agg (c_Fault x5))] [2, 3] [3] [] [] [(2, .nils)] [(3, (c_Fault x5))] [] [] (hc (cell_fault_ok x4 v1.2 x5 h6) .nil) ?_
     have hF := ret_done hF dn1
     cases hF
     exact Wk_ret (hfin _ ⟨[], [], [], [], [], [], by kernel_rfl⟩)
    ·refine NR [] [0, 3, 12, 13, 14] [3] [] [(14, .i (w64 (v1.2 + 1)))] .nil ?_
     exact Nrnd [] hF ih1 (by kernel_rfl)
   ·refine Nexit rfl ?_
    have hF := inrO_done hF dn1
    exact metP v1.1 [] hF (by kernel_rfl)
  ·intro v hF
   have hF : cell_Sort_v1_J1 l v = some r := hF
   unfold cell_Sort_v1_J1 at hF
   obtain ⟨x1, h1, hF⟩ := ob_elim hF
   refine VR [.callE [] [] [] [] (.row 28 0) ⟨[], [], [(28, .o 37 5 0 (x1.map e_Cell))], [], []⟩] [3, 7] [3] [28] [] [(7, .row 28 0)] [] [(28, .o 37 5 0 (x1.map e_Cell))] [] (hc (Pe.ren (slices_Clone_api_Cell_api_Cell_ok l x1 h1) ⟨[], [(5, 28)], [], []⟩) .nil) ?_
   obtain ⟨x2, h2, hF⟩ := ob_elim hF
   refine VR [.callE [] [28] [] [] (.tup []) ⟨[], [], [(28, .o 37 5 0 (x2.map e_Cell))], [], []⟩] [3, 7] [3] [28] [] [] [] [(28, .o 37 5 0 (x2.map e_Cell))] [] (hc (Pe.ren (slices_Reverse_api_Cell_api_Cell_v1_ok x1 0 0 false x2 h2) ⟨[], [(100000, 28)], [], []⟩) .nil) ?_
   obtain ⟨x3, h3, hF⟩ := ob_elim hF
   refine VR [.sealed, .callE [] [] [] [] (.row 33 1) ⟨[], [], [(33, .o 37 5 1 (x3.map e_Cell))], [], []⟩] [2, 3] [3] [33] [] [(2, .row 33 1)] [(3, [.i 0, .i 0])] [(33, .o 37 5 1 (x3.map e_Cell))] [] (hc (Pe.ren (cell_Merge_ok ([x2] : List (List Cell)) x3 h3) ⟨[], [(5, 33)], [], []⟩) .nil) ?_
   cases hF
   exact Wk_ret (hfin _ ⟨[], [], [], [], [], [], by kernel_rfl⟩)

/- tabularyref.PutCell -/
noncomputable def R_PutCell_J1 (l : List Cell) (v : Cell × Int) : Option (List Cell) :=
 asrt ((decide (v.2 < (l.length : Int))) = true → 0 ≤ v.2 ∧ v.2 < (l.length : Int)) <|
 lt (R_Ahead v.1 (⟨(lget l v.2).Row, (lget l v.2).Col, (lget l v.2).Time, (lget l v.2).Gone, (lget l v.2).Value⟩ : Cell)) fun x =>
 if ((decide (v.2 < (l.length : Int))) && (!x)) = true then
  asrt ((l.length : Int) * 64 ≤ 140737488351232) <|
  asrt (0 ≤ v.2 ∧ v.2 < (l.length : Int)) <|
  asrt (0 ≤ v.2 ∧ v.2 < (l.length : Int)) <|
  some (lset l v.2 v.1)
 else
  asrt (0 ≤ v.2 ∧ v.2 ≤ (l.length : Int)) <|
  asrt (((ltake l v.2).length : Int) * 64 ≤ 140737488351232) <|
  asrt ((((ltake l v.2) ++ [v.1]).length : Int) * 64 ≤ 140737488351232) <|
  asrt (0 ≤ v.2 ∧ v.2 ≤ (l.length : Int)) <|
  asrt (((((ltake l v.2) ++ [v.1]) ++ (ldrop l v.2)).length : Int) * 64 ≤ 140737488351232) <|
  some (((ltake l v.2) ++ [v.1]) ++ (ldrop l v.2))
noncomputable def R_PutCell_B1 (l : List Cell) (v1 : Cell × Int) : Option ((Cell × Int) ⊕ (List Cell)) :=
 asrt ((decide (v1.2 < (l.length : Int))) = true → 0 ≤ v1.2 ∧ v1.2 < (l.length : Int)) <|
 lt (R_Ahead (⟨(lget l v1.2).Row, (lget l v1.2).Col, (lget l v1.2).Time, (lget l v1.2).Gone, (lget l v1.2).Value⟩ : Cell) v1.1) fun x1 =>
 if ((decide (v1.2 < (l.length : Int))) && x1) = true then
  some (Sum.inl (v1.1, w64 (v1.2 + 1)))
 else
  inrO (R_PutCell_J1 l (v1.1, v1.2))
noncomputable def R_PutCell_L1 (l : List Cell) (v0 : Cell × Int) : Option (List Cell) :=
 loopO (fun y => R_PutCell_B1 l y) v0
noncomputable def R_PutCell (l : List Cell) (c : Cell) : Option (List Cell) :=
 R_PutCell_L1 l (c, 0)
theorem R_PutCell_ok (l : List Cell) (c : Cell) (r : List Cell) (hF : R_PutCell l c = some r) : Pe Try.prog 69 S.none [.sl 5 (l.map e_Cell), .agg (c_Cell c)] (.row 35 0) ⟨[], [], [(35, .z 37 5 0 (r.map e_Cell))], [], []⟩ := by
 refine PeN 52 [.tmp 4] [22] Ty.ok Fn.b69 Try.func69 ?_
 intro Q g hfin
 unfold R_PutCell at hF
 refine VR [] [0, 3] [3] [] [] [(3, .ptr 3 0)] [(3, (c_Cell c))] [] [] .nil ?_
 refine NR [] [0, 3, 5] [3] [] [(5, .i 0)] .nil ?_
 refine NmeetP (fun v : Cell × Int => (⟨[(0, .sl 5 (l.map e_Cell)), (3, .ptr 3 0), (5, .i v.2)], [(3, (c_Cell v.1))], [], [], []⟩ : S)) (fun v => R_PutCell_J1 l v = some r) ?_ ?_
 ·refine Nblk ?_
  unfold R_PutCell_L1 at hF
  refine Niter (fun v1 : Cell × Int => (⟨[(0, .sl 5 (l.map e_Cell)), (3, .ptr 3 0), (5, .i v1.2)], [(3, (c_Cell v1.1))], [], [], []⟩ : S)) [] hF (by kernel_rfl) ?_
  intro n1 v1 y1 hF ih1 dn1
  unfold R_PutCell_B1 at hF
  obtain ⟨h10, hF⟩ := asrt_elim hF
  obtain ⟨x1, h11, hF⟩ := lt_split hF
  refine ND [.nat (l.length : Int), .av (e_Cell (lget l v1.2)), .callB (.bool x1)] [0, 3, 5, 18] [3] [] [(18, .bool ((decide (v1.2 < (l.length : Int))) && x1))] (hc (len_ok e_Cell l) (hc (fun (ga0 : (decide (v1.2 < (l.length : Int))) = true) => (idx_ok e_Cell (h10 ga0))) (hc (fun (ga0 : (decide (v1.2 < (l.length : Int))) = true) => (R_Ahead_ok (⟨(lget l v1.2).Row, (lget l v1.2).Col, (lget l v1.2).Time, (lget l v1.2).Gone, (lget l v1.2).Value⟩ : Cell) v1.1 x1 h11)) .nil))) ?_
  refine Nif hF (fun hb hF => ?_) (fun hb hF => ?_)
  ·refine Nblk ?_
   refine NR [] [0, 3, 5] [3] [] [(5, .i (w64 (v1.2 + 1)))] .nil ?_
   exact Nrnd [] hF ih1 (by kernel_rfl)
  ·refine Nexit rfl ?_
   have hF := inrO_done hF dn1
   exact metP (v1.1, v1.2) [] hF (by kernel_rfl)
 ·intro v hF
  have hF : R_PutCell_J1 l v = some r := hF
  unfold R_PutCell_J1 at hF
  obtain ⟨h0, hF⟩ := asrt_elim hF
  obtain ⟨x, h1, hF⟩ := lt_split hF
  refine ND [.nat (l.length : Int), .av (e_Cell (lget l v.2)), .callB (.bool x)] [0, 3, 5, 33] [3] [] [(33, .bool ((decide (v.2 < (l.length : Int))) && (!x)))] (hc (len_ok e_Cell l) (hc (fun (ga0 : (decide (v.2 < (l.length : Int))) = true) => (idx_ok e_Cell (h0 ga0))) (hc (fun (ga0 : (decide (v.2 < (l.length : Int))) = true) => (R_Ahead_ok v.1 (⟨(lget l v.2).Row, (lget l v.2).Col, (lget l v.2).Time, (lget l v.2).Gone, (lget l v.2).Value⟩ : Cell) x h1)) .nil))) ?_
  refine Nif hF (fun hb hF => ?_) (fun hb hF => ?_)
  ·obtain ⟨h2, hF⟩ := asrt_elim hF
   refine VR [.xs (l.map e_Cell)] [3, 5, 6] [3] [35] [] [(6, .row 35 1)] [] [(35, .z 37 5 1 (l.map e_Cell))] [] (hc (app0_ok e_Cell l) (hc (appl_ok e_Cell h2) .nil)) ?_
   obtain ⟨h3, h4, hF⟩ := asrt2 hF
   refine VR [.av (e_Cell (lget l v.2)), .xs ((lset l v.2 v.1).map e_Cell)] [6] [] [35] [] [] [] [(35, .z 37 5 1 ((lset l v.2 v.1).map e_Cell))] [] (hc (ixr_ok e_Cell h3) (hc (ldr_ok e_Cell h4) (hc (set_ok e_Cell l v.2 v.1) (hc (Nat.zero_le v.2.toNat) .nil)))) ?_
   refine NR [] [4] [] [35] [(4, .row 35 1)] .nil ?_
   cases hF
   exact Wk_ret (hfin _ ⟨[35], [], [35], [], [], [(35, ⟨0, true, true, false⟩)], by kernel_rfl⟩)
  ·obtain ⟨h5, hF⟩ := asrt_elim hF
   obtain ⟨h6, h7, h8, h9, hF⟩ := asrt4 hF
   refine VD [.xs ((ltake l v.2).map e_Cell), .xs ((ltake l v.2).map e_Cell), .sealed, .xs (((ltake l v.2) ++ [v.1]).map e_Cell), .xs ((ldrop l v.2).map e_Cell), .xs ((((ltake l v.2) ++ [v.1]) ++ (ldrop l v.2)).map e_Cell)] [4] [] [44] [] [(4, .row 44 3)] [] [(44, .z 37 5 3 ((((ltake l v.2) ++ [v.1]) ++ (ldrop l v.2)).map e_Cell))] [] (hc (sl01_ok e_Cell h5) (hc (app0_ok e_Cell (ltake l v.2)) (hc (appl_ok e_Cell h6) (hc (app_ok e_Cell (ltake l v.2) [v.1]) (hc (appl_ok e_Cell h7) (hc (sl10_ok e_Cell h8) (hc (app_ok e_Cell ((ltake l v.2) ++ [v.1]) (ldrop l v.2)) (hc (appl_ok e_Cell h9) .nil)))))))) ?_
   cases hF
   refine Wk_ren' ⟨[], [(44, 35)], [], []⟩ rfl ?_
   exact Wk_ret (hfin _ ⟨[35], [], [35], [], [], [(35, ⟨0, true, true, false⟩)], by kernel_rfl⟩)

/- tabularyref.PutCells -/
noncomputable def R_PutCells_J1 (v : List Cell) : Option (List Cell) :=
 some v
noncomputable def R_PutCells_B1 (m : List Cell) (v1 : List Cell × Int) : Option ((List Cell × Int) ⊕ (List Cell)) :=
 if (decide (v1.2 < (m.length : Int))) = true then
  asrt (0 ≤ v1.2 ∧ v1.2 < (m.length : Int)) <|
  ob (R_PutCell v1.1 (⟨(lget m v1.2).Row, (lget m v1.2).Col, (lget m v1.2).Time, (lget m v1.2).Gone, (lget m v1.2).Value⟩ : Cell)) fun x =>
  some (Sum.inl (x, w64 (v1.2 + 1)))
 else
  inrO (R_PutCells_J1 v1.1)
noncomputable def R_PutCells_L1 (m : List Cell) (v0 : List Cell × Int) : Option (List Cell) :=
 loopO (fun y => R_PutCells_B1 m y) v0
noncomputable def R_PutCells (l : List Cell) (m : List Cell) : Option (List Cell) :=
 R_PutCells_L1 m (l, 0)
theorem R_PutCells_ok (l : List Cell) (m : List Cell) (r : List Cell) (hF : R_PutCells l m = some r) : Pe Try.prog 46 S.none [.sl 5 (l.map e_Cell), .sl 5 (m.map e_Cell)] (.sl 5 (r.map e_Cell)) S.none := by
 refine PeN 19 [.tmp 4] [22] Ty.ok Fn.b46 Try.func46 ?_
 intro Q g hfin
 unfold R_PutCells at hF
 refine NR [] [0, 1] [] [] [] .nil ?_
 refine NR [] [0, 1, 5] [] [] [(5, .i 0)] .nil ?_
 refine NmeetP (fun v : List Cell => (⟨[(0, .sl 5 (v.map e_Cell))], [], [], [], []⟩ : S)) (fun v => R_PutCells_J1 v = some r) ?_ ?_
 ·refine Nblk ?_
  unfold R_PutCells_L1 at hF
  refine Niter (fun v1 : List Cell × Int => (⟨[(0, .sl 5 (v1.1.map e_Cell)), (1, .sl 5 (m.map e_Cell)), (5, .i v1.2)], [], [], [], []⟩ : S)) [] hF (by kernel_rfl) ?_
  intro n1 v1 y1 hF ih1 dn1
  unfold R_PutCells_B1 at hF
  refine NR [.nat (m.length : Int)] [0, 1, 5, 9] [] [] [(9, .bool (decide (v1.2 < (m.length : Int))))] (hc (len_ok e_Cell m) .nil) ?_
  refine Nif hF (fun hb hF => ?_) (fun hb hF => ?_)
  ·refine Nblk ?_
   obtain ⟨h0, hF⟩ := asrt_elim hF
   obtain ⟨x, h1, hF⟩ := ob_elim hF
   refine VR [.av (e_Cell (lget m v1.2)), .callE [] [] [] [] (.row 17 0) ⟨[], [], [(17, .z 37 5 0 (x.map e_Cell))], [], []⟩] [0, 1, 5] [] [17] [] [(0, .row 17 0)] [] [(17, .z 37 5 0 (x.map e_Cell))] [] (hc (idx_ok e_Cell h0) (hc (Pe.ren (R_PutCell_ok v1.1 (⟨(lget m v1.2).Row, (lget m v1.2).Col, (lget m v1.2).Time, (lget m v1.2).Gone, (lget m v1.2).Value⟩ : Cell) x h1) ⟨[], [(35, 17)], [], []⟩) .nil)) ?_
   refine NR [] [0, 1, 5] [] [17] [(5, .i (w64 (v1.2 + 1)))] .nil ?_
   refine Wk_sealX [] 0 rfl rfl ?_
   exact Nrnd [] hF ih1 (by kernel_rfl)
  ·refine Nexit rfl ?_
   have hF := inrO_done hF dn1
   exact metP v1.1 [] hF (by kernel_rfl)
 ·intro v hF
  have hF : R_PutCells_J1 v = some r := hF
  unfold R_PutCells_J1 at hF
  refine NR [] [4] [] [] [(4, .sl 5 (v.map e_Cell))] .nil ?_
  cases hF
  exact Wk_ret (hfin _ ⟨[], [], [], [], [], [], by kernel_rfl⟩)

/- tabularylaw.CellSorts$1 -/
noncomputable def law_CellSorts_1 (box : List Cell) : Option (List Cell) :=
 ob (R_PutCells ([] : List Cell) box) fun x =>
 some x
theorem law_CellSorts_1_ok (box : List Cell) (r : List Cell) (hF : law_CellSorts_1 box = some r) : Pe Try.prog 45 ⟨[], [(100000, [.sl 5 (box.map e_Cell)])], [], [], []⟩ [.ptr 100000 0] (.sl 5 (r.map e_Cell)) ⟨[], [(100000, [.sl 5 (box.map e_Cell)])], [], [], []⟩ := by
 refine PeN 4 [.tmp 1] [22] Ty.ok Fn.b45 Try.func45 ?_
 intro Q g hfin
 unfold law_CellSorts_1 at hF
 refine NR [] [0] [100000] [] [] .nil ?_
 obtain ⟨x, h0, hF⟩ := ob_elim hF
 refine NR [.call (.sl 5 (x.map e_Cell))] [1] [100000] [] [(1, .sl 5 (x.map e_Cell))] (hc (R_PutCells_ok ([] : List Cell) box x h0) .nil) ?_
 cases hF
 exact Wk_ret (hfin _ ⟨[], [100000], [], [], [], [], by kernel_rfl⟩)

/- tabularylaw.cellsAs -/
noncomputable def law_cellsAs_v1 (l : List Cell) (f : Fault) (w0 : Fault) (box : List Cell) : Option Bool :=
 if (!(decide (f.Code = w0.Code) && (decide (f.At = w0.At) && true))) = true then
  some false
 else
  if (!decide (w0.Code = 0)) = true then
   some (decide ((l.length : Int) = 0))
  else
   ob (law_CellSorts_1 box) fun x =>
   ob (R_SameCells l x) fun x1 =>
   some x1
theorem law_cellsAs_v1_ok (l : List Cell) (f : Fault) (w0 : Fault) (box : List Cell) (r : Bool) (hF : law_cellsAs_v1 l f w0 box = some r) : Pe Try.prog 20 ⟨[], [(100000, [.sl 5 (box.map e_Cell)])], [], [], []⟩ [.sl 5 (l.map e_Cell), .agg (c_Fault f), .agg (c_Fault w0), .fn 45 [.ptr 100000 0]] (.bool r) ⟨[], [(100000, [.sl 5 (box.map e_Cell)])], [], [], []⟩ := by
 refine PeN 22 [.tmp 8] [4] Ty.ok Fn.b20 Try.func20 ?_
 intro Q g hfin
 unfold law_cellsAs_v1 at hF
 refine VR [] [0, 3, 5, 6] [5, 6, 100000] [] [] [(5, .ptr 5 0), (6, .ptr 6 0)] [(5, (c_Fault f)), (6, (c_Fault w0))] [] [] .nil ?_
 refine NR [] [0, 3, 6, 11] [6, 100000] [] [(11, .bool (!(decide (f.Code = w0.Code) && (decide (f.At = w0.At) && true))))] .nil ?_
 refine Nif hF (fun hb hF => ?_) (fun hb hF => ?_)
 ·refine NR [] [8] [100000] [] [(8, .bool false)] .nil ?_
  cases hF
  exact Wk_ret (hfin _ ⟨[], [100000], [], [], [], [], by kernel_rfl⟩)
 ·refine NR [] [0, 3, 14] [100000] [] [(14, .bool (!decide (w0.Code = 0)))] .nil ?_
  refine Nif hF (fun hb hF => ?_) (fun hb hF => ?_)
  ·refine NR [.nat (l.length : Int)] [8] [100000] [] [(8, .bool (decide ((l.length : Int) = 0)))] (hc (len_ok e_Cell l) .nil) ?_
   cases hF
   exact Wk_ret (hfin _ ⟨[], [100000], [], [], [], [], by kernel_rfl⟩)
  ·obtain ⟨x, h0, hF⟩ := ob_elim hF
   obtain ⟨x1, h1, hF⟩ := ob_elim hF
   refine NR [.callR [100000] [] [] [] (.sl 5 (x.map e_Cell)), .callB (.bool x1)] [8] [100000] [] [(8, .bool x1)] (hc (Pe.ren (law_CellSorts_1_ok box x h0) ⟨[], [], [], []⟩) (hc (R_SameCells_ok l x x1 h1) .nil)) ?_
   cases hF
   exact Wk_ret (hfin _ ⟨[], [100000], [], [], [], [], by kernel_rfl⟩)

/- tabularylaw.CellSorts -/
noncomputable def law_CellSorts_J1 (l : List Cell) (x4 : List Cell × Fault) (v1 : Fault × Fault) : Option Bool :=
 if ((decide (v1.2.Code = 0)) && (decide (150 < (l.length : Int)))) = true then
  some (decide (v1.1.Code = 0))
 else
  ob (law_cellsAs_v1 x4.1 v1.1 v1.2 l) fun x8 =>
  some x8
noncomputable def law_CellSorts_B1 (l : List Cell) (x4 : List Cell × Fault) (v2 : Fault × Fault × Int) : Option ((Fault × Fault × Int) ⊕ Bool) :=
 if ((decide (v2.2.2 < (l.length : Int))) && (decide (v2.2.1.Code = 0))) = true then
  asrt (0 ≤ v2.2.2 ∧ v2.2.2 < (l.length : Int)) <|
  lt (R_CellCode (⟨(lget l v2.2.2).Row, (lget l v2.2.2).Col, (lget l v2.2.2).Time, (lget l v2.2.2).Gone, (lget l v2.2.2).Value⟩ : Cell)) fun x9 =>
  ob (
   if (!decide (x9 = 0)) = true then
    asrt (0 ≤ v2.2.2 ∧ v2.2.2 < (l.length : Int)) <|
    lt (R_CellCode (⟨(lget l v2.2.2).Row, (lget l v2.2.2).Col, (lget l v2.2.2).Time, (lget l v2.2.2).Gone, (lget l v2.2.2).Value⟩ : Cell)) fun x10 =>
    lt (R_F x10 v2.2.2) fun x11 =>
    some (v2.1, x11)
   else
    some (v2.1, v2.2.1)) fun (v3 : Fault × Fault) =>
  some (Sum.inl (v3.1, v3.2, w64 (v2.2.2 + 1)))
 else
  inrO (law_CellSorts_J1 l x4 (v2.1, v2.2.1))
noncomputable def law_CellSorts_L1 (l : List Cell) (x4 : List Cell × Fault) (v0 : Fault × Fault × Int) : Option Bool :=
 loopO (fun y => law_CellSorts_B1 l x4 y) v0
noncomputable def law_CellSorts (l : List Cell) : Option Bool :=
 ob (law_cellBegun) fun x =>
 if (!x) = true then
  some false
 else
  lt (law_many (l.length : Int)) fun x1 =>
  if x1 = true then
   some true
  else
   ob (law_ownCells_v1 l) fun x2 =>
   ob (cell_Check x2) fun x3 =>
   ob (cell_Sort_v1 x2) fun x4 =>
   ob (R_CellsFault l) fun x5 =>
   ob (if (!(!(decide (x3.Code = x5.Code) && (decide (x3.At = x5.At) && true)))) = true then (R_SameCells x2 l) else some default) fun x6 =>
   if ((!(decide (x3.Code = x5.Code) && (decide (x3.At = x5.At) && true))) || (!x6)) = true then
    some false
   else
    ob (
     if (decide (1000 < (l.length : Int))) = true then
      lt (R_F 2 0) fun x7 =>
      some (x4.2, x7)
     else
      some (x4.2, (⟨0, 0⟩ : Fault))) fun (v : Fault × Fault) =>
    law_CellSorts_L1 l x4 (v.1, v.2, 0)
theorem law_CellSorts_ok (l : List Cell) (r : Bool) (hF : law_CellSorts l = some r) : Pe Try.prog 10 S.none [.sl 5 (l.map e_Cell)] (.bool r) S.none := by
 refine PeN 78 [.tmp 2] [4] Ty.ok Fn.b10 Try.func10 ?_
 intro Q g hfin
 unfold law_CellSorts at hF
 refine VR [] [1] [1] [] [] [(1, .ptr 1 0)] [(1, [.sl 5 (l.map e_Cell)])] [] [] .nil ?_
 obtain ⟨x, h0, hF⟩ := ob_elim hF
 refine NR [.callB (.bool x)] [1, 10] [1] [] [(10, .bool (!x))] (hc (law_cellBegun_ok  x h0) .nil) ?_
 refine Nif hF (fun hb hF => ?_) (fun hb hF => ?_)
 ·refine NR [] [2] [] [] [(2, .bool false)] .nil ?_
  cases hF
  exact Wk_ret (hfin _ ⟨[], [], [], [], [], [], by kernel_rfl⟩)
 ·obtain ⟨x1, h1, hF⟩ := lt_split hF
  refine NR [.nat (l.length : Int), .callB (.bool x1)] [1, 13] [1] [] [(13, .bool x1)] (hc (len_ok e_Cell l) (hc (law_many_ok (l.length : Int) x1 h1) .nil)) ?_
  refine Nif hF (fun hb hF => ?_) (fun hb hF => ?_)
  ·refine NR [] [2] [] [] [(2, .bool true)] .nil ?_
   cases hF
   exact Wk_ret (hfin _ ⟨[], [], [], [], [], [], by kernel_rfl⟩)
  ·obtain ⟨x2, h2, hF⟩ := ob_elim hF
   refine NR [.call (.sl 5 (x2.map e_Cell))] [1, 3] [1] [] [(3, .sl 5 (x2.map e_Cell))] (hc (law_ownCells_v1_ok l x2 h2) .nil) ?_
   obtain ⟨x3, h3, hF⟩ := ob_elim hF
   refine VR [.callB (.agg (c_Fault x3))] [1, 3, 4] [1, 4] [] [] [(4, .ptr 4 0)] [(4, (c_Fault x3))] [] [] (hc (cell_Check_ok x2 x3 h3) .nil) ?_
   obtain ⟨x4, h4, hF⟩ := ob_elim hF
   refine VR [.call (.tup [.sl 5 (x4.1.map e_Cell), .agg (c_Fault x4.2)])] [1, 3, 4, 5, 6] [1, 4, 6] [] [] [(5, .sl 5 (x4.1.map e_Cell)), (6, .ptr 6 0)] [(6, (c_Fault x4.2))] [] [] (hc (cell_Sort_v1_ok x2 x4 h4) .nil) ?_
   obtain ⟨x5, h5, hF⟩ := ob_elim hF
   obtain ⟨x6, h6, hF⟩ := ob_elim hF
   refine ND [.callB (.agg (c_Fault x5)), .callB (.bool x6)] [1, 5, 6, 32] [1, 6] [] [(32, .bool ((!(decide (x3.Code = x5.Code) && (decide (x3.At = x5.At) && true))) || (!x6)))] (hc (R_CellsFault_ok l x5 h5) (hc (fun (ga0 : (!(!(decide (x3.Code = x5.Code) && (decide (x3.At = x5.At) && true)))) = true) => (R_SameCells_ok x2 l x6 (ite_t h6 ga0))) .nil)) ?_
   refine Nif hF (fun hb hF => ?_) (fun hb hF => ?_)
   ·refine NR [] [2] [] [] [(2, .bool false)] .nil ?_
    cases hF
    exact Wk_ret (hfin _ ⟨[], [], [], [], [], [], by kernel_rfl⟩)
   ·refine VR [] [1, 5, 6, 7] [1, 6, 7] [] [] [(7, .ptr 7 0)] [(7, [.i 0, .i 0])] [] [] .nil ?_
    refine NR [.nat (l.length : Int)] [1, 5, 6, 7, 36] [1, 6, 7] [] [(36, .bool (decide (1000 < (l.length : Int))))] (hc (len_ok e_Cell l) .nil) ?_
    obtain ⟨v, hv, hF⟩ := ob_elim hF
    refine Nmeet (⟨[(1, .ptr 1 0), (5, .sl 5 (x4.1.map e_Cell)), (6, .ptr 6 0), (7, .ptr 7 0)], [(1, [.sl 5 (l.map e_Cell)]), (6, (c_Fault v.1)), (7, (c_Fault v.2))], [], [], []⟩ : S) ?_ ?_
    ·have hF := hv
     refine Nif hF (fun hb hF => ?_) (fun hb hF => ?_)
     ·obtain ⟨x7, h7, hF⟩ := lt_split hF
      refine VR [.callB (.agg (c_Fault x7))] [1, 5, 6, 7] [1, 6, 7] [] [] [] [(7, (c_Fault x7))] [] [] (hc (R_F_ok 2 0 x7 h7) .nil) ?_
      cases hF
      exact met [] (by kernel_rfl)
     ·cases hF
      exact met [] (by kernel_rfl)
    ·refine NR [] [1, 5, 6, 7, 8] [1, 6, 7] [] [(8, .i 0)] .nil ?_
     refine NmeetP (fun v1 : Fault × Fault => (⟨[(1, .ptr 1 0), (5, .sl 5 (x4.1.map e_Cell)), (6, .ptr 6 0), (7, .ptr 7 0)], [(1, [.sl 5 (l.map e_Cell)]), (6, (c_Fault v1.1)), (7, (c_Fault v1.2))], [], [], []⟩ : S)) (fun v1 => law_CellSorts_J1 l x4 v1 = some r) ?_ ?_
     ·refine Nblk ?_
      unfold law_CellSorts_L1 at hF
      refine Niter (fun v2 : Fault × Fault × Int => (⟨[(1, .ptr 1 0), (5, .sl 5 (x4.1.map e_Cell)), (6, .ptr 6 0), (7, .ptr 7 0), (8, .i v2.2.2)], [(1, [.sl 5 (l.map e_Cell)]), (6, (c_Fault v2.1)), (7, (c_Fault v2.2.1))], [], [], []⟩ : S)) [] hF (by kernel_rfl) ?_
      intro n1 v2 y1 hF ih1 dn1
      unfold law_CellSorts_B1 at hF
      refine NR [.nat (l.length : Int)] [1, 5, 6, 7, 8, 46] [1, 6, 7] [] [(46, .bool ((decide (v2.2.2 < (l.length : Int))) && (decide (v2.2.1.Code = 0))))] (hc (len_ok e_Cell l) .nil) ?_
      refine Nif hF (fun hb hF => ?_) (fun hb hF => ?_)
      ·refine Nblk ?_
       obtain ⟨h9, hF⟩ := asrt_elim hF
       obtain ⟨x9, h10, hF⟩ := lt_split hF
       refine NR [.av (e_Cell (lget l v2.2.2)), .callB (.i x9)] [1, 5, 6, 7, 8, 54] [1, 6, 7] [] [(54, .bool (!decide (x9 = 0)))] (hc (idx_ok e_Cell h9) (hc (R_CellCode_ok (⟨(lget l v2.2.2).Row, (lget l v2.2.2).Col, (lget l v2.2.2).Time, (lget l v2.2.2).Gone, (lget l v2.2.2).Value⟩ : Cell) x9 h10) .nil)) ?_
       obtain ⟨v3, hv, hF⟩ := ob_elim hF
       refine Nmeet (⟨[(1, .ptr 1 0), (5, .sl 5 (x4.1.map e_Cell)), (6, .ptr 6 0), (7, .ptr 7 0), (8, .i v2.2.2)], [(1, [.sl 5 (l.map e_Cell)]), (6, (c_Fault v3.1)), (7, (c_Fault v3.2))], [], [], []⟩ : S) ?_ ?_
       ·have hF := hv
        refine Nif hF (fun hb hF => ?_) (fun hb hF => ?_)
        ·obtain ⟨h11, hF⟩ := asrt_elim hF
         obtain ⟨x10, h12, hF⟩ := lt_split hF
         obtain ⟨x11, h13, hF⟩ := lt_split hF
         refine VR [.av (e_Cell (lget l v2.2.2)), .callB (.i x10), .callB (.agg (c_Fault x11))] [1, 5, 6, 7, 8] [1, 6, 7] [] [] [] [(7, (c_Fault x11))] [] [] (hc (idx_ok e_Cell h11) (hc (R_CellCode_ok (⟨(lget l v2.2.2).Row, (lget l v2.2.2).Col, (lget l v2.2.2).Time, (lget l v2.2.2).Gone, (lget l v2.2.2).Value⟩ : Cell) x10 h12) (hc (R_F_ok x10 v2.2.2 x11 h13) .nil))) ?_
         cases hF
         exact met [] (by kernel_rfl)
        ·cases hF
         exact met [] (by kernel_rfl)
       ·refine NR [] [1, 5, 6, 7, 8] [1, 6, 7] [] [(8, .i (w64 (v2.2.2 + 1)))] .nil ?_
        exact Nrnd [] hF ih1 (by kernel_rfl)
      ·refine Nexit rfl ?_
       have hF := inrO_done hF dn1
       exact metP (v2.1, v2.2.1) [] hF (by kernel_rfl)
     ·intro v1 hF
      have hF : law_CellSorts_J1 l x4 v1 = some r := hF
      unfold law_CellSorts_J1 at hF
      refine NR [.nat (l.length : Int)] [1, 5, 6, 7, 69] [1, 6, 7] [] [(69, .bool ((decide (v1.2.Code = 0)) && (decide (150 < (l.length : Int)))))] (hc (fun (_ : (decide (v1.2.Code = 0)) = true) => (len_ok e_Cell l)) .nil) ?_
      refine Nif hF (fun hb hF => ?_) (fun hb hF => ?_)
      ·refine NR [] [2] [] [] [(2, .bool (decide (v1.1.Code = 0)))] .nil ?_
       cases hF
       exact Wk_ret (hfin _ ⟨[], [], [], [], [], [], by kernel_rfl⟩)
      ·obtain ⟨x8, h8, hF⟩ := ob_elim hF
       refine NR [.callR [1] [] [] [] (.bool x8)] [2] [] [] [(2, .bool x8)] (hc (Pe.ren (law_cellsAs_v1_ok x4.1 v1.1 v1.2 l x8 h8) ⟨[(100000, 1)], [], [], []⟩) .nil) ?_
       cases hF
       exact Wk_ret (hfin _ ⟨[], [], [], [], [], [], by kernel_rfl⟩)

end G
end Go.Proofs.Ytkbgkkbinnclmaa
