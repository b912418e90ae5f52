/- The program's functions as plain functions, and that they are these. Written by a program (dec2.py). -/
import Derived.Test.YtollmifjbcccgaaGf0
namespace Go.Proofs.Ytollmifjbcccgaa
open Go Go.Dm
set_option linter.unusedVariables false
set_option linter.unusedSimpArgs false
set_option maxRecDepth 100000
namespace G
/- slices.stableCmpFunc[api.Cell] -/
noncomputable def slices_stableCmpFunc_api_Cell_v1_J2 (v1 : List Cell) : Option (List Cell) :=
 some v1
noncomputable def slices_stableCmpFunc_api_Cell_v1_J3 (num : Int) (v2 : List Cell × Int) (v3 : List Cell × Int) : Option ((List Cell × Int) ⊕ (List Cell)) :=
 ob (
  if (decide ((w64 (v3.2 + v2.2)) < num)) = true then
   ob (slices_symMergeCmpFunc_api_Cell_v1 v3.2 (w64 (v3.2 + v2.2)) num v3.1) fun x1 =>
   some x1
  else
   some v3.1) fun (v4 : List Cell) =>
 some (Sum.inl (v4, w64 (v2.2 * 2)))
noncomputable def slices_stableCmpFunc_api_Cell_v1_B2 (num : Int) (v2 : List Cell × Int) (v5 : List Cell × Int × Int) : Option ((List Cell × Int × Int) ⊕ ((List Cell × Int) ⊕ (List Cell))) :=
 if (decide (v5.2.2 ≤ num)) = true then
  ob (slices_symMergeCmpFunc_api_Cell_v1 v5.2.1 (w64 (v5.2.1 + v2.2)) v5.2.2 v5.1) fun x2 =>
  some (Sum.inl (x2, v5.2.2, w64 (v5.2.2 + (w64 (2 * v2.2)))))
 else
  inrO (slices_stableCmpFunc_api_Cell_v1_J3 num v2 (v5.1, v5.2.1))
noncomputable def slices_stableCmpFunc_api_Cell_v1_L2 (num : Int) (v2 : List Cell × Int) (v0 : List Cell × Int × Int) : Option ((List Cell × Int) ⊕ (List Cell)) :=
 loopO (fun y => slices_stableCmpFunc_api_Cell_v1_B2 num v2 y) v0
noncomputable def slices_stableCmpFunc_api_Cell_v1_B1 (num : Int) (v2 : List Cell × Int) : Option ((List Cell × Int) ⊕ (List Cell)) :=
 if (decide (v2.2 < num)) = true then
  slices_stableCmpFunc_api_Cell_v1_L2 num v2 (v2.1, 0, w64 (2 * v2.2))
 else
  inrO (slices_stableCmpFunc_api_Cell_v1_J2 v2.1)
noncomputable def slices_stableCmpFunc_api_Cell_v1_L1 (num : Int) (v0 : List Cell × Int) : Option (List Cell) :=
 loopO (fun y => slices_stableCmpFunc_api_Cell_v1_B1 num y) v0
noncomputable def slices_stableCmpFunc_api_Cell_v1_J1 (num : Int) (v : List Cell × Int) : Option (List Cell) :=
 ob (slices_insertionSortCmpFunc_api_Cell_v1 v.2 num v.1) fun x =>
 slices_stableCmpFunc_api_Cell_v1_L1 num (x, 20)
noncomputable def slices_stableCmpFunc_api_Cell_v1_B3 (num : Int) (v6 : List Cell × Int × Int) : Option ((List Cell × Int × Int) ⊕ (List Cell)) :=
 if (decide (v6.2.2 ≤ num)) = true then
  ob (slices_insertionSortCmpFunc_api_Cell_v1 v6.2.1 v6.2.2 v6.1) fun x3 =>
  some (Sum.inl (x3, v6.2.2, w64 (v6.2.2 + 20)))
 else
  inrO (slices_stableCmpFunc_api_Cell_v1_J1 num (v6.1, v6.2.1))
noncomputable def slices_stableCmpFunc_api_Cell_v1_L3 (num : Int) (v0 : List Cell × Int × Int) : Option (List Cell) :=
 loopO (fun y => slices_stableCmpFunc_api_Cell_v1_B3 num y) v0
noncomputable def slices_stableCmpFunc_api_Cell_v1 (num : Int) (row : List Cell) : Option (List Cell) :=
 slices_stableCmpFunc_api_Cell_v1_L3 num (row, 0, 20)
theorem slices_stableCmpFunc_api_Cell_v1_ok (num : Int) (row : List Cell) (rk : Nat) (rc : Nat) (rn : Bool) (r : List Cell) (hF : slices_stableCmpFunc_api_Cell_v1 num row = some r) : Pe Try.prog 133 ⟨[], [], [(100000, ⟨96, 5, 0, 0, rc, rn, 0, [], (row.map e_Cell)⟩)], [], []⟩ [.row 100000 0, .i num, .fn 109 []] (.tup []) ⟨[], [], [(100000, ⟨96, 5, 0, 0, rc, rn, 0, [], (r.map e_Cell)⟩)], [], []⟩ := by
 refine PeN 63 [] [] Ty.ok Fn.b133 Try.func133 ?_
 intro Q g hfin
 unfold slices_stableCmpFunc_api_Cell_v1 at hF
 refine NR [] [0, 1, 2, 6] [] [100000] [(6, .i 20)] .nil ?_
 refine NR [] [0, 1, 2, 6, 7, 8] [] [100000] [(7, .i 0), (8, .i 20)] .nil ?_
 refine NmeetP (fun v : List Cell × Int => (⟨[(0, .row 100000 0), (1, .i num), (2, .fn 109 []), (6, .i 20), (7, .i v.2)], [], [(100000, ⟨96, 5, 0, 0, rc, rn, 0, [], (v.1.map e_Cell)⟩)], [], []⟩ : S)) (fun v => slices_stableCmpFunc_api_Cell_v1_J1 num v = some r) ?_ ?_
 ·refine Nblk ?_
  unfold slices_stableCmpFunc_api_Cell_v1_L3 at hF
  refine Niter (fun v6 : List Cell × Int × Int => (⟨[(0, .row 100000 0), (1, .i num), (2, .fn 109 []), (6, .i 20), (7, .i v6.2.1), (8, .i v6.2.2)], [], [(100000, ⟨96, 5, 0, 0, rc, rn, 0, [], (v6.1.map e_Cell)⟩)], [], []⟩ : S)) [] hF (by kernel_rfl) ?_
  intro n1 v6 y1 hF ih1 dn1
  unfold slices_stableCmpFunc_api_Cell_v1_B3 at hF
  refine NR [] [0, 1, 2, 6, 7, 8, 13] [] [100000] [(13, .bool (decide (v6.2.2 ≤ num)))] .nil ?_
  refine Nif hF (fun hb hF => ?_) (fun hb hF => ?_)
  ·refine Nblk ?_
   obtain ⟨x3, h3, hF⟩ := ob_elim hF
   refine VR [.callE [] [100000] [] [] (.tup []) ⟨[], [], [(100000, ⟨96, 5, 0, 0, rc, rn, 0, [], (x3.map e_Cell)⟩)], [], []⟩] [0, 1, 2, 6, 8] [] [100000] [] [] [] [(100000, ⟨96, 5, 0, 0, rc, rn, 0, [], (x3.map e_Cell)⟩)] [] (hc (Pe.ren (slices_insertionSortCmpFunc_api_Cell_v1_ok v6.2.1 v6.2.2 v6.1 0 rc rn x3 h3) ⟨[], [], [], []⟩) .nil) ?_
   refine NR [] [0, 1, 2, 6, 7, 8] [] [100000] [(7, .i v6.2.2)] .nil ?_
   refine NR [] [0, 1, 2, 6, 7, 8] [] [100000] [(8, .i (w64 (v6.2.2 + 20)))] .nil ?_
   exact Nrnd [] hF ih1 (by kernel_rfl)
  ·refine Nexit rfl ?_
   have hF := inrO_done hF dn1
   exact metP (v6.1, v6.2.1) [] hF (by kernel_rfl)
 ·intro v hF
  have hF : slices_stableCmpFunc_api_Cell_v1_J1 num v = some r := hF
  unfold slices_stableCmpFunc_api_Cell_v1_J1 at hF
  obtain ⟨x, h0, hF⟩ := ob_elim hF
  refine VR [.callE [] [100000] [] [] (.tup []) ⟨[], [], [(100000, ⟨96, 5, 0, 0, rc, rn, 0, [], (x.map e_Cell)⟩)], [], []⟩] [0, 1, 2, 6] [] [100000] [] [] [] [(100000, ⟨96, 5, 0, 0, rc, rn, 0, [], (x.map e_Cell)⟩)] [] (hc (Pe.ren (slices_insertionSortCmpFunc_api_Cell_v1_ok v.2 num v.1 0 rc rn x h0) ⟨[], [], [], []⟩) .nil) ?_
  refine NmeetP (fun v1 : List Cell => (⟨[], [], [(100000, ⟨96, 5, 0, 0, rc, rn, 0, [], (v1.map e_Cell)⟩)], [], []⟩ : S)) (fun v1 => slices_stableCmpFunc_api_Cell_v1_J2 v1 = some r) ?_ ?_
  ·refine Nblk ?_
   unfold slices_stableCmpFunc_api_Cell_v1_L1 at hF
   refine Niter (fun v2 : List Cell × Int => (⟨[(0, .row 100000 0), (1, .i num), (2, .fn 109 []), (6, .i v2.2)], [], [(100000, ⟨96, 5, 0, 0, rc, rn, 0, [], (v2.1.map e_Cell)⟩)], [], []⟩ : S)) [] hF (by kernel_rfl) ?_
   intro n1 v2 y1 hF ih1 dn1
   unfold slices_stableCmpFunc_api_Cell_v1_B1 at hF
   refine NR [] [0, 1, 2, 6, 30] [] [100000] [(30, .bool (decide (v2.2 < num)))] .nil ?_
   refine Nif hF (fun hb hF => ?_) (fun hb hF => ?_)
   ·refine Nblk ?_
    refine NR [] [0, 1, 2, 6, 7, 8] [] [100000] [(7, .i 0), (8, .i (w64 (2 * v2.2)))] .nil ?_
    refine NmeetP (fun v3 : List Cell × Int => (⟨[(0, .row 100000 0), (1, .i num), (2, .fn 109 []), (6, .i v2.2), (7, .i v3.2)], [], [(100000, ⟨96, 5, 0, 0, rc, rn, 0, [], (v3.1.map e_Cell)⟩)], [], []⟩ : S)) (fun v3 => slices_stableCmpFunc_api_Cell_v1_J3 num v2 v3 = some y1) ?_ ?_
    ·refine Nblk ?_
     unfold slices_stableCmpFunc_api_Cell_v1_L2 at hF
     refine Niter (fun v5 : List Cell × Int × Int => (⟨[(0, .row 100000 0), (1, .i num), (2, .fn 109 []), (6, .i v2.2), (7, .i v5.2.1), (8, .i v5.2.2)], [], [(100000, ⟨96, 5, 0, 0, rc, rn, 0, [], (v5.1.map e_Cell)⟩)], [], []⟩ : S)) [] hF (by kernel_rfl) ?_
     intro n2 v5 y2 hF ih2 dn2
     unfold slices_stableCmpFunc_api_Cell_v1_B2 at hF
     refine NR [] [0, 1, 2, 6, 7, 8, 35] [] [100000] [(35, .bool (decide (v5.2.2 ≤ num)))] .nil ?_
     refine Nif hF (fun hb hF => ?_) (fun hb hF => ?_)
     ·refine Nblk ?_
      obtain ⟨x2, h2, hF⟩ := ob_elim hF
      refine VR [.callE [] [100000] [] [] (.tup []) ⟨[], [], [(100000, ⟨96, 5, 0, 0, rc, rn, 0, [], (x2.map e_Cell)⟩)], [], []⟩] [0, 1, 2, 6, 8] [] [100000] [] [] [] [(100000, ⟨96, 5, 0, 0, rc, rn, 0, [], (x2.map e_Cell)⟩)] [] (hc (Pe.ren (slices_symMergeCmpFunc_api_Cell_v1_ok v5.2.1 (w64 (v5.2.1 + v2.2)) v5.2.2 v5.1 0 rc rn x2 h2) ⟨[], [], [], []⟩) .nil) ?_
      refine NR [] [0, 1, 2, 6, 7, 8] [] [100000] [(7, .i v5.2.2)] .nil ?_
      refine NR [] [0, 1, 2, 6, 7, 8] [] [100000] [(8, .i (w64 (v5.2.2 + (w64 (2 * v2.2)))))] .nil ?_
      exact Nrnd [] hF ih2 (by kernel_rfl)
     ·refine Nexit rfl ?_
      have hF := inrO_done hF dn2
      exact metP (v5.1, v5.2.1) [] hF (by kernel_rfl)
    ·intro v3 hF
     have hF : slices_stableCmpFunc_api_Cell_v1_J3 num v2 v3 = some y1 := hF
     unfold slices_stableCmpFunc_api_Cell_v1_J3 at hF
     refine NR [] [0, 1, 2, 6, 7, 9] [] [100000] [(9, .i (w64 (v3.2 + v2.2)))] .nil ?_
     refine NR [] [0, 1, 2, 6, 7, 9, 54] [] [100000] [(54, .bool (decide ((w64 (v3.2 + v2.2)) < num)))] .nil ?_
     obtain ⟨v4, hv, hF⟩ := ob_elim hF
     refine Nmeet (⟨[(0, .row 100000 0), (1, .i num), (2, .fn 109 []), (6, .i v2.2)], [], [(100000, ⟨96, 5, 0, 0, rc, rn, 0, [], (v4.map e_Cell)⟩)], [], []⟩ : S) ?_ ?_
     ·have hF := hv
      refine Nif hF (fun hb hF => ?_) (fun hb hF => ?_)
      ·obtain ⟨x1, h1, hF⟩ := ob_elim hF
       refine VR [.callE [] [100000] [] [] (.tup []) ⟨[], [], [(100000, ⟨96, 5, 0, 0, rc, rn, 0, [], (x1.map e_Cell)⟩)], [], []⟩] [0, 1, 2, 6] [] [100000] [] [] [] [(100000, ⟨96, 5, 0, 0, rc, rn, 0, [], (x1.map e_Cell)⟩)] [] (hc (Pe.ren (slices_symMergeCmpFunc_api_Cell_v1_ok v3.2 (w64 (v3.2 + v2.2)) num v3.1 0 rc rn x1 h1) ⟨[], [], [], []⟩) .nil) ?_
       cases hF
       exact met [] (by kernel_rfl)
      ·cases hF
       exact met [] (by kernel_rfl)
     ·refine NR [] [0, 1, 2, 6] [] [100000] [(6, .i (w64 (v2.2 * 2)))] .nil ?_
      exact Nrnd [] hF ih1 (by kernel_rfl)
   ·refine Nexit rfl ?_
    have hF := inrO_done hF dn1
    exact metP v2.1 [] hF (by kernel_rfl)
  ·intro v1 hF
   have hF : slices_stableCmpFunc_api_Cell_v1_J2 v1 = some r := hF
   unfold slices_stableCmpFunc_api_Cell_v1_J2 at hF
   cases hF
   exact Wk_end (hfin _ ⟨[100000], [], [100000], [], [], [], by kernel_rfl⟩)

/- slices.SortStableFunc[[]api.Cell,api.Cell] -/
noncomputable def slices_SortStableFunc_api_Cell_api_Cell_v1 (row : List Cell) : Option (List Cell) :=
 ob (slices_stableCmpFunc_api_Cell_v1 (row.length : Int) row) fun x =>
 some x
theorem slices_SortStableFunc_api_Cell_api_Cell_v1_ok (row : List Cell) (rk : Nat) (rc : Nat) (rn : Bool) (r : List Cell) (hF : slices_SortStableFunc_api_Cell_api_Cell_v1 row = some r) : Pe Try.prog 126 ⟨[], [], [(100000, ⟨96, 5, 0, 0, rc, rn, 0, [], (row.map e_Cell)⟩)], [], []⟩ [.row 100000 0, .fn 109 []] (.tup []) ⟨[], [], [(100000, ⟨96, 5, 0, 0, rc, rn, 0, [], (r.map e_Cell)⟩)], [], []⟩ := by
 refine PeN 9 [] [] Ty.ok Fn.b126 Try.func126 ?_
 intro Q g hfin
 unfold slices_SortStableFunc_api_Cell_api_Cell_v1 at hF
 obtain ⟨x, h0, hF⟩ := ob_elim hF
 refine VR [.nat (row.length : Int), .callE [] [100000] [] [] (.tup []) ⟨[], [], [(100000, ⟨96, 5, 0, 0, rc, rn, 0, [], (x.map e_Cell)⟩)], [], []⟩] [] [] [100000] [] [] [] [(100000, ⟨96, 5, 0, 0, rc, rn, 0, [], (x.map e_Cell)⟩)] [] (hc (len_ok e_Cell row) (hc (Pe.ren (slices_stableCmpFunc_api_Cell_v1_ok (row.length : Int) row 0 rc rn x h0) ⟨[], [], [], []⟩) .nil)) ?_
 cases hF
 exact Wk_end (hfin _ ⟨[100000], [], [100000], [], [], [], by kernel_rfl⟩)

/- cell.Merge$1 -/
noncomputable def cell_Merge_1 (a0 : Cell) (b : Cell) : Option Bool :=
 ob (cell_Order a0 b) fun x =>
 some (decide (x = 0))
theorem cell_Merge_1_ok (a0 : Cell) (b : Cell) (r : Bool) (hF : cell_Merge_1 a0 b = some r) : Pe Try.prog 128 S.none [.agg (c_Cell a0), .agg (c_Cell b)] (.bool r) S.none := by
 refine PeN 9 [.tmp 4] [4] Ty.ok Fn.b128 Try.func128 ?_
 intro Q g hfin
 unfold cell_Merge_1 at hF
 refine VR [] [2, 3] [2, 3] [] [] [(2, .ptr 2 0), (3, .ptr 3 0)] [(2, (c_Cell a0)), (3, (c_Cell b))] [] [] .nil ?_
 obtain ⟨x, h0, hF⟩ := ob_elim hF
 refine NR [.callB (.i x)] [4] [] [] [(4, .bool (decide (x = 0)))] (hc (cell_Order_ok a0 b x h0) .nil) ?_
 cases hF
 exact Wk_ret (hfin _ ⟨[], [], [], [], [], [], by kernel_rfl⟩)

/- slices.CompactFunc[[]api.Cell,api.Cell] -/
noncomputable def slices_CompactFunc_api_Cell_api_Cell_v1_J1 (row : List Cell) (v : Unit) : Option (List Cell) :=
 some row
noncomputable def slices_CompactFunc_api_Cell_api_Cell_v1_J2 (v2 : List Cell × Int) : Option (Int ⊕ (List Cell)) :=
 asrt (0 ≤ v2.2 ∧ v2.2 ≤ (v2.1.length : Int)) <|
 lt ((lclear v2.1 v2.2.toNat (v2.1.length - v2.2.toNat) ((⟨([] : List UInt8), ([] : List UInt8), 0, false, ([] : List UInt8)⟩ : Cell) : Cell))) fun (v3 : List Cell) =>
 asrt (0 ≤ v2.2 ∧ v2.2 ≤ (v3.length : Int)) <|
 asrt (v2.2.toNat ≤ v3.length) <|
 some (Sum.inr (v3.take v2.2.toNat))
noncomputable def slices_CompactFunc_api_Cell_api_Cell_v1_B2 (row : List Cell) (v1 : Int) (v4 : List Cell × Int × Int) : Option ((List Cell × Int × Int) ⊕ (Int ⊕ (List Cell))) :=
 if (decide (v4.2.2 < (((row.length - v1.toNat) : Nat) : Int))) = true then
  asrt (0 ≤ v4.2.2 ∧ v4.2.2.toNat < (row.length - v1.toNat)) <|
  asrt (0 ≤ (((v1.toNat + v4.2.2.toNat) : Nat) : Int) ∧ (((v1.toNat + v4.2.2.toNat) : Nat) : Int) < (v4.1.length : Int)) <|
  asrt (0 ≤ w64 (v4.2.2 - 1) ∧ (w64 (v4.2.2 - 1)).toNat < (row.length - v1.toNat)) <|
  asrt (0 ≤ (((v1.toNat + (w64 (v4.2.2 - 1)).toNat) : Nat) : Int) ∧ (((v1.toNat + (w64 (v4.2.2 - 1)).toNat) : Nat) : Int) < (v4.1.length : Int)) <|
  ob (cell_Merge_1 (⟨(lget v4.1 (((v1.toNat + v4.2.2.toNat) : Nat) : Int)).Row, (lget v4.1 (((v1.toNat + v4.2.2.toNat) : Nat) : Int)).Col, (lget v4.1 (((v1.toNat + v4.2.2.toNat) : Nat) : Int)).Time, (lget v4.1 (((v1.toNat + v4.2.2.toNat) : Nat) : Int)).Gone, (lget v4.1 (((v1.toNat + v4.2.2.toNat) : Nat) : Int)).Value⟩ : Cell) (⟨(lget v4.1 (((v1.toNat + (w64 (v4.2.2 - 1)).toNat) : Nat) : Int)).Row, (lget v4.1 (((v1.toNat + (w64 (v4.2.2 - 1)).toNat) : Nat) : Int)).Col, (lget v4.1 (((v1.toNat + (w64 (v4.2.2 - 1)).toNat) : Nat) : Int)).Time, (lget v4.1 (((v1.toNat + (w64 (v4.2.2 - 1)).toNat) : Nat) : Int)).Gone, (lget v4.1 (((v1.toNat + (w64 (v4.2.2 - 1)).toNat) : Nat) : Int)).Value⟩ : Cell)) fun x1 =>
  ob (
   if (!x1) = true then
    asrt (0 ≤ v4.2.2 ∧ v4.2.2.toNat < (row.length - v1.toNat)) <|
    asrt (0 ≤ (((v1.toNat + v4.2.2.toNat) : Nat) : Int) ∧ (((v1.toNat + v4.2.2.toNat) : Nat) : Int) < (v4.1.length : Int)) <|
    asrt (0 ≤ v4.2.1 ∧ v4.2.1 < (v4.1.length : Int)) <|
    asrt (0 ≤ v4.2.1 ∧ v4.2.1 < (v4.1.length : Int)) <|
    lt ((lset v4.1 v4.2.1 (⟨(lget v4.1 (((v1.toNat + v4.2.2.toNat) : Nat) : Int)).Row, (lget v4.1 (((v1.toNat + v4.2.2.toNat) : Nat) : Int)).Col, (lget v4.1 (((v1.toNat + v4.2.2.toNat) : Nat) : Int)).Time, (lget v4.1 (((v1.toNat + v4.2.2.toNat) : Nat) : Int)).Gone, (lget v4.1 (((v1.toNat + v4.2.2.toNat) : Nat) : Int)).Value⟩ : Cell))) fun (v6 : List Cell) =>
    some (v6, w64 (v4.2.1 + 1))
   else
    some (v4.1, v4.2.1)) fun (v5 : List Cell × Int) =>
  some (Sum.inl (v5.1, v5.2, w64 (v4.2.2 + 1)))
 else
  inrO (slices_CompactFunc_api_Cell_api_Cell_v1_J2 (v4.1, v4.2.1))
noncomputable def slices_CompactFunc_api_Cell_api_Cell_v1_L2 (row : List Cell) (v1 : Int) (v0 : List Cell × Int × Int) : Option (Int ⊕ (List Cell)) :=
 loopO (fun y => slices_CompactFunc_api_Cell_api_Cell_v1_B2 row v1 y) v0
noncomputable def slices_CompactFunc_api_Cell_api_Cell_v1_B1 (row : List Cell) (v1 : Int) : Option (Int ⊕ (List Cell)) :=
 if (decide (v1 < (row.length : Int))) = true then
  asrt (0 ≤ v1 ∧ v1 < (row.length : Int)) <|
  asrt (0 ≤ v1 ∧ v1 < (row.length : Int)) <|
  asrt (0 ≤ w64 (v1 - 1) ∧ w64 (v1 - 1) < (row.length : Int)) <|
  asrt (0 ≤ w64 (v1 - 1) ∧ w64 (v1 - 1) < (row.length : Int)) <|
  ob (cell_Merge_1 (⟨(lget row v1).Row, (lget row v1).Col, (lget row v1).Time, (lget row v1).Gone, (lget row v1).Value⟩ : Cell) (⟨(lget row (w64 (v1 - 1))).Row, (lget row (w64 (v1 - 1))).Col, (lget row (w64 (v1 - 1))).Time, (lget row (w64 (v1 - 1))).Gone, (lget row (w64 (v1 - 1))).Value⟩ : Cell)) fun x =>
  if x = true then
   asrt (0 ≤ v1 ∧ v1 ≤ (row.length : Int)) <|
   slices_CompactFunc_api_Cell_api_Cell_v1_L2 row v1 (row, v1, 1)
  else
   some (Sum.inl (w64 (v1 + 1)))
 else
  inrO (slices_CompactFunc_api_Cell_api_Cell_v1_J1 row ())
noncomputable def slices_CompactFunc_api_Cell_api_Cell_v1_L1 (row : List Cell) (v0 : Int) : Option (List Cell) :=
 loopO (fun y => slices_CompactFunc_api_Cell_api_Cell_v1_B1 row y) v0
noncomputable def slices_CompactFunc_api_Cell_api_Cell_v1 (row : List Cell) : Option (List Cell) :=
 if (decide ((row.length : Int) < 2)) = true then
  some row
 else
  slices_CompactFunc_api_Cell_api_Cell_v1_L1 row 1
theorem slices_CompactFunc_api_Cell_api_Cell_v1_ok (row : List Cell) (rk : Nat) (rc : Nat) (rn : Bool) (r : List Cell) (hF : slices_CompactFunc_api_Cell_api_Cell_v1 row = some r) : Pe Try.prog 127 ⟨[], [], [(100000, ⟨96, 5, 0, 0, rc, rn, 0, [], (row.map e_Cell)⟩)], [], []⟩ [.row 100000 0, .fn 128 []] (.row 100000 1) ⟨[], [], [(100000, .o 96 5 1 (r.map e_Cell))], [], []⟩ := by
 refine PeN 66 [.tmp 4] [22] Ty.ok Fn.b127 Try.func127 ?_
 intro Q g hfin
 unfold slices_CompactFunc_api_Cell_api_Cell_v1 at hF
 refine NR [] [0, 1] [] [100000] [] .nil ?_
 refine NR [.nat (row.length : Int)] [0, 1, 10] [] [100000] [(10, .bool (decide ((row.length : Int) < 2)))] (hc (len_ok e_Cell row) .nil) ?_
 refine Nif hF (fun hb hF => ?_) (fun hb hF => ?_)
 ·refine NR [] [4] [] [100000] [(4, .row 100000 0)] .nil ?_
  cases hF
  exact Wk_ret (hfin _ ⟨[100000], [], [100000], [], [], [(100000, ⟨1, false, false, false⟩)], by kernel_rfl⟩)
 ·refine NR [] [0, 1, 5] [] [100000] [(5, .i 1)] .nil ?_
  refine NmeetP (fun v : Unit => (⟨[(0, .row 100000 0)], [], [(100000, ⟨96, 5, 0, 0, rc, rn, 0, [], (row.map e_Cell)⟩)], [], []⟩ : S)) (fun v => slices_CompactFunc_api_Cell_api_Cell_v1_J1 row v = some r) ?_ ?_
  ·refine Nblk ?_
   unfold slices_CompactFunc_api_Cell_api_Cell_v1_L1 at hF
   refine Niter (fun v1 : Int => (⟨[(0, .row 100000 0), (1, .fn 128 []), (5, .i v1)], [], [(100000, ⟨96, 5, 0, 0, rc, rn, 0, [], (row.map e_Cell)⟩)], [], []⟩ : S)) [] hF (by kernel_rfl) ?_
   intro n1 v1 y1 hF ih1 dn1
   unfold slices_CompactFunc_api_Cell_api_Cell_v1_B1 at hF
   refine NR [.nat (row.length : Int)] [0, 1, 5, 15] [] [100000] [(15, .bool (decide (v1 < (row.length : Int))))] (hc (len_ok e_Cell row) .nil) ?_
   refine Nif hF (fun hb hF => ?_) (fun hb hF => ?_)
   ·refine Nblk ?_
    obtain ⟨h0, h1, h2, h3, hF⟩ := asrt4 hF
    obtain ⟨x, h4, hF⟩ := ob_elim hF
    refine ND [.av (e_Cell (lget row v1)), .av (e_Cell (lget row (w64 (v1 - 1)))), .callB (.bool x)] [0, 1, 5, 28] [] [100000] [(28, .bool x)] (hc (ixr_ok e_Cell h0) (hc (ldr_ok e_Cell h1) (hc (ixr_ok e_Cell h2) (hc (ldr_ok e_Cell h3) (hc (cell_Merge_1_ok (⟨(lget row v1).Row, (lget row v1).Col, (lget row v1).Time, (lget row v1).Gone, (lget row v1).Value⟩ : Cell) (⟨(lget row (w64 (v1 - 1))).Row, (lget row (w64 (v1 - 1))).Col, (lget row (w64 (v1 - 1))).Time, (lget row (w64 (v1 - 1))).Gone, (lget row (w64 (v1 - 1))).Value⟩ : Cell) x h4) .nil))))) ?_
    refine Nif hF (fun hb hF => ?_) (fun hb hF => ?_)
    ·obtain ⟨h5, hF⟩ := asrt_elim hF
     refine NR [.vw (row.length - v1.toNat)] [0, 1, 5, 6] [] [100000] [(6, .rowv 100000 0 v1.toNat (row.length - v1.toNat))] (hc (vw10_ok e_Cell h5) .nil) ?_
     refine NR [] [0, 1, 5, 6, 7] [] [100000] [(7, .i 1)] .nil ?_
     refine NmeetP (fun v2 : List Cell × Int => (⟨[(0, .row 100000 0), (5, .i v2.2)], [], [(100000, ⟨96, 5, 0, 0, rc, rn, 0, [], (v2.1.map e_Cell)⟩)], [], []⟩ : S)) (fun v2 => slices_CompactFunc_api_Cell_api_Cell_v1_J2 v2 = some y1) ?_ ?_
     ·refine Nblk ?_
      unfold slices_CompactFunc_api_Cell_api_Cell_v1_L2 at hF
      refine Niter (fun v4 : List Cell × Int × Int => (⟨[(0, .row 100000 0), (1, .fn 128 []), (5, .i v4.2.1), (6, .rowv 100000 0 v1.toNat (row.length - v1.toNat)), (7, .i v4.2.2)], [], [(100000, ⟨96, 5, 0, 0, rc, rn, 0, [], (v4.1.map e_Cell)⟩)], [], []⟩ : S)) [] hF (by kernel_rfl) ?_
      intro n2 v4 y2 hF ih2 dn2
      unfold slices_CompactFunc_api_Cell_api_Cell_v1_B2 at hF
      refine NR [] [0, 1, 5, 6, 7, 35] [] [100000] [(35, .bool (decide (v4.2.2 < (((row.length - v1.toNat) : Nat) : Int))))] .nil ?_
      refine Nif hF (fun hb hF => ?_) (fun hb hF => ?_)
      ·refine Nblk ?_
       obtain ⟨h9, h10, h11, h12, hF⟩ := asrt4 hF
       obtain ⟨x1, h13, hF⟩ := ob_elim hF
       refine ND [.av (e_Cell (lget v4.1 (((v1.toNat + v4.2.2.toNat) : Nat) : Int))), .av (e_Cell (lget v4.1 (((v1.toNat + (w64 (v4.2.2 - 1)).toNat) : Nat) : Int))), .callB (.bool x1)] [0, 1, 5, 6, 7, 49] [] [100000] [(49, .bool (!x1))] (hc h9 (hc (ldr_ok e_Cell h10) (hc h11 (hc (ldr_ok e_Cell h12) (hc (cell_Merge_1_ok (⟨(lget v4.1 (((v1.toNat + v4.2.2.toNat) : Nat) : Int)).Row, (lget v4.1 (((v1.toNat + v4.2.2.toNat) : Nat) : Int)).Col, (lget v4.1 (((v1.toNat + v4.2.2.toNat) : Nat) : Int)).Time, (lget v4.1 (((v1.toNat + v4.2.2.toNat) : Nat) : Int)).Gone, (lget v4.1 (((v1.toNat + v4.2.2.toNat) : Nat) : Int)).Value⟩ : Cell) (⟨(lget v4.1 (((v1.toNat + (w64 (v4.2.2 - 1)).toNat) : Nat) : Int)).Row, (lget v4.1 (((v1.toNat + (w64 (v4.2.2 - 1)).toNat) : Nat) : Int)).Col, (lget v4.1 (((v1.toNat + (w64 (v4.2.2 - 1)).toNat) : Nat) : Int)).Time, (lget v4.1 (((v1.toNat + (w64 (v4.2.2 - 1)).toNat) : Nat) : Int)).Gone, (lget v4.1 (((v1.toNat + (w64 (v4.2.2 - 1)).toNat) : Nat) : Int)).Value⟩ : Cell) x1 h13) .nil))))) ?_
       obtain ⟨v5, hv, hF⟩ := ob_elim hF
       refine Nmeet (⟨[(0, .row 100000 0), (1, .fn 128 []), (5, .i v5.2), (6, .rowv 100000 0 v1.toNat (row.length - v1.toNat)), (7, .i v4.2.2)], [], [(100000, ⟨96, 5, 0, 0, rc, rn, 0, [], (v5.1.map e_Cell)⟩)], [], []⟩ : S) ?_ ?_
       ·have hF := hv
        refine Nif hF (fun hb hF => ?_) (fun hb hF => ?_)
        ·obtain ⟨h14, hF⟩ := asrt_elim hF
         obtain ⟨h15, h16, hF⟩ := asrt2 hF
         obtain ⟨h17, hF⟩ := asrt_elim hF
         refine NRL ((lset v4.1 v4.2.1 (⟨(lget v4.1 (((v1.toNat + v4.2.2.toNat) : Nat) : Int)).Row, (lget v4.1 (((v1.toNat + v4.2.2.toNat) : Nat) : Int)).Col, (lget v4.1 (((v1.toNat + v4.2.2.toNat) : Nat) : Int)).Time, (lget v4.1 (((v1.toNat + v4.2.2.toNat) : Nat) : Int)).Gone, (lget v4.1 (((v1.toNat + v4.2.2.toNat) : Nat) : Int)).Value⟩ : Cell))) (fun v6 : List Cell => ([], [], [(100000, ⟨96, 5, 0, 0, rc, rn, 0, [], (v6.map e_Cell)⟩)], [])) [.av (e_Cell (lget v4.1 (((v1.toNat + v4.2.2.toNat) : Nat) : Int))), .av (e_Cell (lget v4.1 v4.2.1)), .xs ((lset v4.1 v4.2.1 (⟨(lget v4.1 (((v1.toNat + v4.2.2.toNat) : Nat) : Int)).Row, (lget v4.1 (((v1.toNat + v4.2.2.toNat) : Nat) : Int)).Col, (lget v4.1 (((v1.toNat + v4.2.2.toNat) : Nat) : Int)).Time, (lget v4.1 (((v1.toNat + v4.2.2.toNat) : Nat) : Int)).Gone, (lget v4.1 (((v1.toNat + v4.2.2.toNat) : Nat) : Int)).Value⟩ : Cell)).map e_Cell)] [0, 1, 5, 6, 7] [] [100000] [] (hc h14 (hc (ldr_ok e_Cell h15) (hc (ixr_ok e_Cell h16) (hc (ldr_ok e_Cell h17) (hc (set_ok e_Cell v4.1 v4.2.1 (⟨(lget v4.1 (((v1.toNat + v4.2.2.toNat) : Nat) : Int)).Row, (lget v4.1 (((v1.toNat + v4.2.2.toNat) : Nat) : Int)).Col, (lget v4.1 (((v1.toNat + v4.2.2.toNat) : Nat) : Int)).Time, (lget v4.1 (((v1.toNat + v4.2.2.toNat) : Nat) : Int)).Gone, (lget v4.1 (((v1.toNat + v4.2.2.toNat) : Nat) : Int)).Value⟩ : Cell)) (hc (Nat.zero_le v4.2.1.toNat) .nil)))))) (fun v6 hv => ?_)
         have hF := lt_elim hF hv
         refine NR [] [0, 1, 5, 6, 7] [] [100000] [(5, .i (w64 (v4.2.1 + 1)))] .nil ?_
         cases hF
         exact met [] (by kernel_rfl)
        ·cases hF
         exact met [] (by kernel_rfl)
       ·refine NR [] [0, 1, 5, 6, 7] [] [100000] [(7, .i (w64 (v4.2.2 + 1)))] .nil ?_
        exact Nrnd [] hF ih2 (by kernel_rfl)
      ·refine Nexit rfl ?_
       have hF := inrO_done hF dn2
       exact metP (v4.1, v4.2.1) [] hF (by kernel_rfl)
     ·intro v2 hF
      have hF : slices_CompactFunc_api_Cell_api_Cell_v1_J2 v2 = some y1 := hF
      unfold slices_CompactFunc_api_Cell_api_Cell_v1_J2 at hF
      obtain ⟨h6, hF⟩ := asrt_elim hF
      refine NRL ((lclear v2.1 v2.2.toNat (v2.1.length - v2.2.toNat) ((⟨([] : List UInt8), ([] : List UInt8), 0, false, ([] : List UInt8)⟩ : Cell) : Cell))) (fun v3 : List Cell => ([], [], [(100000, ⟨96, 5, 0, 0, rc, rn, 0, [], (v3.map e_Cell)⟩)], [])) [.vw (v2.1.length - v2.2.toNat), .xs ((lclear v2.1 v2.2.toNat (v2.1.length - v2.2.toNat) ((⟨([] : List UInt8), ([] : List UInt8), 0, false, ([] : List UInt8)⟩ : Cell) : Cell)).map e_Cell)] [0, 5] [] [100000] [] (hc (vw10_ok e_Cell h6) (hc (clr_ok e_Cell v2.1 v2.2.toNat (v2.1.length - v2.2.toNat) ((⟨([] : List UInt8), ([] : List UInt8), 0, false, ([] : List UInt8)⟩ : Cell) : Cell)) (hc (Nat.zero_le v2.2.toNat) .nil))) (fun v3 hv => ?_)
      have hF := lt_elim hF hv
      obtain ⟨h7, hF⟩ := asrt_elim hF
      refine NR [.vw v2.2.toNat] [4] [] [100000] [(4, .rowv 100000 0 0 v2.2.toNat)] (hc (vw01_ok (cm := rc) e_Cell h7) .nil) ?_
      obtain ⟨h8, hF⟩ := asrt_elim hF
      refine Wk_truncL 4 100000 0 v2.2.toNat ((v3.take v2.2.toNat).map e_Cell) rfl rfl rfl rfl (tk_ok e_Cell h8).1 (Nat.zero_le _) (List.map_take).symm ?_
      have hF := ret_done hF dn1
      cases hF
      exact Wk_ret (hfin _ ⟨[100000], [], [100000], [], [], [(100000, ⟨1, false, true, false⟩)], by kernel_rfl⟩)
    ·refine NR [] [0, 1, 5] [] [100000] [(5, .i (w64 (v1 + 1)))] .nil ?_
     exact Nrnd [] hF ih1 (by kernel_rfl)
   ·refine Nexit rfl ?_
    have hF := inrO_done hF dn1
    exact metP () [] hF (by kernel_rfl)
  ·intro v hF
   have hF : slices_CompactFunc_api_Cell_api_Cell_v1_J1 row v = some r := hF
   unfold slices_CompactFunc_api_Cell_api_Cell_v1_J1 at hF
   refine NR [] [4] [] [100000] [(4, .row 100000 0)] .nil ?_
   cases hF
   exact Wk_ret (hfin _ ⟨[100000], [], [100000], [], [], [(100000, ⟨1, false, false, false⟩)], by kernel_rfl⟩)

/- cell.Merge -/
noncomputable def cell_Merge (lists : List (List Cell)) : Option (List Cell) :=
 ob (slices_Concat_api_Cell_api_Cell lists) fun x =>
 ob (slices_SortStableFunc_api_Cell_api_Cell_v1 x) fun x1 =>
 ob (slices_CompactFunc_api_Cell_api_Cell_v1 x1) fun x2 =>
 some x2
theorem cell_Merge_ok (lists : List (List Cell)) (r : List Cell) (hF : cell_Merge lists = some r) : Pe Try.prog 116 S.none [.sl 1 (lists.map e_L_Cell)] (.row 5 1) ⟨[], [], [(5, .o 96 5 1 (r.map e_Cell))], [], []⟩ := by
 refine PeN 10 [.tmp 2] [22] Ty.ok Fn.b116 Try.func116 ?_
 intro Q g hfin
 unfold cell_Merge at hF
 refine NR [] [0] [] [] [] .nil ?_
 obtain ⟨x, h0, hF⟩ := ob_elim hF
 refine VR [.callE [] [] [] [] (.row 5 0) ⟨[], [], [(5, .o 96 5 0 (x.map e_Cell))], [], []⟩] [3] [] [5] [] [(3, .row 5 0)] [] [(5, .o 96 5 0 (x.map e_Cell))] [] (hc (Pe.ren (slices_Concat_api_Cell_api_Cell_ok lists x h0) ⟨[], [(24, 5)], [], []⟩) .nil) ?_
 obtain ⟨x1, h1, hF⟩ := ob_elim hF
 refine VR [.callE [] [5] [] [] (.tup []) ⟨[], [], [(5, .o 96 5 0 (x1.map e_Cell))], [], []⟩] [3] [] [5] [] [] [] [(5, .o 96 5 0 (x1.map e_Cell))] [] (hc (Pe.ren (slices_SortStableFunc_api_Cell_api_Cell_v1_ok x 0 0 false x1 h1) ⟨[], [(100000, 5)], [], []⟩) .nil) ?_
 obtain ⟨x2, h2, hF⟩ := ob_elim hF
 refine VR [.callE [] [5] [] [] (.row 5 1) ⟨[], [], [(5, .o 96 5 1 (x2.map e_Cell))], [], []⟩] [2] [] [5] [] [(2, .row 5 1)] [] [(5, .o 96 5 1 (x2.map e_Cell))] [] (hc (Pe.ren (slices_CompactFunc_api_Cell_api_Cell_v1_ok x1 0 0 false x2 h2) ⟨[], [(100000, 5)], [], []⟩) .nil) ?_
 cases hF
 exact Wk_ret (hfin _ ⟨[5], [], [5], [], [], [], by kernel_rfl⟩)

/- wal.Put -/
section
open Go.RowKit Go.Shelf Go.Proofs
attribute [local go_sem] Oper.semAt_some
set_option maxRecDepth 100000 in
set_option maxHeartbeats 4000000 in
theorem wal_Put_back1_in (F : Fence) (n : Nat) (h8 : F.fn 124) (hro : F.round = none) (hn : 1 ≤ n) (l Bs n₀ b off len cap : Nat) (zs : Nat → Int × Option Addr × Nat × Nat) (hlen : len ≤ 140737488351232) (hb : b < n₀) (J Jx : List (Nat × Int × Option Addr × Nat × Nat) → World → Prop)
    (hY : ∀ pre x W, J pre W → pre.length < len → YieldAt F (n - 1) Try.prog l #[.int .i64 (x.1 : Int), .agg #[.int .i64 x.2.1, .slice x.2.2.1 x.2.2.2.1 x.2.2.2.2]] W fun e W' =>
      (e = .returned (.bool true) ∧ J (pre ++ [x]) W' ∧ KpB n₀ Bs W W') ∨ (e = .returned (.bool false) ∧ Jx (pre ++ [x]) W'))
    (W : World) (hBs : W.cell? ⟨Bs, 0, none⟩ = some (.slice (some ⟨b, off, none⟩) len cap))
    (hc0 : ∀ j, j < len → W.cell? ⟨b, off + j * 2, none⟩ = some (.int .i64 (zs j).1)) (hc1 : ∀ j, j < len → W.cell? ⟨b, off + j * 2 + 1, none⟩ = some (.slice (zs j).2.1 (zs j).2.2.1 (zs j).2.2.2)) (h0 : J [] W) :
    CallsIn F n Try.prog 124 #[.func (.yield l) #[] #[], .pointer (some ⟨Bs, 0, none⟩)] W fun e W' => (∃ v, e = .returned v) ∧
      ((∃ ys, ys = backTo zs len len ∧ J ys W') ∨ (∃ pre, (∃ k, k ≤ len ∧ pre = backTo zs len k) ∧ Jx pre W')) := by
  refine callsIn_of_wp Try.func124 rfl h8 ?_ hro
  simp only [Try.ntmps124, List.size_toArray, List.length_cons, List.length_nil, Nat.reduceAdd, Nat.reduceSub, Array.replicate_succ, Array.replicate_zero, List.push_toArray, List.append_toArray, List.nil_append, List.cons_append]
  have hw0 : IntKind.i64.wrap ((len : Int) - 1) = (len : Int) - 1 := by rw [IntKind.wrap_i64]; omega
  gi_wp2
  gi_loopw [3] (fun i wr => ∃ m : Nat, m ≤ len ∧ i = .int .i64 ((m : Int) - 1) ∧ J (backTo zs len (len - m)) wr ∧ KpB n₀ Bs W wr)
    (fun i _ => (intOf i + 1).toNat)
  case atStart => exact ⟨len, Nat.le_refl _, rfl, by rw [Nat.sub_self]; exact h0, KpB.refl _ _ _⟩
  case round =>
    obtain ⟨m, hm, rfl, hJs, hnx⟩ := hrel
    cases m with
    | zero =>
      gi_wp2
      go_end0
      exact ⟨⟨_, rfl⟩, .inl ⟨_, rfl, hJs⟩⟩
    | succ j =>
      have hj1 : ((j + 1 : Nat) : Int) - 1 = (j : Int) := by omega
      have hj0 : (0 : Int) ≤ (j : Int) := by omega
      have hjl : j < len := by omega
      have hjz : ¬ ((j : Int) < 0) := by omega
      have hw1 : IntKind.i64.wrap ((j : Int) - 1) = (j : Int) - 1 := by rw [IntKind.wrap_i64]; omega
      have hk : len - 1 - (len - (j + 1)) = j := by omega
      have hcx0 : wr.cell? ⟨b, off + j * 2, none⟩ = some (.int .i64 (zs j).1) := (hnx.1.cell (p := ⟨b, off + j * 2, none⟩) hb).trans (hc0 j hjl)
      have hcx1 : wr.cell? ⟨b, off + j * 2 + 1, none⟩ = some (.slice (zs j).2.1 (zs j).2.2.1 (zs j).2.2.2) := (hnx.1.cell (p := ⟨b, off + j * 2 + 1, none⟩) hb).trans (hc1 j hjl)
      have hBx : wr.cell? ⟨Bs, 0, none⟩ = some (.slice (some ⟨b, off, none⟩) len cap) := hnx.cell hBs
      obtain ⟨fn, tmps, assign, body, hy, hR⟩ := hY _ (j, zs j) wr hJs (by rw [backTo_length]; omega)
      dsimp only at hy
      rw [hj1]
      gi_wp2
      refine hR.mono ?_
      rintro e W3 (⟨rfl, hJ3, hk3⟩ | ⟨rfl, hJx3⟩)
      · gi_wp2
        go_roundw
        case rel =>
          refine ⟨j, by omega, rfl, ?_, hnx.trans hk3⟩
          have : len - j = (len - (j + 1)) + 1 := by omega
          rw [this, backTo_succ, hk]; exact hJ3
        case measure => simp [intOf]
      · gi_wp2
        refine bodyPost_ret (results_none rfl _ _ _) rfl ?_
        refine ⟨⟨_, rfl⟩, .inr ⟨_, ⟨len - (j + 1) + 1, by omega, rfl⟩, ?_⟩⟩
        rw [backTo_succ, hk]; exact hJx3
set_option maxRecDepth 100000 in
set_option maxHeartbeats 1000000 in
/-- .. at the empty slice: no round -/
theorem wal_Put_back1_nil_in (F : Fence) (n : Nat) (h8 : F.fn 124) (hro : F.round = none) (l Bs : Nat) (a : Option Addr) (cap : Nat) (J : List (Nat × Int × Option Addr × Nat × Nat) → World → Prop) (W : World) (hBs : W.cell? ⟨Bs, 0, none⟩ = some (.slice a 0 cap)) (h0 : J [] W) :
    CallsIn F n Try.prog 124 #[.func (.yield l) #[] #[], .pointer (some ⟨Bs, 0, none⟩)] W fun e W' => (∃ v, e = .returned v) ∧ J [] W' := by
  refine callsIn_of_wp Try.func124 rfl h8 ?_ hro
  simp only [Try.ntmps124, List.size_toArray, List.length_cons, List.length_nil, Nat.reduceAdd, Nat.reduceSub, Array.replicate_succ, Array.replicate_zero, List.push_toArray, List.append_toArray, List.nil_append, List.cons_append]
  gi_wp2
  gi_loopw [3] (fun i wr => i = .int .i64 (-1) ∧ J [] wr) (fun _ _ => 0)
  case atStart => exact ⟨rfl, h0⟩
  case round =>
    obtain ⟨rfl, hJs⟩ := hrel
    gi_wp2
    go_end0
    exact ⟨⟨_, rfl⟩, hJs⟩
set_option maxHeartbeats 1000000 in
theorem wal_Put_back_in (F : Fence) (n : Nat) (h5 : F.fn 115) (hro : F.round = none) (a : Option Addr) (len cap : Nat) (w : World) :
    CallsIn F n Try.prog 115 #[.slice a len cap] w fun e w' => e = .returned (.func (.func 124) #[] #[.pointer (some ⟨w.heap.size, 0, none⟩)]) ∧ w' = w.alloc (.cells #[.slice a len cap] 56) := by
  refine callsIn_of_wp Try.func115 rfl h5 ?_ hro
  simp only [Try.ntmps115, List.size_toArray, List.length_cons, List.length_nil, Nat.reduceAdd, Nat.reduceSub, Array.replicate_succ, Array.replicate_zero, List.push_toArray, List.append_toArray, List.nil_append, List.cons_append]
  gi_wp2
  go_ret
  exact ⟨rfl, rfl⟩
theorem wal_Put_back_stops (F : Fence) (n : Nat) (h8 : F.fn 124) (hro : F.round = none) (hn : 1 ≤ n) (Bs n₀ : Nat) (sv : Value) (len : Nat) (zs : Nat → Int × Option Addr × Nat × Nat) (hlen : len ≤ 140737488351232) (w : World) (hBs : Bs < w.heap.size) (hn₀ : n₀ ≤ w.heap.size)
    (hc : w.cell? ⟨Bs, 0, none⟩ = some sv) (hI : Notes2 n₀ w sv len zs) :
    SeqStopsK F n Try.prog 124 #[.pointer (some ⟨Bs, 0, none⟩)] (fun x : Nat × Int × Option Addr × Nat × Nat => #[Value.int .i64 (x.1 : Int), .agg #[.int .i64 x.2.1, .slice x.2.2.1 x.2.2.2.1 x.2.2.2.2]]) (KpB n₀ Bs) (fun ys => ys = backTo zs len len)
      (fun pre => ∃ k, k ≤ len ∧ pre = backTo zs len k) len w := fun l J Jx W hW _ _ hY h0 => by
  have hc' := (hW.cell (p := ⟨Bs, 0, none⟩) hBs).trans hc
  rcases hI.below (hW.mono hn₀) with ⟨a, cap, rfl, rfl⟩ | ⟨b, off, cap, rfl, hb, hcs, hds⟩
  · exact (wal_Put_back1_nil_in F n h8 hro l Bs a cap J W hc' h0).mono fun e W' ⟨he, hj⟩ => ⟨he, .inl ⟨_, rfl, hj⟩⟩
  · exact wal_Put_back1_in F n h8 hro hn l Bs n₀ b off len cap zs hlen hb J Jx hY W hc' hcs hds h0
theorem wal_Put_infoTC : (Try.prog.info? 22).map (fun i => (i.zero, i.size, i.bytes)) = some (some (.slice none 0 0), 1, 24) := by kernel_rfl
set_option maxRecDepth 100000 in
set_option maxHeartbeats 4000000 in
theorem wal_Put_put_in (F : Fence) (n : Nat) (hp : F.fn 89) (hb : F.fn 115) (hcl : F.fn 124) (hme : F.fn 116) (hro : F.round = none) (hn : 3 ≤ n) (a0 : Option Addr) (n0 c0 : Nat) (a : Option Addr) (len cap : Nat) (zs : Nat → Int × Option Addr × Nat × Nat) (hlen : (len + 1) * 24 ≤ 140737488351232) (w : World)
    (hI : Notes2 w.heap.size w (.slice a len cap) len zs) (R : Ending → World → Prop)
    (hM : ∀ (W : World) (v : Value) (D : Nat), w.heap.size ≤ D → W.heap[D]? = some (.deferred (some [])) → Below w.heap.size w W → W.ownsRow w.heap.size 22 1 v (len + 1) ((backTo zs len len).map (fun x => Value.slice x.2.2.1 x.2.2.2.1 x.2.2.2.2) ++ [.slice a0 n0 c0]) →
      CallsIn F (n - 1) Try.prog 116 #[v] W fun e W' => ∃ r, e = .returned r ∧ W'.heap[D]? = some (.deferred (some [])) ∧ R (.returned r) (W'.putObj D (.deferred none))) :
    CallsIn F n Try.prog 89 #[.slice a0 n0 c0, .slice a len cap] w R := by
  have h1 : 1 ≤ n := by omega
  obtain ⟨i0, hi, hz0, hzs, hzb⟩ := info_parts wal_Put_infoTC
  have hw1 : IntKind.i64.wrap ((len : Int) + 1) = ((len + 1 : Nat) : Int) := by rw [IntKind.wrap_i64]; omega
  refine callsIn_of_wp_marks Try.func89 rfl hp ?_ hro
  simp only [Try.ntmps89, List.size_toArray, List.length_cons, List.length_nil, Nat.reduceAdd, Nat.reduceSub, Array.replicate_succ, Array.replicate_zero, List.push_toArray, List.append_toArray, List.nil_append, List.cons_append]
  gi_wp2_with (first
    | (gi_at_make; refine wpListIn_make_own _ rfl _ _ 79 rfl w.heap.size 22 i0 (.slice none 0 0) 1 Try.underlying79 hi hz0 hzs .i64 .i64 _ (len + 1) rfl rfl (by simp) (by rw [hzb]; omega) (by show len + 1 ≤ 9223372036854775807; omega) (Nat.le_refl _) ?_; intro w1 hown1 hgr1)
    | (gi_at_call 115; refine (wal_Put_back_in F (n - 1) hb hro _ _ _ _).mono ?_; rintro e w' ⟨rfl, rfl⟩))
  have hlt1 : w.heap.size < w1.heap.size := by
    rcases hown1.2 with ⟨h, _⟩ | ⟨g, cap', cur, e, _, hg, _⟩
    · cases h
    · simp only [Value.slice.injEq, Option.some.injEq, Addr.mk.injEq] at e
      obtain ⟨⟨rfl, _⟩, _⟩ := e
      exact (Array.getElem?_eq_some_iff.1 hg).1
  have bO := (Boxed.new w1 79 (.slice (some ⟨w.heap.size, 0, none⟩) 0 (len + 1))).alloc (.cells #[.slice a len cap] 56)
  have bN := Boxed.new (w1.alloc (.cells #[.slice (some ⟨w.heap.size, 0, none⟩) 0 (len + 1)] 79)) 56 (.slice a len cap)
  rw [World.size_alloc] at bN
  have hB1 : Below w.heap.size w w1 := (Below.refl _ w).grown hgr1 (Nat.le_refl _) (fun k e => by cases e)
  have hB0 : Below w.heap.size w ((w1.alloc (.cells #[.slice (some ⟨w.heap.size, 0, none⟩) 0 (len + 1)] 79)).alloc (.cells #[.slice a len cap] 56)) := (hB1.alloc (by omega) _).alloc (by simp; omega) _
  have hR0 := (hown1.alloc (.cells #[.slice (some ⟨w.heap.size, 0, none⟩) 0 (len + 1)] 79)).alloc (.cells #[.slice a len cap] 56)
  have hsz : ((w1.alloc (.cells #[.slice (some ⟨w.heap.size, 0, none⟩) 0 (len + 1)] 79)).alloc (.cells #[.slice a len cap] 56)).heap.size = w1.heap.size + 2 := by simp
  obtain ⟨W0, hW0⟩ : ∃ W0, ((w1.alloc (.cells #[.slice (some ⟨w.heap.size, 0, none⟩) 0 (len + 1)] 79)).alloc (.cells #[.slice a len cap] 56)) = W0 := ⟨_, rfl⟩
  rw [hW0] at bO bN hB0 hR0 hsz ⊢
  obtain ⟨B5, hB5⟩ : ∃ B5, w1.heap.size = B5 := ⟨_, rfl⟩
  rw [hB5] at bO bN hsz hlt1 ⊢
  clear hW0 hB5 hown1 hgr1 hB1
  refine wpIn_rangeFunc_ownH hro h1 (gf := 124) (lb := #[.pointer (some ⟨B5 + 1, 0, none⟩)]) rfl hcl (enters_of Try.func124 (by kernel_rfl) rfl)
    (wal_Put_back_stops F (n - 1) hcl hro (by omega) (B5 + 1) w.heap.size _ len zs (by omega) W0 (by omega) (by omega) bN.cell (hI.below hB0))
    (fun h k => h.trans k) (fun W l o o' hl h h2 h3 => ⟨belowK_b (w := W0) (by omega) W l o o' hl h h2 h3, by
      simp only [World.putObj]
      rw [Array.getElem?_setIfInBounds, if_neg (by omega)]⟩) (Below.refl _ _) (fun _ => rfl)
    (fun pre W => ((∃ v, Boxed W B5 79 v ∧ W.ownsRow w.heap.size 22 1 v pre.length (pre.map fun x => Value.slice x.2.2.1 x.2.2.2.1 x.2.2.2.2) ∧ True) ∧ Boxed W (B5 + 1) 56 (.slice a len cap)) ∧ Below w.heap.size w W)
    (fun _ _ _ => False)
    (OwnFrom.and (OwnFrom.and (Own.from (holdsRow_own w.heap.size B5 79 22 1 (fun pre : List (Nat × Int × Option Addr × Nat × Nat) => pre.length) (fun pre => pre.map fun x => Value.slice x.2.2.1 x.2.2.2.1 x.2.2.2.2) (fun pre v => True)) _) (Own.from (boxed_own _ _ _) _)) (ownFrom_below (Nat.le_refl _) (by omega)))
    (fun _ _ _ _ _ hs _ _ => hs)
    ⟨⟨⟨_, bO, hR0, trivial⟩, bN⟩, hB0⟩
    (fun x a' W => ∃ Bx, B5 + 1 < Bx ∧ W.heap[Bx]? = some (.cells #[.int .i64 x.2.1, .slice x.2.2.1 x.2.2.2.1 x.2.2.2.2] 24 (0, 0)) ∧ a' = { tmps := #[Value.slice a0 n0 c0, Value.slice a len cap, undef, undef, Value.slice none 0 0, Value.pointer (some { block := B5, off := 0 }), undef, .pointer (some ⟨Bx, 0, none⟩), Value.slice a len cap, Value.int IntKind.i64 ↑len, Value.int IntKind.i64 (↑len + 1), Value.slice (some { block := w.heap.size, off := 0 }) 0 (len + 1), Value.slice a len cap, Value.func (Fn.func 124) #[] #[Value.pointer (some { block := B5 + 1, off := 0 })], .int .i64 (x.1 : Int), .agg #[.int .i64 x.2.1, .slice x.2.2.1 x.2.2.2.1 x.2.2.2.2], undef, undef, undef, undef, undef, undef, undef, undef, undef, undef], defers := [] })
    (fun x a' _ X Y row hs hg hr => by
      obtain ⟨Bx, h1, h2, h3⟩ := hs
      refine ⟨Bx, h1, (hg.block Bx (Array.getElem?_eq_some_iff.1 h2).1 fun e => ?_).trans h2, h3⟩
      obtain ⟨_, o, ho, hc⟩ := hr Bx e.symm
      rw [h2] at ho; cases ho; cases hc)
    ?assign ?body ?done ?stop
  case assign =>
    rintro l pre x W K ⟨⟨⟨v, bv, hv, _⟩, bn⟩, hB⟩ hK
    gi_wp2
    exact hK _ _ ((KeepsOthers.alloc _ _).from _) ⟨(Below.refl _ W).alloc hB.size _, (bn.alloc _).trans bn.symm⟩ ⟨⟨⟨v, bv.alloc _, hv.alloc _, trivial⟩, bn.alloc _⟩, hB.alloc hB.size _⟩ ⟨W.heap.size, bn.lt, World.alloc_heap_new W _, rfl⟩
  case body =>
    rintro l pre x a' W hl ⟨r, hr⟩ ⟨⟨⟨v, bv, hv, _⟩, bn⟩, hB⟩ ⟨Bx, hBx, bX, rfl⟩ hlt
    obtain ⟨cx0, cx1, _, _⟩ := boxed2 bX
    have hc := bv.cell
    have hmx : maxLen = 9223372036854775807 := rfl
    gi_wp2_with (gi_at_builtin; refine wpListIn_append_own _ rfl _ _ 79 rfl w.heap.size 22 i0 (.slice none 0 0) 1 24 Try.underlying79 hi hz0 hzs hzb rfl (by decide) _ _ _ rfl (hv.alloc _) ⟨W.heap.size, 0, none⟩ 1 1 [.slice x.2.2.1 x.2.2.2.1 x.2.2.2.2] rfl rfl (cell_one_new _ _ _) (by simp [Value.oneCell']) (by omega) (by omega) (by have := hB.size; simp; omega) ?_; intro v' w2 hown' hgrow _; have hne := (bn.alloc (.cells #[.slice x.2.2.1 x.2.2.2.1 x.2.2.2.2] 22)).kept hgrow ((bn.alloc _).not_row (by decide) (hv.alloc (.cells #[.slice x.2.2.1 x.2.2.2.1 x.2.2.2.2] 22))); obtain ⟨g', cap', rfl⟩ := ownsRow_succ hown'; obtain ⟨hv1, hv2, hr2, hk2, hb2⟩ := bv.appended (by decide) hv hB.size (by omega) hown' hgrow; have hc1 := hv1.cell; have hf1 := hv1.frozen)
    have hn2 := hne.other (B' := B5) (by omega) (.slice (some ⟨g', 0, none⟩) (pre.length + 1) cap')
    exact ⟨hk2.from _, ⟨hb2, hn2.trans bn.symm⟩, ⟨⟨_, hv2, by simpa using hr2, trivial⟩, hn2⟩, hB.trans hb2⟩
  case done =>
    rintro D ys W hD rfl ⟨⟨⟨v, bv, hv, _⟩, bn⟩, hB⟩ hK
    rw [backTo_length] at hv
    have hc := bv.cell
    have hmx : maxLen = 9223372036854775807 := rfl
    gi_wp2_with ((gi_at_builtin; refine wpListIn_append_own _ rfl _ _ 79 rfl w.heap.size 22 i0 (.slice none 0 0) 1 24 Try.underlying79 hi hz0 hzs hzb rfl (by decide) _ _ _ rfl (hv.alloc _) ⟨W.heap.size, 0, none⟩ 1 1 [.slice a0 n0 c0] rfl rfl (cell_one_new _ _ _) (by simp [Value.oneCell']) (by omega) (by omega) (by have := hB.size; simp; omega) ?_; intro v' w2 hown' hgrow _))
    have hg2 := hB.size
    have hDl : D < W.heap.size := (Array.getElem?_eq_some_iff.1 hK).1
    have hrowD : some D ≠ v.ownBlock := by
      rcases hv.2 with ⟨rfl, _⟩ | ⟨g, cap, cur, rfl, _, hgb, _⟩
      · simp [Value.ownBlock]
      · intro e'
        obtain rfl : D = g := by simpa [Value.ownBlock] using e'
        rw [hgb] at hK; cases hK
    have hvb : ∀ j, v.ownBlock = some j → w.heap.size ≤ j := by
      intro j ej
      rcases hv.2 with ⟨rfl, _⟩ | ⟨g, cap, cur, rfl, hgl, hgb, _⟩
      · simp [Value.ownBlock] at ej
      · obtain rfl : g = j := by simpa [Value.ownBlock] using ej
        exact hgl
    refine (hM w2 v' D (by omega) ?_ ?_ hown').mono ?_
    · refine (hgrow.block D (by simp; omega) hrowD).trans ?_
      exact (Below.heap_alloc W _ D hDl).trans hK
    · exact (hB.alloc hg2 _).grown hgrow (by simp; omega) hvb
    · rintro e W' ⟨r, rfl, hK', hR⟩
      gi_wp2
      refine ⟨by simp, .inl ⟨_, _, rfl, run_takeDeferred hK', ?_⟩⟩
      have hres : ∀ tm : Array Value, tm.getD 4 undef = r → R (.returned (tm.getD 4 undef)) (W'.putObj D (.deferred none)) := fun tm e => by rw [e]; exact hR
      refine ⟨_, results_tmp rfl _ _ _, ?_⟩
      exact hres _ rfl
  case stop =>
    rintro D c pre W _ _ h _
    exact h.elim
theorem wal_Put_w : PutW Try.prog 89 116 22 := fun a0 n0 c0 a len cap zs w R hlen hI hM => callsIn_wide.1 (wal_Put_put_in Fence.wide 3 trivial trivial trivial trivial rfl (by omega) a0 n0 c0 a len cap zs hlen w hI R fun W v D h1 h2 h3 h4 => callsIn_wide.2 (hM W v D h1 h2 h3 h4))
end
noncomputable def wal_Put (l : List Cell) (notes : List Note) : Option (List Cell) :=
  asrt (((notes.length : Int) + 1) * 24 ≤ 140737488351232) <|
  cell_Merge (notes.reverse.map (fun x => x.Cells) ++ [l])
theorem wal_Put_ok (l : List Cell) (notes : List Note) (r : List Cell) (hF : wal_Put l notes = some r) : Pe Try.prog 89 ⟨[], [], [], [], []⟩ [.sl 5 (l.map e_Cell), .sl 2 (notes.map e_Note)] (.row 5 1) ⟨[], [], [(5, ⟨96, 5, 1, 0, 0, false, 0, [], (r.map e_Cell)⟩)], [], []⟩ := by
  unfold wal_Put at hF
  obtain ⟨h0, hF⟩ := asrt_elim hF
  have h := cell_Merge_ok _ r hF
  have e : (notes.reverse.map (fun x => x.Cells) ++ [l]).map e_L_Cell = ((notes.map (fun x : Note => ((x.Seq : Int), x.Cells.map e_Cell)) : List (Int × List AV)).reverse.map fun x => AV.sl 5 x.2) ++ [.sl 5 (l.map e_Cell)] := by
    rw [List.map_append, List.map_map, ← List.map_reverse, List.map_map]; rfl
  rw [e] at h
  have := Pe_put (nts := (notes.map (fun x : Note => ((x.Seq : Int), x.Cells.map e_Cell)) : List (Int × List AV))) (xs := l.map e_Cell) (csz := 5) ⟨_, Try.func89, rfl, rfl⟩ wal_Put_w (by rw [List.length_map]; omega) h
  rw [List.map_map] at this
  exact this

/- wal.Apply -/
noncomputable def wal_Apply_v1_J1 (l : List Cell) (notes : List Note) (v : Fault) : Option (List Cell × Fault) :=
 ob (wal_Put l notes) fun x2 =>
 if (decide (1000 < (x2.length : Int))) = true then
  lt (wal_fault 9 (-1)) fun x3 =>
  some (([] : List Cell), x3)
 else
  some (x2, (⟨0, 0⟩ : Fault))
noncomputable def wal_Apply_v1_B1 (l : List Cell) (notes : List Note) (v1 : Fault × Int) : Option ((Fault × Int) ⊕ (List Cell × Fault)) :=
 if (decide (v1.2 < (notes.length : Int))) = true then
  asrt (0 ≤ v1.2 ∧ v1.2 < (notes.length : Int)) <|
  ob (wal_Check (⟨(lget notes v1.2).Seq, (lget notes v1.2).Cells⟩ : Note)) fun x4 =>
  if (!decide (x4.Code = 0)) = true then
   lt (wal_fault x4.Code v1.2) fun x5 =>
   some (Sum.inr (([] : List Cell), x5))
  else
   some (Sum.inl (v1.1, w64 (v1.2 + 1)))
 else
  inrO (wal_Apply_v1_J1 l notes v1.1)
noncomputable def wal_Apply_v1_L1 (l : List Cell) (notes : List Note) (v0 : Fault × Int) : Option (List Cell × Fault) :=
 loopO (fun y => wal_Apply_v1_B1 l notes y) v0
noncomputable def wal_Apply_v1 (l : List Cell) (notes : List Note) : Option (List Cell × Fault) :=
 ob (cell_Check l) fun x =>
 if (!decide (x.Code = 0)) = true then
  some (([] : List Cell), x)
 else
  if (decide (1000 < (notes.length : Int))) = true then
   lt (wal_fault 2 (-1)) fun x1 =>
   some (([] : List Cell), x1)
  else
   wal_Apply_v1_L1 l notes ((⟨0, 0⟩ : Fault), 0)
theorem wal_Apply_v1_ok (l : List Cell) (notes : List Note) (r : List Cell × Fault) (hF : wal_Apply_v1 l notes = some r) : Pe Try.prog 36 S.none [.sl 5 (l.map e_Cell), .sl 2 (notes.map e_Note)] (.tup [.sl 5 (r.1.map e_Cell), .agg (c_Fault r.2)]) S.none := by
 refine PeN 47 [.tmp 4, .cell 5 31] [22, 31] Ty.ok Fn.b36 Try.func36 ?_
 intro Q g hfin
 unfold wal_Apply_v1 at hF
 refine VR [] [0, 1, 5] [5] [] [] [(5, .ptr 5 0)] [(5, [.i 0, .i 0])] [] [] .nil ?_
 obtain ⟨x, h0, hF⟩ := ob_elim hF
 refine VR [.callB (.agg (c_Fault x))] [0, 1, 5, 6] [5, 6] [] [] [(6, .ptr 6 0)] [(6, (c_Fault x))] [] [] (hc (cell_Check_ok l x h0) .nil) ?_
 refine NR [] [0, 1, 5, 6, 15] [5, 6] [] [(15, .bool (!decide (x.Code = 0)))] .nil ?_
 refine Nif hF (fun hb hF => ?_) (fun hb hF => ?_)
 ·refine VD [] [4, 5] [5] [] [] [(4, .nils)] [(5, (c_Fault x))] [] [] .nil ?_
  cases hF
  exact Wk_ret (hfin _ ⟨[], [], [], [], [], [], by kernel_rfl⟩)
 ·refine NR [.nat (notes.length : Int)] [0, 1, 5, 19] [5] [] [(19, .bool (decide (1000 < (notes.length : Int))))] (hc (len_ok e_Note notes) .nil) ?_
  refine Nif hF (fun hb hF => ?_) (fun hb hF => ?_)
  ·obtain ⟨x1, h1, hF⟩ := lt_split hF
   refine VR [.callB (.agg (c_Fault x1))] [4, 5] [5] [] [] [(4, .nils)] [(5, (c_Fault x1))] [] [] (hc (wal_fault_ok 2 (-1) x1 h1) .nil) ?_
   cases hF
   exact Wk_ret (hfin _ ⟨[], [], [], [], [], [], by kernel_rfl⟩)
  ·refine NR [.nat (notes.length : Int)] [0, 1, 5, 21, 22, 23] [5] [] [(21, .sl 2 (notes.map e_Note)), (22, .i (notes.length : Int)), (23, .i 0)] (hc (len_ok e_Note notes) .nil) ?_
   refine NmeetP (fun v : Fault => (⟨[(0, .sl 5 (l.map e_Cell)), (1, .sl 2 (notes.map e_Note)), (5, .ptr 5 0)], [(5, (c_Fault v))], [], [], []⟩ : S)) (fun v => wal_Apply_v1_J1 l notes v = some r) ?_ ?_
   ·refine Nblk ?_
    unfold wal_Apply_v1_L1 at hF
    refine Niter (fun v1 : Fault × Int => (⟨[(0, .sl 5 (l.map e_Cell)), (1, .sl 2 (notes.map e_Note)), (5, .ptr 5 0), (21, .sl 2 (notes.map e_Note)), (22, .i (notes.length : Int)), (23, .i v1.2)], [(5, (c_Fault v1.1))], [], [], []⟩ : S)) [] hF (by kernel_rfl) ?_
    intro n1 v1 y1 hF ih1 dn1
    unfold wal_Apply_v1_B1 at hF
    refine NR [] [0, 1, 5, 21, 22, 23, 24] [5] [] [(24, .bool (decide (v1.2 < (notes.length : Int))))] .nil ?_
    refine Nif hF (fun hb hF => ?_) (fun hb hF => ?_)
    ·refine Nblk ?_
     obtain ⟨h4, hF⟩ := asrt_elim hF
     refine VR [.av (e_Note (lget notes v1.2))] [0, 1, 5, 7, 8, 21, 22, 23] [5, 8] [] [] [(7, .i v1.2), (8, .ptr 8 0)] [(8, [.i ((lget notes v1.2).Seq), .sl 5 (((lget notes v1.2).Cells).map e_Cell)])] [] [] (hc (idx_ok e_Note h4) .nil) ?_
     obtain ⟨x4, h5, hF⟩ := ob_elim hF
     refine VR [.callB (.agg (c_Fault x4))] [0, 1, 5, 7, 9, 21, 22, 23] [5, 9] [] [] [(9, .ptr 9 0)] [(9, (c_Fault x4))] [] [] (hc (wal_Check_ok (⟨(lget notes v1.2).Seq, (lget notes v1.2).Cells⟩ : Note) x4 h5) .nil) ?_
     refine NR [] [0, 1, 5, 7, 9, 21, 22, 23, 32] [5, 9] [] [(32, .bool (!decide (x4.Code = 0)))] .nil ?_
     refine Nif hF (fun hb hF => ?_) (fun hb hF => ?_)
     ·obtain ⟨x5, h6, hF⟩ := lt_split hF
      refine VR [.callB (.agg (c_Fault x5))] [4, 5] [5] [] [] [(4, .nils)] [(5, (c_Fault x5))] [] [] (hc (wal_fault_ok x4.Code v1.2 x5 h6) .nil) ?_
      have hF := ret_done hF dn1
      cases hF
      exact Wk_ret (hfin _ ⟨[], [], [], [], [], [], by kernel_rfl⟩)
     ·refine NR [] [0, 1, 5, 21, 22, 23] [5] [] [(23, .i (w64 (v1.2 + 1)))] .nil ?_
      exact Nrnd [] hF ih1 (by kernel_rfl)
    ·refine Nexit rfl ?_
     have hF := inrO_done hF dn1
     exact metP v1.1 [] hF (by kernel_rfl)
   ·intro v hF
    have hF : wal_Apply_v1_J1 l notes v = some r := hF
    unfold wal_Apply_v1_J1 at hF
    obtain ⟨x2, h2, hF⟩ := ob_elim hF
    refine VR [.callE [] [] [] [] (.row 40 1) ⟨[], [], [(40, .o 96 5 1 (x2.map e_Cell))], [], []⟩] [5, 10] [5] [40] [] [(10, .row 40 1)] [] [(40, .o 96 5 1 (x2.map e_Cell))] [] (hc (Pe.ren (wal_Put_ok l notes x2 h2) ⟨[], [(5, 40)], [], []⟩) .nil) ?_
    refine NR [.nat (x2.length : Int)] [5, 10, 43] [5] [40] [(43, .bool (decide (1000 < (x2.length : Int))))] (hc (len_ok e_Cell x2) .nil) ?_
    refine Nif hF (fun hb hF => ?_) (fun hb hF => ?_)
    ·obtain ⟨x3, h3, hF⟩ := lt_split hF
     refine VR [.callB (.agg (c_Fault x3))] [4, 5] [5] [] [] [(4, .nils)] [(5, (c_Fault x3))] [] [] (hc (wal_fault_ok 9 (-1) x3 h3) .nil) ?_
     cases hF
     exact Wk_ret (hfin _ ⟨[], [], [], [], [], [], by kernel_rfl⟩)
    ·refine VR [] [4, 5] [5] [40] [] [(4, .row 40 1)] [(5, [.i 0, .i 0])] [] [] .nil ?_
     cases hF
     exact Wk_ret (hfin _ ⟨[], [], [], [], [], [], by kernel_rfl⟩)

/- tabularyref.SameCells -/
noncomputable def R_SameCells_J1 (v : Unit) : Option Bool :=
 some true
noncomputable def R_SameCells_B1 (a0 : List Cell) (b : List Cell) (v1 : Int) : Option (Int ⊕ Bool) :=
 if (decide (v1 < (a0.length : Int))) = true then
  asrt (0 ≤ v1 ∧ v1 < (a0.length : Int)) <|
  asrt (0 ≤ v1 ∧ v1 < (b.length : Int)) <|
  if (!(decide ((lget a0 v1).Row = (lget b v1).Row) && (decide ((lget a0 v1).Col = (lget b v1).Col) && (decide ((lget a0 v1).Time = (lget b v1).Time) && ((((lget a0 v1).Gone) == ((lget b v1).Gone)) && (decide ((lget a0 v1).Value = (lget b v1).Value) && true)))))) = true then
   some (Sum.inr false)
  else
   some (Sum.inl (w64 (v1 + 1)))
 else
  inrO (R_SameCells_J1 ())
noncomputable def R_SameCells_L1 (a0 : List Cell) (b : List Cell) (v0 : Int) : Option Bool :=
 loopO (fun y => R_SameCells_B1 a0 b y) v0
noncomputable def R_SameCells (a0 : List Cell) (b : List Cell) : Option Bool :=
 if (!decide ((a0.length : Int) = (b.length : Int))) = true then
  some false
 else
  R_SameCells_L1 a0 b 0
theorem R_SameCells_ok (a0 : List Cell) (b : List Cell) (r : Bool) (hF : R_SameCells a0 b = some r) : Pe Try.prog 32 S.none [.sl 5 (a0.map e_Cell), .sl 5 (b.map e_Cell)] (.bool r) S.none := by
 refine PeN 26 [.tmp 4] [4] Ty.ok Fn.b32 Try.func32 ?_
 intro Q g hfin
 unfold R_SameCells at hF
 refine NR [] [0, 1] [] [] [] .nil ?_
 refine NR [.nat (a0.length : Int), .nat (b.length : Int)] [0, 1, 10] [] [] [(10, .bool (!decide ((a0.length : Int) = (b.length : Int))))] (hc (len_ok e_Cell a0) (hc (len_ok e_Cell b) .nil)) ?_
 refine Nif hF (fun hb hF => ?_) (fun hb hF => ?_)
 ·refine NR [] [4] [] [] [(4, .bool false)] .nil ?_
  cases hF
  exact Wk_ret (hfin _ ⟨[], [], [], [], [], [], by kernel_rfl⟩)
 ·refine NR [] [0, 1, 5] [] [] [(5, .i 0)] .nil ?_
  refine NmeetP (fun v : Unit => (S.none : S)) (fun v => R_SameCells_J1 v = some r) ?_ ?_
  ·refine Nblk ?_
   unfold R_SameCells_L1 at hF
   refine Niter (fun v1 : Int => (⟨[(0, .sl 5 (a0.map e_Cell)), (1, .sl 5 (b.map e_Cell)), (5, .i v1)], [], [], [], []⟩ : S)) [] hF (by kernel_rfl) ?_
   intro n1 v1 y1 hF ih1 dn1
   unfold R_SameCells_B1 at hF
   refine NR [.nat (a0.length : Int)] [0, 1, 5, 14] [] [] [(14, .bool (decide (v1 < (a0.length : Int))))] (hc (len_ok e_Cell a0) .nil) ?_
   refine Nif hF (fun hb hF => ?_) (fun hb hF => ?_)
   ·refine Nblk ?_
    obtain ⟨h0, h1, hF⟩ := asrt2 hF
    refine ND [.av (e_Cell (lget a0 v1)), .av (e_Cell (lget b v1))] [0, 1, 5, 25] [] [] [(25, .bool (!(decide ((lget a0 v1).Row = (lget b v1).Row) && (decide ((lget a0 v1).Col = (lget b v1).Col) && (decide ((lget a0 v1).Time = (lget b v1).Time) && ((((lget a0 v1).Gone) == ((lget b v1).Gone)) && (decide ((lget a0 v1).Value = (lget b v1).Value) && true)))))))] (hc (idx_ok e_Cell h0) (hc (idx_ok e_Cell h1) .nil)) ?_
    refine Nif hF (fun hb hF => ?_) (fun hb hF => ?_)
    ·refine NR [] [4] [] [] [(4, .bool false)] .nil ?_
     have hF := ret_done hF dn1
     cases hF
     exact Wk_ret (hfin _ ⟨[], [], [], [], [], [], by kernel_rfl⟩)
    ·refine NR [] [0, 1, 5] [] [] [(5, .i (w64 (v1 + 1)))] .nil ?_
     exact Nrnd [] hF ih1 (by kernel_rfl)
   ·refine Nexit rfl ?_
    have hF := inrO_done hF dn1
    exact metP () [] hF (by kernel_rfl)
  ·intro v hF
   have hF : R_SameCells_J1 v = some r := hF
   unfold R_SameCells_J1 at hF
   refine NR [] [4] [] [] [(4, .bool true)] .nil ?_
   cases hF
   exact Wk_ret (hfin _ ⟨[], [], [], [], [], [], by kernel_rfl⟩)

/- tabularyref.SameNote -/
noncomputable def R_SameNote (a0 : Note) (b : Note) : Option Bool :=
 ob (if (decide (a0.Seq = b.Seq)) = true then (R_SameCells a0.Cells b.Cells) else some default) fun x =>
 some ((decide (a0.Seq = b.Seq)) && x)
theorem R_SameNote_ok (a0 : Note) (b : Note) (r : Bool) (hF : R_SameNote a0 b = some r) : Pe Try.prog 17 S.none [.agg (c_Note a0), .agg (c_Note b)] (.bool r) S.none := by
 refine PeN 17 [.tmp 4] [4] Ty.ok Fn.b17 Try.func17 ?_
 intro Q g hfin
 unfold R_SameNote at hF
 refine VR [] [2, 3] [2, 3] [] [] [(2, .ptr 2 0), (3, .ptr 3 0)] [(2, (c_Note a0)), (3, (c_Note b))] [] [] .nil ?_
 obtain ⟨x, h0, hF⟩ := ob_elim hF
 refine NR [.callB (.bool x)] [4] [] [] [(4, .bool ((decide (a0.Seq = b.Seq)) && x))] (hc (fun (ga0 : (decide (a0.Seq = b.Seq)) = true) => (R_SameCells_ok a0.Cells b.Cells x (ite_t h0 ga0))) .nil) ?_
 cases hF
 exact Wk_ret (hfin _ ⟨[], [], [], [], [], [], by kernel_rfl⟩)

/- tabularyref.SameNotes -/
noncomputable def R_SameNotes_J1 (v : Unit) : Option Bool :=
 some true
noncomputable def R_SameNotes_B1 (a0 : List Note) (b : List Note) (v1 : Int) : Option (Int ⊕ Bool) :=
 if (decide (v1 < (a0.length : Int))) = true then
  asrt (0 ≤ v1 ∧ v1 < (a0.length : Int)) <|
  asrt (0 ≤ v1 ∧ v1 < (b.length : Int)) <|
  ob (R_SameNote (⟨(lget a0 v1).Seq, (lget a0 v1).Cells⟩ : Note) (⟨(lget b v1).Seq, (lget b v1).Cells⟩ : Note)) fun x =>
  if (!x) = true then
   some (Sum.inr false)
  else
   some (Sum.inl (w64 (v1 + 1)))
 else
  inrO (R_SameNotes_J1 ())
noncomputable def R_SameNotes_L1 (a0 : List Note) (b : List Note) (v0 : Int) : Option Bool :=
 loopO (fun y => R_SameNotes_B1 a0 b y) v0
noncomputable def R_SameNotes (a0 : List Note) (b : List Note) : Option Bool :=
 if (!decide ((a0.length : Int) = (b.length : Int))) = true then
  some false
 else
  R_SameNotes_L1 a0 b 0
theorem R_SameNotes_ok (a0 : List Note) (b : List Note) (r : Bool) (hF : R_SameNotes a0 b = some r) : Pe Try.prog 37 S.none [.sl 2 (a0.map e_Note), .sl 2 (b.map e_Note)] (.bool r) S.none := by
 refine PeN 27 [.tmp 4] [4] Ty.ok Fn.b37 Try.func37 ?_
 intro Q g hfin
 unfold R_SameNotes at hF
 refine NR [] [0, 1] [] [] [] .nil ?_
 refine NR [.nat (a0.length : Int), .nat (b.length : Int)] [0, 1, 10] [] [] [(10, .bool (!decide ((a0.length : Int) = (b.length : Int))))] (hc (len_ok e_Note a0) (hc (len_ok e_Note b) .nil)) ?_
 refine Nif hF (fun hb hF => ?_) (fun hb hF => ?_)
 ·refine NR [] [4] [] [] [(4, .bool false)] .nil ?_
  cases hF
  exact Wk_ret (hfin _ ⟨[], [], [], [], [], [], by kernel_rfl⟩)
 ·refine NR [] [0, 1, 5] [] [] [(5, .i 0)] .nil ?_
  refine NmeetP (fun v : Unit => (S.none : S)) (fun v => R_SameNotes_J1 v = some r) ?_ ?_
  ·refine Nblk ?_
   unfold R_SameNotes_L1 at hF
   refine Niter (fun v1 : Int => (⟨[(0, .sl 2 (a0.map e_Note)), (1, .sl 2 (b.map e_Note)), (5, .i v1)], [], [], [], []⟩ : S)) [] hF (by kernel_rfl) ?_
   intro n1 v1 y1 hF ih1 dn1
   unfold R_SameNotes_B1 at hF
   refine NR [.nat (a0.length : Int)] [0, 1, 5, 14] [] [] [(14, .bool (decide (v1 < (a0.length : Int))))] (hc (len_ok e_Note a0) .nil) ?_
   refine Nif hF (fun hb hF => ?_) (fun hb hF => ?_)
   ·refine Nblk ?_
    obtain ⟨h0, h1, hF⟩ := asrt2 hF
    obtain ⟨x, h2, hF⟩ := ob_elim hF
    refine ND [.av (e_Note (lget a0 v1)), .av (e_Note (lget b v1)), .callB (.bool x)] [0, 1, 5, 26] [] [] [(26, .bool (!x))] (hc (idx_ok e_Note h0) (hc (idx_ok e_Note h1) (hc (R_SameNote_ok (⟨(lget a0 v1).Seq, (lget a0 v1).Cells⟩ : Note) (⟨(lget b v1).Seq, (lget b v1).Cells⟩ : Note) x h2) .nil))) ?_
    refine Nif hF (fun hb hF => ?_) (fun hb hF => ?_)
    ·refine NR [] [4] [] [] [(4, .bool false)] .nil ?_
     have hF := ret_done hF dn1
     cases hF
     exact Wk_ret (hfin _ ⟨[], [], [], [], [], [], by kernel_rfl⟩)
    ·refine NR [] [0, 1, 5] [] [] [(5, .i (w64 (v1 + 1)))] .nil ?_
     exact Nrnd [] hF ih1 (by kernel_rfl)
   ·refine Nexit rfl ?_
    have hF := inrO_done hF dn1
    exact metP () [] hF (by kernel_rfl)
  ·intro v hF
   have hF : R_SameNotes_J1 v = some r := hF
   unfold R_SameNotes_J1 at hF
   refine NR [] [4] [] [] [(4, .bool true)] .nil ?_
   cases hF
   exact Wk_ret (hfin _ ⟨[], [], [], [], [], [], by kernel_rfl⟩)

/- tabularyref.F -/
noncomputable def R_F (code : Int) (at0 : Int) : Fault :=
 (⟨code, at0⟩ : Fault)
theorem R_F_ok (code : Int) (at0 : Int) (r : Fault) (hF : R_F code at0 = r) : Pe Try.prog 28 S.none [.i code, .i at0] (.agg (c_Fault r)) S.none := by
 refine PeN 8 [.cell 4 31] [31] Ty.ok Fn.b28 Try.func28 ?_
 intro Q g hfin
 unfold R_F at hF
 refine VR [] [0, 1, 4] [4] [] [] [(4, .ptr 4 0)] [(4, [.i 0, .i 0])] [] [] .nil ?_
 refine VR [] [4] [4] [] [] [] [(4, [.i code, .i at0])] [] [] .nil ?_
 cases hF
 exact Wk_ret (hfin _ ⟨[], [], [], [], [], [], by kernel_rfl⟩)

/- tabularyref.CellCode -/
noncomputable def R_CellCode (c : Cell) : Int :=
 if ((((decide (c.Row = ([] : List UInt8))) || (decide (40 < (c.Row.length : Int)))) || (decide (40 < (c.Col.length : Int)))) || (decide (200 < (c.Value.length : Int)))) = true then
  8
 else
  if ((decide (c.Time < 0)) || (decide (1000000000 < c.Time))) = true then
   3
  else
   if (c.Gone && (!decide (c.Value = ([] : List UInt8)))) = true then
    5
   else
    0
theorem R_CellCode_ok (c : Cell) (r : Int) (hF : R_CellCode c = r) : Pe Try.prog 82 S.none [.agg (c_Cell c)] (.i r) S.none := by
 refine PeN 39 [.tmp 2] [3] Ty.ok Fn.b82 Try.func82 ?_
 intro Q g hfin
 unfold R_CellCode at hF
 refine VR [] [1] [1] [] [] [(1, .ptr 1 0)] [(1, (c_Cell c))] [] [] .nil ?_
 refine NR [] [1, 23] [1] [] [(23, .bool ((((decide (c.Row = ([] : List UInt8))) || (decide (40 < (c.Row.length : Int)))) || (decide (40 < (c.Col.length : Int)))) || (decide (200 < (c.Value.length : Int)))))] .nil ?_
 refine Nif hF (fun hb hF => ?_) (fun hb hF => ?_)
 ·refine NR [] [2] [] [] [(2, .i 8)] .nil ?_
  cases hF
  exact Wk_ret (hfin _ ⟨[], [], [], [], [], [], by kernel_rfl⟩)
 ·refine NR [] [1, 31] [1] [] [(31, .bool ((decide (c.Time < 0)) || (decide (1000000000 < c.Time))))] .nil ?_
  refine Nif hF (fun hb hF => ?_) (fun hb hF => ?_)
  ·refine NR [] [2] [] [] [(2, .i 3)] .nil ?_
   cases hF
   exact Wk_ret (hfin _ ⟨[], [], [], [], [], [], by kernel_rfl⟩)
  ·refine NR [] [38] [] [] [(38, .bool (c.Gone && (!decide (c.Value = ([] : List UInt8)))))] .nil ?_
   refine Nif hF (fun hb hF => ?_) (fun hb hF => ?_)
   ·refine NR [] [2] [] [] [(2, .i 5)] .nil ?_
    cases hF
    exact Wk_ret (hfin _ ⟨[], [], [], [], [], [], by kernel_rfl⟩)
   ·refine NR [] [2] [] [] [(2, .i 0)] .nil ?_
    cases hF
    exact Wk_ret (hfin _ ⟨[], [], [], [], [], [], by kernel_rfl⟩)

/- tabularyref.Ahead -/
noncomputable def R_Ahead (a0 : Cell) (b : Cell) : Bool :=
 if (!decide (a0.Row = b.Row)) = true then
  Op.bytesLess a0.Row b.Row
 else
  if (!decide (a0.Col = b.Col)) = true then
   Op.bytesLess a0.Col b.Col
  else
   decide (b.Time < a0.Time)
theorem R_Ahead_ok (a0 : Cell) (b : Cell) (r : Bool) (hF : R_Ahead a0 b = r) : Pe Try.prog 83 S.none [.agg (c_Cell a0), .agg (c_Cell b)] (.bool r) S.none := by
 refine PeN 30 [.tmp 4] [4] Ty.ok Fn.b83 Try.func83 ?_
 intro Q g hfin
 unfold R_Ahead at hF
 refine VR [] [2, 3] [2, 3] [] [] [(2, .ptr 2 0), (3, .ptr 3 0)] [(2, (c_Cell a0)), (3, (c_Cell b))] [] [] .nil ?_
 refine NR [] [2, 3, 9] [2, 3] [] [(9, .bool (!decide (a0.Row = b.Row)))] .nil ?_
 refine Nif hF (fun hb hF => ?_) (fun hb hF => ?_)
 ·refine NR [] [4] [] [] [(4, .bool (Op.bytesLess a0.Row b.Row))] .nil ?_
  cases hF
  exact Wk_ret (hfin _ ⟨[], [], [], [], [], [], by kernel_rfl⟩)
 ·refine NR [] [2, 3, 19] [2, 3] [] [(19, .bool (!decide (a0.Col = b.Col)))] .nil ?_
  refine Nif hF (fun hb hF => ?_) (fun hb hF => ?_)
  ·refine NR [] [4] [] [] [(4, .bool (Op.bytesLess a0.Col b.Col))] .nil ?_
   cases hF
   exact Wk_ret (hfin _ ⟨[], [], [], [], [], [], by kernel_rfl⟩)
  ·refine NR [] [4] [] [] [(4, .bool (decide (b.Time < a0.Time)))] .nil ?_
   cases hF
   exact Wk_ret (hfin _ ⟨[], [], [], [], [], [], by kernel_rfl⟩)

/- tabularyref.CellsFault -/
noncomputable def R_CellsFault_J1 (v : Fault) : Option Fault :=
 some (⟨0, 0⟩ : Fault)
noncomputable def R_CellsFault_B1 (l : List Cell) (v1 : Fault × Int) : Option ((Fault × Int) ⊕ Fault) :=
 if (decide (v1.2 < (l.length : Int))) = true then
  asrt (0 ≤ v1.2 ∧ v1.2 < (l.length : Int)) <|
  lt (R_CellCode (⟨(lget l v1.2).Row, (lget l v1.2).Col, (lget l v1.2).Time, (lget l v1.2).Gone, (lget l v1.2).Value⟩ : Cell)) fun x1 =>
  if (!decide (x1 = 0)) = true then
   lt (R_F x1 v1.2) fun x2 =>
   some (Sum.inr x2)
  else
   asrt ((decide (0 < v1.2)) = true → 0 ≤ w64 (v1.2 - 1) ∧ w64 (v1.2 - 1) < (l.length : Int)) <|
   asrt ((decide (0 < v1.2)) = true → 0 ≤ v1.2 ∧ v1.2 < (l.length : Int)) <|
   lt (R_Ahead (⟨(lget l (w64 (v1.2 - 1))).Row, (lget l (w64 (v1.2 - 1))).Col, (lget l (w64 (v1.2 - 1))).Time, (lget l (w64 (v1.2 - 1))).Gone, (lget l (w64 (v1.2 - 1))).Value⟩ : Cell) (⟨(lget l v1.2).Row, (lget l v1.2).Col, (lget l v1.2).Time, (lget l v1.2).Gone, (lget l v1.2).Value⟩ : Cell)) fun x3 =>
   if ((decide (0 < v1.2)) && (!x3)) = true then
    lt (R_F 10 v1.2) fun x4 =>
    some (Sum.inr x4)
   else
    some (Sum.inl (v1.1, w64 (v1.2 + 1)))
 else
  inrO (R_CellsFault_J1 v1.1)
noncomputable def R_CellsFault_L1 (l : List Cell) (v0 : Fault × Int) : Option Fault :=
 loopO (fun y => R_CellsFault_B1 l y) v0
noncomputable def R_CellsFault (l : List Cell) : Option Fault :=
 if (decide (1000 < (l.length : Int))) = true then
  lt (R_F 2 0) fun x =>
  some x
 else
  R_CellsFault_L1 l ((⟨0, 0⟩ : Fault), 0)
theorem R_CellsFault_ok (l : List Cell) (r : Fault) (hF : R_CellsFault l = some r) : Pe Try.prog 27 S.none [.sl 5 (l.map e_Cell)] (.agg (c_Fault r)) S.none := by
 refine PeN 43 [.cell 2 31] [31] Ty.ok Fn.b27 Try.func27 ?_
 intro Q g hfin
 unfold R_CellsFault at hF
 refine VR [] [0, 2] [2] [] [] [(2, .ptr 2 0)] [(2, [.i 0, .i 0])] [] [] .nil ?_
 refine NR [.nat (l.length : Int)] [0, 2, 7] [2] [] [(7, .bool (decide (1000 < (l.length : Int))))] (hc (len_ok e_Cell l) .nil) ?_
 refine Nif hF (fun hb hF => ?_) (fun hb hF => ?_)
 ·obtain ⟨x, h0, hF⟩ := lt_split hF
  refine VR [.callB (.agg (c_Fault x))] [2] [2] [] [] [] [(2, (c_Fault x))] [] [] (hc (R_F_ok 2 0 x h0) .nil) ?_
  cases hF
  exact Wk_ret (hfin _ ⟨[], [], [], [], [], [], by kernel_rfl⟩)
 ·refine NR [] [0, 2, 3] [2] [] [(3, .i 0)] .nil ?_
  refine NmeetP (fun v : Fault => (⟨[(2, .ptr 2 0)], [(2, (c_Fault v))], [], [], []⟩ : S)) (fun v => R_CellsFault_J1 v = some r) ?_ ?_
  ·refine Nblk ?_
   unfold R_CellsFault_L1 at hF
   refine Niter (fun v1 : Fault × Int => (⟨[(0, .sl 5 (l.map e_Cell)), (2, .ptr 2 0), (3, .i v1.2)], [(2, (c_Fault v1.1))], [], [], []⟩ : S)) [] hF (by kernel_rfl) ?_
   intro n1 v1 y1 hF ih1 dn1
   unfold R_CellsFault_B1 at hF
   refine NR [.nat (l.length : Int)] [0, 2, 3, 12] [2] [] [(12, .bool (decide (v1.2 < (l.length : Int))))] (hc (len_ok e_Cell l) .nil) ?_
   refine Nif hF (fun hb hF => ?_) (fun hb hF => ?_)
   ·refine Nblk ?_
    obtain ⟨h1, hF⟩ := asrt_elim hF
    obtain ⟨x1, h2, hF⟩ := lt_split hF
    refine NR [.av (e_Cell (lget l v1.2)), .callB (.i x1)] [0, 2, 3, 4] [2] [] [(4, .i x1)] (hc (idx_ok e_Cell h1) (hc (R_CellCode_ok (⟨(lget l v1.2).Row, (lget l v1.2).Col, (lget l v1.2).Time, (lget l v1.2).Gone, (lget l v1.2).Value⟩ : Cell) x1 h2) .nil)) ?_
    refine NR [] [0, 2, 3, 4, 21] [2] [] [(21, .bool (!decide (x1 = 0)))] .nil ?_
    refine Nif hF (fun hb hF => ?_) (fun hb hF => ?_)
    ·obtain ⟨x2, h3, hF⟩ := lt_split hF
     refine VR [.callB (.agg (c_Fault x2))] [2] [2] [] [] [] [(2, (c_Fault x2))] [] [] (hc (R_F_ok x1 v1.2 x2 h3) .nil) ?_
     have hF := ret_done hF dn1
     cases hF
     exact Wk_ret (hfin _ ⟨[], [], [], [], [], [], by kernel_rfl⟩)
    ·obtain ⟨h4, hF⟩ := asrt_elim hF
     obtain ⟨h5, hF⟩ := asrt_elim hF
     obtain ⟨x3, h6, hF⟩ := lt_split hF
     refine ND [.av (e_Cell (lget l (w64 (v1.2 - 1)))), .av (e_Cell (lget l v1.2)), .callB (.bool x3)] [0, 2, 3, 39] [2] [] [(39, .bool ((decide (0 < v1.2)) && (!x3)))] (hc (fun (ga0 : (decide (0 < v1.2)) = true) => (idx_ok e_Cell (h4 ga0))) (hc (fun (ga0 : (decide (0 < v1.2)) = true) => (idx_ok e_Cell (h5 ga0))) (hc (fun (ga0 : (decide (0 < v1.2)) = true) => (R_Ahead_ok (⟨(lget l (w64 (v1.2 - 1))).Row, (lget l (w64 (v1.2 - 1))).Col, (lget l (w64 (v1.2 - 1))).Time, (lget l (w64 (v1.2 - 1))).Gone, (lget l (w64 (v1.2 - 1))).Value⟩ : Cell) (⟨(lget l v1.2).Row, (lget l v1.2).Col, (lget l v1.2).Time, (lget l v1.2).Gone, (lget l v1.2).Value⟩ : Cell) x3 h6)) .nil))) ?_
     refine Nif hF (fun hb hF => ?_) (fun hb hF => ?_)
     ·obtain ⟨x4, h7, hF⟩ := lt_split hF
      refine VR [.callB (.agg (c_Fault x4))] [2] [2] [] [] [] [(2, (c_Fault x4))] [] [] (hc (R_F_ok 10 v1.2 x4 h7) .nil) ?_
      have hF := ret_done hF dn1
      cases hF
      exact Wk_ret (hfin _ ⟨[], [], [], [], [], [], by kernel_rfl⟩)
     ·refine NR [] [0, 2, 3] [2] [] [(3, .i (w64 (v1.2 + 1)))] .nil ?_
      exact Nrnd [] hF ih1 (by kernel_rfl)
   ·refine Nexit rfl ?_
    have hF := inrO_done hF dn1
    exact metP v1.1 [] hF (by kernel_rfl)
  ·intro v hF
   have hF : R_CellsFault_J1 v = some r := hF
   unfold R_CellsFault_J1 at hF
   refine VR [] [2] [2] [] [] [] [(2, [.i 0, .i 0])] [] [] .nil ?_
   cases hF
   exact Wk_ret (hfin _ ⟨[], [], [], [], [], [], by kernel_rfl⟩)

/- tabularyref.NoteFault -/
noncomputable def R_NoteFault (num : Note) : Option Fault :=
 if ((decide (num.Seq < 1)) || (decide (1000000000 < num.Seq))) = true then
  lt (R_F 3 (-1)) fun x =>
  some x
 else
  if ((decide ((num.Cells.length : Int) = 0)) || (decide (20 < (num.Cells.length : Int)))) = true then
   lt (R_F 2 (-1)) fun x1 =>
   some x1
  else
   ob (R_CellsFault num.Cells) fun x2 =>
   some x2
theorem R_NoteFault_ok (num : Note) (r : Fault) (hF : R_NoteFault num = some r) : Pe Try.prog 21 S.none [.agg (c_Note num)] (.agg (c_Fault r)) S.none := by
 refine PeN 26 [.cell 2 31] [31] Ty.ok Fn.b21 Try.func21 ?_
 intro Q g hfin
 unfold R_NoteFault at hF
 refine VR [] [1, 2] [1, 2] [] [] [(1, .ptr 1 0), (2, .ptr 2 0)] [(1, (c_Note num)), (2, [.i 0, .i 0])] [] [] .nil ?_
 refine NR [] [1, 2, 10] [1, 2] [] [(10, .bool ((decide (num.Seq < 1)) || (decide (1000000000 < num.Seq))))] .nil ?_
 refine Nif hF (fun hb hF => ?_) (fun hb hF => ?_)
 ·obtain ⟨x, h0, hF⟩ := lt_split hF
  refine VR [.callB (.agg (c_Fault x))] [2] [2] [] [] [] [(2, (c_Fault x))] [] [] (hc (R_F_ok 3 (-1) x h0) .nil) ?_
  cases hF
  exact Wk_ret (hfin _ ⟨[], [], [], [], [], [], by kernel_rfl⟩)
 ·refine NR [.nat (num.Cells.length : Int), .nat (num.Cells.length : Int)] [1, 2, 21] [1, 2] [] [(21, .bool ((decide ((num.Cells.length : Int) = 0)) || (decide (20 < (num.Cells.length : Int)))))] (hc (len_ok e_Cell num.Cells) (hc (fun (_ : (!(decide ((num.Cells.length : Int) = 0))) = true) => (len_ok e_Cell num.Cells)) .nil)) ?_
  refine Nif hF (fun hb hF => ?_) (fun hb hF => ?_)
  ·obtain ⟨x1, h1, hF⟩ := lt_split hF
   refine VR [.callB (.agg (c_Fault x1))] [2] [2] [] [] [] [(2, (c_Fault x1))] [] [] (hc (R_F_ok 2 (-1) x1 h1) .nil) ?_
   cases hF
   exact Wk_ret (hfin _ ⟨[], [], [], [], [], [], by kernel_rfl⟩)
  ·obtain ⟨x2, h2, hF⟩ := ob_elim hF
   refine VR [.callB (.agg (c_Fault x2))] [2] [2] [] [] [] [(2, (c_Fault x2))] [] [] (hc (R_CellsFault_ok num.Cells x2 h2) .nil) ?_
   cases hF
   exact Wk_ret (hfin _ ⟨[], [], [], [], [], [], by kernel_rfl⟩)

/- tabularyref.PutCell -/
noncomputable def R_PutCell_J1 (l : List Cell) (v : Cell × Int) : Option (List Cell) :=
 asrt ((decide (v.2 < (l.length : Int))) = true → 0 ≤ v.2 ∧ v.2 < (l.length : Int)) <|
 lt (R_Ahead v.1 (⟨(lget l v.2).Row, (lget l v.2).Col, (lget l v.2).Time, (lget l v.2).Gone, (lget l v.2).Value⟩ : Cell)) fun x =>
 if ((decide (v.2 < (l.length : Int))) && (!x)) = true then
  asrt ((l.length : Int) * 64 ≤ 140737488351232) <|
  asrt (0 ≤ v.2 ∧ v.2 < (l.length : Int)) <|
  asrt (0 ≤ v.2 ∧ v.2 < (l.length : Int)) <|
  some (lset l v.2 v.1)
 else
  asrt (0 ≤ v.2 ∧ v.2 ≤ (l.length : Int)) <|
  asrt (((ltake l v.2).length : Int) * 64 ≤ 140737488351232) <|
  asrt ((((ltake l v.2) ++ [v.1]).length : Int) * 64 ≤ 140737488351232) <|
  asrt (0 ≤ v.2 ∧ v.2 ≤ (l.length : Int)) <|
  asrt (((((ltake l v.2) ++ [v.1]) ++ (ldrop l v.2)).length : Int) * 64 ≤ 140737488351232) <|
  some (((ltake l v.2) ++ [v.1]) ++ (ldrop l v.2))
noncomputable def R_PutCell_B1 (l : List Cell) (v1 : Cell × Int) : Option ((Cell × Int) ⊕ (List Cell)) :=
 asrt ((decide (v1.2 < (l.length : Int))) = true → 0 ≤ v1.2 ∧ v1.2 < (l.length : Int)) <|
 lt (R_Ahead (⟨(lget l v1.2).Row, (lget l v1.2).Col, (lget l v1.2).Time, (lget l v1.2).Gone, (lget l v1.2).Value⟩ : Cell) v1.1) fun x1 =>
 if ((decide (v1.2 < (l.length : Int))) && x1) = true then
  some (Sum.inl (v1.1, w64 (v1.2 + 1)))
 else
  inrO (R_PutCell_J1 l (v1.1, v1.2))
noncomputable def R_PutCell_L1 (l : List Cell) (v0 : Cell × Int) : Option (List Cell) :=
 loopO (fun y => R_PutCell_B1 l y) v0
noncomputable def R_PutCell (l : List Cell) (c : Cell) : Option (List Cell) :=
 R_PutCell_L1 l (c, 0)
theorem R_PutCell_ok (l : List Cell) (c : Cell) (r : List Cell) (hF : R_PutCell l c = some r) : Pe Try.prog 117 S.none [.sl 5 (l.map e_Cell), .agg (c_Cell c)] (.row 35 0) ⟨[], [], [(35, .z 96 5 0 (r.map e_Cell))], [], []⟩ := by
 refine PeN 52 [.tmp 4] [22] Ty.ok Fn.b117 Try.func117 ?_
 intro Q g hfin
 unfold R_PutCell at hF
 refine VR [] [0, 3] [3] [] [] [(3, .ptr 3 0)] [(3, (c_Cell c))] [] [] .nil ?_
 refine NR [] [0, 3, 5] [3] [] [(5, .i 0)] .nil ?_
 refine NmeetP (fun v : Cell × Int => (⟨[(0, .sl 5 (l.map e_Cell)), (3, .ptr 3 0), (5, .i v.2)], [(3, (c_Cell v.1))], [], [], []⟩ : S)) (fun v => R_PutCell_J1 l v = some r) ?_ ?_
 ·refine Nblk ?_
  unfold R_PutCell_L1 at hF
  refine Niter (fun v1 : Cell × Int => (⟨[(0, .sl 5 (l.map e_Cell)), (3, .ptr 3 0), (5, .i v1.2)], [(3, (c_Cell v1.1))], [], [], []⟩ : S)) [] hF (by kernel_rfl) ?_
  intro n1 v1 y1 hF ih1 dn1
  unfold R_PutCell_B1 at hF
  obtain ⟨h10, hF⟩ := asrt_elim hF
  obtain ⟨x1, h11, hF⟩ := lt_split hF
  refine ND [.nat (l.length : Int), .av (e_Cell (lget l v1.2)), .callB (.bool x1)] [0, 3, 5, 18] [3] [] [(18, .bool ((decide (v1.2 < (l.length : Int))) && x1))] (hc (len_ok e_Cell l) (hc (fun (ga0 : (decide (v1.2 < (l.length : Int))) = true) => (idx_ok e_Cell (h10 ga0))) (hc (fun (ga0 : (decide (v1.2 < (l.length : Int))) = true) => (R_Ahead_ok (⟨(lget l v1.2).Row, (lget l v1.2).Col, (lget l v1.2).Time, (lget l v1.2).Gone, (lget l v1.2).Value⟩ : Cell) v1.1 x1 h11)) .nil))) ?_
  refine Nif hF (fun hb hF => ?_) (fun hb hF => ?_)
  ·refine Nblk ?_
   refine NR [] [0, 3, 5] [3] [] [(5, .i (w64 (v1.2 + 1)))] .nil ?_
   exact Nrnd [] hF ih1 (by kernel_rfl)
  ·refine Nexit rfl ?_
   have hF := inrO_done hF dn1
   exact metP (v1.1, v1.2) [] hF (by kernel_rfl)
 ·intro v hF
  have hF : R_PutCell_J1 l v = some r := hF
  unfold R_PutCell_J1 at hF
  obtain ⟨h0, hF⟩ := asrt_elim hF
  obtain ⟨x, h1, hF⟩ := lt_split hF
  refine ND [.nat (l.length : Int), .av (e_Cell (lget l v.2)), .callB (.bool x)] [0, 3, 5, 33] [3] [] [(33, .bool ((decide (v.2 < (l.length : Int))) && (!x)))] (hc (len_ok e_Cell l) (hc (fun (ga0 : (decide (v.2 < (l.length : Int))) = true) => (idx_ok e_Cell (h0 ga0))) (hc (fun (ga0 : (decide (v.2 < (l.length : Int))) = true) => (R_Ahead_ok v.1 (⟨(lget l v.2).Row, (lget l v.2).Col, (lget l v.2).Time, (lget l v.2).Gone, (lget l v.2).Value⟩ : Cell) x h1)) .nil))) ?_
  refine Nif hF (fun hb hF => ?_) (fun hb hF => ?_)
  ·obtain ⟨h2, hF⟩ := asrt_elim hF
   refine VR [.xs (l.map e_Cell)] [3, 5, 6] [3] [35] [] [(6, .row 35 1)] [] [(35, .z 96 5 1 (l.map e_Cell))] [] (hc (app0_ok e_Cell l) (hc (appl_ok e_Cell h2) .nil)) ?_
   obtain ⟨h3, h4, hF⟩ := asrt2 hF
   refine VR [.av (e_Cell (lget l v.2)), .xs ((lset l v.2 v.1).map e_Cell)] [6] [] [35] [] [] [] [(35, .z 96 5 1 ((lset l v.2 v.1).map e_Cell))] [] (hc (ixr_ok e_Cell h3) (hc (ldr_ok e_Cell h4) (hc (set_ok e_Cell l v.2 v.1) (hc (Nat.zero_le v.2.toNat) .nil)))) ?_
   refine NR [] [4] [] [35] [(4, .row 35 1)] .nil ?_
   cases hF
   exact Wk_ret (hfin _ ⟨[35], [], [35], [], [], [(35, ⟨0, true, true, false⟩)], by kernel_rfl⟩)
  ·obtain ⟨h5, hF⟩ := asrt_elim hF
   obtain ⟨h6, h7, h8, h9, hF⟩ := asrt4 hF
   refine VD [.xs ((ltake l v.2).map e_Cell), .xs ((ltake l v.2).map e_Cell), .sealed, .xs (((ltake l v.2) ++ [v.1]).map e_Cell), .xs ((ldrop l v.2).map e_Cell), .xs ((((ltake l v.2) ++ [v.1]) ++ (ldrop l v.2)).map e_Cell)] [4] [] [44] [] [(4, .row 44 3)] [] [(44, .z 96 5 3 ((((ltake l v.2) ++ [v.1]) ++ (ldrop l v.2)).map e_Cell))] [] (hc (sl01_ok e_Cell h5) (hc (app0_ok e_Cell (ltake l v.2)) (hc (appl_ok e_Cell h6) (hc (app_ok e_Cell (ltake l v.2) [v.1]) (hc (appl_ok e_Cell h7) (hc (sl10_ok e_Cell h8) (hc (app_ok e_Cell ((ltake l v.2) ++ [v.1]) (ldrop l v.2)) (hc (appl_ok e_Cell h9) .nil)))))))) ?_
   cases hF
   refine Wk_ren' ⟨[], [(44, 35)], [], []⟩ rfl ?_
   exact Wk_ret (hfin _ ⟨[35], [], [35], [], [], [(35, ⟨0, true, true, false⟩)], by kernel_rfl⟩)

/- tabularyref.PutCells -/
noncomputable def R_PutCells_J1 (v : List Cell) : Option (List Cell) :=
 some v
noncomputable def R_PutCells_B1 (m : List Cell) (v1 : List Cell × Int) : Option ((List Cell × Int) ⊕ (List Cell)) :=
 if (decide (v1.2 < (m.length : Int))) = true then
  asrt (0 ≤ v1.2 ∧ v1.2 < (m.length : Int)) <|
  ob (R_PutCell v1.1 (⟨(lget m v1.2).Row, (lget m v1.2).Col, (lget m v1.2).Time, (lget m v1.2).Gone, (lget m v1.2).Value⟩ : Cell)) fun x =>
  some (Sum.inl (x, w64 (v1.2 + 1)))
 else
  inrO (R_PutCells_J1 v1.1)
noncomputable def R_PutCells_L1 (m : List Cell) (v0 : List Cell × Int) : Option (List Cell) :=
 loopO (fun y => R_PutCells_B1 m y) v0
noncomputable def R_PutCells (l : List Cell) (m : List Cell) : Option (List Cell) :=
 R_PutCells_L1 m (l, 0)
theorem R_PutCells_ok (l : List Cell) (m : List Cell) (r : List Cell) (hF : R_PutCells l m = some r) : Pe Try.prog 90 S.none [.sl 5 (l.map e_Cell), .sl 5 (m.map e_Cell)] (.sl 5 (r.map e_Cell)) S.none := by
 refine PeN 19 [.tmp 4] [22] Ty.ok Fn.b90 Try.func90 ?_
 intro Q g hfin
 unfold R_PutCells at hF
 refine NR [] [0, 1] [] [] [] .nil ?_
 refine NR [] [0, 1, 5] [] [] [(5, .i 0)] .nil ?_
 refine NmeetP (fun v : List Cell => (⟨[(0, .sl 5 (v.map e_Cell))], [], [], [], []⟩ : S)) (fun v => R_PutCells_J1 v = some r) ?_ ?_
 ·refine Nblk ?_
  unfold R_PutCells_L1 at hF
  refine Niter (fun v1 : List Cell × Int => (⟨[(0, .sl 5 (v1.1.map e_Cell)), (1, .sl 5 (m.map e_Cell)), (5, .i v1.2)], [], [], [], []⟩ : S)) [] hF (by kernel_rfl) ?_
  intro n1 v1 y1 hF ih1 dn1
  unfold R_PutCells_B1 at hF
  refine NR [.nat (m.length : Int)] [0, 1, 5, 9] [] [] [(9, .bool (decide (v1.2 < (m.length : Int))))] (hc (len_ok e_Cell m) .nil) ?_
  refine Nif hF (fun hb hF => ?_) (fun hb hF => ?_)
  ·refine Nblk ?_
   obtain ⟨h0, hF⟩ := asrt_elim hF
   obtain ⟨x, h1, hF⟩ := ob_elim hF
   refine VR [.av (e_Cell (lget m v1.2)), .callE [] [] [] [] (.row 17 0) ⟨[], [], [(17, .z 96 5 0 (x.map e_Cell))], [], []⟩] [0, 1, 5] [] [17] [] [(0, .row 17 0)] [] [(17, .z 96 5 0 (x.map e_Cell))] [] (hc (idx_ok e_Cell h0) (hc (Pe.ren (R_PutCell_ok v1.1 (⟨(lget m v1.2).Row, (lget m v1.2).Col, (lget m v1.2).Time, (lget m v1.2).Gone, (lget m v1.2).Value⟩ : Cell) x h1) ⟨[], [(35, 17)], [], []⟩) .nil)) ?_
   refine NR [] [0, 1, 5] [] [17] [(5, .i (w64 (v1.2 + 1)))] .nil ?_
   refine Wk_sealX [] 0 rfl rfl ?_
   exact Nrnd [] hF ih1 (by kernel_rfl)
  ·refine Nexit rfl ?_
   have hF := inrO_done hF dn1
   exact metP v1.1 [] hF (by kernel_rfl)
 ·intro v hF
  have hF : R_PutCells_J1 v = some r := hF
  unfold R_PutCells_J1 at hF
  refine NR [] [4] [] [] [(4, .sl 5 (v.map e_Cell))] .nil ?_
  cases hF
  exact Wk_ret (hfin _ ⟨[], [], [], [], [], [], by kernel_rfl⟩)

/- tabularyref.PutNotes -/
noncomputable def R_PutNotes_J1 (v : List Cell) : Option (List Cell) :=
 some v
noncomputable def R_PutNotes_B1 (notes : List Note) (v1 : List Cell × Int) : Option ((List Cell × Int) ⊕ (List Cell)) :=
 if (decide (v1.2 < (notes.length : Int))) = true then
  asrt (0 ≤ v1.2 ∧ v1.2 < (notes.length : Int)) <|
  ob (R_PutCells v1.1 ((lget notes v1.2).Cells)) fun x =>
  some (Sum.inl (x, w64 (v1.2 + 1)))
 else
  inrO (R_PutNotes_J1 v1.1)
noncomputable def R_PutNotes_L1 (notes : List Note) (v0 : List Cell × Int) : Option (List Cell) :=
 loopO (fun y => R_PutNotes_B1 notes y) v0
noncomputable def R_PutNotes (l : List Cell) (notes : List Note) : Option (List Cell) :=
 R_PutNotes_L1 notes (l, 0)
theorem R_PutNotes_ok (l : List Cell) (notes : List Note) (r : List Cell) (hF : R_PutNotes l notes = some r) : Pe Try.prog 38 S.none [.sl 5 (l.map e_Cell), .sl 2 (notes.map e_Note)] (.sl 5 (r.map e_Cell)) S.none := by
 refine PeN 20 [.tmp 4] [22] Ty.ok Fn.b38 Try.func38 ?_
 intro Q g hfin
 unfold R_PutNotes at hF
 refine NR [] [0, 1] [] [] [] .nil ?_
 refine NR [] [0, 1, 5] [] [] [(5, .i 0)] .nil ?_
 refine NmeetP (fun v : List Cell => (⟨[(0, .sl 5 (v.map e_Cell))], [], [], [], []⟩ : S)) (fun v => R_PutNotes_J1 v = some r) ?_ ?_
 ·refine Nblk ?_
  unfold R_PutNotes_L1 at hF
  refine Niter (fun v1 : List Cell × Int => (⟨[(0, .sl 5 (v1.1.map e_Cell)), (1, .sl 2 (notes.map e_Note)), (5, .i v1.2)], [], [], [], []⟩ : S)) [] hF (by kernel_rfl) ?_
  intro n1 v1 y1 hF ih1 dn1
  unfold R_PutNotes_B1 at hF
  refine NR [.nat (notes.length : Int)] [0, 1, 5, 9] [] [] [(9, .bool (decide (v1.2 < (notes.length : Int))))] (hc (len_ok e_Note notes) .nil) ?_
  refine Nif hF (fun hb hF => ?_) (fun hb hF => ?_)
  ·refine Nblk ?_
   obtain ⟨h0, hF⟩ := asrt_elim hF
   obtain ⟨x, h1, hF⟩ := ob_elim hF
   refine NR [.av (e_Note (lget notes v1.2)), .call (.sl 5 (x.map e_Cell))] [0, 1, 5] [] [] [(0, .sl 5 (x.map e_Cell))] (hc (idx_ok e_Note h0) (hc (R_PutCells_ok v1.1 ((lget notes v1.2).Cells) x h1) .nil)) ?_
   refine NR [] [0, 1, 5] [] [] [(5, .i (w64 (v1.2 + 1)))] .nil ?_
   exact Nrnd [] hF ih1 (by kernel_rfl)
  ·refine Nexit rfl ?_
   have hF := inrO_done hF dn1
   exact metP v1.1 [] hF (by kernel_rfl)
 ·intro v hF
  have hF : R_PutNotes_J1 v = some r := hF
  unfold R_PutNotes_J1 at hF
  refine NR [] [4] [] [] [(4, .sl 5 (v.map e_Cell))] .nil ?_
  cases hF
  exact Wk_ret (hfin _ ⟨[], [], [], [], [], [], by kernel_rfl⟩)

/- tabularylaw.WalApplies$1 -/
noncomputable def law_WalApplies_1 (box : List Cell) : List Cell :=
 box
theorem law_WalApplies_1_ok (box : List Cell) (r : List Cell) (hF : law_WalApplies_1 box = r) : Pe Try.prog 40 ⟨[], [(100000, [.sl 5 (box.map e_Cell)])], [], [], []⟩ [.ptr 100000 0] (.sl 5 (r.map e_Cell)) ⟨[], [(100000, [.sl 5 (box.map e_Cell)])], [], [], []⟩ := by
 refine PeN 3 [.tmp 1] [22] Ty.ok Fn.b40 Try.func40 ?_
 intro Q g hfin
 unfold law_WalApplies_1 at hF
 refine NR [] [0] [100000] [] [] .nil ?_
 refine NR [] [1] [100000] [] [(1, .sl 5 (box.map e_Cell))] .nil ?_
 cases hF
 exact Wk_ret (hfin _ ⟨[], [100000], [], [], [], [], by kernel_rfl⟩)

/- tabularylaw.cellsAs -/
noncomputable def law_cellsAs (l : List Cell) (f : Fault) (w0 : Fault) (box : List Cell) : Option Bool :=
 if (!(decide (f.Code = w0.Code) && (decide (f.At = w0.At) && true))) = true then
  some false
 else
  if (!decide (w0.Code = 0)) = true then
   some (decide ((l.length : Int) = 0))
  else
   lt (law_WalApplies_1 box) fun x =>
   ob (R_SameCells l x) fun x1 =>
   some x1
theorem law_cellsAs_ok (l : List Cell) (f : Fault) (w0 : Fault) (box : List Cell) (r : Bool) (hF : law_cellsAs l f w0 box = some r) : Pe Try.prog 39 ⟨[], [(100000, [.sl 5 (box.map e_Cell)])], [], [], []⟩ [.sl 5 (l.map e_Cell), .agg (c_Fault f), .agg (c_Fault w0), .fn 40 [.ptr 100000 0]] (.bool r) ⟨[], [(100000, [.sl 5 (box.map e_Cell)])], [], [], []⟩ := by
 refine PeN 22 [.tmp 8] [4] Ty.ok Fn.b39 Try.func39 ?_
 intro Q g hfin
 unfold law_cellsAs at hF
 refine VR [] [0, 3, 5, 6] [5, 6, 100000] [] [] [(5, .ptr 5 0), (6, .ptr 6 0)] [(5, (c_Fault f)), (6, (c_Fault w0))] [] [] .nil ?_
 refine NR [] [0, 3, 6, 11] [6, 100000] [] [(11, .bool (!(decide (f.Code = w0.Code) && (decide (f.At = w0.At) && true))))] .nil ?_
 refine Nif hF (fun hb hF => ?_) (fun hb hF => ?_)
 ·refine NR [] [8] [100000] [] [(8, .bool false)] .nil ?_
  cases hF
  exact Wk_ret (hfin _ ⟨[], [100000], [], [], [], [], by kernel_rfl⟩)
 ·refine NR [] [0, 3, 14] [100000] [] [(14, .bool (!decide (w0.Code = 0)))] .nil ?_
  refine Nif hF (fun hb hF => ?_) (fun hb hF => ?_)
  ·refine NR [.nat (l.length : Int)] [8] [100000] [] [(8, .bool (decide ((l.length : Int) = 0)))] (hc (len_ok e_Cell l) .nil) ?_
   cases hF
   exact Wk_ret (hfin _ ⟨[], [100000], [], [], [], [], by kernel_rfl⟩)
  ·obtain ⟨x, h0, hF⟩ := lt_split hF
   obtain ⟨x1, h1, hF⟩ := ob_elim hF
   refine NR [.callR [100000] [] [] [] (.sl 5 (x.map e_Cell)), .callB (.bool x1)] [8] [100000] [] [(8, .bool x1)] (hc (Pe.ren (law_WalApplies_1_ok box x h0) ⟨[], [], [], []⟩) (hc (R_SameCells_ok l x x1 h1) .nil)) ?_
   cases hF
   exact Wk_ret (hfin _ ⟨[], [100000], [], [], [], [], by kernel_rfl⟩)

/- tabularylaw.WalApplies -/
noncomputable def law_WalApplies_J1 (l : List Cell) (notes : List Note) (at0 : Int) (x5 : List Cell × Fault) (v1 : Fault × Fault) : Option Bool :=
 ob (
  if (decide (v1.2.Code = 0)) = true then
   ob (law_ownCells_v1 l) fun x10 =>
   ob (R_PutNotes x10 notes) fun x11 =>
   if (decide (1000 < (x11.length : Int))) = true then
    lt (R_F 9 (-1)) fun x12 =>
    some (v1.1, x12, x11)
   else
    some (v1.1, v1.2, x11)
  else
   some (v1.1, v1.2, ([] : List Cell))) fun (v2 : Fault × Fault × List Cell) =>
 ob (law_cellsAs x5.1 v2.1 v2.2.1 v2.2.2) fun x13 =>
 if (!x13) = true then
  some false
 else
  if (((!decide (v2.2.1.Code = 0)) || (decide (at0 < 0))) || (decide ((notes.length : Int) < at0))) = true then
   some true
  else
   asrt (0 ≤ at0 ∧ at0 ≤ (notes.length : Int)) <|
   ob (wal_Apply_v1 l (ltake notes at0)) fun x14 =>
   if (!decide (x14.2.Code = 0)) = true then
    some false
   else
    asrt (0 ≤ at0 ∧ at0 ≤ (notes.length : Int)) <|
    ob (wal_Apply_v1 x14.1 (ldrop notes at0)) fun x15 =>
    ob (if (decide (x15.2.Code = 0)) = true then (R_SameCells x15.1 x5.1) else some default) fun x16 =>
    some ((decide (x15.2.Code = 0)) && x16)
noncomputable def law_WalApplies_B1 (l : List Cell) (notes : List Note) (at0 : Int) (x5 : List Cell × Fault) (v3 : Fault × Fault × Int) : Option ((Fault × Fault × Int) ⊕ Bool) :=
 if ((decide (v3.2.2 < (notes.length : Int))) && (decide (v3.2.1.Code = 0))) = true then
  asrt (0 ≤ v3.2.2 ∧ v3.2.2 < (notes.length : Int)) <|
  ob (R_NoteFault (⟨(lget notes v3.2.2).Seq, (lget notes v3.2.2).Cells⟩ : Note)) fun x17 =>
  ob (
   if (!decide (x17.Code = 0)) = true then
    asrt (0 ≤ v3.2.2 ∧ v3.2.2 < (notes.length : Int)) <|
    ob (R_NoteFault (⟨(lget notes v3.2.2).Seq, (lget notes v3.2.2).Cells⟩ : Note)) fun x18 =>
    lt (R_F x18.Code v3.2.2) fun x19 =>
    some (v3.1, x19)
   else
    some (v3.1, v3.2.1)) fun (v4 : Fault × Fault) =>
  some (Sum.inl (v4.1, v4.2, w64 (v3.2.2 + 1)))
 else
  inrO (law_WalApplies_J1 l notes at0 x5 (v3.1, v3.2.1))
noncomputable def law_WalApplies_L1 (l : List Cell) (notes : List Note) (at0 : Int) (x5 : List Cell × Fault) (v0 : Fault × Fault × Int) : Option Bool :=
 loopO (fun y => law_WalApplies_B1 l notes at0 x5 y) v0
noncomputable def law_WalApplies (l : List Cell) (notes : List Note) (at0 : Int) : Option Bool :=
 ob (law_walBegun) fun x =>
 if (!x) = true then
  some false
 else
  ob (law_vastNotes notes) fun x1 =>
  lt (law_many (l.length : Int)) fun x2 =>
  if (x1 || x2) = true then
   some true
  else
   ob (law_ownCells_v1 l) fun x3 =>
   ob (law_ownNotes_v1 notes) fun x4 =>
   ob (wal_Apply_v1 x3 x4) fun x5 =>
   ob (R_SameCells x3 l) fun x6 =>
   ob (if (!(!x6)) = true then (R_SameNotes x4 notes) else some default) fun x7 =>
   if ((!x6) || (!x7)) = true then
    some false
   else
    ob (R_CellsFault l) fun x8 =>
    ob (
     if ((decide (x8.Code = 0)) && (decide (1000 < (notes.length : Int)))) = true then
      lt (R_F 2 (-1)) fun x9 =>
      some (x5.2, x9)
     else
      some (x5.2, x8)) fun (v : Fault × Fault) =>
    law_WalApplies_L1 l notes at0 x5 (v.1, v.2, 0)
theorem law_WalApplies_ok (l : List Cell) (notes : List Note) (at0 : Int) (r : Bool) (hF : law_WalApplies l notes at0 = some r) : Pe Try.prog 6 S.none [.sl 5 (l.map e_Cell), .sl 2 (notes.map e_Note), .i at0] (.bool r) S.none := by
 refine PeN 138 [.tmp 6] [4] Ty.ok Fn.b6 Try.func6 ?_
 intro Q g hfin
 unfold law_WalApplies at hF
 refine NR [] [0, 1, 2] [] [] [] .nil ?_
 obtain ⟨x, h0, hF⟩ := ob_elim hF
 refine NR [.callB (.bool x)] [0, 1, 2, 16] [] [] [(16, .bool (!x))] (hc (law_walBegun_ok  x h0) .nil) ?_
 refine Nif hF (fun hb hF => ?_) (fun hb hF => ?_)
 ·refine NR [] [6] [] [] [(6, .bool false)] .nil ?_
  cases hF
  exact Wk_ret (hfin _ ⟨[], [], [], [], [], [], by kernel_rfl⟩)
 ·obtain ⟨x1, h1, hF⟩ := ob_elim hF
  obtain ⟨x2, h2, hF⟩ := lt_split hF
  refine NR [.callB (.bool x1), .nat (l.length : Int), .callB (.bool x2)] [0, 1, 2, 23] [] [] [(23, .bool (x1 || x2))] (hc (law_vastNotes_ok notes x1 h1) (hc (fun (_ : (!x1) = true) => (len_ok e_Cell l)) (hc (fun (ga0 : (!x1) = true) => (law_many_ok (l.length : Int) x2 h2)) .nil))) ?_
  refine Nif hF (fun hb hF => ?_) (fun hb hF => ?_)
  ·refine NR [] [6] [] [] [(6, .bool true)] .nil ?_
   cases hF
   exact Wk_ret (hfin _ ⟨[], [], [], [], [], [], by kernel_rfl⟩)
  ·obtain ⟨x3, h3, hF⟩ := ob_elim hF
   refine NR [.call (.sl 5 (x3.map e_Cell))] [0, 1, 2, 7] [] [] [(7, .sl 5 (x3.map e_Cell))] (hc (law_ownCells_v1_ok l x3 h3) .nil) ?_
   obtain ⟨x4, h4, hF⟩ := ob_elim hF
   refine NR [.call (.sl 2 (x4.map e_Note))] [0, 1, 2, 7, 8] [] [] [(8, .sl 2 (x4.map e_Note))] (hc (law_ownNotes_v1_ok notes x4 h4) .nil) ?_
   obtain ⟨x5, h5, hF⟩ := ob_elim hF
   refine VR [.call (.tup [.sl 5 (x5.1.map e_Cell), .agg (c_Fault x5.2)])] [0, 1, 2, 7, 8, 9, 10] [10] [] [] [(9, .sl 5 (x5.1.map e_Cell)), (10, .ptr 10 0)] [(10, (c_Fault x5.2))] [] [] (hc (wal_Apply_v1_ok x3 x4 x5 h5) .nil) ?_
   obtain ⟨x6, h6, hF⟩ := ob_elim hF
   obtain ⟨x7, h7, hF⟩ := ob_elim hF
   refine NR [.callB (.bool x6), .callB (.bool x7)] [0, 1, 2, 9, 10, 43] [10] [] [(43, .bool ((!x6) || (!x7)))] (hc (R_SameCells_ok x3 l x6 h6) (hc (fun (ga0 : (!(!x6)) = true) => (R_SameNotes_ok x4 notes x7 (ite_t h7 ga0))) .nil)) ?_
   refine Nif hF (fun hb hF => ?_) (fun hb hF => ?_)
   ·refine NR [] [6] [] [] [(6, .bool false)] .nil ?_
    cases hF
    exact Wk_ret (hfin _ ⟨[], [], [], [], [], [], by kernel_rfl⟩)
   ·obtain ⟨x8, h8, hF⟩ := ob_elim hF
    refine VR [.callB (.agg (c_Fault x8))] [0, 1, 2, 9, 10, 11] [10, 11] [] [] [(11, .ptr 11 0)] [(11, (c_Fault x8))] [] [] (hc (R_CellsFault_ok l x8 h8) .nil) ?_
    refine NR [.nat (notes.length : Int)] [0, 1, 2, 9, 10, 11, 53] [10, 11] [] [(53, .bool ((decide (x8.Code = 0)) && (decide (1000 < (notes.length : Int)))))] (hc (fun (_ : (decide (x8.Code = 0)) = true) => (len_ok e_Note notes)) .nil) ?_
    obtain ⟨v, hv, hF⟩ := ob_elim hF
    refine Nmeet (⟨[(0, .sl 5 (l.map e_Cell)), (1, .sl 2 (notes.map e_Note)), (2, .i at0), (9, .sl 5 (x5.1.map e_Cell)), (10, .ptr 10 0), (11, .ptr 11 0)], [(10, (c_Fault v.1)), (11, (c_Fault v.2))], [], [], []⟩ : S) ?_ ?_
    ·have hF := hv
     refine Nif hF (fun hb hF => ?_) (fun hb hF => ?_)
     ·obtain ⟨x9, h9, hF⟩ := lt_split hF
      refine VR [.callB (.agg (c_Fault x9))] [0, 1, 2, 9, 10, 11] [10, 11] [] [] [] [(11, (c_Fault x9))] [] [] (hc (R_F_ok 2 (-1) x9 h9) .nil) ?_
      cases hF
      exact met [] (by kernel_rfl)
     ·cases hF
      exact met [] (by kernel_rfl)
    ·refine NR [] [0, 1, 2, 9, 10, 11, 12] [10, 11] [] [(12, .i 0)] .nil ?_
     refine NmeetP (fun v1 : Fault × Fault => (⟨[(0, .sl 5 (l.map e_Cell)), (1, .sl 2 (notes.map e_Note)), (2, .i at0), (9, .sl 5 (x5.1.map e_Cell)), (10, .ptr 10 0), (11, .ptr 11 0)], [(10, (c_Fault v1.1)), (11, (c_Fault v1.2))], [], [], []⟩ : S)) (fun v1 => law_WalApplies_J1 l notes at0 x5 v1 = some r) ?_ ?_
     ·refine Nblk ?_
      unfold law_WalApplies_L1 at hF
      refine Niter (fun v3 : Fault × Fault × Int => (⟨[(0, .sl 5 (l.map e_Cell)), (1, .sl 2 (notes.map e_Note)), (2, .i at0), (9, .sl 5 (x5.1.map e_Cell)), (10, .ptr 10 0), (11, .ptr 11 0), (12, .i v3.2.2)], [(10, (c_Fault v3.1)), (11, (c_Fault v3.2.1))], [], [], []⟩ : S)) [] hF (by kernel_rfl) ?_
      intro n1 v3 y1 hF ih1 dn1
      unfold law_WalApplies_B1 at hF
      refine NR [.nat (notes.length : Int)] [0, 1, 2, 9, 10, 11, 12, 63] [10, 11] [] [(63, .bool ((decide (v3.2.2 < (notes.length : Int))) && (decide (v3.2.1.Code = 0))))] (hc (len_ok e_Note notes) .nil) ?_
      refine Nif hF (fun hb hF => ?_) (fun hb hF => ?_)
      ·refine Nblk ?_
       obtain ⟨h19, hF⟩ := asrt_elim hF
       obtain ⟨x17, h20, hF⟩ := ob_elim hF
       refine NR [.av (e_Note (lget notes v3.2.2)), .callB (.agg (c_Fault x17))] [0, 1, 2, 9, 10, 11, 12, 72] [10, 11] [] [(72, .bool (!decide (x17.Code = 0)))] (hc (idx_ok e_Note h19) (hc (R_NoteFault_ok (⟨(lget notes v3.2.2).Seq, (lget notes v3.2.2).Cells⟩ : Note) x17 h20) .nil)) ?_
       obtain ⟨v4, hv, hF⟩ := ob_elim hF
       refine Nmeet (⟨[(0, .sl 5 (l.map e_Cell)), (1, .sl 2 (notes.map e_Note)), (2, .i at0), (9, .sl 5 (x5.1.map e_Cell)), (10, .ptr 10 0), (11, .ptr 11 0), (12, .i v3.2.2)], [(10, (c_Fault v4.1)), (11, (c_Fault v4.2))], [], [], []⟩ : S) ?_ ?_
       ·have hF := hv
        refine Nif hF (fun hb hF => ?_) (fun hb hF => ?_)
        ·obtain ⟨h21, hF⟩ := asrt_elim hF
         obtain ⟨x18, h22, hF⟩ := ob_elim hF
         obtain ⟨x19, h23, hF⟩ := lt_split hF
         refine VR [.av (e_Note (lget notes v3.2.2)), .callB (.agg (c_Fault x18)), .callB (.agg (c_Fault x19))] [0, 1, 2, 9, 10, 11, 12] [10, 11] [] [] [] [(11, (c_Fault x19))] [] [] (hc (idx_ok e_Note h21) (hc (R_NoteFault_ok (⟨(lget notes v3.2.2).Seq, (lget notes v3.2.2).Cells⟩ : Note) x18 h22) (hc (R_F_ok x18.Code v3.2.2 x19 h23) .nil))) ?_
         cases hF
         exact met [] (by kernel_rfl)
        ·cases hF
         exact met [] (by kernel_rfl)
       ·refine NR [] [0, 1, 2, 9, 10, 11, 12] [10, 11] [] [(12, .i (w64 (v3.2.2 + 1)))] .nil ?_
        exact Nrnd [] hF ih1 (by kernel_rfl)
      ·refine Nexit rfl ?_
       have hF := inrO_done hF dn1
       exact metP (v3.1, v3.2.1) [] hF (by kernel_rfl)
     ·intro v1 hF
      have hF : law_WalApplies_J1 l notes at0 x5 v1 = some r := hF
      unfold law_WalApplies_J1 at hF
      refine VR [] [0, 1, 2, 9, 10, 11, 13] [10, 11, 13] [] [] [(13, .ptr 13 0)] [(13, [.nils])] [] [] .nil ?_
      refine NR [] [0, 1, 2, 9, 10, 11, 13, 83] [10, 11, 13] [] [(83, .bool (decide (v1.2.Code = 0)))] .nil ?_
      obtain ⟨v2, hv, hF⟩ := ob_elim hF
      refine Nmeet (⟨[(0, .sl 5 (l.map e_Cell)), (1, .sl 2 (notes.map e_Note)), (2, .i at0), (9, .sl 5 (x5.1.map e_Cell)), (10, .ptr 10 0), (11, .ptr 11 0), (13, .ptr 13 0)], [(10, (c_Fault v2.1)), (11, (c_Fault v2.2.1)), (13, [.sl 5 (v2.2.2.map e_Cell)])], [], [], []⟩ : S) ?_ ?_
      ·have hF := hv
       refine Nif hF (fun hb hF => ?_) (fun hb hF => ?_)
       ·obtain ⟨x10, h10, hF⟩ := ob_elim hF
        obtain ⟨x11, h11, hF⟩ := ob_elim hF
        refine VR [.call (.sl 5 (x10.map e_Cell)), .call (.sl 5 (x11.map e_Cell))] [0, 1, 2, 9, 10, 11, 13] [10, 11, 13] [] [] [] [(13, [.sl 5 (x11.map e_Cell)])] [] [] (hc (law_ownCells_v1_ok l x10 h10) (hc (R_PutNotes_ok x10 notes x11 h11) .nil)) ?_
        refine NR [.nat (x11.length : Int)] [0, 1, 2, 9, 10, 11, 13, 90] [10, 11, 13] [] [(90, .bool (decide (1000 < (x11.length : Int))))] (hc (len_ok e_Cell x11) .nil) ?_
        refine Nif hF (fun hb hF => ?_) (fun hb hF => ?_)
        ·obtain ⟨x12, h12, hF⟩ := lt_split hF
         refine VR [.callB (.agg (c_Fault x12))] [0, 1, 2, 9, 10, 11, 13] [10, 11, 13] [] [] [] [(11, (c_Fault x12))] [] [] (hc (R_F_ok 9 (-1) x12 h12) .nil) ?_
         cases hF
         exact met [] (by kernel_rfl)
        ·cases hF
         exact met [] (by kernel_rfl)
       ·refine Wk_coeB 13 [.sl 5 (([] : List Cell).map e_Cell)] rfl (.cons (CoeS.nils 5) .nil) ?_
        cases hF
        exact met [] (by kernel_rfl)
      ·obtain ⟨x13, h13, hF⟩ := ob_elim hF
       refine NR [.callR [13] [] [] [] (.bool x13)] [0, 1, 2, 9, 10, 11, 97] [10, 11] [] [(97, .bool (!x13))] (hc (Pe.ren (law_cellsAs_ok x5.1 v2.1 v2.2.1 v2.2.2 x13 h13) ⟨[(100000, 13)], [], [], []⟩) .nil) ?_
       refine Nif hF (fun hb hF => ?_) (fun hb hF => ?_)
       ·refine NR [] [6] [] [] [(6, .bool false)] .nil ?_
        cases hF
        exact Wk_ret (hfin _ ⟨[], [], [], [], [], [], by kernel_rfl⟩)
       ·refine NR [.nat (notes.length : Int)] [0, 1, 2, 9, 10, 110] [10] [] [(110, .bool (((!decide (v2.2.1.Code = 0)) || (decide (at0 < 0))) || (decide ((notes.length : Int) < at0))))] (hc (fun (_ : (!((!decide (v2.2.1.Code = 0)) || (decide (at0 < 0)))) = true) => (len_ok e_Note notes)) .nil) ?_
        refine Nif hF (fun hb hF => ?_) (fun hb hF => ?_)
        ·refine NR [] [6] [] [] [(6, .bool true)] .nil ?_
         cases hF
         exact Wk_ret (hfin _ ⟨[], [], [], [], [], [], by kernel_rfl⟩)
        ·obtain ⟨h14, hF⟩ := asrt_elim hF
         obtain ⟨x14, h15, hF⟩ := ob_elim hF
         refine VR [.xs ((ltake notes at0).map e_Note), .call (.tup [.sl 5 (x14.1.map e_Cell), .agg (c_Fault x14.2)])] [1, 2, 9, 10, 14] [10] [] [] [(14, .sl 5 (x14.1.map e_Cell))] [(10, (c_Fault x14.2))] [] [] (hc (sl01_ok e_Note h14) (hc (wal_Apply_v1_ok l (ltake notes at0) x14 h15) .nil)) ?_
         refine NR [] [1, 2, 9, 10, 14, 121] [10] [] [(121, .bool (!decide (x14.2.Code = 0)))] .nil ?_
         refine Nif hF (fun hb hF => ?_) (fun hb hF => ?_)
         ·refine NR [] [6] [] [] [(6, .bool false)] .nil ?_
          cases hF
          exact Wk_ret (hfin _ ⟨[], [], [], [], [], [], by kernel_rfl⟩)
         ·obtain ⟨h16, hF⟩ := asrt_elim hF
          obtain ⟨x15, h17, hF⟩ := ob_elim hF
          refine VR [.xs ((ldrop notes at0).map e_Note), .call (.tup [.sl 5 (x15.1.map e_Cell), .agg (c_Fault x15.2)])] [9, 10, 14] [10] [] [] [(14, .sl 5 (x15.1.map e_Cell))] [(10, (c_Fault x15.2))] [] [] (hc (sl10_ok e_Note h16) (hc (wal_Apply_v1_ok x14.1 (ldrop notes at0) x15 h17) .nil)) ?_
          obtain ⟨x16, h18, hF⟩ := ob_elim hF
          refine NR [.callB (.bool x16)] [6] [] [] [(6, .bool ((decide (x15.2.Code = 0)) && x16))] (hc (fun (ga0 : (decide (x15.2.Code = 0)) = true) => (R_SameCells_ok x15.1 x5.1 x16 (ite_t h18 ga0))) .nil) ?_
          cases hF
          exact Wk_ret (hfin _ ⟨[], [], [], [], [], [], by kernel_rfl⟩)

end G
end Go.Proofs.Ytollmifjbcccgaa
