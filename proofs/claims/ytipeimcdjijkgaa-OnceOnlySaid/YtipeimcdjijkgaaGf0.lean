/- The program's functions as plain functions, and that they are these. Written by a program (dec2.py). -/
import Derived.Test.YtipeimcdjijkgaaTys
namespace Go.Proofs.Ytipeimcdjijkgaa
open Go Go.Dm
set_option linter.unusedVariables false
set_option linter.unusedSimpArgs false
set_option maxRecDepth 100000
namespace G
/- tabularylaw.putCall -/
noncomputable def law_putCall  : Call :=
  (⟨5, 1, 1, ([114] : List UInt8), ([97] : List UInt8), ([] : List UInt8)⟩ : Call)
theorem law_putCall_ok  (r : Call) (hF : law_putCall  = r) : Pe Try.prog 34 S.none [] (.agg (c_Call r)) S.none := by
  refine Pe_of (N := 2) (res := [.cell 0 30]) (ts := [30]) Ty.ok Fn.b34 Try.func34 rfl rfl rfl rfl rfl rfl ?_
  intro Q g hfin
  unfold law_putCall at hF
  refine URs [] [0] [0] [] [] [(0, .ptr 0 0)] [(0, [.i 0, .i 0, .i 0, .str [], .str [], .str []])] [] [] .nil ?_
  refine URs [] [0] [0] [] [] [] [(0, [.i 5, .i 1, .i 1, .str ([114] : List UInt8), .str ([97] : List UInt8), .str []])] [] [] .nil ?_
  exact Wk_ret (hfin _ ⟨[], [], [], [], [], [], by first | (rw [← hF]; kernel_rfl) | kernel_rfl⟩)

/- once.fault -/
noncomputable def once_fault (code : Int) (at0 : Int) : Fault :=
  (⟨code, at0⟩ : Fault)
theorem once_fault_ok (code : Int) (at0 : Int) (r : Fault) (hF : once_fault code at0 = r) : Pe Try.prog 41 S.none [.i code, .i at0] (.agg [.i r.Code, .i r.At]) S.none := by
  refine Pe_of (N := 8) (res := [.cell 4 32]) (ts := [32]) Ty.ok Fn.b41 Try.func41 rfl rfl rfl rfl rfl rfl ?_
  intro Q g hfin
  unfold once_fault at hF
  refine URs [] [0, 1, 4] [4] [] [] [(4, .ptr 4 0)] [(4, [.i 0, .i 0])] [] [] .nil ?_
  refine URs [] [4] [4] [] [] [] [(4, [.i code, .i at0])] [] [] .nil ?_
  exact Wk_ret (hfin _ ⟨[], [], [], [], [], [], by first | (rw [← hF]; kernel_rfl) | kernel_rfl⟩)

/- once.rowed -/
noncomputable def once_rowed (row : List UInt8) : Bool :=
  lt ((!decide (row = ([] : List UInt8))) && (decide ((row.length : Int) ≤ 40))) fun (v : Bool) =>
  v
theorem once_rowed_ok (row : List UInt8) (r : Bool) (hF : once_rowed row = r) : Pe Try.prog 68 S.none [.str row] (.bool r) S.none := by
  refine Pe_of (N := 10) (res := [.tmp 2]) (ts := [4]) Ty.ok Fn.b68 Try.func68 rfl rfl rfl rfl rfl rfl ?_
  intro Q g hfin
  unfold once_rowed at hF
  refine ZRs [] [0] [] [] [] .nil ?_
  refine Wk_seq ?_
  refine WRL ((!decide (row = ([] : List UInt8))) && (decide ((row.length : Int) ≤ 40))) (fun v : Bool => ⟨[(2, .bool v)], [], [], [], []⟩) [] [2] [] [] [] [] [] .nil (by kernel_rfl) (fun v hv => ?_)
  have hF := lt_elim hF hv
  exact Wk_ret (hfin _ ⟨[], [], [], [], [], [], by first | (rw [← hF]; kernel_rfl) | kernel_rfl⟩)

/- once.checkRows -/
noncomputable def once_checkRows_J1 (v : Unit) : Option Fault :=
  some (⟨0, 0⟩ : Fault)
noncomputable def once_checkRows_B1 (l : List Pair) (v1 : Int) : Option (Int ⊕ Fault) :=
  if (decide (v1 < (l.length : Int))) = true then
    asrt (0 ≤ v1 ∧ v1 < (l.length : Int)) <|
    lt (once_rowed ((lget l v1).Row)) fun x1 =>
    if ((!x1) || (decide (200 < (((lget l v1).Value).length : Int)))) = true then
      lt (once_fault 8 v1) fun x2 =>
      some (Sum.inr x2)
    else
      asrt ((decide (0 < v1)) = true → 0 ≤ w64 (v1 - 1) ∧ w64 (v1 - 1) < (l.length : Int)) <|
      if ((decide (0 < v1)) && (!Op.bytesLess ((lget l (w64 (v1 - 1))).Row) ((lget l v1).Row))) = true then
        lt (once_fault 10 v1) fun x3 =>
        some (Sum.inr x3)
      else
        some (Sum.inl (w64 (v1 + 1)))
  else
    inrO (once_checkRows_J1 ())
noncomputable def once_checkRows_L1 (l : List Pair) (v0 : Int) : Option Fault :=
  loopO (fun y => once_checkRows_B1 l y) v0
noncomputable def once_checkRows (l : List Pair) : Option Fault :=
  if (decide (1000 < (l.length : Int))) = true then
    lt (once_fault 2 (-1)) fun x =>
    some x
  else
    once_checkRows_L1 l 0
theorem once_checkRows_ok (l : List Pair) (r : Fault) (hF : once_checkRows l = some r) : Pe Try.prog 48 S.none [.sl 2 (l.map e_Pair)] (.agg [.i r.Code, .i r.At]) S.none := by
  refine Pe_of (N := 47) (res := [.cell 2 32]) (ts := [32]) Ty.ok Fn.b48 Try.func48 rfl rfl rfl rfl rfl rfl ?_
  intro Q g hfin
  unfold once_checkRows at hF
  refine URs [] [0, 2] [2] [] [] [(2, .ptr 2 0)] [(2, [.i 0, .i 0])] [] [] .nil ?_
  refine Wk_seq ?_
  refine ZRs [.nat (l.length : Int)] [0, 2, 7] [2] [] [(7, .bool (decide (1000 < (l.length : Int))))] (.cons (len_ok e_Pair l) .nil) ?_
  refine Wk_split rfl (fun hb => ?_) (fun hb => ?_)
  · have hF := ite_t hF hb
    refine Wk_seq ?_
    obtain ⟨x, h0, hF⟩ := lt_split hF
    refine UR [.callB (.agg [.i x.Code, .i x.At])] [2] [2] [] [] [] [(2, [.i x.Code, .i x.At])] [] [] (.cons (once_fault_ok 2 (-1) x h0) .nil) ?_
    have hF := some_elim hF
    exact Wk_ret (hfin _ ⟨[], [], [], [], [], [], by first | (rw [← hF]; kernel_rfl) | kernel_rfl⟩)
  · have hF := ite_f hF hb
    refine Wk_skip ?_
    refine Wk_seq ?_
    refine ZRs [.nat (l.length : Int)] [0, 2, 9, 10, 11] [2] [] [(9, .sl 2 (l.map e_Pair)), (10, .i (l.length : Int)), (11, .i 0)] (.cons (len_ok e_Pair l) .nil) ?_
    refine Wk_meetP (fun v : Unit => (⟨[(2, .ptr 2 0)], [(2, [.i 0, .i 0])], [], [], []⟩ : S)) (fun v => once_checkRows_J1 v = some r) ?_ ?_
    · refine Wk_block ?_
      unfold once_checkRows_L1 at hF
      refine Wk_trim (fs := [0, 2, 9, 10, 11]) (bs := [2]) (rs := []) (ms := []) (aa := []) (nv := []) (t := (fun v1 : Int => (⟨[(0, .sl 2 (l.map e_Pair)), (2, .ptr 2 0), (9, .sl 2 (l.map e_Pair)), (10, .i (l.length : Int)), (11, .i v1)], [(2, [.i 0, .i 0])], [], [], []⟩ : S)) 0) (by kernel_rfl) ?_
      refine Wk_iter (step := fun y => once_checkRows_B1 l y) (r := r) (fun v1 : Int => (⟨[(0, .sl 2 (l.map e_Pair)), (2, .ptr 2 0), (9, .sl 2 (l.map e_Pair)), (10, .i (l.length : Int)), (11, .i v1)], [(2, [.i 0, .i 0])], [], [], []⟩ : S)) 0 hF ?_
      intro n1 v1 y1 hF ih1 dn1
      have hF : once_checkRows_B1 l v1 = some y1 := hF
      unfold once_checkRows_B1 at hF
      refine ZRs [] [0, 2, 9, 10, 11, 12] [2] [] [(12, .bool (decide (v1 < (l.length : Int))))] .nil ?_
      refine Wk_seq ?_
      refine Wk_split rfl (fun hb => ?_) (fun hb => ?_)
      · have hF := ite_t hF hb
        refine Wk_skip ?_
        refine Wk_seq ?_
        refine Wk_block ?_
        refine Wk_seq ?_
        obtain ⟨h1, hF⟩ := asrt_elim hF
        refine UR [.av (e_Pair (lget l v1))] [0, 2, 3, 4, 9, 10, 11] [2, 4] [] [] [(3, .i v1), (4, .ptr 4 0)] [(4, [.str ((lget l v1).Row), .str ((lget l v1).Value)])] [] [] (.cons (idx_ok e_Pair h1) .nil) ?_
        refine Wk_block ?_
        refine Wk_seq ?_
        obtain ⟨x1, h2, hF⟩ := lt_split hF
        refine ZR [.callB (.bool x1)] [0, 2, 3, 4, 9, 10, 11, 16] [2, 4] [] [(16, .bool ((!x1) || (decide (200 < (((lget l v1).Value).length : Int)))))] (.cons (once_rowed_ok ((lget l v1).Row) x1 h2) .nil) ?_
        refine Wk_split rfl (fun hb => ?_) (fun hb => ?_)
        · have hF := ite_t hF hb
          refine Wk_seq ?_
          obtain ⟨x2, h3, hF⟩ := lt_split hF
          refine UR [.callB (.agg [.i x2.Code, .i x2.At])] [2] [2] [] [] [] [(2, [.i x2.Code, .i x2.At])] [] [] (.cons (once_fault_ok 8 v1 x2 h3) .nil) ?_
          have hF := ret_done hF dn1
          have hF := some_elim hF
          exact Wk_ret (hfin _ ⟨[], [], [], [], [], [], by first | (rw [← hF]; kernel_rfl) | kernel_rfl⟩)
        · have hF := ite_f hF hb
          refine Wk_seq ?_
          obtain ⟨h4, hF⟩ := asrt_elim hF
          refine ZD [.av (e_Pair (lget l (w64 (v1 - 1))))] [0, 2, 3, 9, 10, 11, 29] [2] [] [(29, .bool ((decide (0 < v1)) && (!Op.bytesLess ((lget l (w64 (v1 - 1))).Row) ((lget l v1).Row))))] (.cons (fun (ga0 : (decide (0 < v1)) = true) => (idx_ok e_Pair (h4 ga0))) .nil) ?_
          refine Wk_split rfl (fun hb => ?_) (fun hb => ?_)
          · have hF := ite_t hF hb
            refine Wk_seq ?_
            obtain ⟨x3, h5, hF⟩ := lt_split hF
            refine UR [.callB (.agg [.i x3.Code, .i x3.At])] [2] [2] [] [] [] [(2, [.i x3.Code, .i x3.At])] [] [] (.cons (once_fault_ok 10 v1 x3 h5) .nil) ?_
            have hF := ret_done hF dn1
            have hF := some_elim hF
            exact Wk_ret (hfin _ ⟨[], [], [], [], [], [], by first | (rw [← hF]; kernel_rfl) | kernel_rfl⟩)
          · have hF := ite_f hF hb
            refine Wk_skip ?_
            refine Wk_blk ?_
            refine Wk_blk ?_
            refine ZR [] [0, 2, 9, 10, 11] [2] [] [(11, .i (w64 (v1 + 1)))] .nil ?_
            refine Wk_trim (fs := [0, 2, 9, 10, 11]) (bs := [2]) (rs := []) (ms := []) (aa := []) (nv := []) ?_ (ih1 _ (some_elim hF).symm)
            kernel_rfl
      · have hF := ite_f hF hb
        refine Wk_exit rfl ?_
        have hF := inrO_done hF dn1
        exact Wk_metP () [2] [2] [] [] [] [] hF (by kernel_rfl)
    · intro v hF
      have hF : once_checkRows_J1 v = some r := hF
      unfold once_checkRows_J1 at hF
      refine ZRs [] [2] [2] [] [] .nil ?_
      have hF := some_elim hF
      exact Wk_ret (hfin _ ⟨[], [], [], [], [], [], by first | (rw [← hF]; kernel_rfl) | kernel_rfl⟩)

/- once.number -/
noncomputable def once_number (num : Int) : Bool :=
  (decide (1 ≤ num)) && (decide (num ≤ 1000000000))
theorem once_number_ok (num : Int) (r : Bool) (hF : once_number num = r) : Pe Try.prog 49 S.none [.i num] (.bool r) S.none := by
  refine Pe_of (N := 9) (res := [.tmp 2]) (ts := [4]) Ty.ok Fn.b49 Try.func49 rfl rfl rfl rfl rfl rfl ?_
  intro Q g hfin
  unfold once_number at hF
  refine ZRs [] [0] [] [] [] .nil ?_
  refine ZRs [] [2] [] [] [(2, .bool ((decide (1 ≤ num)) && (decide (num ≤ 1000000000))))] .nil ?_
  exact Wk_ret (hfin _ ⟨[], [], [], [], [], [], by first | (rw [← hF]; kernel_rfl) | kernel_rfl⟩)

/- once.Check -/
noncomputable def once_Check_J1 (v : Unit) : Option Fault :=
  some (⟨0, 0⟩ : Fault)
noncomputable def once_Check_B1 (l : Ledger) (v1 : Int) : Option (Int ⊕ Fault) :=
  if (decide (v1 < (l.Memos.length : Int))) = true then
    asrt (0 ≤ v1 ∧ v1 < (l.Memos.length : Int)) <|
    lt (once_number ((lget l.Memos v1).Client)) fun x2 =>
    lt (once_number ((lget l.Memos v1).Seq)) fun x3 =>
    if ((!x2) || (!x3)) = true then
      lt (once_fault 3 (w64 ((-1000) - v1))) fun x4 =>
      some (Sum.inr x4)
    else
      if (decide (201 < (((lget l.Memos v1).Said).length : Int))) = true then
        lt (once_fault 8 (w64 ((-1000) - v1))) fun x5 =>
        some (Sum.inr x5)
      else
        asrt ((decide (0 < v1)) = true → 0 ≤ w64 (v1 - 1) ∧ w64 (v1 - 1) < (l.Memos.length : Int)) <|
        if ((decide (0 < v1)) && (decide (((lget l.Memos v1).Client) ≤ ((lget l.Memos (w64 (v1 - 1))).Client)))) = true then
          lt (once_fault 10 (w64 ((-1000) - v1))) fun x6 =>
          some (Sum.inr x6)
        else
          some (Sum.inl (w64 (v1 + 1)))
  else
    inrO (once_Check_J1 ())
noncomputable def once_Check_L1 (l : Ledger) (v0 : Int) : Option Fault :=
  loopO (fun y => once_Check_B1 l y) v0
noncomputable def once_Check (l : Ledger) : Option Fault :=
  ob (once_checkRows l.Rows) fun x =>
  if (!decide (x.Code = 0)) = true then
    some x
  else
    if (decide (1000 < (l.Memos.length : Int))) = true then
      lt (once_fault 2 (-2)) fun x1 =>
      some x1
    else
      once_Check_L1 l 0
theorem once_Check_ok (l : Ledger) (r : Fault) (hF : once_Check l = some r) : Pe Try.prog 16 S.none [.agg [.sl 2 (l.Rows.map e_Pair), .sl 3 (l.Memos.map e_Memo)]] (.agg [.i r.Code, .i r.At]) S.none := by
  refine Pe_of (N := 68) (res := [.cell 2 32]) (ts := [32]) Ty.ok Fn.b16 Try.func16 rfl rfl rfl rfl rfl rfl ?_
  intro Q g hfin
  unfold once_Check at hF
  refine URs [] [1, 2] [1, 2] [] [] [(1, .ptr 1 0), (2, .ptr 2 0)] [(1, [.sl 2 (l.Rows.map e_Pair), .sl 3 (l.Memos.map e_Memo)]), (2, [.i 0, .i 0])] [] [] .nil ?_
  refine Wk_seq ?_
  refine Wk_seq ?_
  obtain ⟨x, h0, hF⟩ := ob_elim hF
  refine UR [.callB (.agg [.i x.Code, .i x.At])] [1, 2, 3] [1, 2, 3] [] [] [(3, .ptr 3 0)] [(3, [.i x.Code, .i x.At])] [] [] (.cons (once_checkRows_ok l.Rows x h0) .nil) ?_
  refine ZRs [] [1, 2, 3, 11] [1, 2, 3] [] [(11, .bool (!decide (x.Code = 0)))] .nil ?_
  refine Wk_split rfl (fun hb => ?_) (fun hb => ?_)
  · have hF := ite_t hF hb
    refine URs [] [2] [2] [] [] [] [(2, [.i x.Code, .i x.At])] [] [] .nil ?_
    have hF := some_elim hF
    exact Wk_ret (hfin _ ⟨[], [], [], [], [], [], by first | (rw [← hF]; kernel_rfl) | kernel_rfl⟩)
  · have hF := ite_f hF hb
    refine Wk_skip ?_
    refine Wk_seq ?_
    refine ZRs [.nat (l.Memos.length : Int)] [1, 2, 16] [1, 2] [] [(16, .bool (decide (1000 < (l.Memos.length : Int))))] (.cons (len_ok e_Memo l.Memos) .nil) ?_
    refine Wk_split rfl (fun hb => ?_) (fun hb => ?_)
    · have hF := ite_t hF hb
      refine Wk_seq ?_
      obtain ⟨x1, h1, hF⟩ := lt_split hF
      refine UR [.callB (.agg [.i x1.Code, .i x1.At])] [2] [2] [] [] [] [(2, [.i x1.Code, .i x1.At])] [] [] (.cons (once_fault_ok 2 (-2) x1 h1) .nil) ?_
      have hF := some_elim hF
      exact Wk_ret (hfin _ ⟨[], [], [], [], [], [], by first | (rw [← hF]; kernel_rfl) | kernel_rfl⟩)
    · have hF := ite_f hF hb
      refine Wk_skip ?_
      refine Wk_seq ?_
      refine ZRs [.nat (l.Memos.length : Int)] [1, 2, 19, 20, 21] [1, 2] [] [(19, .sl 3 (l.Memos.map e_Memo)), (20, .i (l.Memos.length : Int)), (21, .i 0)] (.cons (len_ok e_Memo l.Memos) .nil) ?_
      refine Wk_meetP (fun v : Unit => (⟨[(2, .ptr 2 0)], [(2, [.i 0, .i 0])], [], [], []⟩ : S)) (fun v => once_Check_J1 v = some r) ?_ ?_
      · refine Wk_block ?_
        unfold once_Check_L1 at hF
        refine Wk_trim (fs := [1, 2, 19, 20, 21]) (bs := [1, 2]) (rs := []) (ms := []) (aa := []) (nv := []) (t := (fun v1 : Int => (⟨[(1, .ptr 1 0), (2, .ptr 2 0), (19, .sl 3 (l.Memos.map e_Memo)), (20, .i (l.Memos.length : Int)), (21, .i v1)], [(1, [.sl 2 (l.Rows.map e_Pair), .sl 3 (l.Memos.map e_Memo)]), (2, [.i 0, .i 0])], [], [], []⟩ : S)) 0) (by kernel_rfl) ?_
        refine Wk_iter (step := fun y => once_Check_B1 l y) (r := r) (fun v1 : Int => (⟨[(1, .ptr 1 0), (2, .ptr 2 0), (19, .sl 3 (l.Memos.map e_Memo)), (20, .i (l.Memos.length : Int)), (21, .i v1)], [(1, [.sl 2 (l.Rows.map e_Pair), .sl 3 (l.Memos.map e_Memo)]), (2, [.i 0, .i 0])], [], [], []⟩ : S)) 0 hF ?_
        intro n1 v1 y1 hF ih1 dn1
        have hF : once_Check_B1 l v1 = some y1 := hF
        unfold once_Check_B1 at hF
        refine ZRs [] [1, 2, 19, 20, 21, 22] [1, 2] [] [(22, .bool (decide (v1 < (l.Memos.length : Int))))] .nil ?_
        refine Wk_seq ?_
        refine Wk_split rfl (fun hb => ?_) (fun hb => ?_)
        · have hF := ite_t hF hb
          refine Wk_skip ?_
          refine Wk_seq ?_
          refine Wk_block ?_
          refine Wk_seq ?_
          obtain ⟨h2, hF⟩ := asrt_elim hF
          refine UR [.av (e_Memo (lget l.Memos v1))] [1, 2, 4, 5, 19, 20, 21] [1, 2, 5] [] [] [(4, .i v1), (5, .ptr 5 0)] [(5, (c_Memo (lget l.Memos v1)))] [] [] (.cons (idx_ok e_Memo h2) .nil) ?_
          refine Wk_block ?_
          refine Wk_seq ?_
          obtain ⟨x2, h3, hF⟩ := lt_split hF
          obtain ⟨x3, h4, hF⟩ := lt_split hF
          refine ZR [.callB (.bool x2), .callB (.bool x3)] [1, 2, 4, 5, 19, 20, 21, 26] [1, 2, 5] [] [(26, .bool ((!x2) || (!x3)))] (.cons (once_number_ok ((lget l.Memos v1).Client) x2 h3) (.cons (fun (ga0 : (!(!x2)) = true) => (once_number_ok ((lget l.Memos v1).Seq) x3 h4)) .nil)) ?_
          refine Wk_split rfl (fun hb => ?_) (fun hb => ?_)
          · have hF := ite_t hF hb
            refine Wk_seq ?_
            obtain ⟨x4, h5, hF⟩ := lt_split hF
            refine UR [.callB (.agg [.i x4.Code, .i x4.At])] [2] [2] [] [] [] [(2, [.i x4.Code, .i x4.At])] [] [] (.cons (once_fault_ok 3 (w64 ((-1000) - v1)) x4 h5) .nil) ?_
            have hF := ret_done hF dn1
            have hF := some_elim hF
            exact Wk_ret (hfin _ ⟨[], [], [], [], [], [], by first | (rw [← hF]; kernel_rfl) | kernel_rfl⟩)
          · have hF := ite_f hF hb
            refine ZRs [] [1, 2, 4, 5, 19, 20, 21, 40] [1, 2, 5] [] [(40, .bool (decide (201 < (((lget l.Memos v1).Said).length : Int))))] .nil ?_
            refine Wk_split rfl (fun hb => ?_) (fun hb => ?_)
            · have hF := ite_t hF hb
              refine Wk_seq ?_
              obtain ⟨x5, h6, hF⟩ := lt_split hF
              refine UR [.callB (.agg [.i x5.Code, .i x5.At])] [2] [2] [] [] [] [(2, [.i x5.Code, .i x5.At])] [] [] (.cons (once_fault_ok 8 (w64 ((-1000) - v1)) x5 h6) .nil) ?_
              have hF := ret_done hF dn1
              have hF := some_elim hF
              exact Wk_ret (hfin _ ⟨[], [], [], [], [], [], by first | (rw [← hF]; kernel_rfl) | kernel_rfl⟩)
            · have hF := ite_f hF hb
              refine Wk_seq ?_
              obtain ⟨h7, hF⟩ := asrt_elim hF
              refine ZD [.av (e_Memo (lget l.Memos (w64 (v1 - 1))))] [1, 2, 4, 19, 20, 21, 48] [1, 2] [] [(48, .bool ((decide (0 < v1)) && (decide (((lget l.Memos v1).Client) ≤ ((lget l.Memos (w64 (v1 - 1))).Client)))))] (.cons (fun (ga0 : (decide (0 < v1)) = true) => (idx_ok e_Memo (h7 ga0))) .nil) ?_
              refine Wk_split rfl (fun hb => ?_) (fun hb => ?_)
              · have hF := ite_t hF hb
                refine Wk_seq ?_
                obtain ⟨x6, h8, hF⟩ := lt_split hF
                refine UR [.callB (.agg [.i x6.Code, .i x6.At])] [2] [2] [] [] [] [(2, [.i x6.Code, .i x6.At])] [] [] (.cons (once_fault_ok 10 (w64 ((-1000) - v1)) x6 h8) .nil) ?_
                have hF := ret_done hF dn1
                have hF := some_elim hF
                exact Wk_ret (hfin _ ⟨[], [], [], [], [], [], by first | (rw [← hF]; kernel_rfl) | kernel_rfl⟩)
              · have hF := ite_f hF hb
                refine Wk_skip ?_
                refine Wk_blk ?_
                refine Wk_blk ?_
                refine ZR [] [1, 2, 19, 20, 21] [1, 2] [] [(21, .i (w64 (v1 + 1)))] .nil ?_
                refine Wk_trim (fs := [1, 2, 19, 20, 21]) (bs := [1, 2]) (rs := []) (ms := []) (aa := []) (nv := []) ?_ (ih1 _ (some_elim hF).symm)
                kernel_rfl
        · have hF := ite_f hF hb
          refine Wk_exit rfl ?_
          have hF := inrO_done hF dn1
          exact Wk_metP () [2] [2] [] [] [] [] hF (by kernel_rfl)
      · intro v hF
        have hF : once_Check_J1 v = some r := hF
        unfold once_Check_J1 at hF
        refine ZRs [] [2] [2] [] [] .nil ?_
        have hF := some_elim hF
        exact Wk_ret (hfin _ ⟨[], [], [], [], [], [], by first | (rw [← hF]; kernel_rfl) | kernel_rfl⟩)

/- once.called -/
noncomputable def once_called (c : Call) : Fault :=
  if ((decide (c.Kind < 1)) || (decide (4 < c.Kind))) = true then
    lt (once_fault 4 (-3)) fun x =>
    x
  else
    lt (once_number c.Client) fun x1 =>
    lt (once_number c.Seq) fun x2 =>
    if ((!x1) || (!x2)) = true then
      lt (once_fault 3 (-3)) fun x3 =>
      x3
    else
      lt (once_rowed c.Row) fun x4 =>
      if (((!x4) || (decide (200 < (c.Value.length : Int)))) || (decide (200 < (c.Old.length : Int)))) = true then
        lt (once_fault 8 (-3)) fun x5 =>
        x5
      else
        (⟨0, 0⟩ : Fault)
theorem once_called_ok (c : Call) (r : Fault) (hF : once_called c = r) : Pe Try.prog 35 S.none [.agg (c_Call c)] (.agg [.i r.Code, .i r.At]) S.none := by
  refine Pe_of (N := 44) (res := [.cell 2 32]) (ts := [32]) Ty.ok Fn.b35 Try.func35 rfl rfl rfl rfl rfl rfl ?_
  intro Q g hfin
  unfold once_called at hF
  refine URs [] [1, 2] [1, 2] [] [] [(1, .ptr 1 0), (2, .ptr 2 0)] [(1, (c_Call c)), (2, [.i 0, .i 0])] [] [] .nil ?_
  refine Wk_seq ?_
  refine Wk_block ?_
  refine ZRs [] [1, 2, 3] [1, 2] [] [(3, .bool ((decide (c.Kind < 1)) || (decide (4 < c.Kind))))] .nil ?_
  refine Wk_split rfl (fun hb => ?_) (fun hb => ?_)
  · have hF := ite_t hF hb
    refine Wk_seq ?_
    obtain ⟨x, h0, hF⟩ := lt_split hF
    refine UR [.callB (.agg [.i x.Code, .i x.At])] [2] [2] [] [] [] [(2, [.i x.Code, .i x.At])] [] [] (.cons (once_fault_ok 4 (-3) x h0) .nil) ?_
    exact Wk_ret (hfin _ ⟨[], [], [], [], [], [], by first | (rw [← hF]; kernel_rfl) | kernel_rfl⟩)
  · have hF := ite_f hF hb
    refine Wk_seq ?_
    obtain ⟨x1, h1, hF⟩ := lt_split hF
    obtain ⟨x2, h2, hF⟩ := lt_split hF
    refine ZR [.callB (.bool x1), .callB (.bool x2)] [1, 2, 13] [1, 2] [] [(13, .bool ((!x1) || (!x2)))] (.cons (once_number_ok c.Client x1 h1) (.cons (fun (ga0 : (!(!x1)) = true) => (once_number_ok c.Seq x2 h2)) .nil)) ?_
    refine Wk_split rfl (fun hb => ?_) (fun hb => ?_)
    · have hF := ite_t hF hb
      refine Wk_seq ?_
      obtain ⟨x3, h3, hF⟩ := lt_split hF
      refine UR [.callB (.agg [.i x3.Code, .i x3.At])] [2] [2] [] [] [] [(2, [.i x3.Code, .i x3.At])] [] [] (.cons (once_fault_ok 3 (-3) x3 h3) .nil) ?_
      exact Wk_ret (hfin _ ⟨[], [], [], [], [], [], by first | (rw [← hF]; kernel_rfl) | kernel_rfl⟩)
    · have hF := ite_f hF hb
      refine Wk_seq ?_
      obtain ⟨x4, h4, hF⟩ := lt_split hF
      refine ZR [.callB (.bool x4)] [2, 25] [2] [] [(25, .bool (((!x4) || (decide (200 < (c.Value.length : Int)))) || (decide (200 < (c.Old.length : Int)))))] (.cons (once_rowed_ok c.Row x4 h4) .nil) ?_
      refine Wk_split rfl (fun hb => ?_) (fun hb => ?_)
      · have hF := ite_t hF hb
        refine Wk_seq ?_
        obtain ⟨x5, h5, hF⟩ := lt_split hF
        refine UR [.callB (.agg [.i x5.Code, .i x5.At])] [2] [2] [] [] [] [(2, [.i x5.Code, .i x5.At])] [] [] (.cons (once_fault_ok 8 (-3) x5 h5) .nil) ?_
        exact Wk_ret (hfin _ ⟨[], [], [], [], [], [], by first | (rw [← hF]; kernel_rfl) | kernel_rfl⟩)
      · have hF := ite_f hF hb
        refine Wk_skip ?_
        refine Wk_blk ?_
        refine ZRs [] [2] [2] [] [] .nil ?_
        exact Wk_ret (hfin _ ⟨[], [], [], [], [], [], by first | (rw [← hF]; kernel_rfl) | kernel_rfl⟩)

/- slices.Clone[[]api.Memo,api.Memo] -/
noncomputable def slices_Clone_api_Memo_api_Memo (s0 : List Memo) : Option (List Memo) :=
  ubO (decide (s0.length = 0)) (
    some ([] : List Memo)) (
    asrt (((([] : List Memo) ++ s0).length : Int) * 32 ≤ 140737488351232) <|
    some (([] : List Memo) ++ s0))
theorem slices_Clone_api_Memo_api_Memo_ok (s0 : List Memo) (r : List Memo) (hF : slices_Clone_api_Memo_api_Memo s0 = some r) : Pe Try.prog 36 ⟨[], [], [], [], []⟩ [.sl 3 (s0.map e_Memo)] (.row 5 0) ⟨[], [], [(5, .o 37 3 0 (r.map e_Memo))], [], []⟩ := by
  refine Pe_of (N := 8) (res := [.tmp 2]) (ts := [25]) Ty.ok Fn.b36 Try.func36 rfl rfl rfl rfl rfl rfl ?_
  intro Q g hfin
  unfold slices_Clone_api_Memo_api_Memo at hF
  refine ZRs [] [0] [] [] [] .nil ?_
  refine Wk_seq ?_
  refine ZRs [.bo (decide (s0.length = 0))] [0, 4] [] [] [(4, .ub (decide (s0.length = 0)) true)] (.cons (ubn_ok e_Memo s0) .nil) ?_
  refine Wk_ub 4 rfl fun b hb1 hb2 => ?_
  refine Wk_split rfl (fun hb => ?_) (fun hb => ?_)
  · have hb := hb1 hb
    have hF := (ubO_elim hF).1 hb
    refine ZRs [] [2] [] [] [(2, .nils)] .nil ?_
    have hF := some_elim hF
    refine Wk_nilrow 2 60000 37 3 rfl rfl rfl ?_
    refine Wk_ren' ⟨[], [(60000, 5)], [], []⟩ rfl ?_
    exact Wk_ret (hfin _ ⟨[5], [], [5], [], [], [(5, ⟨0, true, false, false⟩)], by first | (rw [← hF]; kernel_rfl) | kernel_rfl⟩)
  · have hF := (ubO_elim hF).2
    refine Wk_skip ?_
    refine Wk_seq ?_
    obtain ⟨h0, hF⟩ := asrt_elim hF
    refine UR [.xs ((([] : List Memo) ++ s0).map e_Memo)] [2] [] [5] [] [(2, .row 5 1)] [] [(5, .o 37 3 1 ((([] : List Memo) ++ s0).map e_Memo))] [] (.cons (app_ok e_Memo ([] : List Memo) s0) (.cons (appl_ok e_Memo h0) .nil)) ?_
    have hF := some_elim hF
    exact Wk_ret (hfin _ ⟨[5], [], [5], [], [], [(5, ⟨0, true, true, false⟩)], by first | (rw [← hF]; kernel_rfl) | kernel_rfl⟩)

/- cmp.isNaN[int] -/
noncomputable def cmp_isNaN_int (x : Int) : Bool :=
  !decide (x = x)
theorem cmp_isNaN_int_ok (x : Int) (r : Bool) (hF : cmp_isNaN_int x = r) : Pe Try.prog 69 S.none [.i x] (.bool r) S.none := by
  refine Pe_of (N := 6) (res := [.tmp 2]) (ts := [4]) Ty.ok Fn.b69 Try.func69 rfl rfl rfl rfl rfl rfl ?_
  intro Q g hfin
  unfold cmp_isNaN_int at hF
  refine ZRs [] [0] [] [] [] .nil ?_
  refine ZRs [] [2] [] [] [(2, .bool (!decide (x = x)))] .nil ?_
  exact Wk_ret (hfin _ ⟨[], [], [], [], [], [], by first | (rw [← hF]; kernel_rfl) | kernel_rfl⟩)

/- cmp.Compare[int] -/
noncomputable def cmp_Compare_int (x : Int) (y0 : Int) : Int :=
  lt (cmp_isNaN_int x) fun x1 =>
  lt (cmp_isNaN_int y0) fun x2 =>
  if x1 = true then
    if x2 = true then
      0
    else
      (-1)
  else
    if x2 = true then
      1
    else
      if (decide (x < y0)) = true then
        (-1)
      else
        if (decide (y0 < x)) = true then
          1
        else
          0
theorem cmp_Compare_int_ok (x : Int) (y0 : Int) (r : Int) (hF : cmp_Compare_int x y0 = r) : Pe Try.prog 39 S.none [.i x, .i y0] (.i r) S.none := by
  refine Pe_of (N := 20) (res := [.tmp 4]) (ts := [3]) Ty.ok Fn.b39 Try.func39 rfl rfl rfl rfl rfl rfl ?_
  intro Q g hfin
  unfold cmp_Compare_int at hF
  refine ZRs [] [0, 1] [] [] [] .nil ?_
  refine Wk_seq ?_
  obtain ⟨x1, h0, hF⟩ := lt_split hF
  refine ZR [.callB (.bool x1)] [0, 1, 5] [] [] [(5, .bool x1)] (.cons (cmp_isNaN_int_ok x x1 h0) .nil) ?_
  refine Wk_seq ?_
  obtain ⟨x2, h1, hF⟩ := lt_split hF
  refine ZR [.callB (.bool x2)] [0, 1, 5, 6] [] [] [(6, .bool x2)] (.cons (cmp_isNaN_int_ok y0 x2 h1) .nil) ?_
  refine Wk_seq ?_
  refine ZRs [] [0, 1, 6, 11] [] [] [(11, .bool x1)] .nil ?_
  refine Wk_split rfl (fun hb => ?_) (fun hb => ?_)
  · have hF := ite_t hF hb
    refine Wk_seq ?_
    refine ZRs [] [12] [] [] [(12, .bool x2)] .nil ?_
    refine Wk_split rfl (fun hb => ?_) (fun hb => ?_)
    · have hF := ite_t hF hb
      refine ZRs [] [4] [] [] [(4, .i 0)] .nil ?_
      exact Wk_ret (hfin _ ⟨[], [], [], [], [], [], by first | (rw [← hF]; kernel_rfl) | kernel_rfl⟩)
    · have hF := ite_f hF hb
      refine Wk_skip ?_
      refine ZRs [] [4] [] [] [(4, .i (-1))] .nil ?_
      exact Wk_ret (hfin _ ⟨[], [], [], [], [], [], by first | (rw [← hF]; kernel_rfl) | kernel_rfl⟩)
  · have hF := ite_f hF hb
    refine Wk_skip ?_
    refine Wk_seq ?_
    refine ZRs [] [0, 1, 13] [] [] [(13, .bool x2)] .nil ?_
    refine Wk_split rfl (fun hb => ?_) (fun hb => ?_)
    · have hF := ite_t hF hb
      refine ZRs [] [4] [] [] [(4, .i 1)] .nil ?_
      exact Wk_ret (hfin _ ⟨[], [], [], [], [], [], by first | (rw [← hF]; kernel_rfl) | kernel_rfl⟩)
    · have hF := ite_f hF hb
      refine Wk_skip ?_
      refine Wk_seq ?_
      refine ZRs [] [0, 1, 16] [] [] [(16, .bool (decide (x < y0)))] .nil ?_
      refine Wk_split rfl (fun hb => ?_) (fun hb => ?_)
      · have hF := ite_t hF hb
        refine ZRs [] [4] [] [] [(4, .i (-1))] .nil ?_
        exact Wk_ret (hfin _ ⟨[], [], [], [], [], [], by first | (rw [← hF]; kernel_rfl) | kernel_rfl⟩)
      · have hF := ite_f hF hb
        refine Wk_skip ?_
        refine Wk_seq ?_
        refine ZRs [] [19] [] [] [(19, .bool (decide (y0 < x)))] .nil ?_
        refine Wk_split rfl (fun hb => ?_) (fun hb => ?_)
        · have hF := ite_t hF hb
          refine ZRs [] [4] [] [] [(4, .i 1)] .nil ?_
          exact Wk_ret (hfin _ ⟨[], [], [], [], [], [], by first | (rw [← hF]; kernel_rfl) | kernel_rfl⟩)
        · have hF := ite_f hF hb
          refine Wk_skip ?_
          refine ZRs [] [4] [] [] [(4, .i 0)] .nil ?_
          exact Wk_ret (hfin _ ⟨[], [], [], [], [], [], by first | (rw [← hF]; kernel_rfl) | kernel_rfl⟩)

/- once.Do$1 -/
noncomputable def once_Do_1 (m : Memo) (id : Int) : Int :=
  lt (cmp_Compare_int m.Client id) fun x =>
  x
theorem once_Do_1_ok (m : Memo) (id : Int) (r : Int) (hF : once_Do_1 m id = r) : Pe Try.prog 38 S.none [.agg (c_Memo m), .i id] (.i r) S.none := by
  refine Pe_of (N := 9) (res := [.tmp 4]) (ts := [3]) Ty.ok Fn.b38 Try.func38 rfl rfl rfl rfl rfl rfl ?_
  intro Q g hfin
  unfold once_Do_1 at hF
  refine URs [] [1, 2] [2] [] [] [(2, .ptr 2 0)] [(2, (c_Memo m))] [] [] .nil ?_
  refine Wk_seq ?_
  obtain ⟨x, h0, hF⟩ := lt_split hF
  refine ZR [.callB (.i x)] [4] [] [] [(4, .i x)] (.cons (cmp_Compare_int_ok m.Client id x h0) .nil) ?_
  exact Wk_ret (hfin _ ⟨[], [], [], [], [], [], by first | (rw [← hF]; kernel_rfl) | kernel_rfl⟩)

/- slices.BinarySearchFunc[[]api.Memo,api.Memo,int] -/
noncomputable def slices_BinarySearchFunc_api_Memo_api_Memo_int_J1 (target : Int) (row : List Memo) (v : Int) : Option (Int × Bool) :=
  asrt ((decide (v < (row.length : Int))) = true → 0 ≤ v ∧ v < (row.length : Int)) <|
  asrt ((decide (v < (row.length : Int))) = true → 0 ≤ v ∧ v < (row.length : Int)) <|
  lt (once_Do_1 (⟨(lget row v).Client, (lget row v).Seq, (lget row v).Said⟩ : Memo) target) fun x =>
  some (v, (decide (v < (row.length : Int))) && (decide (x = 0)))
noncomputable def slices_BinarySearchFunc_api_Memo_api_Memo_int_B1 (target : Int) (row : List Memo) (v1 : Int × Int) : Option ((Int × Int) ⊕ (Int × Bool)) :=
  if (decide (v1.1 < v1.2)) = true then
    lt (w64 (Int.fdiv (IntKind.u64.wrap (w64 (v1.1 + v1.2))) (2 ^ (min (1 : Int).toNat 64)))) fun (v2 : Int) =>
    asrt (0 ≤ v2 ∧ v2 < (row.length : Int)) <|
    asrt (0 ≤ v2 ∧ v2 < (row.length : Int)) <|
    lt (once_Do_1 (⟨(lget row v2).Client, (lget row v2).Seq, (lget row v2).Said⟩ : Memo) target) fun x1 =>
    if (decide (x1 < 0)) = true then
      some (Sum.inl (w64 (v2 + 1), v1.2))
    else
      some (Sum.inl (v1.1, v2))
  else
    inrO (slices_BinarySearchFunc_api_Memo_api_Memo_int_J1 target row v1.1)
noncomputable def slices_BinarySearchFunc_api_Memo_api_Memo_int_L1 (target : Int) (row : List Memo) (v0 : Int × Int) : Option (Int × Bool) :=
  loopO (fun y => slices_BinarySearchFunc_api_Memo_api_Memo_int_B1 target row y) v0
noncomputable def slices_BinarySearchFunc_api_Memo_api_Memo_int (target : Int) (row : List Memo) : Option (Int × Bool) :=
  slices_BinarySearchFunc_api_Memo_api_Memo_int_L1 target row (0, (row.length : Int))
theorem slices_BinarySearchFunc_api_Memo_api_Memo_int_ok (target : Int) (row : List Memo) (rk : Nat) (rc : Nat) (rn : Bool) (r : Int × Bool) (hF : slices_BinarySearchFunc_api_Memo_api_Memo_int target row = some r) : Pe Try.prog 37 ⟨[], [], [(100000, ⟨37, 3, 0, rk, rc, rn, 0, [], (row.map e_Memo)⟩)], [], []⟩ [.row 100000 0, .i target, .fn 38 []] (.tup [.i r.1, .bool r.2]) ⟨[], [], [(100000, ⟨37, 3, 0, rk, rc, rn, 0, [], (row.map e_Memo)⟩)], [], []⟩ := by
  refine Pe_of (N := 49) (res := [.tmp 6, .tmp 7]) (ts := [3, 4]) Ty.ok Fn.b37 Try.func37 rfl rfl rfl rfl rfl rfl ?_
  intro Q g hfin
  unfold slices_BinarySearchFunc_api_Memo_api_Memo_int at hF
  refine ZRs [] [0, 1, 2] [] [100000] [] .nil ?_
  refine ZRs [.nat (row.length : Int)] [0, 1, 2, 8] [] [100000] [(8, .i (row.length : Int))] (.cons (len_ok e_Memo row) .nil) ?_
  refine ZRs [] [0, 1, 2, 8, 9, 10] [] [100000] [(9, .i 0), (10, .i (row.length : Int))] .nil ?_
  refine Wk_seq ?_
  refine Wk_meetP (fun v : Int => (⟨[(0, .row 100000 0), (1, .i target), (2, .fn 38 []), (8, .i (row.length : Int)), (9, .i v)], [], [(100000, ⟨37, 3, 0, rk, rc, rn, 0, [], (row.map e_Memo)⟩)], [], []⟩ : S)) (fun v => slices_BinarySearchFunc_api_Memo_api_Memo_int_J1 target row v = some r) ?_ ?_
  · refine Wk_block ?_
    unfold slices_BinarySearchFunc_api_Memo_api_Memo_int_L1 at hF
    refine Wk_trim (fs := [0, 1, 2, 8, 9, 10]) (bs := []) (rs := [100000]) (ms := []) (aa := []) (nv := []) (t := (fun v1 : Int × Int => (⟨[(0, .row 100000 0), (1, .i target), (2, .fn 38 []), (8, .i (row.length : Int)), (9, .i v1.1), (10, .i v1.2)], [], [(100000, ⟨37, 3, 0, rk, rc, rn, 0, [], (row.map e_Memo)⟩)], [], []⟩ : S)) (0, (row.length : Int))) (by kernel_rfl) ?_
    refine Wk_iter (step := fun y => slices_BinarySearchFunc_api_Memo_api_Memo_int_B1 target row y) (r := r) (fun v1 : Int × Int => (⟨[(0, .row 100000 0), (1, .i target), (2, .fn 38 []), (8, .i (row.length : Int)), (9, .i v1.1), (10, .i v1.2)], [], [(100000, ⟨37, 3, 0, rk, rc, rn, 0, [], (row.map e_Memo)⟩)], [], []⟩ : S)) (0, (row.length : Int)) hF ?_
    intro n1 v1 y1 hF ih1 dn1
    have hF : slices_BinarySearchFunc_api_Memo_api_Memo_int_B1 target row v1 = some y1 := hF
    unfold slices_BinarySearchFunc_api_Memo_api_Memo_int_B1 at hF
    refine Wk_seq ?_
    refine ZRs [] [0, 1, 2, 8, 9, 10, 17] [] [100000] [(17, .bool (decide (v1.1 < v1.2)))] .nil ?_
    refine Wk_split rfl (fun hb => ?_) (fun hb => ?_)
    · have hF := ite_t hF hb
      refine Wk_skip ?_
      refine Wk_block ?_
      refine Wk_seq ?_
      refine WRL (w64 (Int.fdiv (IntKind.u64.wrap (w64 (v1.1 + v1.2))) (2 ^ (min (1 : Int).toNat 64)))) (fun v2 : Int => ⟨[(0, .row 100000 0), (1, .i target), (2, .fn 38 []), (8, .i (row.length : Int)), (9, .i v1.1), (10, .i v1.2), (11, .i v2)], [], [(100000, ⟨37, 3, 0, rk, rc, rn, 0, [], (row.map e_Memo)⟩)], [], []⟩) [] [0, 1, 2, 8, 9, 10, 11] [] [100000] [] [] [] (.cons (by decide : (0 : Int) ≤ 1) .nil) (by kernel_rfl) (fun v2 hv => ?_)
      have hF := lt_elim hF hv
      refine Wk_seq ?_
      obtain ⟨h3, hF⟩ := asrt_elim hF
      obtain ⟨h4, hF⟩ := asrt_elim hF
      obtain ⟨x1, h5, hF⟩ := lt_split hF
      refine ZR [.av (e_Memo (lget row v2)), .callB (.i x1)] [0, 1, 2, 8, 9, 10, 11, 31] [] [100000] [(31, .bool (decide (x1 < 0)))] (.cons (ixr_ok e_Memo h3) (.cons (ldr_ok e_Memo h4) (.cons (once_Do_1_ok (⟨(lget row v2).Client, (lget row v2).Seq, (lget row v2).Said⟩ : Memo) target x1 h5) .nil))) ?_
      refine Wk_split rfl (fun hb => ?_) (fun hb => ?_)
      · have hF := ite_t hF hb
        refine ZR [] [0, 1, 2, 8, 9, 10] [] [100000] [(9, .i (w64 (v2 + 1)))] .nil ?_
        refine Wk_blk ?_
        refine Wk_trim (fs := [0, 1, 2, 8, 9, 10]) (bs := []) (rs := [100000]) (ms := []) (aa := []) (nv := []) ?_ (ih1 _ (some_elim hF).symm)
        kernel_rfl
      · have hF := ite_f hF hb
        refine ZR [] [0, 1, 2, 8, 9, 10] [] [100000] [(10, .i v2)] .nil ?_
        refine Wk_blk ?_
        refine Wk_trim (fs := [0, 1, 2, 8, 9, 10]) (bs := []) (rs := [100000]) (ms := []) (aa := []) (nv := []) ?_ (ih1 _ (some_elim hF).symm)
        kernel_rfl
    · have hF := ite_f hF hb
      refine Wk_exit rfl ?_
      have hF := inrO_done hF dn1
      exact Wk_metP v1.1 [0, 1, 2, 8, 9] [] [100000] [] [] [] hF (by kernel_rfl)
  · intro v hF
    have hF : slices_BinarySearchFunc_api_Memo_api_Memo_int_J1 target row v = some r := hF
    unfold slices_BinarySearchFunc_api_Memo_api_Memo_int_J1 at hF
    refine Wk_seq ?_
    obtain ⟨h0, hF⟩ := asrt_elim hF
    obtain ⟨h1, hF⟩ := asrt_elim hF
    obtain ⟨x, h2, hF⟩ := lt_split hF
    refine ZR [.av (e_Memo (lget row v)), .callB (.i x)] [6, 7] [] [100000] [(6, .i v), (7, .bool ((decide (v < (row.length : Int))) && (decide (x = 0))))] (.cons (fun (ga0 : (decide (v < (row.length : Int))) = true) => (ixr_ok e_Memo (h0 ga0))) (.cons (fun (ga0 : (decide (v < (row.length : Int))) = true) => (ldr_ok e_Memo (h1 ga0))) (.cons (fun (ga0 : (decide (v < (row.length : Int))) = true) => (once_Do_1_ok (⟨(lget row v).Client, (lget row v).Seq, (lget row v).Said⟩ : Memo) target x h2)) .nil))) ?_
    have hF := some_elim hF
    exact Wk_ret (hfin _ ⟨[100000], [], [100000], [], [], [], by first | (rw [← hF]; kernel_rfl) | kernel_rfl⟩)

/- slices.Clone[[]api.Pair,api.Pair] -/
noncomputable def slices_Clone_api_Pair_api_Pair (s0 : List Pair) : Option (List Pair) :=
  ubO (decide (s0.length = 0)) (
    some ([] : List Pair)) (
    asrt (((([] : List Pair) ++ s0).length : Int) * 32 ≤ 140737488351232) <|
    some (([] : List Pair) ++ s0))
theorem slices_Clone_api_Pair_api_Pair_ok (s0 : List Pair) (r : List Pair) (hF : slices_Clone_api_Pair_api_Pair s0 = some r) : Pe Try.prog 40 ⟨[], [], [], [], []⟩ [.sl 2 (s0.map e_Pair)] (.row 5 0) ⟨[], [], [(5, .o 70 2 0 (r.map e_Pair))], [], []⟩ := by
  refine Pe_of (N := 8) (res := [.tmp 2]) (ts := [24]) Ty.ok Fn.b40 Try.func40 rfl rfl rfl rfl rfl rfl ?_
  intro Q g hfin
  unfold slices_Clone_api_Pair_api_Pair at hF
  refine ZRs [] [0] [] [] [] .nil ?_
  refine Wk_seq ?_
  refine ZRs [.bo (decide (s0.length = 0))] [0, 4] [] [] [(4, .ub (decide (s0.length = 0)) true)] (.cons (ubn_ok e_Pair s0) .nil) ?_
  refine Wk_ub 4 rfl fun b hb1 hb2 => ?_
  refine Wk_split rfl (fun hb => ?_) (fun hb => ?_)
  · have hb := hb1 hb
    have hF := (ubO_elim hF).1 hb
    refine ZRs [] [2] [] [] [(2, .nils)] .nil ?_
    have hF := some_elim hF
    refine Wk_nilrow 2 60000 70 2 rfl rfl rfl ?_
    refine Wk_ren' ⟨[], [(60000, 5)], [], []⟩ rfl ?_
    exact Wk_ret (hfin _ ⟨[5], [], [5], [], [], [(5, ⟨0, true, false, false⟩)], by first | (rw [← hF]; kernel_rfl) | kernel_rfl⟩)
  · have hF := (ubO_elim hF).2
    refine Wk_skip ?_
    refine Wk_seq ?_
    obtain ⟨h0, hF⟩ := asrt_elim hF
    refine UR [.xs ((([] : List Pair) ++ s0).map e_Pair)] [2] [] [5] [] [(2, .row 5 1)] [] [(5, .o 70 2 1 ((([] : List Pair) ++ s0).map e_Pair))] [] (.cons (app_ok e_Pair ([] : List Pair) s0) (.cons (appl_ok e_Pair h0) .nil)) ?_
    have hF := some_elim hF
    exact Wk_ret (hfin _ ⟨[5], [], [5], [], [], [(5, ⟨0, true, true, false⟩)], by first | (rw [← hF]; kernel_rfl) | kernel_rfl⟩)

/- cmp.isNaN[string] -/
noncomputable def cmp_isNaN_string (x : List UInt8) : Bool :=
  !decide (x = x)
theorem cmp_isNaN_string_ok (x : List UInt8) (r : Bool) (hF : cmp_isNaN_string x = r) : Pe Try.prog 87 S.none [.str x] (.bool r) S.none := by
  refine Pe_of (N := 6) (res := [.tmp 2]) (ts := [4]) Ty.ok Fn.b87 Try.func87 rfl rfl rfl rfl rfl rfl ?_
  intro Q g hfin
  unfold cmp_isNaN_string at hF
  refine ZRs [] [0] [] [] [] .nil ?_
  refine ZRs [] [2] [] [] [(2, .bool (!decide (x = x)))] .nil ?_
  exact Wk_ret (hfin _ ⟨[], [], [], [], [], [], by first | (rw [← hF]; kernel_rfl) | kernel_rfl⟩)

/- cmp.Compare[string] -/
noncomputable def cmp_Compare_string (x : List UInt8) (y0 : List UInt8) : Int :=
  lt (cmp_isNaN_string x) fun x1 =>
  lt (cmp_isNaN_string y0) fun x2 =>
  if x1 = true then
    if x2 = true then
      0
    else
      (-1)
  else
    if x2 = true then
      1
    else
      if (Op.bytesLess x y0) = true then
        (-1)
      else
        if (Op.bytesLess y0 x) = true then
          1
        else
          0
theorem cmp_Compare_string_ok (x : List UInt8) (y0 : List UInt8) (r : Int) (hF : cmp_Compare_string x y0 = r) : Pe Try.prog 72 S.none [.str x, .str y0] (.i r) S.none := by
  refine Pe_of (N := 20) (res := [.tmp 4]) (ts := [3]) Ty.ok Fn.b72 Try.func72 rfl rfl rfl rfl rfl rfl ?_
  intro Q g hfin
  unfold cmp_Compare_string at hF
  refine ZRs [] [0, 1] [] [] [] .nil ?_
  refine Wk_seq ?_
  obtain ⟨x1, h0, hF⟩ := lt_split hF
  refine ZR [.callB (.bool x1)] [0, 1, 5] [] [] [(5, .bool x1)] (.cons (cmp_isNaN_string_ok x x1 h0) .nil) ?_
  refine Wk_seq ?_
  obtain ⟨x2, h1, hF⟩ := lt_split hF
  refine ZR [.callB (.bool x2)] [0, 1, 5, 6] [] [] [(6, .bool x2)] (.cons (cmp_isNaN_string_ok y0 x2 h1) .nil) ?_
  refine Wk_seq ?_
  refine ZRs [] [0, 1, 6, 11] [] [] [(11, .bool x1)] .nil ?_
  refine Wk_split rfl (fun hb => ?_) (fun hb => ?_)
  · have hF := ite_t hF hb
    refine Wk_seq ?_
    refine ZRs [] [12] [] [] [(12, .bool x2)] .nil ?_
    refine Wk_split rfl (fun hb => ?_) (fun hb => ?_)
    · have hF := ite_t hF hb
      refine ZRs [] [4] [] [] [(4, .i 0)] .nil ?_
      exact Wk_ret (hfin _ ⟨[], [], [], [], [], [], by first | (rw [← hF]; kernel_rfl) | kernel_rfl⟩)
    · have hF := ite_f hF hb
      refine Wk_skip ?_
      refine ZRs [] [4] [] [] [(4, .i (-1))] .nil ?_
      exact Wk_ret (hfin _ ⟨[], [], [], [], [], [], by first | (rw [← hF]; kernel_rfl) | kernel_rfl⟩)
  · have hF := ite_f hF hb
    refine Wk_skip ?_
    refine Wk_seq ?_
    refine ZRs [] [0, 1, 13] [] [] [(13, .bool x2)] .nil ?_
    refine Wk_split rfl (fun hb => ?_) (fun hb => ?_)
    · have hF := ite_t hF hb
      refine ZRs [] [4] [] [] [(4, .i 1)] .nil ?_
      exact Wk_ret (hfin _ ⟨[], [], [], [], [], [], by first | (rw [← hF]; kernel_rfl) | kernel_rfl⟩)
    · have hF := ite_f hF hb
      refine Wk_skip ?_
      refine Wk_seq ?_
      refine ZRs [] [0, 1, 16] [] [] [(16, .bool (Op.bytesLess x y0))] .nil ?_
      refine Wk_split rfl (fun hb => ?_) (fun hb => ?_)
      · have hF := ite_t hF hb
        refine ZRs [] [4] [] [] [(4, .i (-1))] .nil ?_
        exact Wk_ret (hfin _ ⟨[], [], [], [], [], [], by first | (rw [← hF]; kernel_rfl) | kernel_rfl⟩)
      · have hF := ite_f hF hb
        refine Wk_skip ?_
        refine Wk_seq ?_
        refine ZRs [] [19] [] [] [(19, .bool (Op.bytesLess y0 x))] .nil ?_
        refine Wk_split rfl (fun hb => ?_) (fun hb => ?_)
        · have hF := ite_t hF hb
          refine ZRs [] [4] [] [] [(4, .i 1)] .nil ?_
          exact Wk_ret (hfin _ ⟨[], [], [], [], [], [], by first | (rw [← hF]; kernel_rfl) | kernel_rfl⟩)
        · have hF := ite_f hF hb
          refine Wk_skip ?_
          refine ZRs [] [4] [] [] [(4, .i 0)] .nil ?_
          exact Wk_ret (hfin _ ⟨[], [], [], [], [], [], by first | (rw [← hF]; kernel_rfl) | kernel_rfl⟩)

/- once.plain$1 -/
noncomputable def once_plain_1 (p : Pair) (row : List UInt8) : Int :=
  lt (cmp_Compare_string p.Row row) fun x =>
  x
theorem once_plain_1_ok (p : Pair) (row : List UInt8) (r : Int) (hF : once_plain_1 p row = r) : Pe Try.prog 71 S.none [.agg [.str p.Row, .str p.Value], .str row] (.i r) S.none := by
  refine Pe_of (N := 9) (res := [.tmp 4]) (ts := [3]) Ty.ok Fn.b71 Try.func71 rfl rfl rfl rfl rfl rfl ?_
  intro Q g hfin
  unfold once_plain_1 at hF
  refine URs [] [1, 2] [2] [] [] [(2, .ptr 2 0)] [(2, [.str p.Row, .str p.Value])] [] [] .nil ?_
  refine Wk_seq ?_
  obtain ⟨x, h0, hF⟩ := lt_split hF
  refine ZR [.callB (.i x)] [4] [] [] [(4, .i x)] (.cons (cmp_Compare_string_ok p.Row row x h0) .nil) ?_
  exact Wk_ret (hfin _ ⟨[], [], [], [], [], [], by first | (rw [← hF]; kernel_rfl) | kernel_rfl⟩)

/- slices.BinarySearchFunc[[]api.Pair,api.Pair,string] -/
noncomputable def slices_BinarySearchFunc_api_Pair_api_Pair_string_J1 (target : List UInt8) (row : List Pair) (v : Int) : Option (Int × Bool) :=
  asrt ((decide (v < (row.length : Int))) = true → 0 ≤ v ∧ v < (row.length : Int)) <|
  asrt ((decide (v < (row.length : Int))) = true → 0 ≤ v ∧ v < (row.length : Int)) <|
  lt (once_plain_1 (⟨(lget row v).Row, (lget row v).Value⟩ : Pair) target) fun x =>
  some (v, (decide (v < (row.length : Int))) && (decide (x = 0)))
noncomputable def slices_BinarySearchFunc_api_Pair_api_Pair_string_B1 (target : List UInt8) (row : List Pair) (v1 : Int × Int) : Option ((Int × Int) ⊕ (Int × Bool)) :=
  if (decide (v1.1 < v1.2)) = true then
    lt (w64 (Int.fdiv (IntKind.u64.wrap (w64 (v1.1 + v1.2))) (2 ^ (min (1 : Int).toNat 64)))) fun (v2 : Int) =>
    asrt (0 ≤ v2 ∧ v2 < (row.length : Int)) <|
    asrt (0 ≤ v2 ∧ v2 < (row.length : Int)) <|
    lt (once_plain_1 (⟨(lget row v2).Row, (lget row v2).Value⟩ : Pair) target) fun x1 =>
    if (decide (x1 < 0)) = true then
      some (Sum.inl (w64 (v2 + 1), v1.2))
    else
      some (Sum.inl (v1.1, v2))
  else
    inrO (slices_BinarySearchFunc_api_Pair_api_Pair_string_J1 target row v1.1)
noncomputable def slices_BinarySearchFunc_api_Pair_api_Pair_string_L1 (target : List UInt8) (row : List Pair) (v0 : Int × Int) : Option (Int × Bool) :=
  loopO (fun y => slices_BinarySearchFunc_api_Pair_api_Pair_string_B1 target row y) v0
noncomputable def slices_BinarySearchFunc_api_Pair_api_Pair_string (target : List UInt8) (row : List Pair) : Option (Int × Bool) :=
  slices_BinarySearchFunc_api_Pair_api_Pair_string_L1 target row (0, (row.length : Int))
theorem slices_BinarySearchFunc_api_Pair_api_Pair_string_ok (target : List UInt8) (row : List Pair) (rk : Nat) (rc : Nat) (rn : Bool) (r : Int × Bool) (hF : slices_BinarySearchFunc_api_Pair_api_Pair_string target row = some r) : Pe Try.prog 70 ⟨[], [], [(100000, ⟨70, 2, 0, rk, rc, rn, 0, [], (row.map e_Pair)⟩)], [], []⟩ [.row 100000 0, .str target, .fn 71 []] (.tup [.i r.1, .bool r.2]) ⟨[], [], [(100000, ⟨70, 2, 0, rk, rc, rn, 0, [], (row.map e_Pair)⟩)], [], []⟩ := by
  refine Pe_of (N := 49) (res := [.tmp 6, .tmp 7]) (ts := [3, 4]) Ty.ok Fn.b70 Try.func70 rfl rfl rfl rfl rfl rfl ?_
  intro Q g hfin
  unfold slices_BinarySearchFunc_api_Pair_api_Pair_string at hF
  refine ZRs [] [0, 1, 2] [] [100000] [] .nil ?_
  refine ZRs [.nat (row.length : Int)] [0, 1, 2, 8] [] [100000] [(8, .i (row.length : Int))] (.cons (len_ok e_Pair row) .nil) ?_
  refine ZRs [] [0, 1, 2, 8, 9, 10] [] [100000] [(9, .i 0), (10, .i (row.length : Int))] .nil ?_
  refine Wk_seq ?_
  refine Wk_meetP (fun v : Int => (⟨[(0, .row 100000 0), (1, .str target), (2, .fn 71 []), (8, .i (row.length : Int)), (9, .i v)], [], [(100000, ⟨70, 2, 0, rk, rc, rn, 0, [], (row.map e_Pair)⟩)], [], []⟩ : S)) (fun v => slices_BinarySearchFunc_api_Pair_api_Pair_string_J1 target row v = some r) ?_ ?_
  · refine Wk_block ?_
    unfold slices_BinarySearchFunc_api_Pair_api_Pair_string_L1 at hF
    refine Wk_trim (fs := [0, 1, 2, 8, 9, 10]) (bs := []) (rs := [100000]) (ms := []) (aa := []) (nv := []) (t := (fun v1 : Int × Int => (⟨[(0, .row 100000 0), (1, .str target), (2, .fn 71 []), (8, .i (row.length : Int)), (9, .i v1.1), (10, .i v1.2)], [], [(100000, ⟨70, 2, 0, rk, rc, rn, 0, [], (row.map e_Pair)⟩)], [], []⟩ : S)) (0, (row.length : Int))) (by kernel_rfl) ?_
    refine Wk_iter (step := fun y => slices_BinarySearchFunc_api_Pair_api_Pair_string_B1 target row y) (r := r) (fun v1 : Int × Int => (⟨[(0, .row 100000 0), (1, .str target), (2, .fn 71 []), (8, .i (row.length : Int)), (9, .i v1.1), (10, .i v1.2)], [], [(100000, ⟨70, 2, 0, rk, rc, rn, 0, [], (row.map e_Pair)⟩)], [], []⟩ : S)) (0, (row.length : Int)) hF ?_
    intro n1 v1 y1 hF ih1 dn1
    have hF : slices_BinarySearchFunc_api_Pair_api_Pair_string_B1 target row v1 = some y1 := hF
    unfold slices_BinarySearchFunc_api_Pair_api_Pair_string_B1 at hF
    refine Wk_seq ?_
    refine ZRs [] [0, 1, 2, 8, 9, 10, 17] [] [100000] [(17, .bool (decide (v1.1 < v1.2)))] .nil ?_
    refine Wk_split rfl (fun hb => ?_) (fun hb => ?_)
    · have hF := ite_t hF hb
      refine Wk_skip ?_
      refine Wk_block ?_
      refine Wk_seq ?_
      refine WRL (w64 (Int.fdiv (IntKind.u64.wrap (w64 (v1.1 + v1.2))) (2 ^ (min (1 : Int).toNat 64)))) (fun v2 : Int => ⟨[(0, .row 100000 0), (1, .str target), (2, .fn 71 []), (8, .i (row.length : Int)), (9, .i v1.1), (10, .i v1.2), (11, .i v2)], [], [(100000, ⟨70, 2, 0, rk, rc, rn, 0, [], (row.map e_Pair)⟩)], [], []⟩) [] [0, 1, 2, 8, 9, 10, 11] [] [100000] [] [] [] (.cons (by decide : (0 : Int) ≤ 1) .nil) (by kernel_rfl) (fun v2 hv => ?_)
      have hF := lt_elim hF hv
      refine Wk_seq ?_
      obtain ⟨h3, hF⟩ := asrt_elim hF
      obtain ⟨h4, hF⟩ := asrt_elim hF
      obtain ⟨x1, h5, hF⟩ := lt_split hF
      refine ZR [.av (e_Pair (lget row v2)), .callB (.i x1)] [0, 1, 2, 8, 9, 10, 11, 31] [] [100000] [(31, .bool (decide (x1 < 0)))] (.cons (ixr_ok e_Pair h3) (.cons (ldr_ok e_Pair h4) (.cons (once_plain_1_ok (⟨(lget row v2).Row, (lget row v2).Value⟩ : Pair) target x1 h5) .nil))) ?_
      refine Wk_split rfl (fun hb => ?_) (fun hb => ?_)
      · have hF := ite_t hF hb
        refine ZR [] [0, 1, 2, 8, 9, 10] [] [100000] [(9, .i (w64 (v2 + 1)))] .nil ?_
        refine Wk_blk ?_
        refine Wk_trim (fs := [0, 1, 2, 8, 9, 10]) (bs := []) (rs := [100000]) (ms := []) (aa := []) (nv := []) ?_ (ih1 _ (some_elim hF).symm)
        kernel_rfl
      · have hF := ite_f hF hb
        refine ZR [] [0, 1, 2, 8, 9, 10] [] [100000] [(10, .i v2)] .nil ?_
        refine Wk_blk ?_
        refine Wk_trim (fs := [0, 1, 2, 8, 9, 10]) (bs := []) (rs := [100000]) (ms := []) (aa := []) (nv := []) ?_ (ih1 _ (some_elim hF).symm)
        kernel_rfl
    · have hF := ite_f hF hb
      refine Wk_exit rfl ?_
      have hF := inrO_done hF dn1
      exact Wk_metP v1.1 [0, 1, 2, 8, 9] [] [100000] [] [] [] hF (by kernel_rfl)
  · intro v hF
    have hF : slices_BinarySearchFunc_api_Pair_api_Pair_string_J1 target row v = some r := hF
    unfold slices_BinarySearchFunc_api_Pair_api_Pair_string_J1 at hF
    refine Wk_seq ?_
    obtain ⟨h0, hF⟩ := asrt_elim hF
    obtain ⟨h1, hF⟩ := asrt_elim hF
    obtain ⟨x, h2, hF⟩ := lt_split hF
    refine ZR [.av (e_Pair (lget row v)), .callB (.i x)] [6, 7] [] [100000] [(6, .i v), (7, .bool ((decide (v < (row.length : Int))) && (decide (x = 0))))] (.cons (fun (ga0 : (decide (v < (row.length : Int))) = true) => (ixr_ok e_Pair (h0 ga0))) (.cons (fun (ga0 : (decide (v < (row.length : Int))) = true) => (ldr_ok e_Pair (h1 ga0))) (.cons (fun (ga0 : (decide (v < (row.length : Int))) = true) => (once_plain_1_ok (⟨(lget row v).Row, (lget row v).Value⟩ : Pair) target x h2)) .nil))) ?_
    have hF := some_elim hF
    exact Wk_ret (hfin _ ⟨[100000], [], [100000], [], [], [], by first | (rw [← hF]; kernel_rfl) | kernel_rfl⟩)

/- slices.Insert[[]api.Pair,api.Pair] -/
set_option maxHeartbeats 4000000 in
theorem slices_Insert_api_Pair_api_Pair_w : InsW Try.prog 74 88 24 2 where
  shift := by
    intro b n c i va m vc w W1 W2 hi hm hroom hc63 hov hcp1 hcp2
    have mixed : Try.prog.follows .mixedOrders = true := Ty.mixed
    have hz1 : ¬ ((m : Int) = 0) := by omega
    have hz2 : ¬ ((i : Int) = (n : Int)) := by omega
    have hw1 : IntKind.i64.wrap ((i : Int) + (m : Int)) = (i : Int) + (m : Int) := by rw [IntKind.wrap_i64]; omega
    have hw2 : IntKind.i64.wrap ((n : Int) + (m : Int)) = (n : Int) + (m : Int) := by rw [IntKind.wrap_i64]; omega
    have hb1 : (0 : Int) ≤ (i : Int) + (m : Int) := by omega
    have hin : i ≤ n := by omega
    have htn : ((i : Int) + (m : Int)).toNat = i + m := by omega
    have hb2 : ¬ (c = i + m) := by omega
    have hb3 : (i : Int) ≤ (n : Int) + (m : Int) := by omega
    have hb4 : ¬ (c = i) := by omega
    have hx : ¬ ((c : Int) < (n : Int) + (m : Int)) := by omega
    go_enter Try.func74, Try.ntmps74
    go_wp2_with (simp only [hov])
    go_region_law_o (refine step_copy_runI rfl _ _ 24 24 rfl _ _ (by simp [Act.eval, Act.put]) (by simp [Act.eval, Act.put]) (hcp1 _ _ _) ?_)
    go_wp2_with (at_builtin; refine wpList_copy_runI _ rfl _ _ 24 24 rfl _ _ rfl rfl (hcp2 _ _) ?_)
    go_ret
    exact ⟨rfl, rfl⟩
  fin := by
    intro a n c va m vc w W1 v1 hm hap hsl
    have mixed : Try.prog.follows .mixedOrders = true := Ty.mixed
    have hz1 : ¬ ((m : Int) = 0) := by omega
    obtain ⟨b, k, l, rfl⟩ := hsl
    go_enter Try.func74, Try.ntmps74
    go_wp2_with (at_builtin; refine Go.Lib.wpList_append_run _ rfl _ _ _ _ rfl _ _ rfl rfl _ _ (hap _) ?_)
    all_goals (go_ret; exact ⟨rfl, rfl⟩)
  grow := by
    intro b n c i g G va m vc w W1 W2 W3 hi hm hroom hnc hc63 hG hG63 hrz hcp1 hcp2
    have mixed : Try.prog.follows .mixedOrders = true := Ty.mixed
    have hz1 : ¬ ((m : Int) = 0) := by omega
    have hz2 : ¬ ((i : Int) = (n : Int)) := by omega
    have hz3 : (c : Int) < (n : Int) + (m : Int) := by omega
    have hw1 : IntKind.i64.wrap ((i : Int) + (m : Int)) = (i : Int) + (m : Int) := by rw [IntKind.wrap_i64]; omega
    have hw2 : IntKind.i64.wrap ((n : Int) + (m : Int)) = (n : Int) + (m : Int) := by rw [IntKind.wrap_i64]; omega
    have hw3 : IntKind.i64.wrap ((n : Int) + (m : Int) - (i : Int)) = (n : Int) + (m : Int) - (i : Int) := by rw [IntKind.wrap_i64]; omega
    have hb1 : (0 : Int) ≤ (i : Int) + (m : Int) := by omega
    have hin : i ≤ n := by omega
    have htn : ((i : Int) + (m : Int)).toNat = i + m := by omega
    have hb3 : (i : Int) ≤ (n : Int) := by omega
    have hGi : ¬ (G = i) := by omega
    have hGim : ¬ (G = i + m) := by omega
    have hci : ¬ (c = i) := by omega
    go_enter Try.func74, Try.ntmps74
    go_wp2_with (first
      | (at_builtin; refine Go.Lib.wpList_append_run _ rfl _ _ _ _ rfl _ _ rfl rfl _ _ (hrz _) ?_)
      | (at_builtin; refine wpList_copy_runI _ rfl _ _ 24 24 rfl _ _ rfl rfl (hcp1 _ _) ?_))
    go_region_law_o (refine step_copy_runI rfl _ _ 24 24 rfl (.slice (some ⟨g, (i + m) * 2, none⟩) (n + m - (i + m)) (G - (i + m))) (.slice (some ⟨b, i * 2, none⟩) (n - i) (c - i)) (by simp [Act.eval, Act.put]) (by simp [Act.eval, Act.put]) (hcp2 _ _ _) ?_)
    go_wp2
    go_ret
    exact ⟨rfl, rfl⟩
noncomputable def slices_Insert_api_Pair_api_Pair (i : Int) (v : List Pair) (row : List Pair) : Option (List Pair) :=
  asrt (0 ≤ i ∧ i ≤ (row.length : Int)) <|
  asrt (v.length ≠ 0) <|
  asrt ((row.length + v.length) * 32 ≤ 140737488351232) <|
  some (row.take i.toNat ++ v ++ row.drop i.toNat)
theorem slices_Insert_api_Pair_api_Pair_ok (i : Int) (v : List Pair) (row : List Pair) (rk : Nat) (rc : Nat) (rn : Bool) (r : List Pair) (hF : slices_Insert_api_Pair_api_Pair i v row = some r) : Pe Try.prog 74 ⟨[], [], [(100000, ⟨70, 2, 0, 0, rc, rn, 0, [], (row.map e_Pair)⟩)], [], []⟩ [.row 100000 0, .i i, .sl 2 (v.map e_Pair)] (.row 100000 1) ⟨[], [], [(100000, .o 70 2 1 (r.map e_Pair))], [], []⟩ := by
  unfold slices_Insert_api_Pair_api_Pair at hF
  obtain ⟨h0, hF⟩ := asrt_elim hF
  obtain ⟨h1, hF⟩ := asrt_elim hF
  obtain ⟨h2, hF⟩ := asrt_elim hF
  have hF := some_elim hF
  rw [← hF, List.map_append, List.map_append, List.map_take, List.map_drop]
  exact Pe_insT Ty.ok ⟨_, Try.func74, rfl, rfl⟩ slices_Insert_api_Pair_api_Pair_w rfl rfl rfl rfl rfl rfl rfl
    (fun args w => run_callFunc_extern Try.func88 (by kernel_rfl) (by kernel_rfl) (by kernel_rfl) (e := Extern.SlicesOverlaps.overlaps #[24, 24] #[4]) (by kernel_rfl) args w)
    (by rw [List.length_map]; exact h0) (by rw [List.length_map]; exact h1) (by rw [List.length_map, List.length_map]; exact h2) (by rw [List.length_map, List.length_map]; omega)

/- once.plain$2 -/
noncomputable def once_plain_2 (box : Bool) (box1 : Call) (box2 : Int) (row : List Pair) : Option (List Pair × List UInt8) :=
  if box = true then
    asrt (0 ≤ box2 ∧ box2 < (row.length : Int)) <|
    asrt (0 ≤ box2 ∧ box2 < (row.length : Int)) <|
    some ((lset row box2 (⟨(lget row box2).Row, box1.Value⟩ : Pair)), ([111, 107] : List UInt8))
  else
    ob (slices_Insert_api_Pair_api_Pair box2 [(⟨box1.Row, box1.Value⟩ : Pair)] row) fun x =>
    some (x, ([111, 107] : List UInt8))
theorem once_plain_2_ok (box : Bool) (box1 : Call) (box2 : Int) (row : List Pair) (rk : Nat) (rc : Nat) (rn : Bool) (r : List Pair × List UInt8) (hF : once_plain_2 box box1 box2 row = some r) : Pe Try.prog 73 ⟨[], [(100000, [.bool box]), (100001, (c_Call box1)), (100002, [.row 100000 0]), (100003, [.i box2])], [(100000, ⟨70, 2, 0, 0, rc, rn, 0, [], (row.map e_Pair)⟩)], [], []⟩ [.ptr 100000 0, .ptr 100001 0, .ptr 100002 0, .ptr 100003 0] (.tup [.row 100000 1, .str r.2]) ⟨[], [(100000, [.bool box]), (100001, (c_Call box1)), (100002, [.any]), (100003, [.i box2])], [(100000, .o 70 2 1 (r.1.map e_Pair))], [], []⟩ := by
  refine Pe_of (N := 23) (res := [.tmp 4, .tmp 5]) (ts := [24, 9]) Ty.ok Fn.b73 Try.func73 rfl rfl rfl rfl rfl rfl ?_
  intro Q g hfin
  unfold once_plain_2 at hF
  refine ZRs [] [0, 1, 2, 3] [100000, 100001, 100002, 100003] [100000] [] .nil ?_
  refine Wk_seq ?_
  refine ZRs [] [1, 2, 3, 6] [100000, 100001, 100002, 100003] [100000] [(6, .bool box)] .nil ?_
  refine Wk_split rfl (fun hb => ?_) (fun hb => ?_)
  · have hF := ite_t hF hb
    refine Wk_seq ?_
    obtain ⟨h0, hF⟩ := asrt_elim hF
    obtain ⟨h1, hF⟩ := asrt_elim hF
    refine UR [.av (e_Pair (lget row box2)), .xs ((lset row box2 (⟨(lget row box2).Row, box1.Value⟩ : Pair)).map e_Pair)] [2] [100000, 100001, 100002, 100003] [100000] [] [] [] [(100000, ⟨70, 2, 0, 0, rc, rn, 0, [], ((lset row box2 (⟨(lget row box2).Row, box1.Value⟩ : Pair)).map e_Pair)⟩)] [] (.cons (ixr_ok e_Pair h0) (.cons (ldr_ok e_Pair h1) (.cons (set_ok e_Pair row box2 (⟨(lget row box2).Row, box1.Value⟩ : Pair)) (.cons (Nat.zero_le box2.toNat) .nil)))) ?_
    refine ZRs [] [4, 5] [100000, 100001, 100002, 100003] [100000] [(4, .row 100000 0), (5, .str ([111, 107] : List UInt8))] .nil ?_
    have hF := some_elim hF
    refine Wk_coeB 100002 [.any] rfl (.cons (CoeS.any _) .nil) ?_
    exact Wk_ret (hfin _ ⟨[100000], [100000, 100001, 100002, 100003], [100000], [], [], [(100000, ⟨1, false, false, false⟩)], by first | (rw [← hF]; kernel_rfl) | kernel_rfl⟩)
  · have hF := ite_f hF hb
    refine Wk_skip ?_
    refine Wk_seq ?_
    obtain ⟨x, h2, hF⟩ := ob_elim hF
    refine UR [.sealed, .callE [] [100000] [] [] (.row 100000 1) ⟨[], [], [(100000, .o 70 2 1 (x.map e_Pair))], [], []⟩] [4, 5] [100000, 100001, 100002, 100003] [100000] [] [(4, .row 100000 1), (5, .str ([111, 107] : List UInt8))] [] [(100000, .o 70 2 1 (x.map e_Pair))] [] (.cons (Pe.ren (slices_Insert_api_Pair_api_Pair_ok box2 [(⟨box1.Row, box1.Value⟩ : Pair)] row 0 rc rn x h2) ⟨[], [], [], []⟩) .nil) ?_
    have hF := some_elim hF
    refine Wk_coeB 100002 [.any] rfl (.cons (CoeS.any _) .nil) ?_
    exact Wk_ret (hfin _ ⟨[100000], [100000, 100001, 100002, 100003], [100000], [], [], [], by first | (rw [← hF]; kernel_rfl) | kernel_rfl⟩)

/- slices.Delete[[]api.Pair,api.Pair] -/
noncomputable def slices_Delete_api_Pair_api_Pair (i : Int) (j : Int) (row : List Pair) : Option (List Pair) :=
  asrt ((0 : Int) ≤ i ∧ i ≤ j ∧ j ≤ (row.length : Int) ∧ (row.length : Int) ≤ (row.length : Int)) <|
  if (decide (i = j)) = true then
    some row
  else
    asrt (0 ≤ i ∧ i ≤ (row.length : Int)) <|
    asrt (0 ≤ j ∧ j ≤ (row.length : Int)) <|
    asrt (((row.take i.toNat ++ ((row.drop j.toNat).take (row.length - j.toNat))).length : Int) * 32 ≤ 140737488351232) <|
    asrt (i.toNat ≤ row.length) <|
    asrt (j.toNat + (row.length - j.toNat) ≤ row.length) <|
    asrt (0 ≤ ((row.take i.toNat ++ ((row.drop j.toNat).take (row.length - j.toNat))).length : Int) ∧ ((row.take i.toNat ++ ((row.drop j.toNat).take (row.length - j.toNat))).length : Int) ≤ (row.length : Int) ∧ ((row.length : Int).toNat ≤ (row.take i.toNat ++ ((row.drop j.toNat).take (row.length - j.toNat))).length ∨ (row.length : Int).toNat ≤ ((row.map e_Pair).length))) <|
    lt ((lclear (row.take i.toNat ++ ((row.drop j.toNat).take (row.length - j.toNat))) (((row.take i.toNat ++ ((row.drop j.toNat).take (row.length - j.toNat))).length : Int).toNat) ((row.length : Int).toNat - ((row.take i.toNat ++ ((row.drop j.toNat).take (row.length - j.toNat))).length : Int).toNat) ((⟨([] : List UInt8), ([] : List UInt8)⟩ : Pair) : Pair))) fun (v : List Pair) =>
    some v
theorem slices_Delete_api_Pair_api_Pair_ok (i : Int) (j : Int) (row : List Pair) (rk : Nat) (rc : Nat) (rn : Bool) (r : List Pair) (hF : slices_Delete_api_Pair_api_Pair i j row = some r) : Pe Try.prog 75 ⟨[], [], [(100000, ⟨70, 2, 0, 0, rc, rn, 0, [], (row.map e_Pair)⟩)], [], []⟩ [.row 100000 0, .i i, .i j] (.row 100000 1) ⟨[], [], [(100000, .o 70 2 1 (r.map e_Pair))], [], []⟩ := by
  refine Pe_of (N := 33) (res := [.tmp 6]) (ts := [24]) Ty.ok Fn.b75 Try.func75 rfl rfl rfl rfl rfl rfl ?_
  intro Q g hfin
  unfold slices_Delete_api_Pair_api_Pair at hF
  refine ZRs [] [0, 1, 2] [] [100000] [] .nil ?_
  refine Wk_seq ?_
  obtain ⟨h0, hF⟩ := asrt_elim hF
  refine ZR [.nat (row.length : Int)] [0, 1, 2] [] [100000] [] (.cons (len_ok e_Pair row) (.cons (s3_ok e_Pair h0) .nil)) ?_
  refine Wk_seq ?_
  refine ZRs [] [0, 1, 2, 16] [] [100000] [(16, .bool (decide (i = j)))] .nil ?_
  refine Wk_split rfl (fun hb => ?_) (fun hb => ?_)
  · have hF := ite_t hF hb
    refine ZRs [] [6] [] [100000] [(6, .row 100000 0)] .nil ?_
    have hF := some_elim hF
    exact Wk_ret (hfin _ ⟨[100000], [], [100000], [], [], [(100000, ⟨1, false, false, false⟩)], by first | (rw [← hF]; kernel_rfl) | kernel_rfl⟩)
  · have hF := ite_f hF hb
    refine Wk_skip ?_
    refine ZRs [.nat (row.length : Int)] [0, 1, 2, 7] [] [100000] [(7, .i (row.length : Int))] (.cons (len_ok e_Pair row) .nil) ?_
    refine Wk_seq ?_
    obtain ⟨h1, hF⟩ := asrt_elim hF
    obtain ⟨h2, hF⟩ := asrt_elim hF
    obtain ⟨h3, hF⟩ := asrt_elim hF
    obtain ⟨h4, hF⟩ := asrt_elim hF
    obtain ⟨h5, hF⟩ := asrt_elim hF
    refine UD [.vw i.toNat, .vw (row.length - j.toNat), .xs ((row.take i.toNat ++ ((row.drop j.toNat).take (row.length - j.toNat))).map e_Pair)] [0, 7] [] [100000] [] [(0, .row 100000 1)] [] [(100000, ⟨70, 2, 1, 0, (row.map e_Pair).length, false, 0, [], ((row.take i.toNat ++ ((row.drop j.toNat).take (row.length - j.toNat))).map e_Pair)⟩)] [] (.cons (vw01_ok (cm := rc) e_Pair h1) (.cons (vw10_ok e_Pair h2) (.cons (tapv_ok e_Pair row i.toNat row j.toNat (row.length - j.toNat)) (.cons (appl_ok e_Pair h3) (.cons (tk_ok e_Pair h4) (.cons (srcv_ok e_Pair h5) .nil)))))) ?_
    refine Wk_seq ?_
    obtain ⟨h7, hF⟩ := asrt_elim hF
    refine WRL ((lclear (row.take i.toNat ++ ((row.drop j.toNat).take (row.length - j.toNat))) (((row.take i.toNat ++ ((row.drop j.toNat).take (row.length - j.toNat))).length : Int).toNat) ((row.length : Int).toNat - ((row.take i.toNat ++ ((row.drop j.toNat).take (row.length - j.toNat))).length : Int).toNat) ((⟨([] : List UInt8), ([] : List UInt8)⟩ : Pair) : Pair))) (fun v : List Pair => ⟨[(0, .row 100000 1)], [], [(100000, ⟨70, 2, 1, 0, (row.map e_Pair).length, false, 0, [], (v.map e_Pair)⟩)], [], []⟩) [.nat ((row.take i.toNat ++ ((row.drop j.toNat).take (row.length - j.toNat))).length : Int), .vw ((row.length : Int).toNat - ((row.take i.toNat ++ ((row.drop j.toNat).take (row.length - j.toNat))).length : Int).toNat), .xs ((lclear (row.take i.toNat ++ ((row.drop j.toNat).take (row.length - j.toNat))) (((row.take i.toNat ++ ((row.drop j.toNat).take (row.length - j.toNat))).length : Int).toNat) ((row.length : Int).toNat - ((row.take i.toNat ++ ((row.drop j.toNat).take (row.length - j.toNat))).length : Int).toNat) ((⟨([] : List UInt8), ([] : List UInt8)⟩ : Pair) : Pair)).map e_Pair)] [0] [] [100000] [] [] [] (.cons (len_ok e_Pair (row.take i.toNat ++ ((row.drop j.toNat).take (row.length - j.toNat)))) (.cons (vw11c_ok e_Pair h7) (.cons (clr_ok e_Pair (row.take i.toNat ++ ((row.drop j.toNat).take (row.length - j.toNat))) (((row.take i.toNat ++ ((row.drop j.toNat).take (row.length - j.toNat))).length : Int).toNat) ((row.length : Int).toNat - ((row.take i.toNat ++ ((row.drop j.toNat).take (row.length - j.toNat))).length : Int).toNat) ((⟨([] : List UInt8), ([] : List UInt8)⟩ : Pair) : Pair)) (.cons (Nat.zero_le (((row.take i.toNat ++ ((row.drop j.toNat).take (row.length - j.toNat))).length : Int).toNat)) .nil)))) (by kernel_rfl) (fun v hv => ?_)
    have hF := lt_elim hF hv
    refine ZRs [] [6] [] [100000] [(6, .row 100000 1)] .nil ?_
    have hF := some_elim hF
    exact Wk_ret (hfin _ ⟨[100000], [], [100000], [], [], [(100000, ⟨1, false, true, false⟩)], by first | (rw [← hF]; kernel_rfl) | kernel_rfl⟩)

/- once.plain -/
noncomputable def once_plain (rows : List Pair) (c : Call) : Option (List Pair × List UInt8) :=
  ob (slices_Clone_api_Pair_api_Pair rows) fun x =>
  ob (slices_BinarySearchFunc_api_Pair_api_Pair_string c.Row x) fun x1 =>
  if (decide (c.Kind = 1)) = true then
    ob (once_plain_2 x1.2 c x1.1 x) fun x2 =>
    some (x2.1, x2.2)
  else
    if (decide (c.Kind = 2)) = true then
      if (!x1.2) = true then
        some (x, ([110, 111, 110, 101] : List UInt8))
      else
        asrt (0 ≤ x1.1 ∧ x1.1 < (x.length : Int)) <|
        asrt (0 ≤ x1.1 ∧ x1.1 < (x.length : Int)) <|
        asrt ((([61] : List UInt8).length : Int) + ((lget x x1.1).Value).length ≤ 9223372036854775807) <|
        some (x, (([61] : List UInt8) ++ ((lget x x1.1).Value)))
    else
      if (decide (c.Kind = 3)) = true then
        asrt ((!(!x1.2)) = true → 0 ≤ x1.1 ∧ x1.1 < (x.length : Int)) <|
        asrt ((!(!x1.2)) = true → 0 ≤ x1.1 ∧ x1.1 < (x.length : Int)) <|
        if ((!x1.2) || (!decide (((lget x x1.1).Value) = c.Old))) = true then
          some (x, ([110, 111] : List UInt8))
        else
          ob (once_plain_2 x1.2 c x1.1 x) fun x3 =>
          some (x3.1, x3.2)
      else
        if (!x1.2) = true then
          some (x, ([110, 111, 110, 101] : List UInt8))
        else
          ob (slices_Delete_api_Pair_api_Pair x1.1 (w64 (x1.1 + 1)) x) fun x4 =>
          some (x4, ([111, 107] : List UInt8))
theorem once_plain_ok (rows : List Pair) (c : Call) (r : List Pair × List UInt8) (hF : once_plain rows c = some r) : Pe Try.prog 42 ⟨[], [], [], [], []⟩ [.sl 2 (rows.map e_Pair), .agg (c_Call c)] (.tup [.row 10 0, .str r.2]) ⟨[], [], [(10, .o 70 2 0 (r.1.map e_Pair))], [], []⟩ := by
  refine Pe_of (N := 66) (res := [.tmp 4, .tmp 5]) (ts := [24, 9]) Ty.ok Fn.b42 Try.func42 rfl rfl rfl rfl rfl rfl ?_
  intro Q g hfin
  unfold once_plain at hF
  refine URs [] [2, 3] [2, 3] [] [] [(2, .ptr 2 0), (3, .ptr 3 0)] [(2, [.sl 2 (rows.map e_Pair)]), (3, (c_Call c))] [] [] .nil ?_
  refine Wk_seq ?_
  obtain ⟨x, h0, hF⟩ := ob_elim hF
  refine UR [.callE [] [] [] [] (.row 10 0) ⟨[], [], [(10, .o 70 2 0 (x.map e_Pair))], [], []⟩] [2, 3] [2, 3] [10] [] [] [(2, [.row 10 0])] [(10, .o 70 2 0 (x.map e_Pair))] [] (.cons (Pe.ren (slices_Clone_api_Pair_api_Pair_ok rows x h0) ⟨[], [(5, 10)], [], []⟩) .nil) ?_
  refine Wk_seq ?_
  obtain ⟨x1, h1, hF⟩ := ob_elim hF
  refine UR [.callR [] [10] [] [] (.tup [.i x1.1, .bool x1.2])] [2, 3, 6, 7] [2, 3, 6, 7] [10] [] [(6, .ptr 6 0), (7, .ptr 7 0)] [(6, [.i x1.1]), (7, [.bool x1.2])] [] [] (.cons (Pe.ren (slices_BinarySearchFunc_api_Pair_api_Pair_string_ok c.Row x 0 0 false x1 h1) ⟨[], [(100000, 10)], [], []⟩) .nil) ?_
  refine ZRs [] [2, 3, 6, 7, 8] [2, 3, 6, 7] [10] [(8, .fn 73 [.ptr 7 0, .ptr 3 0, .ptr 2 0, .ptr 6 0])] .nil ?_
  refine Wk_seq ?_
  refine ZRs [] [2, 3, 6, 7, 8, 20] [2, 3, 6, 7] [10] [(20, .i c.Kind)] .nil ?_
  refine Wk_block ?_
  refine ZRs [] [2, 3, 6, 7, 8, 20, 21] [2, 3, 6, 7] [10] [(21, .bool (decide (c.Kind = 1)))] .nil ?_
  refine Wk_split rfl (fun hb => ?_) (fun hb => ?_)
  · have hF := ite_t hF hb
    refine Wk_seq ?_
    obtain ⟨x2, h2, hF⟩ := ob_elim hF
    refine UR [.callE [7, 3, 2, 6] [10] [] [] (.tup [.row 10 1, .str x2.2]) ⟨[], [(7, [.bool x1.2]), (3, (c_Call c)), (2, [.any]), (6, [.i x1.1])], [(10, .o 70 2 1 (x2.1.map e_Pair))], [], []⟩] [4, 5] [] [10] [] [(4, .row 10 1), (5, .str x2.2)] [] [(10, .o 70 2 1 (x2.1.map e_Pair))] [] (.cons (Pe.ren (once_plain_2_ok x1.2 c x1.1 x 0 0 false x2 h2) ⟨[(100000, 7), (100001, 3), (100002, 2), (100003, 6)], [(100000, 10)], [], []⟩) .nil) ?_
    have hF := some_elim hF
    exact Wk_ret (hfin _ ⟨[10], [], [10], [], [], [(10, ⟨0, true, true, false⟩)], by first | (rw [← hF]; kernel_rfl) | kernel_rfl⟩)
  · have hF := ite_f hF hb
    refine ZRs [] [2, 3, 6, 7, 8, 20, 27] [2, 3, 6, 7] [10] [(27, .bool (decide (c.Kind = 2)))] .nil ?_
    refine Wk_split rfl (fun hb => ?_) (fun hb => ?_)
    · have hF := ite_t hF hb
      refine Wk_seq ?_
      refine ZRs [] [2, 6, 30] [2, 6] [10] [(30, .bool (!x1.2))] .nil ?_
      refine Wk_split rfl (fun hb => ?_) (fun hb => ?_)
      · have hF := ite_t hF hb
        refine ZRs [] [4, 5] [] [10] [(4, .row 10 0), (5, .str ([110, 111, 110, 101] : List UInt8))] .nil ?_
        have hF := some_elim hF
        exact Wk_ret (hfin _ ⟨[10], [], [10], [], [], [], by first | (rw [← hF]; kernel_rfl) | kernel_rfl⟩)
      · have hF := ite_f hF hb
        refine Wk_skip ?_
        refine Wk_seq ?_
        obtain ⟨h3, hF⟩ := asrt_elim hF
        obtain ⟨h4, hF⟩ := asrt_elim hF
        obtain ⟨h5, hF⟩ := asrt_elim hF
        refine ZD [.av (e_Pair (lget x x1.1))] [4, 5] [] [10] [(4, .row 10 0), (5, .str (([61] : List UInt8) ++ ((lget x x1.1).Value)))] (.cons (ixr_ok e_Pair h3) (.cons (ldr_ok e_Pair h4) (.cons (cat_ok h5) .nil))) ?_
        have hF := some_elim hF
        exact Wk_ret (hfin _ ⟨[10], [], [10], [], [], [], by first | (rw [← hF]; kernel_rfl) | kernel_rfl⟩)
    · have hF := ite_f hF hb
      refine ZRs [] [2, 3, 6, 7, 8, 39] [2, 3, 6, 7] [10] [(39, .bool (decide (c.Kind = 3)))] .nil ?_
      refine Wk_split rfl (fun hb => ?_) (fun hb => ?_)
      · have hF := ite_t hF hb
        refine Wk_seq ?_
        refine Wk_seq ?_
        obtain ⟨h6, hF⟩ := asrt_elim hF
        obtain ⟨h7, hF⟩ := asrt_elim hF
        refine ZD [.av (e_Pair (lget x x1.1))] [2, 8, 52] [2, 3, 6, 7] [10] [(52, .bool ((!x1.2) || (!decide (((lget x x1.1).Value) = c.Old))))] (.cons (fun (ga0 : (!(!x1.2)) = true) => (ixr_ok e_Pair (h6 ga0))) (.cons (fun (ga0 : (!(!x1.2)) = true) => (ldr_ok e_Pair (h7 ga0))) .nil)) ?_
        refine Wk_split rfl (fun hb => ?_) (fun hb => ?_)
        · have hF := ite_t hF hb
          refine ZRs [] [4, 5] [] [10] [(4, .row 10 0), (5, .str ([110, 111] : List UInt8))] .nil ?_
          have hF := some_elim hF
          exact Wk_ret (hfin _ ⟨[10], [], [10], [], [], [], by first | (rw [← hF]; kernel_rfl) | kernel_rfl⟩)
        · have hF := ite_f hF hb
          refine Wk_skip ?_
          refine Wk_seq ?_
          obtain ⟨x3, h8, hF⟩ := ob_elim hF
          refine UR [.callE [7, 3, 2, 6] [10] [] [] (.tup [.row 10 1, .str x3.2]) ⟨[], [(7, [.bool x1.2]), (3, (c_Call c)), (2, [.any]), (6, [.i x1.1])], [(10, .o 70 2 1 (x3.1.map e_Pair))], [], []⟩] [4, 5] [] [10] [] [(4, .row 10 1), (5, .str x3.2)] [] [(10, .o 70 2 1 (x3.1.map e_Pair))] [] (.cons (Pe.ren (once_plain_2_ok x1.2 c x1.1 x 0 0 false x3 h8) ⟨[(100000, 7), (100001, 3), (100002, 2), (100003, 6)], [(100000, 10)], [], []⟩) .nil) ?_
          have hF := some_elim hF
          exact Wk_ret (hfin _ ⟨[10], [], [10], [], [], [(10, ⟨0, true, true, false⟩)], by first | (rw [← hF]; kernel_rfl) | kernel_rfl⟩)
      · have hF := ite_f hF hb
        refine Wk_skip ?_
        refine Wk_blk ?_
        refine Wk_seq ?_
        refine ZRs [] [2, 6, 59] [2, 6] [10] [(59, .bool (!x1.2))] .nil ?_
        refine Wk_split rfl (fun hb => ?_) (fun hb => ?_)
        · have hF := ite_t hF hb
          refine ZRs [] [4, 5] [] [10] [(4, .row 10 0), (5, .str ([110, 111, 110, 101] : List UInt8))] .nil ?_
          have hF := some_elim hF
          exact Wk_ret (hfin _ ⟨[10], [], [10], [], [], [], by first | (rw [← hF]; kernel_rfl) | kernel_rfl⟩)
        · have hF := ite_f hF hb
          refine Wk_skip ?_
          refine Wk_seq ?_
          obtain ⟨x4, h9, hF⟩ := ob_elim hF
          refine UR [.callE [] [10] [] [] (.row 10 1) ⟨[], [], [(10, .o 70 2 1 (x4.map e_Pair))], [], []⟩] [4, 5] [] [10] [] [(4, .row 10 1), (5, .str ([111, 107] : List UInt8))] [] [(10, .o 70 2 1 (x4.map e_Pair))] [] (.cons (Pe.ren (slices_Delete_api_Pair_api_Pair_ok x1.1 (w64 (x1.1 + 1)) x 0 0 false x4 h9) ⟨[], [(100000, 10)], [], []⟩) .nil) ?_
          have hF := some_elim hF
          exact Wk_ret (hfin _ ⟨[10], [], [10], [], [], [(10, ⟨0, true, true, false⟩)], by first | (rw [← hF]; kernel_rfl) | kernel_rfl⟩)

/- slices.Insert[[]api.Memo,api.Memo] -/
set_option maxHeartbeats 4000000 in
theorem slices_Insert_api_Memo_api_Memo_w : InsW Try.prog 43 76 25 3 where
  shift := by
    intro b n c i va m vc w W1 W2 hi hm hroom hc63 hov hcp1 hcp2
    have mixed : Try.prog.follows .mixedOrders = true := Ty.mixed
    have hz1 : ¬ ((m : Int) = 0) := by omega
    have hz2 : ¬ ((i : Int) = (n : Int)) := by omega
    have hw1 : IntKind.i64.wrap ((i : Int) + (m : Int)) = (i : Int) + (m : Int) := by rw [IntKind.wrap_i64]; omega
    have hw2 : IntKind.i64.wrap ((n : Int) + (m : Int)) = (n : Int) + (m : Int) := by rw [IntKind.wrap_i64]; omega
    have hb1 : (0 : Int) ≤ (i : Int) + (m : Int) := by omega
    have hin : i ≤ n := by omega
    have htn : ((i : Int) + (m : Int)).toNat = i + m := by omega
    have hb2 : ¬ (c = i + m) := by omega
    have hb3 : (i : Int) ≤ (n : Int) + (m : Int) := by omega
    have hb4 : ¬ (c = i) := by omega
    have hx : ¬ ((c : Int) < (n : Int) + (m : Int)) := by omega
    go_enter Try.func43, Try.ntmps43
    go_wp2_with (simp only [hov])
    go_region_law_o (refine step_copy_runI rfl _ _ 25 25 rfl _ _ (by simp [Act.eval, Act.put]) (by simp [Act.eval, Act.put]) (hcp1 _ _ _) ?_)
    go_wp2_with (at_builtin; refine wpList_copy_runI _ rfl _ _ 25 25 rfl _ _ rfl rfl (hcp2 _ _) ?_)
    go_ret
    exact ⟨rfl, rfl⟩
  fin := by
    intro a n c va m vc w W1 v1 hm hap hsl
    have mixed : Try.prog.follows .mixedOrders = true := Ty.mixed
    have hz1 : ¬ ((m : Int) = 0) := by omega
    obtain ⟨b, k, l, rfl⟩ := hsl
    go_enter Try.func43, Try.ntmps43
    go_wp2_with (at_builtin; refine Go.Lib.wpList_append_run _ rfl _ _ _ _ rfl _ _ rfl rfl _ _ (hap _) ?_)
    all_goals (go_ret; exact ⟨rfl, rfl⟩)
  grow := by
    intro b n c i g G va m vc w W1 W2 W3 hi hm hroom hnc hc63 hG hG63 hrz hcp1 hcp2
    have mixed : Try.prog.follows .mixedOrders = true := Ty.mixed
    have hz1 : ¬ ((m : Int) = 0) := by omega
    have hz2 : ¬ ((i : Int) = (n : Int)) := by omega
    have hz3 : (c : Int) < (n : Int) + (m : Int) := by omega
    have hw1 : IntKind.i64.wrap ((i : Int) + (m : Int)) = (i : Int) + (m : Int) := by rw [IntKind.wrap_i64]; omega
    have hw2 : IntKind.i64.wrap ((n : Int) + (m : Int)) = (n : Int) + (m : Int) := by rw [IntKind.wrap_i64]; omega
    have hw3 : IntKind.i64.wrap ((n : Int) + (m : Int) - (i : Int)) = (n : Int) + (m : Int) - (i : Int) := by rw [IntKind.wrap_i64]; omega
    have hb1 : (0 : Int) ≤ (i : Int) + (m : Int) := by omega
    have hin : i ≤ n := by omega
    have htn : ((i : Int) + (m : Int)).toNat = i + m := by omega
    have hb3 : (i : Int) ≤ (n : Int) := by omega
    have hGi : ¬ (G = i) := by omega
    have hGim : ¬ (G = i + m) := by omega
    have hci : ¬ (c = i) := by omega
    go_enter Try.func43, Try.ntmps43
    go_wp2_with (first
      | (at_builtin; refine Go.Lib.wpList_append_run _ rfl _ _ _ _ rfl _ _ rfl rfl _ _ (hrz _) ?_)
      | (at_builtin; refine wpList_copy_runI _ rfl _ _ 25 25 rfl _ _ rfl rfl (hcp1 _ _) ?_))
    go_region_law_o (refine step_copy_runI rfl _ _ 25 25 rfl (.slice (some ⟨g, (i + m) * 3, none⟩) (n + m - (i + m)) (G - (i + m))) (.slice (some ⟨b, i * 3, none⟩) (n - i) (c - i)) (by simp [Act.eval, Act.put]) (by simp [Act.eval, Act.put]) (hcp2 _ _ _) ?_)
    go_wp2
    go_ret
    exact ⟨rfl, rfl⟩
noncomputable def slices_Insert_api_Memo_api_Memo (i : Int) (v : List Memo) (row : List Memo) : Option (List Memo) :=
  asrt (0 ≤ i ∧ i ≤ (row.length : Int)) <|
  asrt (v.length ≠ 0) <|
  asrt ((row.length + v.length) * 32 ≤ 140737488351232) <|
  some (row.take i.toNat ++ v ++ row.drop i.toNat)
theorem slices_Insert_api_Memo_api_Memo_ok (i : Int) (v : List Memo) (row : List Memo) (rk : Nat) (rc : Nat) (rn : Bool) (r : List Memo) (hF : slices_Insert_api_Memo_api_Memo i v row = some r) : Pe Try.prog 43 ⟨[], [], [(100000, ⟨37, 3, 0, 0, rc, rn, 0, [], (row.map e_Memo)⟩)], [], []⟩ [.row 100000 0, .i i, .sl 3 (v.map e_Memo)] (.row 100000 1) ⟨[], [], [(100000, .o 37 3 1 (r.map e_Memo))], [], []⟩ := by
  unfold slices_Insert_api_Memo_api_Memo at hF
  obtain ⟨h0, hF⟩ := asrt_elim hF
  obtain ⟨h1, hF⟩ := asrt_elim hF
  obtain ⟨h2, hF⟩ := asrt_elim hF
  have hF := some_elim hF
  rw [← hF, List.map_append, List.map_append, List.map_take, List.map_drop]
  exact Pe_insT Ty.ok ⟨_, Try.func43, rfl, rfl⟩ slices_Insert_api_Memo_api_Memo_w rfl rfl rfl rfl rfl rfl rfl
    (fun args w => run_callFunc_extern Try.func76 (by kernel_rfl) (by kernel_rfl) (by kernel_rfl) (e := Extern.SlicesOverlaps.overlaps #[25, 25] #[4]) (by kernel_rfl) args w)
    (by rw [List.length_map]; exact h0) (by rw [List.length_map]; exact h1) (by rw [List.length_map, List.length_map]; exact h2) (by rw [List.length_map, List.length_map]; omega)

/- once.Do -/
noncomputable def once_Do_v1 (l : Ledger) (c : Call) : Option (Ledger × List UInt8 × Fault) :=
  ob (once_Check l) fun x =>
  ob (
    if (decide (x.Code = 0)) = true then
      lt (once_called c) fun x1 =>
      some x1
    else
      some x) fun (v : Fault) =>
  if (!decide (v.Code = 0)) = true then
    some ((⟨([] : List Pair), ([] : List Memo)⟩ : Ledger), ([] : List UInt8), v)
  else
    ob (slices_Clone_api_Memo_api_Memo l.Memos) fun x2 =>
    ob (slices_BinarySearchFunc_api_Memo_api_Memo_int c.Client x2) fun x3 =>
    ob (
      if x3.2 = true then
        asrt (0 ≤ x3.1 ∧ x3.1 < (x2.length : Int)) <|
        asrt (0 ≤ x3.1 ∧ x3.1 < (x2.length : Int)) <|
        some ((lget x2 x3.1).Seq)
      else
        some 0) fun (v1 : Int) =>
    if (x3.2 && (decide (c.Seq = v1))) = true then
      ob (slices_Clone_api_Pair_api_Pair l.Rows) fun x4 =>
      asrt (0 ≤ x3.1 ∧ x3.1 < (x2.length : Int)) <|
      asrt (0 ≤ x3.1 ∧ x3.1 < (x2.length : Int)) <|
      some ((⟨x4, x2⟩ : Ledger), (lget x2 x3.1).Said, v)
    else
      if (decide (c.Seq < v1)) = true then
        lt (once_fault 12 0) fun x5 =>
        some ((⟨([] : List Pair), ([] : List Memo)⟩ : Ledger), ([] : List UInt8), x5)
      else
        if (decide ((w64 (v1 + 1)) < c.Seq)) = true then
          lt (once_fault 11 0) fun x6 =>
          some ((⟨([] : List Pair), ([] : List Memo)⟩ : Ledger), ([] : List UInt8), x6)
        else
          ob (once_plain l.Rows c) fun x7 =>
          ob (
            if x3.2 = true then
              asrt (0 ≤ x3.1 ∧ x3.1 < (x2.length : Int)) <|
              asrt (0 ≤ x3.1 ∧ x3.1 < (x2.length : Int)) <|
              some (lset x2 x3.1 (⟨c.Client, c.Seq, x7.2⟩ : Memo))
            else
              ob (slices_Insert_api_Memo_api_Memo x3.1 [(⟨c.Client, c.Seq, x7.2⟩ : Memo)] x2) fun x8 =>
              some x8) fun (v2 : List Memo) =>
          if ((decide (1000 < (x7.1.length : Int))) || (decide (1000 < (v2.length : Int)))) = true then
            lt (once_fault 9 0) fun x9 =>
            some ((⟨([] : List Pair), ([] : List Memo)⟩ : Ledger), ([] : List UInt8), x9)
          else
            some ((⟨x7.1, v2⟩ : Ledger), x7.2, v)
theorem once_Do_v1_ok (l : Ledger) (c : Call) (r : Ledger × List UInt8 × Fault) (hF : once_Do_v1 l c = some r) : Pe Try.prog 9 S.none [.agg [.sl 2 (l.Rows.map e_Pair), .sl 3 (l.Memos.map e_Memo)], .agg (c_Call c)] (.tup [.agg [.sl 2 (r.1.Rows.map e_Pair), .sl 3 (r.1.Memos.map e_Memo)], .str r.2.1, .agg [.i r.2.2.Code, .i r.2.2.At]]) S.none := by
  refine Pe_of (N := 115) (res := [.cell 4 27, .tmp 5, .cell 6 32]) (ts := [27, 9, 32]) Ty.ok Fn.b9 Try.func9 rfl rfl rfl rfl rfl rfl ?_
  intro Q g hfin
  unfold once_Do_v1 at hF
  refine URs [] [2, 3, 4, 6] [2, 3, 4, 6] [] [] [(2, .ptr 2 0), (3, .ptr 3 0), (4, .ptr 4 0), (6, .ptr 6 0)] [(2, [.sl 2 (l.Rows.map e_Pair), .sl 3 (l.Memos.map e_Memo)]), (3, (c_Call c)), (4, [.nils, .nils]), (6, [.i 0, .i 0])] [] [] .nil ?_
  refine Wk_seq ?_
  obtain ⟨x, h0, hF⟩ := ob_elim hF
  refine UR [.callB (.agg [.i x.Code, .i x.At])] [2, 3, 4, 6, 7] [2, 3, 4, 6, 7] [] [] [(7, .ptr 7 0)] [(7, [.i x.Code, .i x.At])] [] [] (.cons (once_Check_ok l x h0) .nil) ?_
  refine Wk_seq ?_
  refine ZRs [] [2, 3, 4, 6, 7, 19] [2, 3, 4, 6, 7] [] [(19, .bool (decide (x.Code = 0)))] .nil ?_
  obtain ⟨v, hv, hF⟩ := ob_elim hF
  refine Wk_meet (⟨[(2, .ptr 2 0), (3, .ptr 3 0), (4, .ptr 4 0), (6, .ptr 6 0), (7, .ptr 7 0)], [(2, [.sl 2 (l.Rows.map e_Pair), .sl 3 (l.Memos.map e_Memo)]), (3, (c_Call c)), (4, [.nils, .nils]), (6, [.i 0, .i 0]), (7, [.i v.Code, .i v.At])], [], [], []⟩ : S) ?_ ?_
  · have hF := hv
    refine Wk_split rfl (fun hb => ?_) (fun hb => ?_)
    · have hF := ite_t hF hb
      obtain ⟨x1, h1, hF⟩ := lt_split hF
      refine UR [.callB (.agg [.i x1.Code, .i x1.At])] [2, 3, 4, 6, 7] [2, 3, 4, 6, 7] [] [] [] [(7, [.i x1.Code, .i x1.At])] [] [] (.cons (once_called_ok c x1 h1) .nil) ?_
      exact Wk_met (fs := [2, 3, 4, 6, 7]) (bs := [2, 3, 4, 6, 7]) (rs := []) (ms := []) (aa := []) (nv := []) (by first | (rw [← some_elim hF]; kernel_rfl) | kernel_rfl)
    · have hF := ite_f hF hb
      refine Wk_skip ?_
      exact Wk_met (fs := [2, 3, 4, 6, 7]) (bs := [2, 3, 4, 6, 7]) (rs := []) (ms := []) (aa := []) (nv := []) (by first | (rw [← some_elim hF]; kernel_rfl) | kernel_rfl)
  · refine Wk_seq ?_
    refine ZRs [] [2, 3, 4, 6, 7, 24] [2, 3, 4, 6, 7] [] [(24, .bool (!decide (v.Code = 0)))] .nil ?_
    refine Wk_split rfl (fun hb => ?_) (fun hb => ?_)
    · have hF := ite_t hF hb
      refine UDs [] [4, 5, 6] [4, 6] [] [] [(5, .str ([] : List UInt8))] [(6, [.i v.Code, .i v.At])] [] [] .nil ?_
      have hF := some_elim hF
      exact Wk_ret (hfin _ ⟨[], [], [], [], [], [], by first | (rw [← hF]; kernel_rfl) | kernel_rfl⟩)
    · have hF := ite_f hF hb
      refine Wk_skip ?_
      refine Wk_seq ?_
      obtain ⟨x2, h2, hF⟩ := ob_elim hF
      refine UR [.callE [] [] [] [] (.row 29 0) ⟨[], [], [(29, .o 37 3 0 (x2.map e_Memo))], [], []⟩] [2, 3, 4, 6, 7, 8] [2, 3, 4, 6, 7] [29] [] [(8, .row 29 0)] [] [(29, .o 37 3 0 (x2.map e_Memo))] [] (.cons (Pe.ren (slices_Clone_api_Memo_api_Memo_ok l.Memos x2 h2) ⟨[], [(5, 29)], [], []⟩) .nil) ?_
      refine Wk_seq ?_
      obtain ⟨x3, h3, hF⟩ := ob_elim hF
      refine ZR [.callR [] [29] [] [] (.tup [.i x3.1, .bool x3.2])] [2, 3, 4, 6, 7, 8, 9, 10] [2, 3, 4, 6, 7] [29] [(9, .i x3.1), (10, .bool x3.2)] (.cons (Pe.ren (slices_BinarySearchFunc_api_Memo_api_Memo_int_ok c.Client x2 0 0 false x3 h3) ⟨[], [(100000, 29)], [], []⟩) .nil) ?_
      refine ZRs [] [2, 3, 4, 6, 7, 8, 9, 10, 11] [2, 3, 4, 6, 7] [29] [(11, .i 0)] .nil ?_
      refine Wk_seq ?_
      refine ZRs [] [2, 3, 4, 6, 7, 8, 9, 10, 11, 37] [2, 3, 4, 6, 7] [29] [(37, .bool x3.2)] .nil ?_
      obtain ⟨v1, hv, hF⟩ := ob_elim hF
      refine Wk_meet (⟨[(2, .ptr 2 0), (3, .ptr 3 0), (4, .ptr 4 0), (6, .ptr 6 0), (7, .ptr 7 0), (8, .row 29 0), (9, .i x3.1), (10, .bool x3.2), (11, .i v1)], [(2, [.sl 2 (l.Rows.map e_Pair), .sl 3 (l.Memos.map e_Memo)]), (3, (c_Call c)), (4, [.nils, .nils]), (6, [.i 0, .i 0]), (7, [.i v.Code, .i v.At])], [(29, .o 37 3 0 (x2.map e_Memo))], [], []⟩ : S) ?_ ?_
      · have hF := hv
        refine Wk_split rfl (fun hb => ?_) (fun hb => ?_)
        · have hF := ite_t hF hb
          obtain ⟨h4, hF⟩ := asrt_elim hF
          obtain ⟨h5, hF⟩ := asrt_elim hF
          refine ZR [.av (e_Memo (lget x2 x3.1))] [2, 3, 4, 6, 7, 8, 9, 10, 11] [2, 3, 4, 6, 7] [29] [(11, .i ((lget x2 x3.1).Seq))] (.cons (ixr_ok e_Memo h4) (.cons (ldr_ok e_Memo h5) .nil)) ?_
          exact Wk_met (fs := [2, 3, 4, 6, 7, 8, 9, 10, 11]) (bs := [2, 3, 4, 6, 7]) (rs := [29]) (ms := []) (aa := []) (nv := []) (by first | (rw [← some_elim hF]; kernel_rfl) | kernel_rfl)
        · have hF := ite_f hF hb
          refine Wk_skip ?_
          exact Wk_met (fs := [2, 3, 4, 6, 7, 8, 9, 10, 11]) (bs := [2, 3, 4, 6, 7]) (rs := [29]) (ms := []) (aa := []) (nv := []) (by first | (rw [← some_elim hF]; kernel_rfl) | kernel_rfl)
      · refine Wk_seq ?_
        refine Wk_block ?_
        refine ZRs [] [2, 3, 4, 6, 7, 8, 9, 10, 11, 43] [2, 3, 4, 6, 7] [29] [(43, .bool (x3.2 && (decide (c.Seq = v1))))] .nil ?_
        refine Wk_split rfl (fun hb => ?_) (fun hb => ?_)
        · have hF := ite_t hF hb
          refine Wk_seq ?_
          obtain ⟨x4, h6, hF⟩ := ob_elim hF
          obtain ⟨h7, hF⟩ := asrt_elim hF
          obtain ⟨h8, hF⟩ := asrt_elim hF
          refine UD [.callE [] [] [] [] (.row 53 0) ⟨[], [], [(53, .o 70 2 0 (x4.map e_Pair))], [], []⟩, .av (e_Memo (lget x2 x3.1))] [4, 5, 6] [4, 6] [29, 53] [] [(5, .str ((lget x2 x3.1).Said))] [(4, [.row 53 0, .row 29 0]), (6, [.i v.Code, .i v.At])] [(53, .o 70 2 0 (x4.map e_Pair))] [] (.cons (Pe.ren (slices_Clone_api_Pair_api_Pair_ok l.Rows x4 h6) ⟨[], [(5, 53)], [], []⟩) (.cons (ixr_ok e_Memo h7) (.cons (ldr_ok e_Memo h8) .nil))) ?_
          have hF := some_elim hF
          exact Wk_ret (hfin _ ⟨[], [], [], [], [], [], by first | (rw [← hF]; kernel_rfl) | kernel_rfl⟩)
        · have hF := ite_f hF hb
          refine ZRs [] [2, 3, 4, 6, 7, 8, 9, 10, 11, 62] [2, 3, 4, 6, 7] [29] [(62, .bool (decide (c.Seq < v1)))] .nil ?_
          refine Wk_split rfl (fun hb => ?_) (fun hb => ?_)
          · have hF := ite_t hF hb
            refine Wk_seq ?_
            obtain ⟨x5, h9, hF⟩ := lt_split hF
            refine UR [.callB (.agg [.i x5.Code, .i x5.At])] [4, 5, 6] [4, 6] [] [] [(5, .str ([] : List UInt8))] [(6, [.i x5.Code, .i x5.At])] [] [] (.cons (once_fault_ok 12 0 x5 h9) .nil) ?_
            have hF := some_elim hF
            exact Wk_ret (hfin _ ⟨[], [], [], [], [], [], by first | (rw [← hF]; kernel_rfl) | kernel_rfl⟩)
          · have hF := ite_f hF hb
            refine ZRs [] [2, 3, 4, 6, 7, 8, 9, 10, 69] [2, 3, 4, 6, 7] [29] [(69, .bool (decide ((w64 (v1 + 1)) < c.Seq)))] .nil ?_
            refine Wk_split rfl (fun hb => ?_) (fun hb => ?_)
            · have hF := ite_t hF hb
              refine Wk_seq ?_
              obtain ⟨x6, h10, hF⟩ := lt_split hF
              refine UR [.callB (.agg [.i x6.Code, .i x6.At])] [4, 5, 6] [4, 6] [] [] [(5, .str ([] : List UInt8))] [(6, [.i x6.Code, .i x6.At])] [] [] (.cons (once_fault_ok 11 0 x6 h10) .nil) ?_
              have hF := some_elim hF
              exact Wk_ret (hfin _ ⟨[], [], [], [], [], [], by first | (rw [← hF]; kernel_rfl) | kernel_rfl⟩)
            · have hF := ite_f hF hb
              refine Wk_skip ?_
              refine Wk_blk ?_
              refine Wk_seq ?_
              obtain ⟨x7, h11, hF⟩ := ob_elim hF
              refine UR [.callE [] [] [] [] (.tup [.row 81 0, .str x7.2]) ⟨[], [], [(81, .o 70 2 0 (x7.1.map e_Pair))], [], []⟩] [3, 4, 6, 7, 8, 9, 10, 12, 13] [3, 4, 6, 7] [29, 81] [] [(12, .row 81 0), (13, .str x7.2)] [] [(81, .o 70 2 0 (x7.1.map e_Pair))] [] (.cons (Pe.ren (once_plain_ok l.Rows c x7 h11) ⟨[], [(10, 81)], [], []⟩) .nil) ?_
              refine URs [] [4, 6, 7, 8, 9, 10, 12, 13, 14] [4, 6, 7, 14] [29, 81] [] [(14, .ptr 14 0)] [(14, [.i c.Client, .i c.Seq, .str x7.2])] [] [] .nil ?_
              refine Wk_seq ?_
              refine ZRs [] [4, 6, 7, 8, 9, 12, 13, 14, 90] [4, 6, 7, 14] [29, 81] [(90, .bool x3.2)] .nil ?_
              obtain ⟨v2, hv, hF⟩ := ob_elim hF
              refine Wk_meet (⟨[(4, .ptr 4 0), (6, .ptr 6 0), (7, .ptr 7 0), (8, .row 29 0), (12, .row 81 0), (13, .str x7.2)], [(4, [.nils, .nils]), (6, [.i 0, .i 0]), (7, [.i v.Code, .i v.At])], [(29, .o 37 3 0 (v2.map e_Memo)), (81, .o 70 2 0 (x7.1.map e_Pair))], [], []⟩ : S) ?_ ?_
              · have hF := hv
                refine Wk_split rfl (fun hb => ?_) (fun hb => ?_)
                · have hF := ite_t hF hb
                  obtain ⟨h12, hF⟩ := asrt_elim hF
                  obtain ⟨h13, hF⟩ := asrt_elim hF
                  refine UR [.av (e_Memo (lget x2 x3.1)), .xs ((lset x2 x3.1 (⟨c.Client, c.Seq, x7.2⟩ : Memo)).map e_Memo)] [4, 6, 7, 8, 12, 13] [4, 6, 7] [29, 81] [] [] [] [(29, ⟨37, 3, 0, 0, 0, false, 0, [], ((lset x2 x3.1 (⟨c.Client, c.Seq, x7.2⟩ : Memo)).map e_Memo)⟩)] [] (.cons (ixr_ok e_Memo h12) (.cons (ldr_ok e_Memo h13) (.cons (set_ok e_Memo x2 x3.1 (⟨c.Client, c.Seq, x7.2⟩ : Memo)) (.cons (Nat.zero_le x3.1.toNat) .nil)))) ?_
                  exact Wk_met (fs := [4, 6, 7, 8, 12, 13]) (bs := [4, 6, 7]) (rs := [29, 81]) (ms := []) (aa := []) (nv := []) (by first | (rw [← some_elim hF]; kernel_rfl) | kernel_rfl)
                · have hF := ite_f hF hb
                  obtain ⟨x8, h14, hF⟩ := ob_elim hF
                  refine UR [.sealed, .callE [] [29] [] [] (.row 29 1) ⟨[], [], [(29, .o 37 3 1 (x8.map e_Memo))], [], []⟩] [4, 6, 7, 8, 12, 13] [4, 6, 7] [29, 81] [] [(8, .row 29 1)] [] [(29, .o 37 3 1 (x8.map e_Memo))] [] (.cons (Pe.ren (slices_Insert_api_Memo_api_Memo_ok x3.1 [(⟨c.Client, c.Seq, x7.2⟩ : Memo)] x2 0 0 false x8 h14) ⟨[], [(100000, 29)], [], []⟩) .nil) ?_
                  exact Wk_met (fs := [4, 6, 7, 8, 12, 13]) (bs := [4, 6, 7]) (rs := [29, 81]) (ms := []) (aa := []) (nv := [(29, ⟨0, true, true, false⟩)]) (by first | (rw [← some_elim hF]; kernel_rfl) | kernel_rfl)
              · refine Wk_seq ?_
                refine ZRs [.nat (x7.1.length : Int), .nat (v2.length : Int)] [4, 6, 7, 8, 12, 13, 107] [4, 6, 7] [29, 81] [(107, .bool ((decide (1000 < (x7.1.length : Int))) || (decide (1000 < (v2.length : Int)))))] (.cons (len_ok e_Pair x7.1) (.cons (fun (_ : (!(decide (1000 < (x7.1.length : Int)))) = true) => (len_ok e_Memo v2)) .nil)) ?_
                refine Wk_split rfl (fun hb => ?_) (fun hb => ?_)
                · have hF := ite_t hF hb
                  refine Wk_seq ?_
                  obtain ⟨x9, h15, hF⟩ := lt_split hF
                  refine UR [.callB (.agg [.i x9.Code, .i x9.At])] [4, 5, 6] [4, 6] [] [] [(5, .str ([] : List UInt8))] [(6, [.i x9.Code, .i x9.At])] [] [] (.cons (once_fault_ok 9 0 x9 h15) .nil) ?_
                  have hF := some_elim hF
                  exact Wk_ret (hfin _ ⟨[], [], [], [], [], [], by first | (rw [← hF]; kernel_rfl) | kernel_rfl⟩)
                · have hF := ite_f hF hb
                  refine Wk_skip ?_
                  refine UDs [] [4, 5, 6] [4, 6] [29, 81] [] [(5, .str x7.2)] [(4, [.row 81 0, .row 29 0]), (6, [.i v.Code, .i v.At])] [] [] .nil ?_
                  have hF := some_elim hF
                  exact Wk_ret (hfin _ ⟨[], [], [], [], [], [], by first | (rw [← hF]; kernel_rfl) | kernel_rfl⟩)

/- tabularyref.SameRows -/
noncomputable def R_SameRows_J1 (v : Unit) : Option Bool :=
  some true
noncomputable def R_SameRows_B1 (a0 : List Pair) (b : List Pair) (v1 : Int) : Option (Int ⊕ Bool) :=
  if (decide (v1 < (a0.length : Int))) = true then
    asrt (0 ≤ v1 ∧ v1 < (a0.length : Int)) <|
    asrt (0 ≤ v1 ∧ v1 < (b.length : Int)) <|
    if (!(decide ((lget a0 v1).Row = (lget b v1).Row) && (decide ((lget a0 v1).Value = (lget b v1).Value) && true))) = true then
      some (Sum.inr false)
    else
      some (Sum.inl (w64 (v1 + 1)))
  else
    inrO (R_SameRows_J1 ())
noncomputable def R_SameRows_L1 (a0 : List Pair) (b : List Pair) (v0 : Int) : Option Bool :=
  loopO (fun y => R_SameRows_B1 a0 b y) v0
noncomputable def R_SameRows (a0 : List Pair) (b : List Pair) : Option Bool :=
  if (!decide ((a0.length : Int) = (b.length : Int))) = true then
    some false
  else
    R_SameRows_L1 a0 b 0
theorem R_SameRows_ok (a0 : List Pair) (b : List Pair) (r : Bool) (hF : R_SameRows a0 b = some r) : Pe Try.prog 13 S.none [.sl 2 (a0.map e_Pair), .sl 2 (b.map e_Pair)] (.bool r) S.none := by
  refine Pe_of (N := 26) (res := [.tmp 4]) (ts := [4]) Ty.ok Fn.b13 Try.func13 rfl rfl rfl rfl rfl rfl ?_
  intro Q g hfin
  unfold R_SameRows at hF
  refine ZRs [] [0, 1] [] [] [] .nil ?_
  refine Wk_seq ?_
  refine ZRs [.nat (a0.length : Int), .nat (b.length : Int)] [0, 1, 10] [] [] [(10, .bool (!decide ((a0.length : Int) = (b.length : Int))))] (.cons (len_ok e_Pair a0) (.cons (len_ok e_Pair b) .nil)) ?_
  refine Wk_split rfl (fun hb => ?_) (fun hb => ?_)
  · have hF := ite_t hF hb
    refine ZRs [] [4] [] [] [(4, .bool false)] .nil ?_
    have hF := some_elim hF
    exact Wk_ret (hfin _ ⟨[], [], [], [], [], [], by first | (rw [← hF]; kernel_rfl) | kernel_rfl⟩)
  · have hF := ite_f hF hb
    refine Wk_skip ?_
    refine Wk_seq ?_
    refine ZRs [] [0, 1, 5] [] [] [(5, .i 0)] .nil ?_
    refine Wk_meetP (fun v : Unit => (⟨[], [], [], [], []⟩ : S)) (fun v => R_SameRows_J1 v = some r) ?_ ?_
    · refine Wk_block ?_
      unfold R_SameRows_L1 at hF
      refine Wk_trim (fs := [0, 1, 5]) (bs := []) (rs := []) (ms := []) (aa := []) (nv := []) (t := (fun v1 : Int => (⟨[(0, .sl 2 (a0.map e_Pair)), (1, .sl 2 (b.map e_Pair)), (5, .i v1)], [], [], [], []⟩ : S)) 0) (by kernel_rfl) ?_
      refine Wk_iter (step := fun y => R_SameRows_B1 a0 b y) (r := r) (fun v1 : Int => (⟨[(0, .sl 2 (a0.map e_Pair)), (1, .sl 2 (b.map e_Pair)), (5, .i v1)], [], [], [], []⟩ : S)) 0 hF ?_
      intro n1 v1 y1 hF ih1 dn1
      have hF : R_SameRows_B1 a0 b v1 = some y1 := hF
      unfold R_SameRows_B1 at hF
      refine Wk_seq ?_
      refine ZRs [.nat (a0.length : Int)] [0, 1, 5, 14] [] [] [(14, .bool (decide (v1 < (a0.length : Int))))] (.cons (len_ok e_Pair a0) .nil) ?_
      refine Wk_split rfl (fun hb => ?_) (fun hb => ?_)
      · have hF := ite_t hF hb
        refine Wk_skip ?_
        refine Wk_seq ?_
        refine Wk_block ?_
        refine Wk_seq ?_
        obtain ⟨h0, hF⟩ := asrt_elim hF
        obtain ⟨h1, hF⟩ := asrt_elim hF
        refine ZD [.av (e_Pair (lget a0 v1)), .av (e_Pair (lget b v1))] [0, 1, 5, 25] [] [] [(25, .bool (!(decide ((lget a0 v1).Row = (lget b v1).Row) && (decide ((lget a0 v1).Value = (lget b v1).Value) && true))))] (.cons (idx_ok e_Pair h0) (.cons (idx_ok e_Pair h1) .nil)) ?_
        refine Wk_split rfl (fun hb => ?_) (fun hb => ?_)
        · have hF := ite_t hF hb
          refine ZRs [] [4] [] [] [(4, .bool false)] .nil ?_
          have hF := ret_done hF dn1
          have hF := some_elim hF
          exact Wk_ret (hfin _ ⟨[], [], [], [], [], [], by first | (rw [← hF]; kernel_rfl) | kernel_rfl⟩)
        · have hF := ite_f hF hb
          refine Wk_skip ?_
          refine Wk_blk ?_
          refine ZR [] [0, 1, 5] [] [] [(5, .i (w64 (v1 + 1)))] .nil ?_
          refine Wk_trim (fs := [0, 1, 5]) (bs := []) (rs := []) (ms := []) (aa := []) (nv := []) ?_ (ih1 _ (some_elim hF).symm)
          kernel_rfl
      · have hF := ite_f hF hb
        refine Wk_exit rfl ?_
        have hF := inrO_done hF dn1
        exact Wk_metP () [] [] [] [] [] [] hF (by kernel_rfl)
    · intro v hF
      have hF : R_SameRows_J1 v = some r := hF
      unfold R_SameRows_J1 at hF
      refine ZRs [] [4] [] [] [(4, .bool true)] .nil ?_
      have hF := some_elim hF
      exact Wk_ret (hfin _ ⟨[], [], [], [], [], [], by first | (rw [← hF]; kernel_rfl) | kernel_rfl⟩)

/- tabularyref.SameLedger -/
noncomputable def R_SameLedger_J1 (v : Unit) : Option Bool :=
  some true
noncomputable def R_SameLedger_B1 (a0 : Ledger) (b : Ledger) (v1 : Int) : Option (Int ⊕ Bool) :=
  if (decide (v1 < (a0.Memos.length : Int))) = true then
    asrt (0 ≤ v1 ∧ v1 < (a0.Memos.length : Int)) <|
    asrt (0 ≤ v1 ∧ v1 < (b.Memos.length : Int)) <|
    if (!(decide ((lget a0.Memos v1).Client = (lget b.Memos v1).Client) && (decide ((lget a0.Memos v1).Seq = (lget b.Memos v1).Seq) && (decide ((lget a0.Memos v1).Said = (lget b.Memos v1).Said) && true)))) = true then
      some (Sum.inr false)
    else
      some (Sum.inl (w64 (v1 + 1)))
  else
    inrO (R_SameLedger_J1 ())
noncomputable def R_SameLedger_L1 (a0 : Ledger) (b : Ledger) (v0 : Int) : Option Bool :=
  loopO (fun y => R_SameLedger_B1 a0 b y) v0
noncomputable def R_SameLedger (a0 : Ledger) (b : Ledger) : Option Bool :=
  ob (R_SameRows a0.Rows b.Rows) fun x =>
  if ((!x) || (!decide ((a0.Memos.length : Int) = (b.Memos.length : Int)))) = true then
    some false
  else
    R_SameLedger_L1 a0 b 0
theorem R_SameLedger_ok (a0 : Ledger) (b : Ledger) (r : Bool) (hF : R_SameLedger a0 b = some r) : Pe Try.prog 11 S.none [.agg [.sl 2 (a0.Rows.map e_Pair), .sl 3 (a0.Memos.map e_Memo)], .agg [.sl 2 (b.Rows.map e_Pair), .sl 3 (b.Memos.map e_Memo)]] (.bool r) S.none := by
  refine Pe_of (N := 39) (res := [.tmp 4]) (ts := [4]) Ty.ok Fn.b11 Try.func11 rfl rfl rfl rfl rfl rfl ?_
  intro Q g hfin
  unfold R_SameLedger at hF
  refine URs [] [2, 3] [2, 3] [] [] [(2, .ptr 2 0), (3, .ptr 3 0)] [(2, [.sl 2 (a0.Rows.map e_Pair), .sl 3 (a0.Memos.map e_Memo)]), (3, [.sl 2 (b.Rows.map e_Pair), .sl 3 (b.Memos.map e_Memo)])] [] [] .nil ?_
  refine Wk_seq ?_
  refine Wk_seq ?_
  obtain ⟨x, h0, hF⟩ := ob_elim hF
  refine ZR [.callB (.bool x), .nat (a0.Memos.length : Int), .nat (b.Memos.length : Int)] [2, 3, 20] [2, 3] [] [(20, .bool ((!x) || (!decide ((a0.Memos.length : Int) = (b.Memos.length : Int)))))] (.cons (R_SameRows_ok a0.Rows b.Rows x h0) (.cons (fun (_ : (!(!x)) = true) => (len_ok e_Memo a0.Memos)) (.cons (fun (_ : (!(!x)) = true) => (len_ok e_Memo b.Memos)) .nil))) ?_
  refine Wk_split rfl (fun hb => ?_) (fun hb => ?_)
  · have hF := ite_t hF hb
    refine ZRs [] [4] [] [] [(4, .bool false)] .nil ?_
    have hF := some_elim hF
    exact Wk_ret (hfin _ ⟨[], [], [], [], [], [], by first | (rw [← hF]; kernel_rfl) | kernel_rfl⟩)
  · have hF := ite_f hF hb
    refine Wk_skip ?_
    refine Wk_seq ?_
    refine ZRs [] [2, 3, 5] [2, 3] [] [(5, .i 0)] .nil ?_
    refine Wk_meetP (fun v : Unit => (⟨[], [], [], [], []⟩ : S)) (fun v => R_SameLedger_J1 v = some r) ?_ ?_
    · refine Wk_block ?_
      unfold R_SameLedger_L1 at hF
      refine Wk_trim (fs := [2, 3, 5]) (bs := [2, 3]) (rs := []) (ms := []) (aa := []) (nv := []) (t := (fun v1 : Int => (⟨[(2, .ptr 2 0), (3, .ptr 3 0), (5, .i v1)], [(2, [.sl 2 (a0.Rows.map e_Pair), .sl 3 (a0.Memos.map e_Memo)]), (3, [.sl 2 (b.Rows.map e_Pair), .sl 3 (b.Memos.map e_Memo)])], [], [], []⟩ : S)) 0) (by kernel_rfl) ?_
      refine Wk_iter (step := fun y => R_SameLedger_B1 a0 b y) (r := r) (fun v1 : Int => (⟨[(2, .ptr 2 0), (3, .ptr 3 0), (5, .i v1)], [(2, [.sl 2 (a0.Rows.map e_Pair), .sl 3 (a0.Memos.map e_Memo)]), (3, [.sl 2 (b.Rows.map e_Pair), .sl 3 (b.Memos.map e_Memo)])], [], [], []⟩ : S)) 0 hF ?_
      intro n1 v1 y1 hF ih1 dn1
      have hF : R_SameLedger_B1 a0 b v1 = some y1 := hF
      unfold R_SameLedger_B1 at hF
      refine Wk_seq ?_
      refine ZRs [.nat (a0.Memos.length : Int)] [2, 3, 5, 25] [2, 3] [] [(25, .bool (decide (v1 < (a0.Memos.length : Int))))] (.cons (len_ok e_Memo a0.Memos) .nil) ?_
      refine Wk_split rfl (fun hb => ?_) (fun hb => ?_)
      · have hF := ite_t hF hb
        refine Wk_skip ?_
        refine Wk_seq ?_
        refine Wk_block ?_
        refine Wk_seq ?_
        obtain ⟨h1, hF⟩ := asrt_elim hF
        obtain ⟨h2, hF⟩ := asrt_elim hF
        refine ZD [.av (e_Memo (lget a0.Memos v1)), .av (e_Memo (lget b.Memos v1))] [2, 3, 5, 38] [2, 3] [] [(38, .bool (!(decide ((lget a0.Memos v1).Client = (lget b.Memos v1).Client) && (decide ((lget a0.Memos v1).Seq = (lget b.Memos v1).Seq) && (decide ((lget a0.Memos v1).Said = (lget b.Memos v1).Said) && true)))))] (.cons (idx_ok e_Memo h1) (.cons (idx_ok e_Memo h2) .nil)) ?_
        refine Wk_split rfl (fun hb => ?_) (fun hb => ?_)
        · have hF := ite_t hF hb
          refine ZRs [] [4] [] [] [(4, .bool false)] .nil ?_
          have hF := ret_done hF dn1
          have hF := some_elim hF
          exact Wk_ret (hfin _ ⟨[], [], [], [], [], [], by first | (rw [← hF]; kernel_rfl) | kernel_rfl⟩)
        · have hF := ite_f hF hb
          refine Wk_skip ?_
          refine Wk_blk ?_
          refine ZR [] [2, 3, 5] [2, 3] [] [(5, .i (w64 (v1 + 1)))] .nil ?_
          refine Wk_trim (fs := [2, 3, 5]) (bs := [2, 3]) (rs := []) (ms := []) (aa := []) (nv := []) ?_ (ih1 _ (some_elim hF).symm)
          kernel_rfl
      · have hF := ite_f hF hb
        refine Wk_exit rfl ?_
        have hF := inrO_done hF dn1
        exact Wk_metP () [] [] [] [] [] [] hF (by kernel_rfl)
    · intro v hF
      have hF : R_SameLedger_J1 v = some r := hF
      unfold R_SameLedger_J1 at hF
      refine ZRs [] [4] [] [] [(4, .bool true)] .nil ?_
      have hF := some_elim hF
      exact Wk_ret (hfin _ ⟨[], [], [], [], [], [], by first | (rw [← hF]; kernel_rfl) | kernel_rfl⟩)

/- tabularylaw.onceBegun -/
noncomputable def law_onceBegun  : Option Bool :=
  lt (law_putCall) fun x =>
  ob (once_Do_v1 (⟨([] : List Pair), ([] : List Memo)⟩ : Ledger) x) fun x1 =>
  lt (law_putCall) fun x2 =>
  ob (once_Do_v1 x1.1 x2) fun x3 =>
  ob (if ((((decide (x1.2.2.Code = 0)) && (decide (x3.2.2.Code = 0))) && (decide (x1.2.1 = ([111, 107] : List UInt8)))) && (decide (x3.2.1 = ([111, 107] : List UInt8)))) = true then (R_SameLedger x1.1 x3.1) else some default) fun x4 =>
  ob (if (((((decide (x1.2.2.Code = 0)) && (decide (x3.2.2.Code = 0))) && (decide (x1.2.1 = ([111, 107] : List UInt8)))) && (decide (x3.2.1 = ([111, 107] : List UInt8)))) && x4) = true then (R_SameRows x3.1.Rows [(⟨([114] : List UInt8), ([97] : List UInt8)⟩ : Pair)]) else some default) fun x5 =>
  lt ((((((decide (x1.2.2.Code = 0)) && (decide (x3.2.2.Code = 0))) && (decide (x1.2.1 = ([111, 107] : List UInt8)))) && (decide (x3.2.1 = ([111, 107] : List UInt8)))) && x4) && x5) fun (v : Bool) =>
  some v
theorem law_onceBegun_ok  (r : Bool) (hF : law_onceBegun  = some r) : Pe Try.prog 8 S.none [] (.bool r) S.none := by
  refine Pe_of (N := 49) (res := [.tmp 0]) (ts := [4]) Ty.ok Fn.b8 Try.func8 rfl rfl rfl rfl rfl rfl ?_
  intro Q g hfin
  unfold law_onceBegun at hF
  refine ZRs [] [] [] [] [] .nil ?_
  refine Wk_seq ?_
  obtain ⟨x, h0, hF⟩ := lt_split hF
  obtain ⟨x1, h1, hF⟩ := ob_elim hF
  refine UR [.callB (.agg (c_Call x)), .call (.tup [.agg [.sl 2 (x1.1.Rows.map e_Pair), .sl 3 (x1.1.Memos.map e_Memo)], .str x1.2.1, .agg [.i x1.2.2.Code, .i x1.2.2.At]])] [1, 2, 3] [1, 3] [] [] [(1, .ptr 1 0), (2, .str x1.2.1), (3, .ptr 3 0)] [(1, [.sl 2 (x1.1.Rows.map e_Pair), .sl 3 (x1.1.Memos.map e_Memo)]), (3, [.i x1.2.2.Code, .i x1.2.2.At])] [] [] (.cons (law_putCall_ok  x h0) (.cons (once_Do_v1_ok (⟨([] : List Pair), ([] : List Memo)⟩ : Ledger) x x1 h1) .nil)) ?_
  refine Wk_seq ?_
  obtain ⟨x2, h2, hF⟩ := lt_split hF
  obtain ⟨x3, h3, hF⟩ := ob_elim hF
  refine UD [.callB (.agg (c_Call x2)), .call (.tup [.agg [.sl 2 (x3.1.Rows.map e_Pair), .sl 3 (x3.1.Memos.map e_Memo)], .str x3.2.1, .agg [.i x3.2.2.Code, .i x3.2.2.At]])] [1, 2, 3, 4, 5, 6] [1, 3, 4, 6] [] [] [(4, .ptr 4 0), (5, .str x3.2.1), (6, .ptr 6 0)] [(4, [.sl 2 (x3.1.Rows.map e_Pair), .sl 3 (x3.1.Memos.map e_Memo)]), (6, [.i x3.2.2.Code, .i x3.2.2.At])] [] [] (.cons (law_putCall_ok  x2 h2) (.cons (once_Do_v1_ok x1.1 x2 x3 h3) .nil)) ?_
  refine Wk_seq ?_
  obtain ⟨x4, h4, hF⟩ := ob_elim hF
  obtain ⟨x5, h5, hF⟩ := ob_elim hF
  refine WRL ((((((decide (x1.2.2.Code = 0)) && (decide (x3.2.2.Code = 0))) && (decide (x1.2.1 = ([111, 107] : List UInt8)))) && (decide (x3.2.1 = ([111, 107] : List UInt8)))) && x4) && x5) (fun v : Bool => ⟨[(0, .bool v)], [], [], [], []⟩) [.callB (.bool x4), .sealed, .callB (.bool x5)] [0] [] [] [] [] [] (.cons (fun (ga0 : ((((decide (x1.2.2.Code = 0)) && (decide (x3.2.2.Code = 0))) && (decide (x1.2.1 = ([111, 107] : List UInt8)))) && (decide (x3.2.1 = ([111, 107] : List UInt8)))) = true) => (R_SameLedger_ok x1.1 x3.1 x4 (ite_t h4 ga0))) (.cons (fun (ga0 : (((((decide (x1.2.2.Code = 0)) && (decide (x3.2.2.Code = 0))) && (decide (x1.2.1 = ([111, 107] : List UInt8)))) && (decide (x3.2.1 = ([111, 107] : List UInt8)))) && x4) = true) => (R_SameRows_ok x3.1.Rows [(⟨([114] : List UInt8), ([97] : List UInt8)⟩ : Pair)] x5 (ite_t h5 ga0))) .nil)) (by kernel_rfl) (fun v hv => ?_)
  have hF := lt_elim hF hv
  have hF := some_elim hF
  exact Wk_ret (hfin _ ⟨[], [], [], [], [], [], by first | (rw [← hF]; kernel_rfl) | kernel_rfl⟩)

/- tabularyref.F -/
noncomputable def R_F (code : Int) (at0 : Int) : Fault :=
  (⟨code, at0⟩ : Fault)
theorem R_F_ok (code : Int) (at0 : Int) (r : Fault) (hF : R_F code at0 = r) : Pe Try.prog 20 S.none [.i code, .i at0] (.agg [.i r.Code, .i r.At]) S.none := by
  refine Pe_of (N := 8) (res := [.cell 4 32]) (ts := [32]) Ty.ok Fn.b20 Try.func20 rfl rfl rfl rfl rfl rfl ?_
  intro Q g hfin
  unfold R_F at hF
  refine URs [] [0, 1, 4] [4] [] [] [(4, .ptr 4 0)] [(4, [.i 0, .i 0])] [] [] .nil ?_
  refine URs [] [4] [4] [] [] [] [(4, [.i code, .i at0])] [] [] .nil ?_
  exact Wk_ret (hfin _ ⟨[], [], [], [], [], [], by first | (rw [← hF]; kernel_rfl) | kernel_rfl⟩)

/- tabularyref.Num -/
noncomputable def R_Num (num : Int) : Bool :=
  (decide (0 ≤ num)) && (decide (num ≤ 1000000000))
theorem R_Num_ok (num : Int) (r : Bool) (hF : R_Num num = r) : Pe Try.prog 55 S.none [.i num] (.bool r) S.none := by
  refine Pe_of (N := 9) (res := [.tmp 2]) (ts := [4]) Ty.ok Fn.b55 Try.func55 rfl rfl rfl rfl rfl rfl ?_
  intro Q g hfin
  unfold R_Num at hF
  refine ZRs [] [0] [] [] [] .nil ?_
  refine ZRs [] [2] [] [] [(2, .bool ((decide (0 ≤ num)) && (decide (num ≤ 1000000000))))] .nil ?_
  exact Wk_ret (hfin _ ⟨[], [], [], [], [], [], by first | (rw [← hF]; kernel_rfl) | kernel_rfl⟩)

/- tabularyref.One -/
noncomputable def R_One (num : Int) : Bool :=
  lt (R_Num num) fun x =>
  (decide (0 < num)) && x
theorem R_One_ok (num : Int) (r : Bool) (hF : R_One num = r) : Pe Try.prog 44 S.none [.i num] (.bool r) S.none := by
  refine Pe_of (N := 9) (res := [.tmp 2]) (ts := [4]) Ty.ok Fn.b44 Try.func44 rfl rfl rfl rfl rfl rfl ?_
  intro Q g hfin
  unfold R_One at hF
  refine ZRs [] [0] [] [] [] .nil ?_
  refine Wk_seq ?_
  obtain ⟨x, h0, hF⟩ := lt_split hF
  refine ZR [.callB (.bool x)] [2] [] [] [(2, .bool ((decide (0 < num)) && x))] (.cons (fun (ga0 : (decide (0 < num)) = true) => (R_Num_ok num x h0)) .nil) ?_
  exact Wk_ret (hfin _ ⟨[], [], [], [], [], [], by first | (rw [← hF]; kernel_rfl) | kernel_rfl⟩)

/- tabularyref.RowFine -/
noncomputable def R_RowFine (s0 : List UInt8) : Bool :=
  (decide (0 < (s0.length : Int))) && (decide ((s0.length : Int) ≤ 40))
theorem R_RowFine_ok (s0 : List UInt8) (r : Bool) (hF : R_RowFine s0 = r) : Pe Try.prog 45 S.none [.str s0] (.bool r) S.none := by
  refine Pe_of (N := 11) (res := [.tmp 2]) (ts := [4]) Ty.ok Fn.b45 Try.func45 rfl rfl rfl rfl rfl rfl ?_
  intro Q g hfin
  unfold R_RowFine at hF
  refine ZRs [] [0] [] [] [] .nil ?_
  refine ZRs [] [2] [] [] [(2, .bool ((decide (0 < (s0.length : Int))) && (decide ((s0.length : Int) ≤ 40))))] .nil ?_
  exact Wk_ret (hfin _ ⟨[], [], [], [], [], [], by first | (rw [← hF]; kernel_rfl) | kernel_rfl⟩)

/- tabularyref.CallFault -/
noncomputable def R_CallFault (c : Call) : Fault :=
  if ((decide (c.Kind < 1)) || (decide (4 < c.Kind))) = true then
    lt (R_F 4 (-3)) fun x =>
    x
  else
    lt (R_One c.Client) fun x1 =>
    lt (R_One c.Seq) fun x2 =>
    if ((!x1) || (!x2)) = true then
      lt (R_F 3 (-3)) fun x3 =>
      x3
    else
      lt (R_RowFine c.Row) fun x4 =>
      if (((!x4) || (decide (200 < (c.Value.length : Int)))) || (decide (200 < (c.Old.length : Int)))) = true then
        lt (R_F 8 (-3)) fun x5 =>
        x5
      else
        (⟨0, 0⟩ : Fault)
theorem R_CallFault_ok (c : Call) (r : Fault) (hF : R_CallFault c = r) : Pe Try.prog 10 S.none [.agg (c_Call c)] (.agg [.i r.Code, .i r.At]) S.none := by
  refine Pe_of (N := 41) (res := [.cell 2 32]) (ts := [32]) Ty.ok Fn.b10 Try.func10 rfl rfl rfl rfl rfl rfl ?_
  intro Q g hfin
  unfold R_CallFault at hF
  refine URs [] [1, 2] [1, 2] [] [] [(1, .ptr 1 0), (2, .ptr 2 0)] [(1, (c_Call c)), (2, [.i 0, .i 0])] [] [] .nil ?_
  refine Wk_seq ?_
  refine ZRs [] [1, 2, 10] [1, 2] [] [(10, .bool ((decide (c.Kind < 1)) || (decide (4 < c.Kind))))] .nil ?_
  refine Wk_split rfl (fun hb => ?_) (fun hb => ?_)
  · have hF := ite_t hF hb
    refine Wk_seq ?_
    obtain ⟨x, h0, hF⟩ := lt_split hF
    refine UR [.callB (.agg [.i x.Code, .i x.At])] [2] [2] [] [] [] [(2, [.i x.Code, .i x.At])] [] [] (.cons (R_F_ok 4 (-3) x h0) .nil) ?_
    exact Wk_ret (hfin _ ⟨[], [], [], [], [], [], by first | (rw [← hF]; kernel_rfl) | kernel_rfl⟩)
  · have hF := ite_f hF hb
    refine Wk_skip ?_
    refine Wk_seq ?_
    refine Wk_seq ?_
    obtain ⟨x1, h1, hF⟩ := lt_split hF
    obtain ⟨x2, h2, hF⟩ := lt_split hF
    refine ZR [.callB (.bool x1), .callB (.bool x2)] [1, 2, 21] [1, 2] [] [(21, .bool ((!x1) || (!x2)))] (.cons (R_One_ok c.Client x1 h1) (.cons (fun (ga0 : (!(!x1)) = true) => (R_One_ok c.Seq x2 h2)) .nil)) ?_
    refine Wk_split rfl (fun hb => ?_) (fun hb => ?_)
    · have hF := ite_t hF hb
      refine Wk_seq ?_
      obtain ⟨x3, h3, hF⟩ := lt_split hF
      refine UR [.callB (.agg [.i x3.Code, .i x3.At])] [2] [2] [] [] [] [(2, [.i x3.Code, .i x3.At])] [] [] (.cons (R_F_ok 3 (-3) x3 h3) .nil) ?_
      exact Wk_ret (hfin _ ⟨[], [], [], [], [], [], by first | (rw [← hF]; kernel_rfl) | kernel_rfl⟩)
    · have hF := ite_f hF hb
      refine Wk_skip ?_
      refine Wk_seq ?_
      refine Wk_seq ?_
      obtain ⟨x4, h4, hF⟩ := lt_split hF
      refine ZR [.callB (.bool x4)] [2, 38] [2] [] [(38, .bool (((!x4) || (decide (200 < (c.Value.length : Int)))) || (decide (200 < (c.Old.length : Int)))))] (.cons (R_RowFine_ok c.Row x4 h4) .nil) ?_
      refine Wk_split rfl (fun hb => ?_) (fun hb => ?_)
      · have hF := ite_t hF hb
        refine Wk_seq ?_
        obtain ⟨x5, h5, hF⟩ := lt_split hF
        refine UR [.callB (.agg [.i x5.Code, .i x5.At])] [2] [2] [] [] [] [(2, [.i x5.Code, .i x5.At])] [] [] (.cons (R_F_ok 8 (-3) x5 h5) .nil) ?_
        exact Wk_ret (hfin _ ⟨[], [], [], [], [], [], by first | (rw [← hF]; kernel_rfl) | kernel_rfl⟩)
      · have hF := ite_f hF hb
        refine Wk_skip ?_
        refine ZRs [] [2] [2] [] [] .nil ?_
        exact Wk_ret (hfin _ ⟨[], [], [], [], [], [], by first | (rw [← hF]; kernel_rfl) | kernel_rfl⟩)

/- tabularyref.StandsIn -/
noncomputable def R_StandsIn_J1 (v : Unit) : Option (List UInt8 × Bool) :=
  some (([] : List UInt8), false)
noncomputable def R_StandsIn_B1 (l : List Pair) (row : List UInt8) (v1 : Int) : Option (Int ⊕ (List UInt8 × Bool)) :=
  if (decide (v1 < (l.length : Int))) = true then
    asrt (0 ≤ v1 ∧ v1 < (l.length : Int)) <|
    if (decide (((lget l v1).Row) = row)) = true then
      asrt (0 ≤ v1 ∧ v1 < (l.length : Int)) <|
      some (Sum.inr ((lget l v1).Value, true))
    else
      some (Sum.inl (w64 (v1 + 1)))
  else
    inrO (R_StandsIn_J1 ())
noncomputable def R_StandsIn_L1 (l : List Pair) (row : List UInt8) (v0 : Int) : Option (List UInt8 × Bool) :=
  loopO (fun y => R_StandsIn_B1 l row y) v0
noncomputable def R_StandsIn (l : List Pair) (row : List UInt8) : Option (List UInt8 × Bool) :=
  R_StandsIn_L1 l row 0
theorem R_StandsIn_ok (l : List Pair) (row : List UInt8) (r : List UInt8 × Bool) (hF : R_StandsIn l row = some r) : Pe Try.prog 46 S.none [.sl 2 (l.map e_Pair), .str row] (.tup [.str r.1, .bool r.2]) S.none := by
  refine Pe_of (N := 25) (res := [.tmp 4, .tmp 5]) (ts := [9, 4]) Ty.ok Fn.b46 Try.func46 rfl rfl rfl rfl rfl rfl ?_
  intro Q g hfin
  unfold R_StandsIn at hF
  refine ZRs [] [0, 1] [] [] [] .nil ?_
  refine Wk_seq ?_
  refine ZRs [] [0, 1, 6] [] [] [(6, .i 0)] .nil ?_
  refine Wk_meetP (fun v : Unit => (⟨[], [], [], [], []⟩ : S)) (fun v => R_StandsIn_J1 v = some r) ?_ ?_
  · refine Wk_block ?_
    unfold R_StandsIn_L1 at hF
    refine Wk_trim (fs := [0, 1, 6]) (bs := []) (rs := []) (ms := []) (aa := []) (nv := []) (t := (fun v1 : Int => (⟨[(0, .sl 2 (l.map e_Pair)), (1, .str row), (6, .i v1)], [], [], [], []⟩ : S)) 0) (by kernel_rfl) ?_
    refine Wk_iter (step := fun y => R_StandsIn_B1 l row y) (r := r) (fun v1 : Int => (⟨[(0, .sl 2 (l.map e_Pair)), (1, .str row), (6, .i v1)], [], [], [], []⟩ : S)) 0 hF ?_
    intro n1 v1 y1 hF ih1 dn1
    have hF : R_StandsIn_B1 l row v1 = some y1 := hF
    unfold R_StandsIn_B1 at hF
    refine Wk_seq ?_
    refine ZRs [.nat (l.length : Int)] [0, 1, 6, 10] [] [] [(10, .bool (decide (v1 < (l.length : Int))))] (.cons (len_ok e_Pair l) .nil) ?_
    refine Wk_split rfl (fun hb => ?_) (fun hb => ?_)
    · have hF := ite_t hF hb
      refine Wk_skip ?_
      refine Wk_seq ?_
      refine Wk_block ?_
      refine Wk_seq ?_
      obtain ⟨h0, hF⟩ := asrt_elim hF
      refine ZR [.av (e_Pair (lget l v1))] [0, 1, 6, 19] [] [] [(19, .bool (decide (((lget l v1).Row) = row)))] (.cons (idx_ok e_Pair h0) .nil) ?_
      refine Wk_split rfl (fun hb => ?_) (fun hb => ?_)
      · have hF := ite_t hF hb
        refine Wk_seq ?_
        obtain ⟨h1, hF⟩ := asrt_elim hF
        refine ZR [.av (e_Pair (lget l v1))] [4, 5] [] [] [(4, .str ((lget l v1).Value)), (5, .bool true)] (.cons (idx_ok e_Pair h1) .nil) ?_
        have hF := ret_done hF dn1
        have hF := some_elim hF
        exact Wk_ret (hfin _ ⟨[], [], [], [], [], [], by first | (rw [← hF]; kernel_rfl) | kernel_rfl⟩)
      · have hF := ite_f hF hb
        refine Wk_skip ?_
        refine Wk_blk ?_
        refine ZR [] [0, 1, 6] [] [] [(6, .i (w64 (v1 + 1)))] .nil ?_
        refine Wk_trim (fs := [0, 1, 6]) (bs := []) (rs := []) (ms := []) (aa := []) (nv := []) ?_ (ih1 _ (some_elim hF).symm)
        kernel_rfl
    · have hF := ite_f hF hb
      refine Wk_exit rfl ?_
      have hF := inrO_done hF dn1
      exact Wk_metP () [] [] [] [] [] [] hF (by kernel_rfl)
  · intro v hF
    have hF : R_StandsIn_J1 v = some r := hF
    unfold R_StandsIn_J1 at hF
    refine ZRs [] [4, 5] [] [] [(4, .str ([] : List UInt8)), (5, .bool false)] .nil ?_
    have hF := some_elim hF
    exact Wk_ret (hfin _ ⟨[], [], [], [], [], [], by first | (rw [← hF]; kernel_rfl) | kernel_rfl⟩)

end G
end Go.Proofs.Ytipeimcdjijkgaa
