/- The program's functions as plain functions, and that they are these. Written by a program (dec2.py). -/
import Derived.Test.YtcnngkigpfpalaaGf1
namespace Go.Proofs.Ytcnngkigpfpalaa
open Go Go.Dm
set_option linter.unusedVariables false
set_option linter.unusedSimpArgs false
set_option maxRecDepth 100000
namespace G
/- tabularyref.LogFault -/
noncomputable def R_LogFault_J1 (v : Unit) : Option Fault :=
  some (⟨0, 0⟩ : Fault)
noncomputable def R_LogFault_B1 (l : List Entry) (v1 : Int) : Option (Int ⊕ Fault) :=
  if (decide (v1 < (l.length : Int))) = true then
    asrt (0 ≤ v1 ∧ v1 < (l.length : Int)) <|
    asrt ((!(decide (((lget l v1).Term) < 1))) = true → 0 ≤ v1 ∧ v1 < (l.length : Int)) <|
    if ((decide (((lget l v1).Term) < 1)) || (decide (1000000000 < ((lget l v1).Term)))) = true then
      lt (R_F 3 v1) fun x1 =>
      some (Sum.inr x1)
    else
      asrt ((decide (0 < v1)) = true → 0 ≤ v1 ∧ v1 < (l.length : Int)) <|
      asrt ((decide (0 < v1)) = true → 0 ≤ w64 (v1 - 1) ∧ w64 (v1 - 1) < (l.length : Int)) <|
      if ((decide (0 < v1)) && (decide (((lget l v1).Term) < ((lget l (w64 (v1 - 1))).Term)))) = true then
        lt (R_F 11 v1) fun x2 =>
        some (Sum.inr x2)
      else
        asrt (0 ≤ v1 ∧ v1 < (l.length : Int)) <|
        if (decide (200 < (((lget l v1).Text).length : Int))) = true then
          lt (R_F 8 v1) fun x3 =>
          some (Sum.inr x3)
        else
          some (Sum.inl (w64 (v1 + 1)))
  else
    inrO (R_LogFault_J1 ())
noncomputable def R_LogFault_L1 (l : List Entry) (v0 : Int) : Option Fault :=
  loopO (fun y => R_LogFault_B1 l y) v0
noncomputable def R_LogFault (l : List Entry) : Option Fault :=
  if (decide (100 < (l.length : Int))) = true then
    lt (R_F 2 (-1)) fun x =>
    some x
  else
    R_LogFault_L1 l 0
theorem R_LogFault_ok (l : List Entry) (r : Fault) (hF : R_LogFault l = some r) : Pe Try.prog 18 S.none [.sl 2 (l.map e_Entry)] (.agg [.int .i64 r.Code, .int .i64 r.At]) S.none := by
  refine Pe_of (N := 58) (res := [.cell 2 26]) (ts := [26]) Ty.ok Fn.b18 Try.func18 rfl rfl rfl rfl rfl rfl ?_
  intro Q g hfin
  unfold R_LogFault at hF
  refine Wk_seq ?_
  refine WR [] [0, 2] [2] [] [] [] [] ⟨[(0, .sl 2 (l.map e_Entry)), (2, .ptr 2 0)], [(2, [.int .i64 0, .int .i64 0])], [], [], []⟩ .nil (by kernel_rfl) ?_
  refine Wk_seq ?_
  refine Wk_seq ?_
  refine WR [.nat (l.length : Int)] [0, 2, 6] [2] [] [] [] [] ⟨[(0, .sl 2 (l.map e_Entry)), (2, .ptr 2 0), (6, .bool (decide (100 < (l.length : Int))))], [(2, [.int .i64 0, .int .i64 0])], [], [], []⟩ (.cons (len_ok e_Entry l) .nil) (by kernel_rfl) ?_
  refine Wk_split rfl (fun hb => ?_) (fun hb => ?_)
  · have hF := ite_t hF hb
    refine Wk_seq ?_
    obtain ⟨x, h0, hF⟩ := lt_split hF
    refine WR [.callB (.agg [.int .i64 x.Code, .int .i64 x.At])] [2] [2] [] [] [] [] ⟨[(2, .ptr 2 0)], [(2, [.int .i64 x.Code, .int .i64 x.At])], [], [], []⟩ (.cons (R_F_ok 2 (-1) x h0) .nil) (by kernel_rfl) ?_
    have hF := some_elim hF
    exact Wk_ret (hfin _ ⟨[], [], [], [], [], [], by first | (rw [← hF]; kernel_rfl) | kernel_rfl⟩)
  · have hF := ite_f hF hb
    refine Wk_skip ?_
    refine Wk_seq ?_
    refine Wk_seq ?_
    refine WR [] [0, 2, 3] [2] [] [] [] [] ⟨[(0, .sl 2 (l.map e_Entry)), (2, .ptr 2 0), (3, .int .i64 0)], [(2, [.int .i64 0, .int .i64 0])], [], [], []⟩ .nil (by kernel_rfl) ?_
    refine Wk_meetP (fun v : Unit => (⟨[(2, .ptr 2 0)], [(2, [.int .i64 0, .int .i64 0])], [], [], []⟩ : S)) (fun v => R_LogFault_J1 v = some r) ?_ ?_
    · refine Wk_block ?_
      unfold R_LogFault_L1 at hF
      refine Wk_trim (fs := [0, 2, 3]) (bs := [2]) (rs := []) (ms := []) (aa := []) (nv := []) (t := (fun v1 : Int => (⟨[(0, .sl 2 (l.map e_Entry)), (2, .ptr 2 0), (3, .int .i64 v1)], [(2, [.int .i64 0, .int .i64 0])], [], [], []⟩ : S)) 0) (by kernel_rfl) ?_
      refine Wk_iter (step := fun y => R_LogFault_B1 l y) (r := r) (fun v1 : Int => (⟨[(0, .sl 2 (l.map e_Entry)), (2, .ptr 2 0), (3, .int .i64 v1)], [(2, [.int .i64 0, .int .i64 0])], [], [], []⟩ : S)) 0 hF ?_
      intro n1 v1 y1 hF ih1 dn1
      have hF : R_LogFault_B1 l v1 = some y1 := hF
      unfold R_LogFault_B1 at hF
      refine Wk_seq ?_
      refine Wk_seq ?_
      refine WR [.nat (l.length : Int)] [0, 2, 3, 11] [2] [] [] [] [] ⟨[(0, .sl 2 (l.map e_Entry)), (2, .ptr 2 0), (3, .int .i64 v1), (11, .bool (decide (v1 < (l.length : Int))))], [(2, [.int .i64 0, .int .i64 0])], [], [], []⟩ (.cons (len_ok e_Entry l) .nil) (by kernel_rfl) ?_
      refine Wk_split rfl (fun hb => ?_) (fun hb => ?_)
      · have hF := ite_t hF hb
        refine Wk_skip ?_
        refine Wk_seq ?_
        refine Wk_block ?_
        refine Wk_seq ?_
        refine Wk_seq ?_
        obtain ⟨h1, hF⟩ := asrt_elim hF
        obtain ⟨h2, hF⟩ := asrt_elim hF
        refine WR [.av (e_Entry (lget l v1)), .av (e_Entry (lget l v1))] [0, 2, 3, 27] [2] [] [] [] [] ⟨[(0, .sl 2 (l.map e_Entry)), (2, .ptr 2 0), (3, .int .i64 v1), (27, .bool ((decide (((lget l v1).Term) < 1)) || (decide (1000000000 < ((lget l v1).Term)))))], [(2, [.int .i64 0, .int .i64 0])], [], [], []⟩ (.cons (idx_ok e_Entry h1) (.cons (fun (ga0 : (!(decide (((lget l v1).Term) < 1))) = true) => (idx_ok e_Entry (h2 ga0))) .nil)) (by kernel_rfl) ?_
        refine Wk_split rfl (fun hb => ?_) (fun hb => ?_)
        · have hF := ite_t hF hb
          refine Wk_seq ?_
          obtain ⟨x1, h3, hF⟩ := lt_split hF
          refine WR [.callB (.agg [.int .i64 x1.Code, .int .i64 x1.At])] [2] [2] [] [] [] [] ⟨[(2, .ptr 2 0)], [(2, [.int .i64 x1.Code, .int .i64 x1.At])], [], [], []⟩ (.cons (R_F_ok 3 v1 x1 h3) .nil) (by kernel_rfl) ?_
          have hF := ret_done hF dn1
          have hF := some_elim hF
          exact Wk_ret (hfin _ ⟨[], [], [], [], [], [], by first | (rw [← hF]; kernel_rfl) | kernel_rfl⟩)
        · have hF := ite_f hF hb
          refine Wk_skip ?_
          refine Wk_seq ?_
          refine Wk_seq ?_
          obtain ⟨h4, hF⟩ := asrt_elim hF
          obtain ⟨h5, hF⟩ := asrt_elim hF
          refine WD [.av (e_Entry (lget l v1)), .av (e_Entry (lget l (w64 (v1 - 1))))] [0, 2, 3, 45] [2] [] [] [] [] ⟨[(0, .sl 2 (l.map e_Entry)), (2, .ptr 2 0), (3, .int .i64 v1), (45, .bool ((decide (0 < v1)) && (decide (((lget l v1).Term) < ((lget l (w64 (v1 - 1))).Term)))))], [(2, [.int .i64 0, .int .i64 0])], [], [], []⟩ (.cons (fun (ga0 : (decide (0 < v1)) = true) => (idx_ok e_Entry (h4 ga0))) (.cons (fun (ga0 : (decide (0 < v1)) = true) => (idx_ok e_Entry (h5 ga0))) .nil)) (by kernel_rfl) ?_
          refine Wk_split rfl (fun hb => ?_) (fun hb => ?_)
          · have hF := ite_t hF hb
            refine Wk_seq ?_
            obtain ⟨x2, h6, hF⟩ := lt_split hF
            refine WR [.callB (.agg [.int .i64 x2.Code, .int .i64 x2.At])] [2] [2] [] [] [] [] ⟨[(2, .ptr 2 0)], [(2, [.int .i64 x2.Code, .int .i64 x2.At])], [], [], []⟩ (.cons (R_F_ok 11 v1 x2 h6) .nil) (by kernel_rfl) ?_
            have hF := ret_done hF dn1
            have hF := some_elim hF
            exact Wk_ret (hfin _ ⟨[], [], [], [], [], [], by first | (rw [← hF]; kernel_rfl) | kernel_rfl⟩)
          · have hF := ite_f hF hb
            refine Wk_skip ?_
            refine Wk_seq ?_
            obtain ⟨h7, hF⟩ := asrt_elim hF
            refine WR [.av (e_Entry (lget l v1))] [0, 2, 3, 54] [2] [] [] [] [] ⟨[(0, .sl 2 (l.map e_Entry)), (2, .ptr 2 0), (3, .int .i64 v1), (54, .bool (decide (200 < (((lget l v1).Text).length : Int))))], [(2, [.int .i64 0, .int .i64 0])], [], [], []⟩ (.cons (idx_ok e_Entry h7) .nil) (by kernel_rfl) ?_
            refine Wk_split rfl (fun hb => ?_) (fun hb => ?_)
            · have hF := ite_t hF hb
              refine Wk_seq ?_
              obtain ⟨x3, h8, hF⟩ := lt_split hF
              refine WR [.callB (.agg [.int .i64 x3.Code, .int .i64 x3.At])] [2] [2] [] [] [] [] ⟨[(2, .ptr 2 0)], [(2, [.int .i64 x3.Code, .int .i64 x3.At])], [], [], []⟩ (.cons (R_F_ok 8 v1 x3 h8) .nil) (by kernel_rfl) ?_
              have hF := ret_done hF dn1
              have hF := some_elim hF
              exact Wk_ret (hfin _ ⟨[], [], [], [], [], [], by first | (rw [← hF]; kernel_rfl) | kernel_rfl⟩)
            · have hF := ite_f hF hb
              refine Wk_skip ?_
              refine Wk_blk ?_
              refine WR [] [0, 2, 3] [2] [] [] [] [] ⟨[(0, .sl 2 (l.map e_Entry)), (2, .ptr 2 0), (3, .int .i64 (w64 (v1 + 1)))], [(2, [.int .i64 0, .int .i64 0])], [], [], []⟩ .nil (by kernel_rfl) ?_
              refine Wk_trim (fs := [0, 2, 3]) (bs := [2]) (rs := []) (ms := []) (aa := []) (nv := []) ?_ (ih1 _ (some_elim hF).symm)
              kernel_rfl
      · have hF := ite_f hF hb
        refine Wk_exit rfl ?_
        have hF := inrO_done hF dn1
        exact Wk_metP () [2] [2] [] [] [] [] hF (by kernel_rfl)
    · intro v hF
      have hF : R_LogFault_J1 v = some r := hF
      unfold R_LogFault_J1 at hF
      refine Wk_seq ?_
      refine WR [] [2] [2] [] [] [] [] ⟨[(2, .ptr 2 0)], [(2, [.int .i64 0, .int .i64 0])], [], [], []⟩ .nil (by kernel_rfl) ?_
      have hF := some_elim hF
      exact Wk_ret (hfin _ ⟨[], [], [], [], [], [], by first | (rw [← hF]; kernel_rfl) | kernel_rfl⟩)

/- tabularyref.LastTerm -/
noncomputable def R_LastTerm (l : List Entry) : Option Int :=
  if (decide ((l.length : Int) = 0)) = true then
    some 0
  else
    asrt (0 ≤ w64 ((l.length : Int) - 1) ∧ w64 ((l.length : Int) - 1) < (l.length : Int)) <|
    some ((lget l (w64 ((l.length : Int) - 1))).Term)
theorem R_LastTerm_ok (l : List Entry) (r : Int) (hF : R_LastTerm l = some r) : Pe Try.prog 20 S.none [.sl 2 (l.map e_Entry)] (.int .i64 r) S.none := by
  refine Pe_of (N := 13) (res := [.tmp 2]) (ts := [3]) Ty.ok Fn.b20 Try.func20 rfl rfl rfl rfl rfl rfl ?_
  intro Q g hfin
  unfold R_LastTerm at hF
  refine Wk_seq ?_
  refine WR [] [0] [] [] [] [] [] ⟨[(0, .sl 2 (l.map e_Entry))], [], [], [], []⟩ .nil (by kernel_rfl) ?_
  refine Wk_seq ?_
  refine Wk_seq ?_
  refine WR [.nat (l.length : Int)] [0, 5] [] [] [] [] [] ⟨[(0, .sl 2 (l.map e_Entry)), (5, .bool (decide ((l.length : Int) = 0)))], [], [], [], []⟩ (.cons (len_ok e_Entry l) .nil) (by kernel_rfl) ?_
  refine Wk_split rfl (fun hb => ?_) (fun hb => ?_)
  · have hF := ite_t hF hb
    refine Wk_seq ?_
    refine WR [] [2] [] [] [] [] [] ⟨[(2, .int .i64 0)], [], [], [], []⟩ .nil (by kernel_rfl) ?_
    have hF := some_elim hF
    exact Wk_ret (hfin _ ⟨[], [], [], [], [], [], by first | (rw [← hF]; kernel_rfl) | kernel_rfl⟩)
  · have hF := ite_f hF hb
    refine Wk_skip ?_
    refine Wk_seq ?_
    obtain ⟨h0, hF⟩ := asrt_elim hF
    refine WR [.nat (l.length : Int), .av (e_Entry (lget l (w64 ((l.length : Int) - 1))))] [2] [] [] [] [] [] ⟨[(2, .int .i64 ((lget l (w64 ((l.length : Int) - 1))).Term))], [], [], [], []⟩ (.cons (len_ok e_Entry l) (.cons (idx_ok e_Entry h0) .nil)) (by kernel_rfl) ?_
    have hF := some_elim hF
    exact Wk_ret (hfin _ ⟨[], [], [], [], [], [], by first | (rw [← hF]; kernel_rfl) | kernel_rfl⟩)

/- tabularyref.Has -/
noncomputable def R_Has_J1 (v : Unit) : Option Bool :=
  some false
noncomputable def R_Has_B1 (l : List Int) (num : Int) (v1 : Int) : Option (Int ⊕ Bool) :=
  if (decide (v1 < (l.length : Int))) = true then
    asrt (0 ≤ v1 ∧ v1 < (l.length : Int)) <|
    if (decide ((lget l v1) = num)) = true then
      some (Sum.inr true)
    else
      some (Sum.inl (w64 (v1 + 1)))
  else
    inrO (R_Has_J1 ())
noncomputable def R_Has_L1 (l : List Int) (num : Int) (v0 : Int) : Option Bool :=
  loopO (fun y => R_Has_B1 l num y) v0
noncomputable def R_Has (l : List Int) (num : Int) : Option Bool :=
  R_Has_L1 l num 0
theorem R_Has_ok (l : List Int) (num : Int) (r : Bool) (hF : R_Has l num = some r) : Pe Try.prog 72 S.none [.sl 1 (l.map e_i64), .int .i64 num] (.bool r) S.none := by
  refine Pe_of (N := 18) (res := [.tmp 4]) (ts := [4]) Ty.ok Fn.b72 Try.func72 rfl rfl rfl rfl rfl rfl ?_
  intro Q g hfin
  unfold R_Has at hF
  refine Wk_seq ?_
  refine WR [] [0, 1] [] [] [] [] [] ⟨[(0, .sl 1 (l.map e_i64)), (1, .int .i64 num)], [], [], [], []⟩ .nil (by kernel_rfl) ?_
  refine Wk_seq ?_
  refine Wk_seq ?_
  refine WR [] [0, 1, 5] [] [] [] [] [] ⟨[(0, .sl 1 (l.map e_i64)), (1, .int .i64 num), (5, .int .i64 0)], [], [], [], []⟩ .nil (by kernel_rfl) ?_
  refine Wk_meetP (fun v : Unit => (⟨[], [], [], [], []⟩ : S)) (fun v => R_Has_J1 v = some r) ?_ ?_
  · refine Wk_block ?_
    unfold R_Has_L1 at hF
    refine Wk_trim (fs := [0, 1, 5]) (bs := []) (rs := []) (ms := []) (aa := []) (nv := []) (t := (fun v1 : Int => (⟨[(0, .sl 1 (l.map e_i64)), (1, .int .i64 num), (5, .int .i64 v1)], [], [], [], []⟩ : S)) 0) (by kernel_rfl) ?_
    refine Wk_iter (step := fun y => R_Has_B1 l num y) (r := r) (fun v1 : Int => (⟨[(0, .sl 1 (l.map e_i64)), (1, .int .i64 num), (5, .int .i64 v1)], [], [], [], []⟩ : S)) 0 hF ?_
    intro n1 v1 y1 hF ih1 dn1
    have hF : R_Has_B1 l num v1 = some y1 := hF
    unfold R_Has_B1 at hF
    refine Wk_seq ?_
    refine Wk_seq ?_
    refine WR [.nat (l.length : Int)] [0, 1, 5, 9] [] [] [] [] [] ⟨[(0, .sl 1 (l.map e_i64)), (1, .int .i64 num), (5, .int .i64 v1), (9, .bool (decide (v1 < (l.length : Int))))], [], [], [], []⟩ (.cons (len_ok e_i64 l) .nil) (by kernel_rfl) ?_
    refine Wk_split rfl (fun hb => ?_) (fun hb => ?_)
    · have hF := ite_t hF hb
      refine Wk_skip ?_
      refine Wk_seq ?_
      refine Wk_block ?_
      refine Wk_seq ?_
      obtain ⟨h0, hF⟩ := asrt_elim hF
      refine WR [.av (e_i64 (lget l v1))] [0, 1, 5, 17] [] [] [] [] [] ⟨[(0, .sl 1 (l.map e_i64)), (1, .int .i64 num), (5, .int .i64 v1), (17, .bool (decide ((lget l v1) = num)))], [], [], [], []⟩ (.cons (idx_ok e_i64 h0) .nil) (by kernel_rfl) ?_
      refine Wk_split rfl (fun hb => ?_) (fun hb => ?_)
      · have hF := ite_t hF hb
        refine Wk_seq ?_
        refine WR [] [4] [] [] [] [] [] ⟨[(4, .bool true)], [], [], [], []⟩ .nil (by kernel_rfl) ?_
        have hF := ret_done hF dn1
        have hF := some_elim hF
        exact Wk_ret (hfin _ ⟨[], [], [], [], [], [], by first | (rw [← hF]; kernel_rfl) | kernel_rfl⟩)
      · have hF := ite_f hF hb
        refine Wk_skip ?_
        refine Wk_blk ?_
        refine WR [] [0, 1, 5] [] [] [] [] [] ⟨[(0, .sl 1 (l.map e_i64)), (1, .int .i64 num), (5, .int .i64 (w64 (v1 + 1)))], [], [], [], []⟩ .nil (by kernel_rfl) ?_
        refine Wk_trim (fs := [0, 1, 5]) (bs := []) (rs := []) (ms := []) (aa := []) (nv := []) ?_ (ih1 _ (some_elim hF).symm)
        kernel_rfl
    · have hF := ite_f hF hb
      refine Wk_exit rfl ?_
      have hF := inrO_done hF dn1
      exact Wk_metP () [] [] [] [] [] [] hF (by kernel_rfl)
  · intro v hF
    have hF : R_Has_J1 v = some r := hF
    unfold R_Has_J1 at hF
    refine Wk_seq ?_
    refine WR [] [4] [] [] [] [] [] ⟨[(4, .bool false)], [], [], [], []⟩ .nil (by kernel_rfl) ?_
    have hF := some_elim hF
    exact Wk_ret (hfin _ ⟨[], [], [], [], [], [], by first | (rw [← hF]; kernel_rfl) | kernel_rfl⟩)

/- tabularyref.Majority -/
noncomputable def R_Majority (k0 : Int) (num : Int) : Bool :=
  decide ((w64 (Int.tdiv num 2)) < k0)
theorem R_Majority_ok (k0 : Int) (num : Int) (r : Bool) (hF : R_Majority k0 num = r) : Pe Try.prog 73 S.none [.int .i64 k0, .int .i64 num] (.bool r) S.none := by
  refine Pe_of (N := 9) (res := [.tmp 4]) (ts := [4]) Ty.ok Fn.b73 Try.func73 rfl rfl rfl rfl rfl rfl ?_
  intro Q g hfin
  unfold R_Majority at hF
  refine Wk_seq ?_
  refine WR [] [0, 1] [] [] [] [] [] ⟨[(0, .int .i64 k0), (1, .int .i64 num)], [], [], [], []⟩ .nil (by kernel_rfl) ?_
  refine Wk_seq ?_
  refine WR [] [4] [] [] [] [] [] ⟨[(4, .bool (decide ((w64 (Int.tdiv num 2)) < k0)))], [], [], [], []⟩ (.cons (by decide : (2 : Int) ≠ 0) .nil) (by kernel_rfl) ?_
  exact Wk_ret (hfin _ ⟨[], [], [], [], [], [], by first | (rw [← hF]; kernel_rfl) | kernel_rfl⟩)

/- tabularyref.NodeFault -/
noncomputable def R_NodeFault_J2 (v1 : Unit) : Option Fault :=
  some (⟨0, 0⟩ : Fault)
noncomputable def R_NodeFault_J3 (v2 : Unit) : Option Fault :=
  R_NodeFault_J2 ()
noncomputable def R_NodeFault_B1 (x : Node) (x7 : Fault) (v3 : Int) : Option (Int ⊕ Fault) :=
  if (decide (v3 < x.N)) = true then
    asrt (0 ≤ v3 ∧ v3 < (x.Next.length : Int)) <|
    asrt ((!(decide ((lget x.Next v3) < 1))) = true → 0 ≤ v3 ∧ v3 < (x.Next.length : Int)) <|
    asrt ((!((decide ((lget x.Next v3) < 1)) || (decide ((w64 ((x.Log.length : Int) + 1)) < (lget x.Next v3))))) = true → 0 ≤ v3 ∧ v3 < (x.Have.length : Int)) <|
    asrt ((!(((decide ((lget x.Next v3) < 1)) || (decide ((w64 ((x.Log.length : Int) + 1)) < (lget x.Next v3)))) || (decide ((lget x.Have v3) < 0)))) = true → 0 ≤ v3 ∧ v3 < (x.Have.length : Int)) <|
    if ((((decide ((lget x.Next v3) < 1)) || (decide ((w64 ((x.Log.length : Int) + 1)) < (lget x.Next v3)))) || (decide ((lget x.Have v3) < 0))) || (decide ((x.Log.length : Int) < (lget x.Have v3)))) = true then
      some (Sum.inr x7)
    else
      some (Sum.inl (w64 (v3 + 1)))
  else
    inrO (R_NodeFault_J3 ())
noncomputable def R_NodeFault_L1 (x : Node) (x7 : Fault) (v0 : Int) : Option Fault :=
  loopO (fun y => R_NodeFault_B1 x x7 y) v0
noncomputable def R_NodeFault_J1 (x : Node) (x7 : Fault) (v : Unit) : Option Fault :=
  if (decide (x.Role = 2)) = true then
    if ((!decide ((x.Next.length : Int) = x.N)) || (!decide ((x.Have.length : Int) = x.N))) = true then
      some x7
    else
      R_NodeFault_L1 x x7 0
  else
    R_NodeFault_J2 ()
noncomputable def R_NodeFault_J4 (x : Node) (x7 : Fault) (v4 : Unit) : Option Fault :=
  R_NodeFault_J1 x x7 ()
noncomputable def R_NodeFault_B2 (x : Node) (x7 : Fault) (v5 : Int) : Option (Int ⊕ Fault) :=
  if (decide (v5 < (x.Votes.length : Int))) = true then
    asrt (0 ≤ v5 ∧ v5 < (x.Votes.length : Int)) <|
    asrt ((!(decide ((lget x.Votes v5) < 0))) = true → 0 ≤ v5 ∧ v5 < (x.Votes.length : Int)) <|
    asrt ((!((decide ((lget x.Votes v5) < 0)) || (decide (x.N ≤ (lget x.Votes v5))))) = true → 0 ≤ v5 ∧ v5 ≤ (x.Votes.length : Int)) <|
    asrt ((!((decide ((lget x.Votes v5) < 0)) || (decide (x.N ≤ (lget x.Votes v5))))) = true → 0 ≤ v5 ∧ v5 < (x.Votes.length : Int)) <|
    ob (if (!((decide ((lget x.Votes v5) < 0)) || (decide (x.N ≤ (lget x.Votes v5))))) = true then (R_Has (ltake x.Votes v5) (lget x.Votes v5)) else some default) fun x10 =>
    if (((decide ((lget x.Votes v5) < 0)) || (decide (x.N ≤ (lget x.Votes v5)))) || x10) = true then
      some (Sum.inr x7)
    else
      some (Sum.inl (w64 (v5 + 1)))
  else
    inrO (R_NodeFault_J4 x x7 ())
noncomputable def R_NodeFault_L2 (x : Node) (x7 : Fault) (v0 : Int) : Option Fault :=
  loopO (fun y => R_NodeFault_B2 x x7 y) v0
noncomputable def R_NodeFault (x : Node) : Option Fault :=
  if ((((decide (x.N < 1)) || (decide (7 < x.N))) || (decide (x.ID < 0))) || (decide (x.N ≤ x.ID))) = true then
    lt (R_F 3 (-1)) fun x1 =>
    some x1
  else
    lt (R_Num x.Term) fun x2 =>
    if (((((((!x2) || (decide (x.Vote < 0))) || (decide (x.N < x.Vote))) || (decide (x.Role < 0))) || (decide (2 < x.Role))) || (decide (x.Commit < 0))) || (decide ((x.Log.length : Int) < x.Commit))) = true then
      lt (R_F 3 (-2)) fun x3 =>
      some x3
    else
      ob (R_LogFault x.Log) fun x4 =>
      if (!decide (x4.Code = 0)) = true then
        some x4
      else
        ob (R_LastTerm x.Log) fun x5 =>
        if (decide (x.Term < x5)) = true then
          lt (R_F 11 (-3)) fun x6 =>
          some x6
        else
          lt (R_F 5 (-3)) fun x7 =>
          if (((!decide (x.Role = 1)) && (decide (0 < (x.Votes.length : Int)))) || ((!decide (x.Role = 2)) && ((decide (0 < (x.Next.length : Int))) || (decide (0 < (x.Have.length : Int)))))) = true then
            some x7
          else
            if (decide (x.Role = 1)) = true then
              ob (R_Has x.Votes x.ID) fun x8 =>
              lt (R_Majority (x.Votes.length : Int) x.N) fun x9 =>
              if ((!x8) || x9) = true then
                some x7
              else
                R_NodeFault_L2 x x7 0
            else
              R_NodeFault_J1 x x7 ()
theorem R_NodeFault_ok (x : Node) (r : Fault) (hF : R_NodeFault x = some r) : Pe Try.prog 36 S.none [.agg (c_Node x)] (.agg [.int .i64 r.Code, .int .i64 r.At]) S.none := by
  refine Pe_of (N := 227) (res := [.cell 2 26]) (ts := [26]) Ty.ok Fn.b36 Try.func36 rfl rfl rfl rfl rfl rfl ?_
  intro Q g hfin
  unfold R_NodeFault at hF
  refine Wk_seq ?_
  refine WR [] [1, 2] [1, 2] [] [] [] [] ⟨[(1, .ptr 1 0), (2, .ptr 2 0)], [(1, (c_Node x)), (2, [.int .i64 0, .int .i64 0])], [], [], []⟩ .nil (by kernel_rfl) ?_
  refine Wk_seq ?_
  refine Wk_seq ?_
  refine WR [] [1, 2, 26] [1, 2] [] [] [] [] ⟨[(1, .ptr 1 0), (2, .ptr 2 0), (26, .bool ((((decide (x.N < 1)) || (decide (7 < x.N))) || (decide (x.ID < 0))) || (decide (x.N ≤ x.ID))))], [(1, (c_Node x)), (2, [.int .i64 0, .int .i64 0])], [], [], []⟩ .nil (by kernel_rfl) ?_
  refine Wk_split rfl (fun hb => ?_) (fun hb => ?_)
  · have hF := ite_t hF hb
    refine Wk_seq ?_
    obtain ⟨x1, h0, hF⟩ := lt_split hF
    refine WR [.callB (.agg [.int .i64 x1.Code, .int .i64 x1.At])] [2] [2] [] [] [] [] ⟨[(2, .ptr 2 0)], [(2, [.int .i64 x1.Code, .int .i64 x1.At])], [], [], []⟩ (.cons (R_F_ok 3 (-1) x1 h0) .nil) (by kernel_rfl) ?_
    have hF := some_elim hF
    exact Wk_ret (hfin _ ⟨[], [], [], [], [], [], by first | (rw [← hF]; kernel_rfl) | kernel_rfl⟩)
  · have hF := ite_f hF hb
    refine Wk_skip ?_
    refine Wk_seq ?_
    refine Wk_seq ?_
    obtain ⟨x2, h1, hF⟩ := lt_split hF
    refine WR [.callB (.bool x2), .nat (x.Log.length : Int)] [1, 2, 66] [1, 2] [] [] [] [] ⟨[(1, .ptr 1 0), (2, .ptr 2 0), (66, .bool (((((((!x2) || (decide (x.Vote < 0))) || (decide (x.N < x.Vote))) || (decide (x.Role < 0))) || (decide (2 < x.Role))) || (decide (x.Commit < 0))) || (decide ((x.Log.length : Int) < x.Commit))))], [(1, (c_Node x)), (2, [.int .i64 0, .int .i64 0])], [], [], []⟩ (.cons (R_Num_ok x.Term x2 h1) (.cons (fun (_ : (!((((((!x2) || (decide (x.Vote < 0))) || (decide (x.N < x.Vote))) || (decide (x.Role < 0))) || (decide (2 < x.Role))) || (decide (x.Commit < 0)))) = true) => (len_ok e_Entry x.Log)) .nil)) (by kernel_rfl) ?_
    refine Wk_split rfl (fun hb => ?_) (fun hb => ?_)
    · have hF := ite_t hF hb
      refine Wk_seq ?_
      obtain ⟨x3, h2, hF⟩ := lt_split hF
      refine WR [.callB (.agg [.int .i64 x3.Code, .int .i64 x3.At])] [2] [2] [] [] [] [] ⟨[(2, .ptr 2 0)], [(2, [.int .i64 x3.Code, .int .i64 x3.At])], [], [], []⟩ (.cons (R_F_ok 3 (-2) x3 h2) .nil) (by kernel_rfl) ?_
      have hF := some_elim hF
      exact Wk_ret (hfin _ ⟨[], [], [], [], [], [], by first | (rw [← hF]; kernel_rfl) | kernel_rfl⟩)
    · have hF := ite_f hF hb
      refine Wk_skip ?_
      refine Wk_seq ?_
      obtain ⟨x4, h3, hF⟩ := ob_elim hF
      refine WR [.callB (.agg [.int .i64 x4.Code, .int .i64 x4.At])] [1, 2, 3] [1, 2, 3] [] [] [] [] ⟨[(1, .ptr 1 0), (2, .ptr 2 0), (3, .ptr 3 0)], [(1, (c_Node x)), (2, [.int .i64 0, .int .i64 0]), (3, [.int .i64 x4.Code, .int .i64 x4.At])], [], [], []⟩ (.cons (R_LogFault_ok x.Log x4 h3) .nil) (by kernel_rfl) ?_
      refine Wk_seq ?_
      refine Wk_seq ?_
      refine WR [] [1, 2, 3, 73] [1, 2, 3] [] [] [] [] ⟨[(1, .ptr 1 0), (2, .ptr 2 0), (3, .ptr 3 0), (73, .bool (!decide (x4.Code = 0)))], [(1, (c_Node x)), (2, [.int .i64 0, .int .i64 0]), (3, [.int .i64 x4.Code, .int .i64 x4.At])], [], [], []⟩ .nil (by kernel_rfl) ?_
      refine Wk_split rfl (fun hb => ?_) (fun hb => ?_)
      · have hF := ite_t hF hb
        refine Wk_seq ?_
        refine WR [] [2] [2] [] [] [] [] ⟨[(2, .ptr 2 0)], [(2, [.int .i64 x4.Code, .int .i64 x4.At])], [], [], []⟩ .nil (by kernel_rfl) ?_
        have hF := some_elim hF
        exact Wk_ret (hfin _ ⟨[], [], [], [], [], [], by first | (rw [← hF]; kernel_rfl) | kernel_rfl⟩)
      · have hF := ite_f hF hb
        refine Wk_skip ?_
        refine Wk_seq ?_
        refine Wk_seq ?_
        obtain ⟨x5, h4, hF⟩ := ob_elim hF
        refine WD [.callB (.int .i64 x5)] [1, 2, 80] [1, 2] [] [] [] [] ⟨[(1, .ptr 1 0), (2, .ptr 2 0), (80, .bool (decide (x.Term < x5)))], [(1, (c_Node x)), (2, [.int .i64 0, .int .i64 0])], [], [], []⟩ (.cons (R_LastTerm_ok x.Log x5 h4) .nil) (by kernel_rfl) ?_
        refine Wk_split rfl (fun hb => ?_) (fun hb => ?_)
        · have hF := ite_t hF hb
          refine Wk_seq ?_
          obtain ⟨x6, h5, hF⟩ := lt_split hF
          refine WR [.callB (.agg [.int .i64 x6.Code, .int .i64 x6.At])] [2] [2] [] [] [] [] ⟨[(2, .ptr 2 0)], [(2, [.int .i64 x6.Code, .int .i64 x6.At])], [], [], []⟩ (.cons (R_F_ok 11 (-3) x6 h5) .nil) (by kernel_rfl) ?_
          have hF := some_elim hF
          exact Wk_ret (hfin _ ⟨[], [], [], [], [], [], by first | (rw [← hF]; kernel_rfl) | kernel_rfl⟩)
        · have hF := ite_f hF hb
          refine Wk_skip ?_
          refine Wk_seq ?_
          obtain ⟨x7, h6, hF⟩ := lt_split hF
          refine WR [.callB (.agg [.int .i64 x7.Code, .int .i64 x7.At])] [1, 2, 4] [1, 2, 4] [] [] [] [] ⟨[(1, .ptr 1 0), (2, .ptr 2 0), (4, .ptr 4 0)], [(1, (c_Node x)), (2, [.int .i64 0, .int .i64 0]), (4, [.int .i64 x7.Code, .int .i64 x7.At])], [], [], []⟩ (.cons (R_F_ok 5 (-3) x7 h6) .nil) (by kernel_rfl) ?_
          refine Wk_seq ?_
          refine Wk_seq ?_
          refine WR [.nat (x.Votes.length : Int), .nat (x.Next.length : Int), .nat (x.Have.length : Int)] [1, 2, 4, 108] [1, 2, 4] [] [] [] [] ⟨[(1, .ptr 1 0), (2, .ptr 2 0), (4, .ptr 4 0), (108, .bool (((!decide (x.Role = 1)) && (decide (0 < (x.Votes.length : Int)))) || ((!decide (x.Role = 2)) && ((decide (0 < (x.Next.length : Int))) || (decide (0 < (x.Have.length : Int)))))))], [(1, (c_Node x)), (2, [.int .i64 0, .int .i64 0]), (4, [.int .i64 x7.Code, .int .i64 x7.At])], [], [], []⟩ (.cons (fun (_ : (!decide (x.Role = 1)) = true) => (len_ok e_i64 x.Votes)) (.cons (fun (_ : (!decide (x.Role = 2)) = true) (_ : (!((!decide (x.Role = 1)) && (decide (0 < (x.Votes.length : Int))))) = true) => (len_ok e_i64 x.Next)) (.cons (fun (_ : (!(decide (0 < (x.Next.length : Int)))) = true) (_ : (!decide (x.Role = 2)) = true) (_ : (!((!decide (x.Role = 1)) && (decide (0 < (x.Votes.length : Int))))) = true) => (len_ok e_i64 x.Have)) .nil))) (by kernel_rfl) ?_
          refine Wk_split rfl (fun hb => ?_) (fun hb => ?_)
          · have hF := ite_t hF hb
            refine Wk_seq ?_
            refine WR [] [2] [2] [] [] [] [] ⟨[(2, .ptr 2 0)], [(2, [.int .i64 x7.Code, .int .i64 x7.At])], [], [], []⟩ .nil (by kernel_rfl) ?_
            have hF := some_elim hF
            exact Wk_ret (hfin _ ⟨[], [], [], [], [], [], by first | (rw [← hF]; kernel_rfl) | kernel_rfl⟩)
          · have hF := ite_f hF hb
            refine Wk_skip ?_
            refine Wk_seq ?_
            refine Wk_seq ?_
            refine WR [] [1, 2, 4, 112] [1, 2, 4] [] [] [] [] ⟨[(1, .ptr 1 0), (2, .ptr 2 0), (4, .ptr 4 0), (112, .bool (decide (x.Role = 1)))], [(1, (c_Node x)), (2, [.int .i64 0, .int .i64 0]), (4, [.int .i64 x7.Code, .int .i64 x7.At])], [], [], []⟩ .nil (by kernel_rfl) ?_
            refine Wk_meetP (fun v : Unit => (⟨[(1, .ptr 1 0), (2, .ptr 2 0), (4, .ptr 4 0)], [(1, (c_Node x)), (2, [.int .i64 0, .int .i64 0]), (4, [.int .i64 x7.Code, .int .i64 x7.At])], [], [], []⟩ : S)) (fun v => R_NodeFault_J1 x x7 v = some r) ?_ ?_
            · refine Wk_split rfl (fun hb => ?_) (fun hb => ?_)
              · have hF := ite_t hF hb
                refine Wk_seq ?_
                refine Wk_seq ?_
                obtain ⟨x8, h11, hF⟩ := ob_elim hF
                obtain ⟨x9, h12, hF⟩ := lt_split hF
                refine WR [.callB (.bool x8), .nat (x.Votes.length : Int), .callB (.bool x9)] [1, 2, 4, 126] [1, 2, 4] [] [] [] [] ⟨[(1, .ptr 1 0), (2, .ptr 2 0), (4, .ptr 4 0), (126, .bool ((!x8) || x9))], [(1, (c_Node x)), (2, [.int .i64 0, .int .i64 0]), (4, [.int .i64 x7.Code, .int .i64 x7.At])], [], [], []⟩ (.cons (R_Has_ok x.Votes x.ID x8 h11) (.cons (fun (_ : (!(!x8)) = true) => (len_ok e_i64 x.Votes)) (.cons (fun (ga0 : (!(!x8)) = true) => (R_Majority_ok (x.Votes.length : Int) x.N x9 h12)) .nil))) (by kernel_rfl) ?_
                refine Wk_split rfl (fun hb => ?_) (fun hb => ?_)
                · have hF := ite_t hF hb
                  refine Wk_seq ?_
                  refine WR [] [2] [2] [] [] [] [] ⟨[(2, .ptr 2 0)], [(2, [.int .i64 x7.Code, .int .i64 x7.At])], [], [], []⟩ .nil (by kernel_rfl) ?_
                  have hF := some_elim hF
                  exact Wk_ret (hfin _ ⟨[], [], [], [], [], [], by first | (rw [← hF]; kernel_rfl) | kernel_rfl⟩)
                · have hF := ite_f hF hb
                  refine Wk_skip ?_
                  refine Wk_seq ?_
                  refine WR [] [1, 2, 4, 5] [1, 2, 4] [] [] [] [] ⟨[(1, .ptr 1 0), (2, .ptr 2 0), (4, .ptr 4 0), (5, .int .i64 0)], [(1, (c_Node x)), (2, [.int .i64 0, .int .i64 0]), (4, [.int .i64 x7.Code, .int .i64 x7.At])], [], [], []⟩ .nil (by kernel_rfl) ?_
                  refine Wk_meetP (fun v4 : Unit => (⟨[(1, .ptr 1 0), (2, .ptr 2 0), (4, .ptr 4 0)], [(1, (c_Node x)), (2, [.int .i64 0, .int .i64 0]), (4, [.int .i64 x7.Code, .int .i64 x7.At])], [], [], []⟩ : S)) (fun v4 => R_NodeFault_J4 x x7 v4 = some r) ?_ ?_
                  · refine Wk_block ?_
                    unfold R_NodeFault_L2 at hF
                    refine Wk_trim (fs := [1, 2, 4, 5]) (bs := [1, 2, 4]) (rs := []) (ms := []) (aa := []) (nv := []) (t := (fun v5 : Int => (⟨[(1, .ptr 1 0), (2, .ptr 2 0), (4, .ptr 4 0), (5, .int .i64 v5)], [(1, (c_Node x)), (2, [.int .i64 0, .int .i64 0]), (4, [.int .i64 x7.Code, .int .i64 x7.At])], [], [], []⟩ : S)) 0) (by kernel_rfl) ?_
                    refine Wk_iter (step := fun y => R_NodeFault_B2 x x7 y) (r := r) (fun v5 : Int => (⟨[(1, .ptr 1 0), (2, .ptr 2 0), (4, .ptr 4 0), (5, .int .i64 v5)], [(1, (c_Node x)), (2, [.int .i64 0, .int .i64 0]), (4, [.int .i64 x7.Code, .int .i64 x7.At])], [], [], []⟩ : S)) 0 hF ?_
                    intro n1 v5 y1 hF ih1 dn1
                    have hF : R_NodeFault_B2 x x7 v5 = some y1 := hF
                    unfold R_NodeFault_B2 at hF
                    refine Wk_seq ?_
                    refine Wk_seq ?_
                    refine WR [.nat (x.Votes.length : Int)] [1, 2, 4, 5, 132] [1, 2, 4] [] [] [] [] ⟨[(1, .ptr 1 0), (2, .ptr 2 0), (4, .ptr 4 0), (5, .int .i64 v5), (132, .bool (decide (v5 < (x.Votes.length : Int))))], [(1, (c_Node x)), (2, [.int .i64 0, .int .i64 0]), (4, [.int .i64 x7.Code, .int .i64 x7.At])], [], [], []⟩ (.cons (len_ok e_i64 x.Votes) .nil) (by kernel_rfl) ?_
                    refine Wk_split rfl (fun hb => ?_) (fun hb => ?_)
                    · have hF := ite_t hF hb
                      refine Wk_skip ?_
                      refine Wk_seq ?_
                      refine Wk_block ?_
                      refine Wk_seq ?_
                      obtain ⟨h13, hF⟩ := asrt_elim hF
                      obtain ⟨h14, hF⟩ := asrt_elim hF
                      obtain ⟨h15, hF⟩ := asrt_elim hF
                      obtain ⟨h16, hF⟩ := asrt_elim hF
                      obtain ⟨x10, h17, hF⟩ := ob_elim hF
                      refine WD [.av (e_i64 (lget x.Votes v5)), .av (e_i64 (lget x.Votes v5)), .xs ((ltake x.Votes v5).map e_i64), .av (e_i64 (lget x.Votes v5)), .callB (.bool x10)] [1, 2, 4, 5, 162] [1, 2, 4] [] [] [] [] ⟨[(1, .ptr 1 0), (2, .ptr 2 0), (4, .ptr 4 0), (5, .int .i64 v5), (162, .bool (((decide ((lget x.Votes v5) < 0)) || (decide (x.N ≤ (lget x.Votes v5)))) || x10))], [(1, (c_Node x)), (2, [.int .i64 0, .int .i64 0]), (4, [.int .i64 x7.Code, .int .i64 x7.At])], [], [], []⟩ (.cons (idx_ok e_i64 h13) (.cons (fun (ga0 : (!(decide ((lget x.Votes v5) < 0))) = true) => (idx_ok e_i64 (h14 ga0))) (.cons (fun (ga0 : (!((decide ((lget x.Votes v5) < 0)) || (decide (x.N ≤ (lget x.Votes v5))))) = true) => (sl01_ok e_i64 (h15 ga0))) (.cons (fun (ga0 : (!((decide ((lget x.Votes v5) < 0)) || (decide (x.N ≤ (lget x.Votes v5))))) = true) => (idx_ok e_i64 (h16 ga0))) (.cons (fun (ga0 : (!((decide ((lget x.Votes v5) < 0)) || (decide (x.N ≤ (lget x.Votes v5))))) = true) => (R_Has_ok (ltake x.Votes v5) (lget x.Votes v5) x10 (ite_t h17 ga0))) .nil))))) (by kernel_rfl) ?_
                      refine Wk_split rfl (fun hb => ?_) (fun hb => ?_)
                      · have hF := ite_t hF hb
                        refine Wk_seq ?_
                        refine WR [] [2] [2] [] [] [] [] ⟨[(2, .ptr 2 0)], [(2, [.int .i64 x7.Code, .int .i64 x7.At])], [], [], []⟩ .nil (by kernel_rfl) ?_
                        have hF := ret_done hF dn1
                        have hF := some_elim hF
                        exact Wk_ret (hfin _ ⟨[], [], [], [], [], [], by first | (rw [← hF]; kernel_rfl) | kernel_rfl⟩)
                      · have hF := ite_f hF hb
                        refine Wk_skip ?_
                        refine Wk_blk ?_
                        refine WR [] [1, 2, 4, 5] [1, 2, 4] [] [] [] [] ⟨[(1, .ptr 1 0), (2, .ptr 2 0), (4, .ptr 4 0), (5, .int .i64 (w64 (v5 + 1)))], [(1, (c_Node x)), (2, [.int .i64 0, .int .i64 0]), (4, [.int .i64 x7.Code, .int .i64 x7.At])], [], [], []⟩ .nil (by kernel_rfl) ?_
                        refine Wk_trim (fs := [1, 2, 4, 5]) (bs := [1, 2, 4]) (rs := []) (ms := []) (aa := []) (nv := []) ?_ (ih1 _ (some_elim hF).symm)
                        kernel_rfl
                    · have hF := ite_f hF hb
                      refine Wk_exit rfl ?_
                      have hF := inrO_done hF dn1
                      exact Wk_metP () [1, 2, 4] [1, 2, 4] [] [] [] [] hF (by kernel_rfl)
                  · intro v4 hF
                    have hF : R_NodeFault_J4 x x7 v4 = some r := hF
                    unfold R_NodeFault_J4 at hF
                    exact Wk_metP () [1, 2, 4] [1, 2, 4] [] [] [] [] hF (by kernel_rfl)
              · have hF := ite_f hF hb
                refine Wk_skip ?_
                exact Wk_metP () [1, 2, 4] [1, 2, 4] [] [] [] [] hF (by kernel_rfl)
            · intro v hF
              have hF : R_NodeFault_J1 x x7 v = some r := hF
              unfold R_NodeFault_J1 at hF
              refine Wk_seq ?_
              refine Wk_seq ?_
              refine WR [] [1, 2, 4, 166] [1, 2, 4] [] [] [] [] ⟨[(1, .ptr 1 0), (2, .ptr 2 0), (4, .ptr 4 0), (166, .bool (decide (x.Role = 2)))], [(1, (c_Node x)), (2, [.int .i64 0, .int .i64 0]), (4, [.int .i64 x7.Code, .int .i64 x7.At])], [], [], []⟩ .nil (by kernel_rfl) ?_
              refine Wk_meetP (fun v1 : Unit => (⟨[(2, .ptr 2 0)], [(2, [.int .i64 0, .int .i64 0])], [], [], []⟩ : S)) (fun v1 => R_NodeFault_J2 v1 = some r) ?_ ?_
              · refine Wk_split rfl (fun hb => ?_) (fun hb => ?_)
                · have hF := ite_t hF hb
                  refine Wk_seq ?_
                  refine Wk_seq ?_
                  refine WR [.nat (x.Next.length : Int), .nat (x.Have.length : Int)] [1, 2, 4, 180] [1, 2, 4] [] [] [] [] ⟨[(1, .ptr 1 0), (2, .ptr 2 0), (4, .ptr 4 0), (180, .bool ((!decide ((x.Next.length : Int) = x.N)) || (!decide ((x.Have.length : Int) = x.N))))], [(1, (c_Node x)), (2, [.int .i64 0, .int .i64 0]), (4, [.int .i64 x7.Code, .int .i64 x7.At])], [], [], []⟩ (.cons (len_ok e_i64 x.Next) (.cons (fun (_ : (!(!decide ((x.Next.length : Int) = x.N))) = true) => (len_ok e_i64 x.Have)) .nil)) (by kernel_rfl) ?_
                  refine Wk_split rfl (fun hb => ?_) (fun hb => ?_)
                  · have hF := ite_t hF hb
                    refine Wk_seq ?_
                    refine WR [] [2] [2] [] [] [] [] ⟨[(2, .ptr 2 0)], [(2, [.int .i64 x7.Code, .int .i64 x7.At])], [], [], []⟩ .nil (by kernel_rfl) ?_
                    have hF := some_elim hF
                    exact Wk_ret (hfin _ ⟨[], [], [], [], [], [], by first | (rw [← hF]; kernel_rfl) | kernel_rfl⟩)
                  · have hF := ite_f hF hb
                    refine Wk_skip ?_
                    refine Wk_seq ?_
                    refine WR [] [1, 2, 4, 6] [1, 2, 4] [] [] [] [] ⟨[(1, .ptr 1 0), (2, .ptr 2 0), (4, .ptr 4 0), (6, .int .i64 0)], [(1, (c_Node x)), (2, [.int .i64 0, .int .i64 0]), (4, [.int .i64 x7.Code, .int .i64 x7.At])], [], [], []⟩ .nil (by kernel_rfl) ?_
                    refine Wk_meetP (fun v2 : Unit => (⟨[(2, .ptr 2 0)], [(2, [.int .i64 0, .int .i64 0])], [], [], []⟩ : S)) (fun v2 => R_NodeFault_J3 v2 = some r) ?_ ?_
                    · refine Wk_block ?_
                      unfold R_NodeFault_L1 at hF
                      refine Wk_trim (fs := [1, 2, 4, 6]) (bs := [1, 2, 4]) (rs := []) (ms := []) (aa := []) (nv := []) (t := (fun v3 : Int => (⟨[(1, .ptr 1 0), (2, .ptr 2 0), (4, .ptr 4 0), (6, .int .i64 v3)], [(1, (c_Node x)), (2, [.int .i64 0, .int .i64 0]), (4, [.int .i64 x7.Code, .int .i64 x7.At])], [], [], []⟩ : S)) 0) (by kernel_rfl) ?_
                      refine Wk_iter (step := fun y => R_NodeFault_B1 x x7 y) (r := r) (fun v3 : Int => (⟨[(1, .ptr 1 0), (2, .ptr 2 0), (4, .ptr 4 0), (6, .int .i64 v3)], [(1, (c_Node x)), (2, [.int .i64 0, .int .i64 0]), (4, [.int .i64 x7.Code, .int .i64 x7.At])], [], [], []⟩ : S)) 0 hF ?_
                      intro n1 v3 y1 hF ih1 dn1
                      have hF : R_NodeFault_B1 x x7 v3 = some y1 := hF
                      unfold R_NodeFault_B1 at hF
                      refine Wk_seq ?_
                      refine Wk_seq ?_
                      refine WR [] [1, 2, 4, 6, 185] [1, 2, 4] [] [] [] [] ⟨[(1, .ptr 1 0), (2, .ptr 2 0), (4, .ptr 4 0), (6, .int .i64 v3), (185, .bool (decide (v3 < x.N)))], [(1, (c_Node x)), (2, [.int .i64 0, .int .i64 0]), (4, [.int .i64 x7.Code, .int .i64 x7.At])], [], [], []⟩ .nil (by kernel_rfl) ?_
                      refine Wk_split rfl (fun hb => ?_) (fun hb => ?_)
                      · have hF := ite_t hF hb
                        refine Wk_skip ?_
                        refine Wk_seq ?_
                        refine Wk_block ?_
                        refine Wk_seq ?_
                        obtain ⟨h7, hF⟩ := asrt_elim hF
                        obtain ⟨h8, hF⟩ := asrt_elim hF
                        obtain ⟨h9, hF⟩ := asrt_elim hF
                        obtain ⟨h10, hF⟩ := asrt_elim hF
                        refine WD [.av (e_i64 (lget x.Next v3)), .av (e_i64 (lget x.Next v3)), .nat (x.Log.length : Int), .av (e_i64 (lget x.Have v3)), .av (e_i64 (lget x.Have v3)), .nat (x.Log.length : Int)] [1, 2, 4, 6, 224] [1, 2, 4] [] [] [] [] ⟨[(1, .ptr 1 0), (2, .ptr 2 0), (4, .ptr 4 0), (6, .int .i64 v3), (224, .bool ((((decide ((lget x.Next v3) < 1)) || (decide ((w64 ((x.Log.length : Int) + 1)) < (lget x.Next v3)))) || (decide ((lget x.Have v3) < 0))) || (decide ((x.Log.length : Int) < (lget x.Have v3)))))], [(1, (c_Node x)), (2, [.int .i64 0, .int .i64 0]), (4, [.int .i64 x7.Code, .int .i64 x7.At])], [], [], []⟩ (.cons (idx_ok e_i64 h7) (.cons (fun (ga0 : (!(decide ((lget x.Next v3) < 1))) = true) => (idx_ok e_i64 (h8 ga0))) (.cons (fun (_ : (!(decide ((lget x.Next v3) < 1))) = true) => (len_ok e_Entry x.Log)) (.cons (fun (ga0 : (!((decide ((lget x.Next v3) < 1)) || (decide ((w64 ((x.Log.length : Int) + 1)) < (lget x.Next v3))))) = true) => (idx_ok e_i64 (h9 ga0))) (.cons (fun (ga0 : (!(((decide ((lget x.Next v3) < 1)) || (decide ((w64 ((x.Log.length : Int) + 1)) < (lget x.Next v3)))) || (decide ((lget x.Have v3) < 0)))) = true) => (idx_ok e_i64 (h10 ga0))) (.cons (fun (_ : (!(((decide ((lget x.Next v3) < 1)) || (decide ((w64 ((x.Log.length : Int) + 1)) < (lget x.Next v3)))) || (decide ((lget x.Have v3) < 0)))) = true) => (len_ok e_Entry x.Log)) .nil)))))) (by kernel_rfl) ?_
                        refine Wk_split rfl (fun hb => ?_) (fun hb => ?_)
                        · have hF := ite_t hF hb
                          refine Wk_seq ?_
                          refine WR [] [2] [2] [] [] [] [] ⟨[(2, .ptr 2 0)], [(2, [.int .i64 x7.Code, .int .i64 x7.At])], [], [], []⟩ .nil (by kernel_rfl) ?_
                          have hF := ret_done hF dn1
                          have hF := some_elim hF
                          exact Wk_ret (hfin _ ⟨[], [], [], [], [], [], by first | (rw [← hF]; kernel_rfl) | kernel_rfl⟩)
                        · have hF := ite_f hF hb
                          refine Wk_skip ?_
                          refine Wk_blk ?_
                          refine WR [] [1, 2, 4, 6] [1, 2, 4] [] [] [] [] ⟨[(1, .ptr 1 0), (2, .ptr 2 0), (4, .ptr 4 0), (6, .int .i64 (w64 (v3 + 1)))], [(1, (c_Node x)), (2, [.int .i64 0, .int .i64 0]), (4, [.int .i64 x7.Code, .int .i64 x7.At])], [], [], []⟩ .nil (by kernel_rfl) ?_
                          refine Wk_trim (fs := [1, 2, 4, 6]) (bs := [1, 2, 4]) (rs := []) (ms := []) (aa := []) (nv := []) ?_ (ih1 _ (some_elim hF).symm)
                          kernel_rfl
                      · have hF := ite_f hF hb
                        refine Wk_exit rfl ?_
                        have hF := inrO_done hF dn1
                        exact Wk_metP () [2] [2] [] [] [] [] hF (by kernel_rfl)
                    · intro v2 hF
                      have hF : R_NodeFault_J3 v2 = some r := hF
                      unfold R_NodeFault_J3 at hF
                      exact Wk_metP () [2] [2] [] [] [] [] hF (by kernel_rfl)
                · have hF := ite_f hF hb
                  refine Wk_skip ?_
                  exact Wk_metP () [2] [2] [] [] [] [] hF (by kernel_rfl)
              · intro v1 hF
                have hF : R_NodeFault_J2 v1 = some r := hF
                unfold R_NodeFault_J2 at hF
                refine Wk_seq ?_
                refine WR [] [2] [2] [] [] [] [] ⟨[(2, .ptr 2 0)], [(2, [.int .i64 0, .int .i64 0])], [], [], []⟩ .nil (by kernel_rfl) ?_
                have hF := some_elim hF
                exact Wk_ret (hfin _ ⟨[], [], [], [], [], [], by first | (rw [← hF]; kernel_rfl) | kernel_rfl⟩)

/- tabularyref.Follower -/
noncomputable def R_Follower (x : Node) : Option (Int × Int × Int × Int × List Entry × Int × Int) :=
  ob (R_CopyLog x.Log) fun x1 =>
  some (x.N, x.ID, x.Term, x.Vote, x1, 0, x.Commit)
theorem R_Follower_ok (x : Node) (r : Int × Int × Int × Int × List Entry × Int × Int) (hF : R_Follower x = some r) : Pe Try.prog 74 ⟨[], [], [], [], []⟩ [.agg (c_Node x)] (.agg [.int .i64 r.1, .int .i64 r.2.1, .int .i64 r.2.2.1, .int .i64 r.2.2.2.1, .row 13 1, .int .i64 r.2.2.2.2.2.1, .int .i64 r.2.2.2.2.2.2, .row 71001 0, .row 71002 0, .row 71003 0]) ⟨[], [], [(13, ⟨31, 2, 1, 0, 0, true, 0, [], (r.2.2.2.2.1.map e_Entry)⟩), (71001, ⟨3, 1, 0, 0, 0, true, 0, [], (([] : List Int).map e_i64)⟩), (71002, ⟨3, 1, 0, 0, 0, true, 0, [], (([] : List Int).map e_i64)⟩), (71003, ⟨3, 1, 0, 0, 0, true, 0, [], (([] : List Int).map e_i64)⟩)], [], []⟩ := by
  refine Pe_of (N := 17) (res := [.cell 2 46]) (ts := [46]) Ty.ok Fn.b74 Try.func74 rfl rfl rfl rfl rfl rfl ?_
  intro Q g hfin
  unfold R_Follower at hF
  refine Wk_seq ?_
  refine WR [] [1, 2] [1, 2] [] [] [] [] ⟨[(1, .ptr 1 0), (2, .ptr 2 0)], [(1, (c_Node x)), (2, [.int .i64 0, .int .i64 0, .int .i64 0, .int .i64 0, .nils, .int .i64 0, .int .i64 0, .nils, .nils, .nils])], [], [], []⟩ .nil (by kernel_rfl) ?_
  refine Wk_seq ?_
  obtain ⟨x1, h0, hF⟩ := ob_elim hF
  refine WD [.callE [] [] [] [] (.row 13 1) ⟨[], [], [(13, ⟨31, 2, 1, 0, 0, true, 0, [], (x1.map e_Entry)⟩)], [], []⟩] [2] [2] [13] [] [] [] ⟨[(2, .ptr 2 0)], [(2, [.int .i64 x.N, .int .i64 x.ID, .int .i64 x.Term, .int .i64 x.Vote, .row 13 1, .int .i64 0, .int .i64 x.Commit, .nils, .nils, .nils])], [(13, ⟨31, 2, 1, 0, 0, true, 0, [], (x1.map e_Entry)⟩)], [], []⟩ (.cons (Pe.ren (R_CopyLog_ok x.Log x1 h0) ⟨[], [(4, 13)], [], []⟩) .nil) (by kernel_rfl) ?_
  have hF := some_elim hF
  refine Wk_nilrowB 2 7 60000 3 1 rfl rfl rfl rfl rfl ?_
  refine Wk_nilrowB 2 8 60001 3 1 rfl rfl rfl rfl rfl ?_
  refine Wk_nilrowB 2 9 60002 3 1 rfl rfl rfl rfl rfl ?_
  refine Wk_ren' ⟨[], [(60000, 71001), (60001, 71002), (60002, 71003)], [], []⟩ rfl ?_
  exact Wk_ret (hfin _ ⟨[13, 71001, 71002, 71003], [], [13, 71001, 71002, 71003], [], [], [], by first | (rw [← hF]; kernel_rfl) | kernel_rfl⟩)

/- tabularyref.Counted -/
noncomputable def R_Counted_J1 (x : Node) (v : Int) : Option Node :=
  some (⟨x.N, x.ID, x.Term, x.Vote, x.Log, x.Role, v, x.Votes, x.Next, x.Have⟩ : Node)
noncomputable def R_Counted_J2 (x : Node) (v1 : Int × Int) (v2 : Int) : Option ((Int × Int) ⊕ Node) :=
  asrt (0 ≤ w64 (v1.2 - 1) ∧ w64 (v1.2 - 1) < (x.Log.length : Int)) <|
  lt (R_Majority v2 x.N) fun x1 =>
  ob (
    if ((decide (((lget x.Log (w64 (v1.2 - 1))).Term) = x.Term)) && x1) = true then
      some v1.2
    else
      some v1.1) fun (v3 : Int) =>
  some (Sum.inl (v3, w64 (v1.2 + 1)))
noncomputable def R_Counted_B2 (x : Node) (v1 : Int × Int) (v4 : Int × Int) : Option ((Int × Int) ⊕ ((Int × Int) ⊕ Node)) :=
  if (decide (v4.2 < (x.Have.length : Int))) = true then
    asrt (0 ≤ v4.2 ∧ v4.2 < (x.Have.length : Int)) <|
    ob (
      if (decide (v1.2 ≤ (lget x.Have v4.2))) = true then
        some (w64 (v4.1 + 1))
      else
        some v4.1) fun (v5 : Int) =>
    some (Sum.inl (v5, w64 (v4.2 + 1)))
  else
    inrO (R_Counted_J2 x v1 v4.1)
noncomputable def R_Counted_L2 (x : Node) (v1 : Int × Int) (v0 : Int × Int) : Option ((Int × Int) ⊕ Node) :=
  loopO (fun y => R_Counted_B2 x v1 y) v0
noncomputable def R_Counted_B1 (x : Node) (v1 : Int × Int) : Option ((Int × Int) ⊕ Node) :=
  if (decide (v1.2 ≤ (x.Log.length : Int))) = true then
    R_Counted_L2 x v1 (0, 0)
  else
    inrO (R_Counted_J1 x v1.1)
noncomputable def R_Counted_L1 (x : Node) (v0 : Int × Int) : Option Node :=
  loopO (fun y => R_Counted_B1 x y) v0
noncomputable def R_Counted (x : Node) : Option Node :=
  R_Counted_L1 x (x.Commit, w64 (x.Commit + 1))
theorem R_Counted_ok (x : Node) (r : Node) (hF : R_Counted x = some r) : Pe Try.prog 76 S.none [.agg (c_Node x)] (.agg (c_Node r)) S.none := by
  refine Pe_of (N := 55) (res := [.cell 2 46]) (ts := [46]) Ty.ok Fn.b76 Try.func76 rfl rfl rfl rfl rfl rfl ?_
  intro Q g hfin
  unfold R_Counted at hF
  refine Wk_seq ?_
  refine WR [] [1, 2] [1, 2] [] [] [] [] ⟨[(1, .ptr 1 0), (2, .ptr 2 0)], [(1, (c_Node x)), (2, [.int .i64 0, .int .i64 0, .int .i64 0, .int .i64 0, .nils, .int .i64 0, .int .i64 0, .nils, .nils, .nils])], [], [], []⟩ .nil (by kernel_rfl) ?_
  refine Wk_seq ?_
  refine WR [] [1, 2, 3] [1, 2] [] [] [] [] ⟨[(1, .ptr 1 0), (2, .ptr 2 0), (3, .int .i64 x.Commit)], [(1, (c_Node x)), (2, [.int .i64 0, .int .i64 0, .int .i64 0, .int .i64 0, .nils, .int .i64 0, .int .i64 0, .nils, .nils, .nils])], [], [], []⟩ .nil (by kernel_rfl) ?_
  refine Wk_seq ?_
  refine Wk_seq ?_
  refine WR [] [1, 2, 3, 4] [1, 2] [] [] [] [] ⟨[(1, .ptr 1 0), (2, .ptr 2 0), (3, .int .i64 x.Commit), (4, .int .i64 (w64 (x.Commit + 1)))], [(1, (c_Node x)), (2, [.int .i64 0, .int .i64 0, .int .i64 0, .int .i64 0, .nils, .int .i64 0, .int .i64 0, .nils, .nils, .nils])], [], [], []⟩ .nil (by kernel_rfl) ?_
  refine Wk_meetP (fun v : Int => (⟨[(1, .ptr 1 0), (2, .ptr 2 0), (3, .int .i64 v)], [(1, (c_Node x)), (2, [.int .i64 0, .int .i64 0, .int .i64 0, .int .i64 0, .nils, .int .i64 0, .int .i64 0, .nils, .nils, .nils])], [], [], []⟩ : S)) (fun v => R_Counted_J1 x v = some r) ?_ ?_
  · refine Wk_block ?_
    unfold R_Counted_L1 at hF
    refine Wk_trim (fs := [1, 2, 3, 4]) (bs := [1, 2]) (rs := []) (ms := []) (aa := []) (nv := []) (t := (fun v1 : Int × Int => (⟨[(1, .ptr 1 0), (2, .ptr 2 0), (3, .int .i64 v1.1), (4, .int .i64 v1.2)], [(1, (c_Node x)), (2, [.int .i64 0, .int .i64 0, .int .i64 0, .int .i64 0, .nils, .int .i64 0, .int .i64 0, .nils, .nils, .nils])], [], [], []⟩ : S)) (x.Commit, w64 (x.Commit + 1))) (by kernel_rfl) ?_
    refine Wk_iter (step := fun y => R_Counted_B1 x y) (r := r) (fun v1 : Int × Int => (⟨[(1, .ptr 1 0), (2, .ptr 2 0), (3, .int .i64 v1.1), (4, .int .i64 v1.2)], [(1, (c_Node x)), (2, [.int .i64 0, .int .i64 0, .int .i64 0, .int .i64 0, .nils, .int .i64 0, .int .i64 0, .nils, .nils, .nils])], [], [], []⟩ : S)) (x.Commit, w64 (x.Commit + 1)) hF ?_
    intro n1 v1 y1 hF ih1 dn1
    have hF : R_Counted_B1 x v1 = some y1 := hF
    unfold R_Counted_B1 at hF
    refine Wk_seq ?_
    refine Wk_seq ?_
    refine WR [.nat (x.Log.length : Int)] [1, 2, 3, 4, 16] [1, 2] [] [] [] [] ⟨[(1, .ptr 1 0), (2, .ptr 2 0), (3, .int .i64 v1.1), (4, .int .i64 v1.2), (16, .bool (decide (v1.2 ≤ (x.Log.length : Int))))], [(1, (c_Node x)), (2, [.int .i64 0, .int .i64 0, .int .i64 0, .int .i64 0, .nils, .int .i64 0, .int .i64 0, .nils, .nils, .nils])], [], [], []⟩ (.cons (len_ok e_Entry x.Log) .nil) (by kernel_rfl) ?_
    refine Wk_split rfl (fun hb => ?_) (fun hb => ?_)
    · have hF := ite_t hF hb
      refine Wk_skip ?_
      refine Wk_seq ?_
      refine Wk_block ?_
      refine Wk_seq ?_
      refine WR [] [1, 2, 3, 4, 5] [1, 2] [] [] [] [] ⟨[(1, .ptr 1 0), (2, .ptr 2 0), (3, .int .i64 v1.1), (4, .int .i64 v1.2), (5, .int .i64 0)], [(1, (c_Node x)), (2, [.int .i64 0, .int .i64 0, .int .i64 0, .int .i64 0, .nils, .int .i64 0, .int .i64 0, .nils, .nils, .nils])], [], [], []⟩ .nil (by kernel_rfl) ?_
      refine Wk_seq ?_
      refine Wk_seq ?_
      refine WR [] [1, 2, 3, 4, 5, 6] [1, 2] [] [] [] [] ⟨[(1, .ptr 1 0), (2, .ptr 2 0), (3, .int .i64 v1.1), (4, .int .i64 v1.2), (5, .int .i64 0), (6, .int .i64 0)], [(1, (c_Node x)), (2, [.int .i64 0, .int .i64 0, .int .i64 0, .int .i64 0, .nils, .int .i64 0, .int .i64 0, .nils, .nils, .nils])], [], [], []⟩ .nil (by kernel_rfl) ?_
      refine Wk_meetP (fun v2 : Int => (⟨[(1, .ptr 1 0), (2, .ptr 2 0), (3, .int .i64 v1.1), (4, .int .i64 v1.2), (5, .int .i64 v2)], [(1, (c_Node x)), (2, [.int .i64 0, .int .i64 0, .int .i64 0, .int .i64 0, .nils, .int .i64 0, .int .i64 0, .nils, .nils, .nils])], [], [], []⟩ : S)) (fun v2 => R_Counted_J2 x v1 v2 = some y1) ?_ ?_
      · refine Wk_block ?_
        unfold R_Counted_L2 at hF
        refine Wk_trim (fs := [1, 2, 3, 4, 5, 6]) (bs := [1, 2]) (rs := []) (ms := []) (aa := []) (nv := []) (t := (fun v4 : Int × Int => (⟨[(1, .ptr 1 0), (2, .ptr 2 0), (3, .int .i64 v1.1), (4, .int .i64 v1.2), (5, .int .i64 v4.1), (6, .int .i64 v4.2)], [(1, (c_Node x)), (2, [.int .i64 0, .int .i64 0, .int .i64 0, .int .i64 0, .nils, .int .i64 0, .int .i64 0, .nils, .nils, .nils])], [], [], []⟩ : S)) (0, 0)) (by kernel_rfl) ?_
        refine Wk_iter (step := fun y => R_Counted_B2 x v1 y) (r := y1) (fun v4 : Int × Int => (⟨[(1, .ptr 1 0), (2, .ptr 2 0), (3, .int .i64 v1.1), (4, .int .i64 v1.2), (5, .int .i64 v4.1), (6, .int .i64 v4.2)], [(1, (c_Node x)), (2, [.int .i64 0, .int .i64 0, .int .i64 0, .int .i64 0, .nils, .int .i64 0, .int .i64 0, .nils, .nils, .nils])], [], [], []⟩ : S)) (0, 0) hF ?_
        intro n2 v4 y2 hF ih2 dn2
        have hF : R_Counted_B2 x v1 v4 = some y2 := hF
        unfold R_Counted_B2 at hF
        refine Wk_seq ?_
        refine Wk_seq ?_
        refine WR [.nat (x.Have.length : Int)] [1, 2, 3, 4, 5, 6, 23] [1, 2] [] [] [] [] ⟨[(1, .ptr 1 0), (2, .ptr 2 0), (3, .int .i64 v1.1), (4, .int .i64 v1.2), (5, .int .i64 v4.1), (6, .int .i64 v4.2), (23, .bool (decide (v4.2 < (x.Have.length : Int))))], [(1, (c_Node x)), (2, [.int .i64 0, .int .i64 0, .int .i64 0, .int .i64 0, .nils, .int .i64 0, .int .i64 0, .nils, .nils, .nils])], [], [], []⟩ (.cons (len_ok e_i64 x.Have) .nil) (by kernel_rfl) ?_
        refine Wk_split rfl (fun hb => ?_) (fun hb => ?_)
        · have hF := ite_t hF hb
          refine Wk_skip ?_
          refine Wk_seq ?_
          refine Wk_block ?_
          refine Wk_seq ?_
          obtain ⟨h2, hF⟩ := asrt_elim hF
          refine WR [.av (e_i64 (lget x.Have v4.2))] [1, 2, 3, 4, 5, 6, 32] [1, 2] [] [] [] [] ⟨[(1, .ptr 1 0), (2, .ptr 2 0), (3, .int .i64 v1.1), (4, .int .i64 v1.2), (5, .int .i64 v4.1), (6, .int .i64 v4.2), (32, .bool (decide (v1.2 ≤ (lget x.Have v4.2))))], [(1, (c_Node x)), (2, [.int .i64 0, .int .i64 0, .int .i64 0, .int .i64 0, .nils, .int .i64 0, .int .i64 0, .nils, .nils, .nils])], [], [], []⟩ (.cons (idx_ok e_i64 h2) .nil) (by kernel_rfl) ?_
          obtain ⟨v5, hv, hF⟩ := ob_elim hF
          refine Wk_meet (⟨[(1, .ptr 1 0), (2, .ptr 2 0), (3, .int .i64 v1.1), (4, .int .i64 v1.2), (5, .int .i64 v5), (6, .int .i64 v4.2)], [(1, (c_Node x)), (2, [.int .i64 0, .int .i64 0, .int .i64 0, .int .i64 0, .nils, .int .i64 0, .int .i64 0, .nils, .nils, .nils])], [], [], []⟩ : S) ?_ ?_
          · have hF := hv
            refine Wk_split rfl (fun hb => ?_) (fun hb => ?_)
            · have hF := ite_t hF hb
              refine WR [] [1, 2, 3, 4, 5, 6] [1, 2] [] [] [] [] ⟨[(1, .ptr 1 0), (2, .ptr 2 0), (3, .int .i64 v1.1), (4, .int .i64 v1.2), (5, .int .i64 (w64 (v4.1 + 1))), (6, .int .i64 v4.2)], [(1, (c_Node x)), (2, [.int .i64 0, .int .i64 0, .int .i64 0, .int .i64 0, .nils, .int .i64 0, .int .i64 0, .nils, .nils, .nils])], [], [], []⟩ .nil (by kernel_rfl) ?_
              exact Wk_met (fs := [1, 2, 3, 4, 5, 6]) (bs := [1, 2]) (rs := []) (ms := []) (aa := []) (nv := []) (by first | (rw [← some_elim hF]; kernel_rfl) | kernel_rfl)
            · have hF := ite_f hF hb
              refine Wk_skip ?_
              exact Wk_met (fs := [1, 2, 3, 4, 5, 6]) (bs := [1, 2]) (rs := []) (ms := []) (aa := []) (nv := []) (by first | (rw [← some_elim hF]; kernel_rfl) | kernel_rfl)
          · refine Wk_blk ?_
            refine WR [] [1, 2, 3, 4, 5, 6] [1, 2] [] [] [] [] ⟨[(1, .ptr 1 0), (2, .ptr 2 0), (3, .int .i64 v1.1), (4, .int .i64 v1.2), (5, .int .i64 v5), (6, .int .i64 (w64 (v4.2 + 1)))], [(1, (c_Node x)), (2, [.int .i64 0, .int .i64 0, .int .i64 0, .int .i64 0, .nils, .int .i64 0, .int .i64 0, .nils, .nils, .nils])], [], [], []⟩ .nil (by kernel_rfl) ?_
            refine Wk_trim (fs := [1, 2, 3, 4, 5, 6]) (bs := [1, 2]) (rs := []) (ms := []) (aa := []) (nv := []) ?_ (ih2 _ (some_elim hF).symm)
            kernel_rfl
        · have hF := ite_f hF hb
          refine Wk_exit rfl ?_
          have hF := inrO_done hF dn2
          exact Wk_metP v4.1 [1, 2, 3, 4, 5] [1, 2] [] [] [] [] hF (by kernel_rfl)
      · intro v2 hF
        have hF : R_Counted_J2 x v1 v2 = some y1 := hF
        unfold R_Counted_J2 at hF
        refine Wk_seq ?_
        obtain ⟨h0, hF⟩ := asrt_elim hF
        obtain ⟨x1, h1, hF⟩ := lt_split hF
        refine WD [.av (e_Entry (lget x.Log (w64 (v1.2 - 1)))), .callB (.bool x1)] [1, 2, 3, 4, 50] [1, 2] [] [] [] [] ⟨[(1, .ptr 1 0), (2, .ptr 2 0), (3, .int .i64 v1.1), (4, .int .i64 v1.2), (50, .bool ((decide (((lget x.Log (w64 (v1.2 - 1))).Term) = x.Term)) && x1))], [(1, (c_Node x)), (2, [.int .i64 0, .int .i64 0, .int .i64 0, .int .i64 0, .nils, .int .i64 0, .int .i64 0, .nils, .nils, .nils])], [], [], []⟩ (.cons (idx_ok e_Entry h0) (.cons (fun (ga0 : (decide (((lget x.Log (w64 (v1.2 - 1))).Term) = x.Term)) = true) => (R_Majority_ok v2 x.N x1 h1)) .nil)) (by kernel_rfl) ?_
        obtain ⟨v3, hv, hF⟩ := ob_elim hF
        refine Wk_meet (⟨[(1, .ptr 1 0), (2, .ptr 2 0), (3, .int .i64 v3), (4, .int .i64 v1.2)], [(1, (c_Node x)), (2, [.int .i64 0, .int .i64 0, .int .i64 0, .int .i64 0, .nils, .int .i64 0, .int .i64 0, .nils, .nils, .nils])], [], [], []⟩ : S) ?_ ?_
        · have hF := hv
          refine Wk_split rfl (fun hb => ?_) (fun hb => ?_)
          · have hF := ite_t hF hb
            refine WR [] [1, 2, 3, 4] [1, 2] [] [] [] [] ⟨[(1, .ptr 1 0), (2, .ptr 2 0), (3, .int .i64 v1.2), (4, .int .i64 v1.2)], [(1, (c_Node x)), (2, [.int .i64 0, .int .i64 0, .int .i64 0, .int .i64 0, .nils, .int .i64 0, .int .i64 0, .nils, .nils, .nils])], [], [], []⟩ .nil (by kernel_rfl) ?_
            exact Wk_met (fs := [1, 2, 3, 4]) (bs := [1, 2]) (rs := []) (ms := []) (aa := []) (nv := []) (by first | (rw [← some_elim hF]; kernel_rfl) | kernel_rfl)
          · have hF := ite_f hF hb
            refine Wk_skip ?_
            exact Wk_met (fs := [1, 2, 3, 4]) (bs := [1, 2]) (rs := []) (ms := []) (aa := []) (nv := []) (by first | (rw [← some_elim hF]; kernel_rfl) | kernel_rfl)
        · refine Wk_blk ?_
          refine WR [] [1, 2, 3, 4] [1, 2] [] [] [] [] ⟨[(1, .ptr 1 0), (2, .ptr 2 0), (3, .int .i64 v3), (4, .int .i64 (w64 (v1.2 + 1)))], [(1, (c_Node x)), (2, [.int .i64 0, .int .i64 0, .int .i64 0, .int .i64 0, .nils, .int .i64 0, .int .i64 0, .nils, .nils, .nils])], [], [], []⟩ .nil (by kernel_rfl) ?_
          refine Wk_trim (fs := [1, 2, 3, 4]) (bs := [1, 2]) (rs := []) (ms := []) (aa := []) (nv := []) ?_ (ih1 _ (some_elim hF).symm)
          kernel_rfl
    · have hF := ite_f hF hb
      refine Wk_exit rfl ?_
      have hF := inrO_done hF dn1
      exact Wk_metP v1.1 [1, 2, 3] [1, 2] [] [] [] [] hF (by kernel_rfl)
  · intro v hF
    have hF : R_Counted_J1 x v = some r := hF
    unfold R_Counted_J1 at hF
    refine Wk_seq ?_
    refine WR [] [1, 2] [1, 2] [] [] [] [] ⟨[(1, .ptr 1 0), (2, .ptr 2 0)], [(1, [.int .i64 x.N, .int .i64 x.ID, .int .i64 x.Term, .int .i64 x.Vote, .sl 2 (x.Log.map e_Entry), .int .i64 x.Role, .int .i64 v, .sl 1 (x.Votes.map e_i64), .sl 1 (x.Next.map e_i64), .sl 1 (x.Have.map e_i64)]), (2, [.int .i64 0, .int .i64 0, .int .i64 0, .int .i64 0, .nils, .int .i64 0, .int .i64 0, .nils, .nils, .nils])], [], [], []⟩ .nil (by kernel_rfl) ?_
    refine Wk_seq ?_
    refine WR [] [2] [2] [] [] [] [] ⟨[(2, .ptr 2 0)], [(2, [.int .i64 x.N, .int .i64 x.ID, .int .i64 x.Term, .int .i64 x.Vote, .sl 2 (x.Log.map e_Entry), .int .i64 x.Role, .int .i64 v, .sl 1 (x.Votes.map e_i64), .sl 1 (x.Next.map e_i64), .sl 1 (x.Have.map e_i64)])], [], [], []⟩ .nil (by kernel_rfl) ?_
    have hF := some_elim hF
    exact Wk_ret (hfin _ ⟨[], [], [], [], [], [], by first | (rw [← hF]; kernel_rfl) | kernel_rfl⟩)

/- tabularyref.Leader -/
noncomputable def R_Leader_J1 (x1 : Int × Int × Int × Int × List Entry × Int × Int) (v : List Int × List Int) : Option Node :=
  ob (R_Counted (⟨x1.1, x1.2.1, x1.2.2.1, x1.2.2.2.1, x1.2.2.2.2.1, 2, x1.2.2.2.2.2.2, ([] : List Int), v.1, v.2⟩ : Node)) fun x2 =>
  some x2
noncomputable def R_Leader_B1 (x1 : Int × Int × Int × Int × List Entry × Int × Int) (v1 : List Int × List Int × Int) : Option ((List Int × List Int × Int) ⊕ Node) :=
  if (decide (v1.2.2 < x1.1)) = true then
    asrt (((v1.1 ++ ([w64 ((x1.2.2.2.2.1.length : Int) + 1)] : List Int)).length : Int) * 8 ≤ 140737488351232) <|
    ob (
      if (decide (v1.2.2 = x1.2.1)) = true then
        asrt (((v1.2.1 ++ ([(x1.2.2.2.2.1.length : Int)] : List Int)).length : Int) * 8 ≤ 140737488351232) <|
        some (v1.2.1 ++ ([(x1.2.2.2.2.1.length : Int)] : List Int))
      else
        asrt (((v1.2.1 ++ ([0] : List Int)).length : Int) * 8 ≤ 140737488351232) <|
        some (v1.2.1 ++ ([0] : List Int))) fun (v2 : List Int) =>
    some (Sum.inl ((v1.1 ++ ([w64 ((x1.2.2.2.2.1.length : Int) + 1)] : List Int)), v2, w64 (v1.2.2 + 1)))
  else
    inrO (R_Leader_J1 x1 (v1.1, v1.2.1))
noncomputable def R_Leader_L1 (x1 : Int × Int × Int × Int × List Entry × Int × Int) (v0 : List Int × List Int × Int) : Option Node :=
  loopO (fun y => R_Leader_B1 x1 y) v0
noncomputable def R_Leader (x : Node) : Option Node :=
  ob (R_Follower x) fun x1 =>
  R_Leader_L1 x1 (([] : List Int), ([] : List Int), 0)
theorem R_Leader_ok (x : Node) (r : Node) (hF : R_Leader x = some r) : Pe Try.prog 75 S.none [.agg (c_Node x)] (.agg (c_Node r)) S.none := by
  refine Pe_of (N := 41) (res := [.cell 2 46]) (ts := [46]) Ty.ok Fn.b75 Try.func75 rfl rfl rfl rfl rfl rfl ?_
  intro Q g hfin
  unfold R_Leader at hF
  refine Wk_seq ?_
  refine WR [] [1, 2] [1, 2] [] [] [] [] ⟨[(1, .ptr 1 0), (2, .ptr 2 0)], [(1, (c_Node x)), (2, [.int .i64 0, .int .i64 0, .int .i64 0, .int .i64 0, .nils, .int .i64 0, .int .i64 0, .nils, .nils, .nils])], [], [], []⟩ .nil (by kernel_rfl) ?_
  refine Wk_seq ?_
  obtain ⟨x1, h0, hF⟩ := ob_elim hF
  refine WR [.callE [] [] [] [] (.agg [.int .i64 x1.1, .int .i64 x1.2.1, .int .i64 x1.2.2.1, .int .i64 x1.2.2.2.1, .row 5 1, .int .i64 x1.2.2.2.2.2.1, .int .i64 x1.2.2.2.2.2.2, .row 20005 0, .row 40005 0, .row 60005 0]) ⟨[], [], [(5, ⟨31, 2, 1, 0, 0, true, 0, [], (x1.2.2.2.2.1.map e_Entry)⟩), (20005, ⟨3, 1, 0, 0, 0, true, 0, [], (([] : List Int).map e_i64)⟩), (40005, ⟨3, 1, 0, 0, 0, true, 0, [], (([] : List Int).map e_i64)⟩), (60005, ⟨3, 1, 0, 0, 0, true, 0, [], (([] : List Int).map e_i64)⟩)], [], []⟩] [1, 2] [1, 2] [5, 20005, 40005, 60005] [] [] [] ⟨[(1, .ptr 1 0), (2, .ptr 2 0)], [(1, [.int .i64 x1.1, .int .i64 x1.2.1, .int .i64 x1.2.2.1, .int .i64 x1.2.2.2.1, .row 5 1, .int .i64 x1.2.2.2.2.2.1, .int .i64 x1.2.2.2.2.2.2, .row 20005 0, .row 40005 0, .row 60005 0]), (2, [.int .i64 0, .int .i64 0, .int .i64 0, .int .i64 0, .nils, .int .i64 0, .int .i64 0, .nils, .nils, .nils])], [(5, ⟨31, 2, 1, 0, 0, true, 0, [], (x1.2.2.2.2.1.map e_Entry)⟩), (20005, ⟨3, 1, 0, 0, 0, true, 0, [], (([] : List Int).map e_i64)⟩), (40005, ⟨3, 1, 0, 0, 0, true, 0, [], (([] : List Int).map e_i64)⟩), (60005, ⟨3, 1, 0, 0, 0, true, 0, [], (([] : List Int).map e_i64)⟩)], [], []⟩ (.cons (Pe.ren (R_Follower_ok x x1 h0) ⟨[], [(13, 5), (71001, 20005), (71002, 40005), (71003, 60005)], [], []⟩) .nil) (by kernel_rfl) ?_
  refine Wk_seq ?_
  refine WR [] [1, 2] [1, 2] [5, 20005, 40005, 60005] [] [] [] ⟨[(1, .ptr 1 0), (2, .ptr 2 0)], [(1, [.int .i64 x1.1, .int .i64 x1.2.1, .int .i64 x1.2.2.1, .int .i64 x1.2.2.2.1, .row 5 1, .int .i64 2, .int .i64 x1.2.2.2.2.2.2, .row 20005 0, .row 40005 0, .row 60005 0]), (2, [.int .i64 0, .int .i64 0, .int .i64 0, .int .i64 0, .nils, .int .i64 0, .int .i64 0, .nils, .nils, .nils])], [(5, ⟨31, 2, 1, 0, 0, true, 0, [], (x1.2.2.2.2.1.map e_Entry)⟩), (20005, ⟨3, 1, 0, 0, 0, true, 0, [], (([] : List Int).map e_i64)⟩), (40005, ⟨3, 1, 0, 0, 0, true, 0, [], (([] : List Int).map e_i64)⟩), (60005, ⟨3, 1, 0, 0, 0, true, 0, [], (([] : List Int).map e_i64)⟩)], [], []⟩ .nil (by kernel_rfl) ?_
  refine Wk_seq ?_
  refine Wk_seq ?_
  refine WR [] [1, 2, 3] [1, 2] [5, 20005, 40005, 60005] [] [] [] ⟨[(1, .ptr 1 0), (2, .ptr 2 0), (3, .int .i64 0)], [(1, [.int .i64 x1.1, .int .i64 x1.2.1, .int .i64 x1.2.2.1, .int .i64 x1.2.2.2.1, .row 5 1, .int .i64 2, .int .i64 x1.2.2.2.2.2.2, .row 20005 0, .row 40005 0, .row 60005 0]), (2, [.int .i64 0, .int .i64 0, .int .i64 0, .int .i64 0, .nils, .int .i64 0, .int .i64 0, .nils, .nils, .nils])], [(5, ⟨31, 2, 1, 0, 0, true, 0, [], (x1.2.2.2.2.1.map e_Entry)⟩), (20005, ⟨3, 1, 0, 0, 0, true, 0, [], (([] : List Int).map e_i64)⟩), (40005, ⟨3, 1, 0, 0, 0, true, 0, [], (([] : List Int).map e_i64)⟩), (60005, ⟨3, 1, 0, 0, 0, true, 0, [], (([] : List Int).map e_i64)⟩)], [], []⟩ .nil (by kernel_rfl) ?_
  refine Wk_meetP (fun v : List Int × List Int => (⟨[(1, .ptr 1 0), (2, .ptr 2 0)], [(1, [.int .i64 x1.1, .int .i64 x1.2.1, .int .i64 x1.2.2.1, .int .i64 x1.2.2.2.1, .row 5 1, .int .i64 2, .int .i64 x1.2.2.2.2.2.2, .row 20005 0, .row 40005 0, .row 60005 0]), (2, [.int .i64 0, .int .i64 0, .int .i64 0, .int .i64 0, .nils, .int .i64 0, .int .i64 0, .nils, .nils, .nils])], [(5, ⟨31, 2, 1, 0, 0, true, 0, [], (x1.2.2.2.2.1.map e_Entry)⟩), (20005, ⟨3, 1, 0, 0, 0, true, 0, [], (([] : List Int).map e_i64)⟩), (40005, ⟨3, 1, 0, 0, 0, true, 0, [], (v.1.map e_i64)⟩), (60005, ⟨3, 1, 0, 0, 0, true, 0, [], (v.2.map e_i64)⟩)], [], []⟩ : S)) (fun v => R_Leader_J1 x1 v = some r) ?_ ?_
  · refine Wk_block ?_
    unfold R_Leader_L1 at hF
    refine Wk_trim (fs := [1, 2, 3]) (bs := [1, 2]) (rs := [5, 20005, 40005, 60005]) (ms := []) (aa := []) (nv := []) (t := (fun v1 : List Int × List Int × Int => (⟨[(1, .ptr 1 0), (2, .ptr 2 0), (3, .int .i64 v1.2.2)], [(1, [.int .i64 x1.1, .int .i64 x1.2.1, .int .i64 x1.2.2.1, .int .i64 x1.2.2.2.1, .row 5 1, .int .i64 2, .int .i64 x1.2.2.2.2.2.2, .row 20005 0, .row 40005 0, .row 60005 0]), (2, [.int .i64 0, .int .i64 0, .int .i64 0, .int .i64 0, .nils, .int .i64 0, .int .i64 0, .nils, .nils, .nils])], [(5, ⟨31, 2, 1, 0, 0, true, 0, [], (x1.2.2.2.2.1.map e_Entry)⟩), (20005, ⟨3, 1, 0, 0, 0, true, 0, [], (([] : List Int).map e_i64)⟩), (40005, ⟨3, 1, 0, 0, 0, true, 0, [], (v1.1.map e_i64)⟩), (60005, ⟨3, 1, 0, 0, 0, true, 0, [], (v1.2.1.map e_i64)⟩)], [], []⟩ : S)) (([] : List Int), ([] : List Int), 0)) (by kernel_rfl) ?_
    refine Wk_iter (step := fun y => R_Leader_B1 x1 y) (r := r) (fun v1 : List Int × List Int × Int => (⟨[(1, .ptr 1 0), (2, .ptr 2 0), (3, .int .i64 v1.2.2)], [(1, [.int .i64 x1.1, .int .i64 x1.2.1, .int .i64 x1.2.2.1, .int .i64 x1.2.2.2.1, .row 5 1, .int .i64 2, .int .i64 x1.2.2.2.2.2.2, .row 20005 0, .row 40005 0, .row 60005 0]), (2, [.int .i64 0, .int .i64 0, .int .i64 0, .int .i64 0, .nils, .int .i64 0, .int .i64 0, .nils, .nils, .nils])], [(5, ⟨31, 2, 1, 0, 0, true, 0, [], (x1.2.2.2.2.1.map e_Entry)⟩), (20005, ⟨3, 1, 0, 0, 0, true, 0, [], (([] : List Int).map e_i64)⟩), (40005, ⟨3, 1, 0, 0, 0, true, 0, [], (v1.1.map e_i64)⟩), (60005, ⟨3, 1, 0, 0, 0, true, 0, [], (v1.2.1.map e_i64)⟩)], [], []⟩ : S)) (([] : List Int), ([] : List Int), 0) hF ?_
    intro n1 v1 y1 hF ih1 dn1
    have hF : R_Leader_B1 x1 v1 = some y1 := hF
    unfold R_Leader_B1 at hF
    refine Wk_seq ?_
    refine Wk_seq ?_
    refine WR [] [1, 2, 3, 10] [1, 2] [5, 20005, 40005, 60005] [] [] [] ⟨[(1, .ptr 1 0), (2, .ptr 2 0), (3, .int .i64 v1.2.2), (10, .bool (decide (v1.2.2 < x1.1)))], [(1, [.int .i64 x1.1, .int .i64 x1.2.1, .int .i64 x1.2.2.1, .int .i64 x1.2.2.2.1, .row 5 1, .int .i64 2, .int .i64 x1.2.2.2.2.2.2, .row 20005 0, .row 40005 0, .row 60005 0]), (2, [.int .i64 0, .int .i64 0, .int .i64 0, .int .i64 0, .nils, .int .i64 0, .int .i64 0, .nils, .nils, .nils])], [(5, ⟨31, 2, 1, 0, 0, true, 0, [], (x1.2.2.2.2.1.map e_Entry)⟩), (20005, ⟨3, 1, 0, 0, 0, true, 0, [], (([] : List Int).map e_i64)⟩), (40005, ⟨3, 1, 0, 0, 0, true, 0, [], (v1.1.map e_i64)⟩), (60005, ⟨3, 1, 0, 0, 0, true, 0, [], (v1.2.1.map e_i64)⟩)], [], []⟩ .nil (by kernel_rfl) ?_
    refine Wk_split rfl (fun hb => ?_) (fun hb => ?_)
    · have hF := ite_t hF hb
      refine Wk_skip ?_
      refine Wk_seq ?_
      refine Wk_block ?_
      refine Wk_seq ?_
      obtain ⟨h2, hF⟩ := asrt_elim hF
      refine WR [.nat (x1.2.2.2.2.1.length : Int), .sealed, .xs ((v1.1 ++ ([w64 ((x1.2.2.2.2.1.length : Int) + 1)] : List Int)).map e_i64)] [1, 2, 3] [1, 2] [5, 20005, 40005, 60005] [] [] [] ⟨[(1, .ptr 1 0), (2, .ptr 2 0), (3, .int .i64 v1.2.2)], [(1, [.int .i64 x1.1, .int .i64 x1.2.1, .int .i64 x1.2.2.1, .int .i64 x1.2.2.2.1, .row 5 1, .int .i64 2, .int .i64 x1.2.2.2.2.2.2, .row 20005 0, .row 40005 1, .row 60005 0]), (2, [.int .i64 0, .int .i64 0, .int .i64 0, .int .i64 0, .nils, .int .i64 0, .int .i64 0, .nils, .nils, .nils])], [(5, ⟨31, 2, 1, 0, 0, true, 0, [], (x1.2.2.2.2.1.map e_Entry)⟩), (20005, ⟨3, 1, 0, 0, 0, true, 0, [], (([] : List Int).map e_i64)⟩), (40005, ⟨3, 1, 1, 0, 0, true, 0, [], ((v1.1 ++ ([w64 ((x1.2.2.2.2.1.length : Int) + 1)] : List Int)).map e_i64)⟩), (60005, ⟨3, 1, 0, 0, 0, true, 0, [], (v1.2.1.map e_i64)⟩)], [], []⟩ (.cons (len_ok e_Entry x1.2.2.2.2.1) (.cons (app_ok e_i64 v1.1 ([w64 ((x1.2.2.2.2.1.length : Int) + 1)] : List Int)) (.cons (appl_ok e_i64 h2) .nil))) (by kernel_rfl) ?_
      refine Wk_seq ?_
      refine WR [] [1, 2, 3, 25] [1, 2] [5, 20005, 40005, 60005] [] [] [] ⟨[(1, .ptr 1 0), (2, .ptr 2 0), (3, .int .i64 v1.2.2), (25, .bool (decide (v1.2.2 = x1.2.1)))], [(1, [.int .i64 x1.1, .int .i64 x1.2.1, .int .i64 x1.2.2.1, .int .i64 x1.2.2.2.1, .row 5 1, .int .i64 2, .int .i64 x1.2.2.2.2.2.2, .row 20005 0, .row 40005 1, .row 60005 0]), (2, [.int .i64 0, .int .i64 0, .int .i64 0, .int .i64 0, .nils, .int .i64 0, .int .i64 0, .nils, .nils, .nils])], [(5, ⟨31, 2, 1, 0, 0, true, 0, [], (x1.2.2.2.2.1.map e_Entry)⟩), (20005, ⟨3, 1, 0, 0, 0, true, 0, [], (([] : List Int).map e_i64)⟩), (40005, ⟨3, 1, 1, 0, 0, true, 0, [], ((v1.1 ++ ([w64 ((x1.2.2.2.2.1.length : Int) + 1)] : List Int)).map e_i64)⟩), (60005, ⟨3, 1, 0, 0, 0, true, 0, [], (v1.2.1.map e_i64)⟩)], [], []⟩ .nil (by kernel_rfl) ?_
      obtain ⟨v2, hv, hF⟩ := ob_elim hF
      refine Wk_meet (⟨[(1, .ptr 1 0), (2, .ptr 2 0), (3, .int .i64 v1.2.2)], [(1, [.int .i64 x1.1, .int .i64 x1.2.1, .int .i64 x1.2.2.1, .int .i64 x1.2.2.2.1, .row 5 1, .int .i64 2, .int .i64 x1.2.2.2.2.2.2, .row 20005 0, .row 40005 1, .row 60005 1]), (2, [.int .i64 0, .int .i64 0, .int .i64 0, .int .i64 0, .nils, .int .i64 0, .int .i64 0, .nils, .nils, .nils])], [(5, ⟨31, 2, 1, 0, 0, true, 0, [], (x1.2.2.2.2.1.map e_Entry)⟩), (20005, ⟨3, 1, 0, 0, 0, true, 0, [], (([] : List Int).map e_i64)⟩), (40005, ⟨3, 1, 1, 0, 0, true, 0, [], ((v1.1 ++ ([w64 ((x1.2.2.2.2.1.length : Int) + 1)] : List Int)).map e_i64)⟩), (60005, ⟨3, 1, 1, 0, 0, true, 0, [], (v2.map e_i64)⟩)], [], []⟩ : S) ?_ ?_
      · have hF := hv
        refine Wk_split rfl (fun hb => ?_) (fun hb => ?_)
        · have hF := ite_t hF hb
          obtain ⟨h3, hF⟩ := asrt_elim hF
          refine WR [.nat (x1.2.2.2.2.1.length : Int), .sealed, .xs ((v1.2.1 ++ ([(x1.2.2.2.2.1.length : Int)] : List Int)).map e_i64)] [1, 2, 3] [1, 2] [5, 20005, 40005, 60005] [] [] [] ⟨[(1, .ptr 1 0), (2, .ptr 2 0), (3, .int .i64 v1.2.2)], [(1, [.int .i64 x1.1, .int .i64 x1.2.1, .int .i64 x1.2.2.1, .int .i64 x1.2.2.2.1, .row 5 1, .int .i64 2, .int .i64 x1.2.2.2.2.2.2, .row 20005 0, .row 40005 1, .row 60005 1]), (2, [.int .i64 0, .int .i64 0, .int .i64 0, .int .i64 0, .nils, .int .i64 0, .int .i64 0, .nils, .nils, .nils])], [(5, ⟨31, 2, 1, 0, 0, true, 0, [], (x1.2.2.2.2.1.map e_Entry)⟩), (20005, ⟨3, 1, 0, 0, 0, true, 0, [], (([] : List Int).map e_i64)⟩), (40005, ⟨3, 1, 1, 0, 0, true, 0, [], ((v1.1 ++ ([w64 ((x1.2.2.2.2.1.length : Int) + 1)] : List Int)).map e_i64)⟩), (60005, ⟨3, 1, 1, 0, 0, true, 0, [], ((v1.2.1 ++ ([(x1.2.2.2.2.1.length : Int)] : List Int)).map e_i64)⟩)], [], []⟩ (.cons (len_ok e_Entry x1.2.2.2.2.1) (.cons (app_ok e_i64 v1.2.1 ([(x1.2.2.2.2.1.length : Int)] : List Int)) (.cons (appl_ok e_i64 h3) .nil))) (by kernel_rfl) ?_
          exact Wk_met (fs := [1, 2, 3]) (bs := [1, 2]) (rs := [5, 20005, 40005, 60005]) (ms := []) (aa := []) (nv := []) (by first | (rw [← some_elim hF]; kernel_rfl) | kernel_rfl)
        · have hF := ite_f hF hb
          obtain ⟨h4, hF⟩ := asrt_elim hF
          refine WR [.sealed, .xs ((v1.2.1 ++ ([0] : List Int)).map e_i64)] [1, 2, 3] [1, 2] [5, 20005, 40005, 60005] [] [] [] ⟨[(1, .ptr 1 0), (2, .ptr 2 0), (3, .int .i64 v1.2.2)], [(1, [.int .i64 x1.1, .int .i64 x1.2.1, .int .i64 x1.2.2.1, .int .i64 x1.2.2.2.1, .row 5 1, .int .i64 2, .int .i64 x1.2.2.2.2.2.2, .row 20005 0, .row 40005 1, .row 60005 1]), (2, [.int .i64 0, .int .i64 0, .int .i64 0, .int .i64 0, .nils, .int .i64 0, .int .i64 0, .nils, .nils, .nils])], [(5, ⟨31, 2, 1, 0, 0, true, 0, [], (x1.2.2.2.2.1.map e_Entry)⟩), (20005, ⟨3, 1, 0, 0, 0, true, 0, [], (([] : List Int).map e_i64)⟩), (40005, ⟨3, 1, 1, 0, 0, true, 0, [], ((v1.1 ++ ([w64 ((x1.2.2.2.2.1.length : Int) + 1)] : List Int)).map e_i64)⟩), (60005, ⟨3, 1, 1, 0, 0, true, 0, [], ((v1.2.1 ++ ([0] : List Int)).map e_i64)⟩)], [], []⟩ (.cons (app_ok e_i64 v1.2.1 ([0] : List Int)) (.cons (appl_ok e_i64 h4) .nil)) (by kernel_rfl) ?_
          exact Wk_met (fs := [1, 2, 3]) (bs := [1, 2]) (rs := [5, 20005, 40005, 60005]) (ms := []) (aa := []) (nv := []) (by first | (rw [← some_elim hF]; kernel_rfl) | kernel_rfl)
      · refine Wk_blk ?_
        refine WR [] [1, 2, 3] [1, 2] [5, 20005, 40005, 60005] [] [] [] ⟨[(1, .ptr 1 0), (2, .ptr 2 0), (3, .int .i64 (w64 (v1.2.2 + 1)))], [(1, [.int .i64 x1.1, .int .i64 x1.2.1, .int .i64 x1.2.2.1, .int .i64 x1.2.2.2.1, .row 5 1, .int .i64 2, .int .i64 x1.2.2.2.2.2.2, .row 20005 0, .row 40005 1, .row 60005 1]), (2, [.int .i64 0, .int .i64 0, .int .i64 0, .int .i64 0, .nils, .int .i64 0, .int .i64 0, .nils, .nils, .nils])], [(5, ⟨31, 2, 1, 0, 0, true, 0, [], (x1.2.2.2.2.1.map e_Entry)⟩), (20005, ⟨3, 1, 0, 0, 0, true, 0, [], (([] : List Int).map e_i64)⟩), (40005, ⟨3, 1, 1, 0, 0, true, 0, [], ((v1.1 ++ ([w64 ((x1.2.2.2.2.1.length : Int) + 1)] : List Int)).map e_i64)⟩), (60005, ⟨3, 1, 1, 0, 0, true, 0, [], (v2.map e_i64)⟩)], [], []⟩ .nil (by kernel_rfl) ?_
        refine Wk_trim (fs := [1, 2, 3]) (bs := [1, 2]) (rs := [5, 20005, 40005, 60005]) (ms := []) (aa := []) (nv := [(40005, ⟨0, true, true, false⟩), (60005, ⟨0, true, true, false⟩)]) ?_ (ih1 _ (some_elim hF).symm)
        kernel_rfl
    · have hF := ite_f hF hb
      refine Wk_exit rfl ?_
      have hF := inrO_done hF dn1
      exact Wk_metP (v1.1, v1.2.1) [1, 2] [1, 2] [5, 20005, 40005, 60005] [] [] [] hF (by kernel_rfl)
  · intro v hF
    have hF : R_Leader_J1 x1 v = some r := hF
    unfold R_Leader_J1 at hF
    refine Wk_seq ?_
    obtain ⟨x2, h1, hF⟩ := ob_elim hF
    refine WR [.call (.agg (c_Node x2))] [2] [2] [] [] [] [] ⟨[(2, .ptr 2 0)], [(2, (c_Node x2))], [], [], []⟩ (.cons (R_Counted_ok (⟨x1.1, x1.2.1, x1.2.2.1, x1.2.2.2.1, x1.2.2.2.2.1, 2, x1.2.2.2.2.2.2, ([] : List Int), v.1, v.2⟩ : Node) x2 h1) .nil) (by kernel_rfl) ?_
    have hF := some_elim hF
    exact Wk_ret (hfin _ ⟨[], [], [], [], [], [], by first | (rw [← hF]; kernel_rfl) | kernel_rfl⟩)

/- tabularyref.StandNode -/
noncomputable def R_StandNode_v1_J1 (x : Node) (v1 : Fault) (x4 : Int × Int × Int × Int × List Entry × Int × Int) (v2 : List Mail) : Option (Node × List Mail × Fault) :=
  ob (
    if (decide (x.N = 1)) = true then
      ob (R_Leader (⟨x4.1, x4.2.1, w64 (x.Term + 1), w64 (x.ID + 1), x4.2.2.2.2.1, 1, x4.2.2.2.2.2.2, ([x.ID] : List Int), ([] : List Int), ([] : List Int)⟩ : Node)) fun x5 =>
      some (x5.N, x5.ID, x5.Term, x5.Vote, x5.Log, x5.Role, x5.Commit, x5.Votes, x5.Next, x5.Have)
    else
      some (x4.1, x4.2.1, w64 (x.Term + 1), w64 (x.ID + 1), x4.2.2.2.2.1, 1, x4.2.2.2.2.2.2, ([x.ID] : List Int), ([] : List Int), ([] : List Int))) fun (v3 : Int × Int × Int × Int × List Entry × Int × Int × List Int × List Int × List Int) =>
  some ((⟨v3.1, v3.2.1, v3.2.2.1, v3.2.2.2.1, v3.2.2.2.2.1, v3.2.2.2.2.2.1, v3.2.2.2.2.2.2.1, v3.2.2.2.2.2.2.2.1, v3.2.2.2.2.2.2.2.2.1, v3.2.2.2.2.2.2.2.2.2⟩ : Node), v2, v1)
noncomputable def R_StandNode_v1_B1 (x : Node) (v1 : Fault) (x4 : Int × Int × Int × Int × List Entry × Int × Int) (v4 : List Mail × Int) : Option ((List Mail × Int) ⊕ (Node × List Mail × Fault)) :=
  if (decide (v4.2 < x.N)) = true then
    ob (
      if (!decide (v4.2 = x.ID)) = true then
        ob (R_LastTerm x.Log) fun x6 =>
        asrt (((v4.1 ++ [(⟨1, x.ID, v4.2, w64 (x.Term + 1), (x.Log.length : Int), x6, 0, ([] : List Entry), false⟩ : Mail)]).length : Int) * 88 ≤ 140737488351232) <|
        lt ((v4.1 ++ [(⟨1, x.ID, v4.2, w64 (x.Term + 1), (x.Log.length : Int), x6, 0, ([] : List Entry), false⟩ : Mail)])) fun (v6 : List Mail) =>
        some v6
      else
        some v4.1) fun (v5 : List Mail) =>
    some (Sum.inl (v5, w64 (v4.2 + 1)))
  else
    inrO (R_StandNode_v1_J1 x v1 x4 v4.1)
noncomputable def R_StandNode_v1_L1 (x : Node) (v1 : Fault) (x4 : Int × Int × Int × Int × List Entry × Int × Int) (v0 : List Mail × Int) : Option (Node × List Mail × Fault) :=
  loopO (fun y => R_StandNode_v1_B1 x v1 x4 y) v0
noncomputable def R_StandNode_v1 (x : Node) : Option (Node × List Mail × Fault) :=
  ob (R_NodeFault x) fun x1 =>
  ob (
    if ((decide (x1.Code = 0)) && (decide (x.Role = 2))) = true then
      lt (R_F 11 0) fun x2 =>
      some x2
    else
      some x1) fun (v : Fault) =>
  ob (
    if ((decide (v.Code = 0)) && (decide (1000000000 ≤ x.Term))) = true then
      lt (R_F 9 0) fun x3 =>
      some x3
    else
      some v) fun (v1 : Fault) =>
  if (!decide (v1.Code = 0)) = true then
    some ((⟨0, 0, 0, 0, ([] : List Entry), 0, 0, ([] : List Int), ([] : List Int), ([] : List Int)⟩ : Node), ([] : List Mail), v1)
  else
    ob (R_Follower x) fun x4 =>
    R_StandNode_v1_L1 x v1 x4 (([] : List Mail), 0)
theorem R_StandNode_v1_ok (x : Node) (r : Node × List Mail × Fault) (hF : R_StandNode_v1 x = some r) : Pe Try.prog 37 S.none [.agg (c_Node x)] (.tup [.agg (c_Node r.1), .sl 9 (r.2.1.map e_Mail), .agg [.int .i64 r.2.2.Code, .int .i64 r.2.2.At]]) S.none := by
  refine Pe_of (N := 82) (res := [.cell 2 46, .tmp 3, .cell 4 26]) (ts := [46, 50, 26]) Ty.ok Fn.b37 Try.func37 rfl rfl rfl rfl rfl rfl ?_
  intro Q g hfin
  unfold R_StandNode_v1 at hF
  refine Wk_seq ?_
  refine WR [] [1, 2, 4] [1, 2, 4] [] [] [] [] ⟨[(1, .ptr 1 0), (2, .ptr 2 0), (4, .ptr 4 0)], [(1, (c_Node x)), (2, [.int .i64 0, .int .i64 0, .int .i64 0, .int .i64 0, .nils, .int .i64 0, .int .i64 0, .nils, .nils, .nils]), (4, [.int .i64 0, .int .i64 0])], [], [], []⟩ .nil (by kernel_rfl) ?_
  refine Wk_seq ?_
  obtain ⟨x1, h0, hF⟩ := ob_elim hF
  refine WR [.callB (.agg [.int .i64 x1.Code, .int .i64 x1.At])] [1, 2, 4, 5] [1, 2, 4, 5] [] [] [] [] ⟨[(1, .ptr 1 0), (2, .ptr 2 0), (4, .ptr 4 0), (5, .ptr 5 0)], [(1, (c_Node x)), (2, [.int .i64 0, .int .i64 0, .int .i64 0, .int .i64 0, .nils, .int .i64 0, .int .i64 0, .nils, .nils, .nils]), (4, [.int .i64 0, .int .i64 0]), (5, [.int .i64 x1.Code, .int .i64 x1.At])], [], [], []⟩ (.cons (R_NodeFault_ok x x1 h0) .nil) (by kernel_rfl) ?_
  refine Wk_seq ?_
  refine Wk_seq ?_
  refine WR [] [1, 2, 4, 5, 18] [1, 2, 4, 5] [] [] [] [] ⟨[(1, .ptr 1 0), (2, .ptr 2 0), (4, .ptr 4 0), (5, .ptr 5 0), (18, .bool ((decide (x1.Code = 0)) && (decide (x.Role = 2))))], [(1, (c_Node x)), (2, [.int .i64 0, .int .i64 0, .int .i64 0, .int .i64 0, .nils, .int .i64 0, .int .i64 0, .nils, .nils, .nils]), (4, [.int .i64 0, .int .i64 0]), (5, [.int .i64 x1.Code, .int .i64 x1.At])], [], [], []⟩ .nil (by kernel_rfl) ?_
  obtain ⟨v, hv, hF⟩ := ob_elim hF
  refine Wk_meet (⟨[(1, .ptr 1 0), (2, .ptr 2 0), (4, .ptr 4 0), (5, .ptr 5 0)], [(1, (c_Node x)), (2, [.int .i64 0, .int .i64 0, .int .i64 0, .int .i64 0, .nils, .int .i64 0, .int .i64 0, .nils, .nils, .nils]), (4, [.int .i64 0, .int .i64 0]), (5, [.int .i64 v.Code, .int .i64 v.At])], [], [], []⟩ : S) ?_ ?_
  · have hF := hv
    refine Wk_split rfl (fun hb => ?_) (fun hb => ?_)
    · have hF := ite_t hF hb
      obtain ⟨x2, h1, hF⟩ := lt_split hF
      refine WR [.callB (.agg [.int .i64 x2.Code, .int .i64 x2.At])] [1, 2, 4, 5] [1, 2, 4, 5] [] [] [] [] ⟨[(1, .ptr 1 0), (2, .ptr 2 0), (4, .ptr 4 0), (5, .ptr 5 0)], [(1, (c_Node x)), (2, [.int .i64 0, .int .i64 0, .int .i64 0, .int .i64 0, .nils, .int .i64 0, .int .i64 0, .nils, .nils, .nils]), (4, [.int .i64 0, .int .i64 0]), (5, [.int .i64 x2.Code, .int .i64 x2.At])], [], [], []⟩ (.cons (R_F_ok 11 0 x2 h1) .nil) (by kernel_rfl) ?_
      exact Wk_met (fs := [1, 2, 4, 5]) (bs := [1, 2, 4, 5]) (rs := []) (ms := []) (aa := []) (nv := []) (by first | (rw [← some_elim hF]; kernel_rfl) | kernel_rfl)
    · have hF := ite_f hF hb
      refine Wk_skip ?_
      exact Wk_met (fs := [1, 2, 4, 5]) (bs := [1, 2, 4, 5]) (rs := []) (ms := []) (aa := []) (nv := []) (by first | (rw [← some_elim hF]; kernel_rfl) | kernel_rfl)
  · refine Wk_seq ?_
    refine Wk_seq ?_
    refine WR [] [1, 2, 4, 5, 27] [1, 2, 4, 5] [] [] [] [] ⟨[(1, .ptr 1 0), (2, .ptr 2 0), (4, .ptr 4 0), (5, .ptr 5 0), (27, .bool ((decide (v.Code = 0)) && (decide (1000000000 ≤ x.Term))))], [(1, (c_Node x)), (2, [.int .i64 0, .int .i64 0, .int .i64 0, .int .i64 0, .nils, .int .i64 0, .int .i64 0, .nils, .nils, .nils]), (4, [.int .i64 0, .int .i64 0]), (5, [.int .i64 v.Code, .int .i64 v.At])], [], [], []⟩ .nil (by kernel_rfl) ?_
    obtain ⟨v1, hv, hF⟩ := ob_elim hF
    refine Wk_meet (⟨[(1, .ptr 1 0), (2, .ptr 2 0), (4, .ptr 4 0), (5, .ptr 5 0)], [(1, (c_Node x)), (2, [.int .i64 0, .int .i64 0, .int .i64 0, .int .i64 0, .nils, .int .i64 0, .int .i64 0, .nils, .nils, .nils]), (4, [.int .i64 0, .int .i64 0]), (5, [.int .i64 v1.Code, .int .i64 v1.At])], [], [], []⟩ : S) ?_ ?_
    · have hF := hv
      refine Wk_split rfl (fun hb => ?_) (fun hb => ?_)
      · have hF := ite_t hF hb
        obtain ⟨x3, h2, hF⟩ := lt_split hF
        refine WR [.callB (.agg [.int .i64 x3.Code, .int .i64 x3.At])] [1, 2, 4, 5] [1, 2, 4, 5] [] [] [] [] ⟨[(1, .ptr 1 0), (2, .ptr 2 0), (4, .ptr 4 0), (5, .ptr 5 0)], [(1, (c_Node x)), (2, [.int .i64 0, .int .i64 0, .int .i64 0, .int .i64 0, .nils, .int .i64 0, .int .i64 0, .nils, .nils, .nils]), (4, [.int .i64 0, .int .i64 0]), (5, [.int .i64 x3.Code, .int .i64 x3.At])], [], [], []⟩ (.cons (R_F_ok 9 0 x3 h2) .nil) (by kernel_rfl) ?_
        exact Wk_met (fs := [1, 2, 4, 5]) (bs := [1, 2, 4, 5]) (rs := []) (ms := []) (aa := []) (nv := []) (by first | (rw [← some_elim hF]; kernel_rfl) | kernel_rfl)
      · have hF := ite_f hF hb
        refine Wk_skip ?_
        exact Wk_met (fs := [1, 2, 4, 5]) (bs := [1, 2, 4, 5]) (rs := []) (ms := []) (aa := []) (nv := []) (by first | (rw [← some_elim hF]; kernel_rfl) | kernel_rfl)
    · refine Wk_seq ?_
      refine Wk_seq ?_
      refine WR [] [1, 2, 4, 5, 31] [1, 2, 4, 5] [] [] [] [] ⟨[(1, .ptr 1 0), (2, .ptr 2 0), (4, .ptr 4 0), (5, .ptr 5 0), (31, .bool (!decide (v1.Code = 0)))], [(1, (c_Node x)), (2, [.int .i64 0, .int .i64 0, .int .i64 0, .int .i64 0, .nils, .int .i64 0, .int .i64 0, .nils, .nils, .nils]), (4, [.int .i64 0, .int .i64 0]), (5, [.int .i64 v1.Code, .int .i64 v1.At])], [], [], []⟩ .nil (by kernel_rfl) ?_
      refine Wk_split rfl (fun hb => ?_) (fun hb => ?_)
      · have hF := ite_t hF hb
        refine Wk_seq ?_
        refine WD [] [2, 3, 4] [2, 4] [] [] [] [] ⟨[(2, .ptr 2 0), (3, .nils), (4, .ptr 4 0)], [(2, [.int .i64 0, .int .i64 0, .int .i64 0, .int .i64 0, .nils, .int .i64 0, .int .i64 0, .nils, .nils, .nils]), (4, [.int .i64 v1.Code, .int .i64 v1.At])], [], [], []⟩ .nil (by kernel_rfl) ?_
        have hF := some_elim hF
        exact Wk_ret (hfin _ ⟨[], [], [], [], [], [], by first | (rw [← hF]; kernel_rfl) | kernel_rfl⟩)
      · have hF := ite_f hF hb
        refine Wk_skip ?_
        refine Wk_seq ?_
        obtain ⟨x4, h3, hF⟩ := ob_elim hF
        refine WR [.callE [] [] [] [] (.agg [.int .i64 x4.1, .int .i64 x4.2.1, .int .i64 x4.2.2.1, .int .i64 x4.2.2.2.1, .row 35 1, .int .i64 x4.2.2.2.2.2.1, .int .i64 x4.2.2.2.2.2.2, .row 20035 0, .row 40035 0, .row 60035 0]) ⟨[], [], [(35, ⟨31, 2, 1, 0, 0, true, 0, [], (x4.2.2.2.2.1.map e_Entry)⟩), (20035, ⟨3, 1, 0, 0, 0, true, 0, [], (([] : List Int).map e_i64)⟩), (40035, ⟨3, 1, 0, 0, 0, true, 0, [], (([] : List Int).map e_i64)⟩), (60035, ⟨3, 1, 0, 0, 0, true, 0, [], (([] : List Int).map e_i64)⟩)], [], []⟩] [1, 2, 4, 5, 6] [1, 2, 4, 5, 6] [35, 20035, 40035, 60035] [] [] [] ⟨[(1, .ptr 1 0), (2, .ptr 2 0), (4, .ptr 4 0), (5, .ptr 5 0), (6, .ptr 6 0)], [(1, (c_Node x)), (2, [.int .i64 0, .int .i64 0, .int .i64 0, .int .i64 0, .nils, .int .i64 0, .int .i64 0, .nils, .nils, .nils]), (4, [.int .i64 0, .int .i64 0]), (5, [.int .i64 v1.Code, .int .i64 v1.At]), (6, [.int .i64 x4.1, .int .i64 x4.2.1, .int .i64 x4.2.2.1, .int .i64 x4.2.2.2.1, .row 35 1, .int .i64 x4.2.2.2.2.2.1, .int .i64 x4.2.2.2.2.2.2, .row 20035 0, .row 40035 0, .row 60035 0])], [(35, ⟨31, 2, 1, 0, 0, true, 0, [], (x4.2.2.2.2.1.map e_Entry)⟩), (20035, ⟨3, 1, 0, 0, 0, true, 0, [], (([] : List Int).map e_i64)⟩), (40035, ⟨3, 1, 0, 0, 0, true, 0, [], (([] : List Int).map e_i64)⟩), (60035, ⟨3, 1, 0, 0, 0, true, 0, [], (([] : List Int).map e_i64)⟩)], [], []⟩ (.cons (Pe.ren (R_Follower_ok x x4 h3) ⟨[], [(13, 35), (71001, 20035), (71002, 40035), (71003, 60035)], [], []⟩) .nil) (by kernel_rfl) ?_
        refine Wk_seq ?_
        refine WR [] [1, 2, 4, 5, 6] [1, 2, 4, 5, 6] [35, 20035, 40035, 60035] [] [] [] ⟨[(1, .ptr 1 0), (2, .ptr 2 0), (4, .ptr 4 0), (5, .ptr 5 0), (6, .ptr 6 0)], [(1, (c_Node x)), (2, [.int .i64 0, .int .i64 0, .int .i64 0, .int .i64 0, .nils, .int .i64 0, .int .i64 0, .nils, .nils, .nils]), (4, [.int .i64 0, .int .i64 0]), (5, [.int .i64 v1.Code, .int .i64 v1.At]), (6, [.int .i64 x4.1, .int .i64 x4.2.1, .int .i64 (w64 (x.Term + 1)), .int .i64 x4.2.2.2.1, .row 35 1, .int .i64 x4.2.2.2.2.2.1, .int .i64 x4.2.2.2.2.2.2, .row 20035 0, .row 40035 0, .row 60035 0])], [(35, ⟨31, 2, 1, 0, 0, true, 0, [], (x4.2.2.2.2.1.map e_Entry)⟩), (20035, ⟨3, 1, 0, 0, 0, true, 0, [], (([] : List Int).map e_i64)⟩), (40035, ⟨3, 1, 0, 0, 0, true, 0, [], (([] : List Int).map e_i64)⟩), (60035, ⟨3, 1, 0, 0, 0, true, 0, [], (([] : List Int).map e_i64)⟩)], [], []⟩ .nil (by kernel_rfl) ?_
        refine Wk_seq ?_
        refine WR [] [1, 2, 4, 5, 6] [1, 2, 4, 5, 6] [35, 20035, 40035, 60035] [] [] [] ⟨[(1, .ptr 1 0), (2, .ptr 2 0), (4, .ptr 4 0), (5, .ptr 5 0), (6, .ptr 6 0)], [(1, (c_Node x)), (2, [.int .i64 0, .int .i64 0, .int .i64 0, .int .i64 0, .nils, .int .i64 0, .int .i64 0, .nils, .nils, .nils]), (4, [.int .i64 0, .int .i64 0]), (5, [.int .i64 v1.Code, .int .i64 v1.At]), (6, [.int .i64 x4.1, .int .i64 x4.2.1, .int .i64 (w64 (x.Term + 1)), .int .i64 (w64 (x.ID + 1)), .row 35 1, .int .i64 x4.2.2.2.2.2.1, .int .i64 x4.2.2.2.2.2.2, .row 20035 0, .row 40035 0, .row 60035 0])], [(35, ⟨31, 2, 1, 0, 0, true, 0, [], (x4.2.2.2.2.1.map e_Entry)⟩), (20035, ⟨3, 1, 0, 0, 0, true, 0, [], (([] : List Int).map e_i64)⟩), (40035, ⟨3, 1, 0, 0, 0, true, 0, [], (([] : List Int).map e_i64)⟩), (60035, ⟨3, 1, 0, 0, 0, true, 0, [], (([] : List Int).map e_i64)⟩)], [], []⟩ .nil (by kernel_rfl) ?_
        refine Wk_seq ?_
        refine WR [] [1, 2, 4, 5, 6] [1, 2, 4, 5, 6] [35, 20035, 40035, 60035] [] [] [] ⟨[(1, .ptr 1 0), (2, .ptr 2 0), (4, .ptr 4 0), (5, .ptr 5 0), (6, .ptr 6 0)], [(1, (c_Node x)), (2, [.int .i64 0, .int .i64 0, .int .i64 0, .int .i64 0, .nils, .int .i64 0, .int .i64 0, .nils, .nils, .nils]), (4, [.int .i64 0, .int .i64 0]), (5, [.int .i64 v1.Code, .int .i64 v1.At]), (6, [.int .i64 x4.1, .int .i64 x4.2.1, .int .i64 (w64 (x.Term + 1)), .int .i64 (w64 (x.ID + 1)), .row 35 1, .int .i64 1, .int .i64 x4.2.2.2.2.2.2, .row 20035 0, .row 40035 0, .row 60035 0])], [(35, ⟨31, 2, 1, 0, 0, true, 0, [], (x4.2.2.2.2.1.map e_Entry)⟩), (20035, ⟨3, 1, 0, 0, 0, true, 0, [], (([] : List Int).map e_i64)⟩), (40035, ⟨3, 1, 0, 0, 0, true, 0, [], (([] : List Int).map e_i64)⟩), (60035, ⟨3, 1, 0, 0, 0, true, 0, [], (([] : List Int).map e_i64)⟩)], [], []⟩ .nil (by kernel_rfl) ?_
        refine Wk_seq ?_
        refine WR [.sealed] [1, 2, 4, 5, 6] [1, 2, 4, 5, 6] [35, 40035, 60035] [] [] [] ⟨[(1, .ptr 1 0), (2, .ptr 2 0), (4, .ptr 4 0), (5, .ptr 5 0), (6, .ptr 6 0)], [(1, (c_Node x)), (2, [.int .i64 0, .int .i64 0, .int .i64 0, .int .i64 0, .nils, .int .i64 0, .int .i64 0, .nils, .nils, .nils]), (4, [.int .i64 0, .int .i64 0]), (5, [.int .i64 v1.Code, .int .i64 v1.At]), (6, [.int .i64 x4.1, .int .i64 x4.2.1, .int .i64 (w64 (x.Term + 1)), .int .i64 (w64 (x.ID + 1)), .row 35 1, .int .i64 1, .int .i64 x4.2.2.2.2.2.2, .sl 1 (([x.ID] : List Int).map e_i64), .row 40035 0, .row 60035 0])], [(35, ⟨31, 2, 1, 0, 0, true, 0, [], (x4.2.2.2.2.1.map e_Entry)⟩), (40035, ⟨3, 1, 0, 0, 0, true, 0, [], (([] : List Int).map e_i64)⟩), (60035, ⟨3, 1, 0, 0, 0, true, 0, [], (([] : List Int).map e_i64)⟩)], [], []⟩ .nil (by kernel_rfl) ?_
        refine Wk_seq ?_
        refine WR [] [1, 2, 4, 5, 6, 7] [1, 2, 4, 5, 6] [35, 40035, 60035] [] [] [] ⟨[(1, .ptr 1 0), (2, .ptr 2 0), (4, .ptr 4 0), (5, .ptr 5 0), (6, .ptr 6 0), (7, .nils)], [(1, (c_Node x)), (2, [.int .i64 0, .int .i64 0, .int .i64 0, .int .i64 0, .nils, .int .i64 0, .int .i64 0, .nils, .nils, .nils]), (4, [.int .i64 0, .int .i64 0]), (5, [.int .i64 v1.Code, .int .i64 v1.At]), (6, [.int .i64 x4.1, .int .i64 x4.2.1, .int .i64 (w64 (x.Term + 1)), .int .i64 (w64 (x.ID + 1)), .row 35 1, .int .i64 1, .int .i64 x4.2.2.2.2.2.2, .sl 1 (([x.ID] : List Int).map e_i64), .row 40035 0, .row 60035 0])], [(35, ⟨31, 2, 1, 0, 0, true, 0, [], (x4.2.2.2.2.1.map e_Entry)⟩), (40035, ⟨3, 1, 0, 0, 0, true, 0, [], (([] : List Int).map e_i64)⟩), (60035, ⟨3, 1, 0, 0, 0, true, 0, [], (([] : List Int).map e_i64)⟩)], [], []⟩ .nil (by kernel_rfl) ?_
        refine Wk_seq ?_
        refine Wk_seq ?_
        refine WR [] [1, 2, 4, 5, 6, 7, 8] [1, 2, 4, 5, 6] [35, 40035, 60035] [] [] [] ⟨[(1, .ptr 1 0), (2, .ptr 2 0), (4, .ptr 4 0), (5, .ptr 5 0), (6, .ptr 6 0), (7, .nils), (8, .int .i64 0)], [(1, (c_Node x)), (2, [.int .i64 0, .int .i64 0, .int .i64 0, .int .i64 0, .nils, .int .i64 0, .int .i64 0, .nils, .nils, .nils]), (4, [.int .i64 0, .int .i64 0]), (5, [.int .i64 v1.Code, .int .i64 v1.At]), (6, [.int .i64 x4.1, .int .i64 x4.2.1, .int .i64 (w64 (x.Term + 1)), .int .i64 (w64 (x.ID + 1)), .row 35 1, .int .i64 1, .int .i64 x4.2.2.2.2.2.2, .sl 1 (([x.ID] : List Int).map e_i64), .row 40035 0, .row 60035 0])], [(35, ⟨31, 2, 1, 0, 0, true, 0, [], (x4.2.2.2.2.1.map e_Entry)⟩), (40035, ⟨3, 1, 0, 0, 0, true, 0, [], (([] : List Int).map e_i64)⟩), (60035, ⟨3, 1, 0, 0, 0, true, 0, [], (([] : List Int).map e_i64)⟩)], [], []⟩ .nil (by kernel_rfl) ?_
        refine Wk_meetP (fun v2 : List Mail => (⟨[(1, .ptr 1 0), (2, .ptr 2 0), (4, .ptr 4 0), (5, .ptr 5 0), (6, .ptr 6 0), (7, .row 73 0)], [(1, (c_Node x)), (2, [.int .i64 0, .int .i64 0, .int .i64 0, .int .i64 0, .nils, .int .i64 0, .int .i64 0, .nils, .nils, .nils]), (4, [.int .i64 0, .int .i64 0]), (5, [.int .i64 v1.Code, .int .i64 v1.At]), (6, [.int .i64 x4.1, .int .i64 x4.2.1, .int .i64 (w64 (x.Term + 1)), .int .i64 (w64 (x.ID + 1)), .row 35 1, .int .i64 1, .int .i64 x4.2.2.2.2.2.2, .sl 1 (([x.ID] : List Int).map e_i64), .row 40035 0, .row 60035 0])], [(35, ⟨31, 2, 1, 0, 0, true, 0, [], (x4.2.2.2.2.1.map e_Entry)⟩), (73, ⟨62, 9, 0, 0, 0, true, 0, [], (v2.map e_Mail)⟩), (40035, ⟨3, 1, 0, 0, 0, true, 0, [], (([] : List Int).map e_i64)⟩), (60035, ⟨3, 1, 0, 0, 0, true, 0, [], (([] : List Int).map e_i64)⟩)], [], []⟩ : S)) (fun v2 => R_StandNode_v1_J1 x v1 x4 v2 = some r) ?_ ?_
        · refine Wk_block ?_
          unfold R_StandNode_v1_L1 at hF
          refine Wk_nilrow 7 60000 62 9 rfl rfl rfl ?_
          refine Wk_trim (fs := [1, 2, 4, 5, 6, 7, 8]) (bs := [1, 2, 4, 5, 6]) (rs := [35, 40035, 60000, 60035]) (ms := []) (aa := []) (nv := []) rfl ?_
          refine Wk_ren' ⟨[], [(60000, 73)], [], []⟩ rfl ?_
          refine Wk_trim (fs := [1, 2, 4, 5, 6, 7, 8]) (bs := [1, 2, 4, 5, 6]) (rs := [35, 73, 40035, 60035]) (ms := []) (aa := []) (nv := []) (t := (fun v4 : List Mail × Int => (⟨[(1, .ptr 1 0), (2, .ptr 2 0), (4, .ptr 4 0), (5, .ptr 5 0), (6, .ptr 6 0), (7, .row 73 0), (8, .int .i64 v4.2)], [(1, (c_Node x)), (2, [.int .i64 0, .int .i64 0, .int .i64 0, .int .i64 0, .nils, .int .i64 0, .int .i64 0, .nils, .nils, .nils]), (4, [.int .i64 0, .int .i64 0]), (5, [.int .i64 v1.Code, .int .i64 v1.At]), (6, [.int .i64 x4.1, .int .i64 x4.2.1, .int .i64 (w64 (x.Term + 1)), .int .i64 (w64 (x.ID + 1)), .row 35 1, .int .i64 1, .int .i64 x4.2.2.2.2.2.2, .sl 1 (([x.ID] : List Int).map e_i64), .row 40035 0, .row 60035 0])], [(35, ⟨31, 2, 1, 0, 0, true, 0, [], (x4.2.2.2.2.1.map e_Entry)⟩), (73, ⟨62, 9, 0, 0, 0, true, 0, [], (v4.1.map e_Mail)⟩), (40035, ⟨3, 1, 0, 0, 0, true, 0, [], (([] : List Int).map e_i64)⟩), (60035, ⟨3, 1, 0, 0, 0, true, 0, [], (([] : List Int).map e_i64)⟩)], [], []⟩ : S)) (([] : List Mail), 0)) (by kernel_rfl) ?_
          refine Wk_iter (step := fun y => R_StandNode_v1_B1 x v1 x4 y) (r := r) (fun v4 : List Mail × Int => (⟨[(1, .ptr 1 0), (2, .ptr 2 0), (4, .ptr 4 0), (5, .ptr 5 0), (6, .ptr 6 0), (7, .row 73 0), (8, .int .i64 v4.2)], [(1, (c_Node x)), (2, [.int .i64 0, .int .i64 0, .int .i64 0, .int .i64 0, .nils, .int .i64 0, .int .i64 0, .nils, .nils, .nils]), (4, [.int .i64 0, .int .i64 0]), (5, [.int .i64 v1.Code, .int .i64 v1.At]), (6, [.int .i64 x4.1, .int .i64 x4.2.1, .int .i64 (w64 (x.Term + 1)), .int .i64 (w64 (x.ID + 1)), .row 35 1, .int .i64 1, .int .i64 x4.2.2.2.2.2.2, .sl 1 (([x.ID] : List Int).map e_i64), .row 40035 0, .row 60035 0])], [(35, ⟨31, 2, 1, 0, 0, true, 0, [], (x4.2.2.2.2.1.map e_Entry)⟩), (73, ⟨62, 9, 0, 0, 0, true, 0, [], (v4.1.map e_Mail)⟩), (40035, ⟨3, 1, 0, 0, 0, true, 0, [], (([] : List Int).map e_i64)⟩), (60035, ⟨3, 1, 0, 0, 0, true, 0, [], (([] : List Int).map e_i64)⟩)], [], []⟩ : S)) (([] : List Mail), 0) hF ?_
          intro n1 v4 y1 hF ih1 dn1
          have hF : R_StandNode_v1_B1 x v1 x4 v4 = some y1 := hF
          unfold R_StandNode_v1_B1 at hF
          refine Wk_seq ?_
          refine Wk_seq ?_
          refine WR [] [1, 2, 4, 5, 6, 7, 8, 52] [1, 2, 4, 5, 6] [35, 73, 40035, 60035] [] [] [] ⟨[(1, .ptr 1 0), (2, .ptr 2 0), (4, .ptr 4 0), (5, .ptr 5 0), (6, .ptr 6 0), (7, .row 73 0), (8, .int .i64 v4.2), (52, .bool (decide (v4.2 < x.N)))], [(1, (c_Node x)), (2, [.int .i64 0, .int .i64 0, .int .i64 0, .int .i64 0, .nils, .int .i64 0, .int .i64 0, .nils, .nils, .nils]), (4, [.int .i64 0, .int .i64 0]), (5, [.int .i64 v1.Code, .int .i64 v1.At]), (6, [.int .i64 x4.1, .int .i64 x4.2.1, .int .i64 (w64 (x.Term + 1)), .int .i64 (w64 (x.ID + 1)), .row 35 1, .int .i64 1, .int .i64 x4.2.2.2.2.2.2, .sl 1 (([x.ID] : List Int).map e_i64), .row 40035 0, .row 60035 0])], [(35, ⟨31, 2, 1, 0, 0, true, 0, [], (x4.2.2.2.2.1.map e_Entry)⟩), (73, ⟨62, 9, 0, 0, 0, true, 0, [], (v4.1.map e_Mail)⟩), (40035, ⟨3, 1, 0, 0, 0, true, 0, [], (([] : List Int).map e_i64)⟩), (60035, ⟨3, 1, 0, 0, 0, true, 0, [], (([] : List Int).map e_i64)⟩)], [], []⟩ .nil (by kernel_rfl) ?_
          refine Wk_split rfl (fun hb => ?_) (fun hb => ?_)
          · have hF := ite_t hF hb
            refine Wk_skip ?_
            refine Wk_seq ?_
            refine Wk_block ?_
            refine Wk_seq ?_
            refine WR [] [1, 2, 4, 5, 6, 7, 8, 58] [1, 2, 4, 5, 6] [35, 73, 40035, 60035] [] [] [] ⟨[(1, .ptr 1 0), (2, .ptr 2 0), (4, .ptr 4 0), (5, .ptr 5 0), (6, .ptr 6 0), (7, .row 73 0), (8, .int .i64 v4.2), (58, .bool (!decide (v4.2 = x.ID)))], [(1, (c_Node x)), (2, [.int .i64 0, .int .i64 0, .int .i64 0, .int .i64 0, .nils, .int .i64 0, .int .i64 0, .nils, .nils, .nils]), (4, [.int .i64 0, .int .i64 0]), (5, [.int .i64 v1.Code, .int .i64 v1.At]), (6, [.int .i64 x4.1, .int .i64 x4.2.1, .int .i64 (w64 (x.Term + 1)), .int .i64 (w64 (x.ID + 1)), .row 35 1, .int .i64 1, .int .i64 x4.2.2.2.2.2.2, .sl 1 (([x.ID] : List Int).map e_i64), .row 40035 0, .row 60035 0])], [(35, ⟨31, 2, 1, 0, 0, true, 0, [], (x4.2.2.2.2.1.map e_Entry)⟩), (73, ⟨62, 9, 0, 0, 0, true, 0, [], (v4.1.map e_Mail)⟩), (40035, ⟨3, 1, 0, 0, 0, true, 0, [], (([] : List Int).map e_i64)⟩), (60035, ⟨3, 1, 0, 0, 0, true, 0, [], (([] : List Int).map e_i64)⟩)], [], []⟩ .nil (by kernel_rfl) ?_
            obtain ⟨v5, hv, hF⟩ := ob_elim hF
            refine Wk_meet (⟨[(1, .ptr 1 0), (2, .ptr 2 0), (4, .ptr 4 0), (5, .ptr 5 0), (6, .ptr 6 0), (7, .row 73 0), (8, .int .i64 v4.2)], [(1, (c_Node x)), (2, [.int .i64 0, .int .i64 0, .int .i64 0, .int .i64 0, .nils, .int .i64 0, .int .i64 0, .nils, .nils, .nils]), (4, [.int .i64 0, .int .i64 0]), (5, [.int .i64 v1.Code, .int .i64 v1.At]), (6, [.int .i64 x4.1, .int .i64 x4.2.1, .int .i64 (w64 (x.Term + 1)), .int .i64 (w64 (x.ID + 1)), .row 35 1, .int .i64 1, .int .i64 x4.2.2.2.2.2.2, .sl 1 (([x.ID] : List Int).map e_i64), .row 40035 0, .row 60035 0])], [(35, ⟨31, 2, 1, 0, 0, true, 0, [], (x4.2.2.2.2.1.map e_Entry)⟩), (73, ⟨62, 9, 0, 0, 0, true, 0, [], (v5.map e_Mail)⟩), (40035, ⟨3, 1, 0, 0, 0, true, 0, [], (([] : List Int).map e_i64)⟩), (60035, ⟨3, 1, 0, 0, 0, true, 0, [], (([] : List Int).map e_i64)⟩)], [], []⟩ : S) ?_ ?_
            · have hF := hv
              refine Wk_split rfl (fun hb => ?_) (fun hb => ?_)
              · have hF := ite_t hF hb
                obtain ⟨x6, h5, hF⟩ := ob_elim hF
                obtain ⟨h6, hF⟩ := asrt_elim hF
                refine WDL ((v4.1 ++ [(⟨1, x.ID, v4.2, w64 (x.Term + 1), (x.Log.length : Int), x6, 0, ([] : List Entry), false⟩ : Mail)])) (fun v6 : List Mail => ⟨[(1, .ptr 1 0), (2, .ptr 2 0), (4, .ptr 4 0), (5, .ptr 5 0), (6, .ptr 6 0), (7, .row 73 1), (8, .int .i64 v4.2)], [(1, (c_Node x)), (2, [.int .i64 0, .int .i64 0, .int .i64 0, .int .i64 0, .nils, .int .i64 0, .int .i64 0, .nils, .nils, .nils]), (4, [.int .i64 0, .int .i64 0]), (5, [.int .i64 v1.Code, .int .i64 v1.At]), (6, [.int .i64 x4.1, .int .i64 x4.2.1, .int .i64 (w64 (x.Term + 1)), .int .i64 (w64 (x.ID + 1)), .row 35 1, .int .i64 1, .int .i64 x4.2.2.2.2.2.2, .sl 1 (([x.ID] : List Int).map e_i64), .row 40035 0, .row 60035 0])], [(35, ⟨31, 2, 1, 0, 0, true, 0, [], (x4.2.2.2.2.1.map e_Entry)⟩), (73, ⟨62, 9, 1, 0, 0, true, 0, [], (v6.map e_Mail)⟩), (40035, ⟨3, 1, 0, 0, 0, true, 0, [], (([] : List Int).map e_i64)⟩), (60035, ⟨3, 1, 0, 0, 0, true, 0, [], (([] : List Int).map e_i64)⟩)], [], []⟩) [.nat (x.Log.length : Int), .callB (.int .i64 x6), .sealed, .xs ((v4.1 ++ [(⟨1, x.ID, v4.2, w64 (x.Term + 1), (x.Log.length : Int), x6, 0, ([] : List Entry), false⟩ : Mail)]).map e_Mail)] [1, 2, 4, 5, 6, 7, 8] [1, 2, 4, 5, 6] [35, 73, 40035, 60035] [] [] [] (.cons (len_ok e_Entry x.Log) (.cons (R_LastTerm_ok x.Log x6 h5) (.cons (app_ok e_Mail v4.1 [(⟨1, x.ID, v4.2, w64 (x.Term + 1), (x.Log.length : Int), x6, 0, ([] : List Entry), false⟩ : Mail)]) (.cons (appl_ok e_Mail h6) .nil)))) (by kernel_rfl) (fun v6 hv => ?_)
                have hF := lt_elim hF hv
                exact Wk_met (fs := [1, 2, 4, 5, 6, 7, 8]) (bs := [1, 2, 4, 5, 6]) (rs := [35, 73, 40035, 60035]) (ms := []) (aa := []) (nv := [(73, ⟨0, true, true, false⟩)]) (by first | (rw [← some_elim hF]; kernel_rfl) | kernel_rfl)
              · have hF := ite_f hF hb
                refine Wk_skip ?_
                exact Wk_met (fs := [1, 2, 4, 5, 6, 7, 8]) (bs := [1, 2, 4, 5, 6]) (rs := [35, 73, 40035, 60035]) (ms := []) (aa := []) (nv := []) (by first | (rw [← some_elim hF]; kernel_rfl) | kernel_rfl)
            · refine Wk_blk ?_
              refine WR [] [1, 2, 4, 5, 6, 7, 8] [1, 2, 4, 5, 6] [35, 73, 40035, 60035] [] [] [] ⟨[(1, .ptr 1 0), (2, .ptr 2 0), (4, .ptr 4 0), (5, .ptr 5 0), (6, .ptr 6 0), (7, .row 73 0), (8, .int .i64 (w64 (v4.2 + 1)))], [(1, (c_Node x)), (2, [.int .i64 0, .int .i64 0, .int .i64 0, .int .i64 0, .nils, .int .i64 0, .int .i64 0, .nils, .nils, .nils]), (4, [.int .i64 0, .int .i64 0]), (5, [.int .i64 v1.Code, .int .i64 v1.At]), (6, [.int .i64 x4.1, .int .i64 x4.2.1, .int .i64 (w64 (x.Term + 1)), .int .i64 (w64 (x.ID + 1)), .row 35 1, .int .i64 1, .int .i64 x4.2.2.2.2.2.2, .sl 1 (([x.ID] : List Int).map e_i64), .row 40035 0, .row 60035 0])], [(35, ⟨31, 2, 1, 0, 0, true, 0, [], (x4.2.2.2.2.1.map e_Entry)⟩), (73, ⟨62, 9, 0, 0, 0, true, 0, [], (v5.map e_Mail)⟩), (40035, ⟨3, 1, 0, 0, 0, true, 0, [], (([] : List Int).map e_i64)⟩), (60035, ⟨3, 1, 0, 0, 0, true, 0, [], (([] : List Int).map e_i64)⟩)], [], []⟩ .nil (by kernel_rfl) ?_
              refine Wk_trim (fs := [1, 2, 4, 5, 6, 7, 8]) (bs := [1, 2, 4, 5, 6]) (rs := [35, 73, 40035, 60035]) (ms := []) (aa := []) (nv := []) ?_ (ih1 _ (some_elim hF).symm)
              kernel_rfl
          · have hF := ite_f hF hb
            refine Wk_exit rfl ?_
            have hF := inrO_done hF dn1
            exact Wk_metP v4.1 [1, 2, 4, 5, 6, 7] [1, 2, 4, 5, 6] [35, 73, 40035, 60035] [] [] [] hF (by kernel_rfl)
        · intro v2 hF
          have hF : R_StandNode_v1_J1 x v1 x4 v2 = some r := hF
          unfold R_StandNode_v1_J1 at hF
          refine Wk_seq ?_
          refine Wk_seq ?_
          refine WR [] [2, 4, 5, 6, 7, 76] [2, 4, 5, 6] [35, 73, 40035, 60035] [] [] [] ⟨[(2, .ptr 2 0), (4, .ptr 4 0), (5, .ptr 5 0), (6, .ptr 6 0), (7, .row 73 0), (76, .bool (decide (x.N = 1)))], [(2, [.int .i64 0, .int .i64 0, .int .i64 0, .int .i64 0, .nils, .int .i64 0, .int .i64 0, .nils, .nils, .nils]), (4, [.int .i64 0, .int .i64 0]), (5, [.int .i64 v1.Code, .int .i64 v1.At]), (6, [.int .i64 x4.1, .int .i64 x4.2.1, .int .i64 (w64 (x.Term + 1)), .int .i64 (w64 (x.ID + 1)), .row 35 1, .int .i64 1, .int .i64 x4.2.2.2.2.2.2, .sl 1 (([x.ID] : List Int).map e_i64), .row 40035 0, .row 60035 0])], [(35, ⟨31, 2, 1, 0, 0, true, 0, [], (x4.2.2.2.2.1.map e_Entry)⟩), (73, ⟨62, 9, 0, 0, 0, true, 0, [], (v2.map e_Mail)⟩), (40035, ⟨3, 1, 0, 0, 0, true, 0, [], (([] : List Int).map e_i64)⟩), (60035, ⟨3, 1, 0, 0, 0, true, 0, [], (([] : List Int).map e_i64)⟩)], [], []⟩ .nil (by kernel_rfl) ?_
          obtain ⟨v3, hv, hF⟩ := ob_elim hF
          refine Wk_meet (⟨[(2, .ptr 2 0), (4, .ptr 4 0), (5, .ptr 5 0), (6, .ptr 6 0), (7, .row 73 0)], [(2, [.int .i64 0, .int .i64 0, .int .i64 0, .int .i64 0, .nils, .int .i64 0, .int .i64 0, .nils, .nils, .nils]), (4, [.int .i64 0, .int .i64 0]), (5, [.int .i64 v1.Code, .int .i64 v1.At]), (6, [.int .i64 v3.1, .int .i64 v3.2.1, .int .i64 v3.2.2.1, .int .i64 v3.2.2.2.1, .sl 2 (v3.2.2.2.2.1.map e_Entry), .int .i64 v3.2.2.2.2.2.1, .int .i64 v3.2.2.2.2.2.2.1, .sl 1 (v3.2.2.2.2.2.2.2.1.map e_i64), .sl 1 (v3.2.2.2.2.2.2.2.2.1.map e_i64), .sl 1 (v3.2.2.2.2.2.2.2.2.2.map e_i64)])], [(73, ⟨62, 9, 0, 0, 0, true, 0, [], (v2.map e_Mail)⟩)], [], []⟩ : S) ?_ ?_
          · have hF := hv
            refine Wk_split rfl (fun hb => ?_) (fun hb => ?_)
            · have hF := ite_t hF hb
              obtain ⟨x5, h4, hF⟩ := ob_elim hF
              refine WR [.call (.agg (c_Node x5))] [2, 4, 5, 6, 7] [2, 4, 5, 6] [73] [] [] [] ⟨[(2, .ptr 2 0), (4, .ptr 4 0), (5, .ptr 5 0), (6, .ptr 6 0), (7, .row 73 0)], [(2, [.int .i64 0, .int .i64 0, .int .i64 0, .int .i64 0, .nils, .int .i64 0, .int .i64 0, .nils, .nils, .nils]), (4, [.int .i64 0, .int .i64 0]), (5, [.int .i64 v1.Code, .int .i64 v1.At]), (6, (c_Node x5))], [(73, ⟨62, 9, 0, 0, 0, true, 0, [], (v2.map e_Mail)⟩)], [], []⟩ (.cons (R_Leader_ok (⟨x4.1, x4.2.1, w64 (x.Term + 1), w64 (x.ID + 1), x4.2.2.2.2.1, 1, x4.2.2.2.2.2.2, ([x.ID] : List Int), ([] : List Int), ([] : List Int)⟩ : Node) x5 h4) .nil) (by kernel_rfl) ?_
              exact Wk_met (fs := [2, 4, 5, 6, 7]) (bs := [2, 4, 5, 6]) (rs := [73]) (ms := []) (aa := []) (nv := []) (by first | (rw [← some_elim hF]; kernel_rfl) | kernel_rfl)
            · have hF := ite_f hF hb
              refine Wk_skip ?_
              refine Wk_sealBX [] 6 rfl rfl ?_
              exact Wk_met (fs := [2, 4, 5, 6, 7]) (bs := [2, 4, 5, 6]) (rs := [73]) (ms := []) (aa := []) (nv := []) (by first | (rw [← some_elim hF]; kernel_rfl) | kernel_rfl)
          · refine Wk_seq ?_
            refine WD [] [2, 3, 4] [2, 4] [73] [] [] [] ⟨[(2, .ptr 2 0), (3, .row 73 0), (4, .ptr 4 0)], [(2, [.int .i64 v3.1, .int .i64 v3.2.1, .int .i64 v3.2.2.1, .int .i64 v3.2.2.2.1, .sl 2 (v3.2.2.2.2.1.map e_Entry), .int .i64 v3.2.2.2.2.2.1, .int .i64 v3.2.2.2.2.2.2.1, .sl 1 (v3.2.2.2.2.2.2.2.1.map e_i64), .sl 1 (v3.2.2.2.2.2.2.2.2.1.map e_i64), .sl 1 (v3.2.2.2.2.2.2.2.2.2.map e_i64)]), (4, [.int .i64 v1.Code, .int .i64 v1.At])], [(73, ⟨62, 9, 0, 0, 0, true, 0, [], (v2.map e_Mail)⟩)], [], []⟩ .nil (by kernel_rfl) ?_
            have hF := some_elim hF
            exact Wk_ret (hfin _ ⟨[], [], [], [], [], [], by first | (rw [← hF]; kernel_rfl) | kernel_rfl⟩)

/- tabularyref.ProposeNode -/
noncomputable def R_ProposeNode (x : Node) (text : List UInt8) : Option (Node × Fault) :=
  ob (R_NodeFault x) fun x1 =>
  ob (
    if ((decide (x1.Code = 0)) && (!decide (x.Role = 2))) = true then
      lt (R_F 11 0) fun x2 =>
      some x2
    else
      some x1) fun (v : Fault) =>
  ob (
    if ((decide (v.Code = 0)) && (decide (200 < (text.length : Int)))) = true then
      lt (R_F 8 0) fun x3 =>
      some x3
    else
      some v) fun (v1 : Fault) =>
  ob (
    if ((decide (v1.Code = 0)) && (decide (100 ≤ (x.Log.length : Int)))) = true then
      lt (R_F 2 0) fun x4 =>
      some x4
    else
      some v1) fun (v2 : Fault) =>
  if (!decide (v2.Code = 0)) = true then
    some ((⟨0, 0, 0, 0, ([] : List Entry), 0, 0, ([] : List Int), ([] : List Int), ([] : List Int)⟩ : Node), v2)
  else
    ob (R_CopyNode x) fun x5 =>
    asrt (((x5.2.2.2.2.1 ++ [(⟨x.Term, text⟩ : Entry)]).length : Int) * 24 ≤ 140737488351232) <|
    asrt (0 ≤ x.ID ∧ x.ID < (x5.2.2.2.2.2.2.2.2.2.length : Int)) <|
    asrt (0 ≤ x.ID ∧ x.ID < (x5.2.2.2.2.2.2.2.2.2.length : Int)) <|
    lt ((lset x5.2.2.2.2.2.2.2.2.2 x.ID ((x5.2.2.2.2.1 ++ [(⟨x.Term, text⟩ : Entry)]).length : Int))) fun (v3 : List Int) =>
    asrt (0 ≤ x.ID ∧ x.ID < (x5.2.2.2.2.2.2.2.2.1.length : Int)) <|
    asrt (0 ≤ x.ID ∧ x.ID < (x5.2.2.2.2.2.2.2.2.1.length : Int)) <|
    lt ((lset x5.2.2.2.2.2.2.2.2.1 x.ID (w64 (((x5.2.2.2.2.1 ++ [(⟨x.Term, text⟩ : Entry)]).length : Int) + 1)))) fun (v4 : List Int) =>
    ob (R_Counted (⟨x5.1, x5.2.1, x5.2.2.1, x5.2.2.2.1, (x5.2.2.2.2.1 ++ [(⟨x.Term, text⟩ : Entry)]), x5.2.2.2.2.2.1, x5.2.2.2.2.2.2.1, x5.2.2.2.2.2.2.2.1, v4, v3⟩ : Node)) fun x6 =>
    some (x6, v2)
theorem R_ProposeNode_ok (x : Node) (text : List UInt8) (r : Node × Fault) (hF : R_ProposeNode x text = some r) : Pe Try.prog 38 S.none [.agg (c_Node x), .str text] (.tup [.agg (c_Node r.1), .agg [.int .i64 r.2.Code, .int .i64 r.2.At]]) S.none := by
  refine Pe_of (N := 74) (res := [.cell 4 46, .cell 5 26]) (ts := [46, 26]) Ty.ok Fn.b38 Try.func38 rfl rfl rfl rfl rfl rfl ?_
  intro Q g hfin
  unfold R_ProposeNode at hF
  refine Wk_seq ?_
  refine WR [] [1, 2, 4, 5] [2, 4, 5] [] [] [] [] ⟨[(1, .str text), (2, .ptr 2 0), (4, .ptr 4 0), (5, .ptr 5 0)], [(2, (c_Node x)), (4, [.int .i64 0, .int .i64 0, .int .i64 0, .int .i64 0, .nils, .int .i64 0, .int .i64 0, .nils, .nils, .nils]), (5, [.int .i64 0, .int .i64 0])], [], [], []⟩ .nil (by kernel_rfl) ?_
  refine Wk_seq ?_
  obtain ⟨x1, h0, hF⟩ := ob_elim hF
  refine WR [.callB (.agg [.int .i64 x1.Code, .int .i64 x1.At])] [1, 2, 4, 5, 6] [2, 4, 5, 6] [] [] [] [] ⟨[(1, .str text), (2, .ptr 2 0), (4, .ptr 4 0), (5, .ptr 5 0), (6, .ptr 6 0)], [(2, (c_Node x)), (4, [.int .i64 0, .int .i64 0, .int .i64 0, .int .i64 0, .nils, .int .i64 0, .int .i64 0, .nils, .nils, .nils]), (5, [.int .i64 0, .int .i64 0]), (6, [.int .i64 x1.Code, .int .i64 x1.At])], [], [], []⟩ (.cons (R_NodeFault_ok x x1 h0) .nil) (by kernel_rfl) ?_
  refine Wk_seq ?_
  refine Wk_seq ?_
  refine WR [] [1, 2, 4, 5, 6, 17] [2, 4, 5, 6] [] [] [] [] ⟨[(1, .str text), (2, .ptr 2 0), (4, .ptr 4 0), (5, .ptr 5 0), (6, .ptr 6 0), (17, .bool ((decide (x1.Code = 0)) && (!decide (x.Role = 2))))], [(2, (c_Node x)), (4, [.int .i64 0, .int .i64 0, .int .i64 0, .int .i64 0, .nils, .int .i64 0, .int .i64 0, .nils, .nils, .nils]), (5, [.int .i64 0, .int .i64 0]), (6, [.int .i64 x1.Code, .int .i64 x1.At])], [], [], []⟩ .nil (by kernel_rfl) ?_
  obtain ⟨v, hv, hF⟩ := ob_elim hF
  refine Wk_meet (⟨[(1, .str text), (2, .ptr 2 0), (4, .ptr 4 0), (5, .ptr 5 0), (6, .ptr 6 0)], [(2, (c_Node x)), (4, [.int .i64 0, .int .i64 0, .int .i64 0, .int .i64 0, .nils, .int .i64 0, .int .i64 0, .nils, .nils, .nils]), (5, [.int .i64 0, .int .i64 0]), (6, [.int .i64 v.Code, .int .i64 v.At])], [], [], []⟩ : S) ?_ ?_
  · have hF := hv
    refine Wk_split rfl (fun hb => ?_) (fun hb => ?_)
    · have hF := ite_t hF hb
      obtain ⟨x2, h1, hF⟩ := lt_split hF
      refine WR [.callB (.agg [.int .i64 x2.Code, .int .i64 x2.At])] [1, 2, 4, 5, 6] [2, 4, 5, 6] [] [] [] [] ⟨[(1, .str text), (2, .ptr 2 0), (4, .ptr 4 0), (5, .ptr 5 0), (6, .ptr 6 0)], [(2, (c_Node x)), (4, [.int .i64 0, .int .i64 0, .int .i64 0, .int .i64 0, .nils, .int .i64 0, .int .i64 0, .nils, .nils, .nils]), (5, [.int .i64 0, .int .i64 0]), (6, [.int .i64 x2.Code, .int .i64 x2.At])], [], [], []⟩ (.cons (R_F_ok 11 0 x2 h1) .nil) (by kernel_rfl) ?_
      exact Wk_met (fs := [1, 2, 4, 5, 6]) (bs := [2, 4, 5, 6]) (rs := []) (ms := []) (aa := []) (nv := []) (by first | (rw [← some_elim hF]; kernel_rfl) | kernel_rfl)
    · have hF := ite_f hF hb
      refine Wk_skip ?_
      exact Wk_met (fs := [1, 2, 4, 5, 6]) (bs := [2, 4, 5, 6]) (rs := []) (ms := []) (aa := []) (nv := []) (by first | (rw [← some_elim hF]; kernel_rfl) | kernel_rfl)
  · refine Wk_seq ?_
    refine Wk_seq ?_
    refine WR [] [1, 2, 4, 5, 6, 26] [2, 4, 5, 6] [] [] [] [] ⟨[(1, .str text), (2, .ptr 2 0), (4, .ptr 4 0), (5, .ptr 5 0), (6, .ptr 6 0), (26, .bool ((decide (v.Code = 0)) && (decide (200 < (text.length : Int)))))], [(2, (c_Node x)), (4, [.int .i64 0, .int .i64 0, .int .i64 0, .int .i64 0, .nils, .int .i64 0, .int .i64 0, .nils, .nils, .nils]), (5, [.int .i64 0, .int .i64 0]), (6, [.int .i64 v.Code, .int .i64 v.At])], [], [], []⟩ .nil (by kernel_rfl) ?_
    obtain ⟨v1, hv, hF⟩ := ob_elim hF
    refine Wk_meet (⟨[(1, .str text), (2, .ptr 2 0), (4, .ptr 4 0), (5, .ptr 5 0), (6, .ptr 6 0)], [(2, (c_Node x)), (4, [.int .i64 0, .int .i64 0, .int .i64 0, .int .i64 0, .nils, .int .i64 0, .int .i64 0, .nils, .nils, .nils]), (5, [.int .i64 0, .int .i64 0]), (6, [.int .i64 v1.Code, .int .i64 v1.At])], [], [], []⟩ : S) ?_ ?_
    · have hF := hv
      refine Wk_split rfl (fun hb => ?_) (fun hb => ?_)
      · have hF := ite_t hF hb
        obtain ⟨x3, h2, hF⟩ := lt_split hF
        refine WR [.callB (.agg [.int .i64 x3.Code, .int .i64 x3.At])] [1, 2, 4, 5, 6] [2, 4, 5, 6] [] [] [] [] ⟨[(1, .str text), (2, .ptr 2 0), (4, .ptr 4 0), (5, .ptr 5 0), (6, .ptr 6 0)], [(2, (c_Node x)), (4, [.int .i64 0, .int .i64 0, .int .i64 0, .int .i64 0, .nils, .int .i64 0, .int .i64 0, .nils, .nils, .nils]), (5, [.int .i64 0, .int .i64 0]), (6, [.int .i64 x3.Code, .int .i64 x3.At])], [], [], []⟩ (.cons (R_F_ok 8 0 x3 h2) .nil) (by kernel_rfl) ?_
        exact Wk_met (fs := [1, 2, 4, 5, 6]) (bs := [2, 4, 5, 6]) (rs := []) (ms := []) (aa := []) (nv := []) (by first | (rw [← some_elim hF]; kernel_rfl) | kernel_rfl)
      · have hF := ite_f hF hb
        refine Wk_skip ?_
        exact Wk_met (fs := [1, 2, 4, 5, 6]) (bs := [2, 4, 5, 6]) (rs := []) (ms := []) (aa := []) (nv := []) (by first | (rw [← some_elim hF]; kernel_rfl) | kernel_rfl)
    · refine Wk_seq ?_
      refine Wk_seq ?_
      refine WR [.nat (x.Log.length : Int)] [1, 2, 4, 5, 6, 36] [2, 4, 5, 6] [] [] [] [] ⟨[(1, .str text), (2, .ptr 2 0), (4, .ptr 4 0), (5, .ptr 5 0), (6, .ptr 6 0), (36, .bool ((decide (v1.Code = 0)) && (decide (100 ≤ (x.Log.length : Int)))))], [(2, (c_Node x)), (4, [.int .i64 0, .int .i64 0, .int .i64 0, .int .i64 0, .nils, .int .i64 0, .int .i64 0, .nils, .nils, .nils]), (5, [.int .i64 0, .int .i64 0]), (6, [.int .i64 v1.Code, .int .i64 v1.At])], [], [], []⟩ (.cons (fun (_ : (decide (v1.Code = 0)) = true) => (len_ok e_Entry x.Log)) .nil) (by kernel_rfl) ?_
      obtain ⟨v2, hv, hF⟩ := ob_elim hF
      refine Wk_meet (⟨[(1, .str text), (2, .ptr 2 0), (4, .ptr 4 0), (5, .ptr 5 0), (6, .ptr 6 0)], [(2, (c_Node x)), (4, [.int .i64 0, .int .i64 0, .int .i64 0, .int .i64 0, .nils, .int .i64 0, .int .i64 0, .nils, .nils, .nils]), (5, [.int .i64 0, .int .i64 0]), (6, [.int .i64 v2.Code, .int .i64 v2.At])], [], [], []⟩ : S) ?_ ?_
      · have hF := hv
        refine Wk_split rfl (fun hb => ?_) (fun hb => ?_)
        · have hF := ite_t hF hb
          obtain ⟨x4, h3, hF⟩ := lt_split hF
          refine WR [.callB (.agg [.int .i64 x4.Code, .int .i64 x4.At])] [1, 2, 4, 5, 6] [2, 4, 5, 6] [] [] [] [] ⟨[(1, .str text), (2, .ptr 2 0), (4, .ptr 4 0), (5, .ptr 5 0), (6, .ptr 6 0)], [(2, (c_Node x)), (4, [.int .i64 0, .int .i64 0, .int .i64 0, .int .i64 0, .nils, .int .i64 0, .int .i64 0, .nils, .nils, .nils]), (5, [.int .i64 0, .int .i64 0]), (6, [.int .i64 x4.Code, .int .i64 x4.At])], [], [], []⟩ (.cons (R_F_ok 2 0 x4 h3) .nil) (by kernel_rfl) ?_
          exact Wk_met (fs := [1, 2, 4, 5, 6]) (bs := [2, 4, 5, 6]) (rs := []) (ms := []) (aa := []) (nv := []) (by first | (rw [← some_elim hF]; kernel_rfl) | kernel_rfl)
        · have hF := ite_f hF hb
          refine Wk_skip ?_
          exact Wk_met (fs := [1, 2, 4, 5, 6]) (bs := [2, 4, 5, 6]) (rs := []) (ms := []) (aa := []) (nv := []) (by first | (rw [← some_elim hF]; kernel_rfl) | kernel_rfl)
      · refine Wk_seq ?_
        refine Wk_seq ?_
        refine WR [] [1, 2, 4, 5, 6, 40] [2, 4, 5, 6] [] [] [] [] ⟨[(1, .str text), (2, .ptr 2 0), (4, .ptr 4 0), (5, .ptr 5 0), (6, .ptr 6 0), (40, .bool (!decide (v2.Code = 0)))], [(2, (c_Node x)), (4, [.int .i64 0, .int .i64 0, .int .i64 0, .int .i64 0, .nils, .int .i64 0, .int .i64 0, .nils, .nils, .nils]), (5, [.int .i64 0, .int .i64 0]), (6, [.int .i64 v2.Code, .int .i64 v2.At])], [], [], []⟩ .nil (by kernel_rfl) ?_
        refine Wk_split rfl (fun hb => ?_) (fun hb => ?_)
        · have hF := ite_t hF hb
          refine Wk_seq ?_
          refine WD [] [4, 5] [4, 5] [] [] [] [] ⟨[(4, .ptr 4 0), (5, .ptr 5 0)], [(4, [.int .i64 0, .int .i64 0, .int .i64 0, .int .i64 0, .nils, .int .i64 0, .int .i64 0, .nils, .nils, .nils]), (5, [.int .i64 v2.Code, .int .i64 v2.At])], [], [], []⟩ .nil (by kernel_rfl) ?_
          have hF := some_elim hF
          exact Wk_ret (hfin _ ⟨[], [], [], [], [], [], by first | (rw [← hF]; kernel_rfl) | kernel_rfl⟩)
        · have hF := ite_f hF hb
          refine Wk_skip ?_
          refine Wk_seq ?_
          obtain ⟨x5, h4, hF⟩ := ob_elim hF
          refine WR [.callE [] [] [] [] (.agg [.int .i64 x5.1, .int .i64 x5.2.1, .int .i64 x5.2.2.1, .int .i64 x5.2.2.2.1, .row 44 1, .int .i64 x5.2.2.2.2.2.1, .int .i64 x5.2.2.2.2.2.2.1, .row 20044 1, .row 40044 1, .row 60044 1]) ⟨[], [], [(44, ⟨31, 2, 1, 0, 0, true, 0, [], (x5.2.2.2.2.1.map e_Entry)⟩), (20044, ⟨3, 1, 1, 0, 0, true, 0, [], (x5.2.2.2.2.2.2.2.1.map e_i64)⟩), (40044, ⟨3, 1, 1, 0, 0, true, 0, [], (x5.2.2.2.2.2.2.2.2.1.map e_i64)⟩), (60044, ⟨3, 1, 1, 0, 0, true, 0, [], (x5.2.2.2.2.2.2.2.2.2.map e_i64)⟩)], [], []⟩] [1, 2, 4, 5, 6, 7] [2, 4, 5, 6, 7] [44, 20044, 40044, 60044] [] [] [] ⟨[(1, .str text), (2, .ptr 2 0), (4, .ptr 4 0), (5, .ptr 5 0), (6, .ptr 6 0), (7, .ptr 7 0)], [(2, (c_Node x)), (4, [.int .i64 0, .int .i64 0, .int .i64 0, .int .i64 0, .nils, .int .i64 0, .int .i64 0, .nils, .nils, .nils]), (5, [.int .i64 0, .int .i64 0]), (6, [.int .i64 v2.Code, .int .i64 v2.At]), (7, [.int .i64 x5.1, .int .i64 x5.2.1, .int .i64 x5.2.2.1, .int .i64 x5.2.2.2.1, .row 44 1, .int .i64 x5.2.2.2.2.2.1, .int .i64 x5.2.2.2.2.2.2.1, .row 20044 1, .row 40044 1, .row 60044 1])], [(44, ⟨31, 2, 1, 0, 0, true, 0, [], (x5.2.2.2.2.1.map e_Entry)⟩), (20044, ⟨3, 1, 1, 0, 0, true, 0, [], (x5.2.2.2.2.2.2.2.1.map e_i64)⟩), (40044, ⟨3, 1, 1, 0, 0, true, 0, [], (x5.2.2.2.2.2.2.2.2.1.map e_i64)⟩), (60044, ⟨3, 1, 1, 0, 0, true, 0, [], (x5.2.2.2.2.2.2.2.2.2.map e_i64)⟩)], [], []⟩ (.cons (Pe.ren (R_CopyNode_ok x x5 h4) ⟨[], [(5, 44), (9, 20044), (13, 40044), (17, 60044)], [], []⟩) .nil) (by kernel_rfl) ?_
          refine Wk_seq ?_
          obtain ⟨h5, hF⟩ := asrt_elim hF
          refine WR [.sealed, .xs ((x5.2.2.2.2.1 ++ [(⟨x.Term, text⟩ : Entry)]).map e_Entry)] [2, 4, 5, 6, 7] [2, 4, 5, 6, 7] [44, 20044, 40044, 60044] [] [] [] ⟨[(2, .ptr 2 0), (4, .ptr 4 0), (5, .ptr 5 0), (6, .ptr 6 0), (7, .ptr 7 0)], [(2, (c_Node x)), (4, [.int .i64 0, .int .i64 0, .int .i64 0, .int .i64 0, .nils, .int .i64 0, .int .i64 0, .nils, .nils, .nils]), (5, [.int .i64 0, .int .i64 0]), (6, [.int .i64 v2.Code, .int .i64 v2.At]), (7, [.int .i64 x5.1, .int .i64 x5.2.1, .int .i64 x5.2.2.1, .int .i64 x5.2.2.2.1, .row 44 2, .int .i64 x5.2.2.2.2.2.1, .int .i64 x5.2.2.2.2.2.2.1, .row 20044 1, .row 40044 1, .row 60044 1])], [(44, ⟨31, 2, 2, 0, 0, true, 0, [], ((x5.2.2.2.2.1 ++ [(⟨x.Term, text⟩ : Entry)]).map e_Entry)⟩), (20044, ⟨3, 1, 1, 0, 0, true, 0, [], (x5.2.2.2.2.2.2.2.1.map e_i64)⟩), (40044, ⟨3, 1, 1, 0, 0, true, 0, [], (x5.2.2.2.2.2.2.2.2.1.map e_i64)⟩), (60044, ⟨3, 1, 1, 0, 0, true, 0, [], (x5.2.2.2.2.2.2.2.2.2.map e_i64)⟩)], [], []⟩ (.cons (app_ok e_Entry x5.2.2.2.2.1 [(⟨x.Term, text⟩ : Entry)]) (.cons (appl_ok e_Entry h5) .nil)) (by kernel_rfl) ?_
          refine Wk_seq ?_
          obtain ⟨h6, hF⟩ := asrt_elim hF
          obtain ⟨h7, hF⟩ := asrt_elim hF
          refine WRL ((lset x5.2.2.2.2.2.2.2.2.2 x.ID ((x5.2.2.2.2.1 ++ [(⟨x.Term, text⟩ : Entry)]).length : Int))) (fun v3 : List Int => ⟨[(2, .ptr 2 0), (4, .ptr 4 0), (5, .ptr 5 0), (6, .ptr 6 0), (7, .ptr 7 0)], [(2, (c_Node x)), (4, [.int .i64 0, .int .i64 0, .int .i64 0, .int .i64 0, .nils, .int .i64 0, .int .i64 0, .nils, .nils, .nils]), (5, [.int .i64 0, .int .i64 0]), (6, [.int .i64 v2.Code, .int .i64 v2.At]), (7, [.int .i64 x5.1, .int .i64 x5.2.1, .int .i64 x5.2.2.1, .int .i64 x5.2.2.2.1, .row 44 2, .int .i64 x5.2.2.2.2.2.1, .int .i64 x5.2.2.2.2.2.2.1, .row 20044 1, .row 40044 1, .row 60044 1])], [(44, ⟨31, 2, 2, 0, 0, true, 0, [], ((x5.2.2.2.2.1 ++ [(⟨x.Term, text⟩ : Entry)]).map e_Entry)⟩), (20044, ⟨3, 1, 1, 0, 0, true, 0, [], (x5.2.2.2.2.2.2.2.1.map e_i64)⟩), (40044, ⟨3, 1, 1, 0, 0, true, 0, [], (x5.2.2.2.2.2.2.2.2.1.map e_i64)⟩), (60044, ⟨3, 1, 1, 0, 0, true, 0, [], (v3.map e_i64)⟩)], [], []⟩) [.nat ((x5.2.2.2.2.1 ++ [(⟨x.Term, text⟩ : Entry)]).length : Int), .av (e_i64 (lget x5.2.2.2.2.2.2.2.2.2 x.ID)), .xs ((lset x5.2.2.2.2.2.2.2.2.2 x.ID ((x5.2.2.2.2.1 ++ [(⟨x.Term, text⟩ : Entry)]).length : Int)).map e_i64)] [2, 4, 5, 6, 7] [2, 4, 5, 6, 7] [44, 20044, 40044, 60044] [] [] [] (.cons (len_ok e_Entry (x5.2.2.2.2.1 ++ [(⟨x.Term, text⟩ : Entry)])) (.cons (ixr_ok e_i64 h6) (.cons (ldr_ok e_i64 h7) (.cons (set_ok e_i64 x5.2.2.2.2.2.2.2.2.2 x.ID ((x5.2.2.2.2.1 ++ [(⟨x.Term, text⟩ : Entry)]).length : Int)) (.cons (Nat.zero_le x.ID.toNat) .nil))))) (by kernel_rfl) (fun v3 hv => ?_)
          have hF := lt_elim hF hv
          refine Wk_seq ?_
          obtain ⟨h8, hF⟩ := asrt_elim hF
          obtain ⟨h9, hF⟩ := asrt_elim hF
          refine WRL ((lset x5.2.2.2.2.2.2.2.2.1 x.ID (w64 (((x5.2.2.2.2.1 ++ [(⟨x.Term, text⟩ : Entry)]).length : Int) + 1)))) (fun v4 : List Int => ⟨[(4, .ptr 4 0), (5, .ptr 5 0), (6, .ptr 6 0), (7, .ptr 7 0)], [(4, [.int .i64 0, .int .i64 0, .int .i64 0, .int .i64 0, .nils, .int .i64 0, .int .i64 0, .nils, .nils, .nils]), (5, [.int .i64 0, .int .i64 0]), (6, [.int .i64 v2.Code, .int .i64 v2.At]), (7, [.int .i64 x5.1, .int .i64 x5.2.1, .int .i64 x5.2.2.1, .int .i64 x5.2.2.2.1, .row 44 2, .int .i64 x5.2.2.2.2.2.1, .int .i64 x5.2.2.2.2.2.2.1, .row 20044 1, .row 40044 1, .row 60044 1])], [(44, ⟨31, 2, 2, 0, 0, true, 0, [], ((x5.2.2.2.2.1 ++ [(⟨x.Term, text⟩ : Entry)]).map e_Entry)⟩), (20044, ⟨3, 1, 1, 0, 0, true, 0, [], (x5.2.2.2.2.2.2.2.1.map e_i64)⟩), (40044, ⟨3, 1, 1, 0, 0, true, 0, [], (v4.map e_i64)⟩), (60044, ⟨3, 1, 1, 0, 0, true, 0, [], (v3.map e_i64)⟩)], [], []⟩) [.nat ((x5.2.2.2.2.1 ++ [(⟨x.Term, text⟩ : Entry)]).length : Int), .av (e_i64 (lget x5.2.2.2.2.2.2.2.2.1 x.ID)), .xs ((lset x5.2.2.2.2.2.2.2.2.1 x.ID (w64 (((x5.2.2.2.2.1 ++ [(⟨x.Term, text⟩ : Entry)]).length : Int) + 1))).map e_i64)] [4, 5, 6, 7] [4, 5, 6, 7] [44, 20044, 40044, 60044] [] [] [] (.cons (len_ok e_Entry (x5.2.2.2.2.1 ++ [(⟨x.Term, text⟩ : Entry)])) (.cons (ixr_ok e_i64 h8) (.cons (ldr_ok e_i64 h9) (.cons (set_ok e_i64 x5.2.2.2.2.2.2.2.2.1 x.ID (w64 (((x5.2.2.2.2.1 ++ [(⟨x.Term, text⟩ : Entry)]).length : Int) + 1))) (.cons (Nat.zero_le x.ID.toNat) .nil))))) (by kernel_rfl) (fun v4 hv => ?_)
          have hF := lt_elim hF hv
          refine Wk_seq ?_
          obtain ⟨x6, h10, hF⟩ := ob_elim hF
          refine WD [.call (.agg (c_Node x6))] [4, 5] [4, 5] [] [] [] [] ⟨[(4, .ptr 4 0), (5, .ptr 5 0)], [(4, (c_Node x6)), (5, [.int .i64 v2.Code, .int .i64 v2.At])], [], [], []⟩ (.cons (R_Counted_ok (⟨x5.1, x5.2.1, x5.2.2.1, x5.2.2.2.1, (x5.2.2.2.2.1 ++ [(⟨x.Term, text⟩ : Entry)]), x5.2.2.2.2.2.1, x5.2.2.2.2.2.2.1, x5.2.2.2.2.2.2.2.1, v4, v3⟩ : Node) x6 h10) .nil) (by kernel_rfl) ?_
          have hF := some_elim hF
          exact Wk_ret (hfin _ ⟨[], [], [], [], [], [], by first | (rw [← hF]; kernel_rfl) | kernel_rfl⟩)

end G
end Go.Proofs.Ytcnngkigpfpalaa
