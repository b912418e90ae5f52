/- The program's functions as plain functions, and that they are these. Written by a program (dec2.py). -/
import Derived.Test.YtcnngkigpfpalaaGf2
namespace Go.Proofs.Ytcnngkigpfpalaa
open Go Go.Dm
set_option linter.unusedVariables false
set_option linter.unusedSimpArgs false
set_option maxRecDepth 100000
namespace G
/- tabularyref.PutLog -/
noncomputable def R_PutLog_J2 (v2 : List Entry) : Option (List Entry × Bool × Fault) :=
  ob (R_LogFault v2) fun x4 =>
  if (!decide (x4.Code = 0)) = true then
    lt (R_F x4.Code (-1)) fun x5 =>
    some (([] : List Entry), false, x5)
  else
    some (v2, true, x4)
noncomputable def R_PutLog_J3 (v3 : List Entry) : Option (List Entry × Bool × Fault) :=
  R_PutLog_J2 v3
noncomputable def R_PutLog_B1 (at0 : Int) (more : List Entry) (v4 : List Entry × Int) : Option ((List Entry × Int) ⊕ (List Entry × Bool × Fault)) :=
  if (decide (v4.2 < (more.length : Int))) = true then
    asrt (0 ≤ v4.2 ∧ v4.2 < (more.length : Int)) <|
    asrt (0 ≤ w64 (at0 + v4.2) ∧ w64 (at0 + v4.2) < (v4.1.length : Int)) <|
    asrt (0 ≤ w64 (at0 + v4.2) ∧ w64 (at0 + v4.2) < (v4.1.length : Int)) <|
    lt ((lset v4.1 (w64 (at0 + v4.2)) (⟨(lget more v4.2).Term, (lget more v4.2).Text⟩ : Entry))) fun (v5 : List Entry) =>
    some (Sum.inl (v5, w64 (v4.2 + 1)))
  else
    inrO (R_PutLog_J3 v4.1)
noncomputable def R_PutLog_L1 (at0 : Int) (more : List Entry) (v0 : List Entry × Int) : Option (List Entry × Bool × Fault) :=
  loopO (fun y => R_PutLog_B1 at0 more y) v0
noncomputable def R_PutLog_J1 (l : List Entry) (at0 : Int) (more : List Entry) (v1 : Int) : Option (List Entry × Bool × Fault) :=
  ob (R_CopyLog l) fun x3 =>
  if (decide (v1 < (more.length : Int))) = true then
    asrt (0 ≤ w64 (at0 + v1) ∧ w64 (at0 + v1) ≤ (l.length : Int)) <|
    ob (R_CopyLog (ltake l (w64 (at0 + v1)))) fun x6 =>
    asrt (0 ≤ v1 ∧ v1 ≤ (more.length : Int)) <|
    asrt (((x6 ++ (ldrop more v1)).length : Int) * 24 ≤ 140737488351232) <|
    R_PutLog_L1 at0 more ((x6 ++ (ldrop more v1)), v1)
  else
    R_PutLog_J2 x3
noncomputable def R_PutLog_B2 (l : List Entry) (at0 : Int) (more : List Entry) (v6 : Int) : Option (Int ⊕ (List Entry × Bool × Fault)) :=
  asrt (((decide (v6 < (more.length : Int))) && (decide ((w64 (at0 + v6)) < (l.length : Int)))) = true → 0 ≤ w64 (at0 + v6) ∧ w64 (at0 + v6) < (l.length : Int)) <|
  asrt (((decide (v6 < (more.length : Int))) && (decide ((w64 (at0 + v6)) < (l.length : Int)))) = true → 0 ≤ v6 ∧ v6 < (more.length : Int)) <|
  if (((decide (v6 < (more.length : Int))) && (decide ((w64 (at0 + v6)) < (l.length : Int)))) && (decide (((lget l (w64 (at0 + v6))).Term) = ((lget more v6).Term)))) = true then
    some (Sum.inl (w64 (v6 + 1)))
  else
    inrO (R_PutLog_J1 l at0 more v6)
noncomputable def R_PutLog_L2 (l : List Entry) (at0 : Int) (more : List Entry) (v0 : Int) : Option (List Entry × Bool × Fault) :=
  loopO (fun y => R_PutLog_B2 l at0 more y) v0
noncomputable def R_PutLog (l : List Entry) (at0 : Int) (term : Int) (more : List Entry) : Option (List Entry × Bool × Fault) :=
  ob (R_LogsFault l more) fun x =>
  ob (
    if (decide (x.Code = 0)) = true then
      lt (R_PlaceFault at0 term) fun x1 =>
      some x1
    else
      some x) fun (v : Fault) =>
  if (!decide (v.Code = 0)) = true then
    some (([] : List Entry), false, v)
  else
    asrt ((decide (0 < at0)) = true → (!((decide ((l.length : Int) < at0)) || ((decide (at0 = 0)) && (!decide (term = 0))))) = true → 0 ≤ w64 (at0 - 1) ∧ w64 (at0 - 1) < (l.length : Int)) <|
    if (((decide ((l.length : Int) < at0)) || ((decide (at0 = 0)) && (!decide (term = 0)))) || ((decide (0 < at0)) && (!decide (((lget l (w64 (at0 - 1))).Term) = term)))) = true then
      ob (R_CopyLog l) fun x2 =>
      some (x2, false, v)
    else
      R_PutLog_L2 l at0 more 0
theorem R_PutLog_ok (l : List Entry) (at0 : Int) (term : Int) (more : List Entry) (r : List Entry × Bool × Fault) (hF : R_PutLog l at0 term more = some r) : Pe Try.prog 25 ⟨[], [], [], [], []⟩ [.sl 2 (l.map e_Entry), .i at0, .i term, .sl 2 (more.map e_Entry)] (.tup [.row 55 0, .bool r.2.1, .agg [.i r.2.2.Code, .i r.2.2.At]]) ⟨[], [], [(55, .z 31 2 0 (r.1.map e_Entry))], [], []⟩ := by
  refine Pe_of (N := 128) (res := [.tmp 8, .tmp 9, .cell 10 26]) (ts := [22, 4, 26]) Ty.ok Fn.b25 Try.func25 rfl rfl rfl rfl rfl rfl ?_
  intro Q g hfin
  unfold R_PutLog at hF
  refine URs [] [0, 1, 2, 3, 10] [10] [] [] [(10, .ptr 10 0)] [(10, [.i 0, .i 0])] [] [] .nil ?_
  refine Wk_seq ?_
  obtain ⟨x, h0, hF⟩ := ob_elim hF
  refine UR [.callB (.agg [.i x.Code, .i x.At])] [0, 1, 2, 3, 10, 11] [10, 11] [] [] [(11, .ptr 11 0)] [(11, [.i x.Code, .i x.At])] [] [] (.cons (R_LogsFault_ok l more x h0) .nil) ?_
  refine Wk_seq ?_
  refine ZRs [] [0, 1, 2, 3, 10, 11, 20] [10, 11] [] [(20, .bool (decide (x.Code = 0)))] .nil ?_
  obtain ⟨v, hv, hF⟩ := ob_elim hF
  refine Wk_meet (⟨[(0, .sl 2 (l.map e_Entry)), (1, .i at0), (2, .i term), (3, .sl 2 (more.map e_Entry)), (10, .ptr 10 0), (11, .ptr 11 0)], [(10, [.i 0, .i 0]), (11, [.i v.Code, .i v.At])], [], [], []⟩ : S) ?_ ?_
  · have hF := hv
    refine Wk_split rfl (fun hb => ?_) (fun hb => ?_)
    · have hF := ite_t hF hb
      obtain ⟨x1, h1, hF⟩ := lt_split hF
      refine UR [.callB (.agg [.i x1.Code, .i x1.At])] [0, 1, 2, 3, 10, 11] [10, 11] [] [] [] [(11, [.i x1.Code, .i x1.At])] [] [] (.cons (R_PlaceFault_ok at0 term x1 h1) .nil) ?_
      exact Wk_met (fs := [0, 1, 2, 3, 10, 11]) (bs := [10, 11]) (rs := []) (ms := []) (aa := []) (nv := []) (by first | (rw [← some_elim hF]; kernel_rfl) | kernel_rfl)
    · have hF := ite_f hF hb
      refine Wk_skip ?_
      exact Wk_met (fs := [0, 1, 2, 3, 10, 11]) (bs := [10, 11]) (rs := []) (ms := []) (aa := []) (nv := []) (by first | (rw [← some_elim hF]; kernel_rfl) | kernel_rfl)
  · refine Wk_seq ?_
    refine ZRs [] [0, 1, 2, 3, 10, 11, 26] [10, 11] [] [(26, .bool (!decide (v.Code = 0)))] .nil ?_
    refine Wk_split rfl (fun hb => ?_) (fun hb => ?_)
    · have hF := ite_t hF hb
      refine UDs [] [8, 9, 10] [10] [] [] [(8, .nils), (9, .bool false)] [(10, [.i v.Code, .i v.At])] [] [] .nil ?_
      have hF := some_elim hF
      refine Wk_nilrow 8 60000 31 2 rfl rfl rfl ?_
      refine Wk_ren' ⟨[], [(60000, 55)], [], []⟩ rfl ?_
      exact Wk_ret (hfin _ ⟨[55], [], [55], [], [], [], by first | (rw [← hF]; kernel_rfl) | kernel_rfl⟩)
    · have hF := ite_f hF hb
      refine Wk_skip ?_
      refine Wk_seq ?_
      refine Wk_seq ?_
      obtain ⟨h2, hF⟩ := asrt_elim hF
      refine ZR [.nat (l.length : Int), .av (e_Entry (lget l (w64 (at0 - 1))))] [0, 1, 3, 10, 11, 53] [10, 11] [] [(53, .bool (((decide ((l.length : Int) < at0)) || ((decide (at0 = 0)) && (!decide (term = 0)))) || ((decide (0 < at0)) && (!decide (((lget l (w64 (at0 - 1))).Term) = term)))))] (.cons (len_ok e_Entry l) (.cons (fun (ga0 : (decide (0 < at0)) = true) (ga1 : (!((decide ((l.length : Int) < at0)) || ((decide (at0 = 0)) && (!decide (term = 0))))) = true) => (idx_ok e_Entry (h2 ga0 ga1))) .nil)) ?_
      refine Wk_split rfl (fun hb => ?_) (fun hb => ?_)
      · have hF := ite_t hF hb
        refine Wk_seq ?_
        obtain ⟨x2, h3, hF⟩ := ob_elim hF
        refine UD [.callE [] [] [] [] (.row 55 1) ⟨[], [], [(55, .z 31 2 1 (x2.map e_Entry))], [], []⟩] [8, 9, 10] [10] [55] [] [(8, .row 55 1), (9, .bool false)] [(10, [.i v.Code, .i v.At])] [(55, .z 31 2 1 (x2.map e_Entry))] [] (.cons (Pe.ren (R_CopyLog_ok l x2 h3) ⟨[], [(4, 55)], [], []⟩) .nil) ?_
        have hF := some_elim hF
        exact Wk_ret (hfin _ ⟨[55], [], [55], [], [], [(55, ⟨0, true, true, false⟩)], by first | (rw [← hF]; kernel_rfl) | kernel_rfl⟩)
      · have hF := ite_f hF hb
        refine Wk_skip ?_
        refine ZRs [] [0, 1, 3, 10, 11, 12] [10, 11] [] [(12, .i 0)] .nil ?_
        refine Wk_seq ?_
        refine Wk_meetP (fun v1 : Int => (⟨[(0, .sl 2 (l.map e_Entry)), (1, .i at0), (3, .sl 2 (more.map e_Entry)), (10, .ptr 10 0), (11, .ptr 11 0), (12, .i v1)], [(10, [.i 0, .i 0]), (11, [.i v.Code, .i v.At])], [], [], []⟩ : S)) (fun v1 => R_PutLog_J1 l at0 more v1 = some r) ?_ ?_
        · refine Wk_block ?_
          unfold R_PutLog_L2 at hF
          refine Wk_trim (fs := [0, 1, 3, 10, 11, 12]) (bs := [10, 11]) (rs := []) (ms := []) (aa := []) (nv := []) (t := (fun v6 : Int => (⟨[(0, .sl 2 (l.map e_Entry)), (1, .i at0), (3, .sl 2 (more.map e_Entry)), (10, .ptr 10 0), (11, .ptr 11 0), (12, .i v6)], [(10, [.i 0, .i 0]), (11, [.i v.Code, .i v.At])], [], [], []⟩ : S)) 0) (by kernel_rfl) ?_
          refine Wk_iter (step := fun y => R_PutLog_B2 l at0 more y) (r := r) (fun v6 : Int => (⟨[(0, .sl 2 (l.map e_Entry)), (1, .i at0), (3, .sl 2 (more.map e_Entry)), (10, .ptr 10 0), (11, .ptr 11 0), (12, .i v6)], [(10, [.i 0, .i 0]), (11, [.i v.Code, .i v.At])], [], [], []⟩ : S)) 0 hF ?_
          intro n1 v6 y1 hF ih1 dn1
          have hF : R_PutLog_B2 l at0 more v6 = some y1 := hF
          unfold R_PutLog_B2 at hF
          refine Wk_seq ?_
          refine Wk_seq ?_
          obtain ⟨h14, hF⟩ := asrt_elim hF
          obtain ⟨h15, hF⟩ := asrt_elim hF
          refine ZD [.nat (more.length : Int), .nat (l.length : Int), .av (e_Entry (lget l (w64 (at0 + v6)))), .av (e_Entry (lget more v6))] [0, 1, 3, 10, 11, 12, 83] [10, 11] [] [(83, .bool (((decide (v6 < (more.length : Int))) && (decide ((w64 (at0 + v6)) < (l.length : Int)))) && (decide (((lget l (w64 (at0 + v6))).Term) = ((lget more v6).Term)))))] (.cons (len_ok e_Entry more) (.cons (fun (_ : (decide (v6 < (more.length : Int))) = true) => (len_ok e_Entry l)) (.cons (fun (ga0 : ((decide (v6 < (more.length : Int))) && (decide ((w64 (at0 + v6)) < (l.length : Int)))) = true) => (idx_ok e_Entry (h14 ga0))) (.cons (fun (ga0 : ((decide (v6 < (more.length : Int))) && (decide ((w64 (at0 + v6)) < (l.length : Int)))) = true) => (idx_ok e_Entry (h15 ga0))) .nil)))) ?_
          refine Wk_split rfl (fun hb => ?_) (fun hb => ?_)
          · have hF := ite_t hF hb
            refine Wk_skip ?_
            refine Wk_block ?_
            refine ZR [] [0, 1, 3, 10, 11, 12] [10, 11] [] [(12, .i (w64 (v6 + 1)))] .nil ?_
            refine Wk_blk ?_
            refine Wk_trim (fs := [0, 1, 3, 10, 11, 12]) (bs := [10, 11]) (rs := []) (ms := []) (aa := []) (nv := []) ?_ (ih1 _ (some_elim hF).symm)
            kernel_rfl
          · have hF := ite_f hF hb
            refine Wk_exit rfl ?_
            have hF := inrO_done hF dn1
            exact Wk_metP v6 [0, 1, 3, 10, 11, 12] [10, 11] [] [] [] [] hF (by kernel_rfl)
        · intro v1 hF
          have hF : R_PutLog_J1 l at0 more v1 = some r := hF
          unfold R_PutLog_J1 at hF
          refine Wk_seq ?_
          obtain ⟨x3, h4, hF⟩ := ob_elim hF
          refine UR [.callE [] [] [] [] (.row 87 1) ⟨[], [], [(87, .z 31 2 1 (x3.map e_Entry))], [], []⟩] [0, 1, 3, 10, 11, 12, 13] [10, 11] [87] [] [(13, .row 87 1)] [] [(87, .z 31 2 1 (x3.map e_Entry))] [] (.cons (Pe.ren (R_CopyLog_ok l x3 h4) ⟨[], [(4, 87)], [], []⟩) .nil) ?_
          refine Wk_seq ?_
          refine ZRs [.nat (more.length : Int)] [0, 1, 3, 10, 11, 12, 13, 91] [10, 11] [87] [(91, .bool (decide (v1 < (more.length : Int))))] (.cons (len_ok e_Entry more) .nil) ?_
          refine Wk_meetP (fun v2 : List Entry => (⟨[(10, .ptr 10 0), (11, .ptr 11 0), (13, .row 97 0)], [(10, [.i 0, .i 0]), (11, [.i v.Code, .i v.At])], [(97, .z 31 2 0 (v2.map e_Entry))], [], []⟩ : S)) (fun v2 => R_PutLog_J2 v2 = some r) ?_ ?_
          · refine Wk_split rfl (fun hb => ?_) (fun hb => ?_)
            · have hF := ite_t hF hb
              refine Wk_seq ?_
              obtain ⟨h7, hF⟩ := asrt_elim hF
              obtain ⟨x6, h8, hF⟩ := ob_elim hF
              obtain ⟨h9, hF⟩ := asrt_elim hF
              obtain ⟨h10, hF⟩ := asrt_elim hF
              refine UD [.xs ((ltake l (w64 (at0 + v1))).map e_Entry), .callE [] [] [] [] (.row 97 1) ⟨[], [], [(97, .z 31 2 1 (x6.map e_Entry))], [], []⟩, .xs ((ldrop more v1).map e_Entry), .xs ((x6 ++ (ldrop more v1)).map e_Entry)] [1, 3, 10, 11, 12, 13] [10, 11] [97] [] [(13, .row 97 2)] [] [(97, .z 31 2 2 ((x6 ++ (ldrop more v1)).map e_Entry))] [] (.cons (sl01_ok e_Entry h7) (.cons (Pe.ren (R_CopyLog_ok (ltake l (w64 (at0 + v1))) x6 h8) ⟨[], [(4, 97)], [], []⟩) (.cons (sl10_ok e_Entry h9) (.cons (app_ok e_Entry x6 (ldrop more v1)) (.cons (appl_ok e_Entry h10) .nil))))) ?_
              refine ZRs [] [1, 3, 10, 11, 13, 14] [10, 11] [97] [(14, .i v1)] .nil ?_
              refine Wk_meetP (fun v3 : List Entry => (⟨[(10, .ptr 10 0), (11, .ptr 11 0), (13, .row 97 2)], [(10, [.i 0, .i 0]), (11, [.i v.Code, .i v.At])], [(97, .z 31 2 2 (v3.map e_Entry))], [], []⟩ : S)) (fun v3 => R_PutLog_J3 v3 = some r) ?_ ?_
              · refine Wk_block ?_
                unfold R_PutLog_L1 at hF
                refine Wk_trim (fs := [1, 3, 10, 11, 13, 14]) (bs := [10, 11]) (rs := [97]) (ms := []) (aa := []) (nv := []) (t := (fun v4 : List Entry × Int => (⟨[(1, .i at0), (3, .sl 2 (more.map e_Entry)), (10, .ptr 10 0), (11, .ptr 11 0), (13, .row 97 2), (14, .i v4.2)], [(10, [.i 0, .i 0]), (11, [.i v.Code, .i v.At])], [(97, .z 31 2 2 (v4.1.map e_Entry))], [], []⟩ : S)) ((x6 ++ (ldrop more v1)), v1)) (by kernel_rfl) ?_
                refine Wk_iter (step := fun y => R_PutLog_B1 at0 more y) (r := r) (fun v4 : List Entry × Int => (⟨[(1, .i at0), (3, .sl 2 (more.map e_Entry)), (10, .ptr 10 0), (11, .ptr 11 0), (13, .row 97 2), (14, .i v4.2)], [(10, [.i 0, .i 0]), (11, [.i v.Code, .i v.At])], [(97, .z 31 2 2 (v4.1.map e_Entry))], [], []⟩ : S)) ((x6 ++ (ldrop more v1)), v1) hF ?_
                intro n1 v4 y1 hF ih1 dn1
                have hF : R_PutLog_B1 at0 more v4 = some y1 := hF
                unfold R_PutLog_B1 at hF
                refine Wk_seq ?_
                refine ZRs [.nat (more.length : Int)] [1, 3, 10, 11, 13, 14, 106] [10, 11] [97] [(106, .bool (decide (v4.2 < (more.length : Int))))] (.cons (len_ok e_Entry more) .nil) ?_
                refine Wk_split rfl (fun hb => ?_) (fun hb => ?_)
                · have hF := ite_t hF hb
                  refine Wk_skip ?_
                  refine Wk_seq ?_
                  refine Wk_block ?_
                  obtain ⟨h11, hF⟩ := asrt_elim hF
                  obtain ⟨h12, hF⟩ := asrt_elim hF
                  obtain ⟨h13, hF⟩ := asrt_elim hF
                  refine WRL ((lset v4.1 (w64 (at0 + v4.2)) (⟨(lget more v4.2).Term, (lget more v4.2).Text⟩ : Entry))) (fun v5 : List Entry => ⟨[(1, .i at0), (3, .sl 2 (more.map e_Entry)), (10, .ptr 10 0), (11, .ptr 11 0), (13, .row 97 2), (14, .i v4.2)], [(10, [.i 0, .i 0]), (11, [.i v.Code, .i v.At])], [(97, .z 31 2 2 (v5.map e_Entry))], [], []⟩) [.av (e_Entry (lget more v4.2)), .av (e_Entry (lget v4.1 (w64 (at0 + v4.2)))), .xs ((lset v4.1 (w64 (at0 + v4.2)) (⟨(lget more v4.2).Term, (lget more v4.2).Text⟩ : Entry)).map e_Entry)] [1, 3, 10, 11, 13, 14] [10, 11] [97] [] [] [] (.cons (idx_ok e_Entry h11) (.cons (ixr_ok e_Entry h12) (.cons (ldr_ok e_Entry h13) (.cons (set_ok e_Entry v4.1 (w64 (at0 + v4.2)) (⟨(lget more v4.2).Term, (lget more v4.2).Text⟩ : Entry)) (.cons (Nat.zero_le ((w64 (at0 + v4.2)).toNat)) .nil))))) (by kernel_rfl) (fun v5 hv => ?_)
                  have hF := lt_elim hF hv
                  refine Wk_blk ?_
                  refine ZR [] [1, 3, 10, 11, 13, 14] [10, 11] [97] [(14, .i (w64 (v4.2 + 1)))] .nil ?_
                  refine Wk_trim (fs := [1, 3, 10, 11, 13, 14]) (bs := [10, 11]) (rs := [97]) (ms := []) (aa := []) (nv := []) ?_ (ih1 _ (some_elim hF).symm)
                  kernel_rfl
                · have hF := ite_f hF hb
                  refine Wk_exit rfl ?_
                  have hF := inrO_done hF dn1
                  exact Wk_metP v4.1 [10, 11, 13] [10, 11] [97] [] [] [] hF (by kernel_rfl)
              · intro v3 hF
                have hF : R_PutLog_J3 v3 = some r := hF
                unfold R_PutLog_J3 at hF
                exact Wk_metP v3 [10, 11, 13] [10, 11] [97] [] [] [(97, ⟨0, true, true, false⟩)] hF (by kernel_rfl)
            · have hF := ite_f hF hb
              refine Wk_skip ?_
              refine Wk_trim (fs := [10, 11, 13]) (bs := [10, 11]) (rs := [87]) (ms := []) (aa := []) (nv := []) rfl ?_
              refine Wk_ren' ⟨[], [(87, 97)], [], []⟩ rfl ?_
              exact Wk_metP x3 [10, 11, 13] [10, 11] [97] [] [] [(97, ⟨0, true, true, false⟩)] hF (by kernel_rfl)
          · intro v2 hF
            have hF : R_PutLog_J2 v2 = some r := hF
            unfold R_PutLog_J2 at hF
            refine Wk_seq ?_
            obtain ⟨x4, h5, hF⟩ := ob_elim hF
            refine UR [.callB (.agg [.i x4.Code, .i x4.At])] [10, 11, 13] [10, 11] [97] [] [] [(11, [.i x4.Code, .i x4.At])] [] [] (.cons (R_LogFault_ok v2 x4 h5) .nil) ?_
            refine Wk_seq ?_
            refine ZRs [] [10, 11, 13, 122] [10, 11] [97] [(122, .bool (!decide (x4.Code = 0)))] .nil ?_
            refine Wk_split rfl (fun hb => ?_) (fun hb => ?_)
            · have hF := ite_t hF hb
              refine Wk_seq ?_
              obtain ⟨x5, h6, hF⟩ := lt_split hF
              refine UR [.callB (.agg [.i x5.Code, .i x5.At])] [8, 9, 10] [10] [] [] [(8, .nils), (9, .bool false)] [(10, [.i x5.Code, .i x5.At])] [] [] (.cons (R_F_ok x4.Code (-1) x5 h6) .nil) ?_
              have hF := some_elim hF
              refine Wk_nilrow 8 60001 31 2 rfl rfl rfl ?_
              refine Wk_ren' ⟨[], [(60001, 55)], [], []⟩ rfl ?_
              exact Wk_ret (hfin _ ⟨[55], [], [55], [], [], [], by first | (rw [← hF]; kernel_rfl) | kernel_rfl⟩)
            · have hF := ite_f hF hb
              refine Wk_skip ?_
              refine UDs [] [8, 9, 10] [10] [97] [] [(8, .row 97 0), (9, .bool true)] [(10, [.i x4.Code, .i x4.At])] [] [] .nil ?_
              have hF := some_elim hF
              refine Wk_ren' ⟨[], [(97, 55)], [], []⟩ rfl ?_
              exact Wk_ret (hfin _ ⟨[55], [], [55], [], [], [], by first | (rw [← hF]; kernel_rfl) | kernel_rfl⟩)

/- tabularyref.TakeNode -/
noncomputable def R_TakeNode_J1 (x : Node) (m : Mail) (v : Fault) (v1 : Int × Int × Int × Int × List Entry × Int × Int × List Int × List Int × List Int) (x12 : Int × Int × Int × Int × List Entry × Int × Int) (x13 : List Entry × Bool × Fault) (v8 : Unit) : Option (Int × Int × Int × Int × List Entry × Int × Int × List Int × List Int × List Int × List Mail × Fault) :=
  ob (
    if (decide ((w64 (m.A + (m.Entries.length : Int))) < m.C0)) = true then
      some (w64 (m.A + (m.Entries.length : Int)))
    else
      some m.C0) fun (v9 : Int) =>
  ob (
    if (decide (x12.2.2.2.2.2.2 < v9)) = true then
      some v9
    else
      some x12.2.2.2.2.2.2) fun (v10 : Int) =>
  lt ([(⟨4, x.ID, m.From, v1.2.2.1, w64 (m.A + (m.Entries.length : Int)), 0, 0, ([] : List Entry), true⟩ : Mail)]) fun (v11 : List Mail) =>
  some (x12.1, x12.2.1, x12.2.2.1, x12.2.2.2.1, x13.1, x12.2.2.2.2.2.1, v10, ([] : List Int), ([] : List Int), ([] : List Int), v11, v)
noncomputable def R_TakeNode_B1 (x : Node) (m : Mail) (v : Fault) (v1 : Int × Int × Int × Int × List Entry × Int × Int × List Int × List Int × List Int) (x12 : Int × Int × Int × Int × List Entry × Int × Int) (x13 : List Entry × Bool × Fault) (v12 : Int) : Option (Int ⊕ (Int × Int × Int × Int × List Entry × Int × Int × List Int × List Int × List Int × List Mail × Fault)) :=
  if (decide (v12 < x12.2.2.2.2.2.2)) = true then
    asrt ((!(decide ((x13.1.length : Int) ≤ v12))) = true → 0 ≤ v12 ∧ v12 < (x13.1.length : Int)) <|
    asrt ((!(decide ((x13.1.length : Int) ≤ v12))) = true → 0 ≤ v12 ∧ v12 < (x13.1.length : Int)) <|
    asrt ((!(decide ((x13.1.length : Int) ≤ v12))) = true → 0 ≤ v12 ∧ v12 < (x12.2.2.2.2.1.length : Int)) <|
    asrt ((!(decide ((x13.1.length : Int) ≤ v12))) = true → 0 ≤ v12 ∧ v12 < (x12.2.2.2.2.1.length : Int)) <|
    if ((decide ((x13.1.length : Int) ≤ v12)) || (!(decide ((lget x13.1 v12).Term = (lget x12.2.2.2.2.1 v12).Term) && (decide ((lget x13.1 v12).Text = (lget x12.2.2.2.2.1 v12).Text) && true)))) = true then
      some (Sum.inr (x12.1, x12.2.1, x12.2.2.1, x12.2.2.2.1, x12.2.2.2.2.1, x12.2.2.2.2.2.1, x12.2.2.2.2.2.2, ([] : List Int), ([] : List Int), ([] : List Int), ([] : List Mail), v))
    else
      some (Sum.inl (w64 (v12 + 1)))
  else
    inrO (R_TakeNode_J1 x m v v1 x12 x13 ())
noncomputable def R_TakeNode_L1 (x : Node) (m : Mail) (v : Fault) (v1 : Int × Int × Int × Int × List Entry × Int × Int × List Int × List Int × List Int) (x12 : Int × Int × Int × Int × List Entry × Int × Int) (x13 : List Entry × Bool × Fault) (v0 : Int) : Option (Int × Int × Int × Int × List Entry × Int × Int × List Int × List Int × List Int × List Mail × Fault) :=
  loopO (fun y => R_TakeNode_B1 x m v v1 x12 x13 y) v0
noncomputable def R_TakeNode (x : Node) (m : Mail) : Option (Int × Int × Int × Int × List Entry × Int × Int × List Int × List Int × List Int × List Mail × Fault) :=
  ob (R_NodeFault x) fun x1 =>
  ob (if (decide (x1.Code = 0)) = true then (R_MailFine x m) else some default) fun x2 =>
  ob (
    if ((decide (x1.Code = 0)) && (!x2)) = true then
      lt (R_F 5 0) fun x3 =>
      some x3
    else
      some x1) fun (v : Fault) =>
  if (!decide (v.Code = 0)) = true then
    some (0, 0, 0, 0, ([] : List Entry), 0, 0, ([] : List Int), ([] : List Int), ([] : List Int), ([] : List Mail), v)
  else
    ob (R_CopyNode x) fun x4 =>
    ob (
      if (decide (x.Term < m.Term)) = true then
        ob (R_Follower x) fun x5 =>
        some (x5.1, x5.2.1, m.Term, 0, x5.2.2.2.2.1, x5.2.2.2.2.2.1, x5.2.2.2.2.2.2, ([] : List Int), ([] : List Int), ([] : List Int))
      else
        some (x4.1, x4.2.1, x4.2.2.1, x4.2.2.2.1, x4.2.2.2.2.1, x4.2.2.2.2.2.1, x4.2.2.2.2.2.2.1, x4.2.2.2.2.2.2.2.1, x4.2.2.2.2.2.2.2.2.1, x4.2.2.2.2.2.2.2.2.2)) fun (v1 : Int × Int × Int × Int × List Entry × Int × Int × List Int × List Int × List Int) =>
    if (decide (m.Kind = 1)) = true then
      ob (R_OlderLog v1.2.2.2.2.1 m.A m.B) fun x6 =>
      ob (if (!(!decide (m.A = (v1.2.2.2.2.1.length : Int)))) = true then (if (!x6) = true then (R_LastTerm v1.2.2.2.2.1) else some default) else some default) fun x7 =>
      lt ((!x6) && ((!decide (m.A = (v1.2.2.2.2.1.length : Int))) || (!decide (m.B = x7)))) fun (v2 : Bool) =>
      ob (
        if (((decide (m.Term = v1.2.2.1)) && ((decide (v1.2.2.2.1 = 0)) || (decide ((w64 (v1.2.2.2.1 - 1)) = m.From)))) && (!v2)) = true then
          some (w64 (m.From + 1), (⟨2, x.ID, m.From, v1.2.2.1, 0, 0, 0, ([] : List Entry), true⟩ : Mail))
        else
          some (v1.2.2.2.1, (⟨2, x.ID, m.From, v1.2.2.1, 0, 0, 0, ([] : List Entry), false⟩ : Mail))) fun (v3 : Int × Mail) =>
      some (v1.1, v1.2.1, v1.2.2.1, v3.1, v1.2.2.2.2.1, v1.2.2.2.2.2.1, v1.2.2.2.2.2.2.1, v1.2.2.2.2.2.2.2.1, v1.2.2.2.2.2.2.2.2.1, v1.2.2.2.2.2.2.2.2.2, [v3.2], v)
    else
      if (decide (m.Kind = 2)) = true then
        if (((!decide (v1.2.2.2.2.2.1 = 1)) || (!decide (m.Term = v1.2.2.1))) || (!m.Ok)) = true then
          some (v1.1, v1.2.1, v1.2.2.1, v1.2.2.2.1, v1.2.2.2.2.1, v1.2.2.2.2.2.1, v1.2.2.2.2.2.2.1, v1.2.2.2.2.2.2.2.1, v1.2.2.2.2.2.2.2.2.1, v1.2.2.2.2.2.2.2.2.2, ([] : List Mail), v)
        else
          ob (R_Has v1.2.2.2.2.2.2.2.1 m.From) fun x8 =>
          ob (
            if (!x8) = true then
              asrt (((v1.2.2.2.2.2.2.2.1 ++ ([m.From] : List Int)).length : Int) * 8 ≤ 140737488351232) <|
              some (v1.2.2.2.2.2.2.2.1 ++ ([m.From] : List Int))
            else
              some v1.2.2.2.2.2.2.2.1) fun (v4 : List Int) =>
          lt (R_Majority (v4.length : Int) v1.1) fun x9 =>
          if x9 = true then
            ob (R_Leader (⟨v1.1, v1.2.1, v1.2.2.1, v1.2.2.2.1, v1.2.2.2.2.1, v1.2.2.2.2.2.1, v1.2.2.2.2.2.2.1, v4, v1.2.2.2.2.2.2.2.2.1, v1.2.2.2.2.2.2.2.2.2⟩ : Node)) fun x10 =>
            ob (R_Beats x10) fun x11 =>
            some (x10.N, x10.ID, x10.Term, x10.Vote, x10.Log, x10.Role, x10.Commit, x10.Votes, x10.Next, x10.Have, x11, v)
          else
            some (v1.1, v1.2.1, v1.2.2.1, v1.2.2.2.1, v1.2.2.2.2.1, v1.2.2.2.2.2.1, v1.2.2.2.2.2.2.1, v4, v1.2.2.2.2.2.2.2.2.1, v1.2.2.2.2.2.2.2.2.2, ([] : List Mail), v)
      else
        if (decide (m.Kind = 3)) = true then
          if (decide (m.Term < v1.2.2.1)) = true then
            lt ([(⟨4, x.ID, m.From, v1.2.2.1, 0, 0, 0, ([] : List Entry), false⟩ : Mail)]) fun (v5 : List Mail) =>
            some (v1.1, v1.2.1, v1.2.2.1, v1.2.2.2.1, v1.2.2.2.2.1, v1.2.2.2.2.2.1, v1.2.2.2.2.2.2.1, v1.2.2.2.2.2.2.2.1, v1.2.2.2.2.2.2.2.2.1, v1.2.2.2.2.2.2.2.2.2, v5, v)
          else
            if (decide (v1.2.2.2.2.2.1 = 2)) = true then
              some (v1.1, v1.2.1, v1.2.2.1, v1.2.2.2.1, v1.2.2.2.2.1, v1.2.2.2.2.2.1, v1.2.2.2.2.2.2.1, v1.2.2.2.2.2.2.2.1, v1.2.2.2.2.2.2.2.2.1, v1.2.2.2.2.2.2.2.2.2, ([] : List Mail), v)
            else
              ob (R_Follower (⟨v1.1, v1.2.1, v1.2.2.1, v1.2.2.2.1, v1.2.2.2.2.1, v1.2.2.2.2.2.1, v1.2.2.2.2.2.2.1, v1.2.2.2.2.2.2.2.1, v1.2.2.2.2.2.2.2.2.1, v1.2.2.2.2.2.2.2.2.2⟩ : Node)) fun x12 =>
              ob (R_PutLog x12.2.2.2.2.1 m.A m.B m.Entries) fun x13 =>
              if (!decide (x13.2.2.Code = 0)) = true then
                some (x12.1, x12.2.1, x12.2.2.1, x12.2.2.2.1, x12.2.2.2.2.1, x12.2.2.2.2.2.1, x12.2.2.2.2.2.2, ([] : List Int), ([] : List Int), ([] : List Int), ([] : List Mail), v)
              else
                if (!x13.2.1) = true then
                  ob (
                    if (decide ((w64 (m.A - 1)) < (x12.2.2.2.2.1.length : Int))) = true then
                      some (⟨4, x.ID, m.From, v1.2.2.1, w64 (m.A - 1), 0, 0, ([] : List Entry), false⟩ : Mail)
                    else
                      some (⟨4, x.ID, m.From, v1.2.2.1, (x12.2.2.2.2.1.length : Int), 0, 0, ([] : List Entry), false⟩ : Mail)) fun (v6 : Mail) =>
                  ob (
                    if (decide (v6.A < 0)) = true then
                      some (⟨v6.Kind, v6.From, v6.To, v6.Term, 0, v6.B, v6.C0, v6.Entries, v6.Ok⟩ : Mail)
                    else
                      some v6) fun (v7 : Mail) =>
                  some (x12.1, x12.2.1, x12.2.2.1, x12.2.2.2.1, x12.2.2.2.2.1, x12.2.2.2.2.2.1, x12.2.2.2.2.2.2, ([] : List Int), ([] : List Int), ([] : List Int), [v7], v)
                else
                  R_TakeNode_L1 x m v v1 x12 x13 0
        else
          if ((!decide (v1.2.2.2.2.2.1 = 2)) || (!decide (m.Term = v1.2.2.1))) = true then
            some (v1.1, v1.2.1, v1.2.2.1, v1.2.2.2.1, v1.2.2.2.2.1, v1.2.2.2.2.2.1, v1.2.2.2.2.2.2.1, v1.2.2.2.2.2.2.2.1, v1.2.2.2.2.2.2.2.2.1, v1.2.2.2.2.2.2.2.2.2, ([] : List Mail), v)
          else
            if m.Ok = true then
              ob (
                if (decide ((v1.2.2.2.2.1.length : Int) < m.A)) = true then
                  some (v1.2.2.2.2.1.length : Int)
                else
                  some m.A) fun (v13 : Int) =>
              asrt (0 ≤ m.From ∧ m.From < (v1.2.2.2.2.2.2.2.2.2.length : Int)) <|
              asrt (0 ≤ m.From ∧ m.From < (v1.2.2.2.2.2.2.2.2.2.length : Int)) <|
              ob (
                if (decide ((lget v1.2.2.2.2.2.2.2.2.2 m.From) < v13)) = true then
                  asrt (0 ≤ m.From ∧ m.From < (v1.2.2.2.2.2.2.2.2.2.length : Int)) <|
                  asrt (0 ≤ m.From ∧ m.From < (v1.2.2.2.2.2.2.2.2.2.length : Int)) <|
                  some (lset v1.2.2.2.2.2.2.2.2.2 m.From v13)
                else
                  some v1.2.2.2.2.2.2.2.2.2) fun (v14 : List Int) =>
              asrt (0 ≤ m.From ∧ m.From < (v14.length : Int)) <|
              asrt (0 ≤ m.From ∧ m.From < (v14.length : Int)) <|
              asrt (0 ≤ m.From ∧ m.From < (v1.2.2.2.2.2.2.2.2.1.length : Int)) <|
              asrt (0 ≤ m.From ∧ m.From < (v1.2.2.2.2.2.2.2.2.1.length : Int)) <|
              ob (R_Counted (⟨v1.1, v1.2.1, v1.2.2.1, v1.2.2.2.1, v1.2.2.2.2.1, v1.2.2.2.2.2.1, v1.2.2.2.2.2.2.1, v1.2.2.2.2.2.2.2.1, (lset v1.2.2.2.2.2.2.2.2.1 m.From (w64 ((lget v14 m.From) + 1))), v14⟩ : Node)) fun x14 =>
              some (x14.N, x14.ID, x14.Term, x14.Vote, x14.Log, x14.Role, x14.Commit, x14.Votes, x14.Next, x14.Have, ([] : List Mail), v)
            else
              asrt (0 ≤ m.From ∧ m.From < (v1.2.2.2.2.2.2.2.2.1.length : Int)) <|
              asrt (0 ≤ m.From ∧ m.From < (v1.2.2.2.2.2.2.2.2.1.length : Int)) <|
              ob (
                if (decide ((w64 (m.A + 1)) < (w64 ((lget v1.2.2.2.2.2.2.2.2.1 m.From) - 1)))) = true then
                  some (w64 (m.A + 1))
                else
                  some (w64 ((lget v1.2.2.2.2.2.2.2.2.1 m.From) - 1))) fun (v15 : Int) =>
              asrt (0 ≤ m.From ∧ m.From < (v1.2.2.2.2.2.2.2.2.2.length : Int)) <|
              asrt (0 ≤ m.From ∧ m.From < (v1.2.2.2.2.2.2.2.2.2.length : Int)) <|
              ob (
                if (decide (v15 < (w64 ((lget v1.2.2.2.2.2.2.2.2.2 m.From) + 1)))) = true then
                  asrt (0 ≤ m.From ∧ m.From < (v1.2.2.2.2.2.2.2.2.2.length : Int)) <|
                  asrt (0 ≤ m.From ∧ m.From < (v1.2.2.2.2.2.2.2.2.2.length : Int)) <|
                  some (w64 ((lget v1.2.2.2.2.2.2.2.2.2 m.From) + 1))
                else
                  some v15) fun (v16 : Int) =>
              asrt (0 ≤ m.From ∧ m.From < (v1.2.2.2.2.2.2.2.2.1.length : Int)) <|
              asrt (0 ≤ m.From ∧ m.From < (v1.2.2.2.2.2.2.2.2.1.length : Int)) <|
              some (v1.1, v1.2.1, v1.2.2.1, v1.2.2.2.1, v1.2.2.2.2.1, v1.2.2.2.2.2.1, v1.2.2.2.2.2.2.1, v1.2.2.2.2.2.2.2.1, (lset v1.2.2.2.2.2.2.2.2.1 m.From v16), v1.2.2.2.2.2.2.2.2.2, ([] : List Mail), v)
theorem R_TakeNode_ok (x : Node) (m : Mail) (r : Int × Int × Int × Int × List Entry × Int × Int × List Int × List Int × List Int × List Mail × Fault) (hF : R_TakeNode x m = some r) : Pe Try.prog 43 S.none [.agg (c_Node x), .agg (c_Mail m)] (.tup [.agg [.i r.1, .i r.2.1, .i r.2.2.1, .i r.2.2.2.1, .sl 2 (r.2.2.2.2.1.map e_Entry), .i r.2.2.2.2.2.1, .i r.2.2.2.2.2.2.1, .sl 1 (r.2.2.2.2.2.2.2.1.map e_i64), .sl 1 (r.2.2.2.2.2.2.2.2.1.map e_i64), .sl 1 (r.2.2.2.2.2.2.2.2.2.1.map e_i64)], .sl 9 (r.2.2.2.2.2.2.2.2.2.2.1.map e_Mail), .agg [.i r.2.2.2.2.2.2.2.2.2.2.2.Code, .i r.2.2.2.2.2.2.2.2.2.2.2.At]]) S.none := by
  refine Pe_of (N := 361) (res := [.cell 4 46, .tmp 5, .cell 6 26]) (ts := [46, 50, 26]) Ty.ok Fn.b43 Try.func43 rfl rfl rfl rfl rfl rfl ?_
  intro Q g hfin
  unfold R_TakeNode at hF
  refine URs [] [2, 3, 4, 6] [2, 3, 4, 6] [] [] [(2, .ptr 2 0), (3, .ptr 3 0), (4, .ptr 4 0), (6, .ptr 6 0)] [(2, (c_Node x)), (3, (c_Mail m)), (4, [.i 0, .i 0, .i 0, .i 0, .nils, .i 0, .i 0, .nils, .nils, .nils]), (6, [.i 0, .i 0])] [] [] .nil ?_
  refine Wk_seq ?_
  obtain ⟨x1, h0, hF⟩ := ob_elim hF
  refine UR [.callB (.agg [.i x1.Code, .i x1.At])] [2, 3, 4, 6, 7] [2, 3, 4, 6, 7] [] [] [(7, .ptr 7 0)] [(7, [.i x1.Code, .i x1.At])] [] [] (.cons (R_NodeFault_ok x x1 h0) .nil) ?_
  refine Wk_seq ?_
  refine Wk_seq ?_
  obtain ⟨x2, h1, hF⟩ := ob_elim hF
  refine ZR [.callB (.bool x2)] [2, 3, 4, 6, 7, 29] [2, 3, 4, 6, 7] [] [(29, .bool ((decide (x1.Code = 0)) && (!x2)))] (.cons (fun (ga0 : (decide (x1.Code = 0)) = true) => (R_MailFine_ok x m x2 (ite_t h1 ga0))) .nil) ?_
  obtain ⟨v, hv, hF⟩ := ob_elim hF
  refine Wk_meet (⟨[(2, .ptr 2 0), (3, .ptr 3 0), (4, .ptr 4 0), (6, .ptr 6 0), (7, .ptr 7 0)], [(2, (c_Node x)), (3, (c_Mail m)), (4, [.i 0, .i 0, .i 0, .i 0, .nils, .i 0, .i 0, .nils, .nils, .nils]), (6, [.i 0, .i 0]), (7, [.i v.Code, .i v.At])], [], [], []⟩ : S) ?_ ?_
  · have hF := hv
    refine Wk_split rfl (fun hb => ?_) (fun hb => ?_)
    · have hF := ite_t hF hb
      obtain ⟨x3, h2, hF⟩ := lt_split hF
      refine UR [.callB (.agg [.i x3.Code, .i x3.At])] [2, 3, 4, 6, 7] [2, 3, 4, 6, 7] [] [] [] [(7, [.i x3.Code, .i x3.At])] [] [] (.cons (R_F_ok 5 0 x3 h2) .nil) ?_
      exact Wk_met (fs := [2, 3, 4, 6, 7]) (bs := [2, 3, 4, 6, 7]) (rs := []) (ms := []) (aa := []) (nv := []) (by first | (rw [← some_elim hF]; kernel_rfl) | kernel_rfl)
    · have hF := ite_f hF hb
      refine Wk_skip ?_
      exact Wk_met (fs := [2, 3, 4, 6, 7]) (bs := [2, 3, 4, 6, 7]) (rs := []) (ms := []) (aa := []) (nv := []) (by first | (rw [← some_elim hF]; kernel_rfl) | kernel_rfl)
  · refine Wk_seq ?_
    refine ZRs [] [2, 3, 4, 6, 7, 33] [2, 3, 4, 6, 7] [] [(33, .bool (!decide (v.Code = 0)))] .nil ?_
    refine Wk_split rfl (fun hb => ?_) (fun hb => ?_)
    · have hF := ite_t hF hb
      refine UDs [] [4, 5, 6] [4, 6] [] [] [(5, .nils)] [(6, [.i v.Code, .i v.At])] [] [] .nil ?_
      have hF := some_elim hF
      exact Wk_ret (hfin _ ⟨[], [], [], [], [], [], by first | (rw [← hF]; kernel_rfl) | kernel_rfl⟩)
    · have hF := ite_f hF hb
      refine Wk_skip ?_
      refine Wk_seq ?_
      obtain ⟨x4, h3, hF⟩ := ob_elim hF
      refine UR [.callE [] [] [] [] (.agg [.i x4.1, .i x4.2.1, .i x4.2.2.1, .i x4.2.2.2.1, .row 37 1, .i x4.2.2.2.2.2.1, .i x4.2.2.2.2.2.2.1, .row 20037 1, .row 40037 1, .row 60037 1]) ⟨[], [], [(37, .z 31 2 1 (x4.2.2.2.2.1.map e_Entry)), (20037, .z 3 1 1 (x4.2.2.2.2.2.2.2.1.map e_i64)), (40037, .z 3 1 1 (x4.2.2.2.2.2.2.2.2.1.map e_i64)), (60037, .z 3 1 1 (x4.2.2.2.2.2.2.2.2.2.map e_i64))], [], []⟩] [2, 3, 4, 6, 7, 8] [2, 3, 4, 6, 7, 8] [37, 20037, 40037, 60037] [] [(8, .ptr 8 0)] [(8, [.i x4.1, .i x4.2.1, .i x4.2.2.1, .i x4.2.2.2.1, .row 37 1, .i x4.2.2.2.2.2.1, .i x4.2.2.2.2.2.2.1, .row 20037 1, .row 40037 1, .row 60037 1])] [(37, .z 31 2 1 (x4.2.2.2.2.1.map e_Entry)), (20037, .z 3 1 1 (x4.2.2.2.2.2.2.2.1.map e_i64)), (40037, .z 3 1 1 (x4.2.2.2.2.2.2.2.2.1.map e_i64)), (60037, .z 3 1 1 (x4.2.2.2.2.2.2.2.2.2.map e_i64))] [] (.cons (Pe.ren (R_CopyNode_ok x x4 h3) ⟨[], [(5, 37), (9, 20037), (13, 40037), (17, 60037)], [], []⟩) .nil) ?_
      refine Wk_seq ?_
      refine ZRs [] [2, 3, 4, 6, 7, 8, 42] [2, 3, 4, 6, 7, 8] [37, 20037, 40037, 60037] [(42, .bool (decide (x.Term < m.Term)))] .nil ?_
      obtain ⟨v1, hv, hF⟩ := ob_elim hF
      refine Wk_meet (⟨[(2, .ptr 2 0), (3, .ptr 3 0), (4, .ptr 4 0), (6, .ptr 6 0), (7, .ptr 7 0), (8, .ptr 8 0)], [(2, (c_Node x)), (3, (c_Mail m)), (4, [.i 0, .i 0, .i 0, .i 0, .nils, .i 0, .i 0, .nils, .nils, .nils]), (6, [.i 0, .i 0]), (7, [.i v.Code, .i v.At]), (8, [.i v1.1, .i v1.2.1, .i v1.2.2.1, .i v1.2.2.2.1, .row 44 1, .i v1.2.2.2.2.2.1, .i v1.2.2.2.2.2.2.1, .row 20044 0, .row 40044 0, .row 60044 0])], [(44, .z 31 2 1 (v1.2.2.2.2.1.map e_Entry)), (20044, .z 3 1 0 (v1.2.2.2.2.2.2.2.1.map e_i64)), (40044, .z 3 1 0 (v1.2.2.2.2.2.2.2.2.1.map e_i64)), (60044, .z 3 1 0 (v1.2.2.2.2.2.2.2.2.2.map e_i64))], [], []⟩ : S) ?_ ?_
      · have hF := hv
        refine Wk_split rfl (fun hb => ?_) (fun hb => ?_)
        · have hF := ite_t hF hb
          refine Wk_seq ?_
          obtain ⟨x5, h4, hF⟩ := ob_elim hF
          refine UR [.callE [] [] [] [] (.agg [.i x5.1, .i x5.2.1, .i x5.2.2.1, .i x5.2.2.2.1, .row 44 1, .i x5.2.2.2.2.2.1, .i x5.2.2.2.2.2.2, .row 20044 0, .row 40044 0, .row 60044 0]) ⟨[], [], [(44, .z 31 2 1 (x5.2.2.2.2.1.map e_Entry)), (20044, .z 3 1 0 (([] : List Int).map e_i64)), (40044, .z 3 1 0 (([] : List Int).map e_i64)), (60044, .z 3 1 0 (([] : List Int).map e_i64))], [], []⟩] [2, 3, 4, 6, 7, 8] [2, 3, 4, 6, 7, 8] [44, 20044, 40044, 60044] [] [] [(8, [.i x5.1, .i x5.2.1, .i x5.2.2.1, .i x5.2.2.2.1, .row 44 1, .i x5.2.2.2.2.2.1, .i x5.2.2.2.2.2.2, .row 20044 0, .row 40044 0, .row 60044 0])] [(44, .z 31 2 1 (x5.2.2.2.2.1.map e_Entry)), (20044, .z 3 1 0 (([] : List Int).map e_i64)), (40044, .z 3 1 0 (([] : List Int).map e_i64)), (60044, .z 3 1 0 (([] : List Int).map e_i64))] [] (.cons (Pe.ren (R_Follower_ok x x5 h4) ⟨[], [(13, 44), (71001, 20044), (71002, 40044), (71003, 60044)], [], []⟩) .nil) ?_
          refine URs [] [2, 3, 4, 6, 7, 8] [2, 3, 4, 6, 7, 8] [44, 20044, 40044, 60044] [] [] [(8, [.i x5.1, .i x5.2.1, .i m.Term, .i x5.2.2.2.1, .row 44 1, .i x5.2.2.2.2.2.1, .i x5.2.2.2.2.2.2, .row 20044 0, .row 40044 0, .row 60044 0])] [] [] .nil ?_
          refine UR [] [2, 3, 4, 6, 7, 8] [2, 3, 4, 6, 7, 8] [44, 20044, 40044, 60044] [] [] [(8, [.i x5.1, .i x5.2.1, .i m.Term, .i 0, .row 44 1, .i x5.2.2.2.2.2.1, .i x5.2.2.2.2.2.2, .row 20044 0, .row 40044 0, .row 60044 0])] [] [] .nil ?_
          exact Wk_met (fs := [2, 3, 4, 6, 7, 8]) (bs := [2, 3, 4, 6, 7, 8]) (rs := [44, 20044, 40044, 60044]) (ms := []) (aa := []) (nv := []) (by first | (rw [← some_elim hF]; kernel_rfl) | kernel_rfl)
        · have hF := ite_f hF hb
          refine Wk_skip ?_
          refine Wk_trim (fs := [2, 3, 4, 6, 7, 8]) (bs := [2, 3, 4, 6, 7, 8]) (rs := [37, 20037, 40037, 60037]) (ms := []) (aa := []) (nv := []) rfl ?_
          refine Wk_ren' ⟨[], [(37, 44), (20037, 20044), (40037, 40044), (60037, 60044)], [], []⟩ rfl ?_
          exact Wk_met (fs := [2, 3, 4, 6, 7, 8]) (bs := [2, 3, 4, 6, 7, 8]) (rs := [44, 20044, 40044, 60044]) (ms := []) (aa := []) (nv := [(20044, ⟨0, true, true, false⟩), (40044, ⟨0, true, true, false⟩), (60044, ⟨0, true, true, false⟩)]) (by first | (rw [← some_elim hF]; kernel_rfl) | kernel_rfl)
      · refine URs [] [3, 4, 6, 7, 8, 9] [3, 4, 6, 7, 8, 9] [44, 20044, 40044, 60044] [] [(9, .ptr 9 0)] [(9, [.i 0, .i x.ID, .i m.From, .i v1.2.2.1, .i 0, .i 0, .i 0, .nils, .bool false])] [] [] .nil ?_
        refine Wk_seq ?_
        refine ZRs [] [3, 4, 6, 7, 8, 9, 57] [3, 4, 6, 7, 8, 9] [44, 20044, 40044, 60044] [(57, .i m.Kind)] .nil ?_
        refine Wk_block ?_
        refine ZRs [] [3, 4, 6, 7, 8, 9, 57, 58] [3, 4, 6, 7, 8, 9] [44, 20044, 40044, 60044] [(58, .bool (decide (m.Kind = 1)))] .nil ?_
        refine Wk_split rfl (fun hb => ?_) (fun hb => ?_)
        · have hF := ite_t hF hb
          refine URs [] [3, 4, 6, 7, 8, 9] [3, 4, 6, 7, 8, 9] [44, 20044, 40044, 60044] [] [] [(9, [.i 2, .i x.ID, .i m.From, .i v1.2.2.1, .i 0, .i 0, .i 0, .nils, .bool false])] [] [] .nil ?_
          refine Wk_seq ?_
          obtain ⟨x6, h5, hF⟩ := ob_elim hF
          obtain ⟨x7, h6, hF⟩ := ob_elim hF
          refine WDL ((!x6) && ((!decide (m.A = (v1.2.2.2.2.1.length : Int))) || (!decide (m.B = x7)))) (fun v2 : Bool => ⟨[(3, .ptr 3 0), (4, .ptr 4 0), (6, .ptr 6 0), (7, .ptr 7 0), (8, .ptr 8 0), (9, .ptr 9 0), (10, .bool v2)], [(3, (c_Mail m)), (4, [.i 0, .i 0, .i 0, .i 0, .nils, .i 0, .i 0, .nils, .nils, .nils]), (6, [.i 0, .i 0]), (7, [.i v.Code, .i v.At]), (8, [.i v1.1, .i v1.2.1, .i v1.2.2.1, .i v1.2.2.2.1, .row 44 1, .i v1.2.2.2.2.2.1, .i v1.2.2.2.2.2.2.1, .row 20044 0, .row 40044 0, .row 60044 0]), (9, [.i 2, .i x.ID, .i m.From, .i v1.2.2.1, .i 0, .i 0, .i 0, .nils, .bool false])], [(44, .z 31 2 1 (v1.2.2.2.2.1.map e_Entry)), (20044, .z 3 1 0 (v1.2.2.2.2.2.2.2.1.map e_i64)), (40044, .z 3 1 0 (v1.2.2.2.2.2.2.2.2.1.map e_i64)), (60044, .z 3 1 0 (v1.2.2.2.2.2.2.2.2.2.map e_i64))], [], []⟩) [.callB (.bool x6), .nat (v1.2.2.2.2.1.length : Int), .callB (.i x7)] [3, 4, 6, 7, 8, 9, 10] [3, 4, 6, 7, 8, 9] [44, 20044, 40044, 60044] [] [] [] (.cons (R_OlderLog_ok v1.2.2.2.2.1 m.A m.B x6 h5) (.cons (fun (_ : (!x6) = true) => (len_ok e_Entry v1.2.2.2.2.1)) (.cons (fun (ga0 : (!(!decide (m.A = (v1.2.2.2.2.1.length : Int)))) = true) (ga1 : (!x6) = true) => (R_LastTerm_ok v1.2.2.2.2.1 x7 (ite_t (ite_t h6 ga0) ga1))) .nil))) (by kernel_rfl) (fun v2 hv => ?_)
          have hF := lt_elim hF hv
          refine Wk_seq ?_
          refine ZRs [] [3, 4, 6, 7, 8, 9, 106] [3, 4, 6, 7, 8, 9] [44, 20044, 40044, 60044] [(106, .bool (((decide (m.Term = v1.2.2.1)) && ((decide (v1.2.2.2.1 = 0)) || (decide ((w64 (v1.2.2.2.1 - 1)) = m.From)))) && (!v2)))] .nil ?_
          obtain ⟨v3, hv, hF⟩ := ob_elim hF
          refine Wk_meet (⟨[(4, .ptr 4 0), (6, .ptr 6 0), (7, .ptr 7 0), (8, .ptr 8 0), (9, .ptr 9 0)], [(4, [.i 0, .i 0, .i 0, .i 0, .nils, .i 0, .i 0, .nils, .nils, .nils]), (6, [.i 0, .i 0]), (7, [.i v.Code, .i v.At]), (8, [.i v1.1, .i v1.2.1, .i v1.2.2.1, .i v3.1, .row 44 1, .i v1.2.2.2.2.2.1, .i v1.2.2.2.2.2.2.1, .row 20044 0, .row 40044 0, .row 60044 0]), (9, (c_Mail v3.2))], [(44, .z 31 2 1 (v1.2.2.2.2.1.map e_Entry)), (20044, .z 3 1 0 (v1.2.2.2.2.2.2.2.1.map e_i64)), (40044, .z 3 1 0 (v1.2.2.2.2.2.2.2.2.1.map e_i64)), (60044, .z 3 1 0 (v1.2.2.2.2.2.2.2.2.2.map e_i64))], [], []⟩ : S) ?_ ?_
          · have hF := hv
            refine Wk_split rfl (fun hb => ?_) (fun hb => ?_)
            · have hF := ite_t hF hb
              refine URs [] [4, 6, 7, 8, 9] [4, 6, 7, 8, 9] [44, 20044, 40044, 60044] [] [] [(8, [.i v1.1, .i v1.2.1, .i v1.2.2.1, .i (w64 (m.From + 1)), .row 44 1, .i v1.2.2.2.2.2.1, .i v1.2.2.2.2.2.2.1, .row 20044 0, .row 40044 0, .row 60044 0])] [] [] .nil ?_
              refine UR [] [4, 6, 7, 8, 9] [4, 6, 7, 8, 9] [44, 20044, 40044, 60044] [] [] [(9, [.i 2, .i x.ID, .i m.From, .i v1.2.2.1, .i 0, .i 0, .i 0, .nils, .bool true])] [] [] .nil ?_
              refine Wk_coeB 9 [.i 2, .i x.ID, .i m.From, .i v1.2.2.1, .i 0, .i 0, .i 0, .sl 2 (([] : List Entry).map e_Entry), .bool true] rfl (.cons (CoeS.refl _) (.cons (CoeS.refl _) (.cons (CoeS.refl _) (.cons (CoeS.refl _) (.cons (CoeS.refl _) (.cons (CoeS.refl _) (.cons (CoeS.refl _) (.cons (CoeS.nils 2) (.cons (CoeS.refl _) .nil))))))))) ?_
              exact Wk_met (fs := [4, 6, 7, 8, 9]) (bs := [4, 6, 7, 8, 9]) (rs := [44, 20044, 40044, 60044]) (ms := []) (aa := []) (nv := []) (by first | (rw [← some_elim hF]; kernel_rfl) | kernel_rfl)
            · have hF := ite_f hF hb
              refine Wk_skip ?_
              refine Wk_coeB 9 [.i 2, .i x.ID, .i m.From, .i v1.2.2.1, .i 0, .i 0, .i 0, .sl 2 (([] : List Entry).map e_Entry), .bool false] rfl (.cons (CoeS.refl _) (.cons (CoeS.refl _) (.cons (CoeS.refl _) (.cons (CoeS.refl _) (.cons (CoeS.refl _) (.cons (CoeS.refl _) (.cons (CoeS.refl _) (.cons (CoeS.nils 2) (.cons (CoeS.refl _) .nil))))))))) ?_
              exact Wk_met (fs := [4, 6, 7, 8, 9]) (bs := [4, 6, 7, 8, 9]) (rs := [44, 20044, 40044, 60044]) (ms := []) (aa := []) (nv := []) (by first | (rw [← some_elim hF]; kernel_rfl) | kernel_rfl)
          · refine UDs [.sealed] [4, 5, 6] [4, 6] [44, 20044, 40044, 60044] [] [(5, .sl 9 ([v3.2].map e_Mail))] [(4, [.i v1.1, .i v1.2.1, .i v1.2.2.1, .i v3.1, .row 44 1, .i v1.2.2.2.2.2.1, .i v1.2.2.2.2.2.2.1, .row 20044 0, .row 40044 0, .row 60044 0]), (6, [.i v.Code, .i v.At])] [] [] .nil ?_
            have hF := some_elim hF
            exact Wk_ret (hfin _ ⟨[], [], [], [], [], [], by first | (rw [← hF]; kernel_rfl) | kernel_rfl⟩)
        · have hF := ite_f hF hb
          refine ZRs [] [3, 4, 6, 7, 8, 9, 57, 116] [3, 4, 6, 7, 8, 9] [44, 20044, 40044, 60044] [(116, .bool (decide (m.Kind = 2)))] .nil ?_
          refine Wk_split rfl (fun hb => ?_) (fun hb => ?_)
          · have hF := ite_t hF hb
            refine Wk_seq ?_
            refine ZRs [] [3, 4, 6, 7, 8, 132] [3, 4, 6, 7, 8] [44, 20044, 40044, 60044] [(132, .bool (((!decide (v1.2.2.2.2.2.1 = 1)) || (!decide (m.Term = v1.2.2.1))) || (!m.Ok)))] .nil ?_
            refine Wk_split rfl (fun hb => ?_) (fun hb => ?_)
            · have hF := ite_t hF hb
              refine UDs [] [4, 5, 6] [4, 6] [44, 20044, 40044, 60044] [] [(5, .nils)] [(4, [.i v1.1, .i v1.2.1, .i v1.2.2.1, .i v1.2.2.2.1, .row 44 1, .i v1.2.2.2.2.2.1, .i v1.2.2.2.2.2.2.1, .row 20044 0, .row 40044 0, .row 60044 0]), (6, [.i v.Code, .i v.At])] [] [] .nil ?_
              have hF := some_elim hF
              exact Wk_ret (hfin _ ⟨[], [], [], [], [], [], by first | (rw [← hF]; kernel_rfl) | kernel_rfl⟩)
            · have hF := ite_f hF hb
              refine Wk_skip ?_
              refine Wk_seq ?_
              refine Wk_seq ?_
              obtain ⟨x8, h7, hF⟩ := ob_elim hF
              refine ZR [.callB (.bool x8)] [3, 4, 6, 7, 8, 140] [3, 4, 6, 7, 8] [44, 20044, 40044, 60044] [(140, .bool (!x8))] (.cons (R_Has_ok v1.2.2.2.2.2.2.2.1 m.From x8 h7) .nil) ?_
              obtain ⟨v4, hv, hF⟩ := ob_elim hF
              refine Wk_meet (⟨[(4, .ptr 4 0), (6, .ptr 6 0), (7, .ptr 7 0), (8, .ptr 8 0)], [(4, [.i 0, .i 0, .i 0, .i 0, .nils, .i 0, .i 0, .nils, .nils, .nils]), (6, [.i 0, .i 0]), (7, [.i v.Code, .i v.At]), (8, [.i v1.1, .i v1.2.1, .i v1.2.2.1, .i v1.2.2.2.1, .row 44 1, .i v1.2.2.2.2.2.1, .i v1.2.2.2.2.2.2.1, .row 20044 0, .row 40044 0, .row 60044 0])], [(44, .z 31 2 1 (v1.2.2.2.2.1.map e_Entry)), (20044, .z 3 1 0 (v4.map e_i64)), (40044, .z 3 1 0 (v1.2.2.2.2.2.2.2.2.1.map e_i64)), (60044, .z 3 1 0 (v1.2.2.2.2.2.2.2.2.2.map e_i64))], [], []⟩ : S) ?_ ?_
              · have hF := hv
                refine Wk_split rfl (fun hb => ?_) (fun hb => ?_)
                · have hF := ite_t hF hb
                  obtain ⟨h8, hF⟩ := asrt_elim hF
                  refine UR [.sealed, .xs ((v1.2.2.2.2.2.2.2.1 ++ ([m.From] : List Int)).map e_i64)] [4, 6, 7, 8] [4, 6, 7, 8] [44, 20044, 40044, 60044] [] [] [(8, [.i v1.1, .i v1.2.1, .i v1.2.2.1, .i v1.2.2.2.1, .row 44 1, .i v1.2.2.2.2.2.1, .i v1.2.2.2.2.2.2.1, .row 20044 1, .row 40044 0, .row 60044 0])] [(20044, .z 3 1 1 ((v1.2.2.2.2.2.2.2.1 ++ ([m.From] : List Int)).map e_i64))] [] (.cons (app_ok e_i64 v1.2.2.2.2.2.2.2.1 ([m.From] : List Int)) (.cons (appl_ok e_i64 h8) .nil)) ?_
                  exact Wk_met (fs := [4, 6, 7, 8]) (bs := [4, 6, 7, 8]) (rs := [44, 20044, 40044, 60044]) (ms := []) (aa := []) (nv := [(20044, ⟨0, true, true, false⟩)]) (by first | (rw [← some_elim hF]; kernel_rfl) | kernel_rfl)
                · have hF := ite_f hF hb
                  refine Wk_skip ?_
                  exact Wk_met (fs := [4, 6, 7, 8]) (bs := [4, 6, 7, 8]) (rs := [44, 20044, 40044, 60044]) (ms := []) (aa := []) (nv := []) (by first | (rw [← some_elim hF]; kernel_rfl) | kernel_rfl)
              · refine Wk_seq ?_
                refine Wk_seq ?_
                obtain ⟨x9, h9, hF⟩ := lt_split hF
                refine ZR [.nat (v4.length : Int), .callB (.bool x9)] [4, 6, 7, 8, 153] [4, 6, 7, 8] [44, 20044, 40044, 60044] [(153, .bool x9)] (.cons (len_ok e_i64 v4) (.cons (R_Majority_ok (v4.length : Int) v1.1 x9 h9) .nil)) ?_
                refine Wk_split rfl (fun hb => ?_) (fun hb => ?_)
                · have hF := ite_t hF hb
                  refine Wk_seq ?_
                  obtain ⟨x10, h10, hF⟩ := ob_elim hF
                  refine UR [.call (.agg (c_Node x10))] [4, 6, 7, 8] [4, 6, 7, 8] [] [] [] [(8, (c_Node x10))] [] [] (.cons (R_Leader_ok (⟨v1.1, v1.2.1, v1.2.2.1, v1.2.2.2.1, v1.2.2.2.2.1, v1.2.2.2.2.2.1, v1.2.2.2.2.2.2.1, v4, v1.2.2.2.2.2.2.2.2.1, v1.2.2.2.2.2.2.2.2.2⟩ : Node) x10 h10) .nil) ?_
                  refine Wk_seq ?_
                  obtain ⟨x11, h11, hF⟩ := ob_elim hF
                  refine UD [.callE [] [] [] [] (.row 158 0) ⟨[], [], [(158, .z 62 9 0 (x11.map e_Mail))], [], []⟩] [4, 5, 6] [4, 6] [158] [] [(5, .row 158 0)] [(4, (c_Node x10)), (6, [.i v.Code, .i v.At])] [(158, .z 62 9 0 (x11.map e_Mail))] [] (.cons (Pe.ren (R_Beats_ok x10 x11 h11) ⟨[], [(55, 158)], [], []⟩) .nil) ?_
                  have hF := some_elim hF
                  exact Wk_ret (hfin _ ⟨[], [], [], [], [], [], by first | (rw [← hF]; kernel_rfl) | kernel_rfl⟩)
                · have hF := ite_f hF hb
                  refine Wk_skip ?_
                  refine UDs [] [4, 5, 6] [4, 6] [44, 20044, 40044, 60044] [] [(5, .nils)] [(4, [.i v1.1, .i v1.2.1, .i v1.2.2.1, .i v1.2.2.2.1, .row 44 1, .i v1.2.2.2.2.2.1, .i v1.2.2.2.2.2.2.1, .row 20044 0, .row 40044 0, .row 60044 0]), (6, [.i v.Code, .i v.At])] [] [] .nil ?_
                  have hF := some_elim hF
                  exact Wk_ret (hfin _ ⟨[], [], [], [], [], [], by first | (rw [← hF]; kernel_rfl) | kernel_rfl⟩)
          · have hF := ite_f hF hb
            refine ZRs [] [3, 4, 6, 7, 8, 9, 162] [3, 4, 6, 7, 8, 9] [44, 20044, 40044, 60044] [(162, .bool (decide (m.Kind = 3)))] .nil ?_
            refine Wk_split rfl (fun hb => ?_) (fun hb => ?_)
            · have hF := ite_t hF hb
              refine URs [] [3, 4, 6, 7, 8, 9] [3, 4, 6, 7, 8, 9] [44, 20044, 40044, 60044] [] [] [(9, [.i 4, .i x.ID, .i m.From, .i v1.2.2.1, .i 0, .i 0, .i 0, .nils, .bool false])] [] [] .nil ?_
              refine Wk_seq ?_
              refine ZRs [] [3, 4, 6, 7, 8, 9, 169] [3, 4, 6, 7, 8, 9] [44, 20044, 40044, 60044] [(169, .bool (decide (m.Term < v1.2.2.1)))] .nil ?_
              refine Wk_split rfl (fun hb => ?_) (fun hb => ?_)
              · have hF := ite_t hF hb
                refine Wk_seq ?_
                refine WDL ([(⟨4, x.ID, m.From, v1.2.2.1, 0, 0, 0, ([] : List Entry), false⟩ : Mail)]) (fun v5 : List Mail => ⟨[(4, .ptr 4 0), (5, .sl 9 (v5.map e_Mail)), (6, .ptr 6 0)], [(4, [.i v1.1, .i v1.2.1, .i v1.2.2.1, .i v1.2.2.2.1, .row 44 1, .i v1.2.2.2.2.2.1, .i v1.2.2.2.2.2.2.1, .row 20044 0, .row 40044 0, .row 60044 0]), (6, [.i v.Code, .i v.At])], [(44, .z 31 2 1 (v1.2.2.2.2.1.map e_Entry)), (20044, .z 3 1 0 (v1.2.2.2.2.2.2.2.1.map e_i64)), (40044, .z 3 1 0 (v1.2.2.2.2.2.2.2.2.1.map e_i64)), (60044, .z 3 1 0 (v1.2.2.2.2.2.2.2.2.2.map e_i64))], [], []⟩) [.sealed] [4, 5, 6] [4, 6] [44, 20044, 40044, 60044] [] [] [] .nil (by kernel_rfl) (fun v5 hv => ?_)
                have hF := lt_elim hF hv
                have hF := some_elim hF
                exact Wk_ret (hfin _ ⟨[], [], [], [], [], [], by first | (rw [← hF]; kernel_rfl) | kernel_rfl⟩)
              · have hF := ite_f hF hb
                refine Wk_skip ?_
                refine Wk_seq ?_
                refine ZRs [] [3, 4, 6, 7, 8, 9, 176] [3, 4, 6, 7, 8, 9] [44, 20044, 40044, 60044] [(176, .bool (decide (v1.2.2.2.2.2.1 = 2)))] .nil ?_
                refine Wk_split rfl (fun hb => ?_) (fun hb => ?_)
                · have hF := ite_t hF hb
                  refine UDs [] [4, 5, 6] [4, 6] [44, 20044, 40044, 60044] [] [(5, .nils)] [(4, [.i v1.1, .i v1.2.1, .i v1.2.2.1, .i v1.2.2.2.1, .row 44 1, .i v1.2.2.2.2.2.1, .i v1.2.2.2.2.2.2.1, .row 20044 0, .row 40044 0, .row 60044 0]), (6, [.i v.Code, .i v.At])] [] [] .nil ?_
                  have hF := some_elim hF
                  exact Wk_ret (hfin _ ⟨[], [], [], [], [], [], by first | (rw [← hF]; kernel_rfl) | kernel_rfl⟩)
                · have hF := ite_f hF hb
                  refine Wk_skip ?_
                  refine Wk_seq ?_
                  obtain ⟨x12, h12, hF⟩ := ob_elim hF
                  refine UR [.callE [] [] [] [] (.agg [.i x12.1, .i x12.2.1, .i x12.2.2.1, .i x12.2.2.2.1, .row 180 1, .i x12.2.2.2.2.2.1, .i x12.2.2.2.2.2.2, .row 20180 0, .row 40180 0, .row 60180 0]) ⟨[], [], [(180, .z 31 2 1 (x12.2.2.2.2.1.map e_Entry)), (20180, .z 3 1 0 (([] : List Int).map e_i64)), (40180, .z 3 1 0 (([] : List Int).map e_i64)), (60180, .z 3 1 0 (([] : List Int).map e_i64))], [], []⟩] [3, 4, 6, 7, 8, 9] [3, 4, 6, 7, 8, 9] [180, 20180, 40180, 60180] [] [] [(8, [.i x12.1, .i x12.2.1, .i x12.2.2.1, .i x12.2.2.2.1, .row 180 1, .i x12.2.2.2.2.2.1, .i x12.2.2.2.2.2.2, .row 20180 0, .row 40180 0, .row 60180 0])] [(180, .z 31 2 1 (x12.2.2.2.2.1.map e_Entry)), (20180, .z 3 1 0 (([] : List Int).map e_i64)), (40180, .z 3 1 0 (([] : List Int).map e_i64)), (60180, .z 3 1 0 (([] : List Int).map e_i64))] [] (.cons (Pe.ren (R_Follower_ok (⟨v1.1, v1.2.1, v1.2.2.1, v1.2.2.2.1, v1.2.2.2.2.1, v1.2.2.2.2.2.1, v1.2.2.2.2.2.2.1, v1.2.2.2.2.2.2.2.1, v1.2.2.2.2.2.2.2.2.1, v1.2.2.2.2.2.2.2.2.2⟩ : Node) x12 h12) ⟨[], [(13, 180), (71001, 20180), (71002, 40180), (71003, 60180)], [], []⟩) .nil) ?_
                  refine Wk_seq ?_
                  obtain ⟨x13, h13, hF⟩ := ob_elim hF
                  refine UR [.callE [] [] [] [] (.tup [.row 190 0, .bool x13.2.1, .agg [.i x13.2.2.Code, .i x13.2.2.At]]) ⟨[], [], [(190, .z 31 2 0 (x13.1.map e_Entry))], [], []⟩] [3, 4, 6, 7, 8, 9, 11, 12, 13] [3, 4, 6, 7, 8, 9, 13] [180, 190, 20180, 40180, 60180] [] [(11, .row 190 0), (12, .bool x13.2.1), (13, .ptr 13 0)] [(13, [.i x13.2.2.Code, .i x13.2.2.At])] [(180, ⟨31, 2, 1, (x12.2.2.2.2.1.map e_Entry).length, 0, true, 0, [], (x12.2.2.2.2.1.map e_Entry)⟩), (190, .z 31 2 0 (x13.1.map e_Entry))] [] (.cons (Pe.ren (R_PutLog_ok x12.2.2.2.2.1 m.A m.B m.Entries x13 h13) ⟨[], [(55, 190)], [], []⟩) .nil) ?_
                  refine Wk_seq ?_
                  refine ZRs [] [3, 4, 6, 7, 8, 9, 11, 12, 196] [3, 4, 6, 7, 8, 9] [180, 190, 20180, 40180, 60180] [(196, .bool (!decide (x13.2.2.Code = 0)))] .nil ?_
                  refine Wk_split rfl (fun hb => ?_) (fun hb => ?_)
                  · have hF := ite_t hF hb
                    refine UDs [] [4, 5, 6] [4, 6] [180, 20180, 40180, 60180] [] [(5, .nils)] [(4, [.i x12.1, .i x12.2.1, .i x12.2.2.1, .i x12.2.2.2.1, .row 180 1, .i x12.2.2.2.2.2.1, .i x12.2.2.2.2.2.2, .row 20180 0, .row 40180 0, .row 60180 0]), (6, [.i v.Code, .i v.At])] [] [] .nil ?_
                    have hF := some_elim hF
                    exact Wk_ret (hfin _ ⟨[], [], [], [], [], [], by first | (rw [← hF]; kernel_rfl) | kernel_rfl⟩)
                  · have hF := ite_f hF hb
                    refine Wk_skip ?_
                    refine Wk_seq ?_
                    refine ZRs [] [3, 4, 6, 7, 8, 9, 11, 200] [3, 4, 6, 7, 8, 9] [180, 190, 20180, 40180, 60180] [(200, .bool (!x13.2.1))] .nil ?_
                    refine Wk_split rfl (fun hb => ?_) (fun hb => ?_)
                    · have hF := ite_t hF hb
                      refine URs [.nat (x12.2.2.2.2.1.length : Int)] [3, 4, 6, 7, 8, 9] [3, 4, 6, 7, 8, 9] [180, 20180, 40180, 60180] [] [] [(9, [.i 4, .i x.ID, .i m.From, .i v1.2.2.1, .i (x12.2.2.2.2.1.length : Int), .i 0, .i 0, .nils, .bool false])] [] [] (.cons (len_ok e_Entry x12.2.2.2.2.1) .nil) ?_
                      refine Wk_seq ?_
                      refine ZRs [] [3, 4, 6, 7, 8, 9, 210] [3, 4, 6, 7, 8, 9] [180, 20180, 40180, 60180] [(210, .bool (decide ((w64 (m.A - 1)) < (x12.2.2.2.2.1.length : Int))))] .nil ?_
                      obtain ⟨v6, hv, hF⟩ := ob_elim hF
                      refine Wk_meet (⟨[(4, .ptr 4 0), (6, .ptr 6 0), (7, .ptr 7 0), (8, .ptr 8 0), (9, .ptr 9 0)], [(4, [.i 0, .i 0, .i 0, .i 0, .nils, .i 0, .i 0, .nils, .nils, .nils]), (6, [.i 0, .i 0]), (7, [.i v.Code, .i v.At]), (8, [.i x12.1, .i x12.2.1, .i x12.2.2.1, .i x12.2.2.2.1, .row 180 1, .i x12.2.2.2.2.2.1, .i x12.2.2.2.2.2.2, .row 20180 0, .row 40180 0, .row 60180 0]), (9, (c_Mail v6))], [(180, ⟨31, 2, 1, (x12.2.2.2.2.1.map e_Entry).length, 0, true, 0, [], (x12.2.2.2.2.1.map e_Entry)⟩), (20180, .z 3 1 0 (([] : List Int).map e_i64)), (40180, .z 3 1 0 (([] : List Int).map e_i64)), (60180, .z 3 1 0 (([] : List Int).map e_i64))], [], []⟩ : S) ?_ ?_
                      · have hF := hv
                        refine Wk_split rfl (fun hb => ?_) (fun hb => ?_)
                        · have hF := ite_t hF hb
                          refine UR [] [4, 6, 7, 8, 9] [4, 6, 7, 8, 9] [180, 20180, 40180, 60180] [] [] [(9, [.i 4, .i x.ID, .i m.From, .i v1.2.2.1, .i (w64 (m.A - 1)), .i 0, .i 0, .nils, .bool false])] [] [] .nil ?_
                          refine Wk_coeB 9 [.i 4, .i x.ID, .i m.From, .i v1.2.2.1, .i (w64 (m.A - 1)), .i 0, .i 0, .sl 2 (([] : List Entry).map e_Entry), .bool false] rfl (.cons (CoeS.refl _) (.cons (CoeS.refl _) (.cons (CoeS.refl _) (.cons (CoeS.refl _) (.cons (CoeS.refl _) (.cons (CoeS.refl _) (.cons (CoeS.refl _) (.cons (CoeS.nils 2) (.cons (CoeS.refl _) .nil))))))))) ?_
                          exact Wk_met (fs := [4, 6, 7, 8, 9]) (bs := [4, 6, 7, 8, 9]) (rs := [180, 20180, 40180, 60180]) (ms := []) (aa := []) (nv := []) (by first | (rw [← some_elim hF]; kernel_rfl) | kernel_rfl)
                        · have hF := ite_f hF hb
                          refine Wk_skip ?_
                          refine Wk_coeB 9 [.i 4, .i x.ID, .i m.From, .i v1.2.2.1, .i (x12.2.2.2.2.1.length : Int), .i 0, .i 0, .sl 2 (([] : List Entry).map e_Entry), .bool false] rfl (.cons (CoeS.refl _) (.cons (CoeS.refl _) (.cons (CoeS.refl _) (.cons (CoeS.refl _) (.cons (CoeS.refl _) (.cons (CoeS.refl _) (.cons (CoeS.refl _) (.cons (CoeS.nils 2) (.cons (CoeS.refl _) .nil))))))))) ?_
                          exact Wk_met (fs := [4, 6, 7, 8, 9]) (bs := [4, 6, 7, 8, 9]) (rs := [180, 20180, 40180, 60180]) (ms := []) (aa := []) (nv := []) (by first | (rw [← some_elim hF]; kernel_rfl) | kernel_rfl)
                      · refine Wk_seq ?_
                        refine ZRs [] [4, 6, 7, 8, 9, 217] [4, 6, 7, 8, 9] [180, 20180, 40180, 60180] [(217, .bool (decide (v6.A < 0)))] .nil ?_
                        obtain ⟨v7, hv, hF⟩ := ob_elim hF
                        refine Wk_meet (⟨[(4, .ptr 4 0), (6, .ptr 6 0), (7, .ptr 7 0), (8, .ptr 8 0), (9, .ptr 9 0)], [(4, [.i 0, .i 0, .i 0, .i 0, .nils, .i 0, .i 0, .nils, .nils, .nils]), (6, [.i 0, .i 0]), (7, [.i v.Code, .i v.At]), (8, [.i x12.1, .i x12.2.1, .i x12.2.2.1, .i x12.2.2.2.1, .row 180 1, .i x12.2.2.2.2.2.1, .i x12.2.2.2.2.2.2, .row 20180 0, .row 40180 0, .row 60180 0]), (9, (c_Mail v7))], [(180, ⟨31, 2, 1, (x12.2.2.2.2.1.map e_Entry).length, 0, true, 0, [], (x12.2.2.2.2.1.map e_Entry)⟩), (20180, .z 3 1 0 (([] : List Int).map e_i64)), (40180, .z 3 1 0 (([] : List Int).map e_i64)), (60180, .z 3 1 0 (([] : List Int).map e_i64))], [], []⟩ : S) ?_ ?_
                        · have hF := hv
                          refine Wk_split rfl (fun hb => ?_) (fun hb => ?_)
                          · have hF := ite_t hF hb
                            refine UR [] [4, 6, 7, 8, 9] [4, 6, 7, 8, 9] [180, 20180, 40180, 60180] [] [] [(9, [.i v6.Kind, .i v6.From, .i v6.To, .i v6.Term, .i 0, .i v6.B, .i v6.C0, .sl 2 (v6.Entries.map e_Entry), .bool v6.Ok])] [] [] .nil ?_
                            exact Wk_met (fs := [4, 6, 7, 8, 9]) (bs := [4, 6, 7, 8, 9]) (rs := [180, 20180, 40180, 60180]) (ms := []) (aa := []) (nv := []) (by first | (rw [← some_elim hF]; kernel_rfl) | kernel_rfl)
                          · have hF := ite_f hF hb
                            refine Wk_skip ?_
                            exact Wk_met (fs := [4, 6, 7, 8, 9]) (bs := [4, 6, 7, 8, 9]) (rs := [180, 20180, 40180, 60180]) (ms := []) (aa := []) (nv := []) (by first | (rw [← some_elim hF]; kernel_rfl) | kernel_rfl)
                        · refine UDs [.sealed] [4, 5, 6] [4, 6] [180, 20180, 40180, 60180] [] [(5, .sl 9 ([v7].map e_Mail))] [(4, [.i x12.1, .i x12.2.1, .i x12.2.2.1, .i x12.2.2.2.1, .row 180 1, .i x12.2.2.2.2.2.1, .i x12.2.2.2.2.2.2, .row 20180 0, .row 40180 0, .row 60180 0]), (6, [.i v.Code, .i v.At])] [] [] .nil ?_
                          have hF := some_elim hF
                          exact Wk_ret (hfin _ ⟨[], [], [], [], [], [], by first | (rw [← hF]; kernel_rfl) | kernel_rfl⟩)
                    · have hF := ite_f hF hb
                      refine Wk_skip ?_
                      refine Wk_seq ?_
                      refine ZRs [] [3, 4, 6, 7, 8, 9, 11, 14] [3, 4, 6, 7, 8, 9] [180, 190, 20180, 40180, 60180] [(14, .i 0)] .nil ?_
                      refine Wk_meetP (fun v8 : Unit => (⟨[(3, .ptr 3 0), (4, .ptr 4 0), (6, .ptr 6 0), (7, .ptr 7 0), (8, .ptr 8 0), (9, .ptr 9 0), (11, .row 190 0)], [(3, (c_Mail m)), (4, [.i 0, .i 0, .i 0, .i 0, .nils, .i 0, .i 0, .nils, .nils, .nils]), (6, [.i 0, .i 0]), (7, [.i v.Code, .i v.At]), (8, [.i x12.1, .i x12.2.1, .i x12.2.2.1, .i x12.2.2.2.1, .row 180 1, .i x12.2.2.2.2.2.1, .i x12.2.2.2.2.2.2, .row 20180 0, .row 40180 0, .row 60180 0]), (9, [.i 4, .i x.ID, .i m.From, .i v1.2.2.1, .i 0, .i 0, .i 0, .nils, .bool false])], [(180, ⟨31, 2, 1, (x12.2.2.2.2.1.map e_Entry).length, 0, true, 0, [], (x12.2.2.2.2.1.map e_Entry)⟩), (190, .z 31 2 0 (x13.1.map e_Entry)), (20180, .z 3 1 0 (([] : List Int).map e_i64)), (40180, .z 3 1 0 (([] : List Int).map e_i64)), (60180, .z 3 1 0 (([] : List Int).map e_i64))], [], []⟩ : S)) (fun v8 => R_TakeNode_J1 x m v v1 x12 x13 v8 = some r) ?_ ?_
                      · refine Wk_block ?_
                        unfold R_TakeNode_L1 at hF
                        refine Wk_trim (fs := [3, 4, 6, 7, 8, 9, 11, 14]) (bs := [3, 4, 6, 7, 8, 9]) (rs := [180, 190, 20180, 40180, 60180]) (ms := []) (aa := []) (nv := []) (t := (fun v12 : Int => (⟨[(3, .ptr 3 0), (4, .ptr 4 0), (6, .ptr 6 0), (7, .ptr 7 0), (8, .ptr 8 0), (9, .ptr 9 0), (11, .row 190 0), (14, .i v12)], [(3, (c_Mail m)), (4, [.i 0, .i 0, .i 0, .i 0, .nils, .i 0, .i 0, .nils, .nils, .nils]), (6, [.i 0, .i 0]), (7, [.i v.Code, .i v.At]), (8, [.i x12.1, .i x12.2.1, .i x12.2.2.1, .i x12.2.2.2.1, .row 180 1, .i x12.2.2.2.2.2.1, .i x12.2.2.2.2.2.2, .row 20180 0, .row 40180 0, .row 60180 0]), (9, [.i 4, .i x.ID, .i m.From, .i v1.2.2.1, .i 0, .i 0, .i 0, .nils, .bool false])], [(180, ⟨31, 2, 1, (x12.2.2.2.2.1.map e_Entry).length, 0, true, 0, [], (x12.2.2.2.2.1.map e_Entry)⟩), (190, .z 31 2 0 (x13.1.map e_Entry)), (20180, .z 3 1 0 (([] : List Int).map e_i64)), (40180, .z 3 1 0 (([] : List Int).map e_i64)), (60180, .z 3 1 0 (([] : List Int).map e_i64))], [], []⟩ : S)) 0) (by kernel_rfl) ?_
                        refine Wk_iter (step := fun y => R_TakeNode_B1 x m v v1 x12 x13 y) (r := r) (fun v12 : Int => (⟨[(3, .ptr 3 0), (4, .ptr 4 0), (6, .ptr 6 0), (7, .ptr 7 0), (8, .ptr 8 0), (9, .ptr 9 0), (11, .row 190 0), (14, .i v12)], [(3, (c_Mail m)), (4, [.i 0, .i 0, .i 0, .i 0, .nils, .i 0, .i 0, .nils, .nils, .nils]), (6, [.i 0, .i 0]), (7, [.i v.Code, .i v.At]), (8, [.i x12.1, .i x12.2.1, .i x12.2.2.1, .i x12.2.2.2.1, .row 180 1, .i x12.2.2.2.2.2.1, .i x12.2.2.2.2.2.2, .row 20180 0, .row 40180 0, .row 60180 0]), (9, [.i 4, .i x.ID, .i m.From, .i v1.2.2.1, .i 0, .i 0, .i 0, .nils, .bool false])], [(180, ⟨31, 2, 1, (x12.2.2.2.2.1.map e_Entry).length, 0, true, 0, [], (x12.2.2.2.2.1.map e_Entry)⟩), (190, .z 31 2 0 (x13.1.map e_Entry)), (20180, .z 3 1 0 (([] : List Int).map e_i64)), (40180, .z 3 1 0 (([] : List Int).map e_i64)), (60180, .z 3 1 0 (([] : List Int).map e_i64))], [], []⟩ : S)) 0 hF ?_
                        intro n1 v12 y1 hF ih1 dn1
                        have hF : R_TakeNode_B1 x m v v1 x12 x13 v12 = some y1 := hF
                        unfold R_TakeNode_B1 at hF
                        refine Wk_seq ?_
                        refine ZRs [] [3, 4, 6, 7, 8, 9, 11, 14, 226] [3, 4, 6, 7, 8, 9] [180, 190, 20180, 40180, 60180] [(226, .bool (decide (v12 < x12.2.2.2.2.2.2)))] .nil ?_
                        refine Wk_split rfl (fun hb => ?_) (fun hb => ?_)
                        · have hF := ite_t hF hb
                          refine Wk_skip ?_
                          refine Wk_seq ?_
                          refine Wk_block ?_
                          refine Wk_seq ?_
                          obtain ⟨h14, hF⟩ := asrt_elim hF
                          obtain ⟨h15, hF⟩ := asrt_elim hF
                          obtain ⟨h16, hF⟩ := asrt_elim hF
                          obtain ⟨h17, hF⟩ := asrt_elim hF
                          refine ZD [.nat (x13.1.length : Int), .av (e_Entry (lget x13.1 v12)), .av (e_Entry (lget x12.2.2.2.2.1 v12))] [3, 4, 6, 7, 8, 9, 11, 14, 244] [3, 4, 6, 7, 8, 9] [180, 190, 20180, 40180, 60180] [(244, .bool ((decide ((x13.1.length : Int) ≤ v12)) || (!(decide ((lget x13.1 v12).Term = (lget x12.2.2.2.2.1 v12).Term) && (decide ((lget x13.1 v12).Text = (lget x12.2.2.2.2.1 v12).Text) && true)))))] (.cons (len_ok e_Entry x13.1) (.cons (fun (ga0 : (!(decide ((x13.1.length : Int) ≤ v12))) = true) => (ixr_ok e_Entry (h14 ga0))) (.cons (fun (ga0 : (!(decide ((x13.1.length : Int) ≤ v12))) = true) => (ldr_ok e_Entry (h15 ga0))) (.cons (fun (ga0 : (!(decide ((x13.1.length : Int) ≤ v12))) = true) => (ixr_ok e_Entry (h16 ga0))) (.cons (fun (ga0 : (!(decide ((x13.1.length : Int) ≤ v12))) = true) => (ldr_ok e_Entry (h17 ga0))) .nil))))) ?_
                          refine Wk_split rfl (fun hb => ?_) (fun hb => ?_)
                          · have hF := ite_t hF hb
                            refine UDs [] [4, 5, 6] [4, 6] [180, 20180, 40180, 60180] [] [(5, .nils)] [(4, [.i x12.1, .i x12.2.1, .i x12.2.2.1, .i x12.2.2.2.1, .row 180 1, .i x12.2.2.2.2.2.1, .i x12.2.2.2.2.2.2, .row 20180 0, .row 40180 0, .row 60180 0]), (6, [.i v.Code, .i v.At])] [] [] .nil ?_
                            have hF := ret_done hF dn1
                            have hF := some_elim hF
                            exact Wk_ret (hfin _ ⟨[], [], [], [], [], [], by first | (rw [← hF]; kernel_rfl) | kernel_rfl⟩)
                          · have hF := ite_f hF hb
                            refine Wk_skip ?_
                            refine Wk_blk ?_
                            refine ZR [] [3, 4, 6, 7, 8, 9, 11, 14] [3, 4, 6, 7, 8, 9] [180, 190, 20180, 40180, 60180] [(14, .i (w64 (v12 + 1)))] .nil ?_
                            refine Wk_trim (fs := [3, 4, 6, 7, 8, 9, 11, 14]) (bs := [3, 4, 6, 7, 8, 9]) (rs := [180, 190, 20180, 40180, 60180]) (ms := []) (aa := []) (nv := []) ?_ (ih1 _ (some_elim hF).symm)
                            kernel_rfl
                        · have hF := ite_f hF hb
                          refine Wk_exit rfl ?_
                          have hF := inrO_done hF dn1
                          exact Wk_metP () [3, 4, 6, 7, 8, 9, 11] [3, 4, 6, 7, 8, 9] [180, 190, 20180, 40180, 60180] [] [] [] hF (by kernel_rfl)
                      · intro v8 hF
                        have hF : R_TakeNode_J1 x m v v1 x12 x13 v8 = some r := hF
                        unfold R_TakeNode_J1 at hF
                        refine URs [] [3, 4, 6, 7, 8, 9] [3, 4, 6, 7, 8, 9] [190, 20180, 40180, 60180] [] [] [(8, [.i x12.1, .i x12.2.1, .i x12.2.2.1, .i x12.2.2.2.1, .row 190 0, .i x12.2.2.2.2.2.1, .i x12.2.2.2.2.2.2, .row 20180 0, .row 40180 0, .row 60180 0])] [] [] .nil ?_
                        refine URs [] [3, 4, 6, 7, 8, 9] [3, 4, 6, 7, 8, 9] [190, 20180, 40180, 60180] [] [] [(9, [.i 4, .i x.ID, .i m.From, .i v1.2.2.1, .i 0, .i 0, .i 0, .nils, .bool true])] [] [] .nil ?_
                        refine URs [.nat (m.Entries.length : Int)] [3, 4, 6, 7, 8, 9] [3, 4, 6, 7, 8, 9] [190, 20180, 40180, 60180] [] [] [(9, [.i 4, .i x.ID, .i m.From, .i v1.2.2.1, .i (w64 (m.A + (m.Entries.length : Int))), .i 0, .i 0, .nils, .bool true])] [] [] (.cons (len_ok e_Entry m.Entries) .nil) ?_
                        refine ZRs [] [4, 6, 7, 8, 9, 15] [4, 6, 7, 8, 9] [190, 20180, 40180, 60180] [(15, .i m.C0)] .nil ?_
                        refine Wk_seq ?_
                        refine ZRs [] [4, 6, 7, 8, 9, 15, 262] [4, 6, 7, 8, 9] [190, 20180, 40180, 60180] [(262, .bool (decide ((w64 (m.A + (m.Entries.length : Int))) < m.C0)))] .nil ?_
                        obtain ⟨v9, hv, hF⟩ := ob_elim hF
                        refine Wk_meet (⟨[(4, .ptr 4 0), (6, .ptr 6 0), (7, .ptr 7 0), (8, .ptr 8 0), (9, .ptr 9 0), (15, .i v9)], [(4, [.i 0, .i 0, .i 0, .i 0, .nils, .i 0, .i 0, .nils, .nils, .nils]), (6, [.i 0, .i 0]), (7, [.i v.Code, .i v.At]), (8, [.i x12.1, .i x12.2.1, .i x12.2.2.1, .i x12.2.2.2.1, .row 190 0, .i x12.2.2.2.2.2.1, .i x12.2.2.2.2.2.2, .row 20180 0, .row 40180 0, .row 60180 0]), (9, [.i 4, .i x.ID, .i m.From, .i v1.2.2.1, .i (w64 (m.A + (m.Entries.length : Int))), .i 0, .i 0, .nils, .bool true])], [(190, .z 31 2 0 (x13.1.map e_Entry)), (20180, .z 3 1 0 (([] : List Int).map e_i64)), (40180, .z 3 1 0 (([] : List Int).map e_i64)), (60180, .z 3 1 0 (([] : List Int).map e_i64))], [], []⟩ : S) ?_ ?_
                        · have hF := hv
                          refine Wk_split rfl (fun hb => ?_) (fun hb => ?_)
                          · have hF := ite_t hF hb
                            refine ZR [] [4, 6, 7, 8, 9, 15] [4, 6, 7, 8, 9] [190, 20180, 40180, 60180] [(15, .i (w64 (m.A + (m.Entries.length : Int))))] .nil ?_
                            exact Wk_met (fs := [4, 6, 7, 8, 9, 15]) (bs := [4, 6, 7, 8, 9]) (rs := [190, 20180, 40180, 60180]) (ms := []) (aa := []) (nv := []) (by first | (rw [← some_elim hF]; kernel_rfl) | kernel_rfl)
                          · have hF := ite_f hF hb
                            refine Wk_skip ?_
                            exact Wk_met (fs := [4, 6, 7, 8, 9, 15]) (bs := [4, 6, 7, 8, 9]) (rs := [190, 20180, 40180, 60180]) (ms := []) (aa := []) (nv := []) (by first | (rw [← some_elim hF]; kernel_rfl) | kernel_rfl)
                        · refine Wk_seq ?_
                          refine ZRs [] [4, 6, 7, 8, 9, 15, 268] [4, 6, 7, 8, 9] [190, 20180, 40180, 60180] [(268, .bool (decide (x12.2.2.2.2.2.2 < v9)))] .nil ?_
                          obtain ⟨v10, hv, hF⟩ := ob_elim hF
                          refine Wk_meet (⟨[(4, .ptr 4 0), (6, .ptr 6 0), (7, .ptr 7 0), (8, .ptr 8 0), (9, .ptr 9 0)], [(4, [.i 0, .i 0, .i 0, .i 0, .nils, .i 0, .i 0, .nils, .nils, .nils]), (6, [.i 0, .i 0]), (7, [.i v.Code, .i v.At]), (8, [.i x12.1, .i x12.2.1, .i x12.2.2.1, .i x12.2.2.2.1, .row 190 0, .i x12.2.2.2.2.2.1, .i v10, .row 20180 0, .row 40180 0, .row 60180 0]), (9, [.i 4, .i x.ID, .i m.From, .i v1.2.2.1, .i (w64 (m.A + (m.Entries.length : Int))), .i 0, .i 0, .nils, .bool true])], [(190, .z 31 2 0 (x13.1.map e_Entry)), (20180, .z 3 1 0 (([] : List Int).map e_i64)), (40180, .z 3 1 0 (([] : List Int).map e_i64)), (60180, .z 3 1 0 (([] : List Int).map e_i64))], [], []⟩ : S) ?_ ?_
                          · have hF := hv
                            refine Wk_split rfl (fun hb => ?_) (fun hb => ?_)
                            · have hF := ite_t hF hb
                              refine UR [] [4, 6, 7, 8, 9] [4, 6, 7, 8, 9] [190, 20180, 40180, 60180] [] [] [(8, [.i x12.1, .i x12.2.1, .i x12.2.2.1, .i x12.2.2.2.1, .row 190 0, .i x12.2.2.2.2.2.1, .i v9, .row 20180 0, .row 40180 0, .row 60180 0])] [] [] .nil ?_
                              exact Wk_met (fs := [4, 6, 7, 8, 9]) (bs := [4, 6, 7, 8, 9]) (rs := [190, 20180, 40180, 60180]) (ms := []) (aa := []) (nv := []) (by first | (rw [← some_elim hF]; kernel_rfl) | kernel_rfl)
                            · have hF := ite_f hF hb
                              refine Wk_skip ?_
                              exact Wk_met (fs := [4, 6, 7, 8, 9]) (bs := [4, 6, 7, 8, 9]) (rs := [190, 20180, 40180, 60180]) (ms := []) (aa := []) (nv := []) (by first | (rw [← some_elim hF]; kernel_rfl) | kernel_rfl)
                          · refine Wk_seq ?_
                            refine WDL ([(⟨4, x.ID, m.From, v1.2.2.1, w64 (m.A + (m.Entries.length : Int)), 0, 0, ([] : List Entry), true⟩ : Mail)]) (fun v11 : List Mail => ⟨[(4, .ptr 4 0), (5, .sl 9 (v11.map e_Mail)), (6, .ptr 6 0)], [(4, [.i x12.1, .i x12.2.1, .i x12.2.2.1, .i x12.2.2.2.1, .row 190 0, .i x12.2.2.2.2.2.1, .i v10, .row 20180 0, .row 40180 0, .row 60180 0]), (6, [.i v.Code, .i v.At])], [(190, .z 31 2 0 (x13.1.map e_Entry)), (20180, .z 3 1 0 (([] : List Int).map e_i64)), (40180, .z 3 1 0 (([] : List Int).map e_i64)), (60180, .z 3 1 0 (([] : List Int).map e_i64))], [], []⟩) [.sealed] [4, 5, 6] [4, 6] [190, 20180, 40180, 60180] [] [] [] .nil (by kernel_rfl) (fun v11 hv => ?_)
                            have hF := lt_elim hF hv
                            have hF := some_elim hF
                            exact Wk_ret (hfin _ ⟨[], [], [], [], [], [], by first | (rw [← hF]; kernel_rfl) | kernel_rfl⟩)
            · have hF := ite_f hF hb
              refine Wk_skip ?_
              refine Wk_blk ?_
              refine Wk_seq ?_
              refine ZRs [] [3, 4, 6, 7, 8, 284] [3, 4, 6, 7, 8] [44, 20044, 40044, 60044] [(284, .bool ((!decide (v1.2.2.2.2.2.1 = 2)) || (!decide (m.Term = v1.2.2.1))))] .nil ?_
              refine Wk_split rfl (fun hb => ?_) (fun hb => ?_)
              · have hF := ite_t hF hb
                refine UDs [] [4, 5, 6] [4, 6] [44, 20044, 40044, 60044] [] [(5, .nils)] [(4, [.i v1.1, .i v1.2.1, .i v1.2.2.1, .i v1.2.2.2.1, .row 44 1, .i v1.2.2.2.2.2.1, .i v1.2.2.2.2.2.2.1, .row 20044 0, .row 40044 0, .row 60044 0]), (6, [.i v.Code, .i v.At])] [] [] .nil ?_
                have hF := some_elim hF
                exact Wk_ret (hfin _ ⟨[], [], [], [], [], [], by first | (rw [← hF]; kernel_rfl) | kernel_rfl⟩)
              · have hF := ite_f hF hb
                refine Wk_skip ?_
                refine ZRs [] [3, 4, 6, 7, 8, 16] [3, 4, 6, 7, 8] [44, 20044, 40044, 60044] [(16, .i m.From)] .nil ?_
                refine Wk_seq ?_
                refine ZRs [] [3, 4, 6, 7, 8, 16, 290] [3, 4, 6, 7, 8] [44, 20044, 40044, 60044] [(290, .bool m.Ok)] .nil ?_
                refine Wk_split rfl (fun hb => ?_) (fun hb => ?_)
                · have hF := ite_t hF hb
                  refine ZRs [] [4, 6, 7, 8, 16, 17] [4, 6, 7, 8] [44, 20044, 40044, 60044] [(17, .i m.A)] .nil ?_
                  refine Wk_seq ?_
                  refine ZRs [.nat (v1.2.2.2.2.1.length : Int)] [4, 6, 7, 8, 16, 17, 297] [4, 6, 7, 8] [44, 20044, 40044, 60044] [(297, .bool (decide ((v1.2.2.2.2.1.length : Int) < m.A)))] (.cons (len_ok e_Entry v1.2.2.2.2.1) .nil) ?_
                  obtain ⟨v13, hv, hF⟩ := ob_elim hF
                  refine Wk_meet (⟨[(4, .ptr 4 0), (6, .ptr 6 0), (7, .ptr 7 0), (8, .ptr 8 0), (16, .i m.From), (17, .i v13)], [(4, [.i 0, .i 0, .i 0, .i 0, .nils, .i 0, .i 0, .nils, .nils, .nils]), (6, [.i 0, .i 0]), (7, [.i v.Code, .i v.At]), (8, [.i v1.1, .i v1.2.1, .i v1.2.2.1, .i v1.2.2.2.1, .row 44 1, .i v1.2.2.2.2.2.1, .i v1.2.2.2.2.2.2.1, .row 20044 0, .row 40044 0, .row 60044 0])], [(44, .z 31 2 1 (v1.2.2.2.2.1.map e_Entry)), (20044, .z 3 1 0 (v1.2.2.2.2.2.2.2.1.map e_i64)), (40044, .z 3 1 0 (v1.2.2.2.2.2.2.2.2.1.map e_i64)), (60044, .z 3 1 0 (v1.2.2.2.2.2.2.2.2.2.map e_i64))], [], []⟩ : S) ?_ ?_
                  · have hF := hv
                    refine Wk_split rfl (fun hb => ?_) (fun hb => ?_)
                    · have hF := ite_t hF hb
                      refine ZR [.nat (v1.2.2.2.2.1.length : Int)] [4, 6, 7, 8, 16, 17] [4, 6, 7, 8] [44, 20044, 40044, 60044] [(17, .i (v1.2.2.2.2.1.length : Int))] (.cons (len_ok e_Entry v1.2.2.2.2.1) .nil) ?_
                      exact Wk_met (fs := [4, 6, 7, 8, 16, 17]) (bs := [4, 6, 7, 8]) (rs := [44, 20044, 40044, 60044]) (ms := []) (aa := []) (nv := []) (by first | (rw [← some_elim hF]; kernel_rfl) | kernel_rfl)
                    · have hF := ite_f hF hb
                      refine Wk_skip ?_
                      exact Wk_met (fs := [4, 6, 7, 8, 16, 17]) (bs := [4, 6, 7, 8]) (rs := [44, 20044, 40044, 60044]) (ms := []) (aa := []) (nv := []) (by first | (rw [← some_elim hF]; kernel_rfl) | kernel_rfl)
                  · refine Wk_seq ?_
                    refine Wk_seq ?_
                    obtain ⟨h18, hF⟩ := asrt_elim hF
                    obtain ⟨h19, hF⟩ := asrt_elim hF
                    refine ZR [.av (e_i64 (lget v1.2.2.2.2.2.2.2.2.2 m.From))] [4, 6, 7, 8, 16, 17, 307] [4, 6, 7, 8] [44, 20044, 40044, 60044] [(307, .bool (decide ((lget v1.2.2.2.2.2.2.2.2.2 m.From) < v13)))] (.cons (ixr_ok e_i64 h18) (.cons (ldr_ok e_i64 h19) .nil)) ?_
                    obtain ⟨v14, hv, hF⟩ := ob_elim hF
                    refine Wk_meet (⟨[(4, .ptr 4 0), (6, .ptr 6 0), (7, .ptr 7 0), (8, .ptr 8 0), (16, .i m.From)], [(4, [.i 0, .i 0, .i 0, .i 0, .nils, .i 0, .i 0, .nils, .nils, .nils]), (6, [.i 0, .i 0]), (7, [.i v.Code, .i v.At]), (8, [.i v1.1, .i v1.2.1, .i v1.2.2.1, .i v1.2.2.2.1, .row 44 1, .i v1.2.2.2.2.2.1, .i v1.2.2.2.2.2.2.1, .row 20044 0, .row 40044 0, .row 60044 0])], [(44, .z 31 2 1 (v1.2.2.2.2.1.map e_Entry)), (20044, .z 3 1 0 (v1.2.2.2.2.2.2.2.1.map e_i64)), (40044, .z 3 1 0 (v1.2.2.2.2.2.2.2.2.1.map e_i64)), (60044, .z 3 1 0 (v14.map e_i64))], [], []⟩ : S) ?_ ?_
                    · have hF := hv
                      refine Wk_split rfl (fun hb => ?_) (fun hb => ?_)
                      · have hF := ite_t hF hb
                        obtain ⟨h20, hF⟩ := asrt_elim hF
                        obtain ⟨h21, hF⟩ := asrt_elim hF
                        refine UR [.av (e_i64 (lget v1.2.2.2.2.2.2.2.2.2 m.From)), .xs ((lset v1.2.2.2.2.2.2.2.2.2 m.From v13).map e_i64)] [4, 6, 7, 8, 16] [4, 6, 7, 8] [44, 20044, 40044, 60044] [] [] [] [(60044, .z 3 1 0 ((lset v1.2.2.2.2.2.2.2.2.2 m.From v13).map e_i64))] [] (.cons (ixr_ok e_i64 h20) (.cons (ldr_ok e_i64 h21) (.cons (set_ok e_i64 v1.2.2.2.2.2.2.2.2.2 m.From v13) (.cons (Nat.zero_le m.From.toNat) .nil)))) ?_
                        exact Wk_met (fs := [4, 6, 7, 8, 16]) (bs := [4, 6, 7, 8]) (rs := [44, 20044, 40044, 60044]) (ms := []) (aa := []) (nv := []) (by first | (rw [← some_elim hF]; kernel_rfl) | kernel_rfl)
                      · have hF := ite_f hF hb
                        refine Wk_skip ?_
                        exact Wk_met (fs := [4, 6, 7, 8, 16]) (bs := [4, 6, 7, 8]) (rs := [44, 20044, 40044, 60044]) (ms := []) (aa := []) (nv := []) (by first | (rw [← some_elim hF]; kernel_rfl) | kernel_rfl)
                    · refine Wk_seq ?_
                      obtain ⟨h22, hF⟩ := asrt_elim hF
                      obtain ⟨h23, hF⟩ := asrt_elim hF
                      obtain ⟨h24, hF⟩ := asrt_elim hF
                      obtain ⟨h25, hF⟩ := asrt_elim hF
                      refine UD [.av (e_i64 (lget v14 m.From)), .av (e_i64 (lget v1.2.2.2.2.2.2.2.2.1 m.From)), .xs ((lset v1.2.2.2.2.2.2.2.2.1 m.From (w64 ((lget v14 m.From) + 1))).map e_i64)] [4, 6, 7, 8] [4, 6, 7, 8] [44, 20044, 40044, 60044] [] [] [] [(40044, .z 3 1 0 ((lset v1.2.2.2.2.2.2.2.2.1 m.From (w64 ((lget v14 m.From) + 1))).map e_i64))] [] (.cons (ixr_ok e_i64 h22) (.cons (ldr_ok e_i64 h23) (.cons (ixr_ok e_i64 h24) (.cons (ldr_ok e_i64 h25) (.cons (set_ok e_i64 v1.2.2.2.2.2.2.2.2.1 m.From (w64 ((lget v14 m.From) + 1))) (.cons (Nat.zero_le m.From.toNat) .nil)))))) ?_
                      refine Wk_seq ?_
                      obtain ⟨x14, h26, hF⟩ := ob_elim hF
                      refine UD [.call (.agg (c_Node x14))] [4, 5, 6] [4, 6] [] [] [(5, .nils)] [(4, (c_Node x14)), (6, [.i v.Code, .i v.At])] [] [] (.cons (R_Counted_ok (⟨v1.1, v1.2.1, v1.2.2.1, v1.2.2.2.1, v1.2.2.2.2.1, v1.2.2.2.2.2.1, v1.2.2.2.2.2.2.1, v1.2.2.2.2.2.2.2.1, (lset v1.2.2.2.2.2.2.2.2.1 m.From (w64 ((lget v14 m.From) + 1))), v14⟩ : Node) x14 h26) .nil) ?_
                      have hF := some_elim hF
                      exact Wk_ret (hfin _ ⟨[], [], [], [], [], [], by first | (rw [← hF]; kernel_rfl) | kernel_rfl⟩)
                · have hF := ite_f hF hb
                  refine Wk_skip ?_
                  refine Wk_seq ?_
                  obtain ⟨h27, hF⟩ := asrt_elim hF
                  obtain ⟨h28, hF⟩ := asrt_elim hF
                  refine ZR [.av (e_i64 (lget v1.2.2.2.2.2.2.2.2.1 m.From))] [3, 4, 6, 7, 8, 16, 18] [3, 4, 6, 7, 8] [44, 20044, 40044, 60044] [(18, .i (w64 ((lget v1.2.2.2.2.2.2.2.2.1 m.From) - 1)))] (.cons (ixr_ok e_i64 h27) (.cons (ldr_ok e_i64 h28) .nil)) ?_
                  refine Wk_seq ?_
                  refine ZRs [] [3, 4, 6, 7, 8, 16, 18, 336] [3, 4, 6, 7, 8] [44, 20044, 40044, 60044] [(336, .bool (decide ((w64 (m.A + 1)) < (w64 ((lget v1.2.2.2.2.2.2.2.2.1 m.From) - 1)))))] .nil ?_
                  obtain ⟨v15, hv, hF⟩ := ob_elim hF
                  refine Wk_meet (⟨[(4, .ptr 4 0), (6, .ptr 6 0), (7, .ptr 7 0), (8, .ptr 8 0), (16, .i m.From), (18, .i v15)], [(4, [.i 0, .i 0, .i 0, .i 0, .nils, .i 0, .i 0, .nils, .nils, .nils]), (6, [.i 0, .i 0]), (7, [.i v.Code, .i v.At]), (8, [.i v1.1, .i v1.2.1, .i v1.2.2.1, .i v1.2.2.2.1, .row 44 1, .i v1.2.2.2.2.2.1, .i v1.2.2.2.2.2.2.1, .row 20044 0, .row 40044 0, .row 60044 0])], [(44, .z 31 2 1 (v1.2.2.2.2.1.map e_Entry)), (20044, .z 3 1 0 (v1.2.2.2.2.2.2.2.1.map e_i64)), (40044, .z 3 1 0 (v1.2.2.2.2.2.2.2.2.1.map e_i64)), (60044, .z 3 1 0 (v1.2.2.2.2.2.2.2.2.2.map e_i64))], [], []⟩ : S) ?_ ?_
                  · have hF := hv
                    refine Wk_split rfl (fun hb => ?_) (fun hb => ?_)
                    · have hF := ite_t hF hb
                      refine ZR [] [4, 6, 7, 8, 16, 18] [4, 6, 7, 8] [44, 20044, 40044, 60044] [(18, .i (w64 (m.A + 1)))] .nil ?_
                      exact Wk_met (fs := [4, 6, 7, 8, 16, 18]) (bs := [4, 6, 7, 8]) (rs := [44, 20044, 40044, 60044]) (ms := []) (aa := []) (nv := []) (by first | (rw [← some_elim hF]; kernel_rfl) | kernel_rfl)
                    · have hF := ite_f hF hb
                      refine Wk_skip ?_
                      exact Wk_met (fs := [4, 6, 7, 8, 16, 18]) (bs := [4, 6, 7, 8]) (rs := [44, 20044, 40044, 60044]) (ms := []) (aa := []) (nv := []) (by first | (rw [← some_elim hF]; kernel_rfl) | kernel_rfl)
                  · refine Wk_seq ?_
                    refine Wk_seq ?_
                    obtain ⟨h29, hF⟩ := asrt_elim hF
                    obtain ⟨h30, hF⟩ := asrt_elim hF
                    refine ZR [.av (e_i64 (lget v1.2.2.2.2.2.2.2.2.2 m.From))] [4, 6, 7, 8, 16, 18, 347] [4, 6, 7, 8] [44, 20044, 40044, 60044] [(347, .bool (decide (v15 < (w64 ((lget v1.2.2.2.2.2.2.2.2.2 m.From) + 1)))))] (.cons (ixr_ok e_i64 h29) (.cons (ldr_ok e_i64 h30) .nil)) ?_
                    obtain ⟨v16, hv, hF⟩ := ob_elim hF
                    refine Wk_meet (⟨[(4, .ptr 4 0), (6, .ptr 6 0), (7, .ptr 7 0), (8, .ptr 8 0), (16, .i m.From), (18, .i v16)], [(4, [.i 0, .i 0, .i 0, .i 0, .nils, .i 0, .i 0, .nils, .nils, .nils]), (6, [.i 0, .i 0]), (7, [.i v.Code, .i v.At]), (8, [.i v1.1, .i v1.2.1, .i v1.2.2.1, .i v1.2.2.2.1, .row 44 1, .i v1.2.2.2.2.2.1, .i v1.2.2.2.2.2.2.1, .row 20044 0, .row 40044 0, .row 60044 0])], [(44, .z 31 2 1 (v1.2.2.2.2.1.map e_Entry)), (20044, .z 3 1 0 (v1.2.2.2.2.2.2.2.1.map e_i64)), (40044, .z 3 1 0 (v1.2.2.2.2.2.2.2.2.1.map e_i64)), (60044, .z 3 1 0 (v1.2.2.2.2.2.2.2.2.2.map e_i64))], [], []⟩ : S) ?_ ?_
                    · have hF := hv
                      refine Wk_split rfl (fun hb => ?_) (fun hb => ?_)
                      · have hF := ite_t hF hb
                        obtain ⟨h31, hF⟩ := asrt_elim hF
                        obtain ⟨h32, hF⟩ := asrt_elim hF
                        refine ZR [.av (e_i64 (lget v1.2.2.2.2.2.2.2.2.2 m.From))] [4, 6, 7, 8, 16, 18] [4, 6, 7, 8] [44, 20044, 40044, 60044] [(18, .i (w64 ((lget v1.2.2.2.2.2.2.2.2.2 m.From) + 1)))] (.cons (ixr_ok e_i64 h31) (.cons (ldr_ok e_i64 h32) .nil)) ?_
                        exact Wk_met (fs := [4, 6, 7, 8, 16, 18]) (bs := [4, 6, 7, 8]) (rs := [44, 20044, 40044, 60044]) (ms := []) (aa := []) (nv := []) (by first | (rw [← some_elim hF]; kernel_rfl) | kernel_rfl)
                      · have hF := ite_f hF hb
                        refine Wk_skip ?_
                        exact Wk_met (fs := [4, 6, 7, 8, 16, 18]) (bs := [4, 6, 7, 8]) (rs := [44, 20044, 40044, 60044]) (ms := []) (aa := []) (nv := []) (by first | (rw [← some_elim hF]; kernel_rfl) | kernel_rfl)
                    · refine Wk_seq ?_
                      obtain ⟨h33, hF⟩ := asrt_elim hF
                      obtain ⟨h34, hF⟩ := asrt_elim hF
                      refine UR [.av (e_i64 (lget v1.2.2.2.2.2.2.2.2.1 m.From)), .xs ((lset v1.2.2.2.2.2.2.2.2.1 m.From v16).map e_i64)] [4, 6, 7, 8] [4, 6, 7, 8] [44, 20044, 40044, 60044] [] [] [] [(40044, .z 3 1 0 ((lset v1.2.2.2.2.2.2.2.2.1 m.From v16).map e_i64))] [] (.cons (ixr_ok e_i64 h33) (.cons (ldr_ok e_i64 h34) (.cons (set_ok e_i64 v1.2.2.2.2.2.2.2.2.1 m.From v16) (.cons (Nat.zero_le m.From.toNat) .nil)))) ?_
                      refine UDs [] [4, 5, 6] [4, 6] [44, 20044, 40044, 60044] [] [(5, .nils)] [(4, [.i v1.1, .i v1.2.1, .i v1.2.2.1, .i v1.2.2.2.1, .row 44 1, .i v1.2.2.2.2.2.1, .i v1.2.2.2.2.2.2.1, .row 20044 0, .row 40044 0, .row 60044 0]), (6, [.i v.Code, .i v.At])] [] [] .nil ?_
                      have hF := some_elim hF
                      exact Wk_ret (hfin _ ⟨[], [], [], [], [], [], by first | (rw [← hF]; kernel_rfl) | kernel_rfl⟩)

/- tabularyref.SameMails -/
noncomputable def R_SameMails_J1 (v : Unit) : Option Bool :=
  some true
noncomputable def R_SameMails_B1 (a0 : List Mail) (b : List Mail) (v1 : Int) : Option (Int ⊕ Bool) :=
  if (decide (v1 < (a0.length : Int))) = true then
    asrt (0 ≤ v1 ∧ v1 < (a0.length : Int)) <|
    asrt (0 ≤ v1 ∧ v1 < (b.length : Int)) <|
    ob (if (!((((((((!decide (((lget a0 v1).Kind) = ((lget b v1).Kind))) || (!decide (((lget a0 v1).From) = ((lget b v1).From)))) || (!decide (((lget a0 v1).To) = ((lget b v1).To)))) || (!decide (((lget a0 v1).Term) = ((lget b v1).Term)))) || (!decide (((lget a0 v1).A) = ((lget b v1).A)))) || (!decide (((lget a0 v1).B) = ((lget b v1).B)))) || (!decide (((lget a0 v1).C0) = ((lget b v1).C0)))) || (!(((lget a0 v1).Ok) == ((lget b v1).Ok))))) = true then (R_SameLog ((lget a0 v1).Entries) ((lget b v1).Entries)) else some default) fun x =>
    if (((((((((!decide (((lget a0 v1).Kind) = ((lget b v1).Kind))) || (!decide (((lget a0 v1).From) = ((lget b v1).From)))) || (!decide (((lget a0 v1).To) = ((lget b v1).To)))) || (!decide (((lget a0 v1).Term) = ((lget b v1).Term)))) || (!decide (((lget a0 v1).A) = ((lget b v1).A)))) || (!decide (((lget a0 v1).B) = ((lget b v1).B)))) || (!decide (((lget a0 v1).C0) = ((lget b v1).C0)))) || (!(((lget a0 v1).Ok) == ((lget b v1).Ok)))) || (!x)) = true then
      some (Sum.inr false)
    else
      some (Sum.inl (w64 (v1 + 1)))
  else
    inrO (R_SameMails_J1 ())
noncomputable def R_SameMails_L1 (a0 : List Mail) (b : List Mail) (v0 : Int) : Option Bool :=
  loopO (fun y => R_SameMails_B1 a0 b y) v0
noncomputable def R_SameMails (a0 : List Mail) (b : List Mail) : Option Bool :=
  if (!decide ((a0.length : Int) = (b.length : Int))) = true then
    some false
  else
    R_SameMails_L1 a0 b 0
theorem R_SameMails_ok (a0 : List Mail) (b : List Mail) (r : Bool) (hF : R_SameMails a0 b = some r) : Pe Try.prog 41 S.none [.sl 9 (a0.map e_Mail), .sl 9 (b.map e_Mail)] (.bool r) S.none := by
  refine Pe_of (N := 89) (res := [.tmp 4]) (ts := [4]) Ty.ok Fn.b41 Try.func41 rfl rfl rfl rfl rfl rfl ?_
  intro Q g hfin
  unfold R_SameMails at hF
  refine ZRs [] [0, 1] [] [] [] .nil ?_
  refine Wk_seq ?_
  refine ZRs [.nat (a0.length : Int), .nat (b.length : Int)] [0, 1, 12] [] [] [(12, .bool (!decide ((a0.length : Int) = (b.length : Int))))] (.cons (len_ok e_Mail a0) (.cons (len_ok e_Mail b) .nil)) ?_
  refine Wk_split rfl (fun hb => ?_) (fun hb => ?_)
  · have hF := ite_t hF hb
    refine ZRs [] [4] [] [] [(4, .bool false)] .nil ?_
    have hF := some_elim hF
    exact Wk_ret (hfin _ ⟨[], [], [], [], [], [], by first | (rw [← hF]; kernel_rfl) | kernel_rfl⟩)
  · have hF := ite_f hF hb
    refine Wk_skip ?_
    refine Wk_seq ?_
    refine ZRs [] [0, 1, 5] [] [] [(5, .i 0)] .nil ?_
    refine Wk_meetP (fun v : Unit => (⟨[], [], [], [], []⟩ : S)) (fun v => R_SameMails_J1 v = some r) ?_ ?_
    · refine Wk_block ?_
      unfold R_SameMails_L1 at hF
      refine Wk_trim (fs := [0, 1, 5]) (bs := []) (rs := []) (ms := []) (aa := []) (nv := []) (t := (fun v1 : Int => (⟨[(0, .sl 9 (a0.map e_Mail)), (1, .sl 9 (b.map e_Mail)), (5, .i v1)], [], [], [], []⟩ : S)) 0) (by kernel_rfl) ?_
      refine Wk_iter (step := fun y => R_SameMails_B1 a0 b y) (r := r) (fun v1 : Int => (⟨[(0, .sl 9 (a0.map e_Mail)), (1, .sl 9 (b.map e_Mail)), (5, .i v1)], [], [], [], []⟩ : S)) 0 hF ?_
      intro n1 v1 y1 hF ih1 dn1
      have hF : R_SameMails_B1 a0 b v1 = some y1 := hF
      unfold R_SameMails_B1 at hF
      refine Wk_seq ?_
      refine ZRs [.nat (a0.length : Int)] [0, 1, 5, 16] [] [] [(16, .bool (decide (v1 < (a0.length : Int))))] (.cons (len_ok e_Mail a0) .nil) ?_
      refine Wk_split rfl (fun hb => ?_) (fun hb => ?_)
      · have hF := ite_t hF hb
        refine Wk_skip ?_
        refine Wk_seq ?_
        refine Wk_block ?_
        refine Wk_seq ?_
        obtain ⟨h0, hF⟩ := asrt_elim hF
        obtain ⟨h1, hF⟩ := asrt_elim hF
        refine UD [.av (e_Mail (lget a0 v1)), .av (e_Mail (lget b v1))] [0, 1, 5, 6, 7] [6, 7] [] [] [(6, .ptr 6 0), (7, .ptr 7 0)] [(6, (c_Mail (lget a0 v1))), (7, (c_Mail (lget b v1)))] [] [] (.cons (idx_ok e_Mail h0) (.cons (idx_ok e_Mail h1) .nil)) ?_
        refine Wk_seq ?_
        obtain ⟨x, h2, hF⟩ := ob_elim hF
        refine ZR [.callB (.bool x)] [0, 1, 5, 88] [] [] [(88, .bool (((((((((!decide (((lget a0 v1).Kind) = ((lget b v1).Kind))) || (!decide (((lget a0 v1).From) = ((lget b v1).From)))) || (!decide (((lget a0 v1).To) = ((lget b v1).To)))) || (!decide (((lget a0 v1).Term) = ((lget b v1).Term)))) || (!decide (((lget a0 v1).A) = ((lget b v1).A)))) || (!decide (((lget a0 v1).B) = ((lget b v1).B)))) || (!decide (((lget a0 v1).C0) = ((lget b v1).C0)))) || (!(((lget a0 v1).Ok) == ((lget b v1).Ok)))) || (!x)))] (.cons (fun (ga0 : (!((((((((!decide (((lget a0 v1).Kind) = ((lget b v1).Kind))) || (!decide (((lget a0 v1).From) = ((lget b v1).From)))) || (!decide (((lget a0 v1).To) = ((lget b v1).To)))) || (!decide (((lget a0 v1).Term) = ((lget b v1).Term)))) || (!decide (((lget a0 v1).A) = ((lget b v1).A)))) || (!decide (((lget a0 v1).B) = ((lget b v1).B)))) || (!decide (((lget a0 v1).C0) = ((lget b v1).C0)))) || (!(((lget a0 v1).Ok) == ((lget b v1).Ok))))) = true) => (R_SameLog_ok ((lget a0 v1).Entries) ((lget b v1).Entries) x (ite_t h2 ga0))) .nil) ?_
        refine Wk_split rfl (fun hb => ?_) (fun hb => ?_)
        · have hF := ite_t hF hb
          refine ZRs [] [4] [] [] [(4, .bool false)] .nil ?_
          have hF := ret_done hF dn1
          have hF := some_elim hF
          exact Wk_ret (hfin _ ⟨[], [], [], [], [], [], by first | (rw [← hF]; kernel_rfl) | kernel_rfl⟩)
        · have hF := ite_f hF hb
          refine Wk_skip ?_
          refine Wk_blk ?_
          refine ZR [] [0, 1, 5] [] [] [(5, .i (w64 (v1 + 1)))] .nil ?_
          refine Wk_trim (fs := [0, 1, 5]) (bs := []) (rs := []) (ms := []) (aa := []) (nv := []) ?_ (ih1 _ (some_elim hF).symm)
          kernel_rfl
      · have hF := ite_f hF hb
        refine Wk_exit rfl ?_
        have hF := inrO_done hF dn1
        exact Wk_metP () [] [] [] [] [] [] hF (by kernel_rfl)
    · intro v hF
      have hF : R_SameMails_J1 v = some r := hF
      unfold R_SameMails_J1 at hF
      refine ZRs [] [4] [] [] [(4, .bool true)] .nil ?_
      have hF := some_elim hF
      exact Wk_ret (hfin _ ⟨[], [], [], [], [], [], by first | (rw [← hF]; kernel_rfl) | kernel_rfl⟩)

/- tabularylaw.RaftTakes -/
noncomputable def law_RaftTakes (x : Node) (m : Mail) : Option Bool :=
  ob (law_raftBegun) fun x1 =>
  if (!x1) = true then
    some false
  else
    lt (law_vastNode x) fun x2 =>
    lt (law_vastLog m.Entries) fun x3 =>
    if (x2 || x3) = true then
      some true
    else
      ob (R_CopyNode_v1 x) fun x4 =>
      ob (R_CopyLog_v1 m.Entries) fun x5 =>
      ob (raft_Take x4 (⟨m.Kind, m.From, m.To, m.Term, m.A, m.B, m.C0, x5, m.Ok⟩ : Mail)) fun x6 =>
      ob (R_SameNode x4 x) fun x7 =>
      ob (if (!(!x7)) = true then (R_SameLog x5 m.Entries) else some default) fun x8 =>
      if ((!x7) || (!x8)) = true then
        some false
      else
        ob (R_TakeNode x m) fun x9 =>
        ob (if (decide (x6.2.2.Code = x9.2.2.2.2.2.2.2.2.2.2.2.Code) && (decide (x6.2.2.At = x9.2.2.2.2.2.2.2.2.2.2.2.At) && true)) = true then (R_SameNode x6.1 (⟨x9.1, x9.2.1, x9.2.2.1, x9.2.2.2.1, x9.2.2.2.2.1, x9.2.2.2.2.2.1, x9.2.2.2.2.2.2.1, x9.2.2.2.2.2.2.2.1, x9.2.2.2.2.2.2.2.2.1, x9.2.2.2.2.2.2.2.2.2.1⟩ : Node)) else some default) fun x10 =>
        ob (if ((decide (x6.2.2.Code = x9.2.2.2.2.2.2.2.2.2.2.2.Code) && (decide (x6.2.2.At = x9.2.2.2.2.2.2.2.2.2.2.2.At) && true)) && x10) = true then (R_SameMails x6.2.1 x9.2.2.2.2.2.2.2.2.2.2.1) else some default) fun x11 =>
        lt (((decide (x6.2.2.Code = x9.2.2.2.2.2.2.2.2.2.2.2.Code) && (decide (x6.2.2.At = x9.2.2.2.2.2.2.2.2.2.2.2.At) && true)) && x10) && x11) fun (v : Bool) =>
        some v
theorem law_RaftTakes_ok (x : Node) (m : Mail) (r : Bool) (hF : law_RaftTakes x m = some r) : Pe Try.prog 7 S.none [.agg (c_Node x), .agg (c_Mail m)] (.bool r) S.none := by
  refine Pe_of (N := 68) (res := [.tmp 4]) (ts := [4]) Ty.ok Fn.b7 Try.func7 rfl rfl rfl rfl rfl rfl ?_
  intro Q g hfin
  unfold law_RaftTakes at hF
  refine URs [] [2, 3] [2, 3] [] [] [(2, .ptr 2 0), (3, .ptr 3 0)] [(2, (c_Node x)), (3, (c_Mail m))] [] [] .nil ?_
  refine Wk_seq ?_
  refine Wk_seq ?_
  obtain ⟨x1, h0, hF⟩ := ob_elim hF
  refine ZR [.callB (.bool x1)] [2, 3, 14] [2, 3] [] [(14, .bool (!x1))] (.cons (law_raftBegun_ok  x1 h0) .nil) ?_
  refine Wk_split rfl (fun hb => ?_) (fun hb => ?_)
  · have hF := ite_t hF hb
    refine ZRs [] [4] [] [] [(4, .bool false)] .nil ?_
    have hF := some_elim hF
    exact Wk_ret (hfin _ ⟨[], [], [], [], [], [], by first | (rw [← hF]; kernel_rfl) | kernel_rfl⟩)
  · have hF := ite_f hF hb
    refine Wk_skip ?_
    refine Wk_seq ?_
    refine Wk_seq ?_
    obtain ⟨x2, h1, hF⟩ := lt_split hF
    obtain ⟨x3, h2, hF⟩ := lt_split hF
    refine ZR [.callB (.bool x2), .callB (.bool x3)] [2, 3, 21] [2, 3] [] [(21, .bool (x2 || x3))] (.cons (law_vastNode_ok x x2 h1) (.cons (fun (ga0 : (!x2) = true) => (law_vastLog_ok m.Entries x3 h2)) .nil)) ?_
    refine Wk_split rfl (fun hb => ?_) (fun hb => ?_)
    · have hF := ite_t hF hb
      refine ZRs [] [4] [] [] [(4, .bool true)] .nil ?_
      have hF := some_elim hF
      exact Wk_ret (hfin _ ⟨[], [], [], [], [], [], by first | (rw [← hF]; kernel_rfl) | kernel_rfl⟩)
    · have hF := ite_f hF hb
      refine Wk_skip ?_
      refine Wk_seq ?_
      obtain ⟨x4, h3, hF⟩ := ob_elim hF
      refine UR [.call (.agg (c_Node x4))] [2, 3, 5] [2, 3, 5] [] [] [(5, .ptr 5 0)] [(5, (c_Node x4))] [] [] (.cons (R_CopyNode_v1_ok x x4 h3) .nil) ?_
      refine URs [] [2, 3, 5, 6] [2, 3, 5, 6] [] [] [(6, .ptr 6 0)] [(6, (c_Mail m))] [] [] .nil ?_
      refine Wk_seq ?_
      obtain ⟨x5, h4, hF⟩ := ob_elim hF
      refine UR [.call (.sl 2 (x5.map e_Entry))] [2, 3, 5, 6] [2, 3, 5, 6] [] [] [] [(6, [.i m.Kind, .i m.From, .i m.To, .i m.Term, .i m.A, .i m.B, .i m.C0, .sl 2 (x5.map e_Entry), .bool m.Ok])] [] [] (.cons (R_CopyLog_v1_ok m.Entries x5 h4) .nil) ?_
      refine Wk_seq ?_
      obtain ⟨x6, h5, hF⟩ := ob_elim hF
      refine UR [.call (.tup [.agg (c_Node x6.1), .sl 9 (x6.2.1.map e_Mail), .agg [.i x6.2.2.Code, .i x6.2.2.At]])] [2, 3, 5, 6, 7, 8, 9] [2, 3, 5, 6, 7, 9] [] [] [(7, .ptr 7 0), (8, .sl 9 (x6.2.1.map e_Mail)), (9, .ptr 9 0)] [(7, (c_Node x6.1)), (9, [.i x6.2.2.Code, .i x6.2.2.At])] [] [] (.cons (raft_Take_ok x4 (⟨m.Kind, m.From, m.To, m.Term, m.A, m.B, m.C0, x5, m.Ok⟩ : Mail) x6 h5) .nil) ?_
      refine Wk_seq ?_
      refine Wk_seq ?_
      obtain ⟨x7, h6, hF⟩ := ob_elim hF
      obtain ⟨x8, h7, hF⟩ := ob_elim hF
      refine ZR [.callB (.bool x7), .callB (.bool x8)] [2, 3, 7, 8, 9, 47] [2, 3, 7, 9] [] [(47, .bool ((!x7) || (!x8)))] (.cons (R_SameNode_ok x4 x x7 h6) (.cons (fun (ga0 : (!(!x7)) = true) => (R_SameLog_ok x5 m.Entries x8 (ite_t h7 ga0))) .nil)) ?_
      refine Wk_split rfl (fun hb => ?_) (fun hb => ?_)
      · have hF := ite_t hF hb
        refine ZRs [] [4] [] [] [(4, .bool false)] .nil ?_
        have hF := some_elim hF
        exact Wk_ret (hfin _ ⟨[], [], [], [], [], [], by first | (rw [← hF]; kernel_rfl) | kernel_rfl⟩)
      · have hF := ite_f hF hb
        refine Wk_skip ?_
        refine Wk_seq ?_
        obtain ⟨x9, h8, hF⟩ := ob_elim hF
        refine UR [.call (.tup [.agg [.i x9.1, .i x9.2.1, .i x9.2.2.1, .i x9.2.2.2.1, .sl 2 (x9.2.2.2.2.1.map e_Entry), .i x9.2.2.2.2.2.1, .i x9.2.2.2.2.2.2.1, .sl 1 (x9.2.2.2.2.2.2.2.1.map e_i64), .sl 1 (x9.2.2.2.2.2.2.2.2.1.map e_i64), .sl 1 (x9.2.2.2.2.2.2.2.2.2.1.map e_i64)], .sl 9 (x9.2.2.2.2.2.2.2.2.2.2.1.map e_Mail), .agg [.i x9.2.2.2.2.2.2.2.2.2.2.2.Code, .i x9.2.2.2.2.2.2.2.2.2.2.2.At]])] [7, 8, 9, 10, 11, 12] [7, 9, 10, 12] [] [] [(10, .ptr 10 0), (11, .sl 9 (x9.2.2.2.2.2.2.2.2.2.2.1.map e_Mail)), (12, .ptr 12 0)] [(10, [.i x9.1, .i x9.2.1, .i x9.2.2.1, .i x9.2.2.2.1, .sl 2 (x9.2.2.2.2.1.map e_Entry), .i x9.2.2.2.2.2.1, .i x9.2.2.2.2.2.2.1, .sl 1 (x9.2.2.2.2.2.2.2.1.map e_i64), .sl 1 (x9.2.2.2.2.2.2.2.2.1.map e_i64), .sl 1 (x9.2.2.2.2.2.2.2.2.2.1.map e_i64)]), (12, [.i x9.2.2.2.2.2.2.2.2.2.2.2.Code, .i x9.2.2.2.2.2.2.2.2.2.2.2.At])] [] [] (.cons (R_TakeNode_ok x m x9 h8) .nil) ?_
        refine Wk_seq ?_
        obtain ⟨x10, h9, hF⟩ := ob_elim hF
        obtain ⟨x11, h10, hF⟩ := ob_elim hF
        refine WRL (((decide (x6.2.2.Code = x9.2.2.2.2.2.2.2.2.2.2.2.Code) && (decide (x6.2.2.At = x9.2.2.2.2.2.2.2.2.2.2.2.At) && true)) && x10) && x11) (fun v : Bool => ⟨[(4, .bool v)], [], [], [], []⟩) [.callB (.bool x10), .callB (.bool x11)] [4] [] [] [] [] [] (.cons (fun (ga0 : (decide (x6.2.2.Code = x9.2.2.2.2.2.2.2.2.2.2.2.Code) && (decide (x6.2.2.At = x9.2.2.2.2.2.2.2.2.2.2.2.At) && true)) = true) => (R_SameNode_ok x6.1 (⟨x9.1, x9.2.1, x9.2.2.1, x9.2.2.2.1, x9.2.2.2.2.1, x9.2.2.2.2.2.1, x9.2.2.2.2.2.2.1, x9.2.2.2.2.2.2.2.1, x9.2.2.2.2.2.2.2.2.1, x9.2.2.2.2.2.2.2.2.2.1⟩ : Node) x10 (ite_t h9 ga0))) (.cons (fun (ga0 : ((decide (x6.2.2.Code = x9.2.2.2.2.2.2.2.2.2.2.2.Code) && (decide (x6.2.2.At = x9.2.2.2.2.2.2.2.2.2.2.2.At) && true)) && x10) = true) => (R_SameMails_ok x6.2.1 x9.2.2.2.2.2.2.2.2.2.2.1 x11 (ite_t h10 ga0))) .nil)) (by kernel_rfl) (fun v hv => ?_)
        have hF := lt_elim hF hv
        have hF := some_elim hF
        exact Wk_ret (hfin _ ⟨[], [], [], [], [], [], by first | (rw [← hF]; kernel_rfl) | kernel_rfl⟩)

/- tabularylaw.RaftStays -/
noncomputable def law_RaftStays_J1 (v : Unit) : Option Bool :=
  some true
noncomputable def law_RaftStays_J2 (v1 : Node × Int) (v2 : Node) : Option ((Node × Int) ⊕ Bool) :=
  some (Sum.inl (v2, w64 (v1.2 + 1)))
noncomputable def law_RaftStays_J3 (v1 : Node × Int) (x5 : Node × List Mail × Fault) (v3 : Unit) : Option ((Node × Int) ⊕ Bool) :=
  law_RaftStays_J2 v1 x5.1
noncomputable def law_RaftStays_B2 (v1 : Node × Int) (x5 : Node × List Mail × Fault) (v4 : Int) : Option (Int ⊕ ((Node × Int) ⊕ Bool)) :=
  if (decide (v4 < (x5.2.1.length : Int))) = true then
    asrt (0 ≤ v4 ∧ v4 < (x5.2.1.length : Int)) <|
    asrt ((!(!decide (((lget x5.2.1 v4).From) = v1.1.ID))) = true → 0 ≤ v4 ∧ v4 < (x5.2.1.length : Int)) <|
    asrt ((!((!decide (((lget x5.2.1 v4).From) = v1.1.ID)) || (decide (((lget x5.2.1 v4).To) = v1.1.ID)))) = true → 0 ≤ v4 ∧ v4 < (x5.2.1.length : Int)) <|
    asrt ((!(((!decide (((lget x5.2.1 v4).From) = v1.1.ID)) || (decide (((lget x5.2.1 v4).To) = v1.1.ID))) || (decide (((lget x5.2.1 v4).To) < 0)))) = true → 0 ≤ v4 ∧ v4 < (x5.2.1.length : Int)) <|
    asrt ((!((((!decide (((lget x5.2.1 v4).From) = v1.1.ID)) || (decide (((lget x5.2.1 v4).To) = v1.1.ID))) || (decide (((lget x5.2.1 v4).To) < 0))) || (decide (v1.1.N ≤ ((lget x5.2.1 v4).To))))) = true → 0 ≤ v4 ∧ v4 < (x5.2.1.length : Int)) <|
    if (((((!decide (((lget x5.2.1 v4).From) = v1.1.ID)) || (decide (((lget x5.2.1 v4).To) = v1.1.ID))) || (decide (((lget x5.2.1 v4).To) < 0))) || (decide (v1.1.N ≤ ((lget x5.2.1 v4).To)))) || (!decide (((lget x5.2.1 v4).Term) = x5.1.Term))) = true then
      some (Sum.inr (Sum.inr false))
    else
      some (Sum.inl (w64 (v4 + 1)))
  else
    inrO (law_RaftStays_J3 v1 x5 ())
noncomputable def law_RaftStays_L2 (v1 : Node × Int) (x5 : Node × List Mail × Fault) (v0 : Int) : Option ((Node × Int) ⊕ Bool) :=
  loopO (fun y => law_RaftStays_B2 v1 x5 y) v0
noncomputable def law_RaftStays_B1 (mails : List Mail) (v1 : Node × Int) : Option ((Node × Int) ⊕ Bool) :=
  if (decide (v1.2 < (mails.length : Int))) = true then
    asrt (0 ≤ v1.2 ∧ v1.2 < (mails.length : Int)) <|
    lt (law_vastLog ((lget mails v1.2).Entries)) fun x4 =>
    if x4 = true then
      some (Sum.inr true)
    else
      asrt (0 ≤ v1.2 ∧ v1.2 < (mails.length : Int)) <|
      ob (raft_Take v1.1 (⟨(lget mails v1.2).Kind, (lget mails v1.2).From, (lget mails v1.2).To, (lget mails v1.2).Term, (lget mails v1.2).A, (lget mails v1.2).B, (lget mails v1.2).C0, (lget mails v1.2).Entries, (lget mails v1.2).Ok⟩ : Mail)) fun x5 =>
      if (!decide (x5.2.2.Code = 0)) = true then
        law_RaftStays_J2 v1 v1.1
      else
        ob (raft_Check x5.1) fun x6 =>
        asrt ((!((((((((!decide (x6.Code = 0)) || (!decide (x5.1.ID = v1.1.ID))) || (!decide (x5.1.N = v1.1.N))) || (decide (x5.1.Term < v1.1.Term))) || (((decide (x5.1.Term = v1.1.Term)) && (!decide (v1.1.Vote = 0))) && (!decide (x5.1.Vote = v1.1.Vote)))) || (decide (x5.1.Commit < v1.1.Commit))) || (decide ((x5.1.Log.length : Int) < x5.1.Commit))) || (decide ((v1.1.Log.length : Int) < v1.1.Commit)))) = true → 0 ≤ v1.1.Commit ∧ v1.1.Commit ≤ (x5.1.Log.length : Int)) <|
        asrt ((!((((((((!decide (x6.Code = 0)) || (!decide (x5.1.ID = v1.1.ID))) || (!decide (x5.1.N = v1.1.N))) || (decide (x5.1.Term < v1.1.Term))) || (((decide (x5.1.Term = v1.1.Term)) && (!decide (v1.1.Vote = 0))) && (!decide (x5.1.Vote = v1.1.Vote)))) || (decide (x5.1.Commit < v1.1.Commit))) || (decide ((x5.1.Log.length : Int) < x5.1.Commit))) || (decide ((v1.1.Log.length : Int) < v1.1.Commit)))) = true → 0 ≤ v1.1.Commit ∧ v1.1.Commit ≤ (v1.1.Log.length : Int)) <|
        ob (if (!((((((((!decide (x6.Code = 0)) || (!decide (x5.1.ID = v1.1.ID))) || (!decide (x5.1.N = v1.1.N))) || (decide (x5.1.Term < v1.1.Term))) || (((decide (x5.1.Term = v1.1.Term)) && (!decide (v1.1.Vote = 0))) && (!decide (x5.1.Vote = v1.1.Vote)))) || (decide (x5.1.Commit < v1.1.Commit))) || (decide ((x5.1.Log.length : Int) < x5.1.Commit))) || (decide ((v1.1.Log.length : Int) < v1.1.Commit)))) = true then (R_SameLog (ltake x5.1.Log v1.1.Commit) (ltake v1.1.Log v1.1.Commit)) else some default) fun x7 =>
        if (((((((((!decide (x6.Code = 0)) || (!decide (x5.1.ID = v1.1.ID))) || (!decide (x5.1.N = v1.1.N))) || (decide (x5.1.Term < v1.1.Term))) || (((decide (x5.1.Term = v1.1.Term)) && (!decide (v1.1.Vote = 0))) && (!decide (x5.1.Vote = v1.1.Vote)))) || (decide (x5.1.Commit < v1.1.Commit))) || (decide ((x5.1.Log.length : Int) < x5.1.Commit))) || (decide ((v1.1.Log.length : Int) < v1.1.Commit))) || (!x7)) = true then
          some (Sum.inr false)
        else
          law_RaftStays_L2 v1 x5 0
  else
    inrO (law_RaftStays_J1 ())
noncomputable def law_RaftStays_L1 (mails : List Mail) (v0 : Node × Int) : Option Bool :=
  loopO (fun y => law_RaftStays_B1 mails y) v0
noncomputable def law_RaftStays (x : Node) (mails : List Mail) : Option Bool :=
  ob (law_raftBegun) fun x1 =>
  if (!x1) = true then
    some false
  else
    lt (law_vastNode x) fun x2 =>
    ob (if (!(x2 || (decide (200 < (mails.length : Int))))) = true then (R_NodeFault x) else some default) fun x3 =>
    if ((x2 || (decide (200 < (mails.length : Int)))) || (!decide (x3.Code = 0))) = true then
      some true
    else
      law_RaftStays_L1 mails (x, 0)
theorem law_RaftStays_ok (x : Node) (mails : List Mail) (r : Bool) (hF : law_RaftStays x mails = some r) : Pe Try.prog 8 S.none [.agg (c_Node x), .sl 9 (mails.map e_Mail)] (.bool r) S.none := by
  refine Pe_of (N := 184) (res := [.tmp 4]) (ts := [4]) Ty.ok Fn.b8 Try.func8 rfl rfl rfl rfl rfl rfl ?_
  intro Q g hfin
  unfold law_RaftStays at hF
  refine URs [] [1, 2] [2] [] [] [(2, .ptr 2 0)] [(2, (c_Node x))] [] [] .nil ?_
  refine Wk_seq ?_
  refine Wk_seq ?_
  obtain ⟨x1, h0, hF⟩ := ob_elim hF
  refine ZR [.callB (.bool x1)] [1, 2, 11] [2] [] [(11, .bool (!x1))] (.cons (law_raftBegun_ok  x1 h0) .nil) ?_
  refine Wk_split rfl (fun hb => ?_) (fun hb => ?_)
  · have hF := ite_t hF hb
    refine ZRs [] [4] [] [] [(4, .bool false)] .nil ?_
    have hF := some_elim hF
    exact Wk_ret (hfin _ ⟨[], [], [], [], [], [], by first | (rw [← hF]; kernel_rfl) | kernel_rfl⟩)
  · have hF := ite_f hF hb
    refine Wk_skip ?_
    refine Wk_seq ?_
    refine Wk_seq ?_
    obtain ⟨x2, h1, hF⟩ := lt_split hF
    obtain ⟨x3, h2, hF⟩ := ob_elim hF
    refine ZR [.callB (.bool x2), .nat (mails.length : Int), .callB (.agg [.i x3.Code, .i x3.At])] [1, 2, 24] [2] [] [(24, .bool ((x2 || (decide (200 < (mails.length : Int)))) || (!decide (x3.Code = 0))))] (.cons (law_vastNode_ok x x2 h1) (.cons (fun (_ : (!x2) = true) => (len_ok e_Mail mails)) (.cons (fun (ga0 : (!(x2 || (decide (200 < (mails.length : Int))))) = true) => (R_NodeFault_ok x x3 (ite_t h2 ga0))) .nil))) ?_
    refine Wk_split rfl (fun hb => ?_) (fun hb => ?_)
    · have hF := ite_t hF hb
      refine ZRs [] [4] [] [] [(4, .bool true)] .nil ?_
      have hF := some_elim hF
      exact Wk_ret (hfin _ ⟨[], [], [], [], [], [], by first | (rw [← hF]; kernel_rfl) | kernel_rfl⟩)
    · have hF := ite_f hF hb
      refine Wk_skip ?_
      refine Wk_seq ?_
      refine ZRs [] [1, 2, 5] [2] [] [(5, .i 0)] .nil ?_
      refine Wk_meetP (fun v : Unit => (⟨[], [], [], [], []⟩ : S)) (fun v => law_RaftStays_J1 v = some r) ?_ ?_
      · refine Wk_block ?_
        unfold law_RaftStays_L1 at hF
        refine Wk_trim (fs := [1, 2, 5]) (bs := [2]) (rs := []) (ms := []) (aa := []) (nv := []) (t := (fun v1 : Node × Int => (⟨[(1, .sl 9 (mails.map e_Mail)), (2, .ptr 2 0), (5, .i v1.2)], [(2, (c_Node v1.1))], [], [], []⟩ : S)) (x, 0)) (by kernel_rfl) ?_
        refine Wk_iter (step := fun y => law_RaftStays_B1 mails y) (r := r) (fun v1 : Node × Int => (⟨[(1, .sl 9 (mails.map e_Mail)), (2, .ptr 2 0), (5, .i v1.2)], [(2, (c_Node v1.1))], [], [], []⟩ : S)) (x, 0) hF ?_
        intro n1 v1 y1 hF ih1 dn1
        have hF : law_RaftStays_B1 mails v1 = some y1 := hF
        unfold law_RaftStays_B1 at hF
        refine Wk_seq ?_
        refine ZRs [.nat (mails.length : Int)] [1, 2, 5, 28] [2] [] [(28, .bool (decide (v1.2 < (mails.length : Int))))] (.cons (len_ok e_Mail mails) .nil) ?_
        refine Wk_split rfl (fun hb => ?_) (fun hb => ?_)
        · have hF := ite_t hF hb
          refine Wk_skip ?_
          refine Wk_seq ?_
          refine Wk_meetP (fun v2 : Node => (⟨[(1, .sl 9 (mails.map e_Mail)), (2, .ptr 2 0), (5, .i v1.2)], [(2, (c_Node v2))], [], [], []⟩ : S)) (fun v2 => law_RaftStays_J2 v1 v2 = some y1) ?_ ?_
          · refine Wk_block ?_
            refine Wk_seq ?_
            refine Wk_seq ?_
            obtain ⟨h3, hF⟩ := asrt_elim hF
            obtain ⟨x4, h4, hF⟩ := lt_split hF
            refine ZR [.av (e_Mail (lget mails v1.2)), .callB (.bool x4)] [1, 2, 5, 36] [2] [] [(36, .bool x4)] (.cons (idx_ok e_Mail h3) (.cons (law_vastLog_ok ((lget mails v1.2).Entries) x4 h4) .nil)) ?_
            refine Wk_split rfl (fun hb => ?_) (fun hb => ?_)
            · have hF := ite_t hF hb
              refine ZRs [] [4] [] [] [(4, .bool true)] .nil ?_
              have hF := ret_done hF dn1
              have hF := some_elim hF
              exact Wk_ret (hfin _ ⟨[], [], [], [], [], [], by first | (rw [← hF]; kernel_rfl) | kernel_rfl⟩)
            · have hF := ite_f hF hb
              refine Wk_skip ?_
              refine Wk_seq ?_
              obtain ⟨h5, hF⟩ := asrt_elim hF
              obtain ⟨x5, h6, hF⟩ := ob_elim hF
              refine UD [.av (e_Mail (lget mails v1.2)), .call (.tup [.agg (c_Node x5.1), .sl 9 (x5.2.1.map e_Mail), .agg [.i x5.2.2.Code, .i x5.2.2.At]])] [1, 2, 5, 6, 7, 8] [2, 6, 8] [] [] [(6, .ptr 6 0), (7, .sl 9 (x5.2.1.map e_Mail)), (8, .ptr 8 0)] [(6, (c_Node x5.1)), (8, [.i x5.2.2.Code, .i x5.2.2.At])] [] [] (.cons (idx_ok e_Mail h5) (.cons (raft_Take_ok v1.1 (⟨(lget mails v1.2).Kind, (lget mails v1.2).From, (lget mails v1.2).To, (lget mails v1.2).Term, (lget mails v1.2).A, (lget mails v1.2).B, (lget mails v1.2).C0, (lget mails v1.2).Entries, (lget mails v1.2).Ok⟩ : Mail) x5 h6) .nil)) ?_
              refine Wk_seq ?_
              refine ZRs [] [1, 2, 5, 6, 7, 49] [2, 6] [] [(49, .bool (!decide (x5.2.2.Code = 0)))] .nil ?_
              refine Wk_split rfl (fun hb => ?_) (fun hb => ?_)
              · have hF := ite_t hF hb
                refine Wk_exit rfl ?_
                exact Wk_metP v1.1 [1, 2, 5] [2] [] [] [] [] hF (by kernel_rfl)
              · have hF := ite_f hF hb
                refine Wk_skip ?_
                refine Wk_seq ?_
                refine Wk_seq ?_
                obtain ⟨x6, h7, hF⟩ := ob_elim hF
                obtain ⟨h8, hF⟩ := asrt_elim hF
                obtain ⟨h9, hF⟩ := asrt_elim hF
                obtain ⟨x7, h10, hF⟩ := ob_elim hF
                refine ZD [.callB (.agg [.i x6.Code, .i x6.At]), .nat (x5.1.Log.length : Int), .nat (v1.1.Log.length : Int), .xs ((ltake x5.1.Log v1.1.Commit).map e_Entry), .xs ((ltake v1.1.Log v1.1.Commit).map e_Entry), .callB (.bool x7)] [1, 2, 5, 6, 7, 130] [2, 6] [] [(130, .bool (((((((((!decide (x6.Code = 0)) || (!decide (x5.1.ID = v1.1.ID))) || (!decide (x5.1.N = v1.1.N))) || (decide (x5.1.Term < v1.1.Term))) || (((decide (x5.1.Term = v1.1.Term)) && (!decide (v1.1.Vote = 0))) && (!decide (x5.1.Vote = v1.1.Vote)))) || (decide (x5.1.Commit < v1.1.Commit))) || (decide ((x5.1.Log.length : Int) < x5.1.Commit))) || (decide ((v1.1.Log.length : Int) < v1.1.Commit))) || (!x7)))] (.cons (raft_Check_ok x5.1 x6 h7) (.cons (fun (_ : (!((((((!decide (x6.Code = 0)) || (!decide (x5.1.ID = v1.1.ID))) || (!decide (x5.1.N = v1.1.N))) || (decide (x5.1.Term < v1.1.Term))) || (((decide (x5.1.Term = v1.1.Term)) && (!decide (v1.1.Vote = 0))) && (!decide (x5.1.Vote = v1.1.Vote)))) || (decide (x5.1.Commit < v1.1.Commit)))) = true) => (len_ok e_Entry x5.1.Log)) (.cons (fun (_ : (!(((((((!decide (x6.Code = 0)) || (!decide (x5.1.ID = v1.1.ID))) || (!decide (x5.1.N = v1.1.N))) || (decide (x5.1.Term < v1.1.Term))) || (((decide (x5.1.Term = v1.1.Term)) && (!decide (v1.1.Vote = 0))) && (!decide (x5.1.Vote = v1.1.Vote)))) || (decide (x5.1.Commit < v1.1.Commit))) || (decide ((x5.1.Log.length : Int) < x5.1.Commit)))) = true) => (len_ok e_Entry v1.1.Log)) (.cons (fun (ga0 : (!((((((((!decide (x6.Code = 0)) || (!decide (x5.1.ID = v1.1.ID))) || (!decide (x5.1.N = v1.1.N))) || (decide (x5.1.Term < v1.1.Term))) || (((decide (x5.1.Term = v1.1.Term)) && (!decide (v1.1.Vote = 0))) && (!decide (x5.1.Vote = v1.1.Vote)))) || (decide (x5.1.Commit < v1.1.Commit))) || (decide ((x5.1.Log.length : Int) < x5.1.Commit))) || (decide ((v1.1.Log.length : Int) < v1.1.Commit)))) = true) => (sl01_ok e_Entry (h8 ga0))) (.cons (fun (ga0 : (!((((((((!decide (x6.Code = 0)) || (!decide (x5.1.ID = v1.1.ID))) || (!decide (x5.1.N = v1.1.N))) || (decide (x5.1.Term < v1.1.Term))) || (((decide (x5.1.Term = v1.1.Term)) && (!decide (v1.1.Vote = 0))) && (!decide (x5.1.Vote = v1.1.Vote)))) || (decide (x5.1.Commit < v1.1.Commit))) || (decide ((x5.1.Log.length : Int) < x5.1.Commit))) || (decide ((v1.1.Log.length : Int) < v1.1.Commit)))) = true) => (sl01_ok e_Entry (h9 ga0))) (.cons (fun (ga0 : (!((((((((!decide (x6.Code = 0)) || (!decide (x5.1.ID = v1.1.ID))) || (!decide (x5.1.N = v1.1.N))) || (decide (x5.1.Term < v1.1.Term))) || (((decide (x5.1.Term = v1.1.Term)) && (!decide (v1.1.Vote = 0))) && (!decide (x5.1.Vote = v1.1.Vote)))) || (decide (x5.1.Commit < v1.1.Commit))) || (decide ((x5.1.Log.length : Int) < x5.1.Commit))) || (decide ((v1.1.Log.length : Int) < v1.1.Commit)))) = true) => (R_SameLog_ok (ltake x5.1.Log v1.1.Commit) (ltake v1.1.Log v1.1.Commit) x7 (ite_t h10 ga0))) .nil)))))) ?_
                refine Wk_split rfl (fun hb => ?_) (fun hb => ?_)
                · have hF := ite_t hF hb
                  refine ZRs [] [4] [] [] [(4, .bool false)] .nil ?_
                  have hF := ret_done hF dn1
                  have hF := some_elim hF
                  exact Wk_ret (hfin _ ⟨[], [], [], [], [], [], by first | (rw [← hF]; kernel_rfl) | kernel_rfl⟩)
                · have hF := ite_f hF hb
                  refine Wk_skip ?_
                  refine Wk_seq ?_
                  refine ZRs [] [1, 2, 5, 6, 7, 9] [2, 6] [] [(9, .i 0)] .nil ?_
                  refine Wk_meetP (fun v3 : Unit => (⟨[(1, .sl 9 (mails.map e_Mail)), (2, .ptr 2 0), (5, .i v1.2), (6, .ptr 6 0)], [(2, (c_Node v1.1)), (6, (c_Node x5.1))], [], [], []⟩ : S)) (fun v3 => law_RaftStays_J3 v1 x5 v3 = some y1) ?_ ?_
                  · refine Wk_block ?_
                    unfold law_RaftStays_L2 at hF
                    refine Wk_trim (fs := [1, 2, 5, 6, 7, 9]) (bs := [2, 6]) (rs := []) (ms := []) (aa := []) (nv := []) (t := (fun v4 : Int => (⟨[(1, .sl 9 (mails.map e_Mail)), (2, .ptr 2 0), (5, .i v1.2), (6, .ptr 6 0), (7, .sl 9 (x5.2.1.map e_Mail)), (9, .i v4)], [(2, (c_Node v1.1)), (6, (c_Node x5.1))], [], [], []⟩ : S)) 0) (by kernel_rfl) ?_
                    refine Wk_iter (step := fun y => law_RaftStays_B2 v1 x5 y) (r := y1) (fun v4 : Int => (⟨[(1, .sl 9 (mails.map e_Mail)), (2, .ptr 2 0), (5, .i v1.2), (6, .ptr 6 0), (7, .sl 9 (x5.2.1.map e_Mail)), (9, .i v4)], [(2, (c_Node v1.1)), (6, (c_Node x5.1))], [], [], []⟩ : S)) 0 hF ?_
                    intro n2 v4 y2 hF ih2 dn2
                    have hF : law_RaftStays_B2 v1 x5 v4 = some y2 := hF
                    unfold law_RaftStays_B2 at hF
                    refine Wk_seq ?_
                    refine ZRs [.nat (x5.2.1.length : Int)] [1, 2, 5, 6, 7, 9, 134] [2, 6] [] [(134, .bool (decide (v4 < (x5.2.1.length : Int))))] (.cons (len_ok e_Mail x5.2.1) .nil) ?_
                    refine Wk_split rfl (fun hb => ?_) (fun hb => ?_)
                    · have hF := ite_t hF hb
                      refine Wk_skip ?_
                      refine Wk_seq ?_
                      refine Wk_block ?_
                      refine Wk_seq ?_
                      obtain ⟨h11, hF⟩ := asrt_elim hF
                      obtain ⟨h12, hF⟩ := asrt_elim hF
                      obtain ⟨h13, hF⟩ := asrt_elim hF
                      obtain ⟨h14, hF⟩ := asrt_elim hF
                      obtain ⟨h15, hF⟩ := asrt_elim hF
                      refine ZD [.av (e_Mail (lget x5.2.1 v4)), .av (e_Mail (lget x5.2.1 v4)), .av (e_Mail (lget x5.2.1 v4)), .av (e_Mail (lget x5.2.1 v4)), .av (e_Mail (lget x5.2.1 v4))] [1, 2, 5, 6, 7, 9, 182] [2, 6] [] [(182, .bool (((((!decide (((lget x5.2.1 v4).From) = v1.1.ID)) || (decide (((lget x5.2.1 v4).To) = v1.1.ID))) || (decide (((lget x5.2.1 v4).To) < 0))) || (decide (v1.1.N ≤ ((lget x5.2.1 v4).To)))) || (!decide (((lget x5.2.1 v4).Term) = x5.1.Term))))] (.cons (idx_ok e_Mail h11) (.cons (fun (ga0 : (!(!decide (((lget x5.2.1 v4).From) = v1.1.ID))) = true) => (idx_ok e_Mail (h12 ga0))) (.cons (fun (ga0 : (!((!decide (((lget x5.2.1 v4).From) = v1.1.ID)) || (decide (((lget x5.2.1 v4).To) = v1.1.ID)))) = true) => (idx_ok e_Mail (h13 ga0))) (.cons (fun (ga0 : (!(((!decide (((lget x5.2.1 v4).From) = v1.1.ID)) || (decide (((lget x5.2.1 v4).To) = v1.1.ID))) || (decide (((lget x5.2.1 v4).To) < 0)))) = true) => (idx_ok e_Mail (h14 ga0))) (.cons (fun (ga0 : (!((((!decide (((lget x5.2.1 v4).From) = v1.1.ID)) || (decide (((lget x5.2.1 v4).To) = v1.1.ID))) || (decide (((lget x5.2.1 v4).To) < 0))) || (decide (v1.1.N ≤ ((lget x5.2.1 v4).To))))) = true) => (idx_ok e_Mail (h15 ga0))) .nil))))) ?_
                      refine Wk_split rfl (fun hb => ?_) (fun hb => ?_)
                      · have hF := ite_t hF hb
                        refine ZRs [] [4] [] [] [(4, .bool false)] .nil ?_
                        have hF := ret_done hF dn2
                        have hF := ret_done hF dn1
                        have hF := some_elim hF
                        exact Wk_ret (hfin _ ⟨[], [], [], [], [], [], by first | (rw [← hF]; kernel_rfl) | kernel_rfl⟩)
                      · have hF := ite_f hF hb
                        refine Wk_skip ?_
                        refine Wk_blk ?_
                        refine ZR [] [1, 2, 5, 6, 7, 9] [2, 6] [] [(9, .i (w64 (v4 + 1)))] .nil ?_
                        refine Wk_trim (fs := [1, 2, 5, 6, 7, 9]) (bs := [2, 6]) (rs := []) (ms := []) (aa := []) (nv := []) ?_ (ih2 _ (some_elim hF).symm)
                        kernel_rfl
                    · have hF := ite_f hF hb
                      refine Wk_exit rfl ?_
                      have hF := inrO_done hF dn2
                      exact Wk_metP () [1, 2, 5, 6] [2, 6] [] [] [] [] hF (by kernel_rfl)
                  · intro v3 hF
                    have hF : law_RaftStays_J3 v1 x5 v3 = some y1 := hF
                    unfold law_RaftStays_J3 at hF
                    refine UR [] [1, 2, 5] [2] [] [] [] [(2, (c_Node x5.1))] [] [] .nil ?_
                    refine Wk_blk ?_
                    exact Wk_metP x5.1 [1, 2, 5] [2] [] [] [] [] hF (by kernel_rfl)
          · intro v2 hF
            have hF : law_RaftStays_J2 v1 v2 = some y1 := hF
            unfold law_RaftStays_J2 at hF
            refine ZR [] [1, 2, 5] [2] [] [(5, .i (w64 (v1.2 + 1)))] .nil ?_
            refine Wk_trim (fs := [1, 2, 5]) (bs := [2]) (rs := []) (ms := []) (aa := []) (nv := []) ?_ (ih1 _ (some_elim hF).symm)
            kernel_rfl
        · have hF := ite_f hF hb
          refine Wk_exit rfl ?_
          have hF := inrO_done hF dn1
          exact Wk_metP () [] [] [] [] [] [] hF (by kernel_rfl)
      · intro v hF
        have hF : law_RaftStays_J1 v = some r := hF
        unfold law_RaftStays_J1 at hF
        refine ZRs [] [4] [] [] [(4, .bool true)] .nil ?_
        have hF := some_elim hF
        exact Wk_ret (hfin _ ⟨[], [], [], [], [], [], by first | (rw [← hF]; kernel_rfl) | kernel_rfl⟩)

end G
end Go.Proofs.Ytcnngkigpfpalaa
