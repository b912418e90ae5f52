/- The program's functions as plain functions, and that they are these. Written by a program (dec2.py). -/
import Derived.Test.YtcnngkigpfpalaaGf2
namespace Go.Proofs.Ytcnngkigpfpalaa
open Go Go.Dm
set_option linter.unusedVariables false
set_option linter.unusedSimpArgs false
set_option maxRecDepth 100000
namespace G
/- clan.own -/
noncomputable def clan_own_J1 (v : List Mail) : Option (List Mail) :=
  some v
noncomputable def clan_own_B1 (x : List Mail) (v1 : List Mail × Int) : Option ((List Mail × Int) ⊕ (List Mail)) :=
  if (decide (v1.2 < (x.length : Int))) = true then
    asrt (0 ≤ v1.2 ∧ v1.2 < (v1.1.length : Int)) <|
    asrt (0 ≤ v1.2 ∧ v1.2 < (v1.1.length : Int)) <|
    ob (slices_Clone_api_Entry_api_Entry ((lget v1.1 v1.2).Entries)) fun x1 =>
    asrt (0 ≤ v1.2 ∧ v1.2 < (v1.1.length : Int)) <|
    asrt (0 ≤ v1.2 ∧ v1.2 < (v1.1.length : Int)) <|
    lt ((lset v1.1 v1.2 (⟨(lget v1.1 v1.2).Kind, (lget v1.1 v1.2).From, (lget v1.1 v1.2).To, (lget v1.1 v1.2).Term, (lget v1.1 v1.2).A, (lget v1.1 v1.2).B, (lget v1.1 v1.2).C0, x1, (lget v1.1 v1.2).Ok⟩ : Mail))) fun (v2 : List Mail) =>
    some (Sum.inl (v2, w64 (v1.2 + 1)))
  else
    inrO (clan_own_J1 v1.1)
noncomputable def clan_own_L1 (x : List Mail) (v0 : List Mail × Int) : Option (List Mail) :=
  loopO (fun y => clan_own_B1 x y) v0
noncomputable def clan_own (l : List Mail) : Option (List Mail) :=
  ob (slices_Clone_api_Mail_api_Mail l) fun x =>
  clan_own_L1 x (x, 0)
theorem clan_own_ok (l : List Mail) (r : List Mail) (hF : clan_own l = some r) : Pe Try.prog 86 ⟨[], [], [], [], []⟩ [.sl 9 (l.map e_Mail)] (.row 6 0) ⟨[], [], [(6, .o 62 9 0 (r.map e_Mail))], [], []⟩ := by
  refine Pe_of (N := 24) (res := [.tmp 2]) (ts := [50]) Ty.ok Fn.b86 Try.func86 rfl rfl rfl rfl rfl rfl ?_
  intro Q g hfin
  unfold clan_own at hF
  refine ZRs [] [0] [] [] [] .nil ?_
  refine Wk_seq ?_
  obtain ⟨x, h0, hF⟩ := ob_elim hF
  refine UR [.callE [] [] [] [] (.row 6 0) ⟨[], [], [(6, .o 62 9 0 (x.map e_Mail))], [], []⟩] [3] [] [6] [] [(3, .row 6 0)] [] [(6, .o 62 9 0 (x.map e_Mail))] [] (.cons (Pe.ren (slices_Clone_api_Mail_api_Mail_ok l x h0) ⟨[], [(5, 6)], [], []⟩) .nil) ?_
  refine Wk_seq ?_
  refine ZRs [.nat (x.length : Int)] [3, 8, 9] [] [6] [(8, .i (x.length : Int)), (9, .i 0)] (.cons (len_ok e_Mail x) .nil) ?_
  refine Wk_meetP (fun v : List Mail => (⟨[(3, .row 6 0)], [], [(6, .o 62 9 0 (v.map e_Mail))], [], []⟩ : S)) (fun v => clan_own_J1 v = some r) ?_ ?_
  · refine Wk_block ?_
    unfold clan_own_L1 at hF
    refine Wk_trim (fs := [3, 8, 9]) (bs := []) (rs := [6]) (ms := []) (aa := []) (nv := []) (t := (fun v1 : List Mail × Int => (⟨[(3, .row 6 0), (8, .i (x.length : Int)), (9, .i v1.2)], [], [(6, .o 62 9 0 (v1.1.map e_Mail))], [], []⟩ : S)) (x, 0)) (by kernel_rfl) ?_
    refine Wk_iter (step := fun y => clan_own_B1 x y) (r := r) (fun v1 : List Mail × Int => (⟨[(3, .row 6 0), (8, .i (x.length : Int)), (9, .i v1.2)], [], [(6, .o 62 9 0 (v1.1.map e_Mail))], [], []⟩ : S)) (x, 0) hF ?_
    intro n1 v1 y1 hF ih1 dn1
    have hF : clan_own_B1 x v1 = some y1 := hF
    unfold clan_own_B1 at hF
    refine ZRs [] [3, 8, 9, 10] [] [6] [(10, .bool (decide (v1.2 < (x.length : Int))))] .nil ?_
    refine Wk_seq ?_
    refine Wk_split rfl (fun hb => ?_) (fun hb => ?_)
    · have hF := ite_t hF hb
      refine Wk_skip ?_
      refine Wk_seq ?_
      refine Wk_block ?_
      refine ZRs [] [3, 4, 8, 9] [] [6] [(4, .i v1.2)] .nil ?_
      obtain ⟨h1, hF⟩ := asrt_elim hF
      obtain ⟨h2, hF⟩ := asrt_elim hF
      obtain ⟨x1, h3, hF⟩ := ob_elim hF
      obtain ⟨h4, hF⟩ := asrt_elim hF
      obtain ⟨h5, hF⟩ := asrt_elim hF
      refine WRL ((lset v1.1 v1.2 (⟨(lget v1.1 v1.2).Kind, (lget v1.1 v1.2).From, (lget v1.1 v1.2).To, (lget v1.1 v1.2).Term, (lget v1.1 v1.2).A, (lget v1.1 v1.2).B, (lget v1.1 v1.2).C0, x1, (lget v1.1 v1.2).Ok⟩ : Mail))) (fun v2 : List Mail => ⟨[(3, .row 6 0), (8, .i (x.length : Int)), (9, .i v1.2)], [], [(6, .o 62 9 0 (v2.map e_Mail))], [], []⟩) [.av (e_Mail (lget v1.1 v1.2)), .callE [] [] [] [] (.row 19 0) ⟨[], [], [(19, .o 31 2 0 (x1.map e_Entry))], [], []⟩, .av (e_Mail (lget v1.1 v1.2)), .xs ((lset v1.1 v1.2 (⟨(lget v1.1 v1.2).Kind, (lget v1.1 v1.2).From, (lget v1.1 v1.2).To, (lget v1.1 v1.2).Term, (lget v1.1 v1.2).A, (lget v1.1 v1.2).B, (lget v1.1 v1.2).C0, x1, (lget v1.1 v1.2).Ok⟩ : Mail)).map e_Mail)] [3, 8, 9] [] [6] [] [] [] (.cons (ixr_ok e_Mail h1) (.cons (ldr_ok e_Mail h2) (.cons (Pe.ren (slices_Clone_api_Entry_api_Entry_ok ((lget v1.1 v1.2).Entries) x1 h3) ⟨[], [(5, 19)], [], []⟩) (.cons (ixr_ok e_Mail h4) (.cons (ldr_ok e_Mail h5) (.cons (set_ok e_Mail v1.1 v1.2 (⟨(lget v1.1 v1.2).Kind, (lget v1.1 v1.2).From, (lget v1.1 v1.2).To, (lget v1.1 v1.2).Term, (lget v1.1 v1.2).A, (lget v1.1 v1.2).B, (lget v1.1 v1.2).C0, x1, (lget v1.1 v1.2).Ok⟩ : Mail)) (.cons (Nat.zero_le v1.2.toNat) .nil))))))) (by kernel_rfl) (fun v2 hv => ?_)
      have hF := lt_elim hF hv
      refine Wk_blk ?_
      refine ZR [] [3, 8, 9] [] [6] [(9, .i (w64 (v1.2 + 1)))] .nil ?_
      refine Wk_trim (fs := [3, 8, 9]) (bs := []) (rs := [6]) (ms := []) (aa := []) (nv := []) ?_ (ih1 _ (some_elim hF).symm)
      kernel_rfl
    · have hF := ite_f hF hb
      refine Wk_exit rfl ?_
      have hF := inrO_done hF dn1
      exact Wk_metP v1.1 [3] [] [6] [] [] [] hF (by kernel_rfl)
  · intro v hF
    have hF : clan_own_J1 v = some r := hF
    unfold clan_own_J1 at hF
    refine ZRs [] [2] [] [6] [(2, .row 6 0)] .nil ?_
    have hF := some_elim hF
    exact Wk_ret (hfin _ ⟨[6], [], [6], [], [], [], by first | (rw [← hF]; kernel_rfl) | kernel_rfl⟩)

/- clan.Play -/
noncomputable def clan_Play_v1_J2 (v1 : List Node × List Mail × List (List UInt8)) : Option (Clan × Fault) :=
  ob (clan_own v1.2.1) fun x3 =>
  some ((⟨v1.1, x3⟩ : Clan), (⟨0, 0⟩ : Fault))
noncomputable def clan_Play_v1_B1 (deeds : List Deed) (v2 : List Node × List Mail × List (List UInt8) × Int) : Option ((List Node × List Mail × List (List UInt8) × Int) ⊕ (Clan × Fault)) :=
  if (decide (v2.2.2.2 < (deeds.length : Int))) = true then
    asrt (0 ≤ v2.2.2.2 ∧ v2.2.2.2 < (deeds.length : Int)) <|
    ob (clan_game_does_v1 (⟨(lget deeds v2.2.2.2).Kind, (lget deeds v2.2.2.2).Who, (lget deeds v2.2.2.2).N⟩ : Deed) v2.2.2.1 v2.1 v2.2.1) fun x4 =>
    if (!decide (x4.1 = 0)) = true then
      lt (clan_fault x4.1 v2.2.2.2) fun x5 =>
      some (Sum.inr ((⟨([] : List Node), ([] : List Mail)⟩ : Clan), x5))
    else
      some (Sum.inl (x4.2.1, x4.2.2.1, x4.2.2.2, w64 (v2.2.2.2 + 1)))
  else
    inrO (clan_Play_v1_J2 (v2.1, v2.2.1, v2.2.2.1))
noncomputable def clan_Play_v1_L1 (deeds : List Deed) (v0 : List Node × List Mail × List (List UInt8) × Int) : Option (Clan × Fault) :=
  loopO (fun y => clan_Play_v1_B1 deeds y) v0
noncomputable def clan_Play_v1_J1 (texts : List (List UInt8)) (deeds : List Deed) (v : List Node) : Option (Clan × Fault) :=
  clan_Play_v1_L1 deeds (v, ([] : List Mail), texts, 0)
noncomputable def clan_Play_v1_B2 (num : Int) (texts : List (List UInt8)) (deeds : List Deed) (v3 : List Node × Int) : Option ((List Node × Int) ⊕ (Clan × Fault)) :=
  if (decide (v3.2 < num)) = true then
    asrt (((v3.1 ++ [(⟨num, v3.2, 0, 0, ([] : List Entry), 0, 0, ([] : List Int), ([] : List Int), ([] : List Int)⟩ : Node)]).length : Int) * 144 ≤ 140737488351232) <|
    lt ((v3.1 ++ [(⟨num, v3.2, 0, 0, ([] : List Entry), 0, 0, ([] : List Int), ([] : List Int), ([] : List Int)⟩ : Node)])) fun (v4 : List Node) =>
    some (Sum.inl (v4, w64 (v3.2 + 1)))
  else
    inrO (clan_Play_v1_J1 texts deeds v3.1)
noncomputable def clan_Play_v1_L2 (num : Int) (texts : List (List UInt8)) (deeds : List Deed) (v0 : List Node × Int) : Option (Clan × Fault) :=
  loopO (fun y => clan_Play_v1_B2 num texts deeds y) v0
noncomputable def clan_Play_v1 (num : Int) (texts : List (List UInt8)) (deeds : List Deed) : Option (Clan × Fault) :=
  if ((decide (num < 1)) || (decide (7 < num))) = true then
    lt (clan_fault 3 (-1)) fun x =>
    some ((⟨([] : List Node), ([] : List Mail)⟩ : Clan), x)
  else
    if (decide (2000 < (deeds.length : Int))) = true then
      lt (clan_fault 2 (-1)) fun x1 =>
      some ((⟨([] : List Node), ([] : List Mail)⟩ : Clan), x1)
    else
      if (decide (100 < (texts.length : Int))) = true then
        lt (clan_fault 2 (-2)) fun x2 =>
        some ((⟨([] : List Node), ([] : List Mail)⟩ : Clan), x2)
      else
        clan_Play_v1_L2 num texts deeds (([] : List Node), 0)
theorem clan_Play_v1_ok (num : Int) (texts : List (List UInt8)) (deeds : List Deed) (r : Clan × Fault) (hF : clan_Play_v1 num texts deeds = some r) : Pe Try.prog 46 S.none [.i num, .sl 1 (texts.map e_str), .sl 3 (deeds.map e_Deed)] (.tup [.agg [.sl 10 (r.1.Nodes.map e_Node), .sl 9 (r.1.Way.map e_Mail)], .agg [.i r.2.Code, .i r.2.At]]) S.none := by
  refine Pe_of (N := 76) (res := [.cell 6 71, .cell 7 26]) (ts := [71, 26]) Ty.ok Fn.b46 Try.func46 rfl rfl rfl rfl rfl rfl ?_
  intro Q g hfin
  unfold clan_Play_v1 at hF
  refine URs [] [0, 1, 2, 6, 7] [6, 7] [] [] [(6, .ptr 6 0), (7, .ptr 7 0)] [(6, [.nils, .nils]), (7, [.i 0, .i 0])] [] [] .nil ?_
  refine Wk_seq ?_
  refine Wk_block ?_
  refine ZRs [] [0, 1, 2, 6, 7, 13] [6, 7] [] [(13, .bool ((decide (num < 1)) || (decide (7 < num))))] .nil ?_
  refine Wk_split rfl (fun hb => ?_) (fun hb => ?_)
  · have hF := ite_t hF hb
    refine Wk_seq ?_
    obtain ⟨x, h0, hF⟩ := lt_split hF
    refine UR [.callB (.agg [.i x.Code, .i x.At])] [6, 7] [6, 7] [] [] [] [(7, [.i x.Code, .i x.At])] [] [] (.cons (clan_fault_ok 3 (-1) x h0) .nil) ?_
    have hF := some_elim hF
    exact Wk_ret (hfin _ ⟨[], [], [], [], [], [], by first | (rw [← hF]; kernel_rfl) | kernel_rfl⟩)
  · have hF := ite_f hF hb
    refine ZRs [.nat (deeds.length : Int)] [0, 1, 2, 6, 7, 22] [6, 7] [] [(22, .bool (decide (2000 < (deeds.length : Int))))] (.cons (len_ok e_Deed deeds) .nil) ?_
    refine Wk_split rfl (fun hb => ?_) (fun hb => ?_)
    · have hF := ite_t hF hb
      refine Wk_seq ?_
      obtain ⟨x1, h1, hF⟩ := lt_split hF
      refine UR [.callB (.agg [.i x1.Code, .i x1.At])] [6, 7] [6, 7] [] [] [] [(7, [.i x1.Code, .i x1.At])] [] [] (.cons (clan_fault_ok 2 (-1) x1 h1) .nil) ?_
      have hF := some_elim hF
      exact Wk_ret (hfin _ ⟨[], [], [], [], [], [], by first | (rw [← hF]; kernel_rfl) | kernel_rfl⟩)
    · have hF := ite_f hF hb
      refine ZRs [.nat (texts.length : Int)] [0, 1, 2, 6, 7, 28] [6, 7] [] [(28, .bool (decide (100 < (texts.length : Int))))] (.cons (len_ok e_str texts) .nil) ?_
      refine Wk_split rfl (fun hb => ?_) (fun hb => ?_)
      · have hF := ite_t hF hb
        refine Wk_seq ?_
        obtain ⟨x2, h2, hF⟩ := lt_split hF
        refine UR [.callB (.agg [.i x2.Code, .i x2.At])] [6, 7] [6, 7] [] [] [] [(7, [.i x2.Code, .i x2.At])] [] [] (.cons (clan_fault_ok 2 (-2) x2 h2) .nil) ?_
        have hF := some_elim hF
        exact Wk_ret (hfin _ ⟨[], [], [], [], [], [], by first | (rw [← hF]; kernel_rfl) | kernel_rfl⟩)
      · have hF := ite_f hF hb
        refine Wk_skip ?_
        refine Wk_blk ?_
        refine URs [] [0, 2, 6, 7, 8] [6, 7, 8] [] [] [(8, .ptr 8 0)] [(8, [.nils, .nils, .sl 1 (texts.map e_str)])] [] [] .nil ?_
        refine Wk_seq ?_
        refine ZRs [] [0, 2, 6, 7, 8, 36, 37] [6, 7, 8] [] [(36, .i num), (37, .i 0)] .nil ?_
        refine Wk_meetP (fun v : List Node => (⟨[(2, .sl 3 (deeds.map e_Deed)), (6, .ptr 6 0), (7, .ptr 7 0), (8, .ptr 8 0)], [(6, [.nils, .nils]), (7, [.i 0, .i 0]), (8, [.row 47 0, .nils, .sl 1 (texts.map e_str)])], [(47, .z 46 10 0 (v.map e_Node))], [], []⟩ : S)) (fun v => clan_Play_v1_J1 texts deeds v = some r) ?_ ?_
        · refine Wk_block ?_
          unfold clan_Play_v1_L2 at hF
          refine Wk_nilrowB 8 0 60001 46 10 rfl rfl rfl rfl rfl ?_
          refine Wk_trim (fs := [0, 2, 6, 7, 8, 36, 37]) (bs := [6, 7, 8]) (rs := [60001]) (ms := []) (aa := []) (nv := []) rfl ?_
          refine Wk_ren' ⟨[], [(60001, 47)], [], []⟩ rfl ?_
          refine Wk_trim (fs := [0, 2, 6, 7, 8, 36, 37]) (bs := [6, 7, 8]) (rs := [47]) (ms := []) (aa := []) (nv := []) (t := (fun v3 : List Node × Int => (⟨[(0, .i num), (2, .sl 3 (deeds.map e_Deed)), (6, .ptr 6 0), (7, .ptr 7 0), (8, .ptr 8 0), (36, .i num), (37, .i v3.2)], [(6, [.nils, .nils]), (7, [.i 0, .i 0]), (8, [.row 47 0, .nils, .sl 1 (texts.map e_str)])], [(47, .z 46 10 0 (v3.1.map e_Node))], [], []⟩ : S)) (([] : List Node), 0)) (by kernel_rfl) ?_
          refine Wk_iter (step := fun y => clan_Play_v1_B2 num texts deeds y) (r := r) (fun v3 : List Node × Int => (⟨[(0, .i num), (2, .sl 3 (deeds.map e_Deed)), (6, .ptr 6 0), (7, .ptr 7 0), (8, .ptr 8 0), (36, .i num), (37, .i v3.2)], [(6, [.nils, .nils]), (7, [.i 0, .i 0]), (8, [.row 47 0, .nils, .sl 1 (texts.map e_str)])], [(47, .z 46 10 0 (v3.1.map e_Node))], [], []⟩ : S)) (([] : List Node), 0) hF ?_
          intro n1 v3 y1 hF ih1 dn1
          have hF : clan_Play_v1_B2 num texts deeds v3 = some y1 := hF
          unfold clan_Play_v1_B2 at hF
          refine ZRs [] [0, 2, 6, 7, 8, 36, 37, 38] [6, 7, 8] [47] [(38, .bool (decide (v3.2 < num)))] .nil ?_
          refine Wk_seq ?_
          refine Wk_split rfl (fun hb => ?_) (fun hb => ?_)
          · have hF := ite_t hF hb
            refine Wk_skip ?_
            refine Wk_seq ?_
            refine Wk_block ?_
            refine ZRs [] [0, 2, 6, 7, 8, 9, 36, 37] [6, 7, 8] [47] [(9, .i v3.2)] .nil ?_
            obtain ⟨h7, hF⟩ := asrt_elim hF
            refine WRL ((v3.1 ++ [(⟨num, v3.2, 0, 0, ([] : List Entry), 0, 0, ([] : List Int), ([] : List Int), ([] : List Int)⟩ : Node)])) (fun v4 : List Node => ⟨[(0, .i num), (2, .sl 3 (deeds.map e_Deed)), (6, .ptr 6 0), (7, .ptr 7 0), (8, .ptr 8 0), (36, .i num), (37, .i v3.2)], [(6, [.nils, .nils]), (7, [.i 0, .i 0]), (8, [.row 47 1, .nils, .sl 1 (texts.map e_str)])], [(47, .z 46 10 1 (v4.map e_Node))], [], []⟩) [.sealed, .xs ((v3.1 ++ [(⟨num, v3.2, 0, 0, ([] : List Entry), 0, 0, ([] : List Int), ([] : List Int), ([] : List Int)⟩ : Node)]).map e_Node)] [0, 2, 6, 7, 8, 36, 37] [6, 7, 8] [47] [] [] [] (.cons (app_ok e_Node v3.1 [(⟨num, v3.2, 0, 0, ([] : List Entry), 0, 0, ([] : List Int), ([] : List Int), ([] : List Int)⟩ : Node)]) (.cons (appl_ok e_Node h7) .nil)) (by kernel_rfl) (fun v4 hv => ?_)
            have hF := lt_elim hF hv
            refine Wk_blk ?_
            refine ZR [] [0, 2, 6, 7, 8, 36, 37] [6, 7, 8] [47] [(37, .i (w64 (v3.2 + 1)))] .nil ?_
            refine Wk_trim (fs := [0, 2, 6, 7, 8, 36, 37]) (bs := [6, 7, 8]) (rs := [47]) (ms := []) (aa := []) (nv := [(47, ⟨0, true, true, false⟩)]) ?_ (ih1 _ (some_elim hF).symm)
            kernel_rfl
          · have hF := ite_f hF hb
            refine Wk_exit rfl ?_
            have hF := inrO_done hF dn1
            exact Wk_metP v3.1 [2, 6, 7, 8] [6, 7, 8] [47] [] [] [] hF (by kernel_rfl)
        · intro v hF
          have hF : clan_Play_v1_J1 texts deeds v = some r := hF
          unfold clan_Play_v1_J1 at hF
          refine Wk_seq ?_
          refine ZRs [.nat (deeds.length : Int)] [6, 7, 8, 51, 52, 53] [6, 7, 8] [47] [(51, .sl 3 (deeds.map e_Deed)), (52, .i (deeds.length : Int)), (53, .i 0)] (.cons (len_ok e_Deed deeds) .nil) ?_
          refine Wk_meetP (fun v1 : List Node × List Mail × List (List UInt8) => (⟨[(6, .ptr 6 0), (7, .ptr 7 0), (8, .ptr 8 0)], [(6, [.nils, .nils]), (7, [.i 0, .i 0]), (8, [.row 47 0, .row 59 0, .sl 1 (v1.2.2.map e_str)])], [(47, .z 46 10 0 (v1.1.map e_Node)), (59, .o 62 9 0 (v1.2.1.map e_Mail))], [], []⟩ : S)) (fun v1 => clan_Play_v1_J2 v1 = some r) ?_ ?_
          · refine Wk_block ?_
            unfold clan_Play_v1_L1 at hF
            refine Wk_nilrowB 8 1 60000 62 9 rfl rfl rfl rfl rfl ?_
            refine Wk_trim (fs := [6, 7, 8, 51, 52, 53]) (bs := [6, 7, 8]) (rs := [47, 60000]) (ms := []) (aa := []) (nv := []) rfl ?_
            refine Wk_ren' ⟨[], [(60000, 59)], [], []⟩ rfl ?_
            refine Wk_trim (fs := [6, 7, 8, 51, 52, 53]) (bs := [6, 7, 8]) (rs := [47, 59]) (ms := []) (aa := []) (nv := [(59, ⟨0, true, false, false⟩)]) (t := (fun v2 : List Node × List Mail × List (List UInt8) × Int => (⟨[(6, .ptr 6 0), (7, .ptr 7 0), (8, .ptr 8 0), (51, .sl 3 (deeds.map e_Deed)), (52, .i (deeds.length : Int)), (53, .i v2.2.2.2)], [(6, [.nils, .nils]), (7, [.i 0, .i 0]), (8, [.row 47 0, .row 59 0, .sl 1 (v2.2.2.1.map e_str)])], [(47, .z 46 10 0 (v2.1.map e_Node)), (59, .o 62 9 0 (v2.2.1.map e_Mail))], [], []⟩ : S)) (v, ([] : List Mail), texts, 0)) (by kernel_rfl) ?_
            refine Wk_iter (step := fun y => clan_Play_v1_B1 deeds y) (r := r) (fun v2 : List Node × List Mail × List (List UInt8) × Int => (⟨[(6, .ptr 6 0), (7, .ptr 7 0), (8, .ptr 8 0), (51, .sl 3 (deeds.map e_Deed)), (52, .i (deeds.length : Int)), (53, .i v2.2.2.2)], [(6, [.nils, .nils]), (7, [.i 0, .i 0]), (8, [.row 47 0, .row 59 0, .sl 1 (v2.2.2.1.map e_str)])], [(47, .z 46 10 0 (v2.1.map e_Node)), (59, .o 62 9 0 (v2.2.1.map e_Mail))], [], []⟩ : S)) (v, ([] : List Mail), texts, 0) hF ?_
            intro n1 v2 y1 hF ih1 dn1
            have hF : clan_Play_v1_B1 deeds v2 = some y1 := hF
            unfold clan_Play_v1_B1 at hF
            refine ZRs [] [6, 7, 8, 51, 52, 53, 54] [6, 7, 8] [47, 59] [(54, .bool (decide (v2.2.2.2 < (deeds.length : Int))))] .nil ?_
            refine Wk_seq ?_
            refine Wk_split rfl (fun hb => ?_) (fun hb => ?_)
            · have hF := ite_t hF hb
              refine Wk_skip ?_
              refine Wk_seq ?_
              refine Wk_block ?_
              refine Wk_seq ?_
              obtain ⟨h4, hF⟩ := asrt_elim hF
              refine UR [.av (e_Deed (lget deeds v2.2.2.2))] [6, 7, 8, 10, 11, 51, 52, 53] [6, 7, 8, 11] [47, 59] [] [(10, .i v2.2.2.2), (11, .ptr 11 0)] [(11, (c_Deed (lget deeds v2.2.2.2)))] [] [] (.cons (idx_ok e_Deed h4) .nil) ?_
              refine Wk_seq ?_
              obtain ⟨x4, h5, hF⟩ := ob_elim hF
              refine UR [.callE [8] [47, 59] [] [] (.i x4.1) ⟨[], [(8, [.row 47 0, .row 59 1, .sl 1 (x4.2.2.2.map e_str)])], [(47, .z 46 10 0 (x4.2.1.map e_Node)), (59, .o 62 9 1 (x4.2.2.1.map e_Mail))], [], []⟩] [6, 7, 8, 10, 12, 51, 52, 53] [6, 7, 8] [47, 59] [] [(12, .i x4.1)] [(8, [.row 47 0, .row 59 1, .sl 1 (x4.2.2.2.map e_str)])] [(47, .z 46 10 0 (x4.2.1.map e_Node)), (59, .o 62 9 1 (x4.2.2.1.map e_Mail))] [] (.cons (Pe.ren (clan_game_does_v1_ok (⟨(lget deeds v2.2.2.2).Kind, (lget deeds v2.2.2.2).Who, (lget deeds v2.2.2.2).N⟩ : Deed) v2.2.2.1 v2.1 v2.2.1 0 0 true 0 0 false x4 h5) ⟨[(100000, 8)], [(100000, 47), (100001, 59)], [], []⟩) .nil) ?_
              refine ZRs [] [6, 7, 8, 10, 12, 51, 52, 53, 61] [6, 7, 8] [47, 59] [(61, .bool (!decide (x4.1 = 0)))] .nil ?_
              refine Wk_split rfl (fun hb => ?_) (fun hb => ?_)
              · have hF := ite_t hF hb
                refine Wk_seq ?_
                obtain ⟨x5, h6, hF⟩ := lt_split hF
                refine UR [.callB (.agg [.i x5.Code, .i x5.At])] [6, 7] [6, 7] [] [] [] [(7, [.i x5.Code, .i x5.At])] [] [] (.cons (clan_fault_ok x4.1 v2.2.2.2 x5 h6) .nil) ?_
                have hF := ret_done hF dn1
                have hF := some_elim hF
                exact Wk_ret (hfin _ ⟨[], [], [], [], [], [], by first | (rw [← hF]; kernel_rfl) | kernel_rfl⟩)
              · have hF := ite_f hF hb
                refine Wk_skip ?_
                refine Wk_blk ?_
                refine ZR [] [6, 7, 8, 51, 52, 53] [6, 7, 8] [47, 59] [(53, .i (w64 (v2.2.2.2 + 1)))] .nil ?_
                refine Wk_trim (fs := [6, 7, 8, 51, 52, 53]) (bs := [6, 7, 8]) (rs := [47, 59]) (ms := []) (aa := []) (nv := [(59, ⟨0, true, true, false⟩)]) ?_ (ih1 _ (some_elim hF).symm)
                kernel_rfl
            · have hF := ite_f hF hb
              refine Wk_exit rfl ?_
              have hF := inrO_done hF dn1
              exact Wk_metP (v2.1, v2.2.1, v2.2.2.1) [6, 7, 8] [6, 7, 8] [47, 59] [] [] [] hF (by kernel_rfl)
          · intro v1 hF
            have hF : clan_Play_v1_J2 v1 = some r := hF
            unfold clan_Play_v1_J2 at hF
            refine Wk_seq ?_
            obtain ⟨x3, h3, hF⟩ := ob_elim hF
            refine UR [.callE [] [] [] [] (.row 70 0) ⟨[], [], [(70, .o 62 9 0 (x3.map e_Mail))], [], []⟩] [6, 7, 8] [6, 7, 8] [47, 70] [] [] [(8, [.row 47 0, .row 70 0, .sl 1 (v1.2.2.map e_str)])] [(70, .o 62 9 0 (x3.map e_Mail))] [] (.cons (Pe.ren (clan_own_ok v1.2.1 x3 h3) ⟨[], [(6, 70)], [], []⟩) .nil) ?_
            refine URs [] [6, 7] [6, 7] [47, 70] [] [] [(6, [.row 47 0, .row 70 0])] [] [] .nil ?_
            have hF := some_elim hF
            exact Wk_ret (hfin _ ⟨[], [], [], [], [], [], by first | (rw [← hF]; kernel_rfl) | kernel_rfl⟩)

/- clan.Good -/
noncomputable def clan_Good_v1_J2 (v1 : List (List UInt8)) : Option (List (List UInt8) × Fault) :=
  some (v1, (⟨0, 0⟩ : Fault))
noncomputable def clan_Good_v1_B1 (v : Node) (v2 : List (List UInt8) × Int) : Option ((List (List UInt8) × Int) ⊕ (List (List UInt8) × Fault)) :=
  if (decide (v2.2 < ((ltake v.Log v.Commit).length : Int))) = true then
    asrt (0 ≤ v2.2 ∧ v2.2 < ((ltake v.Log v.Commit).length : Int)) <|
    asrt (((v2.1 ++ ([(lget (ltake v.Log v.Commit) v2.2).Text] : List (List UInt8))).length : Int) * 16 ≤ 140737488351232) <|
    lt ((v2.1 ++ ([(lget (ltake v.Log v.Commit) v2.2).Text] : List (List UInt8)))) fun (v3 : List (List UInt8)) =>
    some (Sum.inl (v3, w64 (v2.2 + 1)))
  else
    inrO (clan_Good_v1_J2 v2.1)
noncomputable def clan_Good_v1_L1 (v : Node) (v0 : List (List UInt8) × Int) : Option (List (List UInt8) × Fault) :=
  loopO (fun y => clan_Good_v1_B1 v y) v0
noncomputable def clan_Good_v1_J1 (v : Node) : Option (List (List UInt8) × Fault) :=
  asrt (0 ≤ v.Commit ∧ v.Commit ≤ (v.Log.length : Int)) <|
  clan_Good_v1_L1 v (([] : List (List UInt8)), 0)
noncomputable def clan_Good_v1_B2 (c : Clan) (v4 : Node × Int) : Option ((Node × Int) ⊕ (List (List UInt8) × Fault)) :=
  if (decide (v4.2 < (c.Nodes.length : Int))) = true then
    asrt (0 ≤ v4.2 ∧ v4.2 < (c.Nodes.length : Int)) <|
    ob (raft_Check (⟨(lget c.Nodes v4.2).N, (lget c.Nodes v4.2).ID, (lget c.Nodes v4.2).Term, (lget c.Nodes v4.2).Vote, (lget c.Nodes v4.2).Log, (lget c.Nodes v4.2).Role, (lget c.Nodes v4.2).Commit, (lget c.Nodes v4.2).Votes, (lget c.Nodes v4.2).Next, (lget c.Nodes v4.2).Have⟩ : Node)) fun x1 =>
    if (!decide (x1.Code = 0)) = true then
      lt (clan_fault x1.Code v4.2) fun x2 =>
      some (Sum.inr (([] : List (List UInt8)), x2))
    else
      ob (
        if (decide (v4.1.Commit < ((lget c.Nodes v4.2).Commit))) = true then
          some (⟨(lget c.Nodes v4.2).N, (lget c.Nodes v4.2).ID, (lget c.Nodes v4.2).Term, (lget c.Nodes v4.2).Vote, (lget c.Nodes v4.2).Log, (lget c.Nodes v4.2).Role, (lget c.Nodes v4.2).Commit, (lget c.Nodes v4.2).Votes, (lget c.Nodes v4.2).Next, (lget c.Nodes v4.2).Have⟩ : Node)
        else
          some v4.1) fun (v5 : Node) =>
      some (Sum.inl (v5, w64 (v4.2 + 1)))
  else
    inrO (clan_Good_v1_J1 v4.1)
noncomputable def clan_Good_v1_L2 (c : Clan) (v0 : Node × Int) : Option (List (List UInt8) × Fault) :=
  loopO (fun y => clan_Good_v1_B2 c y) v0
noncomputable def clan_Good_v1 (c : Clan) : Option (List (List UInt8) × Fault) :=
  if (decide (7 < (c.Nodes.length : Int))) = true then
    lt (clan_fault 2 (-1)) fun x =>
    some (([] : List (List UInt8)), x)
  else
    clan_Good_v1_L2 c ((⟨0, 0, 0, 0, ([] : List Entry), 0, 0, ([] : List Int), ([] : List Int), ([] : List Int)⟩ : Node), 0)
theorem clan_Good_v1_ok (c : Clan) (r : List (List UInt8) × Fault) (hF : clan_Good_v1 c = some r) : Pe Try.prog 50 S.none [.agg [.sl 10 (c.Nodes.map e_Node), .sl 9 (c.Way.map e_Mail)]] (.tup [.sl 1 (r.1.map e_str), .agg [.i r.2.Code, .i r.2.At]]) S.none := by
  refine Pe_of (N := 58) (res := [.tmp 2, .cell 3 26]) (ts := [66, 26]) Ty.ok Fn.b50 Try.func50 rfl rfl rfl rfl rfl rfl ?_
  intro Q g hfin
  unfold clan_Good_v1 at hF
  refine URs [] [1, 3] [1, 3] [] [] [(1, .ptr 1 0), (3, .ptr 3 0)] [(1, [.sl 10 (c.Nodes.map e_Node), .sl 9 (c.Way.map e_Mail)]), (3, [.i 0, .i 0])] [] [] .nil ?_
  refine Wk_seq ?_
  refine ZRs [.nat (c.Nodes.length : Int)] [1, 3, 14] [1, 3] [] [(14, .bool (decide (7 < (c.Nodes.length : Int))))] (.cons (len_ok e_Node c.Nodes) .nil) ?_
  refine Wk_split rfl (fun hb => ?_) (fun hb => ?_)
  · have hF := ite_t hF hb
    refine Wk_seq ?_
    obtain ⟨x, h0, hF⟩ := lt_split hF
    refine UR [.callB (.agg [.i x.Code, .i x.At])] [2, 3] [3] [] [] [(2, .nils)] [(3, [.i x.Code, .i x.At])] [] [] (.cons (clan_fault_ok 2 (-1) x h0) .nil) ?_
    have hF := some_elim hF
    exact Wk_ret (hfin _ ⟨[], [], [], [], [], [], by first | (rw [← hF]; kernel_rfl) | kernel_rfl⟩)
  · have hF := ite_f hF hb
    refine Wk_skip ?_
    refine URs [] [1, 3, 4] [1, 3, 4] [] [] [(4, .ptr 4 0)] [(4, [.i 0, .i 0, .i 0, .i 0, .nils, .i 0, .i 0, .nils, .nils, .nils])] [] [] .nil ?_
    refine Wk_seq ?_
    refine ZRs [.nat (c.Nodes.length : Int)] [3, 4, 17, 18, 19] [3, 4] [] [(17, .sl 10 (c.Nodes.map e_Node)), (18, .i (c.Nodes.length : Int)), (19, .i 0)] (.cons (len_ok e_Node c.Nodes) .nil) ?_
    refine Wk_meetP (fun v : Node => (⟨[(3, .ptr 3 0), (4, .ptr 4 0)], [(3, [.i 0, .i 0]), (4, (c_Node v))], [], [], []⟩ : S)) (fun v => clan_Good_v1_J1 v = some r) ?_ ?_
    · refine Wk_block ?_
      unfold clan_Good_v1_L2 at hF
      refine Wk_coeB 4 [.i 0, .i 0, .i 0, .i 0, .sl 2 (([] : List Entry).map e_Entry), .i 0, .i 0, .sl 1 (([] : List Int).map e_i64), .sl 1 (([] : List Int).map e_i64), .sl 1 (([] : List Int).map e_i64)] rfl (.cons (CoeS.refl _) (.cons (CoeS.refl _) (.cons (CoeS.refl _) (.cons (CoeS.refl _) (.cons (CoeS.nils 2) (.cons (CoeS.refl _) (.cons (CoeS.refl _) (.cons (CoeS.nils 1) (.cons (CoeS.nils 1) (.cons (CoeS.nils 1) .nil)))))))))) ?_
      refine Wk_trim (fs := [3, 4, 17, 18, 19]) (bs := [3, 4]) (rs := []) (ms := []) (aa := []) (nv := []) (t := (fun v4 : Node × Int => (⟨[(3, .ptr 3 0), (4, .ptr 4 0), (17, .sl 10 (c.Nodes.map e_Node)), (18, .i (c.Nodes.length : Int)), (19, .i v4.2)], [(3, [.i 0, .i 0]), (4, (c_Node v4.1))], [], [], []⟩ : S)) ((⟨0, 0, 0, 0, ([] : List Entry), 0, 0, ([] : List Int), ([] : List Int), ([] : List Int)⟩ : Node), 0)) (by kernel_rfl) ?_
      refine Wk_iter (step := fun y => clan_Good_v1_B2 c y) (r := r) (fun v4 : Node × Int => (⟨[(3, .ptr 3 0), (4, .ptr 4 0), (17, .sl 10 (c.Nodes.map e_Node)), (18, .i (c.Nodes.length : Int)), (19, .i v4.2)], [(3, [.i 0, .i 0]), (4, (c_Node v4.1))], [], [], []⟩ : S)) ((⟨0, 0, 0, 0, ([] : List Entry), 0, 0, ([] : List Int), ([] : List Int), ([] : List Int)⟩ : Node), 0) hF ?_
      intro n1 v4 y1 hF ih1 dn1
      have hF : clan_Good_v1_B2 c v4 = some y1 := hF
      unfold clan_Good_v1_B2 at hF
      refine ZRs [] [3, 4, 17, 18, 19, 20] [3, 4] [] [(20, .bool (decide (v4.2 < (c.Nodes.length : Int))))] .nil ?_
      refine Wk_seq ?_
      refine Wk_split rfl (fun hb => ?_) (fun hb => ?_)
      · have hF := ite_t hF hb
        refine Wk_skip ?_
        refine Wk_seq ?_
        refine Wk_block ?_
        refine Wk_seq ?_
        obtain ⟨h4, hF⟩ := asrt_elim hF
        refine UR [.av (e_Node (lget c.Nodes v4.2))] [3, 4, 5, 6, 17, 18, 19] [3, 4, 6] [] [] [(5, .i v4.2), (6, .ptr 6 0)] [(6, (c_Node (lget c.Nodes v4.2)))] [] [] (.cons (idx_ok e_Node h4) .nil) ?_
        refine Wk_seq ?_
        refine Wk_seq ?_
        obtain ⟨x1, h5, hF⟩ := ob_elim hF
        refine UR [.callB (.agg [.i x1.Code, .i x1.At])] [3, 4, 5, 6, 7, 17, 18, 19] [3, 4, 6, 7] [] [] [(7, .ptr 7 0)] [(7, [.i x1.Code, .i x1.At])] [] [] (.cons (raft_Check_ok (⟨(lget c.Nodes v4.2).N, (lget c.Nodes v4.2).ID, (lget c.Nodes v4.2).Term, (lget c.Nodes v4.2).Vote, (lget c.Nodes v4.2).Log, (lget c.Nodes v4.2).Role, (lget c.Nodes v4.2).Commit, (lget c.Nodes v4.2).Votes, (lget c.Nodes v4.2).Next, (lget c.Nodes v4.2).Have⟩ : Node) x1 h5) .nil) ?_
        refine ZRs [] [3, 4, 5, 6, 7, 17, 18, 19, 28] [3, 4, 6, 7] [] [(28, .bool (!decide (x1.Code = 0)))] .nil ?_
        refine Wk_split rfl (fun hb => ?_) (fun hb => ?_)
        · have hF := ite_t hF hb
          refine Wk_seq ?_
          obtain ⟨x2, h6, hF⟩ := lt_split hF
          refine UR [.callB (.agg [.i x2.Code, .i x2.At])] [2, 3] [3] [] [] [(2, .nils)] [(3, [.i x2.Code, .i x2.At])] [] [] (.cons (clan_fault_ok x1.Code v4.2 x2 h6) .nil) ?_
          have hF := ret_done hF dn1
          have hF := some_elim hF
          exact Wk_ret (hfin _ ⟨[], [], [], [], [], [], by first | (rw [← hF]; kernel_rfl) | kernel_rfl⟩)
        · have hF := ite_f hF hb
          refine Wk_skip ?_
          refine ZRs [] [3, 4, 6, 17, 18, 19, 37] [3, 4, 6] [] [(37, .bool (decide (v4.1.Commit < ((lget c.Nodes v4.2).Commit))))] .nil ?_
          obtain ⟨v5, hv, hF⟩ := ob_elim hF
          refine Wk_meet (⟨[(3, .ptr 3 0), (4, .ptr 4 0), (17, .sl 10 (c.Nodes.map e_Node)), (18, .i (c.Nodes.length : Int)), (19, .i v4.2)], [(3, [.i 0, .i 0]), (4, (c_Node v5))], [], [], []⟩ : S) ?_ ?_
          · have hF := hv
            refine Wk_split rfl (fun hb => ?_) (fun hb => ?_)
            · have hF := ite_t hF hb
              refine UR [] [3, 4, 17, 18, 19] [3, 4] [] [] [] [(4, (c_Node (lget c.Nodes v4.2)))] [] [] .nil ?_
              exact Wk_met (fs := [3, 4, 17, 18, 19]) (bs := [3, 4]) (rs := []) (ms := []) (aa := []) (nv := []) (by first | (rw [← some_elim hF]; kernel_rfl) | kernel_rfl)
            · have hF := ite_f hF hb
              refine Wk_skip ?_
              exact Wk_met (fs := [3, 4, 17, 18, 19]) (bs := [3, 4]) (rs := []) (ms := []) (aa := []) (nv := []) (by first | (rw [← some_elim hF]; kernel_rfl) | kernel_rfl)
          · refine Wk_blk ?_
            refine ZR [] [3, 4, 17, 18, 19] [3, 4] [] [(19, .i (w64 (v4.2 + 1)))] .nil ?_
            refine Wk_trim (fs := [3, 4, 17, 18, 19]) (bs := [3, 4]) (rs := []) (ms := []) (aa := []) (nv := []) ?_ (ih1 _ (some_elim hF).symm)
            kernel_rfl
      · have hF := ite_f hF hb
        refine Wk_exit rfl ?_
        have hF := inrO_done hF dn1
        exact Wk_metP v4.1 [3, 4] [3, 4] [] [] [] [] hF (by kernel_rfl)
    · intro v hF
      have hF : clan_Good_v1_J1 v = some r := hF
      unfold clan_Good_v1_J1 at hF
      refine ZRs [] [3, 4, 8] [3, 4] [] [(8, .nils)] .nil ?_
      refine Wk_seq ?_
      refine Wk_seq ?_
      obtain ⟨h1, hF⟩ := asrt_elim hF
      refine ZR [.xs ((ltake v.Log v.Commit).map e_Entry), .nat ((ltake v.Log v.Commit).length : Int)] [3, 8, 44, 45, 46] [3] [] [(44, .sl 2 ((ltake v.Log v.Commit).map e_Entry)), (45, .i ((ltake v.Log v.Commit).length : Int)), (46, .i 0)] (.cons (sl01_ok e_Entry h1) (.cons (len_ok e_Entry (ltake v.Log v.Commit)) .nil)) ?_
      refine Wk_meetP (fun v1 : List (List UInt8) => (⟨[(3, .ptr 3 0), (8, .row 54 0)], [(3, [.i 0, .i 0])], [(54, .z 9 1 0 (v1.map e_str))], [], []⟩ : S)) (fun v1 => clan_Good_v1_J2 v1 = some r) ?_ ?_
      · refine Wk_block ?_
        unfold clan_Good_v1_L1 at hF
        refine Wk_nilrow 8 60000 9 1 rfl rfl rfl ?_
        refine Wk_trim (fs := [3, 8, 44, 45, 46]) (bs := [3]) (rs := [60000]) (ms := []) (aa := []) (nv := []) rfl ?_
        refine Wk_ren' ⟨[], [(60000, 54)], [], []⟩ rfl ?_
        refine Wk_trim (fs := [3, 8, 44, 45, 46]) (bs := [3]) (rs := [54]) (ms := []) (aa := []) (nv := []) (t := (fun v2 : List (List UInt8) × Int => (⟨[(3, .ptr 3 0), (8, .row 54 0), (44, .sl 2 ((ltake v.Log v.Commit).map e_Entry)), (45, .i ((ltake v.Log v.Commit).length : Int)), (46, .i v2.2)], [(3, [.i 0, .i 0])], [(54, .z 9 1 0 (v2.1.map e_str))], [], []⟩ : S)) (([] : List (List UInt8)), 0)) (by kernel_rfl) ?_
        refine Wk_iter (step := fun y => clan_Good_v1_B1 v y) (r := r) (fun v2 : List (List UInt8) × Int => (⟨[(3, .ptr 3 0), (8, .row 54 0), (44, .sl 2 ((ltake v.Log v.Commit).map e_Entry)), (45, .i ((ltake v.Log v.Commit).length : Int)), (46, .i v2.2)], [(3, [.i 0, .i 0])], [(54, .z 9 1 0 (v2.1.map e_str))], [], []⟩ : S)) (([] : List (List UInt8)), 0) hF ?_
        intro n1 v2 y1 hF ih1 dn1
        have hF : clan_Good_v1_B1 v v2 = some y1 := hF
        unfold clan_Good_v1_B1 at hF
        refine ZRs [] [3, 8, 44, 45, 46, 47] [3] [54] [(47, .bool (decide (v2.2 < ((ltake v.Log v.Commit).length : Int))))] .nil ?_
        refine Wk_seq ?_
        refine Wk_split rfl (fun hb => ?_) (fun hb => ?_)
        · have hF := ite_t hF hb
          refine Wk_skip ?_
          refine Wk_seq ?_
          refine Wk_block ?_
          refine Wk_seq ?_
          obtain ⟨h2, hF⟩ := asrt_elim hF
          refine UR [.av (e_Entry (lget (ltake v.Log v.Commit) v2.2))] [3, 8, 10, 44, 45, 46] [3, 10] [54] [] [(10, .ptr 10 0)] [(10, [.i ((lget (ltake v.Log v.Commit) v2.2).Term), .str ((lget (ltake v.Log v.Commit) v2.2).Text)])] [] [] (.cons (idx_ok e_Entry h2) .nil) ?_
          obtain ⟨h3, hF⟩ := asrt_elim hF
          refine WRL ((v2.1 ++ ([(lget (ltake v.Log v.Commit) v2.2).Text] : List (List UInt8)))) (fun v3 : List (List UInt8) => ⟨[(3, .ptr 3 0), (8, .row 54 1), (44, .sl 2 ((ltake v.Log v.Commit).map e_Entry)), (45, .i ((ltake v.Log v.Commit).length : Int)), (46, .i v2.2)], [(3, [.i 0, .i 0])], [(54, .z 9 1 1 (v3.map e_str))], [], []⟩) [.sealed, .xs ((v2.1 ++ ([(lget (ltake v.Log v.Commit) v2.2).Text] : List (List UInt8))).map e_str)] [3, 8, 44, 45, 46] [3] [54] [] [] [] (.cons (app_ok e_str v2.1 ([(lget (ltake v.Log v.Commit) v2.2).Text] : List (List UInt8))) (.cons (appl_ok e_str h3) .nil)) (by kernel_rfl) (fun v3 hv => ?_)
          have hF := lt_elim hF hv
          refine Wk_blk ?_
          refine ZR [] [3, 8, 44, 45, 46] [3] [54] [(46, .i (w64 (v2.2 + 1)))] .nil ?_
          refine Wk_trim (fs := [3, 8, 44, 45, 46]) (bs := [3]) (rs := [54]) (ms := []) (aa := []) (nv := [(54, ⟨0, true, true, false⟩)]) ?_ (ih1 _ (some_elim hF).symm)
          kernel_rfl
        · have hF := ite_f hF hb
          refine Wk_exit rfl ?_
          have hF := inrO_done hF dn1
          exact Wk_metP v2.1 [3, 8] [3] [54] [] [] [] hF (by kernel_rfl)
      · intro v1 hF
        have hF : clan_Good_v1_J2 v1 = some r := hF
        unfold clan_Good_v1_J2 at hF
        refine ZRs [] [2, 3] [3] [54] [(2, .row 54 0)] .nil ?_
        have hF := some_elim hF
        exact Wk_ret (hfin _ ⟨[], [], [], [], [], [], by first | (rw [← hF]; kernel_rfl) | kernel_rfl⟩)

/- tabularyref.SameTexts -/
noncomputable def R_SameTexts_J1 (v : Unit) : Option Bool :=
  some true
noncomputable def R_SameTexts_B1 (a0 : List (List UInt8)) (b : List (List UInt8)) (v1 : Int) : Option (Int ⊕ Bool) :=
  if (decide (v1 < (a0.length : Int))) = true then
    asrt (0 ≤ v1 ∧ v1 < (a0.length : Int)) <|
    asrt (0 ≤ v1 ∧ v1 < (b.length : Int)) <|
    if (!decide ((lget a0 v1) = (lget b v1))) = true then
      some (Sum.inr false)
    else
      some (Sum.inl (w64 (v1 + 1)))
  else
    inrO (R_SameTexts_J1 ())
noncomputable def R_SameTexts_L1 (a0 : List (List UInt8)) (b : List (List UInt8)) (v0 : Int) : Option Bool :=
  loopO (fun y => R_SameTexts_B1 a0 b y) v0
noncomputable def R_SameTexts (a0 : List (List UInt8)) (b : List (List UInt8)) : Option Bool :=
  if (!decide ((a0.length : Int) = (b.length : Int))) = true then
    some false
  else
    R_SameTexts_L1 a0 b 0
theorem R_SameTexts_ok (a0 : List (List UInt8)) (b : List (List UInt8)) (r : Bool) (hF : R_SameTexts a0 b = some r) : Pe Try.prog 47 S.none [.sl 1 (a0.map e_str), .sl 1 (b.map e_str)] (.bool r) S.none := by
  refine Pe_of (N := 26) (res := [.tmp 4]) (ts := [4]) Ty.ok Fn.b47 Try.func47 rfl rfl rfl rfl rfl rfl ?_
  intro Q g hfin
  unfold R_SameTexts at hF
  refine ZRs [] [0, 1] [] [] [] .nil ?_
  refine Wk_seq ?_
  refine ZRs [.nat (a0.length : Int), .nat (b.length : Int)] [0, 1, 10] [] [] [(10, .bool (!decide ((a0.length : Int) = (b.length : Int))))] (.cons (len_ok e_str a0) (.cons (len_ok e_str b) .nil)) ?_
  refine Wk_split rfl (fun hb => ?_) (fun hb => ?_)
  · have hF := ite_t hF hb
    refine ZRs [] [4] [] [] [(4, .bool false)] .nil ?_
    have hF := some_elim hF
    exact Wk_ret (hfin _ ⟨[], [], [], [], [], [], by first | (rw [← hF]; kernel_rfl) | kernel_rfl⟩)
  · have hF := ite_f hF hb
    refine Wk_skip ?_
    refine Wk_seq ?_
    refine ZRs [] [0, 1, 5] [] [] [(5, .i 0)] .nil ?_
    refine Wk_meetP (fun v : Unit => (⟨[], [], [], [], []⟩ : S)) (fun v => R_SameTexts_J1 v = some r) ?_ ?_
    · refine Wk_block ?_
      unfold R_SameTexts_L1 at hF
      refine Wk_trim (fs := [0, 1, 5]) (bs := []) (rs := []) (ms := []) (aa := []) (nv := []) (t := (fun v1 : Int => (⟨[(0, .sl 1 (a0.map e_str)), (1, .sl 1 (b.map e_str)), (5, .i v1)], [], [], [], []⟩ : S)) 0) (by kernel_rfl) ?_
      refine Wk_iter (step := fun y => R_SameTexts_B1 a0 b y) (r := r) (fun v1 : Int => (⟨[(0, .sl 1 (a0.map e_str)), (1, .sl 1 (b.map e_str)), (5, .i v1)], [], [], [], []⟩ : S)) 0 hF ?_
      intro n1 v1 y1 hF ih1 dn1
      have hF : R_SameTexts_B1 a0 b v1 = some y1 := hF
      unfold R_SameTexts_B1 at hF
      refine Wk_seq ?_
      refine ZRs [.nat (a0.length : Int)] [0, 1, 5, 14] [] [] [(14, .bool (decide (v1 < (a0.length : Int))))] (.cons (len_ok e_str a0) .nil) ?_
      refine Wk_split rfl (fun hb => ?_) (fun hb => ?_)
      · have hF := ite_t hF hb
        refine Wk_skip ?_
        refine Wk_seq ?_
        refine Wk_block ?_
        refine Wk_seq ?_
        obtain ⟨h0, hF⟩ := asrt_elim hF
        obtain ⟨h1, hF⟩ := asrt_elim hF
        refine ZD [.av (e_str (lget a0 v1)), .av (e_str (lget b v1))] [0, 1, 5, 25] [] [] [(25, .bool (!decide ((lget a0 v1) = (lget b v1))))] (.cons (idx_ok e_str h0) (.cons (idx_ok e_str h1) .nil)) ?_
        refine Wk_split rfl (fun hb => ?_) (fun hb => ?_)
        · have hF := ite_t hF hb
          refine ZRs [] [4] [] [] [(4, .bool false)] .nil ?_
          have hF := ret_done hF dn1
          have hF := some_elim hF
          exact Wk_ret (hfin _ ⟨[], [], [], [], [], [], by first | (rw [← hF]; kernel_rfl) | kernel_rfl⟩)
        · have hF := ite_f hF hb
          refine Wk_skip ?_
          refine Wk_blk ?_
          refine ZR [] [0, 1, 5] [] [] [(5, .i (w64 (v1 + 1)))] .nil ?_
          refine Wk_trim (fs := [0, 1, 5]) (bs := []) (rs := []) (ms := []) (aa := []) (nv := []) ?_ (ih1 _ (some_elim hF).symm)
          kernel_rfl
      · have hF := ite_f hF hb
        refine Wk_exit rfl ?_
        have hF := inrO_done hF dn1
        exact Wk_metP () [] [] [] [] [] [] hF (by kernel_rfl)
    · intro v hF
      have hF : R_SameTexts_J1 v = some r := hF
      unfold R_SameTexts_J1 at hF
      refine ZRs [] [4] [] [] [(4, .bool true)] .nil ?_
      have hF := some_elim hF
      exact Wk_ret (hfin _ ⟨[], [], [], [], [], [], by first | (rw [← hF]; kernel_rfl) | kernel_rfl⟩)

/- tabularylaw.clanBegun -/
noncomputable def law_clanBegun  : Option Bool :=
  ob (clan_Play_v1 1 ([([97] : List UInt8)] : List (List UInt8)) [(⟨0, 0, 0⟩ : Deed), (⟨1, 0, 0⟩ : Deed)]) fun x =>
  ob (clan_Good_v1 x.1) fun x1 =>
  ob (if ((decide (x.2.Code = 0)) && (decide (x1.2.Code = 0))) = true then (R_SameTexts x1.1 ([([97] : List UInt8)] : List (List UInt8))) else some default) fun x2 =>
  some (((decide (x.2.Code = 0)) && (decide (x1.2.Code = 0))) && x2)
theorem law_clanBegun_ok  (r : Bool) (hF : law_clanBegun  = some r) : Pe Try.prog 44 S.none [] (.bool r) S.none := by
  refine Pe_of (N := 31) (res := [.tmp 0]) (ts := [4]) Ty.ok Fn.b44 Try.func44 rfl rfl rfl rfl rfl rfl ?_
  intro Q g hfin
  unfold law_clanBegun at hF
  refine ZRs [] [] [] [] [] .nil ?_
  refine Wk_seq ?_
  obtain ⟨x, h0, hF⟩ := ob_elim hF
  refine UR [.sealed, .sealed, .call (.tup [.agg [.sl 10 (x.1.Nodes.map e_Node), .sl 9 (x.1.Way.map e_Mail)], .agg [.i x.2.Code, .i x.2.At]])] [1, 2] [1, 2] [] [] [(1, .ptr 1 0), (2, .ptr 2 0)] [(1, [.sl 10 (x.1.Nodes.map e_Node), .sl 9 (x.1.Way.map e_Mail)]), (2, [.i x.2.Code, .i x.2.At])] [] [] (.cons (clan_Play_v1_ok 1 ([([97] : List UInt8)] : List (List UInt8)) [(⟨0, 0, 0⟩ : Deed), (⟨1, 0, 0⟩ : Deed)] x h0) .nil) ?_
  refine Wk_seq ?_
  obtain ⟨x1, h1, hF⟩ := ob_elim hF
  refine UR [.call (.tup [.sl 1 (x1.1.map e_str), .agg [.i x1.2.Code, .i x1.2.At]])] [2, 3, 4] [2, 4] [] [] [(3, .sl 1 (x1.1.map e_str)), (4, .ptr 4 0)] [(4, [.i x1.2.Code, .i x1.2.At])] [] [] (.cons (clan_Good_v1_ok x.1 x1 h1) .nil) ?_
  refine Wk_seq ?_
  obtain ⟨x2, h2, hF⟩ := ob_elim hF
  refine ZR [.sealed, .callB (.bool x2)] [0] [] [] [(0, .bool (((decide (x.2.Code = 0)) && (decide (x1.2.Code = 0))) && x2))] (.cons (fun (ga0 : ((decide (x.2.Code = 0)) && (decide (x1.2.Code = 0))) = true) => (R_SameTexts_ok x1.1 ([([97] : List UInt8)] : List (List UInt8)) x2 (ite_t h2 ga0))) .nil) ?_
  have hF := some_elim hF
  exact Wk_ret (hfin _ ⟨[], [], [], [], [], [], by first | (rw [← hF]; kernel_rfl) | kernel_rfl⟩)

/- tabularylaw.vastLog -/
noncomputable def law_vastLog (l : List Entry) : Bool :=
  decide (300 < (l.length : Int))
theorem law_vastLog_ok (l : List Entry) (r : Bool) (hF : law_vastLog l = r) : Pe Try.prog 14 S.none [.sl 2 (l.map e_Entry)] (.bool r) S.none := by
  refine Pe_of (N := 6) (res := [.tmp 2]) (ts := [4]) Ty.ok Fn.b14 Try.func14 rfl rfl rfl rfl rfl rfl ?_
  intro Q g hfin
  unfold law_vastLog at hF
  refine ZRs [] [0] [] [] [] .nil ?_
  refine ZRs [.nat (l.length : Int)] [2] [] [] [(2, .bool (decide (300 < (l.length : Int))))] (.cons (len_ok e_Entry l) .nil) ?_
  exact Wk_ret (hfin _ ⟨[], [], [], [], [], [], by first | (rw [← hF]; kernel_rfl) | kernel_rfl⟩)

/- tabularylaw.vastNode -/
noncomputable def law_vastNode (x : Node) : Bool :=
  lt (law_vastLog x.Log) fun x1 =>
  lt (((x1 || (decide (100 < (x.Votes.length : Int)))) || (decide (100 < (x.Next.length : Int)))) || (decide (100 < (x.Have.length : Int)))) fun (v : Bool) =>
  v
theorem law_vastNode_ok (x : Node) (r : Bool) (hF : law_vastNode x = r) : Pe Try.prog 28 S.none [.agg (c_Node x)] (.bool r) S.none := by
  refine Pe_of (N := 24) (res := [.tmp 2]) (ts := [4]) Ty.ok Fn.b28 Try.func28 rfl rfl rfl rfl rfl rfl ?_
  intro Q g hfin
  unfold law_vastNode at hF
  refine URs [] [1] [1] [] [] [(1, .ptr 1 0)] [(1, (c_Node x))] [] [] .nil ?_
  refine Wk_seq ?_
  obtain ⟨x1, h0, hF⟩ := lt_split hF
  refine WRL (((x1 || (decide (100 < (x.Votes.length : Int)))) || (decide (100 < (x.Next.length : Int)))) || (decide (100 < (x.Have.length : Int)))) (fun v : Bool => ⟨[(2, .bool v)], [], [], [], []⟩) [.callB (.bool x1), .nat (x.Votes.length : Int), .nat (x.Next.length : Int), .nat (x.Have.length : Int)] [2] [] [] [] [] [] (.cons (law_vastLog_ok x.Log x1 h0) (.cons (fun (_ : (!x1) = true) => (len_ok e_i64 x.Votes)) (.cons (fun (_ : (!(x1 || (decide (100 < (x.Votes.length : Int))))) = true) => (len_ok e_i64 x.Next)) (.cons (fun (_ : (!((x1 || (decide (100 < (x.Votes.length : Int)))) || (decide (100 < (x.Next.length : Int))))) = true) => (len_ok e_i64 x.Have)) .nil)))) (by kernel_rfl) (fun v hv => ?_)
  have hF := lt_elim hF hv
  exact Wk_ret (hfin _ ⟨[], [], [], [], [], [], by first | (rw [← hF]; kernel_rfl) | kernel_rfl⟩)

/- tabularyref.F -/
noncomputable def R_F (code : Int) (at0 : Int) : Fault :=
  (⟨code, at0⟩ : Fault)
theorem R_F_ok (code : Int) (at0 : Int) (r : Fault) (hF : R_F code at0 = r) : Pe Try.prog 51 S.none [.i code, .i at0] (.agg [.i r.Code, .i r.At]) S.none := by
  refine Pe_of (N := 8) (res := [.cell 4 26]) (ts := [26]) Ty.ok Fn.b51 Try.func51 rfl rfl rfl rfl rfl rfl ?_
  intro Q g hfin
  unfold R_F at hF
  refine URs [] [0, 1, 4] [4] [] [] [(4, .ptr 4 0)] [(4, [.i 0, .i 0])] [] [] .nil ?_
  refine URs [] [4] [4] [] [] [] [(4, [.i code, .i at0])] [] [] .nil ?_
  exact Wk_ret (hfin _ ⟨[], [], [], [], [], [], by first | (rw [← hF]; kernel_rfl) | kernel_rfl⟩)

/- tabularyref.Num -/
noncomputable def R_Num (num : Int) : Bool :=
  (decide (0 ≤ num)) && (decide (num ≤ 1000000000))
theorem R_Num_ok (num : Int) (r : Bool) (hF : R_Num num = r) : Pe Try.prog 59 S.none [.i num] (.bool r) S.none := by
  refine Pe_of (N := 9) (res := [.tmp 2]) (ts := [4]) Ty.ok Fn.b59 Try.func59 rfl rfl rfl rfl rfl rfl ?_
  intro Q g hfin
  unfold R_Num at hF
  refine ZRs [] [0] [] [] [] .nil ?_
  refine ZRs [] [2] [] [] [(2, .bool ((decide (0 ≤ num)) && (decide (num ≤ 1000000000))))] .nil ?_
  exact Wk_ret (hfin _ ⟨[], [], [], [], [], [], by first | (rw [← hF]; kernel_rfl) | kernel_rfl⟩)

/- tabularyref.LogFault -/
noncomputable def R_LogFault_J1 (v : Unit) : Option Fault :=
  some (⟨0, 0⟩ : Fault)
noncomputable def R_LogFault_B1 (l : List Entry) (v1 : Int) : Option (Int ⊕ Fault) :=
  if (decide (v1 < (l.length : Int))) = true then
    asrt (0 ≤ v1 ∧ v1 < (l.length : Int)) <|
    asrt ((!(decide (((lget l v1).Term) < 1))) = true → 0 ≤ v1 ∧ v1 < (l.length : Int)) <|
    if ((decide (((lget l v1).Term) < 1)) || (decide (1000000000 < ((lget l v1).Term)))) = true then
      lt (R_F 3 v1) fun x1 =>
      some (Sum.inr x1)
    else
      asrt ((decide (0 < v1)) = true → 0 ≤ v1 ∧ v1 < (l.length : Int)) <|
      asrt ((decide (0 < v1)) = true → 0 ≤ w64 (v1 - 1) ∧ w64 (v1 - 1) < (l.length : Int)) <|
      if ((decide (0 < v1)) && (decide (((lget l v1).Term) < ((lget l (w64 (v1 - 1))).Term)))) = true then
        lt (R_F 11 v1) fun x2 =>
        some (Sum.inr x2)
      else
        asrt (0 ≤ v1 ∧ v1 < (l.length : Int)) <|
        if (decide (200 < (((lget l v1).Text).length : Int))) = true then
          lt (R_F 8 v1) fun x3 =>
          some (Sum.inr x3)
        else
          some (Sum.inl (w64 (v1 + 1)))
  else
    inrO (R_LogFault_J1 ())
noncomputable def R_LogFault_L1 (l : List Entry) (v0 : Int) : Option Fault :=
  loopO (fun y => R_LogFault_B1 l y) v0
noncomputable def R_LogFault (l : List Entry) : Option Fault :=
  if (decide (100 < (l.length : Int))) = true then
    lt (R_F 2 (-1)) fun x =>
    some x
  else
    R_LogFault_L1 l 0
theorem R_LogFault_ok (l : List Entry) (r : Fault) (hF : R_LogFault l = some r) : Pe Try.prog 18 S.none [.sl 2 (l.map e_Entry)] (.agg [.i r.Code, .i r.At]) S.none := by
  refine Pe_of (N := 58) (res := [.cell 2 26]) (ts := [26]) Ty.ok Fn.b18 Try.func18 rfl rfl rfl rfl rfl rfl ?_
  intro Q g hfin
  unfold R_LogFault at hF
  refine URs [] [0, 2] [2] [] [] [(2, .ptr 2 0)] [(2, [.i 0, .i 0])] [] [] .nil ?_
  refine Wk_seq ?_
  refine ZRs [.nat (l.length : Int)] [0, 2, 6] [2] [] [(6, .bool (decide (100 < (l.length : Int))))] (.cons (len_ok e_Entry l) .nil) ?_
  refine Wk_split rfl (fun hb => ?_) (fun hb => ?_)
  · have hF := ite_t hF hb
    refine Wk_seq ?_
    obtain ⟨x, h0, hF⟩ := lt_split hF
    refine UR [.callB (.agg [.i x.Code, .i x.At])] [2] [2] [] [] [] [(2, [.i x.Code, .i x.At])] [] [] (.cons (R_F_ok 2 (-1) x h0) .nil) ?_
    have hF := some_elim hF
    exact Wk_ret (hfin _ ⟨[], [], [], [], [], [], by first | (rw [← hF]; kernel_rfl) | kernel_rfl⟩)
  · have hF := ite_f hF hb
    refine Wk_skip ?_
    refine Wk_seq ?_
    refine ZRs [] [0, 2, 3] [2] [] [(3, .i 0)] .nil ?_
    refine Wk_meetP (fun v : Unit => (⟨[(2, .ptr 2 0)], [(2, [.i 0, .i 0])], [], [], []⟩ : S)) (fun v => R_LogFault_J1 v = some r) ?_ ?_
    · refine Wk_block ?_
      unfold R_LogFault_L1 at hF
      refine Wk_trim (fs := [0, 2, 3]) (bs := [2]) (rs := []) (ms := []) (aa := []) (nv := []) (t := (fun v1 : Int => (⟨[(0, .sl 2 (l.map e_Entry)), (2, .ptr 2 0), (3, .i v1)], [(2, [.i 0, .i 0])], [], [], []⟩ : S)) 0) (by kernel_rfl) ?_
      refine Wk_iter (step := fun y => R_LogFault_B1 l y) (r := r) (fun v1 : Int => (⟨[(0, .sl 2 (l.map e_Entry)), (2, .ptr 2 0), (3, .i v1)], [(2, [.i 0, .i 0])], [], [], []⟩ : S)) 0 hF ?_
      intro n1 v1 y1 hF ih1 dn1
      have hF : R_LogFault_B1 l v1 = some y1 := hF
      unfold R_LogFault_B1 at hF
      refine Wk_seq ?_
      refine ZRs [.nat (l.length : Int)] [0, 2, 3, 11] [2] [] [(11, .bool (decide (v1 < (l.length : Int))))] (.cons (len_ok e_Entry l) .nil) ?_
      refine Wk_split rfl (fun hb => ?_) (fun hb => ?_)
      · have hF := ite_t hF hb
        refine Wk_skip ?_
        refine Wk_seq ?_
        refine Wk_block ?_
        refine Wk_seq ?_
        refine Wk_seq ?_
        obtain ⟨h1, hF⟩ := asrt_elim hF
        obtain ⟨h2, hF⟩ := asrt_elim hF
        refine ZR [.av (e_Entry (lget l v1)), .av (e_Entry (lget l v1))] [0, 2, 3, 27] [2] [] [(27, .bool ((decide (((lget l v1).Term) < 1)) || (decide (1000000000 < ((lget l v1).Term)))))] (.cons (idx_ok e_Entry h1) (.cons (fun (ga0 : (!(decide (((lget l v1).Term) < 1))) = true) => (idx_ok e_Entry (h2 ga0))) .nil)) ?_
        refine Wk_split rfl (fun hb => ?_) (fun hb => ?_)
        · have hF := ite_t hF hb
          refine Wk_seq ?_
          obtain ⟨x1, h3, hF⟩ := lt_split hF
          refine UR [.callB (.agg [.i x1.Code, .i x1.At])] [2] [2] [] [] [] [(2, [.i x1.Code, .i x1.At])] [] [] (.cons (R_F_ok 3 v1 x1 h3) .nil) ?_
          have hF := ret_done hF dn1
          have hF := some_elim hF
          exact Wk_ret (hfin _ ⟨[], [], [], [], [], [], by first | (rw [← hF]; kernel_rfl) | kernel_rfl⟩)
        · have hF := ite_f hF hb
          refine Wk_skip ?_
          refine Wk_seq ?_
          refine Wk_seq ?_
          obtain ⟨h4, hF⟩ := asrt_elim hF
          obtain ⟨h5, hF⟩ := asrt_elim hF
          refine ZD [.av (e_Entry (lget l v1)), .av (e_Entry (lget l (w64 (v1 - 1))))] [0, 2, 3, 45] [2] [] [(45, .bool ((decide (0 < v1)) && (decide (((lget l v1).Term) < ((lget l (w64 (v1 - 1))).Term)))))] (.cons (fun (ga0 : (decide (0 < v1)) = true) => (idx_ok e_Entry (h4 ga0))) (.cons (fun (ga0 : (decide (0 < v1)) = true) => (idx_ok e_Entry (h5 ga0))) .nil)) ?_
          refine Wk_split rfl (fun hb => ?_) (fun hb => ?_)
          · have hF := ite_t hF hb
            refine Wk_seq ?_
            obtain ⟨x2, h6, hF⟩ := lt_split hF
            refine UR [.callB (.agg [.i x2.Code, .i x2.At])] [2] [2] [] [] [] [(2, [.i x2.Code, .i x2.At])] [] [] (.cons (R_F_ok 11 v1 x2 h6) .nil) ?_
            have hF := ret_done hF dn1
            have hF := some_elim hF
            exact Wk_ret (hfin _ ⟨[], [], [], [], [], [], by first | (rw [← hF]; kernel_rfl) | kernel_rfl⟩)
          · have hF := ite_f hF hb
            refine Wk_skip ?_
            refine Wk_seq ?_
            obtain ⟨h7, hF⟩ := asrt_elim hF
            refine ZR [.av (e_Entry (lget l v1))] [0, 2, 3, 54] [2] [] [(54, .bool (decide (200 < (((lget l v1).Text).length : Int))))] (.cons (idx_ok e_Entry h7) .nil) ?_
            refine Wk_split rfl (fun hb => ?_) (fun hb => ?_)
            · have hF := ite_t hF hb
              refine Wk_seq ?_
              obtain ⟨x3, h8, hF⟩ := lt_split hF
              refine UR [.callB (.agg [.i x3.Code, .i x3.At])] [2] [2] [] [] [] [(2, [.i x3.Code, .i x3.At])] [] [] (.cons (R_F_ok 8 v1 x3 h8) .nil) ?_
              have hF := ret_done hF dn1
              have hF := some_elim hF
              exact Wk_ret (hfin _ ⟨[], [], [], [], [], [], by first | (rw [← hF]; kernel_rfl) | kernel_rfl⟩)
            · have hF := ite_f hF hb
              refine Wk_skip ?_
              refine Wk_blk ?_
              refine ZR [] [0, 2, 3] [2] [] [(3, .i (w64 (v1 + 1)))] .nil ?_
              refine Wk_trim (fs := [0, 2, 3]) (bs := [2]) (rs := []) (ms := []) (aa := []) (nv := []) ?_ (ih1 _ (some_elim hF).symm)
              kernel_rfl
      · have hF := ite_f hF hb
        refine Wk_exit rfl ?_
        have hF := inrO_done hF dn1
        exact Wk_metP () [2] [2] [] [] [] [] hF (by kernel_rfl)
    · intro v hF
      have hF : R_LogFault_J1 v = some r := hF
      unfold R_LogFault_J1 at hF
      refine ZRs [] [2] [2] [] [] .nil ?_
      have hF := some_elim hF
      exact Wk_ret (hfin _ ⟨[], [], [], [], [], [], by first | (rw [← hF]; kernel_rfl) | kernel_rfl⟩)

/- tabularyref.LastTerm -/
noncomputable def R_LastTerm (l : List Entry) : Option Int :=
  if (decide ((l.length : Int) = 0)) = true then
    some 0
  else
    asrt (0 ≤ w64 ((l.length : Int) - 1) ∧ w64 ((l.length : Int) - 1) < (l.length : Int)) <|
    some ((lget l (w64 ((l.length : Int) - 1))).Term)
theorem R_LastTerm_ok (l : List Entry) (r : Int) (hF : R_LastTerm l = some r) : Pe Try.prog 20 S.none [.sl 2 (l.map e_Entry)] (.i r) S.none := by
  refine Pe_of (N := 13) (res := [.tmp 2]) (ts := [3]) Ty.ok Fn.b20 Try.func20 rfl rfl rfl rfl rfl rfl ?_
  intro Q g hfin
  unfold R_LastTerm at hF
  refine ZRs [] [0] [] [] [] .nil ?_
  refine Wk_seq ?_
  refine ZRs [.nat (l.length : Int)] [0, 5] [] [] [(5, .bool (decide ((l.length : Int) = 0)))] (.cons (len_ok e_Entry l) .nil) ?_
  refine Wk_split rfl (fun hb => ?_) (fun hb => ?_)
  · have hF := ite_t hF hb
    refine ZRs [] [2] [] [] [(2, .i 0)] .nil ?_
    have hF := some_elim hF
    exact Wk_ret (hfin _ ⟨[], [], [], [], [], [], by first | (rw [← hF]; kernel_rfl) | kernel_rfl⟩)
  · have hF := ite_f hF hb
    refine Wk_skip ?_
    refine Wk_seq ?_
    obtain ⟨h0, hF⟩ := asrt_elim hF
    refine ZR [.nat (l.length : Int), .av (e_Entry (lget l (w64 ((l.length : Int) - 1))))] [2] [] [] [(2, .i ((lget l (w64 ((l.length : Int) - 1))).Term))] (.cons (len_ok e_Entry l) (.cons (idx_ok e_Entry h0) .nil)) ?_
    have hF := some_elim hF
    exact Wk_ret (hfin _ ⟨[], [], [], [], [], [], by first | (rw [← hF]; kernel_rfl) | kernel_rfl⟩)

/- tabularyref.Has -/
noncomputable def R_Has_J1 (v : Unit) : Option Bool :=
  some false
noncomputable def R_Has_B1 (l : List Int) (num : Int) (v1 : Int) : Option (Int ⊕ Bool) :=
  if (decide (v1 < (l.length : Int))) = true then
    asrt (0 ≤ v1 ∧ v1 < (l.length : Int)) <|
    if (decide ((lget l v1) = num)) = true then
      some (Sum.inr true)
    else
      some (Sum.inl (w64 (v1 + 1)))
  else
    inrO (R_Has_J1 ())
noncomputable def R_Has_L1 (l : List Int) (num : Int) (v0 : Int) : Option Bool :=
  loopO (fun y => R_Has_B1 l num y) v0
noncomputable def R_Has (l : List Int) (num : Int) : Option Bool :=
  R_Has_L1 l num 0
theorem R_Has_ok (l : List Int) (num : Int) (r : Bool) (hF : R_Has l num = some r) : Pe Try.prog 72 S.none [.sl 1 (l.map e_i64), .i num] (.bool r) S.none := by
  refine Pe_of (N := 18) (res := [.tmp 4]) (ts := [4]) Ty.ok Fn.b72 Try.func72 rfl rfl rfl rfl rfl rfl ?_
  intro Q g hfin
  unfold R_Has at hF
  refine ZRs [] [0, 1] [] [] [] .nil ?_
  refine Wk_seq ?_
  refine ZRs [] [0, 1, 5] [] [] [(5, .i 0)] .nil ?_
  refine Wk_meetP (fun v : Unit => (⟨[], [], [], [], []⟩ : S)) (fun v => R_Has_J1 v = some r) ?_ ?_
  · refine Wk_block ?_
    unfold R_Has_L1 at hF
    refine Wk_trim (fs := [0, 1, 5]) (bs := []) (rs := []) (ms := []) (aa := []) (nv := []) (t := (fun v1 : Int => (⟨[(0, .sl 1 (l.map e_i64)), (1, .i num), (5, .i v1)], [], [], [], []⟩ : S)) 0) (by kernel_rfl) ?_
    refine Wk_iter (step := fun y => R_Has_B1 l num y) (r := r) (fun v1 : Int => (⟨[(0, .sl 1 (l.map e_i64)), (1, .i num), (5, .i v1)], [], [], [], []⟩ : S)) 0 hF ?_
    intro n1 v1 y1 hF ih1 dn1
    have hF : R_Has_B1 l num v1 = some y1 := hF
    unfold R_Has_B1 at hF
    refine Wk_seq ?_
    refine ZRs [.nat (l.length : Int)] [0, 1, 5, 9] [] [] [(9, .bool (decide (v1 < (l.length : Int))))] (.cons (len_ok e_i64 l) .nil) ?_
    refine Wk_split rfl (fun hb => ?_) (fun hb => ?_)
    · have hF := ite_t hF hb
      refine Wk_skip ?_
      refine Wk_seq ?_
      refine Wk_block ?_
      refine Wk_seq ?_
      obtain ⟨h0, hF⟩ := asrt_elim hF
      refine ZR [.av (e_i64 (lget l v1))] [0, 1, 5, 17] [] [] [(17, .bool (decide ((lget l v1) = num)))] (.cons (idx_ok e_i64 h0) .nil) ?_
      refine Wk_split rfl (fun hb => ?_) (fun hb => ?_)
      · have hF := ite_t hF hb
        refine ZRs [] [4] [] [] [(4, .bool true)] .nil ?_
        have hF := ret_done hF dn1
        have hF := some_elim hF
        exact Wk_ret (hfin _ ⟨[], [], [], [], [], [], by first | (rw [← hF]; kernel_rfl) | kernel_rfl⟩)
      · have hF := ite_f hF hb
        refine Wk_skip ?_
        refine Wk_blk ?_
        refine ZR [] [0, 1, 5] [] [] [(5, .i (w64 (v1 + 1)))] .nil ?_
        refine Wk_trim (fs := [0, 1, 5]) (bs := []) (rs := []) (ms := []) (aa := []) (nv := []) ?_ (ih1 _ (some_elim hF).symm)
        kernel_rfl
    · have hF := ite_f hF hb
      refine Wk_exit rfl ?_
      have hF := inrO_done hF dn1
      exact Wk_metP () [] [] [] [] [] [] hF (by kernel_rfl)
  · intro v hF
    have hF : R_Has_J1 v = some r := hF
    unfold R_Has_J1 at hF
    refine ZRs [] [4] [] [] [(4, .bool false)] .nil ?_
    have hF := some_elim hF
    exact Wk_ret (hfin _ ⟨[], [], [], [], [], [], by first | (rw [← hF]; kernel_rfl) | kernel_rfl⟩)

/- tabularyref.Majority -/
noncomputable def R_Majority (k0 : Int) (num : Int) : Bool :=
  decide ((w64 (Int.tdiv num 2)) < k0)
theorem R_Majority_ok (k0 : Int) (num : Int) (r : Bool) (hF : R_Majority k0 num = r) : Pe Try.prog 73 S.none [.i k0, .i num] (.bool r) S.none := by
  refine Pe_of (N := 9) (res := [.tmp 4]) (ts := [4]) Ty.ok Fn.b73 Try.func73 rfl rfl rfl rfl rfl rfl ?_
  intro Q g hfin
  unfold R_Majority at hF
  refine ZRs [] [0, 1] [] [] [] .nil ?_
  refine ZRs [] [4] [] [] [(4, .bool (decide ((w64 (Int.tdiv num 2)) < k0)))] (.cons (by decide : (2 : Int) ≠ 0) .nil) ?_
  exact Wk_ret (hfin _ ⟨[], [], [], [], [], [], by first | (rw [← hF]; kernel_rfl) | kernel_rfl⟩)

/- tabularyref.NodeFault -/
noncomputable def R_NodeFault_J2 (v1 : Unit) : Option Fault :=
  some (⟨0, 0⟩ : Fault)
noncomputable def R_NodeFault_J3 (v2 : Unit) : Option Fault :=
  R_NodeFault_J2 ()
noncomputable def R_NodeFault_B1 (x : Node) (x7 : Fault) (v3 : Int) : Option (Int ⊕ Fault) :=
  if (decide (v3 < x.N)) = true then
    asrt (0 ≤ v3 ∧ v3 < (x.Next.length : Int)) <|
    asrt ((!(decide ((lget x.Next v3) < 1))) = true → 0 ≤ v3 ∧ v3 < (x.Next.length : Int)) <|
    asrt ((!((decide ((lget x.Next v3) < 1)) || (decide ((w64 ((x.Log.length : Int) + 1)) < (lget x.Next v3))))) = true → 0 ≤ v3 ∧ v3 < (x.Have.length : Int)) <|
    asrt ((!(((decide ((lget x.Next v3) < 1)) || (decide ((w64 ((x.Log.length : Int) + 1)) < (lget x.Next v3)))) || (decide ((lget x.Have v3) < 0)))) = true → 0 ≤ v3 ∧ v3 < (x.Have.length : Int)) <|
    if ((((decide ((lget x.Next v3) < 1)) || (decide ((w64 ((x.Log.length : Int) + 1)) < (lget x.Next v3)))) || (decide ((lget x.Have v3) < 0))) || (decide ((x.Log.length : Int) < (lget x.Have v3)))) = true then
      some (Sum.inr x7)
    else
      some (Sum.inl (w64 (v3 + 1)))
  else
    inrO (R_NodeFault_J3 ())
noncomputable def R_NodeFault_L1 (x : Node) (x7 : Fault) (v0 : Int) : Option Fault :=
  loopO (fun y => R_NodeFault_B1 x x7 y) v0
noncomputable def R_NodeFault_J1 (x : Node) (x7 : Fault) (v : Unit) : Option Fault :=
  if (decide (x.Role = 2)) = true then
    if ((!decide ((x.Next.length : Int) = x.N)) || (!decide ((x.Have.length : Int) = x.N))) = true then
      some x7
    else
      R_NodeFault_L1 x x7 0
  else
    R_NodeFault_J2 ()
noncomputable def R_NodeFault_J4 (x : Node) (x7 : Fault) (v4 : Unit) : Option Fault :=
  R_NodeFault_J1 x x7 ()
noncomputable def R_NodeFault_B2 (x : Node) (x7 : Fault) (v5 : Int) : Option (Int ⊕ Fault) :=
  if (decide (v5 < (x.Votes.length : Int))) = true then
    asrt (0 ≤ v5 ∧ v5 < (x.Votes.length : Int)) <|
    asrt ((!(decide ((lget x.Votes v5) < 0))) = true → 0 ≤ v5 ∧ v5 < (x.Votes.length : Int)) <|
    asrt ((!((decide ((lget x.Votes v5) < 0)) || (decide (x.N ≤ (lget x.Votes v5))))) = true → 0 ≤ v5 ∧ v5 ≤ (x.Votes.length : Int)) <|
    asrt ((!((decide ((lget x.Votes v5) < 0)) || (decide (x.N ≤ (lget x.Votes v5))))) = true → 0 ≤ v5 ∧ v5 < (x.Votes.length : Int)) <|
    ob (if (!((decide ((lget x.Votes v5) < 0)) || (decide (x.N ≤ (lget x.Votes v5))))) = true then (R_Has (ltake x.Votes v5) (lget x.Votes v5)) else some default) fun x10 =>
    if (((decide ((lget x.Votes v5) < 0)) || (decide (x.N ≤ (lget x.Votes v5)))) || x10) = true then
      some (Sum.inr x7)
    else
      some (Sum.inl (w64 (v5 + 1)))
  else
    inrO (R_NodeFault_J4 x x7 ())
noncomputable def R_NodeFault_L2 (x : Node) (x7 : Fault) (v0 : Int) : Option Fault :=
  loopO (fun y => R_NodeFault_B2 x x7 y) v0
noncomputable def R_NodeFault (x : Node) : Option Fault :=
  if ((((decide (x.N < 1)) || (decide (7 < x.N))) || (decide (x.ID < 0))) || (decide (x.N ≤ x.ID))) = true then
    lt (R_F 3 (-1)) fun x1 =>
    some x1
  else
    lt (R_Num x.Term) fun x2 =>
    if (((((((!x2) || (decide (x.Vote < 0))) || (decide (x.N < x.Vote))) || (decide (x.Role < 0))) || (decide (2 < x.Role))) || (decide (x.Commit < 0))) || (decide ((x.Log.length : Int) < x.Commit))) = true then
      lt (R_F 3 (-2)) fun x3 =>
      some x3
    else
      ob (R_LogFault x.Log) fun x4 =>
      if (!decide (x4.Code = 0)) = true then
        some x4
      else
        ob (R_LastTerm x.Log) fun x5 =>
        if (decide (x.Term < x5)) = true then
          lt (R_F 11 (-3)) fun x6 =>
          some x6
        else
          lt (R_F 5 (-3)) fun x7 =>
          if (((!decide (x.Role = 1)) && (decide (0 < (x.Votes.length : Int)))) || ((!decide (x.Role = 2)) && ((decide (0 < (x.Next.length : Int))) || (decide (0 < (x.Have.length : Int)))))) = true then
            some x7
          else
            if (decide (x.Role = 1)) = true then
              ob (R_Has x.Votes x.ID) fun x8 =>
              lt (R_Majority (x.Votes.length : Int) x.N) fun x9 =>
              if ((!x8) || x9) = true then
                some x7
              else
                R_NodeFault_L2 x x7 0
            else
              R_NodeFault_J1 x x7 ()
theorem R_NodeFault_ok (x : Node) (r : Fault) (hF : R_NodeFault x = some r) : Pe Try.prog 36 S.none [.agg (c_Node x)] (.agg [.i r.Code, .i r.At]) S.none := by
  refine Pe_of (N := 227) (res := [.cell 2 26]) (ts := [26]) Ty.ok Fn.b36 Try.func36 rfl rfl rfl rfl rfl rfl ?_
  intro Q g hfin
  unfold R_NodeFault at hF
  refine URs [] [1, 2] [1, 2] [] [] [(1, .ptr 1 0), (2, .ptr 2 0)] [(1, (c_Node x)), (2, [.i 0, .i 0])] [] [] .nil ?_
  refine Wk_seq ?_
  refine ZRs [] [1, 2, 26] [1, 2] [] [(26, .bool ((((decide (x.N < 1)) || (decide (7 < x.N))) || (decide (x.ID < 0))) || (decide (x.N ≤ x.ID))))] .nil ?_
  refine Wk_split rfl (fun hb => ?_) (fun hb => ?_)
  · have hF := ite_t hF hb
    refine Wk_seq ?_
    obtain ⟨x1, h0, hF⟩ := lt_split hF
    refine UR [.callB (.agg [.i x1.Code, .i x1.At])] [2] [2] [] [] [] [(2, [.i x1.Code, .i x1.At])] [] [] (.cons (R_F_ok 3 (-1) x1 h0) .nil) ?_
    have hF := some_elim hF
    exact Wk_ret (hfin _ ⟨[], [], [], [], [], [], by first | (rw [← hF]; kernel_rfl) | kernel_rfl⟩)
  · have hF := ite_f hF hb
    refine Wk_skip ?_
    refine Wk_seq ?_
    refine Wk_seq ?_
    obtain ⟨x2, h1, hF⟩ := lt_split hF
    refine ZR [.callB (.bool x2), .nat (x.Log.length : Int)] [1, 2, 66] [1, 2] [] [(66, .bool (((((((!x2) || (decide (x.Vote < 0))) || (decide (x.N < x.Vote))) || (decide (x.Role < 0))) || (decide (2 < x.Role))) || (decide (x.Commit < 0))) || (decide ((x.Log.length : Int) < x.Commit))))] (.cons (R_Num_ok x.Term x2 h1) (.cons (fun (_ : (!((((((!x2) || (decide (x.Vote < 0))) || (decide (x.N < x.Vote))) || (decide (x.Role < 0))) || (decide (2 < x.Role))) || (decide (x.Commit < 0)))) = true) => (len_ok e_Entry x.Log)) .nil)) ?_
    refine Wk_split rfl (fun hb => ?_) (fun hb => ?_)
    · have hF := ite_t hF hb
      refine Wk_seq ?_
      obtain ⟨x3, h2, hF⟩ := lt_split hF
      refine UR [.callB (.agg [.i x3.Code, .i x3.At])] [2] [2] [] [] [] [(2, [.i x3.Code, .i x3.At])] [] [] (.cons (R_F_ok 3 (-2) x3 h2) .nil) ?_
      have hF := some_elim hF
      exact Wk_ret (hfin _ ⟨[], [], [], [], [], [], by first | (rw [← hF]; kernel_rfl) | kernel_rfl⟩)
    · have hF := ite_f hF hb
      refine Wk_skip ?_
      refine Wk_seq ?_
      obtain ⟨x4, h3, hF⟩ := ob_elim hF
      refine UR [.callB (.agg [.i x4.Code, .i x4.At])] [1, 2, 3] [1, 2, 3] [] [] [(3, .ptr 3 0)] [(3, [.i x4.Code, .i x4.At])] [] [] (.cons (R_LogFault_ok x.Log x4 h3) .nil) ?_
      refine Wk_seq ?_
      refine ZRs [] [1, 2, 3, 73] [1, 2, 3] [] [(73, .bool (!decide (x4.Code = 0)))] .nil ?_
      refine Wk_split rfl (fun hb => ?_) (fun hb => ?_)
      · have hF := ite_t hF hb
        refine URs [] [2] [2] [] [] [] [(2, [.i x4.Code, .i x4.At])] [] [] .nil ?_
        have hF := some_elim hF
        exact Wk_ret (hfin _ ⟨[], [], [], [], [], [], by first | (rw [← hF]; kernel_rfl) | kernel_rfl⟩)
      · have hF := ite_f hF hb
        refine Wk_skip ?_
        refine Wk_seq ?_
        refine Wk_seq ?_
        obtain ⟨x5, h4, hF⟩ := ob_elim hF
        refine ZD [.callB (.i x5)] [1, 2, 80] [1, 2] [] [(80, .bool (decide (x.Term < x5)))] (.cons (R_LastTerm_ok x.Log x5 h4) .nil) ?_
        refine Wk_split rfl (fun hb => ?_) (fun hb => ?_)
        · have hF := ite_t hF hb
          refine Wk_seq ?_
          obtain ⟨x6, h5, hF⟩ := lt_split hF
          refine UR [.callB (.agg [.i x6.Code, .i x6.At])] [2] [2] [] [] [] [(2, [.i x6.Code, .i x6.At])] [] [] (.cons (R_F_ok 11 (-3) x6 h5) .nil) ?_
          have hF := some_elim hF
          exact Wk_ret (hfin _ ⟨[], [], [], [], [], [], by first | (rw [← hF]; kernel_rfl) | kernel_rfl⟩)
        · have hF := ite_f hF hb
          refine Wk_skip ?_
          refine Wk_seq ?_
          obtain ⟨x7, h6, hF⟩ := lt_split hF
          refine UR [.callB (.agg [.i x7.Code, .i x7.At])] [1, 2, 4] [1, 2, 4] [] [] [(4, .ptr 4 0)] [(4, [.i x7.Code, .i x7.At])] [] [] (.cons (R_F_ok 5 (-3) x7 h6) .nil) ?_
          refine Wk_seq ?_
          refine ZRs [.nat (x.Votes.length : Int), .nat (x.Next.length : Int), .nat (x.Have.length : Int)] [1, 2, 4, 108] [1, 2, 4] [] [(108, .bool (((!decide (x.Role = 1)) && (decide (0 < (x.Votes.length : Int)))) || ((!decide (x.Role = 2)) && ((decide (0 < (x.Next.length : Int))) || (decide (0 < (x.Have.length : Int)))))))] (.cons (fun (_ : (!decide (x.Role = 1)) = true) => (len_ok e_i64 x.Votes)) (.cons (fun (_ : (!decide (x.Role = 2)) = true) (_ : (!((!decide (x.Role = 1)) && (decide (0 < (x.Votes.length : Int))))) = true) => (len_ok e_i64 x.Next)) (.cons (fun (_ : (!(decide (0 < (x.Next.length : Int)))) = true) (_ : (!decide (x.Role = 2)) = true) (_ : (!((!decide (x.Role = 1)) && (decide (0 < (x.Votes.length : Int))))) = true) => (len_ok e_i64 x.Have)) .nil))) ?_
          refine Wk_split rfl (fun hb => ?_) (fun hb => ?_)
          · have hF := ite_t hF hb
            refine URs [] [2] [2] [] [] [] [(2, [.i x7.Code, .i x7.At])] [] [] .nil ?_
            have hF := some_elim hF
            exact Wk_ret (hfin _ ⟨[], [], [], [], [], [], by first | (rw [← hF]; kernel_rfl) | kernel_rfl⟩)
          · have hF := ite_f hF hb
            refine Wk_skip ?_
            refine Wk_seq ?_
            refine ZRs [] [1, 2, 4, 112] [1, 2, 4] [] [(112, .bool (decide (x.Role = 1)))] .nil ?_
            refine Wk_meetP (fun v : Unit => (⟨[(1, .ptr 1 0), (2, .ptr 2 0), (4, .ptr 4 0)], [(1, (c_Node x)), (2, [.i 0, .i 0]), (4, [.i x7.Code, .i x7.At])], [], [], []⟩ : S)) (fun v => R_NodeFault_J1 x x7 v = some r) ?_ ?_
            · refine Wk_split rfl (fun hb => ?_) (fun hb => ?_)
              · have hF := ite_t hF hb
                refine Wk_seq ?_
                refine Wk_seq ?_
                obtain ⟨x8, h11, hF⟩ := ob_elim hF
                obtain ⟨x9, h12, hF⟩ := lt_split hF
                refine ZR [.callB (.bool x8), .nat (x.Votes.length : Int), .callB (.bool x9)] [1, 2, 4, 126] [1, 2, 4] [] [(126, .bool ((!x8) || x9))] (.cons (R_Has_ok x.Votes x.ID x8 h11) (.cons (fun (_ : (!(!x8)) = true) => (len_ok e_i64 x.Votes)) (.cons (fun (ga0 : (!(!x8)) = true) => (R_Majority_ok (x.Votes.length : Int) x.N x9 h12)) .nil))) ?_
                refine Wk_split rfl (fun hb => ?_) (fun hb => ?_)
                · have hF := ite_t hF hb
                  refine URs [] [2] [2] [] [] [] [(2, [.i x7.Code, .i x7.At])] [] [] .nil ?_
                  have hF := some_elim hF
                  exact Wk_ret (hfin _ ⟨[], [], [], [], [], [], by first | (rw [← hF]; kernel_rfl) | kernel_rfl⟩)
                · have hF := ite_f hF hb
                  refine Wk_skip ?_
                  refine ZRs [] [1, 2, 4, 5] [1, 2, 4] [] [(5, .i 0)] .nil ?_
                  refine Wk_meetP (fun v4 : Unit => (⟨[(1, .ptr 1 0), (2, .ptr 2 0), (4, .ptr 4 0)], [(1, (c_Node x)), (2, [.i 0, .i 0]), (4, [.i x7.Code, .i x7.At])], [], [], []⟩ : S)) (fun v4 => R_NodeFault_J4 x x7 v4 = some r) ?_ ?_
                  · refine Wk_block ?_
                    unfold R_NodeFault_L2 at hF
                    refine Wk_trim (fs := [1, 2, 4, 5]) (bs := [1, 2, 4]) (rs := []) (ms := []) (aa := []) (nv := []) (t := (fun v5 : Int => (⟨[(1, .ptr 1 0), (2, .ptr 2 0), (4, .ptr 4 0), (5, .i v5)], [(1, (c_Node x)), (2, [.i 0, .i 0]), (4, [.i x7.Code, .i x7.At])], [], [], []⟩ : S)) 0) (by kernel_rfl) ?_
                    refine Wk_iter (step := fun y => R_NodeFault_B2 x x7 y) (r := r) (fun v5 : Int => (⟨[(1, .ptr 1 0), (2, .ptr 2 0), (4, .ptr 4 0), (5, .i v5)], [(1, (c_Node x)), (2, [.i 0, .i 0]), (4, [.i x7.Code, .i x7.At])], [], [], []⟩ : S)) 0 hF ?_
                    intro n1 v5 y1 hF ih1 dn1
                    have hF : R_NodeFault_B2 x x7 v5 = some y1 := hF
                    unfold R_NodeFault_B2 at hF
                    refine Wk_seq ?_
                    refine ZRs [.nat (x.Votes.length : Int)] [1, 2, 4, 5, 132] [1, 2, 4] [] [(132, .bool (decide (v5 < (x.Votes.length : Int))))] (.cons (len_ok e_i64 x.Votes) .nil) ?_
                    refine Wk_split rfl (fun hb => ?_) (fun hb => ?_)
                    · have hF := ite_t hF hb
                      refine Wk_skip ?_
                      refine Wk_seq ?_
                      refine Wk_block ?_
                      refine Wk_seq ?_
                      obtain ⟨h13, hF⟩ := asrt_elim hF
                      obtain ⟨h14, hF⟩ := asrt_elim hF
                      obtain ⟨h15, hF⟩ := asrt_elim hF
                      obtain ⟨h16, hF⟩ := asrt_elim hF
                      obtain ⟨x10, h17, hF⟩ := ob_elim hF
                      refine ZD [.av (e_i64 (lget x.Votes v5)), .av (e_i64 (lget x.Votes v5)), .xs ((ltake x.Votes v5).map e_i64), .av (e_i64 (lget x.Votes v5)), .callB (.bool x10)] [1, 2, 4, 5, 162] [1, 2, 4] [] [(162, .bool (((decide ((lget x.Votes v5) < 0)) || (decide (x.N ≤ (lget x.Votes v5)))) || x10))] (.cons (idx_ok e_i64 h13) (.cons (fun (ga0 : (!(decide ((lget x.Votes v5) < 0))) = true) => (idx_ok e_i64 (h14 ga0))) (.cons (fun (ga0 : (!((decide ((lget x.Votes v5) < 0)) || (decide (x.N ≤ (lget x.Votes v5))))) = true) => (sl01_ok e_i64 (h15 ga0))) (.cons (fun (ga0 : (!((decide ((lget x.Votes v5) < 0)) || (decide (x.N ≤ (lget x.Votes v5))))) = true) => (idx_ok e_i64 (h16 ga0))) (.cons (fun (ga0 : (!((decide ((lget x.Votes v5) < 0)) || (decide (x.N ≤ (lget x.Votes v5))))) = true) => (R_Has_ok (ltake x.Votes v5) (lget x.Votes v5) x10 (ite_t h17 ga0))) .nil))))) ?_
                      refine Wk_split rfl (fun hb => ?_) (fun hb => ?_)
                      · have hF := ite_t hF hb
                        refine URs [] [2] [2] [] [] [] [(2, [.i x7.Code, .i x7.At])] [] [] .nil ?_
                        have hF := ret_done hF dn1
                        have hF := some_elim hF
                        exact Wk_ret (hfin _ ⟨[], [], [], [], [], [], by first | (rw [← hF]; kernel_rfl) | kernel_rfl⟩)
                      · have hF := ite_f hF hb
                        refine Wk_skip ?_
                        refine Wk_blk ?_
                        refine ZR [] [1, 2, 4, 5] [1, 2, 4] [] [(5, .i (w64 (v5 + 1)))] .nil ?_
                        refine Wk_trim (fs := [1, 2, 4, 5]) (bs := [1, 2, 4]) (rs := []) (ms := []) (aa := []) (nv := []) ?_ (ih1 _ (some_elim hF).symm)
                        kernel_rfl
                    · have hF := ite_f hF hb
                      refine Wk_exit rfl ?_
                      have hF := inrO_done hF dn1
                      exact Wk_metP () [1, 2, 4] [1, 2, 4] [] [] [] [] hF (by kernel_rfl)
                  · intro v4 hF
                    have hF : R_NodeFault_J4 x x7 v4 = some r := hF
                    unfold R_NodeFault_J4 at hF
                    exact Wk_metP () [1, 2, 4] [1, 2, 4] [] [] [] [] hF (by kernel_rfl)
              · have hF := ite_f hF hb
                refine Wk_skip ?_
                exact Wk_metP () [1, 2, 4] [1, 2, 4] [] [] [] [] hF (by kernel_rfl)
            · intro v hF
              have hF : R_NodeFault_J1 x x7 v = some r := hF
              unfold R_NodeFault_J1 at hF
              refine Wk_seq ?_
              refine ZRs [] [1, 2, 4, 166] [1, 2, 4] [] [(166, .bool (decide (x.Role = 2)))] .nil ?_
              refine Wk_meetP (fun v1 : Unit => (⟨[(2, .ptr 2 0)], [(2, [.i 0, .i 0])], [], [], []⟩ : S)) (fun v1 => R_NodeFault_J2 v1 = some r) ?_ ?_
              · refine Wk_split rfl (fun hb => ?_) (fun hb => ?_)
                · have hF := ite_t hF hb
                  refine Wk_seq ?_
                  refine ZRs [.nat (x.Next.length : Int), .nat (x.Have.length : Int)] [1, 2, 4, 180] [1, 2, 4] [] [(180, .bool ((!decide ((x.Next.length : Int) = x.N)) || (!decide ((x.Have.length : Int) = x.N))))] (.cons (len_ok e_i64 x.Next) (.cons (fun (_ : (!(!decide ((x.Next.length : Int) = x.N))) = true) => (len_ok e_i64 x.Have)) .nil)) ?_
                  refine Wk_split rfl (fun hb => ?_) (fun hb => ?_)
                  · have hF := ite_t hF hb
                    refine URs [] [2] [2] [] [] [] [(2, [.i x7.Code, .i x7.At])] [] [] .nil ?_
                    have hF := some_elim hF
                    exact Wk_ret (hfin _ ⟨[], [], [], [], [], [], by first | (rw [← hF]; kernel_rfl) | kernel_rfl⟩)
                  · have hF := ite_f hF hb
                    refine Wk_skip ?_
                    refine ZRs [] [1, 2, 4, 6] [1, 2, 4] [] [(6, .i 0)] .nil ?_
                    refine Wk_meetP (fun v2 : Unit => (⟨[(2, .ptr 2 0)], [(2, [.i 0, .i 0])], [], [], []⟩ : S)) (fun v2 => R_NodeFault_J3 v2 = some r) ?_ ?_
                    · refine Wk_block ?_
                      unfold R_NodeFault_L1 at hF
                      refine Wk_trim (fs := [1, 2, 4, 6]) (bs := [1, 2, 4]) (rs := []) (ms := []) (aa := []) (nv := []) (t := (fun v3 : Int => (⟨[(1, .ptr 1 0), (2, .ptr 2 0), (4, .ptr 4 0), (6, .i v3)], [(1, (c_Node x)), (2, [.i 0, .i 0]), (4, [.i x7.Code, .i x7.At])], [], [], []⟩ : S)) 0) (by kernel_rfl) ?_
                      refine Wk_iter (step := fun y => R_NodeFault_B1 x x7 y) (r := r) (fun v3 : Int => (⟨[(1, .ptr 1 0), (2, .ptr 2 0), (4, .ptr 4 0), (6, .i v3)], [(1, (c_Node x)), (2, [.i 0, .i 0]), (4, [.i x7.Code, .i x7.At])], [], [], []⟩ : S)) 0 hF ?_
                      intro n1 v3 y1 hF ih1 dn1
                      have hF : R_NodeFault_B1 x x7 v3 = some y1 := hF
                      unfold R_NodeFault_B1 at hF
                      refine Wk_seq ?_
                      refine ZRs [] [1, 2, 4, 6, 185] [1, 2, 4] [] [(185, .bool (decide (v3 < x.N)))] .nil ?_
                      refine Wk_split rfl (fun hb => ?_) (fun hb => ?_)
                      · have hF := ite_t hF hb
                        refine Wk_skip ?_
                        refine Wk_seq ?_
                        refine Wk_block ?_
                        refine Wk_seq ?_
                        obtain ⟨h7, hF⟩ := asrt_elim hF
                        obtain ⟨h8, hF⟩ := asrt_elim hF
                        obtain ⟨h9, hF⟩ := asrt_elim hF
                        obtain ⟨h10, hF⟩ := asrt_elim hF
                        refine ZD [.av (e_i64 (lget x.Next v3)), .av (e_i64 (lget x.Next v3)), .nat (x.Log.length : Int), .av (e_i64 (lget x.Have v3)), .av (e_i64 (lget x.Have v3)), .nat (x.Log.length : Int)] [1, 2, 4, 6, 224] [1, 2, 4] [] [(224, .bool ((((decide ((lget x.Next v3) < 1)) || (decide ((w64 ((x.Log.length : Int) + 1)) < (lget x.Next v3)))) || (decide ((lget x.Have v3) < 0))) || (decide ((x.Log.length : Int) < (lget x.Have v3)))))] (.cons (idx_ok e_i64 h7) (.cons (fun (ga0 : (!(decide ((lget x.Next v3) < 1))) = true) => (idx_ok e_i64 (h8 ga0))) (.cons (fun (_ : (!(decide ((lget x.Next v3) < 1))) = true) => (len_ok e_Entry x.Log)) (.cons (fun (ga0 : (!((decide ((lget x.Next v3) < 1)) || (decide ((w64 ((x.Log.length : Int) + 1)) < (lget x.Next v3))))) = true) => (idx_ok e_i64 (h9 ga0))) (.cons (fun (ga0 : (!(((decide ((lget x.Next v3) < 1)) || (decide ((w64 ((x.Log.length : Int) + 1)) < (lget x.Next v3)))) || (decide ((lget x.Have v3) < 0)))) = true) => (idx_ok e_i64 (h10 ga0))) (.cons (fun (_ : (!(((decide ((lget x.Next v3) < 1)) || (decide ((w64 ((x.Log.length : Int) + 1)) < (lget x.Next v3)))) || (decide ((lget x.Have v3) < 0)))) = true) => (len_ok e_Entry x.Log)) .nil)))))) ?_
                        refine Wk_split rfl (fun hb => ?_) (fun hb => ?_)
                        · have hF := ite_t hF hb
                          refine URs [] [2] [2] [] [] [] [(2, [.i x7.Code, .i x7.At])] [] [] .nil ?_
                          have hF := ret_done hF dn1
                          have hF := some_elim hF
                          exact Wk_ret (hfin _ ⟨[], [], [], [], [], [], by first | (rw [← hF]; kernel_rfl) | kernel_rfl⟩)
                        · have hF := ite_f hF hb
                          refine Wk_skip ?_
                          refine Wk_blk ?_
                          refine ZR [] [1, 2, 4, 6] [1, 2, 4] [] [(6, .i (w64 (v3 + 1)))] .nil ?_
                          refine Wk_trim (fs := [1, 2, 4, 6]) (bs := [1, 2, 4]) (rs := []) (ms := []) (aa := []) (nv := []) ?_ (ih1 _ (some_elim hF).symm)
                          kernel_rfl
                      · have hF := ite_f hF hb
                        refine Wk_exit rfl ?_
                        have hF := inrO_done hF dn1
                        exact Wk_metP () [2] [2] [] [] [] [] hF (by kernel_rfl)
                    · intro v2 hF
                      have hF : R_NodeFault_J3 v2 = some r := hF
                      unfold R_NodeFault_J3 at hF
                      exact Wk_metP () [2] [2] [] [] [] [] hF (by kernel_rfl)
                · have hF := ite_f hF hb
                  refine Wk_skip ?_
                  exact Wk_metP () [2] [2] [] [] [] [] hF (by kernel_rfl)
              · intro v1 hF
                have hF : R_NodeFault_J2 v1 = some r := hF
                unfold R_NodeFault_J2 at hF
                refine ZRs [] [2] [2] [] [] .nil ?_
                have hF := some_elim hF
                exact Wk_ret (hfin _ ⟨[], [], [], [], [], [], by first | (rw [← hF]; kernel_rfl) | kernel_rfl⟩)

/- tabularylaw.ClanGood -/
noncomputable def law_ClanGood_J4 (x1 : List (List UInt8) × Fault) (v4 : List (List UInt8)) : Option Bool :=
  ob (R_SameTexts x1.1 v4) fun x3 =>
  some x3
noncomputable def law_ClanGood_B1 (c : Clan) (x1 : List (List UInt8) × Fault) (v3 : Int) (v5 : List (List UInt8) × Int) : Option ((List (List UInt8) × Int) ⊕ Bool) :=
  asrt ((decide (0 ≤ v3)) = true → 0 ≤ v3 ∧ v3 < (c.Nodes.length : Int)) <|
  if ((decide (0 ≤ v3)) && (decide (v5.2 < ((lget c.Nodes v3).Commit)))) = true then
    asrt (0 ≤ v3 ∧ v3 < (c.Nodes.length : Int)) <|
    asrt (0 ≤ v5.2 ∧ v5.2 < (((lget c.Nodes v3).Log).length : Int)) <|
    asrt (((v5.1 ++ ([(lget ((lget c.Nodes v3).Log) v5.2).Text] : List (List UInt8))).length : Int) * 16 ≤ 140737488351232) <|
    lt ((v5.1 ++ ([(lget ((lget c.Nodes v3).Log) v5.2).Text] : List (List UInt8)))) fun (v6 : List (List UInt8)) =>
    some (Sum.inl (v6, w64 (v5.2 + 1)))
  else
    inrO (law_ClanGood_J4 x1 v5.1)
noncomputable def law_ClanGood_L1 (c : Clan) (x1 : List (List UInt8) × Fault) (v3 : Int) (v0 : List (List UInt8) × Int) : Option Bool :=
  loopO (fun y => law_ClanGood_B1 c x1 v3 y) v0
noncomputable def law_ClanGood_J3 (c : Clan) (x1 : List (List UInt8) × Fault) (v3 : Int) : Option Bool :=
  law_ClanGood_L1 c x1 v3 (([] : List (List UInt8)), 0)
noncomputable def law_ClanGood_B2 (c : Clan) (x1 : List (List UInt8) × Fault) (v2 : Fault) (v7 : Int × Int) : Option ((Int × Int) ⊕ Bool) :=
  if ((decide (v7.2 < (c.Nodes.length : Int))) && (decide (v2.Code = 0))) = true then
    asrt ((!(decide (v7.1 < 0))) = true → 0 ≤ v7.2 ∧ v7.2 < (c.Nodes.length : Int)) <|
    asrt ((!(decide (v7.1 < 0))) = true → 0 ≤ v7.1 ∧ v7.1 < (c.Nodes.length : Int)) <|
    ob (
      if ((decide (v7.1 < 0)) || (decide (((lget c.Nodes v7.1).Commit) < ((lget c.Nodes v7.2).Commit)))) = true then
        some v7.2
      else
        some v7.1) fun (v8 : Int) =>
    some (Sum.inl (v8, w64 (v7.2 + 1)))
  else
    inrO (law_ClanGood_J3 c x1 v7.1)
noncomputable def law_ClanGood_L2 (c : Clan) (x1 : List (List UInt8) × Fault) (v2 : Fault) (v0 : Int × Int) : Option Bool :=
  loopO (fun y => law_ClanGood_B2 c x1 v2 y) v0
noncomputable def law_ClanGood_J2 (c : Clan) (x1 : List (List UInt8) × Fault) (v2 : Fault) : Option Bool :=
  if (!(decide (x1.2.Code = v2.Code) && (decide (x1.2.At = v2.At) && true))) = true then
    some false
  else
    law_ClanGood_L2 c x1 v2 ((-1), 0)
noncomputable def law_ClanGood_B3 (c : Clan) (x1 : List (List UInt8) × Fault) (v9 : Fault × Int) : Option ((Fault × Int) ⊕ Bool) :=
  if ((decide (v9.2 < (c.Nodes.length : Int))) && (decide (v9.1.Code = 0))) = true then
    asrt (0 ≤ v9.2 ∧ v9.2 < (c.Nodes.length : Int)) <|
    ob (R_NodeFault (⟨(lget c.Nodes v9.2).N, (lget c.Nodes v9.2).ID, (lget c.Nodes v9.2).Term, (lget c.Nodes v9.2).Vote, (lget c.Nodes v9.2).Log, (lget c.Nodes v9.2).Role, (lget c.Nodes v9.2).Commit, (lget c.Nodes v9.2).Votes, (lget c.Nodes v9.2).Next, (lget c.Nodes v9.2).Have⟩ : Node)) fun x4 =>
    ob (
      if (!decide (x4.Code = 0)) = true then
        asrt (0 ≤ v9.2 ∧ v9.2 < (c.Nodes.length : Int)) <|
        ob (R_NodeFault (⟨(lget c.Nodes v9.2).N, (lget c.Nodes v9.2).ID, (lget c.Nodes v9.2).Term, (lget c.Nodes v9.2).Vote, (lget c.Nodes v9.2).Log, (lget c.Nodes v9.2).Role, (lget c.Nodes v9.2).Commit, (lget c.Nodes v9.2).Votes, (lget c.Nodes v9.2).Next, (lget c.Nodes v9.2).Have⟩ : Node)) fun x5 =>
        lt (R_F x5.Code v9.2) fun x6 =>
        some x6
      else
        some v9.1) fun (v10 : Fault) =>
    some (Sum.inl (v10, w64 (v9.2 + 1)))
  else
    inrO (law_ClanGood_J2 c x1 v9.1)
noncomputable def law_ClanGood_L3 (c : Clan) (x1 : List (List UInt8) × Fault) (v0 : Fault × Int) : Option Bool :=
  loopO (fun y => law_ClanGood_B3 c x1 y) v0
noncomputable def law_ClanGood_J1 (c : Clan) (v : Unit) : Option Bool :=
  ob (clan_Good_v1 c) fun x1 =>
  ob (
    if (decide (7 < (c.Nodes.length : Int))) = true then
      lt (R_F 2 (-1)) fun x2 =>
      some x2
    else
      some (⟨0, 0⟩ : Fault)) fun (v1 : Fault) =>
  law_ClanGood_L3 c x1 (v1, 0)
noncomputable def law_ClanGood_B4 (c : Clan) (v11 : Int) : Option (Int ⊕ Bool) :=
  if (decide (v11 < (c.Nodes.length : Int))) = true then
    asrt (0 ≤ v11 ∧ v11 < (c.Nodes.length : Int)) <|
    lt (law_vastNode (⟨(lget c.Nodes v11).N, (lget c.Nodes v11).ID, (lget c.Nodes v11).Term, (lget c.Nodes v11).Vote, (lget c.Nodes v11).Log, (lget c.Nodes v11).Role, (lget c.Nodes v11).Commit, (lget c.Nodes v11).Votes, (lget c.Nodes v11).Next, (lget c.Nodes v11).Have⟩ : Node)) fun x7 =>
    if x7 = true then
      some (Sum.inr true)
    else
      some (Sum.inl (w64 (v11 + 1)))
  else
    inrO (law_ClanGood_J1 c ())
noncomputable def law_ClanGood_L4 (c : Clan) (v0 : Int) : Option Bool :=
  loopO (fun y => law_ClanGood_B4 c y) v0
noncomputable def law_ClanGood (c : Clan) : Option Bool :=
  ob (law_clanBegun) fun x =>
  if (!x) = true then
    some false
  else
    law_ClanGood_L4 c 0
theorem law_ClanGood_ok (c : Clan) (r : Bool) (hF : law_ClanGood c = some r) : Pe Try.prog 10 S.none [.agg [.sl 10 (c.Nodes.map e_Node), .sl 9 (c.Way.map e_Mail)]] (.bool r) S.none := by
  refine Pe_of (N := 130) (res := [.tmp 2]) (ts := [4]) Ty.ok Fn.b10 Try.func10 rfl rfl rfl rfl rfl rfl ?_
  intro Q g hfin
  unfold law_ClanGood at hF
  refine URs [] [1] [1] [] [] [(1, .ptr 1 0)] [(1, [.sl 10 (c.Nodes.map e_Node), .sl 9 (c.Way.map e_Mail)])] [] [] .nil ?_
  refine Wk_seq ?_
  refine Wk_seq ?_
  obtain ⟨x, h0, hF⟩ := ob_elim hF
  refine ZR [.callB (.bool x)] [1, 13] [1] [] [(13, .bool (!x))] (.cons (law_clanBegun_ok  x h0) .nil) ?_
  refine Wk_split rfl (fun hb => ?_) (fun hb => ?_)
  · have hF := ite_t hF hb
    refine ZRs [] [2] [] [] [(2, .bool false)] .nil ?_
    have hF := some_elim hF
    exact Wk_ret (hfin _ ⟨[], [], [], [], [], [], by first | (rw [← hF]; kernel_rfl) | kernel_rfl⟩)
  · have hF := ite_f hF hb
    refine Wk_skip ?_
    refine Wk_seq ?_
    refine ZRs [] [1, 3] [1] [] [(3, .i 0)] .nil ?_
    refine Wk_meetP (fun v : Unit => (⟨[(1, .ptr 1 0)], [(1, [.sl 10 (c.Nodes.map e_Node), .sl 9 (c.Way.map e_Mail)])], [], [], []⟩ : S)) (fun v => law_ClanGood_J1 c v = some r) ?_ ?_
    · refine Wk_block ?_
      unfold law_ClanGood_L4 at hF
      refine Wk_trim (fs := [1, 3]) (bs := [1]) (rs := []) (ms := []) (aa := []) (nv := []) (t := (fun v11 : Int => (⟨[(1, .ptr 1 0), (3, .i v11)], [(1, [.sl 10 (c.Nodes.map e_Node), .sl 9 (c.Way.map e_Mail)])], [], [], []⟩ : S)) 0) (by kernel_rfl) ?_
      refine Wk_iter (step := fun y => law_ClanGood_B4 c y) (r := r) (fun v11 : Int => (⟨[(1, .ptr 1 0), (3, .i v11)], [(1, [.sl 10 (c.Nodes.map e_Node), .sl 9 (c.Way.map e_Mail)])], [], [], []⟩ : S)) 0 hF ?_
      intro n1 v11 y1 hF ih1 dn1
      have hF : law_ClanGood_B4 c v11 = some y1 := hF
      unfold law_ClanGood_B4 at hF
      refine Wk_seq ?_
      refine ZRs [.nat (c.Nodes.length : Int)] [1, 3, 18] [1] [] [(18, .bool (decide (v11 < (c.Nodes.length : Int))))] (.cons (len_ok e_Node c.Nodes) .nil) ?_
      refine Wk_split rfl (fun hb => ?_) (fun hb => ?_)
      · have hF := ite_t hF hb
        refine Wk_skip ?_
        refine Wk_seq ?_
        refine Wk_block ?_
        refine Wk_seq ?_
        obtain ⟨h15, hF⟩ := asrt_elim hF
        obtain ⟨x7, h16, hF⟩ := lt_split hF
        refine ZR [.av (e_Node (lget c.Nodes v11)), .callB (.bool x7)] [1, 3, 26] [1] [] [(26, .bool x7)] (.cons (idx_ok e_Node h15) (.cons (law_vastNode_ok (⟨(lget c.Nodes v11).N, (lget c.Nodes v11).ID, (lget c.Nodes v11).Term, (lget c.Nodes v11).Vote, (lget c.Nodes v11).Log, (lget c.Nodes v11).Role, (lget c.Nodes v11).Commit, (lget c.Nodes v11).Votes, (lget c.Nodes v11).Next, (lget c.Nodes v11).Have⟩ : Node) x7 h16) .nil)) ?_
        refine Wk_split rfl (fun hb => ?_) (fun hb => ?_)
        · have hF := ite_t hF hb
          refine ZRs [] [2] [] [] [(2, .bool true)] .nil ?_
          have hF := ret_done hF dn1
          have hF := some_elim hF
          exact Wk_ret (hfin _ ⟨[], [], [], [], [], [], by first | (rw [← hF]; kernel_rfl) | kernel_rfl⟩)
        · have hF := ite_f hF hb
          refine Wk_skip ?_
          refine Wk_blk ?_
          refine ZR [] [1, 3] [1] [] [(3, .i (w64 (v11 + 1)))] .nil ?_
          refine Wk_trim (fs := [1, 3]) (bs := [1]) (rs := []) (ms := []) (aa := []) (nv := []) ?_ (ih1 _ (some_elim hF).symm)
          kernel_rfl
      · have hF := ite_f hF hb
        refine Wk_exit rfl ?_
        have hF := inrO_done hF dn1
        exact Wk_metP () [1] [1] [] [] [] [] hF (by kernel_rfl)
    · intro v hF
      have hF : law_ClanGood_J1 c v = some r := hF
      unfold law_ClanGood_J1 at hF
      refine Wk_seq ?_
      obtain ⟨x1, h1, hF⟩ := ob_elim hF
      refine UR [.call (.tup [.sl 1 (x1.1.map e_str), .agg [.i x1.2.Code, .i x1.2.At]])] [1, 4, 5] [1, 5] [] [] [(4, .sl 1 (x1.1.map e_str)), (5, .ptr 5 0)] [(5, [.i x1.2.Code, .i x1.2.At])] [] [] (.cons (clan_Good_v1_ok c x1 h1) .nil) ?_
      refine URs [] [1, 4, 5, 6] [1, 5, 6] [] [] [(6, .ptr 6 0)] [(6, [.i 0, .i 0])] [] [] .nil ?_
      refine Wk_seq ?_
      refine ZRs [.nat (c.Nodes.length : Int)] [1, 4, 5, 6, 36] [1, 5, 6] [] [(36, .bool (decide (7 < (c.Nodes.length : Int))))] (.cons (len_ok e_Node c.Nodes) .nil) ?_
      obtain ⟨v1, hv, hF⟩ := ob_elim hF
      refine Wk_meet (⟨[(1, .ptr 1 0), (4, .sl 1 (x1.1.map e_str)), (5, .ptr 5 0), (6, .ptr 6 0)], [(1, [.sl 10 (c.Nodes.map e_Node), .sl 9 (c.Way.map e_Mail)]), (5, [.i x1.2.Code, .i x1.2.At]), (6, [.i v1.Code, .i v1.At])], [], [], []⟩ : S) ?_ ?_
      · have hF := hv
        refine Wk_split rfl (fun hb => ?_) (fun hb => ?_)
        · have hF := ite_t hF hb
          obtain ⟨x2, h2, hF⟩ := lt_split hF
          refine UR [.callB (.agg [.i x2.Code, .i x2.At])] [1, 4, 5, 6] [1, 5, 6] [] [] [] [(6, [.i x2.Code, .i x2.At])] [] [] (.cons (R_F_ok 2 (-1) x2 h2) .nil) ?_
          exact Wk_met (fs := [1, 4, 5, 6]) (bs := [1, 5, 6]) (rs := []) (ms := []) (aa := []) (nv := []) (by first | (rw [← some_elim hF]; kernel_rfl) | kernel_rfl)
        · have hF := ite_f hF hb
          refine Wk_skip ?_
          exact Wk_met (fs := [1, 4, 5, 6]) (bs := [1, 5, 6]) (rs := []) (ms := []) (aa := []) (nv := []) (by first | (rw [← some_elim hF]; kernel_rfl) | kernel_rfl)
      · refine Wk_seq ?_
        refine ZRs [] [1, 4, 5, 6, 7] [1, 5, 6] [] [(7, .i 0)] .nil ?_
        refine Wk_meetP (fun v2 : Fault => (⟨[(1, .ptr 1 0), (4, .sl 1 (x1.1.map e_str)), (5, .ptr 5 0), (6, .ptr 6 0)], [(1, [.sl 10 (c.Nodes.map e_Node), .sl 9 (c.Way.map e_Mail)]), (5, [.i x1.2.Code, .i x1.2.At]), (6, [.i v2.Code, .i v2.At])], [], [], []⟩ : S)) (fun v2 => law_ClanGood_J2 c x1 v2 = some r) ?_ ?_
        · refine Wk_block ?_
          unfold law_ClanGood_L3 at hF
          refine Wk_trim (fs := [1, 4, 5, 6, 7]) (bs := [1, 5, 6]) (rs := []) (ms := []) (aa := []) (nv := []) (t := (fun v9 : Fault × Int => (⟨[(1, .ptr 1 0), (4, .sl 1 (x1.1.map e_str)), (5, .ptr 5 0), (6, .ptr 6 0), (7, .i v9.2)], [(1, [.sl 10 (c.Nodes.map e_Node), .sl 9 (c.Way.map e_Mail)]), (5, [.i x1.2.Code, .i x1.2.At]), (6, [.i v9.1.Code, .i v9.1.At])], [], [], []⟩ : S)) (v1, 0)) (by kernel_rfl) ?_
          refine Wk_iter (step := fun y => law_ClanGood_B3 c x1 y) (r := r) (fun v9 : Fault × Int => (⟨[(1, .ptr 1 0), (4, .sl 1 (x1.1.map e_str)), (5, .ptr 5 0), (6, .ptr 6 0), (7, .i v9.2)], [(1, [.sl 10 (c.Nodes.map e_Node), .sl 9 (c.Way.map e_Mail)]), (5, [.i x1.2.Code, .i x1.2.At]), (6, [.i v9.1.Code, .i v9.1.At])], [], [], []⟩ : S)) (v1, 0) hF ?_
          intro n1 v9 y1 hF ih1 dn1
          have hF : law_ClanGood_B3 c x1 v9 = some y1 := hF
          unfold law_ClanGood_B3 at hF
          refine Wk_seq ?_
          refine ZRs [.nat (c.Nodes.length : Int)] [1, 4, 5, 6, 7, 47] [1, 5, 6] [] [(47, .bool ((decide (v9.2 < (c.Nodes.length : Int))) && (decide (v9.1.Code = 0))))] (.cons (len_ok e_Node c.Nodes) .nil) ?_
          refine Wk_split rfl (fun hb => ?_) (fun hb => ?_)
          · have hF := ite_t hF hb
            refine Wk_skip ?_
            refine Wk_seq ?_
            refine Wk_block ?_
            refine Wk_seq ?_
            obtain ⟨h10, hF⟩ := asrt_elim hF
            obtain ⟨x4, h11, hF⟩ := ob_elim hF
            refine ZR [.av (e_Node (lget c.Nodes v9.2)), .callB (.agg [.i x4.Code, .i x4.At])] [1, 4, 5, 6, 7, 57] [1, 5, 6] [] [(57, .bool (!decide (x4.Code = 0)))] (.cons (idx_ok e_Node h10) (.cons (R_NodeFault_ok (⟨(lget c.Nodes v9.2).N, (lget c.Nodes v9.2).ID, (lget c.Nodes v9.2).Term, (lget c.Nodes v9.2).Vote, (lget c.Nodes v9.2).Log, (lget c.Nodes v9.2).Role, (lget c.Nodes v9.2).Commit, (lget c.Nodes v9.2).Votes, (lget c.Nodes v9.2).Next, (lget c.Nodes v9.2).Have⟩ : Node) x4 h11) .nil)) ?_
            obtain ⟨v10, hv, hF⟩ := ob_elim hF
            refine Wk_meet (⟨[(1, .ptr 1 0), (4, .sl 1 (x1.1.map e_str)), (5, .ptr 5 0), (6, .ptr 6 0), (7, .i v9.2)], [(1, [.sl 10 (c.Nodes.map e_Node), .sl 9 (c.Way.map e_Mail)]), (5, [.i x1.2.Code, .i x1.2.At]), (6, [.i v10.Code, .i v10.At])], [], [], []⟩ : S) ?_ ?_
            · have hF := hv
              refine Wk_split rfl (fun hb => ?_) (fun hb => ?_)
              · have hF := ite_t hF hb
                obtain ⟨h12, hF⟩ := asrt_elim hF
                obtain ⟨x5, h13, hF⟩ := ob_elim hF
                obtain ⟨x6, h14, hF⟩ := lt_split hF
                refine UR [.av (e_Node (lget c.Nodes v9.2)), .callB (.agg [.i x5.Code, .i x5.At]), .callB (.agg [.i x6.Code, .i x6.At])] [1, 4, 5, 6, 7] [1, 5, 6] [] [] [] [(6, [.i x6.Code, .i x6.At])] [] [] (.cons (idx_ok e_Node h12) (.cons (R_NodeFault_ok (⟨(lget c.Nodes v9.2).N, (lget c.Nodes v9.2).ID, (lget c.Nodes v9.2).Term, (lget c.Nodes v9.2).Vote, (lget c.Nodes v9.2).Log, (lget c.Nodes v9.2).Role, (lget c.Nodes v9.2).Commit, (lget c.Nodes v9.2).Votes, (lget c.Nodes v9.2).Next, (lget c.Nodes v9.2).Have⟩ : Node) x5 h13) (.cons (R_F_ok x5.Code v9.2 x6 h14) .nil))) ?_
                exact Wk_met (fs := [1, 4, 5, 6, 7]) (bs := [1, 5, 6]) (rs := []) (ms := []) (aa := []) (nv := []) (by first | (rw [← some_elim hF]; kernel_rfl) | kernel_rfl)
              · have hF := ite_f hF hb
                refine Wk_skip ?_
                exact Wk_met (fs := [1, 4, 5, 6, 7]) (bs := [1, 5, 6]) (rs := []) (ms := []) (aa := []) (nv := []) (by first | (rw [← some_elim hF]; kernel_rfl) | kernel_rfl)
            · refine Wk_blk ?_
              refine ZR [] [1, 4, 5, 6, 7] [1, 5, 6] [] [(7, .i (w64 (v9.2 + 1)))] .nil ?_
              refine Wk_trim (fs := [1, 4, 5, 6, 7]) (bs := [1, 5, 6]) (rs := []) (ms := []) (aa := []) (nv := []) ?_ (ih1 _ (some_elim hF).symm)
              kernel_rfl
          · have hF := ite_f hF hb
            refine Wk_exit rfl ?_
            have hF := inrO_done hF dn1
            exact Wk_metP v9.1 [1, 4, 5, 6] [1, 5, 6] [] [] [] [] hF (by kernel_rfl)
        · intro v2 hF
          have hF : law_ClanGood_J2 c x1 v2 = some r := hF
          unfold law_ClanGood_J2 at hF
          refine Wk_seq ?_
          refine ZRs [] [1, 4, 6, 69] [1, 6] [] [(69, .bool (!(decide (x1.2.Code = v2.Code) && (decide (x1.2.At = v2.At) && true))))] .nil ?_
          refine Wk_split rfl (fun hb => ?_) (fun hb => ?_)
          · have hF := ite_t hF hb
            refine ZRs [] [2] [] [] [(2, .bool false)] .nil ?_
            have hF := some_elim hF
            exact Wk_ret (hfin _ ⟨[], [], [], [], [], [], by first | (rw [← hF]; kernel_rfl) | kernel_rfl⟩)
          · have hF := ite_f hF hb
            refine Wk_skip ?_
            refine ZRs [] [1, 4, 6, 8] [1, 6] [] [(8, .nils)] .nil ?_
            refine ZRs [] [1, 4, 6, 8, 9] [1, 6] [] [(9, .i (-1))] .nil ?_
            refine Wk_seq ?_
            refine ZRs [] [1, 4, 6, 8, 9, 10] [1, 6] [] [(10, .i 0)] .nil ?_
            refine Wk_meetP (fun v3 : Int => (⟨[(1, .ptr 1 0), (4, .sl 1 (x1.1.map e_str)), (8, .nils), (9, .i v3)], [(1, [.sl 10 (c.Nodes.map e_Node), .sl 9 (c.Way.map e_Mail)])], [], [], []⟩ : S)) (fun v3 => law_ClanGood_J3 c x1 v3 = some r) ?_ ?_
            · refine Wk_block ?_
              unfold law_ClanGood_L2 at hF
              refine Wk_trim (fs := [1, 4, 6, 8, 9, 10]) (bs := [1, 6]) (rs := []) (ms := []) (aa := []) (nv := []) (t := (fun v7 : Int × Int => (⟨[(1, .ptr 1 0), (4, .sl 1 (x1.1.map e_str)), (6, .ptr 6 0), (8, .nils), (9, .i v7.1), (10, .i v7.2)], [(1, [.sl 10 (c.Nodes.map e_Node), .sl 9 (c.Way.map e_Mail)]), (6, [.i v2.Code, .i v2.At])], [], [], []⟩ : S)) ((-1), 0)) (by kernel_rfl) ?_
              refine Wk_iter (step := fun y => law_ClanGood_B2 c x1 v2 y) (r := r) (fun v7 : Int × Int => (⟨[(1, .ptr 1 0), (4, .sl 1 (x1.1.map e_str)), (6, .ptr 6 0), (8, .nils), (9, .i v7.1), (10, .i v7.2)], [(1, [.sl 10 (c.Nodes.map e_Node), .sl 9 (c.Way.map e_Mail)]), (6, [.i v2.Code, .i v2.At])], [], [], []⟩ : S)) ((-1), 0) hF ?_
              intro n1 v7 y1 hF ih1 dn1
              have hF : law_ClanGood_B2 c x1 v2 v7 = some y1 := hF
              unfold law_ClanGood_B2 at hF
              refine Wk_seq ?_
              refine ZRs [.nat (c.Nodes.length : Int)] [1, 4, 6, 8, 9, 10, 79] [1, 6] [] [(79, .bool ((decide (v7.2 < (c.Nodes.length : Int))) && (decide (v2.Code = 0))))] (.cons (len_ok e_Node c.Nodes) .nil) ?_
              refine Wk_split rfl (fun hb => ?_) (fun hb => ?_)
              · have hF := ite_t hF hb
                refine Wk_skip ?_
                refine Wk_seq ?_
                refine Wk_block ?_
                refine Wk_seq ?_
                obtain ⟨h8, hF⟩ := asrt_elim hF
                obtain ⟨h9, hF⟩ := asrt_elim hF
                refine ZD [.av (e_Node (lget c.Nodes v7.2)), .av (e_Node (lget c.Nodes v7.1))] [1, 4, 6, 8, 9, 10, 98] [1, 6] [] [(98, .bool ((decide (v7.1 < 0)) || (decide (((lget c.Nodes v7.1).Commit) < ((lget c.Nodes v7.2).Commit)))))] (.cons (fun (ga0 : (!(decide (v7.1 < 0))) = true) => (idx_ok e_Node (h8 ga0))) (.cons (fun (ga0 : (!(decide (v7.1 < 0))) = true) => (idx_ok e_Node (h9 ga0))) .nil)) ?_
                obtain ⟨v8, hv, hF⟩ := ob_elim hF
                refine Wk_meet (⟨[(1, .ptr 1 0), (4, .sl 1 (x1.1.map e_str)), (6, .ptr 6 0), (8, .nils), (9, .i v8), (10, .i v7.2)], [(1, [.sl 10 (c.Nodes.map e_Node), .sl 9 (c.Way.map e_Mail)]), (6, [.i v2.Code, .i v2.At])], [], [], []⟩ : S) ?_ ?_
                · have hF := hv
                  refine Wk_split rfl (fun hb => ?_) (fun hb => ?_)
                  · have hF := ite_t hF hb
                    refine ZR [] [1, 4, 6, 8, 9, 10] [1, 6] [] [(9, .i v7.2)] .nil ?_
                    exact Wk_met (fs := [1, 4, 6, 8, 9, 10]) (bs := [1, 6]) (rs := []) (ms := []) (aa := []) (nv := []) (by first | (rw [← some_elim hF]; kernel_rfl) | kernel_rfl)
                  · have hF := ite_f hF hb
                    refine Wk_skip ?_
                    exact Wk_met (fs := [1, 4, 6, 8, 9, 10]) (bs := [1, 6]) (rs := []) (ms := []) (aa := []) (nv := []) (by first | (rw [← some_elim hF]; kernel_rfl) | kernel_rfl)
                · refine Wk_blk ?_
                  refine ZR [] [1, 4, 6, 8, 9, 10] [1, 6] [] [(10, .i (w64 (v7.2 + 1)))] .nil ?_
                  refine Wk_trim (fs := [1, 4, 6, 8, 9, 10]) (bs := [1, 6]) (rs := []) (ms := []) (aa := []) (nv := []) ?_ (ih1 _ (some_elim hF).symm)
                  kernel_rfl
              · have hF := ite_f hF hb
                refine Wk_exit rfl ?_
                have hF := inrO_done hF dn1
                exact Wk_metP v7.1 [1, 4, 8, 9] [1] [] [] [] [] hF (by kernel_rfl)
            · intro v3 hF
              have hF : law_ClanGood_J3 c x1 v3 = some r := hF
              unfold law_ClanGood_J3 at hF
              refine Wk_seq ?_
              refine ZRs [] [1, 4, 8, 9, 11] [1] [] [(11, .i 0)] .nil ?_
              refine Wk_meetP (fun v4 : List (List UInt8) => (⟨[(4, .sl 1 (x1.1.map e_str)), (8, .row 126 0)], [], [(126, .z 9 1 0 (v4.map e_str))], [], []⟩ : S)) (fun v4 => law_ClanGood_J4 x1 v4 = some r) ?_ ?_
              · refine Wk_block ?_
                unfold law_ClanGood_L1 at hF
                refine Wk_nilrow 8 60000 9 1 rfl rfl rfl ?_
                refine Wk_trim (fs := [1, 4, 8, 9, 11]) (bs := [1]) (rs := [60000]) (ms := []) (aa := []) (nv := []) rfl ?_
                refine Wk_ren' ⟨[], [(60000, 126)], [], []⟩ rfl ?_
                refine Wk_trim (fs := [1, 4, 8, 9, 11]) (bs := [1]) (rs := [126]) (ms := []) (aa := []) (nv := []) (t := (fun v5 : List (List UInt8) × Int => (⟨[(1, .ptr 1 0), (4, .sl 1 (x1.1.map e_str)), (8, .row 126 0), (9, .i v3), (11, .i v5.2)], [(1, [.sl 10 (c.Nodes.map e_Node), .sl 9 (c.Way.map e_Mail)])], [(126, .z 9 1 0 (v5.1.map e_str))], [], []⟩ : S)) (([] : List (List UInt8)), 0)) (by kernel_rfl) ?_
                refine Wk_iter (step := fun y => law_ClanGood_B1 c x1 v3 y) (r := r) (fun v5 : List (List UInt8) × Int => (⟨[(1, .ptr 1 0), (4, .sl 1 (x1.1.map e_str)), (8, .row 126 0), (9, .i v3), (11, .i v5.2)], [(1, [.sl 10 (c.Nodes.map e_Node), .sl 9 (c.Way.map e_Mail)])], [(126, .z 9 1 0 (v5.1.map e_str))], [], []⟩ : S)) (([] : List (List UInt8)), 0) hF ?_
                intro n1 v5 y1 hF ih1 dn1
                have hF : law_ClanGood_B1 c x1 v3 v5 = some y1 := hF
                unfold law_ClanGood_B1 at hF
                refine Wk_seq ?_
                refine Wk_seq ?_
                obtain ⟨h4, hF⟩ := asrt_elim hF
                refine ZR [.av (e_Node (lget c.Nodes v3))] [1, 4, 8, 9, 11, 111] [1] [126] [(111, .bool ((decide (0 ≤ v3)) && (decide (v5.2 < ((lget c.Nodes v3).Commit)))))] (.cons (fun (ga0 : (decide (0 ≤ v3)) = true) => (idx_ok e_Node (h4 ga0))) .nil) ?_
                refine Wk_split rfl (fun hb => ?_) (fun hb => ?_)
                · have hF := ite_t hF hb
                  refine Wk_skip ?_
                  refine Wk_seq ?_
                  refine Wk_block ?_
                  obtain ⟨h5, hF⟩ := asrt_elim hF
                  obtain ⟨h6, hF⟩ := asrt_elim hF
                  obtain ⟨h7, hF⟩ := asrt_elim hF
                  refine WRL ((v5.1 ++ ([(lget ((lget c.Nodes v3).Log) v5.2).Text] : List (List UInt8)))) (fun v6 : List (List UInt8) => ⟨[(1, .ptr 1 0), (4, .sl 1 (x1.1.map e_str)), (8, .row 126 1), (9, .i v3), (11, .i v5.2)], [(1, [.sl 10 (c.Nodes.map e_Node), .sl 9 (c.Way.map e_Mail)])], [(126, .z 9 1 1 (v6.map e_str))], [], []⟩) [.av (e_Node (lget c.Nodes v3)), .av (e_Entry (lget ((lget c.Nodes v3).Log) v5.2)), .sealed, .xs ((v5.1 ++ ([(lget ((lget c.Nodes v3).Log) v5.2).Text] : List (List UInt8))).map e_str)] [1, 4, 8, 9, 11] [1] [126] [] [] [] (.cons (idx_ok e_Node h5) (.cons (idx_ok e_Entry h6) (.cons (app_ok e_str v5.1 ([(lget ((lget c.Nodes v3).Log) v5.2).Text] : List (List UInt8))) (.cons (appl_ok e_str h7) .nil)))) (by kernel_rfl) (fun v6 hv => ?_)
                  have hF := lt_elim hF hv
                  refine Wk_blk ?_
                  refine ZR [] [1, 4, 8, 9, 11] [1] [126] [(11, .i (w64 (v5.2 + 1)))] .nil ?_
                  refine Wk_trim (fs := [1, 4, 8, 9, 11]) (bs := [1]) (rs := [126]) (ms := []) (aa := []) (nv := [(126, ⟨0, true, true, false⟩)]) ?_ (ih1 _ (some_elim hF).symm)
                  kernel_rfl
                · have hF := ite_f hF hb
                  refine Wk_exit rfl ?_
                  have hF := inrO_done hF dn1
                  exact Wk_metP v5.1 [4, 8] [] [126] [] [] [] hF (by kernel_rfl)
              · intro v4 hF
                have hF : law_ClanGood_J4 x1 v4 = some r := hF
                unfold law_ClanGood_J4 at hF
                refine Wk_seq ?_
                obtain ⟨x3, h3, hF⟩ := ob_elim hF
                refine ZR [.callB (.bool x3)] [2] [] [] [(2, .bool x3)] (.cons (R_SameTexts_ok x1.1 v4 x3 h3) .nil) ?_
                have hF := some_elim hF
                exact Wk_ret (hfin _ ⟨[], [], [], [], [], [], by first | (rw [← hF]; kernel_rfl) | kernel_rfl⟩)

end G
end Go.Proofs.Ytcnngkigpfpalaa
