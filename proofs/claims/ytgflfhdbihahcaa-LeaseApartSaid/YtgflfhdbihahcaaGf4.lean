/- The program's functions as plain functions, and that they are these. Written by a program (dec2.py). -/
import Derived.Test.YtgflfhdbihahcaaGf3
namespace Go.Proofs.Ytgflfhdbihahcaa
open Go Go.Dm
set_option linter.unusedVariables false
set_option linter.unusedSimpArgs false
set_option maxRecDepth 100000
namespace G
/- tabularyref.SameCourt -/
noncomputable def R_SameCourt_J3 (v2 : Unit) : Option Bool :=
  some true
noncomputable def R_SameCourt_B1 (a0 : Court) (b : Court) (v3 : Int) : Option (Int ⊕ Bool) :=
  if (decide (v3 < (a0.Replies.length : Int))) = true then
    asrt (0 ≤ v3 ∧ v3 < (a0.Replies.length : Int)) <|
    asrt (0 ≤ v3 ∧ v3 < (b.Replies.length : Int)) <|
    if (!(decide ((lget a0.Replies v3).Who = (lget b.Replies v3).Who) && (decide (((lget a0.Replies v3).Trust).Epoch = ((lget b.Replies v3).Trust).Epoch) && (decide (((lget a0.Replies v3).Trust).Until = ((lget b.Replies v3).Trust).Until) && true)))) = true then
      some (Sum.inr false)
    else
      some (Sum.inl (w64 (v3 + 1)))
  else
    inrO (R_SameCourt_J3 ())
noncomputable def R_SameCourt_L1 (a0 : Court) (b : Court) (v0 : Int) : Option Bool :=
  loopO (fun y => R_SameCourt_B1 a0 b y) v0
noncomputable def R_SameCourt_J2 (a0 : Court) (b : Court) (v1 : Unit) : Option Bool :=
  R_SameCourt_L1 a0 b 0
noncomputable def R_SameCourt_B2 (a0 : Court) (b : Court) (v4 : Int) : Option (Int ⊕ Bool) :=
  if (decide (v4 < (a0.Wishes.length : Int))) = true then
    asrt (0 ≤ v4 ∧ v4 < (a0.Wishes.length : Int)) <|
    asrt (0 ≤ v4 ∧ v4 < (b.Wishes.length : Int)) <|
    if (!(decide ((lget a0.Wishes v4).Who = (lget b.Wishes v4).Who) && (decide ((lget a0.Wishes v4).Sent = (lget b.Wishes v4).Sent) && (decide ((lget a0.Wishes v4).Epoch = (lget b.Wishes v4).Epoch) && true)))) = true then
      some (Sum.inr false)
    else
      some (Sum.inl (w64 (v4 + 1)))
  else
    inrO (R_SameCourt_J2 a0 b ())
noncomputable def R_SameCourt_L2 (a0 : Court) (b : Court) (v0 : Int) : Option Bool :=
  loopO (fun y => R_SameCourt_B2 a0 b y) v0
noncomputable def R_SameCourt_J1 (a0 : Court) (b : Court) (v : Unit) : Option Bool :=
  R_SameCourt_L2 a0 b 0
noncomputable def R_SameCourt_B3 (a0 : Court) (b : Court) (v5 : Int) : Option (Int ⊕ Bool) :=
  if (decide (v5 < (a0.Trusts.length : Int))) = true then
    asrt (0 ≤ v5 ∧ v5 < (a0.Trusts.length : Int)) <|
    asrt (0 ≤ v5 ∧ v5 < (b.Trusts.length : Int)) <|
    if (!(decide ((lget a0.Trusts v5).Epoch = (lget b.Trusts v5).Epoch) && (decide ((lget a0.Trusts v5).Until = (lget b.Trusts v5).Until) && true))) = true then
      some (Sum.inr false)
    else
      some (Sum.inl (w64 (v5 + 1)))
  else
    inrO (R_SameCourt_J1 a0 b ())
noncomputable def R_SameCourt_L3 (a0 : Court) (b : Court) (v0 : Int) : Option Bool :=
  loopO (fun y => R_SameCourt_B3 a0 b y) v0
noncomputable def R_SameCourt (a0 : Court) (b : Court) : Option Bool :=
  ob (if (!((!decide (a0.Now = b.Now)) || (!(decide (a0.Lease.Holder = b.Lease.Holder) && (decide (a0.Lease.Epoch = b.Lease.Epoch) && (decide (a0.Lease.Until = b.Lease.Until) && true)))))) = true then (R_Ints a0.Clocks b.Clocks) else some default) fun x =>
  if ((((((!decide (a0.Now = b.Now)) || (!(decide (a0.Lease.Holder = b.Lease.Holder) && (decide (a0.Lease.Epoch = b.Lease.Epoch) && (decide (a0.Lease.Until = b.Lease.Until) && true))))) || (!x)) || (!decide ((a0.Trusts.length : Int) = (b.Trusts.length : Int)))) || (!decide ((a0.Wishes.length : Int) = (b.Wishes.length : Int)))) || (!decide ((a0.Replies.length : Int) = (b.Replies.length : Int)))) = true then
    some false
  else
    R_SameCourt_L3 a0 b 0
theorem R_SameCourt_ok (a0 : Court) (b : Court) (r : Bool) (hF : R_SameCourt a0 b = some r) : Pe Try.prog 25 S.none [.agg (c_Court a0), .agg (c_Court b)] (.bool r) S.none := by
  refine Pe_of (N := 109) (res := [.tmp 4]) (ts := [4]) Ty.ok Fn.b25 Try.func25 rfl rfl rfl rfl rfl rfl ?_
  intro Q g hfin
  unfold R_SameCourt at hF
  refine Wk_seq ?_
  refine WR [] [2, 3] [2, 3] [] [] [] [] ⟨[(2, .ptr 2 0), (3, .ptr 3 0)], [(2, (c_Court a0)), (3, (c_Court b))], [], [], []⟩ .nil (by kernel_rfl) ?_
  refine Wk_seq ?_
  refine Wk_seq ?_
  obtain ⟨x, h0, hF⟩ := ob_elim hF
  refine WR [.callB (.bool x), .nat (a0.Trusts.length : Int), .nat (b.Trusts.length : Int), .nat (a0.Wishes.length : Int), .nat (b.Wishes.length : Int), .nat (a0.Replies.length : Int), .nat (b.Replies.length : Int)] [2, 3, 54] [2, 3] [] [] [] [] ⟨[(2, .ptr 2 0), (3, .ptr 3 0), (54, .bool ((((((!decide (a0.Now = b.Now)) || (!(decide (a0.Lease.Holder = b.Lease.Holder) && (decide (a0.Lease.Epoch = b.Lease.Epoch) && (decide (a0.Lease.Until = b.Lease.Until) && true))))) || (!x)) || (!decide ((a0.Trusts.length : Int) = (b.Trusts.length : Int)))) || (!decide ((a0.Wishes.length : Int) = (b.Wishes.length : Int)))) || (!decide ((a0.Replies.length : Int) = (b.Replies.length : Int)))))], [(2, (c_Court a0)), (3, (c_Court b))], [], [], []⟩ (.cons (fun (ga0 : (!((!decide (a0.Now = b.Now)) || (!(decide (a0.Lease.Holder = b.Lease.Holder) && (decide (a0.Lease.Epoch = b.Lease.Epoch) && (decide (a0.Lease.Until = b.Lease.Until) && true)))))) = true) => (R_Ints_ok a0.Clocks b.Clocks x (ite_t h0 ga0))) (.cons (fun (_ : (!(((!decide (a0.Now = b.Now)) || (!(decide (a0.Lease.Holder = b.Lease.Holder) && (decide (a0.Lease.Epoch = b.Lease.Epoch) && (decide (a0.Lease.Until = b.Lease.Until) && true))))) || (!x))) = true) => (len_ok e_Trust a0.Trusts)) (.cons (fun (_ : (!(((!decide (a0.Now = b.Now)) || (!(decide (a0.Lease.Holder = b.Lease.Holder) && (decide (a0.Lease.Epoch = b.Lease.Epoch) && (decide (a0.Lease.Until = b.Lease.Until) && true))))) || (!x))) = true) => (len_ok e_Trust b.Trusts)) (.cons (fun (_ : (!((((!decide (a0.Now = b.Now)) || (!(decide (a0.Lease.Holder = b.Lease.Holder) && (decide (a0.Lease.Epoch = b.Lease.Epoch) && (decide (a0.Lease.Until = b.Lease.Until) && true))))) || (!x)) || (!decide ((a0.Trusts.length : Int) = (b.Trusts.length : Int))))) = true) => (len_ok e_Wish a0.Wishes)) (.cons (fun (_ : (!((((!decide (a0.Now = b.Now)) || (!(decide (a0.Lease.Holder = b.Lease.Holder) && (decide (a0.Lease.Epoch = b.Lease.Epoch) && (decide (a0.Lease.Until = b.Lease.Until) && true))))) || (!x)) || (!decide ((a0.Trusts.length : Int) = (b.Trusts.length : Int))))) = true) => (len_ok e_Wish b.Wishes)) (.cons (fun (_ : (!(((((!decide (a0.Now = b.Now)) || (!(decide (a0.Lease.Holder = b.Lease.Holder) && (decide (a0.Lease.Epoch = b.Lease.Epoch) && (decide (a0.Lease.Until = b.Lease.Until) && true))))) || (!x)) || (!decide ((a0.Trusts.length : Int) = (b.Trusts.length : Int)))) || (!decide ((a0.Wishes.length : Int) = (b.Wishes.length : Int))))) = true) => (len_ok e_Reply a0.Replies)) (.cons (fun (_ : (!(((((!decide (a0.Now = b.Now)) || (!(decide (a0.Lease.Holder = b.Lease.Holder) && (decide (a0.Lease.Epoch = b.Lease.Epoch) && (decide (a0.Lease.Until = b.Lease.Until) && true))))) || (!x)) || (!decide ((a0.Trusts.length : Int) = (b.Trusts.length : Int)))) || (!decide ((a0.Wishes.length : Int) = (b.Wishes.length : Int))))) = true) => (len_ok e_Reply b.Replies)) .nil))))))) (by kernel_rfl) ?_
  refine Wk_split rfl (fun hb => ?_) (fun hb => ?_)
  · have hF := ite_t hF hb
    refine Wk_seq ?_
    refine WR [] [4] [] [] [] [] [] ⟨[(4, .bool false)], [], [], [], []⟩ .nil (by kernel_rfl) ?_
    have hF := some_elim hF
    exact Wk_ret (hfin _ ⟨[], [], [], [], [], [], by first | (rw [← hF]; kernel_rfl) | kernel_rfl⟩)
  · have hF := ite_f hF hb
    refine Wk_skip ?_
    refine Wk_seq ?_
    refine Wk_seq ?_
    refine WR [] [2, 3, 5] [2, 3] [] [] [] [] ⟨[(2, .ptr 2 0), (3, .ptr 3 0), (5, .int .i64 0)], [(2, (c_Court a0)), (3, (c_Court b))], [], [], []⟩ .nil (by kernel_rfl) ?_
    refine Wk_meetP (fun v : Unit => (⟨[(2, .ptr 2 0), (3, .ptr 3 0)], [(2, (c_Court a0)), (3, (c_Court b))], [], [], []⟩ : S)) (fun v => R_SameCourt_J1 a0 b v = some r) ?_ ?_
    · refine Wk_block ?_
      unfold R_SameCourt_L3 at hF
      refine Wk_trim (fs := [2, 3, 5]) (bs := [2, 3]) (rs := []) (ms := []) (aa := []) (nv := []) (t := (fun v5 : Int => (⟨[(2, .ptr 2 0), (3, .ptr 3 0), (5, .int .i64 v5)], [(2, (c_Court a0)), (3, (c_Court b))], [], [], []⟩ : S)) 0) (by kernel_rfl) ?_
      refine Wk_iter (step := fun y => R_SameCourt_B3 a0 b y) (r := r) (fun v5 : Int => (⟨[(2, .ptr 2 0), (3, .ptr 3 0), (5, .int .i64 v5)], [(2, (c_Court a0)), (3, (c_Court b))], [], [], []⟩ : S)) 0 hF ?_
      intro n1 v5 y1 hF ih1 dn1
      have hF : R_SameCourt_B3 a0 b v5 = some y1 := hF
      unfold R_SameCourt_B3 at hF
      refine Wk_seq ?_
      refine Wk_seq ?_
      refine WR [.nat (a0.Trusts.length : Int)] [2, 3, 5, 59] [2, 3] [] [] [] [] ⟨[(2, .ptr 2 0), (3, .ptr 3 0), (5, .int .i64 v5), (59, .bool (decide (v5 < (a0.Trusts.length : Int))))], [(2, (c_Court a0)), (3, (c_Court b))], [], [], []⟩ (.cons (len_ok e_Trust a0.Trusts) .nil) (by kernel_rfl) ?_
      refine Wk_split rfl (fun hb => ?_) (fun hb => ?_)
      · have hF := ite_t hF hb
        refine Wk_skip ?_
        refine Wk_seq ?_
        refine Wk_block ?_
        refine Wk_seq ?_
        obtain ⟨h5, hF⟩ := asrt_elim hF
        obtain ⟨h6, hF⟩ := asrt_elim hF
        refine WD [.av (e_Trust (lget a0.Trusts v5)), .av (e_Trust (lget b.Trusts v5))] [2, 3, 5, 72] [2, 3] [] [] [] [] ⟨[(2, .ptr 2 0), (3, .ptr 3 0), (5, .int .i64 v5), (72, .bool (!(decide ((lget a0.Trusts v5).Epoch = (lget b.Trusts v5).Epoch) && (decide ((lget a0.Trusts v5).Until = (lget b.Trusts v5).Until) && true))))], [(2, (c_Court a0)), (3, (c_Court b))], [], [], []⟩ (.cons (idx_ok e_Trust h5) (.cons (idx_ok e_Trust h6) .nil)) (by kernel_rfl) ?_
        refine Wk_split rfl (fun hb => ?_) (fun hb => ?_)
        · have hF := ite_t hF hb
          refine Wk_seq ?_
          refine WR [] [4] [] [] [] [] [] ⟨[(4, .bool false)], [], [], [], []⟩ .nil (by kernel_rfl) ?_
          have hF := ret_done hF dn1
          have hF := some_elim hF
          exact Wk_ret (hfin _ ⟨[], [], [], [], [], [], by first | (rw [← hF]; kernel_rfl) | kernel_rfl⟩)
        · have hF := ite_f hF hb
          refine Wk_skip ?_
          refine Wk_blk ?_
          refine WR [] [2, 3, 5] [2, 3] [] [] [] [] ⟨[(2, .ptr 2 0), (3, .ptr 3 0), (5, .int .i64 (w64 (v5 + 1)))], [(2, (c_Court a0)), (3, (c_Court b))], [], [], []⟩ .nil (by kernel_rfl) ?_
          refine Wk_trim (fs := [2, 3, 5]) (bs := [2, 3]) (rs := []) (ms := []) (aa := []) (nv := []) ?_ (ih1 _ (some_elim hF).symm)
          kernel_rfl
      · have hF := ite_f hF hb
        refine Wk_exit rfl ?_
        have hF := inrO_done hF dn1
        exact Wk_metP () [2, 3] [2, 3] [] [] [] [] hF (by kernel_rfl)
    · intro v hF
      have hF : R_SameCourt_J1 a0 b v = some r := hF
      unfold R_SameCourt_J1 at hF
      refine Wk_seq ?_
      refine Wk_seq ?_
      refine WR [] [2, 3, 6] [2, 3] [] [] [] [] ⟨[(2, .ptr 2 0), (3, .ptr 3 0), (6, .int .i64 0)], [(2, (c_Court a0)), (3, (c_Court b))], [], [], []⟩ .nil (by kernel_rfl) ?_
      refine Wk_meetP (fun v1 : Unit => (⟨[(2, .ptr 2 0), (3, .ptr 3 0)], [(2, (c_Court a0)), (3, (c_Court b))], [], [], []⟩ : S)) (fun v1 => R_SameCourt_J2 a0 b v1 = some r) ?_ ?_
      · refine Wk_block ?_
        unfold R_SameCourt_L2 at hF
        refine Wk_trim (fs := [2, 3, 6]) (bs := [2, 3]) (rs := []) (ms := []) (aa := []) (nv := []) (t := (fun v4 : Int => (⟨[(2, .ptr 2 0), (3, .ptr 3 0), (6, .int .i64 v4)], [(2, (c_Court a0)), (3, (c_Court b))], [], [], []⟩ : S)) 0) (by kernel_rfl) ?_
        refine Wk_iter (step := fun y => R_SameCourt_B2 a0 b y) (r := r) (fun v4 : Int => (⟨[(2, .ptr 2 0), (3, .ptr 3 0), (6, .int .i64 v4)], [(2, (c_Court a0)), (3, (c_Court b))], [], [], []⟩ : S)) 0 hF ?_
        intro n1 v4 y1 hF ih1 dn1
        have hF : R_SameCourt_B2 a0 b v4 = some y1 := hF
        unfold R_SameCourt_B2 at hF
        refine Wk_seq ?_
        refine Wk_seq ?_
        refine WR [.nat (a0.Wishes.length : Int)] [2, 3, 6, 77] [2, 3] [] [] [] [] ⟨[(2, .ptr 2 0), (3, .ptr 3 0), (6, .int .i64 v4), (77, .bool (decide (v4 < (a0.Wishes.length : Int))))], [(2, (c_Court a0)), (3, (c_Court b))], [], [], []⟩ (.cons (len_ok e_Wish a0.Wishes) .nil) (by kernel_rfl) ?_
        refine Wk_split rfl (fun hb => ?_) (fun hb => ?_)
        · have hF := ite_t hF hb
          refine Wk_skip ?_
          refine Wk_seq ?_
          refine Wk_block ?_
          refine Wk_seq ?_
          obtain ⟨h3, hF⟩ := asrt_elim hF
          obtain ⟨h4, hF⟩ := asrt_elim hF
          refine WD [.av (e_Wish (lget a0.Wishes v4)), .av (e_Wish (lget b.Wishes v4))] [2, 3, 6, 90] [2, 3] [] [] [] [] ⟨[(2, .ptr 2 0), (3, .ptr 3 0), (6, .int .i64 v4), (90, .bool (!(decide ((lget a0.Wishes v4).Who = (lget b.Wishes v4).Who) && (decide ((lget a0.Wishes v4).Sent = (lget b.Wishes v4).Sent) && (decide ((lget a0.Wishes v4).Epoch = (lget b.Wishes v4).Epoch) && true)))))], [(2, (c_Court a0)), (3, (c_Court b))], [], [], []⟩ (.cons (idx_ok e_Wish h3) (.cons (idx_ok e_Wish h4) .nil)) (by kernel_rfl) ?_
          refine Wk_split rfl (fun hb => ?_) (fun hb => ?_)
          · have hF := ite_t hF hb
            refine Wk_seq ?_
            refine WR [] [4] [] [] [] [] [] ⟨[(4, .bool false)], [], [], [], []⟩ .nil (by kernel_rfl) ?_
            have hF := ret_done hF dn1
            have hF := some_elim hF
            exact Wk_ret (hfin _ ⟨[], [], [], [], [], [], by first | (rw [← hF]; kernel_rfl) | kernel_rfl⟩)
          · have hF := ite_f hF hb
            refine Wk_skip ?_
            refine Wk_blk ?_
            refine WR [] [2, 3, 6] [2, 3] [] [] [] [] ⟨[(2, .ptr 2 0), (3, .ptr 3 0), (6, .int .i64 (w64 (v4 + 1)))], [(2, (c_Court a0)), (3, (c_Court b))], [], [], []⟩ .nil (by kernel_rfl) ?_
            refine Wk_trim (fs := [2, 3, 6]) (bs := [2, 3]) (rs := []) (ms := []) (aa := []) (nv := []) ?_ (ih1 _ (some_elim hF).symm)
            kernel_rfl
        · have hF := ite_f hF hb
          refine Wk_exit rfl ?_
          have hF := inrO_done hF dn1
          exact Wk_metP () [2, 3] [2, 3] [] [] [] [] hF (by kernel_rfl)
      · intro v1 hF
        have hF : R_SameCourt_J2 a0 b v1 = some r := hF
        unfold R_SameCourt_J2 at hF
        refine Wk_seq ?_
        refine Wk_seq ?_
        refine WR [] [2, 3, 7] [2, 3] [] [] [] [] ⟨[(2, .ptr 2 0), (3, .ptr 3 0), (7, .int .i64 0)], [(2, (c_Court a0)), (3, (c_Court b))], [], [], []⟩ .nil (by kernel_rfl) ?_
        refine Wk_meetP (fun v2 : Unit => (⟨[], [], [], [], []⟩ : S)) (fun v2 => R_SameCourt_J3 v2 = some r) ?_ ?_
        · refine Wk_block ?_
          unfold R_SameCourt_L1 at hF
          refine Wk_trim (fs := [2, 3, 7]) (bs := [2, 3]) (rs := []) (ms := []) (aa := []) (nv := []) (t := (fun v3 : Int => (⟨[(2, .ptr 2 0), (3, .ptr 3 0), (7, .int .i64 v3)], [(2, (c_Court a0)), (3, (c_Court b))], [], [], []⟩ : S)) 0) (by kernel_rfl) ?_
          refine Wk_iter (step := fun y => R_SameCourt_B1 a0 b y) (r := r) (fun v3 : Int => (⟨[(2, .ptr 2 0), (3, .ptr 3 0), (7, .int .i64 v3)], [(2, (c_Court a0)), (3, (c_Court b))], [], [], []⟩ : S)) 0 hF ?_
          intro n1 v3 y1 hF ih1 dn1
          have hF : R_SameCourt_B1 a0 b v3 = some y1 := hF
          unfold R_SameCourt_B1 at hF
          refine Wk_seq ?_
          refine Wk_seq ?_
          refine WR [.nat (a0.Replies.length : Int)] [2, 3, 7, 95] [2, 3] [] [] [] [] ⟨[(2, .ptr 2 0), (3, .ptr 3 0), (7, .int .i64 v3), (95, .bool (decide (v3 < (a0.Replies.length : Int))))], [(2, (c_Court a0)), (3, (c_Court b))], [], [], []⟩ (.cons (len_ok e_Reply a0.Replies) .nil) (by kernel_rfl) ?_
          refine Wk_split rfl (fun hb => ?_) (fun hb => ?_)
          · have hF := ite_t hF hb
            refine Wk_skip ?_
            refine Wk_seq ?_
            refine Wk_block ?_
            refine Wk_seq ?_
            obtain ⟨h1, hF⟩ := asrt_elim hF
            obtain ⟨h2, hF⟩ := asrt_elim hF
            refine WD [.av (e_Reply (lget a0.Replies v3)), .av (e_Reply (lget b.Replies v3))] [2, 3, 7, 108] [2, 3] [] [] [] [] ⟨[(2, .ptr 2 0), (3, .ptr 3 0), (7, .int .i64 v3), (108, .bool (!(decide ((lget a0.Replies v3).Who = (lget b.Replies v3).Who) && (decide (((lget a0.Replies v3).Trust).Epoch = ((lget b.Replies v3).Trust).Epoch) && (decide (((lget a0.Replies v3).Trust).Until = ((lget b.Replies v3).Trust).Until) && true)))))], [(2, (c_Court a0)), (3, (c_Court b))], [], [], []⟩ (.cons (idx_ok e_Reply h1) (.cons (idx_ok e_Reply h2) .nil)) (by kernel_rfl) ?_
            refine Wk_split rfl (fun hb => ?_) (fun hb => ?_)
            · have hF := ite_t hF hb
              refine Wk_seq ?_
              refine WR [] [4] [] [] [] [] [] ⟨[(4, .bool false)], [], [], [], []⟩ .nil (by kernel_rfl) ?_
              have hF := ret_done hF dn1
              have hF := some_elim hF
              exact Wk_ret (hfin _ ⟨[], [], [], [], [], [], by first | (rw [← hF]; kernel_rfl) | kernel_rfl⟩)
            · have hF := ite_f hF hb
              refine Wk_skip ?_
              refine Wk_blk ?_
              refine WR [] [2, 3, 7] [2, 3] [] [] [] [] ⟨[(2, .ptr 2 0), (3, .ptr 3 0), (7, .int .i64 (w64 (v3 + 1)))], [(2, (c_Court a0)), (3, (c_Court b))], [], [], []⟩ .nil (by kernel_rfl) ?_
              refine Wk_trim (fs := [2, 3, 7]) (bs := [2, 3]) (rs := []) (ms := []) (aa := []) (nv := []) ?_ (ih1 _ (some_elim hF).symm)
              kernel_rfl
          · have hF := ite_f hF hb
            refine Wk_exit rfl ?_
            have hF := inrO_done hF dn1
            exact Wk_metP () [] [] [] [] [] [] hF (by kernel_rfl)
        · intro v2 hF
          have hF : R_SameCourt_J3 v2 = some r := hF
          unfold R_SameCourt_J3 at hF
          refine Wk_seq ?_
          refine WR [] [4] [] [] [] [] [] ⟨[(4, .bool true)], [], [], [], []⟩ .nil (by kernel_rfl) ?_
          have hF := some_elim hF
          exact Wk_ret (hfin _ ⟨[], [], [], [], [], [], by first | (rw [← hF]; kernel_rfl) | kernel_rfl⟩)

/- tabularyref.FairCourts -/
noncomputable def R_FairCourts_J1 (v : Unit) : Option Bool :=
  some true
noncomputable def R_FairCourts_J2 (v1 : Int) (v2 : Unit) : Option (Int ⊕ Bool) :=
  some (Sum.inl (w64 (v1 + 1)))
noncomputable def R_FairCourts_J3 (v3 : Int) (v4 : Unit) : Option (Int ⊕ (Int ⊕ Bool)) :=
  some (Sum.inl (w64 (v3 + 1)))
noncomputable def R_FairCourts_J4 (v3 : Int) (v5 : Unit) : Option (Int ⊕ (Int ⊕ Bool)) :=
  R_FairCourts_J3 v3 ()
noncomputable def R_FairCourts_B3 (l : List Court) (span : Int) (v1 : Int) (v3 : Int) (v6 : Int) : Option (Int ⊕ (Int ⊕ (Int ⊕ Bool))) :=
  asrt (0 ≤ v1 ∧ v1 < (l.length : Int)) <|
  if (decide (v6 < (((lget l v1).Clocks).length : Int))) = true then
    asrt (0 ≤ v3 ∧ v3 < (l.length : Int)) <|
    asrt (0 ≤ v6 ∧ v6 < (((lget l v3).Clocks).length : Int)) <|
    asrt (0 ≤ v1 ∧ v1 < (l.length : Int)) <|
    asrt (0 ≤ v6 ∧ v6 < (((lget l v1).Clocks).length : Int)) <|
    if (decide ((w64 ((lget ((lget l v3).Clocks) v6) - (lget ((lget l v1).Clocks) v6))) < (w64 (span - (w64 (Int.tdiv span 4)))))) = true then
      some (Sum.inr (Sum.inr (Sum.inr false)))
    else
      some (Sum.inl (w64 (v6 + 1)))
  else
    inrO (R_FairCourts_J4 v3 ())
noncomputable def R_FairCourts_L3 (l : List Court) (span : Int) (v1 : Int) (v3 : Int) (v0 : Int) : Option (Int ⊕ (Int ⊕ Bool)) :=
  loopO (fun y => R_FairCourts_B3 l span v1 v3 y) v0
noncomputable def R_FairCourts_B2 (l : List Court) (span : Int) (v1 : Int) (v3 : Int) : Option (Int ⊕ (Int ⊕ Bool)) :=
  if (decide (v3 < (l.length : Int))) = true then
    asrt (0 ≤ v3 ∧ v3 < (l.length : Int)) <|
    asrt (0 ≤ v1 ∧ v1 < (l.length : Int)) <|
    if (decide ((w64 (((lget l v3).Now) - ((lget l v1).Now))) < span)) = true then
      R_FairCourts_J3 v3 ()
    else
      R_FairCourts_L3 l span v1 v3 0
  else
    inrO (R_FairCourts_J2 v1 ())
noncomputable def R_FairCourts_L2 (l : List Court) (span : Int) (v1 : Int) (v0 : Int) : Option (Int ⊕ Bool) :=
  loopO (fun y => R_FairCourts_B2 l span v1 y) v0
noncomputable def R_FairCourts_B1 (l : List Court) (span : Int) (v1 : Int) : Option (Int ⊕ Bool) :=
  if (decide (v1 < (l.length : Int))) = true then
    R_FairCourts_L2 l span v1 v1
  else
    inrO (R_FairCourts_J1 ())
noncomputable def R_FairCourts_L1 (l : List Court) (span : Int) (v0 : Int) : Option Bool :=
  loopO (fun y => R_FairCourts_B1 l span y) v0
noncomputable def R_FairCourts (l : List Court) (span : Int) : Option Bool :=
  R_FairCourts_L1 l span 0
theorem R_FairCourts_ok (l : List Court) (span : Int) (r : Bool) (hF : R_FairCourts l span = some r) : Pe Try.prog 26 S.none [.sl 8 (l.map e_Court), .int .i64 span] (.bool r) S.none := by
  refine Pe_of (N := 66) (res := [.tmp 4]) (ts := [4]) Ty.ok Fn.b26 Try.func26 rfl rfl rfl rfl rfl rfl ?_
  intro Q g hfin
  unfold R_FairCourts at hF
  refine Wk_seq ?_
  refine WR [] [0, 1] [] [] [] [] [] ⟨[(0, .sl 8 (l.map e_Court)), (1, .int .i64 span)], [], [], [], []⟩ .nil (by kernel_rfl) ?_
  refine Wk_seq ?_
  refine Wk_seq ?_
  refine WR [] [0, 1, 5] [] [] [] [] [] ⟨[(0, .sl 8 (l.map e_Court)), (1, .int .i64 span), (5, .int .i64 0)], [], [], [], []⟩ .nil (by kernel_rfl) ?_
  refine Wk_meetP (fun v : Unit => (⟨[], [], [], [], []⟩ : S)) (fun v => R_FairCourts_J1 v = some r) ?_ ?_
  · refine Wk_block ?_
    unfold R_FairCourts_L1 at hF
    refine Wk_trim (fs := [0, 1, 5]) (bs := []) (rs := []) (ms := []) (aa := []) (nv := []) (t := (fun v1 : Int => (⟨[(0, .sl 8 (l.map e_Court)), (1, .int .i64 span), (5, .int .i64 v1)], [], [], [], []⟩ : S)) 0) (by kernel_rfl) ?_
    refine Wk_iter (step := fun y => R_FairCourts_B1 l span y) (r := r) (fun v1 : Int => (⟨[(0, .sl 8 (l.map e_Court)), (1, .int .i64 span), (5, .int .i64 v1)], [], [], [], []⟩ : S)) 0 hF ?_
    intro n1 v1 y1 hF ih1 dn1
    have hF : R_FairCourts_B1 l span v1 = some y1 := hF
    unfold R_FairCourts_B1 at hF
    refine Wk_seq ?_
    refine Wk_seq ?_
    refine WR [.nat (l.length : Int)] [0, 1, 5, 11] [] [] [] [] [] ⟨[(0, .sl 8 (l.map e_Court)), (1, .int .i64 span), (5, .int .i64 v1), (11, .bool (decide (v1 < (l.length : Int))))], [], [], [], []⟩ (.cons (len_ok e_Court l) .nil) (by kernel_rfl) ?_
    refine Wk_split rfl (fun hb => ?_) (fun hb => ?_)
    · have hF := ite_t hF hb
      refine Wk_skip ?_
      refine Wk_seq ?_
      refine Wk_block ?_
      refine Wk_seq ?_
      refine WR [] [0, 1, 5, 6] [] [] [] [] [] ⟨[(0, .sl 8 (l.map e_Court)), (1, .int .i64 span), (5, .int .i64 v1), (6, .int .i64 v1)], [], [], [], []⟩ .nil (by kernel_rfl) ?_
      refine Wk_meetP (fun v2 : Unit => (⟨[(0, .sl 8 (l.map e_Court)), (1, .int .i64 span), (5, .int .i64 v1)], [], [], [], []⟩ : S)) (fun v2 => R_FairCourts_J2 v1 v2 = some y1) ?_ ?_
      · refine Wk_block ?_
        unfold R_FairCourts_L2 at hF
        refine Wk_trim (fs := [0, 1, 5, 6]) (bs := []) (rs := []) (ms := []) (aa := []) (nv := []) (t := (fun v3 : Int => (⟨[(0, .sl 8 (l.map e_Court)), (1, .int .i64 span), (5, .int .i64 v1), (6, .int .i64 v3)], [], [], [], []⟩ : S)) v1) (by kernel_rfl) ?_
        refine Wk_iter (step := fun y => R_FairCourts_B2 l span v1 y) (r := y1) (fun v3 : Int => (⟨[(0, .sl 8 (l.map e_Court)), (1, .int .i64 span), (5, .int .i64 v1), (6, .int .i64 v3)], [], [], [], []⟩ : S)) v1 hF ?_
        intro n2 v3 y2 hF ih2 dn2
        have hF : R_FairCourts_B2 l span v1 v3 = some y2 := hF
        unfold R_FairCourts_B2 at hF
        refine Wk_seq ?_
        refine Wk_seq ?_
        refine WR [.nat (l.length : Int)] [0, 1, 5, 6, 18] [] [] [] [] [] ⟨[(0, .sl 8 (l.map e_Court)), (1, .int .i64 span), (5, .int .i64 v1), (6, .int .i64 v3), (18, .bool (decide (v3 < (l.length : Int))))], [], [], [], []⟩ (.cons (len_ok e_Court l) .nil) (by kernel_rfl) ?_
        refine Wk_split rfl (fun hb => ?_) (fun hb => ?_)
        · have hF := ite_t hF hb
          refine Wk_skip ?_
          refine Wk_seq ?_
          refine Wk_meetP (fun v4 : Unit => (⟨[(0, .sl 8 (l.map e_Court)), (1, .int .i64 span), (5, .int .i64 v1), (6, .int .i64 v3)], [], [], [], []⟩ : S)) (fun v4 => R_FairCourts_J3 v3 v4 = some y2) ?_ ?_
          · refine Wk_block ?_
            refine Wk_seq ?_
            refine Wk_seq ?_
            obtain ⟨h0, hF⟩ := asrt_elim hF
            obtain ⟨h1, hF⟩ := asrt_elim hF
            refine WD [.av (e_Court (lget l v3)), .av (e_Court (lget l v1))] [0, 1, 5, 6, 33] [] [] [] [] [] ⟨[(0, .sl 8 (l.map e_Court)), (1, .int .i64 span), (5, .int .i64 v1), (6, .int .i64 v3), (33, .bool (decide ((w64 (((lget l v3).Now) - ((lget l v1).Now))) < span)))], [], [], [], []⟩ (.cons (idx_ok e_Court h0) (.cons (idx_ok e_Court h1) .nil)) (by kernel_rfl) ?_
            refine Wk_split rfl (fun hb => ?_) (fun hb => ?_)
            · have hF := ite_t hF hb
              refine Wk_exit rfl ?_
              exact Wk_metP () [0, 1, 5, 6] [] [] [] [] [] hF (by kernel_rfl)
            · have hF := ite_f hF hb
              refine Wk_skip ?_
              refine Wk_seq ?_
              refine WR [] [0, 1, 5, 6, 7] [] [] [] [] [] ⟨[(0, .sl 8 (l.map e_Court)), (1, .int .i64 span), (5, .int .i64 v1), (6, .int .i64 v3), (7, .int .i64 0)], [], [], [], []⟩ .nil (by kernel_rfl) ?_
              refine Wk_meetP (fun v5 : Unit => (⟨[(0, .sl 8 (l.map e_Court)), (1, .int .i64 span), (5, .int .i64 v1), (6, .int .i64 v3)], [], [], [], []⟩ : S)) (fun v5 => R_FairCourts_J4 v3 v5 = some y2) ?_ ?_
              · refine Wk_block ?_
                unfold R_FairCourts_L3 at hF
                refine Wk_trim (fs := [0, 1, 5, 6, 7]) (bs := []) (rs := []) (ms := []) (aa := []) (nv := []) (t := (fun v6 : Int => (⟨[(0, .sl 8 (l.map e_Court)), (1, .int .i64 span), (5, .int .i64 v1), (6, .int .i64 v3), (7, .int .i64 v6)], [], [], [], []⟩ : S)) 0) (by kernel_rfl) ?_
                refine Wk_iter (step := fun y => R_FairCourts_B3 l span v1 v3 y) (r := y2) (fun v6 : Int => (⟨[(0, .sl 8 (l.map e_Court)), (1, .int .i64 span), (5, .int .i64 v1), (6, .int .i64 v3), (7, .int .i64 v6)], [], [], [], []⟩ : S)) 0 hF ?_
                intro n3 v6 y3 hF ih3 dn3
                have hF : R_FairCourts_B3 l span v1 v3 v6 = some y3 := hF
                unfold R_FairCourts_B3 at hF
                refine Wk_seq ?_
                refine Wk_seq ?_
                obtain ⟨h2, hF⟩ := asrt_elim hF
                refine WR [.av (e_Court (lget l v1)), .nat (((lget l v1).Clocks).length : Int)] [0, 1, 5, 6, 7, 41] [] [] [] [] [] ⟨[(0, .sl 8 (l.map e_Court)), (1, .int .i64 span), (5, .int .i64 v1), (6, .int .i64 v3), (7, .int .i64 v6), (41, .bool (decide (v6 < (((lget l v1).Clocks).length : Int))))], [], [], [], []⟩ (.cons (idx_ok e_Court h2) (.cons (len_ok e_i64 ((lget l v1).Clocks)) .nil)) (by kernel_rfl) ?_
                refine Wk_split rfl (fun hb => ?_) (fun hb => ?_)
                · have hF := ite_t hF hb
                  refine Wk_skip ?_
                  refine Wk_seq ?_
                  refine Wk_block ?_
                  refine Wk_seq ?_
                  obtain ⟨h3, hF⟩ := asrt_elim hF
                  obtain ⟨h4, hF⟩ := asrt_elim hF
                  obtain ⟨h5, hF⟩ := asrt_elim hF
                  obtain ⟨h6, hF⟩ := asrt_elim hF
                  refine WD [.av (e_Court (lget l v3)), .av (e_i64 (lget ((lget l v3).Clocks) v6)), .av (e_Court (lget l v1)), .av (e_i64 (lget ((lget l v1).Clocks) v6))] [0, 1, 5, 6, 7, 65] [] [] [] [] [] ⟨[(0, .sl 8 (l.map e_Court)), (1, .int .i64 span), (5, .int .i64 v1), (6, .int .i64 v3), (7, .int .i64 v6), (65, .bool (decide ((w64 ((lget ((lget l v3).Clocks) v6) - (lget ((lget l v1).Clocks) v6))) < (w64 (span - (w64 (Int.tdiv span 4)))))))], [], [], [], []⟩ (.cons (idx_ok e_Court h3) (.cons (idx_ok e_i64 h4) (.cons (idx_ok e_Court h5) (.cons (idx_ok e_i64 h6) (.cons (by decide : (4 : Int) ≠ 0) .nil))))) (by kernel_rfl) ?_
                  refine Wk_split rfl (fun hb => ?_) (fun hb => ?_)
                  · have hF := ite_t hF hb
                    refine Wk_seq ?_
                    refine WR [] [4] [] [] [] [] [] ⟨[(4, .bool false)], [], [], [], []⟩ .nil (by kernel_rfl) ?_
                    have hF := ret_done hF dn3
                    have hF := ret_done hF dn2
                    have hF := ret_done hF dn1
                    have hF := some_elim hF
                    exact Wk_ret (hfin _ ⟨[], [], [], [], [], [], by first | (rw [← hF]; kernel_rfl) | kernel_rfl⟩)
                  · have hF := ite_f hF hb
                    refine Wk_skip ?_
                    refine Wk_blk ?_
                    refine WR [] [0, 1, 5, 6, 7] [] [] [] [] [] ⟨[(0, .sl 8 (l.map e_Court)), (1, .int .i64 span), (5, .int .i64 v1), (6, .int .i64 v3), (7, .int .i64 (w64 (v6 + 1)))], [], [], [], []⟩ .nil (by kernel_rfl) ?_
                    refine Wk_trim (fs := [0, 1, 5, 6, 7]) (bs := []) (rs := []) (ms := []) (aa := []) (nv := []) ?_ (ih3 _ (some_elim hF).symm)
                    kernel_rfl
                · have hF := ite_f hF hb
                  refine Wk_exit rfl ?_
                  have hF := inrO_done hF dn3
                  exact Wk_metP () [0, 1, 5, 6] [] [] [] [] [] hF (by kernel_rfl)
              · intro v5 hF
                have hF : R_FairCourts_J4 v3 v5 = some y2 := hF
                unfold R_FairCourts_J4 at hF
                refine Wk_blk ?_
                exact Wk_metP () [0, 1, 5, 6] [] [] [] [] [] hF (by kernel_rfl)
          · intro v4 hF
            have hF : R_FairCourts_J3 v3 v4 = some y2 := hF
            unfold R_FairCourts_J3 at hF
            refine WR [] [0, 1, 5, 6] [] [] [] [] [] ⟨[(0, .sl 8 (l.map e_Court)), (1, .int .i64 span), (5, .int .i64 v1), (6, .int .i64 (w64 (v3 + 1)))], [], [], [], []⟩ .nil (by kernel_rfl) ?_
            refine Wk_trim (fs := [0, 1, 5, 6]) (bs := []) (rs := []) (ms := []) (aa := []) (nv := []) ?_ (ih2 _ (some_elim hF).symm)
            kernel_rfl
        · have hF := ite_f hF hb
          refine Wk_exit rfl ?_
          have hF := inrO_done hF dn2
          exact Wk_metP () [0, 1, 5] [] [] [] [] [] hF (by kernel_rfl)
      · intro v2 hF
        have hF : R_FairCourts_J2 v1 v2 = some y1 := hF
        unfold R_FairCourts_J2 at hF
        refine Wk_blk ?_
        refine WR [] [0, 1, 5] [] [] [] [] [] ⟨[(0, .sl 8 (l.map e_Court)), (1, .int .i64 span), (5, .int .i64 (w64 (v1 + 1)))], [], [], [], []⟩ .nil (by kernel_rfl) ?_
        refine Wk_trim (fs := [0, 1, 5]) (bs := []) (rs := []) (ms := []) (aa := []) (nv := []) ?_ (ih1 _ (some_elim hF).symm)
        kernel_rfl
    · have hF := ite_f hF hb
      refine Wk_exit rfl ?_
      have hF := inrO_done hF dn1
      exact Wk_metP () [] [] [] [] [] [] hF (by kernel_rfl)
  · intro v hF
    have hF : R_FairCourts_J1 v = some r := hF
    unfold R_FairCourts_J1 at hF
    refine Wk_seq ?_
    refine WR [] [4] [] [] [] [] [] ⟨[(4, .bool true)], [], [], [], []⟩ .nil (by kernel_rfl) ?_
    have hF := some_elim hF
    exact Wk_ret (hfin _ ⟨[], [], [], [], [], [], by first | (rw [← hF]; kernel_rfl) | kernel_rfl⟩)

/- tabularylaw.LeasePlays -/
noncomputable def law_LeasePlays_J1 (span : Int) (clients : Int) (deeds : List Deed) (x1 : Court × Fault) (x2 : Bool × Fault) (v : Unit) : Option Bool :=
  ob (R_Courts_v1 span clients deeds) fun x3 =>
  if ((!(decide (x1.2.Code = x3.2.Code) && (decide (x1.2.At = x3.2.At) && true))) || (!(decide (x2.2.Code = x3.2.Code) && (decide (x2.2.At = x3.2.At) && true)))) = true then
    some false
  else
    if (!decide (x3.2.Code = 0)) = true then
      ob (if (!x2.1) = true then (R_SameCourt x1.1 (⟨0, (⟨0, 0, 0⟩ : Lease), ([] : List Int), ([] : List Trust), ([] : List Wish), ([] : List Reply)⟩ : Court)) else some default) fun x4 =>
      some ((!x2.1) && x4)
    else
      asrt (0 ≤ w64 ((x3.1.length : Int) - 1) ∧ w64 ((x3.1.length : Int) - 1) < (x3.1.length : Int)) <|
      ob (R_SameCourt x1.1 (⟨(lget x3.1 (w64 ((x3.1.length : Int) - 1))).Now, (⟨((lget x3.1 (w64 ((x3.1.length : Int) - 1))).Lease).Holder, ((lget x3.1 (w64 ((x3.1.length : Int) - 1))).Lease).Epoch, ((lget x3.1 (w64 ((x3.1.length : Int) - 1))).Lease).Until⟩ : Lease), (lget x3.1 (w64 ((x3.1.length : Int) - 1))).Clocks, (lget x3.1 (w64 ((x3.1.length : Int) - 1))).Trusts, (lget x3.1 (w64 ((x3.1.length : Int) - 1))).Wishes, (lget x3.1 (w64 ((x3.1.length : Int) - 1))).Replies⟩ : Court)) fun x5 =>
      ob (if x5 = true then (R_FairCourts x3.1 span) else some default) fun x6 =>
      some (x5 && (x2.1 == x6))
noncomputable def law_LeasePlays_B1 (span : Int) (clients : Int) (deeds : List Deed) (x1 : Court × Fault) (x2 : Bool × Fault) (v1 : Int) : Option (Int ⊕ Bool) :=
  if (decide (v1 < (deeds.length : Int))) = true then
    asrt (0 ≤ v1 ∧ v1 < (deeds.length : Int)) <|
    asrt (0 ≤ v1 ∧ v1 < (deeds.length : Int)) <|
    asrt (0 ≤ v1 ∧ v1 < (deeds.length : Int)) <|
    if (!(decide ((lget deeds v1).Kind = (lget deeds v1).Kind) && (decide ((lget deeds v1).Who = (lget deeds v1).Who) && (decide ((lget deeds v1).N = (lget deeds v1).N) && true)))) = true then
      some (Sum.inr false)
    else
      some (Sum.inl (w64 (v1 + 1)))
  else
    inrO (law_LeasePlays_J1 span clients deeds x1 x2 ())
noncomputable def law_LeasePlays_L1 (span : Int) (clients : Int) (deeds : List Deed) (x1 : Court × Fault) (x2 : Bool × Fault) (v0 : Int) : Option Bool :=
  loopO (fun y => law_LeasePlays_B1 span clients deeds x1 x2 y) v0
noncomputable def law_LeasePlays (span : Int) (clients : Int) (deeds : List Deed) : Option Bool :=
  lt (law_leaseBegun) fun x =>
  if (!x) = true then
    some false
  else
    if (((decide (300 < (deeds.length : Int))) && (decide ((deeds.length : Int) < 2001))) || (decide (3000 < (deeds.length : Int)))) = true then
      some true
    else
      asrt ((deeds.length : Int) * 24 ≤ 140737488351232) <|
      ob (lease_Play_v1 span clients deeds) fun x1 =>
      ob (lease_Fair span clients deeds) fun x2 =>
      law_LeasePlays_L1 span clients deeds x1 x2 0
theorem law_LeasePlays_ok (span : Int) (clients : Int) (deeds : List Deed) (r : Bool) (hF : law_LeasePlays span clients deeds = some r) : Pe Try.prog 5 S.none [.int .i64 span, .int .i64 clients, .sl 3 (deeds.map e_Deed)] (.bool r) S.none := by
  refine Pe_of (N := 101) (res := [.tmp 6]) (ts := [4]) Ty.ok Fn.b5 Try.func5 rfl rfl rfl rfl rfl rfl ?_
  intro Q g hfin
  unfold law_LeasePlays at hF
  refine Wk_seq ?_
  refine WR [] [0, 1, 2] [] [] [] [] [] ⟨[(0, .int .i64 span), (1, .int .i64 clients), (2, .sl 3 (deeds.map e_Deed))], [], [], [], []⟩ .nil (by kernel_rfl) ?_
  refine Wk_seq ?_
  refine Wk_seq ?_
  obtain ⟨x, h0, hF⟩ := lt_split hF
  refine WR [.callB (.bool x)] [0, 1, 2, 16] [] [] [] [] [] ⟨[(0, .int .i64 span), (1, .int .i64 clients), (2, .sl 3 (deeds.map e_Deed)), (16, .bool (!x))], [], [], [], []⟩ (.cons (law_leaseBegun_ok  x h0) .nil) (by kernel_rfl) ?_
  refine Wk_split rfl (fun hb => ?_) (fun hb => ?_)
  · have hF := ite_t hF hb
    refine Wk_seq ?_
    refine WR [] [6] [] [] [] [] [] ⟨[(6, .bool false)], [], [], [], []⟩ .nil (by kernel_rfl) ?_
    have hF := some_elim hF
    exact Wk_ret (hfin _ ⟨[], [], [], [], [], [], by first | (rw [← hF]; kernel_rfl) | kernel_rfl⟩)
  · have hF := ite_f hF hb
    refine Wk_skip ?_
    refine Wk_seq ?_
    refine Wk_seq ?_
    refine WR [.nat (deeds.length : Int), .nat (deeds.length : Int), .nat (deeds.length : Int)] [0, 1, 2, 29] [] [] [] [] [] ⟨[(0, .int .i64 span), (1, .int .i64 clients), (2, .sl 3 (deeds.map e_Deed)), (29, .bool (((decide (300 < (deeds.length : Int))) && (decide ((deeds.length : Int) < 2001))) || (decide (3000 < (deeds.length : Int)))))], [], [], [], []⟩ (.cons (len_ok e_Deed deeds) (.cons (fun (_ : (decide (300 < (deeds.length : Int))) = true) => (len_ok e_Deed deeds)) (.cons (fun (_ : (!((decide (300 < (deeds.length : Int))) && (decide ((deeds.length : Int) < 2001)))) = true) => (len_ok e_Deed deeds)) .nil))) (by kernel_rfl) ?_
    refine Wk_split rfl (fun hb => ?_) (fun hb => ?_)
    · have hF := ite_t hF hb
      refine Wk_seq ?_
      refine WR [] [6] [] [] [] [] [] ⟨[(6, .bool true)], [], [], [], []⟩ .nil (by kernel_rfl) ?_
      have hF := some_elim hF
      exact Wk_ret (hfin _ ⟨[], [], [], [], [], [], by first | (rw [← hF]; kernel_rfl) | kernel_rfl⟩)
    · have hF := ite_f hF hb
      refine Wk_skip ?_
      refine Wk_seq ?_
      obtain ⟨h1, hF⟩ := asrt_elim hF
      refine WR [.xs (deeds.map e_Deed)] [0, 1, 2, 7] [] [31] [] [] [] ⟨[(0, .int .i64 span), (1, .int .i64 clients), (2, .sl 3 (deeds.map e_Deed)), (7, .row 31 1)], [], [(31, ⟨50, 3, 1, 0, 0, true, 0, [], (deeds.map e_Deed)⟩)], [], []⟩ (.cons (app0_ok e_Deed deeds) (.cons (appl_ok e_Deed h1) .nil)) (by kernel_rfl) ?_
      refine Wk_seq ?_
      obtain ⟨x1, h2, hF⟩ := ob_elim hF
      refine WR [.callR [] [31] [] [] (.tup [.agg (c_Court x1.1), .agg [.int .i64 x1.2.Code, .int .i64 x1.2.At]])] [0, 1, 2, 7, 8, 9] [8, 9] [31] [] [] [] ⟨[(0, .int .i64 span), (1, .int .i64 clients), (2, .sl 3 (deeds.map e_Deed)), (7, .row 31 1), (8, .ptr 8 0), (9, .ptr 9 0)], [(8, (c_Court x1.1)), (9, [.int .i64 x1.2.Code, .int .i64 x1.2.At])], [(31, ⟨50, 3, 1, 0, 0, true, 0, [], (deeds.map e_Deed)⟩)], [], []⟩ (.cons (Pe.ren (lease_Play_v1_ok span clients deeds 0 0 true x1 h2) ⟨[], [(100000, 31)], [], [(100000, 1)]⟩) .nil) (by kernel_rfl) ?_
      refine Wk_seq ?_
      obtain ⟨x2, h3, hF⟩ := ob_elim hF
      refine WR [.callR [] [31] [] [] (.tup [.bool x2.1, .agg [.int .i64 x2.2.Code, .int .i64 x2.2.At]])] [0, 1, 2, 7, 8, 9, 10, 11] [8, 9, 11] [31] [] [] [] ⟨[(0, .int .i64 span), (1, .int .i64 clients), (2, .sl 3 (deeds.map e_Deed)), (7, .row 31 1), (8, .ptr 8 0), (9, .ptr 9 0), (10, .bool x2.1), (11, .ptr 11 0)], [(8, (c_Court x1.1)), (9, [.int .i64 x1.2.Code, .int .i64 x1.2.At]), (11, [.int .i64 x2.2.Code, .int .i64 x2.2.At])], [(31, ⟨50, 3, 1, 0, 0, true, 0, [], (deeds.map e_Deed)⟩)], [], []⟩ (.cons (Pe.ren (lease_Fair_ok span clients deeds 0 0 true x2 h3) ⟨[], [(100000, 31)], [], [(100000, 1)]⟩) .nil) (by kernel_rfl) ?_
      refine Wk_seq ?_
      refine Wk_seq ?_
      refine WR [] [0, 1, 2, 7, 8, 9, 10, 11, 12] [8, 9, 11] [31] [] [] [] ⟨[(0, .int .i64 span), (1, .int .i64 clients), (2, .sl 3 (deeds.map e_Deed)), (7, .row 31 1), (8, .ptr 8 0), (9, .ptr 9 0), (10, .bool x2.1), (11, .ptr 11 0), (12, .int .i64 0)], [(8, (c_Court x1.1)), (9, [.int .i64 x1.2.Code, .int .i64 x1.2.At]), (11, [.int .i64 x2.2.Code, .int .i64 x2.2.At])], [(31, ⟨50, 3, 1, 0, 0, true, 0, [], (deeds.map e_Deed)⟩)], [], []⟩ .nil (by kernel_rfl) ?_
      refine Wk_meetP (fun v : Unit => (⟨[(0, .int .i64 span), (1, .int .i64 clients), (2, .sl 3 (deeds.map e_Deed)), (8, .ptr 8 0), (9, .ptr 9 0), (10, .bool x2.1), (11, .ptr 11 0)], [(8, (c_Court x1.1)), (9, [.int .i64 x1.2.Code, .int .i64 x1.2.At]), (11, [.int .i64 x2.2.Code, .int .i64 x2.2.At])], [], [], []⟩ : S)) (fun v => law_LeasePlays_J1 span clients deeds x1 x2 v = some r) ?_ ?_
      · refine Wk_block ?_
        unfold law_LeasePlays_L1 at hF
        refine Wk_trim (fs := [0, 1, 2, 7, 8, 9, 10, 11, 12]) (bs := [8, 9, 11]) (rs := [31]) (ms := []) (aa := []) (nv := []) (t := (fun v1 : Int => (⟨[(0, .int .i64 span), (1, .int .i64 clients), (2, .sl 3 (deeds.map e_Deed)), (7, .row 31 1), (8, .ptr 8 0), (9, .ptr 9 0), (10, .bool x2.1), (11, .ptr 11 0), (12, .int .i64 v1)], [(8, (c_Court x1.1)), (9, [.int .i64 x1.2.Code, .int .i64 x1.2.At]), (11, [.int .i64 x2.2.Code, .int .i64 x2.2.At])], [(31, ⟨50, 3, 1, 0, 0, true, 0, [], (deeds.map e_Deed)⟩)], [], []⟩ : S)) 0) (by kernel_rfl) ?_
        refine Wk_iter (step := fun y => law_LeasePlays_B1 span clients deeds x1 x2 y) (r := r) (fun v1 : Int => (⟨[(0, .int .i64 span), (1, .int .i64 clients), (2, .sl 3 (deeds.map e_Deed)), (7, .row 31 1), (8, .ptr 8 0), (9, .ptr 9 0), (10, .bool x2.1), (11, .ptr 11 0), (12, .int .i64 v1)], [(8, (c_Court x1.1)), (9, [.int .i64 x1.2.Code, .int .i64 x1.2.At]), (11, [.int .i64 x2.2.Code, .int .i64 x2.2.At])], [(31, ⟨50, 3, 1, 0, 0, true, 0, [], (deeds.map e_Deed)⟩)], [], []⟩ : S)) 0 hF ?_
        intro n1 v1 y1 hF ih1 dn1
        have hF : law_LeasePlays_B1 span clients deeds x1 x2 v1 = some y1 := hF
        unfold law_LeasePlays_B1 at hF
        refine Wk_seq ?_
        refine Wk_seq ?_
        refine WR [.nat (deeds.length : Int)] [0, 1, 2, 7, 8, 9, 10, 11, 12, 49] [8, 9, 11] [31] [] [] [] ⟨[(0, .int .i64 span), (1, .int .i64 clients), (2, .sl 3 (deeds.map e_Deed)), (7, .row 31 1), (8, .ptr 8 0), (9, .ptr 9 0), (10, .bool x2.1), (11, .ptr 11 0), (12, .int .i64 v1), (49, .bool (decide (v1 < (deeds.length : Int))))], [(8, (c_Court x1.1)), (9, [.int .i64 x1.2.Code, .int .i64 x1.2.At]), (11, [.int .i64 x2.2.Code, .int .i64 x2.2.At])], [(31, ⟨50, 3, 1, 0, 0, true, 0, [], (deeds.map e_Deed)⟩)], [], []⟩ (.cons (len_ok e_Deed deeds) .nil) (by kernel_rfl) ?_
        refine Wk_split rfl (fun hb => ?_) (fun hb => ?_)
        · have hF := ite_t hF hb
          refine Wk_skip ?_
          refine Wk_seq ?_
          refine Wk_block ?_
          refine Wk_seq ?_
          obtain ⟨h9, hF⟩ := asrt_elim hF
          obtain ⟨h10, hF⟩ := asrt_elim hF
          obtain ⟨h11, hF⟩ := asrt_elim hF
          refine WD [.av (e_Deed (lget deeds v1)), .av (e_Deed (lget deeds v1))] [0, 1, 2, 7, 8, 9, 10, 11, 12, 60] [8, 9, 11] [31] [] [] [] ⟨[(0, .int .i64 span), (1, .int .i64 clients), (2, .sl 3 (deeds.map e_Deed)), (7, .row 31 1), (8, .ptr 8 0), (9, .ptr 9 0), (10, .bool x2.1), (11, .ptr 11 0), (12, .int .i64 v1), (60, .bool (!(decide ((lget deeds v1).Kind = (lget deeds v1).Kind) && (decide ((lget deeds v1).Who = (lget deeds v1).Who) && (decide ((lget deeds v1).N = (lget deeds v1).N) && true)))))], [(8, (c_Court x1.1)), (9, [.int .i64 x1.2.Code, .int .i64 x1.2.At]), (11, [.int .i64 x2.2.Code, .int .i64 x2.2.At])], [(31, ⟨50, 3, 1, 0, 0, true, 0, [], (deeds.map e_Deed)⟩)], [], []⟩ (.cons (ixr_ok e_Deed h9) (.cons (ldr_ok e_Deed h10) (.cons (idx_ok e_Deed h11) .nil))) (by kernel_rfl) ?_
          refine Wk_split rfl (fun hb => ?_) (fun hb => ?_)
          · have hF := ite_t hF hb
            refine Wk_seq ?_
            refine WR [] [6] [] [] [] [] [] ⟨[(6, .bool false)], [], [], [], []⟩ .nil (by kernel_rfl) ?_
            have hF := ret_done hF dn1
            have hF := some_elim hF
            exact Wk_ret (hfin _ ⟨[], [], [], [], [], [], by first | (rw [← hF]; kernel_rfl) | kernel_rfl⟩)
          · have hF := ite_f hF hb
            refine Wk_skip ?_
            refine Wk_blk ?_
            refine WR [] [0, 1, 2, 7, 8, 9, 10, 11, 12] [8, 9, 11] [31] [] [] [] ⟨[(0, .int .i64 span), (1, .int .i64 clients), (2, .sl 3 (deeds.map e_Deed)), (7, .row 31 1), (8, .ptr 8 0), (9, .ptr 9 0), (10, .bool x2.1), (11, .ptr 11 0), (12, .int .i64 (w64 (v1 + 1)))], [(8, (c_Court x1.1)), (9, [.int .i64 x1.2.Code, .int .i64 x1.2.At]), (11, [.int .i64 x2.2.Code, .int .i64 x2.2.At])], [(31, ⟨50, 3, 1, 0, 0, true, 0, [], (deeds.map e_Deed)⟩)], [], []⟩ .nil (by kernel_rfl) ?_
            refine Wk_trim (fs := [0, 1, 2, 7, 8, 9, 10, 11, 12]) (bs := [8, 9, 11]) (rs := [31]) (ms := []) (aa := []) (nv := []) ?_ (ih1 _ (some_elim hF).symm)
            kernel_rfl
        · have hF := ite_f hF hb
          refine Wk_exit rfl ?_
          have hF := inrO_done hF dn1
          exact Wk_metP () [0, 1, 2, 8, 9, 10, 11] [8, 9, 11] [] [] [] [] hF (by kernel_rfl)
      · intro v hF
        have hF : law_LeasePlays_J1 span clients deeds x1 x2 v = some r := hF
        unfold law_LeasePlays_J1 at hF
        refine Wk_seq ?_
        obtain ⟨x3, h4, hF⟩ := ob_elim hF
        refine WR [.call (.tup [.sl 8 (x3.1.map e_Court), .agg [.int .i64 x3.2.Code, .int .i64 x3.2.At]])] [0, 8, 9, 10, 11, 13, 14] [8, 9, 11, 14] [] [] [] [] ⟨[(0, .int .i64 span), (8, .ptr 8 0), (9, .ptr 9 0), (10, .bool x2.1), (11, .ptr 11 0), (13, .sl 8 (x3.1.map e_Court)), (14, .ptr 14 0)], [(8, (c_Court x1.1)), (9, [.int .i64 x1.2.Code, .int .i64 x1.2.At]), (11, [.int .i64 x2.2.Code, .int .i64 x2.2.At]), (14, [.int .i64 x3.2.Code, .int .i64 x3.2.At])], [], [], []⟩ (.cons (R_Courts_v1_ok span clients deeds x3 h4) .nil) (by kernel_rfl) ?_
        refine Wk_seq ?_
        refine Wk_seq ?_
        refine WR [] [0, 8, 10, 13, 14, 75] [8, 14] [] [] [] [] ⟨[(0, .int .i64 span), (8, .ptr 8 0), (10, .bool x2.1), (13, .sl 8 (x3.1.map e_Court)), (14, .ptr 14 0), (75, .bool ((!(decide (x1.2.Code = x3.2.Code) && (decide (x1.2.At = x3.2.At) && true))) || (!(decide (x2.2.Code = x3.2.Code) && (decide (x2.2.At = x3.2.At) && true)))))], [(8, (c_Court x1.1)), (14, [.int .i64 x3.2.Code, .int .i64 x3.2.At])], [], [], []⟩ .nil (by kernel_rfl) ?_
        refine Wk_split rfl (fun hb => ?_) (fun hb => ?_)
        · have hF := ite_t hF hb
          refine Wk_seq ?_
          refine WR [] [6] [] [] [] [] [] ⟨[(6, .bool false)], [], [], [], []⟩ .nil (by kernel_rfl) ?_
          have hF := some_elim hF
          exact Wk_ret (hfin _ ⟨[], [], [], [], [], [], by first | (rw [← hF]; kernel_rfl) | kernel_rfl⟩)
        · have hF := ite_f hF hb
          refine Wk_skip ?_
          refine Wk_seq ?_
          refine Wk_seq ?_
          refine WR [] [0, 8, 10, 13, 78] [8] [] [] [] [] ⟨[(0, .int .i64 span), (8, .ptr 8 0), (10, .bool x2.1), (13, .sl 8 (x3.1.map e_Court)), (78, .bool (!decide (x3.2.Code = 0)))], [(8, (c_Court x1.1))], [], [], []⟩ .nil (by kernel_rfl) ?_
          refine Wk_split rfl (fun hb => ?_) (fun hb => ?_)
          · have hF := ite_t hF hb
            refine Wk_seq ?_
            obtain ⟨x4, h5, hF⟩ := ob_elim hF
            refine WR [.callB (.bool x4)] [6] [] [] [] [] [] ⟨[(6, .bool ((!x2.1) && x4))], [], [], [], []⟩ (.cons (fun (ga0 : (!x2.1) = true) => (R_SameCourt_ok x1.1 (⟨0, (⟨0, 0, 0⟩ : Lease), ([] : List Int), ([] : List Trust), ([] : List Wish), ([] : List Reply)⟩ : Court) x4 (ite_t h5 ga0))) .nil) (by kernel_rfl) ?_
            have hF := some_elim hF
            exact Wk_ret (hfin _ ⟨[], [], [], [], [], [], by first | (rw [← hF]; kernel_rfl) | kernel_rfl⟩)
          · have hF := ite_f hF hb
            refine Wk_skip ?_
            refine Wk_seq ?_
            obtain ⟨h6, hF⟩ := asrt_elim hF
            obtain ⟨x5, h7, hF⟩ := ob_elim hF
            obtain ⟨x6, h8, hF⟩ := ob_elim hF
            refine WD [.nat (x3.1.length : Int), .av (e_Court (lget x3.1 (w64 ((x3.1.length : Int) - 1)))), .callB (.bool x5), .callB (.bool x6)] [6] [] [] [] [] [] ⟨[(6, .bool (x5 && (x2.1 == x6)))], [], [], [], []⟩ (.cons (len_ok e_Court x3.1) (.cons (idx_ok e_Court h6) (.cons (R_SameCourt_ok x1.1 (⟨(lget x3.1 (w64 ((x3.1.length : Int) - 1))).Now, (⟨((lget x3.1 (w64 ((x3.1.length : Int) - 1))).Lease).Holder, ((lget x3.1 (w64 ((x3.1.length : Int) - 1))).Lease).Epoch, ((lget x3.1 (w64 ((x3.1.length : Int) - 1))).Lease).Until⟩ : Lease), (lget x3.1 (w64 ((x3.1.length : Int) - 1))).Clocks, (lget x3.1 (w64 ((x3.1.length : Int) - 1))).Trusts, (lget x3.1 (w64 ((x3.1.length : Int) - 1))).Wishes, (lget x3.1 (w64 ((x3.1.length : Int) - 1))).Replies⟩ : Court) x5 h7) (.cons (fun (ga0 : x5 = true) => (R_FairCourts_ok x3.1 span x6 (ite_t h8 ga0))) .nil)))) (by kernel_rfl) ?_
            have hF := some_elim hF
            exact Wk_ret (hfin _ ⟨[], [], [], [], [], [], by first | (rw [← hF]; kernel_rfl) | kernel_rfl⟩)

/- lease.run -/
noncomputable def lease_run_v2_J1 (v : Int × Int × Int × Int × List Int × List Trust × List Wish × List Reply × Int × List Int × List (List Int)) : Option (Int × Int × Int × Int × List Int × List Trust × List Wish × List Reply × Fault × List Int × List (List Int)) :=
  some (v.1, v.2.1, v.2.2.1, v.2.2.2.1, v.2.2.2.2.1, v.2.2.2.2.2.1, v.2.2.2.2.2.2.1, v.2.2.2.2.2.2.2.1, (⟨0, 0⟩ : Fault), v.2.2.2.2.2.2.2.2.2.1, v.2.2.2.2.2.2.2.2.2.2)
noncomputable def lease_run_v2_B1 (deeds : List Deed) (v1 : List Int × List (List Int) × Int × Int × Int × Int × List Int × List Trust × List Wish × List Reply × Int × Int) : Option ((List Int × List (List Int) × Int × Int × Int × Int × List Int × List Trust × List Wish × List Reply × Int × Int) ⊕ (Int × Int × Int × Int × List Int × List Trust × List Wish × List Reply × Fault × List Int × List (List Int))) :=
  if (decide (v1.2.2.2.2.2.2.2.2.2.2.2 < (deeds.length : Int))) = true then
    asrt (0 ≤ v1.2.2.2.2.2.2.2.2.2.2.2 ∧ v1.2.2.2.2.2.2.2.2.2.2.2 < (deeds.length : Int)) <|
    ob (lease_court_does_v1 (⟨(lget deeds v1.2.2.2.2.2.2.2.2.2.2.2).Kind, (lget deeds v1.2.2.2.2.2.2.2.2.2.2.2).Who, (lget deeds v1.2.2.2.2.2.2.2.2.2.2.2).N⟩ : Deed) v1.2.2.1 v1.2.2.2.1 v1.2.2.2.2.1 v1.2.2.2.2.2.1 v1.2.2.2.2.2.2.2.2.2.2.1 v1.2.2.2.2.2.2.1 v1.2.2.2.2.2.2.2.1 v1.2.2.2.2.2.2.2.2.1 v1.2.2.2.2.2.2.2.2.2.1) fun x3 =>
    if (!decide (x3.1 = 0)) = true then
      lt (lease_fault x3.1 v1.2.2.2.2.2.2.2.2.2.2.2) fun x4 =>
      some (Sum.inr (0, 0, 0, 0, ([] : List Int), ([] : List Trust), ([] : List Wish), ([] : List Reply), x4, v1.1, v1.2.1))
    else
      ob (lease_Fair_1 x3.2.1 x3.2.2.1 x3.2.2.2.1 x3.2.2.2.2.1 x3.2.2.2.2.2.2.2.2.2 x3.2.2.2.2.2.1 x3.2.2.2.2.2.2.1 x3.2.2.2.2.2.2.2.1 x3.2.2.2.2.2.2.2.2.1 v1.1 v1.2.1) fun x5 =>
      some (Sum.inl (x5.1, x5.2, x3.2.1, x3.2.2.1, x3.2.2.2.1, x3.2.2.2.2.1, x3.2.2.2.2.2.1, x3.2.2.2.2.2.2.1, x3.2.2.2.2.2.2.2.1, x3.2.2.2.2.2.2.2.2.1, x3.2.2.2.2.2.2.2.2.2, w64 (v1.2.2.2.2.2.2.2.2.2.2.2 + 1)))
  else
    inrO (lease_run_v2_J1 (v1.2.2.1, v1.2.2.2.1, v1.2.2.2.2.1, v1.2.2.2.2.2.1, v1.2.2.2.2.2.2.1, v1.2.2.2.2.2.2.2.1, v1.2.2.2.2.2.2.2.2.1, v1.2.2.2.2.2.2.2.2.2.1, v1.2.2.2.2.2.2.2.2.2.2.1, v1.1, v1.2.1))
noncomputable def lease_run_v2_L1 (deeds : List Deed) (v0 : List Int × List (List Int) × Int × Int × Int × Int × List Int × List Trust × List Wish × List Reply × Int × Int) : Option (Int × Int × Int × Int × List Int × List Trust × List Wish × List Reply × Fault × List Int × List (List Int)) :=
  loopO (fun y => lease_run_v2_B1 deeds y) v0
noncomputable def lease_run_v2 (span : Int) (clients : Int) (deeds : List Deed) (row : List Int) (row1 : List (List Int)) : Option (Int × Int × Int × Int × List Int × List Trust × List Wish × List Reply × Fault × List Int × List (List Int)) :=
  lt (lease_spanned span) fun x =>
  if (!decide (x.Code = 0)) = true then
    some (0, 0, 0, 0, ([] : List Int), ([] : List Trust), ([] : List Wish), ([] : List Reply), x, row, row1)
  else
    if ((decide (clients < 1)) || (decide (8 < clients))) = true then
      lt (lease_fault 3 (-1)) fun x1 =>
      some (0, 0, 0, 0, ([] : List Int), ([] : List Trust), ([] : List Wish), ([] : List Reply), x1, row, row1)
    else
      if (decide (2000 < (deeds.length : Int))) = true then
        lt (lease_fault 2 (-1)) fun x2 =>
        some (0, 0, 0, 0, ([] : List Int), ([] : List Trust), ([] : List Wish), ([] : List Reply), x2, row, row1)
      else
        asrt (0 ≤ (clients : Int) ∧ clients ≤ clients ∧ clients * 8 ≤ 140737488351232) <|
        asrt (0 ≤ (clients : Int) ∧ clients ≤ clients ∧ clients * 16 ≤ 140737488351232) <|
        lease_run_v2_L1 deeds (row, row1, 0, 0, 0, 0, (List.replicate clients.toNat (0 : Int)), (List.replicate clients.toNat ((⟨0, 0⟩ : Trust) : Trust)), ([] : List Wish), ([] : List Reply), span, 0)
theorem lease_run_v2_ok (span : Int) (clients : Int) (deeds : List Deed) (row : List Int) (row1 : List (List Int)) (rk : Nat) (rc : Nat) (rn : Bool) (rk1 : Nat) (rc1 : Nat) (rn1 : Bool) (r : Int × Int × Int × Int × List Int × List Trust × List Wish × List Reply × Fault × List Int × List (List Int)) (hF : lease_run_v2 span clients deeds row row1 = some r) : Pe Try.prog 55 ⟨[], [(100000, [.row 100000 0]), (100001, [.row 100001 0])], [(100000, ⟨3, 1, 0, rk, rc, rn, 0, [], (row.map e_i64)⟩), (100001, ⟨22, 1, 0, rk1, rc1, rn1, 0, [], (row1.map e_L_i64)⟩)], [], []⟩ [.int .i64 span, .int .i64 clients, .sl 3 (deeds.map e_Deed), .fn 57 [.ptr 100000 0, .ptr 100001 0]] (.tup [.agg [.int .i64 r.1, .int .i64 r.2.1, .int .i64 r.2.2.1, .int .i64 r.2.2.2.1, .row 41 0, .row 43 0, .row 59 0, .row 20059 0], .agg [.int .i64 r.2.2.2.2.2.2.2.2.1.Code, .int .i64 r.2.2.2.2.2.2.2.2.1.At]]) ⟨[], [(100000, [.row 100000 1]), (100001, [.row 100001 1])], [(100000, ⟨3, 1, 1, rk, rc, rn, 0, [], (r.2.2.2.2.2.2.2.2.2.1.map e_i64)⟩), (100001, ⟨22, 1, 1, rk1, rc1, rn1, 0, [], (r.2.2.2.2.2.2.2.2.2.2.map e_L_i64)⟩), (41, ⟨3, 1, 0, 0, 0, false, 0, [], (r.2.2.2.2.1.map e_i64)⟩), (43, ⟨60, 2, 0, 0, 0, false, 0, [], (r.2.2.2.2.2.1.map e_Trust)⟩), (59, ⟨103, 3, 0, 0, 0, false, 0, [], (r.2.2.2.2.2.2.1.map e_Wish)⟩), (20059, ⟨105, 3, 0, 0, 0, false, 0, [], (r.2.2.2.2.2.2.2.1.map e_Reply)⟩)], [], []⟩ := by
  refine Pe_of (N := 75) (res := [.cell 8 44, .cell 9 25]) (ts := [44, 25]) Ty.ok Fn.b55 Try.func55 rfl rfl rfl rfl rfl rfl ?_
  intro Q g hfin
  unfold lease_run_v2 at hF
  refine Wk_seq ?_
  refine WR [] [0, 1, 2, 3, 8, 9] [8, 9, 100000, 100001] [100000, 100001] [] [] [] ⟨[(0, .int .i64 span), (1, .int .i64 clients), (2, .sl 3 (deeds.map e_Deed)), (3, .fn 57 [.ptr 100000 0, .ptr 100001 0]), (8, .ptr 8 0), (9, .ptr 9 0)], [(8, [.int .i64 0, .int .i64 0, .int .i64 0, .int .i64 0, .nils, .nils, .nils, .nils]), (9, [.int .i64 0, .int .i64 0]), (100000, [.row 100000 0]), (100001, [.row 100001 0])], [(100000, ⟨3, 1, 0, rk, rc, rn, 0, [], (row.map e_i64)⟩), (100001, ⟨22, 1, 0, rk1, rc1, rn1, 0, [], (row1.map e_L_i64)⟩)], [], []⟩ .nil (by kernel_rfl) ?_
  refine Wk_seq ?_
  refine Wk_seq ?_
  obtain ⟨x, h0, hF⟩ := lt_split hF
  refine WR [.callB (.agg [.int .i64 x.Code, .int .i64 x.At])] [0, 1, 2, 3, 8, 9, 10] [8, 9, 10, 100000, 100001] [100000, 100001] [] [] [] ⟨[(0, .int .i64 span), (1, .int .i64 clients), (2, .sl 3 (deeds.map e_Deed)), (3, .fn 57 [.ptr 100000 0, .ptr 100001 0]), (8, .ptr 8 0), (9, .ptr 9 0), (10, .ptr 10 0)], [(8, [.int .i64 0, .int .i64 0, .int .i64 0, .int .i64 0, .nils, .nils, .nils, .nils]), (9, [.int .i64 0, .int .i64 0]), (10, [.int .i64 x.Code, .int .i64 x.At]), (100000, [.row 100000 0]), (100001, [.row 100001 0])], [(100000, ⟨3, 1, 0, rk, rc, rn, 0, [], (row.map e_i64)⟩), (100001, ⟨22, 1, 0, rk1, rc1, rn1, 0, [], (row1.map e_L_i64)⟩)], [], []⟩ (.cons (lease_spanned_ok span x h0) .nil) (by kernel_rfl) ?_
  refine Wk_seq ?_
  refine WR [] [0, 1, 2, 3, 8, 9, 10, 19] [8, 9, 10, 100000, 100001] [100000, 100001] [] [] [] ⟨[(0, .int .i64 span), (1, .int .i64 clients), (2, .sl 3 (deeds.map e_Deed)), (3, .fn 57 [.ptr 100000 0, .ptr 100001 0]), (8, .ptr 8 0), (9, .ptr 9 0), (10, .ptr 10 0), (19, .bool (!decide (x.Code = 0)))], [(8, [.int .i64 0, .int .i64 0, .int .i64 0, .int .i64 0, .nils, .nils, .nils, .nils]), (9, [.int .i64 0, .int .i64 0]), (10, [.int .i64 x.Code, .int .i64 x.At]), (100000, [.row 100000 0]), (100001, [.row 100001 0])], [(100000, ⟨3, 1, 0, rk, rc, rn, 0, [], (row.map e_i64)⟩), (100001, ⟨22, 1, 0, rk1, rc1, rn1, 0, [], (row1.map e_L_i64)⟩)], [], []⟩ .nil (by kernel_rfl) ?_
  refine Wk_split rfl (fun hb => ?_) (fun hb => ?_)
  · have hF := ite_t hF hb
    refine Wk_seq ?_
    refine WD [] [8, 9] [8, 9, 100000, 100001] [100000, 100001] [] [] [] ⟨[(8, .ptr 8 0), (9, .ptr 9 0)], [(8, [.int .i64 0, .int .i64 0, .int .i64 0, .int .i64 0, .nils, .nils, .nils, .nils]), (9, [.int .i64 x.Code, .int .i64 x.At]), (100000, [.row 100000 0]), (100001, [.row 100001 0])], [(100000, ⟨3, 1, 0, rk, rc, rn, 0, [], (row.map e_i64)⟩), (100001, ⟨22, 1, 0, rk1, rc1, rn1, 0, [], (row1.map e_L_i64)⟩)], [], []⟩ .nil (by kernel_rfl) ?_
    have hF := some_elim hF
    refine Wk_nilrowB 8 4 60000 3 1 rfl rfl rfl rfl rfl ?_
    refine Wk_nilrowB 8 5 60001 60 2 rfl rfl rfl rfl rfl ?_
    refine Wk_nilrowB 8 6 60002 103 3 rfl rfl rfl rfl rfl ?_
    refine Wk_nilrowB 8 7 60003 105 3 rfl rfl rfl rfl rfl ?_
    refine Wk_ren' ⟨[], [(60000, 41), (60001, 43), (60002, 59), (60003, 20059)], [], []⟩ rfl ?_
    exact Wk_ret (hfin _ ⟨[100000, 100001, 41, 43, 59, 20059], [100000, 100001], [100000, 100001, 41, 43, 59, 20059], [], [], [(100000, ⟨1, true, true, false⟩), (100001, ⟨1, true, true, false⟩), (41, ⟨0, true, false, false⟩), (43, ⟨0, true, false, false⟩), (59, ⟨0, true, false, false⟩), (20059, ⟨0, true, false, false⟩)], by first | (rw [← hF]; kernel_rfl) | kernel_rfl⟩)
  · have hF := ite_f hF hb
    refine Wk_skip ?_
    refine Wk_seq ?_
    refine Wk_seq ?_
    refine WR [] [0, 1, 2, 3, 8, 9, 27] [8, 9, 100000, 100001] [100000, 100001] [] [] [] ⟨[(0, .int .i64 span), (1, .int .i64 clients), (2, .sl 3 (deeds.map e_Deed)), (3, .fn 57 [.ptr 100000 0, .ptr 100001 0]), (8, .ptr 8 0), (9, .ptr 9 0), (27, .bool ((decide (clients < 1)) || (decide (8 < clients))))], [(8, [.int .i64 0, .int .i64 0, .int .i64 0, .int .i64 0, .nils, .nils, .nils, .nils]), (9, [.int .i64 0, .int .i64 0]), (100000, [.row 100000 0]), (100001, [.row 100001 0])], [(100000, ⟨3, 1, 0, rk, rc, rn, 0, [], (row.map e_i64)⟩), (100001, ⟨22, 1, 0, rk1, rc1, rn1, 0, [], (row1.map e_L_i64)⟩)], [], []⟩ .nil (by kernel_rfl) ?_
    refine Wk_split rfl (fun hb => ?_) (fun hb => ?_)
    · have hF := ite_t hF hb
      refine Wk_seq ?_
      obtain ⟨x1, h1, hF⟩ := lt_split hF
      refine WR [.callB (.agg [.int .i64 x1.Code, .int .i64 x1.At])] [8, 9] [8, 9, 100000, 100001] [100000, 100001] [] [] [] ⟨[(8, .ptr 8 0), (9, .ptr 9 0)], [(8, [.int .i64 0, .int .i64 0, .int .i64 0, .int .i64 0, .nils, .nils, .nils, .nils]), (9, [.int .i64 x1.Code, .int .i64 x1.At]), (100000, [.row 100000 0]), (100001, [.row 100001 0])], [(100000, ⟨3, 1, 0, rk, rc, rn, 0, [], (row.map e_i64)⟩), (100001, ⟨22, 1, 0, rk1, rc1, rn1, 0, [], (row1.map e_L_i64)⟩)], [], []⟩ (.cons (lease_fault_ok 3 (-1) x1 h1) .nil) (by kernel_rfl) ?_
      have hF := some_elim hF
      refine Wk_nilrowB 8 4 60004 3 1 rfl rfl rfl rfl rfl ?_
      refine Wk_nilrowB 8 5 60005 60 2 rfl rfl rfl rfl rfl ?_
      refine Wk_nilrowB 8 6 60006 103 3 rfl rfl rfl rfl rfl ?_
      refine Wk_nilrowB 8 7 60007 105 3 rfl rfl rfl rfl rfl ?_
      refine Wk_ren' ⟨[], [(60004, 41), (60005, 43), (60006, 59), (60007, 20059)], [], []⟩ rfl ?_
      exact Wk_ret (hfin _ ⟨[100000, 100001, 41, 43, 59, 20059], [100000, 100001], [100000, 100001, 41, 43, 59, 20059], [], [], [(100000, ⟨1, true, true, false⟩), (100001, ⟨1, true, true, false⟩), (41, ⟨0, true, false, false⟩), (43, ⟨0, true, false, false⟩), (59, ⟨0, true, false, false⟩), (20059, ⟨0, true, false, false⟩)], by first | (rw [← hF]; kernel_rfl) | kernel_rfl⟩)
    · have hF := ite_f hF hb
      refine Wk_skip ?_
      refine Wk_seq ?_
      refine Wk_seq ?_
      refine WR [.nat (deeds.length : Int)] [0, 1, 2, 3, 8, 9, 32] [8, 9, 100000, 100001] [100000, 100001] [] [] [] ⟨[(0, .int .i64 span), (1, .int .i64 clients), (2, .sl 3 (deeds.map e_Deed)), (3, .fn 57 [.ptr 100000 0, .ptr 100001 0]), (8, .ptr 8 0), (9, .ptr 9 0), (32, .bool (decide (2000 < (deeds.length : Int))))], [(8, [.int .i64 0, .int .i64 0, .int .i64 0, .int .i64 0, .nils, .nils, .nils, .nils]), (9, [.int .i64 0, .int .i64 0]), (100000, [.row 100000 0]), (100001, [.row 100001 0])], [(100000, ⟨3, 1, 0, rk, rc, rn, 0, [], (row.map e_i64)⟩), (100001, ⟨22, 1, 0, rk1, rc1, rn1, 0, [], (row1.map e_L_i64)⟩)], [], []⟩ (.cons (len_ok e_Deed deeds) .nil) (by kernel_rfl) ?_
      refine Wk_split rfl (fun hb => ?_) (fun hb => ?_)
      · have hF := ite_t hF hb
        refine Wk_seq ?_
        obtain ⟨x2, h2, hF⟩ := lt_split hF
        refine WR [.callB (.agg [.int .i64 x2.Code, .int .i64 x2.At])] [8, 9] [8, 9, 100000, 100001] [100000, 100001] [] [] [] ⟨[(8, .ptr 8 0), (9, .ptr 9 0)], [(8, [.int .i64 0, .int .i64 0, .int .i64 0, .int .i64 0, .nils, .nils, .nils, .nils]), (9, [.int .i64 x2.Code, .int .i64 x2.At]), (100000, [.row 100000 0]), (100001, [.row 100001 0])], [(100000, ⟨3, 1, 0, rk, rc, rn, 0, [], (row.map e_i64)⟩), (100001, ⟨22, 1, 0, rk1, rc1, rn1, 0, [], (row1.map e_L_i64)⟩)], [], []⟩ (.cons (lease_fault_ok 2 (-1) x2 h2) .nil) (by kernel_rfl) ?_
        have hF := some_elim hF
        refine Wk_nilrowB 8 4 60008 3 1 rfl rfl rfl rfl rfl ?_
        refine Wk_nilrowB 8 5 60009 60 2 rfl rfl rfl rfl rfl ?_
        refine Wk_nilrowB 8 6 60010 103 3 rfl rfl rfl rfl rfl ?_
        refine Wk_nilrowB 8 7 60011 105 3 rfl rfl rfl rfl rfl ?_
        refine Wk_ren' ⟨[], [(60008, 41), (60009, 43), (60010, 59), (60011, 20059)], [], []⟩ rfl ?_
        exact Wk_ret (hfin _ ⟨[100000, 100001, 41, 43, 59, 20059], [100000, 100001], [100000, 100001, 41, 43, 59, 20059], [], [], [(100000, ⟨1, true, true, false⟩), (100001, ⟨1, true, true, false⟩), (41, ⟨0, true, false, false⟩), (43, ⟨0, true, false, false⟩), (59, ⟨0, true, false, false⟩), (20059, ⟨0, true, false, false⟩)], by first | (rw [← hF]; kernel_rfl) | kernel_rfl⟩)
      · have hF := ite_f hF hb
        refine Wk_skip ?_
        refine Wk_seq ?_
        refine WR [] [1, 2, 3, 8, 9, 11] [8, 9, 37, 100000, 100001] [100000, 100001] [] [] [] ⟨[(1, .int .i64 clients), (2, .sl 3 (deeds.map e_Deed)), (3, .fn 57 [.ptr 100000 0, .ptr 100001 0]), (8, .ptr 8 0), (9, .ptr 9 0), (11, .ptr 37 0)], [(8, [.int .i64 0, .int .i64 0, .int .i64 0, .int .i64 0, .nils, .nils, .nils, .nils]), (9, [.int .i64 0, .int .i64 0]), (37, [.int .i64 0, .int .i64 0, .int .i64 0, .int .i64 0, .nils, .nils, .nils, .nils, .int .i64 span]), (100000, [.row 100000 0]), (100001, [.row 100001 0])], [(100000, ⟨3, 1, 0, rk, rc, rn, 0, [], (row.map e_i64)⟩), (100001, ⟨22, 1, 0, rk1, rc1, rn1, 0, [], (row1.map e_L_i64)⟩)], [], []⟩ .nil (by kernel_rfl) ?_
        refine Wk_seq ?_
        obtain ⟨h3, hF⟩ := asrt_elim hF
        obtain ⟨h4, hF⟩ := asrt_elim hF
        refine WD [.xs ((List.replicate clients.toNat (0 : Int)).map e_i64), .xs ((List.replicate clients.toNat ((⟨0, 0⟩ : Trust) : Trust)).map e_Trust)] [2, 3, 8, 9, 11] [8, 9, 37, 100000, 100001] [41, 43, 100000, 100001] [] [] [] ⟨[(2, .sl 3 (deeds.map e_Deed)), (3, .fn 57 [.ptr 100000 0, .ptr 100001 0]), (8, .ptr 8 0), (9, .ptr 9 0), (11, .ptr 37 0)], [(8, [.int .i64 0, .int .i64 0, .int .i64 0, .int .i64 0, .nils, .nils, .nils, .nils]), (9, [.int .i64 0, .int .i64 0]), (37, [.int .i64 0, .int .i64 0, .int .i64 0, .int .i64 0, .row 41 0, .row 43 0, .nils, .nils, .int .i64 span]), (100000, [.row 100000 0]), (100001, [.row 100001 0])], [(41, ⟨3, 1, 0, 0, 0, false, 0, [], ((List.replicate clients.toNat (0 : Int)).map e_i64)⟩), (43, ⟨60, 2, 0, 0, 0, false, 0, [], ((List.replicate clients.toNat ((⟨0, 0⟩ : Trust) : Trust)).map e_Trust)⟩), (100000, ⟨3, 1, 0, rk, rc, rn, 0, [], (row.map e_i64)⟩), (100001, ⟨22, 1, 0, rk1, rc1, rn1, 0, [], (row1.map e_L_i64)⟩)], [], []⟩ (.cons (mk_ok h3) (.cons (rep_ok e_i64 clients (0 : Int)) (.cons (mk_ok h4) (.cons (rep_ok e_Trust clients ((⟨0, 0⟩ : Trust) : Trust)) .nil)))) (by kernel_rfl) ?_
        refine Wk_seq ?_
        refine Wk_seq ?_
        refine WR [.nat (deeds.length : Int)] [3, 8, 9, 11, 50, 51, 52] [8, 9, 37, 100000, 100001] [41, 43, 100000, 100001] [] [] [] ⟨[(3, .fn 57 [.ptr 100000 0, .ptr 100001 0]), (8, .ptr 8 0), (9, .ptr 9 0), (11, .ptr 37 0), (50, .sl 3 (deeds.map e_Deed)), (51, .int .i64 (deeds.length : Int)), (52, .int .i64 0)], [(8, [.int .i64 0, .int .i64 0, .int .i64 0, .int .i64 0, .nils, .nils, .nils, .nils]), (9, [.int .i64 0, .int .i64 0]), (37, [.int .i64 0, .int .i64 0, .int .i64 0, .int .i64 0, .row 41 0, .row 43 0, .nils, .nils, .int .i64 span]), (100000, [.row 100000 0]), (100001, [.row 100001 0])], [(41, ⟨3, 1, 0, 0, 0, false, 0, [], ((List.replicate clients.toNat (0 : Int)).map e_i64)⟩), (43, ⟨60, 2, 0, 0, 0, false, 0, [], ((List.replicate clients.toNat ((⟨0, 0⟩ : Trust) : Trust)).map e_Trust)⟩), (100000, ⟨3, 1, 0, rk, rc, rn, 0, [], (row.map e_i64)⟩), (100001, ⟨22, 1, 0, rk1, rc1, rn1, 0, [], (row1.map e_L_i64)⟩)], [], []⟩ (.cons (len_ok e_Deed deeds) .nil) (by kernel_rfl) ?_
        refine Wk_meetP (fun v : Int × Int × Int × Int × List Int × List Trust × List Wish × List Reply × Int × List Int × List (List Int) => (⟨[(8, .ptr 8 0), (9, .ptr 9 0), (11, .ptr 37 0)], [(8, [.int .i64 0, .int .i64 0, .int .i64 0, .int .i64 0, .nils, .nils, .nils, .nils]), (9, [.int .i64 0, .int .i64 0]), (37, [.int .i64 v.1, .int .i64 v.2.1, .int .i64 v.2.2.1, .int .i64 v.2.2.2.1, .row 41 0, .row 43 0, .row 59 0, .row 20059 0, .int .i64 v.2.2.2.2.2.2.2.2.1]), (100000, [.row 100000 1]), (100001, [.row 100001 1])], [(41, ⟨3, 1, 0, 0, 0, false, 0, [], (v.2.2.2.2.1.map e_i64)⟩), (43, ⟨60, 2, 0, 0, 0, false, 0, [], (v.2.2.2.2.2.1.map e_Trust)⟩), (59, ⟨103, 3, 0, 0, 0, false, 0, [], (v.2.2.2.2.2.2.1.map e_Wish)⟩), (20059, ⟨105, 3, 0, 0, 0, false, 0, [], (v.2.2.2.2.2.2.2.1.map e_Reply)⟩), (100000, ⟨3, 1, 1, rk, rc, rn, 0, [], (v.2.2.2.2.2.2.2.2.2.1.map e_i64)⟩), (100001, ⟨22, 1, 1, rk1, rc1, rn1, 0, [], (v.2.2.2.2.2.2.2.2.2.2.map e_L_i64)⟩)], [], []⟩ : S)) (fun v => lease_run_v2_J1 v = some r) ?_ ?_
        · refine Wk_block ?_
          unfold lease_run_v2_L1 at hF
          refine Wk_nilrowB 37 6 60012 103 3 rfl rfl rfl rfl rfl ?_
          refine Wk_nilrowB 37 7 60013 105 3 rfl rfl rfl rfl rfl ?_
          refine Wk_trim (fs := [3, 8, 9, 11, 50, 51, 52]) (bs := [8, 9, 37, 100000, 100001]) (rs := [41, 43, 60012, 60013, 100000, 100001]) (ms := []) (aa := []) (nv := []) rfl ?_
          refine Wk_ren' ⟨[], [(60012, 59), (60013, 20059)], [], []⟩ rfl ?_
          refine Wk_trim (fs := [3, 8, 9, 11, 50, 51, 52]) (bs := [8, 9, 37, 100000, 100001]) (rs := [41, 43, 59, 20059, 100000, 100001]) (ms := []) (aa := []) (nv := [(59, ⟨0, true, false, false⟩), (20059, ⟨0, true, false, false⟩), (100000, ⟨1, true, true, false⟩), (100001, ⟨1, true, true, false⟩)]) (t := (fun v1 : List Int × List (List Int) × Int × Int × Int × Int × List Int × List Trust × List Wish × List Reply × Int × Int => (⟨[(3, .fn 57 [.ptr 100000 0, .ptr 100001 0]), (8, .ptr 8 0), (9, .ptr 9 0), (11, .ptr 37 0), (50, .sl 3 (deeds.map e_Deed)), (51, .int .i64 (deeds.length : Int)), (52, .int .i64 v1.2.2.2.2.2.2.2.2.2.2.2)], [(8, [.int .i64 0, .int .i64 0, .int .i64 0, .int .i64 0, .nils, .nils, .nils, .nils]), (9, [.int .i64 0, .int .i64 0]), (37, [.int .i64 v1.2.2.1, .int .i64 v1.2.2.2.1, .int .i64 v1.2.2.2.2.1, .int .i64 v1.2.2.2.2.2.1, .row 41 0, .row 43 0, .row 59 0, .row 20059 0, .int .i64 v1.2.2.2.2.2.2.2.2.2.2.1]), (100000, [.row 100000 1]), (100001, [.row 100001 1])], [(41, ⟨3, 1, 0, 0, 0, false, 0, [], (v1.2.2.2.2.2.2.1.map e_i64)⟩), (43, ⟨60, 2, 0, 0, 0, false, 0, [], (v1.2.2.2.2.2.2.2.1.map e_Trust)⟩), (59, ⟨103, 3, 0, 0, 0, false, 0, [], (v1.2.2.2.2.2.2.2.2.1.map e_Wish)⟩), (20059, ⟨105, 3, 0, 0, 0, false, 0, [], (v1.2.2.2.2.2.2.2.2.2.1.map e_Reply)⟩), (100000, ⟨3, 1, 1, rk, rc, rn, 0, [], (v1.1.map e_i64)⟩), (100001, ⟨22, 1, 1, rk1, rc1, rn1, 0, [], (v1.2.1.map e_L_i64)⟩)], [], []⟩ : S)) (row, row1, 0, 0, 0, 0, (List.replicate clients.toNat (0 : Int)), (List.replicate clients.toNat ((⟨0, 0⟩ : Trust) : Trust)), ([] : List Wish), ([] : List Reply), span, 0)) (by kernel_rfl) ?_
          refine Wk_iter (step := fun y => lease_run_v2_B1 deeds y) (r := r) (fun v1 : List Int × List (List Int) × Int × Int × Int × Int × List Int × List Trust × List Wish × List Reply × Int × Int => (⟨[(3, .fn 57 [.ptr 100000 0, .ptr 100001 0]), (8, .ptr 8 0), (9, .ptr 9 0), (11, .ptr 37 0), (50, .sl 3 (deeds.map e_Deed)), (51, .int .i64 (deeds.length : Int)), (52, .int .i64 v1.2.2.2.2.2.2.2.2.2.2.2)], [(8, [.int .i64 0, .int .i64 0, .int .i64 0, .int .i64 0, .nils, .nils, .nils, .nils]), (9, [.int .i64 0, .int .i64 0]), (37, [.int .i64 v1.2.2.1, .int .i64 v1.2.2.2.1, .int .i64 v1.2.2.2.2.1, .int .i64 v1.2.2.2.2.2.1, .row 41 0, .row 43 0, .row 59 0, .row 20059 0, .int .i64 v1.2.2.2.2.2.2.2.2.2.2.1]), (100000, [.row 100000 1]), (100001, [.row 100001 1])], [(41, ⟨3, 1, 0, 0, 0, false, 0, [], (v1.2.2.2.2.2.2.1.map e_i64)⟩), (43, ⟨60, 2, 0, 0, 0, false, 0, [], (v1.2.2.2.2.2.2.2.1.map e_Trust)⟩), (59, ⟨103, 3, 0, 0, 0, false, 0, [], (v1.2.2.2.2.2.2.2.2.1.map e_Wish)⟩), (20059, ⟨105, 3, 0, 0, 0, false, 0, [], (v1.2.2.2.2.2.2.2.2.2.1.map e_Reply)⟩), (100000, ⟨3, 1, 1, rk, rc, rn, 0, [], (v1.1.map e_i64)⟩), (100001, ⟨22, 1, 1, rk1, rc1, rn1, 0, [], (v1.2.1.map e_L_i64)⟩)], [], []⟩ : S)) (row, row1, 0, 0, 0, 0, (List.replicate clients.toNat (0 : Int)), (List.replicate clients.toNat ((⟨0, 0⟩ : Trust) : Trust)), ([] : List Wish), ([] : List Reply), span, 0) hF ?_
          intro n1 v1 y1 hF ih1 dn1
          have hF : lease_run_v2_B1 deeds v1 = some y1 := hF
          unfold lease_run_v2_B1 at hF
          refine Wk_seq ?_
          refine WR [] [3, 8, 9, 11, 50, 51, 52, 53] [8, 9, 37, 100000, 100001] [41, 43, 59, 20059, 100000, 100001] [] [] [] ⟨[(3, .fn 57 [.ptr 100000 0, .ptr 100001 0]), (8, .ptr 8 0), (9, .ptr 9 0), (11, .ptr 37 0), (50, .sl 3 (deeds.map e_Deed)), (51, .int .i64 (deeds.length : Int)), (52, .int .i64 v1.2.2.2.2.2.2.2.2.2.2.2), (53, .bool (decide (v1.2.2.2.2.2.2.2.2.2.2.2 < (deeds.length : Int))))], [(8, [.int .i64 0, .int .i64 0, .int .i64 0, .int .i64 0, .nils, .nils, .nils, .nils]), (9, [.int .i64 0, .int .i64 0]), (37, [.int .i64 v1.2.2.1, .int .i64 v1.2.2.2.1, .int .i64 v1.2.2.2.2.1, .int .i64 v1.2.2.2.2.2.1, .row 41 0, .row 43 0, .row 59 0, .row 20059 0, .int .i64 v1.2.2.2.2.2.2.2.2.2.2.1]), (100000, [.row 100000 1]), (100001, [.row 100001 1])], [(41, ⟨3, 1, 0, 0, 0, false, 0, [], (v1.2.2.2.2.2.2.1.map e_i64)⟩), (43, ⟨60, 2, 0, 0, 0, false, 0, [], (v1.2.2.2.2.2.2.2.1.map e_Trust)⟩), (59, ⟨103, 3, 0, 0, 0, false, 0, [], (v1.2.2.2.2.2.2.2.2.1.map e_Wish)⟩), (20059, ⟨105, 3, 0, 0, 0, false, 0, [], (v1.2.2.2.2.2.2.2.2.2.1.map e_Reply)⟩), (100000, ⟨3, 1, 1, rk, rc, rn, 0, [], (v1.1.map e_i64)⟩), (100001, ⟨22, 1, 1, rk1, rc1, rn1, 0, [], (v1.2.1.map e_L_i64)⟩)], [], []⟩ .nil (by kernel_rfl) ?_
          refine Wk_seq ?_
          refine Wk_split rfl (fun hb => ?_) (fun hb => ?_)
          · have hF := ite_t hF hb
            refine Wk_skip ?_
            refine Wk_seq ?_
            refine Wk_block ?_
            refine Wk_seq ?_
            obtain ⟨h5, hF⟩ := asrt_elim hF
            refine WR [.av (e_Deed (lget deeds v1.2.2.2.2.2.2.2.2.2.2.2))] [3, 8, 9, 11, 12, 13, 50, 51, 52] [8, 9, 13, 37, 100000, 100001] [41, 43, 59, 20059, 100000, 100001] [] [] [] ⟨[(3, .fn 57 [.ptr 100000 0, .ptr 100001 0]), (8, .ptr 8 0), (9, .ptr 9 0), (11, .ptr 37 0), (12, .int .i64 v1.2.2.2.2.2.2.2.2.2.2.2), (13, .ptr 13 0), (50, .sl 3 (deeds.map e_Deed)), (51, .int .i64 (deeds.length : Int)), (52, .int .i64 v1.2.2.2.2.2.2.2.2.2.2.2)], [(8, [.int .i64 0, .int .i64 0, .int .i64 0, .int .i64 0, .nils, .nils, .nils, .nils]), (9, [.int .i64 0, .int .i64 0]), (13, (c_Deed (lget deeds v1.2.2.2.2.2.2.2.2.2.2.2))), (37, [.int .i64 v1.2.2.1, .int .i64 v1.2.2.2.1, .int .i64 v1.2.2.2.2.1, .int .i64 v1.2.2.2.2.2.1, .row 41 0, .row 43 0, .row 59 0, .row 20059 0, .int .i64 v1.2.2.2.2.2.2.2.2.2.2.1]), (100000, [.row 100000 1]), (100001, [.row 100001 1])], [(41, ⟨3, 1, 0, 0, 0, false, 0, [], (v1.2.2.2.2.2.2.1.map e_i64)⟩), (43, ⟨60, 2, 0, 0, 0, false, 0, [], (v1.2.2.2.2.2.2.2.1.map e_Trust)⟩), (59, ⟨103, 3, 0, 0, 0, false, 0, [], (v1.2.2.2.2.2.2.2.2.1.map e_Wish)⟩), (20059, ⟨105, 3, 0, 0, 0, false, 0, [], (v1.2.2.2.2.2.2.2.2.2.1.map e_Reply)⟩), (100000, ⟨3, 1, 1, rk, rc, rn, 0, [], (v1.1.map e_i64)⟩), (100001, ⟨22, 1, 1, rk1, rc1, rn1, 0, [], (v1.2.1.map e_L_i64)⟩)], [], []⟩ (.cons (idx_ok e_Deed h5) .nil) (by kernel_rfl) ?_
            refine Wk_seq ?_
            refine Wk_seq ?_
            obtain ⟨x3, h6, hF⟩ := ob_elim hF
            refine WR [.callE [37] [41, 43, 59, 20059] [] [] (.int .i64 x3.1) ⟨[], [(37, [.int .i64 x3.2.1, .int .i64 x3.2.2.1, .int .i64 x3.2.2.2.1, .int .i64 x3.2.2.2.2.1, .row 41 0, .row 43 0, .row 59 1, .row 20059 1, .int .i64 x3.2.2.2.2.2.2.2.2.2])], [(41, ⟨3, 1, 0, 0, 0, false, 0, [], (x3.2.2.2.2.2.1.map e_i64)⟩), (43, ⟨60, 2, 0, 0, 0, false, 0, [], (x3.2.2.2.2.2.2.1.map e_Trust)⟩), (59, ⟨103, 3, 1, 0, 0, false, 0, [], (x3.2.2.2.2.2.2.2.1.map e_Wish)⟩), (20059, ⟨105, 3, 1, 0, 0, false, 0, [], (x3.2.2.2.2.2.2.2.2.1.map e_Reply)⟩)], [], []⟩] [3, 8, 9, 11, 12, 14, 50, 51, 52] [8, 9, 37, 100000, 100001] [41, 43, 59, 20059, 100000, 100001] [] [] [] ⟨[(3, .fn 57 [.ptr 100000 0, .ptr 100001 0]), (8, .ptr 8 0), (9, .ptr 9 0), (11, .ptr 37 0), (12, .int .i64 v1.2.2.2.2.2.2.2.2.2.2.2), (14, .int .i64 x3.1), (50, .sl 3 (deeds.map e_Deed)), (51, .int .i64 (deeds.length : Int)), (52, .int .i64 v1.2.2.2.2.2.2.2.2.2.2.2)], [(8, [.int .i64 0, .int .i64 0, .int .i64 0, .int .i64 0, .nils, .nils, .nils, .nils]), (9, [.int .i64 0, .int .i64 0]), (37, [.int .i64 x3.2.1, .int .i64 x3.2.2.1, .int .i64 x3.2.2.2.1, .int .i64 x3.2.2.2.2.1, .row 41 0, .row 43 0, .row 59 1, .row 20059 1, .int .i64 x3.2.2.2.2.2.2.2.2.2]), (100000, [.row 100000 1]), (100001, [.row 100001 1])], [(41, ⟨3, 1, 0, 0, 0, false, 0, [], (x3.2.2.2.2.2.1.map e_i64)⟩), (43, ⟨60, 2, 0, 0, 0, false, 0, [], (x3.2.2.2.2.2.2.1.map e_Trust)⟩), (59, ⟨103, 3, 1, 0, 0, false, 0, [], (x3.2.2.2.2.2.2.2.1.map e_Wish)⟩), (20059, ⟨105, 3, 1, 0, 0, false, 0, [], (x3.2.2.2.2.2.2.2.2.1.map e_Reply)⟩), (100000, ⟨3, 1, 1, rk, rc, rn, 0, [], (v1.1.map e_i64)⟩), (100001, ⟨22, 1, 1, rk1, rc1, rn1, 0, [], (v1.2.1.map e_L_i64)⟩)], [], []⟩ (.cons (Pe.ren (lease_court_does_v1_ok (⟨(lget deeds v1.2.2.2.2.2.2.2.2.2.2.2).Kind, (lget deeds v1.2.2.2.2.2.2.2.2.2.2.2).Who, (lget deeds v1.2.2.2.2.2.2.2.2.2.2.2).N⟩ : Deed) v1.2.2.1 v1.2.2.2.1 v1.2.2.2.2.1 v1.2.2.2.2.2.1 v1.2.2.2.2.2.2.2.2.2.2.1 v1.2.2.2.2.2.2.1 v1.2.2.2.2.2.2.2.1 v1.2.2.2.2.2.2.2.2.1 v1.2.2.2.2.2.2.2.2.2.1 0 0 false 0 0 false 0 0 false 0 0 false x3 h6) ⟨[(100000, 37)], [(100000, 41), (100001, 43), (100002, 59), (100003, 20059)], [], []⟩) .nil) (by kernel_rfl) ?_
            refine Wk_seq ?_
            refine WR [] [3, 8, 9, 11, 12, 14, 50, 51, 52, 61] [8, 9, 37, 100000, 100001] [41, 43, 59, 20059, 100000, 100001] [] [] [] ⟨[(3, .fn 57 [.ptr 100000 0, .ptr 100001 0]), (8, .ptr 8 0), (9, .ptr 9 0), (11, .ptr 37 0), (12, .int .i64 v1.2.2.2.2.2.2.2.2.2.2.2), (14, .int .i64 x3.1), (50, .sl 3 (deeds.map e_Deed)), (51, .int .i64 (deeds.length : Int)), (52, .int .i64 v1.2.2.2.2.2.2.2.2.2.2.2), (61, .bool (!decide (x3.1 = 0)))], [(8, [.int .i64 0, .int .i64 0, .int .i64 0, .int .i64 0, .nils, .nils, .nils, .nils]), (9, [.int .i64 0, .int .i64 0]), (37, [.int .i64 x3.2.1, .int .i64 x3.2.2.1, .int .i64 x3.2.2.2.1, .int .i64 x3.2.2.2.2.1, .row 41 0, .row 43 0, .row 59 1, .row 20059 1, .int .i64 x3.2.2.2.2.2.2.2.2.2]), (100000, [.row 100000 1]), (100001, [.row 100001 1])], [(41, ⟨3, 1, 0, 0, 0, false, 0, [], (x3.2.2.2.2.2.1.map e_i64)⟩), (43, ⟨60, 2, 0, 0, 0, false, 0, [], (x3.2.2.2.2.2.2.1.map e_Trust)⟩), (59, ⟨103, 3, 1, 0, 0, false, 0, [], (x3.2.2.2.2.2.2.2.1.map e_Wish)⟩), (20059, ⟨105, 3, 1, 0, 0, false, 0, [], (x3.2.2.2.2.2.2.2.2.1.map e_Reply)⟩), (100000, ⟨3, 1, 1, rk, rc, rn, 0, [], (v1.1.map e_i64)⟩), (100001, ⟨22, 1, 1, rk1, rc1, rn1, 0, [], (v1.2.1.map e_L_i64)⟩)], [], []⟩ .nil (by kernel_rfl) ?_
            refine Wk_split rfl (fun hb => ?_) (fun hb => ?_)
            · have hF := ite_t hF hb
              refine Wk_seq ?_
              obtain ⟨x4, h7, hF⟩ := lt_split hF
              refine WR [.callB (.agg [.int .i64 x4.Code, .int .i64 x4.At])] [8, 9] [8, 9, 100000, 100001] [100000, 100001] [] [] [] ⟨[(8, .ptr 8 0), (9, .ptr 9 0)], [(8, [.int .i64 0, .int .i64 0, .int .i64 0, .int .i64 0, .nils, .nils, .nils, .nils]), (9, [.int .i64 x4.Code, .int .i64 x4.At]), (100000, [.row 100000 1]), (100001, [.row 100001 1])], [(100000, ⟨3, 1, 1, rk, rc, rn, 0, [], (v1.1.map e_i64)⟩), (100001, ⟨22, 1, 1, rk1, rc1, rn1, 0, [], (v1.2.1.map e_L_i64)⟩)], [], []⟩ (.cons (lease_fault_ok x3.1 v1.2.2.2.2.2.2.2.2.2.2.2 x4 h7) .nil) (by kernel_rfl) ?_
              have hF := ret_done hF dn1
              have hF := some_elim hF
              refine Wk_nilrowB 8 4 60014 3 1 rfl rfl rfl rfl rfl ?_
              refine Wk_nilrowB 8 5 60015 60 2 rfl rfl rfl rfl rfl ?_
              refine Wk_nilrowB 8 6 60016 103 3 rfl rfl rfl rfl rfl ?_
              refine Wk_nilrowB 8 7 60017 105 3 rfl rfl rfl rfl rfl ?_
              refine Wk_ren' ⟨[], [(60014, 41), (60015, 43), (60016, 59), (60017, 20059)], [], []⟩ rfl ?_
              exact Wk_ret (hfin _ ⟨[100000, 100001, 41, 43, 59, 20059], [100000, 100001], [100000, 100001, 41, 43, 59, 20059], [], [], [(41, ⟨0, true, false, false⟩), (43, ⟨0, true, false, false⟩), (59, ⟨0, true, false, false⟩), (20059, ⟨0, true, false, false⟩)], by first | (rw [← hF]; kernel_rfl) | kernel_rfl⟩)
            · have hF := ite_f hF hb
              refine Wk_skip ?_
              obtain ⟨x5, h8, hF⟩ := ob_elim hF
              refine WR [.callE [37, 100000, 100001] [41, 43, 59, 20059, 100000, 100001] [] [] (.tup []) ⟨[], [(37, [.int .i64 x3.2.1, .int .i64 x3.2.2.1, .int .i64 x3.2.2.2.1, .int .i64 x3.2.2.2.2.1, .row 41 0, .row 43 0, .row 59 1, .row 20059 1, .int .i64 x3.2.2.2.2.2.2.2.2.2]), (100000, [.row 100000 2]), (100001, [.row 100001 2])], [(41, ⟨3, 1, 0, 0, 0, false, 0, [], (x3.2.2.2.2.2.1.map e_i64)⟩), (43, ⟨60, 2, 0, 0, 0, false, 0, [], (x3.2.2.2.2.2.2.1.map e_Trust)⟩), (59, ⟨103, 3, 1, 0, 0, false, 0, [], (x3.2.2.2.2.2.2.2.1.map e_Wish)⟩), (20059, ⟨105, 3, 1, 0, 0, false, 0, [], (x3.2.2.2.2.2.2.2.2.1.map e_Reply)⟩), (100000, ⟨3, 1, 2, rk, rc, rn, 0, [], (x5.1.map e_i64)⟩), (100001, ⟨22, 1, 2, rk1, rc1, rn1, 0, [], (x5.2.map e_L_i64)⟩)], [], []⟩] [3, 8, 9, 11, 50, 51, 52] [8, 9, 37, 100000, 100001] [41, 43, 59, 20059, 100000, 100001] [] [] [] ⟨[(3, .fn 57 [.ptr 100000 0, .ptr 100001 0]), (8, .ptr 8 0), (9, .ptr 9 0), (11, .ptr 37 0), (50, .sl 3 (deeds.map e_Deed)), (51, .int .i64 (deeds.length : Int)), (52, .int .i64 v1.2.2.2.2.2.2.2.2.2.2.2)], [(8, [.int .i64 0, .int .i64 0, .int .i64 0, .int .i64 0, .nils, .nils, .nils, .nils]), (9, [.int .i64 0, .int .i64 0]), (37, [.int .i64 x3.2.1, .int .i64 x3.2.2.1, .int .i64 x3.2.2.2.1, .int .i64 x3.2.2.2.2.1, .row 41 0, .row 43 0, .row 59 1, .row 20059 1, .int .i64 x3.2.2.2.2.2.2.2.2.2]), (100000, [.row 100000 2]), (100001, [.row 100001 2])], [(41, ⟨3, 1, 0, 0, 0, false, 0, [], (x3.2.2.2.2.2.1.map e_i64)⟩), (43, ⟨60, 2, 0, 0, 0, false, 0, [], (x3.2.2.2.2.2.2.1.map e_Trust)⟩), (59, ⟨103, 3, 1, 0, 0, false, 0, [], (x3.2.2.2.2.2.2.2.1.map e_Wish)⟩), (20059, ⟨105, 3, 1, 0, 0, false, 0, [], (x3.2.2.2.2.2.2.2.2.1.map e_Reply)⟩), (100000, ⟨3, 1, 2, rk, rc, rn, 0, [], (x5.1.map e_i64)⟩), (100001, ⟨22, 1, 2, rk1, rc1, rn1, 0, [], (x5.2.map e_L_i64)⟩)], [], []⟩ (.cons (Pe.ren (lease_Fair_1_ok x3.2.1 x3.2.2.1 x3.2.2.2.1 x3.2.2.2.2.1 x3.2.2.2.2.2.2.2.2.2 x3.2.2.2.2.2.1 x3.2.2.2.2.2.2.1 x3.2.2.2.2.2.2.2.1 x3.2.2.2.2.2.2.2.2.1 v1.1 v1.2.1 0 0 false 0 0 false 0 0 false 0 0 false rk rc rn rk1 rc1 rn1 x5 h8) ⟨[(100000, 37), (100001, 100000), (100002, 100001)], [(100000, 41), (100001, 43), (100002, 59), (100003, 20059), (100004, 100000), (100005, 100001)], [], [(100002, 1), (100003, 1), (100004, 1), (100005, 1)]⟩) .nil) (by kernel_rfl) ?_
              refine Wk_blk ?_
              refine WR [] [3, 8, 9, 11, 50, 51, 52] [8, 9, 37, 100000, 100001] [41, 43, 59, 20059, 100000, 100001] [] [] [] ⟨[(3, .fn 57 [.ptr 100000 0, .ptr 100001 0]), (8, .ptr 8 0), (9, .ptr 9 0), (11, .ptr 37 0), (50, .sl 3 (deeds.map e_Deed)), (51, .int .i64 (deeds.length : Int)), (52, .int .i64 (w64 (v1.2.2.2.2.2.2.2.2.2.2.2 + 1)))], [(8, [.int .i64 0, .int .i64 0, .int .i64 0, .int .i64 0, .nils, .nils, .nils, .nils]), (9, [.int .i64 0, .int .i64 0]), (37, [.int .i64 x3.2.1, .int .i64 x3.2.2.1, .int .i64 x3.2.2.2.1, .int .i64 x3.2.2.2.2.1, .row 41 0, .row 43 0, .row 59 1, .row 20059 1, .int .i64 x3.2.2.2.2.2.2.2.2.2]), (100000, [.row 100000 2]), (100001, [.row 100001 2])], [(41, ⟨3, 1, 0, 0, 0, false, 0, [], (x3.2.2.2.2.2.1.map e_i64)⟩), (43, ⟨60, 2, 0, 0, 0, false, 0, [], (x3.2.2.2.2.2.2.1.map e_Trust)⟩), (59, ⟨103, 3, 1, 0, 0, false, 0, [], (x3.2.2.2.2.2.2.2.1.map e_Wish)⟩), (20059, ⟨105, 3, 1, 0, 0, false, 0, [], (x3.2.2.2.2.2.2.2.2.1.map e_Reply)⟩), (100000, ⟨3, 1, 2, rk, rc, rn, 0, [], (x5.1.map e_i64)⟩), (100001, ⟨22, 1, 2, rk1, rc1, rn1, 0, [], (x5.2.map e_L_i64)⟩)], [], []⟩ .nil (by kernel_rfl) ?_
              refine Wk_trim (fs := [3, 8, 9, 11, 50, 51, 52]) (bs := [8, 9, 37, 100000, 100001]) (rs := [41, 43, 59, 20059, 100000, 100001]) (ms := []) (aa := []) (nv := [(59, ⟨0, true, true, false⟩), (20059, ⟨0, true, true, false⟩), (100000, ⟨1, true, true, false⟩), (100001, ⟨1, true, true, false⟩)]) ?_ (ih1 _ (some_elim hF).symm)
              kernel_rfl
          · have hF := ite_f hF hb
            refine Wk_exit rfl ?_
            have hF := inrO_done hF dn1
            exact Wk_metP (v1.2.2.1, v1.2.2.2.1, v1.2.2.2.2.1, v1.2.2.2.2.2.1, v1.2.2.2.2.2.2.1, v1.2.2.2.2.2.2.2.1, v1.2.2.2.2.2.2.2.2.1, v1.2.2.2.2.2.2.2.2.2.1, v1.2.2.2.2.2.2.2.2.2.2.1, v1.1, v1.2.1) [8, 9, 11] [8, 9, 37, 100000, 100001] [41, 43, 59, 20059, 100000, 100001] [] [] [] hF (by kernel_rfl)
        · intro v hF
          have hF : lease_run_v2_J1 v = some r := hF
          unfold lease_run_v2_J1 at hF
          refine Wk_seq ?_
          refine WR [] [8, 9] [8, 9, 100000, 100001] [41, 43, 59, 20059, 100000, 100001] [] [] [] ⟨[(8, .ptr 8 0), (9, .ptr 9 0)], [(8, [.int .i64 v.1, .int .i64 v.2.1, .int .i64 v.2.2.1, .int .i64 v.2.2.2.1, .row 41 0, .row 43 0, .row 59 0, .row 20059 0]), (9, [.int .i64 0, .int .i64 0]), (100000, [.row 100000 1]), (100001, [.row 100001 1])], [(41, ⟨3, 1, 0, 0, 0, false, 0, [], (v.2.2.2.2.1.map e_i64)⟩), (43, ⟨60, 2, 0, 0, 0, false, 0, [], (v.2.2.2.2.2.1.map e_Trust)⟩), (59, ⟨103, 3, 0, 0, 0, false, 0, [], (v.2.2.2.2.2.2.1.map e_Wish)⟩), (20059, ⟨105, 3, 0, 0, 0, false, 0, [], (v.2.2.2.2.2.2.2.1.map e_Reply)⟩), (100000, ⟨3, 1, 1, rk, rc, rn, 0, [], (v.2.2.2.2.2.2.2.2.2.1.map e_i64)⟩), (100001, ⟨22, 1, 1, rk1, rc1, rn1, 0, [], (v.2.2.2.2.2.2.2.2.2.2.map e_L_i64)⟩)], [], []⟩ .nil (by kernel_rfl) ?_
          have hF := some_elim hF
          exact Wk_ret (hfin _ ⟨[100000, 100001, 41, 43, 59, 20059], [100000, 100001], [100000, 100001, 41, 43, 59, 20059], [], [], [], by first | (rw [← hF]; kernel_rfl) | kernel_rfl⟩)

/- lease.Fair -/
noncomputable def lease_Fair_v1_J1 (x : Int × Int × Int × Int × List Int × List Trust × List Wish × List Reply × Fault × List Int × List (List Int)) (v1 : Unit) : Option (Bool × Fault) :=
  some (true, x.2.2.2.2.2.2.2.2.1)
noncomputable def lease_Fair_v1_J3 (v2 : Int × Int) (v3 : Int) (v4 : Unit) : Option ((Int × Int) ⊕ (Bool × Fault)) :=
  some (Sum.inl (v3, w64 (v2.2 + 1)))
noncomputable def lease_Fair_v1_B2 (span : Int) (x : Int × Int × Int × Int × List Int × List Trust × List Wish × List Reply × Fault × List Int × List (List Int)) (v2 : Int × Int) (v3 : Int) (v5 : Int) : Option (Int ⊕ ((Int × Int) ⊕ (Bool × Fault))) :=
  if (decide (v5 < ((lget x.2.2.2.2.2.2.2.2.2.2 v2.2).length : Int))) = true then
    asrt (0 ≤ v3 ∧ v3 < (x.2.2.2.2.2.2.2.2.2.2.length : Int)) <|
    asrt (0 ≤ v3 ∧ v3 < (x.2.2.2.2.2.2.2.2.2.2.length : Int)) <|
    asrt (0 ≤ v5 ∧ v5 < ((lget x.2.2.2.2.2.2.2.2.2.2 v3).length : Int)) <|
    asrt (0 ≤ v2.2 ∧ v2.2 < (x.2.2.2.2.2.2.2.2.2.2.length : Int)) <|
    asrt (0 ≤ v2.2 ∧ v2.2 < (x.2.2.2.2.2.2.2.2.2.2.length : Int)) <|
    asrt (0 ≤ v5 ∧ v5 < ((lget x.2.2.2.2.2.2.2.2.2.2 v2.2).length : Int)) <|
    lt (lease_sure span) fun x1 =>
    if (decide ((w64 ((lget (lget x.2.2.2.2.2.2.2.2.2.2 v3) v5) - (lget (lget x.2.2.2.2.2.2.2.2.2.2 v2.2) v5))) < x1)) = true then
      some (Sum.inr (Sum.inr (false, x.2.2.2.2.2.2.2.2.1)))
    else
      some (Sum.inl (w64 (v5 + 1)))
  else
    inrO (lease_Fair_v1_J3 v2 v3 ())
noncomputable def lease_Fair_v1_L2 (span : Int) (x : Int × Int × Int × Int × List Int × List Trust × List Wish × List Reply × Fault × List Int × List (List Int)) (v2 : Int × Int) (v3 : Int) (v0 : Int) : Option ((Int × Int) ⊕ (Bool × Fault)) :=
  loopO (fun y => lease_Fair_v1_B2 span x v2 v3 y) v0
noncomputable def lease_Fair_v1_J2 (span : Int) (x : Int × Int × Int × Int × List Int × List Trust × List Wish × List Reply × Fault × List Int × List (List Int)) (v2 : Int × Int) (v3 : Int) : Option ((Int × Int) ⊕ (Bool × Fault)) :=
  if (decide (v3 = (x.2.2.2.2.2.2.2.2.2.1.length : Int))) = true then
    inrO (lease_Fair_v1_J1 x ())
  else
    asrt (0 ≤ v2.2 ∧ v2.2 < (x.2.2.2.2.2.2.2.2.2.2.length : Int)) <|
    asrt (0 ≤ v2.2 ∧ v2.2 < (x.2.2.2.2.2.2.2.2.2.2.length : Int)) <|
    lease_Fair_v1_L2 span x v2 v3 0
noncomputable def lease_Fair_v1_B3 (span : Int) (x : Int × Int × Int × Int × List Int × List Trust × List Wish × List Reply × Fault × List Int × List (List Int)) (v2 : Int × Int) (v6 : Int) : Option (Int ⊕ ((Int × Int) ⊕ (Bool × Fault))) :=
  asrt ((decide (v6 < (x.2.2.2.2.2.2.2.2.2.1.length : Int))) = true → 0 ≤ v6 ∧ v6 < (x.2.2.2.2.2.2.2.2.2.1.length : Int)) <|
  asrt ((decide (v6 < (x.2.2.2.2.2.2.2.2.2.1.length : Int))) = true → 0 ≤ v6 ∧ v6 < (x.2.2.2.2.2.2.2.2.2.1.length : Int)) <|
  asrt ((decide (v6 < (x.2.2.2.2.2.2.2.2.2.1.length : Int))) = true → 0 ≤ v2.2 ∧ v2.2 < (x.2.2.2.2.2.2.2.2.2.1.length : Int)) <|
  asrt ((decide (v6 < (x.2.2.2.2.2.2.2.2.2.1.length : Int))) = true → 0 ≤ v2.2 ∧ v2.2 < (x.2.2.2.2.2.2.2.2.2.1.length : Int)) <|
  if ((decide (v6 < (x.2.2.2.2.2.2.2.2.2.1.length : Int))) && (decide ((lget x.2.2.2.2.2.2.2.2.2.1 v6) < (w64 ((lget x.2.2.2.2.2.2.2.2.2.1 v2.2) + span))))) = true then
    some (Sum.inl (w64 (v6 + 1)))
  else
    inrO (lease_Fair_v1_J2 span x v2 v6)
noncomputable def lease_Fair_v1_L3 (span : Int) (x : Int × Int × Int × Int × List Int × List Trust × List Wish × List Reply × Fault × List Int × List (List Int)) (v2 : Int × Int) (v0 : Int) : Option ((Int × Int) ⊕ (Bool × Fault)) :=
  loopO (fun y => lease_Fair_v1_B3 span x v2 y) v0
noncomputable def lease_Fair_v1_B1 (span : Int) (x : Int × Int × Int × Int × List Int × List Trust × List Wish × List Reply × Fault × List Int × List (List Int)) (v2 : Int × Int) : Option ((Int × Int) ⊕ (Bool × Fault)) :=
  if (decide (v2.2 < (x.2.2.2.2.2.2.2.2.2.1.length : Int))) = true then
    lease_Fair_v1_L3 span x v2 v2.1
  else
    inrO (lease_Fair_v1_J1 x ())
noncomputable def lease_Fair_v1_L1 (span : Int) (x : Int × Int × Int × Int × List Int × List Trust × List Wish × List Reply × Fault × List Int × List (List Int)) (v0 : Int × Int) : Option (Bool × Fault) :=
  loopO (fun y => lease_Fair_v1_B1 span x y) v0
noncomputable def lease_Fair_v1 (span : Int) (clients : Int) (deeds : List Deed) : Option (Bool × Fault) :=
  asrt (0 ≤ ((max 0 (min clients 8)) : Int) ∧ (max 0 (min clients 8)) ≤ (max 0 (min clients 8)) ∧ (max 0 (min clients 8)) * 8 ≤ 140737488351232) <|
  lt (([(List.replicate (max 0 (min clients 8)).toNat (0 : Int))] : List (List Int))) fun (v : List (List Int)) =>
  ob (lease_run_v2 span clients deeds ([0] : List Int) v) fun x =>
  if (!decide (x.2.2.2.2.2.2.2.2.1.Code = 0)) = true then
    some (false, x.2.2.2.2.2.2.2.2.1)
  else
    lease_Fair_v1_L1 span x (0, 0)
theorem lease_Fair_v1_ok (span : Int) (clients : Int) (deeds : List Deed) (r : Bool × Fault) (hF : lease_Fair_v1 span clients deeds = some r) : Pe Try.prog 23 S.none [.int .i64 span, .int .i64 clients, .sl 3 (deeds.map e_Deed)] (.tup [.bool r.1, .agg [.int .i64 r.2.Code, .int .i64 r.2.At]]) S.none := by
  refine Pe_of (N := 91) (res := [.tmp 6, .cell 7 25]) (ts := [4, 25]) Ty.ok Fn.b23 Try.func23 rfl rfl rfl rfl rfl rfl ?_
  intro Q g hfin
  unfold lease_Fair_v1 at hF
  refine Wk_seq ?_
  refine WR [] [0, 1, 2, 7] [7] [] [] [] [] ⟨[(0, .int .i64 span), (1, .int .i64 clients), (2, .sl 3 (deeds.map e_Deed)), (7, .ptr 7 0)], [(7, [.int .i64 0, .int .i64 0])], [], [], []⟩ .nil (by kernel_rfl) ?_
  refine Wk_seq ?_
  refine WR [] [0, 1, 2, 7, 8] [7, 8] [15] [] [] [] ⟨[(0, .int .i64 span), (1, .int .i64 clients), (2, .sl 3 (deeds.map e_Deed)), (7, .ptr 7 0), (8, .ptr 8 0)], [(7, [.int .i64 0, .int .i64 0]), (8, [.row 15 0])], [(15, ⟨3, 1, 0, 0, 0, true, 0, [], (([0] : List Int).map e_i64)⟩)], [], []⟩ .nil (by kernel_rfl) ?_
  refine Wk_seq ?_
  obtain ⟨h0, hF⟩ := asrt_elim hF
  refine WRL (([(List.replicate (max 0 (min clients 8)).toNat (0 : Int))] : List (List Int))) (fun v : List (List Int) => ⟨[(0, .int .i64 span), (1, .int .i64 clients), (2, .sl 3 (deeds.map e_Deed)), (7, .ptr 7 0), (8, .ptr 8 0), (9, .ptr 9 0)], [(7, [.int .i64 0, .int .i64 0]), (8, [.row 15 0]), (9, [.row 20 0])], [(15, ⟨3, 1, 0, 0, 0, true, 0, [], (([0] : List Int).map e_i64)⟩), (20, ⟨22, 1, 0, 0, 0, true, 0, [], (v.map e_L_i64)⟩)], [], []⟩) [.xs ((List.replicate (max 0 (min clients 8)).toNat (0 : Int)).map e_i64)] [0, 1, 2, 7, 8, 9] [7, 8, 9] [15, 20] [] [] [] (.cons (mk_ok h0) (.cons (rep_ok e_i64 (max 0 (min clients 8)) (0 : Int)) .nil)) (by kernel_rfl) (fun v hv => ?_)
  have hF := lt_elim hF hv
  refine Wk_seq ?_
  obtain ⟨x, h1, hF⟩ := ob_elim hF
  refine WR [.callE [8, 9] [15, 20] [] [] (.tup [.agg [.int .i64 x.1, .int .i64 x.2.1, .int .i64 x.2.2.1, .int .i64 x.2.2.2.1, .row 26 0, .row 20026 0, .row 40026 0, .row 60026 0], .agg [.int .i64 x.2.2.2.2.2.2.2.2.1.Code, .int .i64 x.2.2.2.2.2.2.2.2.1.At]]) ⟨[], [(8, [.row 15 1]), (9, [.row 20 1])], [(15, ⟨3, 1, 1, 0, 0, true, 0, [], (x.2.2.2.2.2.2.2.2.2.1.map e_i64)⟩), (20, ⟨22, 1, 1, 0, 0, true, 0, [], (x.2.2.2.2.2.2.2.2.2.2.map e_L_i64)⟩), (26, ⟨3, 1, 0, 0, 0, false, 0, [], (x.2.2.2.2.1.map e_i64)⟩), (20026, ⟨60, 2, 0, 0, 0, false, 0, [], (x.2.2.2.2.2.1.map e_Trust)⟩), (40026, ⟨103, 3, 0, 0, 0, false, 0, [], (x.2.2.2.2.2.2.1.map e_Wish)⟩), (60026, ⟨105, 3, 0, 0, 0, false, 0, [], (x.2.2.2.2.2.2.2.1.map e_Reply)⟩)], [], []⟩] [0, 7, 8, 9, 11] [7, 8, 9, 11] [15, 20] [] [] [] ⟨[(0, .int .i64 span), (7, .ptr 7 0), (8, .ptr 8 0), (9, .ptr 9 0), (11, .ptr 11 0)], [(7, [.int .i64 0, .int .i64 0]), (8, [.row 15 1]), (9, [.row 20 1]), (11, [.int .i64 x.2.2.2.2.2.2.2.2.1.Code, .int .i64 x.2.2.2.2.2.2.2.2.1.At])], [(15, ⟨3, 1, 1, 0, 0, true, 0, [], (x.2.2.2.2.2.2.2.2.2.1.map e_i64)⟩), (20, ⟨22, 1, 1, 0, 0, true, 0, [], (x.2.2.2.2.2.2.2.2.2.2.map e_L_i64)⟩)], [], []⟩ (.cons (Pe.ren (lease_run_v2_ok span clients deeds ([0] : List Int) v 0 0 true 0 0 true x h1) ⟨[(100000, 8), (100001, 9)], [(100000, 15), (100001, 20), (41, 26), (43, 20026), (59, 40026), (20059, 60026)], [], []⟩) .nil) (by kernel_rfl) ?_
  refine Wk_seq ?_
  refine Wk_seq ?_
  refine WR [] [0, 7, 8, 9, 11, 31] [7, 8, 9, 11] [15, 20] [] [] [] ⟨[(0, .int .i64 span), (7, .ptr 7 0), (8, .ptr 8 0), (9, .ptr 9 0), (11, .ptr 11 0), (31, .bool (!decide (x.2.2.2.2.2.2.2.2.1.Code = 0)))], [(7, [.int .i64 0, .int .i64 0]), (8, [.row 15 1]), (9, [.row 20 1]), (11, [.int .i64 x.2.2.2.2.2.2.2.2.1.Code, .int .i64 x.2.2.2.2.2.2.2.2.1.At])], [(15, ⟨3, 1, 1, 0, 0, true, 0, [], (x.2.2.2.2.2.2.2.2.2.1.map e_i64)⟩), (20, ⟨22, 1, 1, 0, 0, true, 0, [], (x.2.2.2.2.2.2.2.2.2.2.map e_L_i64)⟩)], [], []⟩ .nil (by kernel_rfl) ?_
  refine Wk_split rfl (fun hb => ?_) (fun hb => ?_)
  · have hF := ite_t hF hb
    refine Wk_seq ?_
    refine WD [] [6, 7] [7] [] [] [] [] ⟨[(6, .bool false), (7, .ptr 7 0)], [(7, [.int .i64 x.2.2.2.2.2.2.2.2.1.Code, .int .i64 x.2.2.2.2.2.2.2.2.1.At])], [], [], []⟩ .nil (by kernel_rfl) ?_
    have hF := some_elim hF
    exact Wk_ret (hfin _ ⟨[], [], [], [], [], [], by first | (rw [← hF]; kernel_rfl) | kernel_rfl⟩)
  · have hF := ite_f hF hb
    refine Wk_skip ?_
    refine Wk_seq ?_
    refine WR [] [0, 7, 8, 9, 11, 12] [7, 8, 9, 11] [15, 20] [] [] [] ⟨[(0, .int .i64 span), (7, .ptr 7 0), (8, .ptr 8 0), (9, .ptr 9 0), (11, .ptr 11 0), (12, .int .i64 0)], [(7, [.int .i64 0, .int .i64 0]), (8, [.row 15 1]), (9, [.row 20 1]), (11, [.int .i64 x.2.2.2.2.2.2.2.2.1.Code, .int .i64 x.2.2.2.2.2.2.2.2.1.At])], [(15, ⟨3, 1, 1, 0, 0, true, 0, [], (x.2.2.2.2.2.2.2.2.2.1.map e_i64)⟩), (20, ⟨22, 1, 1, 0, 0, true, 0, [], (x.2.2.2.2.2.2.2.2.2.2.map e_L_i64)⟩)], [], []⟩ .nil (by kernel_rfl) ?_
    refine Wk_seq ?_
    refine Wk_seq ?_
    refine WR [.nat (x.2.2.2.2.2.2.2.2.2.1.length : Int)] [0, 7, 8, 9, 11, 12, 34, 35] [7, 8, 9, 11] [15, 20] [] [] [] ⟨[(0, .int .i64 span), (7, .ptr 7 0), (8, .ptr 8 0), (9, .ptr 9 0), (11, .ptr 11 0), (12, .int .i64 0), (34, .int .i64 (x.2.2.2.2.2.2.2.2.2.1.length : Int)), (35, .int .i64 0)], [(7, [.int .i64 0, .int .i64 0]), (8, [.row 15 1]), (9, [.row 20 1]), (11, [.int .i64 x.2.2.2.2.2.2.2.2.1.Code, .int .i64 x.2.2.2.2.2.2.2.2.1.At])], [(15, ⟨3, 1, 1, 0, 0, true, 0, [], (x.2.2.2.2.2.2.2.2.2.1.map e_i64)⟩), (20, ⟨22, 1, 1, 0, 0, true, 0, [], (x.2.2.2.2.2.2.2.2.2.2.map e_L_i64)⟩)], [], []⟩ (.cons (len_ok e_i64 x.2.2.2.2.2.2.2.2.2.1) .nil) (by kernel_rfl) ?_
    refine Wk_meetP (fun v1 : Unit => (⟨[(7, .ptr 7 0), (11, .ptr 11 0)], [(7, [.int .i64 0, .int .i64 0]), (11, [.int .i64 x.2.2.2.2.2.2.2.2.1.Code, .int .i64 x.2.2.2.2.2.2.2.2.1.At])], [], [], []⟩ : S)) (fun v1 => lease_Fair_v1_J1 x v1 = some r) ?_ ?_
    · refine Wk_block ?_
      unfold lease_Fair_v1_L1 at hF
      refine Wk_trim (fs := [0, 7, 8, 9, 11, 12, 34, 35]) (bs := [7, 8, 9, 11]) (rs := [15, 20]) (ms := []) (aa := []) (nv := []) (t := (fun v2 : Int × Int => (⟨[(0, .int .i64 span), (7, .ptr 7 0), (8, .ptr 8 0), (9, .ptr 9 0), (11, .ptr 11 0), (12, .int .i64 v2.1), (34, .int .i64 (x.2.2.2.2.2.2.2.2.2.1.length : Int)), (35, .int .i64 v2.2)], [(7, [.int .i64 0, .int .i64 0]), (8, [.row 15 1]), (9, [.row 20 1]), (11, [.int .i64 x.2.2.2.2.2.2.2.2.1.Code, .int .i64 x.2.2.2.2.2.2.2.2.1.At])], [(15, ⟨3, 1, 1, 0, 0, true, 0, [], (x.2.2.2.2.2.2.2.2.2.1.map e_i64)⟩), (20, ⟨22, 1, 1, 0, 0, true, 0, [], (x.2.2.2.2.2.2.2.2.2.2.map e_L_i64)⟩)], [], []⟩ : S)) (0, 0)) (by kernel_rfl) ?_
      refine Wk_iter (step := fun y => lease_Fair_v1_B1 span x y) (r := r) (fun v2 : Int × Int => (⟨[(0, .int .i64 span), (7, .ptr 7 0), (8, .ptr 8 0), (9, .ptr 9 0), (11, .ptr 11 0), (12, .int .i64 v2.1), (34, .int .i64 (x.2.2.2.2.2.2.2.2.2.1.length : Int)), (35, .int .i64 v2.2)], [(7, [.int .i64 0, .int .i64 0]), (8, [.row 15 1]), (9, [.row 20 1]), (11, [.int .i64 x.2.2.2.2.2.2.2.2.1.Code, .int .i64 x.2.2.2.2.2.2.2.2.1.At])], [(15, ⟨3, 1, 1, 0, 0, true, 0, [], (x.2.2.2.2.2.2.2.2.2.1.map e_i64)⟩), (20, ⟨22, 1, 1, 0, 0, true, 0, [], (x.2.2.2.2.2.2.2.2.2.2.map e_L_i64)⟩)], [], []⟩ : S)) (0, 0) hF ?_
      intro n1 v2 y1 hF ih1 dn1
      have hF : lease_Fair_v1_B1 span x v2 = some y1 := hF
      unfold lease_Fair_v1_B1 at hF
      refine Wk_seq ?_
      refine WR [] [0, 7, 8, 9, 11, 12, 34, 35, 36] [7, 8, 9, 11] [15, 20] [] [] [] ⟨[(0, .int .i64 span), (7, .ptr 7 0), (8, .ptr 8 0), (9, .ptr 9 0), (11, .ptr 11 0), (12, .int .i64 v2.1), (34, .int .i64 (x.2.2.2.2.2.2.2.2.2.1.length : Int)), (35, .int .i64 v2.2), (36, .bool (decide (v2.2 < (x.2.2.2.2.2.2.2.2.2.1.length : Int))))], [(7, [.int .i64 0, .int .i64 0]), (8, [.row 15 1]), (9, [.row 20 1]), (11, [.int .i64 x.2.2.2.2.2.2.2.2.1.Code, .int .i64 x.2.2.2.2.2.2.2.2.1.At])], [(15, ⟨3, 1, 1, 0, 0, true, 0, [], (x.2.2.2.2.2.2.2.2.2.1.map e_i64)⟩), (20, ⟨22, 1, 1, 0, 0, true, 0, [], (x.2.2.2.2.2.2.2.2.2.2.map e_L_i64)⟩)], [], []⟩ .nil (by kernel_rfl) ?_
      refine Wk_seq ?_
      refine Wk_split rfl (fun hb => ?_) (fun hb => ?_)
      · have hF := ite_t hF hb
        refine Wk_skip ?_
        refine Wk_seq ?_
        refine Wk_block ?_
        refine Wk_seq ?_
        refine WR [] [0, 7, 8, 9, 11, 12, 13, 34, 35] [7, 8, 9, 11] [15, 20] [] [] [] ⟨[(0, .int .i64 span), (7, .ptr 7 0), (8, .ptr 8 0), (9, .ptr 9 0), (11, .ptr 11 0), (12, .int .i64 v2.1), (13, .int .i64 v2.2), (34, .int .i64 (x.2.2.2.2.2.2.2.2.2.1.length : Int)), (35, .int .i64 v2.2)], [(7, [.int .i64 0, .int .i64 0]), (8, [.row 15 1]), (9, [.row 20 1]), (11, [.int .i64 x.2.2.2.2.2.2.2.2.1.Code, .int .i64 x.2.2.2.2.2.2.2.2.1.At])], [(15, ⟨3, 1, 1, 0, 0, true, 0, [], (x.2.2.2.2.2.2.2.2.2.1.map e_i64)⟩), (20, ⟨22, 1, 1, 0, 0, true, 0, [], (x.2.2.2.2.2.2.2.2.2.2.map e_L_i64)⟩)], [], []⟩ .nil (by kernel_rfl) ?_
        refine Wk_seq ?_
        refine Wk_meetP (fun v3 : Int => (⟨[(0, .int .i64 span), (7, .ptr 7 0), (8, .ptr 8 0), (9, .ptr 9 0), (11, .ptr 11 0), (12, .int .i64 v3), (13, .int .i64 v2.2), (34, .int .i64 (x.2.2.2.2.2.2.2.2.2.1.length : Int)), (35, .int .i64 v2.2)], [(7, [.int .i64 0, .int .i64 0]), (8, [.row 15 1]), (9, [.row 20 1]), (11, [.int .i64 x.2.2.2.2.2.2.2.2.1.Code, .int .i64 x.2.2.2.2.2.2.2.2.1.At])], [(15, ⟨3, 1, 1, 0, 0, true, 0, [], (x.2.2.2.2.2.2.2.2.2.1.map e_i64)⟩), (20, ⟨22, 1, 1, 0, 0, true, 0, [], (x.2.2.2.2.2.2.2.2.2.2.map e_L_i64)⟩)], [], []⟩ : S)) (fun v3 => lease_Fair_v1_J2 span x v2 v3 = some y1) ?_ ?_
        · refine Wk_block ?_
          unfold lease_Fair_v1_L3 at hF
          refine Wk_trim (fs := [0, 7, 8, 9, 11, 12, 13, 34, 35]) (bs := [7, 8, 9, 11]) (rs := [15, 20]) (ms := []) (aa := []) (nv := []) (t := (fun v6 : Int => (⟨[(0, .int .i64 span), (7, .ptr 7 0), (8, .ptr 8 0), (9, .ptr 9 0), (11, .ptr 11 0), (12, .int .i64 v6), (13, .int .i64 v2.2), (34, .int .i64 (x.2.2.2.2.2.2.2.2.2.1.length : Int)), (35, .int .i64 v2.2)], [(7, [.int .i64 0, .int .i64 0]), (8, [.row 15 1]), (9, [.row 20 1]), (11, [.int .i64 x.2.2.2.2.2.2.2.2.1.Code, .int .i64 x.2.2.2.2.2.2.2.2.1.At])], [(15, ⟨3, 1, 1, 0, 0, true, 0, [], (x.2.2.2.2.2.2.2.2.2.1.map e_i64)⟩), (20, ⟨22, 1, 1, 0, 0, true, 0, [], (x.2.2.2.2.2.2.2.2.2.2.map e_L_i64)⟩)], [], []⟩ : S)) v2.1) (by kernel_rfl) ?_
          refine Wk_iter (step := fun y => lease_Fair_v1_B3 span x v2 y) (r := y1) (fun v6 : Int => (⟨[(0, .int .i64 span), (7, .ptr 7 0), (8, .ptr 8 0), (9, .ptr 9 0), (11, .ptr 11 0), (12, .int .i64 v6), (13, .int .i64 v2.2), (34, .int .i64 (x.2.2.2.2.2.2.2.2.2.1.length : Int)), (35, .int .i64 v2.2)], [(7, [.int .i64 0, .int .i64 0]), (8, [.row 15 1]), (9, [.row 20 1]), (11, [.int .i64 x.2.2.2.2.2.2.2.2.1.Code, .int .i64 x.2.2.2.2.2.2.2.2.1.At])], [(15, ⟨3, 1, 1, 0, 0, true, 0, [], (x.2.2.2.2.2.2.2.2.2.1.map e_i64)⟩), (20, ⟨22, 1, 1, 0, 0, true, 0, [], (x.2.2.2.2.2.2.2.2.2.2.map e_L_i64)⟩)], [], []⟩ : S)) v2.1 hF ?_
          intro n2 v6 y2 hF ih2 dn2
          have hF : lease_Fair_v1_B3 span x v2 v6 = some y2 := hF
          unfold lease_Fair_v1_B3 at hF
          refine Wk_seq ?_
          refine Wk_seq ?_
          obtain ⟨h11, hF⟩ := asrt_elim hF
          obtain ⟨h12, hF⟩ := asrt_elim hF
          obtain ⟨h13, hF⟩ := asrt_elim hF
          obtain ⟨h14, hF⟩ := asrt_elim hF
          refine WD [.nat (x.2.2.2.2.2.2.2.2.2.1.length : Int), .av (e_i64 (lget x.2.2.2.2.2.2.2.2.2.1 v6)), .av (e_i64 (lget x.2.2.2.2.2.2.2.2.2.1 v2.2))] [0, 7, 8, 9, 11, 12, 13, 34, 35, 54] [7, 8, 9, 11] [15, 20] [] [] [] ⟨[(0, .int .i64 span), (7, .ptr 7 0), (8, .ptr 8 0), (9, .ptr 9 0), (11, .ptr 11 0), (12, .int .i64 v6), (13, .int .i64 v2.2), (34, .int .i64 (x.2.2.2.2.2.2.2.2.2.1.length : Int)), (35, .int .i64 v2.2), (54, .bool ((decide (v6 < (x.2.2.2.2.2.2.2.2.2.1.length : Int))) && (decide ((lget x.2.2.2.2.2.2.2.2.2.1 v6) < (w64 ((lget x.2.2.2.2.2.2.2.2.2.1 v2.2) + span))))))], [(7, [.int .i64 0, .int .i64 0]), (8, [.row 15 1]), (9, [.row 20 1]), (11, [.int .i64 x.2.2.2.2.2.2.2.2.1.Code, .int .i64 x.2.2.2.2.2.2.2.2.1.At])], [(15, ⟨3, 1, 1, 0, 0, true, 0, [], (x.2.2.2.2.2.2.2.2.2.1.map e_i64)⟩), (20, ⟨22, 1, 1, 0, 0, true, 0, [], (x.2.2.2.2.2.2.2.2.2.2.map e_L_i64)⟩)], [], []⟩ (.cons (len_ok e_i64 x.2.2.2.2.2.2.2.2.2.1) (.cons (fun (ga0 : (decide (v6 < (x.2.2.2.2.2.2.2.2.2.1.length : Int))) = true) => (ixr_ok e_i64 (h11 ga0))) (.cons (fun (ga0 : (decide (v6 < (x.2.2.2.2.2.2.2.2.2.1.length : Int))) = true) => (ldr_ok e_i64 (h12 ga0))) (.cons (fun (ga0 : (decide (v6 < (x.2.2.2.2.2.2.2.2.2.1.length : Int))) = true) => (ixr_ok e_i64 (h13 ga0))) (.cons (fun (ga0 : (decide (v6 < (x.2.2.2.2.2.2.2.2.2.1.length : Int))) = true) => (ldr_ok e_i64 (h14 ga0))) .nil))))) (by kernel_rfl) ?_
          refine Wk_split rfl (fun hb => ?_) (fun hb => ?_)
          · have hF := ite_t hF hb
            refine Wk_skip ?_
            refine Wk_block ?_
            refine WR [] [0, 7, 8, 9, 11, 12, 13, 34, 35] [7, 8, 9, 11] [15, 20] [] [] [] ⟨[(0, .int .i64 span), (7, .ptr 7 0), (8, .ptr 8 0), (9, .ptr 9 0), (11, .ptr 11 0), (12, .int .i64 (w64 (v6 + 1))), (13, .int .i64 v2.2), (34, .int .i64 (x.2.2.2.2.2.2.2.2.2.1.length : Int)), (35, .int .i64 v2.2)], [(7, [.int .i64 0, .int .i64 0]), (8, [.row 15 1]), (9, [.row 20 1]), (11, [.int .i64 x.2.2.2.2.2.2.2.2.1.Code, .int .i64 x.2.2.2.2.2.2.2.2.1.At])], [(15, ⟨3, 1, 1, 0, 0, true, 0, [], (x.2.2.2.2.2.2.2.2.2.1.map e_i64)⟩), (20, ⟨22, 1, 1, 0, 0, true, 0, [], (x.2.2.2.2.2.2.2.2.2.2.map e_L_i64)⟩)], [], []⟩ .nil (by kernel_rfl) ?_
            refine Wk_blk ?_
            refine Wk_trim (fs := [0, 7, 8, 9, 11, 12, 13, 34, 35]) (bs := [7, 8, 9, 11]) (rs := [15, 20]) (ms := []) (aa := []) (nv := []) ?_ (ih2 _ (some_elim hF).symm)
            kernel_rfl
          · have hF := ite_f hF hb
            refine Wk_exit rfl ?_
            have hF := inrO_done hF dn2
            exact Wk_metP v6 [0, 7, 8, 9, 11, 12, 13, 34, 35] [7, 8, 9, 11] [15, 20] [] [] [] hF (by kernel_rfl)
        · intro v3 hF
          have hF : lease_Fair_v1_J2 span x v2 v3 = some y1 := hF
          unfold lease_Fair_v1_J2 at hF
          refine Wk_seq ?_
          refine Wk_seq ?_
          refine WR [.nat (x.2.2.2.2.2.2.2.2.2.1.length : Int)] [0, 7, 8, 9, 11, 12, 13, 34, 35, 60] [7, 8, 9, 11] [15, 20] [] [] [] ⟨[(0, .int .i64 span), (7, .ptr 7 0), (8, .ptr 8 0), (9, .ptr 9 0), (11, .ptr 11 0), (12, .int .i64 v3), (13, .int .i64 v2.2), (34, .int .i64 (x.2.2.2.2.2.2.2.2.2.1.length : Int)), (35, .int .i64 v2.2), (60, .bool (decide (v3 = (x.2.2.2.2.2.2.2.2.2.1.length : Int))))], [(7, [.int .i64 0, .int .i64 0]), (8, [.row 15 1]), (9, [.row 20 1]), (11, [.int .i64 x.2.2.2.2.2.2.2.2.1.Code, .int .i64 x.2.2.2.2.2.2.2.2.1.At])], [(15, ⟨3, 1, 1, 0, 0, true, 0, [], (x.2.2.2.2.2.2.2.2.2.1.map e_i64)⟩), (20, ⟨22, 1, 1, 0, 0, true, 0, [], (x.2.2.2.2.2.2.2.2.2.2.map e_L_i64)⟩)], [], []⟩ (.cons (len_ok e_i64 x.2.2.2.2.2.2.2.2.2.1) .nil) (by kernel_rfl) ?_
          refine Wk_split rfl (fun hb => ?_) (fun hb => ?_)
          · have hF := ite_t hF hb
            refine Wk_exit rfl ?_
            have hF := inrO_done hF dn1
            exact Wk_metP () [7, 11] [7, 11] [] [] [] [] hF (by kernel_rfl)
          · have hF := ite_f hF hb
            refine Wk_skip ?_
            refine Wk_seq ?_
            obtain ⟨h2, hF⟩ := asrt_elim hF
            obtain ⟨h3, hF⟩ := asrt_elim hF
            refine WR [.av (e_L_i64 (lget x.2.2.2.2.2.2.2.2.2.2 v2.2)), .nat ((lget x.2.2.2.2.2.2.2.2.2.2 v2.2).length : Int)] [0, 7, 8, 9, 11, 12, 13, 34, 35, 65, 66] [7, 8, 9, 11] [15, 20] [] [] [] ⟨[(0, .int .i64 span), (7, .ptr 7 0), (8, .ptr 8 0), (9, .ptr 9 0), (11, .ptr 11 0), (12, .int .i64 v3), (13, .int .i64 v2.2), (34, .int .i64 (x.2.2.2.2.2.2.2.2.2.1.length : Int)), (35, .int .i64 v2.2), (65, .int .i64 ((lget x.2.2.2.2.2.2.2.2.2.2 v2.2).length : Int)), (66, .int .i64 0)], [(7, [.int .i64 0, .int .i64 0]), (8, [.row 15 1]), (9, [.row 20 1]), (11, [.int .i64 x.2.2.2.2.2.2.2.2.1.Code, .int .i64 x.2.2.2.2.2.2.2.2.1.At])], [(15, ⟨3, 1, 1, 0, 0, true, 0, [], (x.2.2.2.2.2.2.2.2.2.1.map e_i64)⟩), (20, ⟨22, 1, 1, 0, 0, true, 0, [], (x.2.2.2.2.2.2.2.2.2.2.map e_L_i64)⟩)], [], []⟩ (.cons (ixr_ok e_L_i64 h2) (.cons (ldr_ok e_L_i64 h3) (.cons (len_ok e_i64 (lget x.2.2.2.2.2.2.2.2.2.2 v2.2)) .nil))) (by kernel_rfl) ?_
            refine Wk_meetP (fun v4 : Unit => (⟨[(0, .int .i64 span), (7, .ptr 7 0), (8, .ptr 8 0), (9, .ptr 9 0), (11, .ptr 11 0), (12, .int .i64 v3), (34, .int .i64 (x.2.2.2.2.2.2.2.2.2.1.length : Int)), (35, .int .i64 v2.2)], [(7, [.int .i64 0, .int .i64 0]), (8, [.row 15 1]), (9, [.row 20 1]), (11, [.int .i64 x.2.2.2.2.2.2.2.2.1.Code, .int .i64 x.2.2.2.2.2.2.2.2.1.At])], [(15, ⟨3, 1, 1, 0, 0, true, 0, [], (x.2.2.2.2.2.2.2.2.2.1.map e_i64)⟩), (20, ⟨22, 1, 1, 0, 0, true, 0, [], (x.2.2.2.2.2.2.2.2.2.2.map e_L_i64)⟩)], [], []⟩ : S)) (fun v4 => lease_Fair_v1_J3 v2 v3 v4 = some y1) ?_ ?_
            · refine Wk_block ?_
              unfold lease_Fair_v1_L2 at hF
              refine Wk_trim (fs := [0, 7, 8, 9, 11, 12, 13, 34, 35, 65, 66]) (bs := [7, 8, 9, 11]) (rs := [15, 20]) (ms := []) (aa := []) (nv := []) (t := (fun v5 : Int => (⟨[(0, .int .i64 span), (7, .ptr 7 0), (8, .ptr 8 0), (9, .ptr 9 0), (11, .ptr 11 0), (12, .int .i64 v3), (13, .int .i64 v2.2), (34, .int .i64 (x.2.2.2.2.2.2.2.2.2.1.length : Int)), (35, .int .i64 v2.2), (65, .int .i64 ((lget x.2.2.2.2.2.2.2.2.2.2 v2.2).length : Int)), (66, .int .i64 v5)], [(7, [.int .i64 0, .int .i64 0]), (8, [.row 15 1]), (9, [.row 20 1]), (11, [.int .i64 x.2.2.2.2.2.2.2.2.1.Code, .int .i64 x.2.2.2.2.2.2.2.2.1.At])], [(15, ⟨3, 1, 1, 0, 0, true, 0, [], (x.2.2.2.2.2.2.2.2.2.1.map e_i64)⟩), (20, ⟨22, 1, 1, 0, 0, true, 0, [], (x.2.2.2.2.2.2.2.2.2.2.map e_L_i64)⟩)], [], []⟩ : S)) 0) (by kernel_rfl) ?_
              refine Wk_iter (step := fun y => lease_Fair_v1_B2 span x v2 v3 y) (r := y1) (fun v5 : Int => (⟨[(0, .int .i64 span), (7, .ptr 7 0), (8, .ptr 8 0), (9, .ptr 9 0), (11, .ptr 11 0), (12, .int .i64 v3), (13, .int .i64 v2.2), (34, .int .i64 (x.2.2.2.2.2.2.2.2.2.1.length : Int)), (35, .int .i64 v2.2), (65, .int .i64 ((lget x.2.2.2.2.2.2.2.2.2.2 v2.2).length : Int)), (66, .int .i64 v5)], [(7, [.int .i64 0, .int .i64 0]), (8, [.row 15 1]), (9, [.row 20 1]), (11, [.int .i64 x.2.2.2.2.2.2.2.2.1.Code, .int .i64 x.2.2.2.2.2.2.2.2.1.At])], [(15, ⟨3, 1, 1, 0, 0, true, 0, [], (x.2.2.2.2.2.2.2.2.2.1.map e_i64)⟩), (20, ⟨22, 1, 1, 0, 0, true, 0, [], (x.2.2.2.2.2.2.2.2.2.2.map e_L_i64)⟩)], [], []⟩ : S)) 0 hF ?_
              intro n2 v5 y2 hF ih2 dn2
              have hF : lease_Fair_v1_B2 span x v2 v3 v5 = some y2 := hF
              unfold lease_Fair_v1_B2 at hF
              refine Wk_seq ?_
              refine WR [] [0, 7, 8, 9, 11, 12, 13, 34, 35, 65, 66, 67] [7, 8, 9, 11] [15, 20] [] [] [] ⟨[(0, .int .i64 span), (7, .ptr 7 0), (8, .ptr 8 0), (9, .ptr 9 0), (11, .ptr 11 0), (12, .int .i64 v3), (13, .int .i64 v2.2), (34, .int .i64 (x.2.2.2.2.2.2.2.2.2.1.length : Int)), (35, .int .i64 v2.2), (65, .int .i64 ((lget x.2.2.2.2.2.2.2.2.2.2 v2.2).length : Int)), (66, .int .i64 v5), (67, .bool (decide (v5 < ((lget x.2.2.2.2.2.2.2.2.2.2 v2.2).length : Int))))], [(7, [.int .i64 0, .int .i64 0]), (8, [.row 15 1]), (9, [.row 20 1]), (11, [.int .i64 x.2.2.2.2.2.2.2.2.1.Code, .int .i64 x.2.2.2.2.2.2.2.2.1.At])], [(15, ⟨3, 1, 1, 0, 0, true, 0, [], (x.2.2.2.2.2.2.2.2.2.1.map e_i64)⟩), (20, ⟨22, 1, 1, 0, 0, true, 0, [], (x.2.2.2.2.2.2.2.2.2.2.map e_L_i64)⟩)], [], []⟩ .nil (by kernel_rfl) ?_
              refine Wk_seq ?_
              refine Wk_split rfl (fun hb => ?_) (fun hb => ?_)
              · have hF := ite_t hF hb
                refine Wk_skip ?_
                refine Wk_seq ?_
                refine Wk_block ?_
                refine Wk_seq ?_
                refine WR [] [0, 7, 8, 9, 11, 12, 13, 14, 34, 35, 65, 66] [7, 8, 9, 11] [15, 20] [] [] [] ⟨[(0, .int .i64 span), (7, .ptr 7 0), (8, .ptr 8 0), (9, .ptr 9 0), (11, .ptr 11 0), (12, .int .i64 v3), (13, .int .i64 v2.2), (14, .int .i64 v5), (34, .int .i64 (x.2.2.2.2.2.2.2.2.2.1.length : Int)), (35, .int .i64 v2.2), (65, .int .i64 ((lget x.2.2.2.2.2.2.2.2.2.2 v2.2).length : Int)), (66, .int .i64 v5)], [(7, [.int .i64 0, .int .i64 0]), (8, [.row 15 1]), (9, [.row 20 1]), (11, [.int .i64 x.2.2.2.2.2.2.2.2.1.Code, .int .i64 x.2.2.2.2.2.2.2.2.1.At])], [(15, ⟨3, 1, 1, 0, 0, true, 0, [], (x.2.2.2.2.2.2.2.2.2.1.map e_i64)⟩), (20, ⟨22, 1, 1, 0, 0, true, 0, [], (x.2.2.2.2.2.2.2.2.2.2.map e_L_i64)⟩)], [], []⟩ .nil (by kernel_rfl) ?_
                refine Wk_seq ?_
                obtain ⟨h4, hF⟩ := asrt_elim hF
                obtain ⟨h5, hF⟩ := asrt_elim hF
                obtain ⟨h6, hF⟩ := asrt_elim hF
                obtain ⟨h7, hF⟩ := asrt_elim hF
                obtain ⟨h8, hF⟩ := asrt_elim hF
                obtain ⟨h9, hF⟩ := asrt_elim hF
                obtain ⟨x1, h10, hF⟩ := lt_split hF
                refine WD [.av (e_L_i64 (lget x.2.2.2.2.2.2.2.2.2.2 v3)), .av (e_i64 (lget (lget x.2.2.2.2.2.2.2.2.2.2 v3) v5)), .av (e_L_i64 (lget x.2.2.2.2.2.2.2.2.2.2 v2.2)), .av (e_i64 (lget (lget x.2.2.2.2.2.2.2.2.2.2 v2.2) v5)), .callB (.int .i64 x1)] [0, 7, 8, 9, 11, 12, 13, 34, 35, 65, 66, 86] [7, 8, 9, 11] [15, 20] [] [] [] ⟨[(0, .int .i64 span), (7, .ptr 7 0), (8, .ptr 8 0), (9, .ptr 9 0), (11, .ptr 11 0), (12, .int .i64 v3), (13, .int .i64 v2.2), (34, .int .i64 (x.2.2.2.2.2.2.2.2.2.1.length : Int)), (35, .int .i64 v2.2), (65, .int .i64 ((lget x.2.2.2.2.2.2.2.2.2.2 v2.2).length : Int)), (66, .int .i64 v5), (86, .bool (decide ((w64 ((lget (lget x.2.2.2.2.2.2.2.2.2.2 v3) v5) - (lget (lget x.2.2.2.2.2.2.2.2.2.2 v2.2) v5))) < x1)))], [(7, [.int .i64 0, .int .i64 0]), (8, [.row 15 1]), (9, [.row 20 1]), (11, [.int .i64 x.2.2.2.2.2.2.2.2.1.Code, .int .i64 x.2.2.2.2.2.2.2.2.1.At])], [(15, ⟨3, 1, 1, 0, 0, true, 0, [], (x.2.2.2.2.2.2.2.2.2.1.map e_i64)⟩), (20, ⟨22, 1, 1, 0, 0, true, 0, [], (x.2.2.2.2.2.2.2.2.2.2.map e_L_i64)⟩)], [], []⟩ (.cons (ixr_ok e_L_i64 h4) (.cons (ldr_ok e_L_i64 h5) (.cons (idx_ok e_i64 h6) (.cons (ixr_ok e_L_i64 h7) (.cons (ldr_ok e_L_i64 h8) (.cons (idx_ok e_i64 h9) (.cons (lease_sure_ok span x1 h10) .nil))))))) (by kernel_rfl) ?_
                refine Wk_split rfl (fun hb => ?_) (fun hb => ?_)
                · have hF := ite_t hF hb
                  refine Wk_seq ?_
                  refine WD [] [6, 7] [7] [] [] [] [] ⟨[(6, .bool false), (7, .ptr 7 0)], [(7, [.int .i64 x.2.2.2.2.2.2.2.2.1.Code, .int .i64 x.2.2.2.2.2.2.2.2.1.At])], [], [], []⟩ .nil (by kernel_rfl) ?_
                  have hF := ret_done hF dn2
                  have hF := ret_done hF dn1
                  have hF := some_elim hF
                  exact Wk_ret (hfin _ ⟨[], [], [], [], [], [], by first | (rw [← hF]; kernel_rfl) | kernel_rfl⟩)
                · have hF := ite_f hF hb
                  refine Wk_skip ?_
                  refine Wk_blk ?_
                  refine WR [] [0, 7, 8, 9, 11, 12, 13, 34, 35, 65, 66] [7, 8, 9, 11] [15, 20] [] [] [] ⟨[(0, .int .i64 span), (7, .ptr 7 0), (8, .ptr 8 0), (9, .ptr 9 0), (11, .ptr 11 0), (12, .int .i64 v3), (13, .int .i64 v2.2), (34, .int .i64 (x.2.2.2.2.2.2.2.2.2.1.length : Int)), (35, .int .i64 v2.2), (65, .int .i64 ((lget x.2.2.2.2.2.2.2.2.2.2 v2.2).length : Int)), (66, .int .i64 (w64 (v5 + 1)))], [(7, [.int .i64 0, .int .i64 0]), (8, [.row 15 1]), (9, [.row 20 1]), (11, [.int .i64 x.2.2.2.2.2.2.2.2.1.Code, .int .i64 x.2.2.2.2.2.2.2.2.1.At])], [(15, ⟨3, 1, 1, 0, 0, true, 0, [], (x.2.2.2.2.2.2.2.2.2.1.map e_i64)⟩), (20, ⟨22, 1, 1, 0, 0, true, 0, [], (x.2.2.2.2.2.2.2.2.2.2.map e_L_i64)⟩)], [], []⟩ .nil (by kernel_rfl) ?_
                  refine Wk_trim (fs := [0, 7, 8, 9, 11, 12, 13, 34, 35, 65, 66]) (bs := [7, 8, 9, 11]) (rs := [15, 20]) (ms := []) (aa := []) (nv := []) ?_ (ih2 _ (some_elim hF).symm)
                  kernel_rfl
              · have hF := ite_f hF hb
                refine Wk_exit rfl ?_
                have hF := inrO_done hF dn2
                exact Wk_metP () [0, 7, 8, 9, 11, 12, 34, 35] [7, 8, 9, 11] [15, 20] [] [] [] hF (by kernel_rfl)
            · intro v4 hF
              have hF : lease_Fair_v1_J3 v2 v3 v4 = some y1 := hF
              unfold lease_Fair_v1_J3 at hF
              refine Wk_blk ?_
              refine WR [] [0, 7, 8, 9, 11, 12, 34, 35] [7, 8, 9, 11] [15, 20] [] [] [] ⟨[(0, .int .i64 span), (7, .ptr 7 0), (8, .ptr 8 0), (9, .ptr 9 0), (11, .ptr 11 0), (12, .int .i64 v3), (34, .int .i64 (x.2.2.2.2.2.2.2.2.2.1.length : Int)), (35, .int .i64 (w64 (v2.2 + 1)))], [(7, [.int .i64 0, .int .i64 0]), (8, [.row 15 1]), (9, [.row 20 1]), (11, [.int .i64 x.2.2.2.2.2.2.2.2.1.Code, .int .i64 x.2.2.2.2.2.2.2.2.1.At])], [(15, ⟨3, 1, 1, 0, 0, true, 0, [], (x.2.2.2.2.2.2.2.2.2.1.map e_i64)⟩), (20, ⟨22, 1, 1, 0, 0, true, 0, [], (x.2.2.2.2.2.2.2.2.2.2.map e_L_i64)⟩)], [], []⟩ .nil (by kernel_rfl) ?_
              refine Wk_trim (fs := [0, 7, 8, 9, 11, 12, 34, 35]) (bs := [7, 8, 9, 11]) (rs := [15, 20]) (ms := []) (aa := []) (nv := []) ?_ (ih1 _ (some_elim hF).symm)
              kernel_rfl
      · have hF := ite_f hF hb
        refine Wk_exit rfl ?_
        have hF := inrO_done hF dn1
        exact Wk_metP () [7, 11] [7, 11] [] [] [] [] hF (by kernel_rfl)
    · intro v1 hF
      have hF : lease_Fair_v1_J1 x v1 = some r := hF
      unfold lease_Fair_v1_J1 at hF
      refine Wk_seq ?_
      refine WD [] [6, 7] [7] [] [] [] [] ⟨[(6, .bool true), (7, .ptr 7 0)], [(7, [.int .i64 x.2.2.2.2.2.2.2.2.1.Code, .int .i64 x.2.2.2.2.2.2.2.2.1.At])], [], [], []⟩ .nil (by kernel_rfl) ?_
      have hF := some_elim hF
      exact Wk_ret (hfin _ ⟨[], [], [], [], [], [], by first | (rw [← hF]; kernel_rfl) | kernel_rfl⟩)

end G
end Go.Proofs.Ytgflfhdbihahcaa
