/- The program's functions as plain functions, and that they are these. Written by a program (dec.py). -/
import Derived.Test.YtgflfhdbihahcaaGf0
namespace Go.Proofs.Ytgflfhdbihahcaa
open Go Go.Dm
set_option linter.unusedVariables false
set_option linter.unusedSimpArgs false
set_option maxRecDepth 100000
namespace G
/- tabularyref.SameCourt -/
noncomputable def R_SameCourt_J3 (v2 : Unit) : Option Bool :=
  some true
noncomputable def R_SameCourt_B1 (a0 : Court) (b : Court) (v3 : Int) : Option (Int ⊕ Bool) :=
  if (decide (v3 < (a0.Replies.length : Int))) = true then
    asrt (0 ≤ v3 ∧ v3 < (a0.Replies.length : Int)) <|
    asrt (0 ≤ v3 ∧ v3 < (b.Replies.length : Int)) <|
    if (!(decide ((lget a0.Replies v3).Who = (lget b.Replies v3).Who) && (decide (((lget a0.Replies v3).Trust).Epoch = ((lget b.Replies v3).Trust).Epoch) && (decide (((lget a0.Replies v3).Trust).Until = ((lget b.Replies v3).Trust).Until) && true)))) = true then
      some (Sum.inr false)
    else
      some (Sum.inl (w64 (v3 + 1)))
  else
    inrO (R_SameCourt_J3 ())
noncomputable def R_SameCourt_L1 (a0 : Court) (b : Court) (v0 : Int) : Option Bool :=
  loopO (fun y => R_SameCourt_B1 a0 b y) v0
noncomputable def R_SameCourt_J2 (a0 : Court) (b : Court) (v1 : Unit) : Option Bool :=
  R_SameCourt_L1 a0 b 0
noncomputable def R_SameCourt_B2 (a0 : Court) (b : Court) (v4 : Int) : Option (Int ⊕ Bool) :=
  if (decide (v4 < (a0.Wishes.length : Int))) = true then
    asrt (0 ≤ v4 ∧ v4 < (a0.Wishes.length : Int)) <|
    asrt (0 ≤ v4 ∧ v4 < (b.Wishes.length : Int)) <|
    if (!(decide ((lget a0.Wishes v4).Who = (lget b.Wishes v4).Who) && (decide ((lget a0.Wishes v4).Sent = (lget b.Wishes v4).Sent) && (decide ((lget a0.Wishes v4).Epoch = (lget b.Wishes v4).Epoch) && true)))) = true then
      some (Sum.inr false)
    else
      some (Sum.inl (w64 (v4 + 1)))
  else
    inrO (R_SameCourt_J2 a0 b ())
noncomputable def R_SameCourt_L2 (a0 : Court) (b : Court) (v0 : Int) : Option Bool :=
  loopO (fun y => R_SameCourt_B2 a0 b y) v0
noncomputable def R_SameCourt_J1 (a0 : Court) (b : Court) (v : Unit) : Option Bool :=
  R_SameCourt_L2 a0 b 0
noncomputable def R_SameCourt_B3 (a0 : Court) (b : Court) (v5 : Int) : Option (Int ⊕ Bool) :=
  if (decide (v5 < (a0.Trusts.length : Int))) = true then
    asrt (0 ≤ v5 ∧ v5 < (a0.Trusts.length : Int)) <|
    asrt (0 ≤ v5 ∧ v5 < (b.Trusts.length : Int)) <|
    if (!(decide ((lget a0.Trusts v5).Epoch = (lget b.Trusts v5).Epoch) && (decide ((lget a0.Trusts v5).Until = (lget b.Trusts v5).Until) && true))) = true then
      some (Sum.inr false)
    else
      some (Sum.inl (w64 (v5 + 1)))
  else
    inrO (R_SameCourt_J1 a0 b ())
noncomputable def R_SameCourt_L3 (a0 : Court) (b : Court) (v0 : Int) : Option Bool :=
  loopO (fun y => R_SameCourt_B3 a0 b y) v0
noncomputable def R_SameCourt (a0 : Court) (b : Court) : Option Bool :=
  ob (if (!((!decide (a0.Now = b.Now)) || (!(decide (a0.Lease.Holder = b.Lease.Holder) && (decide (a0.Lease.Epoch = b.Lease.Epoch) && (decide (a0.Lease.Until = b.Lease.Until) && true)))))) = true then (R_Ints a0.Clocks b.Clocks) else some default) fun x =>
  if ((((((!decide (a0.Now = b.Now)) || (!(decide (a0.Lease.Holder = b.Lease.Holder) && (decide (a0.Lease.Epoch = b.Lease.Epoch) && (decide (a0.Lease.Until = b.Lease.Until) && true))))) || (!x)) || (!decide ((a0.Trusts.length : Int) = (b.Trusts.length : Int)))) || (!decide ((a0.Wishes.length : Int) = (b.Wishes.length : Int)))) || (!decide ((a0.Replies.length : Int) = (b.Replies.length : Int)))) = true then
    some false
  else
    R_SameCourt_L3 a0 b 0
theorem R_SameCourt_ok (a0 : Court) (b : Court) (r : Bool) (hF : R_SameCourt a0 b = some r) : Pc Try.prog 25 [.agg [.int .i64 a0.Now, .int .i64 a0.Lease.Holder, .int .i64 a0.Lease.Epoch, .int .i64 a0.Lease.Until, .sl 1 (a0.Clocks.map e_i64), .sl 2 (a0.Trusts.map e_Trust), .sl 3 (a0.Wishes.map e_Wish), .sl 3 (a0.Replies.map e_Reply)], .agg [.int .i64 b.Now, .int .i64 b.Lease.Holder, .int .i64 b.Lease.Epoch, .int .i64 b.Lease.Until, .sl 1 (b.Clocks.map e_i64), .sl 2 (b.Trusts.map e_Trust), .sl 3 (b.Wishes.map e_Wish), .sl 3 (b.Replies.map e_Reply)]] (.bool r) := by
  refine Pc_of (N := 109) (res := [.tmp 4]) (ts := [4]) Ty.ok Fn.b25 Try.func25 rfl rfl rfl rfl rfl ?_
  intro Q g hfin
  unfold R_SameCourt at hF
  refine Wk_seq ?_
  refine WR [] [2, 3] [2, 3] [] [] ⟨[(2, .ptr 2 0), (3, .ptr 3 0)], [(2, [.int .i64 a0.Now, .int .i64 a0.Lease.Holder, .int .i64 a0.Lease.Epoch, .int .i64 a0.Lease.Until, .sl 1 (a0.Clocks.map e_i64), .sl 2 (a0.Trusts.map e_Trust), .sl 3 (a0.Wishes.map e_Wish), .sl 3 (a0.Replies.map e_Reply)]), (3, [.int .i64 b.Now, .int .i64 b.Lease.Holder, .int .i64 b.Lease.Epoch, .int .i64 b.Lease.Until, .sl 1 (b.Clocks.map e_i64), .sl 2 (b.Trusts.map e_Trust), .sl 3 (b.Wishes.map e_Wish), .sl 3 (b.Replies.map e_Reply)])], [], []⟩ .nil (by kernel_rfl) ?_
  refine Wk_seq ?_
  refine Wk_seq ?_
  obtain ⟨x, h0, hF⟩ := ob_elim hF
  refine WR [.call (.bool x), .nat (a0.Trusts.length : Int), .nat (b.Trusts.length : Int), .nat (a0.Wishes.length : Int), .nat (b.Wishes.length : Int), .nat (a0.Replies.length : Int), .nat (b.Replies.length : Int)] [2, 3, 54] [2, 3] [] [] ⟨[(2, .ptr 2 0), (3, .ptr 3 0), (54, .bool ((((((!decide (a0.Now = b.Now)) || (!(decide (a0.Lease.Holder = b.Lease.Holder) && (decide (a0.Lease.Epoch = b.Lease.Epoch) && (decide (a0.Lease.Until = b.Lease.Until) && true))))) || (!x)) || (!decide ((a0.Trusts.length : Int) = (b.Trusts.length : Int)))) || (!decide ((a0.Wishes.length : Int) = (b.Wishes.length : Int)))) || (!decide ((a0.Replies.length : Int) = (b.Replies.length : Int)))))], [(2, [.int .i64 a0.Now, .int .i64 a0.Lease.Holder, .int .i64 a0.Lease.Epoch, .int .i64 a0.Lease.Until, .sl 1 (a0.Clocks.map e_i64), .sl 2 (a0.Trusts.map e_Trust), .sl 3 (a0.Wishes.map e_Wish), .sl 3 (a0.Replies.map e_Reply)]), (3, [.int .i64 b.Now, .int .i64 b.Lease.Holder, .int .i64 b.Lease.Epoch, .int .i64 b.Lease.Until, .sl 1 (b.Clocks.map e_i64), .sl 2 (b.Trusts.map e_Trust), .sl 3 (b.Wishes.map e_Wish), .sl 3 (b.Replies.map e_Reply)])], [], []⟩ (.cons (fun (ga0 : (!((!decide (a0.Now = b.Now)) || (!(decide (a0.Lease.Holder = b.Lease.Holder) && (decide (a0.Lease.Epoch = b.Lease.Epoch) && (decide (a0.Lease.Until = b.Lease.Until) && true)))))) = true) => (R_Ints_ok a0.Clocks b.Clocks x (ite_t h0 ga0))) (.cons (fun (ga0 : (!(((!decide (a0.Now = b.Now)) || (!(decide (a0.Lease.Holder = b.Lease.Holder) && (decide (a0.Lease.Epoch = b.Lease.Epoch) && (decide (a0.Lease.Until = b.Lease.Until) && true))))) || (!x))) = true) => (len_ok e_Trust a0.Trusts)) (.cons (fun (ga0 : (!(((!decide (a0.Now = b.Now)) || (!(decide (a0.Lease.Holder = b.Lease.Holder) && (decide (a0.Lease.Epoch = b.Lease.Epoch) && (decide (a0.Lease.Until = b.Lease.Until) && true))))) || (!x))) = true) => (len_ok e_Trust b.Trusts)) (.cons (fun (ga0 : (!((((!decide (a0.Now = b.Now)) || (!(decide (a0.Lease.Holder = b.Lease.Holder) && (decide (a0.Lease.Epoch = b.Lease.Epoch) && (decide (a0.Lease.Until = b.Lease.Until) && true))))) || (!x)) || (!decide ((a0.Trusts.length : Int) = (b.Trusts.length : Int))))) = true) => (len_ok e_Wish a0.Wishes)) (.cons (fun (ga0 : (!((((!decide (a0.Now = b.Now)) || (!(decide (a0.Lease.Holder = b.Lease.Holder) && (decide (a0.Lease.Epoch = b.Lease.Epoch) && (decide (a0.Lease.Until = b.Lease.Until) && true))))) || (!x)) || (!decide ((a0.Trusts.length : Int) = (b.Trusts.length : Int))))) = true) => (len_ok e_Wish b.Wishes)) (.cons (fun (ga0 : (!(((((!decide (a0.Now = b.Now)) || (!(decide (a0.Lease.Holder = b.Lease.Holder) && (decide (a0.Lease.Epoch = b.Lease.Epoch) && (decide (a0.Lease.Until = b.Lease.Until) && true))))) || (!x)) || (!decide ((a0.Trusts.length : Int) = (b.Trusts.length : Int)))) || (!decide ((a0.Wishes.length : Int) = (b.Wishes.length : Int))))) = true) => (len_ok e_Reply a0.Replies)) (.cons (fun (ga0 : (!(((((!decide (a0.Now = b.Now)) || (!(decide (a0.Lease.Holder = b.Lease.Holder) && (decide (a0.Lease.Epoch = b.Lease.Epoch) && (decide (a0.Lease.Until = b.Lease.Until) && true))))) || (!x)) || (!decide ((a0.Trusts.length : Int) = (b.Trusts.length : Int)))) || (!decide ((a0.Wishes.length : Int) = (b.Wishes.length : Int))))) = true) => (len_ok e_Reply b.Replies)) .nil))))))) (by kernel_rfl) ?_
  refine Wk_split rfl (fun hb => ?_) (fun hb => ?_)
  · have hF := ite_t hF hb
    refine Wk_seq ?_
    refine WR [] [4] [] [] [] ⟨[(4, .bool false)], [], [], []⟩ .nil (by kernel_rfl) ?_
    have hF := some_elim hF
    exact Wk_ret (hfin _ (by rw [← hF]; kernel_rfl))
  · have hF := ite_f hF hb
    refine Wk_skip ?_
    refine Wk_seq ?_
    refine Wk_seq ?_
    refine WR [] [2, 3, 5] [2, 3] [] [] ⟨[(2, .ptr 2 0), (3, .ptr 3 0), (5, .int .i64 0)], [(2, [.int .i64 a0.Now, .int .i64 a0.Lease.Holder, .int .i64 a0.Lease.Epoch, .int .i64 a0.Lease.Until, .sl 1 (a0.Clocks.map e_i64), .sl 2 (a0.Trusts.map e_Trust), .sl 3 (a0.Wishes.map e_Wish), .sl 3 (a0.Replies.map e_Reply)]), (3, [.int .i64 b.Now, .int .i64 b.Lease.Holder, .int .i64 b.Lease.Epoch, .int .i64 b.Lease.Until, .sl 1 (b.Clocks.map e_i64), .sl 2 (b.Trusts.map e_Trust), .sl 3 (b.Wishes.map e_Wish), .sl 3 (b.Replies.map e_Reply)])], [], []⟩ .nil (by kernel_rfl) ?_
    refine Wk_meetP (fun v : Unit => (⟨[(2, .ptr 2 0), (3, .ptr 3 0)], [(2, [.int .i64 a0.Now, .int .i64 a0.Lease.Holder, .int .i64 a0.Lease.Epoch, .int .i64 a0.Lease.Until, .sl 1 (a0.Clocks.map e_i64), .sl 2 (a0.Trusts.map e_Trust), .sl 3 (a0.Wishes.map e_Wish), .sl 3 (a0.Replies.map e_Reply)]), (3, [.int .i64 b.Now, .int .i64 b.Lease.Holder, .int .i64 b.Lease.Epoch, .int .i64 b.Lease.Until, .sl 1 (b.Clocks.map e_i64), .sl 2 (b.Trusts.map e_Trust), .sl 3 (b.Wishes.map e_Wish), .sl 3 (b.Replies.map e_Reply)])], [], []⟩ : S)) (fun v => R_SameCourt_J1 a0 b v = some r) ?_ ?_
    · refine Wk_block ?_
      unfold R_SameCourt_L3 at hF
      refine Wk_trim (fs := [2, 3, 5]) (bs := [2, 3]) (rs := []) (ms := []) (t := (fun v5 : Int => (⟨[(2, .ptr 2 0), (3, .ptr 3 0), (5, .int .i64 v5)], [(2, [.int .i64 a0.Now, .int .i64 a0.Lease.Holder, .int .i64 a0.Lease.Epoch, .int .i64 a0.Lease.Until, .sl 1 (a0.Clocks.map e_i64), .sl 2 (a0.Trusts.map e_Trust), .sl 3 (a0.Wishes.map e_Wish), .sl 3 (a0.Replies.map e_Reply)]), (3, [.int .i64 b.Now, .int .i64 b.Lease.Holder, .int .i64 b.Lease.Epoch, .int .i64 b.Lease.Until, .sl 1 (b.Clocks.map e_i64), .sl 2 (b.Trusts.map e_Trust), .sl 3 (b.Wishes.map e_Wish), .sl 3 (b.Replies.map e_Reply)])], [], []⟩ : S)) 0) (by kernel_rfl) ?_
      refine Wk_iter (step := fun y => R_SameCourt_B3 a0 b y) (r := r) (fun v5 : Int => (⟨[(2, .ptr 2 0), (3, .ptr 3 0), (5, .int .i64 v5)], [(2, [.int .i64 a0.Now, .int .i64 a0.Lease.Holder, .int .i64 a0.Lease.Epoch, .int .i64 a0.Lease.Until, .sl 1 (a0.Clocks.map e_i64), .sl 2 (a0.Trusts.map e_Trust), .sl 3 (a0.Wishes.map e_Wish), .sl 3 (a0.Replies.map e_Reply)]), (3, [.int .i64 b.Now, .int .i64 b.Lease.Holder, .int .i64 b.Lease.Epoch, .int .i64 b.Lease.Until, .sl 1 (b.Clocks.map e_i64), .sl 2 (b.Trusts.map e_Trust), .sl 3 (b.Wishes.map e_Wish), .sl 3 (b.Replies.map e_Reply)])], [], []⟩ : S)) 0 hF ?_
      intro n1 v5 y1 hF ih1 dn1
      have hF : R_SameCourt_B3 a0 b v5 = some y1 := hF
      unfold R_SameCourt_B3 at hF
      refine Wk_seq ?_
      refine Wk_seq ?_
      refine WR [.nat (a0.Trusts.length : Int)] [2, 3, 5, 59] [2, 3] [] [] ⟨[(2, .ptr 2 0), (3, .ptr 3 0), (5, .int .i64 v5), (59, .bool (decide (v5 < (a0.Trusts.length : Int))))], [(2, [.int .i64 a0.Now, .int .i64 a0.Lease.Holder, .int .i64 a0.Lease.Epoch, .int .i64 a0.Lease.Until, .sl 1 (a0.Clocks.map e_i64), .sl 2 (a0.Trusts.map e_Trust), .sl 3 (a0.Wishes.map e_Wish), .sl 3 (a0.Replies.map e_Reply)]), (3, [.int .i64 b.Now, .int .i64 b.Lease.Holder, .int .i64 b.Lease.Epoch, .int .i64 b.Lease.Until, .sl 1 (b.Clocks.map e_i64), .sl 2 (b.Trusts.map e_Trust), .sl 3 (b.Wishes.map e_Wish), .sl 3 (b.Replies.map e_Reply)])], [], []⟩ (.cons (len_ok e_Trust a0.Trusts) .nil) (by kernel_rfl) ?_
      refine Wk_split rfl (fun hb => ?_) (fun hb => ?_)
      · have hF := ite_t hF hb
        refine Wk_skip ?_
        refine Wk_seq ?_
        refine Wk_block ?_
        refine Wk_seq ?_
        obtain ⟨h5, hF⟩ := asrt_elim hF
        obtain ⟨h6, hF⟩ := asrt_elim hF
        refine WD [.av (e_Trust (lget a0.Trusts v5)), .av (e_Trust (lget b.Trusts v5))] [2, 3, 5, 72] [2, 3] [] [] ⟨[(2, .ptr 2 0), (3, .ptr 3 0), (5, .int .i64 v5), (72, .bool (!(decide ((lget a0.Trusts v5).Epoch = (lget b.Trusts v5).Epoch) && (decide ((lget a0.Trusts v5).Until = (lget b.Trusts v5).Until) && true))))], [(2, [.int .i64 a0.Now, .int .i64 a0.Lease.Holder, .int .i64 a0.Lease.Epoch, .int .i64 a0.Lease.Until, .sl 1 (a0.Clocks.map e_i64), .sl 2 (a0.Trusts.map e_Trust), .sl 3 (a0.Wishes.map e_Wish), .sl 3 (a0.Replies.map e_Reply)]), (3, [.int .i64 b.Now, .int .i64 b.Lease.Holder, .int .i64 b.Lease.Epoch, .int .i64 b.Lease.Until, .sl 1 (b.Clocks.map e_i64), .sl 2 (b.Trusts.map e_Trust), .sl 3 (b.Wishes.map e_Wish), .sl 3 (b.Replies.map e_Reply)])], [], []⟩ (.cons (idx_ok e_Trust h5) (.cons (idx_ok e_Trust h6) .nil)) (by kernel_rfl) ?_
        refine Wk_split rfl (fun hb => ?_) (fun hb => ?_)
        · have hF := ite_t hF hb
          refine Wk_seq ?_
          refine WR [] [4] [] [] [] ⟨[(4, .bool false)], [], [], []⟩ .nil (by kernel_rfl) ?_
          have hF := ret_done hF dn1
          have hF := some_elim hF
          exact Wk_ret (hfin _ (by rw [← hF]; kernel_rfl))
        · have hF := ite_f hF hb
          refine Wk_skip ?_
          refine Wk_blk ?_
          refine WR [] [2, 3, 5] [2, 3] [] [] ⟨[(2, .ptr 2 0), (3, .ptr 3 0), (5, .int .i64 (w64 (v5 + 1)))], [(2, [.int .i64 a0.Now, .int .i64 a0.Lease.Holder, .int .i64 a0.Lease.Epoch, .int .i64 a0.Lease.Until, .sl 1 (a0.Clocks.map e_i64), .sl 2 (a0.Trusts.map e_Trust), .sl 3 (a0.Wishes.map e_Wish), .sl 3 (a0.Replies.map e_Reply)]), (3, [.int .i64 b.Now, .int .i64 b.Lease.Holder, .int .i64 b.Lease.Epoch, .int .i64 b.Lease.Until, .sl 1 (b.Clocks.map e_i64), .sl 2 (b.Trusts.map e_Trust), .sl 3 (b.Wishes.map e_Wish), .sl 3 (b.Replies.map e_Reply)])], [], []⟩ .nil (by kernel_rfl) ?_
          refine Wk_trim (fs := [2, 3, 5]) (bs := [2, 3]) (rs := []) (ms := []) ?_ (ih1 _ (some_elim hF).symm)
          kernel_rfl
      · have hF := ite_f hF hb
        refine Wk_exit rfl ?_
        have hF := inrO_done hF dn1
        exact Wk_metP () [2, 3] [2, 3] [] [] hF (by kernel_rfl)
    · intro v hF
      have hF : R_SameCourt_J1 a0 b v = some r := hF
      unfold R_SameCourt_J1 at hF
      refine Wk_seq ?_
      refine Wk_seq ?_
      refine WR [] [2, 3, 6] [2, 3] [] [] ⟨[(2, .ptr 2 0), (3, .ptr 3 0), (6, .int .i64 0)], [(2, [.int .i64 a0.Now, .int .i64 a0.Lease.Holder, .int .i64 a0.Lease.Epoch, .int .i64 a0.Lease.Until, .sl 1 (a0.Clocks.map e_i64), .sl 2 (a0.Trusts.map e_Trust), .sl 3 (a0.Wishes.map e_Wish), .sl 3 (a0.Replies.map e_Reply)]), (3, [.int .i64 b.Now, .int .i64 b.Lease.Holder, .int .i64 b.Lease.Epoch, .int .i64 b.Lease.Until, .sl 1 (b.Clocks.map e_i64), .sl 2 (b.Trusts.map e_Trust), .sl 3 (b.Wishes.map e_Wish), .sl 3 (b.Replies.map e_Reply)])], [], []⟩ .nil (by kernel_rfl) ?_
      refine Wk_meetP (fun v1 : Unit => (⟨[(2, .ptr 2 0), (3, .ptr 3 0)], [(2, [.int .i64 a0.Now, .int .i64 a0.Lease.Holder, .int .i64 a0.Lease.Epoch, .int .i64 a0.Lease.Until, .sl 1 (a0.Clocks.map e_i64), .sl 2 (a0.Trusts.map e_Trust), .sl 3 (a0.Wishes.map e_Wish), .sl 3 (a0.Replies.map e_Reply)]), (3, [.int .i64 b.Now, .int .i64 b.Lease.Holder, .int .i64 b.Lease.Epoch, .int .i64 b.Lease.Until, .sl 1 (b.Clocks.map e_i64), .sl 2 (b.Trusts.map e_Trust), .sl 3 (b.Wishes.map e_Wish), .sl 3 (b.Replies.map e_Reply)])], [], []⟩ : S)) (fun v1 => R_SameCourt_J2 a0 b v1 = some r) ?_ ?_
      · refine Wk_block ?_
        unfold R_SameCourt_L2 at hF
        refine Wk_trim (fs := [2, 3, 6]) (bs := [2, 3]) (rs := []) (ms := []) (t := (fun v4 : Int => (⟨[(2, .ptr 2 0), (3, .ptr 3 0), (6, .int .i64 v4)], [(2, [.int .i64 a0.Now, .int .i64 a0.Lease.Holder, .int .i64 a0.Lease.Epoch, .int .i64 a0.Lease.Until, .sl 1 (a0.Clocks.map e_i64), .sl 2 (a0.Trusts.map e_Trust), .sl 3 (a0.Wishes.map e_Wish), .sl 3 (a0.Replies.map e_Reply)]), (3, [.int .i64 b.Now, .int .i64 b.Lease.Holder, .int .i64 b.Lease.Epoch, .int .i64 b.Lease.Until, .sl 1 (b.Clocks.map e_i64), .sl 2 (b.Trusts.map e_Trust), .sl 3 (b.Wishes.map e_Wish), .sl 3 (b.Replies.map e_Reply)])], [], []⟩ : S)) 0) (by kernel_rfl) ?_
        refine Wk_iter (step := fun y => R_SameCourt_B2 a0 b y) (r := r) (fun v4 : Int => (⟨[(2, .ptr 2 0), (3, .ptr 3 0), (6, .int .i64 v4)], [(2, [.int .i64 a0.Now, .int .i64 a0.Lease.Holder, .int .i64 a0.Lease.Epoch, .int .i64 a0.Lease.Until, .sl 1 (a0.Clocks.map e_i64), .sl 2 (a0.Trusts.map e_Trust), .sl 3 (a0.Wishes.map e_Wish), .sl 3 (a0.Replies.map e_Reply)]), (3, [.int .i64 b.Now, .int .i64 b.Lease.Holder, .int .i64 b.Lease.Epoch, .int .i64 b.Lease.Until, .sl 1 (b.Clocks.map e_i64), .sl 2 (b.Trusts.map e_Trust), .sl 3 (b.Wishes.map e_Wish), .sl 3 (b.Replies.map e_Reply)])], [], []⟩ : S)) 0 hF ?_
        intro n1 v4 y1 hF ih1 dn1
        have hF : R_SameCourt_B2 a0 b v4 = some y1 := hF
        unfold R_SameCourt_B2 at hF
        refine Wk_seq ?_
        refine Wk_seq ?_
        refine WR [.nat (a0.Wishes.length : Int)] [2, 3, 6, 77] [2, 3] [] [] ⟨[(2, .ptr 2 0), (3, .ptr 3 0), (6, .int .i64 v4), (77, .bool (decide (v4 < (a0.Wishes.length : Int))))], [(2, [.int .i64 a0.Now, .int .i64 a0.Lease.Holder, .int .i64 a0.Lease.Epoch, .int .i64 a0.Lease.Until, .sl 1 (a0.Clocks.map e_i64), .sl 2 (a0.Trusts.map e_Trust), .sl 3 (a0.Wishes.map e_Wish), .sl 3 (a0.Replies.map e_Reply)]), (3, [.int .i64 b.Now, .int .i64 b.Lease.Holder, .int .i64 b.Lease.Epoch, .int .i64 b.Lease.Until, .sl 1 (b.Clocks.map e_i64), .sl 2 (b.Trusts.map e_Trust), .sl 3 (b.Wishes.map e_Wish), .sl 3 (b.Replies.map e_Reply)])], [], []⟩ (.cons (len_ok e_Wish a0.Wishes) .nil) (by kernel_rfl) ?_
        refine Wk_split rfl (fun hb => ?_) (fun hb => ?_)
        · have hF := ite_t hF hb
          refine Wk_skip ?_
          refine Wk_seq ?_
          refine Wk_block ?_
          refine Wk_seq ?_
          obtain ⟨h3, hF⟩ := asrt_elim hF
          obtain ⟨h4, hF⟩ := asrt_elim hF
          refine WD [.av (e_Wish (lget a0.Wishes v4)), .av (e_Wish (lget b.Wishes v4))] [2, 3, 6, 90] [2, 3] [] [] ⟨[(2, .ptr 2 0), (3, .ptr 3 0), (6, .int .i64 v4), (90, .bool (!(decide ((lget a0.Wishes v4).Who = (lget b.Wishes v4).Who) && (decide ((lget a0.Wishes v4).Sent = (lget b.Wishes v4).Sent) && (decide ((lget a0.Wishes v4).Epoch = (lget b.Wishes v4).Epoch) && true)))))], [(2, [.int .i64 a0.Now, .int .i64 a0.Lease.Holder, .int .i64 a0.Lease.Epoch, .int .i64 a0.Lease.Until, .sl 1 (a0.Clocks.map e_i64), .sl 2 (a0.Trusts.map e_Trust), .sl 3 (a0.Wishes.map e_Wish), .sl 3 (a0.Replies.map e_Reply)]), (3, [.int .i64 b.Now, .int .i64 b.Lease.Holder, .int .i64 b.Lease.Epoch, .int .i64 b.Lease.Until, .sl 1 (b.Clocks.map e_i64), .sl 2 (b.Trusts.map e_Trust), .sl 3 (b.Wishes.map e_Wish), .sl 3 (b.Replies.map e_Reply)])], [], []⟩ (.cons (idx_ok e_Wish h3) (.cons (idx_ok e_Wish h4) .nil)) (by kernel_rfl) ?_
          refine Wk_split rfl (fun hb => ?_) (fun hb => ?_)
          · have hF := ite_t hF hb
            refine Wk_seq ?_
            refine WR [] [4] [] [] [] ⟨[(4, .bool false)], [], [], []⟩ .nil (by kernel_rfl) ?_
            have hF := ret_done hF dn1
            have hF := some_elim hF
            exact Wk_ret (hfin _ (by rw [← hF]; kernel_rfl))
          · have hF := ite_f hF hb
            refine Wk_skip ?_
            refine Wk_blk ?_
            refine WR [] [2, 3, 6] [2, 3] [] [] ⟨[(2, .ptr 2 0), (3, .ptr 3 0), (6, .int .i64 (w64 (v4 + 1)))], [(2, [.int .i64 a0.Now, .int .i64 a0.Lease.Holder, .int .i64 a0.Lease.Epoch, .int .i64 a0.Lease.Until, .sl 1 (a0.Clocks.map e_i64), .sl 2 (a0.Trusts.map e_Trust), .sl 3 (a0.Wishes.map e_Wish), .sl 3 (a0.Replies.map e_Reply)]), (3, [.int .i64 b.Now, .int .i64 b.Lease.Holder, .int .i64 b.Lease.Epoch, .int .i64 b.Lease.Until, .sl 1 (b.Clocks.map e_i64), .sl 2 (b.Trusts.map e_Trust), .sl 3 (b.Wishes.map e_Wish), .sl 3 (b.Replies.map e_Reply)])], [], []⟩ .nil (by kernel_rfl) ?_
            refine Wk_trim (fs := [2, 3, 6]) (bs := [2, 3]) (rs := []) (ms := []) ?_ (ih1 _ (some_elim hF).symm)
            kernel_rfl
        · have hF := ite_f hF hb
          refine Wk_exit rfl ?_
          have hF := inrO_done hF dn1
          exact Wk_metP () [2, 3] [2, 3] [] [] hF (by kernel_rfl)
      · intro v1 hF
        have hF : R_SameCourt_J2 a0 b v1 = some r := hF
        unfold R_SameCourt_J2 at hF
        refine Wk_seq ?_
        refine Wk_seq ?_
        refine WR [] [2, 3, 7] [2, 3] [] [] ⟨[(2, .ptr 2 0), (3, .ptr 3 0), (7, .int .i64 0)], [(2, [.int .i64 a0.Now, .int .i64 a0.Lease.Holder, .int .i64 a0.Lease.Epoch, .int .i64 a0.Lease.Until, .sl 1 (a0.Clocks.map e_i64), .sl 2 (a0.Trusts.map e_Trust), .sl 3 (a0.Wishes.map e_Wish), .sl 3 (a0.Replies.map e_Reply)]), (3, [.int .i64 b.Now, .int .i64 b.Lease.Holder, .int .i64 b.Lease.Epoch, .int .i64 b.Lease.Until, .sl 1 (b.Clocks.map e_i64), .sl 2 (b.Trusts.map e_Trust), .sl 3 (b.Wishes.map e_Wish), .sl 3 (b.Replies.map e_Reply)])], [], []⟩ .nil (by kernel_rfl) ?_
        refine Wk_meetP (fun v2 : Unit => (⟨[], [], [], []⟩ : S)) (fun v2 => R_SameCourt_J3 v2 = some r) ?_ ?_
        · refine Wk_block ?_
          unfold R_SameCourt_L1 at hF
          refine Wk_trim (fs := [2, 3, 7]) (bs := [2, 3]) (rs := []) (ms := []) (t := (fun v3 : Int => (⟨[(2, .ptr 2 0), (3, .ptr 3 0), (7, .int .i64 v3)], [(2, [.int .i64 a0.Now, .int .i64 a0.Lease.Holder, .int .i64 a0.Lease.Epoch, .int .i64 a0.Lease.Until, .sl 1 (a0.Clocks.map e_i64), .sl 2 (a0.Trusts.map e_Trust), .sl 3 (a0.Wishes.map e_Wish), .sl 3 (a0.Replies.map e_Reply)]), (3, [.int .i64 b.Now, .int .i64 b.Lease.Holder, .int .i64 b.Lease.Epoch, .int .i64 b.Lease.Until, .sl 1 (b.Clocks.map e_i64), .sl 2 (b.Trusts.map e_Trust), .sl 3 (b.Wishes.map e_Wish), .sl 3 (b.Replies.map e_Reply)])], [], []⟩ : S)) 0) (by kernel_rfl) ?_
          refine Wk_iter (step := fun y => R_SameCourt_B1 a0 b y) (r := r) (fun v3 : Int => (⟨[(2, .ptr 2 0), (3, .ptr 3 0), (7, .int .i64 v3)], [(2, [.int .i64 a0.Now, .int .i64 a0.Lease.Holder, .int .i64 a0.Lease.Epoch, .int .i64 a0.Lease.Until, .sl 1 (a0.Clocks.map e_i64), .sl 2 (a0.Trusts.map e_Trust), .sl 3 (a0.Wishes.map e_Wish), .sl 3 (a0.Replies.map e_Reply)]), (3, [.int .i64 b.Now, .int .i64 b.Lease.Holder, .int .i64 b.Lease.Epoch, .int .i64 b.Lease.Until, .sl 1 (b.Clocks.map e_i64), .sl 2 (b.Trusts.map e_Trust), .sl 3 (b.Wishes.map e_Wish), .sl 3 (b.Replies.map e_Reply)])], [], []⟩ : S)) 0 hF ?_
          intro n1 v3 y1 hF ih1 dn1
          have hF : R_SameCourt_B1 a0 b v3 = some y1 := hF
          unfold R_SameCourt_B1 at hF
          refine Wk_seq ?_
          refine Wk_seq ?_
          refine WR [.nat (a0.Replies.length : Int)] [2, 3, 7, 95] [2, 3] [] [] ⟨[(2, .ptr 2 0), (3, .ptr 3 0), (7, .int .i64 v3), (95, .bool (decide (v3 < (a0.Replies.length : Int))))], [(2, [.int .i64 a0.Now, .int .i64 a0.Lease.Holder, .int .i64 a0.Lease.Epoch, .int .i64 a0.Lease.Until, .sl 1 (a0.Clocks.map e_i64), .sl 2 (a0.Trusts.map e_Trust), .sl 3 (a0.Wishes.map e_Wish), .sl 3 (a0.Replies.map e_Reply)]), (3, [.int .i64 b.Now, .int .i64 b.Lease.Holder, .int .i64 b.Lease.Epoch, .int .i64 b.Lease.Until, .sl 1 (b.Clocks.map e_i64), .sl 2 (b.Trusts.map e_Trust), .sl 3 (b.Wishes.map e_Wish), .sl 3 (b.Replies.map e_Reply)])], [], []⟩ (.cons (len_ok e_Reply a0.Replies) .nil) (by kernel_rfl) ?_
          refine Wk_split rfl (fun hb => ?_) (fun hb => ?_)
          · have hF := ite_t hF hb
            refine Wk_skip ?_
            refine Wk_seq ?_
            refine Wk_block ?_
            refine Wk_seq ?_
            obtain ⟨h1, hF⟩ := asrt_elim hF
            obtain ⟨h2, hF⟩ := asrt_elim hF
            refine WD [.av (e_Reply (lget a0.Replies v3)), .av (e_Reply (lget b.Replies v3))] [2, 3, 7, 108] [2, 3] [] [] ⟨[(2, .ptr 2 0), (3, .ptr 3 0), (7, .int .i64 v3), (108, .bool (!(decide ((lget a0.Replies v3).Who = (lget b.Replies v3).Who) && (decide (((lget a0.Replies v3).Trust).Epoch = ((lget b.Replies v3).Trust).Epoch) && (decide (((lget a0.Replies v3).Trust).Until = ((lget b.Replies v3).Trust).Until) && true)))))], [(2, [.int .i64 a0.Now, .int .i64 a0.Lease.Holder, .int .i64 a0.Lease.Epoch, .int .i64 a0.Lease.Until, .sl 1 (a0.Clocks.map e_i64), .sl 2 (a0.Trusts.map e_Trust), .sl 3 (a0.Wishes.map e_Wish), .sl 3 (a0.Replies.map e_Reply)]), (3, [.int .i64 b.Now, .int .i64 b.Lease.Holder, .int .i64 b.Lease.Epoch, .int .i64 b.Lease.Until, .sl 1 (b.Clocks.map e_i64), .sl 2 (b.Trusts.map e_Trust), .sl 3 (b.Wishes.map e_Wish), .sl 3 (b.Replies.map e_Reply)])], [], []⟩ (.cons (idx_ok e_Reply h1) (.cons (idx_ok e_Reply h2) .nil)) (by kernel_rfl) ?_
            refine Wk_split rfl (fun hb => ?_) (fun hb => ?_)
            · have hF := ite_t hF hb
              refine Wk_seq ?_
              refine WR [] [4] [] [] [] ⟨[(4, .bool false)], [], [], []⟩ .nil (by kernel_rfl) ?_
              have hF := ret_done hF dn1
              have hF := some_elim hF
              exact Wk_ret (hfin _ (by rw [← hF]; kernel_rfl))
            · have hF := ite_f hF hb
              refine Wk_skip ?_
              refine Wk_blk ?_
              refine WR [] [2, 3, 7] [2, 3] [] [] ⟨[(2, .ptr 2 0), (3, .ptr 3 0), (7, .int .i64 (w64 (v3 + 1)))], [(2, [.int .i64 a0.Now, .int .i64 a0.Lease.Holder, .int .i64 a0.Lease.Epoch, .int .i64 a0.Lease.Until, .sl 1 (a0.Clocks.map e_i64), .sl 2 (a0.Trusts.map e_Trust), .sl 3 (a0.Wishes.map e_Wish), .sl 3 (a0.Replies.map e_Reply)]), (3, [.int .i64 b.Now, .int .i64 b.Lease.Holder, .int .i64 b.Lease.Epoch, .int .i64 b.Lease.Until, .sl 1 (b.Clocks.map e_i64), .sl 2 (b.Trusts.map e_Trust), .sl 3 (b.Wishes.map e_Wish), .sl 3 (b.Replies.map e_Reply)])], [], []⟩ .nil (by kernel_rfl) ?_
              refine Wk_trim (fs := [2, 3, 7]) (bs := [2, 3]) (rs := []) (ms := []) ?_ (ih1 _ (some_elim hF).symm)
              kernel_rfl
          · have hF := ite_f hF hb
            refine Wk_exit rfl ?_
            have hF := inrO_done hF dn1
            exact Wk_metP () [] [] [] [] hF (by kernel_rfl)
        · intro v2 hF
          have hF : R_SameCourt_J3 v2 = some r := hF
          unfold R_SameCourt_J3 at hF
          refine Wk_seq ?_
          refine WR [] [4] [] [] [] ⟨[(4, .bool true)], [], [], []⟩ .nil (by kernel_rfl) ?_
          have hF := some_elim hF
          exact Wk_ret (hfin _ (by rw [← hF]; kernel_rfl))

/- tabularyref.FairCourts -/
noncomputable def R_FairCourts_J1 (v : Unit) : Option Bool :=
  some true
noncomputable def R_FairCourts_J2 (v1 : Int) (v2 : Unit) : Option (Int ⊕ Bool) :=
  some (Sum.inl (w64 (v1 + 1)))
noncomputable def R_FairCourts_J3 (v3 : Int) (v4 : Unit) : Option (Int ⊕ (Int ⊕ Bool)) :=
  some (Sum.inl (w64 (v3 + 1)))
noncomputable def R_FairCourts_J4 (v3 : Int) (v5 : Unit) : Option (Int ⊕ (Int ⊕ Bool)) :=
  R_FairCourts_J3 v3 ()
noncomputable def R_FairCourts_B3 (l : List Court) (span : Int) (v1 : Int) (v3 : Int) (v6 : Int) : Option (Int ⊕ (Int ⊕ (Int ⊕ Bool))) :=
  asrt (0 ≤ v1 ∧ v1 < (l.length : Int)) <|
  if (decide (v6 < (((lget l v1).Clocks).length : Int))) = true then
    asrt (0 ≤ v3 ∧ v3 < (l.length : Int)) <|
    asrt (0 ≤ v6 ∧ v6 < (((lget l v3).Clocks).length : Int)) <|
    asrt (0 ≤ v1 ∧ v1 < (l.length : Int)) <|
    asrt (0 ≤ v6 ∧ v6 < (((lget l v1).Clocks).length : Int)) <|
    if (decide ((w64 ((lget ((lget l v3).Clocks) v6) - (lget ((lget l v1).Clocks) v6))) < (w64 (span - (w64 (Int.tdiv span 4)))))) = true then
      some (Sum.inr (Sum.inr (Sum.inr false)))
    else
      some (Sum.inl (w64 (v6 + 1)))
  else
    inrO (R_FairCourts_J4 v3 ())
noncomputable def R_FairCourts_L3 (l : List Court) (span : Int) (v1 : Int) (v3 : Int) (v0 : Int) : Option (Int ⊕ (Int ⊕ Bool)) :=
  loopO (fun y => R_FairCourts_B3 l span v1 v3 y) v0
noncomputable def R_FairCourts_B2 (l : List Court) (span : Int) (v1 : Int) (v3 : Int) : Option (Int ⊕ (Int ⊕ Bool)) :=
  if (decide (v3 < (l.length : Int))) = true then
    asrt (0 ≤ v3 ∧ v3 < (l.length : Int)) <|
    asrt (0 ≤ v1 ∧ v1 < (l.length : Int)) <|
    if (decide ((w64 (((lget l v3).Now) - ((lget l v1).Now))) < span)) = true then
      R_FairCourts_J3 v3 ()
    else
      R_FairCourts_L3 l span v1 v3 0
  else
    inrO (R_FairCourts_J2 v1 ())
noncomputable def R_FairCourts_L2 (l : List Court) (span : Int) (v1 : Int) (v0 : Int) : Option (Int ⊕ Bool) :=
  loopO (fun y => R_FairCourts_B2 l span v1 y) v0
noncomputable def R_FairCourts_B1 (l : List Court) (span : Int) (v1 : Int) : Option (Int ⊕ Bool) :=
  if (decide (v1 < (l.length : Int))) = true then
    R_FairCourts_L2 l span v1 v1
  else
    inrO (R_FairCourts_J1 ())
noncomputable def R_FairCourts_L1 (l : List Court) (span : Int) (v0 : Int) : Option Bool :=
  loopO (fun y => R_FairCourts_B1 l span y) v0
noncomputable def R_FairCourts (l : List Court) (span : Int) : Option Bool :=
  R_FairCourts_L1 l span 0
theorem R_FairCourts_ok (l : List Court) (span : Int) (r : Bool) (hF : R_FairCourts l span = some r) : Pc Try.prog 26 [.sl 8 (l.map e_Court), .int .i64 span] (.bool r) := by
  refine Pc_of (N := 66) (res := [.tmp 4]) (ts := [4]) Ty.ok Fn.b26 Try.func26 rfl rfl rfl rfl rfl ?_
  intro Q g hfin
  unfold R_FairCourts at hF
  refine Wk_seq ?_
  refine WR [] [0, 1] [] [] [] ⟨[(0, .sl 8 (l.map e_Court)), (1, .int .i64 span)], [], [], []⟩ .nil (by kernel_rfl) ?_
  refine Wk_seq ?_
  refine Wk_seq ?_
  refine WR [] [0, 1, 5] [] [] [] ⟨[(0, .sl 8 (l.map e_Court)), (1, .int .i64 span), (5, .int .i64 0)], [], [], []⟩ .nil (by kernel_rfl) ?_
  refine Wk_meetP (fun v : Unit => (⟨[], [], [], []⟩ : S)) (fun v => R_FairCourts_J1 v = some r) ?_ ?_
  · refine Wk_block ?_
    unfold R_FairCourts_L1 at hF
    refine Wk_trim (fs := [0, 1, 5]) (bs := []) (rs := []) (ms := []) (t := (fun v1 : Int => (⟨[(0, .sl 8 (l.map e_Court)), (1, .int .i64 span), (5, .int .i64 v1)], [], [], []⟩ : S)) 0) (by kernel_rfl) ?_
    refine Wk_iter (step := fun y => R_FairCourts_B1 l span y) (r := r) (fun v1 : Int => (⟨[(0, .sl 8 (l.map e_Court)), (1, .int .i64 span), (5, .int .i64 v1)], [], [], []⟩ : S)) 0 hF ?_
    intro n1 v1 y1 hF ih1 dn1
    have hF : R_FairCourts_B1 l span v1 = some y1 := hF
    unfold R_FairCourts_B1 at hF
    refine Wk_seq ?_
    refine Wk_seq ?_
    refine WR [.nat (l.length : Int)] [0, 1, 5, 11] [] [] [] ⟨[(0, .sl 8 (l.map e_Court)), (1, .int .i64 span), (5, .int .i64 v1), (11, .bool (decide (v1 < (l.length : Int))))], [], [], []⟩ (.cons (len_ok e_Court l) .nil) (by kernel_rfl) ?_
    refine Wk_split rfl (fun hb => ?_) (fun hb => ?_)
    · have hF := ite_t hF hb
      refine Wk_skip ?_
      refine Wk_seq ?_
      refine Wk_block ?_
      refine Wk_seq ?_
      refine WR [] [0, 1, 5, 6] [] [] [] ⟨[(0, .sl 8 (l.map e_Court)), (1, .int .i64 span), (5, .int .i64 v1), (6, .int .i64 v1)], [], [], []⟩ .nil (by kernel_rfl) ?_
      refine Wk_meetP (fun v2 : Unit => (⟨[(0, .sl 8 (l.map e_Court)), (1, .int .i64 span), (5, .int .i64 v1)], [], [], []⟩ : S)) (fun v2 => R_FairCourts_J2 v1 v2 = some y1) ?_ ?_
      · refine Wk_block ?_
        unfold R_FairCourts_L2 at hF
        refine Wk_trim (fs := [0, 1, 5, 6]) (bs := []) (rs := []) (ms := []) (t := (fun v3 : Int => (⟨[(0, .sl 8 (l.map e_Court)), (1, .int .i64 span), (5, .int .i64 v1), (6, .int .i64 v3)], [], [], []⟩ : S)) v1) (by kernel_rfl) ?_
        refine Wk_iter (step := fun y => R_FairCourts_B2 l span v1 y) (r := y1) (fun v3 : Int => (⟨[(0, .sl 8 (l.map e_Court)), (1, .int .i64 span), (5, .int .i64 v1), (6, .int .i64 v3)], [], [], []⟩ : S)) v1 hF ?_
        intro n2 v3 y2 hF ih2 dn2
        have hF : R_FairCourts_B2 l span v1 v3 = some y2 := hF
        unfold R_FairCourts_B2 at hF
        refine Wk_seq ?_
        refine Wk_seq ?_
        refine WR [.nat (l.length : Int)] [0, 1, 5, 6, 18] [] [] [] ⟨[(0, .sl 8 (l.map e_Court)), (1, .int .i64 span), (5, .int .i64 v1), (6, .int .i64 v3), (18, .bool (decide (v3 < (l.length : Int))))], [], [], []⟩ (.cons (len_ok e_Court l) .nil) (by kernel_rfl) ?_
        refine Wk_split rfl (fun hb => ?_) (fun hb => ?_)
        · have hF := ite_t hF hb
          refine Wk_skip ?_
          refine Wk_seq ?_
          refine Wk_meetP (fun v4 : Unit => (⟨[(0, .sl 8 (l.map e_Court)), (1, .int .i64 span), (5, .int .i64 v1), (6, .int .i64 v3)], [], [], []⟩ : S)) (fun v4 => R_FairCourts_J3 v3 v4 = some y2) ?_ ?_
          · refine Wk_block ?_
            refine Wk_seq ?_
            refine Wk_seq ?_
            obtain ⟨h0, hF⟩ := asrt_elim hF
            obtain ⟨h1, hF⟩ := asrt_elim hF
            refine WD [.av (e_Court (lget l v3)), .av (e_Court (lget l v1))] [0, 1, 5, 6, 33] [] [] [] ⟨[(0, .sl 8 (l.map e_Court)), (1, .int .i64 span), (5, .int .i64 v1), (6, .int .i64 v3), (33, .bool (decide ((w64 (((lget l v3).Now) - ((lget l v1).Now))) < span)))], [], [], []⟩ (.cons (idx_ok e_Court h0) (.cons (idx_ok e_Court h1) .nil)) (by kernel_rfl) ?_
            refine Wk_split rfl (fun hb => ?_) (fun hb => ?_)
            · have hF := ite_t hF hb
              refine Wk_exit rfl ?_
              exact Wk_metP () [0, 1, 5, 6] [] [] [] hF (by kernel_rfl)
            · have hF := ite_f hF hb
              refine Wk_skip ?_
              refine Wk_seq ?_
              refine WR [] [0, 1, 5, 6, 7] [] [] [] ⟨[(0, .sl 8 (l.map e_Court)), (1, .int .i64 span), (5, .int .i64 v1), (6, .int .i64 v3), (7, .int .i64 0)], [], [], []⟩ .nil (by kernel_rfl) ?_
              refine Wk_meetP (fun v5 : Unit => (⟨[(0, .sl 8 (l.map e_Court)), (1, .int .i64 span), (5, .int .i64 v1), (6, .int .i64 v3)], [], [], []⟩ : S)) (fun v5 => R_FairCourts_J4 v3 v5 = some y2) ?_ ?_
              · refine Wk_block ?_
                unfold R_FairCourts_L3 at hF
                refine Wk_trim (fs := [0, 1, 5, 6, 7]) (bs := []) (rs := []) (ms := []) (t := (fun v6 : Int => (⟨[(0, .sl 8 (l.map e_Court)), (1, .int .i64 span), (5, .int .i64 v1), (6, .int .i64 v3), (7, .int .i64 v6)], [], [], []⟩ : S)) 0) (by kernel_rfl) ?_
                refine Wk_iter (step := fun y => R_FairCourts_B3 l span v1 v3 y) (r := y2) (fun v6 : Int => (⟨[(0, .sl 8 (l.map e_Court)), (1, .int .i64 span), (5, .int .i64 v1), (6, .int .i64 v3), (7, .int .i64 v6)], [], [], []⟩ : S)) 0 hF ?_
                intro n3 v6 y3 hF ih3 dn3
                have hF : R_FairCourts_B3 l span v1 v3 v6 = some y3 := hF
                unfold R_FairCourts_B3 at hF
                refine Wk_seq ?_
                refine Wk_seq ?_
                obtain ⟨h2, hF⟩ := asrt_elim hF
                refine WR [.av (e_Court (lget l v1)), .nat (((lget l v1).Clocks).length : Int)] [0, 1, 5, 6, 7, 41] [] [] [] ⟨[(0, .sl 8 (l.map e_Court)), (1, .int .i64 span), (5, .int .i64 v1), (6, .int .i64 v3), (7, .int .i64 v6), (41, .bool (decide (v6 < (((lget l v1).Clocks).length : Int))))], [], [], []⟩ (.cons (idx_ok e_Court h2) (.cons (len_ok e_i64 ((lget l v1).Clocks)) .nil)) (by kernel_rfl) ?_
                refine Wk_split rfl (fun hb => ?_) (fun hb => ?_)
                · have hF := ite_t hF hb
                  refine Wk_skip ?_
                  refine Wk_seq ?_
                  refine Wk_block ?_
                  refine Wk_seq ?_
                  obtain ⟨h3, hF⟩ := asrt_elim hF
                  obtain ⟨h4, hF⟩ := asrt_elim hF
                  obtain ⟨h5, hF⟩ := asrt_elim hF
                  obtain ⟨h6, hF⟩ := asrt_elim hF
                  refine WD [.av (e_Court (lget l v3)), .av (e_i64 (lget ((lget l v3).Clocks) v6)), .av (e_Court (lget l v1)), .av (e_i64 (lget ((lget l v1).Clocks) v6))] [0, 1, 5, 6, 7, 65] [] [] [] ⟨[(0, .sl 8 (l.map e_Court)), (1, .int .i64 span), (5, .int .i64 v1), (6, .int .i64 v3), (7, .int .i64 v6), (65, .bool (decide ((w64 ((lget ((lget l v3).Clocks) v6) - (lget ((lget l v1).Clocks) v6))) < (w64 (span - (w64 (Int.tdiv span 4)))))))], [], [], []⟩ (.cons (idx_ok e_Court h3) (.cons (idx_ok e_i64 h4) (.cons (idx_ok e_Court h5) (.cons (idx_ok e_i64 h6) (.cons (by decide : (4 : Int) ≠ 0) .nil))))) (by kernel_rfl) ?_
                  refine Wk_split rfl (fun hb => ?_) (fun hb => ?_)
                  · have hF := ite_t hF hb
                    refine Wk_seq ?_
                    refine WR [] [4] [] [] [] ⟨[(4, .bool false)], [], [], []⟩ .nil (by kernel_rfl) ?_
                    have hF := ret_done hF dn3
                    have hF := ret_done hF dn2
                    have hF := ret_done hF dn1
                    have hF := some_elim hF
                    exact Wk_ret (hfin _ (by rw [← hF]; kernel_rfl))
                  · have hF := ite_f hF hb
                    refine Wk_skip ?_
                    refine Wk_blk ?_
                    refine WR [] [0, 1, 5, 6, 7] [] [] [] ⟨[(0, .sl 8 (l.map e_Court)), (1, .int .i64 span), (5, .int .i64 v1), (6, .int .i64 v3), (7, .int .i64 (w64 (v6 + 1)))], [], [], []⟩ .nil (by kernel_rfl) ?_
                    refine Wk_trim (fs := [0, 1, 5, 6, 7]) (bs := []) (rs := []) (ms := []) ?_ (ih3 _ (some_elim hF).symm)
                    kernel_rfl
                · have hF := ite_f hF hb
                  refine Wk_exit rfl ?_
                  have hF := inrO_done hF dn3
                  exact Wk_metP () [0, 1, 5, 6] [] [] [] hF (by kernel_rfl)
              · intro v5 hF
                have hF : R_FairCourts_J4 v3 v5 = some y2 := hF
                unfold R_FairCourts_J4 at hF
                refine Wk_blk ?_
                exact Wk_metP () [0, 1, 5, 6] [] [] [] hF (by kernel_rfl)
          · intro v4 hF
            have hF : R_FairCourts_J3 v3 v4 = some y2 := hF
            unfold R_FairCourts_J3 at hF
            refine WR [] [0, 1, 5, 6] [] [] [] ⟨[(0, .sl 8 (l.map e_Court)), (1, .int .i64 span), (5, .int .i64 v1), (6, .int .i64 (w64 (v3 + 1)))], [], [], []⟩ .nil (by kernel_rfl) ?_
            refine Wk_trim (fs := [0, 1, 5, 6]) (bs := []) (rs := []) (ms := []) ?_ (ih2 _ (some_elim hF).symm)
            kernel_rfl
        · have hF := ite_f hF hb
          refine Wk_exit rfl ?_
          have hF := inrO_done hF dn2
          exact Wk_metP () [0, 1, 5] [] [] [] hF (by kernel_rfl)
      · intro v2 hF
        have hF : R_FairCourts_J2 v1 v2 = some y1 := hF
        unfold R_FairCourts_J2 at hF
        refine Wk_blk ?_
        refine WR [] [0, 1, 5] [] [] [] ⟨[(0, .sl 8 (l.map e_Court)), (1, .int .i64 span), (5, .int .i64 (w64 (v1 + 1)))], [], [], []⟩ .nil (by kernel_rfl) ?_
        refine Wk_trim (fs := [0, 1, 5]) (bs := []) (rs := []) (ms := []) ?_ (ih1 _ (some_elim hF).symm)
        kernel_rfl
    · have hF := ite_f hF hb
      refine Wk_exit rfl ?_
      have hF := inrO_done hF dn1
      exact Wk_metP () [] [] [] [] hF (by kernel_rfl)
  · intro v hF
    have hF : R_FairCourts_J1 v = some r := hF
    unfold R_FairCourts_J1 at hF
    refine Wk_seq ?_
    refine WR [] [4] [] [] [] ⟨[(4, .bool true)], [], [], []⟩ .nil (by kernel_rfl) ?_
    have hF := some_elim hF
    exact Wk_ret (hfin _ (by rw [← hF]; kernel_rfl))

/- seal.fault -/
noncomputable def seal_fault (code : Int) (at0 : Int) : Fault :=
  (⟨code, at0⟩ : Fault)
theorem seal_fault_ok (code : Int) (at0 : Int) (r : Fault) (hF : seal_fault code at0 = r) : Pc Try.prog 62 [.int .i64 code, .int .i64 at0] (.agg [.int .i64 r.Code, .int .i64 r.At]) := by
  refine Pc_of (N := 8) (res := [.cell 4 25]) (ts := [25]) Ty.ok Fn.b62 Try.func62 rfl rfl rfl rfl rfl ?_
  intro Q g hfin
  unfold seal_fault at hF
  refine Wk_seq ?_
  refine WR [] [0, 1, 4] [4] [] [] ⟨[(0, .int .i64 code), (1, .int .i64 at0), (4, .ptr 4 0)], [(4, [.int .i64 0, .int .i64 0])], [], []⟩ .nil (by kernel_rfl) ?_
  refine Wk_seq ?_
  refine WR [] [4] [4] [] [] ⟨[(4, .ptr 4 0)], [(4, [.int .i64 code, .int .i64 at0])], [], []⟩ .nil (by kernel_rfl) ?_
  exact Wk_ret (hfin _ (by rw [← hF]; kernel_rfl))

/- seal.long$1 -/
noncomputable def seal_long_1 (s0 : List UInt8) : Bool :=
  decide (200 < (s0.length : Int))
theorem seal_long_1_ok (s0 : List UInt8) (r : Bool) (hF : seal_long_1 s0 = r) : Pc Try.prog 75 [.str s0] (.bool r) := by
  refine Pc_of (N := 6) (res := [.tmp 2]) (ts := [4]) Ty.ok Fn.b75 Try.func75 rfl rfl rfl rfl rfl ?_
  intro Q g hfin
  unfold seal_long_1 at hF
  refine Wk_seq ?_
  refine WR [] [0] [] [] [] ⟨[(0, .str s0)], [], [], []⟩ .nil (by kernel_rfl) ?_
  refine Wk_seq ?_
  refine WR [] [2] [] [] [] ⟨[(2, .bool (decide (200 < (s0.length : Int))))], [], [], []⟩ .nil (by kernel_rfl) ?_
  exact Wk_ret (hfin _ (by rw [← hF]; kernel_rfl))

/- seal.number -/
noncomputable def seal_number (num : Int) : Bool :=
  (decide (0 ≤ num)) && (decide (num ≤ 1000000000))
theorem seal_number_ok (num : Int) (r : Bool) (hF : seal_number num = r) : Pc Try.prog 61 [.int .i64 num] (.bool r) := by
  refine Pc_of (N := 9) (res := [.tmp 2]) (ts := [4]) Ty.ok Fn.b61 Try.func61 rfl rfl rfl rfl rfl ?_
  intro Q g hfin
  unfold seal_number at hF
  refine Wk_seq ?_
  refine WR [] [0] [] [] [] ⟨[(0, .int .i64 num)], [], [], []⟩ .nil (by kernel_rfl) ?_
  refine Wk_seq ?_
  refine WR [] [2] [] [] [] ⟨[(2, .bool ((decide (0 ≤ num)) && (decide (num ≤ 1000000000))))], [], [], []⟩ .nil (by kernel_rfl) ?_
  exact Wk_ret (hfin _ (by rw [← hF]; kernel_rfl))

/- seal.stale -/
noncomputable def seal_stale (c : Copy) (epoch : Int) : Fault :=
  if (decide (epoch < c.Epoch)) = true then
    lt (seal_fault 12 (-1)) fun x =>
    x
  else
    (⟨0, 0⟩ : Fault)
theorem seal_stale_ok (c : Copy) (epoch : Int) (r : Fault) (hF : seal_stale c epoch = r) : Pc Try.prog 65 [.agg [.int .i64 c.Epoch, .bool c.Closed, .sl 1 (c.Recs.map e_str), .int .i64 c.Ended], .int .i64 epoch] (.agg [.int .i64 r.Code, .int .i64 r.At]) := by
  refine Pc_of (N := 11) (res := [.cell 4 25]) (ts := [25]) Ty.ok Fn.b65 Try.func65 rfl rfl rfl rfl rfl ?_
  intro Q g hfin
  unfold seal_stale at hF
  refine Wk_seq ?_
  refine WR [] [1, 2, 4] [2, 4] [] [] ⟨[(1, .int .i64 epoch), (2, .ptr 2 0), (4, .ptr 4 0)], [(2, [.int .i64 c.Epoch, .bool c.Closed, .sl 1 (c.Recs.map e_str), .int .i64 c.Ended]), (4, [.int .i64 0, .int .i64 0])], [], []⟩ .nil (by kernel_rfl) ?_
  refine Wk_seq ?_
  refine Wk_seq ?_
  refine WR [] [4, 8] [4] [] [] ⟨[(4, .ptr 4 0), (8, .bool (decide (epoch < c.Epoch)))], [(4, [.int .i64 0, .int .i64 0])], [], []⟩ .nil (by kernel_rfl) ?_
  refine Wk_split rfl (fun hb => ?_) (fun hb => ?_)
  · have hF := ite_t hF hb
    refine Wk_seq ?_
    obtain ⟨x, h0, hF⟩ := lt_split hF
    refine WR [.call (.agg [.int .i64 x.Code, .int .i64 x.At])] [4] [4] [] [] ⟨[(4, .ptr 4 0)], [(4, [.int .i64 x.Code, .int .i64 x.At])], [], []⟩ (.cons (seal_fault_ok 12 (-1) x h0) .nil) (by kernel_rfl) ?_
    exact Wk_ret (hfin _ (by rw [← hF]; kernel_rfl))
  · have hF := ite_f hF hb
    refine Wk_skip ?_
    refine Wk_seq ?_
    refine WR [] [4] [4] [] [] ⟨[(4, .ptr 4 0)], [(4, [.int .i64 0, .int .i64 0])], [], []⟩ .nil (by kernel_rfl) ?_
    exact Wk_ret (hfin _ (by rw [← hF]; kernel_rfl))

/- slices.Index[[]int,int] -/
noncomputable def slices_Index_int_int_J1 (v1 : Unit) : Option Int :=
  some (-1)
noncomputable def slices_Index_int_int_B1 (s0 : List Int) (v : Int) (v2 : Int) : Option (Int ⊕ Int) :=
  if (decide (v2 < (s0.length : Int))) = true then
    asrt (0 ≤ v2 ∧ v2 < (s0.length : Int)) <|
    if (decide (v = (lget s0 v2))) = true then
      some (Sum.inr v2)
    else
      some (Sum.inl (w64 (v2 + 1)))
  else
    inrO (slices_Index_int_int_J1 ())
noncomputable def slices_Index_int_int_L1 (s0 : List Int) (v : Int) (v0 : Int) : Option Int :=
  loopO (fun y => slices_Index_int_int_B1 s0 v y) v0
noncomputable def slices_Index_int_int (s0 : List Int) (v : Int) : Option Int :=
  slices_Index_int_int_L1 s0 v 0
theorem slices_Index_int_int_ok (s0 : List Int) (v : Int) (r : Int) (hF : slices_Index_int_int s0 v = some r) : Pc Try.prog 86 [.sl 1 (s0.map e_i64), .int .i64 v] (.int .i64 r) := by
  refine Pc_of (N := 19) (res := [.tmp 4]) (ts := [3]) Ty.ok Fn.b86 Try.func86 rfl rfl rfl rfl rfl ?_
  intro Q g hfin
  unfold slices_Index_int_int at hF
  refine Wk_seq ?_
  refine WR [] [0, 1] [] [] [] ⟨[(0, .sl 1 (s0.map e_i64)), (1, .int .i64 v)], [], [], []⟩ .nil (by kernel_rfl) ?_
  refine Wk_seq ?_
  refine Wk_seq ?_
  refine WR [.nat (s0.length : Int)] [0, 1, 7, 8] [] [] [] ⟨[(0, .sl 1 (s0.map e_i64)), (1, .int .i64 v), (7, .int .i64 (s0.length : Int)), (8, .int .i64 0)], [], [], []⟩ (.cons (len_ok e_i64 s0) .nil) (by kernel_rfl) ?_
  refine Wk_meetP (fun v1 : Unit => (⟨[], [], [], []⟩ : S)) (fun v1 => slices_Index_int_int_J1 v1 = some r) ?_ ?_
  · refine Wk_block ?_
    unfold slices_Index_int_int_L1 at hF
    refine Wk_trim (fs := [0, 1, 7, 8]) (bs := []) (rs := []) (ms := []) (t := (fun v2 : Int => (⟨[(0, .sl 1 (s0.map e_i64)), (1, .int .i64 v), (7, .int .i64 (s0.length : Int)), (8, .int .i64 v2)], [], [], []⟩ : S)) 0) (by kernel_rfl) ?_
    refine Wk_iter (step := fun y => slices_Index_int_int_B1 s0 v y) (r := r) (fun v2 : Int => (⟨[(0, .sl 1 (s0.map e_i64)), (1, .int .i64 v), (7, .int .i64 (s0.length : Int)), (8, .int .i64 v2)], [], [], []⟩ : S)) 0 hF ?_
    intro n1 v2 y1 hF ih1 dn1
    have hF : slices_Index_int_int_B1 s0 v v2 = some y1 := hF
    unfold slices_Index_int_int_B1 at hF
    refine Wk_seq ?_
    refine WR [] [0, 1, 7, 8, 9] [] [] [] ⟨[(0, .sl 1 (s0.map e_i64)), (1, .int .i64 v), (7, .int .i64 (s0.length : Int)), (8, .int .i64 v2), (9, .bool (decide (v2 < (s0.length : Int))))], [], [], []⟩ .nil (by kernel_rfl) ?_
    refine Wk_seq ?_
    refine Wk_split rfl (fun hb => ?_) (fun hb => ?_)
    · have hF := ite_t hF hb
      refine Wk_skip ?_
      refine Wk_seq ?_
      refine Wk_block ?_
      refine Wk_seq ?_
      refine WR [] [0, 1, 5, 7, 8] [] [] [] ⟨[(0, .sl 1 (s0.map e_i64)), (1, .int .i64 v), (5, .int .i64 v2), (7, .int .i64 (s0.length : Int)), (8, .int .i64 v2)], [], [], []⟩ .nil (by kernel_rfl) ?_
      refine Wk_seq ?_
      obtain ⟨h0, hF⟩ := asrt_elim hF
      refine WR [.av (e_i64 (lget s0 v2))] [0, 1, 5, 7, 8, 16] [] [] [] ⟨[(0, .sl 1 (s0.map e_i64)), (1, .int .i64 v), (5, .int .i64 v2), (7, .int .i64 (s0.length : Int)), (8, .int .i64 v2), (16, .bool (decide (v = (lget s0 v2))))], [], [], []⟩ (.cons (idx_ok e_i64 h0) .nil) (by kernel_rfl) ?_
      refine Wk_split rfl (fun hb => ?_) (fun hb => ?_)
      · have hF := ite_t hF hb
        refine Wk_seq ?_
        refine WR [] [4] [] [] [] ⟨[(4, .int .i64 v2)], [], [], []⟩ .nil (by kernel_rfl) ?_
        have hF := ret_done hF dn1
        have hF := some_elim hF
        exact Wk_ret (hfin _ (by rw [← hF]; kernel_rfl))
      · have hF := ite_f hF hb
        refine Wk_skip ?_
        refine Wk_blk ?_
        refine WR [] [0, 1, 7, 8] [] [] [] ⟨[(0, .sl 1 (s0.map e_i64)), (1, .int .i64 v), (7, .int .i64 (s0.length : Int)), (8, .int .i64 (w64 (v2 + 1)))], [], [], []⟩ .nil (by kernel_rfl) ?_
        refine Wk_trim (fs := [0, 1, 7, 8]) (bs := []) (rs := []) (ms := []) ?_ (ih1 _ (some_elim hF).symm)
        kernel_rfl
    · have hF := ite_f hF hb
      refine Wk_exit rfl ?_
      have hF := inrO_done hF dn1
      exact Wk_metP () [] [] [] [] hF (by kernel_rfl)
  · intro v1 hF
    have hF : slices_Index_int_int_J1 v1 = some r := hF
    unfold slices_Index_int_int_J1 at hF
    refine Wk_seq ?_
    refine WR [] [4] [] [] [] ⟨[(4, .int .i64 (-1))], [], [], []⟩ .nil (by kernel_rfl) ?_
    have hF := some_elim hF
    exact Wk_ret (hfin _ (by rw [← hF]; kernel_rfl))

/- slices.Contains[[]int,int] -/
noncomputable def slices_Contains_int_int (s0 : List Int) (v : Int) : Option Bool :=
  ob (slices_Index_int_int s0 v) fun x =>
  some (decide (0 ≤ x))
theorem slices_Contains_int_int_ok (s0 : List Int) (v : Int) (r : Bool) (hF : slices_Contains_int_int s0 v = some r) : Pc Try.prog 79 [.sl 1 (s0.map e_i64), .int .i64 v] (.bool r) := by
  refine Pc_of (N := 9) (res := [.tmp 4]) (ts := [4]) Ty.ok Fn.b79 Try.func79 rfl rfl rfl rfl rfl ?_
  intro Q g hfin
  unfold slices_Contains_int_int at hF
  refine Wk_seq ?_
  refine WR [] [0, 1] [] [] [] ⟨[(0, .sl 1 (s0.map e_i64)), (1, .int .i64 v)], [], [], []⟩ .nil (by kernel_rfl) ?_
  refine Wk_seq ?_
  obtain ⟨x, h0, hF⟩ := ob_elim hF
  refine WR [.call (.int .i64 x)] [4] [] [] [] ⟨[(4, .bool (decide (0 ≤ x)))], [], [], []⟩ (.cons (slices_Index_int_int_ok s0 v x h0) .nil) (by kernel_rfl) ?_
  have hF := some_elim hF
  exact Wk_ret (hfin _ (by rw [← hF]; kernel_rfl))

/- seal.Sure -/
noncomputable def seal_Sure_J1 (v : Vault) (v1 : Unit) : Option (Int × Fault) :=
  some ((v.Took.length : Int), (⟨0, 0⟩ : Fault))
noncomputable def seal_Sure_B1 (v : Vault) (v2 : Int) : Option (Int ⊕ (Int × Fault)) :=
  if (decide (v2 < (v.Took.length : Int))) = true then
    asrt (0 ≤ v2 ∧ v2 < (v.Took.length : Int)) <|
    if (decide ((w64 (2 * ((lget v.Took v2).length : Int))) ≤ (v.Copies.length : Int))) = true then
      some (Sum.inr (v2, (⟨0, 0⟩ : Fault)))
    else
      some (Sum.inl (w64 (v2 + 1)))
  else
    inrO (seal_Sure_J1 v ())
noncomputable def seal_Sure_L1 (v : Vault) (v0 : Int) : Option (Int × Fault) :=
  loopO (fun y => seal_Sure_B1 v y) v0
noncomputable def seal_Sure (v : Vault) : Option (Int × Fault) :=
  if (!decide ((v.Wrote.length : Int) = (v.Took.length : Int))) = true then
    lt (seal_fault 5 0) fun x =>
    some (0, x)
  else
    seal_Sure_L1 v 0
theorem seal_Sure_ok (v : Vault) (r : Int × Fault) (hF : seal_Sure v = some r) : Pc Try.prog 46 [.agg [.sl 4 (v.Copies.map e_Copy), .sl 1 (v.Wrote.map e_str), .sl 1 (v.Took.map e_L_i64), .sl 6 (v.Heals.map e_Heal)]] (.tup [.int .i64 r.1, .agg [.int .i64 r.2.Code, .int .i64 r.2.At]]) := by
  refine Pc_of (N := 36) (res := [.tmp 2, .cell 3 25]) (ts := [3, 25]) Ty.ok Fn.b46 Try.func46 rfl rfl rfl rfl rfl ?_
  intro Q g hfin
  unfold seal_Sure at hF
  refine Wk_seq ?_
  refine WR [] [1, 3] [1, 3] [] [] ⟨[(1, .ptr 1 0), (3, .ptr 3 0)], [(1, [.sl 4 (v.Copies.map e_Copy), .sl 1 (v.Wrote.map e_str), .sl 1 (v.Took.map e_L_i64), .sl 6 (v.Heals.map e_Heal)]), (3, [.int .i64 0, .int .i64 0])], [], []⟩ .nil (by kernel_rfl) ?_
  refine Wk_seq ?_
  refine Wk_seq ?_
  refine WR [.nat (v.Wrote.length : Int), .nat (v.Took.length : Int)] [1, 3, 12] [1, 3] [] [] ⟨[(1, .ptr 1 0), (3, .ptr 3 0), (12, .bool (!decide ((v.Wrote.length : Int) = (v.Took.length : Int))))], [(1, [.sl 4 (v.Copies.map e_Copy), .sl 1 (v.Wrote.map e_str), .sl 1 (v.Took.map e_L_i64), .sl 6 (v.Heals.map e_Heal)]), (3, [.int .i64 0, .int .i64 0])], [], []⟩ (.cons (len_ok e_str v.Wrote) (.cons (len_ok e_L_i64 v.Took) .nil)) (by kernel_rfl) ?_
  refine Wk_split rfl (fun hb => ?_) (fun hb => ?_)
  · have hF := ite_t hF hb
    refine Wk_seq ?_
    obtain ⟨x, h0, hF⟩ := lt_split hF
    refine WR [.call (.agg [.int .i64 x.Code, .int .i64 x.At])] [2, 3] [3] [] [] ⟨[(2, .int .i64 0), (3, .ptr 3 0)], [(3, [.int .i64 x.Code, .int .i64 x.At])], [], []⟩ (.cons (seal_fault_ok 5 0 x h0) .nil) (by kernel_rfl) ?_
    have hF := some_elim hF
    exact Wk_ret (hfin _ (by rw [← hF]; kernel_rfl))
  · have hF := ite_f hF hb
    refine Wk_skip ?_
    refine Wk_seq ?_
    refine Wk_seq ?_
    refine WR [.nat (v.Took.length : Int)] [1, 3, 15, 16, 17] [1, 3] [] [] ⟨[(1, .ptr 1 0), (3, .ptr 3 0), (15, .sl 1 (v.Took.map e_L_i64)), (16, .int .i64 (v.Took.length : Int)), (17, .int .i64 0)], [(1, [.sl 4 (v.Copies.map e_Copy), .sl 1 (v.Wrote.map e_str), .sl 1 (v.Took.map e_L_i64), .sl 6 (v.Heals.map e_Heal)]), (3, [.int .i64 0, .int .i64 0])], [], []⟩ (.cons (len_ok e_L_i64 v.Took) .nil) (by kernel_rfl) ?_
    refine Wk_meetP (fun v1 : Unit => (⟨[(1, .ptr 1 0), (3, .ptr 3 0)], [(1, [.sl 4 (v.Copies.map e_Copy), .sl 1 (v.Wrote.map e_str), .sl 1 (v.Took.map e_L_i64), .sl 6 (v.Heals.map e_Heal)]), (3, [.int .i64 0, .int .i64 0])], [], []⟩ : S)) (fun v1 => seal_Sure_J1 v v1 = some r) ?_ ?_
    · refine Wk_block ?_
      unfold seal_Sure_L1 at hF
      refine Wk_trim (fs := [1, 3, 15, 16, 17]) (bs := [1, 3]) (rs := []) (ms := []) (t := (fun v2 : Int => (⟨[(1, .ptr 1 0), (3, .ptr 3 0), (15, .sl 1 (v.Took.map e_L_i64)), (16, .int .i64 (v.Took.length : Int)), (17, .int .i64 v2)], [(1, [.sl 4 (v.Copies.map e_Copy), .sl 1 (v.Wrote.map e_str), .sl 1 (v.Took.map e_L_i64), .sl 6 (v.Heals.map e_Heal)]), (3, [.int .i64 0, .int .i64 0])], [], []⟩ : S)) 0) (by kernel_rfl) ?_
      refine Wk_iter (step := fun y => seal_Sure_B1 v y) (r := r) (fun v2 : Int => (⟨[(1, .ptr 1 0), (3, .ptr 3 0), (15, .sl 1 (v.Took.map e_L_i64)), (16, .int .i64 (v.Took.length : Int)), (17, .int .i64 v2)], [(1, [.sl 4 (v.Copies.map e_Copy), .sl 1 (v.Wrote.map e_str), .sl 1 (v.Took.map e_L_i64), .sl 6 (v.Heals.map e_Heal)]), (3, [.int .i64 0, .int .i64 0])], [], []⟩ : S)) 0 hF ?_
      intro n1 v2 y1 hF ih1 dn1
      have hF : seal_Sure_B1 v v2 = some y1 := hF
      unfold seal_Sure_B1 at hF
      refine Wk_seq ?_
      refine WR [] [1, 3, 15, 16, 17, 18] [1, 3] [] [] ⟨[(1, .ptr 1 0), (3, .ptr 3 0), (15, .sl 1 (v.Took.map e_L_i64)), (16, .int .i64 (v.Took.length : Int)), (17, .int .i64 v2), (18, .bool (decide (v2 < (v.Took.length : Int))))], [(1, [.sl 4 (v.Copies.map e_Copy), .sl 1 (v.Wrote.map e_str), .sl 1 (v.Took.map e_L_i64), .sl 6 (v.Heals.map e_Heal)]), (3, [.int .i64 0, .int .i64 0])], [], []⟩ .nil (by kernel_rfl) ?_
      refine Wk_seq ?_
      refine Wk_split rfl (fun hb => ?_) (fun hb => ?_)
      · have hF := ite_t hF hb
        refine Wk_skip ?_
        refine Wk_seq ?_
        refine Wk_block ?_
        refine Wk_seq ?_
        obtain ⟨h1, hF⟩ := asrt_elim hF
        refine WR [.av (e_L_i64 (lget v.Took v2))] [1, 3, 4, 5, 15, 16, 17] [1, 3] [] [] ⟨[(1, .ptr 1 0), (3, .ptr 3 0), (4, .int .i64 v2), (5, .sl 1 ((lget v.Took v2).map e_i64)), (15, .sl 1 (v.Took.map e_L_i64)), (16, .int .i64 (v.Took.length : Int)), (17, .int .i64 v2)], [(1, [.sl 4 (v.Copies.map e_Copy), .sl 1 (v.Wrote.map e_str), .sl 1 (v.Took.map e_L_i64), .sl 6 (v.Heals.map e_Heal)]), (3, [.int .i64 0, .int .i64 0])], [], []⟩ (.cons (idx_ok e_L_i64 h1) .nil) (by kernel_rfl) ?_
        refine Wk_seq ?_
        refine WR [.nat ((lget v.Took v2).length : Int), .nat (v.Copies.length : Int)] [1, 3, 4, 15, 16, 17, 28] [1, 3] [] [] ⟨[(1, .ptr 1 0), (3, .ptr 3 0), (4, .int .i64 v2), (15, .sl 1 (v.Took.map e_L_i64)), (16, .int .i64 (v.Took.length : Int)), (17, .int .i64 v2), (28, .bool (decide ((w64 (2 * ((lget v.Took v2).length : Int))) ≤ (v.Copies.length : Int))))], [(1, [.sl 4 (v.Copies.map e_Copy), .sl 1 (v.Wrote.map e_str), .sl 1 (v.Took.map e_L_i64), .sl 6 (v.Heals.map e_Heal)]), (3, [.int .i64 0, .int .i64 0])], [], []⟩ (.cons (len_ok e_i64 (lget v.Took v2)) (.cons (len_ok e_Copy v.Copies) .nil)) (by kernel_rfl) ?_
        refine Wk_split rfl (fun hb => ?_) (fun hb => ?_)
        · have hF := ite_t hF hb
          refine Wk_seq ?_
          refine WR [] [2, 3] [3] [] [] ⟨[(2, .int .i64 v2), (3, .ptr 3 0)], [(3, [.int .i64 0, .int .i64 0])], [], []⟩ .nil (by kernel_rfl) ?_
          have hF := ret_done hF dn1
          have hF := some_elim hF
          exact Wk_ret (hfin _ (by rw [← hF]; kernel_rfl))
        · have hF := ite_f hF hb
          refine Wk_skip ?_
          refine Wk_blk ?_
          refine WR [] [1, 3, 15, 16, 17] [1, 3] [] [] ⟨[(1, .ptr 1 0), (3, .ptr 3 0), (15, .sl 1 (v.Took.map e_L_i64)), (16, .int .i64 (v.Took.length : Int)), (17, .int .i64 (w64 (v2 + 1)))], [(1, [.sl 4 (v.Copies.map e_Copy), .sl 1 (v.Wrote.map e_str), .sl 1 (v.Took.map e_L_i64), .sl 6 (v.Heals.map e_Heal)]), (3, [.int .i64 0, .int .i64 0])], [], []⟩ .nil (by kernel_rfl) ?_
          refine Wk_trim (fs := [1, 3, 15, 16, 17]) (bs := [1, 3]) (rs := []) (ms := []) ?_ (ih1 _ (some_elim hF).symm)
          kernel_rfl
      · have hF := ite_f hF hb
        refine Wk_exit rfl ?_
        have hF := inrO_done hF dn1
        exact Wk_metP () [1, 3] [1, 3] [] [] hF (by kernel_rfl)
    · intro v1 hF
      have hF : seal_Sure_J1 v v1 = some r := hF
      unfold seal_Sure_J1 at hF
      refine Wk_seq ?_
      refine WR [.nat (v.Took.length : Int)] [2, 3] [3] [] [] ⟨[(2, .int .i64 (v.Took.length : Int)), (3, .ptr 3 0)], [(3, [.int .i64 0, .int .i64 0])], [], []⟩ (.cons (len_ok e_L_i64 v.Took) .nil) (by kernel_rfl) ?_
      have hF := some_elim hF
      exact Wk_ret (hfin _ (by rw [← hF]; kernel_rfl))

/- tabularyref.SameTexts -/
noncomputable def R_SameTexts_J1 (v : Unit) : Option Bool :=
  some true
noncomputable def R_SameTexts_B1 (a0 : List (List UInt8)) (b : List (List UInt8)) (v1 : Int) : Option (Int ⊕ Bool) :=
  if (decide (v1 < (a0.length : Int))) = true then
    asrt (0 ≤ v1 ∧ v1 < (a0.length : Int)) <|
    asrt (0 ≤ v1 ∧ v1 < (b.length : Int)) <|
    if (!decide ((lget a0 v1) = (lget b v1))) = true then
      some (Sum.inr false)
    else
      some (Sum.inl (w64 (v1 + 1)))
  else
    inrO (R_SameTexts_J1 ())
noncomputable def R_SameTexts_L1 (a0 : List (List UInt8)) (b : List (List UInt8)) (v0 : Int) : Option Bool :=
  loopO (fun y => R_SameTexts_B1 a0 b y) v0
noncomputable def R_SameTexts (a0 : List (List UInt8)) (b : List (List UInt8)) : Option Bool :=
  if (!decide ((a0.length : Int) = (b.length : Int))) = true then
    some false
  else
    R_SameTexts_L1 a0 b 0
theorem R_SameTexts_ok (a0 : List (List UInt8)) (b : List (List UInt8)) (r : Bool) (hF : R_SameTexts a0 b = some r) : Pc Try.prog 36 [.sl 1 (a0.map e_str), .sl 1 (b.map e_str)] (.bool r) := by
  refine Pc_of (N := 26) (res := [.tmp 4]) (ts := [4]) Ty.ok Fn.b36 Try.func36 rfl rfl rfl rfl rfl ?_
  intro Q g hfin
  unfold R_SameTexts at hF
  refine Wk_seq ?_
  refine WR [] [0, 1] [] [] [] ⟨[(0, .sl 1 (a0.map e_str)), (1, .sl 1 (b.map e_str))], [], [], []⟩ .nil (by kernel_rfl) ?_
  refine Wk_seq ?_
  refine Wk_seq ?_
  refine WR [.nat (a0.length : Int), .nat (b.length : Int)] [0, 1, 10] [] [] [] ⟨[(0, .sl 1 (a0.map e_str)), (1, .sl 1 (b.map e_str)), (10, .bool (!decide ((a0.length : Int) = (b.length : Int))))], [], [], []⟩ (.cons (len_ok e_str a0) (.cons (len_ok e_str b) .nil)) (by kernel_rfl) ?_
  refine Wk_split rfl (fun hb => ?_) (fun hb => ?_)
  · have hF := ite_t hF hb
    refine Wk_seq ?_
    refine WR [] [4] [] [] [] ⟨[(4, .bool false)], [], [], []⟩ .nil (by kernel_rfl) ?_
    have hF := some_elim hF
    exact Wk_ret (hfin _ (by rw [← hF]; kernel_rfl))
  · have hF := ite_f hF hb
    refine Wk_skip ?_
    refine Wk_seq ?_
    refine Wk_seq ?_
    refine WR [] [0, 1, 5] [] [] [] ⟨[(0, .sl 1 (a0.map e_str)), (1, .sl 1 (b.map e_str)), (5, .int .i64 0)], [], [], []⟩ .nil (by kernel_rfl) ?_
    refine Wk_meetP (fun v : Unit => (⟨[], [], [], []⟩ : S)) (fun v => R_SameTexts_J1 v = some r) ?_ ?_
    · refine Wk_block ?_
      unfold R_SameTexts_L1 at hF
      refine Wk_trim (fs := [0, 1, 5]) (bs := []) (rs := []) (ms := []) (t := (fun v1 : Int => (⟨[(0, .sl 1 (a0.map e_str)), (1, .sl 1 (b.map e_str)), (5, .int .i64 v1)], [], [], []⟩ : S)) 0) (by kernel_rfl) ?_
      refine Wk_iter (step := fun y => R_SameTexts_B1 a0 b y) (r := r) (fun v1 : Int => (⟨[(0, .sl 1 (a0.map e_str)), (1, .sl 1 (b.map e_str)), (5, .int .i64 v1)], [], [], []⟩ : S)) 0 hF ?_
      intro n1 v1 y1 hF ih1 dn1
      have hF : R_SameTexts_B1 a0 b v1 = some y1 := hF
      unfold R_SameTexts_B1 at hF
      refine Wk_seq ?_
      refine Wk_seq ?_
      refine WR [.nat (a0.length : Int)] [0, 1, 5, 14] [] [] [] ⟨[(0, .sl 1 (a0.map e_str)), (1, .sl 1 (b.map e_str)), (5, .int .i64 v1), (14, .bool (decide (v1 < (a0.length : Int))))], [], [], []⟩ (.cons (len_ok e_str a0) .nil) (by kernel_rfl) ?_
      refine Wk_split rfl (fun hb => ?_) (fun hb => ?_)
      · have hF := ite_t hF hb
        refine Wk_skip ?_
        refine Wk_seq ?_
        refine Wk_block ?_
        refine Wk_seq ?_
        obtain ⟨h0, hF⟩ := asrt_elim hF
        obtain ⟨h1, hF⟩ := asrt_elim hF
        refine WD [.av (e_str (lget a0 v1)), .av (e_str (lget b v1))] [0, 1, 5, 25] [] [] [] ⟨[(0, .sl 1 (a0.map e_str)), (1, .sl 1 (b.map e_str)), (5, .int .i64 v1), (25, .bool (!decide ((lget a0 v1) = (lget b v1))))], [], [], []⟩ (.cons (idx_ok e_str h0) (.cons (idx_ok e_str h1) .nil)) (by kernel_rfl) ?_
        refine Wk_split rfl (fun hb => ?_) (fun hb => ?_)
        · have hF := ite_t hF hb
          refine Wk_seq ?_
          refine WR [] [4] [] [] [] ⟨[(4, .bool false)], [], [], []⟩ .nil (by kernel_rfl) ?_
          have hF := ret_done hF dn1
          have hF := some_elim hF
          exact Wk_ret (hfin _ (by rw [← hF]; kernel_rfl))
        · have hF := ite_f hF hb
          refine Wk_skip ?_
          refine Wk_blk ?_
          refine WR [] [0, 1, 5] [] [] [] ⟨[(0, .sl 1 (a0.map e_str)), (1, .sl 1 (b.map e_str)), (5, .int .i64 (w64 (v1 + 1)))], [], [], []⟩ .nil (by kernel_rfl) ?_
          refine Wk_trim (fs := [0, 1, 5]) (bs := []) (rs := []) (ms := []) ?_ (ih1 _ (some_elim hF).symm)
          kernel_rfl
      · have hF := ite_f hF hb
        refine Wk_exit rfl ?_
        have hF := inrO_done hF dn1
        exact Wk_metP () [] [] [] [] hF (by kernel_rfl)
    · intro v hF
      have hF : R_SameTexts_J1 v = some r := hF
      unfold R_SameTexts_J1 at hF
      refine Wk_seq ?_
      refine WR [] [4] [] [] [] ⟨[(4, .bool true)], [], [], []⟩ .nil (by kernel_rfl) ?_
      have hF := some_elim hF
      exact Wk_ret (hfin _ (by rw [← hF]; kernel_rfl))

/- tabularyref.SameCopy -/
noncomputable def R_SameCopy (a0 : Copy) (b : Copy) : Option Bool :=
  ob (if (((decide (a0.Epoch = b.Epoch)) && (a0.Closed == b.Closed)) && (decide (a0.Ended = b.Ended))) = true then (R_SameTexts a0.Recs b.Recs) else some default) fun x =>
  lt ((((decide (a0.Epoch = b.Epoch)) && (a0.Closed == b.Closed)) && (decide (a0.Ended = b.Ended))) && x) fun (v : Bool) =>
  some v
theorem R_SameCopy_ok (a0 : Copy) (b : Copy) (r : Bool) (hF : R_SameCopy a0 b = some r) : Pc Try.prog 35 [.agg [.int .i64 a0.Epoch, .bool a0.Closed, .sl 1 (a0.Recs.map e_str), .int .i64 a0.Ended], .agg [.int .i64 b.Epoch, .bool b.Closed, .sl 1 (b.Recs.map e_str), .int .i64 b.Ended]] (.bool r) := by
  refine Pc_of (N := 31) (res := [.tmp 4]) (ts := [4]) Ty.ok Fn.b35 Try.func35 rfl rfl rfl rfl rfl ?_
  intro Q g hfin
  unfold R_SameCopy at hF
  refine Wk_seq ?_
  refine WR [] [2, 3] [2, 3] [] [] ⟨[(2, .ptr 2 0), (3, .ptr 3 0)], [(2, [.int .i64 a0.Epoch, .bool a0.Closed, .sl 1 (a0.Recs.map e_str), .int .i64 a0.Ended]), (3, [.int .i64 b.Epoch, .bool b.Closed, .sl 1 (b.Recs.map e_str), .int .i64 b.Ended])], [], []⟩ .nil (by kernel_rfl) ?_
  refine Wk_seq ?_
  obtain ⟨x, h0, hF⟩ := ob_elim hF
  refine WRL ((((decide (a0.Epoch = b.Epoch)) && (a0.Closed == b.Closed)) && (decide (a0.Ended = b.Ended))) && x) (fun v : Bool => ⟨[(4, .bool v)], [], [], []⟩) [.call (.bool x)] [4] [] [] [] (.cons (fun (ga0 : (((decide (a0.Epoch = b.Epoch)) && (a0.Closed == b.Closed)) && (decide (a0.Ended = b.Ended))) = true) => (R_SameTexts_ok a0.Recs b.Recs x (ite_t h0 ga0))) .nil) (by kernel_rfl) (fun v hv => ?_)
  have hF := lt_elim hF hv
  have hF := some_elim hF
  exact Wk_ret (hfin _ (by rw [← hF]; kernel_rfl))

/- tabularyref.TooLong -/
noncomputable def R_TooLong_J1 (v : Unit) : Option Int :=
  some (-1)
noncomputable def R_TooLong_B1 (l : List (List UInt8)) (v1 : Int) : Option (Int ⊕ Int) :=
  if (decide (v1 < (l.length : Int))) = true then
    asrt (0 ≤ v1 ∧ v1 < (l.length : Int)) <|
    if (decide (200 < ((lget l v1).length : Int))) = true then
      some (Sum.inr v1)
    else
      some (Sum.inl (w64 (v1 + 1)))
  else
    inrO (R_TooLong_J1 ())
noncomputable def R_TooLong_L1 (l : List (List UInt8)) (v0 : Int) : Option Int :=
  loopO (fun y => R_TooLong_B1 l y) v0
noncomputable def R_TooLong (l : List (List UInt8)) : Option Int :=
  R_TooLong_L1 l 0
theorem R_TooLong_ok (l : List (List UInt8)) (r : Int) (hF : R_TooLong l = some r) : Pc Try.prog 69 [.sl 1 (l.map e_str)] (.int .i64 r) := by
  refine Pc_of (N := 17) (res := [.tmp 2]) (ts := [3]) Ty.ok Fn.b69 Try.func69 rfl rfl rfl rfl rfl ?_
  intro Q g hfin
  unfold R_TooLong at hF
  refine Wk_seq ?_
  refine WR [] [0] [] [] [] ⟨[(0, .sl 1 (l.map e_str))], [], [], []⟩ .nil (by kernel_rfl) ?_
  refine Wk_seq ?_
  refine Wk_seq ?_
  refine WR [] [0, 3] [] [] [] ⟨[(0, .sl 1 (l.map e_str)), (3, .int .i64 0)], [], [], []⟩ .nil (by kernel_rfl) ?_
  refine Wk_meetP (fun v : Unit => (⟨[], [], [], []⟩ : S)) (fun v => R_TooLong_J1 v = some r) ?_ ?_
  · refine Wk_block ?_
    unfold R_TooLong_L1 at hF
    refine Wk_trim (fs := [0, 3]) (bs := []) (rs := []) (ms := []) (t := (fun v1 : Int => (⟨[(0, .sl 1 (l.map e_str)), (3, .int .i64 v1)], [], [], []⟩ : S)) 0) (by kernel_rfl) ?_
    refine Wk_iter (step := fun y => R_TooLong_B1 l y) (r := r) (fun v1 : Int => (⟨[(0, .sl 1 (l.map e_str)), (3, .int .i64 v1)], [], [], []⟩ : S)) 0 hF ?_
    intro n1 v1 y1 hF ih1 dn1
    have hF : R_TooLong_B1 l v1 = some y1 := hF
    unfold R_TooLong_B1 at hF
    refine Wk_seq ?_
    refine Wk_seq ?_
    refine WR [.nat (l.length : Int)] [0, 3, 7] [] [] [] ⟨[(0, .sl 1 (l.map e_str)), (3, .int .i64 v1), (7, .bool (decide (v1 < (l.length : Int))))], [], [], []⟩ (.cons (len_ok e_str l) .nil) (by kernel_rfl) ?_
    refine Wk_split rfl (fun hb => ?_) (fun hb => ?_)
    · have hF := ite_t hF hb
      refine Wk_skip ?_
      refine Wk_seq ?_
      refine Wk_block ?_
      refine Wk_seq ?_
      obtain ⟨h0, hF⟩ := asrt_elim hF
      refine WR [.av (e_str (lget l v1))] [0, 3, 15] [] [] [] ⟨[(0, .sl 1 (l.map e_str)), (3, .int .i64 v1), (15, .bool (decide (200 < ((lget l v1).length : Int))))], [], [], []⟩ (.cons (idx_ok e_str h0) .nil) (by kernel_rfl) ?_
      refine Wk_split rfl (fun hb => ?_) (fun hb => ?_)
      · have hF := ite_t hF hb
        refine Wk_seq ?_
        refine WR [] [2] [] [] [] ⟨[(2, .int .i64 v1)], [], [], []⟩ .nil (by kernel_rfl) ?_
        have hF := ret_done hF dn1
        have hF := some_elim hF
        exact Wk_ret (hfin _ (by rw [← hF]; kernel_rfl))
      · have hF := ite_f hF hb
        refine Wk_skip ?_
        refine Wk_blk ?_
        refine WR [] [0, 3] [] [] [] ⟨[(0, .sl 1 (l.map e_str)), (3, .int .i64 (w64 (v1 + 1)))], [], [], []⟩ .nil (by kernel_rfl) ?_
        refine Wk_trim (fs := [0, 3]) (bs := []) (rs := []) (ms := []) ?_ (ih1 _ (some_elim hF).symm)
        kernel_rfl
    · have hF := ite_f hF hb
      refine Wk_exit rfl ?_
      have hF := inrO_done hF dn1
      exact Wk_metP () [] [] [] [] hF (by kernel_rfl)
  · intro v hF
    have hF : R_TooLong_J1 v = some r := hF
    unfold R_TooLong_J1 at hF
    refine Wk_seq ?_
    refine WR [] [2] [] [] [] ⟨[(2, .int .i64 (-1))], [], [], []⟩ .nil (by kernel_rfl) ?_
    have hF := some_elim hF
    exact Wk_ret (hfin _ (by rw [← hF]; kernel_rfl))

/- tabularyref.CopyFault -/
noncomputable def R_CopyFault (c : Copy) : Option Fault :=
  lt (R_Num c.Epoch) fun x =>
  lt (R_Num c.Ended) fun x1 =>
  if ((!x) || (!x1)) = true then
    lt (R_F 3 (-1)) fun x2 =>
    some x2
  else
    if ((decide (c.Epoch < c.Ended)) || ((decide (0 < c.Ended)) && (!c.Closed))) = true then
      lt (R_F 11 (-1)) fun x3 =>
      some x3
    else
      if (decide (100 < (c.Recs.length : Int))) = true then
        lt (R_F 2 (-1)) fun x4 =>
        some x4
      else
        ob (R_TooLong c.Recs) fun x5 =>
        if (decide (0 ≤ x5)) = true then
          ob (R_TooLong c.Recs) fun x6 =>
          lt (R_F 8 x6) fun x7 =>
          some x7
        else
          some (⟨0, 0⟩ : Fault)
theorem R_CopyFault_ok (c : Copy) (r : Fault) (hF : R_CopyFault c = some r) : Pc Try.prog 40 [.agg [.int .i64 c.Epoch, .bool c.Closed, .sl 1 (c.Recs.map e_str), .int .i64 c.Ended]] (.agg [.int .i64 r.Code, .int .i64 r.At]) := by
  refine Pc_of (N := 44) (res := [.cell 2 25]) (ts := [25]) Ty.ok Fn.b40 Try.func40 rfl rfl rfl rfl rfl ?_
  intro Q g hfin
  unfold R_CopyFault at hF
  refine Wk_seq ?_
  refine WR [] [1, 2] [1, 2] [] [] ⟨[(1, .ptr 1 0), (2, .ptr 2 0)], [(1, [.int .i64 c.Epoch, .bool c.Closed, .sl 1 (c.Recs.map e_str), .int .i64 c.Ended]), (2, [.int .i64 0, .int .i64 0])], [], []⟩ .nil (by kernel_rfl) ?_
  refine Wk_seq ?_
  refine Wk_seq ?_
  obtain ⟨x, h0, hF⟩ := lt_split hF
  obtain ⟨x1, h1, hF⟩ := lt_split hF
  refine WR [.call (.bool x), .call (.bool x1)] [1, 2, 12] [1, 2] [] [] ⟨[(1, .ptr 1 0), (2, .ptr 2 0), (12, .bool ((!x) || (!x1)))], [(1, [.int .i64 c.Epoch, .bool c.Closed, .sl 1 (c.Recs.map e_str), .int .i64 c.Ended]), (2, [.int .i64 0, .int .i64 0])], [], []⟩ (.cons (R_Num_ok c.Epoch x h0) (.cons (fun (ga0 : (!(!x)) = true) => (R_Num_ok c.Ended x1 h1)) .nil)) (by kernel_rfl) ?_
  refine Wk_split rfl (fun hb => ?_) (fun hb => ?_)
  · have hF := ite_t hF hb
    refine Wk_seq ?_
    obtain ⟨x2, h2, hF⟩ := lt_split hF
    refine WR [.call (.agg [.int .i64 x2.Code, .int .i64 x2.At])] [2] [2] [] [] ⟨[(2, .ptr 2 0)], [(2, [.int .i64 x2.Code, .int .i64 x2.At])], [], []⟩ (.cons (R_F_ok 3 (-1) x2 h2) .nil) (by kernel_rfl) ?_
    have hF := some_elim hF
    exact Wk_ret (hfin _ (by rw [← hF]; kernel_rfl))
  · have hF := ite_f hF hb
    refine Wk_skip ?_
    refine Wk_seq ?_
    refine Wk_seq ?_
    refine WR [] [1, 2, 28] [1, 2] [] [] ⟨[(1, .ptr 1 0), (2, .ptr 2 0), (28, .bool ((decide (c.Epoch < c.Ended)) || ((decide (0 < c.Ended)) && (!c.Closed))))], [(1, [.int .i64 c.Epoch, .bool c.Closed, .sl 1 (c.Recs.map e_str), .int .i64 c.Ended]), (2, [.int .i64 0, .int .i64 0])], [], []⟩ .nil (by kernel_rfl) ?_
    refine Wk_split rfl (fun hb => ?_) (fun hb => ?_)
    · have hF := ite_t hF hb
      refine Wk_seq ?_
      obtain ⟨x3, h3, hF⟩ := lt_split hF
      refine WR [.call (.agg [.int .i64 x3.Code, .int .i64 x3.At])] [2] [2] [] [] ⟨[(2, .ptr 2 0)], [(2, [.int .i64 x3.Code, .int .i64 x3.At])], [], []⟩ (.cons (R_F_ok 11 (-1) x3 h3) .nil) (by kernel_rfl) ?_
      have hF := some_elim hF
      exact Wk_ret (hfin _ (by rw [← hF]; kernel_rfl))
    · have hF := ite_f hF hb
      refine Wk_skip ?_
      refine Wk_seq ?_
      refine Wk_seq ?_
      refine WR [.nat (c.Recs.length : Int)] [1, 2, 33] [1, 2] [] [] ⟨[(1, .ptr 1 0), (2, .ptr 2 0), (33, .bool (decide (100 < (c.Recs.length : Int))))], [(1, [.int .i64 c.Epoch, .bool c.Closed, .sl 1 (c.Recs.map e_str), .int .i64 c.Ended]), (2, [.int .i64 0, .int .i64 0])], [], []⟩ (.cons (len_ok e_str c.Recs) .nil) (by kernel_rfl) ?_
      refine Wk_split rfl (fun hb => ?_) (fun hb => ?_)
      · have hF := ite_t hF hb
        refine Wk_seq ?_
        obtain ⟨x4, h4, hF⟩ := lt_split hF
        refine WR [.call (.agg [.int .i64 x4.Code, .int .i64 x4.At])] [2] [2] [] [] ⟨[(2, .ptr 2 0)], [(2, [.int .i64 x4.Code, .int .i64 x4.At])], [], []⟩ (.cons (R_F_ok 2 (-1) x4 h4) .nil) (by kernel_rfl) ?_
        have hF := some_elim hF
        exact Wk_ret (hfin _ (by rw [← hF]; kernel_rfl))
      · have hF := ite_f hF hb
        refine Wk_skip ?_
        refine Wk_seq ?_
        refine Wk_seq ?_
        obtain ⟨x5, h5, hF⟩ := ob_elim hF
        refine WR [.call (.int .i64 x5)] [1, 2, 38] [1, 2] [] [] ⟨[(1, .ptr 1 0), (2, .ptr 2 0), (38, .bool (decide (0 ≤ x5)))], [(1, [.int .i64 c.Epoch, .bool c.Closed, .sl 1 (c.Recs.map e_str), .int .i64 c.Ended]), (2, [.int .i64 0, .int .i64 0])], [], []⟩ (.cons (R_TooLong_ok c.Recs x5 h5) .nil) (by kernel_rfl) ?_
        refine Wk_split rfl (fun hb => ?_) (fun hb => ?_)
        · have hF := ite_t hF hb
          refine Wk_seq ?_
          obtain ⟨x6, h6, hF⟩ := ob_elim hF
          obtain ⟨x7, h7, hF⟩ := lt_split hF
          refine WR [.call (.int .i64 x6), .call (.agg [.int .i64 x7.Code, .int .i64 x7.At])] [2] [2] [] [] ⟨[(2, .ptr 2 0)], [(2, [.int .i64 x7.Code, .int .i64 x7.At])], [], []⟩ (.cons (R_TooLong_ok c.Recs x6 h6) (.cons (R_F_ok 8 x6 x7 h7) .nil)) (by kernel_rfl) ?_
          have hF := some_elim hF
          exact Wk_ret (hfin _ (by rw [← hF]; kernel_rfl))
        · have hF := ite_f hF hb
          refine Wk_skip ?_
          refine Wk_seq ?_
          refine WR [] [2] [2] [] [] ⟨[(2, .ptr 2 0)], [(2, [.int .i64 0, .int .i64 0])], [], []⟩ .nil (by kernel_rfl) ?_
          have hF := some_elim hF
          exact Wk_ret (hfin _ (by rw [← hF]; kernel_rfl))

/- tabularyref.CopyAsked -/
noncomputable def R_CopyAsked (c : Copy) (epoch : Int) (also : Fault) : Option Fault :=
  ob (R_CopyFault c) fun x =>
  ob (
    if ((decide (x.Code = 0)) && ((decide (epoch < 1)) || (decide (1000000000 < epoch)))) = true then
      lt (R_F 3 (-1)) fun x1 =>
      some x1
    else
      some x) fun (w0 : Fault) =>
  ob (
    if (decide (w0.Code = 0)) = true then
      some also
    else
      some w0) fun (w01 : Fault) =>
  ob (
    if ((decide (w01.Code = 0)) && (decide (epoch < c.Epoch))) = true then
      lt (R_F 12 (-1)) fun x2 =>
      some x2
    else
      some w01) fun (w02 : Fault) =>
  some w02
theorem R_CopyAsked_ok (c : Copy) (epoch : Int) (also : Fault) (r : Fault) (hF : R_CopyAsked c epoch also = some r) : Pc Try.prog 68 [.agg [.int .i64 c.Epoch, .bool c.Closed, .sl 1 (c.Recs.map e_str), .int .i64 c.Ended], .int .i64 epoch, .agg [.int .i64 also.Code, .int .i64 also.At]] (.agg [.int .i64 r.Code, .int .i64 r.At]) := by
  refine Pc_of (N := 37) (res := [.cell 6 25]) (ts := [25]) Ty.ok Fn.b68 Try.func68 rfl rfl rfl rfl rfl ?_
  intro Q g hfin
  unfold R_CopyAsked at hF
  refine Wk_seq ?_
  refine WR [] [1, 3, 5, 6] [3, 5, 6] [] [] ⟨[(1, .int .i64 epoch), (3, .ptr 3 0), (5, .ptr 5 0), (6, .ptr 6 0)], [(3, [.int .i64 c.Epoch, .bool c.Closed, .sl 1 (c.Recs.map e_str), .int .i64 c.Ended]), (5, [.int .i64 also.Code, .int .i64 also.At]), (6, [.int .i64 0, .int .i64 0])], [], []⟩ .nil (by kernel_rfl) ?_
  refine Wk_seq ?_
  obtain ⟨x, h0, hF⟩ := ob_elim hF
  refine WR [.call (.agg [.int .i64 x.Code, .int .i64 x.At])] [1, 3, 5, 6, 7] [3, 5, 6, 7] [] [] ⟨[(1, .int .i64 epoch), (3, .ptr 3 0), (5, .ptr 5 0), (6, .ptr 6 0), (7, .ptr 7 0)], [(3, [.int .i64 c.Epoch, .bool c.Closed, .sl 1 (c.Recs.map e_str), .int .i64 c.Ended]), (5, [.int .i64 also.Code, .int .i64 also.At]), (6, [.int .i64 0, .int .i64 0]), (7, [.int .i64 x.Code, .int .i64 x.At])], [], []⟩ (.cons (R_CopyFault_ok c x h0) .nil) (by kernel_rfl) ?_
  refine Wk_seq ?_
  refine Wk_seq ?_
  refine WR [] [1, 3, 5, 6, 7, 20] [3, 5, 6, 7] [] [] ⟨[(1, .int .i64 epoch), (3, .ptr 3 0), (5, .ptr 5 0), (6, .ptr 6 0), (7, .ptr 7 0), (20, .bool ((decide (x.Code = 0)) && ((decide (epoch < 1)) || (decide (1000000000 < epoch)))))], [(3, [.int .i64 c.Epoch, .bool c.Closed, .sl 1 (c.Recs.map e_str), .int .i64 c.Ended]), (5, [.int .i64 also.Code, .int .i64 also.At]), (6, [.int .i64 0, .int .i64 0]), (7, [.int .i64 x.Code, .int .i64 x.At])], [], []⟩ .nil (by kernel_rfl) ?_
  obtain ⟨w0, hv, hF⟩ := ob_elim hF
  refine Wk_meet (⟨[(1, .int .i64 epoch), (3, .ptr 3 0), (5, .ptr 5 0), (6, .ptr 6 0), (7, .ptr 7 0)], [(3, [.int .i64 c.Epoch, .bool c.Closed, .sl 1 (c.Recs.map e_str), .int .i64 c.Ended]), (5, [.int .i64 also.Code, .int .i64 also.At]), (6, [.int .i64 0, .int .i64 0]), (7, [.int .i64 w0.Code, .int .i64 w0.At])], [], []⟩ : S) ?_ ?_
  · have hF := hv
    refine Wk_split rfl (fun hb => ?_) (fun hb => ?_)
    · have hF := ite_t hF hb
      obtain ⟨x1, h1, hF⟩ := lt_split hF
      refine WR [.call (.agg [.int .i64 x1.Code, .int .i64 x1.At])] [1, 3, 5, 6, 7] [3, 5, 6, 7] [] [] ⟨[(1, .int .i64 epoch), (3, .ptr 3 0), (5, .ptr 5 0), (6, .ptr 6 0), (7, .ptr 7 0)], [(3, [.int .i64 c.Epoch, .bool c.Closed, .sl 1 (c.Recs.map e_str), .int .i64 c.Ended]), (5, [.int .i64 also.Code, .int .i64 also.At]), (6, [.int .i64 0, .int .i64 0]), (7, [.int .i64 x1.Code, .int .i64 x1.At])], [], []⟩ (.cons (R_F_ok 3 (-1) x1 h1) .nil) (by kernel_rfl) ?_
      exact Wk_met (fs := [1, 3, 5, 6, 7]) (bs := [3, 5, 6, 7]) (rs := []) (ms := []) (by rw [← some_elim hF]; kernel_rfl)
    · have hF := ite_f hF hb
      refine Wk_skip ?_
      exact Wk_met (fs := [1, 3, 5, 6, 7]) (bs := [3, 5, 6, 7]) (rs := []) (ms := []) (by rw [← some_elim hF]; kernel_rfl)
  · refine Wk_seq ?_
    refine Wk_seq ?_
    refine WR [] [1, 3, 5, 6, 7, 24] [3, 5, 6, 7] [] [] ⟨[(1, .int .i64 epoch), (3, .ptr 3 0), (5, .ptr 5 0), (6, .ptr 6 0), (7, .ptr 7 0), (24, .bool (decide (w0.Code = 0)))], [(3, [.int .i64 c.Epoch, .bool c.Closed, .sl 1 (c.Recs.map e_str), .int .i64 c.Ended]), (5, [.int .i64 also.Code, .int .i64 also.At]), (6, [.int .i64 0, .int .i64 0]), (7, [.int .i64 w0.Code, .int .i64 w0.At])], [], []⟩ .nil (by kernel_rfl) ?_
    obtain ⟨w01, hv, hF⟩ := ob_elim hF
    refine Wk_meet (⟨[(1, .int .i64 epoch), (3, .ptr 3 0), (6, .ptr 6 0), (7, .ptr 7 0)], [(3, [.int .i64 c.Epoch, .bool c.Closed, .sl 1 (c.Recs.map e_str), .int .i64 c.Ended]), (6, [.int .i64 0, .int .i64 0]), (7, [.int .i64 w01.Code, .int .i64 w01.At])], [], []⟩ : S) ?_ ?_
    · have hF := hv
      refine Wk_split rfl (fun hb => ?_) (fun hb => ?_)
      · have hF := ite_t hF hb
        refine WR [] [1, 3, 6, 7] [3, 6, 7] [] [] ⟨[(1, .int .i64 epoch), (3, .ptr 3 0), (6, .ptr 6 0), (7, .ptr 7 0)], [(3, [.int .i64 c.Epoch, .bool c.Closed, .sl 1 (c.Recs.map e_str), .int .i64 c.Ended]), (6, [.int .i64 0, .int .i64 0]), (7, [.int .i64 also.Code, .int .i64 also.At])], [], []⟩ .nil (by kernel_rfl) ?_
        exact Wk_met (fs := [1, 3, 6, 7]) (bs := [3, 6, 7]) (rs := []) (ms := []) (by rw [← some_elim hF]; kernel_rfl)
      · have hF := ite_f hF hb
        refine Wk_skip ?_
        exact Wk_met (fs := [1, 3, 6, 7]) (bs := [3, 6, 7]) (rs := []) (ms := []) (by rw [← some_elim hF]; kernel_rfl)
    · refine Wk_seq ?_
      refine Wk_seq ?_
      refine WR [] [6, 7, 34] [6, 7] [] [] ⟨[(6, .ptr 6 0), (7, .ptr 7 0), (34, .bool ((decide (w01.Code = 0)) && (decide (epoch < c.Epoch))))], [(6, [.int .i64 0, .int .i64 0]), (7, [.int .i64 w01.Code, .int .i64 w01.At])], [], []⟩ .nil (by kernel_rfl) ?_
      obtain ⟨w02, hv, hF⟩ := ob_elim hF
      refine Wk_meet (⟨[(6, .ptr 6 0), (7, .ptr 7 0)], [(6, [.int .i64 0, .int .i64 0]), (7, [.int .i64 w02.Code, .int .i64 w02.At])], [], []⟩ : S) ?_ ?_
      · have hF := hv
        refine Wk_split rfl (fun hb => ?_) (fun hb => ?_)
        · have hF := ite_t hF hb
          obtain ⟨x2, h2, hF⟩ := lt_split hF
          refine WR [.call (.agg [.int .i64 x2.Code, .int .i64 x2.At])] [6, 7] [6, 7] [] [] ⟨[(6, .ptr 6 0), (7, .ptr 7 0)], [(6, [.int .i64 0, .int .i64 0]), (7, [.int .i64 x2.Code, .int .i64 x2.At])], [], []⟩ (.cons (R_F_ok 12 (-1) x2 h2) .nil) (by kernel_rfl) ?_
          exact Wk_met (fs := [6, 7]) (bs := [6, 7]) (rs := []) (ms := []) (by rw [← some_elim hF]; kernel_rfl)
        · have hF := ite_f hF hb
          refine Wk_skip ?_
          exact Wk_met (fs := [6, 7]) (bs := [6, 7]) (rs := []) (ms := []) (by rw [← some_elim hF]; kernel_rfl)
      · refine Wk_seq ?_
        refine WR [] [6] [6] [] [] ⟨[(6, .ptr 6 0)], [(6, [.int .i64 w02.Code, .int .i64 w02.At])], [], []⟩ .nil (by kernel_rfl) ?_
        have hF := some_elim hF
        exact Wk_ret (hfin _ (by rw [← hF]; kernel_rfl))

/- tabularyref.Has -/
noncomputable def R_Has_J1 (v : Unit) : Option Bool :=
  some false
noncomputable def R_Has_B1 (l : List Int) (num : Int) (v1 : Int) : Option (Int ⊕ Bool) :=
  if (decide (v1 < (l.length : Int))) = true then
    asrt (0 ≤ v1 ∧ v1 < (l.length : Int)) <|
    if (decide ((lget l v1) = num)) = true then
      some (Sum.inr true)
    else
      some (Sum.inl (w64 (v1 + 1)))
  else
    inrO (R_Has_J1 ())
noncomputable def R_Has_L1 (l : List Int) (num : Int) (v0 : Int) : Option Bool :=
  loopO (fun y => R_Has_B1 l num y) v0
noncomputable def R_Has (l : List Int) (num : Int) : Option Bool :=
  R_Has_L1 l num 0
theorem R_Has_ok (l : List Int) (num : Int) (r : Bool) (hF : R_Has l num = some r) : Pc Try.prog 81 [.sl 1 (l.map e_i64), .int .i64 num] (.bool r) := by
  refine Pc_of (N := 18) (res := [.tmp 4]) (ts := [4]) Ty.ok Fn.b81 Try.func81 rfl rfl rfl rfl rfl ?_
  intro Q g hfin
  unfold R_Has at hF
  refine Wk_seq ?_
  refine WR [] [0, 1] [] [] [] ⟨[(0, .sl 1 (l.map e_i64)), (1, .int .i64 num)], [], [], []⟩ .nil (by kernel_rfl) ?_
  refine Wk_seq ?_
  refine Wk_seq ?_
  refine WR [] [0, 1, 5] [] [] [] ⟨[(0, .sl 1 (l.map e_i64)), (1, .int .i64 num), (5, .int .i64 0)], [], [], []⟩ .nil (by kernel_rfl) ?_
  refine Wk_meetP (fun v : Unit => (⟨[], [], [], []⟩ : S)) (fun v => R_Has_J1 v = some r) ?_ ?_
  · refine Wk_block ?_
    unfold R_Has_L1 at hF
    refine Wk_trim (fs := [0, 1, 5]) (bs := []) (rs := []) (ms := []) (t := (fun v1 : Int => (⟨[(0, .sl 1 (l.map e_i64)), (1, .int .i64 num), (5, .int .i64 v1)], [], [], []⟩ : S)) 0) (by kernel_rfl) ?_
    refine Wk_iter (step := fun y => R_Has_B1 l num y) (r := r) (fun v1 : Int => (⟨[(0, .sl 1 (l.map e_i64)), (1, .int .i64 num), (5, .int .i64 v1)], [], [], []⟩ : S)) 0 hF ?_
    intro n1 v1 y1 hF ih1 dn1
    have hF : R_Has_B1 l num v1 = some y1 := hF
    unfold R_Has_B1 at hF
    refine Wk_seq ?_
    refine Wk_seq ?_
    refine WR [.nat (l.length : Int)] [0, 1, 5, 9] [] [] [] ⟨[(0, .sl 1 (l.map e_i64)), (1, .int .i64 num), (5, .int .i64 v1), (9, .bool (decide (v1 < (l.length : Int))))], [], [], []⟩ (.cons (len_ok e_i64 l) .nil) (by kernel_rfl) ?_
    refine Wk_split rfl (fun hb => ?_) (fun hb => ?_)
    · have hF := ite_t hF hb
      refine Wk_skip ?_
      refine Wk_seq ?_
      refine Wk_block ?_
      refine Wk_seq ?_
      obtain ⟨h0, hF⟩ := asrt_elim hF
      refine WR [.av (e_i64 (lget l v1))] [0, 1, 5, 17] [] [] [] ⟨[(0, .sl 1 (l.map e_i64)), (1, .int .i64 num), (5, .int .i64 v1), (17, .bool (decide ((lget l v1) = num)))], [], [], []⟩ (.cons (idx_ok e_i64 h0) .nil) (by kernel_rfl) ?_
      refine Wk_split rfl (fun hb => ?_) (fun hb => ?_)
      · have hF := ite_t hF hb
        refine Wk_seq ?_
        refine WR [] [4] [] [] [] ⟨[(4, .bool true)], [], [], []⟩ .nil (by kernel_rfl) ?_
        have hF := ret_done hF dn1
        have hF := some_elim hF
        exact Wk_ret (hfin _ (by rw [← hF]; kernel_rfl))
      · have hF := ite_f hF hb
        refine Wk_skip ?_
        refine Wk_blk ?_
        refine WR [] [0, 1, 5] [] [] [] ⟨[(0, .sl 1 (l.map e_i64)), (1, .int .i64 num), (5, .int .i64 (w64 (v1 + 1)))], [], [], []⟩ .nil (by kernel_rfl) ?_
        refine Wk_trim (fs := [0, 1, 5]) (bs := []) (rs := []) (ms := []) ?_ (ih1 _ (some_elim hF).symm)
        kernel_rfl
    · have hF := ite_f hF hb
      refine Wk_exit rfl ?_
      have hF := inrO_done hF dn1
      exact Wk_metP () [] [] [] [] hF (by kernel_rfl)
  · intro v hF
    have hF : R_Has_J1 v = some r := hF
    unfold R_Has_J1 at hF
    refine Wk_seq ?_
    refine WR [] [4] [] [] [] ⟨[(4, .bool false)], [], [], []⟩ .nil (by kernel_rfl) ?_
    have hF := some_elim hF
    exact Wk_ret (hfin _ (by rw [← hF]; kernel_rfl))

/- tabularyref.SameVault -/
noncomputable def R_SameVault_J3 (v2 : Unit) : Option Bool :=
  some true
noncomputable def R_SameVault_J4 (v3 : Int) (v4 : Unit) : Option (Int ⊕ Bool) :=
  some (Sum.inl (w64 (v3 + 1)))
noncomputable def R_SameVault_B2 (a0 : Vault) (b : Vault) (v3 : Int) (v5 : Int) : Option (Int ⊕ (Int ⊕ Bool)) :=
  if (decide (v5 < (((lget a0.Heals v3).Said).length : Int))) = true then
    asrt (0 ≤ v5 ∧ v5 < (((lget a0.Heals v3).Said).length : Int)) <|
    asrt (0 ≤ v5 ∧ v5 < (((lget b.Heals v3).Said).length : Int)) <|
    ob (R_SameCopy (⟨(lget ((lget a0.Heals v3).Said) v5).Epoch, (lget ((lget a0.Heals v3).Said) v5).Closed, (lget ((lget a0.Heals v3).Said) v5).Recs, (lget ((lget a0.Heals v3).Said) v5).Ended⟩ : Copy) (⟨(lget ((lget b.Heals v3).Said) v5).Epoch, (lget ((lget b.Heals v3).Said) v5).Closed, (lget ((lget b.Heals v3).Said) v5).Recs, (lget ((lget b.Heals v3).Said) v5).Ended⟩ : Copy)) fun x4 =>
    if (!x4) = true then
      some (Sum.inr (Sum.inr false))
    else
      some (Sum.inl (w64 (v5 + 1)))
  else
    inrO (R_SameVault_J4 v3 ())
noncomputable def R_SameVault_L2 (a0 : Vault) (b : Vault) (v3 : Int) (v0 : Int) : Option (Int ⊕ Bool) :=
  loopO (fun y => R_SameVault_B2 a0 b v3 y) v0
noncomputable def R_SameVault_B1 (a0 : Vault) (b : Vault) (v3 : Int) : Option (Int ⊕ Bool) :=
  if (decide (v3 < (a0.Heals.length : Int))) = true then
    asrt (0 ≤ v3 ∧ v3 < (a0.Heals.length : Int)) <|
    asrt (0 ≤ v3 ∧ v3 < (b.Heals.length : Int)) <|
    ob (if (!((!decide (((lget a0.Heals v3).Epoch) = ((lget b.Heals v3).Epoch))) || (!(((lget a0.Heals v3).Has) == ((lget b.Heals v3).Has))))) = true then (R_Ints ((lget a0.Heals v3).Heard) ((lget b.Heals v3).Heard)) else some default) fun x1 =>
    ob (if (!(((!decide (((lget a0.Heals v3).Epoch) = ((lget b.Heals v3).Epoch))) || (!(((lget a0.Heals v3).Has) == ((lget b.Heals v3).Has)))) || (!x1))) = true then (R_Ints ((lget a0.Heals v3).Ends) ((lget b.Heals v3).Ends)) else some default) fun x2 =>
    ob (if (!((((!decide (((lget a0.Heals v3).Epoch) = ((lget b.Heals v3).Epoch))) || (!(((lget a0.Heals v3).Has) == ((lget b.Heals v3).Has)))) || (!x1)) || (!x2))) = true then (R_SameTexts ((lget a0.Heals v3).Recs) ((lget b.Heals v3).Recs)) else some default) fun x3 =>
    if ((((((!decide (((lget a0.Heals v3).Epoch) = ((lget b.Heals v3).Epoch))) || (!(((lget a0.Heals v3).Has) == ((lget b.Heals v3).Has)))) || (!x1)) || (!x2)) || (!x3)) || (!decide ((((lget a0.Heals v3).Said).length : Int) = (((lget b.Heals v3).Said).length : Int)))) = true then
      some (Sum.inr false)
    else
      R_SameVault_L2 a0 b v3 0
  else
    inrO (R_SameVault_J3 ())
noncomputable def R_SameVault_L1 (a0 : Vault) (b : Vault) (v0 : Int) : Option Bool :=
  loopO (fun y => R_SameVault_B1 a0 b y) v0
noncomputable def R_SameVault_J2 (a0 : Vault) (b : Vault) (v1 : Unit) : Option Bool :=
  R_SameVault_L1 a0 b 0
noncomputable def R_SameVault_B3 (a0 : Vault) (b : Vault) (v6 : Int) : Option (Int ⊕ Bool) :=
  if (decide (v6 < (a0.Took.length : Int))) = true then
    asrt (0 ≤ v6 ∧ v6 < (a0.Took.length : Int)) <|
    asrt (0 ≤ v6 ∧ v6 < (b.Took.length : Int)) <|
    ob (R_Ints (lget a0.Took v6) (lget b.Took v6)) fun x5 =>
    if (!x5) = true then
      some (Sum.inr false)
    else
      some (Sum.inl (w64 (v6 + 1)))
  else
    inrO (R_SameVault_J2 a0 b ())
noncomputable def R_SameVault_L3 (a0 : Vault) (b : Vault) (v0 : Int) : Option Bool :=
  loopO (fun y => R_SameVault_B3 a0 b y) v0
noncomputable def R_SameVault_J1 (a0 : Vault) (b : Vault) (v : Unit) : Option Bool :=
  R_SameVault_L3 a0 b 0
noncomputable def R_SameVault_B4 (a0 : Vault) (b : Vault) (v7 : Int) : Option (Int ⊕ Bool) :=
  if (decide (v7 < (a0.Copies.length : Int))) = true then
    asrt (0 ≤ v7 ∧ v7 < (a0.Copies.length : Int)) <|
    asrt (0 ≤ v7 ∧ v7 < (b.Copies.length : Int)) <|
    ob (R_SameCopy (⟨(lget a0.Copies v7).Epoch, (lget a0.Copies v7).Closed, (lget a0.Copies v7).Recs, (lget a0.Copies v7).Ended⟩ : Copy) (⟨(lget b.Copies v7).Epoch, (lget b.Copies v7).Closed, (lget b.Copies v7).Recs, (lget b.Copies v7).Ended⟩ : Copy)) fun x6 =>
    if (!x6) = true then
      some (Sum.inr false)
    else
      some (Sum.inl (w64 (v7 + 1)))
  else
    inrO (R_SameVault_J1 a0 b ())
noncomputable def R_SameVault_L4 (a0 : Vault) (b : Vault) (v0 : Int) : Option Bool :=
  loopO (fun y => R_SameVault_B4 a0 b y) v0
noncomputable def R_SameVault (a0 : Vault) (b : Vault) : Option Bool :=
  ob (if (!(!decide ((a0.Copies.length : Int) = (b.Copies.length : Int)))) = true then (R_SameTexts a0.Wrote b.Wrote) else some default) fun x =>
  if ((((!decide ((a0.Copies.length : Int) = (b.Copies.length : Int))) || (!x)) || (!decide ((a0.Took.length : Int) = (b.Took.length : Int)))) || (!decide ((a0.Heals.length : Int) = (b.Heals.length : Int)))) = true then
    some false
  else
    R_SameVault_L4 a0 b 0
theorem R_SameVault_ok (a0 : Vault) (b : Vault) (r : Bool) (hF : R_SameVault a0 b = some r) : Pc Try.prog 45 [.agg [.sl 4 (a0.Copies.map e_Copy), .sl 1 (a0.Wrote.map e_str), .sl 1 (a0.Took.map e_L_i64), .sl 6 (a0.Heals.map e_Heal)], .agg [.sl 4 (b.Copies.map e_Copy), .sl 1 (b.Wrote.map e_str), .sl 1 (b.Took.map e_L_i64), .sl 6 (b.Heals.map e_Heal)]] (.bool r) := by
  refine Pc_of (N := 163) (res := [.tmp 4]) (ts := [4]) Ty.ok Fn.b45 Try.func45 rfl rfl rfl rfl rfl ?_
  intro Q g hfin
  unfold R_SameVault at hF
  refine Wk_seq ?_
  refine WR [] [2, 3] [2, 3] [] [] ⟨[(2, .ptr 2 0), (3, .ptr 3 0)], [(2, [.sl 4 (a0.Copies.map e_Copy), .sl 1 (a0.Wrote.map e_str), .sl 1 (a0.Took.map e_L_i64), .sl 6 (a0.Heals.map e_Heal)]), (3, [.sl 4 (b.Copies.map e_Copy), .sl 1 (b.Wrote.map e_str), .sl 1 (b.Took.map e_L_i64), .sl 6 (b.Heals.map e_Heal)])], [], []⟩ .nil (by kernel_rfl) ?_
  refine Wk_seq ?_
  refine Wk_seq ?_
  obtain ⟨x, h0, hF⟩ := ob_elim hF
  refine WR [.nat (a0.Copies.length : Int), .nat (b.Copies.length : Int), .call (.bool x), .nat (a0.Took.length : Int), .nat (b.Took.length : Int), .nat (a0.Heals.length : Int), .nat (b.Heals.length : Int)] [2, 3, 43] [2, 3] [] [] ⟨[(2, .ptr 2 0), (3, .ptr 3 0), (43, .bool ((((!decide ((a0.Copies.length : Int) = (b.Copies.length : Int))) || (!x)) || (!decide ((a0.Took.length : Int) = (b.Took.length : Int)))) || (!decide ((a0.Heals.length : Int) = (b.Heals.length : Int)))))], [(2, [.sl 4 (a0.Copies.map e_Copy), .sl 1 (a0.Wrote.map e_str), .sl 1 (a0.Took.map e_L_i64), .sl 6 (a0.Heals.map e_Heal)]), (3, [.sl 4 (b.Copies.map e_Copy), .sl 1 (b.Wrote.map e_str), .sl 1 (b.Took.map e_L_i64), .sl 6 (b.Heals.map e_Heal)])], [], []⟩ (.cons (len_ok e_Copy a0.Copies) (.cons (len_ok e_Copy b.Copies) (.cons (fun (ga0 : (!(!decide ((a0.Copies.length : Int) = (b.Copies.length : Int)))) = true) => (R_SameTexts_ok a0.Wrote b.Wrote x (ite_t h0 ga0))) (.cons (fun (ga0 : (!((!decide ((a0.Copies.length : Int) = (b.Copies.length : Int))) || (!x))) = true) => (len_ok e_L_i64 a0.Took)) (.cons (fun (ga0 : (!((!decide ((a0.Copies.length : Int) = (b.Copies.length : Int))) || (!x))) = true) => (len_ok e_L_i64 b.Took)) (.cons (fun (ga0 : (!(((!decide ((a0.Copies.length : Int) = (b.Copies.length : Int))) || (!x)) || (!decide ((a0.Took.length : Int) = (b.Took.length : Int))))) = true) => (len_ok e_Heal a0.Heals)) (.cons (fun (ga0 : (!(((!decide ((a0.Copies.length : Int) = (b.Copies.length : Int))) || (!x)) || (!decide ((a0.Took.length : Int) = (b.Took.length : Int))))) = true) => (len_ok e_Heal b.Heals)) .nil))))))) (by kernel_rfl) ?_
  refine Wk_split rfl (fun hb => ?_) (fun hb => ?_)
  · have hF := ite_t hF hb
    refine Wk_seq ?_
    refine WR [] [4] [] [] [] ⟨[(4, .bool false)], [], [], []⟩ .nil (by kernel_rfl) ?_
    have hF := some_elim hF
    exact Wk_ret (hfin _ (by rw [← hF]; kernel_rfl))
  · have hF := ite_f hF hb
    refine Wk_skip ?_
    refine Wk_seq ?_
    refine Wk_seq ?_
    refine WR [] [2, 3, 5] [2, 3] [] [] ⟨[(2, .ptr 2 0), (3, .ptr 3 0), (5, .int .i64 0)], [(2, [.sl 4 (a0.Copies.map e_Copy), .sl 1 (a0.Wrote.map e_str), .sl 1 (a0.Took.map e_L_i64), .sl 6 (a0.Heals.map e_Heal)]), (3, [.sl 4 (b.Copies.map e_Copy), .sl 1 (b.Wrote.map e_str), .sl 1 (b.Took.map e_L_i64), .sl 6 (b.Heals.map e_Heal)])], [], []⟩ .nil (by kernel_rfl) ?_
    refine Wk_meetP (fun v : Unit => (⟨[(2, .ptr 2 0), (3, .ptr 3 0)], [(2, [.sl 4 (a0.Copies.map e_Copy), .sl 1 (a0.Wrote.map e_str), .sl 1 (a0.Took.map e_L_i64), .sl 6 (a0.Heals.map e_Heal)]), (3, [.sl 4 (b.Copies.map e_Copy), .sl 1 (b.Wrote.map e_str), .sl 1 (b.Took.map e_L_i64), .sl 6 (b.Heals.map e_Heal)])], [], []⟩ : S)) (fun v => R_SameVault_J1 a0 b v = some r) ?_ ?_
    · refine Wk_block ?_
      unfold R_SameVault_L4 at hF
      refine Wk_trim (fs := [2, 3, 5]) (bs := [2, 3]) (rs := []) (ms := []) (t := (fun v7 : Int => (⟨[(2, .ptr 2 0), (3, .ptr 3 0), (5, .int .i64 v7)], [(2, [.sl 4 (a0.Copies.map e_Copy), .sl 1 (a0.Wrote.map e_str), .sl 1 (a0.Took.map e_L_i64), .sl 6 (a0.Heals.map e_Heal)]), (3, [.sl 4 (b.Copies.map e_Copy), .sl 1 (b.Wrote.map e_str), .sl 1 (b.Took.map e_L_i64), .sl 6 (b.Heals.map e_Heal)])], [], []⟩ : S)) 0) (by kernel_rfl) ?_
      refine Wk_iter (step := fun y => R_SameVault_B4 a0 b y) (r := r) (fun v7 : Int => (⟨[(2, .ptr 2 0), (3, .ptr 3 0), (5, .int .i64 v7)], [(2, [.sl 4 (a0.Copies.map e_Copy), .sl 1 (a0.Wrote.map e_str), .sl 1 (a0.Took.map e_L_i64), .sl 6 (a0.Heals.map e_Heal)]), (3, [.sl 4 (b.Copies.map e_Copy), .sl 1 (b.Wrote.map e_str), .sl 1 (b.Took.map e_L_i64), .sl 6 (b.Heals.map e_Heal)])], [], []⟩ : S)) 0 hF ?_
      intro n1 v7 y1 hF ih1 dn1
      have hF : R_SameVault_B4 a0 b v7 = some y1 := hF
      unfold R_SameVault_B4 at hF
      refine Wk_seq ?_
      refine Wk_seq ?_
      refine WR [.nat (a0.Copies.length : Int)] [2, 3, 5, 48] [2, 3] [] [] ⟨[(2, .ptr 2 0), (3, .ptr 3 0), (5, .int .i64 v7), (48, .bool (decide (v7 < (a0.Copies.length : Int))))], [(2, [.sl 4 (a0.Copies.map e_Copy), .sl 1 (a0.Wrote.map e_str), .sl 1 (a0.Took.map e_L_i64), .sl 6 (a0.Heals.map e_Heal)]), (3, [.sl 4 (b.Copies.map e_Copy), .sl 1 (b.Wrote.map e_str), .sl 1 (b.Took.map e_L_i64), .sl 6 (b.Heals.map e_Heal)])], [], []⟩ (.cons (len_ok e_Copy a0.Copies) .nil) (by kernel_rfl) ?_
      refine Wk_split rfl (fun hb => ?_) (fun hb => ?_)
      · have hF := ite_t hF hb
        refine Wk_skip ?_
        refine Wk_seq ?_
        refine Wk_block ?_
        refine Wk_seq ?_
        obtain ⟨h12, hF⟩ := asrt_elim hF
        obtain ⟨h13, hF⟩ := asrt_elim hF
        obtain ⟨x6, h14, hF⟩ := ob_elim hF
        refine WD [.av (e_Copy (lget a0.Copies v7)), .av (e_Copy (lget b.Copies v7)), .call (.bool x6)] [2, 3, 5, 62] [2, 3] [] [] ⟨[(2, .ptr 2 0), (3, .ptr 3 0), (5, .int .i64 v7), (62, .bool (!x6))], [(2, [.sl 4 (a0.Copies.map e_Copy), .sl 1 (a0.Wrote.map e_str), .sl 1 (a0.Took.map e_L_i64), .sl 6 (a0.Heals.map e_Heal)]), (3, [.sl 4 (b.Copies.map e_Copy), .sl 1 (b.Wrote.map e_str), .sl 1 (b.Took.map e_L_i64), .sl 6 (b.Heals.map e_Heal)])], [], []⟩ (.cons (idx_ok e_Copy h12) (.cons (idx_ok e_Copy h13) (.cons (R_SameCopy_ok (⟨(lget a0.Copies v7).Epoch, (lget a0.Copies v7).Closed, (lget a0.Copies v7).Recs, (lget a0.Copies v7).Ended⟩ : Copy) (⟨(lget b.Copies v7).Epoch, (lget b.Copies v7).Closed, (lget b.Copies v7).Recs, (lget b.Copies v7).Ended⟩ : Copy) x6 h14) .nil))) (by kernel_rfl) ?_
        refine Wk_split rfl (fun hb => ?_) (fun hb => ?_)
        · have hF := ite_t hF hb
          refine Wk_seq ?_
          refine WR [] [4] [] [] [] ⟨[(4, .bool false)], [], [], []⟩ .nil (by kernel_rfl) ?_
          have hF := ret_done hF dn1
          have hF := some_elim hF
          exact Wk_ret (hfin _ (by rw [← hF]; kernel_rfl))
        · have hF := ite_f hF hb
          refine Wk_skip ?_
          refine Wk_blk ?_
          refine WR [] [2, 3, 5] [2, 3] [] [] ⟨[(2, .ptr 2 0), (3, .ptr 3 0), (5, .int .i64 (w64 (v7 + 1)))], [(2, [.sl 4 (a0.Copies.map e_Copy), .sl 1 (a0.Wrote.map e_str), .sl 1 (a0.Took.map e_L_i64), .sl 6 (a0.Heals.map e_Heal)]), (3, [.sl 4 (b.Copies.map e_Copy), .sl 1 (b.Wrote.map e_str), .sl 1 (b.Took.map e_L_i64), .sl 6 (b.Heals.map e_Heal)])], [], []⟩ .nil (by kernel_rfl) ?_
          refine Wk_trim (fs := [2, 3, 5]) (bs := [2, 3]) (rs := []) (ms := []) ?_ (ih1 _ (some_elim hF).symm)
          kernel_rfl
      · have hF := ite_f hF hb
        refine Wk_exit rfl ?_
        have hF := inrO_done hF dn1
        exact Wk_metP () [2, 3] [2, 3] [] [] hF (by kernel_rfl)
    · intro v hF
      have hF : R_SameVault_J1 a0 b v = some r := hF
      unfold R_SameVault_J1 at hF
      refine Wk_seq ?_
      refine Wk_seq ?_
      refine WR [] [2, 3, 6] [2, 3] [] [] ⟨[(2, .ptr 2 0), (3, .ptr 3 0), (6, .int .i64 0)], [(2, [.sl 4 (a0.Copies.map e_Copy), .sl 1 (a0.Wrote.map e_str), .sl 1 (a0.Took.map e_L_i64), .sl 6 (a0.Heals.map e_Heal)]), (3, [.sl 4 (b.Copies.map e_Copy), .sl 1 (b.Wrote.map e_str), .sl 1 (b.Took.map e_L_i64), .sl 6 (b.Heals.map e_Heal)])], [], []⟩ .nil (by kernel_rfl) ?_
      refine Wk_meetP (fun v1 : Unit => (⟨[(2, .ptr 2 0), (3, .ptr 3 0)], [(2, [.sl 4 (a0.Copies.map e_Copy), .sl 1 (a0.Wrote.map e_str), .sl 1 (a0.Took.map e_L_i64), .sl 6 (a0.Heals.map e_Heal)]), (3, [.sl 4 (b.Copies.map e_Copy), .sl 1 (b.Wrote.map e_str), .sl 1 (b.Took.map e_L_i64), .sl 6 (b.Heals.map e_Heal)])], [], []⟩ : S)) (fun v1 => R_SameVault_J2 a0 b v1 = some r) ?_ ?_
      · refine Wk_block ?_
        unfold R_SameVault_L3 at hF
        refine Wk_trim (fs := [2, 3, 6]) (bs := [2, 3]) (rs := []) (ms := []) (t := (fun v6 : Int => (⟨[(2, .ptr 2 0), (3, .ptr 3 0), (6, .int .i64 v6)], [(2, [.sl 4 (a0.Copies.map e_Copy), .sl 1 (a0.Wrote.map e_str), .sl 1 (a0.Took.map e_L_i64), .sl 6 (a0.Heals.map e_Heal)]), (3, [.sl 4 (b.Copies.map e_Copy), .sl 1 (b.Wrote.map e_str), .sl 1 (b.Took.map e_L_i64), .sl 6 (b.Heals.map e_Heal)])], [], []⟩ : S)) 0) (by kernel_rfl) ?_
        refine Wk_iter (step := fun y => R_SameVault_B3 a0 b y) (r := r) (fun v6 : Int => (⟨[(2, .ptr 2 0), (3, .ptr 3 0), (6, .int .i64 v6)], [(2, [.sl 4 (a0.Copies.map e_Copy), .sl 1 (a0.Wrote.map e_str), .sl 1 (a0.Took.map e_L_i64), .sl 6 (a0.Heals.map e_Heal)]), (3, [.sl 4 (b.Copies.map e_Copy), .sl 1 (b.Wrote.map e_str), .sl 1 (b.Took.map e_L_i64), .sl 6 (b.Heals.map e_Heal)])], [], []⟩ : S)) 0 hF ?_
        intro n1 v6 y1 hF ih1 dn1
        have hF : R_SameVault_B3 a0 b v6 = some y1 := hF
        unfold R_SameVault_B3 at hF
        refine Wk_seq ?_
        refine Wk_seq ?_
        refine WR [.nat (a0.Took.length : Int)] [2, 3, 6, 67] [2, 3] [] [] ⟨[(2, .ptr 2 0), (3, .ptr 3 0), (6, .int .i64 v6), (67, .bool (decide (v6 < (a0.Took.length : Int))))], [(2, [.sl 4 (a0.Copies.map e_Copy), .sl 1 (a0.Wrote.map e_str), .sl 1 (a0.Took.map e_L_i64), .sl 6 (a0.Heals.map e_Heal)]), (3, [.sl 4 (b.Copies.map e_Copy), .sl 1 (b.Wrote.map e_str), .sl 1 (b.Took.map e_L_i64), .sl 6 (b.Heals.map e_Heal)])], [], []⟩ (.cons (len_ok e_L_i64 a0.Took) .nil) (by kernel_rfl) ?_
        refine Wk_split rfl (fun hb => ?_) (fun hb => ?_)
        · have hF := ite_t hF hb
          refine Wk_skip ?_
          refine Wk_seq ?_
          refine Wk_block ?_
          refine Wk_seq ?_
          obtain ⟨h9, hF⟩ := asrt_elim hF
          obtain ⟨h10, hF⟩ := asrt_elim hF
          obtain ⟨x5, h11, hF⟩ := ob_elim hF
          refine WD [.av (e_L_i64 (lget a0.Took v6)), .av (e_L_i64 (lget b.Took v6)), .call (.bool x5)] [2, 3, 6, 81] [2, 3] [] [] ⟨[(2, .ptr 2 0), (3, .ptr 3 0), (6, .int .i64 v6), (81, .bool (!x5))], [(2, [.sl 4 (a0.Copies.map e_Copy), .sl 1 (a0.Wrote.map e_str), .sl 1 (a0.Took.map e_L_i64), .sl 6 (a0.Heals.map e_Heal)]), (3, [.sl 4 (b.Copies.map e_Copy), .sl 1 (b.Wrote.map e_str), .sl 1 (b.Took.map e_L_i64), .sl 6 (b.Heals.map e_Heal)])], [], []⟩ (.cons (idx_ok e_L_i64 h9) (.cons (idx_ok e_L_i64 h10) (.cons (R_Ints_ok (lget a0.Took v6) (lget b.Took v6) x5 h11) .nil))) (by kernel_rfl) ?_
          refine Wk_split rfl (fun hb => ?_) (fun hb => ?_)
          · have hF := ite_t hF hb
            refine Wk_seq ?_
            refine WR [] [4] [] [] [] ⟨[(4, .bool false)], [], [], []⟩ .nil (by kernel_rfl) ?_
            have hF := ret_done hF dn1
            have hF := some_elim hF
            exact Wk_ret (hfin _ (by rw [← hF]; kernel_rfl))
          · have hF := ite_f hF hb
            refine Wk_skip ?_
            refine Wk_blk ?_
            refine WR [] [2, 3, 6] [2, 3] [] [] ⟨[(2, .ptr 2 0), (3, .ptr 3 0), (6, .int .i64 (w64 (v6 + 1)))], [(2, [.sl 4 (a0.Copies.map e_Copy), .sl 1 (a0.Wrote.map e_str), .sl 1 (a0.Took.map e_L_i64), .sl 6 (a0.Heals.map e_Heal)]), (3, [.sl 4 (b.Copies.map e_Copy), .sl 1 (b.Wrote.map e_str), .sl 1 (b.Took.map e_L_i64), .sl 6 (b.Heals.map e_Heal)])], [], []⟩ .nil (by kernel_rfl) ?_
            refine Wk_trim (fs := [2, 3, 6]) (bs := [2, 3]) (rs := []) (ms := []) ?_ (ih1 _ (some_elim hF).symm)
            kernel_rfl
        · have hF := ite_f hF hb
          refine Wk_exit rfl ?_
          have hF := inrO_done hF dn1
          exact Wk_metP () [2, 3] [2, 3] [] [] hF (by kernel_rfl)
      · intro v1 hF
        have hF : R_SameVault_J2 a0 b v1 = some r := hF
        unfold R_SameVault_J2 at hF
        refine Wk_seq ?_
        refine Wk_seq ?_
        refine WR [] [2, 3, 7] [2, 3] [] [] ⟨[(2, .ptr 2 0), (3, .ptr 3 0), (7, .int .i64 0)], [(2, [.sl 4 (a0.Copies.map e_Copy), .sl 1 (a0.Wrote.map e_str), .sl 1 (a0.Took.map e_L_i64), .sl 6 (a0.Heals.map e_Heal)]), (3, [.sl 4 (b.Copies.map e_Copy), .sl 1 (b.Wrote.map e_str), .sl 1 (b.Took.map e_L_i64), .sl 6 (b.Heals.map e_Heal)])], [], []⟩ .nil (by kernel_rfl) ?_
        refine Wk_meetP (fun v2 : Unit => (⟨[], [], [], []⟩ : S)) (fun v2 => R_SameVault_J3 v2 = some r) ?_ ?_
        · refine Wk_block ?_
          unfold R_SameVault_L1 at hF
          refine Wk_trim (fs := [2, 3, 7]) (bs := [2, 3]) (rs := []) (ms := []) (t := (fun v3 : Int => (⟨[(2, .ptr 2 0), (3, .ptr 3 0), (7, .int .i64 v3)], [(2, [.sl 4 (a0.Copies.map e_Copy), .sl 1 (a0.Wrote.map e_str), .sl 1 (a0.Took.map e_L_i64), .sl 6 (a0.Heals.map e_Heal)]), (3, [.sl 4 (b.Copies.map e_Copy), .sl 1 (b.Wrote.map e_str), .sl 1 (b.Took.map e_L_i64), .sl 6 (b.Heals.map e_Heal)])], [], []⟩ : S)) 0) (by kernel_rfl) ?_
          refine Wk_iter (step := fun y => R_SameVault_B1 a0 b y) (r := r) (fun v3 : Int => (⟨[(2, .ptr 2 0), (3, .ptr 3 0), (7, .int .i64 v3)], [(2, [.sl 4 (a0.Copies.map e_Copy), .sl 1 (a0.Wrote.map e_str), .sl 1 (a0.Took.map e_L_i64), .sl 6 (a0.Heals.map e_Heal)]), (3, [.sl 4 (b.Copies.map e_Copy), .sl 1 (b.Wrote.map e_str), .sl 1 (b.Took.map e_L_i64), .sl 6 (b.Heals.map e_Heal)])], [], []⟩ : S)) 0 hF ?_
          intro n1 v3 y1 hF ih1 dn1
          have hF : R_SameVault_B1 a0 b v3 = some y1 := hF
          unfold R_SameVault_B1 at hF
          refine Wk_seq ?_
          refine Wk_seq ?_
          refine WR [.nat (a0.Heals.length : Int)] [2, 3, 7, 86] [2, 3] [] [] ⟨[(2, .ptr 2 0), (3, .ptr 3 0), (7, .int .i64 v3), (86, .bool (decide (v3 < (a0.Heals.length : Int))))], [(2, [.sl 4 (a0.Copies.map e_Copy), .sl 1 (a0.Wrote.map e_str), .sl 1 (a0.Took.map e_L_i64), .sl 6 (a0.Heals.map e_Heal)]), (3, [.sl 4 (b.Copies.map e_Copy), .sl 1 (b.Wrote.map e_str), .sl 1 (b.Took.map e_L_i64), .sl 6 (b.Heals.map e_Heal)])], [], []⟩ (.cons (len_ok e_Heal a0.Heals) .nil) (by kernel_rfl) ?_
          refine Wk_split rfl (fun hb => ?_) (fun hb => ?_)
          · have hF := ite_t hF hb
            refine Wk_skip ?_
            refine Wk_seq ?_
            refine Wk_block ?_
            refine Wk_seq ?_
            obtain ⟨h1, hF⟩ := asrt_elim hF
            obtain ⟨h2, hF⟩ := asrt_elim hF
            refine WD [.av (e_Heal (lget a0.Heals v3)), .av (e_Heal (lget b.Heals v3))] [2, 3, 7, 8, 9] [2, 3, 8, 9] [] [] ⟨[(2, .ptr 2 0), (3, .ptr 3 0), (7, .int .i64 v3), (8, .ptr 8 0), (9, .ptr 9 0)], [(2, [.sl 4 (a0.Copies.map e_Copy), .sl 1 (a0.Wrote.map e_str), .sl 1 (a0.Took.map e_L_i64), .sl 6 (a0.Heals.map e_Heal)]), (3, [.sl 4 (b.Copies.map e_Copy), .sl 1 (b.Wrote.map e_str), .sl 1 (b.Took.map e_L_i64), .sl 6 (b.Heals.map e_Heal)]), (8, [.int .i64 ((lget a0.Heals v3).Epoch), .sl 1 (((lget a0.Heals v3).Heard).map e_i64), .sl 4 (((lget a0.Heals v3).Said).map e_Copy), .bool ((lget a0.Heals v3).Has), .sl 1 (((lget a0.Heals v3).Recs).map e_str), .sl 1 (((lget a0.Heals v3).Ends).map e_i64)]), (9, [.int .i64 ((lget b.Heals v3).Epoch), .sl 1 (((lget b.Heals v3).Heard).map e_i64), .sl 4 (((lget b.Heals v3).Said).map e_Copy), .bool ((lget b.Heals v3).Has), .sl 1 (((lget b.Heals v3).Recs).map e_str), .sl 1 (((lget b.Heals v3).Ends).map e_i64)])], [], []⟩ (.cons (idx_ok e_Heal h1) (.cons (idx_ok e_Heal h2) .nil)) (by kernel_rfl) ?_
            refine Wk_seq ?_
            refine Wk_seq ?_
            obtain ⟨x1, h3, hF⟩ := ob_elim hF
            obtain ⟨x2, h4, hF⟩ := ob_elim hF
            obtain ⟨x3, h5, hF⟩ := ob_elim hF
            refine WR [.call (.bool x1), .call (.bool x2), .call (.bool x3), .nat (((lget a0.Heals v3).Said).length : Int), .nat (((lget b.Heals v3).Said).length : Int)] [2, 3, 7, 8, 9, 143] [2, 3, 8, 9] [] [] ⟨[(2, .ptr 2 0), (3, .ptr 3 0), (7, .int .i64 v3), (8, .ptr 8 0), (9, .ptr 9 0), (143, .bool ((((((!decide (((lget a0.Heals v3).Epoch) = ((lget b.Heals v3).Epoch))) || (!(((lget a0.Heals v3).Has) == ((lget b.Heals v3).Has)))) || (!x1)) || (!x2)) || (!x3)) || (!decide ((((lget a0.Heals v3).Said).length : Int) = (((lget b.Heals v3).Said).length : Int)))))], [(2, [.sl 4 (a0.Copies.map e_Copy), .sl 1 (a0.Wrote.map e_str), .sl 1 (a0.Took.map e_L_i64), .sl 6 (a0.Heals.map e_Heal)]), (3, [.sl 4 (b.Copies.map e_Copy), .sl 1 (b.Wrote.map e_str), .sl 1 (b.Took.map e_L_i64), .sl 6 (b.Heals.map e_Heal)]), (8, [.int .i64 ((lget a0.Heals v3).Epoch), .sl 1 (((lget a0.Heals v3).Heard).map e_i64), .sl 4 (((lget a0.Heals v3).Said).map e_Copy), .bool ((lget a0.Heals v3).Has), .sl 1 (((lget a0.Heals v3).Recs).map e_str), .sl 1 (((lget a0.Heals v3).Ends).map e_i64)]), (9, [.int .i64 ((lget b.Heals v3).Epoch), .sl 1 (((lget b.Heals v3).Heard).map e_i64), .sl 4 (((lget b.Heals v3).Said).map e_Copy), .bool ((lget b.Heals v3).Has), .sl 1 (((lget b.Heals v3).Recs).map e_str), .sl 1 (((lget b.Heals v3).Ends).map e_i64)])], [], []⟩ (.cons (fun (ga0 : (!((!decide (((lget a0.Heals v3).Epoch) = ((lget b.Heals v3).Epoch))) || (!(((lget a0.Heals v3).Has) == ((lget b.Heals v3).Has))))) = true) => (R_Ints_ok ((lget a0.Heals v3).Heard) ((lget b.Heals v3).Heard) x1 (ite_t h3 ga0))) (.cons (fun (ga0 : (!(((!decide (((lget a0.Heals v3).Epoch) = ((lget b.Heals v3).Epoch))) || (!(((lget a0.Heals v3).Has) == ((lget b.Heals v3).Has)))) || (!x1))) = true) => (R_Ints_ok ((lget a0.Heals v3).Ends) ((lget b.Heals v3).Ends) x2 (ite_t h4 ga0))) (.cons (fun (ga0 : (!((((!decide (((lget a0.Heals v3).Epoch) = ((lget b.Heals v3).Epoch))) || (!(((lget a0.Heals v3).Has) == ((lget b.Heals v3).Has)))) || (!x1)) || (!x2))) = true) => (R_SameTexts_ok ((lget a0.Heals v3).Recs) ((lget b.Heals v3).Recs) x3 (ite_t h5 ga0))) (.cons (fun (ga0 : (!(((((!decide (((lget a0.Heals v3).Epoch) = ((lget b.Heals v3).Epoch))) || (!(((lget a0.Heals v3).Has) == ((lget b.Heals v3).Has)))) || (!x1)) || (!x2)) || (!x3))) = true) => (len_ok e_Copy ((lget a0.Heals v3).Said))) (.cons (fun (ga0 : (!(((((!decide (((lget a0.Heals v3).Epoch) = ((lget b.Heals v3).Epoch))) || (!(((lget a0.Heals v3).Has) == ((lget b.Heals v3).Has)))) || (!x1)) || (!x2)) || (!x3))) = true) => (len_ok e_Copy ((lget b.Heals v3).Said))) .nil))))) (by kernel_rfl) ?_
            refine Wk_split rfl (fun hb => ?_) (fun hb => ?_)
            · have hF := ite_t hF hb
              refine Wk_seq ?_
              refine WR [] [4] [] [] [] ⟨[(4, .bool false)], [], [], []⟩ .nil (by kernel_rfl) ?_
              have hF := ret_done hF dn1
              have hF := some_elim hF
              exact Wk_ret (hfin _ (by rw [← hF]; kernel_rfl))
            · have hF := ite_f hF hb
              refine Wk_skip ?_
              refine Wk_seq ?_
              refine WR [] [2, 3, 7, 8, 9, 10] [2, 3, 8, 9] [] [] ⟨[(2, .ptr 2 0), (3, .ptr 3 0), (7, .int .i64 v3), (8, .ptr 8 0), (9, .ptr 9 0), (10, .int .i64 0)], [(2, [.sl 4 (a0.Copies.map e_Copy), .sl 1 (a0.Wrote.map e_str), .sl 1 (a0.Took.map e_L_i64), .sl 6 (a0.Heals.map e_Heal)]), (3, [.sl 4 (b.Copies.map e_Copy), .sl 1 (b.Wrote.map e_str), .sl 1 (b.Took.map e_L_i64), .sl 6 (b.Heals.map e_Heal)]), (8, [.int .i64 ((lget a0.Heals v3).Epoch), .sl 1 (((lget a0.Heals v3).Heard).map e_i64), .sl 4 (((lget a0.Heals v3).Said).map e_Copy), .bool ((lget a0.Heals v3).Has), .sl 1 (((lget a0.Heals v3).Recs).map e_str), .sl 1 (((lget a0.Heals v3).Ends).map e_i64)]), (9, [.int .i64 ((lget b.Heals v3).Epoch), .sl 1 (((lget b.Heals v3).Heard).map e_i64), .sl 4 (((lget b.Heals v3).Said).map e_Copy), .bool ((lget b.Heals v3).Has), .sl 1 (((lget b.Heals v3).Recs).map e_str), .sl 1 (((lget b.Heals v3).Ends).map e_i64)])], [], []⟩ .nil (by kernel_rfl) ?_
              refine Wk_meetP (fun v4 : Unit => (⟨[(2, .ptr 2 0), (3, .ptr 3 0), (7, .int .i64 v3)], [(2, [.sl 4 (a0.Copies.map e_Copy), .sl 1 (a0.Wrote.map e_str), .sl 1 (a0.Took.map e_L_i64), .sl 6 (a0.Heals.map e_Heal)]), (3, [.sl 4 (b.Copies.map e_Copy), .sl 1 (b.Wrote.map e_str), .sl 1 (b.Took.map e_L_i64), .sl 6 (b.Heals.map e_Heal)])], [], []⟩ : S)) (fun v4 => R_SameVault_J4 v3 v4 = some y1) ?_ ?_
              · refine Wk_block ?_
                unfold R_SameVault_L2 at hF
                refine Wk_trim (fs := [2, 3, 7, 8, 9, 10]) (bs := [2, 3, 8, 9]) (rs := []) (ms := []) (t := (fun v5 : Int => (⟨[(2, .ptr 2 0), (3, .ptr 3 0), (7, .int .i64 v3), (8, .ptr 8 0), (9, .ptr 9 0), (10, .int .i64 v5)], [(2, [.sl 4 (a0.Copies.map e_Copy), .sl 1 (a0.Wrote.map e_str), .sl 1 (a0.Took.map e_L_i64), .sl 6 (a0.Heals.map e_Heal)]), (3, [.sl 4 (b.Copies.map e_Copy), .sl 1 (b.Wrote.map e_str), .sl 1 (b.Took.map e_L_i64), .sl 6 (b.Heals.map e_Heal)]), (8, [.int .i64 ((lget a0.Heals v3).Epoch), .sl 1 (((lget a0.Heals v3).Heard).map e_i64), .sl 4 (((lget a0.Heals v3).Said).map e_Copy), .bool ((lget a0.Heals v3).Has), .sl 1 (((lget a0.Heals v3).Recs).map e_str), .sl 1 (((lget a0.Heals v3).Ends).map e_i64)]), (9, [.int .i64 ((lget b.Heals v3).Epoch), .sl 1 (((lget b.Heals v3).Heard).map e_i64), .sl 4 (((lget b.Heals v3).Said).map e_Copy), .bool ((lget b.Heals v3).Has), .sl 1 (((lget b.Heals v3).Recs).map e_str), .sl 1 (((lget b.Heals v3).Ends).map e_i64)])], [], []⟩ : S)) 0) (by kernel_rfl) ?_
                refine Wk_iter (step := fun y => R_SameVault_B2 a0 b v3 y) (r := y1) (fun v5 : Int => (⟨[(2, .ptr 2 0), (3, .ptr 3 0), (7, .int .i64 v3), (8, .ptr 8 0), (9, .ptr 9 0), (10, .int .i64 v5)], [(2, [.sl 4 (a0.Copies.map e_Copy), .sl 1 (a0.Wrote.map e_str), .sl 1 (a0.Took.map e_L_i64), .sl 6 (a0.Heals.map e_Heal)]), (3, [.sl 4 (b.Copies.map e_Copy), .sl 1 (b.Wrote.map e_str), .sl 1 (b.Took.map e_L_i64), .sl 6 (b.Heals.map e_Heal)]), (8, [.int .i64 ((lget a0.Heals v3).Epoch), .sl 1 (((lget a0.Heals v3).Heard).map e_i64), .sl 4 (((lget a0.Heals v3).Said).map e_Copy), .bool ((lget a0.Heals v3).Has), .sl 1 (((lget a0.Heals v3).Recs).map e_str), .sl 1 (((lget a0.Heals v3).Ends).map e_i64)]), (9, [.int .i64 ((lget b.Heals v3).Epoch), .sl 1 (((lget b.Heals v3).Heard).map e_i64), .sl 4 (((lget b.Heals v3).Said).map e_Copy), .bool ((lget b.Heals v3).Has), .sl 1 (((lget b.Heals v3).Recs).map e_str), .sl 1 (((lget b.Heals v3).Ends).map e_i64)])], [], []⟩ : S)) 0 hF ?_
                intro n2 v5 y2 hF ih2 dn2
                have hF : R_SameVault_B2 a0 b v3 v5 = some y2 := hF
                unfold R_SameVault_B2 at hF
                refine Wk_seq ?_
                refine Wk_seq ?_
                refine WR [.nat (((lget a0.Heals v3).Said).length : Int)] [2, 3, 7, 8, 9, 10, 148] [2, 3, 8, 9] [] [] ⟨[(2, .ptr 2 0), (3, .ptr 3 0), (7, .int .i64 v3), (8, .ptr 8 0), (9, .ptr 9 0), (10, .int .i64 v5), (148, .bool (decide (v5 < (((lget a0.Heals v3).Said).length : Int))))], [(2, [.sl 4 (a0.Copies.map e_Copy), .sl 1 (a0.Wrote.map e_str), .sl 1 (a0.Took.map e_L_i64), .sl 6 (a0.Heals.map e_Heal)]), (3, [.sl 4 (b.Copies.map e_Copy), .sl 1 (b.Wrote.map e_str), .sl 1 (b.Took.map e_L_i64), .sl 6 (b.Heals.map e_Heal)]), (8, [.int .i64 ((lget a0.Heals v3).Epoch), .sl 1 (((lget a0.Heals v3).Heard).map e_i64), .sl 4 (((lget a0.Heals v3).Said).map e_Copy), .bool ((lget a0.Heals v3).Has), .sl 1 (((lget a0.Heals v3).Recs).map e_str), .sl 1 (((lget a0.Heals v3).Ends).map e_i64)]), (9, [.int .i64 ((lget b.Heals v3).Epoch), .sl 1 (((lget b.Heals v3).Heard).map e_i64), .sl 4 (((lget b.Heals v3).Said).map e_Copy), .bool ((lget b.Heals v3).Has), .sl 1 (((lget b.Heals v3).Recs).map e_str), .sl 1 (((lget b.Heals v3).Ends).map e_i64)])], [], []⟩ (.cons (len_ok e_Copy ((lget a0.Heals v3).Said)) .nil) (by kernel_rfl) ?_
                refine Wk_split rfl (fun hb => ?_) (fun hb => ?_)
                · have hF := ite_t hF hb
                  refine Wk_skip ?_
                  refine Wk_seq ?_
                  refine Wk_block ?_
                  refine Wk_seq ?_
                  obtain ⟨h6, hF⟩ := asrt_elim hF
                  obtain ⟨h7, hF⟩ := asrt_elim hF
                  obtain ⟨x4, h8, hF⟩ := ob_elim hF
                  refine WD [.av (e_Copy (lget ((lget a0.Heals v3).Said) v5)), .av (e_Copy (lget ((lget b.Heals v3).Said) v5)), .call (.bool x4)] [2, 3, 7, 8, 9, 10, 162] [2, 3, 8, 9] [] [] ⟨[(2, .ptr 2 0), (3, .ptr 3 0), (7, .int .i64 v3), (8, .ptr 8 0), (9, .ptr 9 0), (10, .int .i64 v5), (162, .bool (!x4))], [(2, [.sl 4 (a0.Copies.map e_Copy), .sl 1 (a0.Wrote.map e_str), .sl 1 (a0.Took.map e_L_i64), .sl 6 (a0.Heals.map e_Heal)]), (3, [.sl 4 (b.Copies.map e_Copy), .sl 1 (b.Wrote.map e_str), .sl 1 (b.Took.map e_L_i64), .sl 6 (b.Heals.map e_Heal)]), (8, [.int .i64 ((lget a0.Heals v3).Epoch), .sl 1 (((lget a0.Heals v3).Heard).map e_i64), .sl 4 (((lget a0.Heals v3).Said).map e_Copy), .bool ((lget a0.Heals v3).Has), .sl 1 (((lget a0.Heals v3).Recs).map e_str), .sl 1 (((lget a0.Heals v3).Ends).map e_i64)]), (9, [.int .i64 ((lget b.Heals v3).Epoch), .sl 1 (((lget b.Heals v3).Heard).map e_i64), .sl 4 (((lget b.Heals v3).Said).map e_Copy), .bool ((lget b.Heals v3).Has), .sl 1 (((lget b.Heals v3).Recs).map e_str), .sl 1 (((lget b.Heals v3).Ends).map e_i64)])], [], []⟩ (.cons (idx_ok e_Copy h6) (.cons (idx_ok e_Copy h7) (.cons (R_SameCopy_ok (⟨(lget ((lget a0.Heals v3).Said) v5).Epoch, (lget ((lget a0.Heals v3).Said) v5).Closed, (lget ((lget a0.Heals v3).Said) v5).Recs, (lget ((lget a0.Heals v3).Said) v5).Ended⟩ : Copy) (⟨(lget ((lget b.Heals v3).Said) v5).Epoch, (lget ((lget b.Heals v3).Said) v5).Closed, (lget ((lget b.Heals v3).Said) v5).Recs, (lget ((lget b.Heals v3).Said) v5).Ended⟩ : Copy) x4 h8) .nil))) (by kernel_rfl) ?_
                  refine Wk_split rfl (fun hb => ?_) (fun hb => ?_)
                  · have hF := ite_t hF hb
                    refine Wk_seq ?_
                    refine WR [] [4] [] [] [] ⟨[(4, .bool false)], [], [], []⟩ .nil (by kernel_rfl) ?_
                    have hF := ret_done hF dn2
                    have hF := ret_done hF dn1
                    have hF := some_elim hF
                    exact Wk_ret (hfin _ (by rw [← hF]; kernel_rfl))
                  · have hF := ite_f hF hb
                    refine Wk_skip ?_
                    refine Wk_blk ?_
                    refine WR [] [2, 3, 7, 8, 9, 10] [2, 3, 8, 9] [] [] ⟨[(2, .ptr 2 0), (3, .ptr 3 0), (7, .int .i64 v3), (8, .ptr 8 0), (9, .ptr 9 0), (10, .int .i64 (w64 (v5 + 1)))], [(2, [.sl 4 (a0.Copies.map e_Copy), .sl 1 (a0.Wrote.map e_str), .sl 1 (a0.Took.map e_L_i64), .sl 6 (a0.Heals.map e_Heal)]), (3, [.sl 4 (b.Copies.map e_Copy), .sl 1 (b.Wrote.map e_str), .sl 1 (b.Took.map e_L_i64), .sl 6 (b.Heals.map e_Heal)]), (8, [.int .i64 ((lget a0.Heals v3).Epoch), .sl 1 (((lget a0.Heals v3).Heard).map e_i64), .sl 4 (((lget a0.Heals v3).Said).map e_Copy), .bool ((lget a0.Heals v3).Has), .sl 1 (((lget a0.Heals v3).Recs).map e_str), .sl 1 (((lget a0.Heals v3).Ends).map e_i64)]), (9, [.int .i64 ((lget b.Heals v3).Epoch), .sl 1 (((lget b.Heals v3).Heard).map e_i64), .sl 4 (((lget b.Heals v3).Said).map e_Copy), .bool ((lget b.Heals v3).Has), .sl 1 (((lget b.Heals v3).Recs).map e_str), .sl 1 (((lget b.Heals v3).Ends).map e_i64)])], [], []⟩ .nil (by kernel_rfl) ?_
                    refine Wk_trim (fs := [2, 3, 7, 8, 9, 10]) (bs := [2, 3, 8, 9]) (rs := []) (ms := []) ?_ (ih2 _ (some_elim hF).symm)
                    kernel_rfl
                · have hF := ite_f hF hb
                  refine Wk_exit rfl ?_
                  have hF := inrO_done hF dn2
                  exact Wk_metP () [2, 3, 7] [2, 3] [] [] hF (by kernel_rfl)
              · intro v4 hF
                have hF : R_SameVault_J4 v3 v4 = some y1 := hF
                unfold R_SameVault_J4 at hF
                refine Wk_blk ?_
                refine WR [] [2, 3, 7] [2, 3] [] [] ⟨[(2, .ptr 2 0), (3, .ptr 3 0), (7, .int .i64 (w64 (v3 + 1)))], [(2, [.sl 4 (a0.Copies.map e_Copy), .sl 1 (a0.Wrote.map e_str), .sl 1 (a0.Took.map e_L_i64), .sl 6 (a0.Heals.map e_Heal)]), (3, [.sl 4 (b.Copies.map e_Copy), .sl 1 (b.Wrote.map e_str), .sl 1 (b.Took.map e_L_i64), .sl 6 (b.Heals.map e_Heal)])], [], []⟩ .nil (by kernel_rfl) ?_
                refine Wk_trim (fs := [2, 3, 7]) (bs := [2, 3]) (rs := []) (ms := []) ?_ (ih1 _ (some_elim hF).symm)
                kernel_rfl
          · have hF := ite_f hF hb
            refine Wk_exit rfl ?_
            have hF := inrO_done hF dn1
            exact Wk_metP () [] [] [] [] hF (by kernel_rfl)
        · intro v2 hF
          have hF : R_SameVault_J3 v2 = some r := hF
          unfold R_SameVault_J3 at hF
          refine Wk_seq ?_
          refine WR [] [4] [] [] [] ⟨[(4, .bool true)], [], [], []⟩ .nil (by kernel_rfl) ?_
          have hF := some_elim hF
          exact Wk_ret (hfin _ (by rw [← hF]; kernel_rfl))

/- tabularylaw.begins -/
noncomputable def law_begins (l : List (List UInt8)) (with0 : List (List UInt8)) : Option Bool :=
  asrt ((decide ((with0.length : Int) ≤ (l.length : Int))) = true → 0 ≤ (with0.length : Int) ∧ (with0.length : Int) ≤ (l.length : Int)) <|
  ob (if (decide ((with0.length : Int) ≤ (l.length : Int))) = true then (R_SameTexts (ltake l (with0.length : Int)) with0) else some default) fun x =>
  some ((decide ((with0.length : Int) ≤ (l.length : Int))) && x)
theorem law_begins_ok (l : List (List UInt8)) (with0 : List (List UInt8)) (r : Bool) (hF : law_begins l with0 = some r) : Pc Try.prog 47 [.sl 1 (l.map e_str), .sl 1 (with0.map e_str)] (.bool r) := by
  refine Pc_of (N := 18) (res := [.tmp 4]) (ts := [4]) Ty.ok Fn.b47 Try.func47 rfl rfl rfl rfl rfl ?_
  intro Q g hfin
  unfold law_begins at hF
  refine Wk_seq ?_
  refine WR [] [0, 1] [] [] [] ⟨[(0, .sl 1 (l.map e_str)), (1, .sl 1 (with0.map e_str))], [], [], []⟩ .nil (by kernel_rfl) ?_
  refine Wk_seq ?_
  obtain ⟨h0, hF⟩ := asrt_elim hF
  obtain ⟨x, h1, hF⟩ := ob_elim hF
  refine WR [.nat (with0.length : Int), .nat (l.length : Int), .nat (with0.length : Int), .xs ((ltake l (with0.length : Int)).map e_str), .call (.bool x)] [4] [] [] [] ⟨[(4, .bool ((decide ((with0.length : Int) ≤ (l.length : Int))) && x))], [], [], []⟩ (.cons (len_ok e_str with0) (.cons (len_ok e_str l) (.cons (fun (ga0 : (decide ((with0.length : Int) ≤ (l.length : Int))) = true) => (len_ok e_str with0)) (.cons (fun (ga0 : (decide ((with0.length : Int) ≤ (l.length : Int))) = true) => (sl01_ok e_str (h0 ga0))) (.cons (fun (ga0 : (decide ((with0.length : Int) ≤ (l.length : Int))) = true) => (R_SameTexts_ok (ltake l (with0.length : Int)) with0 x (ite_t h1 ga0))) .nil))))) (by kernel_rfl) ?_
  have hF := some_elim hF
  exact Wk_ret (hfin _ (by rw [← hF]; kernel_rfl))

end G
end Go.Proofs.Ytgflfhdbihahcaa
