/- Check, Older, Put and Agree are as the document says. -/
import Derived.Test.YtcnngkigpfpalaaPEntryB
import Derived.Test.YtcnngkigpfpalaaGf1
namespace Go.Proofs.Ytcnngkigpfpalaa
open Go Go.Dm
set_option linter.unusedVariables false
set_option linter.unusedSimpArgs false
namespace G
theorem begun : law_entryBegun = some true := by
  unfold law_entryBegun
  rw [put_eq]
  have h : putS [(⟨1, ([97] : List UInt8)⟩ : Entry), (⟨1, ([98] : List UInt8)⟩ : Entry)] 1 1 [(⟨2, ([99] : List UInt8)⟩ : Entry)] = ([(⟨1, ([97] : List UInt8)⟩ : Entry), (⟨2, ([99] : List UInt8)⟩ : Entry)], true, ⟨0, 0⟩) := rfl
  rw [h]
  simp [ob_some, samelog_eq]
theorem place_eq (p t : Int) : R_PlaceFault p t = entry_ranged p t := by
  rw [ranged_eq]
  unfold R_PlaceFault R_Num R_F lt
  by_cases c1 : p < 0 ∨ 1000000000 < p
  · have : (decide (0 ≤ p) && decide (p ≤ 1000000000)) = false := by simp; omega
    rw [if_pos c1]; simp [this]
  · have h1 : (decide (0 ≤ p) && decide (p ≤ 1000000000)) = true := by simp; omega
    rw [if_neg c1]
    by_cases c2 : t < 0 ∨ 1000000000 < t
    · have : (decide (0 ≤ t) && decide (t ≤ 1000000000)) = false := by simp; omega
      rw [if_pos c2]; simp [h1, this]
    · have : (decide (0 ≤ t) && decide (t ≤ 1000000000)) = true := by simp; omega
      rw [if_neg c2]; simp [h1, this]
theorem logs_eq (a b : List Entry) : R_LogsFault a b = some (two a b) := by
  unfold R_LogsFault two
  simp only [rlog_fof, ob_some]
  by_cases ca : (fof a).Code = 0
  · by_cases cb : (fof b).Code = 0
    · simp [ca, cb, ob_some]
    · simp [ca, cb, ob_some]
  · simp [ca, ob_some]
theorem copy_eq (l : List Entry) (h : l.length ≤ 1000000) : R_CopyLog l = some l := by
  unfold R_CopyLog; rw [asrt_pos (by omega)]
theorem copy_eq1 (l : List Entry) (h : l.length ≤ 1000000) : R_CopyLog_v1 l = some l := by
  unfold R_CopyLog_v1; rw [asrt_pos (by omega)]
/- Agree -/
def agr (a b : List Entry) : Nat → Nat
  | 0 => 0
  | n + 1 => if (lget a (n : Int)).Term = (lget b (n : Int)).Term then n + 1 else agr a b n
theorem agree_loop (a b : List Entry) (z f : Fault) : ∀ (n : Nat), n ≤ a.length → n ≤ b.length → n ≤ 1000000 → entry_Agree_L1 a b (z, f, (n : Int)) = some ((agr a b n : Int), f)
  | 0, h1, h2, h3 => by
    refine loopO_inr ?_
    simp only [entry_Agree_B1]
    rw [asrt_pos (fun h => by simp at h), asrt_pos (fun h => by simp at h), if_neg (by simp)]
    simp [inrO, entry_Agree_J1, agr]
  | n + 1, h1, h2, h3 => by
    have ih := agree_loop a b z f n (by omega) (by omega) (by omega)
    have hw : w64 (((n + 1 : Nat) : Int) - 1) = (n : Int) := by rw [w64_id (by omega) (by omega)]; omega
    have hp : (0 : Int) < ((n + 1 : Nat) : Int) := by omega
    rw [agr]
    by_cases c : (lget a (n : Int)).Term = (lget b (n : Int)).Term
    · rw [if_pos c]
      refine loopO_inr ?_
      simp only [entry_Agree_B1, hw]
      rw [asrt_pos (fun _ => by omega), asrt_pos (fun _ => by omega), if_neg (by simp [c])]
      simp [inrO, entry_Agree_J1]
    · rw [if_neg c]
      refine (loopO_inl (y := (z, f, (n : Int))) ?_).trans ih
      simp only [entry_Agree_B1, hw]
      rw [asrt_pos (fun _ => by omega), asrt_pos (fun _ => by omega), if_pos (by simp [c])]
theorem agree_eq (a b : List Entry) : entry_Agree a b = some (if (two a b).Code = 0 then (agr a b (min a.length b.length) : Int) else 0, two a b) := by
  unfold entry_Agree
  rw [two_eq, ob_some]
  by_cases c : (two a b).Code = 0
  · have h := two_good c
    have ha := (fof_good h.2.1).1
    have hb := (fof_good h.2.2).1
    have hm : min (a.length : Int) (b.length : Int) = ((min a.length b.length : Nat) : Int) := by omega
    rw [if_neg (by simp [c]), hm, agree_loop a b _ _ _ (by omega) (by omega) (by omega), if_pos c]
  · rw [if_pos (by simp [c]), if_neg c]
/- Older -/
def lastT (l : List Entry) : Int := tat l l.length
theorem last_eq (l : List Entry) (hl : l.length ≤ 1000000) : R_LastTerm l = some (lastT l) := by
  unfold R_LastTerm lastT tat
  by_cases c : l.length = 0
  · rw [if_pos (by simp [c]), if_pos (by omega)]
  · rw [if_neg (by simp; intro h; simp [h] at c), if_neg (by omega), w64_id (by omega) (by omega), asrt_pos (by omega)]
def olderB (l : List Entry) (n t : Int) : Bool := decide (lastT l < t) || (decide (lastT l = t) && decide ((l.length : Int) < n))
theorem isolder_eq (l : List Entry) (hl : l.length ≤ 1000000) (n t : Int) : entry_IsOlder l n t = some (olderB l n t) := by
  unfold entry_IsOlder olderB
  rw [tat_eq l hl, ob_some]; rfl
theorem olderlog_eq (l : List Entry) (hl : l.length ≤ 1000000) (n t : Int) : R_OlderLog l n t = some (olderB l n t) := by
  unfold R_OlderLog olderB
  rw [last_eq l hl, ob_some]
  by_cases c : lastT l = t
  · simp [c]
  · rw [if_pos (by simp [c]), ob_some]; simp [c]
noncomputable def oldF (l : List Entry) (n t : Int) : Fault := if (fof l).Code = 0 then entry_ranged n t else fof l
theorem older_eq (l : List Entry) (n t : Int) : entry_Older l n t = some (decide ((oldF l n t).Code = 0) && olderB l n t, oldF l n t) := by
  unfold entry_Older
  rw [check_fof, ob_some]
  have e : (if (decide ((fof l).Code = 0)) = true then lt (entry_ranged n t) fun x1 => some ((⟨0, 0⟩ : Fault), x1) else some ((⟨0, 0⟩ : Fault), fof l)) = some ((⟨0, 0⟩ : Fault), oldF l n t) := by
    unfold oldF
    by_cases c : (fof l).Code = 0 <;> simp [c, lt]
  rw [e, ob_some]
  by_cases c : (oldF l n t).Code = 0
  · have hl : (fof l).Code = 0 := by
      unfold oldF at c
      by_cases h : (fof l).Code = 0
      · exact h
      · rw [if_neg h] at c; exact c
    have := (fof_good hl).1
    simp only [c, decide_true, if_true, isolder_eq l (by omega), ob_some]
  · simp only [c, decide_false, Bool.false_eq_true, if_false, ob_some, Bool.false_and]
/- Put -/
theorem put_app : ∀ (m : List Entry) (q : Nat) (l : List Entry), l.length = q → put q l m = l ++ m
  | [], q, l, h => by simp [put]
  | e :: m, q, l, h => by
    rw [put, if_neg (by omega), List.take_of_length_le (by omega), put_app m (q + 1) (l ++ [e]) (by simp; omega)]
    simp
theorem put_not (e : Entry) (m : List Entry) (q : Nat) (l : List Entry) (hq : q ≤ l.length) (h : ¬ (q < l.length ∧ (lget l (q : Int)).Term = e.Term)) : put q l (e :: m) = l.take q ++ e :: m := by
  rw [put, if_neg h, put_app m (q + 1) _ (by simp; omega)]
  simp
theorem lset_same {α : Type} [Inhabited α] (l : List α) (n : Nat) (h : n < l.length) : lset l (n : Int) (lget l (n : Int)) = l := by
  simp [lset, lget, List.getD, h]
def pend (L : List Entry) : List Entry × Bool × Fault := if (fof L).Code = 0 then (L, true, fof L) else ([], false, ⟨(fof L).Code, -1⟩)
theorem rput_J2 (z f : Fault) (L : List Entry) : R_PutLog_v1_J2 (z, f, L) = some (pend L) := by
  unfold R_PutLog_v1_J2 pend
  simp only [rlog_fof, ob_some]
  by_cases c : (fof L).Code = 0 <;> simp [c, lt, R_F]
theorem rput_L1 (p : Nat) (more x : List Entry) (z f : Fault) (hp : p ≤ 1000000) (hm : more.length ≤ 1000000) (hx : p + more.length = x.length) : ∀ (m k : Nat), more.length - k = m → k ≤ more.length → x.drop (p + k) = more.drop k →
    R_PutLog_v1_L1 (p : Int) more (z, f, x, (k : Int)) = some (pend x)
  | 0, k, e, hk, hd => by
    have : k = more.length := by omega
    subst this
    refine loopO_inr ?_
    simp only [R_PutLog_v1_B1]
    rw [if_neg (d_f (by omega))]
    simp only [R_PutLog_v1_J3, rput_J2, inrO]
  | m + 1, k, e, hk, hd => by
    have hlt : k < more.length := by omega
    have hw : w64 ((k : Int) + 1) = ((k + 1 : Nat) : Int) := by rw [w64_id (by omega) (by omega)]; omega
    have hw2 : w64 ((p : Int) + (k : Int)) = ((p + k : Nat) : Int) := by rw [w64_id (by omega) (by omega)]; omega
    have h1 : (k : Int) < (more.length : Int) := by omega
    rw [lget_drop more k hlt, lget_drop x (p + k) (by omega)] at hd
    have hd1 := List.head_eq_of_cons_eq hd
    have hd2 := List.tail_eq_of_cons_eq hd
    refine (loopO_inl (y := (z, f, x, ((k + 1 : Nat) : Int))) ?_).trans (rput_L1 p more x z f hp hm hx m (k + 1) (by omega) (by omega) hd2)
    simp only [R_PutLog_v1_B1, hw2, hw]
    rw [if_pos (d_t h1), asrt_pos (by omega), asrt_pos (by omega), asrt_pos (by omega)]
    have e2 : (⟨(lget more (k : Int)).Term, (lget more (k : Int)).Text⟩ : Entry) = lget x ((p + k : Nat) : Int) := by rw [hd1]
    rw [e2, lset_same x (p + k) (by omega)]
    rfl
theorem rput_J1 (l more : List Entry) (p k : Nat) (z f : Fault) (hl : l.length ≤ 1000) (hm : more.length ≤ 1000) (hp : p + k ≤ l.length) (hk : k ≤ more.length) (h : ∀ hlt : k < more.length, ¬ (p + k < l.length ∧ (lget l ((p + k : Nat) : Int)).Term = (lget more (k : Int)).Term)) :
    R_PutLog_v1_J1 l (p : Int) more (z, f, (k : Int)) = some (pend (put (p + k) l (more.drop k))) := by
  unfold R_PutLog_v1_J1
  have hw2 : w64 ((p : Int) + (k : Int)) = ((p + k : Nat) : Int) := by rw [w64_id (by omega) (by omega)]; omega
  simp only [hw2, copy_eq l (by omega), ob_some]
  by_cases c : k < more.length
  · have c' : (k : Int) < (more.length : Int) := by omega
    have e0 : put (p + k) l (more.drop k) = l.take (p + k) ++ more.drop k := by
      rw [lget_drop more k c]; exact put_not _ _ _ _ hp (h c)
    rw [if_pos (d_t c'), asrt_pos (by omega), ltake_nat, copy_eq _ (by simp; omega), ob_some, asrt_pos (by omega), ldrop_nat, asrt_pos (by simp; omega), e0]
    refine rput_L1 p more _ z f (by omega) (by omega) ?_ (more.length - k) k rfl hk ?_
    · simp; omega
    · rw [List.drop_append_of_le_length (by simp; omega), List.drop_of_length_le (by simp; omega)]; rfl
  · have c' : ¬ (k : Int) < (more.length : Int) := by omega
    rw [if_neg (d_f c'), rput_J2, List.drop_of_length_le (by omega)]; rfl
theorem rput_L2 (l more : List Entry) (p : Nat) (z f : Fault) (hl : l.length ≤ 1000) (hm : more.length ≤ 1000) : ∀ (m k : Nat), more.length - k = m → k ≤ more.length → p + k ≤ l.length →
    R_PutLog_v1_L2 l (p : Int) more (z, f, (k : Int)) = some (pend (put (p + k) l (more.drop k)))
  | m, k, e, hk, hp => by
    have hw : w64 ((k : Int) + 1) = ((k + 1 : Nat) : Int) := by rw [w64_id (by omega) (by omega)]; omega
    have hw2 : w64 ((p : Int) + (k : Int)) = ((p + k : Nat) : Int) := by rw [w64_id (by omega) (by omega)]; omega
    by_cases c : k < more.length ∧ p + k < l.length ∧ (lget l ((p + k : Nat) : Int)).Term = (lget more (k : Int)).Term
    · match m, e with
      | 0, e => omega
      | m + 1, e =>
      have ih := rput_L2 l more p z f hl hm m (k + 1) (by omega) (by omega) (by omega)
      rw [lget_drop more k c.1, put, if_pos c.2]
      refine (loopO_inl (y := (z, f, ((k + 1 : Nat) : Int))) ?_).trans ih
      simp only [R_PutLog_v1_B2, hw2, hw]
      rw [asrt_pos (fun _ => by omega), asrt_pos (fun _ => by omega), if_pos]
      simp only [Bool.and_eq_true, decide_eq_true_eq]
      exact ⟨⟨by omega, by omega⟩, c.2.2⟩
    · refine loopO_inr ?_
      simp only [R_PutLog_v1_B2, hw2, hw]
      rw [asrt_pos, asrt_pos, if_neg, rput_J1 l more p k z f hl hm hp hk (fun h1 h2 => c ⟨h1, h2⟩)]
      · rfl
      · simp only [Bool.and_eq_true, decide_eq_true_eq]
        intro ⟨⟨a, b⟩, d⟩; exact c ⟨by omega, by omega, d⟩
      · simp only [Bool.and_eq_true, decide_eq_true_eq]; omega
      · simp only [Bool.and_eq_true, decide_eq_true_eq]; omega
theorem rput_eq (l : List Entry) (p t : Int) (more : List Entry) : R_PutLog_v1 l p t more = some (putS l p t more) := by
  unfold R_PutLog_v1
  simp only [logs_eq, ob_some, place_eq]
  have e : (if (decide ((two l more).Code = 0)) = true then lt (entry_ranged p t) fun x1 => some ((⟨0, 0⟩ : Fault), x1) else some ((⟨0, 0⟩ : Fault), two l more)) = some ((⟨0, 0⟩ : Fault), putF l p t more) := by
    unfold putF
    by_cases c : (two l more).Code = 0 <;> simp [c, lt]
  rw [e]
  simp only [ob_some]
  by_cases c : (putF l p t more).Code = 0
  · obtain ⟨h1, h2, h3, h4, h5, h6⟩ := putF_good c
    have hl := (fof_good h2).1
    have hm := (fof_good h3).1
    unfold putS
    rw [if_neg (by simp [c]), if_pos c]
    by_cases cp : (l.length : Int) < p
    · have hnf : ¬ fits l p t := fun h => by have := h.1; omega
      rw [asrt_pos (by simp; intro _ h; omega), if_pos (by simp [cp]), copy_eq l (by omega), if_neg hnf]; rfl
    · have ht : tat l p = if p = 0 then 0 else (lget l (p - 1)).Term := by
        unfold tat
        by_cases h0 : p = 0
        · rw [if_pos (by omega), if_pos h0]
        · rw [if_neg (by omega), if_neg h0]
      have hw : p ≠ 0 → w64 (p - 1) = p - 1 := fun h => w64_id (by omega) (by omega)
      by_cases hf : fits l p t
      · have hf2 := hf.2
        rw [ht] at hf2
        rw [if_pos hf, asrt_pos, if_neg]
        · obtain ⟨q, rfl⟩ : ∃ q : Nat, p = (q : Int) := ⟨p.toNat, by omega⟩
          have := rput_L2 l more q ⟨0, 0⟩ (putF l q t more) (by omega) (by omega) more.length 0 (by omega) (by omega) (by omega)
          simpa [pend] using this
        · by_cases h0 : p = 0
          · rw [if_pos h0] at hf2
            subst h0; simp [← hf2]
          · rw [if_neg h0] at hf2
            rw [hw h0]
            simp [h0, hf2]; omega
        · intro h _
          simp at h
          rw [hw (by omega)]; omega
      · have hf2 : ¬ tat l p = t := fun h => hf ⟨by omega, h⟩
        rw [ht] at hf2
        rw [if_neg hf, asrt_pos, if_pos, copy_eq l (by omega)]
        · rfl
        · by_cases h0 : p = 0
          · rw [if_pos h0] at hf2
            subst h0; simp; right; exact fun h => hf2 h.symm
          · rw [if_neg h0] at hf2
            rw [hw h0]
            simp [h0, hf2]; omega
        · intro h _
          simp at h
          rw [hw (by omega)]; omega
  · unfold putS
    rw [if_pos (by simp [c]), if_neg c]
/- the law -/
theorem does_loop (a b : List Entry) (n f : Int × Fault) (z w : Fault) (hw0 : w.Code = 0) (ha : a.length ≤ 1000) : ∀ (m k : Nat), min a.length b.length - k = m → k ≤ a.length → k ≤ b.length →
    law_EntryDoes_L1 a b n (z, w, (agr a b k : Int), (k : Int)) = law_EntryDoes_J1 n (z, w, (agr a b (min a.length b.length) : Int))
  | 0, k, e, h1, h2 => by
    have : k = min a.length b.length := by omega
    refine loopO_inr ?_
    simp only [law_EntryDoes_B1]
    rw [if_neg (by simp; omega), ← this]; rfl
  | m + 1, k, e, h1, h2 => by
    have ih := does_loop a b n f z w hw0 ha m (k + 1) (by omega) (by omega) (by omega)
    have hw : w64 ((k : Int) + 1) = ((k + 1 : Nat) : Int) := by rw [w64_id (by omega) (by omega)]; omega
    refine (loopO_inl (y := (z, w, (agr a b (k + 1) : Int), ((k + 1 : Nat) : Int))) ?_).trans ih
    simp only [law_EntryDoes_B1, hw]
    rw [if_pos (by simp [hw0]; omega), asrt_pos (by omega), asrt_pos (by omega), agr]
    by_cases c : (lget a (k : Int)).Term = (lget b (k : Int)).Term
    · rw [if_pos (d_t c), if_pos c]; rfl
    · rw [if_neg (d_f c), if_neg c]; rfl
theorem EntryDoes_eq (a b : List Entry) (p t : Int) : law_EntryDoes a b p t = some true := by
  unfold law_EntryDoes
  simp only [begun, ob_some, Bool.not_true, Bool.false_eq_true, if_false, lt, law_vastLog]
  by_cases v : 300 < (a.length : Int) ∨ 300 < (b.length : Int)
  · have hv : (decide (300 < (a.length : Int)) || decide (300 < (b.length : Int))) = true := or_t v
    simp only [hv, if_true]
  · have hv : (decide (300 < (a.length : Int)) || decide (300 < (b.length : Int))) = false := by simp; omega
    simp only [hv, Bool.false_eq_true, if_false]
    have sa : R_SameLog a a = some true := by rw [samelog_eq a a (by omega)]; simp
    have sb : R_SameLog b b = some true := by rw [samelog_eq b b (by omega)]; simp
    simp only [copy_eq1 a (by omega), copy_eq1 b (by omega), check_fof, rlog_fof, older_eq, put_eq, agree_eq, ob_some, sa, sb, Bool.not_true, Bool.not_false, if_true, Bool.or_false, decide_true, Bool.and_true, Bool.false_eq_true, if_false, place_eq, Bool.and_self]
    have e : (if (decide ((fof a).Code = 0)) = true then some (oldF a p t, (putS a p t b).2.2, two a b, entry_ranged p t) else some (oldF a p t, (putS a p t b).2.2, two a b, fof a)) = some (oldF a p t, (putS a p t b).2.2, two a b, oldF a p t) := by
      by_cases c : (fof a).Code = 0 <;> simp [oldF, c]
    rw [e]
    simp only [ob_some, decide_true, Bool.not_true, Bool.not_false, if_true, Bool.false_or, Bool.and_self, rput_eq, beq_self_eq_true, Bool.false_eq_true, if_false]
    have e2 : (ob (if decide ((oldF a p t).Code = 0) = true then R_OlderLog a p t else some default) fun x14 => if (!((decide ((oldF a p t).Code = 0) && olderB a p t) == (decide ((oldF a p t).Code = 0) && x14))) = true then some false else (some true : Option Bool)) = some true := by
      rw [olderlog_eq a (by omega)]
      by_cases c : (oldF a p t).Code = 0 <;> simp [c, ob_some]
    have hs : R_SameLog (putS a p t b).1 (putS a p t b).1 = some true := by
      rw [samelog_eq _ _]; · simp
      unfold putS
      split
      · split
        · split
          · rename_i h; have := (fof_good h).1; simp; omega
          · simp
        · simp; omega
      · simp
    have fin : law_EntryDoes_L1 a b (if (two a b).Code = 0 then (agr a b (min a.length b.length) : Int) else 0, two a b) (two a b, two a b, 0, 0) = some true := by
      by_cases c : (two a b).Code = 0
      · have := does_loop a b (if (two a b).Code = 0 then (agr a b (min a.length b.length) : Int) else 0, two a b) (0, two a b) (two a b) (two a b) c (by omega) _ 0 rfl (by omega) (by omega)
        simp only [agr] at this
        have h0 : ((0 : Nat) : Int) = 0 := rfl
        rw [h0] at this
        rw [this]
        simp [law_EntryDoes_J1, lt, c]
      · refine loopO_inr ?_
        simp only [law_EntryDoes_B1]
        rw [if_neg (by simp [c])]
        simp [law_EntryDoes_J1, lt, c, inrO]
    by_cases c : (oldF a p t).Code = 0
    · simp only [c, olderlog_eq a (show a.length ≤ 1000000 by omega), ob_some, decide_true, if_true, Bool.true_and, beq_self_eq_true, Bool.not_true, Bool.false_eq_true, if_false, hs, logs_eq, fin]
    · simp only [c, ob_some, decide_false, if_false, Bool.false_and, beq_self_eq_true, Bool.not_true, Bool.false_eq_true, hs, logs_eq, fin]
end G
end Go.Proofs.Ytcnngkigpfpalaa
