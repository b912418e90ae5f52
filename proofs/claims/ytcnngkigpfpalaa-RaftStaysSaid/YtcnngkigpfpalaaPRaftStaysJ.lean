/- Joined by join.py: PPutN, PRaftBT, PRaftCT, PRaftT, PRaftU, PRaftV, PRaftW, PRaftX, PRaftTakes, PRaftStays -/
import Derived.Test.YtcnngkigpfpalaaPEntryN
import Derived.Test.YtcnngkigpfpalaaPRaftA
/- Logs: entries are put; as the program has it and as the document has it (NEW=1). From PEntryB and PEntryDoes. -/
namespace Go.Proofs.Ytcnngkigpfpalaa
open Go Go.Dm
set_option linter.unusedVariables false
set_option linter.unusedSimpArgs false
namespace G
def two (a b : List Entry) : Fault := if (fof a).Code = 0 then (if (fof b).Code = 0 then fof b else ⟨(fof b).Code, w64 ((fof b).At - 1000)⟩) else fof a
theorem two_eq (a b : List Entry) : entry_two a b = some (two a b) := by
  unfold entry_two two
  simp only [echeck_eq, ob_some]
  by_cases ca : (fof a).Code = 0
  · by_cases cb : (fof b).Code = 0
    · simp [ca, cb, ob_some]
    · simp [ca, cb, ob_some]
  · simp [ca, ob_some]
theorem two_good {a b : List Entry} (h : (two a b).Code = 0) : two a b = ⟨0, 0⟩ ∧ (fof a).Code = 0 ∧ (fof b).Code = 0 := by
  unfold two at *
  by_cases ca : (fof a).Code = 0
  · rw [if_pos ca] at h ⊢
    by_cases cb : (fof b).Code = 0
    · rw [if_pos cb]; exact ⟨(fof_good cb).2.1, ca, cb⟩
    · rw [if_neg cb] at h; exact absurd h cb
  · rw [if_neg ca] at h; exact absurd h ca
def fits (l : List Entry) (p t : Int) : Prop := p ≤ l.length ∧ tat l p = t
instance (l : List Entry) (p t : Int) : Decidable (fits l p t) := by unfold fits; infer_instance
theorem fits_eq (l : List Entry) (hl : l.length ≤ 1000000) (p t : Int) : entry_Fits l p t = some (decide (fits l p t)) := by
  unfold entry_Fits fits
  rw [tat_eq l hl]
  by_cases c : p ≤ l.length
  · simp [c, ob_some]
  · simp [c, ob_some]
/-- entries put behind a place -/
def put : Nat → List Entry → List Entry → List Entry
  | _, l, [] => l
  | p, l, e :: m => if p < l.length ∧ (lget l (p : Int)).Term = e.Term then put (p + 1) l m else put (p + 1) (l.take p ++ [e]) m
theorem put_end (v : List Entry) : entry_Put_J1 v = some (if (fof v).Code = 0 then (v, true, fof v) else ([], false, ⟨(fof v).Code, -1⟩)) := by
  unfold entry_Put_J1
  simp only [echeck_eq, ob_some]
  by_cases c : (fof v).Code = 0 <;> simp [c, lt, entry_fault]
theorem put_loop (p : Nat) (more : List Entry) (hp : p ≤ 100000) (hm : more.length ≤ 100000) : ∀ (m k : Nat) (l : List Entry), more.length - k = m → k ≤ more.length → p + k ≤ l.length → l.length ≤ 1000000 →
    entry_Put_L1 (p : Int) more (l, (k : Int)) = entry_Put_J1 (put (p + k) l (more.drop k))
  | 0, k, l, e, hk, hl, hb => by
    have : k = more.length := by omega
    subst this
    rw [put_end]
    refine loopO_inr ?_
    simp only [entry_Put_B1]
    rw [if_neg (d_f (by omega))]
    simp only [put_end, inrO, List.drop_length, put]
  | m + 1, k, l, e, hk, hl, hb => by
    have hlt : k < more.length := by omega
    have hw : w64 ((k : Int) + 1) = ((k + 1 : Nat) : Int) := by rw [w64_id (by omega) (by omega)]; omega
    have hw2 : w64 ((p : Int) + (k : Int)) = ((p + k : Nat) : Int) := by rw [w64_id (by omega) (by omega)]; omega
    have hmin : min ((p + k : Nat) : Int) (l.length : Int) = ((p + k : Nat) : Int) := by omega
    have h0 : (0 : Int) ≤ (k : Int) ∧ (k : Int) < (more.length : Int) := by omega
    have h1 : (k : Int) < (more.length : Int) := by omega
    rw [lget_drop more k hlt, put]
    by_cases c : p + k < l.length ∧ (lget l ((p + k : Nat) : Int)).Term = (lget more (k : Int)).Term
    · rw [if_pos c]
      refine (loopO_inl (y := (l, ((k + 1 : Nat) : Int))) ?_).trans (put_loop p more hp hm m (k + 1) l (by omega) (by omega) (by omega) hb)
      have c1 : (((p + k : Nat) : Int) < (l.length : Int)) := by omega
      simp only [entry_Put_B1, hw2]
      rw [if_pos (d_t h1), asrt_pos h0, asrt_pos (fun _ => by omega), asrt_pos (fun _ => by omega), if_pos (by simp only [Bool.and_eq_true, decide_eq_true_eq]; exact ⟨c1, c.2⟩)]
      simp only [ob_some, hw]
    · rw [if_neg c]
      have hlen : (l.take (p + k) ++ [lget more (k : Int)]).length = p + k + 1 := by simp; omega
      refine (loopO_inl (y := (l.take (p + k) ++ [lget more (k : Int)], ((k + 1 : Nat) : Int))) ?_).trans (put_loop p more hp hm m (k + 1) _ (by omega) (by omega) (by omega) (by omega))
      simp only [entry_Put_B1, hw2, hmin]
      have hc : ¬ ((decide (((p + k : Nat) : Int) < (l.length : Int))) && decide ((lget l ((p + k : Nat) : Int)).Term = (lget more (k : Int)).Term)) = true := by
        simp only [Bool.and_eq_true, decide_eq_true_eq]
        intro ⟨a, b⟩; exact c ⟨by omega, b⟩
      rw [if_pos (d_t h1), asrt_pos h0, asrt_pos (fun h => by simp at h; omega), asrt_pos (fun h => by simp at h; omega), if_neg hc, asrt_pos (by omega)]
      have e1 : (((p + k : Nat) : Int)).toNat = p + k := by omega
      rw [e1]
      have e2 : (⟨(lget more (k : Int)).Term, (lget more (k : Int)).Text⟩ : Entry) = lget more (k : Int) := rfl
      rw [e2, asrt_pos (by rw [hlen]; omega), asrt_pos (by omega)]
      simp only [lt, ob_some, hw]
noncomputable def putF (l : List Entry) (p t : Int) (more : List Entry) : Fault := if (two l more).Code = 0 then entry_ranged p t else two l more
noncomputable def putS (l : List Entry) (p t : Int) (more : List Entry) : List Entry × Bool × Fault :=
  if (putF l p t more).Code = 0 then
    if fits l p t then
      if (fof (put p.toNat l more)).Code = 0 then (put p.toNat l more, true, fof (put p.toNat l more)) else ([], false, ⟨(fof (put p.toNat l more)).Code, -1⟩)
    else (l, false, putF l p t more)
  else ([], false, putF l p t more)
theorem ranged_eq (p t : Int) : entry_ranged p t = if p < 0 ∨ 1000000000 < p then ⟨3, -1⟩ else if t < 0 ∨ 1000000000 < t then ⟨3, -2⟩ else ⟨0, 0⟩ := by
  unfold entry_ranged entry_number lt entry_fault
  by_cases c1 : p < 0 ∨ 1000000000 < p
  · have : (decide (0 ≤ p) && decide (p ≤ 1000000000)) = false := by simp; omega
    rw [if_pos c1]; simp [this]
  · have h1 : (decide (0 ≤ p) && decide (p ≤ 1000000000)) = true := by simp; omega
    rw [if_neg c1]
    by_cases c2 : t < 0 ∨ 1000000000 < t
    · have : (decide (0 ≤ t) && decide (t ≤ 1000000000)) = false := by simp; omega
      rw [if_pos c2]; simp [h1, this]
    · have : (decide (0 ≤ t) && decide (t ≤ 1000000000)) = true := by simp; omega
      rw [if_neg c2]; simp [h1, this]
theorem ranged_good {p t : Int} (h : (entry_ranged p t).Code = 0) : entry_ranged p t = ⟨0, 0⟩ ∧ 0 ≤ p ∧ p ≤ 1000000000 ∧ 0 ≤ t ∧ t ≤ 1000000000 := by
  rw [ranged_eq] at *
  by_cases c1 : p < 0 ∨ 1000000000 < p
  · rw [if_pos c1] at h; cases h
  · by_cases c2 : t < 0 ∨ 1000000000 < t
    · rw [if_neg c1, if_pos c2] at h; cases h
    · rw [if_neg c1, if_neg c2]; exact ⟨rfl, by omega⟩
theorem putF_good {l : List Entry} {p t : Int} {more : List Entry} (h : (putF l p t more).Code = 0) : putF l p t more = ⟨0, 0⟩ ∧ (fof l).Code = 0 ∧ (fof more).Code = 0 ∧ 0 ≤ p ∧ p ≤ 1000000000 ∧ (entry_ranged p t).Code = 0 := by
  unfold putF at *
  by_cases c : (two l more).Code = 0
  · rw [if_pos c] at h ⊢
    have h1 := two_good c
    have h2 := ranged_good h
    exact ⟨h2.1, h1.2.1, h1.2.2, h2.2.1, h2.2.2.1, h⟩
  · rw [if_neg c] at h; exact absurd h c
theorem put_eq (l : List Entry) (p t : Int) (more : List Entry) : entry_Put l p t more = some (putS l p t more) := by
  unfold entry_Put
  simp only [two_eq, ob_some]
  have e : (if (decide ((two l more).Code = 0)) = true then lt (entry_ranged p t) fun x1 => some x1 else some (two l more)) = some (putF l p t more) := by
    unfold putF
    by_cases c : (two l more).Code = 0 <;> simp [c, lt]
  rw [e]
  simp only [ob_some]
  by_cases c : (putF l p t more).Code = 0
  · obtain ⟨h1, h2, h3, h4, h5, h6⟩ := putF_good c
    have hl := (fof_good h2).1
    have hm := (fof_good h3).1
    rw [if_neg (by simp [c]), eclone_eq l (by omega), ob_some, fits_eq l (by omega), ob_some]
    by_cases f : fits l p t
    · rw [if_neg (by simp [f])]
      have hp : ((p.toNat : Nat) : Int) = p := Int.toNat_of_nonneg h4
      have hf := f.1
      have := put_loop p.toNat more (by omega) (by omega) more.length 0 l (by omega) (by omega) (by omega) (by omega)
      rw [hp] at this
      simp only [List.drop_zero, Nat.add_zero] at this
      have h0 : ((0 : Nat) : Int) = 0 := rfl
      rw [h0] at this
      rw [this, put_end]
      unfold putS
      rw [if_pos c, if_pos f]
    · rw [if_pos (by simp [f])]
      unfold putS
      rw [if_pos c, if_neg f]
  · rw [if_pos (by simp [c])]
    unfold putS
    rw [if_neg c]
/- what put does -/
theorem put_take (m : List Entry) : ∀ (p : Nat) (l : List Entry), p ≤ l.length → (put p l m).take p = l.take p := by
  induction m with
  | nil => intro p l h; rfl
  | cons e m ih =>
    intro p l h
    rw [put]
    split
    · rename_i c
      have h1 := ih (p + 1) l (by omega)
      have : ((put (p + 1) l m).take (p + 1)).take p = (l.take (p + 1)).take p := by rw [h1]
      simpa [List.take_take] using this
    · have hl : (l.take p ++ [e]).length = p + 1 := by simp; omega
      have h1 := ih (p + 1) (l.take p ++ [e]) (by omega)
      have : ((put (p + 1) (l.take p ++ [e]) m).take (p + 1)).take p = ((l.take p ++ [e]).take (p + 1)).take p := by rw [h1]
      simp only [List.take_take] at this
      rw [show min p (p + 1) = p by omega] at this
      rw [this, List.take_append_of_le_length (by simp; omega)]
      simp [List.take_take]
/-- all of it is there -/
def there : Nat → List Entry → List Entry → Prop
  | p, l, [] => p ≤ l.length
  | p, l, e :: m => p < l.length ∧ (lget l (p : Int)).Term = e.Term ∧ there (p + 1) l m
theorem there_len (m : List Entry) : ∀ (p : Nat) (l : List Entry), there p l m → p + m.length ≤ l.length := by
  induction m with
  | nil => intro p l h; simpa [there] using h
  | cons e m ih => intro p l h; have := ih _ _ h.2.2; simp; omega
theorem there_put (m : List Entry) : ∀ (p : Nat) (l : List Entry), there p l m → put p l m = l := by
  induction m with
  | nil => intro p l h; rfl
  | cons e m ih => intro p l h; rw [put, if_pos ⟨h.1, h.2.1⟩]; exact ih _ _ h.2.2
theorem put_len (m : List Entry) : ∀ (p : Nat) (l : List Entry), p ≤ l.length → p + m.length ≤ (put p l m).length ∧ (¬ there p l m → (put p l m).length = p + m.length) := by
  induction m with
  | nil => intro p l h; exact ⟨by simpa [put] using h, fun h' => absurd h h'⟩
  | cons e m ih =>
    intro p l h
    rw [put]
    split
    · rename_i c
      have h1 := ih (p + 1) l (by omega)
      refine ⟨by simp; omega, fun h' => ?_⟩
      have := h1.2 (fun h'' => h' ⟨c.1, c.2, h''⟩)
      simp; omega
    · rename_i c
      have hl : (l.take p ++ [e]).length = p + 1 := by simp; omega
      have h1 := ih (p + 1) (l.take p ++ [e]) (by omega)
      refine ⟨by simp; omega, fun _ => ?_⟩
      by_cases t : there (p + 1) (l.take p ++ [e]) m
      · have h2 := there_len _ _ _ t
        rw [there_put _ _ _ t, hl]; rw [hl] at h2; simp only [List.length_cons]; omega
      · have := h1.2 t; simp; omega
theorem lget_of_take {l l' : List Entry} {n p : Nat} (h : l.take p = l'.take p) (hn : n < p) : lget l (n : Int) = lget l' (n : Int) := by
  have : (l.take p)[n]? = (l'.take p)[n]? := by rw [h]
  rw [List.getElem?_take, List.getElem?_take, if_pos hn, if_pos hn] at this
  unfold lget List.getD
  simp [this]
theorem put_there (m : List Entry) : ∀ (p : Nat) (l : List Entry), p ≤ l.length → there p (put p l m) m := by
  induction m with
  | nil => intro p l h; exact h
  | cons e m ih =>
    intro p l h
    rw [put]
    split
    · rename_i c
      have h1 := ih (p + 1) l (by omega)
      have h2 := put_take m (p + 1) l (by omega)
      have h3 := (put_len m (p + 1) l (by omega)).1
      refine ⟨by omega, ?_, h1⟩
      rw [lget_of_take h2 (by omega)]; exact c.2
    · have hl : (l.take p ++ [e]).length = p + 1 := by simp; omega
      have h1 := ih (p + 1) (l.take p ++ [e]) (by omega)
      have h2 := put_take m (p + 1) (l.take p ++ [e]) (by omega)
      have h3 := (put_len m (p + 1) (l.take p ++ [e]) (by omega)).1
      refine ⟨by omega, ?_, h1⟩
      have hle : (l.take p).length = p := by simp; omega
      rw [lget_of_take h2 (by omega), lget_app_r _ _ _ (by omega), hle]
      simp [lget]
theorem place_eq (p t : Int) : R_PlaceFault p t = entry_ranged p t := by
  rw [ranged_eq]
  unfold R_PlaceFault R_Num R_F lt
  by_cases c1 : p < 0 ∨ 1000000000 < p
  · have : (decide (0 ≤ p) && decide (p ≤ 1000000000)) = false := by simp; omega
    rw [if_pos c1]; simp [this]
  · have h1 : (decide (0 ≤ p) && decide (p ≤ 1000000000)) = true := by simp; omega
    rw [if_neg c1]
    by_cases c2 : t < 0 ∨ 1000000000 < t
    · have : (decide (0 ≤ t) && decide (t ≤ 1000000000)) = false := by simp; omega
      rw [if_pos c2]; simp [h1, this]
    · have : (decide (0 ≤ t) && decide (t ≤ 1000000000)) = true := by simp; omega
      rw [if_neg c2]; simp [h1, this]
theorem logs_eq (a b : List Entry) : R_LogsFault a b = some (two a b) := by
  unfold R_LogsFault two
  simp only [rlog_eq, ob_some]
  by_cases ca : (fof a).Code = 0
  · by_cases cb : (fof b).Code = 0
    · simp [ca, cb, ob_some]
    · simp [ca, cb, ob_some]
  · simp [ca, ob_some]
theorem copyLog_eq (l : List Entry) (h : l.length ≤ 1000000) : R_CopyLog l = some l := by
  unfold R_CopyLog; rw [asrt_pos (by omega)]
theorem put_app : ∀ (m : List Entry) (q : Nat) (l : List Entry), l.length = q → put q l m = l ++ m
  | [], q, l, h => by simp [put]
  | e :: m, q, l, h => by
    rw [put, if_neg (by omega), List.take_of_length_le (by omega), put_app m (q + 1) (l ++ [e]) (by simp; omega)]
    simp
theorem put_not (e : Entry) (m : List Entry) (q : Nat) (l : List Entry) (hq : q ≤ l.length) (h : ¬ (q < l.length ∧ (lget l (q : Int)).Term = e.Term)) : put q l (e :: m) = l.take q ++ e :: m := by
  rw [put, if_neg h, put_app m (q + 1) _ (by simp; omega)]
  simp
theorem lset_same {α : Type} [Inhabited α] (l : List α) (n : Nat) (h : n < l.length) : lset l (n : Int) (lget l (n : Int)) = l := by
  simp [lset, lget, List.getD, h]
def pend (L : List Entry) : List Entry × Bool × Fault := if (fof L).Code = 0 then (L, true, fof L) else ([], false, ⟨(fof L).Code, -1⟩)
theorem rput_J2 (L : List Entry) : R_PutLog_J2 (L) = some (pend L) := by
  unfold R_PutLog_J2 pend
  simp only [rlog_eq, ob_some]
  by_cases c : (fof L).Code = 0 <;> simp [c, lt, R_F]
theorem rput_L1 (p : Nat) (more x : List Entry) (hp : p ≤ 1000000) (hm : more.length ≤ 1000000) (hx : p + more.length = x.length) : ∀ (m k : Nat), more.length - k = m → k ≤ more.length → x.drop (p + k) = more.drop k →
    R_PutLog_L1 (p : Int) more (x, (k : Int)) = some (pend x)
  | 0, k, e, hk, hd => by
    have : k = more.length := by omega
    subst this
    refine loopO_inr ?_
    simp only [R_PutLog_B1]
    rw [if_neg (d_f (by omega))]
    simp only [R_PutLog_J3, rput_J2, inrO]
  | m + 1, k, e, hk, hd => by
    have hlt : k < more.length := by omega
    have hw : w64 ((k : Int) + 1) = ((k + 1 : Nat) : Int) := by rw [w64_id (by omega) (by omega)]; omega
    have hw2 : w64 ((p : Int) + (k : Int)) = ((p + k : Nat) : Int) := by rw [w64_id (by omega) (by omega)]; omega
    have h1 : (k : Int) < (more.length : Int) := by omega
    rw [lget_drop more k hlt, lget_drop x (p + k) (by omega)] at hd
    have hd1 := List.head_eq_of_cons_eq hd
    have hd2 := List.tail_eq_of_cons_eq hd
    refine (loopO_inl (y := (x, ((k + 1 : Nat) : Int))) ?_).trans (rput_L1 p more x hp hm hx m (k + 1) (by omega) (by omega) hd2)
    simp only [R_PutLog_B1, hw2, hw]
    rw [if_pos (d_t h1), asrt_pos (by omega), asrt_pos (by omega), asrt_pos (by omega)]
    have e2 : (⟨(lget more (k : Int)).Term, (lget more (k : Int)).Text⟩ : Entry) = lget x ((p + k : Nat) : Int) := by rw [hd1]
    rw [e2, lset_same x (p + k) (by omega)]
    rfl
theorem rput_J1 (l more : List Entry) (p k : Nat) (hl : l.length ≤ 1000) (hm : more.length ≤ 1000) (hp : p + k ≤ l.length) (hk : k ≤ more.length) (h : ∀ hlt : k < more.length, ¬ (p + k < l.length ∧ (lget l ((p + k : Nat) : Int)).Term = (lget more (k : Int)).Term)) :
    R_PutLog_J1 l (p : Int) more ((k : Int)) = some (pend (put (p + k) l (more.drop k))) := by
  unfold R_PutLog_J1
  have hw2 : w64 ((p : Int) + (k : Int)) = ((p + k : Nat) : Int) := by rw [w64_id (by omega) (by omega)]; omega
  simp only [hw2, copyLog_eq l (by omega), ob_some]
  by_cases c : k < more.length
  · have c' : (k : Int) < (more.length : Int) := by omega
    have e0 : put (p + k) l (more.drop k) = l.take (p + k) ++ more.drop k := by
      rw [lget_drop more k c]; exact put_not _ _ _ _ hp (h c)
    rw [if_pos (d_t c'), asrt_pos (by omega), ltake_nat, copyLog_eq _ (by simp; omega), ob_some, asrt_pos (by omega), ldrop_nat, asrt_pos (by simp; omega), e0]
    refine rput_L1 p more _ (by omega) (by omega) ?_ (more.length - k) k rfl hk ?_
    · simp; omega
    · rw [List.drop_append_of_le_length (by simp; omega), List.drop_of_length_le (by simp; omega)]; rfl
  · have c' : ¬ (k : Int) < (more.length : Int) := by omega
    rw [if_neg (d_f c'), rput_J2, List.drop_of_length_le (by omega)]; rfl
theorem rput_L2 (l more : List Entry) (p : Nat) (hl : l.length ≤ 1000) (hm : more.length ≤ 1000) : ∀ (m k : Nat), more.length - k = m → k ≤ more.length → p + k ≤ l.length →
    R_PutLog_L2 l (p : Int) more ((k : Int)) = some (pend (put (p + k) l (more.drop k)))
  | m, k, e, hk, hp => by
    have hw : w64 ((k : Int) + 1) = ((k + 1 : Nat) : Int) := by rw [w64_id (by omega) (by omega)]; omega
    have hw2 : w64 ((p : Int) + (k : Int)) = ((p + k : Nat) : Int) := by rw [w64_id (by omega) (by omega)]; omega
    by_cases c : k < more.length ∧ p + k < l.length ∧ (lget l ((p + k : Nat) : Int)).Term = (lget more (k : Int)).Term
    · match m, e with
      | 0, e => omega
      | m + 1, e =>
      have ih := rput_L2 l more p hl hm m (k + 1) (by omega) (by omega) (by omega)
      rw [lget_drop more k c.1, put, if_pos c.2]
      refine (loopO_inl (y := (((k + 1 : Nat) : Int))) ?_).trans ih
      simp only [R_PutLog_B2, hw2, hw]
      rw [asrt_pos (fun _ => by omega), asrt_pos (fun _ => by omega), if_pos]
      simp only [Bool.and_eq_true, decide_eq_true_eq]
      exact ⟨⟨by omega, by omega⟩, c.2.2⟩
    · refine loopO_inr ?_
      simp only [R_PutLog_B2, hw2, hw]
      rw [asrt_pos, asrt_pos, if_neg, rput_J1 l more p k hl hm hp hk (fun h1 h2 => c ⟨h1, h2⟩)]
      · rfl
      · simp only [Bool.and_eq_true, decide_eq_true_eq]
        intro ⟨⟨a, b⟩, d⟩; exact c ⟨by omega, by omega, d⟩
      · simp only [Bool.and_eq_true, decide_eq_true_eq]; omega
      · simp only [Bool.and_eq_true, decide_eq_true_eq]; omega
theorem rput_eq (l : List Entry) (p t : Int) (more : List Entry) : R_PutLog l p t more = some (putS l p t more) := by
  unfold R_PutLog
  simp only [logs_eq, ob_some, place_eq]
  have e : (if (decide ((two l more).Code = 0)) = true then lt (entry_ranged p t) fun x1 => some x1 else some (two l more)) = some (putF l p t more) := by
    unfold putF
    by_cases c : (two l more).Code = 0 <;> simp [c, lt]
  rw [e]
  simp only [ob_some]
  by_cases c : (putF l p t more).Code = 0
  · obtain ⟨h1, h2, h3, h4, h5, h6⟩ := putF_good c
    have hl := (fof_good h2).1
    have hm := (fof_good h3).1
    unfold putS
    rw [if_neg (by simp [c]), if_pos c]
    by_cases cp : (l.length : Int) < p
    · have hnf : ¬ fits l p t := fun h => by have := h.1; omega
      rw [asrt_pos (by simp; intro _ h; omega), if_pos (by simp [cp]), copyLog_eq l (by omega), if_neg hnf]; rfl
    · have ht : tat l p = if p = 0 then 0 else (lget l (p - 1)).Term := by
        unfold tat
        by_cases h0 : p = 0
        · rw [if_pos (by omega), if_pos h0]
        · rw [if_neg (by omega), if_neg h0]
      have hw : p ≠ 0 → w64 (p - 1) = p - 1 := fun h => w64_id (by omega) (by omega)
      by_cases hf : fits l p t
      · have hf2 := hf.2
        rw [ht] at hf2
        rw [if_pos hf, asrt_pos, if_neg]
        · obtain ⟨q, rfl⟩ : ∃ q : Nat, p = (q : Int) := ⟨p.toNat, by omega⟩
          have := rput_L2 l more q (by omega) (by omega) more.length 0 (by omega) (by omega) (by omega)
          simpa [pend] using this
        · by_cases h0 : p = 0
          · rw [if_pos h0] at hf2
            subst h0; simp [← hf2]
          · rw [if_neg h0] at hf2
            rw [hw h0]
            simp [h0, hf2]; omega
        · intro h _
          simp at h
          rw [hw (by omega)]; omega
      · have hf2 : ¬ tat l p = t := fun h => hf ⟨by omega, h⟩
        rw [ht] at hf2
        rw [if_neg hf, asrt_pos, if_pos, copyLog_eq l (by omega)]
        · rfl
        · by_cases h0 : p = 0
          · rw [if_pos h0] at hf2
            subst h0; simp; right; exact fun h => hf2 h.symm
          · rw [if_neg h0] at hf2
            rw [hw h0]
            simp [h0, hf2]; omega
        · intro h _
          simp at h
          rw [hw (by omega)]; omega
  · unfold putS
    rw [if_pos (by simp [c]), if_neg c]
/- the law -/
end G
end Go.Proofs.Ytcnngkigpfpalaa
/- Nodes: what is counted, who leads, which mails are sent; both ways. -/
namespace Go.Proofs.Ytcnngkigpfpalaa
open Go Go.Dm
set_option linter.unusedVariables false
set_option linter.unusedSimpArgs false
namespace G
structure NGood (x : Node) : Prop where
  n1 : 1 ≤ x.N
  n7 : x.N ≤ 7
  i0 : 0 ≤ x.ID
  iN : x.ID < x.N
  t0 : 0 ≤ x.Term
  t1 : x.Term ≤ 1000000000
  v0 : 0 ≤ x.Vote
  vN : x.Vote ≤ x.N
  r0 : 0 ≤ x.Role
  r2 : x.Role ≤ 2
  c0 : 0 ≤ x.Commit
  cl : x.Commit ≤ (x.Log.length : Int)
  log : (fof x.Log).Code = 0
  last : ¬ x.Term < tat x.Log (x.Log.length : Int)
  form : formB x = true
theorem nodeF_good {x : Node} : (nodeF x).Code = 0 ↔ NGood x := by
  unfold nodeF
  by_cases c1 : (1 ≤ x.N ∧ x.N ≤ 7) ∧ 0 ≤ x.ID ∧ x.ID < x.N
  · rw [if_neg (not_not_intro c1)]
    by_cases c2 : (0 ≤ x.Term ∧ x.Term ≤ 1000000000) ∧ (0 ≤ x.Vote ∧ x.Vote ≤ x.N) ∧ (0 ≤ x.Role ∧ x.Role ≤ 2) ∧ 0 ≤ x.Commit ∧ x.Commit ≤ (x.Log.length : Int)
    · rw [if_neg (not_not_intro c2)]
      by_cases c3 : (fof x.Log).Code = 0
      · rw [if_neg (not_not_intro c3)]
        by_cases c4 : x.Term < tat x.Log (x.Log.length : Int)
        · rw [if_pos c4]; exact ⟨fun h => (by cases h), fun h => absurd c4 h.last⟩
        · rw [if_neg c4]
          by_cases c5 : formB x = true
          · rw [if_pos c5]
            exact ⟨fun _ => ⟨c1.1.1, c1.1.2, c1.2.1, c1.2.2, c2.1.1, c2.1.2, c2.2.1.1, c2.2.1.2, c2.2.2.1.1, c2.2.2.1.2, c2.2.2.2.1, c2.2.2.2.2, c3, c4, c5⟩, fun _ => rfl⟩
          · rw [if_neg c5]; exact ⟨fun h => (by cases h), fun h => absurd h.form c5⟩
      · rw [if_pos c3]; exact ⟨fun h => absurd h c3, fun h => absurd h.log c3⟩
    · rw [if_pos c2]; exact ⟨fun h => (by cases h), fun h => absurd ⟨⟨h.t0, h.t1⟩, ⟨h.v0, h.vN⟩, ⟨h.r0, h.r2⟩, h.c0, h.cl⟩ c2⟩
  · rw [if_pos c1]; exact ⟨fun h => (by cases h), fun h => absurd ⟨⟨h.n1, h.n7⟩, h.i0, h.iN⟩ c1⟩
theorem nodeF_zero {x : Node} (h : NGood x) : nodeF x = ⟨0, 0⟩ := by
  unfold nodeF
  rw [if_neg (not_not_intro ⟨⟨h.n1, h.n7⟩, h.i0, h.iN⟩), if_neg (not_not_intro ⟨⟨h.t0, h.t1⟩, ⟨h.v0, h.vN⟩, ⟨h.r0, h.r2⟩, h.c0, h.cl⟩), if_neg (not_not_intro h.log), if_neg h.last, if_pos h.form]
theorem NGood.len {x : Node} (h : NGood x) : x.Log.length ≤ 100 := (fof_good h.log).1
theorem NGood.lead {x : Node} (h : NGood x) (hr : x.Role = 2) : (x.Next.length : Int) = x.N ∧ (x.Have.length : Int) = x.N ∧ (∀ k ∈ x.Next, 1 ≤ k ∧ k ≤ (x.Log.length : Int) + 1) ∧ (∀ k ∈ x.Have, 0 ≤ k ∧ k ≤ (x.Log.length : Int)) ∧ x.Votes = [] := by
  have hf := h.form
  unfold formB at hf
  rw [if_pos hr, if_neg (by omega)] at hf
  simp only [Bool.and_eq_true, decide_eq_true_eq, List.all_eq_true, inW_iff] at hf
  exact ⟨hf.2.1.1.1, hf.2.1.1.2, hf.2.1.2, hf.2.2, List.eq_nil_of_length_eq_zero hf.1⟩
theorem NGood.idle {x : Node} (h : NGood x) (hr : x.Role ≠ 2) : x.Next = [] ∧ x.Have = [] := by
  have hf := h.form
  unfold formB at hf
  rw [if_neg hr] at hf
  simp only [Bool.and_eq_true, decide_eq_true_eq] at hf
  exact ⟨List.eq_nil_of_length_eq_zero hf.2.1, List.eq_nil_of_length_eq_zero hf.2.2⟩
theorem NGood.small {x : Node} (h : NGood x) : x.Next.length ≤ 7 ∧ x.Have.length ≤ 7 := by
  by_cases c : x.Role = 2
  · have := h.lead c; have := h.n7; omega
  · obtain ⟨h1, h2⟩ := h.idle c; rw [h1, h2]; simp
/- counting -/
def cntD (g : Nat → Bool) (c : Nat) : Nat → Nat
  | 0 => c
  | k + 1 => if k + 1 ≤ c then c else if g (k + 1) = true then k + 1 else cntD g c k
def haveN (l : List Int) (k : Int) : Nat := l.countP fun h => decide (k ≤ h)
def gd (n t : Int) (log : List Entry) (have0 : List Int) (k : Nat) : Bool := decide (n < 2 * (haveN have0 (k : Int) : Int)) && decide (tat log (k : Int) = t)
theorem haveN_take (l : List Int) (k : Int) (i : Nat) (h : i < l.length) : haveN (l.take (i + 1)) k = haveN (l.take i) k + if k ≤ lget l (i : Int) then 1 else 0 := by
  unfold haveN
  rw [lget_take l i h, List.countP_append]
  by_cases c : k ≤ lget l (i : Int) <;> simp [c]
theorem haveN_le (l : List Int) (k : Int) : haveN l k ≤ l.length := List.countP_le_length
theorem most_eq (k : Nat) (hk : k ≤ 100000) (n : Int) : raft_most (k : Int) n = decide (n < 2 * (k : Int)) := by
  unfold raft_most; rw [w64_id (by omega) (by omega)]
theorem count_L2 (n t : Int) (row : List Entry) (hs : List Int) (hr : row.length ≤ 1000) (hh : hs.length ≤ 1000) (c k : Nat) (hk : k ≤ 1000) (h1 : 1 ≤ k) : raft_count_L2 n t row hs ((c : Int), (k : Int)) (0, 0) = some (.inl (((if gd n t row hs k = true then k else c : Nat) : Int), ((k - 1 : Nat) : Int))) := by
  have hwk : w64 ((k : Int) - 1) = ((k - 1 : Nat) : Int) := by rw [w64_id (by omega) (by omega)]; omega
  have hle := haveN_le hs (k : Int)
  have := loop_run (step := fun y => raft_count_B2 n t row hs ((c : Int), (k : Int)) y) hs.length (fun i => ((haveN (hs.take i) (k : Int) : Int), (i : Int)))
    (fun i hi => by
      have hw : w64 ((i : Int) + 1) = ((i + 1 : Nat) : Int) := by rw [w64_id (by omega) (by omega)]; omega
      have hl := haveN_le (hs.take i) (k : Int)
      have hl2 : (hs.take i).length ≤ 1000 := by simp; omega
      have hw2 : w64 ((haveN (hs.take i) (k : Int) : Int) + 1) = ((haveN (hs.take i) (k : Int) + 1 : Nat) : Int) := by rw [w64_id (by omega) (by omega)]; omega
      simp only [raft_count_B2]
      rw [if_pos (d_t (by omega)), asrt_pos (by omega), asrt_pos (by omega), haveN_take _ _ _ hi, hw]
      by_cases g : (k : Int) ≤ lget hs (i : Int)
      · rw [if_pos (d_t g), ob_some, if_pos g, hw2]
      · rw [if_neg (d_f g), ob_some, if_neg g]; rfl)
    (r := .inl (((if gd n t row hs k = true then k else c : Nat) : Int), ((k - 1 : Nat) : Int)))
    (by
      simp only [raft_count_B2]
      rw [if_neg (d_f (by omega)), List.take_length]
      simp only [raft_count_J2]
      dsimp only [lt]
      rw [most_eq _ (by omega), hwk]
      unfold gd
      by_cases g : n < 2 * (haveN hs (k : Int) : Int)
      · rw [if_pos (d_t g), tat_eq _ (by omega), ob_some, decide_eq_true g]
        by_cases g2 : tat row (k : Int) = t
        · rw [decide_eq_true g2, if_pos (by decide), ob_some, if_pos (by decide)]; rfl
        · rw [decide_eq_false g2, if_neg (by decide), ob_some, if_neg (by decide)]; rfl
      · rw [if_neg (d_f g), ob_some, decide_eq_false g, Bool.false_and, if_neg (by decide), ob_some, Bool.false_and, if_neg (by decide)]; rfl)
  simpa [raft_count_L2, haveN] using this
theorem count_L1 (n i t v r : Int) (row : List Entry) (hs : List Int) (hr : row.length ≤ 1000) (hh : hs.length ≤ 1000) : ∀ (k c : Nat), k ≤ 1000 → raft_count_L1 n i t v r row hs ((c : Int), (k : Int)) = some (n, i, t, v, r, ((cntD (gd n t row hs) c k : Nat) : Int))
  | k, c, hk => by
    by_cases g : c < k
    · match k, hk, g with
      | k + 1, hk, g =>
      have h2 := count_L2 n t row hs hr hh c (k + 1) hk (by omega)
      have hB : raft_count_B1 n i t v r row hs ((c : Int), ((k + 1 : Nat) : Int)) = some (.inl (((if gd n t row hs (k + 1) = true then k + 1 else c : Nat) : Int), ((k : Nat) : Int))) := by
        simp only [raft_count_B1]
        rw [if_pos (d_t (by omega)), h2]; rfl
      refine (loopO_inl hB).trans ?_
      rw [cntD, if_neg (show ¬ k + 1 ≤ c by omega)]
      by_cases g2 : gd n t row hs (k + 1) = true
      · rw [if_pos g2, if_pos g2]
        refine loopO_inr ?_
        simp only [raft_count_B1]
        rw [if_neg (d_f (by omega))]; rfl
      · rw [if_neg g2, if_neg g2]
        exact count_L1 n i t v r row hs hr hh k c (by omega)
    · have : cntD (gd n t row hs) c k = c := by
        cases k with
        | zero => rfl
        | succ k => rw [cntD, if_pos (by omega)]
      rw [this]
      refine loopO_inr ?_
      simp only [raft_count_B1]
      rw [if_neg (d_f (by omega))]; rfl
theorem rcount_eq (n i t v r : Int) (c : Nat) (row : List Entry) (rw1 : List Int) (hs : List Int) (hr : row.length ≤ 1000) (hh : hs.length ≤ 1000) : raft_count n i t v r (c : Int) row rw1 hs = some (n, i, t, v, r, ((cntD (gd n t row hs) c row.length : Nat) : Int)) :=
  count_L1 n i t v r row hs hr hh row.length c hr
theorem rcount1_eq (n i t v r : Int) (c : Nat) (row : List Entry) (rw1 rw2 : List Int) (hs : List Int) (hr : row.length ≤ 1000) (hh : hs.length ≤ 1000) : raft_count_v1 n i t v r (c : Int) row rw1 rw2 hs = some (n, i, t, v, r, ((cntD (gd n t row hs) c row.length : Nat) : Int)) :=
  count_L1 n i t v r row hs hr hh row.length c hr
/- the document's -/
theorem tat_in (l : List Entry) (k : Nat) (h1 : 1 ≤ k) (h2 : k ≤ l.length) : tat l (k : Int) = (lget l ((k - 1 : Nat) : Int)).Term := by
  have e : (k : Int) - 1 = ((k - 1 : Nat) : Int) := by omega
  unfold tat
  rw [if_neg (by omega), e]
theorem counted_L2 (x : Node) (h1 : 1 ≤ x.N) (h7 : x.N ≤ 7) (hl : x.Log.length ≤ 1000) (hh : x.Have.length ≤ 1000) (c k : Nat) (hk : k ≤ x.Log.length) (hk1 : 1 ≤ k) : R_Counted_L2 x ((c : Int), (k : Int)) (0, 0) = some (.inl (((if gd x.N x.Term x.Log x.Have k = true then k else c : Nat) : Int), ((k + 1 : Nat) : Int))) := by
  have hwk : w64 ((k : Int) - 1) = ((k - 1 : Nat) : Int) := by rw [w64_id (by omega) (by omega)]; omega
  have hwk2 : w64 ((k : Int) + 1) = ((k + 1 : Nat) : Int) := by rw [w64_id (by omega) (by omega)]; omega
  have := loop_run (step := fun y => R_Counted_B2 x ((c : Int), (k : Int)) y) x.Have.length (fun i => ((haveN (x.Have.take i) (k : Int) : Int), (i : Int)))
    (fun i hi => by
      have hw : w64 ((i : Int) + 1) = ((i + 1 : Nat) : Int) := by rw [w64_id (by omega) (by omega)]; omega
      have hle := haveN_le (x.Have.take i) (k : Int)
      have hl2 : (x.Have.take i).length ≤ 1000 := by simp; omega
      have hw2 : w64 ((haveN (x.Have.take i) (k : Int) : Int) + 1) = ((haveN (x.Have.take i) (k : Int) + 1 : Nat) : Int) := by rw [w64_id (by omega) (by omega)]; omega
      simp only [R_Counted_B2]
      rw [if_pos (d_t (by omega)), asrt_pos (by omega), haveN_take _ _ _ hi, hw]
      by_cases g : (k : Int) ≤ lget x.Have (i : Int)
      · rw [if_pos (d_t g), ob_some, if_pos g, hw2]
      · rw [if_neg (d_f g), ob_some, if_neg g]; rfl)
    (r := .inl (((if gd x.N x.Term x.Log x.Have k = true then k else c : Nat) : Int), ((k + 1 : Nat) : Int)))
    (by
      simp only [R_Counted_B2]
      rw [if_neg (d_f (by omega)), List.take_length]
      simp only [R_Counted_J2]
      rw [hwk, hwk2, asrt_pos (by omega)]
      dsimp only [lt]
      rw [maj_eq _ _ h1 h7]
      unfold gd
      rw [tat_in _ _ hk1 hk, Bool.and_comm]
      by_cases g : (decide (x.N < 2 * (haveN x.Have (k : Int) : Int)) && decide ((lget x.Log ((k - 1 : Nat) : Int)).Term = x.Term)) = true
      · rw [if_pos g, if_pos g]; rfl
      · rw [if_neg g, if_neg g]; rfl)
  simpa [R_Counted_L2, haveN] using this
theorem counted_eq (x : Node) (h1 : 1 ≤ x.N) (h7 : x.N ≤ 7) (hl : x.Log.length ≤ 1000) (hh : x.Have.length ≤ 1000) (hc : 0 ≤ x.Commit) (hcl : x.Commit ≤ (x.Log.length : Int)) : R_Counted x = some ⟨x.N, x.ID, x.Term, x.Vote, x.Log, x.Role, ((cntD (gd x.N x.Term x.Log x.Have) x.Commit.toNat x.Log.length : Nat) : Int), x.Votes, x.Next, x.Have⟩ := by
  obtain ⟨c, hcc⟩ : ∃ c : Nat, x.Commit = (c : Int) := ⟨x.Commit.toNat, by omega⟩
  have hw : w64 ((c : Int) + 1) = ((c + 1 : Nat) : Int) := by rw [w64_id (by omega) (by omega)]; omega
  unfold R_Counted
  rw [hcc, hw, Int.toNat_natCast]
  have key : ∀ (m k : Nat), x.Log.length + 1 - k = m → c + 1 ≤ k → k ≤ x.Log.length + 1 → R_Counted_L1 x ((cntD (gd x.N x.Term x.Log x.Have) c (k - 1) : Int), (k : Int)) = some ⟨x.N, x.ID, x.Term, x.Vote, x.Log, x.Role, ((cntD (gd x.N x.Term x.Log x.Have) c x.Log.length : Nat) : Int), x.Votes, x.Next, x.Have⟩ := by
    intro m
    induction m with
    | zero =>
      intro k e h1 h2
      have : k = x.Log.length + 1 := by omega
      subst this
      refine loopO_inr ?_
      simp only [R_Counted_B1]
      rw [if_neg (d_f (by omega))]; rfl
    | succ m ih =>
      intro k e g1 g2
      have h2 := counted_L2 x h1 h7 hl hh (cntD (gd x.N x.Term x.Log x.Have) c (k - 1)) k (by omega) (by omega)
      refine (loopO_inl (y := (((cntD (gd x.N x.Term x.Log x.Have) c k : Nat) : Int), ((k + 1 : Nat) : Int))) ?_).trans (ih (k + 1) (by omega) (by omega) (by omega))
      simp only [R_Counted_B1]
      rw [if_pos (d_t (by omega)), h2]
      congr 3
      match k, g1 with
      | k + 1, g1 =>
        rw [cntD, if_neg (show ¬ k + 1 ≤ c by omega)]
        rfl
  have e0 : cntD (gd x.N x.Term x.Log x.Have) c c = c := by
    cases c with
    | zero => rfl
    | succ k => rw [cntD, if_pos (Nat.le_refl _)]
  have := key (x.Log.length + 1 - (c + 1)) (c + 1) rfl (Nat.le_refl _) (by omega)
  rw [Nat.add_sub_cancel, e0] at this
  exact this
/- who leads -/
def leaderN (x : Node) : Node :=
  ⟨x.N, x.ID, x.Term, x.Vote, x.Log, 2, ((cntD (gd x.N x.Term x.Log ((List.replicate x.N.toNat (0 : Int)).set x.ID.toNat (x.Log.length : Int))) x.Commit.toNat x.Log.length : Nat) : Int), [], List.replicate x.N.toNat ((x.Log.length : Int) + 1), (List.replicate x.N.toNat (0 : Int)).set x.ID.toNat (x.Log.length : Int)⟩
theorem lead_eq (n i t v r c : Int) (bs : List Int) (row : List Entry) (h1 : 1 ≤ n) (h7 : n ≤ 7) (hi : 0 ≤ i) (hin : i < n) (hl : row.length ≤ 1000) (hc : 0 ≤ c) :
    raft_lead n i t v r c bs row = some (n, i, t, v, 2, ((cntD (gd n t row ((List.replicate n.toNat (0 : Int)).set i.toNat (row.length : Int))) c.toNat row.length : Nat) : Int), List.replicate n.toNat ((row.length : Int) + 1), (List.replicate n.toNat (0 : Int)).set i.toNat (row.length : Int)) := by
  have hw : w64 ((row.length : Int) + 1) = (row.length : Int) + 1 := w64_id (by omega) (by omega)
  obtain ⟨c', rfl⟩ : ∃ c' : Nat, c = (c' : Int) := ⟨c.toNat, by omega⟩
  unfold raft_lead raft_follow_v1
  dsimp only [lt]
  rw [asrt_pos (by omega), asrt_pos (by omega)]
  have hlen : (List.replicate n.toNat (0 : Int)).length = n.toNat := List.length_replicate
  have := loop_run (step := fun y => raft_lead_B1 row (n, i, t, v, 0, (c' : Int)) y) n.toNat (fun k => (List.replicate k ((row.length : Int) + 1) ++ List.replicate (n.toNat - k) (0 : Int), (k : Int)))
    (fun k hk => by
      have hwk : w64 ((k : Int) + 1) = ((k + 1 : Nat) : Int) := by rw [w64_id (by omega) (by omega)]; omega
      have hl2 : (List.replicate k ((row.length : Int) + 1) ++ List.replicate (n.toNat - k) (0 : Int)).length = n.toNat := by simp; omega
      simp only [raft_lead_B1]
      rw [if_pos (d_t (by omega)), asrt_pos (by omega), asrt_pos (by omega), hw, hwk]
      congr 3
      unfold lset
      have e1 : List.replicate (n.toNat - k) (0 : Int) = 0 :: List.replicate (n.toNat - (k + 1)) 0 := by
        rw [← List.replicate_succ]; congr 1; omega
      rw [Int.toNat_natCast, List.set_append_right _ _ (by simp), List.length_replicate, Nat.sub_self, e1, List.set_cons_zero, List.replicate_succ']
      simp)
    (r := (n, i, t, v, 2, ((cntD (gd n t row ((List.replicate n.toNat (0 : Int)).set i.toNat (row.length : Int))) c' row.length : Nat) : Int), List.replicate n.toNat ((row.length : Int) + 1), (List.replicate n.toNat (0 : Int)).set i.toNat (row.length : Int)))
    (by
      simp only [raft_lead_B1]
      rw [if_neg (d_f (by omega)), Nat.sub_self, List.replicate_zero, List.append_nil]
      simp only [raft_lead_J1]
      rw [asrt_pos (by omega), asrt_pos (by omega), rcount_eq _ _ _ _ _ _ _ _ _ hl (by rw [lset_len, hlen]; omega), ob_some]
      rfl)
  simp only [Nat.sub_zero, List.replicate_zero, List.nil_append] at this
  exact this
theorem lead1_eq (n i t v r c : Int) (row : List Entry) (r1 r2 r3 : List Int) (h1 : 1 ≤ n) (h7 : n ≤ 7) (hi : 0 ≤ i) (hin : i < n) (hl : row.length ≤ 1000) (hc : 0 ≤ c) :
    raft_lead_v1 n i t v r c row r1 r2 r3 = some (n, i, t, v, 2, ((cntD (gd n t row ((List.replicate n.toNat (0 : Int)).set i.toNat (row.length : Int))) c.toNat row.length : Nat) : Int), List.replicate n.toNat ((row.length : Int) + 1), (List.replicate n.toNat (0 : Int)).set i.toNat (row.length : Int)) := by
  have hw : w64 ((row.length : Int) + 1) = (row.length : Int) + 1 := w64_id (by omega) (by omega)
  obtain ⟨c', rfl⟩ : ∃ c' : Nat, c = (c' : Int) := ⟨c.toNat, by omega⟩
  unfold raft_lead_v1 raft_follow
  dsimp only [lt]
  rw [asrt_pos (by omega), asrt_pos (by omega)]
  have hlen : (List.replicate n.toNat (0 : Int)).length = n.toNat := List.length_replicate
  have := loop_run (step := fun y => raft_lead_v1_B1 row (n, i, t, v, 0, (c' : Int)) y) n.toNat (fun k => (List.replicate k ((row.length : Int) + 1) ++ List.replicate (n.toNat - k) (0 : Int), (k : Int)))
    (fun k hk => by
      have hwk : w64 ((k : Int) + 1) = ((k + 1 : Nat) : Int) := by rw [w64_id (by omega) (by omega)]; omega
      have hl2 : (List.replicate k ((row.length : Int) + 1) ++ List.replicate (n.toNat - k) (0 : Int)).length = n.toNat := by simp; omega
      simp only [raft_lead_v1_B1]
      rw [if_pos (d_t (by omega)), asrt_pos (by omega), asrt_pos (by omega), hw, hwk]
      congr 3
      unfold lset
      have e1 : List.replicate (n.toNat - k) (0 : Int) = 0 :: List.replicate (n.toNat - (k + 1)) 0 := by
        rw [← List.replicate_succ]; congr 1; omega
      rw [Int.toNat_natCast, List.set_append_right _ _ (by simp), List.length_replicate, Nat.sub_self, e1, List.set_cons_zero, List.replicate_succ']
      simp)
    (r := (n, i, t, v, 2, ((cntD (gd n t row ((List.replicate n.toNat (0 : Int)).set i.toNat (row.length : Int))) c' row.length : Nat) : Int), List.replicate n.toNat ((row.length : Int) + 1), (List.replicate n.toNat (0 : Int)).set i.toNat (row.length : Int)))
    (by
      simp only [raft_lead_v1_B1]
      rw [if_neg (d_f (by omega)), Nat.sub_self, List.replicate_zero, List.append_nil]
      simp only [raft_lead_v1_J1]
      rw [asrt_pos (by omega), asrt_pos (by omega), rcount_eq _ _ _ _ _ _ _ _ _ hl (by rw [lset_len, hlen]; omega), ob_some]
      rfl)
  simp only [Nat.sub_zero, List.replicate_zero, List.nil_append] at this
  exact this
theorem leader_eq (x : Node) (h1 : 1 ≤ x.N) (h7 : x.N ≤ 7) (hi : 0 ≤ x.ID) (hin : x.ID < x.N) (hl : x.Log.length ≤ 1000) (hc : 0 ≤ x.Commit) (hcl : x.Commit ≤ (x.Log.length : Int)) : R_Leader x = some (leaderN x) := by
  have hw : w64 ((x.Log.length : Int) + 1) = (x.Log.length : Int) + 1 := w64_id (by omega) (by omega)
  obtain ⟨hs, ehs⟩ : ∃ hs, hs = (List.replicate x.N.toNat (0 : Int)).set x.ID.toNat (x.Log.length : Int) := ⟨_, rfl⟩
  have hhl : hs.length = x.N.toNat := by rw [ehs]; simp
  have hg : ∀ k : Nat, k < x.N.toNat → lget hs (k : Int) = if (k : Int) = x.ID then (x.Log.length : Int) else 0 := by
    intro k hk
    have hk' : k < hs.length := by omega
    rw [lget_nat hs k hk']
    simp only [ehs, List.getElem_set]
    by_cases g : x.ID.toNat = k
    · rw [if_pos g, if_pos (by omega)]
    · rw [if_neg g, if_neg (by omega)]; simp
  unfold R_Leader R_Follower
  rw [copyLog_eq _ (by omega), ob_some, ob_some]
  have := loop_run (step := fun y => R_Leader_B1 (x.N, x.ID, x.Term, x.Vote, x.Log, 0, x.Commit) y) x.N.toNat (fun k => (List.replicate k ((x.Log.length : Int) + 1), hs.take k, (k : Int)))
    (fun k hk => by
      have hwk : w64 ((k : Int) + 1) = ((k + 1 : Nat) : Int) := by rw [w64_id (by omega) (by omega)]; omega
      have htl : (hs.take k).length = k := by simp; omega
      simp only [R_Leader_B1]
      rw [if_pos (d_t (by omega)), asrt_pos (by simp; omega), hw, hwk, lget_take hs k (by omega), hg k hk, List.replicate_succ']
      by_cases g : (k : Int) = x.ID
      · rw [if_pos (d_t g), asrt_pos (by simp; omega), ob_some, if_pos g]
      · rw [if_neg (d_f g), asrt_pos (by simp; omega), ob_some, if_neg g])
    (r := leaderN x)
    (by
      simp only [R_Leader_B1]
      rw [if_neg (d_f (by omega)), ← hhl, List.take_length]
      simp only [R_Leader_J1]
      rw [counted_eq ⟨x.N, x.ID, x.Term, x.Vote, x.Log, 2, x.Commit, [], List.replicate hs.length ((x.Log.length : Int) + 1), hs⟩ h1 h7 hl (by show hs.length ≤ 1000; omega) hc hcl, ob_some, hhl]
      simp only [leaderN, ← ehs, inrO])
  simpa [R_Leader_L1] using this
/- mails to all others -/
def mls (id : Int) (f : Nat → Mail) : Nat → List Mail
  | 0 => []
  | k + 1 => if (k : Int) = id then mls id f k else mls id f k ++ [f k]
theorem mls_len (id : Int) (f : Nat → Mail) : ∀ k, (mls id f k).length ≤ k
  | 0 => Nat.le_refl _
  | k + 1 => by
    have := mls_len id f k
    rw [mls]
    split
    · omega
    · simp; omega
theorem mls_congr {id : Int} {f g : Nat → Mail} : ∀ {k : Nat}, (∀ j : Nat, j < k → (j : Int) ≠ id → f j = g j) → mls id f k = mls id g k
  | 0, _ => rfl
  | k + 1, h => by
    have ih := mls_congr (k := k) (fun j hj => h j (by omega))
    rw [mls, mls, ih]
    by_cases c : (k : Int) = id
    · rw [if_pos c, if_pos c]
    · rw [if_neg c, if_neg c, h k (by omega) c]
theorem mls_mem {id : Int} {f : Nat → Mail} : ∀ {k : Nat} {m : Mail}, m ∈ mls id f k → ∃ j : Nat, j < k ∧ (j : Int) ≠ id ∧ m = f j
  | 0, m, h => by cases h
  | k + 1, m, h => by
    rw [mls] at h
    split at h
    · obtain ⟨j, h1, h2⟩ := mls_mem h; exact ⟨j, by omega, h2⟩
    · rename_i c
      rw [List.mem_append, List.mem_singleton] at h
      rcases h with h | h
      · obtain ⟨j, h1, h2⟩ := mls_mem h; exact ⟨j, by omega, h2⟩
      · exact ⟨k, by omega, c, h⟩
def askM (id t : Int) (log : List Entry) (k : Nat) : Mail := ⟨1, id, (k : Int), t, (log.length : Int), tat log (log.length : Int), 0, [], false⟩
theorem others_eq (n i t v r c : Int) (bs : List Int) (row : List Entry) (h1 : 1 ≤ n) (h7 : n ≤ 7) (hl : row.length ≤ 1000) : raft_others n i t v r c bs row = some (mls i (askM i t row) n.toNat) := by
  have := loop_run (step := fun y => raft_others_B1 n i t v r c bs row y) n.toNat (fun k => (mls i (askM i t row) k, (k : Int)))
    (fun k hk => by
      have hwk : w64 ((k : Int) + 1) = ((k + 1 : Nat) : Int) := by rw [w64_id (by omega) (by omega)]; omega
      have hml := mls_len i (askM i t row) k
      simp only [raft_others_B1]
      rw [if_pos (d_t (by omega)), hwk, mls]
      by_cases g : (k : Int) = i
      · rw [if_neg (n_f g), ob_some, if_pos g]
      · rw [if_pos (n_t g), if_neg g]
        unfold raft_Stand_1
        rw [tat_eq _ (by omega), ob_some, ob_some, asrt_pos (by simp; omega)]
        rfl)
    (r := mls i (askM i t row) n.toNat)
    (by
      simp only [raft_others_B1]
      rw [if_neg (d_f (by omega))]; rfl)
  simpa [raft_others, raft_others_L1, mls] using this
def bringM (x : Node) (k : Nat) : Mail := ⟨3, x.ID, (k : Int), x.Term, lget x.Next (k : Int) - 1, tat x.Log (lget x.Next (k : Int) - 1), x.Commit, (x.Log.take (min (lget x.Next (k : Int) - 1 + 5) (x.Log.length : Int)).toNat).drop (lget x.Next (k : Int) - 1).toNat, false⟩
theorem beats1_eq (x : Node) (h1 : 1 ≤ x.N) (h7 : x.N ≤ 7) (hl : x.Log.length ≤ 1000) (hn : (x.Next.length : Int) = x.N) (hk : ∀ k ∈ x.Next, 1 ≤ k ∧ k ≤ (x.Log.length : Int) + 1) : raft_beats x.N x.ID x.Term x.Vote x.Role x.Commit x.Log x.Next x.Have = some (mls x.ID (bringM x) x.N.toNat, x.N, x.ID, x.Term, x.Vote, x.Log, x.Role, x.Commit, x.Log) := by
  have := loop_run (step := fun y => raft_others_v1_B1 x.N x.Next x.Have y) x.N.toNat (fun k => (x.N, x.ID, x.Term, x.Vote, x.Log, x.Role, x.Commit, mls x.ID (bringM x) k, (k : Int), x.Log))
    (fun k hk2 => by
      have hwk : w64 ((k : Int) + 1) = ((k + 1 : Nat) : Int) := by rw [w64_id (by omega) (by omega)]; omega
      have hml := mls_len x.ID (bringM x) k
      have hnk := hk _ (lget_mem x.Next (k : Int) (by omega))
      have hw2 : w64 (lget x.Next (k : Int) - 1) = lget x.Next (k : Int) - 1 := w64_id (by omega) (by omega)
      have hw3 : w64 (lget x.Next (k : Int) - 1 + 5) = lget x.Next (k : Int) - 1 + 5 := w64_id (by omega) (by omega)
      simp only [raft_others_v1_B1]
      rw [if_pos (d_t (by omega)), hwk, mls]
      by_cases g : (k : Int) = x.ID
      · rw [if_neg (n_f g), ob_some, if_pos g]
      · rw [if_pos (n_t g), if_neg g]
        unfold raft_beats_1_v1
        rw [asrt_pos (by omega), asrt_pos (by omega), hw2, hw3, tat_eq _ (by omega), ob_some, asrt_pos (by omega), eclone_eq _ (by simp [ldrop, ltake]; omega), ob_some, ob_some, asrt_pos (by simp; omega)]
        rfl)
    (r := (mls x.ID (bringM x) x.N.toNat, x.N, x.ID, x.Term, x.Vote, x.Log, x.Role, x.Commit, x.Log))
    (by
      simp only [raft_others_v1_B1]
      rw [if_neg (d_f (by omega))]; rfl)
  have h2 : raft_others_v1 x.N x.ID x.Term x.Vote x.Role x.Commit x.Log x.Next x.Have = some (mls x.ID (bringM x) x.N.toNat, x.N, x.ID, x.Term, x.Vote, x.Log, x.Role, x.Commit, x.Log) := by simpa [raft_others_v1, raft_others_v1_L1, mls] using this
  unfold raft_beats
  rw [h2, ob_some]
theorem tat_take (l : List Entry) (n : Nat) (h : n ≤ l.length) : tat (l.take n) ((l.take n).length : Int) = tat l (n : Int) := by
  have hl : (l.take n).length = n := by simp; omega
  rw [hl]
  unfold tat
  rw [hl]
  by_cases c : (n : Int) < 1
  · rw [if_pos (.inl c), if_pos (.inl c)]
  · rw [if_neg (by omega), if_neg (by omega)]
    have e : (n : Int) - 1 = ((n - 1 : Nat) : Int) := by omega
    have := lget_ltake l (n : Int) ((n : Int) - 1) (by omega)
    rw [ltake_nat] at this
    rw [this]
theorem rbeats_eq (x : Node) (h1 : 1 ≤ x.N) (h7 : x.N ≤ 7) (hl : x.Log.length ≤ 1000) (hn : (x.Next.length : Int) = x.N) (hk : ∀ k ∈ x.Next, 1 ≤ k ∧ k ≤ (x.Log.length : Int) + 1) : R_Beats x = some (mls x.ID (bringM x) x.N.toNat) := by
  have := loop_run (step := fun y => R_Beats_B1 x y) x.N.toNat (fun k => (mls x.ID (bringM x) k, (k : Int)))
    (fun k hk2 => by
      have hwk : w64 ((k : Int) + 1) = ((k + 1 : Nat) : Int) := by rw [w64_id (by omega) (by omega)]; omega
      have hml := mls_len x.ID (bringM x) k
      have hnk := hk _ (lget_mem x.Next (k : Int) (by omega))
      have hw2 : w64 (lget x.Next (k : Int) - 1) = lget x.Next (k : Int) - 1 := w64_id (by omega) (by omega)
      have hw3 : w64 (lget x.Next (k : Int) - 1 + 5) = lget x.Next (k : Int) - 1 + 5 := w64_id (by omega) (by omega)
      simp only [R_Beats_B1]
      rw [if_pos (d_t (by omega)), hwk, mls]
      by_cases g : (k : Int) = x.ID
      · rw [if_pos (d_t g), ob_some, if_pos g]
      · have hm : (if (decide ((x.Log.length : Int) < (w64 ((w64 ((lget x.Next (k : Int)) - 1)) + 5)))) = true then some (x.Log.length : Int) else some (w64 ((w64 ((lget x.Next (k : Int)) - 1)) + 5))) = some (min (lget x.Next (k : Int) - 1 + 5) (x.Log.length : Int)) := by
          rw [hw2, hw3]
          by_cases c : (x.Log.length : Int) < lget x.Next (k : Int) - 1 + 5
          · rw [if_pos (d_t c)]; congr 1; omega
          · rw [if_neg (d_f c)]; congr 1; omega
        obtain ⟨p, hp⟩ : ∃ p : Nat, lget x.Next (k : Int) - 1 = (p : Int) := ⟨(lget x.Next (k : Int) - 1).toNat, by omega⟩
        have hta := tat_take x.Log p (by omega)
        rw [if_neg (d_f g), if_neg g, asrt_pos (by omega), hm, ob_some, hw2, asrt_pos (by omega), last_eq _ (by simp [ltake]; omega), ob_some, asrt_pos (by omega), copyLog_eq _ (by simp [ldrop, ltake]; omega), ob_some, asrt_pos (by simp; omega)]
        dsimp only [lt]
        rw [ob_some]
        unfold bringM
        rw [hp, ltake_nat, hta]
        rfl)
    (r := mls x.ID (bringM x) x.N.toNat)
    (by
      simp only [R_Beats_B1]
      rw [if_neg (d_f (by omega))]; rfl)
  simpa [R_Beats, R_Beats_L1, mls] using this
end G
end Go.Proofs.Ytcnngkigpfpalaa
/- Nodes: Stand and Propose as the program has them; what is the same. -/
namespace Go.Proofs.Ytcnngkigpfpalaa
open Go Go.Dm
set_option linter.unusedVariables false
set_option linter.unusedSimpArgs false
namespace G
def nE : Node := ⟨0, 0, 0, 0, [], 0, 0, [], [], []⟩
structure Small (x : Node) : Prop where
  l : x.Log.length ≤ 1000
  v : x.Votes.length ≤ 1000
  n : x.Next.length ≤ 1000
  h : x.Have.length ≤ 1000
theorem Small.check {x : Node} (h : Small x) : raft_Check x = some (nodeF x) := ncheck_eq x h.v h.n h.h h.l
theorem Small.rcheck {x : Node} (h : Small x) : R_NodeFault x = some (nodeF x) := rnode_eq x h.v h.l
theorem own_eq {x : Node} (h : Small x) : raft_own x = some (x.N, x.ID, x.Term, x.Vote, x.Log, x.Role, x.Commit, x.Votes, x.Next, x.Have) := by
  have h1 := h.l
  have h2 := h.v
  have h3 := h.n
  have h4 := h.h
  unfold raft_own
  rw [eclone_eq _ (by omega), ob_some, iclone_eq _ (by omega), ob_some, iclone_eq _ (by omega), ob_some, iclone_eq _ (by omega), ob_some]
theorem follower_eq {x : Node} (h : Small x) : R_Follower x = some (x.N, x.ID, x.Term, x.Vote, x.Log, 0, x.Commit) := by
  have h1 := h.l
  unfold R_Follower
  rw [copyLog_eq _ (by omega), ob_some]
def stX (x : Node) : Node := ⟨x.N, x.ID, x.Term + 1, x.ID + 1, x.Log, 1, x.Commit, [x.ID], [], []⟩
def standS (x : Node) : Node × List Mail × Fault :=
  if ¬ (nodeF x).Code = 0 then (nE, [], nodeF x)
  else if x.Role = 2 then (nE, [], ⟨11, 0⟩)
  else if x.Term = 1000000000 then (nE, [], ⟨9, 0⟩)
  else (if x.N = 1 then leaderN (stX x) else stX x, mls x.ID (askM x.ID (x.Term + 1) x.Log) x.N.toNat, ⟨0, 0⟩)
theorem stand_eq {x : Node} (h : Small x) : raft_Stand_v1 x = some (standS x) := by
  unfold raft_Stand_v1 standS
  rw [h.check, ob_some]
  by_cases c0 : (nodeF x).Code = 0
  · have hg := nodeF_good.1 c0
    have hl := hg.len
    rw [if_neg (n_f c0), if_neg (not_not_intro c0), nodeF_zero hg]
    by_cases c1 : x.Role = 2
    · rw [if_pos (d_t c1), if_pos c1]; rfl
    · rw [if_neg (d_f c1), if_neg c1]
      by_cases c2 : x.Term = 1000000000
      · rw [if_pos (d_t c2), if_pos c2]; rfl
      · have hw1 : w64 (x.Term + 1) = x.Term + 1 := by have := hg.t0; have := hg.t1; exact w64_id (by omega) (by omega)
        have hw2 : w64 (x.ID + 1) = x.ID + 1 := by have := hg.i0; have := hg.iN; have := hg.n7; exact w64_id (by omega) (by omega)
        rw [if_neg (d_f c2), if_neg c2, ob_some, if_neg (by decide), own_eq h, ob_some]
        dsimp only [lt, raft_follow]
        rw [hw1, hw2, others_eq _ _ _ _ _ _ _ _ hg.n1 hg.n7 (by omega), ob_some]
        have hm : raft_most 1 x.N = decide (x.N = 1) := by
          have := most_eq 1 (by omega) x.N
          have e : ((1 : Nat) : Int) = 1 := rfl
          rw [e] at this
          rw [this]
          have h1 := hg.n1
          have : (x.N < 2 * 1) ↔ x.N = 1 := by omega
          simp only [this]
        rw [hm]
        by_cases c3 : x.N = 1
        · rw [if_pos (d_t c3), if_pos c3, lead_eq _ _ _ _ _ _ _ _ hg.n1 hg.n7 hg.i0 hg.iN (by omega) hg.c0, ob_some, ob_some]
          rfl
        · rw [if_neg (d_f c3), if_neg c3, ob_some]
          rfl
  · rw [if_pos (n_t c0), if_pos c0, ob_some, if_pos (n_t c0)]; rfl
def proX (x : Node) (text : List UInt8) : Node :=
  ⟨x.N, x.ID, x.Term, x.Vote, x.Log ++ [⟨x.Term, text⟩], x.Role, ((cntD (gd x.N x.Term (x.Log ++ [⟨x.Term, text⟩]) (lset x.Have x.ID ((x.Log.length : Int) + 1))) x.Commit.toNat (x.Log.length + 1) : Nat) : Int), x.Votes, lset x.Next x.ID ((x.Log.length : Int) + 2), lset x.Have x.ID ((x.Log.length : Int) + 1)⟩
def propS (x : Node) (text : List UInt8) : Node × Fault :=
  if ¬ (nodeF x).Code = 0 then (nE, nodeF x)
  else if ¬ x.Role = 2 then (nE, ⟨11, 0⟩)
  else if 200 < text.length then (nE, ⟨8, 0⟩)
  else if x.Log.length = 100 then (nE, ⟨2, 0⟩)
  else (proX x text, ⟨0, 0⟩)
theorem propose_eq {x : Node} (h : Small x) (text : List UInt8) : raft_Propose_v1 x text = some (propS x text) := by
  unfold raft_Propose_v1 propS
  rw [h.check, ob_some]
  by_cases c0 : (nodeF x).Code = 0
  · have hg := nodeF_good.1 c0
    have hl := hg.len
    rw [if_neg (n_f c0), if_neg (not_not_intro c0), nodeF_zero hg]
    by_cases c1 : x.Role = 2
    · rw [if_neg (n_f c1), if_neg (not_not_intro c1)]
      by_cases c2 : 200 < text.length
      · rw [if_pos (d_t (by omega)), if_pos c2]; rfl
      · rw [if_neg (d_f (by omega)), if_neg c2]
        by_cases c3 : x.Log.length = 100
        · rw [if_pos (d_t (by omega)), if_pos c3]; rfl
        · obtain ⟨l1, l2, l3, l4, l5⟩ := hg.lead c1
          have i0 := hg.i0
          have iN := hg.iN
          have hap : ((x.Log ++ [(⟨x.Term, text⟩ : Entry)]).length : Int) = (x.Log.length : Int) + 1 := by simp
          have hw : w64 ((x.Log.length : Int) + 1 + 1) = (x.Log.length : Int) + 2 := by rw [w64_id (by omega) (by omega)]; omega
          have hsm := hg.small
          obtain ⟨c, hc⟩ : ∃ c : Nat, x.Commit = (c : Int) := ⟨x.Commit.toNat, by have := hg.c0; omega⟩
          rw [if_neg (d_f (by omega)), if_neg c3, ob_some, if_neg (by decide), own_eq h, ob_some]
          dsimp only [lt]
          rw [asrt_pos (by omega), asrt_pos (by omega), asrt_pos (by omega), asrt_pos (by omega), asrt_pos (by omega), hap, hw, hc, rcount1_eq _ _ _ _ _ _ _ _ _ _ (by simp; omega) (by rw [lset_len]; omega), ob_some]
          unfold proX
          rw [hc, Int.toNat_natCast]
          simp
    · rw [if_pos (n_t c1), if_pos c1]; rfl
  · rw [if_pos (n_t c0), if_pos c0, ob_some, if_pos (n_t c0)]; rfl
theorem rcopy_eq {x : Node} (h : Small x) : R_CopyNode x = some (x.N, x.ID, x.Term, x.Vote, x.Log, x.Role, x.Commit, x.Votes, x.Next, x.Have) := by
  have h1 := h.l
  have h2 := h.v
  have h3 := h.n
  have h4 := h.h
  unfold R_CopyNode
  rw [copyLog_eq _ (by omega), ob_some, asrt_pos (by omega), asrt_pos (by omega), asrt_pos (by omega)]
/- what is the same -/
theorem slog_self (a : List Entry) (h : a.length ≤ 1000000) : R_SameLog a a = some true := by
  unfold R_SameLog
  rw [if_neg (by simp)]
  exact loop_run (step := fun y => R_SameLog_B1 a a y) a.length (fun k => (k : Int)) (fun k hk => by
    have hw : w64 ((k : Int) + 1) = ((k + 1 : Nat) : Int) := by rw [w64_id (by omega) (by omega)]; omega
    simp only [R_SameLog_B1]
    rw [if_pos (d_t (by omega)), asrt_pos (by omega), asrt_pos (by omega), if_neg (by simp), hw]) (by
    simp only [R_SameLog_B1]
    rw [if_neg (d_f (by omega))]; rfl)
theorem ints_self (a : List Int) (h : a.length ≤ 1000000) : R_Ints a a = some true := by
  unfold R_Ints
  rw [if_neg (by simp)]
  exact loop_run (step := fun y => R_Ints_B1 a a y) a.length (fun k => (k : Int)) (fun k hk => by
    have hw : w64 ((k : Int) + 1) = ((k + 1 : Nat) : Int) := by rw [w64_id (by omega) (by omega)]; omega
    simp only [R_Ints_B1]
    rw [if_pos (d_t (by omega)), asrt_pos (by omega), asrt_pos (by omega), if_neg (by simp), hw]) (by
    simp only [R_Ints_B1]
    rw [if_neg (d_f (by omega))]; rfl)
theorem snode_self {x : Node} (h : Small x) : R_SameNode x x = some true := by
  have h1 := h.l
  have h2 := h.v
  have h3 := h.n
  have h4 := h.h
  unfold R_SameNode
  rw [if_pos (by simp), slog_self _ (by omega), ob_some, if_pos (by simp), ints_self _ (by omega), ob_some, if_pos (by simp), ints_self _ (by omega), ob_some, if_pos (by simp), ints_self _ (by omega), ob_some]
  simp [lt]
theorem smails_self (a : List Mail) (h : a.length ≤ 1000000) (he : ∀ m ∈ a, m.Entries.length ≤ 1000000) : R_SameMails a a = some true := by
  unfold R_SameMails
  rw [if_neg (by simp)]
  exact loop_run (step := fun y => R_SameMails_B1 a a y) a.length (fun k => (k : Int)) (fun k hk => by
    have hw : w64 ((k : Int) + 1) = ((k + 1 : Nat) : Int) := by rw [w64_id (by omega) (by omega)]; omega
    simp only [R_SameMails_B1]
    rw [if_pos (d_t (by omega)), asrt_pos (by omega), asrt_pos (by omega), if_pos (by simp), slog_self _ (he _ (lget_mem a (k : Int) (by omega))), ob_some, if_neg (by simp), hw]) (by
    simp only [R_SameMails_B1]
    rw [if_neg (d_f (by omega))]; rfl)
theorem raftBegun_eq : law_raftBegun = some true := by
  have hs : Small ⟨1, 0, 0, 0, [], 0, 0, [], [], []⟩ := ⟨by simp, by simp, by simp, by simp⟩
  have f1 : nodeF ⟨1, 0, 0, 0, [], 0, 0, [], [], []⟩ = ⟨0, 0⟩ := by decide
  have e1 : standS ⟨1, 0, 0, 0, [], 0, 0, [], [], []⟩ = (⟨1, 0, 1, 1, [], 2, 0, [], [1], [0]⟩, [], ⟨0, 0⟩) := by
    unfold standS
    rw [f1, if_neg (by decide), if_neg (by decide), if_neg (by decide), if_pos rfl]; rfl
  have hs2 : Small ⟨1, 0, 1, 1, [], 2, 0, [], [1], [0]⟩ := ⟨by simp, by simp, by simp, by simp⟩
  have f2 : nodeF ⟨1, 0, 1, 1, [], 2, 0, [], [1], [0]⟩ = ⟨0, 0⟩ := by decide
  have e2 : propS ⟨1, 0, 1, 1, [], 2, 0, [], [1], [0]⟩ [97] = (⟨1, 0, 1, 1, [⟨1, [97]⟩], 2, 1, [], [2], [1]⟩, ⟨0, 0⟩) := by
    unfold propS
    rw [f2, if_neg (by decide), if_neg (by decide), if_neg (by decide), if_neg (by decide)]; rfl
  unfold law_raftBegun
  rw [stand_eq hs, ob_some, e1, propose_eq hs2, ob_some, e2]
  rfl
end G
end Go.Proofs.Ytcnngkigpfpalaa
/- Nodes: what Take is, and that the program's Take is it. -/
namespace Go.Proofs.Ytcnngkigpfpalaa
open Go Go.Dm
set_option linter.unusedVariables false
set_option linter.unusedSimpArgs false
namespace G
def finM (x : Node) (m : Mail) : Prop :=
  (1 ≤ m.Kind ∧ m.Kind ≤ 4) ∧ m.To = x.ID ∧ m.From ≠ x.ID ∧ (0 ≤ m.From ∧ m.From < x.N) ∧ (1 ≤ m.Term ∧ m.Term ≤ 1000000000) ∧ (0 ≤ m.A ∧ m.A ≤ 1000000000) ∧ (0 ≤ m.B ∧ m.B ≤ 1000000000) ∧ (0 ≤ m.C0 ∧ m.C0 ≤ 1000000000) ∧ m.Entries.length ≤ 5 ∧ (m.Entries.length = 0 ∨ m.Kind = 3) ∧ (fof m.Entries).Code = 0 ∧ tat m.Entries (m.Entries.length : Int) ≤ m.Term
instance (x : Node) (m : Mail) : Decidable (finM x m) := by unfold finM; infer_instance
theorem fine_eq (x : Node) (h7 : 1 ≤ x.N ∧ x.N ≤ 7) (m : Mail) (hm : m.Entries.length ≤ 1000000) : raft_fine m x = some (decide (finM x m)) := by
  have hw : w64 (x.N - 1) = x.N - 1 := w64_id (by omega) (by omega)
  unfold raft_fine
  dsimp only [lt]
  simp only [within_eq, hw, echeck_eq, tat_eq _ hm]
  by_cases c : (inW 1 4 m.Kind = true ∧ m.To = x.ID ∧ m.From ≠ x.ID ∧ inW 0 (x.N - 1) m.From = true ∧ inW 1 1000000000 m.Term = true ∧ inW 0 1000000000 m.A = true ∧ inW 0 1000000000 m.B = true ∧ inW 0 1000000000 m.C0 = true ∧ m.Entries.length ≤ 5 ∧ (m.Entries.length = 0 ∨ m.Kind = 3))
  · obtain ⟨c1, c2, c3, c4, c5, c6, c7, c8, c9, c10⟩ := c
    have d9 : decide ((m.Entries.length : Int) ≤ 5) = true := d_t (by omega)
    have d10 : (decide ((m.Entries.length : Int) = 0) || decide (m.Kind = 3)) = true := by
      rcases c10 with h | h
      · rw [d_t (show (m.Entries.length : Int) = 0 by omega)]; rfl
      · rw [d_t h]; simp
    rw [c1, c4, c5, c6, c7, c8, d9, d10, decide_eq_true c2, decide_eq_false c3]
    simp only [Bool.true_and, Bool.and_true, Bool.not_false, if_true, ob_some]
    have e : finM x m ↔ (fof m.Entries).Code = 0 ∧ tat m.Entries (m.Entries.length : Int) ≤ m.Term := by
      rw [inW_iff] at c1 c4 c5 c6 c7 c8
      unfold finM
      constructor
      · rintro ⟨_, _, _, _, _, _, _, _, _, _, h⟩; exact h
      · intro h; exact ⟨c1, c2, c3, by omega, c5, c6, c7, c8, c9, c10, h⟩
    by_cases g : (fof m.Entries).Code = 0
    · rw [if_pos (d_t g), ob_some, decide_eq_true g, Bool.true_and]
      congr 1
      exact decide_eq_decide.2 (by rw [e]; exact ⟨fun h => ⟨g, h⟩, fun h => h.2⟩)
    · rw [if_neg (d_f g), ob_some, decide_eq_false g, Bool.false_and]
      congr 1
      exact (decide_eq_false (fun h => g (e.1 h).1)).symm
  · have hf : ¬ finM x m := by
      rintro ⟨a1, a2, a3, a4, a5, a6, a7, a8, a9, a10, _⟩
      exact c ⟨inW_iff.2 a1, a2, a3, inW_iff.2 (by omega), inW_iff.2 a5, inW_iff.2 a6, inW_iff.2 a7, inW_iff.2 a8, a9, a10⟩
    have hb : (((((((((inW 1 4 m.Kind && (decide (m.To = x.ID))) && (!decide (m.From = x.ID))) && inW 0 (x.N - 1) m.From) && inW 1 1000000000 m.Term) && inW 0 1000000000 m.A) && inW 0 1000000000 m.B) && inW 0 1000000000 m.C0) && (decide ((m.Entries.length : Int) ≤ 5))) && ((decide ((m.Entries.length : Int) = 0)) || (decide (m.Kind = 3)))) = false := by
      rw [Bool.eq_false_iff]
      intro h
      simp only [Bool.and_eq_true, Bool.or_eq_true, Bool.not_eq_true', decide_eq_true_eq, decide_eq_false_iff_not] at h
      obtain ⟨⟨⟨⟨⟨⟨⟨⟨⟨a1, a2⟩, a3⟩, a4⟩, a5⟩, a6⟩, a7⟩, a8⟩, a9⟩, a10⟩ := h
      exact c ⟨a1, a2, a3, a4, a5, a6, a7, a8, by omega, by omega⟩
    rw [hb]
    simp only [Bool.false_and, Bool.false_eq_true, if_false, ob_some]
    rw [decide_eq_false hf]
/-- what a mail of a later term makes of a node -/
def bas (x : Node) (m : Mail) : Node := if x.Term < m.Term then ⟨x.N, x.ID, m.Term, 0, x.Log, 0, x.Commit, [], [], []⟩ else x
def fol (y : Node) : Node := ⟨y.N, y.ID, y.Term, y.Vote, y.Log, 0, y.Commit, [], [], []⟩
def ans (y : Node) (m : Mail) (kind a : Int) (ok : Bool) : Mail := ⟨kind, y.ID, m.From, y.Term, a, 0, 0, [], ok⟩
def askB (y : Node) (m : Mail) : Prop := m.Term = y.Term ∧ (y.Vote = 0 ∨ y.Vote = m.From + 1) ∧ ¬ (m.B < tat y.Log (y.Log.length : Int) ∨ (m.B = tat y.Log (y.Log.length : Int) ∧ m.A < (y.Log.length : Int)))
instance (y : Node) (m : Mail) : Decidable (askB y m) := by unfold askB; infer_instance
def take1 (y : Node) (m : Mail) : Node × List Mail :=
  (⟨y.N, y.ID, y.Term, if askB y m then m.From + 1 else y.Vote, y.Log, y.Role, y.Commit, y.Votes, y.Next, y.Have⟩, [ans y m 2 0 (decide (askB y m))])
def vts (y : Node) (m : Mail) : List Int := if m.From ∈ y.Votes then y.Votes else y.Votes ++ [m.From]
def wv (y : Node) (v : List Int) : Node := ⟨y.N, y.ID, y.Term, y.Vote, y.Log, y.Role, y.Commit, v, y.Next, y.Have⟩
def take2 (y : Node) (m : Mail) : Node × List Mail :=
  if y.Role ≠ 1 ∨ m.Term ≠ y.Term ∨ m.Ok = false then (y, [])
  else if y.N < 2 * ((vts y m).length : Int) then (leaderN (wv y (vts y m)), mls y.ID (bringM (leaderN (wv y (vts y m)))) y.N.toNat)
  else (wv y (vts y m), [])
noncomputable def take3 (y : Node) (m : Mail) : Node × List Mail :=
  if m.Term < y.Term then (y, [ans y m 4 0 false])
  else if y.Role = 2 then (y, [])
  else if ¬ (putS y.Log m.A m.B m.Entries).2.2.Code = 0 then (fol y, [])
  else if (putS y.Log m.A m.B m.Entries).2.1 = false then (fol y, [ans y m 4 (max 0 (min (m.A - 1) (y.Log.length : Int))) false])
  else if ((putS y.Log m.A m.B m.Entries).1.length : Int) < y.Commit ∨ (putS y.Log m.A m.B m.Entries).1.take y.Commit.toNat ≠ y.Log.take y.Commit.toNat then (fol y, [])
  else (⟨y.N, y.ID, y.Term, y.Vote, (putS y.Log m.A m.B m.Entries).1, 0, max y.Commit (min m.C0 (m.A + (m.Entries.length : Int))), [], [], []⟩, [ans y m 4 (m.A + (m.Entries.length : Int)) true])
def hav (y : Node) (m : Mail) : List Int := lset y.Have m.From (max (lget y.Have m.From) (min m.A (y.Log.length : Int)))
def take4 (y : Node) (m : Mail) : Node × List Mail :=
  if y.Role ≠ 2 ∨ m.Term ≠ y.Term then (y, [])
  else if m.Ok = true then (⟨y.N, y.ID, y.Term, y.Vote, y.Log, y.Role, ((cntD (gd y.N y.Term y.Log (hav y m)) y.Commit.toNat y.Log.length : Nat) : Int), y.Votes, lset y.Next m.From (max (lget y.Have m.From) (min m.A (y.Log.length : Int)) + 1), hav y m⟩, [])
  else (⟨y.N, y.ID, y.Term, y.Vote, y.Log, y.Role, y.Commit, y.Votes, lset y.Next m.From (max (lget y.Have m.From + 1) (min (lget y.Next m.From - 1) (m.A + 1))), y.Have⟩, [])
noncomputable def takeK (y : Node) (m : Mail) : Node × List Mail := if m.Kind = 1 then take1 y m else if m.Kind = 2 then take2 y m else if m.Kind = 3 then take3 y m else take4 y m
def takF (x : Node) (m : Mail) : Fault := if (nodeF x).Code = 0 then (if finM x m then ⟨0, 0⟩ else ⟨5, 0⟩) else nodeF x
noncomputable def takeS (x : Node) (m : Mail) : Node × List Mail × Fault := if (takF x m).Code = 0 then ((takeK (bas x m) m).1, (takeK (bas x m) m).2, ⟨0, 0⟩) else (nE, [], takF x m)
/-- what Take may lean on -/
structure Fit (y : Node) (m : Mail) : Prop where
  n : 1 ≤ y.N ∧ y.N ≤ 7
  i : 0 ≤ y.ID ∧ y.ID < y.N
  v : y.Vote ≤ 7
  vlo : 0 ≤ y.Vote
  c : 0 ≤ y.Commit ∧ y.Commit ≤ (y.Log.length : Int)
  l : y.Log.length ≤ 100
  vo : y.Votes.length ≤ 100
  f : 0 ≤ m.From ∧ m.From < y.N
  a : 0 ≤ m.A ∧ m.A ≤ 1000000000
  e : m.Entries.length ≤ 5
  ld : y.Role = 2 → (y.Next.length : Int) = y.N ∧ (y.Have.length : Int) = y.N ∧ (∀ k ∈ y.Next, 1 ≤ k ∧ k ≤ (y.Log.length : Int) + 1) ∧ (∀ k ∈ y.Have, 0 ≤ k ∧ k ≤ (y.Log.length : Int))
theorem asked_eq {y : Node} {m : Mail} (h : Fit y m) : raft_asked m y.N y.ID y.Term y.Vote y.Role y.Commit y.Log y.Votes y.Next y.Have = some ([ans y m 2 0 (decide (askB y m))], y.N, y.ID, y.Term, if askB y m then m.From + 1 else y.Vote, y.Role, y.Commit) := by
  have hl := h.l
  have hf := h.f
  have hn := h.n
  have hw : w64 (m.From + 1) = m.From + 1 := w64_id (by omega) (by omega)
  unfold raft_asked
  rw [tat_eq _ (by omega), ob_some]
  dsimp only [lt]
  rw [hw]
  have hb : (((decide (m.Term = y.Term)) && ((decide (y.Vote = 0)) || (decide (y.Vote = m.From + 1)))) && (!((decide (m.B < tat y.Log (y.Log.length : Int))) || ((decide (m.B = tat y.Log (y.Log.length : Int))) && (decide (m.A < (y.Log.length : Int))))))) = decide (askB y m) := by
    rw [Bool.eq_iff_iff, decide_eq_true_iff]
    unfold askB
    simp only [Bool.and_eq_true, Bool.or_eq_true, Bool.not_eq_true', decide_eq_true_eq, Bool.or_eq_false_iff, Bool.and_eq_false_imp, decide_eq_false_iff_not, not_or, not_and, and_assoc]
  rw [hb]
  by_cases c : askB y m
  · rw [if_pos (d_t c), ob_some, if_pos c, decide_eq_true c]; rfl
  · rw [if_neg (d_f c), ob_some, if_neg c, decide_eq_false c]; rfl
end G
end Go.Proofs.Ytcnngkigpfpalaa
/- Nodes: the program's Take, kind by kind. -/
namespace Go.Proofs.Ytcnngkigpfpalaa
open Go Go.Dm
set_option linter.unusedVariables false
set_option linter.unusedSimpArgs false
namespace G
theorem contains_eq (l : List Int) (hl : l.length ≤ 1000000) (v : Int) : slices_Contains_int_int l v = some (decide (v ∈ l)) := by
  rcases loop_first (step := fun y => slices_Index_int_int_B1 l v y) l.length (fun k => (k : Int)) (fun k => v = lget l (k : Int)) (fun k => (k : Int)) (r := (-1 : Int))
    (fun k hk hb => by
      have hw : w64 ((k : Int) + 1) = ((k + 1 : Nat) : Int) := by rw [w64_id (by omega) (by omega)]; omega
      simp only [slices_Index_int_int_B1]
      rw [if_pos (d_t (by omega)), asrt_pos (by omega), if_neg (d_f hb), hw])
    (fun k hk hb => by
      simp only [slices_Index_int_int_B1]
      rw [if_pos (d_t (by omega)), asrt_pos (by omega), if_pos (d_t hb)])
    (by
      simp only [slices_Index_int_int_B1]
      rw [if_neg (d_f (by omega))]; rfl) with ⟨j, h1, h2, _, h4⟩ | ⟨h1, h2⟩
  · have hm : v ∈ l := mem_lget.2 ⟨j, h1, h2.symm⟩
    have e : slices_Index_int_int l v = some (j : Int) := h4
    unfold slices_Contains_int_int
    rw [e, ob_some, decide_eq_true hm, decide_eq_true (by omega)]
  · have hm : ¬ v ∈ l := fun h => by obtain ⟨k, hk, e⟩ := mem_lget.1 h; exact h1 k hk e.symm
    have e : slices_Index_int_int l v = some (-1) := h2
    unfold slices_Contains_int_int
    rw [e, ob_some, decide_eq_false hm, decide_eq_false (by omega)]
theorem vts_len (y : Node) (m : Mail) : (vts y m).length ≤ y.Votes.length + 1 := by
  unfold vts; split
  · omega
  · simp
theorem given_eq {y : Node} {m : Mail} (h : Fit y m) : ∃ a b, raft_given m y.N y.ID y.Term y.Vote y.Role y.Commit y.Log y.Votes y.Next y.Have = some ((take2 y m).2, (take2 y m).1.N, (take2 y m).1.ID, (take2 y m).1.Term, (take2 y m).1.Vote, (take2 y m).1.Log, (take2 y m).1.Role, (take2 y m).1.Commit, (take2 y m).1.Votes, (take2 y m).1.Next, (take2 y m).1.Have, a, b) := by
  have hl := h.l
  have hn := h.n
  have hi := h.i
  have hc := h.c
  have hvo := h.vo
  have hvl := vts_len y m
  unfold raft_given take2
  by_cases c1 : y.Role ≠ 1 ∨ m.Term ≠ y.Term ∨ m.Ok = false
  · rw [if_pos c1, if_pos (by
      simp only [Bool.or_eq_true, Bool.not_eq_true', decide_eq_false_iff_not]
      rcases c1 with c1 | c1 | c1
      · exact .inl (.inl c1)
      · exact .inl (.inr c1)
      · exact .inr c1)]
    exact ⟨_, _, rfl⟩
  · rw [if_neg c1, if_neg (by
      simp only [Bool.or_eq_true, Bool.not_eq_true', decide_eq_false_iff_not]
      rintro ((c | c) | c)
      · exact c1 (.inl c)
      · exact c1 (.inr (.inl c))
      · exact c1 (.inr (.inr c)))]
    rw [contains_eq _ (by omega), ob_some]
    have e : (if (!decide (m.From ∈ y.Votes)) = true then asrt (((y.Votes ++ ([m.From] : List Int)).length : Int) * 8 ≤ 140737488351232) (some (y.Votes ++ ([m.From] : List Int))) else some y.Votes) = some (vts y m) := by
      unfold vts
      by_cases c : m.From ∈ y.Votes
      · rw [if_neg (n_f c), if_pos c]
      · rw [if_pos (n_t c), if_neg c, asrt_pos (by rw [List.length_append, List.length_singleton]; omega)]
    rw [e, ob_some]
    dsimp only [lt]
    rw [most_eq _ (by omega)]
    by_cases c2 : y.N < 2 * ((vts y m).length : Int)
    · rw [if_neg (n_f c2), if_pos c2, lead1_eq _ _ _ _ _ _ _ _ _ _ hn.1 hn.2 hi.1 hi.2 (by omega) hc.1, ob_some]
      have hb := beats1_eq (leaderN (wv y (vts y m))) hn.1 hn.2 (show y.Log.length ≤ 1000 by omega) (by simp [leaderN, wv]; omega) (by
        intro k hk
        have : k = (y.Log.length : Int) + 1 := by
          have hk' : k ∈ List.replicate y.N.toNat ((y.Log.length : Int) + 1) := hk
          exact (List.mem_replicate.1 hk').2
        subst this
        show 1 ≤ (y.Log.length : Int) + 1 ∧ (y.Log.length : Int) + 1 ≤ (y.Log.length : Int) + 1
        omega)
      have hb' : raft_beats y.N y.ID y.Term y.Vote 2 ((cntD (gd y.N y.Term y.Log ((List.replicate y.N.toNat (0 : Int)).set y.ID.toNat (y.Log.length : Int))) y.Commit.toNat y.Log.length : Nat) : Int) y.Log (List.replicate y.N.toNat ((y.Log.length : Int) + 1)) ((List.replicate y.N.toNat (0 : Int)).set y.ID.toNat (y.Log.length : Int)) = _ := hb
      dsimp only
      rw [hb', ob_some]
      exact ⟨_, _, rfl⟩
    · rw [if_pos (n_t c2), if_neg c2]
      exact ⟨_, _, rfl⟩
theorem answered_eq {y : Node} {m : Mail} (h : Fit y m) : raft_answered m y.N y.ID y.Term y.Vote y.Role y.Commit y.Log y.Votes y.Next y.Have = some ((take4 y m).1.N, (take4 y m).1.ID, (take4 y m).1.Term, (take4 y m).1.Vote, (take4 y m).1.Role, (take4 y m).1.Commit, (take4 y m).1.Next, (take4 y m).1.Have) ∧ (take4 y m).1.Log = y.Log ∧ (take4 y m).1.Votes = y.Votes ∧ (take4 y m).2 = [] := by
  have hl := h.l
  have hn := h.n
  have hf := h.f
  have hc := h.c
  have ha := h.a
  unfold raft_answered take4
  by_cases c1 : y.Role ≠ 2 ∨ m.Term ≠ y.Term
  · rw [if_pos c1, if_pos (by simp only [Bool.or_eq_true, Bool.not_eq_true', decide_eq_false_iff_not]; exact c1)]
    exact ⟨rfl, rfl, rfl, rfl⟩
  · rw [if_neg c1, if_neg (by simp only [Bool.or_eq_true, Bool.not_eq_true', decide_eq_false_iff_not]; exact c1)]
    have hr : y.Role = 2 := by
      by_cases g : y.Role = 2
      · exact g
      · exact absurd (.inl g) c1
    obtain ⟨l1, l2, l3, l4⟩ := h.ld hr
    have hh := l4 _ (lget_mem y.Have m.From (by omega))
    have hx := l3 _ (lget_mem y.Next m.From (by omega))
    by_cases c2 : m.Ok = true
    · obtain ⟨c, hcc⟩ : ∃ c : Nat, y.Commit = (c : Int) := ⟨y.Commit.toNat, by omega⟩
      have hhl : (hav y m).length = y.Have.length := by unfold hav; rw [lset_len]
      have hg : lget (hav y m) m.From = max (lget y.Have m.From) (min m.A (y.Log.length : Int)) := by
        unfold hav; rw [lget_lset _ _ _ _ (by omega) (by omega), if_pos rfl]
      have hw : w64 (lget (hav y m) m.From + 1) = max (lget y.Have m.From) (min m.A (y.Log.length : Int)) + 1 := by
        rw [hg, w64_id (by omega) (by omega)]
      have ehav : lset y.Have m.From (max (lget y.Have m.From) (min m.A (y.Log.length : Int))) = hav y m := rfl
      rw [if_pos c2, if_pos c2, asrt_pos (by omega), asrt_pos (by omega), asrt_pos (by omega), asrt_pos (by omega)]
      dsimp only [lt]
      rw [ehav, asrt_pos (by omega), asrt_pos (by omega), asrt_pos (by omega), asrt_pos (by omega), hw, hcc, rcount1_eq _ _ _ _ _ _ _ _ _ _ (by omega) (by omega), ob_some, Int.toNat_natCast]
      exact ⟨rfl, rfl, rfl, rfl⟩
    · have hw1 : w64 (lget y.Have m.From + 1) = lget y.Have m.From + 1 := w64_id (by omega) (by omega)
      have hw2 : w64 (lget y.Next m.From - 1) = lget y.Next m.From - 1 := w64_id (by omega) (by omega)
      have hw3 : w64 (m.A + 1) = m.A + 1 := w64_id (by omega) (by omega)
      rw [if_neg c2, if_neg c2, asrt_pos (by omega), asrt_pos (by omega), asrt_pos (by omega), asrt_pos (by omega), asrt_pos (by omega), asrt_pos (by omega), hw1, hw2, hw3]
      exact ⟨rfl, rfl, rfl, rfl⟩
theorem sequal_eq (a b : List Entry) (ha : a.length ≤ 1000000) : slices_Equal_api_Entry_api_Entry a b = some (decide (a = b)) := by
  unfold slices_Equal_api_Entry_api_Entry
  by_cases c : a.length = b.length
  · rw [if_neg (n_f (by omega))]
    have ee : ∀ k : Nat, (decide ((lget a (k : Int)).Term = (lget b (k : Int)).Term) && (decide ((lget a (k : Int)).Text = (lget b (k : Int)).Text) && true)) = decide (lget a (k : Int) = lget b (k : Int)) := fun k => by
      cases lget a (k : Int); cases lget b (k : Int); simp
    rcases loop_any (step := fun y => slices_Equal_api_Entry_api_Entry_B1 a b y) a.length (fun k => (k : Int)) (fun k => ¬ lget a (k : Int) = lget b (k : Int)) (rb := false) (r := true)
      (fun k hk hb => by
        have hw : w64 ((k : Int) + 1) = ((k + 1 : Nat) : Int) := by rw [w64_id (by omega) (by omega)]; omega
        simp only [slices_Equal_api_Entry_api_Entry_B1]
        rw [if_pos (d_t (by omega)), asrt_pos (by omega), asrt_pos (by omega), ee, if_neg (n_f (Classical.not_not.1 hb)), hw])
      (fun k hk hb => by
        simp only [slices_Equal_api_Entry_api_Entry_B1]
        rw [if_pos (d_t (by omega)), asrt_pos (by omega), asrt_pos (by omega), ee, if_pos (n_t hb)])
      (by
        simp only [slices_Equal_api_Entry_api_Entry_B1]
        rw [if_neg (d_f (by omega))]; rfl) with ⟨⟨k, hk, hb⟩, h2⟩ | ⟨h1, h2⟩
    · have : ¬ a = b := fun e => hb (by rw [e])
      rw [decide_eq_false this]; exact h2
    · have : a = b := ext_lget c (fun k hk => Classical.not_not.1 (h1 k hk))
      rw [decide_eq_true this]; exact h2
  · rw [if_pos (n_t (by omega)), decide_eq_false (fun e => c (by rw [e]))]
theorem putS_len {l : List Entry} {p t : Int} {more : List Entry} (h : (putS l p t more).2.2.Code = 0) : (putS l p t more).1.length ≤ 100 ∧ (putS l p t more).2.2 = ⟨0, 0⟩ := by
  unfold putS at h ⊢
  by_cases c : (putF l p t more).Code = 0
  · obtain ⟨h1, h2, h3, _⟩ := putF_good c
    rw [if_pos c] at h ⊢
    by_cases f : fits l p t
    · rw [if_pos f] at h ⊢
      by_cases g : (fof (put p.toNat l more)).Code = 0
      · rw [if_pos g]; exact ⟨(fof_good g).1, (fof_good g).2.1⟩
      · rw [if_neg g] at h; exact absurd h g
    · rw [if_neg f]; exact ⟨(fof_good h2).1, h1⟩
  · rw [if_neg c] at h; exact absurd h c
theorem bringing_eq {y : Node} {m : Mail} (h : Fit y m) (hv : m.C0 ≤ 1000000000 ∧ 0 ≤ m.C0) : ∃ a, raft_bringing m y.N y.ID y.Term y.Vote y.Role y.Commit y.Log y.Votes y.Next y.Have = some ((take3 y m).2, (take3 y m).1.N, (take3 y m).1.ID, (take3 y m).1.Term, (take3 y m).1.Vote, (take3 y m).1.Log, (take3 y m).1.Role, (take3 y m).1.Commit, (take3 y m).1.Votes, (take3 y m).1.Next, (take3 y m).1.Have, a) := by
  have hl := h.l
  have hn := h.n
  have hc := h.c
  have ha := h.a
  have he := h.e
  unfold raft_bringing take3
  by_cases c1 : m.Term < y.Term
  · rw [if_pos (d_t c1), if_pos c1]; exact ⟨_, rfl⟩
  rw [if_neg (d_f c1), if_neg c1]
  by_cases c2 : y.Role = 2
  · rw [if_pos (d_t c2), if_pos c2]; exact ⟨_, rfl⟩
  rw [if_neg (d_f c2), if_neg c2, put_eq]
  dsimp only [lt, raft_follow]
  rw [ob_some]
  by_cases c3 : (putS y.Log m.A m.B m.Entries).2.2.Code = 0
  · obtain ⟨hpl, _⟩ := putS_len c3
    rw [if_neg (n_f c3), if_neg (not_not_intro c3)]
    by_cases c4 : (putS y.Log m.A m.B m.Entries).2.1 = false
    · have hw : w64 (m.A - 1) = m.A - 1 := w64_id (by omega) (by omega)
      rw [if_pos (by rw [c4]; rfl), if_pos c4, hw]; exact ⟨_, rfl⟩
    · rw [if_neg (by rw [Bool.not_eq_false] at c4; rw [c4]; decide), if_neg c4]
      generalize (putS y.Log m.A m.B m.Entries).1 = L at *
      have hw : w64 (m.A + (m.Entries.length : Int)) = m.A + (m.Entries.length : Int) := w64_id (by omega) (by omega)
      by_cases c5 : (L.length : Int) < y.Commit
      · have d5 : decide ((L.length : Int) < y.Commit) = true := d_t c5
        rw [asrt_pos (fun g => by rw [d5] at g; cases g), asrt_pos (fun g => by rw [d5] at g; cases g), d5, if_neg (by decide), ob_some, if_pos (by rfl), if_pos (.inl c5)]
        exact ⟨_, rfl⟩
      · have d5 : decide ((L.length : Int) < y.Commit) = false := decide_eq_false c5
        have e1 : ltake L y.Commit = L.take y.Commit.toNat := rfl
        have e2 : ltake y.Log y.Commit = y.Log.take y.Commit.toNat := rfl
        rw [asrt_pos (fun _ => by omega), asrt_pos (fun _ => by omega), d5, if_pos (by rfl), e1, e2, sequal_eq _ _ (by rw [List.length_take]; omega), ob_some]
        by_cases c6 : L.take y.Commit.toNat = y.Log.take y.Commit.toNat
        · rw [decide_eq_true c6, if_neg (by decide), if_neg (by rintro (g | g); exact c5 g; exact g c6), hw]
          exact ⟨_, rfl⟩
        · rw [decide_eq_false c6, if_pos (by rfl), if_pos (.inr c6)]
          exact ⟨_, rfl⟩
  · rw [if_pos (n_t c3), if_pos c3]; exact ⟨_, rfl⟩
end G
end Go.Proofs.Ytcnngkigpfpalaa
/- Nodes: the program's Take as a whole. -/
namespace Go.Proofs.Ytcnngkigpfpalaa
open Go Go.Dm
set_option linter.unusedVariables false
set_option linter.unusedSimpArgs false
namespace G
theorem votes_small {x : Node} (h : NGood x) : x.Votes.length ≤ 7 := by
  have hf := h.form
  have h7 := h.n7
  unfold formB at hf
  simp only [Bool.and_eq_true] at hf
  have h1 := hf.1
  by_cases c : x.Role = 1
  · rw [if_pos c] at h1
    simp only [Bool.and_eq_true, Bool.not_eq_true', decide_eq_false_iff_not] at h1
    omega
  · rw [if_neg c] at h1
    have := of_decide_eq_true h1
    omega
theorem bas_fit {x : Node} {m : Mail} (hg : NGood x) (hf : finM x m) : Fit (bas x m) m := by
  obtain ⟨_, _, _, f4, _, f6, _, _, f9, _, _, _⟩ := hf
  have h1 := hg.n1
  have h2 := hg.n7
  have h3 := hg.i0
  have h4 := hg.iN
  have h5 := hg.vN
  have h6 := hg.c0
  have h7 := hg.cl
  have h8 := hg.len
  have h9 := votes_small hg
  unfold bas
  split
  · exact ⟨⟨h1, h2⟩, ⟨h3, h4⟩, by show (0 : Int) ≤ 7; omega, by show (0 : Int) ≤ 0; omega, ⟨h6, h7⟩, h8, by show ([] : List Int).length ≤ 100; simp, f4, f6, f9, fun h => absurd (show (0 : Int) = 2 from h) (by omega)⟩
  · refine ⟨⟨h1, h2⟩, ⟨h3, h4⟩, by omega, hg.v0, ⟨h6, h7⟩, h8, by omega, f4, f6, f9, fun h => ?_⟩
    obtain ⟨l1, l2, l3, l4, _⟩ := hg.lead h
    exact ⟨l1, l2, l3, l4⟩
theorem takF_zero {x : Node} {m : Mail} (h : (takF x m).Code = 0) : NGood x ∧ finM x m ∧ takF x m = ⟨0, 0⟩ := by
  unfold takF at h ⊢
  by_cases c : (nodeF x).Code = 0
  · rw [if_pos c] at h ⊢
    by_cases f : finM x m
    · rw [if_pos f]; exact ⟨nodeF_good.1 c, f, rfl⟩
    · rw [if_neg f] at h; cases h
  · rw [if_neg c] at h; exact absurd h c
theorem take_eq {x : Node} (hx : Small x) (m : Mail) (hm : m.Entries.length ≤ 1000000) : raft_Take x m = some (takeS x m) := by
  unfold raft_Take
  rw [hx.check, ob_some]
  have e1 : (ob (if (decide ((nodeF x).Code = 0)) = true then (raft_fine m x) else some default) fun x2 =>
      ob (
        if ((decide ((nodeF x).Code = 0)) && (!x2)) = true then
          lt (raft_fault 5 0) fun x3 =>
          some x3
        else
          some (nodeF x)) fun (v : Fault) => some v) = some (takF x m) := by
    unfold takF
    by_cases c : (nodeF x).Code = 0
    · have hg := nodeF_good.1 c
      rw [if_pos (d_t c), fine_eq x ⟨hg.n1, hg.n7⟩ m hm, ob_some, if_pos c]
      by_cases f : finM x m
      · rw [decide_eq_true f, if_neg (by simp), if_pos f, ob_some, nodeF_zero hg]
      · rw [decide_eq_false f, if_pos (by simp [c]), if_neg f]; rfl
    · rw [if_neg (d_f c), ob_some, if_neg (by simp [c]), if_neg c, ob_some]
  -- the fault first
  have e2 : ∀ (k : Fault → Option (Node × List Mail × Fault)), (ob (if (decide ((nodeF x).Code = 0)) = true then (raft_fine m x) else some default) fun x2 =>
      ob (
        if ((decide ((nodeF x).Code = 0)) && (!x2)) = true then
          lt (raft_fault 5 0) fun x3 =>
          some x3
        else
          some (nodeF x)) k) = k (takF x m) := by
    intro k
    obtain ⟨b, hb, e⟩ := ob_elim e1
    obtain ⟨v, hv, e⟩ := ob_elim e
    rw [hb, ob_some, hv, ob_some, ← some_elim e]
  rw [e2]
  unfold takeS
  by_cases c : (takF x m).Code = 0
  · obtain ⟨hg, hf, hz⟩ := takF_zero c
    rw [if_neg (n_f c), if_pos c, own_eq hx, ob_some, hz]
    have hfit := bas_fit hg hf
    obtain ⟨f1, _, _, _, _, _, _, f8, _⟩ := hf
    have hb : (if (decide (x.Term < m.Term)) = true then
        lt (raft_follow x.N x.ID m.Term 0 x.Role x.Commit x.Log x.Votes x.Next x.Have) fun x5 =>
        some (x5.1, x5.2.1, x5.2.2.1, x5.2.2.2.1, x5.2.2.2.2.1, x5.2.2.2.2.2, ([] : List Int), ([] : List Int), ([] : List Int))
      else
        some (x.N, x.ID, x.Term, x.Vote, x.Role, x.Commit, x.Votes, x.Next, x.Have)) = some ((bas x m).N, (bas x m).ID, (bas x m).Term, (bas x m).Vote, (bas x m).Role, (bas x m).Commit, (bas x m).Votes, (bas x m).Next, (bas x m).Have) := by
      unfold bas
      by_cases g : x.Term < m.Term
      · rw [if_pos (d_t g), if_pos g]; rfl
      · rw [if_neg (d_f g), if_neg g]
    have hlog : x.Log = (bas x m).Log := by unfold bas; split <;> rfl
    dsimp only
    rw [hb, ob_some, hlog]
    generalize bas x m = y at *
    dsimp only
    unfold takeK
    by_cases k1 : m.Kind = 1
    · rw [if_pos (d_t k1), if_pos k1, asked_eq hfit, ob_some, ob_some]; rfl
    · rw [if_neg (d_f k1), if_neg k1]
      by_cases k2 : m.Kind = 2
      · obtain ⟨a, b, q⟩ := given_eq hfit
        rw [if_pos (d_t k2), if_pos k2, q, ob_some, ob_some]
      · rw [if_neg (d_f k2), if_neg k2]
        by_cases k3 : m.Kind = 3
        · obtain ⟨a, q⟩ := bringing_eq hfit ⟨f8.2, f8.1⟩
          rw [if_pos (d_t k3), if_pos k3, q, ob_some, ob_some]
        · obtain ⟨q1, q2, q3, q4⟩ := answered_eq hfit
          rw [if_neg (d_f k3), if_neg k3, if_pos (d_t (by omega)), q1, ob_some, ob_some]
          dsimp only
          rw [← q2, ← q3, q4]
  · rw [if_pos (n_t c), if_neg c]; rfl
end G
end Go.Proofs.Ytcnngkigpfpalaa
/- Nodes: the document's Take. -/
namespace Go.Proofs.Ytcnngkigpfpalaa
open Go Go.Dm
set_option linter.unusedVariables false
set_option linter.unusedSimpArgs false
namespace G
theorem num_iff (v : Int) : R_Num v = true ↔ 0 ≤ v ∧ v ≤ 1000000000 := by unfold R_Num; simp
theorem rfine_eq (x : Node) (m : Mail) (hm : m.Entries.length ≤ 1000000) : R_MailFine x m = some (decide (finM x m)) := by
  unfold R_MailFine
  dsimp only [lt]
  simp only [rlog_eq, last_eq _ hm]
  by_cases c : (1 ≤ m.Kind ∧ m.Kind ≤ 4) ∧ m.To = x.ID ∧ m.From ≠ x.ID ∧ (0 ≤ m.From ∧ m.From < x.N) ∧ (1 ≤ m.Term ∧ m.Term ≤ 1000000000) ∧ (0 ≤ m.A ∧ m.A ≤ 1000000000) ∧ (0 ≤ m.B ∧ m.B ≤ 1000000000) ∧ (0 ≤ m.C0 ∧ m.C0 ≤ 1000000000)
  · have n1 := (num_iff m.Term).2 (by omega)
    have n2 := (num_iff m.A).2 (by omega)
    have n3 := (num_iff m.B).2 (by omega)
    have n4 := (num_iff m.C0).2 (by omega)
    rw [n1, n2, n3, n4, if_neg (by simp only [Bool.or_eq_true, decide_eq_true_eq, Bool.not_eq_true', decide_eq_false_iff_not, Bool.not_true, Bool.false_eq_true, or_false]; omega)]
    by_cases d : m.Entries.length ≤ 5 ∧ (m.Kind = 3 ∨ m.Entries.length = 0)
    · have d9 : decide ((m.Entries.length : Int) ≤ 5) = true := d_t (by omega)
      have d10 : (decide (m.Kind = 3) || decide ((m.Entries.length : Int) = 0)) = true := by
        rcases d.2 with h | h
        · rw [d_t h]; rfl
        · rw [d_t (show (m.Entries.length : Int) = 0 by omega)]; simp
      rw [d9, d10]
      simp only [Bool.true_and, if_true, ob_some]
      have e : finM x m ↔ (fof m.Entries).Code = 0 ∧ tat m.Entries (m.Entries.length : Int) ≤ m.Term := by
        unfold finM
        constructor
        · rintro ⟨_, _, _, _, _, _, _, _, _, _, h⟩; exact h
        · intro h; exact ⟨c.1, c.2.1, c.2.2.1, c.2.2.2.1, c.2.2.2.2.1, c.2.2.2.2.2.1, c.2.2.2.2.2.2.1, c.2.2.2.2.2.2.2, d.1, d.2.symm, h⟩
      by_cases g : (fof m.Entries).Code = 0
      · rw [if_pos (d_t g), ob_some, decide_eq_true g, Bool.true_and]
        congr 1
        exact decide_eq_decide.2 (by rw [e]; exact ⟨fun h => ⟨g, h⟩, fun h => h.2⟩)
      · rw [if_neg (d_f g), ob_some, decide_eq_false g, Bool.false_and]
        congr 1
        exact (decide_eq_false (fun h => g (e.1 h).1)).symm
    · have hb : ((decide ((m.Entries.length : Int) ≤ 5)) && ((decide (m.Kind = 3)) || (decide ((m.Entries.length : Int) = 0)))) = false := by
        rw [Bool.eq_false_iff]
        intro h
        simp only [Bool.and_eq_true, Bool.or_eq_true, decide_eq_true_eq] at h
        exact d ⟨by omega, by omega⟩
      have hf : ¬ finM x m := by rintro ⟨_, _, _, _, _, _, _, _, a9, a10, _⟩; exact d ⟨a9, a10.symm⟩
      rw [hb]
      simp only [Bool.false_and, Bool.false_eq_true, if_false, ob_some]
      rw [decide_eq_false hf]
  · have hf : ¬ finM x m := by rintro ⟨a1, a2, a3, a4, a5, a6, a7, a8, _⟩; exact c ⟨a1, a2, a3, a4, a5, a6, a7, a8⟩
    rw [if_pos, decide_eq_false hf]
    by_cases n1 : R_Num m.Term = true
    · by_cases n2 : R_Num m.A = true
      · by_cases n3 : R_Num m.B = true
        · by_cases n4 : R_Num m.C0 = true
          · have q1 := (num_iff m.Term).1 n1
            have q2 := (num_iff m.A).1 n2
            have q3 := (num_iff m.B).1 n3
            have q4 := (num_iff m.C0).1 n4
            simp only [Bool.or_eq_true, decide_eq_true_eq, Bool.not_eq_true', decide_eq_false_iff_not]
            omega
          · rw [Bool.not_eq_true] at n4; rw [n4]; simp
        · rw [Bool.not_eq_true] at n3; rw [n3]; simp
      · rw [Bool.not_eq_true] at n2; rw [n2]; simp
    · rw [Bool.not_eq_true] at n1; rw [n1]; simp
theorem rolder_eq (l : List Entry) (hl : l.length ≤ 1000000) (n t : Int) : R_OlderLog l n t = some (decide (tat l (l.length : Int) < t ∨ (tat l (l.length : Int) = t ∧ (l.length : Int) < n))) := by
  unfold R_OlderLog
  rw [last_eq l hl, ob_some]
  by_cases c : tat l (l.length : Int) = t
  · rw [if_neg (n_f c)]
    congr 1
    exact decide_eq_decide.2 ⟨fun h => .inr ⟨c, h⟩, fun h => by omega⟩
  · rw [if_pos (n_t c), ob_some]
    congr 1
    exact decide_eq_decide.2 ⟨fun h => .inl h, fun h => by omega⟩
def nt (y : Node) (ms : List Mail) (f : Fault) : Int × Int × Int × Int × List Entry × Int × Int × List Int × List Int × List Int × List Mail × Fault := (y.N, y.ID, y.Term, y.Vote, y.Log, y.Role, y.Commit, y.Votes, y.Next, y.Have, ms, f)
def n10 (y : Node) : Int × Int × Int × Int × List Entry × Int × Int × List Int × List Int × List Int := (y.N, y.ID, y.Term, y.Vote, y.Log, y.Role, y.Commit, y.Votes, y.Next, y.Have)
/-- the loop that compares what is for good -/
theorem rput_loop (x : Node) (m : Mail) (v : Fault) (y : Node) (hid : x.ID = y.ID) (L : List Entry) (o : Bool) (f : Fault) (hc : 0 ≤ y.Commit ∧ y.Commit ≤ (y.Log.length : Int)) (hl : y.Log.length ≤ 1000) (ha : 0 ≤ m.A ∧ m.A ≤ 1000000000) (he : m.Entries.length ≤ 5) :
    R_TakeNode_L1 x m v (n10 y) (y.N, y.ID, y.Term, y.Vote, y.Log, 0, y.Commit) (L, o, f) 0 =
      some (if (L.length : Int) < y.Commit ∨ L.take y.Commit.toNat ≠ y.Log.take y.Commit.toNat then nt (fol y) [] v else nt ⟨y.N, y.ID, y.Term, y.Vote, L, 0, max y.Commit (min m.C0 (m.A + (m.Entries.length : Int))), [], [], []⟩ [ans y m 4 (m.A + (m.Entries.length : Int)) true] v) := by
  have hw : w64 (m.A + (m.Entries.length : Int)) = m.A + (m.Entries.length : Int) := w64_id (by omega) (by omega)
  have ee : ∀ k : Nat, (decide ((lget L (k : Int)).Term = (lget y.Log (k : Int)).Term) && (decide ((lget L (k : Int)).Text = (lget y.Log (k : Int)).Text) && true)) = decide (lget L (k : Int) = lget y.Log (k : Int)) := fun k => by
    cases lget L (k : Int); cases lget y.Log (k : Int); simp
  rcases loop_any (step := fun z => R_TakeNode_B1 x m v (n10 y) (y.N, y.ID, y.Term, y.Vote, y.Log, 0, y.Commit) (L, o, f) z) y.Commit.toNat (fun k => (k : Int)) (fun k => (L.length : Int) ≤ (k : Int) ∨ ¬ lget L (k : Int) = lget y.Log (k : Int))
    (rb := nt (fol y) [] v) (r := nt ⟨y.N, y.ID, y.Term, y.Vote, L, 0, max y.Commit (min m.C0 (m.A + (m.Entries.length : Int))), [], [], []⟩ [ans y m 4 (m.A + (m.Entries.length : Int)) true] v)
    (fun k hk hb => by
      have hw : w64 ((k : Int) + 1) = ((k + 1 : Nat) : Int) := by rw [w64_id (by omega) (by omega)]; omega
      have h1 : ¬ (L.length : Int) ≤ (k : Int) := fun g => hb (.inl g)
      have h2 : lget L (k : Int) = lget y.Log (k : Int) := Classical.not_not.1 (fun g => hb (.inr g))
      simp only [R_TakeNode_B1]
      rw [if_pos (d_t (by omega)), asrt_pos (fun _ => by omega), asrt_pos (fun _ => by omega), asrt_pos (fun _ => by omega), asrt_pos (fun _ => by omega), ee, decide_eq_false h1, decide_eq_true h2, if_neg (by decide), hw])
    (fun k hk hb => by
      simp only [R_TakeNode_B1]
      by_cases h1 : (L.length : Int) ≤ (k : Int)
      · have d := decide_eq_true h1
        rw [if_pos (d_t (by omega)), d, asrt_pos (fun g => by cases g), asrt_pos (fun g => by cases g), asrt_pos (fun g => by cases g), asrt_pos (fun g => by cases g), if_pos (by rfl)]; rfl
      · have h2 := hb.resolve_left h1
        rw [if_pos (d_t (by omega)), asrt_pos (fun _ => by omega), asrt_pos (fun _ => by omega), asrt_pos (fun _ => by omega), asrt_pos (fun _ => by omega), ee, decide_eq_false h1, decide_eq_false h2, if_pos (by decide)]; rfl)
    (by
      simp only [R_TakeNode_B1]
      rw [if_neg (d_f (by omega))]
      unfold R_TakeNode_J1
      rw [hw]
      have e1 : (if (decide (m.A + (m.Entries.length : Int) < m.C0)) = true then some (m.A + (m.Entries.length : Int)) else some m.C0) = some (min m.C0 (m.A + (m.Entries.length : Int))) := by
        by_cases g : m.A + (m.Entries.length : Int) < m.C0
        · rw [if_pos (d_t g)]; congr 1; omega
        · rw [if_neg (d_f g)]; congr 1; omega
      have e2 : (if (decide (y.Commit < min m.C0 (m.A + (m.Entries.length : Int)))) = true then some (min m.C0 (m.A + (m.Entries.length : Int))) else some y.Commit) = some (max y.Commit (min m.C0 (m.A + (m.Entries.length : Int)))) := by
        by_cases g : y.Commit < min m.C0 (m.A + (m.Entries.length : Int))
        · rw [if_pos (d_t g)]; congr 1; omega
        · rw [if_neg (d_f g)]; congr 1; omega
      rw [e1, ob_some, e2, ob_some, hid]; rfl) with ⟨⟨k, hk, hb⟩, h2⟩ | ⟨h1, h2⟩
  · have hcond : (L.length : Int) < y.Commit ∨ L.take y.Commit.toNat ≠ y.Log.take y.Commit.toNat := by
      by_cases g : (L.length : Int) < y.Commit
      · exact .inl g
      · refine .inr (fun e => ?_)
        rcases hb with hb | hb
        · omega
        · have q1 := lget_ltake L y.Commit (k : Int) (by omega)
          have q2 := lget_ltake y.Log y.Commit (k : Int) (by omega)
          have e' : ltake L y.Commit = ltake y.Log y.Commit := e
          exact hb (by rw [← q1, ← q2, e'])
    rw [if_pos hcond]; exact h2
  · have hcond : ¬ ((L.length : Int) < y.Commit ∨ L.take y.Commit.toNat ≠ y.Log.take y.Commit.toNat) := by
      have hL : ¬ (L.length : Int) < y.Commit := fun g => h1 L.length (by omega) (.inl (by omega))
      rintro (g | g)
      · exact hL g
      · refine g (ext_lget (by rw [List.length_take, List.length_take]; omega) (fun n hn => ?_))
        rw [List.length_take] at hn
        have q1 := lget_ltake L y.Commit (n : Int) (by omega)
        have q2 := lget_ltake y.Log y.Commit (n : Int) (by omega)
        have e1 : ltake L y.Commit = L.take y.Commit.toNat := rfl
        have e2 : ltake y.Log y.Commit = y.Log.take y.Commit.toNat := rfl
        rw [e1] at q1; rw [e2] at q2
        rw [q1, q2]
        exact Classical.not_not.1 (fun hne => h1 n (by omega) (.inr hne))
    rw [if_neg hcond]; exact h2
end G
end Go.Proofs.Ytcnngkigpfpalaa
/- Nodes: the document's Take as a whole. -/
namespace Go.Proofs.Ytcnngkigpfpalaa
open Go Go.Dm
set_option linter.unusedVariables false
set_option linter.unusedSimpArgs false
namespace G
theorem fit_small {y : Node} {m : Mail} (h : Fit y m) (hn : y.Next.length ≤ 1000) (hh : y.Have.length ≤ 1000) : Small y := ⟨by have := h.l; omega, by have := h.vo; omega, hn, hh⟩
theorem rtake_eq {x : Node} (hx : Small x) (m : Mail) (hm : m.Entries.length ≤ 1000000) : R_TakeNode x m = some (nt (takeS x m).1 (takeS x m).2.1 (takeS x m).2.2) := by
  unfold R_TakeNode
  rw [hx.rcheck, ob_some]
  have e1 : (ob (if (decide ((nodeF x).Code = 0)) = true then (R_MailFine x m) else some default) fun x2 =>
      ob (
        if ((decide ((nodeF x).Code = 0)) && (!x2)) = true then
          lt (R_F 5 0) fun x3 =>
          some x3
        else
          some (nodeF x)) fun (v : Fault) => some v) = some (takF x m) := by
    unfold takF
    by_cases c : (nodeF x).Code = 0
    · have hg := nodeF_good.1 c
      rw [if_pos (d_t c), rfine_eq x m hm, ob_some, if_pos c]
      by_cases f : finM x m
      · rw [decide_eq_true f, if_neg (by simp), if_pos f, ob_some, nodeF_zero hg]
      · rw [decide_eq_false f, if_pos (by simp [c]), if_neg f]; rfl
    · rw [if_neg (d_f c), ob_some, if_neg (by simp [c]), if_neg c, ob_some]
  have e2 : ∀ {β : Type} (k : Fault → Option β), (ob (if (decide ((nodeF x).Code = 0)) = true then (R_MailFine x m) else some default) fun x2 =>
      ob (
        if ((decide ((nodeF x).Code = 0)) && (!x2)) = true then
          lt (R_F 5 0) fun x3 =>
          some x3
        else
          some (nodeF x)) k) = k (takF x m) := by
    intro β k
    obtain ⟨b, hb, e⟩ := ob_elim e1
    obtain ⟨v, hv, e⟩ := ob_elim e
    rw [hb, ob_some, hv, ob_some, ← some_elim e]
  rw [e2]
  unfold takeS
  by_cases c : (takF x m).Code = 0
  · obtain ⟨hg, hf, hz⟩ := takF_zero c
    rw [if_neg (n_f c), if_pos c, rcopy_eq hx, ob_some, hz]
    have hfit := bas_fit hg hf
    obtain ⟨f1, _, _, f4, _, f6, f7, f8, _⟩ := hf
    have hb : (if (decide (x.Term < m.Term)) = true then
        ob (R_Follower x) fun x5 =>
        some (x5.1, x5.2.1, m.Term, 0, x5.2.2.2.2.1, x5.2.2.2.2.2.1, x5.2.2.2.2.2.2, ([] : List Int), ([] : List Int), ([] : List Int))
      else
        some (x.N, x.ID, x.Term, x.Vote, x.Log, x.Role, x.Commit, x.Votes, x.Next, x.Have)) = some (n10 (bas x m)) := by
      unfold bas
      by_cases g : x.Term < m.Term
      · rw [if_pos (d_t g), follower_eq hx, ob_some, if_pos g]; rfl
      · rw [if_neg (d_f g), if_neg g]; rfl
    have hid : x.ID = (bas x m).ID := by unfold bas; split <;> rfl
    have hsm : Small (bas x m) := fit_small hfit (by
      unfold bas; split
      · show ([] : List Int).length ≤ 1000; simp
      · exact hx.n) (by
      unfold bas; split
      · show ([] : List Int).length ≤ 1000; simp
      · exact hx.h)
    dsimp only
    rw [hb, ob_some, hid]
    have hid2 : x.ID = (bas x m).ID := hid
    generalize bas x m = y at *
    have hl := hfit.l
    have hn := hfit.n
    have hi := hfit.i
    have hcm := hfit.c
    have hvo := hfit.vo
    have hfr := hfit.f
    have ha := hfit.a
    have hvv := hfit.v
    have p1 : (n10 y).1 = y.N := rfl
    have p2 : (n10 y).2.1 = y.ID := rfl
    have p3 : (n10 y).2.2.1 = y.Term := rfl
    have p4 : (n10 y).2.2.2.1 = y.Vote := rfl
    have p5 : (n10 y).2.2.2.2.1 = y.Log := rfl
    have p6 : (n10 y).2.2.2.2.2.1 = y.Role := rfl
    have p7 : (n10 y).2.2.2.2.2.2.1 = y.Commit := rfl
    have p8 : (n10 y).2.2.2.2.2.2.2.1 = y.Votes := rfl
    have p9 : (n10 y).2.2.2.2.2.2.2.2.1 = y.Next := rfl
    have p10 : (n10 y).2.2.2.2.2.2.2.2.2 = y.Have := rfl
    rw [p1, p2, p3, p4, p5, p6, p7, p8, p9, p10]
    unfold takeK
    by_cases k1 : m.Kind = 1
    · rw [if_pos (d_t k1), if_pos k1, rolder_eq _ (by omega), ob_some, last_eq _ (by omega)]
      unfold take1
      have hv2 : (ob (if (!(!decide (m.A = (y.Log.length : Int)))) = true then (if (!decide (tat y.Log (y.Log.length : Int) < m.B ∨ (tat y.Log (y.Log.length : Int) = m.B ∧ (y.Log.length : Int) < m.A))) = true then some (tat y.Log (y.Log.length : Int)) else some default) else some default) fun x7 =>
          some ((!decide (tat y.Log (y.Log.length : Int) < m.B ∨ (tat y.Log (y.Log.length : Int) = m.B ∧ (y.Log.length : Int) < m.A))) && ((!decide (m.A = (y.Log.length : Int))) || (!decide (m.B = x7))))) = some (decide (m.B < tat y.Log (y.Log.length : Int) ∨ (m.B = tat y.Log (y.Log.length : Int) ∧ m.A < (y.Log.length : Int)))) := by
        by_cases o : tat y.Log (y.Log.length : Int) < m.B ∨ (tat y.Log (y.Log.length : Int) = m.B ∧ (y.Log.length : Int) < m.A)
        · rw [decide_eq_true o]
          have : ¬ (m.B < tat y.Log (y.Log.length : Int) ∨ (m.B = tat y.Log (y.Log.length : Int) ∧ m.A < (y.Log.length : Int))) := by omega
          rw [decide_eq_false this]
          by_cases g : m.A = (y.Log.length : Int)
          · rw [decide_eq_true g]; rfl
          · rw [decide_eq_false g]; rfl
        · rw [decide_eq_false o]
          by_cases g : m.A = (y.Log.length : Int)
          · rw [decide_eq_true g, if_pos (by decide), if_pos (by decide), ob_some]
            congr 1
            by_cases g2 : m.B = tat y.Log (y.Log.length : Int)
            · rw [decide_eq_true g2, decide_eq_false (show ¬ (m.B < tat y.Log (y.Log.length : Int) ∨ (m.B = tat y.Log (y.Log.length : Int) ∧ m.A < (y.Log.length : Int))) by omega)]; rfl
            · rw [decide_eq_false g2, decide_eq_true (show (m.B < tat y.Log (y.Log.length : Int) ∨ (m.B = tat y.Log (y.Log.length : Int) ∧ m.A < (y.Log.length : Int))) by omega)]; rfl
          · rw [decide_eq_false g, if_neg (by decide), ob_some]
            congr 1
            rw [decide_eq_true (show (m.B < tat y.Log (y.Log.length : Int) ∨ (m.B = tat y.Log (y.Log.length : Int) ∧ m.A < (y.Log.length : Int))) by omega)]; rfl
      obtain ⟨x7, h7, e7⟩ := ob_elim hv2
      rw [h7, ob_some]
      dsimp only [lt]
      rw [some_elim e7]
      have hw1 : w64 (m.From + 1) = m.From + 1 := w64_id (by omega) (by omega)
      have hask : (((decide (m.Term = y.Term)) && ((decide (y.Vote = 0)) || (decide ((w64 (y.Vote - 1)) = m.From)))) && (!decide (m.B < tat y.Log (y.Log.length : Int) ∨ (m.B = tat y.Log (y.Log.length : Int) ∧ m.A < (y.Log.length : Int))))) = decide (askB y m) := by
        have hge : 0 ≤ y.Vote ∨ y.Vote < 0 := by omega
        have hvote : (w64 (y.Vote - 1) = m.From) ↔ y.Vote = m.From + 1 := by
          have hlo := hfit.vlo
          rw [w64_id (by omega) (by omega)]; omega
        rw [Bool.eq_iff_iff, decide_eq_true_iff]
        unfold askB
        simp only [Bool.and_eq_true, Bool.or_eq_true, Bool.not_eq_true', decide_eq_true_eq, decide_eq_false_iff_not, hvote, and_assoc]
      rw [hask, hw1]
      by_cases g : askB y m
      · rw [if_pos (d_t g), ob_some, if_pos g, decide_eq_true g]; rfl
      · rw [if_neg (d_f g), ob_some, if_neg g, decide_eq_false g]; rfl
    · rw [if_neg (d_f k1), if_neg k1]
      by_cases k2 : m.Kind = 2
      · rw [if_pos (d_t k2), if_pos k2]
        unfold take2
        by_cases c1 : y.Role ≠ 1 ∨ m.Term ≠ y.Term ∨ m.Ok = false
        · rw [if_pos c1, if_pos (by
            simp only [Bool.or_eq_true, Bool.not_eq_true', decide_eq_false_iff_not]
            rcases c1 with c1 | c1 | c1
            · exact .inl (.inl c1)
            · exact .inl (.inr c1)
            · exact .inr c1)]
          rfl
        · rw [if_neg c1, if_neg (by
            simp only [Bool.or_eq_true, Bool.not_eq_true', decide_eq_false_iff_not]
            rintro ((c | c) | c)
            · exact c1 (.inl c)
            · exact c1 (.inr (.inl c))
            · exact c1 (.inr (.inr c)))]
          rw [has_eq _ (by omega), ob_some]
          have e : (if (!decide (m.From ∈ y.Votes)) = true then asrt (((y.Votes ++ ([m.From] : List Int)).length : Int) * 8 ≤ 140737488351232) (some (y.Votes ++ ([m.From] : List Int))) else some y.Votes) = some (vts y m) := by
            unfold vts
            by_cases c : m.From ∈ y.Votes
            · rw [if_neg (n_f c), if_pos c]
            · rw [if_pos (n_t c), if_neg c, asrt_pos (by rw [List.length_append, List.length_singleton]; omega)]
          rw [e, ob_some]
          dsimp only [lt]
          rw [maj_eq _ _ hn.1 hn.2]
          by_cases c2 : y.N < 2 * ((vts y m).length : Int)
          · have hle := leader_eq (wv y (vts y m)) hn.1 hn.2 hi.1 hi.2 (show y.Log.length ≤ 1000 by omega) hcm.1 hcm.2
            have hbe := rbeats_eq (leaderN (wv y (vts y m))) hn.1 hn.2 (show y.Log.length ≤ 1000 by omega) (by simp [leaderN, wv]; omega) (by
              intro k hk
              have : k = (y.Log.length : Int) + 1 := by
                have hk' : k ∈ List.replicate y.N.toNat ((y.Log.length : Int) + 1) := hk
                exact (List.mem_replicate.1 hk').2
              subst this
              show 1 ≤ (y.Log.length : Int) + 1 ∧ (y.Log.length : Int) + 1 ≤ (y.Log.length : Int) + 1
              omega)
            have hle' : R_Leader ⟨y.N, y.ID, y.Term, y.Vote, y.Log, y.Role, y.Commit, vts y m, y.Next, y.Have⟩ = _ := hle
            rw [if_pos (d_t c2), if_pos c2, hle', ob_some, hbe, ob_some]; rfl
          · rw [if_neg (d_f c2), if_neg c2]; rfl
      · rw [if_neg (d_f k2), if_neg k2]
        by_cases k3 : m.Kind = 3
        · rw [if_pos (d_t k3), if_pos k3]
          unfold take3
          by_cases c1 : m.Term < y.Term
          · rw [if_pos (d_t c1), if_pos c1]; rfl
          rw [if_neg (d_f c1), if_neg c1]
          by_cases c2 : y.Role = 2
          · rw [if_pos (d_t c2), if_pos c2]; rfl
          have hfo := follower_eq hsm
          have hfo' : R_Follower ⟨y.N, y.ID, y.Term, y.Vote, y.Log, y.Role, y.Commit, y.Votes, y.Next, y.Have⟩ = _ := hfo
          rw [if_neg (d_f c2), if_neg c2, hfo', ob_some]
          dsimp only
          rw [rput_eq, ob_some]
          by_cases c3 : (putS y.Log m.A m.B m.Entries).2.2.Code = 0
          · rw [if_neg (n_f c3), if_neg (not_not_intro c3)]
            by_cases c4 : (putS y.Log m.A m.B m.Entries).2.1 = false
            · have hw : w64 (m.A - 1) = m.A - 1 := w64_id (by omega) (by omega)
              rw [if_pos (by rw [c4]; rfl), if_pos c4, hw]
              by_cases g : m.A - 1 < (y.Log.length : Int)
              · rw [if_pos (d_t g), ob_some]
                dsimp only
                by_cases g2 : m.A - 1 < 0
                · have e : max 0 (min (m.A - 1) (y.Log.length : Int)) = 0 := by omega
                  rw [if_pos (d_t g2), ob_some, e]; rfl
                · have e : max 0 (min (m.A - 1) (y.Log.length : Int)) = m.A - 1 := by omega
                  rw [if_neg (d_f g2), ob_some, e]; rfl
              · rw [if_neg (d_f g), ob_some]
                dsimp only
                have e : max 0 (min (m.A - 1) (y.Log.length : Int)) = (y.Log.length : Int) := by omega
                rw [if_neg (d_f (by omega)), ob_some, e]; rfl
            · have hlo := rput_loop x m ⟨0, 0⟩ y hid2 (putS y.Log m.A m.B m.Entries).1 (putS y.Log m.A m.B m.Entries).2.1 (putS y.Log m.A m.B m.Entries).2.2 hcm (by omega) ha hfit.e
              rw [if_neg (by rw [Bool.not_eq_false] at c4; rw [c4]; decide), if_neg c4]
              refine hlo.trans ?_
              by_cases g : ((putS y.Log m.A m.B m.Entries).1.length : Int) < y.Commit ∨ (putS y.Log m.A m.B m.Entries).1.take y.Commit.toNat ≠ y.Log.take y.Commit.toNat
              · rw [if_pos g, if_pos g]
              · rw [if_neg g, if_neg g]
          · rw [if_pos (n_t c3), if_pos c3]; rfl
        · rw [if_neg (d_f k3), if_neg k3]
          unfold take4
          by_cases c1 : y.Role ≠ 2 ∨ m.Term ≠ y.Term
          · rw [if_pos c1, if_pos (by simp only [Bool.or_eq_true, Bool.not_eq_true', decide_eq_false_iff_not]; exact c1)]; rfl
          · rw [if_neg c1, if_neg (by simp only [Bool.or_eq_true, Bool.not_eq_true', decide_eq_false_iff_not]; exact c1)]
            have hr : y.Role = 2 := by
              by_cases g : y.Role = 2
              · exact g
              · exact absurd (.inl g) c1
            obtain ⟨l1, l2, l3, l4⟩ := hfit.ld hr
            have hh := l4 _ (lget_mem y.Have m.From (by omega))
            have hxx := l3 _ (lget_mem y.Next m.From (by omega))
            by_cases c2 : m.Ok = true
            · have hhl : (hav y m).length = y.Have.length := by unfold hav; rw [lset_len]
              have hg : lget (hav y m) m.From = max (lget y.Have m.From) (min m.A (y.Log.length : Int)) := by
                unfold hav; rw [lget_lset _ _ _ _ (by omega) (by omega), if_pos rfl]
              have hw : w64 (lget (hav y m) m.From + 1) = max (lget y.Have m.From) (min m.A (y.Log.length : Int)) + 1 := by
                rw [hg, w64_id (by omega) (by omega)]
              have e1 : (if (decide ((y.Log.length : Int) < m.A)) = true then some (y.Log.length : Int) else some m.A) = some (min m.A (y.Log.length : Int)) := by
                by_cases g : (y.Log.length : Int) < m.A
                · rw [if_pos (d_t g)]; congr 1; omega
                · rw [if_neg (d_f g)]; congr 1; omega
              have e2 : (if (decide (lget y.Have m.From < min m.A (y.Log.length : Int))) = true then
                    asrt (0 ≤ m.From ∧ m.From < (y.Have.length : Int)) <|
                    asrt (0 ≤ m.From ∧ m.From < (y.Have.length : Int)) <|
                    some (lset y.Have m.From (min m.A (y.Log.length : Int)))
                  else some y.Have) = some (hav y m) := by
                unfold hav
                by_cases g : lget y.Have m.From < min m.A (y.Log.length : Int)
                · have e : max (lget y.Have m.From) (min m.A (y.Log.length : Int)) = min m.A (y.Log.length : Int) := by omega
                  rw [if_pos (d_t g), asrt_pos (by omega), asrt_pos (by omega), e]
                · have e : max (lget y.Have m.From) (min m.A (y.Log.length : Int)) = lget y.Have m.From := by omega
                  rw [if_neg (d_f g), e]
                  obtain ⟨q, hq⟩ : ∃ q : Nat, m.From = (q : Int) := ⟨m.From.toNat, by omega⟩
                  rw [hq, lset_same y.Have q (by omega)]
              rw [if_pos c2, if_pos c2, e1, ob_some, asrt_pos (by omega), asrt_pos (by omega), e2, ob_some, asrt_pos (by omega), asrt_pos (by omega), asrt_pos (by omega), asrt_pos (by omega), hw]
              have hco := counted_eq ⟨y.N, y.ID, y.Term, y.Vote, y.Log, y.Role, y.Commit, y.Votes, lset y.Next m.From (max (lget y.Have m.From) (min m.A (y.Log.length : Int)) + 1), hav y m⟩ hn.1 hn.2 (show y.Log.length ≤ 1000 by omega) (show (hav y m).length ≤ 1000 by omega) hcm.1 hcm.2
              rw [hco, ob_some]; rfl
            · have hw1 : w64 (lget y.Have m.From + 1) = lget y.Have m.From + 1 := w64_id (by omega) (by omega)
              have hw2 : w64 (lget y.Next m.From - 1) = lget y.Next m.From - 1 := w64_id (by omega) (by omega)
              have hw3 : w64 (m.A + 1) = m.A + 1 := w64_id (by omega) (by omega)
              have e1 : (if (decide (m.A + 1 < lget y.Next m.From - 1)) = true then some (m.A + 1) else some (lget y.Next m.From - 1)) = some (min (lget y.Next m.From - 1) (m.A + 1)) := by
                by_cases g : m.A + 1 < lget y.Next m.From - 1
                · rw [if_pos (d_t g)]; congr 1; omega
                · rw [if_neg (d_f g)]; congr 1; omega
              have e2 : (if (decide (min (lget y.Next m.From - 1) (m.A + 1) < lget y.Have m.From + 1)) = true then
                    asrt (0 ≤ m.From ∧ m.From < (y.Have.length : Int)) <|
                    asrt (0 ≤ m.From ∧ m.From < (y.Have.length : Int)) <|
                    some (lget y.Have m.From + 1)
                  else some (min (lget y.Next m.From - 1) (m.A + 1))) = some (max (lget y.Have m.From + 1) (min (lget y.Next m.From - 1) (m.A + 1))) := by
                by_cases g : min (lget y.Next m.From - 1) (m.A + 1) < lget y.Have m.From + 1
                · rw [if_pos (d_t g), asrt_pos (by omega), asrt_pos (by omega)]; congr 1; omega
                · rw [if_neg (d_f g)]; congr 1; omega
              rw [if_neg c2, if_neg c2, asrt_pos (by omega), asrt_pos (by omega), hw1, hw2, hw3, e1, ob_some, asrt_pos (by omega), asrt_pos (by omega), e2, ob_some, asrt_pos (by omega), asrt_pos (by omega)]; rfl
  · rw [if_pos (n_t c), if_neg c]; rfl
end G
end Go.Proofs.Ytcnngkigpfpalaa
/- Every Take is as the document says. -/
namespace Go.Proofs.Ytcnngkigpfpalaa
open Go Go.Dm
set_option linter.unusedVariables false
set_option linter.unusedSimpArgs false
namespace G
theorem small_nE : Small nE := ⟨by simp [nE], by simp [nE], by simp [nE], by simp [nE]⟩
theorem small_leader {x : Node} (h : x.Log.length ≤ 1000) (h7 : x.N ≤ 7) : Small (leaderN x) :=
  ⟨h, by simp [leaderN], by simp [leaderN]; omega, by simp [leaderN]; omega⟩
theorem small_fol {y : Node} (h : y.Log.length ≤ 1000) : Small (fol y) := ⟨h, by simp [fol], by simp [fol], by simp [fol]⟩
theorem bas_small {x : Node} {m : Mail} (hx : Small x) : Small (bas x m) := by
  unfold bas; split
  · exact ⟨hx.l, by show ([] : List Int).length ≤ 1000; simp, by show ([] : List Int).length ≤ 1000; simp, by show ([] : List Int).length ≤ 1000; simp⟩
  · exact hx
theorem takeK_small {y : Node} {m : Mail} (hf : Fit y m) (hs : Small y) : Small (takeK y m).1 := by
  have hl := hf.l
  have hn := hf.n
  have hvo := hf.vo
  have hvl := vts_len y m
  have hwv : Small (wv y (vts y m)) := ⟨hs.l, by show (vts y m).length ≤ 1000; omega, hs.n, hs.h⟩
  unfold takeK
  split
  · exact ⟨hs.l, hs.v, hs.n, hs.h⟩
  · split
    · unfold take2
      split
      · exact hs
      · split
        · exact small_leader (x := wv y (vts y m)) hs.l hn.2
        · exact hwv
    · split
      · unfold take3
        split
        · exact hs
        · split
          · exact hs
          · split
            · exact small_fol hs.l
            · rename_i c3
              have := (putS_len (Classical.not_not.1 c3)).1
              split
              · exact small_fol hs.l
              · split
                · exact small_fol hs.l
                · exact ⟨by show (putS y.Log m.A m.B m.Entries).1.length ≤ 1000; omega, by show ([] : List Int).length ≤ 1000; simp, by show ([] : List Int).length ≤ 1000; simp, by show ([] : List Int).length ≤ 1000; simp⟩
      · have h3 := hs.n
        have h4 := hs.h
        unfold take4
        split
        · exact hs
        · split
          · exact ⟨hs.l, hs.v, by show (lset _ _ _).length ≤ 1000; rw [lset_len]; exact h3, by show (lset _ _ _).length ≤ 1000; rw [lset_len]; exact h4⟩
          · exact ⟨hs.l, hs.v, by show (lset _ _ _).length ≤ 1000; rw [lset_len]; exact h3, h4⟩
theorem takeK_mails {y : Node} {m : Mail} (hf : Fit y m) : (takeK y m).2.length ≤ 7 ∧ ∀ z ∈ (takeK y m).2, z.Entries.length ≤ 1000 := by
  have hl := hf.l
  have hn := hf.n
  have one : ∀ k a o, ([ans y m k a o] : List Mail).length ≤ 7 ∧ ∀ z ∈ ([ans y m k a o] : List Mail), z.Entries.length ≤ 1000 := fun k a o => ⟨by simp, by simp [ans]⟩
  have none_ : ([] : List Mail).length ≤ 7 ∧ ∀ z ∈ ([] : List Mail), z.Entries.length ≤ 1000 := ⟨by simp, by simp⟩
  unfold takeK
  split
  · exact one _ _ _
  · split
    · unfold take2
      split
      · exact none_
      · split
        · have := mls_len y.ID (bringM (leaderN (wv y (vts y m)))) y.N.toNat
          refine ⟨by show (mls _ _ _).length ≤ 7; omega, fun z hz => ?_⟩
          obtain ⟨j, _, _, e⟩ := mls_mem hz
          rw [e]; simp [bringM, leaderN, wv]; omega
        · exact none_
    · split
      · unfold take3
        repeat' split
        all_goals first | exact none_ | exact one _ _ _
      · unfold take4
        repeat' split
        all_goals exact none_
theorem takeS_small {x : Node} {m : Mail} (hs : Small x) : Small (takeS x m).1 := by
  unfold takeS
  split
  · rename_i c
    obtain ⟨hg, hf, _⟩ := takF_zero c
    exact takeK_small (bas_fit hg hf) (bas_small hs)
  · exact small_nE
theorem takeS_mails {x : Node} {m : Mail} : R_SameMails (takeS x m).2.1 (takeS x m).2.1 = some true := by
  unfold takeS
  split
  · rename_i c
    obtain ⟨hg, hf, _⟩ := takF_zero c
    obtain ⟨h1, h2⟩ := takeK_mails (bas_fit hg hf)
    exact smails_self _ (by show (takeK _ _).2.length ≤ _; omega) (fun z hz => by have := h2 z hz; omega)
  · exact smails_self [] (by simp) (by simp)
theorem sameF (f : Fault) : (decide (f.Code = f.Code) && (decide (f.At = f.At) && true)) = true := by simp
theorem vast_small {x : Node} (c : ¬ law_vastNode x = true) : Small x := by
  unfold law_vastNode law_vastLog at c
  dsimp only [lt] at c
  simp only [Bool.or_eq_true, decide_eq_true_eq, not_or] at c
  exact ⟨by omega, by omega, by omega, by omega⟩
theorem copyNode_eq {x : Node} (hs : Small x) : R_CopyNode_v1 x = some x := by
  have h1 := hs.l
  have h2 := hs.v
  have h3 := hs.n
  have h4 := hs.h
  unfold R_CopyNode_v1
  rw [copyLog_eq _ (by omega), ob_some, asrt_pos (by omega), asrt_pos (by omega), asrt_pos (by omega)]
theorem copyLog1_eq (l : List Entry) (h : l.length ≤ 1000000) : R_CopyLog_v1 l = some l := by
  unfold R_CopyLog_v1; rw [asrt_pos (by omega)]
theorem mail_eta (m : Mail) : (⟨m.Kind, m.From, m.To, m.Term, m.A, m.B, m.C0, m.Entries, m.Ok⟩ : Mail) = m := rfl
theorem node_eta (x : Node) : (⟨x.N, x.ID, x.Term, x.Vote, x.Log, x.Role, x.Commit, x.Votes, x.Next, x.Have⟩ : Node) = x := rfl
theorem RaftTakes_eq (x : Node) (m : Mail) : law_RaftTakes x m = some true := by
  unfold law_RaftTakes
  rw [raftBegun_eq, ob_some, if_neg (by decide)]
  dsimp only [lt]
  by_cases c : law_vastNode x = true
  · rw [if_pos (by rw [c]; rfl)]
  · have hs := vast_small c
    by_cases c2 : law_vastLog m.Entries = true
    · rw [if_pos (by rw [c2]; simp)]
    · have hm : m.Entries.length ≤ 300 := by
        unfold law_vastLog at c2
        simp only [decide_eq_true_eq] at c2; omega
      rw [Bool.not_eq_true] at c c2
      rw [if_neg (by rw [c, c2]; decide), copyNode_eq hs, ob_some, copyLog1_eq _ (by omega), ob_some, mail_eta, take_eq hs m (by omega), ob_some, snode_self hs, ob_some, if_pos (by decide), slog_self _ (by omega), ob_some, if_neg (by decide), rtake_eq hs m (by omega), ob_some]
      have e1 : (nt (takeS x m).1 (takeS x m).2.1 (takeS x m).2.2).2.2.2.2.2.2.2.2.2.2.2 = (takeS x m).2.2 := rfl
      have e2 : (nt (takeS x m).1 (takeS x m).2.1 (takeS x m).2.2).2.2.2.2.2.2.2.2.2.2.1 = (takeS x m).2.1 := rfl
      have e3 : (⟨(nt (takeS x m).1 (takeS x m).2.1 (takeS x m).2.2).1, (nt (takeS x m).1 (takeS x m).2.1 (takeS x m).2.2).2.1, (nt (takeS x m).1 (takeS x m).2.1 (takeS x m).2.2).2.2.1, (nt (takeS x m).1 (takeS x m).2.1 (takeS x m).2.2).2.2.2.1, (nt (takeS x m).1 (takeS x m).2.1 (takeS x m).2.2).2.2.2.2.1, (nt (takeS x m).1 (takeS x m).2.1 (takeS x m).2.2).2.2.2.2.2.1, (nt (takeS x m).1 (takeS x m).2.1 (takeS x m).2.2).2.2.2.2.2.2.1, (nt (takeS x m).1 (takeS x m).2.1 (takeS x m).2.2).2.2.2.2.2.2.2.1, (nt (takeS x m).1 (takeS x m).2.1 (takeS x m).2.2).2.2.2.2.2.2.2.2.1, (nt (takeS x m).1 (takeS x m).2.1 (takeS x m).2.2).2.2.2.2.2.2.2.2.2.1⟩ : Node) = (takeS x m).1 := rfl
      rw [e1, e2, e3, sameF, if_pos (by rfl), snode_self (takeS_small hs), ob_some, if_pos (by decide), takeS_mails, ob_some]
      rfl
end G
end Go.Proofs.Ytcnngkigpfpalaa
/- What stays of a node, whatever comes to it. -/
namespace Go.Proofs.Ytcnngkigpfpalaa
open Go Go.Dm
set_option linter.unusedVariables false
set_option linter.unusedSimpArgs false
namespace G
theorem cntD_le (g : Nat → Bool) (c : Nat) : ∀ k, c ≤ cntD g c k ∧ cntD g c k ≤ max c k
  | 0 => by rw [cntD]; omega
  | k + 1 => by
    have := cntD_le g c k
    rw [cntD]
    split
    · omega
    · split
      · omega
      · omega
theorem put_cases (m : List Entry) : ∀ (p : Nat) (l : List Entry), p ≤ l.length → put p l m = l ∨ ∃ q rest, rest ≠ [] ∧ rest <:+ m ∧ put p l m = l.take q ++ rest := by
  induction m with
  | nil => intro p l h; exact .inl rfl
  | cons e m ih =>
    intro p l h
    by_cases c : p < l.length ∧ (lget l (p : Int)).Term = e.Term
    · rw [put, if_pos c]
      rcases ih (p + 1) l (by omega) with h1 | ⟨q, rest, h1, h2, h3⟩
      · exact .inl h1
      · exact .inr ⟨q, rest, h1, h2.trans (List.suffix_cons e m), h3⟩
    · exact .inr ⟨p, e :: m, by simp, List.suffix_refl _, put_not e m p l h c⟩
theorem tat_last (l : List Entry) (h : l ≠ []) : tat l (l.length : Int) = (l.getLast h).Term := by
  have hl : 0 < l.length := List.length_pos_iff.2 h
  unfold tat
  have e : (l.length : Int) - 1 = ((l.length - 1 : Nat) : Int) := by omega
  rw [if_neg (by omega), e, lget_nat _ _ (by omega), List.getLast_eq_getElem]
theorem put_last (m : List Entry) (p : Nat) (l : List Entry) (hp : p ≤ l.length) : tat (put p l m) ((put p l m).length : Int) = tat l (l.length : Int) ∨ tat (put p l m) ((put p l m).length : Int) = tat m (m.length : Int) := by
  rcases put_cases m p l hp with h | ⟨q, rest, h1, h2, h3⟩
  · left; rw [h]
  · right
    obtain ⟨pre, hpre⟩ := h2
    have hm : m ≠ [] := by rw [← hpre]; simp [h1]
    have e1 : put p l m ≠ [] := by rw [h3]; simp [h1]
    rw [tat_last _ e1, tat_last _ hm]
    congr 1
    have a1 : (put p l m).getLast e1 = rest.getLast h1 := by
      have : ∀ (z : List Entry) (hz : z ≠ []), z = l.take q ++ rest → z.getLast hz = rest.getLast h1 := by
        intro z hz e; subst e; exact List.getLast_append_of_ne_nil _ h1
      exact this _ _ h3
    have a2 : m.getLast hm = rest.getLast h1 := by
      have : ∀ (z : List Entry) (hz : z ≠ []), z = pre ++ rest → z.getLast hz = rest.getLast h1 := by
        intro z hz e; subst e; exact List.getLast_append_of_ne_nil _ h1
      exact this _ _ hpre.symm
    rw [a1, a2]
theorem form0 (y : Node) (hr : y.Role = 0) (h1 : y.Votes = []) (h2 : y.Next = []) (h3 : y.Have = []) : formB y = true := by
  unfold formB; simp [hr, h1, h2, h3]
theorem bas_good {x : Node} {m : Mail} (hg : NGood x) (hf : finM x m) : NGood (bas x m) ∧ m.Term ≤ (bas x m).Term := by
  obtain ⟨_, _, _, _, f5, _⟩ := hf
  unfold bas
  by_cases c : x.Term < m.Term
  · rw [if_pos c]
    have h1 := hg.last
    refine ⟨⟨hg.n1, hg.n7, hg.i0, hg.iN, by show 0 ≤ m.Term; omega, by show m.Term ≤ 1000000000; omega, by show (0 : Int) ≤ 0; omega, by show 0 ≤ x.N; have := hg.n1; omega, by show (0 : Int) ≤ 0; omega, by show (0 : Int) ≤ 2; omega, hg.c0, hg.cl, hg.log, ?_, form0 _ rfl rfl rfl rfl⟩, Int.le_refl _⟩
    show ¬ m.Term < tat x.Log (x.Log.length : Int)
    omega
  · rw [if_neg c]; exact ⟨hg, by omega⟩
theorem fol_good {y : Node} (hg : NGood y) : NGood (fol y) := ⟨hg.n1, hg.n7, hg.i0, hg.iN, hg.t0, hg.t1, hg.v0, hg.vN, by show (0 : Int) ≤ 0; omega, by show (0 : Int) ≤ 2; omega, hg.c0, hg.cl, hg.log, hg.last, form0 _ rfl rfl rfl rfl⟩
theorem mem_lset {α : Type} {l : List α} {n : Int} {x y : α} (h : y ∈ lset l n x) : y ∈ l ∨ y = x := by
  unfold lset at h; exact List.mem_or_eq_of_mem_set h
theorem form2 (y : Node) (hr : y.Role = 2) (h0 : y.Votes = []) (h1 : (y.Next.length : Int) = y.N) (h2 : (y.Have.length : Int) = y.N) (h3 : ∀ k ∈ y.Next, 1 ≤ k ∧ k ≤ (y.Log.length : Int) + 1) (h4 : ∀ k ∈ y.Have, 0 ≤ k ∧ k ≤ (y.Log.length : Int)) : formB y = true := by
  unfold formB
  rw [if_pos hr, if_neg (by omega)]
  simp only [Bool.and_eq_true, decide_eq_true_eq, List.all_eq_true, inW_iff]
  exact ⟨by rw [h0]; rfl, ⟨⟨h1, h2⟩, h3⟩, h4⟩
theorem lead_good {y : Node} (hg : NGood y) (v : List Int) : NGood (leaderN (wv y v)) := by
  have h1 := hg.n1
  have h2 := hg.i0
  have h3 := hg.iN
  have hc := cntD_le (gd y.N y.Term y.Log ((List.replicate y.N.toNat (0 : Int)).set y.ID.toNat (y.Log.length : Int))) y.Commit.toNat y.Log.length
  have h4 := hg.c0
  have h5 := hg.cl
  refine ⟨hg.n1, hg.n7, hg.i0, hg.iN, hg.t0, hg.t1, hg.v0, hg.vN, by show (0 : Int) ≤ 2; omega, by show (2 : Int) ≤ 2; omega, ?_, ?_, hg.log, hg.last, form2 _ rfl rfl ?_ ?_ ?_ ?_⟩
  · show (0 : Int) ≤ ((cntD _ _ _ : Nat) : Int); omega
  · show ((cntD _ _ _ : Nat) : Int) ≤ (y.Log.length : Int)
    have hc' : cntD (gd y.N y.Term y.Log ((List.replicate y.N.toNat (0 : Int)).set y.ID.toNat (y.Log.length : Int))) y.Commit.toNat y.Log.length ≤ y.Log.length := by omega
    exact Int.ofNat_le.2 hc'
  · show ((List.replicate y.N.toNat _).length : Int) = y.N; rw [List.length_replicate]; omega
  · show (((List.replicate y.N.toNat (0 : Int)).set _ _).length : Int) = y.N; rw [List.length_set, List.length_replicate]; omega
  · intro k hk
    have hk' : k ∈ List.replicate y.N.toNat ((y.Log.length : Int) + 1) := hk
    have := (List.mem_replicate.1 hk').2
    subst this
    show 1 ≤ (y.Log.length : Int) + 1 ∧ (y.Log.length : Int) + 1 ≤ (y.Log.length : Int) + 1
    omega
  · intro k hk
    have hk' : k ∈ (List.replicate y.N.toNat (0 : Int)).set y.ID.toNat (y.Log.length : Int) := hk
    show 0 ≤ k ∧ k ≤ (y.Log.length : Int)
    rcases List.mem_or_eq_of_mem_set hk' with g | g
    · have := (List.mem_replicate.1 g).2
      omega
    · omega
theorem putS_ok {l : List Entry} {p t : Int} {more : List Entry} (h : (putS l p t more).2.2.Code = 0) (ho : (putS l p t more).2.1 = true) : 0 ≤ p ∧ p ≤ (l.length : Int) ∧ (putS l p t more).1 = put p.toNat l more ∧ (fof (put p.toNat l more)).Code = 0 := by
  unfold putS at h ho ⊢
  by_cases c : (putF l p t more).Code = 0
  · obtain ⟨h1, h2, h3, h4, _⟩ := putF_good c
    rw [if_pos c] at h ho ⊢
    by_cases f : fits l p t
    · rw [if_pos f] at h ho ⊢
      by_cases g : (fof (put p.toNat l more)).Code = 0
      · rw [if_pos g]; exact ⟨h4, f.1, rfl, g⟩
      · rw [if_neg g] at h; exact absurd h g
    · rw [if_neg f] at ho; cases ho
  · rw [if_neg c] at h; exact absurd h c
/-- what a Take keeps -/
structure Keeps (y z : Node) (ms : List Mail) : Prop where
  g : NGood z
  i : z.ID = y.ID
  n : z.N = y.N
  t : z.Term = y.Term
  v : y.Vote ≠ 0 → z.Vote = y.Vote
  c : y.Commit ≤ z.Commit
  l : z.Log.take y.Commit.toNat = y.Log.take y.Commit.toNat
  m : ∀ w ∈ ms, w.From = y.ID ∧ w.To ≠ y.ID ∧ (0 ≤ w.To ∧ w.To < y.N) ∧ w.Term = y.Term
theorem takeK_keeps {y : Node} {m : Mail} (hg : NGood y) (hf : Fit y m) (ht : m.Term ≤ y.Term) (hfr : m.From ≠ y.ID) (hc0 : 0 ≤ m.C0 ∧ m.C0 ≤ 1000000000) (hlast : tat m.Entries (m.Entries.length : Int) ≤ m.Term) : Keeps y (takeK y m).1 (takeK y m).2 := by
  have hff := hf.f
  have hcm := hf.c
  have han : ∀ k a o, ∀ w ∈ ([ans y m k a o] : List Mail), w.From = y.ID ∧ w.To ≠ y.ID ∧ (0 ≤ w.To ∧ w.To < y.N) ∧ w.Term = y.Term := by
    intro k a o w hw
    rw [List.mem_singleton] at hw
    subst hw
    exact ⟨rfl, hfr, hff, rfl⟩
  have hno : ∀ w ∈ ([] : List Mail), w.From = y.ID ∧ w.To ≠ y.ID ∧ (0 ≤ w.To ∧ w.To < y.N) ∧ w.Term = y.Term := by simp
  have hself : ∀ ms, (∀ w ∈ ms, w.From = y.ID ∧ w.To ≠ y.ID ∧ (0 ≤ w.To ∧ w.To < y.N) ∧ w.Term = y.Term) → Keeps y y ms := fun ms h => ⟨hg, rfl, rfl, rfl, fun _ => rfl, Int.le_refl _, rfl, h⟩
  have hfol : ∀ ms, (∀ w ∈ ms, w.From = y.ID ∧ w.To ≠ y.ID ∧ (0 ≤ w.To ∧ w.To < y.N) ∧ w.Term = y.Term) → Keeps y (fol y) ms := fun ms h => ⟨fol_good hg, rfl, rfl, rfl, fun _ => rfl, Int.le_refl _, rfl, h⟩
  unfold takeK
  split
  · unfold take1
    have hN := hg.n1
    refine ⟨⟨hg.n1, hg.n7, hg.i0, hg.iN, hg.t0, hg.t1, ?_, ?_, hg.r0, hg.r2, hg.c0, hg.cl, hg.log, hg.last, hg.form⟩, rfl, rfl, rfl, ?_, Int.le_refl _, rfl, han _ _ _⟩
    · show 0 ≤ (if askB y m then m.From + 1 else y.Vote); split
      · omega
      · exact hg.v0
    · show (if askB y m then m.From + 1 else y.Vote) ≤ y.N; split
      · omega
      · exact hg.vN
    · intro hv
      show (if askB y m then m.From + 1 else y.Vote) = y.Vote
      split
      · rename_i ha
        rcases ha.2.1 with g | g
        · exact absurd g hv
        · exact g.symm
      · rfl
  · split
    · unfold take2
      split
      · exact hself _ hno
      · rename_i c1
        have hr : y.Role = 1 := Classical.not_not.1 (fun g => c1 (.inl g))
        split
        · refine ⟨lead_good hg _, rfl, rfl, rfl, fun _ => rfl, ?_, rfl, ?_⟩
          · show y.Commit ≤ ((cntD _ _ _ : Nat) : Int)
            have := (cntD_le (gd y.N y.Term y.Log ((List.replicate y.N.toNat (0 : Int)).set y.ID.toNat (y.Log.length : Int))) y.Commit.toNat y.Log.length).1
            have h2 : ((y.Commit.toNat : Nat) : Int) ≤ ((cntD (gd y.N y.Term y.Log ((List.replicate y.N.toNat (0 : Int)).set y.ID.toNat (y.Log.length : Int))) y.Commit.toNat y.Log.length : Nat) : Int) := Int.ofNat_le.2 this
            have h3 : ((y.Commit.toNat : Nat) : Int) = y.Commit := by omega
            rw [h3] at h2; exact h2
          · intro w hw
            obtain ⟨j, h1, h2, e⟩ := mls_mem hw
            subst e
            refine ⟨rfl, h2, ⟨by show (0 : Int) ≤ (j : Int); omega, by show (j : Int) < y.N; omega⟩, rfl⟩
        · rename_i c2
          have hfo := hg.form
          unfold formB at hfo
          rw [if_pos hr, if_neg (by omega)] at hfo
          simp only [Bool.and_eq_true, decide_eq_true_eq] at hfo
          obtain ⟨⟨⟨hv1, hv2⟩, hv3⟩, hv4, hv5⟩ := hfo
          refine ⟨⟨hg.n1, hg.n7, hg.i0, hg.iN, hg.t0, hg.t1, hg.v0, hg.vN, hg.r0, hg.r2, hg.c0, hg.cl, hg.log, hg.last, ?_⟩, rfl, rfl, rfl, fun _ => rfl, Int.le_refl _, rfl, hno⟩
          have hvb : voteB y = true := hv1
          unfold voteB at hvb
          have hvb := of_decide_eq_true hvb
          have hnew : (∀ v ∈ vts y m, inW 0 (y.N - 1) v = true) ∧ (vts y m).Nodup := by
            unfold vts
            split
            · exact hvb
            · rename_i hn
              refine ⟨fun v hv => ?_, nodup_snoc.2 ⟨hvb.2, hn⟩⟩
              rcases List.mem_append.1 hv with g | g
              · exact hvb.1 v g
              · rw [List.mem_singleton] at g; subst g; exact inW_iff.2 (by omega)
          have hidm : y.ID ∈ vts y m := by
            unfold vts; split
            · exact hv2
            · exact List.mem_append_left _ hv2
          unfold formB
          have e1 : (wv y (vts y m)).Role = 1 := hr
          rw [if_pos e1, if_neg (show ¬ (wv y (vts y m)).Role = 2 by rw [e1]; omega)]
          have e2 : voteB (wv y (vts y m)) = true := by unfold voteB; exact decide_eq_true hnew
          simp only [Bool.and_eq_true, decide_eq_true_eq]
          refine ⟨⟨⟨e2, hidm⟩, ?_⟩, hv4, hv5⟩
          simp only [Bool.not_eq_true', decide_eq_false_iff_not]; exact c2
    · split
      · unfold take3
        split
        · exact hself _ (han _ _ _)
        · rename_i c1
          split
          · exact hself _ hno
          · split
            · exact hfol _ hno
            · rename_i c3
              have c3 := Classical.not_not.1 c3
              split
              · exact hfol _ (han _ _ _)
              · rename_i c4
                rw [Bool.not_eq_false] at c4
                obtain ⟨p0, p1, p2, p3⟩ := putS_ok c3 c4
                split
                · exact hfol _ hno
                · rename_i c5
                  have d1 : ¬ ((putS y.Log m.A m.B m.Entries).1.length : Int) < y.Commit := fun g => c5 (.inl g)
                  have d2 : (putS y.Log m.A m.B m.Entries).1.take y.Commit.toNat = y.Log.take y.Commit.toNat := Classical.not_not.1 (fun g => c5 (.inr g))
                  rw [p2] at d1 d2 ⊢
                  have hpl := (put_len m.Entries m.A.toNat y.Log (by omega)).1
                  refine ⟨⟨hg.n1, hg.n7, hg.i0, hg.iN, hg.t0, hg.t1, hg.v0, hg.vN, by show (0 : Int) ≤ 0; omega, by show (0 : Int) ≤ 2; omega, ?_, ?_, p3, ?_, form0 _ rfl rfl rfl rfl⟩, rfl, rfl, rfl, fun _ => rfl, ?_, d2, han _ _ _⟩
                  · show 0 ≤ max _ _; omega
                  · show max y.Commit (min m.C0 (m.A + (m.Entries.length : Int))) ≤ ((put m.A.toNat y.Log m.Entries).length : Int); omega
                  · show ¬ y.Term < tat (put m.A.toNat y.Log m.Entries) ((put m.A.toNat y.Log m.Entries).length : Int)
                    have h1 := hg.last
                    rcases put_last m.Entries m.A.toNat y.Log (by omega) with g | g
                    · rw [g]; exact h1
                    · rw [g]; omega
                  · show y.Commit ≤ max _ _; omega
      · unfold take4
        split
        · exact hself _ hno
        · rename_i c1
          have hr : y.Role = 2 := Classical.not_not.1 (fun g => c1 (.inl g))
          obtain ⟨l1, l2, l3, l4, l5⟩ := hg.lead hr
          have hh := l4 _ (lget_mem y.Have m.From (by omega))
          have hx := l3 _ (lget_mem y.Next m.From (by omega))
          have ha := hf.a
          split
          · have hc := cntD_le (gd y.N y.Term y.Log (hav y m)) y.Commit.toNat y.Log.length
            have hhl : (hav y m).length = y.Have.length := by unfold hav; rw [lset_len]
            refine ⟨⟨hg.n1, hg.n7, hg.i0, hg.iN, hg.t0, hg.t1, hg.v0, hg.vN, hg.r0, hg.r2, ?_, ?_, hg.log, hg.last, form2 _ hr l5 ?_ ?_ ?_ ?_⟩, rfl, rfl, rfl, fun _ => rfl, ?_, rfl, hno⟩
            · show (0 : Int) ≤ ((cntD _ _ _ : Nat) : Int); omega
            · show ((cntD (gd y.N y.Term y.Log (hav y m)) y.Commit.toNat y.Log.length : Nat) : Int) ≤ (y.Log.length : Int); omega
            · show ((lset _ _ _).length : Int) = y.N; rw [lset_len]; exact l1
            · show ((hav y m).length : Int) = y.N; omega
            · intro k hk
              show 1 ≤ k ∧ k ≤ (y.Log.length : Int) + 1
              rcases mem_lset hk with g | g
              · exact l3 k g
              · omega
            · intro k hk
              show 0 ≤ k ∧ k ≤ (y.Log.length : Int)
              have hk' : k ∈ hav y m := hk
              unfold hav at hk'
              rcases mem_lset hk' with g | g
              · exact l4 k g
              · omega
            · show y.Commit ≤ ((cntD (gd y.N y.Term y.Log (hav y m)) y.Commit.toNat y.Log.length : Nat) : Int); omega
          · refine ⟨⟨hg.n1, hg.n7, hg.i0, hg.iN, hg.t0, hg.t1, hg.v0, hg.vN, hg.r0, hg.r2, hg.c0, hg.cl, hg.log, hg.last, form2 _ hr l5 ?_ l2 ?_ l4⟩, rfl, rfl, rfl, fun _ => rfl, Int.le_refl _, rfl, hno⟩
            · show ((lset _ _ _).length : Int) = y.N; rw [lset_len]; exact l1
            · intro k hk
              show 1 ≤ k ∧ k ≤ (y.Log.length : Int) + 1
              rcases mem_lset hk with g | g
              · exact l3 k g
              · omega
theorem stays_mails (v1 : Node × Int) (x5 : Node × List Mail × Fault) (hl : x5.2.1.length ≤ 1000) (h : ∀ w ∈ x5.2.1, w.From = v1.1.ID ∧ w.To ≠ v1.1.ID ∧ (0 ≤ w.To ∧ w.To < v1.1.N) ∧ w.Term = x5.1.Term) : law_RaftStays_L2 v1 x5 0 = some (.inl (x5.1, w64 (v1.2 + 1))) := by
  refine loop_run (step := fun y => law_RaftStays_B2 v1 x5 y) x5.2.1.length (fun k => (k : Int)) (fun k hk => ?_) ?_
  · have hw : w64 ((k : Int) + 1) = ((k + 1 : Nat) : Int) := by rw [w64_id (by omega) (by omega)]; omega
    obtain ⟨h1, h2, h3, h4⟩ := h _ (lget_mem x5.2.1 (k : Int) (by omega))
    show law_RaftStays_B2 v1 x5 (k : Int) = _
    unfold law_RaftStays_B2
    rw [if_pos (d_t (by omega)), asrt_pos (by omega), asrt_pos (fun _ => by omega), asrt_pos (fun _ => by omega), asrt_pos (fun _ => by omega), asrt_pos (fun _ => by omega), if_neg, hw]
    simp only [Bool.or_eq_true, Bool.not_eq_true', decide_eq_false_iff_not, decide_eq_true_eq]
    omega
  · show law_RaftStays_B2 v1 x5 (x5.2.1.length : Int) = _
    unfold law_RaftStays_B2
    rw [if_neg (d_f (by omega))]; rfl
theorem stays_L1 (mails : List Mail) (hl : mails.length ≤ 1000) : ∀ (r k : Nat) (x : Node), mails.length - k = r → k ≤ mails.length → NGood x → Small x → law_RaftStays_L1 mails (x, (k : Int)) = some true
  | 0, k, x, e, hk, hg, hs => by
    refine loopO_inr ?_
    unfold law_RaftStays_B1
    rw [if_neg (d_f (by dsimp only; omega))]; rfl
  | r + 1, k, x, e, hk, hg, hs => by
    have hw : w64 ((k : Int) + 1) = ((k + 1 : Nat) : Int) := by rw [w64_id (by omega) (by omega)]; omega
    by_cases c : law_vastLog (lget mails (k : Int)).Entries = true
    · refine loopO_inr ?_
      unfold law_RaftStays_B1
      dsimp only [lt]
      rw [if_pos (d_t (by omega)), asrt_pos (by omega), if_pos c]
    · have hm : (lget mails (k : Int)).Entries.length ≤ 300 := by
        unfold law_vastLog at c
        simp only [decide_eq_true_eq] at c; omega
      have hB : ∀ z, law_RaftStays_B1 mails (x, (k : Int)) = some (.inl (z, ((k + 1 : Nat) : Int))) → NGood z → Small z → law_RaftStays_L1 mails (x, (k : Int)) = some true := fun z h1 h2 h3 => (loopO_inl h1).trans (stays_L1 mails hl r (k + 1) z (by omega) (by omega) h2 h3)
      generalize hmm : lget mails (k : Int) = m at *
      by_cases ct : (takF x m).Code = 0
      · obtain ⟨hg1, hf, hz⟩ := takF_zero ct
        obtain ⟨hbg, hbt⟩ := bas_good hg hf
        have hfit := bas_fit hg hf
        have hbi : (bas x m).ID = x.ID := by unfold bas; split <;> rfl
        have hbn : (bas x m).N = x.N := by unfold bas; split <;> rfl
        have hbc : (bas x m).Commit = x.Commit := by unfold bas; split <;> rfl
        have hbl : (bas x m).Log = x.Log := by unfold bas; split <;> rfl
        have hbT : x.Term ≤ (bas x m).Term := by
          unfold bas; split
          · show x.Term ≤ m.Term; omega
          · exact Int.le_refl _
        have hbV : (bas x m).Term = x.Term → (bas x m).Vote = x.Vote := by
          unfold bas; split
          · intro g; have : m.Term = x.Term := g; omega
          · intro _; rfl
        have hK := takeK_keeps hbg hfit hbt (by rw [hbi]; exact hf.2.2.1) hf.2.2.2.2.2.2.2.1 hf.2.2.2.2.2.2.2.2.2.2.2
        have hsm := takeK_small hfit (bas_small (m := m) hs)
        have hml := (takeK_mails hfit).1
        have hS : takeS x m = ((takeK (bas x m) m).1, (takeK (bas x m) m).2, ⟨0, 0⟩) := by unfold takeS; rw [if_pos ct]
        obtain ⟨kg, ki, kn, kt, kv, kc, kl, km⟩ := hK
        rw [hbi] at ki
        rw [hbn] at kn
        rw [hbc] at kc kl
        rw [hbl] at kl
        refine hB (takeK (bas x m) m).1 ?_ kg hsm
        unfold law_RaftStays_B1
        dsimp only [lt]
        rw [if_pos (d_t (by omega)), asrt_pos (by omega), hmm, if_neg c, asrt_pos (by omega), mail_eta, take_eq hs m (by omega), ob_some, hS, if_neg (n_f (by rfl))]
        dsimp only
        rw [hsm.check, ob_some, nodeF_zero kg]
        have hcl := hg.cl
        have hc0 := hg.c0
        have hzl := kg.cl
        have hbad : ((((((((!decide ((0 : Int) = 0)) || (!decide ((takeK (bas x m) m).1.ID = x.ID))) || (!decide ((takeK (bas x m) m).1.N = x.N))) || (decide ((takeK (bas x m) m).1.Term < x.Term))) || (((decide ((takeK (bas x m) m).1.Term = x.Term)) && (!decide (x.Vote = 0))) && (!decide ((takeK (bas x m) m).1.Vote = x.Vote)))) || (decide ((takeK (bas x m) m).1.Commit < x.Commit))) || (decide (((takeK (bas x m) m).1.Log.length : Int) < (takeK (bas x m) m).1.Commit))) || (decide ((x.Log.length : Int) < x.Commit))) = false := by
          rw [Bool.eq_false_iff]
          intro g
          simp only [Bool.or_eq_true, Bool.and_eq_true, Bool.not_eq_true', decide_eq_false_iff_not, decide_eq_true_eq] at g
          rcases g with ((((((g | g) | g) | g) | g) | g) | g) | g
          · exact g trivial
          · exact g ki
          · exact g kn
          · omega
          · obtain ⟨⟨g1, g2⟩, g3⟩ := g
            have hv := hbV (by omega)
            exact g3 ((kv (by rw [hv]; exact g2)).trans hv)
          · omega
          · omega
          · omega
        have e1 : ltake (takeK (bas x m) m).1.Log x.Commit = (takeK (bas x m) m).1.Log.take x.Commit.toNat := rfl
        have e2 : ltake x.Log x.Commit = x.Log.take x.Commit.toNat := rfl
        rw [hbad, asrt_pos (fun _ => by omega), asrt_pos (fun _ => by omega), if_pos (by decide), e1, e2, kl, slog_self _ (by rw [List.length_take]; have := hs.l; omega), ob_some, if_neg (by decide)]
        rw [stays_mails (x, (k : Int)) ((takeK (bas x m) m).1, (takeK (bas x m) m).2, ⟨0, 0⟩) (by dsimp only; omega) (fun w hw => by
          obtain ⟨a1, a2, a3, a4⟩ := km w hw
          dsimp only
          rw [hbi] at a1 a2
          rw [hbn] at a3
          exact ⟨a1, a2, a3, by rw [a4, kt]⟩), hw]
      · have hS : takeS x m = (nE, [], takF x m) := by unfold takeS; rw [if_neg ct]
        refine hB x ?_ hg hs
        unfold law_RaftStays_B1
        dsimp only [lt]
        rw [if_pos (d_t (by omega)), asrt_pos (by omega), hmm, if_neg c, asrt_pos (by omega), mail_eta, take_eq hs m (by omega), ob_some, hS, if_pos (n_t ct)]
        unfold law_RaftStays_J2
        rw [hw]
theorem RaftStays_eq (x : Node) (mails : List Mail) : law_RaftStays x mails = some true := by
  unfold law_RaftStays
  rw [raftBegun_eq, ob_some, if_neg (by decide)]
  dsimp only [lt]
  by_cases c : law_vastNode x = true
  · rw [c, Bool.true_or, if_neg (by decide), ob_some, Bool.true_or, if_pos rfl]
  · have hs := vast_small c
    rw [Bool.not_eq_true] at c
    rw [c, Bool.false_or]
    by_cases c2 : 200 < (mails.length : Int)
    · rw [decide_eq_true c2, if_neg (by decide), ob_some, Bool.true_or, if_pos rfl]
    · rw [decide_eq_false c2, if_pos (by decide), hs.rcheck, ob_some, Bool.false_or]
      by_cases g : (nodeF x).Code = 0
      · rw [if_neg (n_f g)]
        exact stays_L1 mails (by omega) mails.length 0 x (by omega) (by omega) (nodeF_good.1 g) hs
      · rw [if_pos (n_t g)]
end G
end Go.Proofs.Ytcnngkigpfpalaa
