/- Logs: entries are put; as the program has it (NEW=1; PPutN without the document). From PEntryB and PEntryDoes. -/
import Derived.Test.YtcnngkigpfpalaaPEntryN
namespace Go.Proofs.Ytcnngkigpfpalaa
open Go Go.Dm
set_option linter.unusedVariables false
set_option linter.unusedSimpArgs false
namespace G
def two (a b : List Entry) : Fault := if (fof a).Code = 0 then (if (fof b).Code = 0 then fof b else ⟨(fof b).Code, w64 ((fof b).At - 1000)⟩) else fof a
theorem two_eq (a b : List Entry) : entry_two a b = some (two a b) := by
  unfold entry_two two
  simp only [echeck_eq, ob_some]
  by_cases ca : (fof a).Code = 0
  · by_cases cb : (fof b).Code = 0
    · simp [ca, cb, ob_some]
    · simp [ca, cb, ob_some]
  · simp [ca, ob_some]
theorem two_good {a b : List Entry} (h : (two a b).Code = 0) : two a b = ⟨0, 0⟩ ∧ (fof a).Code = 0 ∧ (fof b).Code = 0 := by
  unfold two at *
  by_cases ca : (fof a).Code = 0
  · rw [if_pos ca] at h ⊢
    by_cases cb : (fof b).Code = 0
    · rw [if_pos cb]; exact ⟨(fof_good cb).2.1, ca, cb⟩
    · rw [if_neg cb] at h; exact absurd h cb
  · rw [if_neg ca] at h; exact absurd h ca
def fits (l : List Entry) (p t : Int) : Prop := p ≤ l.length ∧ tat l p = t
instance (l : List Entry) (p t : Int) : Decidable (fits l p t) := by unfold fits; infer_instance
theorem fits_eq (l : List Entry) (hl : l.length ≤ 1000000) (p t : Int) : entry_Fits l p t = some (decide (fits l p t)) := by
  unfold entry_Fits fits
  rw [tat_eq l hl]
  by_cases c : p ≤ l.length
  · simp [c, ob_some]
  · simp [c, ob_some]
/-- entries put behind a place -/
def put : Nat → List Entry → List Entry → List Entry
  | _, l, [] => l
  | p, l, e :: m => if p < l.length ∧ (lget l (p : Int)).Term = e.Term then put (p + 1) l m else put (p + 1) (l.take p ++ [e]) m
theorem put_end (v : List Entry) : entry_Put_J1 v = some (if (fof v).Code = 0 then (v, true, fof v) else ([], false, ⟨(fof v).Code, -1⟩)) := by
  unfold entry_Put_J1
  simp only [echeck_eq, ob_some]
  by_cases c : (fof v).Code = 0 <;> simp [c, lt, entry_fault]
theorem put_loop (p : Nat) (more : List Entry) (hp : p ≤ 100000) (hm : more.length ≤ 100000) : ∀ (m k : Nat) (l : List Entry), more.length - k = m → k ≤ more.length → p + k ≤ l.length → l.length ≤ 1000000 →
    entry_Put_L1 (p : Int) more (l, (k : Int)) = entry_Put_J1 (put (p + k) l (more.drop k))
  | 0, k, l, e, hk, hl, hb => by
    have : k = more.length := by omega
    subst this
    rw [put_end]
    refine loopO_inr ?_
    simp only [entry_Put_B1]
    rw [if_neg (d_f (by omega))]
    simp only [put_end, inrO, List.drop_length, put]
  | m + 1, k, l, e, hk, hl, hb => by
    have hlt : k < more.length := by omega
    have hw : w64 ((k : Int) + 1) = ((k + 1 : Nat) : Int) := by rw [w64_id (by omega) (by omega)]; omega
    have hw2 : w64 ((p : Int) + (k : Int)) = ((p + k : Nat) : Int) := by rw [w64_id (by omega) (by omega)]; omega
    have hmin : min ((p + k : Nat) : Int) (l.length : Int) = ((p + k : Nat) : Int) := by omega
    have h0 : (0 : Int) ≤ (k : Int) ∧ (k : Int) < (more.length : Int) := by omega
    have h1 : (k : Int) < (more.length : Int) := by omega
    rw [lget_drop more k hlt, put]
    by_cases c : p + k < l.length ∧ (lget l ((p + k : Nat) : Int)).Term = (lget more (k : Int)).Term
    · rw [if_pos c]
      refine (loopO_inl (y := (l, ((k + 1 : Nat) : Int))) ?_).trans (put_loop p more hp hm m (k + 1) l (by omega) (by omega) (by omega) hb)
      have c1 : (((p + k : Nat) : Int) < (l.length : Int)) := by omega
      simp only [entry_Put_B1, hw2]
      rw [if_pos (d_t h1), asrt_pos h0, asrt_pos (fun _ => by omega), asrt_pos (fun _ => by omega), if_pos (by simp only [Bool.and_eq_true, decide_eq_true_eq]; exact ⟨c1, c.2⟩)]
      simp only [ob_some, hw]
    · rw [if_neg c]
      have hlen : (l.take (p + k) ++ [lget more (k : Int)]).length = p + k + 1 := by simp; omega
      refine (loopO_inl (y := (l.take (p + k) ++ [lget more (k : Int)], ((k + 1 : Nat) : Int))) ?_).trans (put_loop p more hp hm m (k + 1) _ (by omega) (by omega) (by omega) (by omega))
      simp only [entry_Put_B1, hw2, hmin]
      have hc : ¬ ((decide (((p + k : Nat) : Int) < (l.length : Int))) && decide ((lget l ((p + k : Nat) : Int)).Term = (lget more (k : Int)).Term)) = true := by
        simp only [Bool.and_eq_true, decide_eq_true_eq]
        intro ⟨a, b⟩; exact c ⟨by omega, b⟩
      rw [if_pos (d_t h1), asrt_pos h0, asrt_pos (fun h => by simp at h; omega), asrt_pos (fun h => by simp at h; omega), if_neg hc, asrt_pos (by omega)]
      have e1 : (((p + k : Nat) : Int)).toNat = p + k := by omega
      rw [e1]
      have e2 : (⟨(lget more (k : Int)).Term, (lget more (k : Int)).Text⟩ : Entry) = lget more (k : Int) := rfl
      rw [e2, asrt_pos (by rw [hlen]; omega), asrt_pos (by omega)]
      simp only [lt, ob_some, hw]
noncomputable def putF (l : List Entry) (p t : Int) (more : List Entry) : Fault := if (two l more).Code = 0 then entry_ranged p t else two l more
noncomputable def putS (l : List Entry) (p t : Int) (more : List Entry) : List Entry × Bool × Fault :=
  if (putF l p t more).Code = 0 then
    if fits l p t then
      if (fof (put p.toNat l more)).Code = 0 then (put p.toNat l more, true, fof (put p.toNat l more)) else ([], false, ⟨(fof (put p.toNat l more)).Code, -1⟩)
    else (l, false, putF l p t more)
  else ([], false, putF l p t more)
theorem ranged_eq (p t : Int) : entry_ranged p t = if p < 0 ∨ 1000000000 < p then ⟨3, -1⟩ else if t < 0 ∨ 1000000000 < t then ⟨3, -2⟩ else ⟨0, 0⟩ := by
  unfold entry_ranged entry_number lt entry_fault
  by_cases c1 : p < 0 ∨ 1000000000 < p
  · have : (decide (0 ≤ p) && decide (p ≤ 1000000000)) = false := by simp; omega
    rw [if_pos c1]; simp [this]
  · have h1 : (decide (0 ≤ p) && decide (p ≤ 1000000000)) = true := by simp; omega
    rw [if_neg c1]
    by_cases c2 : t < 0 ∨ 1000000000 < t
    · have : (decide (0 ≤ t) && decide (t ≤ 1000000000)) = false := by simp; omega
      rw [if_pos c2]; simp [h1, this]
    · have : (decide (0 ≤ t) && decide (t ≤ 1000000000)) = true := by simp; omega
      rw [if_neg c2]; simp [h1, this]
theorem ranged_good {p t : Int} (h : (entry_ranged p t).Code = 0) : entry_ranged p t = ⟨0, 0⟩ ∧ 0 ≤ p ∧ p ≤ 1000000000 ∧ 0 ≤ t ∧ t ≤ 1000000000 := by
  rw [ranged_eq] at *
  by_cases c1 : p < 0 ∨ 1000000000 < p
  · rw [if_pos c1] at h; cases h
  · by_cases c2 : t < 0 ∨ 1000000000 < t
    · rw [if_neg c1, if_pos c2] at h; cases h
    · rw [if_neg c1, if_neg c2]; exact ⟨rfl, by omega⟩
theorem putF_good {l : List Entry} {p t : Int} {more : List Entry} (h : (putF l p t more).Code = 0) : putF l p t more = ⟨0, 0⟩ ∧ (fof l).Code = 0 ∧ (fof more).Code = 0 ∧ 0 ≤ p ∧ p ≤ 1000000000 ∧ (entry_ranged p t).Code = 0 := by
  unfold putF at *
  by_cases c : (two l more).Code = 0
  · rw [if_pos c] at h ⊢
    have h1 := two_good c
    have h2 := ranged_good h
    exact ⟨h2.1, h1.2.1, h1.2.2, h2.2.1, h2.2.2.1, h⟩
  · rw [if_neg c] at h; exact absurd h c
theorem put_eq (l : List Entry) (p t : Int) (more : List Entry) : entry_Put l p t more = some (putS l p t more) := by
  unfold entry_Put
  simp only [two_eq, ob_some]
  have e : (if (decide ((two l more).Code = 0)) = true then lt (entry_ranged p t) fun x1 => some x1 else some (two l more)) = some (putF l p t more) := by
    unfold putF
    by_cases c : (two l more).Code = 0 <;> simp [c, lt]
  rw [e]
  simp only [ob_some]
  by_cases c : (putF l p t more).Code = 0
  · obtain ⟨h1, h2, h3, h4, h5, h6⟩ := putF_good c
    have hl := (fof_good h2).1
    have hm := (fof_good h3).1
    rw [if_neg (by simp [c]), eclone_eq l (by omega), ob_some, fits_eq l (by omega), ob_some]
    by_cases f : fits l p t
    · rw [if_neg (by simp [f])]
      have hp : ((p.toNat : Nat) : Int) = p := Int.toNat_of_nonneg h4
      have hf := f.1
      have := put_loop p.toNat more (by omega) (by omega) more.length 0 l (by omega) (by omega) (by omega) (by omega)
      rw [hp] at this
      simp only [List.drop_zero, Nat.add_zero] at this
      have h0 : ((0 : Nat) : Int) = 0 := rfl
      rw [h0] at this
      rw [this, put_end]
      unfold putS
      rw [if_pos c, if_pos f]
    · rw [if_pos (by simp [f])]
      unfold putS
      rw [if_pos c, if_neg f]
  · rw [if_pos (by simp [c])]
    unfold putS
    rw [if_neg c]
/- what put does -/
theorem put_take (m : List Entry) : ∀ (p : Nat) (l : List Entry), p ≤ l.length → (put p l m).take p = l.take p := by
  induction m with
  | nil => intro p l h; rfl
  | cons e m ih =>
    intro p l h
    rw [put]
    split
    · rename_i c
      have h1 := ih (p + 1) l (by omega)
      have : ((put (p + 1) l m).take (p + 1)).take p = (l.take (p + 1)).take p := by rw [h1]
      simpa [List.take_take] using this
    · have hl : (l.take p ++ [e]).length = p + 1 := by simp; omega
      have h1 := ih (p + 1) (l.take p ++ [e]) (by omega)
      have : ((put (p + 1) (l.take p ++ [e]) m).take (p + 1)).take p = ((l.take p ++ [e]).take (p + 1)).take p := by rw [h1]
      simp only [List.take_take] at this
      rw [show min p (p + 1) = p by omega] at this
      rw [this, List.take_append_of_le_length (by simp; omega)]
      simp [List.take_take]
/-- all of it is there -/
def there : Nat → List Entry → List Entry → Prop
  | p, l, [] => p ≤ l.length
  | p, l, e :: m => p < l.length ∧ (lget l (p : Int)).Term = e.Term ∧ there (p + 1) l m
theorem there_len (m : List Entry) : ∀ (p : Nat) (l : List Entry), there p l m → p + m.length ≤ l.length := by
  induction m with
  | nil => intro p l h; simpa [there] using h
  | cons e m ih => intro p l h; have := ih _ _ h.2.2; simp; omega
theorem there_put (m : List Entry) : ∀ (p : Nat) (l : List Entry), there p l m → put p l m = l := by
  induction m with
  | nil => intro p l h; rfl
  | cons e m ih => intro p l h; rw [put, if_pos ⟨h.1, h.2.1⟩]; exact ih _ _ h.2.2
theorem put_len (m : List Entry) : ∀ (p : Nat) (l : List Entry), p ≤ l.length → p + m.length ≤ (put p l m).length ∧ (¬ there p l m → (put p l m).length = p + m.length) := by
  induction m with
  | nil => intro p l h; exact ⟨by simpa [put] using h, fun h' => absurd h h'⟩
  | cons e m ih =>
    intro p l h
    rw [put]
    split
    · rename_i c
      have h1 := ih (p + 1) l (by omega)
      refine ⟨by simp; omega, fun h' => ?_⟩
      have := h1.2 (fun h'' => h' ⟨c.1, c.2, h''⟩)
      simp; omega
    · rename_i c
      have hl : (l.take p ++ [e]).length = p + 1 := by simp; omega
      have h1 := ih (p + 1) (l.take p ++ [e]) (by omega)
      refine ⟨by simp; omega, fun _ => ?_⟩
      by_cases t : there (p + 1) (l.take p ++ [e]) m
      · have h2 := there_len _ _ _ t
        rw [there_put _ _ _ t, hl]; rw [hl] at h2; simp only [List.length_cons]; omega
      · have := h1.2 t; simp; omega
theorem lget_of_take {l l' : List Entry} {n p : Nat} (h : l.take p = l'.take p) (hn : n < p) : lget l (n : Int) = lget l' (n : Int) := by
  have : (l.take p)[n]? = (l'.take p)[n]? := by rw [h]
  rw [List.getElem?_take, List.getElem?_take, if_pos hn, if_pos hn] at this
  unfold lget List.getD
  simp [this]
theorem put_there (m : List Entry) : ∀ (p : Nat) (l : List Entry), p ≤ l.length → there p (put p l m) m := by
  induction m with
  | nil => intro p l h; exact h
  | cons e m ih =>
    intro p l h
    rw [put]
    split
    · rename_i c
      have h1 := ih (p + 1) l (by omega)
      have h2 := put_take m (p + 1) l (by omega)
      have h3 := (put_len m (p + 1) l (by omega)).1
      refine ⟨by omega, ?_, h1⟩
      rw [lget_of_take h2 (by omega)]; exact c.2
    · have hl : (l.take p ++ [e]).length = p + 1 := by simp; omega
      have h1 := ih (p + 1) (l.take p ++ [e]) (by omega)
      have h2 := put_take m (p + 1) (l.take p ++ [e]) (by omega)
      have h3 := (put_len m (p + 1) (l.take p ++ [e]) (by omega)).1
      refine ⟨by omega, ?_, h1⟩
      have hle : (l.take p).length = p := by simp; omega
      rw [lget_of_take h2 (by omega), lget_app_r _ _ _ (by omega), hle]
      simp [lget]
theorem put_app : ∀ (m : List Entry) (q : Nat) (l : List Entry), l.length = q → put q l m = l ++ m
  | [], q, l, h => by simp [put]
  | e :: m, q, l, h => by
    rw [put, if_neg (by omega), List.take_of_length_le (by omega), put_app m (q + 1) (l ++ [e]) (by simp; omega)]
    simp
theorem put_not (e : Entry) (m : List Entry) (q : Nat) (l : List Entry) (hq : q ≤ l.length) (h : ¬ (q < l.length ∧ (lget l (q : Int)).Term = e.Term)) : put q l (e :: m) = l.take q ++ e :: m := by
  rw [put, if_neg h, put_app m (q + 1) _ (by simp; omega)]
  simp
theorem lset_same {α : Type} [Inhabited α] (l : List α) (n : Nat) (h : n < l.length) : lset l (n : Int) (lget l (n : Int)) = l := by
  simp [lset, lget, List.getD, h]
end G
end Go.Proofs.Ytcnngkigpfpalaa
