/- Lists that may be merged; joining; all that count. -/
import Derived.Test.YtkbgkkbinnclmaaPMergeS
namespace Go.Proofs.Ytkbgkkbinnclmaa
open Go Go.Dm
set_option linter.unusedVariables false
set_option linter.unusedSectionVars false
set_option linter.unusedSimpArgs false
namespace G
theorem ck_zero : ∀ (l : List Cell) (p : Option Cell) (i : Int), (∀ c ∈ l, R_CellCode c = 0) → l.Pairwise ah → (∀ q, p = some q → ∀ c ∈ l, ah q c) → ck p l i = ⟨0, 0⟩
  | [], p, i, _, _, _ => by rw [ck]
  | c :: l, p, i, hc, hs, hp => by
    have hok : okp p c = true := by
      cases p with
      | none => rfl
      | some q => exact (ahead_iff q c).2 (hp q rfl c (by simp))
    rw [List.pairwise_cons] at hs
    rw [ck, if_neg (not_not_intro (hc c (by simp))), if_pos hok]
    exact ck_zero l (some c) (i + 1) (fun x hx => hc x (by simp [hx])) hs.2 (fun q hq x hx => by cases hq; exact hs.1 x hx)
theorem good_of {l : List Cell} (hl : l.length ≤ 1000) (hc : ∀ c ∈ l, R_CellCode c = 0) (hs : l.Pairwise ah) : Good l := by
  have e : cellF l = ⟨0, 0⟩ := by
    unfold cellF
    rw [if_neg (by omega), ck_zero l none 0 hc hs (fun q h => by cases h)]
  exact cellF_good (by rw [e])
/-- the first list that is not fine -/
noncomputable def lsF : List (List Cell) → Int → Fault
  | [], _ => ⟨0, 0⟩
  | g :: l, i => if (cellF g).Code = 0 then lsF l (i + 1) else ⟨(cellF g).Code, i⟩
noncomputable def listsS (l : List (List Cell)) : Fault := if 20 < l.length then ⟨2, -1⟩ else lsF l 0
theorem lists_loop (l : List (List Cell)) (hl : l.length ≤ 20) (z : Fault) : ∀ (m k : Nat), l.length - k = m → k ≤ l.length → merge_lists_L1 l (z, (k : Int)) = some (lsF (l.drop k) k) ∧ law_listsFault_L1 l (z, (k : Int)) = some (lsF (l.drop k) k) := by
  intro m
  induction m with
  | zero =>
    intro k e hk
    have : k = l.length := by omega
    subst this
    rw [List.drop_length, lsF]
    constructor
    · refine loopO_inr ?_
      unfold merge_lists_B1
      dsimp only
      rw [if_neg (d_f (by omega))]; rfl
    · refine loopO_inr ?_
      unfold law_listsFault_B1
      dsimp only
      rw [if_neg (d_f (by omega))]; rfl
  | succ m ih =>
    intro k e hk
    obtain ⟨ih1, ih2⟩ := ih (k + 1) (by omega) (by omega)
    rw [lget_drop l k (by omega), lsF]
    by_cases c : (cellF (lget l (k : Int))).Code = 0
    · rw [if_pos c]
      constructor
      · refine (loopO_inl ?_).trans ih1
        unfold merge_lists_B1
        dsimp only
        rw [if_pos (d_t (by omega)), asrt_pos (by omega), check_eq, ob_some, if_neg (n_f c), w64_id (by omega) (by omega)]; rfl
      · refine (loopO_inl ?_).trans ih2
        unfold law_listsFault_B1
        dsimp only
        rw [if_pos (d_t (by omega)), asrt_pos (by omega), rcheck_eq, ob_some, if_neg (n_f c), w64_id (by omega) (by omega)]; rfl
    · rw [if_neg c]
      constructor
      · refine loopO_inr ?_
        unfold merge_lists_B1
        dsimp only
        rw [if_pos (d_t (by omega)), asrt_pos (by omega), check_eq, ob_some, if_pos (n_t c)]; rfl
      · refine loopO_inr ?_
        unfold law_listsFault_B1
        dsimp only
        rw [if_pos (d_t (by omega)), asrt_pos (by omega), rcheck_eq, ob_some, if_pos (n_t c)]; rfl
theorem lists_eq (l : List (List Cell)) : merge_lists l = some (listsS l) := by
  unfold merge_lists listsS
  by_cases c : 20 < l.length
  · rw [if_pos (d_t (by omega)), if_pos c]; rfl
  · rw [if_neg (d_f (by omega)), if_neg c]
    exact (lists_loop l (by omega) ⟨0, 0⟩ l.length 0 (by omega) (by omega)).1
theorem listsFault_eq (l : List (List Cell)) : law_listsFault l = some (listsS l) := by
  unfold law_listsFault listsS
  by_cases c : 20 < l.length
  · rw [if_pos (d_t (by omega)), if_pos c]; rfl
  · rw [if_neg (d_f (by omega)), if_neg c]
    exact (lists_loop l (by omega) ⟨0, 0⟩ l.length 0 (by omega) (by omega)).2
theorem lsF_good : ∀ (l : List (List Cell)) (i : Int), (lsF l i).Code = 0 → lsF l i = ⟨0, 0⟩ ∧ ∀ g ∈ l, Good g
  | [], _, _ => ⟨rfl, by simp⟩
  | g :: l, i, h => by
    rw [lsF] at h ⊢
    by_cases c : (cellF g).Code = 0
    · rw [if_pos c] at h ⊢
      obtain ⟨h1, h2⟩ := lsF_good l _ h
      exact ⟨h1, fun x hx => by
        rcases List.mem_cons.1 hx with e | e
        · rw [e]; exact cellF_good c
        · exact h2 x e⟩
    · rw [if_neg c] at h; exact absurd h c
theorem lsF_ok : ∀ (l : List (List Cell)) (i : Int), (∀ g ∈ l, Good g) → lsF l i = ⟨0, 0⟩
  | [], _, _ => rfl
  | g :: l, i, h => by
    rw [lsF, if_pos (by rw [(h g (List.mem_cons_self ..)).f]), lsF_ok l _ fun x hx => h x (List.mem_cons_of_mem _ hx)]
structure GoodL (l : List (List Cell)) : Prop where
  few : l.length ≤ 20
  good : ∀ g ∈ l, Good g
theorem listsS_good {l : List (List Cell)} (h : (listsS l).Code = 0) : listsS l = ⟨0, 0⟩ ∧ GoodL l := by
  unfold listsS at h ⊢
  by_cases c : 20 < l.length
  · rw [if_pos c] at h; cases h
  · rw [if_neg c] at h ⊢
    obtain ⟨h1, h2⟩ := lsF_good l 0 h
    exact ⟨h1, by omega, h2⟩
theorem GoodL.f {l : List (List Cell)} (h : GoodL l) : listsS l = ⟨0, 0⟩ := by
  unfold listsS
  rw [if_neg (by have := h.few; omega), lsF_ok l 0 h.good]
theorem flat_len1000 : ∀ (l : List (List Cell)), (∀ g ∈ l, g.length ≤ 1000) → l.flatten.length ≤ 1000 * l.length
  | [], _ => by simp
  | g :: l, h => by
    have := flat_len1000 l fun x hx => h x (List.mem_cons_of_mem _ hx)
    have := h g (List.mem_cons_self ..)
    simp only [List.flatten_cons, List.length_append, List.length_cons]; omega
theorem GoodL.flat {l : List (List Cell)} (h : GoodL l) : l.flatten.length ≤ 20000 := by
  have := flat_len1000 l fun g hg => (h.good g hg).len
  have := h.few
  omega
theorem GoodL.joined {l : List (List Cell)} (h : GoodL l) : merge_joined l = some (firsts l.flatten) := joined_eq (fun g hg => (h.good g hg).srt) (by have := h.few; omega) (by have := h.flat; omega)
theorem GoodL.gw {l : List (List Cell)} (h : GoodL l) : Gw (firsts l.flatten) := ⟨by have := firsts_len l.flatten; have := h.flat; omega, (firsts_ok l.flatten).1⟩
/-- what stays of lists that are fine is fine, if it is not too much -/
theorem firsts_mem {l : List Cell} {c : Cell} (h : c ∈ firsts l) : c ∈ l := fk_mem (((firsts_ok l).2 c).1 h)
theorem GoodL.part {l : List (List Cell)} (h : GoodL l) {x : List Cell} (hx : x.Sublist (firsts l.flatten)) (hn : (firsts l.flatten).length ≤ 1000) : Good x := by
  refine good_of (by have := hx.length_le; omega) (fun c hc => ?_) ((firsts_ok l.flatten).1.sublist hx)
  obtain ⟨g, hg, hcg⟩ := List.mem_flatten.1 (firsts_mem (hx.subset hc))
  exact (h.good g hg).code c hcg
noncomputable def joinS (l : List (List Cell)) : List Cell × Fault :=
  if ¬ (listsS l).Code = 0 then ([], listsS l) else if 1000 < (firsts l.flatten).length then ([], ⟨9, -1⟩) else (firsts l.flatten, ⟨0, 0⟩)
theorem join_eq (l : List (List Cell)) : merge_Join l = some (joinS l) := by
  unfold merge_Join joinS
  rw [lists_eq, ob_some]
  by_cases c : (listsS l).Code = 0
  · obtain ⟨h1, h2⟩ := listsS_good c
    rw [if_neg (n_f c), if_neg (not_not_intro c), h2.joined, ob_some]
    by_cases c2 : 1000 < (firsts l.flatten).length
    · rw [if_pos (d_t (by omega)), if_pos c2]; rfl
    · rw [if_neg (d_f (by omega)), if_neg c2]
  · rw [if_pos (n_t c), if_pos c]
theorem join1_eq (l : List (List Cell)) : merge_Join_v1 l = some (joinS l) := join_eq l
theorem joinS_ok {l : List (List Cell)} (h : (joinS l).2.Code = 0) : GoodL l ∧ (firsts l.flatten).length ≤ 1000 ∧ joinS l = (firsts l.flatten, ⟨0, 0⟩) := by
  unfold joinS at h ⊢
  by_cases c : (listsS l).Code = 0
  · rw [if_neg (not_not_intro c)] at h ⊢
    by_cases c2 : 1000 < (firsts l.flatten).length
    · rw [if_pos c2] at h; cases h
    · rw [if_neg c2]
      exact ⟨(listsS_good c).2, by omega, rfl⟩
  · rw [if_pos c] at h; exact absurd h c
theorem joinS_is {l : List (List Cell)} (h : GoodL l) (hn : (firsts l.flatten).length ≤ 1000) : joinS l = (firsts l.flatten, ⟨0, 0⟩) := by
  unfold joinS
  rw [if_neg (by rw [h.f]; simp), if_neg (by omega)]
/- how much is looked at -/
theorem vast_loop (l : List (List Cell)) (hl : l.length ≤ 140737488351232) : ∀ (m k : Nat) (v : Int), l.length - k = m → k ≤ l.length → ∃ v', law_vastLists_L1 l (v, (k : Int)) = some (((decide (100 < (l.length : Int))) || ((decide (150 < v')) && (decide (v' < 1000)))) || (decide (3000 < v'))) ∧
    (l.length ≤ 100 → (∀ g ∈ l, g.length ≤ 140737488351232) → v = ((l.take k).flatten.length : Int) → v' = (l.flatten.length : Int)) := by
  intro m
  induction m with
  | zero =>
    intro k v e hk
    have : k = l.length := by omega
    subst this
    refine ⟨v, loopO_inr ?_, fun _ _ h => by rw [h, List.take_length]⟩
    unfold law_vastLists_B1
    dsimp only
    rw [if_neg (d_f (by omega))]; rfl
  | succ m ih =>
    intro k v e hk
    obtain ⟨v', h1, h2⟩ := ih (k + 1) (w64 (v + ((lget l (k : Int)).length : Int))) (by omega) (by omega)
    refine ⟨v', (loopO_inl ?_).trans h1, fun a b c => h2 a b ?_⟩
    · unfold law_vastLists_B1
      dsimp only
      rw [if_pos (d_t (by omega)), asrt_pos (by omega), w64_id (x := (k : Int) + 1) (by omega) (by omega)]; rfl
    · have hf : ∀ (q : List (List Cell)), (∀ g ∈ q, g.length ≤ 140737488351232) → q.flatten.length ≤ 140737488351232 * q.length := by
        intro q
        induction q with
        | nil => intro _; simp
        | cons g q ihq =>
          intro hq
          have := ihq fun x hx => hq x (List.mem_cons_of_mem _ hx)
          have := hq g (List.mem_cons_self ..)
          simp only [List.flatten_cons, List.length_append, List.length_cons]; omega
      have h3 := hf (l.take k) fun g hg => b g (List.mem_of_mem_take hg)
      have h4 := b _ (lget_mem l (k : Int) (by omega))
      rw [List.length_take] at h3
      rw [c, w64_id (by omega) (by omega), lget_take l k (by omega), List.flatten_append, List.length_append]; simp
theorem vast_eq (l : List (List Cell)) (hl : l.length ≤ 140737488351232) (hg : ∀ g ∈ l, g.length ≤ 140737488351232) : ∃ b, law_vastLists l = some b ∧ (b = false → l.length ≤ 100 ∧ l.flatten.length ≤ 3000 ∧ (l.flatten.length ≤ 150 ∨ 1000 ≤ l.flatten.length)) := by
  obtain ⟨v', h1, h2⟩ := vast_loop l hl l.length 0 0 (by omega) (by omega)
  refine ⟨_, h1, fun h => ?_⟩
  simp only [Bool.or_eq_false_iff, Bool.and_eq_false_iff, decide_eq_false_iff_not] at h
  have h3 : l.length ≤ 100 := by omega
  have := h2 h3 hg (by simp)
  omega
theorem own_loop (l : List (List Cell)) (hl : l.length ≤ 100) (hg : ∀ g ∈ l, g.length ≤ 3000) : ∀ (m k : Nat), l.length - k = m → k ≤ l.length → law_ownLists_v1_L1 l (l.take k, (k : Int)) = some l := by
  intro m
  induction m with
  | zero =>
    intro k e hk
    have : k = l.length := by omega
    subst this
    refine loopO_inr ?_
    unfold law_ownLists_v1_B1
    dsimp only
    rw [if_neg (d_f (by omega)), List.take_length]; rfl
  | succ m ih =>
    intro k e hk
    have h4 := hg _ (lget_mem l (k : Int) (by omega))
    refine (loopO_inl ?_).trans (ih (k + 1) (by omega) (by omega))
    unfold law_ownLists_v1_B1
    dsimp only
    have ho : law_ownCells_v1 (lget l (k : Int)) = some (lget l (k : Int)) := by unfold law_ownCells_v1; rw [asrt_pos (by omega)]
    rw [if_pos (d_t (by omega)), asrt_pos (by omega), ho, ob_some, asrt_pos (by simp; omega), w64_id (by omega) (by omega), lget_take l k (by omega)]; rfl
theorem len_flat {l : List (List Cell)} {g : List Cell} (h : g ∈ l) : g.length ≤ l.flatten.length := (List.sublist_flatten_of_mem h).length_le
theorem own_eq (l : List (List Cell)) (hl : l.length ≤ 100) (hf : l.flatten.length ≤ 3000) : law_ownLists_v1 l = some l :=
  own_loop l hl (fun g hg => by have := len_flat hg; omega) l.length 0 (by omega) (by omega)
theorem own0_eq (l : List (List Cell)) (hl : l.length ≤ 100) (hf : l.flatten.length ≤ 3000) : law_ownLists l = some l := own_eq l hl hf
/- all that count -/
theorem fk_one {M : List Cell} (h : M.Pairwise ah) (k : Cell) : (fk k M).length ≤ 1 := by
  have hs : (fk k M).Pairwise ah := h.sublist List.filter_sublist
  have hm : ∀ x ∈ fk k M, key k x := fun x hx => of_decide_eq_true (List.mem_filter.1 hx).2
  match hq : fk k M with
  | [] => simp
  | [x] => simp
  | x :: y :: t =>
    rw [hq] at hs hm
    have h1 := (List.pairwise_cons.1 hs).1 y (by simp)
    exact absurd (key_trans (key_symm (hm x (by simp))) (hm y (by simp))) (ah_key h1)
theorem stab_rev {M : List Cell} (h : M.Pairwise ah) : Stab M M.reverse := fun k => by
  have h1 := fk_one h k
  have e : fk k M.reverse = (fk k M).reverse := by unfold fk; rw [List.filter_reverse]
  rw [e]
  match hq : fk k M with
  | [] => rfl
  | [x] => rfl
  | x :: y :: t => rw [hq] at h1; simp at h1
theorem firsts_congr {a b : List Cell} (h : Stab a b) : firsts a = firsts b := firsts_is ((firsts_ok a).stab h.symm)
theorem together_loop (l : List (List Cell)) (h : GoodL l) : ∀ (n : Nat), n ≤ l.length → law_together_L1 l (firsts (l.drop n).flatten, (n : Int)) = some (firsts l.flatten)
  | 0, _ => by
    refine loopO_inr ?_
    unfold law_together_B1
    dsimp only
    rw [if_neg (d_f (by simp))]; rfl
  | n + 1, hn => by
    have hfew := h.few
    have hflat := h.flat
    have hw : w64 (((n + 1 : Nat) : Int) - 1) = (n : Int) := by rw [w64_id (by omega) (by omega)]; omega
    have hg := h.good _ (lget_mem l (n : Int) (by omega))
    have hfl := firsts_len (l.drop (n + 1)).flatten
    have hdl : (l.drop (n + 1)).flatten.length ≤ l.flatten.length := by
      have e : l.flatten = (l.take (n + 1)).flatten ++ (l.drop (n + 1)).flatten := by rw [← List.flatten_append, List.take_append_drop]
      rw [e, List.length_append]; omega
    have hp := rputs_eq (firsts (l.drop (n + 1)).flatten) (lget l (n : Int)) (l.drop (n + 1)).flatten (firsts_ok _) (by have := hg.len; omega)
    have he : firsts ((lget l (n : Int)).reverse ++ (l.drop (n + 1)).flatten) = firsts (l.drop n).flatten := by
      rw [lget_drop l n (by omega), List.flatten_cons]
      exact (firsts_congr (Stab.app (stab_rev hg.srt) (Stab.refl _))).symm
    refine (loopO_inl ?_).trans (together_loop l h n (by omega))
    unfold law_together_B1
    dsimp only
    rw [if_pos (d_t (by omega)), hw, asrt_pos (by omega), hp, ob_some, he]
theorem together_eq {l : List (List Cell)} (h : GoodL l) : law_together l = some (firsts l.flatten) := by
  have := together_loop l h l.length (Nat.le_refl _)
  rw [List.drop_length] at this
  have e : firsts ([] : List (List Cell)).flatten = [] := List.eq_nil_of_length_eq_zero (by have := firsts_len ([] : List (List Cell)).flatten; simpa using this)
  rw [e] at this
  exact this
/-- what is in order stays as it is -/
theorem firsts_self {l : List Cell} (h : l.Pairwise ah) : firsts l = l := by
  refine (firsts_is ⟨h, fun c => ⟨fun hc => ?_, fun hc => fk_mem hc⟩⟩).symm
  have hm : c ∈ fk c l := List.mem_filter.2 ⟨hc, decide_eq_true (key_refl c)⟩
  have h1 := fk_one h c
  match hq : fk c l with
  | [] => rw [hq] at hm; cases hm
  | [x] => rw [hq] at hm; rw [List.mem_singleton.1 hm]; rfl
  | x :: y :: t => rw [hq] at h1; simp at h1
/-- the same first ones -/
def Hd (m m' : List Cell) : Prop := ∀ c, (fk c m).head? = (fk c m').head?
theorem Hd.firsts {m m' : List Cell} (h : Hd m m') : firsts m = firsts m' := firsts_is ⟨(firsts_ok m).1, fun c => by rw [(firsts_ok m).2 c, h c]⟩
theorem Hd.app {a a' b b' : List Cell} (h : Hd a a') (g : Hd b b') : Hd (a ++ b) (a' ++ b') := fun c => by
  rw [fk_app, fk_app, List.head?_append, List.head?_append, h c, g c]
theorem Hd.refl (m : List Cell) : Hd m m := fun _ => rfl
theorem Hd.symm {m m' : List Cell} (h : Hd m m') : Hd m' m := fun c => (h c).symm
theorem Hd.trans {a b c : List Cell} (h : Hd a b) (g : Hd b c) : Hd a c := fun x => (h x).trans (g x)
theorem hd_firsts (m : List Cell) : Hd (firsts m) m := fun c => by
  have hF := firsts_ok m
  cases hx : (fk c m).head? with
  | none =>
    have e : fk c m = [] := List.head?_eq_none_iff.1 hx
    rw [List.head?_eq_none_iff]
    refine fk_none fun y hy hk => ?_
    have := (hF.2 y).1 hy
    rw [← fk_key hk, e] at this; cases this
  | some x =>
    have hm := List.mem_of_mem_head? hx
    have hk : key c x := of_decide_eq_true (List.mem_filter.1 hm).2
    have hxf : x ∈ firsts m := (hF.2 x).2 (by rw [← fk_key hk]; exact hx)
    have hxm : x ∈ fk c (firsts m) := List.mem_filter.2 ⟨hxf, decide_eq_true hk⟩
    have h1 := fk_one hF.1 c
    match hq : fk c (firsts m) with
    | [] => rw [hq] at hxm; cases hxm
    | [y] => rw [hq] at hxm; rw [List.mem_singleton.1 hxm]; rfl
    | y :: z :: t => rw [hq] at h1; simp at h1
/-- fewer kinds, fewer cells -/
theorem kinds_len : ∀ (x y : List Cell), x.Pairwise ah → y.Pairwise ah → (∀ a ∈ x, ∃ b ∈ y, key a b) → x.length ≤ y.length
  | [], _, _, _, _ => Nat.zero_le _
  | a :: x, [], _, _, h => by obtain ⟨b, hb, _⟩ := h a (List.mem_cons_self ..); cases hb
  | a :: x, b :: y, hx, hy, h => by
    obtain ⟨p1, p2⟩ := List.pairwise_cons.1 hx
    obtain ⟨q1, q2⟩ := List.pairwise_cons.1 hy
    by_cases c : key a b
    · have := kinds_len x y p2 q2 fun z hz => by
        obtain ⟨w, hw, hk⟩ := h z (List.mem_cons_of_mem _ hz)
        rcases List.mem_cons.1 hw with e | e
        · rw [e] at hk
          exact absurd (key_trans c (key_symm hk)) (ah_key (p1 z hz))
        · exact ⟨w, e, hk⟩
      simp only [List.length_cons]; omega
    · have := kinds_len (a :: x) y hx q2 fun z hz => by
        obtain ⟨w, hw, hk⟩ := h z hz
        rcases List.mem_cons.1 hw with e | e
        · rw [e] at hk
          rcases List.mem_cons.1 hz with e2 | e2
          · rw [e2] at hk; exact absurd hk c
          · obtain ⟨w2, hw2, hk2⟩ := h a (List.mem_cons_self ..)
            rcases List.mem_cons.1 hw2 with e3 | e3
            · rw [e3] at hk2; exact absurd hk2 c
            · have h5 := ah_right (key_symm hk2) (q1 w2 e3)
              have h6 := ah_left (key_symm hk) h5
              exact absurd (p1 z e2) (ah_asymm h6)
        · exact ⟨w, e, hk⟩
      simp only [List.length_cons] at this ⊢; omega
theorem firsts_kind {m : List Cell} {c : Cell} (h : c ∈ m) : ∃ b ∈ firsts m, key c b := by
  have hm : c ∈ fk c m := List.mem_filter.2 ⟨h, decide_eq_true (key_refl c)⟩
  cases hx : (fk c m).head? with
  | none => rw [List.head?_eq_none_iff.1 hx] at hm; cases hm
  | some x =>
    have hk : key c x := of_decide_eq_true (List.mem_filter.1 (List.mem_of_mem_head? hx)).2
    exact ⟨x, ((firsts_ok m).2 x).2 (by rw [← fk_key hk]; exact hx), hk⟩
theorem firsts_sub_len {a b : List Cell} (h : ∀ c ∈ a, c ∈ b) : (firsts a).length ≤ (firsts b).length :=
  kinds_len _ _ (firsts_ok a).1 (firsts_ok b).1 fun c hc => firsts_kind (h c (firsts_mem hc))
end G
end Go.Proofs.Ytkbgkkbinnclmaa
