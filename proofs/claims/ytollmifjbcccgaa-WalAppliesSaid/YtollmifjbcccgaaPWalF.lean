/- What the first ones of lists are. -/
import Derived.Test.YtollmifjbcccgaaPSortG
namespace Go.Proofs.Ytollmifjbcccgaa
open Go Go.Dm
set_option linter.unusedVariables false
set_option linter.unusedSectionVars false
set_option linter.unusedSimpArgs false
namespace G
theorem fk_key {a b : Cell} (h : key a b) (l : List Cell) : fk a l = fk b l := by
  unfold fk
  congr 1
  funext x
  exact decide_eq_decide.2 ⟨fun q => key_trans (key_symm h) q, fun q => key_trans h q⟩
theorem fk_mem {c : Cell} {l : List Cell} (h : (fk c l).head? = some c) : c ∈ l := by
  have := List.mem_of_mem_head? h
  unfold fk at this
  exact (List.mem_filter.1 this).1
theorem ck_zero : ∀ (l : List Cell) (p : Option Cell) (i : Int), (∀ c ∈ l, R_CellCode c = 0) → l.Pairwise ah → (∀ q, p = some q → ∀ c ∈ l, ah q c) → ck p l i = ⟨0, 0⟩
  | [], p, i, _, _, _ => by rw [ck]
  | c :: l, p, i, hc, hs, hp => by
    have hok : okp p c = true := by
      cases p with
      | none => rfl
      | some q => exact (ahead_iff q c).2 (hp q rfl c (by simp))
    rw [List.pairwise_cons] at hs
    rw [ck, if_neg (not_not_intro (hc c (by simp))), if_pos hok]
    exact ck_zero l (some c) (i + 1) (fun x hx => hc x (by simp [hx])) hs.2 (fun q hq x hx => by cases hq; exact hs.1 x hx)
theorem good_of {l : List Cell} (hl : l.length ≤ 1000) (hc : ∀ c ∈ l, R_CellCode c = 0) (hs : l.Pairwise ah) : Good l := by
  have e : cellF l = ⟨0, 0⟩ := by
    unfold cellF
    rw [if_neg (by omega), ck_zero l none 0 hc hs (fun q h => by cases h)]
  exact cellF_good (by rw [e])
theorem firsts_mem {l : List Cell} {c : Cell} (h : c ∈ firsts l) : c ∈ l := fk_mem (((firsts_ok l).2 c).1 h)
theorem fk_one {M : List Cell} (h : M.Pairwise ah) (k : Cell) : (fk k M).length ≤ 1 := by
  have hs : (fk k M).Pairwise ah := h.sublist List.filter_sublist
  have hm : ∀ x ∈ fk k M, key k x := fun x hx => of_decide_eq_true (List.mem_filter.1 hx).2
  match hq : fk k M with
  | [] => simp
  | [x] => simp
  | x :: y :: t =>
    rw [hq] at hs hm
    have h1 := (List.pairwise_cons.1 hs).1 y (by simp)
    exact absurd (key_trans (key_symm (hm x (by simp))) (hm y (by simp))) (ah_key h1)
theorem stab_rev {M : List Cell} (h : M.Pairwise ah) : Stab M M.reverse := fun k => by
  have h1 := fk_one h k
  have e : fk k M.reverse = (fk k M).reverse := by unfold fk; rw [List.filter_reverse]
  rw [e]
  match hq : fk k M with
  | [] => rfl
  | [x] => rfl
  | x :: y :: t => rw [hq] at h1; simp at h1
theorem firsts_congr {a b : List Cell} (h : Stab a b) : firsts a = firsts b := firsts_is ((firsts_ok a).stab h.symm)
theorem firsts_self {l : List Cell} (h : l.Pairwise ah) : firsts l = l := by
  refine (firsts_is ⟨h, fun c => ⟨fun hc => ?_, fun hc => fk_mem hc⟩⟩).symm
  have hm : c ∈ fk c l := List.mem_filter.2 ⟨hc, decide_eq_true (key_refl c)⟩
  have h1 := fk_one h c
  match hq : fk c l with
  | [] => rw [hq] at hm; cases hm
  | [x] => rw [hq] at hm; rw [List.mem_singleton.1 hm]; rfl
  | x :: y :: t => rw [hq] at h1; simp at h1
def Hd (m m' : List Cell) : Prop := ∀ c, (fk c m).head? = (fk c m').head?
theorem Hd.firsts {m m' : List Cell} (h : Hd m m') : firsts m = firsts m' := firsts_is ⟨(firsts_ok m).1, fun c => by rw [(firsts_ok m).2 c, h c]⟩
theorem Hd.app {a a' b b' : List Cell} (h : Hd a a') (g : Hd b b') : Hd (a ++ b) (a' ++ b') := fun c => by
  rw [fk_app, fk_app, List.head?_append, List.head?_append, h c, g c]
theorem Hd.refl (m : List Cell) : Hd m m := fun _ => rfl
theorem Hd.symm {m m' : List Cell} (h : Hd m m') : Hd m' m := fun c => (h c).symm
theorem Hd.trans {a b c : List Cell} (h : Hd a b) (g : Hd b c) : Hd a c := fun x => (h x).trans (g x)
theorem hd_firsts (m : List Cell) : Hd (firsts m) m := fun c => by
  have hF := firsts_ok m
  cases hx : (fk c m).head? with
  | none =>
    have e : fk c m = [] := List.head?_eq_none_iff.1 hx
    rw [List.head?_eq_none_iff]
    refine fk_none fun y hy hk => ?_
    have := (hF.2 y).1 hy
    rw [← fk_key hk, e] at this; cases this
  | some x =>
    have hm := List.mem_of_mem_head? hx
    have hk : key c x := of_decide_eq_true (List.mem_filter.1 hm).2
    have hxf : x ∈ firsts m := (hF.2 x).2 (by rw [← fk_key hk]; exact hx)
    have hxm : x ∈ fk c (firsts m) := List.mem_filter.2 ⟨hxf, decide_eq_true hk⟩
    have h1 := fk_one hF.1 c
    match hq : fk c (firsts m) with
    | [] => rw [hq] at hxm; cases hxm
    | [y] => rw [hq] at hxm; rw [List.mem_singleton.1 hxm]; rfl
    | y :: z :: t => rw [hq] at h1; simp at h1
theorem kinds_len : ∀ (x y : List Cell), x.Pairwise ah → y.Pairwise ah → (∀ a ∈ x, ∃ b ∈ y, key a b) → x.length ≤ y.length
  | [], _, _, _, _ => Nat.zero_le _
  | a :: x, [], _, _, h => by obtain ⟨b, hb, _⟩ := h a (List.mem_cons_self ..); cases hb
  | a :: x, b :: y, hx, hy, h => by
    obtain ⟨p1, p2⟩ := List.pairwise_cons.1 hx
    obtain ⟨q1, q2⟩ := List.pairwise_cons.1 hy
    by_cases c : key a b
    · have := kinds_len x y p2 q2 fun z hz => by
        obtain ⟨w, hw, hk⟩ := h z (List.mem_cons_of_mem _ hz)
        rcases List.mem_cons.1 hw with e | e
        · rw [e] at hk
          exact absurd (key_trans c (key_symm hk)) (ah_key (p1 z hz))
        · exact ⟨w, e, hk⟩
      simp only [List.length_cons]; omega
    · have := kinds_len (a :: x) y hx q2 fun z hz => by
        obtain ⟨w, hw, hk⟩ := h z hz
        rcases List.mem_cons.1 hw with e | e
        · rw [e] at hk
          rcases List.mem_cons.1 hz with e2 | e2
          · rw [e2] at hk; exact absurd hk c
          · obtain ⟨w2, hw2, hk2⟩ := h a (List.mem_cons_self ..)
            rcases List.mem_cons.1 hw2 with e3 | e3
            · rw [e3] at hk2; exact absurd hk2 c
            · have h5 := ah_right (key_symm hk2) (q1 w2 e3)
              have h6 := ah_left (key_symm hk) h5
              exact absurd (p1 z e2) (ah_asymm h6)
        · exact ⟨w, e, hk⟩
      simp only [List.length_cons] at this ⊢; omega
theorem firsts_kind {m : List Cell} {c : Cell} (h : c ∈ m) : ∃ b ∈ firsts m, key c b := by
  have hm : c ∈ fk c m := List.mem_filter.2 ⟨h, decide_eq_true (key_refl c)⟩
  cases hx : (fk c m).head? with
  | none => rw [List.head?_eq_none_iff.1 hx] at hm; cases hm
  | some x =>
    have hk : key c x := of_decide_eq_true (List.mem_filter.1 (List.mem_of_mem_head? hx)).2
    exact ⟨x, ((firsts_ok m).2 x).2 (by rw [← fk_key hk]; exact hx), hk⟩
theorem firsts_sub_len {a b : List Cell} (h : ∀ c ∈ a, c ∈ b) : (firsts a).length ≤ (firsts b).length :=
  kinds_len _ _ (firsts_ok a).1 (firsts_ok b).1 fun c hc => firsts_kind (h c (firsts_mem hc))
end G
end Go.Proofs.Ytollmifjbcccgaa
