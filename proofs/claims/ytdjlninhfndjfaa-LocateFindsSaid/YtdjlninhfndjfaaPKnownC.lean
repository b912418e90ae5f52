/- What is known: Learn. -/
import Derived.Test.YtdjlninhfndjfaaPKnownB
namespace Go.Proofs.Ytdjlninhfndjfaa
open Go Go.Dm
set_option linter.unusedVariables false
set_option linter.unusedSimpArgs false
namespace G
def lowK (k x : Known) : Bool := Op.bytesLess x.Part.From k.Part.From
def higK (k x : Known) : Bool := Op.bytesLess k.Part.From x.Part.From
/-- what is known behind Learn -/
noncomputable def learntF (l : List Known) (k : Known) : List Known := l.filter (fun x => !locate_learn_1 x k && lowK k x) ++ [k] ++ l.filter (fun x => !locate_learn_1 x k && higK k x)
theorem meets_eq {x k : Known} (hx : ptOk x.Part) (hk : ptOk k.Part) : R_Meets x.Part k.Part = locate_learn_1 x k := by
  unfold R_Meets locate_learn_1
  dsimp only [lt]
  rw [has_eq, has_eq]
  have key : ((x.Part.To = [] ∨ Op.bytesLess k.Part.From x.Part.To = true) ∧ (k.Part.To = [] ∨ Op.bytesLess x.Part.From k.Part.To = true)) ↔ (hasP x.Part k.Part.From ∨ hasP k.Part x.Part.From) := by
    unfold hasP
    constructor
    · rintro ⟨h1, h2⟩
      cases h : Op.bytesLess k.Part.From x.Part.From with
      | false => exact .inl ⟨rfl, h1⟩
      | true => exact .inr ⟨bl_asymm h, h2⟩
    · rintro (⟨h1, h2⟩ | ⟨h1, h2⟩)
      · refine ⟨h2, ?_⟩
        rcases hk.2.2 with g | g
        · exact .inl g
        · right
          rcases bl_tri x.Part.From k.Part.From with e | e | e
          · exact bl_trans e g
          · rw [e]; exact g
          · rw [h1] at e; cases e
      · refine ⟨?_, h2⟩
        rcases hx.2.2 with g | g
        · exact .inl g
        · right
          rcases bl_tri k.Part.From x.Part.From with e | e | e
          · exact bl_trans e g
          · rw [e]; exact g
          · rw [h1] at e; cases e
  rw [Bool.eq_iff_iff]
  simp only [Bool.and_eq_true, Bool.or_eq_true, decide_eq_true_eq]
  exact key
theorem equal_meets {x k : Known} (hx : ptOk x.Part) (h : x.Part.From = k.Part.From) : locate_learn_1 x k = true := by
  unfold locate_learn_1
  dsimp only [lt]
  rw [has_eq]
  have : hasP x.Part k.Part.From := by
    unfold hasP
    rw [← h]
    exact ⟨bl_irr _, hx.2.2⟩
  rw [d_t this]; rfl
/-- a list in order: what is ahead of a place is what is lower -/
theorem split_filter {k : Known} : ∀ {R : List Known}, R.Pairwise (fun a b => Op.bytesLess a.Part.From b.Part.From = true) → (∀ x ∈ R, x.Part.From ≠ k.Part.From) → ∀ {i : Nat}, i ≤ R.length → (∀ j : Nat, j < i → higK k (lget R (j : Int)) = false) → (i < R.length → higK k (lget R (i : Int)) = true) →
    R.take i = R.filter (lowK k) ∧ R.drop i = R.filter (higK k) := by
  intro R hp hne i hi hlo hhi
  have h1 : ∀ x ∈ R.take i, lowK k x = true ∧ higK k x = false := by
    intro x hx
    obtain ⟨j, hj, e⟩ := (mem_take_lget hi).1 hx
    have h := hlo j hj
    rw [e] at h
    refine ⟨?_, h⟩
    unfold lowK higK at *
    rcases bl_tri x.Part.From k.Part.From with g | g | g
    · exact g
    · exact absurd g (hne x (List.mem_of_mem_take hx))
    · rw [h] at g; cases g
  have h2 : ∀ x ∈ R.drop i, higK k x = true ∧ lowK k x = false := by
    intro x hx
    have : higK k x = true := by
      obtain ⟨j, hj, e⟩ := mem_lget.1 hx
      rw [List.length_drop] at hj
      have hd := lget_ldrop R (i : Int) (j : Int) (by omega)
      rw [ldrop_nat] at hd
      rw [hd] at e
      have h0 := hhi (by omega)
      by_cases z : j = 0
      · subst z
        rw [← e]; simpa using h0
      · rw [List.pairwise_iff_getElem] at hp
        have := hp i (i + j) (by omega) (by omega) (by omega)
        rw [← lget_nat R i (by omega), ← lget_nat R (i + j) (by omega)] at this
        unfold higK at h0 ⊢
        rw [← e]
        rw [show (i : Int) + (j : Int) = ((i + j : Nat) : Int) by omega]
        exact bl_trans h0 this
    exact ⟨this, bl_asymm this⟩
  have e1 : ∀ p : Known → Bool, R.filter p = (R.take i).filter p ++ (R.drop i).filter p := fun p => by rw [← List.filter_append, List.take_append_drop]
  constructor
  · rw [e1, List.filter_eq_self.2 (fun x hx => (h1 x hx).1), List.filter_eq_nil_iff.2 (fun x hx => by rw [(h2 x hx).2]; decide), List.append_nil]
  · rw [e1, List.filter_eq_nil_iff.2 (fun x hx => by rw [(h1 x hx).2]; decide), List.filter_eq_self.2 (fun x hx => (h2 x hx).1), List.nil_append]
theorem KGood.from_up {l : List Known} (hg : KGood l) : l.Pairwise (fun a b => Op.bytesLess a.Part.From b.Part.From = true) := by
  refine List.Pairwise.imp_of_mem ?_ hg.up
  intro a b ha hb h
  have h1 := (hg.ok a ha).2.2.resolve_left h.1
  rcases bl_tri a.Part.To b.Part.From with g | g | g
  · exact bl_trans h1 g
  · rw [← g]; exact h1
  · rw [h.2] at g; cases g
theorem learn_eq {l : List Known} (hg : KGood l) (k : Known) (hk : ptOk k.Part) : locate_learn l k = some (learntF l k) := by
  have hl := hg.len
  unfold locate_learn
  rw [kclone_eq _ (by omega), ob_some, delf_eq k l (by omega), ob_some]
  obtain ⟨R, hR⟩ : ∃ R, R = l.filter (fun x => !locate_learn_1 x k) := ⟨_, rfl⟩
  rw [← hR]
  have hRl : R.length ≤ l.length := by rw [hR]; exact List.length_filter_le _ _
  have hp : R.Pairwise (fun a b => Op.bytesLess a.Part.From b.Part.From = true) := by rw [hR]; exact hg.from_up.sublist List.filter_sublist
  have hne : ∀ x ∈ R, x.Part.From ≠ k.Part.From := by
    intro x hx e
    rw [hR, List.mem_filter] at hx
    have := equal_meets (hg.ok x hx.1) e
    rw [this] at hx; simp at hx
  have hidx := loop_first (step := fun y => slices_IndexFunc_api_Known_api_Known_v4_B1 k R y) R.length (fun j => (j : Int)) (fun j => higK k (lget R (j : Int)) = true) (fun j => (j : Int)) (r := -1)
    (fun j hj hb => by
      have hw : w64 ((j : Int) + 1) = ((j + 1 : Nat) : Int) := by rw [w64_id (by omega) (by omega)]; omega
      show slices_IndexFunc_api_Known_api_Known_v4_B1 k R (j : Int) = _
      unfold slices_IndexFunc_api_Known_api_Known_v4_B1
      rw [if_pos (d_t (by omega)), asrt_pos (by omega), asrt_pos (by omega), kn_eta]
      dsimp only [lt]
      unfold locate_learn_2
      unfold higK at hb
      rw [if_neg hb, hw])
    (fun j hj hb => by
      show slices_IndexFunc_api_Known_api_Known_v4_B1 k R (j : Int) = _
      unfold slices_IndexFunc_api_Known_api_Known_v4_B1
      rw [if_pos (d_t (by omega)), asrt_pos (by omega), asrt_pos (by omega), kn_eta]
      dsimp only [lt]
      unfold locate_learn_2
      unfold higK at hb
      rw [if_pos hb])
    (by
      show slices_IndexFunc_api_Known_api_Known_v4_B1 k R (R.length : Int) = _
      unfold slices_IndexFunc_api_Known_api_Known_v4_B1
      rw [if_neg (d_f (by omega))]; rfl)
  have fin : ∀ i : Nat, i ≤ R.length → (∀ j : Nat, j < i → higK k (lget R (j : Int)) = false) → (i < R.length → higK k (lget R (i : Int)) = true) → (ob (slices_Insert_api_Known_api_Known (i : Int) [k] R) fun x3 => some x3) = some (learntF l k) := by
    intro i hi h1 h2
    obtain ⟨e1, e2⟩ := split_filter hp hne hi h1 h2
    unfold slices_Insert_api_Known_api_Known
    rw [asrt_pos (by omega), asrt_pos (by simp), asrt_pos (by simp; omega), ob_some, Int.toNat_natCast, e1, e2, hR, List.filter_filter, List.filter_filter]
    unfold learntF
    simp only [Bool.and_comm]
  unfold slices_IndexFunc_api_Known_api_Known_v4
  rcases hidx with ⟨j, h1, h2, h3, h4⟩ | ⟨h1, h4⟩
  · have h4' : slices_IndexFunc_api_Known_api_Known_v4_L1 k R 0 = some (j : Int) := h4
    rw [h4', ob_some, if_neg (d_f (by omega)), ob_some]
    exact fin j (by omega) (fun i hi => by simpa using h3 i hi) (fun _ => h2)
  · have h4' : slices_IndexFunc_api_Known_api_Known_v4_L1 k R 0 = some (-1) := h4
    rw [h4', ob_some, if_pos (d_t (by decide)), ob_some]
    exact fin R.length (Nat.le_refl _) (fun i hi => by simpa using h1 i hi) (fun h => by omega)
theorem learntF_len (l : List Known) (k : Known) : (learntF l k).length ≤ 2 * l.length + 1 := by
  unfold learntF
  rw [List.length_append, List.length_append, List.length_singleton]
  have h1 := List.length_filter_le (fun x => !locate_learn_1 x k && lowK k x) l
  have h2 := List.length_filter_le (fun x => !locate_learn_1 x k && higK k x) l
  omega
theorem rlearnt_eq {l : List Known} (hg : KGood l) (k : Known) (hk : ptOk k.Part) : R_Learnt_v1 l k = some (learntF l k) := by
  have hl := hg.len
  have hm : ∀ j : Nat, j < l.length → R_Meets (lget l (j : Int)).Part k.Part = locate_learn_1 (lget l (j : Int)) k := fun j hj => meets_eq (hg.ok _ (lget_mem l (j : Int) (by omega))) hk
  have pt_eta : ∀ p : Part, (⟨p.From, p.To, p.ID⟩ : Part) = p := fun p => rfl
  unfold R_Learnt_v1
  refine loop_run (step := fun y => R_Learnt_v1_B2 l k y) l.length (fun j => ((l.take j).filter (fun x => !locate_learn_1 x k && lowK k x), (j : Int))) (fun j hj => ?_) ?_
  · have hw : w64 ((j : Int) + 1) = ((j + 1 : Nat) : Int) := by rw [w64_id (by omega) (by omega)]; omega
    have hfl : ((l.take j).filter (fun x => !locate_learn_1 x k && lowK k x)).length ≤ j := Nat.le_trans (List.length_filter_le _ _) (by simp; omega)
    show R_Learnt_v1_B2 l k (_, (j : Int)) = _
    unfold R_Learnt_v1_B2
    dsimp only
    rw [if_pos (d_t (by omega)), asrt_pos (by omega), pt_eta, kn_eta, hm j hj]
    dsimp only [lt]
    rw [asrt_pos (fun _ => by omega), lget_take l j hj, List.filter_append, hw]
    cases hb : (!locate_learn_1 (lget l (j : Int)) k && Op.bytesLess (lget l (j : Int)).Part.From k.Part.From) with
    | true => rw [if_pos rfl, asrt_pos (by omega), asrt_pos (by rw [List.length_append]; simp; omega), ob_some]; simp [lowK, hb]
    | false => rw [if_neg (by decide), ob_some]; simp [lowK, hb]
  · show R_Learnt_v1_B2 l k (_, (l.length : Int)) = _
    unfold R_Learnt_v1_B2
    dsimp only
    rw [if_neg (d_f (by omega)), List.take_length]
    unfold R_Learnt_v1_J1
    obtain ⟨A, hA⟩ : ∃ A, A = l.filter (fun x => !locate_learn_1 x k && lowK k x) := ⟨_, rfl⟩
    have hAl : A.length ≤ l.length := by rw [hA]; exact List.length_filter_le _ _
    rw [← hA, asrt_pos (by rw [List.length_append]; simp; omega)]
    have := loop_run (step := fun y => R_Learnt_v1_B1 l k y) l.length (fun j => ((A ++ [k]) ++ (l.take j).filter (fun x => !locate_learn_1 x k && higK k x), (j : Int))) (r := learntF l k) (fun j hj => by
      have hw : w64 ((j : Int) + 1) = ((j + 1 : Nat) : Int) := by rw [w64_id (by omega) (by omega)]; omega
      have hfl : ((l.take j).filter (fun x => !locate_learn_1 x k && higK k x)).length ≤ j := Nat.le_trans (List.length_filter_le _ _) (by simp; omega)
      show R_Learnt_v1_B1 l k (_, (j : Int)) = _
      unfold R_Learnt_v1_B1
      dsimp only
      rw [if_pos (d_t (by omega)), asrt_pos (by omega), pt_eta, kn_eta, hm j hj]
      dsimp only [lt]
      rw [asrt_pos (fun _ => by omega), lget_take l j hj, List.filter_append, hw]
      cases hb : (!locate_learn_1 (lget l (j : Int)) k && Op.bytesLess k.Part.From (lget l (j : Int)).Part.From) with
      | true => rw [if_pos rfl, asrt_pos (by omega), asrt_pos (by rw [List.length_append, List.length_append, List.length_append]; simp; omega), ob_some]; simp [higK, hb]
      | false => rw [if_neg (by decide), ob_some]; simp [higK, hb]) (by
      show R_Learnt_v1_B1 l k (_, (l.length : Int)) = _
      unfold R_Learnt_v1_B1
      dsimp only
      rw [if_neg (d_f (by omega)), List.take_length, hA]; rfl)
    rw [show R_Learnt_v1_L1 l k ((A ++ [k]), 0) = some (learntF l k) from by
      have e : ((A ++ [k]) ++ (l.take 0).filter (fun x => !locate_learn_1 x k && higK k x), ((0 : Nat) : Int)) = ((A ++ [k]), 0) := by simp
      rw [← e]; exact this]
    rfl
theorem known_self (l : List Known) (h : l.length ≤ 1000000) : R_SameKnown l l = some true := by
  unfold R_SameKnown
  rw [if_neg (by simp)]
  refine loop_run (step := fun y => R_SameKnown_B1 l l y) l.length (fun k => (k : Int)) (fun k hk => ?_) ?_
  · have hw : w64 ((k : Int) + 1) = ((k + 1 : Nat) : Int) := by rw [w64_id (by omega) (by omega)]; omega
    show R_SameKnown_B1 l l (k : Int) = _
    unfold R_SameKnown_B1
    rw [if_pos (d_t (by omega)), asrt_pos (by omega), asrt_pos (by omega), if_neg (by simp), hw]
  · show R_SameKnown_B1 l l (l.length : Int) = _
    unfold R_SameKnown_B1
    rw [if_neg (d_f (by omega))]; rfl
end G
end Go.Proofs.Ytdjlninhfndjfaa
