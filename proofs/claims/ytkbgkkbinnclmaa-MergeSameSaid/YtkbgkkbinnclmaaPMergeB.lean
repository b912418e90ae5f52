/- What stands in the sources while they are merged. -/
import Derived.Test.YtkbgkkbinnclmaaPMergeA
namespace Go.Proofs.Ytkbgkkbinnclmaa
open Go Go.Dm
set_option linter.unusedVariables false
set_option linter.unusedSectionVars false
set_option linter.unusedSimpArgs false
namespace G
theorem fk_key {a b : Cell} (h : key a b) (l : List Cell) : fk a l = fk b l := by
  unfold fk
  congr 1
  funext x
  exact decide_eq_decide.2 ⟨fun q => key_trans (key_symm h) q, fun q => key_trans h q⟩
theorem fk_mem {c : Cell} {l : List Cell} (h : (fk c l).head? = some c) : c ∈ l := by
  have := List.mem_of_mem_head? h
  unfold fk at this
  exact (List.mem_filter.1 this).1
/-- how many cells are still to come -/
def cnt (ar : List source) : Nat := (ar.map fun s => s.cells.length).sum
theorem cnt_set : ∀ (ar : List source) (j : Nat) (s : source), j < ar.length → cnt (lset ar (j : Int) s) + (lget ar (j : Int)).cells.length = cnt ar + s.cells.length := by
  intro ar
  induction ar with
  | nil => intro j s h; simp at h
  | cons a ar ih =>
    intro j s h
    cases j with
    | zero => simp [cnt, lset, lget]; omega
    | succ j =>
      have := ih j s (by simpa using h)
      have e1 : lset (a :: ar) ((j + 1 : Nat) : Int) s = a :: lset ar (j : Int) s := by simp [lset]
      have e2 : lget (a :: ar) ((j + 1 : Nat) : Int) = lget ar (j : Int) := by simp [lget]
      rw [e1, e2]
      simp only [cnt, List.map_cons, List.sum_cons] at this ⊢
      omega
structure Inv (l : List (List Cell)) (ar : List source) (row : List Nat) (out : List Cell) : Prop where
  src : ∀ j : Nat, j < ar.length → ∃ r : Nat, r < l.length ∧ (lget ar (j : Int)).rank = (r : Int) ∧ ∃ d, lget l (r : Int) = d ++ (lget ar (j : Int)).cells
  inc : ∀ i j : Nat, i < j → j < ar.length → (lget ar (i : Int)).rank < (lget ar (j : Int)).rank
  all : ∀ r : Nat, r < l.length → lget l (r : Int) ≠ [] → ∃ j : Nat, j < ar.length ∧ (lget ar (j : Int)).rank = (r : Int)
  nod : row.Nodup
  mem : ∀ j : Nat, j ∈ row ↔ j < ar.length ∧ (lget ar (j : Int)).cells ≠ []
  srt : out.Pairwise ah
  low : ∀ j : Nat, j < ar.length → ∀ x ∈ (lget ar (j : Int)).cells, ∀ o ∈ out, le o x
  past : ∀ j r : Nat, j < ar.length → (lget ar (j : Int)).rank = (r : Int) → ∀ x ∈ lget l (r : Int), x ∈ (lget ar (j : Int)).cells ∨ ∃ o ∈ out, key o x
  fst : ∀ o ∈ out, (fk o l.flatten).head? = some o
variable {l : List (List Cell)} (hs : ∀ g ∈ l, g.Pairwise ah)
theorem Inv.okr {ar : List source} {row : List Nat} {out : List Cell} (h : Inv l ar row out) : Okr ar row := fun x hx => (h.mem x).1 hx
/-- all has come -/
theorem Inv.last {ar : List source} {out : List Cell} (h : Inv l ar [] out) : Firsts l.flatten out := by
  refine ⟨h.srt, fun c => ⟨h.fst c, fun hc => ?_⟩⟩
  obtain ⟨g, hg, hcg⟩ := List.mem_flatten.1 (fk_mem hc)
  obtain ⟨r, hr, e⟩ := List.mem_iff_getElem.1 hg
  have hgr : lget l (r : Int) = g := by rw [lget_nat l r hr, e]
  obtain ⟨j, hj, hjr⟩ := h.all r hr (by rw [hgr]; exact List.ne_nil_of_mem hcg)
  have he : (lget ar (j : Int)).cells = [] := Decidable.byContradiction fun q => by have := (h.mem j).2 ⟨hj, q⟩; cases this
  rcases h.past j r hj hjr c (by rw [hgr]; exact hcg) with q | ⟨o, ho, hk⟩
  · rw [he] at q; cases q
  · have h1 := h.fst o ho
    rw [fk_key hk, hc] at h1
    cases h1; exact ho
include hs in
theorem Inv.sorted {ar : List source} {row : List Nat} {out : List Cell} (h : Inv l ar row out) {j : Nat} (hj : j < ar.length) : (lget ar (j : Int)).cells.Pairwise ah := by
  obtain ⟨r, hr, _, d, e⟩ := h.src j hj
  have := hs _ (lget_mem l (r : Int) (by omega))
  rw [e] at this
  exact (List.pairwise_append.1 this).2.1
theorem hd_le {s : source} (h : s.cells.Pairwise ah) {x : Cell} (hx : x ∈ s.cells) : hd s = x ∨ ah (hd s) x := by
  unfold hd
  cases hc : s.cells with
  | nil => rw [hc] at hx; cases hx
  | cons c t =>
    rw [hc] at hx h
    rcases List.mem_cons.1 hx with e | e
    · exact .inl e.symm
    · exact .inr ((List.pairwise_cons.1 h).1 x e)
/-- what is put behind what has come -/
noncomputable def outN (out : List Cell) (c : Cell) : List Cell := if out = [] ∨ ¬ key (lget out ((out.length : Int) - 1)) c then out ++ [c] else out
theorem outN_mem {out : List Cell} {c o : Cell} (h : o ∈ outN out c) : o ∈ out ∨ o = c := by
  unfold outN at h
  split at h
  · rcases List.mem_append.1 h with q | q
    · exact .inl q
    · exact .inr (List.mem_singleton.1 q)
  · exact .inl h
theorem outN_sub {out : List Cell} {c o : Cell} (h : o ∈ out) : o ∈ outN out c := by
  unfold outN
  split
  · exact List.mem_append_left _ h
  · exact h
theorem last_of {out : List Cell} (h : out ≠ []) : ∃ u, out = u ++ [lget out ((out.length : Int) - 1)] := by
  rcases List.eq_nil_or_concat out with e | ⟨u, y, e⟩
  · exact absurd e h
  · rw [List.concat_eq_append] at e
    refine ⟨u, ?_⟩
    have : lget out ((out.length : Int) - 1) = y := by
      rw [e]
      have e2 : (((u ++ [y]).length : Nat) : Int) - 1 = (u.length : Int) := by simp
      rw [e2]; exact lget_mid u y []
    rw [this]; exact e
include hs in
theorem Inv.step {ar : List source} {row : List Nat} {out : List Cell} (h : Inv l ar row out) {s0 : Nat} (h0 : s0 ∈ row) (hmin : ∀ j ∈ row, ¬ slt (lget ar (j : Int)) (lget ar (s0 : Int)))
    {row' : List Nat} {ar' : List source} (har : ar' = lset ar (s0 : Int) ⟨ldrop (lget ar (s0 : Int)).cells 1, (lget ar (s0 : Int)).rank⟩) (hnod : row'.Nodup) (hmem : ∀ j : Nat, j ∈ row' ↔ j ∈ row ∧ (j = s0 → 1 < (lget ar (s0 : Int)).cells.length)) :
    Inv l ar' row' (outN out (hd (lget ar (s0 : Int)))) := by
  obtain ⟨hlt, hne⟩ := (h.mem s0).1 h0
  obtain ⟨c, t, hct⟩ := List.exists_cons_of_ne_nil hne
  have hc : hd (lget ar (s0 : Int)) = c := by unfold hd; rw [hct]; rfl
  rw [hc]
  have hget : ∀ j : Nat, lget ar' (j : Int) = if j = s0 then ⟨t, (lget ar (s0 : Int)).rank⟩ else lget ar (j : Int) := by
    intro j
    rw [har, lget_lset _ _ _ _ (by omega) (by omega)]
    by_cases e : j = s0
    · rw [if_pos e, if_pos (by omega), hct]; rfl
    · rw [if_neg e, if_neg (by omega)]
  have hlen : ar'.length = ar.length := by rw [har, lset_len]
  have hrank : ∀ j : Nat, (lget ar' (j : Int)).rank = (lget ar (j : Int)).rank := fun j => by
    rw [hget]; split
    · rename_i e; rw [e]
    · rfl
  have hsub : ∀ (j : Nat) (x : Cell), x ∈ (lget ar' (j : Int)).cells → x ∈ (lget ar (j : Int)).cells := fun j x hx => by
    rw [hget] at hx
    split at hx
    · rename_i e; rw [e, hct]; exact List.mem_cons_of_mem _ hx
    · exact hx
  obtain ⟨r0, hr0, hrk0, d0, hd0⟩ := h.src s0 hlt
  have hs0 := h.sorted hs hlt
  -- nothing that is still to come is ahead of it
  have low : ∀ j : Nat, j < ar.length → ∀ x ∈ (lget ar (j : Int)).cells, le c x := by
    intro j hj x hx
    have hjr := (h.mem j).2 ⟨hj, List.ne_nil_of_mem hx⟩
    have h1 : le c (hd (lget ar (j : Int))) := fun q => hmin j hjr (.inl ((ahead_iff _ _).2 (by rw [hc]; exact q)))
    rcases hd_le (h.sorted hs hj) hx with e | e
    · rw [← e]; exact h1
    · exact le_trans h1 (le_of_ah e)
  have hcc : c ∈ (lget ar (s0 : Int)).cells := by rw [hct]; exact List.mem_cons_self ..
  -- the last one that has come, if it is not like it
  have hla : out ≠ [] → le (lget out ((out.length : Int) - 1)) c := fun q => h.low s0 hlt c hcc _ (lget_mem out _ (by have := List.length_pos_iff.2 q; omega))
  have hout : ¬ key (lget out ((out.length : Int) - 1)) c → ∀ o ∈ out, ah o c := by
    intro q o ho
    have hne' := List.ne_nil_of_mem ho
    obtain ⟨u, hu⟩ := last_of hne'
    have hl := (le_or (hla hne')).resolve_right q
    have hsr := h.srt
    rw [hu] at hsr ho
    rcases List.mem_append.1 ho with p | p
    · exact ah_trans ((List.pairwise_append.1 hsr).2.2 o p _ (List.mem_singleton.2 rfl)) hl
    · rw [List.mem_singleton.1 p]; exact hl
  have new : (out = [] ∨ ¬ key (lget out ((out.length : Int) - 1)) c) → (∀ o ∈ out, ah o c) ∧ (fk c l.flatten).head? = some c := by
    intro q
    have ho : ∀ o ∈ out, ah o c := by
      rcases q with q | q
      · rw [q]; simp
      · exact hout q
    refine ⟨ho, ?_⟩
    have hr0' : l = l.take r0 ++ (lget l (r0 : Int) :: l.drop (r0 + 1)) := by
      rw [← lget_drop l r0 hr0, List.take_append_drop]
    have e1 : fk c (l.take r0).flatten = [] := by
      refine fk_none fun x hx hk => ?_
      obtain ⟨g, hg, hxg⟩ := List.mem_flatten.1 hx
      obtain ⟨r, hr, e⟩ := List.mem_iff_getElem.1 hg
      rw [List.length_take] at hr
      have hgr : lget l (r : Int) = g := by rw [lget_nat l r (by omega), ← e, List.getElem_take]
      obtain ⟨j, hj, hjr⟩ := h.all r (by omega) (by rw [hgr]; exact List.ne_nil_of_mem hxg)
      rcases h.past j r hj hjr x (by rw [hgr]; exact hxg) with p | ⟨o, ho', hk'⟩
      · have hjrow := (h.mem j).2 ⟨hj, List.ne_nil_of_mem p⟩
        have hm := hmin j hjrow
        rcases hd_le (h.sorted hs hj) p with e | e
        · refine hm (.inr ⟨by rw [hc, e]; exact key_symm hk, ?_⟩)
          rw [hjr, hrk0]; omega
        · exact hm (.inl ((ahead_iff _ _).2 (by rw [hc]; exact ah_right (key_symm hk) e)))
      · exact ah_key (ho o ho') (key_trans hk' (key_symm hk))
    have e2 : fk c d0 = [] := by
      refine fk_none fun x hx hk => ?_
      have := hs _ (lget_mem l (r0 : Int) (by omega))
      rw [hd0, hct] at this
      exact ah_key ((List.pairwise_append.1 this).2.2 x hx c (List.mem_cons_self ..)) (key_symm hk)
    rw [hr0', List.flatten_append, List.flatten_cons, fk_app, fk_app, e1, hd0, fk_app, e2, hct, fk_cons, if_pos (key_refl c)]
    rfl
  refine ⟨fun j hj => ?_, fun i j hij hj => ?_, fun r hr hne => ?_, hnod, fun j => ?_, ?_, fun j hj x hx o ho => ?_, fun j r hj hjr x hx => ?_, fun o ho => ?_⟩
  · rw [hlen] at hj
    obtain ⟨r, h1, h2, d, h3⟩ := h.src j hj
    refine ⟨r, h1, by rw [hrank]; exact h2, ?_⟩
    rw [hget]
    by_cases e : j = s0
    · rw [if_pos e]
      subst e
      exact ⟨d ++ [c], by rw [h3, hct]; simp⟩
    · rw [if_neg e]; exact ⟨d, h3⟩
  · rw [hrank, hrank]; exact h.inc i j hij (by rw [← hlen]; exact hj)
  · obtain ⟨j, h1, h2⟩ := h.all r hr hne
    exact ⟨j, by rw [hlen]; exact h1, by rw [hrank]; exact h2⟩
  · rw [hmem, h.mem, hlen, hget]
    by_cases e : j = s0
    · rw [if_pos e]
      subst e
      rw [hct]
      constructor
      · rintro ⟨⟨h1, _⟩, h2⟩
        have := h2 rfl
        exact ⟨h1, by rintro rfl; simp at this⟩
      · rintro ⟨h1, h2⟩
        exact ⟨⟨h1, by simp⟩, fun _ => by have := List.length_pos_iff.2 h2; simp; omega⟩
    · rw [if_neg e]
      exact ⟨fun q => q.1, fun q => ⟨q, fun z => absurd z e⟩⟩
  · unfold outN
    split
    · rename_i q
      obtain ⟨n1, _⟩ := new q
      exact List.pairwise_append.2 ⟨h.srt, List.pairwise_singleton _ _, fun o ho y hy => by rw [List.mem_singleton.1 hy]; exact n1 o ho⟩
    · exact h.srt
  · rw [hlen] at hj
    have hx' := hsub j x hx
    rcases outN_mem ho with q | q
    · exact h.low j hj x hx' o q
    · rw [q]; exact low j hj x hx'
  · rw [hlen] at hj
    rw [hrank] at hjr
    rcases h.past j r hj hjr x hx with q | ⟨o, ho, hk⟩
    · rw [hget]
      by_cases e : j = s0
      · rw [if_pos e]
        subst e
        rw [hct] at q
        rcases List.mem_cons.1 q with z | z
        · right
          by_cases w : out = [] ∨ ¬ key (lget out ((out.length : Int) - 1)) c
          · refine ⟨c, ?_, by rw [z]; exact key_refl c⟩
            unfold outN; rw [if_pos w]; simp
          · have w1 : out ≠ [] := fun p => w (.inl p)
            have w2 : key (lget out ((out.length : Int) - 1)) c := Decidable.not_not.1 fun p => w (.inr p)
            exact ⟨lget out ((out.length : Int) - 1), outN_sub (lget_mem out _ (by have := List.length_pos_iff.2 w1; omega)), by rw [z]; exact w2⟩
        · exact .inl z
      · rw [if_neg e]; exact .inl q
    · exact .inr ⟨o, outN_sub ho, hk⟩
  · by_cases w : out = [] ∨ ¬ key (lget out ((out.length : Int) - 1)) c
    · rcases outN_mem ho with q | q
      · exact h.fst o q
      · rw [q]; exact (new w).2
    · unfold outN at ho
      rw [if_neg w] at ho
      exact h.fst o ho
end G
end Go.Proofs.Ytkbgkkbinnclmaa
