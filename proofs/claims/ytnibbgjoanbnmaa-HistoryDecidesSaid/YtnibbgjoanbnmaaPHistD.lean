/- Histories: what a bunch holds. -/
import Derived.Test.YtnibbgjoanbnmaaPHistC
namespace Go.Proofs.Ytnibbgjoanbnmaa
open Go Go.Dm
set_option linter.unusedVariables false
set_option linter.unusedSimpArgs false
set_option linter.unusedSectionVars false
namespace G
abbrev too (l : List Span) (n : Nat) : Int := (lget l (n : Int)).To
abbrev frm0 (l : List Span) (n : Nat) : Int := (lget l (n : Int)).From
abbrev knd (l : List Span) (n : Nat) : Int := (lget l (n : Int)).Kind
def MinOf (P : Nat → Prop) (f : Nat → Int) (x : Int) : Prop := (∃ i, P i ∧ x = f i) ∧ ∀ i, P i → x ≤ f i
def MaxOf (P : Nat → Prop) (f : Nat → Int) (x : Int) : Prop := (∃ i, P i ∧ x = f i) ∧ ∀ i, P i → f i ≤ x
theorem MinOf.uniq {P : Nat → Prop} {f : Nat → Int} {x y : Int} (h1 : MinOf P f x) (h2 : MinOf P f y) : x = y := by
  obtain ⟨⟨i, a, b⟩, c⟩ := h1
  obtain ⟨⟨j, d, e⟩, g⟩ := h2
  have := c j d
  have := g i a
  omega
theorem MaxOf.uniq {P : Nat → Prop} {f : Nat → Int} {x y : Int} (h1 : MaxOf P f x) (h2 : MaxOf P f y) : x = y := by
  obtain ⟨⟨i, a, b⟩, c⟩ := h1
  obtain ⟨⟨j, d, e⟩, g⟩ := h2
  have := c j d
  have := g i a
  omega
theorem MinOf.ins {P Q : Nat → Prop} {f : Nat → Int} {x : Int} {n : Nat} (h : MinOf P f x) (hq : ∀ i, Q i ↔ P i ∨ i = n) : MinOf Q f (min x (f n)) := by
  obtain ⟨⟨i, a, b⟩, c⟩ := h
  refine ⟨?_, fun j hj => ?_⟩
  · by_cases e : x ≤ f n
    · exact ⟨i, (hq i).2 (.inl a), by omega⟩
    · exact ⟨n, (hq n).2 (.inr rfl), by omega⟩
  · rcases (hq j).1 hj with q | q
    · have := c j q; omega
    · subst q; omega
theorem MaxOf.ins {P Q : Nat → Prop} {f : Nat → Int} {x : Int} {n : Nat} (h : MaxOf P f x) (hq : ∀ i, Q i ↔ P i ∨ i = n) : MaxOf Q f (max x (f n)) := by
  obtain ⟨⟨i, a, b⟩, c⟩ := h
  refine ⟨?_, fun j hj => ?_⟩
  · by_cases e : f n ≤ x
    · exact ⟨i, (hq i).2 (.inl a), by omega⟩
    · exact ⟨n, (hq n).2 (.inr rfl), by omega⟩
  · rcases (hq j).1 hj with q | q
    · have := c j q; omega
    · subst q; omega
theorem MinOf.of {P Q : Nat → Prop} {f : Nat → Int} {x : Int} (h : MinOf P f x) (hq : ∀ i, Q i ↔ P i) : MinOf Q f x := by
  obtain ⟨⟨i, a, b⟩, c⟩ := h
  exact ⟨⟨i, (hq i).2 a, b⟩, fun j hj => c j ((hq j).1 hj)⟩
theorem MaxOf.of {P Q : Nat → Prop} {f : Nat → Int} {x : Int} (h : MaxOf P f x) (hq : ∀ i, Q i ↔ P i) : MaxOf Q f x := by
  obtain ⟨⟨i, a, b⟩, c⟩ := h
  exact ⟨⟨i, (hq i).2 a, b⟩, fun j hj => c j ((hq j).1 hj)⟩
theorem MinOf.one {Q : Nat → Prop} {f : Nat → Int} {n : Nat} (hq : ∀ i, Q i ↔ i = n) : MinOf Q f (f n) := ⟨⟨n, (hq n).2 rfl, rfl⟩, fun j hj => by rw [(hq j).1 hj]; exact Int.le_refl _⟩
theorem MaxOf.one {Q : Nat → Prop} {f : Nat → Int} {n : Nat} (hq : ∀ i, Q i ↔ i = n) : MaxOf Q f (f n) := ⟨⟨n, (hq n).2 rfl, rfl⟩, fun j hj => by rw [(hq j).1 hj]; exact Int.le_refl _⟩
/-- reads that count -/
def rdv (l : List Span) (v : Int) (i : Nat) : Prop := isR l i ∧ val l i = v
instance (l : List Span) (v : Int) (i : Nat) : Decidable (rdv l v i) := by unfold rdv; infer_instance
def rds (l : List Span) (n : Nat) (v : Int) : List Int := ((List.range n).filter fun i => decide (rdv l v i)).map fun i : Nat => (i : Int)
theorem rds_succ (l : List Span) (n : Nat) (v : Int) : rds l (n + 1) v = if rdv l v n then rds l n v ++ [(n : Int)] else rds l n v := by
  unfold rds
  rw [List.range_succ, List.filter_append, List.map_append]
  by_cases c : rdv l v n <;> simp [c]
theorem rds_nil {l : List Span} {n : Nat} {v : Int} (h : ∀ i, i < n → ¬ rdv l v i) : rds l n v = [] := by
  unfold rds
  rw [List.filter_eq_nil_iff.2 (fun i hi => by have := h i (List.mem_range.1 hi); simpa using this)]; rfl
structure SR (l : List Span) (n : Nat) (v : Int) (o : Option bunch) : Prop where
  no : o = none → ∀ i, i < n → ¬ rdv l v i
  wr : ∀ b, o = some b → b.write = -1
  rd : ∀ b, o = some b → b.reads = rds l n v
  fi : ∀ b, o = some b → MinOf (fun i => i < n ∧ rdv l v i) (too l) b.first
  la : ∀ b, o = some b → MaxOf (fun i => i < n ∧ rdv l v i) (frm0 l) b.last
theorem good_rng {l : List Span} (hg : Good l) {k : Nat} (hk : k < l.length) : 0 ≤ frm0 l k ∧ too l k ≤ 1000000000 ∧ (0 ≤ too l k ∨ too l k = -1) := by
  have := hg.rng k hk
  unfold rngBad at this
  dsimp only [frm0, too]
  omega
theorem sR_spec {l : List Span} (hg : Good l) : ∀ n, n ≤ l.length → ∀ v, SR l n v (look (sR l n).1 (sR l n).2 v)
  | 0, _, v => ⟨fun _ i hi => by omega, (fun b h => nomatch h), (fun b h => nomatch h), (fun b h => nomatch h), (fun b h => nomatch h)⟩
  | n + 1, hn, v => by
    have ih := sR_spec hg n (by omega)
    have hr := good_rng hg (k := n) (by omega)
    rw [sR]
    by_cases c : isR l n
    · rw [if_pos c]
      have hv := (put1_inv (f := fR l n) (sR_inv l n) (val l n) fun b => rfl).2 v
      rw [hv]
      by_cases e : v = val l n
      · rw [if_pos e]
        have hrd : rdv l v n := ⟨c, e.symm⟩
        have hiff : ∀ i, (i < n + 1 ∧ rdv l v i) ↔ (i < n ∧ rdv l v i) ∨ i = n := fun i => by
          constructor
          · rintro ⟨h1, h2⟩
            by_cases q : i = n
            · exact .inr q
            · exact .inl ⟨by omega, h2⟩
          · rintro (⟨h1, h2⟩ | rfl)
            · exact ⟨by omega, h2⟩
            · exact ⟨by omega, hrd⟩
        have ihv := ih v
        rw [← e]
        cases hb : look (sR l n).1 (sR l n).2 v with
        | none =>
          rw [hb] at ihv
          have hno := ihv.no rfl
          have hone : ∀ i, (i < n + 1 ∧ rdv l v i) ↔ i = n := fun i => by
            rw [hiff]
            exact ⟨fun h => h.elim (fun h => absurd h.2 (hno i h.1)) id, .inr⟩
          have e1 : min (1000000001 : Int) (too l n) = too l n := by omega
          have e2 : max (-1 : Int) (frm0 l n) = frm0 l n := by omega
          refine ⟨(fun h => nomatch h), fun b h => ?_, fun b h => ?_, fun b h => ?_, fun b h => ?_⟩
          all_goals cases h
          · rfl
          · show [] ++ [(n : Int)] = _
            rw [rds_succ, if_pos hrd, rds_nil hno]
          · show MinOf _ _ (min (1000000001 : Int) (too l n))
            rw [e1]; exact MinOf.one hone
          · show MaxOf _ _ (max (-1 : Int) (frm0 l n))
            rw [e2]; exact MaxOf.one hone
        | some b0 =>
          rw [hb] at ihv
          refine ⟨(fun h => nomatch h), fun b h => ?_, fun b h => ?_, fun b h => ?_, fun b h => ?_⟩
          all_goals cases h
          · exact ihv.wr b0 rfl
          · show b0.reads ++ [(n : Int)] = _
            rw [rds_succ, if_pos hrd, ihv.rd b0 rfl]
          · exact (ihv.fi b0 rfl).ins hiff
          · exact (ihv.la b0 rfl).ins hiff
      · rw [if_neg e]
        have hrd : ¬ rdv l v n := fun h => e h.2.symm
        have hiff : ∀ i, (i < n + 1 ∧ rdv l v i) ↔ (i < n ∧ rdv l v i) := fun i =>
          ⟨fun ⟨h1, h2⟩ => ⟨by by_cases q : i = n; · subst q; exact absurd h2 hrd
                               · omega, h2⟩, fun ⟨h1, h2⟩ => ⟨by omega, h2⟩⟩
        have ihv := ih v
        exact ⟨fun h i hi hh => ihv.no h i ((hiff i).1 ⟨hi, hh⟩).1 hh, ihv.wr, fun b h => by rw [rds_succ, if_neg hrd]; exact ihv.rd b h, fun b h => (ihv.fi b h).of hiff, fun b h => (ihv.la b h).of hiff⟩
    · rw [if_neg c]
      have hrd : ¬ rdv l v n := fun h => c h.1
      have hiff : ∀ i, (i < n + 1 ∧ rdv l v i) ↔ (i < n ∧ rdv l v i) := fun i =>
        ⟨fun ⟨h1, h2⟩ => ⟨by by_cases q : i = n; · subst q; exact absurd h2 hrd
                             · omega, h2⟩, fun ⟨h1, h2⟩ => ⟨by omega, h2⟩⟩
      have ihv := ih v
      exact ⟨fun h i hi hh => ihv.no h i ((hiff i).1 ⟨hi, hh⟩).1 hh, ihv.wr, fun b h => by rw [rds_succ, if_neg hrd]; exact ihv.rd b h, fun b h => (ihv.fi b h).of hiff, fun b h => (ihv.la b h).of hiff⟩
/-- a number's spans that count, of the writes the first n -/
def cn (l : List Span) (n : Nat) (v : Int) (i : Nat) : Prop := i < l.length ∧ (rdv l v i ∨ (i < n ∧ knd l i = 1 ∧ val l i = v ∧ (0 ≤ too l i ∨ ∃ k, k < l.length ∧ rdv l v k)))
structure SW (l : List Span) (n : Nat) (v : Int) (o : Option bunch) : Prop where
  no : o = none → ∀ i, ¬ cn l n v i
  wr : ∀ b, o = some b → (b.write = -1 ∧ ∀ i, i < n → ¬ (knd l i = 1 ∧ val l i = v)) ∨ ∃ i : Nat, i < n ∧ knd l i = 1 ∧ val l i = v ∧ b.write = i
  rd : ∀ b, o = some b → b.reads = rds l l.length v
  fi : ∀ b, o = some b → MinOf (fun i => cn l n v i ∧ 0 ≤ too l i) (too l) b.first
  la : ∀ b, o = some b → MaxOf (cn l n v) (frm0 l) b.last
theorem rdv_knd {l : List Span} {v : Int} {i : Nat} (h : rdv l v i) : ¬ knd l i = 1 := h.1.1
theorem rdv_too {l : List Span} {v : Int} {i : Nat} (h : rdv l v i) : 0 ≤ too l i := h.1.2
theorem sW_spec {l : List Span} (hg : Good l) : ∀ n, n ≤ l.length → ∀ v, SW l n v (look (sW l n).1 (sW l n).2 v)
  | 0, _, v => by
    have h := sR_spec hg l.length (Nat.le_refl _) v
    have hiff : ∀ i, cn l 0 v i ↔ (i < l.length ∧ rdv l v i) := fun i => by unfold cn; simp
    have hiff2 : ∀ i, (cn l 0 v i ∧ 0 ≤ too l i) ↔ (i < l.length ∧ rdv l v i) := fun i => by
      rw [hiff]; exact ⟨fun h => h.1, fun h => ⟨h, rdv_too h.2⟩⟩
    exact ⟨fun q i hi => h.no q i ((hiff i).1 hi).1 ((hiff i).1 hi).2, fun b hb => .inl ⟨h.wr b hb, fun i hi => by omega⟩, h.rd, fun b hb => (h.fi b hb).of hiff2, fun b hb => (h.la b hb).of hiff⟩
  | n + 1, hn, v => by
    have ih := sW_spec hg n (by omega)
    have hr := good_rng hg (k := n) (by omega)
    have ihv := ih v
    -- what is not of the write n stays
    have other : ¬ (knd l n = 1 ∧ val l n = v) → SW l (n + 1) v (look (sW l n).1 (sW l n).2 v) := fun hne => by
      have hiff : ∀ i, cn l (n + 1) v i ↔ cn l n v i := fun i => by
        unfold cn
        constructor
        · rintro ⟨h0, h | ⟨h1, h2, h3, h4⟩⟩
          · exact ⟨h0, .inl h⟩
          · refine ⟨h0, .inr ⟨?_, h2, h3, h4⟩⟩
            by_cases q : i = n
            · subst q; exact absurd ⟨h2, h3⟩ hne
            · omega
        · rintro ⟨h0, h | ⟨h1, h2, h3, h4⟩⟩
          · exact ⟨h0, .inl h⟩
          · exact ⟨h0, .inr ⟨by omega, h2, h3, h4⟩⟩
      refine ⟨fun q i hi => ihv.no q i ((hiff i).1 hi), fun b hb => ?_, ihv.rd, fun b hb => (ihv.fi b hb).of fun i => by rw [hiff], fun b hb => (ihv.la b hb).of hiff⟩
      rcases ihv.wr b hb with ⟨h1, h2⟩ | ⟨i, h1, h2⟩
      · refine .inl ⟨h1, fun i hi hh => ?_⟩
        by_cases q : i = n
        · subst q; exact hne hh
        · exact h2 i (by omega) hh
      · exact .inr ⟨i, by omega, h2⟩
    have hcn : ∀ j, cn l n v j → knd l n = 1 → val l n = v → rdv l v j ∧ j < l.length := fun j hj h1 h2 => by
      rcases hj with ⟨h0, h | ⟨h3, h4, h5, _⟩⟩
      · exact ⟨h, h0⟩
      · have := hg.one j n h0 (by omega) h4 h1 (h5.trans h2.symm)
        omega
    rw [sW]
    by_cases c : isW l (sW l n).1 n
    · rw [if_pos c]
      have hv := (put1_inv (f := fW l n) (sW_inv l n) (val l n) fun b => rfl).2 v
      rw [hv]
      by_cases e : v = val l n
      · rw [if_pos e, ← e]
        have hk : knd l n = 1 := c.1
        have huniq : ∀ i, i < n → ¬ (knd l i = 1 ∧ val l i = v) := fun i hi hh => by
          have := hg.one i n (by omega) (by omega) hh.1 hk (hh.2.trans e)
          omega
        cases hb : look (sW l n).1 (sW l n).2 v with
        | none =>
          rw [hb] at ihv
          have hno := ihv.no rfl
          have hnr : ∀ k, k < l.length → ¬ rdv l v k := fun k hk h => hno k ⟨hk, .inl h⟩
          have ht : 0 ≤ too l n := by
            rcases c.2 with h | h
            · exact h
            · exfalso
              unfold look at hb
              rw [← e] at h
              cases hm : mget (sW l n).1 v with
              | none => rw [hm] at h; cases h
              | some k => rw [hm] at hb; cases hb
          have hone : ∀ i, cn l (n + 1) v i ↔ i = n := fun i => by
            constructor
            · rintro ⟨h0, h | ⟨h1, h2, h3, h4⟩⟩
              · exact absurd h (hnr i h0)
              · by_cases q : i = n
                · exact q
                · exact absurd ⟨h2, h3⟩ (huniq i (by omega))
            · rintro rfl
              exact ⟨by omega, .inr ⟨by omega, hk, e.symm, .inl ht⟩⟩
          have hone2 : ∀ i, (cn l (n + 1) v i ∧ 0 ≤ too l i) ↔ i = n := fun i => by
            rw [hone]
            exact ⟨fun h => h.1, fun h => ⟨h, by rw [h]; exact ht⟩⟩
          have he : history_end (lget l (n : Int)) = too l n := by unfold history_end; rw [if_neg (d_f (by show ¬ too l n < 0; omega))]
          have e1 : min (1000000001 : Int) (too l n) = too l n := by omega
          have e2 : max (-1 : Int) (frm0 l n) = frm0 l n := by omega
          refine ⟨(fun h => nomatch h), fun b h => ?_, fun b h => ?_, fun b h => ?_, fun b h => ?_⟩
          all_goals cases h
          · exact .inr ⟨n, by omega, hk, e.symm, rfl⟩
          · exact (rds_nil hnr).symm
          · show MinOf _ _ (min (1000000001 : Int) (history_end (lget l (n : Int))))
            rw [he, e1]; exact MinOf.one hone2
          · show MaxOf _ _ (max (-1 : Int) (frm0 l n))
            rw [e2]; exact MaxOf.one hone
        | some b0 =>
          rw [hb] at ihv
          obtain ⟨⟨j, hj, _⟩, _⟩ := ihv.la b0 rfl
          have hrd := hcn j hj hk e.symm
          have hiff : ∀ i, cn l (n + 1) v i ↔ cn l n v i ∨ i = n := fun i => by
            constructor
            · rintro ⟨h0, h | ⟨h1, h2, h3, h4⟩⟩
              · exact .inl ⟨h0, .inl h⟩
              · by_cases q : i = n
                · exact .inr q
                · exact absurd ⟨h2, h3⟩ (huniq i (by omega))
            · rintro (⟨h0, h | ⟨h1, h2, h3, h4⟩⟩ | rfl)
              · exact ⟨h0, .inl h⟩
              · exact ⟨h0, .inr ⟨by omega, h2, h3, h4⟩⟩
              · exact ⟨by omega, .inr ⟨by omega, hk, e.symm, .inr ⟨j, hrd.2, hrd.1⟩⟩⟩
          refine ⟨(fun h => nomatch h), fun b h => ?_, fun b h => ?_, fun b h => ?_, fun b h => ?_⟩
          all_goals cases h
          · exact .inr ⟨n, by omega, hk, e.symm, rfl⟩
          · exact ihv.rd b0 rfl
          · show MinOf _ _ (min b0.first (history_end (lget l (n : Int))))
            have hf := ihv.fi b0 rfl
            rcases hr.2.2 with ht | ht
            · have he : history_end (lget l (n : Int)) = too l n := by unfold history_end; rw [if_neg (d_f (by show ¬ too l n < 0; omega))]
              rw [he]
              refine hf.ins fun i => ?_
              rw [hiff]
              constructor
              · rintro ⟨h1 | h1, h2⟩
                · exact .inl ⟨h1, h2⟩
                · exact .inr h1
              · rintro (⟨h1, h2⟩ | h1)
                · exact ⟨.inl h1, h2⟩
                · exact ⟨.inr h1, by rw [h1]; exact ht⟩
            · have he : history_end (lget l (n : Int)) = 1000000001 := by unfold history_end; rw [if_pos (d_t (by show too l n < 0; omega))]
              obtain ⟨i, ⟨hi, _⟩, e3⟩ := hf.1
              have := good_rng hg (k := i) hi.1
              rw [he]
              have e4 : min b0.first 1000000001 = b0.first := by omega
              rw [e4]
              refine hf.of fun i => ?_
              rw [hiff]
              constructor
              · rintro ⟨h1 | h1, h2⟩
                · exact ⟨h1, h2⟩
                · subst h1; omega
              · rintro ⟨h1, h2⟩
                exact ⟨.inl h1, h2⟩
          · exact (ihv.la b0 rfl).ins hiff
      · rw [if_neg e]
        exact other fun h => e h.2.symm
    · rw [if_neg c]
      by_cases hk : knd l n = 1 ∧ val l n = v
      · -- a write without an end that nobody read
        have hb : look (sW l n).1 (sW l n).2 v = none := by
          cases hb : look (sW l n).1 (sW l n).2 v with
          | none => rfl
          | some b =>
            exfalso
            refine c ⟨hk.1, .inr ?_⟩
            rw [hk.2]
            unfold look at hb
            cases hm : mget (sW l n).1 v with
            | none => rw [hm] at hb; cases hb
            | some k => rfl
        have ht : ¬ 0 ≤ too l n := fun h => c ⟨hk.1, .inl h⟩
        rw [hb] at ihv ⊢
        have hno := ihv.no rfl
        refine ⟨fun _ i hi => ?_, (fun b h => nomatch h), (fun b h => nomatch h), (fun b h => nomatch h), (fun b h => nomatch h)⟩
        rcases hi with ⟨h0, h | ⟨h1, h2, h3, h4⟩⟩
        · exact hno i ⟨h0, .inl h⟩
        · by_cases q : i = n
          · subst q
            rcases h4 with h4 | ⟨k, h5, h6⟩
            · exact ht h4
            · exact hno k ⟨h5, .inl h6⟩
          · exact hno i ⟨h0, .inr ⟨by omega, h2, h3, h4⟩⟩
      · exact other hk
/-- a number's spans that count -/
def cnt (l : List Span) (v : Int) (i : Nat) : Prop := cn l l.length v i
structure BOk (l : List Span) (b : bunch) : Prop where
  wr : (b.write = -1 ∧ ∀ i, i < l.length → ¬ (knd l i = 1 ∧ val l i = b.value)) ∨ ∃ i : Nat, i < l.length ∧ knd l i = 1 ∧ val l i = b.value ∧ b.write = i
  rd : b.reads = rds l l.length b.value
  fi : (b.value = 0 ∧ b.first = -1) ∨ (b.value ≠ 0 ∧ MinOf (fun i => cnt l b.value i ∧ 0 ≤ too l i) (too l) b.first)
  la : MaxOf (cnt l b.value) (frm0 l) b.last
def BB (l : List Span) : List bunch := zero1 (sW l l.length)
theorem bb_ok {l : List Span} (hg : Good l) : ∀ k : Nat, k < (BB l).length → BOk l (lget (BB l) (k : Int)) := fun k hk => by
  have hi := zero1_inv (sW_inv l l.length)
  have h1 := (inv_look hi.1 _ (lget (BB l) (k : Int))).2 ⟨k, hk, rfl, rfl⟩
  rw [hi.2, Option.map_eq_some_iff] at h1
  obtain ⟨b, h2, h3⟩ := h1
  have hs := sW_spec hg l.length (Nat.le_refl _) (lget (BB l) (k : Int)).value
  rw [h2] at hs
  by_cases e : (lget (BB l) (k : Int)).value = 0
  · rw [if_pos e] at h3
    have hv := look_value (sW_inv l l.length) h2
    rw [← h3] at hs ⊢
    exact ⟨hs.wr b rfl, hs.rd b rfl, .inl ⟨hv.trans e, rfl⟩, hs.la b rfl⟩
  · rw [if_neg e] at h3
    have hv := look_value (sW_inv l l.length) h2
    rw [h3] at hs
    exact ⟨hs.wr _ rfl, hs.rd _ rfl, .inr ⟨e, hs.fi _ rfl⟩, hs.la _ rfl⟩
theorem bb_has {l : List Span} (hg : Good l) (v : Int) : (∃ i, cnt l v i) ↔ ∃ k : Nat, k < (BB l).length ∧ (lget (BB l) (k : Int)).value = v := by
  have hi := zero1_inv (sW_inv l l.length)
  have hs := sW_spec hg l.length (Nat.le_refl _) v
  constructor
  · rintro ⟨i, h⟩
    cases hb : look (sW l l.length).1 (sW l l.length).2 v with
    | none => rw [hb] at hs; exact absurd h (hs.no rfl i)
    | some b =>
      have h1 := hi.2 v
      rw [hb, Option.map_some] at h1
      obtain ⟨k, a, _, c⟩ := (inv_look hi.1 v _).1 h1
      refine ⟨k, a, ?_⟩
      rw [show lget (BB l) (k : Int) = _ from (by assumption)]; exact c
  · rintro ⟨k, hk, e⟩
    have h := (bb_ok hg k hk).la.1
    obtain ⟨i, h1, _⟩ := h
    rw [e] at h1
    exact ⟨i, h1⟩
theorem bb_inj {l : List Span} {j k : Nat} (hj : j < (BB l).length) (hk : k < (BB l).length) (e : (lget (BB l) (j : Int)).value = (lget (BB l) (k : Int)).value) : j = k := inv_inj (zero1_inv (sW_inv l l.length)).1 hj hk e
end G
end Go.Proofs.Ytnibbgjoanbnmaa
