/- Histories: where no two numbers clash there is an order: number by number. -/
import Derived.Test.YtnibbgjoanbnmaaPHistJ
namespace Go.Proofs.Ytnibbgjoanbnmaa
open Go Go.Dm
set_option linter.unusedVariables false
set_option linter.unusedSimpArgs false
set_option linter.unusedSectionVars false
namespace G
/-- what stands together for a number -/
structure BlkOk (l : List Span) (v : Int) (s : List Int) : Prop where
  mem : ∀ z, z ∈ s ↔ (z ∈ cl l l.length ∧ (lget l z).Value = v)
  nd : s.Nodup
  sh : (v = 0 ∧ ∀ z ∈ s, (lget l z).Kind ≠ 1) ∨ (v ≠ 0 ∧ ∃ w r, s = w :: r ∧ (lget l w).Kind = 1 ∧ ∀ z ∈ r, (lget l z).Kind ≠ 1)
  ah : s.Pairwise fun x y => ¬ ahd l y x
theorem RV_app {l : List Span} : ∀ {s o : List Int} {now v : Int}, (∀ z ∈ s, (lget l z).Value = v) → RV l now s → s ≠ [] → RV l v o → RV l now (s ++ o)
  | [], o, now, v, _, _, h, _ => absurd rfl h
  | [z], o, now, v, hs, h, _, ho => by
    have hz := hs z (by simp)
    rcases h with ⟨h1, _⟩ | ⟨h1, h2, _⟩
    · exact .inl ⟨h1, by rw [hz]; exact ho⟩
    · refine .inr ⟨h1, h2, ?_⟩
      rw [← h2, hz]; exact ho
  | z :: y :: s, o, now, v, hs, h, _, ho => by
    have hs' : ∀ x ∈ y :: s, (lget l x).Value = v := fun x hx => hs x (List.mem_cons_of_mem _ hx)
    rcases h with ⟨h1, h2⟩ | ⟨h1, h2, h3⟩
    · exact .inl ⟨h1, RV_app hs' h2 (by simp) ho⟩
    · exact .inr ⟨h1, h2, RV_app hs' h3 (by simp) ho⟩
theorem RV_reads {l : List Span} {v : Int} : ∀ {r : List Int}, (∀ z ∈ r, (lget l z).Kind ≠ 1 ∧ (lget l z).Value = v) → RV l v r
  | [], _ => trivial
  | z :: r, h => .inr ⟨(h z (by simp)).1, (h z (by simp)).2, RV_reads fun x hx => h x (List.mem_cons_of_mem _ hx)⟩
theorem BlkOk.rv {l : List Span} {v : Int} {s : List Int} (h : BlkOk l v s) {now : Int} (hn : v = 0 → now = 0) : RV l now s := by
  rcases h.sh with ⟨h1, h2⟩ | ⟨h1, w, r, rfl, h3, h4⟩
  · rw [hn h1]
    exact RV_reads fun z hz => ⟨h2 z hz, ((h.mem z).1 hz).2.trans h1⟩
  · refine .inl ⟨h3, ?_⟩
    rw [((h.mem w).1 (by simp)).2]
    exact RV_reads fun z hz => ⟨h4 z hz, ((h.mem z).1 (by simp [hz])).2⟩
theorem lb_pos {l : List Span} (hg : Good l) {v : Int} (hv : has l v) : 0 ≤ lbV l v := by
  obtain ⟨⟨i, h1, h2⟩, _⟩ := lb_max hg hv
  have := (good_rng hg (k := i) ((cnt_iff hg v i).1 h1).1).1
  omega
theorem has_ne {l : List Span} {v : Int} {s : List Int} (hg : Good l) (hv : has l v) (h : BlkOk l v s) : s ≠ [] := by
  obtain ⟨i, hi⟩ := hv
  have := (h.mem (i : Int)).2 (cnt_cl hg hi)
  rintro rfl
  simp at this
theorem rv_blocks {l : List Span} (hg : Good l) (bl : Int → List Int) : ∀ (vs : List Int) (now : Int), (∀ v ∈ vs, has l v ∧ BlkOk l v (bl v)) → (0 ∈ vs → ∃ r, vs = 0 :: r ∧ 0 ∉ r ∧ now = 0) → RV l now (vs.flatMap bl)
  | [], now, _, _ => trivial
  | v :: vs, now, h, h0 => by
    rw [List.flatMap_cons]
    obtain ⟨h1, h2⟩ := h v (by simp)
    refine RV_app (v := v) (fun z hz => ((h2.mem z).1 hz).2) (h2.rv fun e => ?_) (has_ne hg h1 h2) (rv_blocks hg bl vs v (fun w hw => h w (List.mem_cons_of_mem _ hw)) fun hz => ?_)
    · subst e
      obtain ⟨_, _, _, q⟩ := h0 (by simp)
      exact q
    · exfalso
      obtain ⟨r, q1, q2, _⟩ := h0 (List.mem_cons_of_mem _ hz)
      simp only [List.cons.injEq] at q1
      rw [q1.2] at hz
      exact q2 hz
theorem blocks_ord {l : List Span} (hg : Good l) {vs : List Int} (bl : Int → List Int) (hb : ∀ v ∈ vs, BlkOk l v (bl v)) (hvs : ∀ v, v ∈ vs ↔ has l v) (nd : vs.Nodup) (hp : vs.Pairwise fun v w => lbV l v ≤ feV l w) : IsOrd l (vs.flatMap bl) := by
  have hcl : ∀ z ∈ cl l l.length, has l (lget l z).Value := fun z hz => by
    obtain ⟨i, h1, h2, rfl⟩ := mem_cl.1 hz
    exact ⟨i, (cnt_iff hg _ i).2 ⟨h1, rfl, h2⟩⟩
  refine ⟨?_, ?_, ?_⟩
  · refine (List.perm_ext_iff_of_nodup ?_ (cl_nodup l)).2 fun z => ?_
    · refine List.pairwise_flatMap.2 ⟨fun v hv => (hb v hv).nd, nd.imp_of_mem fun {v w} hv hw hne x hx y hy e => ?_⟩
      subst e
      exact hne ((((hb v hv).mem x).1 hx).2.symm.trans (((hb w hw).mem x).1 hy).2)
    · rw [List.mem_flatMap]
      constructor
      · rintro ⟨v, hv, hz⟩; exact (((hb v hv).mem z).1 hz).1
      · intro hz
        have hv := (hvs _).2 (hcl z hz)
        exact ⟨_, hv, ((hb _ hv).mem z).2 ⟨hz, rfl⟩⟩
  · refine List.pairwise_flatMap.2 ⟨fun v hv => (hb v hv).ah, hp.imp_of_mem fun {v w} hv hw hle x hx y hy h => ?_⟩
    obtain ⟨x1, x2⟩ := ((hb v hv).mem x).1 hx
    obtain ⟨y1, y2⟩ := ((hb w hw).mem y).1 hy
    have hlb := lb_max hg ((hvs v).1 hv)
    obtain ⟨i, i1, i2, rfl⟩ := mem_cl.1 x1
    obtain ⟨j, j1, j2, rfl⟩ := mem_cl.1 y1
    have a1 := hlb.2 i ((cnt_iff hg v i).2 ⟨i1, x2, i2⟩)
    by_cases c : w = 0
    · subst c
      have := lb_pos hg ((hvs v).1 hv)
      have e : feV l 0 = -1 := by unfold feV; rw [if_pos rfl]
      omega
    · have hfe := fe_min hg c ((hvs w).1 hw)
      have a2 := hfe.2 j ⟨(cnt_iff hg w j).2 ⟨j1, y2, j2⟩, h.1⟩
      have h2 := h.2
      dsimp only [frm0, too] at a1 a2
      omega
  · refine rv_blocks hg bl vs 0 (fun v hv => ⟨(hvs v).1 hv, hb v hv⟩) fun hz => ?_
    match vs, nd, hp, hz, hvs with
    | v :: r, nd, hp, hz, hvs =>
      rcases List.mem_cons.1 hz with rfl | hz
      · exact ⟨r, rfl, (List.nodup_cons.1 nd).1, rfl⟩
      · exfalso
        have h1 := (List.pairwise_cons.1 hp).1 0 hz
        have h2 := lb_pos hg ((hvs v).1 (by simp))
        have e : feV l 0 = -1 := by unfold feV; rw [if_pos rfl]
        omega
/-- one block -/
theorem blk_of {l : List Span} (hg : Good l) {v : Int} (hv : has l v) (hs : ¬ SC l v) {wl r : List Int} (hw : (wl = [] ∧ ∀ i, i < l.length → ¬ (knd l i = 1 ∧ val l i = v)) ∨ ∃ w : Nat, w < l.length ∧ knd l w = 1 ∧ val l w = v ∧ wl = [(w : Int)])
    (hr : r.Perm (rds l l.length v)) (hu : r.Pairwise fun x y => (lget l x).From ≤ (lget l y).From) : BlkOk l v (wl ++ r) := by
  have hmr : ∀ z, z ∈ r ↔ ∃ i : Nat, i < l.length ∧ rdv l v i ∧ z = i := fun z => by rw [hr.mem_iff, mem_rds]
  have hndr : r.Nodup := hr.nodup_iff.2 (List.pairwise_map.2 ((List.nodup_range.filter _).imp fun h e => h (by omega)))
  have hrk : ∀ z ∈ r, (lget l z).Kind ≠ 1 := fun z hz => by
    obtain ⟨i, _, h2, rfl⟩ := (hmr z).1 hz
    exact h2.1.1
  have hrc : ∀ z ∈ r, z ∈ cl l l.length ∧ (lget l z).Value = v := fun z hz => by
    obtain ⟨i, h1, h2, rfl⟩ := (hmr z).1 hz
    exact ⟨mem_cl.2 ⟨i, h1, .inl h2.1.2, rfl⟩, h2.2⟩
  have hrr : ∀ i : Nat, cnt l v i → knd l i ≠ 1 → (i : Int) ∈ r := fun i hi hk => by
    obtain ⟨h1, h2, h3⟩ := (cnt_iff hg v i).1 hi
    refine (hmr _).2 ⟨i, h1, ⟨⟨hk, ?_⟩, h2⟩, rfl⟩
    rcases h3 with h3 | h3
    · exact h3
    · exact absurd h3.1 hk
  have hra : r.Pairwise fun x y => ¬ ahd l y x := hu.imp_of_mem fun {x y} hx hy hle h => by
    obtain ⟨j, j1, j2, rfl⟩ := (hmr y).1 hy
    have := hg.rng j j1
    unfold rngBad at this
    unfold ahd at h
    omega
  have hcnt : ∀ z, z ∈ cl l l.length ∧ (lget l z).Value = v ↔ ∃ i : Nat, cnt l v i ∧ z = i := fun z => mem_cnt hg
  rcases hw with ⟨rfl, hno⟩ | ⟨w, w1, w2, w3, rfl⟩
  · rw [List.nil_append]
    refine ⟨fun z => ⟨hrc z, fun hz => ?_⟩, hndr, ?_, hra⟩
    · obtain ⟨i, hi, rfl⟩ := (hcnt z).1 hz
      obtain ⟨h1, h2, h3⟩ := (cnt_iff hg v i).1 hi
      exact hrr i hi fun hk => hno i h1 ⟨hk, h2⟩
    · refine .inl ⟨?_, hrk⟩
      apply Classical.byContradiction
      intro h0
      exact hs ⟨h0, .inl fun i hi hk => hno i hi hk⟩
  · have hv0 : v ≠ 0 := by
      have := val_ne0 hg (z := (w : Int)) (by omega) w2
      rw [← w3]; exact this
    have hwc : cnt l v w := by
      obtain ⟨i, hi⟩ := hv
      obtain ⟨h1, h2, h3⟩ := (cnt_iff hg v i).1 hi
      by_cases hk : knd l i = 1
      · have := hg.one i w h1 w1 hk w2 (h2.trans w3.symm)
        rw [← this]; exact hi
      · refine (cnt_iff hg v w).2 ⟨w1, w3, .inr ⟨w2, i, h1, ?_⟩⟩
        rw [w3, rdK_iff hg h1]
        rcases h3 with h3 | h3
        · exact ⟨⟨hk, h3⟩, h2⟩
        · exact absurd h3.1 hk
    refine ⟨fun z => ?_, ?_, .inr ⟨hv0, (w : Int), r, rfl, w2, hrk⟩, ?_⟩
    · rw [List.singleton_append, List.mem_cons]
      constructor
      · rintro (rfl | hz)
        · exact (hcnt _).2 ⟨w, hwc, rfl⟩
        · exact hrc z hz
      · intro hz
        obtain ⟨i, hi, rfl⟩ := (hcnt z).1 hz
        by_cases hk : knd l i = 1
        · obtain ⟨h1, h2, _⟩ := (cnt_iff hg v i).1 hi
          exact .inl (by rw [hg.one i w h1 w1 hk w2 (h2.trans w3.symm)])
        · exact .inr (hrr i hi hk)
    · rw [List.singleton_append, List.nodup_cons]
      exact ⟨fun h => hrk _ h w2, hndr⟩
    · rw [List.singleton_append, List.pairwise_cons]
      refine ⟨fun y hy h => ?_, hra⟩
      obtain ⟨j, j1, j2, rfl⟩ := (hmr y).1 hy
      exact hs ⟨hv0, .inr ⟨w, j, w1, ⟨w2, w3⟩, j1, (rdK_iff hg j1 v).2 j2, h.2⟩⟩
/-- all in an order -/
theorem exists_order (f b : Int → Int) : ∀ (n : Nat) (S : List Int), S.length = n → S.Nodup → (∀ v ∈ S, ∀ w ∈ S, v ≠ w → ¬ (f v < b w ∧ f w < b v)) → ∃ vs : List Int, vs.Perm S ∧ vs.Pairwise fun v w => b v ≤ f w
  | 0, S, h, _, _ => ⟨[], by rw [List.eq_nil_of_length_eq_zero h], .nil⟩
  | n + 1, S, h, nd, hc => by
    obtain ⟨v, hv, hm⟩ := exists_first f b S (by rintro rfl; simp at h) hc
    have hp := List.perm_cons_erase hv
    have hnd2 : (v :: S.erase v).Nodup := hp.nodup_iff.1 nd
    obtain ⟨vs, h1, h2⟩ := exists_order f b n (S.erase v) (by rw [List.length_erase_of_mem hv, h]; rfl) (List.nodup_cons.1 hnd2).2 (fun a ha c hc' => hc a (List.mem_of_mem_erase ha) c (List.mem_of_mem_erase hc'))
    refine ⟨v :: vs, (h1.cons v).trans hp.symm, List.pairwise_cons.2 ⟨fun w hw => ?_, h2⟩⟩
    have hw' := h1.mem_iff.1 hw
    exact hm w (List.mem_of_mem_erase hw') (by rintro rfl; exact (List.nodup_cons.1 hnd2).1 hw')
theorem noclash_ord {l : List Span} (hg : Good l) (hc : ∀ a b, has l a → has l b → ¬ CL l a b) : ∃ o, IsOrd l o := by
  have hS : ∀ v, v ∈ (List.range (BB l).length).map (fun k : Nat => (lget (BB l) (k : Int)).value) ↔ has l v := fun v => by
    show _ ↔ ∃ i, cnt l v i
    rw [bb_has hg]
    simp [List.mem_map]
  have hnd : ((List.range (BB l).length).map (fun k : Nat => (lget (BB l) (k : Int)).value)).Nodup := inv_nodup (zero1_inv (sW_inv l l.length)).1
  obtain ⟨vs, h1, h2⟩ := exists_order (feV l) (lbV l) _ _ rfl hnd (fun v hv w hw hne h => by
    refine hc v w ((hS v).1 hv) ((hS w).1 hw) ?_
    unfold CL
    rw [if_neg hne]; exact h)
  have hvs : ∀ v, v ∈ vs ↔ has l v := fun v => by rw [h1.mem_iff]; exact hS v
  have hself : ∀ v, has l v → ¬ SC l v := fun v hv h => hc v v hv hv (by unfold CL; rw [if_pos rfl]; exact h)
  have hbl : ∀ v, ∃ s, has l v → BlkOk l v s := fun v => by
    by_cases hv : has l v
    · have hu := List.pairwise_mergeSort (le := fun x y => decide ((lget l x).From ≤ (lget l y).From)) (fun a b c => by simp only [decide_eq_true_eq]; omega) (fun a b => by simp only [Bool.or_eq_true, decide_eq_true_eq]; omega) (rds l l.length v)
      have hu := hu.imp (S := fun x y => (lget l x).From ≤ (lget l y).From) (fun {a b} h => by simpa using h)
      have hr := List.mergeSort_perm (rds l l.length v) (fun x y => decide ((lget l x).From ≤ (lget l y).From))
      rcases range_any (fun i => knd l i = 1 ∧ val l i = v) l.length with ⟨w, w1, w2, w3⟩ | hno
      · exact ⟨_, fun _ => blk_of hg hv (hself v hv) (.inr ⟨w, w1, w2, w3, rfl⟩) hr hu⟩
      · exact ⟨_, fun _ => blk_of hg hv (hself v hv) (.inl ⟨rfl, hno⟩) hr hu⟩
    · exact ⟨[], fun h => absurd h hv⟩
  obtain ⟨bl, hbl⟩ := Classical.axiomOfChoice hbl
  exact ⟨_, blocks_ord hg bl (fun v hv => hbl v ((hvs v).1 hv)) hvs (h1.nodup_iff.2 hnd) h2⟩
end G
end Go.Proofs.Ytnibbgjoanbnmaa
