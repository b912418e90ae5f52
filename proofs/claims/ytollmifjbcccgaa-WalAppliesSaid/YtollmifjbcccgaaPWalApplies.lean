/- Every Apply puts notes into cells, in whatever portions they come. -/
import Derived.Test.YtollmifjbcccgaaPWalG
namespace Go.Proofs.Ytollmifjbcccgaa
open Go Go.Dm
set_option linter.unusedVariables false
set_option linter.unusedSectionVars false
set_option linter.unusedSimpArgs false
namespace G
/-- the first note that is not fine -/
noncomputable def nF : List Note → Int → Fault
  | [], _ => ⟨0, 0⟩
  | n :: l, i => if (noteF n).Code = 0 then nF l (i + 1) else ⟨(noteF n).Code, i⟩
theorem nF_good : ∀ (l : List Note) (i : Int), (nF l i).Code = 0 → nF l i = ⟨0, 0⟩ ∧ ∀ n ∈ l, NGood n
  | [], _, _ => ⟨rfl, fun n h => by cases h⟩
  | n :: l, i, h => by
    rw [nF] at h ⊢
    by_cases c : (noteF n).Code = 0
    · rw [if_pos c] at h ⊢
      obtain ⟨h1, h2⟩ := nF_good l (i + 1) h
      exact ⟨h1, fun m hm => (List.mem_cons.1 hm).elim (fun e => by rw [e]; exact noteF_good c) (h2 m)⟩
    · rw [if_neg c] at h; exact absurd h c
theorem nF_zero : ∀ (l : List Note) (i : Int), (∀ n ∈ l, NGood n) → nF l i = ⟨0, 0⟩
  | [], _, _ => rfl
  | n :: l, i, h => by
    rw [nF, if_pos (by rw [(h n (List.mem_cons_self ..)).f])]
    exact nF_zero l (i + 1) fun m hm => h m (List.mem_cons_of_mem _ hm)
noncomputable def applyS (l : List Cell) (ns : List Note) : List Cell × Fault :=
  if ¬ (cellF l).Code = 0 then ([], cellF l) else if 1000 < ns.length then ([], ⟨2, -1⟩) else if ¬ (nF ns 0).Code = 0 then ([], nF ns 0) else
    if 1000 < (firsts (allC ns ++ l)).length then ([], ⟨9, -1⟩) else (firsts (allC ns ++ l), ⟨0, 0⟩)
theorem apply_loop (l : List Cell) (ns : List Note) (hl : Good l) (hn : ns.length ≤ 1000) (f0 : Fault) : ∀ (m k : Nat), ns.length - k = m → k ≤ ns.length → nF ns 0 = nF (ns.drop k) k →
    wal_Apply_v1_L1 l ns (f0, (k : Int)) = some (if ¬ (nF ns 0).Code = 0 then ([], nF ns 0) else if 1000 < (firsts (allC ns ++ l)).length then ([], ⟨9, -1⟩) else (firsts (allC ns ++ l), ⟨0, 0⟩)) := by
  intro m
  induction m with
  | zero =>
    intro k e hk h0
    have hkl : k = ns.length := by omega
    subst hkl
    rw [List.drop_length] at h0
    refine loopO_inr ?_
    unfold wal_Apply_v1_B1 wal_Apply_v1_J1
    dsimp only
    have hz : nF ns 0 = ⟨0, 0⟩ := h0
    have hg := (nF_good ns 0 (by rw [hz])).2
    have hlen := hl.len
    have hal := allC_len ns fun n h => (hg n h).len
    rw [if_neg (d_f (by omega)), put_eq l ns (by omega) (by omega) (by omega), ob_some]
    by_cases c : 1000 < (firsts (allC ns ++ l)).length
    · rw [if_pos (d_t (by omega)), hz, if_neg (by simp), if_pos c]; rfl
    · rw [if_neg (d_f (by omega)), hz, if_neg (by simp), if_neg c]; rfl
  | succ m ih =>
    intro k e hk h0
    have hkl : k < ns.length := by omega
    have hB : wal_Apply_v1_B1 l ns (f0, (k : Int)) = if (noteF (lget ns (k : Int))).Code = 0 then some (.inl (f0, ((k + 1 : Nat) : Int))) else some (.inr ([], ⟨(noteF (lget ns (k : Int))).Code, k⟩)) := by
      unfold wal_Apply_v1_B1
      dsimp only
      rw [if_pos (d_t (by omega)), asrt_pos (by omega), note_eta, wcheck_eq, ob_some]
      by_cases c : (noteF (lget ns (k : Int))).Code = 0
      · rw [if_neg (n_f c), if_pos c]
        have : w64 ((k : Int) + 1) = ((k + 1 : Nat) : Int) := by rw [w64_id (by omega) (by omega)]; omega
        rw [this]
      · rw [if_pos (n_t c), if_neg c]; rfl
    rw [lget_drop ns k hkl, nF] at h0
    by_cases c : (noteF (lget ns (k : Int))).Code = 0
    · rw [if_pos c] at h0
      exact (loopO_inl (by rw [hB, if_pos c])).trans (ih (k + 1) (by omega) (by omega) h0)
    · rw [if_neg c] at h0
      refine loopO_inr ?_
      rw [hB, if_neg c, h0, if_pos c]
theorem apply_eq (l : List Cell) (ns : List Note) : wal_Apply_v1 l ns = some (applyS l ns) := by
  unfold wal_Apply_v1 applyS
  rw [check_eq, ob_some]
  by_cases c : (cellF l).Code = 0
  · rw [if_neg (n_f c), if_neg (not_not_intro c)]
    by_cases c2 : 1000 < ns.length
    · rw [if_pos (d_t (by omega)), if_pos c2]; rfl
    · rw [if_neg (d_f (by omega)), if_neg c2]
      exact apply_loop l ns (cellF_good c) (by omega) _ ns.length 0 (by omega) (by omega) rfl
  · rw [if_pos (n_t c), if_pos c]
def csum (l : List Note) : Nat := (l.map fun x => x.Cells.length).sum
theorem csum_le : ∀ (l : List Note), (∀ n ∈ l, n.Cells.length ≤ 140737488351232) → csum l ≤ 140737488351232 * l.length
  | [], _ => by simp [csum]
  | n :: l, h => by
    have h1 := csum_le l fun m hm => h m (List.mem_cons_of_mem _ hm)
    have h2 := h n (List.mem_cons_self ..)
    simp only [csum, List.map_cons, List.sum_cons, List.length_cons] at h1 ⊢
    omega
theorem csum_mem : ∀ (l : List Note) (n : Note), n ∈ l → n.Cells.length ≤ csum l
  | m :: l, n, h => by
    simp only [csum, List.map_cons, List.sum_cons]
    rcases List.mem_cons.1 h with e | e
    · rw [e]; omega
    · have := csum_mem l n e
      simp only [csum] at this
      omega
theorem vast_loop (l : List Note) (hl : l.length ≤ 1100) (hc : ∀ n ∈ l, n.Cells.length ≤ 140737488351232) : ∀ (m k v : Nat), l.length - k = m → k ≤ l.length → v ≤ 140737488351232 * k → law_vastNotes_L1 l ((v : Int), (k : Int)) = some (decide (1300 < v + csum (l.drop k))) := by
  intro m
  induction m with
  | zero =>
    intro k v e hk hv
    have : k = l.length := by omega
    subst this
    refine loopO_inr ?_
    unfold law_vastNotes_B1 law_vastNotes_J1
    dsimp only
    rw [if_neg (d_f (by omega)), List.drop_length, decide_eq_false (by omega : ¬ (1100 < (l.length : Int)))]
    show some (Sum.inr _) = _
    simp only [csum, List.map_nil, List.sum_nil, Nat.add_zero, Bool.false_or]
    congr 2
    exact decide_eq_decide.2 (by omega)
  | succ m ih =>
    intro k v e hk hv
    have h1 := hc _ (lget_mem l (k : Int) (by omega))
    have := ih (k + 1) (v + (lget l (k : Int)).Cells.length) (by omega) (by omega) (by omega)
    rw [lget_drop l k (by omega)]
    have e2 : csum (lget l (k : Int) :: l.drop (k + 1)) = (lget l (k : Int)).Cells.length + csum (l.drop (k + 1)) := rfl
    rw [e2, ← Nat.add_assoc]
    refine (loopO_inl ?_).trans this
    unfold law_vastNotes_B1
    dsimp only
    have w1 : w64 ((k : Int) + 1) = ((k + 1 : Nat) : Int) := by rw [w64_id (by omega) (by omega)]; omega
    have w2 : w64 ((v : Int) + ((lget l (k : Int)).Cells.length : Int)) = ((v + (lget l (k : Int)).Cells.length : Nat) : Int) := by rw [w64_id (by omega) (by omega)]; omega
    rw [if_pos (d_t (by omega)), asrt_pos (by omega), w1, w2]
theorem vast_long (l : List Note) (hl : l.length ≤ 140737488351232) (h2 : 1100 < l.length) : ∀ (m k : Nat) (v : Int), l.length - k = m → k ≤ l.length → law_vastNotes_L1 l (v, (k : Int)) = some true := by
  intro m
  induction m with
  | zero =>
    intro k v e hk
    refine loopO_inr ?_
    unfold law_vastNotes_B1 law_vastNotes_J1
    dsimp only
    rw [if_neg (d_f (by omega)), decide_eq_true (by omega : (1100 < (l.length : Int)))]; rfl
  | succ m ih =>
    intro k v e hk
    refine (loopO_inl ?_).trans (ih (k + 1) (w64 (v + (((lget l (k : Int)).Cells).length : Int))) (by omega) (by omega))
    unfold law_vastNotes_B1
    dsimp only
    have : w64 ((k : Int) + 1) = ((k + 1 : Nat) : Int) := by rw [w64_id (by omega) (by omega)]; omega
    rw [if_pos (d_t (by omega)), asrt_pos (by omega), this]
theorem vast_run (l : List Note) (hl : l.length ≤ 140737488351232) (hc : ∀ n ∈ l, n.Cells.length ≤ 140737488351232) : ∃ b, law_vastNotes l = some b ∧ (b = false → l.length ≤ 1100 ∧ ∀ n ∈ l, n.Cells.length ≤ 1300) := by
  by_cases h : 1100 < l.length
  · exact ⟨true, vast_long l hl h l.length 0 0 (by omega) (by omega), fun h => by cases h⟩
  · refine ⟨_, vast_loop l (by omega) hc l.length 0 0 (by omega) (by omega) (by omega), fun h2 => ⟨by omega, fun n hn => ?_⟩⟩
    have := of_decide_eq_false h2
    have := csum_mem l n hn
    rw [List.drop_zero] at *
    omega
theorem ownNotes_eq (l : List Note) (hl : l.length ≤ 1100) (hc : ∀ n ∈ l, n.Cells.length ≤ 1000000) : law_ownNotes_v1 l = some l := by
  unfold law_ownNotes_v1 law_ownNotes_v1_L1
  refine loop_run (step := fun y => law_ownNotes_v1_B1 l y) l.length (fun k => (l.take k, (k : Int))) (fun k hk => ?_) ?_
  · have hw : w64 ((k : Int) + 1) = ((k + 1 : Nat) : Int) := by rw [w64_id (by omega) (by omega)]; omega
    have hn := hc _ (lget_mem l (k : Int) (by omega))
    show law_ownNotes_v1_B1 l (l.take k, (k : Int)) = some (.inl (l.take (k + 1), ((k + 1 : Nat) : Int)))
    unfold law_ownNotes_v1_B1 law_ownNote law_ownCells_v1
    dsimp only
    rw [if_pos (d_t (by omega)), asrt_pos (by omega), asrt_pos (by omega), ob_some, ob_some, note_eta, hw, ← lget_take l k hk, asrt_pos (by rw [List.length_take]; omega)]
  · show law_ownNotes_v1_B1 l (l.take l.length, (l.length : Int)) = _
    unfold law_ownNotes_v1_B1
    dsimp only
    rw [if_neg (d_f (by omega)), List.take_length]; rfl
theorem sameNote_self (n : Note) (h : n.Cells.length ≤ 1000000) : R_SameNote n n = some true := by
  unfold R_SameNote
  rw [if_pos (d_t rfl), sameCells_self _ h, ob_some]; simp
theorem sameNotes_self (l : List Note) (hl : l.length ≤ 1000000) (hc : ∀ n ∈ l, n.Cells.length ≤ 1000000) : R_SameNotes l l = some true := by
  unfold R_SameNotes
  rw [if_neg (by simp)]
  refine loop_run (step := fun y => R_SameNotes_B1 l l y) l.length (fun k => (k : Int)) (fun k hk => ?_) ?_
  · have hw : w64 ((k : Int) + 1) = ((k + 1 : Nat) : Int) := by rw [w64_id (by omega) (by omega)]; omega
    show R_SameNotes_B1 l l (k : Int) = _
    unfold R_SameNotes_B1
    rw [if_pos (d_t (by omega)), asrt_pos (by omega), asrt_pos (by omega), note_eta, sameNote_self _ (hc _ (lget_mem l (k : Int) (by omega))), ob_some, if_neg (by decide), hw]
  · show R_SameNotes_B1 l l (l.length : Int) = _
    unfold R_SameNotes_B1
    rw [if_neg (d_f (by omega))]; rfl
theorem as_bad {f : Fault} (hf : ¬ f.Code = 0) (x : List Cell) : law_cellsAs [] f f x = some true := by
  unfold law_cellsAs
  rw [if_neg (by simp), if_pos (n_t hf)]; rfl
theorem as_ok (x : List Cell) (h : x.length ≤ 1000000) : law_cellsAs x ⟨0, 0⟩ ⟨0, 0⟩ x = some true := by
  unfold law_cellsAs law_WalApplies_1
  rw [if_neg (by simp), if_neg (n_f rfl)]
  dsimp only [lt]
  rw [sameCells_self x h]; rfl
/-- behind the loop -/
theorem law_J (l : List Cell) (ns : List Note) (at0 : Int) (f1 : Fault) (hl : l.length ≤ 2000) (w : Fault) (hw : w = if ¬ (cellF l).Code = 0 then cellF l else if 1000 < ns.length then ⟨2, -1⟩ else nF ns 0) (hf : f1 = (applyS l ns).2) :
    law_WalApplies_J1 l ns at0 (applyS l ns) (f1, w) = some true := by
  unfold law_WalApplies_J1
  dsimp only
  by_cases c : w.Code = 0
  · have hg : (cellF l).Code = 0 := by
      by_cases q : (cellF l).Code = 0
      · exact q
      · rw [hw, if_pos q] at c; exact absurd c q
    have hn : ¬ 1000 < ns.length := by
      intro q
      rw [hw, if_neg (not_not_intro hg), if_pos q] at c; cases c
    have hnf : (nF ns 0).Code = 0 := by rw [hw, if_neg (not_not_intro hg), if_neg hn] at c; exact c
    obtain ⟨hz, hgn⟩ := nF_good ns 0 hnf
    have hG := cellF_good hg
    have hcl : ∀ n ∈ ns, n.Cells.length ≤ 20 := fun n h => (hgn n h).len
    have hal := allC_len ns hcl
    have hw0 : w = ⟨0, 0⟩ := by rw [hw, if_neg (not_not_intro hg), if_neg hn, hz]
    have hll := hG.len
    have hfl := firsts_len (allC ns ++ l)
    rw [List.length_append] at hfl
    rw [if_pos (d_t c)]
    unfold law_ownCells_v1
    rw [asrt_pos (by omega), ob_some, puts_eq l ns hG.srt (by omega) (by omega) hgn, ob_some]
    by_cases c4 : 1000 < (firsts (allC ns ++ l)).length
    · have hs : applyS l ns = ([], ⟨9, -1⟩) := by unfold applyS; rw [if_neg (not_not_intro hg), if_neg hn, if_neg (not_not_intro hnf), if_pos c4]
      rw [if_pos (d_t (by omega)), hf, hs]
      dsimp only [lt]
      rw [ob_some]
      dsimp only [R_F]
      rw [as_bad (by decide), ob_some, if_neg (by decide)]
      simp
    · have hs : applyS l ns = (firsts (allC ns ++ l), ⟨0, 0⟩) := by unfold applyS; rw [if_neg (not_not_intro hg), if_neg hn, if_neg (not_not_intro hnf), if_neg c4]
      rw [if_neg (d_f (by omega)), ob_some, hf, hs, hw0]
      dsimp only
      rw [as_ok _ (by omega), ob_some, if_neg (by decide)]
      by_cases c5 : at0 < 0 ∨ (ns.length : Int) < at0
      · rw [if_pos (show ((!decide ((0 : Int) = 0) || decide (at0 < 0)) || decide ((ns.length : Int) < at0)) = true by simp; omega)]
      · obtain ⟨k, rfl⟩ : ∃ k : Nat, at0 = (k : Int) := ⟨at0.toNat, by omega⟩
        have hk : k ≤ ns.length := by omega
        rw [if_neg (show ¬ ((!decide ((0 : Int) = 0) || decide ((k : Int) < 0)) || decide ((ns.length : Int) < k)) = true by simp; omega), asrt_pos (by omega), ltake_nat, apply_eq, ob_some]
        have ht : ∀ n ∈ ns.take k, NGood n := fun n h => hgn n (List.mem_of_mem_take h)
        have hd : ∀ n ∈ ns.drop k, NGood n := fun n h => hgn n (List.mem_of_mem_drop h)
        have hsub : (firsts (allC (ns.take k) ++ l)).length ≤ (firsts (allC ns ++ l)).length := firsts_sub_len fun x hx => by
          rcases List.mem_append.1 hx with h | h
          · obtain ⟨n, h1, h2⟩ := allC_mem.1 h
            exact List.mem_append_left _ (allC_mem.2 ⟨n, List.mem_of_mem_take h1, h2⟩)
          · exact List.mem_append_right _ h
        have hs1 : applyS l (ns.take k) = (firsts (allC (ns.take k) ++ l), ⟨0, 0⟩) := by
          unfold applyS
          rw [if_neg (not_not_intro hg), if_neg (by rw [List.length_take]; omega), nF_zero _ 0 ht, if_neg (by simp), if_neg (by omega)]
        have hb : Good (firsts (allC (ns.take k) ++ l)) := good_of (by omega) (fun x hx => by
          rcases List.mem_append.1 (firsts_mem hx) with h | h
          · obtain ⟨n, h1, h2⟩ := allC_mem.1 h
            exact (ht n h1).cells.code x h2
          · exact hG.code x h) (firsts_ok _).1
        have hall : firsts (allC (ns.drop k) ++ firsts (allC (ns.take k) ++ l)) = firsts (allC ns ++ l) := by
          have e : allC ns = allC (ns.drop k) ++ allC (ns.take k) := by rw [← allC_append, List.take_append_drop]
          rw [e, List.append_assoc]
          exact (Hd.app (Hd.refl _) (hd_firsts _)).firsts
        have hs2 : applyS (firsts (allC (ns.take k) ++ l)) (ns.drop k) = (firsts (allC ns ++ l), ⟨0, 0⟩) := by
          unfold applyS
          rw [hb.f, if_neg (by simp), if_neg (by rw [List.length_drop]; omega), nF_zero _ 0 hd, if_neg (by simp), hall, if_neg c4]
        rw [hs1]
        dsimp only
        rw [if_neg (n_f rfl), asrt_pos (by omega), ldrop_nat, apply_eq, ob_some, hs2]
        dsimp only
        rw [if_pos (d_t rfl), sameCells_self _ (by omega), ob_some]; rfl
  · have hs : applyS l ns = ([], w) := by
      unfold applyS
      by_cases q : (cellF l).Code = 0
      · rw [if_neg (not_not_intro q)]
        rw [if_neg (not_not_intro q)] at hw
        by_cases q2 : 1000 < ns.length
        · rw [if_pos q2] at hw ⊢; rw [hw]
        · rw [if_neg q2] at hw ⊢
          rw [if_pos (by rw [← hw]; exact c), hw]
      · rw [if_pos q] at hw ⊢; rw [hw]
    rw [if_neg (d_f c), ob_some, hf, hs]
    dsimp only
    rw [as_bad c, ob_some, if_neg (by decide)]
    simp [c]
theorem law_loop (l : List Cell) (ns : List Note) (at0 : Int) (f1 : Fault) (hl : l.length ≤ 2000) (hn : ns.length ≤ 1100) (hf : f1 = (applyS l ns).2) : ∀ (m k : Nat) (w : Fault), ns.length - k = m → k ≤ ns.length →
    ((w.Code = 0 ∧ (cellF l).Code = 0 ∧ ¬ 1000 < ns.length ∧ nF ns 0 = nF (ns.drop k) k ∧ w = ⟨0, 0⟩) ∨ (¬ w.Code = 0 ∧ w = if ¬ (cellF l).Code = 0 then cellF l else if 1000 < ns.length then ⟨2, -1⟩ else nF ns 0)) →
    law_WalApplies_L1 l ns at0 (applyS l ns) (f1, w, (k : Int)) = some true := by
  intro m
  have fin : ∀ (k : Nat) (w : Fault), (¬ w.Code = 0 ∨ k = ns.length) → (w = if ¬ (cellF l).Code = 0 then cellF l else if 1000 < ns.length then ⟨2, -1⟩ else nF ns 0) → law_WalApplies_L1 l ns at0 (applyS l ns) (f1, w, (k : Int)) = some true := by
    intro k w h hw
    refine loopO_inr ?_
    unfold law_WalApplies_B1
    dsimp only
    rw [if_neg (by
      rcases h with h | h
      · simp [h]
      · simp [h]), law_J l ns at0 f1 hl w hw hf]; rfl
  induction m with
  | zero =>
    intro k w e hk h
    have hkl : k = ns.length := by omega
    rcases h with ⟨h1, h2, h3, h4, h5⟩ | ⟨h1, h2⟩
    · refine fin k w (.inr hkl) ?_
      rw [if_neg (not_not_intro h2), if_neg h3, h4, hkl, List.drop_length, h5]; rfl
    · exact fin k w (.inl h1) h2
  | succ m ih =>
    intro k w e hk h
    rcases h with ⟨h1, h2, h3, h4, h5⟩ | ⟨h1, h2⟩
    · have hw : w64 ((k : Int) + 1) = ((k + 1 : Nat) : Int) := by rw [w64_id (by omega) (by omega)]; omega
      have hB : law_WalApplies_B1 l ns at0 (applyS l ns) (f1, w, (k : Int)) = if (noteF (lget ns (k : Int))).Code = 0 then some (.inl (f1, w, ((k + 1 : Nat) : Int))) else some (.inl (f1, ⟨(noteF (lget ns (k : Int))).Code, k⟩, ((k + 1 : Nat) : Int))) := by
        unfold law_WalApplies_B1
        dsimp only
        rw [if_pos (by simp [h1]; omega), asrt_pos (by omega), note_eta, rnote_eq, ob_some]
        by_cases c : (noteF (lget ns (k : Int))).Code = 0
        · rw [if_neg (n_f c), ob_some, if_pos c, hw]
        · rw [if_pos (n_t c), asrt_pos (by omega), ob_some, if_neg c, hw]; rfl
      rw [lget_drop ns k (by omega), nF] at h4
      by_cases c : (noteF (lget ns (k : Int))).Code = 0
      · rw [if_pos c] at h4
        exact (loopO_inl (by rw [hB, if_pos c])).trans (ih (k + 1) w (by omega) (by omega) (.inl ⟨h1, h2, h3, h4, h5⟩))
      · rw [if_neg c] at h4
        refine (loopO_inl (by rw [hB, if_neg c])).trans (ih (k + 1) ⟨(noteF (lget ns (k : Int))).Code, k⟩ (by omega) (by omega) (.inr ⟨c, ?_⟩))
        rw [if_neg (not_not_intro h2), if_neg h3, h4]
    · exact fin k w (.inl h1) h2
theorem WalApplies_eq (l : List Cell) (ns : List Note) (at0 : Int) (hl : ns.length ≤ 140737488351232) (hc : ∀ n ∈ ns, n.Cells.length ≤ 140737488351232) : law_WalApplies l ns at0 = some true := by
  obtain ⟨b, hb, hv⟩ := vast_run ns hl hc
  unfold law_WalApplies
  rw [walBegun, ob_some, if_neg (by decide), hb, ob_some]
  dsimp only [lt]
  have hm : ∀ n : Nat, law_many (n : Int) = false → n ≤ 2000 := by
    intro n h
    unfold law_many at h
    simp only [lt, Bool.or_eq_false_iff, decide_eq_false_iff_not] at h
    omega
  cases hb2 : (b || law_many (l.length : Int)) with
  | true => rw [if_pos rfl]
  | false =>
    simp only [Bool.or_eq_false_iff] at hb2
    obtain ⟨h1, h2⟩ := hv hb2.1
    have h3 := hm _ hb2.2
    have hcc : ∀ n ∈ ns, n.Cells.length ≤ 1000000 := fun n h => by have := h2 n h; omega
    rw [if_neg (by decide)]
    unfold law_ownCells_v1
    rw [asrt_pos (by omega), ob_some, ownNotes_eq ns h1 hcc, ob_some, apply_eq, ob_some, sameCells_self l (by omega), ob_some, if_pos (by rfl), sameNotes_self ns (by omega) hcc, ob_some, if_neg (by decide), rcheck_eq, ob_some]
    by_cases c : (cellF l).Code = 0
    · by_cases c2 : 1000 < ns.length
      · rw [if_pos (an_t ⟨c, by omega⟩), ob_some]
        exact law_loop l ns at0 _ h3 h1 rfl ns.length 0 _ (by omega) (by omega) (.inr ⟨by simp [R_F], by rw [if_neg (not_not_intro c), if_pos c2]; rfl⟩)
      · rw [if_neg (by simp; intro _; omega), ob_some]
        exact law_loop l ns at0 _ h3 h1 rfl ns.length 0 _ (by omega) (by omega) (.inl ⟨c, c, c2, rfl, (cellF_good c).f⟩)
    · rw [if_neg (by simp [c]), ob_some]
      exact law_loop l ns at0 _ h3 h1 rfl ns.length 0 _ (by omega) (by omega) (.inr ⟨c, by rw [if_pos c]⟩)
end G
end Go.Proofs.Ytollmifjbcccgaa
