/- LocateDoes. -/
import Derived.Test.YtdjlninhfndjfaaPLocateN
namespace Go.Proofs.Ytdjlninhfndjfaa
open Go Go.Dm
set_option linter.unusedVariables false
set_option linter.unusedSimpArgs false
namespace G
theorem served_slots : law_served.Slots = [⟨⟨[], [], 1⟩, 2, 7, 1⟩] := rfl
theorem served_good : BGood law_served where
  hosts := by decide
  host := fun k hk => by
    have h0 : k = 0 := by have : law_served.Hosts.length = 1 := rfl; omega
    subst h0
    refine ⟨?_, ?_, ?_⟩
    · show (1 : Int) ≤ 7 ∧ (7 : Int) ≤ 1000000000; omega
    · show (1 : Int) ≤ 1 ∧ (1 : Int) ≤ 1000000000; omega
    · show (7 : Int) ∉ ([] : List Int); simp
  turn := by show (0 : Int) ≤ 1 ∧ (1 : Int) ≤ 1000000000; omega
  next := by show (1 : Int) ≤ 2 ∧ (2 : Int) ≤ 1000000000; omega
  parts := by
    refine ⟨by decide, ?_, ?_, ?_⟩
    · intro p hp
      have : p = ⟨[], [], 1⟩ := by simpa [partsOf, served_slots] using hp
      subst this
      unfold okp; decide
    · simp [partsOf, served_slots]
    · show ch [] [⟨[], [], 1⟩]
      simp [ch]
  slot := fun k hk => by
    have h0 : k = 0 := by have : law_served.Slots.length = 1 := rfl; omega
    subst h0
    decide
theorem served_slotI : slotI law_served.Slots [114] = 0 := by
  have : hasP ⟨[], [], 1⟩ [114] := ⟨bl_nil _, .inl rfl⟩
  rw [served_slots]
  have e : slotJ [⟨⟨[], [], 1⟩, 2, 7, 1⟩] [114] 0 = some 0 := if_pos this
  unfold slotI
  simp only [List.length_cons, List.length_nil, firstFrom, e]
  rfl
theorem kgood_nil : KGood [] := ⟨by decide, fun k h => absurd h (by simp), List.Pairwise.nil⟩
theorem begun : law_locateBegun = some true := by
  have hs : locate_slot law_served [114] = some ⟨⟨[], [], 1⟩, 2, 7, 1⟩ := by
    rw [slot_at _ (by decide) _ (by rw [served_slotI]; decide), served_slotI]; rfl
  have hf : locate_Find_v1 law_served [] [114] = some ([⟨⟨[], [], 1⟩, 7, 1⟩], ⟨⟨[], [], 1⟩, 7, 1⟩, 1, ⟨0, 0⟩) := by
    have e0 : (boardF law_served).Code = 0 := boardF_good.2 served_good
    have e1 : (knownF []).Code = 0 := knownF_good.2 kgood_nil
    unfold locate_Find_v1
    rw [bcheck_eq _ (by decide), ob_some, if_pos (d_t e0), kcheck_eq, ob_some, if_neg (n_f e1), ob_some, knownF_zero e1, if_neg (by decide), kclone_eq _ (by decide), ob_some, find_eq _ (by decide), ob_some]
    have e2 : findI [] [114] = -1 := rfl
    rw [e2, if_neg (by decide)]
    unfold locate_Find_v1_J1
    rw [hs, ob_some, if_neg (by decide), learn_eq kgood_nil _ ⟨by decide, by decide, .inl rfl⟩, ob_some]
    rfl
  unfold law_locateBegun
  dsimp only [lt]
  rw [hf, ob_some]
  dsimp only
  rw [if_pos (by decide), known_self _ (by decide), ob_some]
  rfl
noncomputable def learnV (l : List Known) (k : Known) : List Known × Fault :=
  if ¬ R_KnownCode k = 0 then ([], ⟨R_KnownCode k, -1⟩)
  else if 200 < (learntF l k).length then ([], ⟨2, -2⟩) else (learntF l k, ⟨0, 0⟩)
theorem look_bad {l : List Known} (h : ¬ (knownF l).Code = 0) (row : List UInt8) : locate_Look l row = some (0, false, knownF l) := by
  unfold locate_Look
  rw [kcheck_eq, ob_some, if_pos (n_t h)]
theorem look_good {l : List Known} (h : KGood l) (row : List UInt8) : locate_Look l row = some (max (findI l row) 0, decide (0 ≤ findI l row), ⟨0, 0⟩) := by
  unfold locate_Look
  rw [kcheck_eq, ob_some, if_neg (n_f (knownF_good.2 h)), find_eq _ (by have := h.len; omega), ob_some]
theorem learn_bad {l : List Known} (h : ¬ (knownF l).Code = 0) (k : Known) : locate_Learn_v1 l k = some ([], knownF l) := by
  unfold locate_Learn_v1
  rw [kcheck_eq, ob_some, if_pos (n_t h)]
theorem learn_good {l : List Known} (h : KGood l) (k : Known) : locate_Learn_v1 l k = some (learnV l k) := by
  unfold locate_Learn_v1 learnV
  rw [kcheck_eq, ob_some, if_neg (n_f (knownF_good.2 h))]
  dsimp only [lt]
  rw [code_same]
  by_cases c : R_KnownCode k = 0
  · rw [if_neg (n_f c), if_neg (not_not_intro c), learn_eq h k (kcode_zero.1 c), ob_some]
    by_cases d : 200 < (learntF l k).length
    · rw [if_pos (d_t (by omega)), if_pos d]; rfl
    · rw [if_neg (d_f (by omega)), if_neg d]
  · rw [if_pos (n_t c), if_pos c]; rfl
theorem findI_iff {l : List Known} (hg : KGood l) (row : List UInt8) : (findI l row = -1 ∨ (0 ≤ findI l row ∧ findI l row < (l.length : Int))) ∧ ∀ k : Nat, k < l.length → (hasP (lget l (k : Int)).Part row ↔ findI l row = (k : Int)) := by
  rcases find_cases l row with ⟨h1, h2⟩ | ⟨j, h1, h2, h3, _⟩
  · refine ⟨.inl h1, fun k hk => ⟨fun h => absurd h (h2 _ (lget_mem l (k : Int) (by omega))), fun h => by omega⟩⟩
  · refine ⟨.inr (by omega), fun k hk => ⟨fun h => ?_, fun h => ?_⟩⟩
    · by_cases e : k = j
      · rw [h2, e]
      · exact absurd h (find_last hg h1 h3 k hk e)
    · have : k = j := by omega
      rw [this]; exact h3
theorem known_as {l : List Known} (hg : KGood l) (row : List UInt8) (k : Known) : law_LocateDoes_J1 l k (max (findI l row) 0, decide (0 ≤ findI l row), ⟨0, 0⟩) (learnV l k) ⟨0, 0⟩ (max (findI l row) 0, decide (0 ≤ findI l row)) = some true := by
  have hl := hg.len
  unfold law_LocateDoes_J1 learnV
  dsimp only [lt, R_F]
  rw [if_neg (by simp)]
  by_cases c : R_KnownCode k = 0
  · rw [if_neg (by simp [c]), ob_some, if_pos (by decide), rlearnt_eq hg k (kcode_zero.1 c), ob_some, if_neg (not_not_intro c)]
    have h2 := learntF_len l k
    by_cases d : 200 < (learntF l k).length
    · rw [if_pos (an_t ⟨rfl, by omega⟩), ob_some, if_pos d]
      rfl
    · rw [if_neg (an_f (by omega)), ob_some, if_neg d]
      unfold law_knownAs law_LocateDoes_1
      dsimp only
      rw [if_neg (by simp), if_neg (by simp), rlearnt_eq hg k (kcode_zero.1 c), ob_some, ob_some, known_self _ (by omega)]
      rfl
  · rw [if_pos (by simp [c]), ob_some, if_pos c]
    dsimp only
    rw [if_neg (d_f c), ob_some, if_neg (by simp [c]), ob_some]
    unfold law_knownAs
    rw [if_neg (by simp), if_pos (n_t c)]
    rfl
theorem LocateDoes_eq (l : List Known) (row : List UInt8) (k : Known) : law_LocateDoes l row k = some true := by
  have pt_eta : ∀ p : Part, (⟨p.From, p.To, p.ID⟩ : Part) = p := fun p => rfl
  unfold law_LocateDoes
  rw [begun, ob_some, if_neg (by decide)]
  by_cases c : 400 < l.length
  · rw [if_pos (d_t (by omega))]
  · rw [if_neg (d_f (by omega))]
    have ho : law_ownKnown_v1 l = some l := by
      unfold law_ownKnown_v1
      rw [asrt_pos (by omega)]
    rw [ho, ob_some, kcheck_eq, ob_some]
    by_cases g : (knownF l).Code = 0
    · have hg := knownF_good.1 g
      rw [look_good hg, ob_some, learn_good hg, ob_some, rknown_eq, ob_some, known_self _ (by omega), ob_some, knownF_zero g, if_neg (by simp)]
      obtain ⟨hb, hi⟩ := findI_iff hg row
      obtain ⟨F, hF⟩ : ∃ F, F = findI l row := ⟨_, rfl⟩
      have hj := known_as hg row k
      rw [← hF] at hb hi hj ⊢
      have hl := hg.len
      have := loop_run (step := fun y => law_LocateDoes_B1 l row k (max F 0, decide (0 ≤ F), ⟨0, 0⟩) (learnV l k) ⟨0, 0⟩ y) l.length (fun j => if 0 ≤ F ∧ F < (j : Int) then (F, true, (j : Int)) else (0, false, (j : Int))) (r := true) (fun j hj => by
        have hw : w64 ((j : Int) + 1) = ((j + 1 : Nat) : Int) := by rw [w64_id (by omega) (by omega)]; omega
        have hB : ∀ a b, law_LocateDoes_B1 l row k (max F 0, decide (0 ≤ F), ⟨0, 0⟩) (learnV l k) ⟨0, 0⟩ (a, b, (j : Int)) = some (.inl (if F = (j : Int) then (F, true, ((j + 1 : Nat) : Int)) else (a, b, ((j + 1 : Nat) : Int)))) := by
          intro a b
          unfold law_LocateDoes_B1
          dsimp only
          rw [if_pos (an_t ⟨by omega, rfl⟩), asrt_pos (by omega), pt_eta, inPart_eq]
          dsimp only [lt]
          rw [hw]
          by_cases e : F = (j : Int)
          · rw [if_pos (d_t ((hi j hj).2 e)), if_pos e, e]; rfl
          · rw [if_neg (d_f (fun h => e ((hi j hj).1 h))), if_neg e]; rfl
        show law_LocateDoes_B1 l row k _ _ _ _ = _
        by_cases e : F = (j : Int)
        · rw [if_neg (by omega), if_pos (by omega), hB, if_pos e]
        · by_cases e2 : 0 ≤ F ∧ F < (j : Int)
          · rw [if_pos e2, if_pos (by omega), hB, if_neg e]
          · rw [if_neg e2, if_neg (by omega), hB, if_neg e]) (by
        show law_LocateDoes_B1 l row k _ _ _ _ = _
        have hB : ∀ a b, law_LocateDoes_B1 l row k (max F 0, decide (0 ≤ F), ⟨0, 0⟩) (learnV l k) ⟨0, 0⟩ (a, b, (l.length : Int)) = inrO (law_LocateDoes_J1 l k (max F 0, decide (0 ≤ F), ⟨0, 0⟩) (learnV l k) ⟨0, 0⟩ (a, b)) := by
          intro a b
          unfold law_LocateDoes_B1
          dsimp only
          rw [if_neg (an_f (fun h => by omega))]
        by_cases e2 : 0 ≤ F ∧ F < (l.length : Int)
        · rw [if_pos e2, hB]
          have e3 : (F, true) = (max F 0, decide (0 ≤ F)) := by rw [d_t e2.1, Int.max_eq_left e2.1]
          rw [e3, hj]; rfl
        · rw [if_neg e2, hB]
          have e3 : (0, false) = (max F 0, decide (0 ≤ F)) := by rw [decide_eq_false (show ¬ 0 ≤ F by omega), Int.max_eq_right (by omega)]
          rw [e3, hj]; rfl)
      have e0 : (if 0 ≤ F ∧ F < ((0 : Nat) : Int) then (F, true, ((0 : Nat) : Int)) else (0, false, ((0 : Nat) : Int))) = (0, false, 0) := if_neg (by omega)
      unfold law_LocateDoes_L1
      rw [← e0]; exact this
    · rw [look_bad g, ob_some, learn_bad g, ob_some, rknown_eq, ob_some, known_self _ (by omega), ob_some, if_neg (by simp)]
      unfold law_LocateDoes_L1
      refine loopO_inr ?_
      unfold law_LocateDoes_B1
      dsimp only
      rw [if_neg (an_f (fun h => g h.2))]
      have : law_LocateDoes_J1 l k (0, false, knownF l) ([], knownF l) (knownF l) (0, false) = some true := by
        unfold law_LocateDoes_J1
        dsimp only [lt, R_F]
        rw [if_neg (by simp), if_neg (by simp [g]), ob_some, if_neg (d_f g), ob_some, if_neg (by simp [g]), ob_some]
        unfold law_knownAs
        rw [if_neg (by simp), if_pos (n_t g)]
        rfl
      rw [this]; rfl
end G
end Go.Proofs.Ytdjlninhfndjfaa
