/- LocateAsks. -/
import Derived.Test.YtdjlninhfndjfaaPLocateF
namespace Go.Proofs.Ytdjlninhfndjfaa
open Go Go.Dm
set_option linter.unusedVariables false
set_option linter.unusedSimpArgs false
namespace G
theorem board_self (b : Board) (hh : b.Hosts.length ≤ 100000) (hs : b.Slots.length ≤ 100000) : R_SameBoard b b = some true := by
  unfold R_SameBoard
  rw [if_neg (by simp)]
  refine loop_run (step := fun y => R_SameBoard_B2 b b y) b.Hosts.length (fun k => (k : Int)) (fun k hk => ?_) ?_
  · have hw : w64 ((k : Int) + 1) = ((k + 1 : Nat) : Int) := by rw [w64_id (by omega) (by omega)]; omega
    show R_SameBoard_B2 b b (k : Int) = _
    unfold R_SameBoard_B2
    rw [if_pos (d_t (by omega)), asrt_pos (by omega), asrt_pos (by omega), if_neg (by simp), hw]
  · show R_SameBoard_B2 b b (b.Hosts.length : Int) = _
    unfold R_SameBoard_B2
    rw [if_neg (d_f (by omega))]
    have : R_SameBoard_J1 b b () = some true := by
      unfold R_SameBoard_J1
      refine loop_run (step := fun y => R_SameBoard_B1 b b y) b.Slots.length (fun k => (k : Int)) (fun k hk => ?_) ?_
      · have hw : w64 ((k : Int) + 1) = ((k + 1 : Nat) : Int) := by rw [w64_id (by omega) (by omega)]; omega
        show R_SameBoard_B1 b b (k : Int) = _
        unfold R_SameBoard_B1
        rw [if_pos (d_t (by omega)), asrt_pos (by omega), asrt_pos (by omega), if_neg (by simp), hw]
      · show R_SameBoard_B1 b b (b.Slots.length : Int) = _
        unfold R_SameBoard_B1
        rw [if_neg (d_f (by omega))]; rfl
    rw [this]; rfl
theorem serves_V {b : Board} (hs : b.Slots.length ≤ 100000) (h t : Int) (row : List UInt8) : locate_Serves b h t row = some (if (boardF b).Code = 0 then (decide (srvP (slotOf b row) h t), ⟨0, 0⟩) else (false, boardF b)) := by
  unfold locate_Serves
  rw [bcheck_eq _ hs, ob_some]
  by_cases c : (boardF b).Code = 0
  · rw [if_neg (n_f c), if_pos c, serves_eq (boardF_good.1 c), ob_some]
  · rw [if_pos (n_t c), if_neg c]
theorem end_eq {m : List Known} (hm : KGood m) {s : Slot} (hs : ptOk s.Part) (a : Int) : law_LocateAsks_J1 (findE m s a) s (m, a) = some true := by
  have hl := hm.len
  unfold law_LocateAsks_J1 findE
  by_cases c : s.State = 2
  · rw [if_neg (n_f c), if_pos c]
    dsimp only
    have h2 := learntF_len m (slotK s)
    have e : R_Learnt_v1 m ⟨s.Part, s.Host, s.Turn⟩ = some (learntF m (slotK s)) := rlearnt_eq hm _ hs
    rw [if_pos (by simp [slotK]), e, ob_some, if_pos (by simp [slotK]), known_self _ (by omega), ob_some]
    simp [lt, slotK]
  · rw [if_pos (n_t c), if_neg c]
    dsimp only [lt, R_F]
    rw [if_pos (by simp [zeroK]), known_self _ (by omega), ob_some]
    simp [zeroK]
theorem LocateAsks_eq (b : Board) (l : List Known) (row : List UInt8) (host turn : Int) : law_LocateAsks b l row host turn = some true := by
  have pt_eta : ∀ p : Part, (⟨p.From, p.To, p.ID⟩ : Part) = p := fun p => rfl
  unfold law_LocateAsks
  rw [begun, ob_some, if_neg (by decide)]
  dsimp only [lt, law_vastBoard]
  by_cases cv : 100 < b.Hosts.length ∨ 400 < b.Slots.length ∨ 400 < l.length
  · rw [if_pos (by simp; omega)]
  · rw [if_neg (by simp; omega)]
    have hc : R_CopyBoard b = some (b.Hosts, b.Slots, b.Turn, b.Next) := by
      unfold R_CopyBoard
      rw [asrt_pos (by omega), asrt_pos (by omega)]
    have ho : law_ownKnown l = some l := by
      unfold law_ownKnown
      rw [asrt_pos (by omega)]
    have b_eta : (⟨b.Hosts, b.Slots, b.Turn, b.Next⟩ : Board) = b := rfl
    rw [hc, ob_some, ho, ob_some]
    dsimp only
    rw [b_eta, serves_V (by omega), ob_some]
    have hw10 : ob (if (decide ((boardF b).Code = 0)) = true then
              ob (R_KnownFault l) fun x10 =>
              if (!decide (x10.Code = 0)) = true then
                some (⟨x10.Code, w64 (x10.At - 10000)⟩ : Fault)
              else
                some x10
            else
              some (boardF b)) (fun v => some v) = some (inF b l) := by
      unfold inF
      by_cases c : (boardF b).Code = 0
      · rw [if_pos (d_t c), if_pos c, rknown_eq, ob_some]
        by_cases d : (knownF l).Code = 0
        · rw [if_neg (n_f d), if_pos d, ob_some, knownF_zero d]
        · rw [if_pos (n_t d), if_neg d, ob_some]
      · rw [if_neg (d_f c), if_neg c, ob_some]
    have hw11 : (if (decide ((boardF b).Code = 0)) = true then
              ob (R_KnownFault l) fun x10 =>
              if (!decide (x10.Code = 0)) = true then
                some (⟨x10.Code, w64 (x10.At - 10000)⟩ : Fault)
              else
                some x10
            else
              some (boardF b)) = some (inF b l) := by
      rw [← hw10]
      generalize (if (decide ((boardF b).Code = 0)) = true then
              ob (R_KnownFault l) fun x10 =>
              if (!decide (x10.Code = 0)) = true then
                some (⟨x10.Code, w64 (x10.At - 10000)⟩ : Fault)
              else
                some x10
            else
              some (boardF b)) = o
      cases o <;> rfl
    have hsrv : ∀ X : List Known × Known × Int × Fault, ((!((if (boardF b).Code = 0 then (decide (srvP (slotOf b row) host turn), (⟨0, 0⟩ : Fault)) else (false, boardF b)).1 == ((((decide ((boardF b).Code = 0)) && (decide ((slotOf b row).State = 2))) && (decide ((slotOf b row).Host = host))) && (decide ((slotOf b row).Turn = turn))))) = false) := by
      intro _
      by_cases c : (boardF b).Code = 0
      · rw [if_pos c]
        have : decide (srvP (slotOf b row) host turn) = ((((decide ((boardF b).Code = 0)) && (decide ((slotOf b row).State = 2))) && (decide ((slotOf b row).Host = host))) && (decide ((slotOf b row).Turn = turn))) := by
          symm
          refine b_iff ?_
          unfold srvP
          simp only [Bool.and_eq_true, decide_eq_true_eq, and_assoc]
          exact ⟨fun h => h.2, fun h => ⟨c, h⟩⟩
        rw [← this]; simp
      · rw [if_neg c]; simp [c]
    have hflt : ∀ x7 x8 : Bool, x7 = true → x8 = true → ¬ (((!x7) || (!x8)) || (!(decide ((if (boardF b).Code = 0 then (decide (srvP (slotOf b row) host turn), (⟨0, 0⟩ : Fault)) else (false, boardF b)).2.Code = (boardF b).Code) && (decide ((if (boardF b).Code = 0 then (decide (srvP (slotOf b row) host turn), (⟨0, 0⟩ : Fault)) else (false, boardF b)).2.At = (boardF b).At) && true)))) = true := by
      intro x7 x8 h7 h8
      subst h7; subst h8
      by_cases c : (boardF b).Code = 0
      · rw [if_pos c, boardF_zero c]; simp
      · rw [if_neg c]; simp
    by_cases g : (inF b l).Code = 0
    · obtain ⟨hb, hg, h0⟩ := inF_good g
      have hl := hg.len
      have hp := (slot_good hb row).2
      rw [find_good hb hg, ob_some, rboard_eq _ (by omega), ob_some, board_self _ (by omega) (by omega), ob_some, if_pos (by decide), known_self _ (by omega), ob_some, if_neg (hflt _ _ rfl rfl), rslotOf_eq _ (by omega), ob_some, if_neg (by rw [hsrv ([], zeroK, 0, ⟨0, 0⟩)]; decide), hw11, ob_some, if_neg (n_f g)]
      generalize slotOf b row = s at hp
      obtain ⟨hi1, hi2⟩ := findI_iff hg row
      obtain ⟨F, hF⟩ : ∃ F, F = findI l row := ⟨_, rfl⟩
      unfold findV
      rw [← hF] at hi1 hi2 ⊢
      have hrl : ∀ k : Nat, (restF (l.take k) row).length ≤ k := fun k => Nat.le_trans (List.length_filter_le _ _) (by simp; omega)
      have hrn : ∀ k : Nat, k < l.length → restF (l.take (k + 1)) row = restF (l.take k) row ++ (if F = (k : Int) then [] else [lget l (k : Int)]) := by
        intro k hk
        unfold restF
        rw [lget_take l k hk, List.filter_append]
        by_cases e : F = (k : Int)
        · have := (hi2 k hk).2 e
          rw [if_pos e]; simp [this]
        · have : ¬ hasP (lget l (k : Int)).Part row := fun h => e ((hi2 k hk).1 h)
          rw [if_neg e]; simp [this]
      by_cases sv : 0 ≤ F ∧ srvP s (lget l F).Host (lget l F).Turn
      · rw [if_pos sv]
        obtain ⟨j, hj⟩ : ∃ j : Nat, F = (j : Int) := ⟨F.toNat, by omega⟩
        have hjl : j < l.length := by omega
        have hst := sv.2
        rw [hj] at hst ⊢
        unfold srvP at hst
        have hs2 : s.State = 2 := hst.1
        have := loop_run (step := fun y => law_LocateAsks_B1 l row (l, lget l (j : Int), 1, ⟨0, 0⟩) s y) j (fun k => (restF (l.take k) row, (1 : Int), (k : Int))) (r := true)
          (fun k hk => by
            have hw : w64 ((k : Int) + 1) = ((k + 1 : Nat) : Int) := by rw [w64_id (by omega) (by omega)]; omega
            have hk1 := hrl k
            have e : ¬ F = (k : Int) := by omega
            show law_LocateAsks_B1 l row _ s _ = _
            unfold law_LocateAsks_B1 law_LocateAsks_J2
            dsimp only
            rw [if_pos (d_t (by omega)), asrt_pos (by omega), pt_eta, inPart_eq, kn_eta]
            dsimp only [lt]
            rw [hw, hrn k (by omega)]
            rw [if_pos (n_t (fun h => e ((hi2 k (by omega)).1 h))), asrt_pos (by omega), asrt_pos (by rw [List.length_append]; simp; omega), if_neg e])
          (by
            have hh : hasP (lget l (j : Int)).Part row := (hi2 j hjl).2 hj
            show law_LocateAsks_B1 l row _ s _ = _
            unfold law_LocateAsks_B1
            dsimp only
            rw [if_pos (d_t (by omega)), asrt_pos (by omega), pt_eta, inPart_eq, kn_eta]
            dsimp only [lt]
            rw [if_neg (n_f hh), asrt_pos (fun _ => by omega), asrt_pos (fun _ => by omega), if_pos (by simp [hst.1, hst.2.1, hst.2.2]), asrt_pos (fun _ => by omega), if_pos (by simp), known_self _ (by omega), ob_some]
            simp)
        unfold law_LocateAsks_L1
        exact this
      · rw [if_neg sv]
        have := loop_run (step := fun y => law_LocateAsks_B1 l row (findE (restF l row) s (if 0 ≤ F then 2 else 1)) s y) l.length (fun k => (restF (l.take k) row, if 0 ≤ F ∧ F < (k : Int) then 2 else 1, (k : Int))) (r := true)
          (fun k hk => by
            have hw : w64 ((k : Int) + 1) = ((k + 1 : Nat) : Int) := by rw [w64_id (by omega) (by omega)]; omega
            have hk1 := hrl k
            show law_LocateAsks_B1 l row _ s _ = _
            unfold law_LocateAsks_B1 law_LocateAsks_J2
            dsimp only
            rw [if_pos (d_t (by omega)), asrt_pos (by omega), pt_eta, inPart_eq, kn_eta]
            dsimp only [lt]
            rw [hw, hrn k hk]
            by_cases e : F = (k : Int)
            · rw [if_neg (n_f ((hi2 k hk).2 e)), asrt_pos (fun _ => by omega), asrt_pos (fun _ => by omega), if_neg (by
                intro h
                simp only [Bool.and_eq_true, decide_eq_true_eq] at h
                exact sv ⟨by omega, by rw [e]; exact ⟨h.1.1, h.1.2.symm, h.2.symm⟩⟩), if_pos e, List.append_nil, if_pos (by omega)]
            · rw [if_pos (n_t (fun h => e ((hi2 k hk).1 h))), asrt_pos (by omega), asrt_pos (by rw [List.length_append]; simp; omega), if_neg e]
              by_cases e2 : 0 ≤ F ∧ F < (k : Int)
              · rw [if_pos e2, if_pos (by omega)]
              · rw [if_neg e2, if_neg (by omega)])
          (by
            show law_LocateAsks_B1 l row _ s _ = _
            unfold law_LocateAsks_B1
            dsimp only
            rw [if_neg (d_f (by omega)), List.take_length]
            have ha : (if 0 ≤ F ∧ F < (l.length : Int) then (2 : Int) else 1) = if 0 ≤ F then 2 else 1 := by
              by_cases e : 0 ≤ F
              · rw [if_pos e, if_pos (by omega)]
              · rw [if_neg e, if_neg (by omega)]
            rw [ha, end_eq (rest_good hg row) hp]; rfl)
        have e0 : (restF (l.take 0) row, (if 0 ≤ F ∧ F < ((0 : Nat) : Int) then (2 : Int) else 1), ((0 : Nat) : Int)) = ([], 1, 0) := by
          rw [if_neg (by omega)]; rfl
        unfold law_LocateAsks_L1
        rw [← e0]; exact this
    · rw [find_bad (by omega) row g, ob_some, rboard_eq _ (by omega), ob_some, board_self _ (by omega) (by omega), ob_some, if_pos (by decide), known_self _ (by omega), ob_some, if_neg (hflt _ _ rfl rfl), rslotOf_eq _ (by omega), ob_some, if_neg (by rw [hsrv ([], zeroK, 0, ⟨0, 0⟩)]; decide), hw11, ob_some, if_pos (n_t g)]
      simp [zeroK]
end G
end Go.Proofs.Ytdjlninhfndjfaa
