/- Assign: Ordered = ordF. -/
import Derived.Test.YtdjlninhfndjfaaPAssF
namespace Go.Proofs.Ytdjlninhfndjfaa
open Go Go.Dm
set_option linter.unusedVariables false
set_option linter.unusedSimpArgs false
namespace G
theorem hostAt_at (b : Board) (id : Int) (h : 0 ≤ hostAt b id) : ∃ k : Nat, k < b.Hosts.length ∧ hostAt b id = (k : Int) ∧ (lget b.Hosts (k : Int)).ID = id ∧ (lget b.Hosts (k : Int)).Alive = true := by
  unfold hostAt at h ⊢
  rcases firstFrom_cases (hostI b id) (-1) b.Hosts.length 0 with ⟨_, e⟩ | ⟨j, x, h1, h2, h3, _, e⟩
  · rw [e] at h; omega
  · rw [e]
    unfold hostI at h3
    split at h3
    · rename_i c
      cases h3
      exact ⟨j, by omega, rfl, c.1, c.2⟩
    · cases h3
theorem instead_eq (l : List Slot) (hl : l.length ≤ 100000) (k n : Nat) (hk : k + n ≤ l.length) (bs : List Slot) (hb : bs.length ≤ 10) : R_SlotsInstead l (k : Int) (n : Int) bs = some (l.take k ++ bs ++ l.drop (k + n)) := by
  have hw : w64 ((k : Int) + (n : Int)) = ((k + n : Nat) : Int) := by rw [w64_id (by omega) (by omega)]; omega
  unfold R_SlotsInstead
  rw [hw, ltake_nat, ldrop_nat, asrt_pos (by omega), asrt_pos (by rw [List.length_take]; omega), asrt_pos (by rw [List.length_append, List.length_take]; omega), asrt_pos (by omega), asrt_pos (by rw [List.length_append, List.length_append, List.length_take, List.length_drop]; omega)]
theorem gone_loop (o : Order) (x : Fault) (x1 : List Host × List Slot × Int × Int) (v1 : List Host) (l : List Slot) (hl : l.length ≤ 100000) : R_Ordered_v1_L1 o x x1 v1 (l, 0) = some (⟨v1, l.map (clr o.ID), x1.2.2.1, x1.2.2.2⟩, x) := by
  have e0 : (l, (0 : Int)) = ((l.take 0).map (clr o.ID) ++ l.drop 0, ((0 : Nat) : Int)) := by simp
  unfold R_Ordered_v1_L1
  rw [e0]
  refine loop_run (step := fun y => R_Ordered_v1_B1 o x x1 v1 y) l.length (fun k => ((l.take k).map (clr o.ID) ++ l.drop k, (k : Int))) (fun k hk => ?_) ?_
  · have hw : w64 ((k : Int) + 1) = ((k + 1 : Nat) : Int) := by rw [w64_id (by omega) (by omega)]; omega
    have hA : ((l.take k).map (clr o.ID)).length = k := by rw [List.length_map, List.length_take]; omega
    show R_Ordered_v1_B1 o x x1 v1 (_, (k : Int)) = _
    have hn : (l.take (k + 1)).map (clr o.ID) ++ l.drop (k + 1) = (l.take k).map (clr o.ID) ++ clr o.ID (lget l (k : Int)) :: l.drop (k + 1) := by
      rw [lget_take l k hk, List.map_append, List.append_assoc]; rfl
    rw [lget_drop l k hk, hn]
    generalize (l.take k).map (clr o.ID) = A at hA
    generalize lget l (k : Int) = s
    have hB : l.drop (k + 1) = l.drop (k + 1) := rfl
    have hBl : (l.drop (k + 1)).length + k + 1 = l.length := by rw [List.length_drop]; omega
    generalize l.drop (k + 1) = B at hBl
    have hg : ∀ y : Slot, lget (A ++ y :: B) (k : Int) = y := by
      intro y
      rw [lget_app_r _ _ _ (by omega), hA, Int.sub_self]; rfl
    have hs : ∀ y z : Slot, lset (A ++ y :: B) (k : Int) z = A ++ z :: B := by
      intro y z
      have := lset_mid A y z B
      rwa [hA] at this
    have hlen : ∀ y : Slot, (A ++ y :: B).length = l.length := by
      intro y
      rw [List.length_append, List.length_cons, hA]; omega
    unfold R_Ordered_v1_B1
    dsimp only
    rw [hlen, if_pos (d_t (by omega)), asrt_pos (by omega), asrt_pos (by omega), hg, hw]
    dsimp only [lt]
    rw [hs, hlen, asrt_pos (by omega), asrt_pos (by omega), asrt_pos (by omega), asrt_pos (by omega), hg, hs]
    unfold clr
    by_cases c : s.Host = o.ID
    · rw [if_pos (d_t c), if_pos c]; rfl
    · rw [if_neg (d_f c), if_neg c]; rfl
  · show R_Ordered_v1_B1 o x x1 v1 (_, (l.length : Int)) = _
    unfold R_Ordered_v1_B1
    dsimp only
    rw [List.take_length, List.drop_length, List.append_nil, List.length_map, if_neg (d_f (by omega))]
    rfl
theorem hostK_cases (b : Board) (id : Int) : (hostK b id = -1) ∨ ∃ k : Nat, k < b.Hosts.length ∧ hostK b id = (k : Int) ∧ (lget b.Hosts (k : Int)).ID = id := by
  unfold hostK
  rcases firstFrom_cases (hostJ b id) (-1) b.Hosts.length 0 with ⟨_, e⟩ | ⟨j, x, h1, h2, h3, _, e⟩
  · exact .inl e
  · unfold hostJ at h3
    split at h3
    · rename_i c
      cases h3
      exact .inr ⟨j, by omega, e, c⟩
    · cases h3
theorem slotK_cases (b : Board) (id : Int) : (slotK b id = -1) ∨ ∃ k : Nat, k < b.Slots.length ∧ slotK b id = (k : Int) := by
  unfold slotK
  rcases firstFrom_cases (slotJ b id) (-1) b.Slots.length 0 with ⟨_, e⟩ | ⟨j, x, h1, h2, h3, _, e⟩
  · exact .inl e
  · unfold slotJ at h3
    split at h3
    · cases h3
      exact .inr ⟨j, by omega, e⟩
    · cases h3
theorem ordered_eq (b : Board) (hs : b.Slots.length ≤ 100000) (o : Order) : R_Ordered_v1 b o = some (ordF b o) := by
  have pt_eta : ∀ p : Part, (⟨p.From, p.To, p.ID⟩ : Part) = p := fun p => rfl
  unfold R_Ordered_v1 ordF
  rw [rboard_eq _ hs, ob_some]
  by_cases e0 : (boardF b).Code = 0
  · have hg := boardF_good.1 e0
    have h := bg_iff.1 hg
    have hsl := slot_len hg
    have hhl := h.hosts
    have hN := h.next
    have hT := h.turn
    unfold numOk at hN
    have hz := boardF_zero e0
    have hc : R_CopyBoard b = some (b.Hosts, b.Slots, b.Turn, b.Next) := by
      unfold R_CopyBoard
      rw [asrt_pos (by omega), asrt_pos (by omega)]
    rw [if_neg (n_f e0), if_neg (not_not_intro e0), hc, ob_some, hz]
    by_cases ck : o.Kind < 1 ∨ 8 < o.Kind
    · rw [if_pos (or_t ck), if_pos ck]; rfl
    rw [if_neg (or_f ck), if_neg ck]
    by_cases k1 : o.Kind = 1
    · rw [if_pos (d_t k1), if_pos k1, one_eq]
      unfold comeF
      dsimp only [lt, R_F]
      by_cases c1 : numOk o.ID
      · rw [if_neg (n_f c1), if_neg (not_not_intro c1), hostIn_eq b (by omega), ob_some]
        by_cases c2 : 0 ≤ hostAt b o.ID
        · rw [if_pos (d_t c2), if_pos c2]; rfl
        · rw [if_neg (d_f c2), if_neg c2, hostK_eq b (by omega), ob_some]
          rcases hostK_cases b o.ID with hk | ⟨k, hk, hk2, hid⟩
          · rw [hk, if_pos (by decide), if_pos (show (-1 : Int) < 0 by decide)]
            by_cases c3 : 20 ≤ b.Hosts.length
            · rw [if_pos (d_t (by omega)), if_pos c3]; rfl
            · rw [if_neg (d_f (by omega)), if_neg c3, asrt_pos (by rw [List.length_append]; simp; omega)]
          · have he := (h.hid _ (lget_mem b.Hosts (k : Int) (by omega))).2
            unfold numOk at he
            rw [hk2, if_neg (d_f (by omega)), if_neg (show ¬ (k : Int) < 0 by omega), asrt_pos (by omega)]
            by_cases c3 : 1000000000 ≤ (lget b.Hosts (k : Int)).Epoch
            · rw [if_pos (d_t c3), if_pos c3]; rfl
            · rw [if_neg (d_f c3), if_neg c3, asrt_pos (by omega), asrt_pos (by omega), asrt_pos (by omega), w64_id (by omega) (by omega)]
      · rw [if_pos (n_t c1), if_pos c1]; rfl
    rw [if_neg (d_f k1), if_neg k1]
    by_cases k2 : o.Kind = 2
    · rw [if_pos (d_t k2), if_pos k2, hostIn_eq b (by omega), ob_some]
      unfold goneF
      dsimp only [lt, R_F]
      by_cases c2 : hostAt b o.ID < 0
      · rw [if_pos (d_t c2), if_pos c2]; rfl
      · obtain ⟨k, hk, hk2, hid, hal⟩ := hostAt_at b o.ID (by omega)
        rw [hk2, if_neg (d_f (by omega)), if_neg (show ¬ (k : Int) < 0 by omega), asrt_pos (by omega), asrt_pos (by omega), gone_loop _ _ _ _ _ (by omega)]
    rw [if_neg (d_f k2), if_neg k2, slotK_eq b (by omega), ob_some]
    dsimp only [lt, R_F]
    have st9 : ∀ n : Int, 0 ≤ n → n < 9 → (0 ≤ n ∧ n < (([0, 0, 0, 0, 1, 2, 3, 0, 0] : List Int).length : Int)) := fun n h1 h2 => ⟨h1, h2⟩
    rcases slotK_cases b o.ID with hk | ⟨k, hk, hk2⟩
    · rw [hk, if_pos (by simp), if_pos (Or.inl (by decide))]; rfl
    have hw : w64 ((k : Int) + 1) = ((k + 1 : Nat) : Int) := by rw [w64_id (by omega) (by omega)]; omega
    rw [hk2, hw]
    by_cases c8 : o.Kind = 8 ∧ (b.Slots.length : Int) ≤ (k : Int) + 1
    · rw [if_pos (by simp; omega), if_pos (Or.inr c8)]; rfl
    rw [if_neg (by simp; omega), if_neg (show ¬ ((k : Int) < 0 ∨ (o.Kind = 8 ∧ (b.Slots.length : Int) ≤ (k : Int) + 1)) by omega), asrt_pos (by omega), hostIn_eq b (by omega)]
    have hs0 := h.sok (lget b.Slots (k : Int)) (lget_mem b.Slots (k : Int) (by omega))
    unfold doesF setF
    dsimp only
    by_cases k3 : o.Kind = 3
    · rw [if_pos (d_t k3), ob_some, if_pos k3]
      by_cases ch : hostAt b o.Host < 0
      · rw [if_pos (an_t ⟨k3, ch⟩), if_pos ch]; rfl
      · rw [if_neg (an_f (fun g => ch g.2)), if_neg ch, if_neg (by simp [k3]), asrt_pos (st9 _ (by omega) (by omega)), asrt_pos (fun g _ => by have := of_decide_eq_true g; omega), k3]
        have t3 : lget ([0, 0, 0, 0, 1, 2, 3, 0, 0] : List Int) 3 = 0 := rfl
        rw [t3]
        by_cases cs : (lget b.Slots (k : Int)).State = 0
        · rw [if_neg (by simp [cs]), if_neg (not_not_intro cs), if_pos (by decide)]
          by_cases ct : 1000000000 ≤ b.Turn
          · rw [if_pos (d_t ct), if_pos ct]; rfl
          · rw [if_neg (d_f ct), if_neg ct, asrt_pos (by omega), asrt_pos (by omega), w64_id (by omega) (by omega)]
            unfold R_Ordered_v1_J2
            rw [if_neg (d_f (by show ¬ 1000000000 < b.Next; omega))]
        · rw [if_pos (by simp [cs]), if_pos cs]; rfl
    rw [if_neg (d_f k3), ob_some, if_neg (an_f (fun g => k3 g.1)), if_neg k3]
    have hJ : ∀ (s : List Slot) (t n : Int), n ≤ 1000000000 → R_Ordered_v1_J2 ⟨0, 0⟩ (b.Hosts, b.Slots, b.Turn, b.Next) (s, t, n) = some (⟨b.Hosts, s, t, n⟩, ⟨0, 0⟩) := by
      intro s t n hn
      unfold R_Ordered_v1_J2
      rw [if_neg (d_f (by show ¬ 1000000000 < n; omega))]
    have hJ9 : ∀ (s : List Slot) (t n : Int), 1000000000 < n → R_Ordered_v1_J2 ⟨0, 0⟩ (b.Hosts, b.Slots, b.Turn, b.Next) (s, t, n) = some (badB 9 0) := by
      intro s t n hn
      unfold R_Ordered_v1_J2
      rw [if_pos (d_t (by show 1000000000 < n; omega))]; rfl
    by_cases k4 : o.Kind = 4
    · rw [if_pos k4]
      by_cases cg : (lget b.Slots (k : Int)).Host ≠ o.Host ∨ (lget b.Slots (k : Int)).Turn ≠ o.Turn
      · rw [if_pos (by simpa [k4] using cg), if_pos cg]; rfl
      · rw [if_neg (by simpa [k4] using cg), if_neg cg, asrt_pos (st9 _ (by omega) (by omega)), asrt_pos (fun g _ => by have := of_decide_eq_true g; omega), k4]
        have t4 : lget ([0, 0, 0, 0, 1, 2, 3, 0, 0] : List Int) 4 = 1 := rfl
        rw [t4]
        by_cases cs : (lget b.Slots (k : Int)).State = 1
        · rw [if_neg (by simp [cs]), if_neg (not_not_intro cs), if_neg (by decide), if_pos (by decide), asrt_pos (by omega), asrt_pos (by omega), hJ _ _ _ (by omega)]
        · rw [if_pos (by simp [cs]), if_pos cs]; rfl
    rw [if_neg k4]
    by_cases k5 : o.Kind = 5
    · rw [if_pos k5, if_neg (by simp [k5]), asrt_pos (st9 _ (by omega) (by omega)), asrt_pos (fun g _ => by have := of_decide_eq_true g; omega), k5]
      have t5 : lget ([0, 0, 0, 0, 1, 2, 3, 0, 0] : List Int) 5 = 2 := rfl
      rw [t5]
      by_cases cs : (lget b.Slots (k : Int)).State = 2
      · rw [if_neg (by simp [cs]), if_neg (not_not_intro cs), if_neg (by decide), if_neg (by decide), if_pos (by decide), asrt_pos (by omega), asrt_pos (by omega), hJ _ _ _ (by omega)]
      · rw [if_pos (by simp [cs]), if_pos cs]; rfl
    rw [if_neg k5]
    by_cases k6 : o.Kind = 6
    · rw [if_pos k6]
      by_cases cg : (lget b.Slots (k : Int)).Host ≠ o.Host ∨ (lget b.Slots (k : Int)).Turn ≠ o.Turn
      · rw [if_pos (by simpa [k6] using cg), if_pos cg]; rfl
      · rw [if_neg (by simpa [k6] using cg), if_neg cg, asrt_pos (st9 _ (by omega) (by omega)), asrt_pos (fun g _ => by have := of_decide_eq_true g; omega), k6]
        have t6 : lget ([0, 0, 0, 0, 1, 2, 3, 0, 0] : List Int) 6 = 3 := rfl
        rw [t6]
        by_cases cs : (lget b.Slots (k : Int)).State = 3
        · rw [if_neg (by simp [cs]), if_neg (not_not_intro cs), if_neg (by decide), if_neg (by decide), if_neg (by decide), if_pos (by decide), asrt_pos (by omega), asrt_pos (by omega), hJ _ _ _ (by omega)]
        · rw [if_pos (by simp [cs]), if_pos cs]; rfl
    rw [if_neg k6]
    have hkl : (k : Int).toNat = k := Int.toNat_natCast k
    have hk1 : ((k + 1 : Nat) : Int) = (k : Int) + 1 := by omega
    by_cases k7 : o.Kind = 7
    · rw [if_pos k7, if_neg (by simp [k7]), asrt_pos (st9 _ (by omega) (by omega)), asrt_pos (fun g _ => by have := of_decide_eq_true g; omega), k7]
      have t7 : lget ([0, 0, 0, 0, 1, 2, 3, 0, 0] : List Int) 7 = 0 := rfl
      rw [t7]
      by_cases cs : (lget b.Slots (k : Int)).State = 0
      · rw [if_neg (by simp [cs]), if_neg (not_not_intro cs), if_neg (by decide), if_neg (by decide), if_neg (by decide), if_neg (by decide), if_pos (by decide)]
        by_cases cr : 40 < o.Row.length
        · rw [if_pos (d_t (by omega)), if_pos cr]; rfl
        · rw [if_neg (d_f (by omega)), if_neg cr, pt_eta, inPart_eq]
          by_cases cp : o.Row = (lget b.Slots (k : Int)).Part.From ∨ ¬ hasP (lget b.Slots (k : Int)).Part o.Row
          · rw [if_pos (by
              rw [Bool.or_eq_true]
              rcases cp with g | g
              · exact .inl (d_t g)
              · exact .inr (n_t g)), if_pos cp]
            rfl
          · rw [if_neg (by
              rw [Bool.or_eq_true]
              rintro (g | g)
              · exact cp (.inl (of_decide_eq_true g))
              · exact cp (.inr (by simpa using g))), if_neg cp]
            by_cases cl : 200 ≤ b.Slots.length
            · rw [if_pos (d_t (by omega)), if_pos cl]; rfl
            · have in1 : ∀ bs : List Slot, bs.length ≤ 10 → R_SlotsInstead b.Slots (k : Int) 1 bs = some (b.Slots.take k ++ bs ++ b.Slots.drop (k + 1)) := fun bs hb => instead_eq b.Slots (by omega) k 1 (by omega) bs hb
              rw [if_neg (d_f (by omega)), if_neg cl, in1 _ (by simp), ob_some, w64_id (x := b.Next + 1) (by omega) (by omega), w64_id (x := b.Next + 2) (by omega) (by omega), hkl]
              by_cases cn : 1000000000 < b.Next + 2
              · rw [if_pos cn, hJ9 _ _ _ cn]
              · rw [if_neg cn, hJ _ _ _ (by omega)]
      · rw [if_pos (by simp [cs]), if_pos cs]; rfl
    have k8 : o.Kind = 8 := by omega
    have hk8 : k + 1 < b.Slots.length := by omega
    rw [if_neg k7, if_neg (by simp [k8]), asrt_pos (st9 _ (by omega) (by omega)), asrt_pos (fun g _ => by omega), k8, hkl]
    have t8 : lget ([0, 0, 0, 0, 1, 2, 3, 0, 0] : List Int) 8 = 0 := rfl
    rw [t8, hk1]
    by_cases cs : (lget b.Slots (k : Int)).State ≠ 0 ∨ (lget b.Slots ((k : Int) + 1)).State ≠ 0
    · rw [if_pos (by simpa using cs), if_pos cs]; rfl
    · have in2 : ∀ bs : List Slot, bs.length ≤ 10 → R_SlotsInstead b.Slots (k : Int) 2 bs = some (b.Slots.take k ++ bs ++ b.Slots.drop (k + 2)) := fun bs hb => instead_eq b.Slots (by omega) k 2 (by omega) bs hb
      rw [if_neg (by simpa using cs), if_neg cs, if_neg (by decide), if_neg (by decide), if_neg (by decide), if_neg (by decide), if_neg (by decide), if_pos (by decide), asrt_pos (by omega), in2 _ (by simp), ob_some, w64_id (x := b.Next + 1) (by omega) (by omega)]
      by_cases cn : 1000000000 < b.Next + 1
      · rw [if_pos cn, hJ9 _ _ _ cn]
      · rw [if_neg cn, hJ _ _ _ (by omega)]
  · rw [if_pos (n_t e0), if_pos e0]
end G
end Go.Proofs.Ytdjlninhfndjfaa
