/- Boards: Ordered. -/
import Derived.Test.YtdjlninhfndjfaaPBoardO
namespace Go.Proofs.Ytdjlninhfndjfaa
open Go Go.Dm
set_option linter.unusedVariables false
set_option linter.unusedSimpArgs false
namespace G
def OG (o : Option (List Host × List Slot × Int × Int × Fault)) : Prop := ∃ r, o = some r ∧ (r.2.2.2.2.Code = 0 → BG ⟨r.1, r.2.1, r.2.2.1, r.2.2.2.1⟩)
theorem OG_bad {c a : Int} (h : c ≠ 0) : OG (some (([] : List Host), ([] : List Slot), 0, 0, (⟨c, a⟩ : Fault))) := ⟨_, rfl, fun g => absurd g h⟩
theorem OG_ok {hs : List Host} {s : List Slot} {t n : Int} {f : Fault} (h : BG ⟨hs, s, t, n⟩) : OG (some (hs, s, t, n, f)) := ⟨_, rfl, fun _ => h⟩
theorem hostIn_f (b : Board) (h : b.Hosts.length ≤ 100000) (id : Int) : ∃ x : Int, R_HostIn b id false = some x ∧ ((x = -1 ∧ ∀ a ∈ b.Hosts, a.ID ≠ id) ∨ ∃ k : Nat, k < b.Hosts.length ∧ x = (k : Int) ∧ (lget b.Hosts (k : Int)).ID = id) := by
  unfold R_HostIn
  have := loop_first (step := fun y => R_HostIn_B1 b id false y) b.Hosts.length (fun k => (k : Int)) (fun k => (lget b.Hosts (k : Int)).ID = id) (fun k => (k : Int)) (r := -1)
    (fun k hk hb => by
      have hw : w64 ((k : Int) + 1) = ((k + 1 : Nat) : Int) := by rw [w64_id (by omega) (by omega)]; omega
      show R_HostIn_B1 b id false (k : Int) = _
      unfold R_HostIn_B1
      rw [if_pos (d_t (by omega)), asrt_pos (by omega), asrt_pos (fun _ => by omega), if_neg (by simp [hb]), hw])
    (fun k hk hb => by
      show R_HostIn_B1 b id false (k : Int) = _
      unfold R_HostIn_B1
      rw [if_pos (d_t (by omega)), asrt_pos (by omega), asrt_pos (fun _ => by omega), if_pos (by simp [hb])])
    (by
      show R_HostIn_B1 b id false (b.Hosts.length : Int) = _
      unfold R_HostIn_B1
      rw [if_neg (d_f (by omega))]; rfl)
  rcases this with ⟨j, h1, h2, h3, h4⟩ | ⟨h1, h4⟩
  · exact ⟨_, h4, .inr ⟨j, h1, rfl, h2⟩⟩
  · exact ⟨_, h4, .inl ⟨rfl, all_lget.2 fun k hk => h1 k hk⟩⟩
theorem slotIn_eq (b : Board) (h : b.Slots.length ≤ 100000) (id : Int) : ∃ x : Int, R_SlotIn b id = some x ∧ (x = -1 ∨ ∃ k : Nat, k < b.Slots.length ∧ x = (k : Int)) := by
  unfold R_SlotIn
  have := loop_first (step := fun y => R_SlotIn_B1 b id y) b.Slots.length (fun k => (k : Int)) (fun k => (lget b.Slots (k : Int)).Part.ID = id) (fun k => (k : Int)) (r := -1)
    (fun k hk hb => by
      have hw : w64 ((k : Int) + 1) = ((k + 1 : Nat) : Int) := by rw [w64_id (by omega) (by omega)]; omega
      show R_SlotIn_B1 b id (k : Int) = _
      unfold R_SlotIn_B1
      rw [if_pos (d_t (by omega)), asrt_pos (by omega), if_neg (d_f hb), hw])
    (fun k hk hb => by
      show R_SlotIn_B1 b id (k : Int) = _
      unfold R_SlotIn_B1
      rw [if_pos (d_t (by omega)), asrt_pos (by omega), if_pos (d_t hb)])
    (by
      show R_SlotIn_B1 b id (b.Slots.length : Int) = _
      unfold R_SlotIn_B1
      rw [if_neg (d_f (by omega))]; rfl)
  rcases this with ⟨j, h1, h2, h3, h4⟩ | ⟨h1, h4⟩
  · exact ⟨_, h4, .inr ⟨j, h1, rfl⟩⟩
  · exact ⟨_, h4, .inl rfl⟩
theorem hostAt_at (b : Board) (id : Int) (h : 0 ≤ hostAt b id) : ∃ k : Nat, k < b.Hosts.length ∧ hostAt b id = (k : Int) ∧ (lget b.Hosts (k : Int)).ID = id ∧ (lget b.Hosts (k : Int)).Alive = true := by
  unfold hostAt at h ⊢
  rcases firstFrom_cases (hostI b id) (-1) b.Hosts.length 0 with ⟨_, e⟩ | ⟨j, x, h1, h2, h3, _, e⟩
  · rw [e] at h; omega
  · rw [e]
    unfold hostI at h3
    split at h3
    · rename_i c
      cases h3
      exact ⟨j, by omega, rfl, c.1, c.2⟩
    · cases h3
theorem instead_eq (l : List Slot) (hl : l.length ≤ 100000) (k n : Nat) (hk : k + n ≤ l.length) (bs : List Slot) (hb : bs.length ≤ 10) : R_SlotsInstead l (k : Int) (n : Int) bs = some (l.take k ++ bs ++ l.drop (k + n)) := by
  have hw : w64 ((k : Int) + (n : Int)) = ((k + n : Nat) : Int) := by rw [w64_id (by omega) (by omega)]; omega
  unfold R_SlotsInstead
  rw [hw, ltake_nat, ldrop_nat, asrt_pos (by omega), asrt_pos (by rw [List.length_take]; omega), asrt_pos (by rw [List.length_append, List.length_take]; omega), asrt_pos (by omega), asrt_pos (by rw [List.length_append, List.length_append, List.length_take, List.length_drop]; omega)]
theorem gone_loop (o : Order) (x : Fault) (x1 : List Host × List Slot × Int × Int) (v1 : List Host) (l : List Slot) (hl : l.length ≤ 100000) : R_Ordered_L1 o x x1 v1 (l, 0) = some (v1, l.map (clr o.ID), x1.2.2.1, x1.2.2.2, x) := by
  have e0 : (l, (0 : Int)) = ((l.take 0).map (clr o.ID) ++ l.drop 0, ((0 : Nat) : Int)) := by simp
  unfold R_Ordered_L1
  rw [e0]
  refine loop_run (step := fun y => R_Ordered_B1 o x x1 v1 y) l.length (fun k => ((l.take k).map (clr o.ID) ++ l.drop k, (k : Int))) (fun k hk => ?_) ?_
  · have hw : w64 ((k : Int) + 1) = ((k + 1 : Nat) : Int) := by rw [w64_id (by omega) (by omega)]; omega
    have hA : ((l.take k).map (clr o.ID)).length = k := by rw [List.length_map, List.length_take]; omega
    show R_Ordered_B1 o x x1 v1 (_, (k : Int)) = _
    have hn : (l.take (k + 1)).map (clr o.ID) ++ l.drop (k + 1) = (l.take k).map (clr o.ID) ++ clr o.ID (lget l (k : Int)) :: l.drop (k + 1) := by
      rw [lget_take l k hk, List.map_append, List.append_assoc]; rfl
    rw [lget_drop l k hk, hn]
    generalize (l.take k).map (clr o.ID) = A at hA
    generalize lget l (k : Int) = s
    have hB : l.drop (k + 1) = l.drop (k + 1) := rfl
    have hBl : (l.drop (k + 1)).length + k + 1 = l.length := by rw [List.length_drop]; omega
    generalize l.drop (k + 1) = B at hBl
    have hg : ∀ y : Slot, lget (A ++ y :: B) (k : Int) = y := by
      intro y
      rw [lget_app_r _ _ _ (by omega), hA, Int.sub_self]; rfl
    have hs : ∀ y z : Slot, lset (A ++ y :: B) (k : Int) z = A ++ z :: B := by
      intro y z
      have := lset_mid A y z B
      rwa [hA] at this
    have hlen : ∀ y : Slot, (A ++ y :: B).length = l.length := by
      intro y
      rw [List.length_append, List.length_cons, hA]; omega
    unfold R_Ordered_B1
    dsimp only
    rw [hlen, if_pos (d_t (by omega)), asrt_pos (by omega), asrt_pos (by omega), hg, hw]
    dsimp only [lt]
    rw [hs, hlen, asrt_pos (by omega), asrt_pos (by omega), asrt_pos (by omega), asrt_pos (by omega), hg, hs]
    unfold clr
    by_cases c : s.Host = o.ID
    · rw [if_pos (d_t c), if_pos c]; rfl
    · rw [if_neg (d_f c), if_neg c]; rfl
  · show R_Ordered_B1 o x x1 v1 (_, (l.length : Int)) = _
    unfold R_Ordered_B1
    dsimp only
    rw [List.take_length, List.drop_length, List.append_nil, List.length_map, if_neg (d_f (by omega))]
    rfl
theorem bcond {p q r : Prop} {_ : Decidable p} {_ : Decidable q} {_ : Decidable r} : (((!decide p) || (decide q && !decide r)) = true) ↔ (¬ p ∨ (q ∧ ¬ r)) := by simp
theorem OG_ite {c : Bool} {a b : Option (List Host × List Slot × Int × Int × Fault)} (h1 : c = true → OG a) (h2 : ¬ c = true → OG b) : OG (if c = true then a else b) := by
  by_cases h : c = true
  · rw [if_pos h]; exact h1 h
  · rw [if_neg h]; exact h2 h
theorem BG.turn_ne {b : Board} (h : BG b) {k : Nat} (hk : k < b.Slots.length) (h0 : 0 < (lget b.Slots (k : Int)).Turn) : ∀ j : Nat, j < b.Slots.length → j ≠ k → (lget b.Slots (j : Int)).Turn ≠ (lget b.Slots (k : Int)).Turn := by
  intro j hj hne
  rcases Nat.lt_or_gt_of_ne hne with c | c
  · exact pw_iff.1 h.tnd j k c hk h0
  · intro e
    exact pw_iff.1 h.tnd k j c hj (by omega) e.symm
theorem ordered_good {b : Board} (hg : BGood b) (o : Order) : OG (R_Ordered b o) := by
  have pt_eta : ∀ p : Part, (⟨p.From, p.To, p.ID⟩ : Part) = p := fun p => rfl
  have h := bg_iff.1 hg
  have hsl := slot_len hg
  have hhl := h.hosts
  have hN := h.next
  have hT := h.turn
  unfold numOk at hN
  have e0 : (boardF b).Code = 0 := boardF_good.2 hg
  have hc : R_CopyBoard b = some (b.Hosts, b.Slots, b.Turn, b.Next) := by
    unfold R_CopyBoard
    rw [asrt_pos (by omega), asrt_pos (by omega)]
  have hJ2 : ∀ (f : Fault) (s : List Slot) (t n : Int), (n ≤ 1000000000 → BG ⟨b.Hosts, s, t, n⟩) → OG (R_Ordered_J2 f (b.Hosts, b.Slots, b.Turn, b.Next) (s, t, n)) := by
    intro f s t n hbg
    unfold R_Ordered_J2
    dsimp only [lt, R_F]
    by_cases c : 1000000000 < n
    · rw [if_pos (d_t c)]; exact OG_bad (by decide)
    · rw [if_neg (d_f c)]; exact OG_ok (hbg (by omega))
  unfold R_Ordered
  rw [rboard_eq _ (by omega), ob_some, if_neg (n_f e0), hc, ob_some]
  by_cases ck : o.Kind < 1 ∨ 8 < o.Kind
  · rw [if_pos (or_t ck)]; exact OG_bad (by decide)
  rw [if_neg (or_f ck)]
  by_cases k1 : o.Kind = 1
  · rw [if_pos (d_t k1), one_eq]
    dsimp only [lt, R_F]
    by_cases c1 : numOk o.ID
    · rw [if_neg (n_f c1), hostIn_eq b (by omega), ob_some]
      by_cases c2 : 0 ≤ hostAt b o.ID
      · rw [if_pos (d_t c2)]; exact OG_bad (by decide)
      · rw [if_neg (d_f c2)]
        obtain ⟨x, hx, hx2⟩ := hostIn_f b (by omega) o.ID
        rw [hx, ob_some]
        rcases hx2 with ⟨rfl, hne⟩ | ⟨k, hk, rfl, hid⟩
        · rw [if_pos (by decide)]
          by_cases c3 : 20 ≤ b.Hosts.length
          · rw [if_pos (d_t (by omega))]; exact OG_bad (by decide)
          · rw [if_neg (d_f (by omega)), asrt_pos (by rw [List.length_append]; simp; omega)]
            exact OG_ok (h.come c1 hne (by omega))
        · have he := (h.hid _ (lget_mem b.Hosts (k : Int) (by omega))).2
          unfold numOk at he
          rw [if_neg (d_f (by omega)), asrt_pos (by omega)]
          by_cases c3 : 1000000000 ≤ (lget b.Hosts (k : Int)).Epoch
          · rw [if_pos (d_t c3)]; exact OG_bad (by decide)
          · rw [if_neg (d_f c3), asrt_pos (by omega), asrt_pos (by omega), asrt_pos (by omega), w64_id (by omega) (by omega)]
            refine OG_ok (h.hset hk hid.symm (by show 1 ≤ _ + 1 ∧ _ + 1 ≤ (1000000000 : Int); omega) rfl (fun s hs => (h.sok s hs).mono (Int.le_refl _) (Int.le_refl _) ?_) h.tnd)
            rintro _ ⟨y, hy, ey, ea⟩
            obtain ⟨m, hm, em⟩ := mem_lget.1 hy
            by_cases e : m = k
            · subst e
              rw [em] at hid
              refine ⟨⟨o.ID, _, true⟩, mem_lget.2 ⟨m, by rw [lset_len]; exact hm, by rw [lget_lset _ _ _ _ (by omega) (by omega), if_pos rfl]⟩, ?_, rfl⟩
              rw [← ey, hid]
            · exact ⟨y, mem_lget.2 ⟨m, by rw [lset_len]; exact hm, by rw [lget_lset _ _ _ _ (by omega) (by omega), if_neg (by omega)]; exact em⟩, ey, ea⟩
    · rw [if_pos (n_t c1)]; exact OG_bad (by decide)
  rw [if_neg (d_f k1)]
  by_cases k2 : o.Kind = 2
  · rw [if_pos (d_t k2), hostIn_eq b (by omega), ob_some]
    dsimp only [lt, R_F]
    by_cases c2 : hostAt b o.ID < 0
    · rw [if_pos (d_t c2)]; exact OG_bad (by decide)
    · obtain ⟨k, hk, hk2, hid, hal⟩ := hostAt_at b o.ID (by omega)
      rw [hk2, if_neg (d_f (by omega)), asrt_pos (by omega), asrt_pos (by omega), gone_loop _ _ _ _ _ (by omega)]
      refine OG_ok ?_
      have := h.gone hk
      rw [hid] at this ⊢
      exact this
  rw [if_neg (d_f k2)]
  obtain ⟨x, hx, hx2⟩ := slotIn_eq b (by omega) o.ID
  rw [hx, ob_some]
  dsimp only [lt, R_F]
  rcases hx2 with rfl | ⟨k, hk, rfl⟩
  · rw [if_pos (by simp)]; exact OG_bad (by decide)
  have hw : w64 ((k : Int) + 1) = ((k + 1 : Nat) : Int) := by rw [w64_id (by omega) (by omega)]; omega
  rw [hw]
  by_cases c8 : o.Kind = 8 ∧ b.Slots.length ≤ k + 1
  · rw [if_pos (by simp; omega)]; exact OG_bad (by decide)
  rw [if_neg (by simp; omega), asrt_pos (by omega), hostIn_eq b (by omega)]
  have hO : ∃ y : Int, (if (decide (o.Kind = 3)) = true then some (hostAt b o.Host) else some default) = some y ∧ (o.Kind = 3 → y = hostAt b o.Host) := by
    by_cases c : o.Kind = 3
    · exact ⟨_, if_pos (d_t c), fun _ => rfl⟩
    · exact ⟨_, if_neg (d_f c), fun g => absurd g c⟩
  obtain ⟨y, hy, hy3⟩ := hO
  rw [hy, ob_some]
  refine OG_ite (fun _ => OG_bad (by decide)) fun c3 => ?_
  refine OG_ite (fun _ => OG_bad (by decide)) fun _ => ?_
  rw [asrt_pos (by constructor; omega; show o.Kind < 9; omega), asrt_pos (fun g _ => by have := of_decide_eq_true g; omega)]
  refine OG_ite (fun _ => OG_bad (by decide)) fun cs => ?_
  have hst : (lget b.Slots (k : Int)).State = lget ([0, 0, 0, 0, 1, 2, 3, 0, 0] : List Int) o.Kind := by
    apply Decidable.byContradiction
    intro g
    apply cs
    rw [Bool.or_eq_true]
    exact .inl (n_t g)
  have hs0 := h.sok (lget b.Slots (k : Int)) (lget_mem b.Slots (k : Int) (by omega))
  have hb0 := hs0.1
  have htn := h.turn_ne hk
  have in1 : ∀ bs : List Slot, bs.length ≤ 10 → R_SlotsInstead b.Slots (k : Int) 1 bs = some (b.Slots.take k ++ bs ++ b.Slots.drop (k + 1)) := fun bs hb => instead_eq b.Slots (by omega) k 1 (by omega) bs hb
  by_cases k3 : o.Kind = 3
  · rw [if_pos (d_t k3)]
    have hh : 0 ≤ hostAt b o.Host := by
      apply Decidable.byContradiction
      intro g
      exact c3 (an_t ⟨k3, by rw [hy3 k3]; omega⟩)
    by_cases ct : 1000000000 ≤ b.Turn
    · rw [if_pos (d_t ct)]; exact OG_bad (by decide)
    · rw [if_neg (d_f ct), asrt_pos (by omega), asrt_pos (by omega), w64_id (by omega) (by omega)]
      refine hJ2 _ _ _ _ fun _ => h.sset (x := ⟨(lget b.Slots (k : Int)).Part, 1, o.Host, b.Turn + 1⟩) hk rfl (by omega) ⟨?_, ?_, ?_⟩ ?_
      · exact ⟨by show (0 : Int) ≤ 1; omega, by show (1 : Int) ≤ 3; omega, by show 0 ≤ b.Turn + 1; omega, Int.le_refl _, hb0.2.2.2.2.1, hb0.2.2.2.2.2⟩
      · intro g; exact absurd (show (1 : Int) = 0 from g) (by decide)
      · intro _
        exact ⟨(hostAt_iff b o.Host).1 hh, by show b.Turn + 1 ≠ 0; omega⟩
      · intro _ j hj _
        have := (h.sok _ (lget_mem b.Slots (j : Int) (by omega))).1
        show _ ≠ b.Turn + 1
        omega
  rw [if_neg (d_f k3)]
  by_cases k4 : o.Kind = 4
  · have hz : (lget b.Slots (k : Int)).State = 1 := by rw [hst, k4]; rfl
    rw [if_pos (d_t k4), asrt_pos (by omega), asrt_pos (by omega)]
    refine hJ2 _ _ _ _ fun _ => h.sset (x := ⟨(lget b.Slots (k : Int)).Part, 2, (lget b.Slots (k : Int)).Host, (lget b.Slots (k : Int)).Turn⟩) hk rfl (by omega) ⟨?_, ?_, ?_⟩ htn
    · exact ⟨by show (0 : Int) ≤ 2; omega, by show (2 : Int) ≤ 3; omega, hb0.2.2⟩
    · intro g; exact absurd (show (2 : Int) = 0 from g) (by decide)
    · intro _
      exact hs0.2.2 (by omega)
  rw [if_neg (d_f k4)]
  by_cases k5 : o.Kind = 5
  · have hz : (lget b.Slots (k : Int)).State = 2 := by rw [hst, k5]; rfl
    rw [if_pos (d_t k5), asrt_pos (by omega), asrt_pos (by omega)]
    refine hJ2 _ _ _ _ fun _ => h.sset (x := ⟨(lget b.Slots (k : Int)).Part, 3, (lget b.Slots (k : Int)).Host, (lget b.Slots (k : Int)).Turn⟩) hk rfl (by omega) ⟨?_, ?_, ?_⟩ htn
    · exact ⟨by show (0 : Int) ≤ 3; omega, by show (3 : Int) ≤ 3; omega, hb0.2.2⟩
    · intro g; exact absurd (show (3 : Int) = 0 from g) (by decide)
    · intro _
      exact hs0.2.2 (by omega)
  rw [if_neg (d_f k5)]
  by_cases k6 : o.Kind = 6
  · rw [if_pos (d_t k6), asrt_pos (by omega), asrt_pos (by omega)]
    refine hJ2 _ _ _ _ fun _ => h.sset (x := ⟨(lget b.Slots (k : Int)).Part, 0, 0, (lget b.Slots (k : Int)).Turn⟩) hk rfl (by omega) ⟨?_, ?_, ?_⟩ htn
    · exact ⟨by show (0 : Int) ≤ 0; omega, by show (0 : Int) ≤ 3; omega, hb0.2.2⟩
    · intro _; rfl
    · intro g; exact absurd rfl g
  rw [if_neg (d_f k6)]
  by_cases k7 : o.Kind = 7
  · rw [if_pos (d_t k7)]
    by_cases cr : 40 < o.Row.length
    · rw [if_pos (d_t (by omega))]; exact OG_bad (by decide)
    · rw [if_neg (d_f (by omega)), pt_eta, inPart_eq]
      by_cases cp : o.Row = (lget b.Slots (k : Int)).Part.From ∨ ¬ hasP (lget b.Slots (k : Int)).Part o.Row
      · rw [if_pos (by
          rw [Bool.or_eq_true]
          rcases cp with g | g
          · exact .inl (d_t g)
          · exact .inr (n_t g))]
        exact OG_bad (by decide)
      · rw [not_or, Decidable.not_not] at cp
        rw [if_neg (by
          rw [Bool.or_eq_true]
          rintro (g | g)
          · exact d_f cp.1 g
          · exact n_f cp.2 g)]
        by_cases cl : 200 ≤ b.Slots.length
        · rw [if_pos (d_t (by omega))]; exact OG_bad (by decide)
        · rw [if_neg (d_f (by omega)), in1 _ (by simp), ob_some, w64_id (x := b.Next + 1) (by omega) (by omega), w64_id (x := b.Next + 2) (by omega) (by omega)]
          exact hJ2 _ _ _ _ fun hn => h.split hk (by omega) cp.1 cp.2 (by omega) hn
  rw [if_neg (d_f k7)]
  have k8 : o.Kind = 8 := by omega
  have hk8 : k + 1 < b.Slots.length := by omega
  have in2 : ∀ bs : List Slot, bs.length ≤ 10 → R_SlotsInstead b.Slots (k : Int) 2 bs = some (b.Slots.take k ++ bs ++ b.Slots.drop (k + 2)) := fun bs hb => instead_eq b.Slots (by omega) k 2 (by omega) bs hb
  rw [if_pos (d_t k8), asrt_pos (by omega), in2 _ (by simp), ob_some, w64_id (x := b.Next + 1) (by omega) (by omega)]
  exact hJ2 _ _ _ _ fun hn => h.join hk8 hn
end G
end Go.Proofs.Ytdjlninhfndjfaa
