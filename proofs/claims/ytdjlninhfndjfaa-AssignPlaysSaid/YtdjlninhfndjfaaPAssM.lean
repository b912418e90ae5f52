/- Assign: Loads, Due, and what the document says of them. -/
import Derived.Test.YtdjlninhfndjfaaPAssO
namespace Go.Proofs.Ytdjlninhfndjfaa
open Go Go.Dm
set_option linter.unusedVariables false
set_option linter.unusedSimpArgs false
namespace G
/-- how many slots a host has -/
def cntS (l : List Slot) (id : Int) : Int := ((l.filter fun s => decide (0 < s.State ∧ s.Host = id)).length : Int)
theorem cntS_app (a b : List Slot) (id : Int) : cntS (a ++ b) id = cntS a id + cntS b id := by
  unfold cntS
  rw [List.filter_append, List.length_append]; omega
theorem cntS_cons (s : Slot) (l : List Slot) (id : Int) : cntS (s :: l) id = (if 0 < s.State ∧ s.Host = id then 1 else 0) + cntS l id := by
  unfold cntS
  rw [List.filter_cons]
  by_cases c : 0 < s.State ∧ s.Host = id
  · rw [if_pos (decide_eq_true c), if_pos c, List.length_cons]; omega
  · rw [if_neg (by simpa using c), if_neg c]; omega
theorem cntS_nil (id : Int) : cntS [] id = 0 := rfl
theorem cntS_le (l : List Slot) (id : Int) : 0 ≤ cntS l id ∧ cntS l id ≤ (l.length : Int) := by
  have := List.length_filter_le (fun s : Slot => decide (0 < s.State ∧ s.Host = id)) l
  unfold cntS
  omega
theorem load_eq (b : Board) (h : b.Slots.length ≤ 100000) (id : Int) : R_LoadOf b id = some (cntS b.Slots id) := by
  unfold R_LoadOf
  have e0 : ((0 : Int), (0 : Int)) = (cntS (b.Slots.take 0) id, ((0 : Nat) : Int)) := rfl
  rw [e0]
  refine loop_run (step := fun y => R_LoadOf_B1 b id y) b.Slots.length (fun k => (cntS (b.Slots.take k) id, (k : Int))) (fun k hk => ?_) ?_
  · have hw : w64 ((k : Int) + 1) = ((k + 1 : Nat) : Int) := by rw [w64_id (by omega) (by omega)]; omega
    have hb := cntS_le (b.Slots.take k) id
    have hl : (b.Slots.take k).length ≤ 100000 := by rw [List.length_take]; omega
    have hw2 : w64 (cntS (b.Slots.take k) id + 1) = cntS (b.Slots.take k) id + 1 := w64_id (by omega) (by omega)
    show R_LoadOf_B1 b id (_, (k : Int)) = _
    rw [lget_take b.Slots k hk, cntS_app, cntS_cons, cntS_nil]
    unfold R_LoadOf_B1
    dsimp only
    rw [if_pos (d_t (by omega)), asrt_pos (by omega), asrt_pos (fun _ => by omega), hw, hw2]
    by_cases c : 0 < (lget b.Slots (k : Int)).State ∧ (lget b.Slots (k : Int)).Host = id
    · rw [if_pos (an_t c), if_pos c, ob_some]; rfl
    · rw [if_neg (an_f c), if_neg c, ob_some]
      simp
  · show R_LoadOf_B1 b id (_, (b.Slots.length : Int)) = _
    unfold R_LoadOf_B1
    dsimp only
    rw [if_neg (d_f (by omega)), List.take_length]
    rfl
/-- the loads by hosts' places -/
def ldF (H : List Host) (f : Int → Int) : List Int := H.map fun h => if h.Alive = true then f h.ID else 0
theorem ldF_len (H : List Host) (f : Int → Int) : (ldF H f).length = H.length := by simp [ldF]
theorem ldF_get (H : List Host) (f : Int → Int) (j : Nat) (hj : j < H.length) : lget (ldF H f) (j : Int) = if (lget H (j : Int)).Alive = true then f (lget H (j : Int)).ID else 0 := by
  rw [lget_nat _ j (by rw [ldF_len]; exact hj), lget_nat H j hj]
  simp [ldF]
theorem list_ext {α : Type} [Inhabited α] {a b : List α} (h : a.length = b.length) (he : ∀ j : Nat, j < a.length → lget a (j : Int) = lget b (j : Int)) : a = b := by
  refine List.ext_getElem h fun i h1 h2 => ?_
  have := he i h1
  rwa [lget_nat a i h1, lget_nat b i h2] at this
theorem ldF_up (H : List Host) (hnd : H.Pairwise (fun a c => a.ID ≠ c.ID)) (f g : Int → Int) (j : Nat) (hj : j < H.length) (hal : (lget H (j : Int)).Alive = true) (hfg : ∀ id, g id = f id + if id = (lget H (j : Int)).ID then 1 else 0) :
    lset (ldF H f) (j : Int) (lget (ldF H f) (j : Int) + 1) = ldF H g := by
  refine list_ext (by rw [lset_len, ldF_len, ldF_len]) fun i hi => ?_
  rw [lset_len, ldF_len] at hi
  rw [lget_lset _ _ _ _ (by rw [ldF_len]; omega) (by omega), ldF_get _ _ _ hi, ldF_get _ _ _ hi, ldF_get _ _ _ hj]
  by_cases e : i = j
  · subst e
    rw [if_pos rfl, if_pos hal, if_pos hal, hfg, if_pos rfl]
  · have hne : (lget H (i : Int)).ID ≠ (lget H (j : Int)).ID := by
      rcases Nat.lt_or_gt_of_ne e with c | c
      · exact pw_iff.1 hnd i j c hj
      · exact fun g => pw_iff.1 hnd j i c hi g.symm
    rw [if_neg (by omega), hfg, if_neg hne, Int.add_zero]
theorem host_one {b : Board} (h : BG b) {s : Slot} (hs : sOk b.Hosts b.Turn b.Next s) : (hostAt b s.Host < 0 ↔ s.State = 0) := by
  constructor
  · intro g
    apply Decidable.byContradiction
    intro c
    have := (hostAt_iff b s.Host).2 (hs.2.2 c).1
    omega
  · intro g
    have h0 := hs.2.1 g
    apply Decidable.byContradiction
    intro c
    obtain ⟨x, hx, e, _⟩ := (hostAt_iff b s.Host).1 (by omega)
    have := (h.hid x hx).1
    unfold numOk at this
    omega
theorem hostAt_at2 (b : Board) (id : Int) (h : 0 ≤ hostAt b id) : ∃ k : Nat, k < b.Hosts.length ∧ hostAt b id = (k : Int) ∧ (lget b.Hosts (k : Int)).ID = id ∧ (lget b.Hosts (k : Int)).Alive = true := by
  unfold hostAt at h ⊢
  rcases firstFrom_cases (hostI b id) (-1) b.Hosts.length 0 with ⟨_, e⟩ | ⟨j, x, h1, h2, h3, _, e⟩
  · rw [e] at h; omega
  · rw [e]
    unfold hostI at h3
    split at h3
    · rename_i c
      cases h3
      exact ⟨j, by omega, rfl, c.1, c.2⟩
    · cases h3
theorem loads_eq {b : Board} (h : BG b) : assign_Loads b = some (ldF b.Hosts (cntS b.Slots)) := by
  have hl := h.hosts
  have hsl := slot_len (bg_iff.2 h)
  unfold assign_Loads
  rw [asrt_pos (by omega), Int.toNat_natCast]
  have e0 : (List.replicate b.Hosts.length (0 : Int), (0 : Int)) = (ldF b.Hosts (cntS (b.Slots.take 0)), ((0 : Nat) : Int)) := by
    have : List.replicate b.Hosts.length (0 : Int) = ldF b.Hosts (cntS (b.Slots.take 0)) := by
      unfold ldF
      rw [List.take_zero]
      refine (List.eq_replicate_iff.2 ⟨by simp, fun x hx => ?_⟩).symm
      obtain ⟨y, _, e⟩ := List.mem_map.1 hx
      rw [← e, cntS_nil, ite_self]
    rw [this]; rfl
  rw [e0]
  refine loop_run (step := fun y => assign_Loads_B1 b y) b.Slots.length (fun k => (ldF b.Hosts (cntS (b.Slots.take k)), (k : Int))) (fun k hk => ?_) ?_
  · have hw : w64 ((k : Int) + 1) = ((k + 1 : Nat) : Int) := by rw [w64_id (by omega) (by omega)]; omega
    have hs := h.sok (lget b.Slots (k : Int)) (lget_mem b.Slots (k : Int) (by omega))
    have h1 := host_one h hs
    show assign_Loads_B1 b (_, (k : Int)) = _
    unfold assign_Loads_B1
    dsimp only
    rw [if_pos (d_t (by omega)), asrt_pos (by omega), hostAt_eq b (by omega), ob_some, hw]
    have hn : ∀ id, cntS (b.Slots.take (k + 1)) id = cntS (b.Slots.take k) id + if 0 < (lget b.Slots (k : Int)).State ∧ (lget b.Slots (k : Int)).Host = id then 1 else 0 := by
      intro id
      rw [lget_take b.Slots k hk, cntS_app, cntS_cons, cntS_nil]; omega
    by_cases c : hostAt b (lget b.Slots (k : Int)).Host < 0
    · rw [if_neg (d_f (by omega)), ob_some]
      have : cntS (b.Slots.take (k + 1)) = cntS (b.Slots.take k) := by
        funext id
        rw [hn, if_neg (by have := h1.1 c; omega), Int.add_zero]
      rw [this]
    · obtain ⟨j, hj, e, hid, hal⟩ := hostAt_at2 b (lget b.Slots (k : Int)).Host (by omega)
      have hb := cntS_le (b.Slots.take k) (lget b.Hosts (j : Int)).ID
      have hl2 : (b.Slots.take k).length ≤ 200 := by rw [List.length_take]; omega
      have hst : ¬ (lget b.Slots (k : Int)).State = 0 := fun g => c (h1.2 g)
      rw [e, if_pos (d_t (by omega)), asrt_pos (by rw [ldF_len]; omega), asrt_pos (by rw [ldF_len]; omega), asrt_pos (by rw [ldF_len]; omega), asrt_pos (by rw [ldF_len]; omega)]
      have hw3 : w64 (lget (ldF b.Hosts (cntS (b.Slots.take k))) (j : Int) + 1) = lget (ldF b.Hosts (cntS (b.Slots.take k))) (j : Int) + 1 := by
        rw [ldF_get _ _ _ hj, if_pos hal, w64_id (by omega) (by omega)]
      rw [hw3, ldF_up b.Hosts h.hnd (cntS (b.Slots.take k)) (cntS (b.Slots.take (k + 1))) j hj hal, ob_some]
      intro id
      rw [hn, hid]
      by_cases g : (lget b.Slots (k : Int)).Host = id
      · rw [if_pos ⟨by have := hs.1; omega, g⟩, if_pos g.symm]
      · rw [if_neg (fun x => g x.2), if_neg (fun x => g x.symm)]
  · show assign_Loads_B1 b (_, (b.Slots.length : Int)) = _
    unfold assign_Loads_B1
    dsimp only
    rw [if_neg (d_f (by omega)), List.take_length]
    rfl
/-- the best host, by its number (0: there is none) -/
def better (f : Int → Int) (h : Host) (best : Int) : Prop := h.Alive = true ∧ (best = 0 ∨ f h.ID < f best ∨ (f h.ID = f best ∧ h.ID < best))
instance (f : Int → Int) (h : Host) (best : Int) : Decidable (better f h best) := by unfold better; infer_instance
def pickF (f : Int → Int) : List Host → Int → Int
  | [], best => best
  | h :: r, best => pickF f r (if better f h best then h.ID else best)
def dueF (H : List Host) : List Slot → List Slot → List Order
  | _, [] => []
  | A, s :: B => if s.State = 0 ∧ 0 < pickF (cntS (A ++ s :: B)) H 0 then ⟨3, s.Part.ID, pickF (cntS (A ++ s :: B)) H 0, 0, []⟩ :: dueF H (A ++ [⟨s.Part, 1, pickF (cntS (A ++ s :: B)) H 0, s.Turn⟩]) B else dueF H (A ++ [s]) B
theorem dueF_len (H : List Host) : ∀ (B A : List Slot), (dueF H A B).length ≤ B.length
  | [], A => by simp [dueF]
  | s :: B, A => by
    rw [dueF]
    split
    · have := dueF_len H B (A ++ [⟨s.Part, 1, pickF (cntS (A ++ s :: B)) H 0, s.Turn⟩])
      simp only [List.length_cons]; omega
    · have := dueF_len H B (A ++ [s])
      simp only [List.length_cons]; omega
theorem pick_in (f : Int → Int) : ∀ (H : List Host) (best : Int), pickF f H best = best ∨ ∃ h ∈ H, h.Alive = true ∧ pickF f H best = h.ID
  | [], best => .inl rfl
  | h :: r, best => by
    rw [pickF]
    by_cases c : better f h best
    · rw [if_pos c]
      rcases pick_in f r h.ID with e | ⟨x, hx, ha, e⟩
      · exact .inr ⟨h, by simp, c.1, e⟩
      · exact .inr ⟨x, by simp [hx], ha, e⟩
    · rw [if_neg c]
      rcases pick_in f r best with e | ⟨x, hx, ha, e⟩
      · exact .inl e
      · exact .inr ⟨x, by simp [hx], ha, e⟩
theorem pick_pos (f : Int → Int) : ∀ (H : List Host) (best : Int), (∀ h ∈ H, 1 ≤ h.ID) → 0 ≤ best → ((∃ h ∈ H, h.Alive = true) ∨ 0 < best) → 0 < pickF f H best
  | [], best, _, _, h => by
    rcases h with ⟨x, hx, _⟩ | h
    · cases hx
    · exact h
  | h :: r, best, hi, hb, hx => by
    rw [pickF]
    have h1 := hi h (by simp)
    refine pick_pos f r _ (fun x hx => hi x (by simp [hx])) (by split <;> omega) ?_
    by_cases c : better f h best
    · rw [if_pos c]; exact .inr (by omega)
    · rw [if_neg c]
      by_cases b0 : 0 < best
      · exact .inr b0
      · refine .inl ?_
        rcases hx with ⟨x, hx, ha⟩ | hx
        · rcases List.mem_cons.1 hx with e | hx
          · subst e
            exact absurd ⟨ha, .inl (by omega)⟩ c
          · exact ⟨x, hx, ha⟩
        · exact absurd hx b0
end G
end Go.Proofs.Ytdjlninhfndjfaa
