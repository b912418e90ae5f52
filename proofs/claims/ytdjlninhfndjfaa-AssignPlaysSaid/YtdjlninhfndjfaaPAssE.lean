/- Assign: come, lost. -/
import Derived.Test.YtdjlninhfndjfaaPAssD
namespace Go.Proofs.Ytdjlninhfndjfaa
open Go Go.Dm
set_option linter.unusedVariables false
set_option linter.unusedSimpArgs false
namespace G
/-- what Do makes of what a part answers -/
def outF (f : Fault) (b : Board) : Board × Fault := if f.Code = 0 then (b, f) else (⟨[], [], 0, 0⟩, f)
theorem hostK_at {b : Board} (h : BG b) (id : Int) : (0 ≤ hostK b id ∧ (lget b.Hosts (hostK b id)).Alive = true) ↔ 0 ≤ hostAt b id := by
  constructor
  · rintro ⟨h1, h2⟩
    rcases hostK_cases b id with e | ⟨k, hk, e, hid⟩
    · rw [e] at h1; exact absurd h1 (by decide)
    · rw [e] at h2
      exact (hostAt_iff b id).2 ⟨_, lget_mem b.Hosts (k : Int) (by omega), hid, h2⟩
  · intro h0
    obtain ⟨j, hj, ej, hid, hal⟩ := hostAt_at b id h0
    rcases hostK_cases b id with e | ⟨k, hk, e, hid2⟩
    · exfalso
      unfold hostK at e
      rcases firstFrom_cases (hostJ b id) (-1) b.Hosts.length 0 with ⟨g, _⟩ | ⟨i, x, g1, g2, g3, _, g5⟩
      · have := g j (Nat.zero_le _) (by omega)
        unfold hostJ at this
        rw [if_pos hid] at this; cases this
      · rw [g5] at e
        unfold hostJ at g3
        split at g3
        · cases g3; omega
        · cases g3
    · have : k = j := by
        rcases Nat.lt_trichotomy k j with c | c | c
        · exact absurd (hid2.trans hid.symm) (pw_iff.1 h.hnd k j c hj)
        · exact c
        · exact absurd (hid.trans hid2.symm) (pw_iff.1 h.hnd j k c hk)
      subst this
      rw [e]
      exact ⟨by omega, hal⟩
theorem come_eq {b : Board} (h : BG b) (id : Int) : ∃ r, assign_come id b.Turn b.Next b.Hosts b.Slots = some r ∧ outF r.1 ⟨r.2.1, b.Slots, r.2.2.1, r.2.2.2⟩ = comeF b id := by
  have hl := h.hosts
  have hka := hostK_at h id
  unfold assign_come comeF
  dsimp only [lt, assign_fault]
  rw [anumber_eq]
  by_cases c1 : numOk id
  · rw [if_neg (n_f c1), if_neg (not_not_intro c1), hostK2_eq b (by omega), ob_some]
    rcases hostK_cases b id with e | ⟨k, hk, e, hid⟩
    · rw [e] at hka ⊢
      have c2 : ¬ 0 ≤ hostAt b id := fun g => absurd (hka.2 g).1 (by decide)
      rw [asrt_pos (fun g => absurd g (by decide)), asrt_pos (fun g => absurd g (by decide)), if_neg (by simp), if_neg c2, if_pos (show (-1 : Int) < 0 by decide)]
      by_cases c3 : b.Hosts.length = 20
      · rw [if_pos (by simp [c3]), if_pos (by omega)]
        exact ⟨_, rfl, rfl⟩
      · rw [if_neg (by simp; omega), if_pos (by decide), asrt_pos (by rw [List.length_append]; simp; omega), if_neg (by omega)]
        exact ⟨_, rfl, rfl⟩
    · have he := (h.hid _ (lget_mem b.Hosts (k : Int) (by omega))).2
      unfold numOk at he
      rw [e] at hka ⊢
      rw [asrt_pos (fun _ => by omega), asrt_pos (fun _ => by omega)]
      by_cases c2 : 0 ≤ hostAt b id
      · rw [if_pos (by simp [(hka.2 c2).2]), if_pos c2]
        exact ⟨_, rfl, rfl⟩
      · have hna : (lget b.Hosts (k : Int)).Alive = false := by
          cases g : (lget b.Hosts (k : Int)).Alive with
          | false => rfl
          | true => exact absurd (hka.1 ⟨by omega, g⟩) c2
        rw [if_neg (by simp [hna]), if_neg c2, if_neg (by simp; omega), if_neg (d_f (by omega)), if_neg (show ¬ (k : Int) < 0 by omega), asrt_pos (by omega), asrt_pos (by omega), asrt_pos (by omega), w64_id (by omega) (by omega), asrt_pos (by rw [lset_len]; omega), lget_own _ _ _ hk, lset_lset]
        by_cases c3 : 1000000000 ≤ (lget b.Hosts (k : Int)).Epoch
        · rw [if_pos (d_t (by show 1000000000 < (lget b.Hosts (k : Int)).Epoch + 1; omega)), if_pos c3]
          exact ⟨_, rfl, rfl⟩
        · rw [if_neg (d_f (by show ¬ 1000000000 < (lget b.Hosts (k : Int)).Epoch + 1; omega)), if_neg c3, asrt_pos (by rw [lset_len]; omega), hid]
          exact ⟨_, rfl, rfl⟩
  · rw [if_pos (n_t c1), if_pos c1]
    exact ⟨_, rfl, rfl⟩
theorem lost_eq {b : Board} (h : BG b) (hs : b.Slots.length ≤ 100000) (id : Int) : ∃ r, assign_lost id b.Turn b.Next b.Hosts b.Slots = some r ∧ outF r.1 ⟨r.2.1, r.2.2, b.Turn, b.Next⟩ = goneF b id := by
  have hl := h.hosts
  have e : assign_HostAt (⟨b.Hosts, b.Slots, b.Turn, b.Next⟩ : Board) id = some (hostAt b id) := hostAt_eq b (by omega) id
  unfold assign_lost goneF
  rw [e, ob_some]
  by_cases c : hostAt b id < 0
  · rw [if_pos (d_t c), if_pos c]
    exact ⟨_, rfl, rfl⟩
  · have hb := (hostAt_bound b id).2
    rw [if_neg (d_f c), if_neg c, asrt_pos (by omega), asrt_pos (by omega), lost_loop _ _ _ _ hs]
    exact ⟨_, rfl, rfl⟩
end G
end Go.Proofs.Ytdjlninhfndjfaa
