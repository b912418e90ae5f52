/- Assign: does, kinds 3 to 6. -/
import Derived.Test.YtdjlninhfndjfaaPAssE
namespace Go.Proofs.Ytdjlninhfndjfaa
open Go Go.Dm
set_option linter.unusedVariables false
set_option linter.unusedSimpArgs false
namespace G
def DoesAs (b : Board) (o : Order) (k : Nat) : Prop := ∃ r, assign_does (k : Int) o b.Turn b.Next b.Hosts b.Slots = some r ∧ outF r.1 ⟨r.2.1, r.2.2.1, r.2.2.2.1, r.2.2.2.2⟩ = doesF b o (k : Int)
theorem does3 {b : Board} (h : BG b) {o : Order} {k : Nat} (hk : k < b.Slots.length) (hs : b.Slots.length ≤ 100000) (k3 : o.Kind = 3) : DoesAs b o k := by
  have hl := h.hosts
  have hT := h.turn
  have hN := h.next
  unfold numOk at hN
  have e : assign_HostAt_v1 b.Turn b.Next o.Host b.Hosts b.Slots = some (hostAt b o.Host, b.Hosts) := by
    have := hostAt_eq b (by omega) o.Host
    unfold assign_HostAt at this
    unfold assign_HostAt_v1
    cases g : slices_IndexFunc_api_Host_api_Host b.Hosts o.Host with
    | none => rw [g] at this; cases this
    | some v =>
      rw [g, ob_some] at this
      cases this
      rfl
  unfold DoesAs assign_does doesF setF
  dsimp only [lt, assign_fault]
  rw [asrt_pos (by omega), if_pos (d_t k3), if_pos k3, e, ob_some]
  by_cases c : hostAt b o.Host < 0
  · rw [if_pos (d_t c), if_pos c]
    exact ⟨_, rfl, rfl⟩
  · rw [if_neg (d_f c), if_neg c, asrt_pos (by omega)]
    by_cases cs : (lget b.Slots (k : Int)).State = 0
    · rw [if_neg (n_f cs), if_neg (not_not_intro cs)]
      simp only [lset_lset, lget_own _ _ _ hk, lset_len]
      rw [asrt_pos (by omega), asrt_pos (by omega), asrt_pos (by omega), w64_id (by omega) (by omega)]
      unfold assign_does_J1
      dsimp only [lt, assign_fault]
      by_cases ct : 1000000000 ≤ b.Turn
      · rw [if_pos (or_t (by omega)), if_pos ct]
        exact ⟨_, rfl, rfl⟩
      · rw [if_neg (or_f (by omega)), if_neg ct]
        exact ⟨_, rfl, rfl⟩
    · rw [if_pos (n_t cs), if_pos cs]
      exact ⟨_, rfl, rfl⟩
theorem does4 {b : Board} (h : BG b) {o : Order} {k : Nat} (hk : k < b.Slots.length) (k4 : o.Kind = 4) : DoesAs b o k := by
  unfold DoesAs assign_does doesF setF
  dsimp only [lt, assign_fault]
  rw [asrt_pos (by omega), if_neg (d_f (by omega)), if_neg (show ¬ o.Kind = 3 by omega), if_pos (d_t k4), if_pos k4, given_eq k o 1 b.Slots hk, ob_some, asrt_pos (by omega)]
  by_cases cg : (lget b.Slots (k : Int)).Host ≠ o.Host ∨ (lget b.Slots (k : Int)).Turn ≠ o.Turn
  · rw [if_pos cg, if_pos cg]
    exact ⟨_, rfl, rfl⟩
  · rw [if_neg cg, if_neg cg]
    by_cases cs : (lget b.Slots (k : Int)).State ≠ 1
    · rw [if_pos cs, if_pos cs]
      exact ⟨_, rfl, rfl⟩
    · rw [if_neg cs, if_neg cs]
      exact ⟨_, rfl, rfl⟩
theorem does5 {b : Board} (h : BG b) {o : Order} {k : Nat} (hk : k < b.Slots.length) (k5 : o.Kind = 5) : DoesAs b o k := by
  have hT := h.turn
  have hN := h.next
  unfold numOk at hN
  unfold DoesAs assign_does doesF setF
  dsimp only [lt, assign_fault]
  rw [asrt_pos (by omega), if_neg (d_f (by omega)), if_neg (show ¬ o.Kind = 3 by omega), if_neg (d_f (by omega)), if_neg (show ¬ o.Kind = 4 by omega), if_pos (d_t k5), if_pos k5, asrt_pos (by omega)]
  by_cases cs : (lget b.Slots (k : Int)).State = 2
  · rw [if_neg (n_f cs), if_neg (not_not_intro cs), asrt_pos (by omega)]
    unfold assign_does_J1
    rw [if_neg (or_f (by simp only; omega))]
    exact ⟨_, rfl, rfl⟩
  · rw [if_pos (n_t cs), if_pos cs]
    exact ⟨_, rfl, rfl⟩
theorem does6 {b : Board} (h : BG b) {o : Order} {k : Nat} (hk : k < b.Slots.length) (k6 : o.Kind = 6) : DoesAs b o k := by
  unfold DoesAs assign_does doesF setF
  dsimp only [lt, assign_fault]
  rw [asrt_pos (by omega), if_neg (d_f (by omega)), if_neg (show ¬ o.Kind = 3 by omega), if_neg (d_f (by omega)), if_neg (show ¬ o.Kind = 4 by omega), if_neg (d_f (by omega)), if_neg (show ¬ o.Kind = 5 by omega), if_pos (d_t k6), if_pos k6, given_eq k o 3 b.Slots hk, ob_some, off_eq k _ hk, ob_some]
  by_cases cg : (lget b.Slots (k : Int)).Host ≠ o.Host ∨ (lget b.Slots (k : Int)).Turn ≠ o.Turn
  · rw [if_pos cg, if_pos cg]
    exact ⟨_, rfl, rfl⟩
  · rw [if_neg cg, if_neg cg]
    by_cases cs : (lget b.Slots (k : Int)).State ≠ 3
    · rw [if_pos cs, if_pos cs]
      exact ⟨_, rfl, rfl⟩
    · rw [if_neg cs, if_neg cs]
      exact ⟨_, rfl, rfl⟩
theorem does8 {b : Board} (h : BG b) {o : Order} {k : Nat} (hk : k + 1 < b.Slots.length) (hs : b.Slots.length ≤ 100000) (k8 : o.Kind = 8) : DoesAs b o k := by
  have hT := h.turn
  have hN := h.next
  unfold numOk at hN
  have hw : w64 ((k : Int) + 1) = (k : Int) + 1 := w64_id (by omega) (by omega)
  have hw2 : w64 ((k : Int) + 2) = (k : Int) + 2 := w64_id (by omega) (by omega)
  have ht1 : (k : Int).toNat = k := Int.toNat_natCast k
  have ht2 : ((k : Int) + 2).toNat = k + 2 := by omega
  unfold DoesAs assign_does doesF
  dsimp only [lt, assign_fault]
  rw [asrt_pos (by omega), if_neg (d_f (by omega)), if_neg (show ¬ o.Kind = 3 by omega), if_neg (d_f (by omega)), if_neg (show ¬ o.Kind = 4 by omega), if_neg (d_f (by omega)), if_neg (show ¬ o.Kind = 5 by omega), if_neg (d_f (by omega)), if_neg (show ¬ o.Kind = 6 by omega), if_neg (d_f (by omega)), if_neg (show ¬ o.Kind = 7 by omega), if_pos (d_t k8), hw, if_neg (d_f (by omega)), asrt_pos (by omega), asrt_pos (fun _ => by omega), asrt_pos (fun _ => by omega), hw2]
  by_cases cs : (lget b.Slots (k : Int)).State ≠ 0 ∨ (lget b.Slots ((k : Int) + 1)).State ≠ 0
  · rw [if_pos (by simpa using cs), if_pos cs]
    exact ⟨_, rfl, rfl⟩
  · rw [if_neg (by simpa using cs), if_neg cs, asrt_pos (by omega), asrt_pos (by omega), asrt_pos (by omega)]
    unfold slices_Replace_api_Slot_api_Slot
    rw [asrt_pos (by omega), asrt_pos (by simp; omega), asrt_pos (by simp; omega), ob_some, w64_id (x := b.Next + 1) (by omega) (by omega), ht1, ht2]
    unfold assign_does_J1
    by_cases cn : 1000000000 < b.Next + 1
    · rw [if_pos (or_t (by simp only; omega)), if_pos cn]
      exact ⟨_, rfl, rfl⟩
    · rw [if_neg (or_f (by simp only; omega)), if_neg cn]
      exact ⟨_, rfl, rfl⟩
end G
end Go.Proofs.Ytdjlninhfndjfaa
