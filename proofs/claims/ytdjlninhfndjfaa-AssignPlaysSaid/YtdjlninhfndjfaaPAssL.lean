/- Assign: Do = ordF. -/
import Derived.Test.YtdjlninhfndjfaaPAssK
namespace Go.Proofs.Ytdjlninhfndjfaa
open Go Go.Dm
set_option linter.unusedVariables false
set_option linter.unusedSimpArgs false
namespace G
theorem fin_eq (h : List Host) (s : List Slot) (t n : Int) (f : Fault) : (if (!decide (f.Code = 0)) = true then some ((⟨([] : List Host), ([] : List Slot), 0, 0⟩ : Board), f) else some ((⟨h, s, t, n⟩ : Board), f)) = some (outF f ⟨h, s, t, n⟩) := by
  unfold outF
  by_cases c : f.Code = 0
  · rw [if_neg (n_f c), if_pos c]
  · rw [if_pos (n_t c), if_neg c]
theorem does_end {b : Board} {o : Order} {k : Nat} (hk : k + 1 = b.Slots.length) (hs : b.Slots.length ≤ 100000) (k8 : o.Kind = 8) : assign_does (k : Int) o b.Turn b.Next b.Hosts b.Slots = some (⟨6, -1⟩, b.Hosts, b.Slots, b.Turn, b.Next) := by
  have hw : w64 ((k : Int) + 1) = (k : Int) + 1 := w64_id (by omega) (by omega)
  unfold assign_does
  dsimp only [lt, assign_fault]
  rw [asrt_pos (by omega), if_neg (d_f (by omega)), if_neg (d_f (by omega)), if_neg (d_f (by omega)), if_neg (d_f (by omega)), if_neg (d_f (by omega)), if_pos (d_t k8), hw, if_pos (d_t (by omega))]
theorem does_all {b : Board} (h : BG b) {o : Order} {k : Nat} (hk : k < b.Slots.length) (hs : b.Slots.length ≤ 200) (h3 : 3 ≤ o.Kind) (h8 : o.Kind ≤ 8) (he : ¬ (o.Kind = 8 ∧ (b.Slots.length : Int) ≤ (k : Int) + 1)) : DoesAs b o k := by
  by_cases k3 : o.Kind = 3
  · exact does3 h hk (by omega) k3
  by_cases k4 : o.Kind = 4
  · exact does4 h hk k4
  by_cases k5 : o.Kind = 5
  · exact does5 h hk k5
  by_cases k6 : o.Kind = 6
  · exact does6 h hk k6
  by_cases k7 : o.Kind = 7
  · exact does7 h hk hs k7
  · exact does8 h (by omega) (by omega) (by omega)
theorem do_eq (b : Board) (hh : b.Hosts.length ≤ 100000) (hs : b.Slots.length ≤ 100000) (o : Order) : assign_Do_v1 b o = some (ordF b o) := by
  unfold assign_Do_v1 ordF
  rw [bcheck_eq _ hs, ob_some, own_eq _ hh hs, ob_some]
  by_cases e0 : (boardF b).Code = 0
  · have hg := boardF_good.1 e0
    have h := bg_iff.1 hg
    have hsl := slot_len hg
    rw [if_neg (n_f e0), if_neg (not_not_intro e0)]
    by_cases k1 : o.Kind = 1
    · obtain ⟨r, hr, hr2⟩ := come_eq h o.ID
      rw [if_pos (d_t k1), if_neg (show ¬ (o.Kind < 1 ∨ 8 < o.Kind) by omega), if_pos k1, hr, ob_some, ob_some]
      exact (fin_eq _ _ _ _ _).trans (congrArg some hr2)
    rw [if_neg (d_f k1)]
    by_cases k2 : o.Kind = 2
    · obtain ⟨r, hr, hr2⟩ := lost_eq h (by omega) o.ID
      rw [if_pos (d_t k2), if_neg (show ¬ (o.Kind < 1 ∨ 8 < o.Kind) by omega), if_neg k1, if_pos k2, hr, ob_some, ob_some]
      exact (fin_eq _ _ _ _ _).trans (congrArg some hr2)
    rw [if_neg (d_f k2)]
    by_cases ck : o.Kind < 1 ∨ 8 < o.Kind
    · rw [if_pos (or_t ck), if_pos ck]
      dsimp only [lt, assign_fault]
      rw [ob_some]
      exact (fin_eq _ _ _ _ _).trans rfl
    · rw [if_neg (or_f ck), if_neg ck, if_neg k1, if_neg k2]
      have hb : (⟨b.Hosts, b.Slots, b.Turn, b.Next⟩ : Board) = b := rfl
      dsimp only [lt, assign_fault]
      rw [hb, slotAt_eq b (by omega), ob_some]
      rcases slotK_cases b o.ID with e | ⟨k, hk, e⟩
      · rw [e, if_neg (d_f (by decide)), if_pos (Or.inl (by decide)), ob_some]
        exact (fin_eq _ _ _ _ _).trans rfl
      · rw [e, if_pos (d_t (by omega))]
        by_cases he : o.Kind = 8 ∧ (b.Slots.length : Int) ≤ (k : Int) + 1
        · rw [if_pos (Or.inr he), does_end (by omega) (by omega) he.1, ob_some, ob_some]
          exact (fin_eq _ _ _ _ _).trans rfl
        · obtain ⟨r, hr, hr2⟩ := does_all h hk hsl (by omega) (by omega) he
          rw [if_neg (by rintro (g | g); omega; exact he g), hr, ob_some, ob_some]
          exact (fin_eq _ _ _ _ _).trans (congrArg some hr2)
  · rw [if_pos (n_t e0), if_pos e0, ob_some, if_pos (n_t e0)]
end G
end Go.Proofs.Ytdjlninhfndjfaa
