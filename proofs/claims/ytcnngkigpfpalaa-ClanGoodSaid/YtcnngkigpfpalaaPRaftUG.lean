/- Nodes: the program's Take, kind by kind. -/
import Derived.Test.YtcnngkigpfpalaaPRaftTG
namespace Go.Proofs.Ytcnngkigpfpalaa
open Go Go.Dm
set_option linter.unusedVariables false
set_option linter.unusedSimpArgs false
namespace G
theorem contains_eq (l : List Int) (hl : l.length ≤ 1000000) (v : Int) : slices_Contains_int_int l v = some (decide (v ∈ l)) := by
  rcases loop_first (step := fun y => slices_Index_int_int_B1 l v y) l.length (fun k => (k : Int)) (fun k => v = lget l (k : Int)) (fun k => (k : Int)) (r := (-1 : Int))
    (fun k hk hb => by
      have hw : w64 ((k : Int) + 1) = ((k + 1 : Nat) : Int) := by rw [w64_id (by omega) (by omega)]; omega
      simp only [slices_Index_int_int_B1]
      rw [if_pos (d_t (by omega)), asrt_pos (by omega), if_neg (d_f hb), hw])
    (fun k hk hb => by
      simp only [slices_Index_int_int_B1]
      rw [if_pos (d_t (by omega)), asrt_pos (by omega), if_pos (d_t hb)])
    (by
      simp only [slices_Index_int_int_B1]
      rw [if_neg (d_f (by omega))]; rfl) with ⟨j, h1, h2, _, h4⟩ | ⟨h1, h2⟩
  · have hm : v ∈ l := mem_lget.2 ⟨j, h1, h2.symm⟩
    have e : slices_Index_int_int l v = some (j : Int) := h4
    unfold slices_Contains_int_int
    rw [e, ob_some, decide_eq_true hm, decide_eq_true (by omega)]
  · have hm : ¬ v ∈ l := fun h => by obtain ⟨k, hk, e⟩ := mem_lget.1 h; exact h1 k hk e.symm
    have e : slices_Index_int_int l v = some (-1) := h2
    unfold slices_Contains_int_int
    rw [e, ob_some, decide_eq_false hm, decide_eq_false (by omega)]
theorem vts_len (y : Node) (m : Mail) : (vts y m).length ≤ y.Votes.length + 1 := by
  unfold vts; split
  · omega
  · simp
theorem given_eq {y : Node} {m : Mail} (h : Fit y m) : ∃ a b, raft_given m y.N y.ID y.Term y.Vote y.Role y.Commit y.Log y.Votes y.Next y.Have = some ((take2 y m).2, (take2 y m).1.N, (take2 y m).1.ID, (take2 y m).1.Term, (take2 y m).1.Vote, (take2 y m).1.Log, (take2 y m).1.Role, (take2 y m).1.Commit, (take2 y m).1.Votes, (take2 y m).1.Next, (take2 y m).1.Have, a, b) := by
  have hl := h.l
  have hn := h.n
  have hi := h.i
  have hc := h.c
  have hvo := h.vo
  have hvl := vts_len y m
  unfold raft_given take2
  by_cases c1 : y.Role ≠ 1 ∨ m.Term ≠ y.Term ∨ m.Ok = false
  · rw [if_pos c1, if_pos (by
      simp only [Bool.or_eq_true, Bool.not_eq_true', decide_eq_false_iff_not]
      rcases c1 with c1 | c1 | c1
      · exact .inl (.inl c1)
      · exact .inl (.inr c1)
      · exact .inr c1)]
    exact ⟨_, _, rfl⟩
  · rw [if_neg c1, if_neg (by
      simp only [Bool.or_eq_true, Bool.not_eq_true', decide_eq_false_iff_not]
      rintro ((c | c) | c)
      · exact c1 (.inl c)
      · exact c1 (.inr (.inl c))
      · exact c1 (.inr (.inr c)))]
    rw [contains_eq _ (by omega), ob_some]
    have e : (if (!decide (m.From ∈ y.Votes)) = true then asrt (((y.Votes ++ ([m.From] : List Int)).length : Int) * 8 ≤ 140737488351232) (some (y.Votes ++ ([m.From] : List Int))) else some y.Votes) = some (vts y m) := by
      unfold vts
      by_cases c : m.From ∈ y.Votes
      · rw [if_neg (n_f c), if_pos c]
      · rw [if_pos (n_t c), if_neg c, asrt_pos (by rw [List.length_append, List.length_singleton]; omega)]
    rw [e, ob_some]
    dsimp only [lt]
    rw [most_eq _ (by omega)]
    by_cases c2 : y.N < 2 * ((vts y m).length : Int)
    · rw [if_neg (n_f c2), if_pos c2, lead1_eq _ _ _ _ _ _ _ _ _ _ hn.1 hn.2 hi.1 hi.2 (by omega) hc.1, ob_some]
      have hb := beats1_eq (leaderN (wv y (vts y m))) hn.1 hn.2 (show y.Log.length ≤ 1000 by omega) (by simp [leaderN, wv]; omega) (by
        intro k hk
        have : k = (y.Log.length : Int) + 1 := by
          have hk' : k ∈ List.replicate y.N.toNat ((y.Log.length : Int) + 1) := hk
          exact (List.mem_replicate.1 hk').2
        subst this
        show 1 ≤ (y.Log.length : Int) + 1 ∧ (y.Log.length : Int) + 1 ≤ (y.Log.length : Int) + 1
        omega)
      have hb' : raft_beats_v1 y.N y.ID y.Term y.Vote 2 ((cntD (gd y.N y.Term y.Log ((List.replicate y.N.toNat (0 : Int)).set y.ID.toNat (y.Log.length : Int))) y.Commit.toNat y.Log.length : Nat) : Int) y.Log (List.replicate y.N.toNat ((y.Log.length : Int) + 1)) ((List.replicate y.N.toNat (0 : Int)).set y.ID.toNat (y.Log.length : Int)) = _ := hb
      dsimp only
      rw [hb', ob_some]
      exact ⟨_, _, rfl⟩
    · rw [if_pos (n_t c2), if_neg c2]
      exact ⟨_, _, rfl⟩
theorem answered_eq {y : Node} {m : Mail} (h : Fit y m) : raft_answered m y.N y.ID y.Term y.Vote y.Role y.Commit y.Log y.Votes y.Next y.Have = some ((take4 y m).1.N, (take4 y m).1.ID, (take4 y m).1.Term, (take4 y m).1.Vote, (take4 y m).1.Role, (take4 y m).1.Commit, (take4 y m).1.Next, (take4 y m).1.Have) ∧ (take4 y m).1.Log = y.Log ∧ (take4 y m).1.Votes = y.Votes ∧ (take4 y m).2 = [] := by
  have hl := h.l
  have hn := h.n
  have hf := h.f
  have hc := h.c
  have ha := h.a
  unfold raft_answered take4
  by_cases c1 : y.Role ≠ 2 ∨ m.Term ≠ y.Term
  · rw [if_pos c1, if_pos (by simp only [Bool.or_eq_true, Bool.not_eq_true', decide_eq_false_iff_not]; exact c1)]
    exact ⟨rfl, rfl, rfl, rfl⟩
  · rw [if_neg c1, if_neg (by simp only [Bool.or_eq_true, Bool.not_eq_true', decide_eq_false_iff_not]; exact c1)]
    have hr : y.Role = 2 := by
      by_cases g : y.Role = 2
      · exact g
      · exact absurd (.inl g) c1
    obtain ⟨l1, l2, l3, l4⟩ := h.ld hr
    have hh := l4 _ (lget_mem y.Have m.From (by omega))
    have hx := l3 _ (lget_mem y.Next m.From (by omega))
    by_cases c2 : m.Ok = true
    · obtain ⟨c, hcc⟩ : ∃ c : Nat, y.Commit = (c : Int) := ⟨y.Commit.toNat, by omega⟩
      have hhl : (hav y m).length = y.Have.length := by unfold hav; rw [lset_len]
      have hg : lget (hav y m) m.From = max (lget y.Have m.From) (min m.A (y.Log.length : Int)) := by
        unfold hav; rw [lget_lset _ _ _ _ (by omega) (by omega), if_pos rfl]
      have hw : w64 (lget (hav y m) m.From + 1) = max (lget y.Have m.From) (min m.A (y.Log.length : Int)) + 1 := by
        rw [hg, w64_id (by omega) (by omega)]
      have ehav : lset y.Have m.From (max (lget y.Have m.From) (min m.A (y.Log.length : Int))) = hav y m := rfl
      rw [if_pos c2, if_pos c2, asrt_pos (by omega), asrt_pos (by omega), asrt_pos (by omega), asrt_pos (by omega)]
      dsimp only [lt]
      rw [ehav, asrt_pos (by omega), asrt_pos (by omega), asrt_pos (by omega), asrt_pos (by omega), hw, hcc, rcount1_eq _ _ _ _ _ _ _ _ _ _ (by omega) (by omega), ob_some, Int.toNat_natCast]
      exact ⟨rfl, rfl, rfl, rfl⟩
    · have hw1 : w64 (lget y.Have m.From + 1) = lget y.Have m.From + 1 := w64_id (by omega) (by omega)
      have hw2 : w64 (lget y.Next m.From - 1) = lget y.Next m.From - 1 := w64_id (by omega) (by omega)
      have hw3 : w64 (m.A + 1) = m.A + 1 := w64_id (by omega) (by omega)
      rw [if_neg c2, if_neg c2, asrt_pos (by omega), asrt_pos (by omega), asrt_pos (by omega), asrt_pos (by omega), asrt_pos (by omega), asrt_pos (by omega), hw1, hw2, hw3]
      exact ⟨rfl, rfl, rfl, rfl⟩
theorem sequal_eq (a b : List Entry) (ha : a.length ≤ 1000000) : slices_Equal_api_Entry_api_Entry a b = some (decide (a = b)) := by
  unfold slices_Equal_api_Entry_api_Entry
  by_cases c : a.length = b.length
  · rw [if_neg (n_f (by omega))]
    have ee : ∀ k : Nat, (decide ((lget a (k : Int)).Term = (lget b (k : Int)).Term) && (decide ((lget a (k : Int)).Text = (lget b (k : Int)).Text) && true)) = decide (lget a (k : Int) = lget b (k : Int)) := fun k => by
      cases lget a (k : Int); cases lget b (k : Int); simp
    rcases loop_any (step := fun y => slices_Equal_api_Entry_api_Entry_B1 a b y) a.length (fun k => (k : Int)) (fun k => ¬ lget a (k : Int) = lget b (k : Int)) (rb := false) (r := true)
      (fun k hk hb => by
        have hw : w64 ((k : Int) + 1) = ((k + 1 : Nat) : Int) := by rw [w64_id (by omega) (by omega)]; omega
        simp only [slices_Equal_api_Entry_api_Entry_B1]
        rw [if_pos (d_t (by omega)), asrt_pos (by omega), asrt_pos (by omega), ee, if_neg (n_f (Classical.not_not.1 hb)), hw])
      (fun k hk hb => by
        simp only [slices_Equal_api_Entry_api_Entry_B1]
        rw [if_pos (d_t (by omega)), asrt_pos (by omega), asrt_pos (by omega), ee, if_pos (n_t hb)])
      (by
        simp only [slices_Equal_api_Entry_api_Entry_B1]
        rw [if_neg (d_f (by omega))]; rfl) with ⟨⟨k, hk, hb⟩, h2⟩ | ⟨h1, h2⟩
    · have : ¬ a = b := fun e => hb (by rw [e])
      rw [decide_eq_false this]; exact h2
    · have : a = b := ext_lget c (fun k hk => Classical.not_not.1 (h1 k hk))
      rw [decide_eq_true this]; exact h2
  · rw [if_pos (n_t (by omega)), decide_eq_false (fun e => c (by rw [e]))]
theorem putS_len {l : List Entry} {p t : Int} {more : List Entry} (h : (putS l p t more).2.2.Code = 0) : (putS l p t more).1.length ≤ 100 ∧ (putS l p t more).2.2 = ⟨0, 0⟩ := by
  unfold putS at h ⊢
  by_cases c : (putF l p t more).Code = 0
  · obtain ⟨h1, h2, h3, _⟩ := putF_good c
    rw [if_pos c] at h ⊢
    by_cases f : fits l p t
    · rw [if_pos f] at h ⊢
      by_cases g : (fof (put p.toNat l more)).Code = 0
      · rw [if_pos g]; exact ⟨(fof_good g).1, (fof_good g).2.1⟩
      · rw [if_neg g] at h; exact absurd h g
    · rw [if_neg f]; exact ⟨(fof_good h2).1, h1⟩
  · rw [if_neg c] at h; exact absurd h c
theorem bringing_eq {y : Node} {m : Mail} (h : Fit y m) (hv : m.C0 ≤ 1000000000 ∧ 0 ≤ m.C0) : ∃ a, raft_bringing m y.N y.ID y.Term y.Vote y.Role y.Commit y.Log y.Votes y.Next y.Have = some ((take3 y m).2, (take3 y m).1.N, (take3 y m).1.ID, (take3 y m).1.Term, (take3 y m).1.Vote, (take3 y m).1.Log, (take3 y m).1.Role, (take3 y m).1.Commit, (take3 y m).1.Votes, (take3 y m).1.Next, (take3 y m).1.Have, a) := by
  have hl := h.l
  have hn := h.n
  have hc := h.c
  have ha := h.a
  have he := h.e
  unfold raft_bringing take3
  by_cases c1 : m.Term < y.Term
  · rw [if_pos (d_t c1), if_pos c1]; exact ⟨_, rfl⟩
  rw [if_neg (d_f c1), if_neg c1]
  by_cases c2 : y.Role = 2
  · rw [if_pos (d_t c2), if_pos c2]; exact ⟨_, rfl⟩
  rw [if_neg (d_f c2), if_neg c2, put_eq]
  dsimp only [lt, raft_follow]
  rw [ob_some]
  by_cases c3 : (putS y.Log m.A m.B m.Entries).2.2.Code = 0
  · obtain ⟨hpl, _⟩ := putS_len c3
    rw [if_neg (n_f c3), if_neg (not_not_intro c3)]
    by_cases c4 : (putS y.Log m.A m.B m.Entries).2.1 = false
    · have hw : w64 (m.A - 1) = m.A - 1 := w64_id (by omega) (by omega)
      rw [if_pos (by rw [c4]; rfl), if_pos c4, hw]; exact ⟨_, rfl⟩
    · rw [if_neg (by rw [Bool.not_eq_false] at c4; rw [c4]; decide), if_neg c4]
      generalize (putS y.Log m.A m.B m.Entries).1 = L at *
      have hw : w64 (m.A + (m.Entries.length : Int)) = m.A + (m.Entries.length : Int) := w64_id (by omega) (by omega)
      by_cases c5 : (L.length : Int) < y.Commit
      · have d5 : decide ((L.length : Int) < y.Commit) = true := d_t c5
        rw [asrt_pos (fun g => by rw [d5] at g; cases g), asrt_pos (fun g => by rw [d5] at g; cases g), d5, if_neg (by decide), ob_some, if_pos (by rfl), if_pos (.inl c5)]
        exact ⟨_, rfl⟩
      · have d5 : decide ((L.length : Int) < y.Commit) = false := decide_eq_false c5
        have e1 : ltake L y.Commit = L.take y.Commit.toNat := rfl
        have e2 : ltake y.Log y.Commit = y.Log.take y.Commit.toNat := rfl
        rw [asrt_pos (fun _ => by omega), asrt_pos (fun _ => by omega), d5, if_pos (by rfl), e1, e2, sequal_eq _ _ (by rw [List.length_take]; omega), ob_some]
        by_cases c6 : L.take y.Commit.toNat = y.Log.take y.Commit.toNat
        · rw [decide_eq_true c6, if_neg (by decide), if_neg (by rintro (g | g); exact c5 g; exact g c6), hw]
          exact ⟨_, rfl⟩
        · rw [decide_eq_false c6, if_pos (by rfl), if_pos (.inr c6)]
          exact ⟨_, rfl⟩
  · rw [if_pos (n_t c3), if_pos c3]; exact ⟨_, rfl⟩
end G
end Go.Proofs.Ytcnngkigpfpalaa
