/- Nodes: what Take is, and that the program's Take is it. -/
import Derived.Test.YtcnngkigpfpalaaPRaftCG
namespace Go.Proofs.Ytcnngkigpfpalaa
open Go Go.Dm
set_option linter.unusedVariables false
set_option linter.unusedSimpArgs false
namespace G
def finM (x : Node) (m : Mail) : Prop :=
  (1 ≤ m.Kind ∧ m.Kind ≤ 4) ∧ m.To = x.ID ∧ m.From ≠ x.ID ∧ (0 ≤ m.From ∧ m.From < x.N) ∧ (1 ≤ m.Term ∧ m.Term ≤ 1000000000) ∧ (0 ≤ m.A ∧ m.A ≤ 1000000000) ∧ (0 ≤ m.B ∧ m.B ≤ 1000000000) ∧ (0 ≤ m.C0 ∧ m.C0 ≤ 1000000000) ∧ m.Entries.length ≤ 5 ∧ (m.Entries.length = 0 ∨ m.Kind = 3) ∧ (fof m.Entries).Code = 0 ∧ tat m.Entries (m.Entries.length : Int) ≤ m.Term
instance (x : Node) (m : Mail) : Decidable (finM x m) := by unfold finM; infer_instance
theorem fine_eq (x : Node) (h7 : 1 ≤ x.N ∧ x.N ≤ 7) (m : Mail) (hm : m.Entries.length ≤ 1000000) : raft_fine m x = some (decide (finM x m)) := by
  have hw : w64 (x.N - 1) = x.N - 1 := w64_id (by omega) (by omega)
  unfold raft_fine
  dsimp only [lt]
  simp only [within_eq, hw, echeck_eq, tat_eq _ hm]
  by_cases c : (inW 1 4 m.Kind = true ∧ m.To = x.ID ∧ m.From ≠ x.ID ∧ inW 0 (x.N - 1) m.From = true ∧ inW 1 1000000000 m.Term = true ∧ inW 0 1000000000 m.A = true ∧ inW 0 1000000000 m.B = true ∧ inW 0 1000000000 m.C0 = true ∧ m.Entries.length ≤ 5 ∧ (m.Entries.length = 0 ∨ m.Kind = 3))
  · obtain ⟨c1, c2, c3, c4, c5, c6, c7, c8, c9, c10⟩ := c
    have d9 : decide ((m.Entries.length : Int) ≤ 5) = true := d_t (by omega)
    have d10 : (decide ((m.Entries.length : Int) = 0) || decide (m.Kind = 3)) = true := by
      rcases c10 with h | h
      · rw [d_t (show (m.Entries.length : Int) = 0 by omega)]; rfl
      · rw [d_t h]; simp
    rw [c1, c4, c5, c6, c7, c8, d9, d10, decide_eq_true c2, decide_eq_false c3]
    simp only [Bool.true_and, Bool.and_true, Bool.not_false, if_true, ob_some]
    have e : finM x m ↔ (fof m.Entries).Code = 0 ∧ tat m.Entries (m.Entries.length : Int) ≤ m.Term := by
      rw [inW_iff] at c1 c4 c5 c6 c7 c8
      unfold finM
      constructor
      · rintro ⟨_, _, _, _, _, _, _, _, _, _, h⟩; exact h
      · intro h; exact ⟨c1, c2, c3, by omega, c5, c6, c7, c8, c9, c10, h⟩
    by_cases g : (fof m.Entries).Code = 0
    · rw [if_pos (d_t g), ob_some, decide_eq_true g, Bool.true_and]
      congr 1
      exact decide_eq_decide.2 (by rw [e]; exact ⟨fun h => ⟨g, h⟩, fun h => h.2⟩)
    · rw [if_neg (d_f g), ob_some, decide_eq_false g, Bool.false_and]
      congr 1
      exact (decide_eq_false (fun h => g (e.1 h).1)).symm
  · have hf : ¬ finM x m := by
      rintro ⟨a1, a2, a3, a4, a5, a6, a7, a8, a9, a10, _⟩
      exact c ⟨inW_iff.2 a1, a2, a3, inW_iff.2 (by omega), inW_iff.2 a5, inW_iff.2 a6, inW_iff.2 a7, inW_iff.2 a8, a9, a10⟩
    have hb : (((((((((inW 1 4 m.Kind && (decide (m.To = x.ID))) && (!decide (m.From = x.ID))) && inW 0 (x.N - 1) m.From) && inW 1 1000000000 m.Term) && inW 0 1000000000 m.A) && inW 0 1000000000 m.B) && inW 0 1000000000 m.C0) && (decide ((m.Entries.length : Int) ≤ 5))) && ((decide ((m.Entries.length : Int) = 0)) || (decide (m.Kind = 3)))) = false := by
      rw [Bool.eq_false_iff]
      intro h
      simp only [Bool.and_eq_true, Bool.or_eq_true, Bool.not_eq_true', decide_eq_true_eq, decide_eq_false_iff_not] at h
      obtain ⟨⟨⟨⟨⟨⟨⟨⟨⟨a1, a2⟩, a3⟩, a4⟩, a5⟩, a6⟩, a7⟩, a8⟩, a9⟩, a10⟩ := h
      exact c ⟨a1, a2, a3, a4, a5, a6, a7, a8, by omega, by omega⟩
    rw [hb]
    simp only [Bool.false_and, Bool.false_eq_true, if_false, ob_some]
    rw [decide_eq_false hf]
/-- what a mail of a later term makes of a node -/
def bas (x : Node) (m : Mail) : Node := if x.Term < m.Term then ⟨x.N, x.ID, m.Term, 0, x.Log, 0, x.Commit, [], [], []⟩ else x
def fol (y : Node) : Node := ⟨y.N, y.ID, y.Term, y.Vote, y.Log, 0, y.Commit, [], [], []⟩
def ans (y : Node) (m : Mail) (kind a : Int) (ok : Bool) : Mail := ⟨kind, y.ID, m.From, y.Term, a, 0, 0, [], ok⟩
def askB (y : Node) (m : Mail) : Prop := m.Term = y.Term ∧ (y.Vote = 0 ∨ y.Vote = m.From + 1) ∧ ¬ (m.B < tat y.Log (y.Log.length : Int) ∨ (m.B = tat y.Log (y.Log.length : Int) ∧ m.A < (y.Log.length : Int)))
instance (y : Node) (m : Mail) : Decidable (askB y m) := by unfold askB; infer_instance
def take1 (y : Node) (m : Mail) : Node × List Mail :=
  (⟨y.N, y.ID, y.Term, if askB y m then m.From + 1 else y.Vote, y.Log, y.Role, y.Commit, y.Votes, y.Next, y.Have⟩, [ans y m 2 0 (decide (askB y m))])
def vts (y : Node) (m : Mail) : List Int := if m.From ∈ y.Votes then y.Votes else y.Votes ++ [m.From]
def wv (y : Node) (v : List Int) : Node := ⟨y.N, y.ID, y.Term, y.Vote, y.Log, y.Role, y.Commit, v, y.Next, y.Have⟩
def take2 (y : Node) (m : Mail) : Node × List Mail :=
  if y.Role ≠ 1 ∨ m.Term ≠ y.Term ∨ m.Ok = false then (y, [])
  else if y.N < 2 * ((vts y m).length : Int) then (leaderN (wv y (vts y m)), mls y.ID (bringM (leaderN (wv y (vts y m)))) y.N.toNat)
  else (wv y (vts y m), [])
noncomputable def take3 (y : Node) (m : Mail) : Node × List Mail :=
  if m.Term < y.Term then (y, [ans y m 4 0 false])
  else if y.Role = 2 then (y, [])
  else if ¬ (putS y.Log m.A m.B m.Entries).2.2.Code = 0 then (fol y, [])
  else if (putS y.Log m.A m.B m.Entries).2.1 = false then (fol y, [ans y m 4 (max 0 (min (m.A - 1) (y.Log.length : Int))) false])
  else if ((putS y.Log m.A m.B m.Entries).1.length : Int) < y.Commit ∨ (putS y.Log m.A m.B m.Entries).1.take y.Commit.toNat ≠ y.Log.take y.Commit.toNat then (fol y, [])
  else (⟨y.N, y.ID, y.Term, y.Vote, (putS y.Log m.A m.B m.Entries).1, 0, max y.Commit (min m.C0 (m.A + (m.Entries.length : Int))), [], [], []⟩, [ans y m 4 (m.A + (m.Entries.length : Int)) true])
def hav (y : Node) (m : Mail) : List Int := lset y.Have m.From (max (lget y.Have m.From) (min m.A (y.Log.length : Int)))
def take4 (y : Node) (m : Mail) : Node × List Mail :=
  if y.Role ≠ 2 ∨ m.Term ≠ y.Term then (y, [])
  else if m.Ok = true then (⟨y.N, y.ID, y.Term, y.Vote, y.Log, y.Role, ((cntD (gd y.N y.Term y.Log (hav y m)) y.Commit.toNat y.Log.length : Nat) : Int), y.Votes, lset y.Next m.From (max (lget y.Have m.From) (min m.A (y.Log.length : Int)) + 1), hav y m⟩, [])
  else (⟨y.N, y.ID, y.Term, y.Vote, y.Log, y.Role, y.Commit, y.Votes, lset y.Next m.From (max (lget y.Have m.From + 1) (min (lget y.Next m.From - 1) (m.A + 1))), y.Have⟩, [])
noncomputable def takeK (y : Node) (m : Mail) : Node × List Mail := if m.Kind = 1 then take1 y m else if m.Kind = 2 then take2 y m else if m.Kind = 3 then take3 y m else take4 y m
def takF (x : Node) (m : Mail) : Fault := if (nodeF x).Code = 0 then (if finM x m then ⟨0, 0⟩ else ⟨5, 0⟩) else nodeF x
noncomputable def takeS (x : Node) (m : Mail) : Node × List Mail × Fault := if (takF x m).Code = 0 then ((takeK (bas x m) m).1, (takeK (bas x m) m).2, ⟨0, 0⟩) else (nE, [], takF x m)
/-- what Take may lean on -/
structure Fit (y : Node) (m : Mail) : Prop where
  n : 1 ≤ y.N ∧ y.N ≤ 7
  i : 0 ≤ y.ID ∧ y.ID < y.N
  v : y.Vote ≤ 7
  vlo : 0 ≤ y.Vote
  c : 0 ≤ y.Commit ∧ y.Commit ≤ (y.Log.length : Int)
  l : y.Log.length ≤ 100
  vo : y.Votes.length ≤ 100
  f : 0 ≤ m.From ∧ m.From < y.N
  a : 0 ≤ m.A ∧ m.A ≤ 1000000000
  e : m.Entries.length ≤ 5
  ld : y.Role = 2 → (y.Next.length : Int) = y.N ∧ (y.Have.length : Int) = y.N ∧ (∀ k ∈ y.Next, 1 ≤ k ∧ k ≤ (y.Log.length : Int) + 1) ∧ (∀ k ∈ y.Have, 0 ≤ k ∧ k ≤ (y.Log.length : Int))
theorem asked_eq {y : Node} {m : Mail} (h : Fit y m) : raft_asked m y.N y.ID y.Term y.Vote y.Role y.Commit y.Log y.Votes y.Next y.Have = some ([ans y m 2 0 (decide (askB y m))], y.N, y.ID, y.Term, if askB y m then m.From + 1 else y.Vote, y.Role, y.Commit) := by
  have hl := h.l
  have hf := h.f
  have hn := h.n
  have hw : w64 (m.From + 1) = m.From + 1 := w64_id (by omega) (by omega)
  unfold raft_asked
  rw [tat_eq _ (by omega), ob_some]
  dsimp only [lt]
  rw [hw]
  have hb : (((decide (m.Term = y.Term)) && ((decide (y.Vote = 0)) || (decide (y.Vote = m.From + 1)))) && (!((decide (m.B < tat y.Log (y.Log.length : Int))) || ((decide (m.B = tat y.Log (y.Log.length : Int))) && (decide (m.A < (y.Log.length : Int))))))) = decide (askB y m) := by
    rw [Bool.eq_iff_iff, decide_eq_true_iff]
    unfold askB
    simp only [Bool.and_eq_true, Bool.or_eq_true, Bool.not_eq_true', decide_eq_true_eq, Bool.or_eq_false_iff, Bool.and_eq_false_imp, decide_eq_false_iff_not, not_or, not_and, and_assoc]
  rw [hb]
  by_cases c : askB y m
  · rw [if_pos (d_t c), ob_some, if_pos c, decide_eq_true c]; rfl
  · rw [if_neg (d_f c), ob_some, if_neg c, decide_eq_false c]; rfl
end G
end Go.Proofs.Ytcnngkigpfpalaa
