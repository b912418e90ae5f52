/- Histories: the bunches, as they come. -/
import Derived.Test.YtnibbgjoanbnmaaPHistA
namespace Go.Proofs.Ytnibbgjoanbnmaa
open Go Go.Dm
set_option linter.unusedVariables false
set_option linter.unusedSimpArgs false
set_option linter.unusedSectionVars false
namespace G
section
variable {α : Type} [Inhabited α]
theorem lset_len (l : List α) (n : Int) (x : α) : (lset l n x).length = l.length := by simp [lset]
theorem lget_set_self {l : List α} {k : Nat} (h : k < l.length) (x : α) : lget (lset l (k : Int) x) (k : Int) = x := by
  unfold lget lset
  simp [List.getD, h]
theorem lget_set_ne {l : List α} {k j : Nat} (h : k ≠ j) (x : α) : lget (lset l (k : Int) x) (j : Int) = lget l (j : Int) := by
  unfold lget lset
  simp [List.getD, List.getElem?_set, h]
theorem lset_lset (l : List α) (k : Int) (x y : α) : lset (lset l k x) k y = lset l k y := by unfold lset; rw [List.set_set]
theorem lget_app {l : List α} {k : Nat} (h : k < l.length) (x : α) : lget (l ++ [x]) (k : Int) = lget l (k : Int) := by
  unfold lget
  simp [List.getD, List.getElem?_append, h]
theorem lget_end (l : List α) (x : α) : lget (l ++ [x]) (l.length : Int) = x := by
  unfold lget
  simp [List.getD]
end
theorem mput_new {κ ν : Type} [DecidableEq κ] : ∀ {l : List (κ × ν)} {k : κ} (v : ν), mget l k = none → mput l k v = l ++ [(k, v)]
  | [], k, v, _ => rfl
  | p :: l, k, v, h => by
    rw [mget] at h
    split at h
    · cases h
    · rename_i hk
      rw [mput, if_neg hk, mput_new v h]; rfl
/-- a map of numbers to bunches, and the bunches -/
structure Inv (mp : List (Int × Nat)) (ar : List bunch) : Prop where
  i1 : ∀ (v : Int) (k : Nat), mget mp v = some k ↔ k < ar.length ∧ (lget ar (k : Int)).value = v
  i2 : mp.map (fun p => p.2) = List.range ar.length
def newB (v : Int) : bunch := ⟨v, -1, [], 1000000001, -1⟩
def look (mp : List (Int × Nat)) (ar : List bunch) (v : Int) : Option bunch := (mget mp v).map fun k : Nat => lget ar (k : Int)
theorem Inv.nil : Inv [] [] := ⟨fun v k => by simp [mget], rfl⟩
theorem at_new {mp : List (Int × Nat)} {v : Int} (ar : List bunch) (h : mget mp v = none) : history_bunches_1 v mp ar = (ar.length, mput mp v ar.length, ar ++ [newB v]) := by
  unfold history_bunches_1
  rw [h, if_pos (by rfl)]; rfl
theorem at_old {mp : List (Int × Nat)} {v : Int} {k : Nat} (ar : List bunch) (h : mget mp v = some k) : history_bunches_1 v mp ar = (k, mp, ar) := by
  unfold history_bunches_1
  rw [h, if_neg (by simp)]; rfl
/-- a number's bunch is there, and is changed -/
theorem upd {mp : List (Int × Nat)} {ar : List bunch} (h : Inv mp ar) (v : Int) :
    (history_bunches_1 v mp ar).1 < (history_bunches_1 v mp ar).2.2.length ∧ lget (history_bunches_1 v mp ar).2.2 ((history_bunches_1 v mp ar).1 : Int) = (look mp ar v).getD (newB v) ∧
    ∀ b : bunch, b.value = v → Inv (history_bunches_1 v mp ar).2.1 (lset (history_bunches_1 v mp ar).2.2 ((history_bunches_1 v mp ar).1 : Int) b) ∧
      ∀ w, look (history_bunches_1 v mp ar).2.1 (lset (history_bunches_1 v mp ar).2.2 ((history_bunches_1 v mp ar).1 : Int) b) w = if w = v then some b else look mp ar w := by
  cases hm : mget mp v with
  | none =>
    rw [at_new ar hm]
    dsimp only
    have hl : ∀ k, k < ar.length → (lget ar (k : Int)).value ≠ v := fun k hk e => by
      have := (h.i1 v k).2 ⟨hk, e⟩
      rw [hm] at this; cases this
    refine ⟨by simp, ?_, fun b hb => ⟨⟨fun w k => ?_, ?_⟩, fun w => ?_⟩⟩
    · show lget (ar ++ [_]) (ar.length : Int) = _
      rw [lget_end]
      unfold look
      rw [hm]; rfl
    · rw [mget_mput, lset_len, List.length_append, List.length_singleton]
      by_cases e : v = w
      · rw [if_pos e]
        constructor
        · intro q; cases q
          refine ⟨by omega, ?_⟩
          rw [lget_set_self (by simp)]; exact hb.trans e
        · rintro ⟨h1, h2⟩
          by_cases hk : k = ar.length
          · rw [hk]
          · rw [lget_set_ne (fun q => hk q.symm), lget_app (by omega)] at h2
            exact absurd (h2.trans e.symm) (hl k (by omega))
      · rw [if_neg e, h.i1]
        constructor
        · rintro ⟨h1, h2⟩
          refine ⟨by omega, ?_⟩
          rw [lget_set_ne (by omega), lget_app h1]; exact h2
        · rintro ⟨h1, h2⟩
          by_cases hk : k = ar.length
          · subst hk
            rw [lget_set_self (by simp)] at h2
            exact absurd (hb.symm.trans h2) e
          · rw [lget_set_ne (fun q => hk q.symm), lget_app (by omega)] at h2
            exact ⟨by omega, h2⟩
    · show (mput mp v ar.length).map _ = _
      rw [mput_new _ hm, List.map_append, h.i2, lset_len, List.length_append, List.length_singleton, List.range_succ]; rfl
    · unfold look
      show (mget (mput mp v ar.length) w).map _ = _
      rw [mget_mput]
      by_cases e : v = w
      · rw [if_pos e, if_pos e.symm, Option.map_some, lget_set_self (by simp)]
      · rw [if_neg e, if_neg (fun q => e q.symm)]
        cases hw : mget mp w with
        | none => rfl
        | some j =>
          have hj := (h.i1 w j).1 hw
          rw [Option.map_some, Option.map_some, lget_set_ne (by omega), lget_app hj.1]
  | some k =>
    rw [at_old ar hm]
    dsimp only
    have hk := (h.i1 v k).1 hm
    refine ⟨hk.1, ?_, fun b hb => ⟨⟨fun w j => ?_, ?_⟩, fun w => ?_⟩⟩
    · unfold look
      rw [hm]; rfl
    · show mget mp w = some j ↔ j < (lset ar (k : Int) b).length ∧ (lget (lset ar (k : Int) b) (j : Int)).value = w
      rw [h.i1, lset_len]
      by_cases e : k = j
      · subst e
        constructor
        · rintro ⟨h1, h2⟩
          refine ⟨h1, ?_⟩
          rw [lget_set_self hk.1, hb, ← hk.2]; exact h2
        · rintro ⟨h1, h2⟩
          refine ⟨h1, ?_⟩
          rw [lget_set_self hk.1, hb] at h2
          exact hk.2.trans h2
      · rw [lget_set_ne e]
    · show mp.map _ = List.range (lset ar (k : Int) b).length
      rw [lset_len]; exact h.i2
    · unfold look
      show (mget mp w).map (fun j : Nat => lget (lset ar (k : Int) b) (j : Int)) = _
      by_cases e : w = v
      · rw [if_pos e, e, hm, Option.map_some, lget_set_self hk.1]
      · rw [if_neg e]
        cases hw : mget mp w with
        | none => rfl
        | some j =>
          have hj := (h.i1 w j).1 hw
          have : k ≠ j := by
            rintro rfl
            exact e (hj.2.symm.trans hk.2)
          rw [Option.map_some, Option.map_some, lget_set_ne this]
theorem look_value {mp : List (Int × Nat)} {ar : List bunch} (h : Inv mp ar) {v : Int} {b : bunch} (hb : look mp ar v = some b) : b.value = v := by
  unfold look at hb
  cases hm : mget mp v with
  | none => rw [hm] at hb; cases hb
  | some k =>
    rw [hm] at hb
    cases hb
    exact ((h.i1 v k).1 hm).2
theorem getB_value {mp : List (Int × Nat)} {ar : List bunch} (h : Inv mp ar) (v : Int) : ((look mp ar v).getD (newB v)).value = v := by
  cases hb : look mp ar v with
  | none => rfl
  | some b => exact look_value h hb
/-- a read comes to its bunch -/
def fR (l : List Span) (n : Nat) (b : bunch) : bunch := ⟨b.value, b.write, b.reads ++ [(n : Int)], min b.first (lget l (n : Int)).To, max b.last (lget l (n : Int)).From⟩
def fW (l : List Span) (n : Nat) (b : bunch) : bunch := ⟨b.value, (n : Int), b.reads, min b.first (history_end (lget l (n : Int))), max b.last (lget l (n : Int)).From⟩
def isR (l : List Span) (n : Nat) : Prop := ¬ (lget l (n : Int)).Kind = 1 ∧ 0 ≤ (lget l (n : Int)).To
instance (l : List Span) (n : Nat) : Decidable (isR l n) := by unfold isR; infer_instance
abbrev val (l : List Span) (n : Nat) : Int := (lget l (n : Int)).Value
def isW (l : List Span) (mp : List (Int × Nat)) (n : Nat) : Prop := (lget l (n : Int)).Kind = 1 ∧ (0 ≤ (lget l (n : Int)).To ∨ (mget mp (val l n)).isSome = true)
instance (l : List Span) (mp : List (Int × Nat)) (n : Nat) : Decidable (isW l mp n) := by unfold isW; infer_instance
def put1 (v : Int) (f : bunch → bunch) (s : List (Int × Nat) × List bunch) : List (Int × Nat) × List bunch :=
  ((history_bunches_1 v s.1 s.2).2.1, lset (history_bunches_1 v s.1 s.2).2.2 ((history_bunches_1 v s.1 s.2).1 : Int) (f (lget (history_bunches_1 v s.1 s.2).2.2 ((history_bunches_1 v s.1 s.2).1 : Int))))
def sR (l : List Span) : Nat → List (Int × Nat) × List bunch
  | 0 => ([], [])
  | n + 1 => if isR l n then put1 (val l n) (fR l n) (sR l n) else sR l n
def sW (l : List Span) : Nat → List (Int × Nat) × List bunch
  | 0 => sR l l.length
  | n + 1 => if isW l (sW l n).1 n then put1 (val l n) (fW l n) (sW l n) else sW l n
theorem put1_inv {s : List (Int × Nat) × List bunch} (h : Inv s.1 s.2) (v : Int) {f : bunch → bunch} (hf : ∀ b, (f b).value = b.value) : Inv (put1 v f s).1 (put1 v f s).2 ∧
    ∀ w, look (put1 v f s).1 (put1 v f s).2 w = if w = v then some (f ((look s.1 s.2 v).getD (newB v))) else look s.1 s.2 w := by
  obtain ⟨h1, h2, h3⟩ := upd h v
  have h4 := h3 (f (lget (history_bunches_1 v s.1 s.2).2.2 ((history_bunches_1 v s.1 s.2).1 : Int))) (by rw [hf, h2, getB_value h])
  refine ⟨h4.1, fun w => ?_⟩
  have := h4.2 w
  rw [← h2]; exact this
theorem sR_inv (l : List Span) : ∀ n, Inv (sR l n).1 (sR l n).2
  | 0 => Inv.nil
  | n + 1 => by
    rw [sR]
    split
    · exact (put1_inv (f := fR l n) (sR_inv l n) _ fun b => rfl).1
    · exact sR_inv l n
theorem sW_inv (l : List Span) : ∀ n, Inv (sW l n).1 (sW l n).2
  | 0 => sR_inv l _
  | n + 1 => by
    rw [sW]
    split
    · exact (put1_inv (f := fW l n) (sW_inv l n) _ fun b => rfl).1
    · exact sW_inv l n
end G
end Go.Proofs.Ytnibbgjoanbnmaa
