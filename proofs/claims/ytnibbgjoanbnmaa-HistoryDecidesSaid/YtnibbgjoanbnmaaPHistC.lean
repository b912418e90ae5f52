/- Histories: the program's loops over reads and writes. -/
import Derived.Test.YtnibbgjoanbnmaaPHistB
namespace Go.Proofs.Ytnibbgjoanbnmaa
open Go Go.Dm
set_option linter.unusedVariables false
set_option linter.unusedSimpArgs false
set_option linter.unusedSectionVars false
namespace G
theorem rlen (l : List Span) : ∀ n v b, look (sR l n).1 (sR l n).2 v = some b → b.reads.length ≤ n
  | 0, v, b, h => by cases h
  | n + 1, v, b, h => by
    rw [sR] at h
    split at h
    · rw [(put1_inv (f := fR l n) (sR_inv l n) _ fun b => rfl).2] at h
      split at h
      · cases h
        show (_ ++ [_]).length ≤ _
        rw [List.length_append, List.length_singleton]
        cases hb : look (sR l n).1 (sR l n).2 (val l n) with
        | none => simp [newB]
        | some b => have := rlen l n _ b hb; simpa using this
      · have := rlen l n _ b h; omega
    · have := rlen l n _ b h; omega
theorem isR_b (l : List Span) (n : Nat) : ((!decide ((lget l (n : Int)).Kind = 1)) && (decide (0 ≤ (lget l (n : Int)).To))) = decide (isR l n) := b_iff (by unfold isR; simp)
theorem isW_b (l : List Span) (mp : List (Int × Nat)) (n : Nat) : ((decide ((lget l (n : Int)).Kind = 1)) && ((decide (0 ≤ (lget l (n : Int)).To)) || (!(!((mget mp ((lget l (n : Int)).Value)).isSome))))) = decide (isW l mp n) :=
  b_iff (by unfold isW; simp)
theorem b2_step {l : List Span} (hl : l.length ≤ 200) {k : Nat} (hk : k < l.length) : history_bunches_B2 l ((sR l k).1, (k : Int), (sR l k).2) = some (.inl ((sR l (k + 1)).1, ((k + 1 : Nat) : Int), (sR l (k + 1)).2)) := by
  have hw : w64 ((k : Int) + 1) = ((k + 1 : Nat) : Int) := by rw [w64_id (by omega) (by omega)]; omega
  unfold history_bunches_B2
  dsimp only
  rw [if_pos (d_t (by omega)), asrt_pos (by omega), isR_b, hw, sR]
  by_cases c : isR l k
  · rw [if_pos (d_t c), if_pos c]
    obtain ⟨h1, h2, _⟩ := upd (sR_inv l k) (val l k)
    have hr : (lget (history_bunches_1 (val l k) (sR l k).1 (sR l k).2).2.2 ((history_bunches_1 (val l k) (sR l k).1 (sR l k).2).1 : Int)).reads.length ≤ k := by
      rw [h2]
      cases hb : look (sR l k).1 (sR l k).2 (val l k) with
      | none => simp [newB]
      | some b => exact rlen l k _ b hb
    unfold put1 fR
    generalize hq : history_bunches_1 (val l k) (sR l k).1 (sR l k).2 = r at h1 h2 hr
    dsimp only [lt, val] at hq ⊢
    simp only [lget_set_self h1, lset_lset, lset_len]
    rw [asrt_pos (by omega), asrt_pos (by rw [List.length_append, List.length_singleton]; omega), asrt_pos (by omega), asrt_pos (by omega), asrt_pos (by omega), asrt_pos (by omega)]
    rfl
  · rw [if_neg (d_f c), if_neg c]; rfl
theorem b1_step {l : List Span} (hl : l.length ≤ 200) {k : Nat} (hk : k < l.length) : history_bunches_B1 l ((sW l k).1, (k : Int), (sW l k).2) = some (.inl ((sW l (k + 1)).1, ((k + 1 : Nat) : Int), (sW l (k + 1)).2)) := by
  have hw : w64 ((k : Int) + 1) = ((k + 1 : Nat) : Int) := by rw [w64_id (by omega) (by omega)]; omega
  unfold history_bunches_B1
  dsimp only
  rw [if_pos (d_t (by omega)), asrt_pos (by omega), isW_b, hw, sW]
  by_cases c : isW l (sW l k).1 k
  · rw [if_pos (d_t c), if_pos c]
    obtain ⟨h1, h2, _⟩ := upd (sW_inv l k) (val l k)
    unfold put1 fW
    generalize hq : history_bunches_1 (val l k) (sW l k).1 (sW l k).2 = r at h1 h2
    dsimp only [lt, val] at hq ⊢
    simp only [lget_set_self h1, lset_lset, lset_len]
    rw [asrt_pos (by omega), asrt_pos (by omega), asrt_pos (by omega), asrt_pos (by omega), asrt_pos (by omega)]
    rfl
  · rw [if_neg (d_f c), if_neg c]; rfl
/-- the bunch of zero begins ahead of all -/
def zero1 (s : List (Int × Nat) × List bunch) : List bunch := match mget s.1 0 with
  | some k => lset s.2 (k : Int) ⟨(lget s.2 (k : Int)).value, (lget s.2 (k : Int)).write, (lget s.2 (k : Int)).reads, -1, (lget s.2 (k : Int)).last⟩
  | none => s.2
theorem zero1_inv {s : List (Int × Nat) × List bunch} (h : Inv s.1 s.2) : Inv s.1 (zero1 s) ∧ ∀ v, look s.1 (zero1 s) v = (look s.1 s.2 v).map fun b => if v = 0 then ⟨b.value, b.write, b.reads, -1, b.last⟩ else b := by
  unfold zero1
  cases hm : mget s.1 0 with
  | none =>
    refine ⟨h, fun v => ?_⟩
    dsimp only
    unfold look
    cases hv : mget s.1 v with
    | none => rfl
    | some j =>
      have : ¬ v = 0 := by rintro rfl; rw [hm] at hv; cases hv
      rw [Option.map_some, Option.map_some, if_neg this]
  | some k =>
    have hk := (h.i1 0 k).1 hm
    dsimp only
    refine ⟨⟨fun w j => ?_, by rw [lset_len]; exact h.i2⟩, fun v => ?_⟩
    · rw [h.i1, lset_len]
      by_cases e : k = j
      · subst e
        rw [lget_set_self hk.1]
      · rw [lget_set_ne e]
    · unfold look
      cases hv : mget s.1 v with
      | none => rfl
      | some j =>
        rw [Option.map_some, Option.map_some, Option.map_some]
        by_cases e : v = 0
        · subst e
          rw [hm] at hv; cases hv
          rw [lget_set_self hk.1, if_pos rfl]
        · rw [if_neg e, lget_set_ne]
          rintro rfl
          exact e (((h.i1 v k).1 hv).2.symm.trans hk.2)
theorem inv_inj {mp : List (Int × Nat)} {ar : List bunch} (h : Inv mp ar) {j k : Nat} (hj : j < ar.length) (hk : k < ar.length) (e : (lget ar (j : Int)).value = (lget ar (k : Int)).value) : j = k := by
  have h1 := (h.i1 _ j).2 ⟨hj, rfl⟩
  have h2 := (h.i1 _ k).2 ⟨hk, rfl⟩
  rw [e, h2] at h1
  cases h1; rfl
theorem inv_nodup {mp : List (Int × Nat)} {ar : List bunch} (h : Inv mp ar) : ((List.range ar.length).map fun k : Nat => (lget ar (k : Int)).value).Nodup :=
  List.pairwise_map.2 (List.nodup_range.imp_of_mem fun ha hb hne e => hne (inv_inj h (List.mem_range.1 ha) (List.mem_range.1 hb) e))
theorem inv_look {mp : List (Int × Nat)} {ar : List bunch} (h : Inv mp ar) (v : Int) (b : bunch) : look mp ar v = some b ↔ ∃ k, k < ar.length ∧ lget ar (k : Int) = b ∧ b.value = v := by
  unfold look
  rw [Option.map_eq_some_iff]
  constructor
  · rintro ⟨k, h1, rfl⟩
    obtain ⟨a, b⟩ := (h.i1 v k).1 h1
    exact ⟨k, a, rfl, b⟩
  · rintro ⟨k, a, rfl, b⟩
    exact ⟨k, (h.i1 v k).2 ⟨a, b⟩, rfl⟩
/-- the last part: the bunch of zero, and all sorted -/
theorem j2_eq {s : List (Int × Nat) × List bunch} (h : Inv s.1 s.2) (hn : s.2.length ≤ 400) : ∃ zs, history_bunches_J2 s = some (zs, zero1 s) ∧ zs.Perm (List.range (zero1 s).length) ∧
    zs.Pairwise (fun x y : Nat => (lget (zero1 s) (x : Int)).value < (lget (zero1 s) (y : Int)).value) := by
  have hz := zero1_inv h
  have hlen : (zero1 s).length = s.2.length := by
    unfold zero1
    split
    · exact lset_len _ _ _
    · rfl
  have e1 : history_bunches_J2 s = asrt ((∀ k ∈ (s.1.map (fun p => p.2)), k < (zero1 s).length) ∧ (s.1.map (fun p => p.2)).length * 8 ≤ 140737488351232) (ob (slices_SortFunc_history_bunch_history_bunch (s.1.map (fun p => p.2)) (zero1 s)) fun x => some (x, zero1 s)) := by
    unfold history_bunches_J2 zero1
    cases hm : mget s.1 0 with
    | none => rw [if_neg (by simp)]; rfl
    | some k =>
      have hk := (h.i1 0 k).1 hm
      rw [if_pos (by simp), asrt_pos (by rfl)]
      simp only [Option.getD_some]
      rw [asrt_pos (by omega)]; rfl
  rw [e1, hz.1.i2, asrt_pos ⟨fun k hk => List.mem_range.1 hk, by rw [List.length_range]; omega⟩]
  have e2 : slices_SortFunc_history_bunch_history_bunch (List.range (zero1 s).length) (zero1 s) = some ((List.range (zero1 s).length).mergeSort fun x y : Nat => decide ((lget (zero1 s) (x : Int)).value ≤ (lget (zero1 s) (y : Int)).value)) :=
    asrt_pos ⟨fun k hk => List.mem_range.1 hk, inv_nodup hz.1, by rw [List.length_range]; omega⟩ _
  obtain ⟨a, b, _, _⟩ := sortZ_spec e2
  exact ⟨_, by rw [e2]; rfl, a, b⟩
theorem sR_len (l : List Span) : ∀ n, (sR l n).2.length ≤ n
  | 0 => Nat.zero_le _
  | n + 1 => by
    have := sR_len l n
    rw [sR]
    split
    · show (lset _ _ _).length ≤ _
      rw [lset_len]
      cases hm : mget (sR l n).1 (val l n) with
      | none => rw [at_new _ hm, List.length_append]; simp; omega
      | some k => rw [at_old _ hm]; show (sR l n).2.length ≤ _; omega
    · omega
theorem sW_len (l : List Span) : ∀ n, (sW l n).2.length ≤ l.length + n
  | 0 => sR_len l _
  | n + 1 => by
    have := sW_len l n
    rw [sW]
    split
    · show (lset _ _ _).length ≤ _
      rw [lset_len]
      cases hm : mget (sW l n).1 (val l n) with
      | none => rw [at_new _ hm, List.length_append]; simp; omega
      | some k => rw [at_old _ hm]; show (sW l n).2.length ≤ _; omega
    · omega
theorem bunches_eq {l : List Span} (hl : l.length ≤ 200) : ∃ zs, history_bunches l [] = some (zs, zero1 (sW l l.length)) ∧ zs.Perm (List.range (zero1 (sW l l.length)).length) ∧
    zs.Pairwise (fun x y : Nat => (lget (zero1 (sW l l.length)) (x : Int)).value < (lget (zero1 (sW l l.length)) (y : Int)).value) := by
  obtain ⟨zs, h1, h2, h3⟩ := j2_eq (sW_inv l l.length) (by have := sW_len l l.length; omega)
  refine ⟨zs, ?_, h2, h3⟩
  unfold history_bunches history_bunches_L2
  refine loop_run (step := fun y => history_bunches_B2 l y) l.length (fun k => ((sR l k).1, (k : Int), (sR l k).2)) (fun k hk => b2_step hl hk) ?_
  show history_bunches_B2 l ((sR l l.length).1, (l.length : Int), (sR l l.length).2) = _
  unfold history_bunches_B2
  rw [if_neg (d_f (by simp))]
  unfold history_bunches_J1 history_bunches_L1
  have e : loopO (fun y => history_bunches_B1 l y) ((sR l l.length).1, (0 : Int), (sR l l.length).2) = some (zs, zero1 (sW l l.length)) := by
    refine loop_run (step := fun y => history_bunches_B1 l y) l.length (fun k => ((sW l k).1, (k : Int), (sW l k).2)) (fun k hk => b1_step hl hk) ?_
    show history_bunches_B1 l ((sW l l.length).1, (l.length : Int), (sW l l.length).2) = _
    unfold history_bunches_B1
    rw [if_neg (d_f (by simp))]
    show inrO (history_bunches_J2 (sW l l.length)) = _
    rw [h1]; rfl
  show inrO (loopO (fun y => history_bunches_B1 l y) ((sR l l.length).1, (0 : Int), (sR l l.length).2)) = _
  rw [e]; rfl
end G
end Go.Proofs.Ytnibbgjoanbnmaa
