/- Nodes: what is counted, who leads, which mails are sent; both ways. -/
import Derived.Test.YtcnngkigpfpalaaPRaftA
import Derived.Test.YtcnngkigpfpalaaPPutP
namespace Go.Proofs.Ytcnngkigpfpalaa
open Go Go.Dm
set_option linter.unusedVariables false
set_option linter.unusedSimpArgs false
namespace G
structure NGood (x : Node) : Prop where
  n1 : 1 ≤ x.N
  n7 : x.N ≤ 7
  i0 : 0 ≤ x.ID
  iN : x.ID < x.N
  t0 : 0 ≤ x.Term
  t1 : x.Term ≤ 1000000000
  v0 : 0 ≤ x.Vote
  vN : x.Vote ≤ x.N
  r0 : 0 ≤ x.Role
  r2 : x.Role ≤ 2
  c0 : 0 ≤ x.Commit
  cl : x.Commit ≤ (x.Log.length : Int)
  log : (fof x.Log).Code = 0
  last : ¬ x.Term < tat x.Log (x.Log.length : Int)
  form : formB x = true
theorem nodeF_good {x : Node} : (nodeF x).Code = 0 ↔ NGood x := by
  unfold nodeF
  by_cases c1 : (1 ≤ x.N ∧ x.N ≤ 7) ∧ 0 ≤ x.ID ∧ x.ID < x.N
  · rw [if_neg (not_not_intro c1)]
    by_cases c2 : (0 ≤ x.Term ∧ x.Term ≤ 1000000000) ∧ (0 ≤ x.Vote ∧ x.Vote ≤ x.N) ∧ (0 ≤ x.Role ∧ x.Role ≤ 2) ∧ 0 ≤ x.Commit ∧ x.Commit ≤ (x.Log.length : Int)
    · rw [if_neg (not_not_intro c2)]
      by_cases c3 : (fof x.Log).Code = 0
      · rw [if_neg (not_not_intro c3)]
        by_cases c4 : x.Term < tat x.Log (x.Log.length : Int)
        · rw [if_pos c4]; exact ⟨fun h => (by cases h), fun h => absurd c4 h.last⟩
        · rw [if_neg c4]
          by_cases c5 : formB x = true
          · rw [if_pos c5]
            exact ⟨fun _ => ⟨c1.1.1, c1.1.2, c1.2.1, c1.2.2, c2.1.1, c2.1.2, c2.2.1.1, c2.2.1.2, c2.2.2.1.1, c2.2.2.1.2, c2.2.2.2.1, c2.2.2.2.2, c3, c4, c5⟩, fun _ => rfl⟩
          · rw [if_neg c5]; exact ⟨fun h => (by cases h), fun h => absurd h.form c5⟩
      · rw [if_pos c3]; exact ⟨fun h => absurd h c3, fun h => absurd h.log c3⟩
    · rw [if_pos c2]; exact ⟨fun h => (by cases h), fun h => absurd ⟨⟨h.t0, h.t1⟩, ⟨h.v0, h.vN⟩, ⟨h.r0, h.r2⟩, h.c0, h.cl⟩ c2⟩
  · rw [if_pos c1]; exact ⟨fun h => (by cases h), fun h => absurd ⟨⟨h.n1, h.n7⟩, h.i0, h.iN⟩ c1⟩
theorem nodeF_zero {x : Node} (h : NGood x) : nodeF x = ⟨0, 0⟩ := by
  unfold nodeF
  rw [if_neg (not_not_intro ⟨⟨h.n1, h.n7⟩, h.i0, h.iN⟩), if_neg (not_not_intro ⟨⟨h.t0, h.t1⟩, ⟨h.v0, h.vN⟩, ⟨h.r0, h.r2⟩, h.c0, h.cl⟩), if_neg (not_not_intro h.log), if_neg h.last, if_pos h.form]
theorem NGood.len {x : Node} (h : NGood x) : x.Log.length ≤ 100 := (fof_good h.log).1
theorem NGood.lead {x : Node} (h : NGood x) (hr : x.Role = 2) : (x.Next.length : Int) = x.N ∧ (x.Have.length : Int) = x.N ∧ (∀ k ∈ x.Next, 1 ≤ k ∧ k ≤ (x.Log.length : Int) + 1) ∧ (∀ k ∈ x.Have, 0 ≤ k ∧ k ≤ (x.Log.length : Int)) ∧ x.Votes = [] := by
  have hf := h.form
  unfold formB at hf
  rw [if_pos hr, if_neg (by omega)] at hf
  simp only [Bool.and_eq_true, decide_eq_true_eq, List.all_eq_true, inW_iff] at hf
  exact ⟨hf.2.1.1.1, hf.2.1.1.2, hf.2.1.2, hf.2.2, List.eq_nil_of_length_eq_zero hf.1⟩
theorem NGood.idle {x : Node} (h : NGood x) (hr : x.Role ≠ 2) : x.Next = [] ∧ x.Have = [] := by
  have hf := h.form
  unfold formB at hf
  rw [if_neg hr] at hf
  simp only [Bool.and_eq_true, decide_eq_true_eq] at hf
  exact ⟨List.eq_nil_of_length_eq_zero hf.2.1, List.eq_nil_of_length_eq_zero hf.2.2⟩
theorem NGood.small {x : Node} (h : NGood x) : x.Next.length ≤ 7 ∧ x.Have.length ≤ 7 := by
  by_cases c : x.Role = 2
  · have := h.lead c; have := h.n7; omega
  · obtain ⟨h1, h2⟩ := h.idle c; rw [h1, h2]; simp
/- counting -/
def cntD (g : Nat → Bool) (c : Nat) : Nat → Nat
  | 0 => c
  | k + 1 => if k + 1 ≤ c then c else if g (k + 1) = true then k + 1 else cntD g c k
def haveN (l : List Int) (k : Int) : Nat := l.countP fun h => decide (k ≤ h)
def gd (n t : Int) (log : List Entry) (have0 : List Int) (k : Nat) : Bool := decide (n < 2 * (haveN have0 (k : Int) : Int)) && decide (tat log (k : Int) = t)
theorem haveN_take (l : List Int) (k : Int) (i : Nat) (h : i < l.length) : haveN (l.take (i + 1)) k = haveN (l.take i) k + if k ≤ lget l (i : Int) then 1 else 0 := by
  unfold haveN
  rw [lget_take l i h, List.countP_append]
  by_cases c : k ≤ lget l (i : Int) <;> simp [c]
theorem haveN_le (l : List Int) (k : Int) : haveN l k ≤ l.length := List.countP_le_length
theorem most_eq (k : Nat) (hk : k ≤ 100000) (n : Int) : raft_most (k : Int) n = decide (n < 2 * (k : Int)) := by
  unfold raft_most; rw [w64_id (by omega) (by omega)]
theorem count_L2 (n t : Int) (row : List Entry) (hs : List Int) (hr : row.length ≤ 1000) (hh : hs.length ≤ 1000) (c k : Nat) (hk : k ≤ 1000) (h1 : 1 ≤ k) : raft_count_L2 n t row hs ((c : Int), (k : Int)) (0, 0) = some (.inl (((if gd n t row hs k = true then k else c : Nat) : Int), ((k - 1 : Nat) : Int))) := by
  have hwk : w64 ((k : Int) - 1) = ((k - 1 : Nat) : Int) := by rw [w64_id (by omega) (by omega)]; omega
  have hle := haveN_le hs (k : Int)
  have := loop_run (step := fun y => raft_count_B2 n t row hs ((c : Int), (k : Int)) y) hs.length (fun i => ((haveN (hs.take i) (k : Int) : Int), (i : Int)))
    (fun i hi => by
      have hw : w64 ((i : Int) + 1) = ((i + 1 : Nat) : Int) := by rw [w64_id (by omega) (by omega)]; omega
      have hl := haveN_le (hs.take i) (k : Int)
      have hl2 : (hs.take i).length ≤ 1000 := by simp; omega
      have hw2 : w64 ((haveN (hs.take i) (k : Int) : Int) + 1) = ((haveN (hs.take i) (k : Int) + 1 : Nat) : Int) := by rw [w64_id (by omega) (by omega)]; omega
      simp only [raft_count_B2]
      rw [if_pos (d_t (by omega)), asrt_pos (by omega), asrt_pos (by omega), haveN_take _ _ _ hi, hw]
      by_cases g : (k : Int) ≤ lget hs (i : Int)
      · rw [if_pos (d_t g), ob_some, if_pos g, hw2]
      · rw [if_neg (d_f g), ob_some, if_neg g]; rfl)
    (r := .inl (((if gd n t row hs k = true then k else c : Nat) : Int), ((k - 1 : Nat) : Int)))
    (by
      simp only [raft_count_B2]
      rw [if_neg (d_f (by omega)), List.take_length]
      simp only [raft_count_J2]
      dsimp only [lt]
      rw [most_eq _ (by omega), hwk]
      unfold gd
      by_cases g : n < 2 * (haveN hs (k : Int) : Int)
      · rw [if_pos (d_t g), tat_eq _ (by omega), ob_some, decide_eq_true g]
        by_cases g2 : tat row (k : Int) = t
        · rw [decide_eq_true g2, if_pos (by decide), ob_some, if_pos (by decide)]; rfl
        · rw [decide_eq_false g2, if_neg (by decide), ob_some, if_neg (by decide)]; rfl
      · rw [if_neg (d_f g), ob_some, decide_eq_false g, Bool.false_and, if_neg (by decide), ob_some, Bool.false_and, if_neg (by decide)]; rfl)
  simpa [raft_count_L2, haveN] using this
theorem count_L1 (n i t v r : Int) (row : List Entry) (hs : List Int) (hr : row.length ≤ 1000) (hh : hs.length ≤ 1000) : ∀ (k c : Nat), k ≤ 1000 → raft_count_L1 n i t v r row hs ((c : Int), (k : Int)) = some (n, i, t, v, r, ((cntD (gd n t row hs) c k : Nat) : Int))
  | k, c, hk => by
    by_cases g : c < k
    · match k, hk, g with
      | k + 1, hk, g =>
      have h2 := count_L2 n t row hs hr hh c (k + 1) hk (by omega)
      have hB : raft_count_B1 n i t v r row hs ((c : Int), ((k + 1 : Nat) : Int)) = some (.inl (((if gd n t row hs (k + 1) = true then k + 1 else c : Nat) : Int), ((k : Nat) : Int))) := by
        simp only [raft_count_B1]
        rw [if_pos (d_t (by omega)), h2]; rfl
      refine (loopO_inl hB).trans ?_
      rw [cntD, if_neg (show ¬ k + 1 ≤ c by omega)]
      by_cases g2 : gd n t row hs (k + 1) = true
      · rw [if_pos g2, if_pos g2]
        refine loopO_inr ?_
        simp only [raft_count_B1]
        rw [if_neg (d_f (by omega))]; rfl
      · rw [if_neg g2, if_neg g2]
        exact count_L1 n i t v r row hs hr hh k c (by omega)
    · have : cntD (gd n t row hs) c k = c := by
        cases k with
        | zero => rfl
        | succ k => rw [cntD, if_pos (by omega)]
      rw [this]
      refine loopO_inr ?_
      simp only [raft_count_B1]
      rw [if_neg (d_f (by omega))]; rfl
theorem rcount_eq (n i t v r : Int) (c : Nat) (row : List Entry) (rw1 : List Int) (hs : List Int) (hr : row.length ≤ 1000) (hh : hs.length ≤ 1000) : raft_count n i t v r (c : Int) row rw1 hs = some (n, i, t, v, r, ((cntD (gd n t row hs) c row.length : Nat) : Int)) :=
  count_L1 n i t v r row hs hr hh row.length c hr
theorem rcount1_eq (n i t v r : Int) (c : Nat) (row : List Entry) (rw1 rw2 : List Int) (hs : List Int) (hr : row.length ≤ 1000) (hh : hs.length ≤ 1000) : raft_count_v1 n i t v r (c : Int) row rw1 rw2 hs = some (n, i, t, v, r, ((cntD (gd n t row hs) c row.length : Nat) : Int)) :=
  count_L1 n i t v r row hs hr hh row.length c hr
/- the document's -/
theorem tat_in (l : List Entry) (k : Nat) (h1 : 1 ≤ k) (h2 : k ≤ l.length) : tat l (k : Int) = (lget l ((k - 1 : Nat) : Int)).Term := by
  have e : (k : Int) - 1 = ((k - 1 : Nat) : Int) := by omega
  unfold tat
  rw [if_neg (by omega), e]
/- who leads -/
def leaderN (x : Node) : Node :=
  ⟨x.N, x.ID, x.Term, x.Vote, x.Log, 2, ((cntD (gd x.N x.Term x.Log ((List.replicate x.N.toNat (0 : Int)).set x.ID.toNat (x.Log.length : Int))) x.Commit.toNat x.Log.length : Nat) : Int), [], List.replicate x.N.toNat ((x.Log.length : Int) + 1), (List.replicate x.N.toNat (0 : Int)).set x.ID.toNat (x.Log.length : Int)⟩
theorem lead_eq (n i t v r c : Int) (bs : List Int) (row : List Entry) (h1 : 1 ≤ n) (h7 : n ≤ 7) (hi : 0 ≤ i) (hin : i < n) (hl : row.length ≤ 1000) (hc : 0 ≤ c) :
    raft_lead n i t v r c bs row = some (n, i, t, v, 2, ((cntD (gd n t row ((List.replicate n.toNat (0 : Int)).set i.toNat (row.length : Int))) c.toNat row.length : Nat) : Int), List.replicate n.toNat ((row.length : Int) + 1), (List.replicate n.toNat (0 : Int)).set i.toNat (row.length : Int)) := by
  have hw : w64 ((row.length : Int) + 1) = (row.length : Int) + 1 := w64_id (by omega) (by omega)
  obtain ⟨c', rfl⟩ : ∃ c' : Nat, c = (c' : Int) := ⟨c.toNat, by omega⟩
  unfold raft_lead raft_follow_v1
  dsimp only [lt]
  rw [asrt_pos (by omega), asrt_pos (by omega)]
  have hlen : (List.replicate n.toNat (0 : Int)).length = n.toNat := List.length_replicate
  have := loop_run (step := fun y => raft_lead_B1 row (n, i, t, v, 0, (c' : Int)) y) n.toNat (fun k => (List.replicate k ((row.length : Int) + 1) ++ List.replicate (n.toNat - k) (0 : Int), (k : Int)))
    (fun k hk => by
      have hwk : w64 ((k : Int) + 1) = ((k + 1 : Nat) : Int) := by rw [w64_id (by omega) (by omega)]; omega
      have hl2 : (List.replicate k ((row.length : Int) + 1) ++ List.replicate (n.toNat - k) (0 : Int)).length = n.toNat := by simp; omega
      simp only [raft_lead_B1]
      rw [if_pos (d_t (by omega)), asrt_pos (by omega), asrt_pos (by omega), hw, hwk]
      congr 3
      unfold lset
      have e1 : List.replicate (n.toNat - k) (0 : Int) = 0 :: List.replicate (n.toNat - (k + 1)) 0 := by
        rw [← List.replicate_succ]; congr 1; omega
      rw [Int.toNat_natCast, List.set_append_right _ _ (by simp), List.length_replicate, Nat.sub_self, e1, List.set_cons_zero, List.replicate_succ']
      simp)
    (r := (n, i, t, v, 2, ((cntD (gd n t row ((List.replicate n.toNat (0 : Int)).set i.toNat (row.length : Int))) c' row.length : Nat) : Int), List.replicate n.toNat ((row.length : Int) + 1), (List.replicate n.toNat (0 : Int)).set i.toNat (row.length : Int)))
    (by
      simp only [raft_lead_B1]
      rw [if_neg (d_f (by omega)), Nat.sub_self, List.replicate_zero, List.append_nil]
      simp only [raft_lead_J1]
      rw [asrt_pos (by omega), asrt_pos (by omega), rcount_eq _ _ _ _ _ _ _ _ _ hl (by rw [lset_len, hlen]; omega), ob_some]
      rfl)
  simp only [Nat.sub_zero, List.replicate_zero, List.nil_append] at this
  exact this
theorem lead1_eq (n i t v r c : Int) (row : List Entry) (r1 r2 r3 : List Int) (h1 : 1 ≤ n) (h7 : n ≤ 7) (hi : 0 ≤ i) (hin : i < n) (hl : row.length ≤ 1000) (hc : 0 ≤ c) :
    raft_lead_v1 n i t v r c row r1 r2 r3 = some (n, i, t, v, 2, ((cntD (gd n t row ((List.replicate n.toNat (0 : Int)).set i.toNat (row.length : Int))) c.toNat row.length : Nat) : Int), List.replicate n.toNat ((row.length : Int) + 1), (List.replicate n.toNat (0 : Int)).set i.toNat (row.length : Int)) := by
  have hw : w64 ((row.length : Int) + 1) = (row.length : Int) + 1 := w64_id (by omega) (by omega)
  obtain ⟨c', rfl⟩ : ∃ c' : Nat, c = (c' : Int) := ⟨c.toNat, by omega⟩
  unfold raft_lead_v1 raft_follow
  dsimp only [lt]
  rw [asrt_pos (by omega), asrt_pos (by omega)]
  have hlen : (List.replicate n.toNat (0 : Int)).length = n.toNat := List.length_replicate
  have := loop_run (step := fun y => raft_lead_v1_B1 row (n, i, t, v, 0, (c' : Int)) y) n.toNat (fun k => (List.replicate k ((row.length : Int) + 1) ++ List.replicate (n.toNat - k) (0 : Int), (k : Int)))
    (fun k hk => by
      have hwk : w64 ((k : Int) + 1) = ((k + 1 : Nat) : Int) := by rw [w64_id (by omega) (by omega)]; omega
      have hl2 : (List.replicate k ((row.length : Int) + 1) ++ List.replicate (n.toNat - k) (0 : Int)).length = n.toNat := by simp; omega
      simp only [raft_lead_v1_B1]
      rw [if_pos (d_t (by omega)), asrt_pos (by omega), asrt_pos (by omega), hw, hwk]
      congr 3
      unfold lset
      have e1 : List.replicate (n.toNat - k) (0 : Int) = 0 :: List.replicate (n.toNat - (k + 1)) 0 := by
        rw [← List.replicate_succ]; congr 1; omega
      rw [Int.toNat_natCast, List.set_append_right _ _ (by simp), List.length_replicate, Nat.sub_self, e1, List.set_cons_zero, List.replicate_succ']
      simp)
    (r := (n, i, t, v, 2, ((cntD (gd n t row ((List.replicate n.toNat (0 : Int)).set i.toNat (row.length : Int))) c' row.length : Nat) : Int), List.replicate n.toNat ((row.length : Int) + 1), (List.replicate n.toNat (0 : Int)).set i.toNat (row.length : Int)))
    (by
      simp only [raft_lead_v1_B1]
      rw [if_neg (d_f (by omega)), Nat.sub_self, List.replicate_zero, List.append_nil]
      simp only [raft_lead_v1_J1]
      rw [asrt_pos (by omega), asrt_pos (by omega), rcount_eq _ _ _ _ _ _ _ _ _ hl (by rw [lset_len, hlen]; omega), ob_some]
      rfl)
  simp only [Nat.sub_zero, List.replicate_zero, List.nil_append] at this
  exact this
/- mails to all others -/
def mls (id : Int) (f : Nat → Mail) : Nat → List Mail
  | 0 => []
  | k + 1 => if (k : Int) = id then mls id f k else mls id f k ++ [f k]
theorem mls_len (id : Int) (f : Nat → Mail) : ∀ k, (mls id f k).length ≤ k
  | 0 => Nat.le_refl _
  | k + 1 => by
    have := mls_len id f k
    rw [mls]
    split
    · omega
    · simp; omega
theorem mls_congr {id : Int} {f g : Nat → Mail} : ∀ {k : Nat}, (∀ j : Nat, j < k → (j : Int) ≠ id → f j = g j) → mls id f k = mls id g k
  | 0, _ => rfl
  | k + 1, h => by
    have ih := mls_congr (k := k) (fun j hj => h j (by omega))
    rw [mls, mls, ih]
    by_cases c : (k : Int) = id
    · rw [if_pos c, if_pos c]
    · rw [if_neg c, if_neg c, h k (by omega) c]
theorem mls_mem {id : Int} {f : Nat → Mail} : ∀ {k : Nat} {m : Mail}, m ∈ mls id f k → ∃ j : Nat, j < k ∧ (j : Int) ≠ id ∧ m = f j
  | 0, m, h => by cases h
  | k + 1, m, h => by
    rw [mls] at h
    split at h
    · obtain ⟨j, h1, h2⟩ := mls_mem h; exact ⟨j, by omega, h2⟩
    · rename_i c
      rw [List.mem_append, List.mem_singleton] at h
      rcases h with h | h
      · obtain ⟨j, h1, h2⟩ := mls_mem h; exact ⟨j, by omega, h2⟩
      · exact ⟨k, by omega, c, h⟩
def askM (id t : Int) (log : List Entry) (k : Nat) : Mail := ⟨1, id, (k : Int), t, (log.length : Int), tat log (log.length : Int), 0, [], false⟩
theorem others_eq (n i t v r c : Int) (bs : List Int) (row : List Entry) (h1 : 1 ≤ n) (h7 : n ≤ 7) (hl : row.length ≤ 1000) : raft_others n i t v r c bs row = some (mls i (askM i t row) n.toNat) := by
  have := loop_run (step := fun y => raft_others_B1 n i t v r c bs row y) n.toNat (fun k => (mls i (askM i t row) k, (k : Int)))
    (fun k hk => by
      have hwk : w64 ((k : Int) + 1) = ((k + 1 : Nat) : Int) := by rw [w64_id (by omega) (by omega)]; omega
      have hml := mls_len i (askM i t row) k
      simp only [raft_others_B1]
      rw [if_pos (d_t (by omega)), hwk, mls]
      by_cases g : (k : Int) = i
      · rw [if_neg (n_f g), ob_some, if_pos g]
      · rw [if_pos (n_t g), if_neg g]
        unfold raft_Stand_1
        rw [tat_eq _ (by omega), ob_some, ob_some, asrt_pos (by simp; omega)]
        rfl)
    (r := mls i (askM i t row) n.toNat)
    (by
      simp only [raft_others_B1]
      rw [if_neg (d_f (by omega))]; rfl)
  simpa [raft_others, raft_others_L1, mls] using this
def bringM (x : Node) (k : Nat) : Mail := ⟨3, x.ID, (k : Int), x.Term, lget x.Next (k : Int) - 1, tat x.Log (lget x.Next (k : Int) - 1), x.Commit, (x.Log.take (min (lget x.Next (k : Int) - 1 + 5) (x.Log.length : Int)).toNat).drop (lget x.Next (k : Int) - 1).toNat, false⟩
theorem beats_eq (x : Node) (h1 : 1 ≤ x.N) (h7 : x.N ≤ 7) (hl : x.Log.length ≤ 1000) (hn : (x.Next.length : Int) = x.N) (hk : ∀ k ∈ x.Next, 1 ≤ k ∧ k ≤ (x.Log.length : Int) + 1) : raft_beats x = some (mls x.ID (bringM x) x.N.toNat) := by
  unfold raft_beats
  have := loop_run (step := fun y => raft_others_v1_B1 x y) x.N.toNat (fun k => (mls x.ID (bringM x) k, (k : Int)))
    (fun k hk2 => by
      have hwk : w64 ((k : Int) + 1) = ((k + 1 : Nat) : Int) := by rw [w64_id (by omega) (by omega)]; omega
      have hml := mls_len x.ID (bringM x) k
      have hnk := hk _ (lget_mem x.Next (k : Int) (by omega))
      have hw2 : w64 (lget x.Next (k : Int) - 1) = lget x.Next (k : Int) - 1 := w64_id (by omega) (by omega)
      have hw3 : w64 (lget x.Next (k : Int) - 1 + 5) = lget x.Next (k : Int) - 1 + 5 := w64_id (by omega) (by omega)
      simp only [raft_others_v1_B1]
      rw [if_pos (d_t (by omega)), hwk, mls]
      by_cases g : (k : Int) = x.ID
      · rw [if_neg (n_f g), ob_some, if_pos g]
      · rw [if_pos (n_t g), if_neg g]
        unfold raft_beats_1
        rw [asrt_pos (by omega), hw2, hw3, tat_eq _ (by omega), ob_some, asrt_pos (by omega), eclone_eq _ (by simp [ldrop, ltake]; omega), ob_some, ob_some, asrt_pos (by simp; omega)]
        rfl)
    (r := mls x.ID (bringM x) x.N.toNat)
    (by
      simp only [raft_others_v1_B1]
      rw [if_neg (d_f (by omega))]; rfl)
  have h2 : raft_others_v1 x = some (mls x.ID (bringM x) x.N.toNat) := by simpa [raft_others_v1, raft_others_v1_L1, mls] using this
  rw [h2, ob_some]
theorem beats1_eq (x : Node) (h1 : 1 ≤ x.N) (h7 : x.N ≤ 7) (hl : x.Log.length ≤ 1000) (hn : (x.Next.length : Int) = x.N) (hk : ∀ k ∈ x.Next, 1 ≤ k ∧ k ≤ (x.Log.length : Int) + 1) : raft_beats_v1 x.N x.ID x.Term x.Vote x.Role x.Commit x.Log x.Next x.Have = some (mls x.ID (bringM x) x.N.toNat, x.N, x.ID, x.Term, x.Vote, x.Log, x.Role, x.Commit, x.Log) := by
  have := loop_run (step := fun y => raft_others_v2_B1 x.N x.Next x.Have y) x.N.toNat (fun k => (x.N, x.ID, x.Term, x.Vote, x.Log, x.Role, x.Commit, mls x.ID (bringM x) k, (k : Int), x.Log))
    (fun k hk2 => by
      have hwk : w64 ((k : Int) + 1) = ((k + 1 : Nat) : Int) := by rw [w64_id (by omega) (by omega)]; omega
      have hml := mls_len x.ID (bringM x) k
      have hnk := hk _ (lget_mem x.Next (k : Int) (by omega))
      have hw2 : w64 (lget x.Next (k : Int) - 1) = lget x.Next (k : Int) - 1 := w64_id (by omega) (by omega)
      have hw3 : w64 (lget x.Next (k : Int) - 1 + 5) = lget x.Next (k : Int) - 1 + 5 := w64_id (by omega) (by omega)
      simp only [raft_others_v2_B1]
      rw [if_pos (d_t (by omega)), hwk, mls]
      by_cases g : (k : Int) = x.ID
      · rw [if_neg (n_f g), ob_some, if_pos g]
      · rw [if_pos (n_t g), if_neg g]
        unfold raft_beats_1_v2
        rw [asrt_pos (by omega), asrt_pos (by omega), hw2, hw3, tat_eq _ (by omega), ob_some, asrt_pos (by omega), eclone_eq _ (by simp [ldrop, ltake]; omega), ob_some, ob_some, asrt_pos (by simp; omega)]
        rfl)
    (r := (mls x.ID (bringM x) x.N.toNat, x.N, x.ID, x.Term, x.Vote, x.Log, x.Role, x.Commit, x.Log))
    (by
      simp only [raft_others_v2_B1]
      rw [if_neg (d_f (by omega))]; rfl)
  have h2 : raft_others_v2 x.N x.ID x.Term x.Vote x.Role x.Commit x.Log x.Next x.Have = some (mls x.ID (bringM x) x.N.toNat, x.N, x.ID, x.Term, x.Vote, x.Log, x.Role, x.Commit, x.Log) := by simpa [raft_others_v2, raft_others_v2_L1, mls] using this
  unfold raft_beats_v1
  rw [h2, ob_some]
theorem tat_take (l : List Entry) (n : Nat) (h : n ≤ l.length) : tat (l.take n) ((l.take n).length : Int) = tat l (n : Int) := by
  have hl : (l.take n).length = n := by simp; omega
  rw [hl]
  unfold tat
  rw [hl]
  by_cases c : (n : Int) < 1
  · rw [if_pos (.inl c), if_pos (.inl c)]
  · rw [if_neg (by omega), if_neg (by omega)]
    have e : (n : Int) - 1 = ((n - 1 : Nat) : Int) := by omega
    have := lget_ltake l (n : Int) ((n : Int) - 1) (by omega)
    rw [ltake_nat] at this
    rw [this]
end G
end Go.Proofs.Ytcnngkigpfpalaa
