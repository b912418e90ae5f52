/- LocateFinds. -/
import Derived.Test.YtdjlninhfndjfaaPBoardR
namespace Go.Proofs.Ytdjlninhfndjfaa
open Go Go.Dm
set_option linter.unusedVariables false
set_option linter.unusedSimpArgs false
namespace G
theorem bd_eta (b : Board) : (⟨b.Hosts, b.Slots, b.Turn, b.Next⟩ : Board) = b := rfl
theorem or_eta (o : Order) : (⟨o.Kind, o.ID, o.Host, o.Turn, o.Row⟩ : Order) = o := rfl
theorem zero_good : BG ⟨[], [⟨⟨[], [], 1⟩, 0, 0, 0⟩], 0, 2⟩ := by
  refine ⟨by decide, by simp, by simp, by decide, by show (1 : Int) ≤ 2 ∧ (2 : Int) ≤ 1000000000; omega, ?_, ?_, by simp⟩
  · refine ⟨by decide, ?_, by simp [partsOf], by simp [partsOf, ch]⟩
    intro p hp
    have : p = ⟨[], [], 1⟩ := by simpa [partsOf] using hp
    subst this
    unfold okp; decide
  · intro s hs
    have : s = ⟨⟨[], [], 1⟩, 0, 0, 0⟩ := by simpa using hs
    subst this
    unfold sOk; simp
theorem boards_loop (os : List Order) (ho : os.length ≤ 1000) : ∀ (m k : Nat) (bs : List Board) (fs : List Fault), k + m = os.length → bs.length = k + 1 → fs.length = k → (∀ b ∈ bs, BG b) → ∃ r, R_Boards_v1_L1 os (bs, fs, (k : Int)) = some r ∧ r.1.length = os.length + 1 ∧ ∀ b ∈ r.1, BG b := by
  intro m
  induction m with
  | zero =>
    intro k bs fs hk hb hf hg
    refine ⟨(bs, fs), ?_, by simp only; omega, hg⟩
    refine loopO_inr ?_
    unfold R_Boards_v1_B1
    dsimp only
    rw [if_neg (d_f (by omega))]; rfl
  | succ m ih =>
    intro k bs fs hk hb hf hg
    have hw : w64 ((k : Int) + 1) = ((k + 1 : Nat) : Int) := by rw [w64_id (by omega) (by omega)]; omega
    have hbg := hg _ (lget_mem bs (k : Int) (by omega))
    obtain ⟨r, hr, hr2⟩ := ordered_good (bg_iff.2 hbg) (lget os (k : Int))
    obtain ⟨v, hv, hvg⟩ : ∃ v : List Host × List Slot × Int × Int, (if (!decide (r.2.2.2.2.Code = 0)) = true then some ((lget bs (k : Int)).Hosts, (lget bs (k : Int)).Slots, (lget bs (k : Int)).Turn, (lget bs (k : Int)).Next) else some (r.1, r.2.1, r.2.2.1, r.2.2.2.1)) = some v ∧ BG ⟨v.1, v.2.1, v.2.2.1, v.2.2.2⟩ := by
      by_cases c : r.2.2.2.2.Code = 0
      · exact ⟨_, if_neg (n_f c), hr2 c⟩
      · exact ⟨_, if_pos (n_t c), hbg⟩
    obtain ⟨z, hz, hz1, hz2⟩ := ih (k + 1) (bs ++ [⟨v.1, v.2.1, v.2.2.1, v.2.2.2⟩]) (fs ++ [r.2.2.2.2]) (by omega) (by simp; omega) (by simp; omega) (by
      intro b hm
      rcases List.mem_append.1 hm with hm | hm
      · exact hg b hm
      · rw [List.mem_singleton] at hm
        rw [hm]; exact hvg)
    refine ⟨z, ?_, hz1, hz2⟩
    refine (loopO_inl ?_).trans hz
    unfold R_Boards_v1_B1
    dsimp only
    rw [if_pos (d_t (by omega)), asrt_pos (by omega), asrt_pos (by omega), asrt_pos (by omega), bd_eta, or_eta, hr, ob_some, asrt_pos (by rw [List.length_append]; simp; omega), asrt_pos (by omega), asrt_pos (by omega), hv, ob_some, asrt_pos (by rw [List.length_append]; simp; omega), hw]
theorem boards_eq (os : List Order) (ho : os.length ≤ 1000) : ∃ r, R_Boards_v1 os = some r ∧ r.1.length = os.length + 1 ∧ ∀ b ∈ r.1, BG b :=
  boards_loop os ho os.length 0 _ [] (by omega) rfl rfl (fun b hb => by
    rw [List.mem_singleton] at hb
    rw [hb]; exact zero_good)
theorem learnt_len {m : List Known} {k : Known} : (learntF m k).length ≤ m.length + 1 := by
  unfold learntF
  rw [List.length_append, List.length_append, List.length_singleton]
  have : ∀ m : List Known, (m.filter (fun x => !locate_learn_1 x k && lowK k x)).length + (m.filter (fun x => !locate_learn_1 x k && higK k x)).length ≤ m.length := by
    intro m
    induction m with
    | nil => simp
    | cons x m ih =>
      rw [List.filter_cons, List.filter_cons]
      by_cases c : (!locate_learn_1 x k && lowK k x) = true
      · have : ¬ (!locate_learn_1 x k && higK k x) = true := by
          intro d
          rw [Bool.and_eq_true] at c d
          have := bl_asymm (show Op.bytesLess x.Part.From k.Part.From = true from c.2)
          have d2 : Op.bytesLess k.Part.From x.Part.From = true := d.2
          rw [this] at d2; cases d2
        rw [if_pos c, if_neg this]
        simp only [List.length_cons]; omega
      · rw [if_neg c]
        split
        · simp only [List.length_cons]; omega
        · simp only [List.length_cons]; omega
  have := this m
  omega
theorem learn1_f {x k : Known} (h : locate_learn_1 x k = false) : ¬ hasP x.Part k.Part.From ∧ ¬ hasP k.Part x.Part.From := by
  unfold locate_learn_1 at h
  dsimp only [lt] at h
  rw [has_eq, has_eq, Bool.or_eq_false_iff, decide_eq_false_iff_not, decide_eq_false_iff_not] at h
  exact h
theorem learnt_good {m : List Known} {k : Known} (hm : KGood m) (hk : ptOk k.Part) (hl : m.length < 200) : KGood (learntF m k) := by
  have hl2 := @learnt_len m k
  have hA : ∀ x ∈ m.filter (fun x => !locate_learn_1 x k && lowK k x), ahd x k := by
    intro x hx
    rw [List.mem_filter, Bool.and_eq_true, Bool.not_eq_true'] at hx
    have h1 := (learn1_f hx.2.1).1
    have h2 : Op.bytesLess x.Part.From k.Part.From = true := hx.2.2
    unfold hasP at h1
    unfold ahd
    refine ⟨fun g => h1 ⟨bl_asymm h2, .inl g⟩, ?_⟩
    cases g : Op.bytesLess k.Part.From x.Part.To with
    | false => rfl
    | true => exact absurd ⟨bl_asymm h2, .inr g⟩ h1
  have hB : ∀ y ∈ m.filter (fun x => !locate_learn_1 x k && higK k x), ahd k y := by
    intro x hx
    rw [List.mem_filter, Bool.and_eq_true, Bool.not_eq_true'] at hx
    have h1 := (learn1_f hx.2.1).2
    have h2 : Op.bytesLess k.Part.From x.Part.From = true := hx.2.2
    unfold hasP at h1
    unfold ahd
    refine ⟨fun g => h1 ⟨bl_asymm h2, .inl g⟩, ?_⟩
    cases g : Op.bytesLess x.Part.From k.Part.To with
    | false => rfl
    | true => exact absurd ⟨bl_asymm h2, .inr g⟩ h1
  refine ⟨by omega, ?_, ?_⟩
  · intro x hx
    unfold learntF at hx
    simp only [List.mem_append, List.mem_singleton] at hx
    rcases hx with (hx | rfl) | hx
    · exact hm.ok x (List.mem_filter.1 hx).1
    · exact hk
    · exact hm.ok x (List.mem_filter.1 hx).1
  · unfold learntF
    rw [List.pairwise_append, List.pairwise_append]
    refine ⟨⟨hm.up.sublist List.filter_sublist, by simp, fun a ha c hc => ?_⟩, hm.up.sublist List.filter_sublist, fun a ha c hc => ?_⟩
    · rw [List.mem_singleton] at hc
      rw [hc]; exact hA a ha
    · rcases List.mem_append.1 ha with ha | ha
      · exact ahd_trans hk (hA a ha) (hB c hc)
      · rw [List.mem_singleton] at ha
        rw [ha]; exact hB c hc
theorem findI_mem {l : List Known} (hg : KGood l) {row : List UInt8} {k : Known} (hk : k ∈ l) (h : hasP k.Part row) : 0 ≤ findI l row ∧ lget l (findI l row) = k := by
  obtain ⟨j, hj, e⟩ := mem_lget.1 hk
  have := ((findI_iff hg row).2 j hj).1 (by rw [e]; exact h)
  rw [this, e]
  exact ⟨by omega, rfl⟩
theorem slotOf_has {b : Board} (hg : BGood b) (row : List UInt8) : hasP (slotOf b row).Part row := by
  obtain ⟨j, h1, h2, h3⟩ := slot_first hg row
  have e2 : slotOf b row = lget b.Slots (j : Int) := ff_first (fun k : Nat => hasP (lget b.Slots (k : Int)).Part row) (fun k => lget b.Slots (k : Int)) zeroS h1 h2 h3
  rw [e2]; exact h2
structure FOk (l : List Known) (s : Slot) (row : List UInt8) (r : List Known × Known × Int × Fault) : Prop where
  good : KGood r.1
  len : r.1.length ≤ l.length + 1
  asks : r.2.2.1 = 1 ∨ r.2.2.1 = 2
  code : r.2.2.2.Code = 0 ↔ s.State = 2
  ans : s.State = 2 → r.2.1.Host = s.Host ∧ r.2.1.Turn = s.Turn ∧ hasP r.2.1.Part row ∧ findV r.1 s row = (r.1, r.2.1, 1, ⟨0, 0⟩)
theorem findV_ok {l : List Known} (hg : KGood l) (hl : l.length < 200) {s : Slot} (hs : ptOk s.Part) {row : List UInt8} (hr : hasP s.Part row) : FOk l s row (findV l s row) := by
  unfold findV
  by_cases c : 0 ≤ findI l row ∧ srvP s (lget l (findI l row)).Host (lget l (findI l row)).Turn
  · rw [if_pos c]
    have c2 := c.2
    unfold srvP at c2
    obtain ⟨h1, h2⟩ := findI_iff hg row
    obtain ⟨j, hj⟩ : ∃ j : Nat, findI l row = (j : Int) := ⟨(findI l row).toNat, by omega⟩
    refine ⟨hg, Nat.le_succ _, .inl rfl, ⟨fun _ => c2.1, fun _ => rfl⟩, fun _ => ⟨c2.2.1.symm, c2.2.2.symm, ?_, ?_⟩⟩
    · show hasP (lget l (findI l row)).Part row
      rw [hj]
      exact (h2 j (by omega)).2 hj
    · unfold findV
      dsimp only
      rw [if_pos c]
  · rw [if_neg c]
    have ha : (if 0 ≤ findI l row then (2 : Int) else 1) = 1 ∨ (if 0 ≤ findI l row then (2 : Int) else 1) = 2 := by
      by_cases d : 0 ≤ findI l row
      · rw [if_pos d]; exact .inr rfl
      · rw [if_neg d]; exact .inl rfl
    have hrg := rest_good hg row
    have hrl : (restF l row).length ≤ l.length := List.length_filter_le _ _
    unfold findE
    by_cases d : s.State = 2
    · rw [if_pos d]
      have h2 := @learnt_len (restF l row) (slotK s)
      have hlg : KGood (learntF (restF l row) (slotK s)) := learnt_good hrg hs (by omega)
      refine ⟨hlg, by show (learntF _ _).length ≤ _; omega, ha, ⟨fun _ => d, fun _ => rfl⟩, fun _ => ⟨rfl, rfl, hr, ?_⟩⟩
      have hm : slotK s ∈ learntF (restF l row) (slotK s) := by unfold learntF; simp
      obtain ⟨f1, f2⟩ := findI_mem hlg hm hr
      unfold findV
      dsimp only
      rw [f2, if_pos ⟨f1, d, rfl, rfl⟩]
    · rw [if_neg d]
      exact ⟨hrg, by show (restF l row).length ≤ _; omega, ha, ⟨fun h => absurd (show (6 : Int) = 0 from h) (by decide), fun h => absurd h d⟩, fun h => absurd h d⟩
theorem find1_eq (b : Board) (l : List Known) (row : List UInt8) : locate_Find_v1 b l row = locate_Find b l row := rfl
theorem idx_eq (i o r : Nat) (hi : i < r) (hr : r ≤ 1000) (h0 : 0 < o) (ho : o ≤ 150) : ∃ Q : Nat, Q < o ∧ w64 (1 + (w64 (Int.tdiv (w64 ((i : Int) * (o : Int))) (r : Int)))) = ((1 + Q : Nat) : Int) := by
  have hm : (i : Int) * (o : Int) = ((i * o : Nat) : Int) := by simp
  have hm2 : i * o ≤ 1000 * 150 := Nat.mul_le_mul (by omega) ho
  have hd : Int.tdiv ((i * o : Nat) : Int) (r : Int) = ((i * o / r : Nat) : Int) := rfl
  have hd2 : i * o / r < o := by
    rw [Nat.div_lt_iff_lt_mul (by omega), Nat.mul_comm]
    exact Nat.mul_lt_mul_of_pos_left (by omega) h0
  refine ⟨i * o / r, hd2, ?_⟩
  rw [hm, w64_id (x := ((i * o : Nat) : Int)) (by omega) (by omega), hd]
  generalize i * o / r = Q at hd2
  rw [w64_id (x := (Q : Int)) (by omega) (by omega), w64_id (by omega) (by omega)]
  omega
theorem finds_loop (os : List Order) (rows : List (List UInt8)) (ho : os.length ≤ 150) (hr : rows.length ≤ 150) (x1 : List Board × List Fault) (h1 : x1.1.length = os.length + 1) (h2 : ∀ b ∈ x1.1, BG b) : ∀ (m i : Nat) (l : List Known), i + m = rows.length → KGood l → l.length ≤ i → law_LocateFinds_L1 os rows x1 (l, (i : Int)) = some true := by
  intro m
  induction m with
  | zero =>
    intro i l hi hg hl
    refine loopO_inr ?_
    unfold law_LocateFinds_B1
    dsimp only
    rw [if_neg (d_f (by omega))]; rfl
  | succ m ih =>
    intro i l hi hg hl
    have hw : w64 ((i : Int) + 1) = ((i + 1 : Nat) : Int) := by rw [w64_id (by omega) (by omega)]; omega
    obtain ⟨b, hb, hbg⟩ : ∃ b : Board, (if (decide (0 < (os.length : Int))) = true then
        asrt ((rows.length : Int) ≠ 0) <|
        asrt (0 ≤ w64 (1 + (w64 (Int.tdiv (w64 ((i : Int) * (os.length : Int))) (rows.length : Int)))) ∧ w64 (1 + (w64 (Int.tdiv (w64 ((i : Int) * (os.length : Int))) (rows.length : Int)))) < (x1.1.length : Int)) <|
        lt (((lget x1.1 (w64 (1 + (w64 (Int.tdiv (w64 ((i : Int) * (os.length : Int))) (rows.length : Int)))))).Hosts, (lget x1.1 (w64 (1 + (w64 (Int.tdiv (w64 ((i : Int) * (os.length : Int))) (rows.length : Int)))))).Slots, (lget x1.1 (w64 (1 + (w64 (Int.tdiv (w64 ((i : Int) * (os.length : Int))) (rows.length : Int)))))).Turn, (lget x1.1 (w64 (1 + (w64 (Int.tdiv (w64 ((i : Int) * (os.length : Int))) (rows.length : Int)))))).Next)) fun (v4 : List Host × List Slot × Int × Int) =>
        some (⟨v4.1, v4.2.1, v4.2.2.1, v4.2.2.2⟩ : Board)
      else
        some (⟨(lget x1.1 0).Hosts, (lget x1.1 0).Slots, (lget x1.1 0).Turn, (lget x1.1 0).Next⟩ : Board)) = some b ∧ BG b := by
      by_cases c : 0 < os.length
      · obtain ⟨Q, hQ, e⟩ := idx_eq i os.length rows.length (by omega) (by omega) c ho
        rw [if_pos (d_t (by omega)), e, asrt_pos (by omega), asrt_pos (by omega)]
        exact ⟨_, rfl, h2 _ (lget_mem x1.1 _ (by omega))⟩
      · rw [if_neg (d_f (by omega))]
        exact ⟨_, rfl, h2 _ (lget_mem x1.1 0 (by omega))⟩
    have hbb := bg_iff.2 hbg
    have hsl := slot_len hbb
    have hF := findV_ok hg (by omega) (slot_good hbb (lget rows (i : Int))).2 (slotOf_has hbb (lget rows (i : Int)))
    have hstep : law_LocateFinds_B1 os rows x1 (l, (i : Int)) = some (.inl ((findV l (slotOf b (lget rows (i : Int))) (lget rows (i : Int))).1, ((i + 1 : Nat) : Int))) := by
      unfold law_LocateFinds_B1 law_LocateFinds_J2
      dsimp only
      rw [if_pos (d_t (by omega)), asrt_pos (by omega), hb, ob_some, asrt_pos (by omega), rslotOf_eq _ (by omega), ob_some, asrt_pos (by omega), find1_eq, find_good hbb hg, ob_some]
      obtain ⟨g1, g2, g3, g4, g5⟩ := hF
      generalize lget rows (i : Int) = row at *
      generalize hso : slotOf b row = s at *
      generalize findV l s row = r at *
      have hk := knownF_good.2 g1
      have ha : ((decide (r.2.2.1 < 1)) || (decide (2 < r.2.2.1))) = false := by
        rcases g3 with g3 | g3 <;> rw [g3] <;> rfl
      rw [ha, if_pos (by decide), rknown_eq, ob_some]
      by_cases c : s.State = 2
      · obtain ⟨a1, a2, a3, a4⟩ := g5 c
        have hc := g4.2 c
        rw [if_neg (by simp [hk, hc, c]), if_neg (n_f hc), asrt_pos (fun _ => by omega)]
        dsimp only [lt]
        rw [inPart_eq, if_neg (by simp [a1, a2, a3]), asrt_pos (by omega), find1_eq]
        have e6 : locate_Find b r.1 row = some (r.1, r.2.1, 1, ⟨0, 0⟩) := by
          have := find_good hbb g1 row
          rw [hso, a4] at this
          exact this
        rw [e6, ob_some]
        dsimp only
        rw [if_pos (by simp), known_self _ (by omega), ob_some, if_neg (by simp), hw]
      · have hc : ¬ r.2.2.2.Code = 0 := fun h => c (g4.1 h)
        rw [if_neg (by simp [hk, hc, c]), if_pos (n_t hc), hw]
    refine (loopO_inl hstep).trans (ih (i + 1) _ (by omega) hF.good ?_)
    have := hF.len
    omega
theorem LocateFinds_eq (os : List Order) (rows : List (List UInt8)) : law_LocateFinds os rows = some true := by
  unfold law_LocateFinds
  rw [begun, ob_some, if_neg (by decide)]
  by_cases c : 150 < os.length ∨ 150 < rows.length
  · rw [if_pos (or_t (by omega))]
  · rw [if_neg (or_f (by omega))]
    obtain ⟨r, hr, h1, h2⟩ := boards_eq os (by omega)
    rw [hr, ob_some]
    exact finds_loop os rows (by omega) (by omega) r h1 h2 rows.length 0 [] (by omega) kgood_nil (Nat.le_refl _)
end G
end Go.Proofs.Ytdjlninhfndjfaa
