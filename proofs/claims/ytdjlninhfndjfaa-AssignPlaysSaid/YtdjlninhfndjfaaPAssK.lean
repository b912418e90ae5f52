/- Assign: does, kind 7; Do = ordF. -/
import Derived.Test.YtdjlninhfndjfaaPAssJ
namespace Go.Proofs.Ytdjlninhfndjfaa
open Go Go.Dm
set_option linter.unusedVariables false
set_option linter.unusedSimpArgs false
namespace G
theorem aparts2_eq (t n : Int) (hs : List Host) (l : List Slot) (h : l.length ≤ 100000) : assign_Parts_v2 t n hs l = some (l.map Slot.Part) := by
  unfold assign_Parts_v2
  rw [asrt_pos (by omega), Int.toNat_natCast]
  dsimp only [lt]
  have e : (List.replicate l.length (⟨[], [], 0⟩ : Part), (0 : Int)) = (fun k : Nat => ((l.take k).map Slot.Part ++ List.replicate (l.length - k) (⟨[], [], 0⟩ : Part), (k : Int))) 0 := by simp
  rw [e]
  refine loop_run (step := fun y => assign_Parts_v2_B1 l y) l.length (fun k : Nat => ((l.take k).map Slot.Part ++ List.replicate (l.length - k) (⟨[], [], 0⟩ : Part), (k : Int))) (fun k hk => ?_) ?_
  · have hw : w64 ((k : Int) + 1) = ((k + 1 : Nat) : Int) := by rw [w64_id (by omega) (by omega)]; omega
    have hl : ((l.take k).map Slot.Part).length = k := by simp; omega
    have hs := lset_rep ((l.take k).map Slot.Part) (l.length - (k + 1)) (⟨[], [], 0⟩ : Part) (lget l (k : Int)).Part
    rw [hl, show l.length - (k + 1) + 1 = l.length - k by omega] at hs
    show assign_Parts_v2_B1 l (_, (k : Int)) = _
    unfold assign_Parts_v2_B1
    dsimp only
    rw [if_pos (d_t (by omega)), asrt_pos (by omega), asrt_pos (by omega), asrt_pos (by rw [List.length_append, hl, List.length_replicate]; omega), asrt_pos (by rw [List.length_append, hl, List.length_replicate]; omega)]
    dsimp only [lt]
    rw [hw]
    have hs' : lset ((l.take k).map Slot.Part ++ List.replicate (l.length - k) (⟨[], [], 0⟩ : Part)) (k : Int) (⟨(lget l (k : Int)).Part.From, (lget l (k : Int)).Part.To, (lget l (k : Int)).Part.ID⟩ : Part) = _ := hs
    rw [hs', lget_take l k hk, List.map_append]
    rfl
  · show assign_Parts_v2_B1 l (_, (l.length : Int)) = _
    unfold assign_Parts_v2_B1
    dsimp only
    rw [if_neg (d_f (by omega)), List.take_length, Nat.sub_self]
    simp [inrO, assign_Parts_v2_J1]
/- what Split says of parts that are fine, with new numbers -/
theorem split_fault {l : List Part} (hg : PGood l) {k : Nat} (hk : k < l.length) (row : List UInt8) {a c : Int} (ha : ¬ noNum a) (hc : ¬ noNum c) (hac : a ≠ c) (h1 : a ∉ (rest1 l k 1).map Part.ID) (h2 : c ∉ (rest1 l k 1).map Part.ID) :
    splitF l (k : Int) row a c = if 40 < row.length then ⟨8, -2⟩ else if row = (lget l (k : Int)).From ∨ ¬ hasP (lget l (k : Int)) row then ⟨5, -2⟩ else if 200 ≤ l.length then ⟨2, -1⟩ else ⟨0, 0⟩ := by
  have hlen := hg.len
  have hn : ∀ x : Int, x ∉ (rest1 l k 1).map Part.ID → ¬ hasID (rest1 l k 1) x = true := by
    intro x hx hh
    apply hx
    unfold hasID at hh
    rw [List.any_eq_true] at hh
    obtain ⟨p, hp, e⟩ := hh
    exact List.mem_map.2 ⟨p, hp, of_decide_eq_true e⟩
  unfold splitF
  rw [if_neg (not_not_intro (partsF_good.2 hg)), if_neg (by omega)]
  by_cases c1 : 40 < row.length
  · rw [if_pos c1, if_pos c1]
  · rw [if_neg c1, if_neg c1]
    have hb : (Op.bytesLess (lget l (k : Int)).From row = true ∧ hasP (lget l (k : Int)) row) ↔ ¬ (row = (lget l (k : Int)).From ∨ ¬ hasP (lget l (k : Int)) row) := by
      constructor
      · rintro ⟨g1, g2⟩ (g | g)
        · rw [g, bl_irr] at g1; cases g1
        · exact g g2
      · intro g
        have g2 : hasP (lget l (k : Int)) row := Decidable.byContradiction fun h => g (.inr h)
        refine ⟨?_, g2⟩
        rcases bl_tri (lget l (k : Int)).From row with h | h | h
        · exact h
        · exact absurd (.inl h.symm) g
        · rw [g2.1] at h; cases h
    by_cases c2 : row = (lget l (k : Int)).From ∨ ¬ hasP (lget l (k : Int)) row
    · rw [if_pos (fun g => hb.1 g c2), if_pos c2]
    · rw [if_neg (not_not_intro (hb.2 c2)), if_neg c2, if_neg (by rintro (g | g); exact ha g; exact hc g), if_neg]
      · by_cases c3 : 200 ≤ l.length
        · rw [if_pos (by omega), if_pos c3]
        · rw [if_neg (by omega), if_neg c3]
      · rw [Int.toNat_natCast]
        rintro (g | g | g)
        · exact hac g
        · exact hn _ h1 g
        · exact hn _ h2 g
/- parts with the numbers 0, 1, 2 .. -/
def renum : Nat → List Part → List Part
  | _, [] => []
  | n, p :: r => ⟨p.From, p.To, (n : Int)⟩ :: renum (n + 1) r
theorem renum_len : ∀ (n : Nat) (l : List Part), (renum n l).length = l.length
  | _, [] => rfl
  | n, p :: r => by simp [renum, renum_len (n + 1) r]
theorem renum_app : ∀ (n : Nat) (a b : List Part), renum n (a ++ b) = renum n a ++ renum (n + a.length) b
  | n, [], b => by simp [renum]
  | n, p :: r, b => by
    rw [List.cons_append, renum, renum, renum_app (n + 1) r b, List.length_cons, List.cons_append, show n + 1 + r.length = n + (r.length + 1) by omega]
theorem renum_ids : ∀ (n : Nat) (l : List Part) (p : Part), p ∈ renum n l → (n : Int) ≤ p.ID ∧ p.ID < ((n + l.length : Nat) : Int)
  | n, [], p, h => by cases h
  | n, q :: r, p, h => by
    rw [renum] at h
    rcases List.mem_cons.1 h with e | h
    · subst e; simp; omega
    · have := renum_ids (n + 1) r p h
      rw [List.length_cons]; omega
theorem renum_nd : ∀ (n : Nat) (l : List Part), ((renum n l).map Part.ID).Nodup
  | _, [] => by simp [renum]
  | n, q :: r => by
    rw [renum, List.map_cons, List.nodup_cons]
    refine ⟨fun h => ?_, renum_nd (n + 1) r⟩
    obtain ⟨p, hp, e⟩ := List.mem_map.1 h
    have := renum_ids (n + 1) r p hp
    simp at e; omega
theorem renum_ch : ∀ (n : Nat) (l : List Part) (a : List UInt8), ch a l → ch a (renum n l)
  | _, [], _, h => h
  | n, q :: r, a, h => by
    refine ⟨h.1, ?_⟩
    rcases h.2 with g | g
    · refine .inl ⟨?_, g.2⟩
      rw [g.1]; rfl
    · refine .inr ⟨?_, g.2.1, renum_ch (n + 1) r _ g.2.2⟩
      intro e
      apply g.1
      have := congrArg List.length e
      rw [renum_len] at this
      exact List.eq_nil_of_length_eq_zero this
theorem renum_get : ∀ (n : Nat) (l : List Part) (k : Nat), k < l.length → lget (renum n l) (k : Int) = ⟨(lget l (k : Int)).From, (lget l (k : Int)).To, ((n + k : Nat) : Int)⟩
  | _, [], k, h => by simp at h
  | n, q :: r, 0, _ => rfl
  | n, q :: r, k + 1, h => by
    rw [renum, lget_cons, lget_cons, renum_get (n + 1) r k (by simpa using h), show n + 1 + k = n + (k + 1) by omega]
theorem renum_ok : ∀ (n : Nat) (l : List Part), n + l.length ≤ 1000000 → (∀ p ∈ l, okp p) → ∀ p ∈ renum n l, okp p
  | _, [], _, _, p, h => by cases h
  | n, q :: r, hl, ho, p, h => by
    rw [List.length_cons] at hl
    rw [renum] at h
    rcases List.mem_cons.1 h with e | h
    · subst e
      have := ho q (by simp)
      unfold okp at this ⊢
      exact ⟨this.1, this.2.1, by show 0 ≤ (n : Int); omega, by show (n : Int) ≤ 1000000000; omega⟩
    · exact renum_ok (n + 1) r (by omega) (fun p hp => ho p (by simp [hp])) p h
theorem renum_good {l : List Part} (hg : PGood l) : PGood (renum 0 l) :=
  ⟨by rw [renum_len]; exact hg.len, renum_ok 0 l (by have := hg.len; omega) hg.ok, renum_nd 0 l, renum_ch 0 l [] hg.ch⟩
theorem much_eq {b : Board} (h : BG b) {k : Nat} (hk : k < b.Slots.length) (hs : b.Slots.length ≤ 200) (o : Order) (t n : Int) : assign_much (k : Int) o t n b.Hosts b.Slots = some (if (splitF (renum 0 (partsOf b)) (k : Int) o.Row (b.Slots.length : Int) ((b.Slots.length : Int) + 1)).Code = 0 then ⟨9, 0⟩ else splitF (renum 0 (partsOf b)) (k : Int) o.Row (b.Slots.length : Int) ((b.Slots.length : Int) + 1), b.Hosts, b.Slots) := by
  have hp := parts_len b
  have e1 : assign_Parts ⟨b.Hosts, b.Slots, t, n⟩ = some (partsOf b) := aparts_eq ⟨b.Hosts, b.Slots, t, n⟩ (by show b.Slots.length ≤ 100000; omega)
  have hJ : assign_much_J1 (k : Int) o b.Hosts b.Slots (renum 0 (partsOf b)) = some (if (splitF (renum 0 (partsOf b)) (k : Int) o.Row (b.Slots.length : Int) ((b.Slots.length : Int) + 1)).Code = 0 then ⟨9, 0⟩ else splitF (renum 0 (partsOf b)) (k : Int) o.Row (b.Slots.length : Int) ((b.Slots.length : Int) + 1), b.Hosts, b.Slots) := by
    unfold assign_much_J1
    rw [renum_len, hp, w64_id (by omega) (by omega), split_eq, ob_some]
    dsimp only
    by_cases c : (splitF (renum 0 (partsOf b)) (k : Int) o.Row (b.Slots.length : Int) ((b.Slots.length : Int) + 1)).Code = 0
    · rw [if_neg (n_f c), if_pos c]; rfl
    · rw [if_pos (n_t c), if_neg c]
  unfold assign_much
  rw [e1, ob_some]
  generalize hl : partsOf b = l at *
  unfold assign_much_L1
  have e0 : (l, (0 : Int)) = (renum 0 (l.take 0) ++ l.drop 0, ((0 : Nat) : Int)) := by simp [renum]
  rw [e0]
  refine loop_run (step := fun y => assign_much_B1 (k : Int) o b.Hosts b.Slots l y) l.length (fun i => (renum 0 (l.take i) ++ l.drop i, (i : Int))) (fun i hi => ?_) ?_
  · have hw : w64 ((i : Int) + 1) = ((i + 1 : Nat) : Int) := by rw [w64_id (by omega) (by omega)]; omega
    have hA : (renum 0 (l.take i)).length = i := by rw [renum_len, List.length_take]; omega
    show assign_much_B1 (k : Int) o b.Hosts b.Slots l (_, (i : Int)) = _
    have hn : renum 0 (l.take (i + 1)) ++ l.drop (i + 1) = renum 0 (l.take i) ++ ⟨(lget l (i : Int)).From, (lget l (i : Int)).To, (i : Int)⟩ :: l.drop (i + 1) := by
      rw [lget_take l i hi, renum_app, List.append_assoc, List.length_take, show 0 + min i l.length = i by omega]; rfl
    rw [lget_drop l i hi, hn]
    have hB : (l.drop (i + 1)).length + i + 1 = l.length := by rw [List.length_drop]; omega
    generalize renum 0 (l.take i) = A at hA
    generalize lget l (i : Int) = s
    generalize l.drop (i + 1) = B at hB
    have hg : ∀ y : Part, lget (A ++ y :: B) (i : Int) = y := by
      intro y
      rw [lget_app_r _ _ _ (by omega), hA, Int.sub_self]; rfl
    have hs : ∀ y z : Part, lset (A ++ y :: B) (i : Int) z = A ++ z :: B := by
      intro y z
      have := lset_mid A y z B
      rwa [hA] at this
    have hlen : (A ++ s :: B).length = l.length := by
      rw [List.length_append, List.length_cons, hA]; omega
    unfold assign_much_B1
    dsimp only
    rw [if_pos (d_t (by omega)), asrt_pos (by omega), asrt_pos (by omega), hg, hw]
    dsimp only [lt]
    rw [hs]
  · show assign_much_B1 (k : Int) o b.Hosts b.Slots l (_, (l.length : Int)) = _
    unfold assign_much_B1
    dsimp only
    rw [List.take_length, List.drop_length, List.append_nil, if_neg (d_f (by omega))]
    rw [hJ]; rfl
theorem does7 {b : Board} (h : BG b) {o : Order} {k : Nat} (hk : k < b.Slots.length) (hs : b.Slots.length ≤ 200) (k7 : o.Kind = 7) : DoesAs b o k := by
  have hT := h.turn
  have hN := h.next
  have hp := parts_len b
  unfold numOk at hN
  have hw : w64 ((k : Int) + 1) = (k : Int) + 1 := w64_id (by omega) (by omega)
  have ht1 : (k : Int).toNat = k := Int.toNat_natCast k
  have ht2 : ((k : Int) + 1).toNat = k + 1 := by omega
  have hpk := part_at b k hk
  unfold DoesAs assign_does doesF
  dsimp only [lt, assign_fault]
  rw [asrt_pos (by omega), if_neg (d_f (by omega)), if_neg (show ¬ o.Kind = 3 by omega), if_neg (d_f (by omega)), if_neg (show ¬ o.Kind = 4 by omega), if_neg (d_f (by omega)), if_neg (show ¬ o.Kind = 5 by omega), if_neg (d_f (by omega)), if_neg (show ¬ o.Kind = 6 by omega), if_pos (d_t k7), if_pos k7, asrt_pos (by omega)]
  by_cases cs : (lget b.Slots (k : Int)).State = 0
  · rw [if_neg (n_f cs), if_neg (not_not_intro cs)]
    by_cases cn : 999999998 < b.Next
    · rw [if_pos (d_t cn), much_eq h hk hs, ob_some]
      have hg := renum_good h.parts
      have hsf := split_fault hg (k := k) (by rw [renum_len, hp]; exact hk) o.Row (a := (b.Slots.length : Int)) (c := (b.Slots.length : Int) + 1) (by unfold noNum; omega) (by unfold noNum; omega) (by omega) ?_ ?_
      · have hsf2 : splitF (renum 0 (partsOf b)) (k : Int) o.Row (b.Slots.length : Int) ((b.Slots.length : Int) + 1) = if 40 < o.Row.length then ⟨8, -2⟩ else if o.Row = (lget b.Slots (k : Int)).Part.From ∨ ¬ hasP (lget b.Slots (k : Int)).Part o.Row then ⟨5, -2⟩ else if 200 ≤ b.Slots.length then ⟨2, -1⟩ else ⟨0, 0⟩ := by
          rw [hsf, renum_get 0 _ _ (by rw [hp]; exact hk), renum_len, hp, hpk]
          rfl
        rw [hsf2]
        by_cases c1 : 40 < o.Row.length
        · rw [if_pos c1, if_pos c1]
          exact ⟨_, rfl, rfl⟩
        · rw [if_neg c1, if_neg c1]
          by_cases c2 : o.Row = (lget b.Slots (k : Int)).Part.From ∨ ¬ hasP (lget b.Slots (k : Int)).Part o.Row
          · rw [if_pos c2, if_pos c2]
            exact ⟨_, rfl, rfl⟩
          · rw [if_neg c2, if_neg c2]
            by_cases c3 : 200 ≤ b.Slots.length
            · rw [if_pos c3, if_pos c3]
              exact ⟨_, rfl, rfl⟩
            · rw [if_neg c3, if_neg c3, if_pos (show 1000000000 < b.Next + 2 by omega)]
              exact ⟨_, rfl, rfl⟩
      all_goals
        intro hm
        obtain ⟨p, hp2, e⟩ := List.mem_map.1 hm
        have hp3 : p ∈ renum 0 (partsOf b) := by
          unfold rest1 at hp2
          rcases List.mem_append.1 hp2 with g | g
          · exact List.mem_of_mem_take g
          · exact List.mem_of_mem_drop g
        have := renum_ids 0 _ p hp3
        rw [hp] at this
        omega
    · rw [if_neg (d_f cn), aparts2_eq _ _ _ _ (by omega), ob_some, w64_id (x := b.Next + 1) (by omega) (by omega)]
      have e1 : b.Slots.map Slot.Part = partsOf b := rfl
      have hsf := split_fault h.parts (k := k) (by rw [hp]; exact hk) o.Row (a := b.Next) (c := b.Next + 1) (by unfold noNum; omega) (by unfold noNum; omega) (by omega) (next_new h k 1 (Int.le_refl _)) (next_new h k 1 (by omega))
      rw [e1, split2_eq, ob_some, hsf, hp, hpk]
      by_cases c1 : 40 < o.Row.length
      · rw [if_pos c1, if_pos c1]
        exact ⟨_, rfl, rfl⟩
      · rw [if_neg c1, if_neg c1]
        by_cases c2 : o.Row = (lget b.Slots (k : Int)).Part.From ∨ ¬ hasP (lget b.Slots (k : Int)).Part o.Row
        · rw [if_pos c2, if_pos c2]
          exact ⟨_, rfl, rfl⟩
        · rw [if_neg c2, if_neg c2]
          by_cases c3 : 200 ≤ b.Slots.length
          · rw [if_pos c3, if_pos c3]
            exact ⟨_, rfl, rfl⟩
          · have hL : splitL (partsOf b) k o.Row b.Next (b.Next + 1) = (partsOf b).take k ++ ⟨(lget b.Slots (k : Int)).Part.From, o.Row, b.Next⟩ :: ⟨o.Row, (lget b.Slots (k : Int)).Part.To, b.Next + 1⟩ :: (partsOf b).drop (k + 1) := by
              unfold splitL
              rw [hpk, List.append_assoc]; rfl
            have hA : ((partsOf b).take k).length = k := by rw [List.length_take, hp]; omega
            rw [if_neg c3, if_neg c3, if_neg (show ¬ 1000000000 < b.Next + 2 by omega), if_neg (n_f rfl), if_pos rfl, ht1, hL]
            generalize (partsOf b).take k = A at hA
            generalize (partsOf b).drop (k + 1) = B
            dsimp only
            rw [hw]
            have hlen : ∀ x y : Part, (A ++ x :: y :: B).length = k + 2 + B.length := by intro x y; simp; omega
            have g1 : ∀ x y : Part, lget (A ++ x :: y :: B) (k : Int) = x := by
              intro x y
              rw [lget_app_r _ _ _ (by omega), hA, Int.sub_self]; rfl
            have g2 : ∀ x y : Part, lget (A ++ x :: y :: B) ((k : Int) + 1) = y := by
              intro x y
              rw [lget_app_r _ _ _ (by omega), hA, show (k : Int) + 1 - (k : Int) = ((0 + 1 : Nat) : Int) by omega]; rfl
            rw [hlen, asrt_pos (by omega), asrt_pos (by omega), asrt_pos (by omega), asrt_pos (by omega), g1, g2]
            unfold slices_Replace_api_Slot_api_Slot
            rw [asrt_pos (by omega), asrt_pos (by simp; omega), asrt_pos (by simp; omega), ob_some, w64_id (x := b.Next + 2) (by omega) (by omega), ht1, ht2]
            unfold assign_does_J1
            rw [if_neg (or_f (by simp only; omega))]
            exact ⟨_, rfl, rfl⟩
  · rw [if_pos (n_t cs), if_pos cs]
    exact ⟨_, rfl, rfl⟩
end G
end Go.Proofs.Ytdjlninhfndjfaa
