/- The order of cells: there is one, and one alone; places changed with one another. -/
import Derived.Test.YtollmifjbcccgaaPSortA
namespace Go.Proofs.Ytollmifjbcccgaa
open Go Go.Dm
set_option linter.unusedVariables false
set_option linter.unusedSectionVars false
set_option linter.unusedSimpArgs false
namespace G
theorem key_of_le {a b : Cell} (h : le a b) (g : le b a) : key a b := by
  rcases le_or h with q | q
  · exact absurd q g
  · exact q
theorem srt_uniq : ∀ {x y : List Cell}, Srt x → Srt y → Stab x y → x = y
  | [], [], _, _, _ => rfl
  | [], b :: y, _, _, h => by have := h.mem (List.mem_cons_self (a := b) (l := y)); cases this
  | a :: x, [], _, _, h => by have := h.symm.mem (List.mem_cons_self (a := a) (l := x)); cases this
  | a :: x, b :: y, hx, hy, h => by
    obtain ⟨p1, p2⟩ := List.pairwise_cons.1 hx
    obtain ⟨q1, q2⟩ := List.pairwise_cons.1 hy
    have h1 : le a b := by
      rcases List.mem_cons.1 (h.mem (List.mem_cons_self (a := b) (l := y))) with e | e
      · rw [e]; exact le_refl _
      · exact p1 b e
    have h2 : le b a := by
      rcases List.mem_cons.1 (h.symm.mem (List.mem_cons_self (a := a) (l := x))) with e | e
      · rw [e]; exact le_refl _
      · exact q1 a e
    have hk := key_of_le h1 h2
    have ha := h a
    rw [fk_cons, fk_cons, if_pos hk, if_pos (key_refl a)] at ha
    have hab : b = a := (List.cons.inj ha).1
    subst hab
    rw [srt_uniq p2 q2 fun k => ?_]
    have := h k
    rw [fk_cons, fk_cons] at this
    by_cases c : key k b
    · rw [if_pos c, if_pos c] at this; exact (List.cons.inj this).2
    · rw [if_neg c, if_neg c] at this; exact this
/-- one put into what is in order, ahead of those that are like it -/
theorem put_left (x : Cell) {t : List Cell} (ht : Srt t) : ∃ u v, t = u ++ v ∧ (∀ y ∈ u, ah y x) ∧ (∀ y ∈ v, le x y) := by
  induction t with
  | nil => exact ⟨[], [], rfl, by simp, by simp⟩
  | cons a t ih =>
    obtain ⟨p1, p2⟩ := List.pairwise_cons.1 ht
    by_cases c : R_Ahead a x = true
    · obtain ⟨u, v, rfl, h1, h2⟩ := ih p2
      exact ⟨a :: u, v, rfl, fun y hy => by
        rcases List.mem_cons.1 hy with e | e
        · rw [e]; exact (ahead_iff _ _).1 c
        · exact h1 y e, h2⟩
    · have c' : le x a := fun q => c ((ahead_iff _ _).2 q)
      exact ⟨[], a :: t, rfl, by simp, fun y hy => by
        rcases List.mem_cons.1 hy with e | e
        · rw [e]; exact c'
        · exact le_trans c' (p1 y e)⟩
theorem put_srt {u v : List Cell} {x : Cell} (h : Srt (u ++ v)) (h1 : ∀ y ∈ u, le y x) (h2 : ∀ y ∈ v, le x y) : Srt (u ++ x :: v) := by
  obtain ⟨p1, p2, p3⟩ := List.pairwise_append.1 h
  refine List.pairwise_append.2 ⟨p1, List.pairwise_cons.2 ⟨h2, p2⟩, fun y hy z hz => ?_⟩
  rcases List.mem_cons.1 hz with e | e
  · rw [e]; exact h1 y hy
  · exact p3 y hy z e
theorem srt_ex : ∀ l : List Cell, ∃ x, Srt x ∧ Stab l x
  | [] => ⟨[], .nil, Stab.refl _⟩
  | a :: l => by
    obtain ⟨t, h1, h2⟩ := srt_ex l
    obtain ⟨u, v, rfl, h3, h4⟩ := put_left a h1
    refine ⟨u ++ a :: v, put_srt h1 (fun y hy => le_of_ah (h3 y hy)) h4, ?_⟩
    have e1 : Stab (a :: l) (a :: (u ++ v)) := Stab.app (Stab.refl [a]) h2
    have e2 : Stab ([a] ++ u) (u ++ [a]) := Stab.swap fun x hx y hy q => by
      rw [List.mem_singleton.1 hx] at q
      exact ah_key (h3 y hy) (key_symm q)
    have e3 : Stab (([a] ++ u) ++ v) ((u ++ [a]) ++ v) := Stab.app e2 (Stab.refl v)
    rw [List.append_assoc, List.append_assoc] at e3
    exact e1.trans e3
/-- in order -/
noncomputable def srtd (l : List Cell) : List Cell := Classical.choose (srt_ex l)
theorem srtd_srt (l : List Cell) : Srt (srtd l) := (Classical.choose_spec (srt_ex l)).1
theorem srtd_stab (l : List Cell) : Stab l (srtd l) := (Classical.choose_spec (srt_ex l)).2
theorem srtd_is {l x : List Cell} (h : Srt x) (g : Stab l x) : x = srtd l := srt_uniq h (srtd_srt l) (g.symm.trans (srtd_stab l))
theorem srtd_self {l : List Cell} (h : Srt l) : srtd l = l := (srtd_is h (Stab.refl l)).symm
theorem srtd_congr {l m : List Cell} (h : Stab l m) : srtd m = srtd l := srtd_is (srtd_srt m) (h.trans (srtd_stab m))
theorem stab_len : ∀ {l x : List Cell}, Stab l x → x.length = l.length := by
  have key : ∀ (n : Nat) (l x : List Cell), l.length = n → Stab l x → x.length = l.length := by
    intro n
    induction n with
    | zero =>
      intro l x e h
      cases x with
      | nil => rw [e]; rfl
      | cons a x => have := h.mem (List.mem_cons_self (a := a) (l := x)); rw [List.eq_nil_of_length_eq_zero e] at this; cases this
    | succ n ih =>
      intro l x e h
      cases l with
      | nil => cases e
      | cons a l =>
        have ha : a ∈ x := h.symm.mem (List.mem_cons_self ..)
        have hf := h a
        rw [fk_cons, if_pos (key_refl a)] at hf
        obtain ⟨u, v, rfl⟩ := List.append_of_mem (show a ∈ x from ha)
        -- the first of its kind
        obtain ⟨u, b, v, e2, hk, hu⟩ : ∃ u' b v', u ++ a :: v = u' ++ b :: v' ∧ key a b ∧ ∀ y ∈ u', ¬ key a y := by
          clear h hf ha
          generalize hw : u ++ a :: v = w
          have hm : a ∈ w := by rw [← hw]; simp
          clear hw u v
          induction w with
          | nil => cases hm
          | cons c w ih2 =>
            by_cases hc : key a c
            · exact ⟨[], c, w, rfl, hc, by simp⟩
            · rcases List.mem_cons.1 hm with e | e
              · rw [e] at hc; exact absurd (key_refl c) hc
              · obtain ⟨u', b, v', h1, h2, h3⟩ := ih2 e
                exact ⟨c :: u', b, v', by rw [h1]; rfl, h2, fun y hy => by
                  rcases List.mem_cons.1 hy with q | q
                  · rw [q]; exact hc
                  · exact h3 y q⟩
        rw [e2] at h hf ⊢
        rw [fk_app, fk_none hu, fk_cons, if_pos hk, List.nil_append] at hf
        have hb : b = a := (List.cons.inj hf).1
        subst hb
        have hs : Stab l (u ++ v) := fun k => by
          have := h k
          rw [fk_app, fk_cons, fk_cons] at this
          rw [fk_app]
          by_cases c : key k b
          · rw [if_pos c, if_pos c] at this
            rw [fk_none (fun y hy q => hu y hy (key_trans (key_symm c) q))] at this ⊢
            exact (List.cons.inj this).2
          · rw [if_neg c, if_neg c] at this; exact this
        have := ih l (u ++ v) (by simpa using e) hs
        simp only [List.length_append, List.length_cons] at this ⊢
        omega
  intro l x h
  exact key _ l x rfl h
theorem srtd_len (l : List Cell) : (srtd l).length = l.length := stab_len (srtd_stab l)
/- places changed with one another -/
theorem lget_mid (a : List Cell) (x : Cell) (b : List Cell) : lget (a ++ x :: b) (a.length : Int) = x := by simp [lget]
theorem lset_mid (a : List Cell) (x y : Cell) (b : List Cell) : lset (a ++ x :: b) (a.length : Int) y = a ++ y :: b := by simp [lset]
section
variable (A B C : List Cell) (x y : Cell)
theorem sw_i : lget (A ++ x :: (B ++ y :: C)) (A.length : Int) = x := lget_mid _ _ _
theorem sw_j {j : Int} (h : j = ((A.length + 1 + B.length : Nat) : Int)) : lget (A ++ x :: (B ++ y :: C)) j = y := by
  have e : A ++ x :: (B ++ y :: C) = (A ++ x :: B) ++ y :: C := by simp
  have e2 : j = ((A ++ x :: B).length : Int) := by rw [h, List.length_append, List.length_cons]; omega
  rw [e, e2, lget_mid]
theorem sw_ij {j : Int} (h : j = ((A.length + 1 + B.length : Nat) : Int)) : lset (lset (A ++ x :: (B ++ y :: C)) (A.length : Int) y) j x = A ++ y :: (B ++ x :: C) := by
  rw [lset_mid]
  have e : A ++ y :: (B ++ y :: C) = (A ++ y :: B) ++ y :: C := by simp
  have e2 : j = ((A ++ y :: B).length : Int) := by rw [h, List.length_append, List.length_cons]; omega
  rw [e, e2, lset_mid]; simp
theorem sw_ji {j : Int} (h : j = ((A.length + 1 + B.length : Nat) : Int)) : lset (lset (A ++ x :: (B ++ y :: C)) j x) (A.length : Int) y = A ++ y :: (B ++ x :: C) := by
  have e : A ++ x :: (B ++ y :: C) = (A ++ x :: B) ++ y :: C := by simp
  have e2 : j = ((A ++ x :: B).length : Int) := by rw [h, List.length_append, List.length_cons]; omega
  rw [e, e2, lset_mid]
  have e3 : A ++ x :: B ++ x :: C = A ++ x :: (B ++ x :: C) := by simp
  rw [e3, lset_mid]
end
/-- a number that is sought between two -/
theorem bs_any {ρ : Type} (step : Int × Int → Option ((Int × Int) ⊕ ρ)) (k : Int → Option ρ) (p : Nat → Prop) [DecidablePred p] (lo hi : Nat)
    (hp : ∀ s t : Nat, lo ≤ s → s < t → t < hi → p t → p s)
    (hs : ∀ i j : Nat, lo ≤ i → i < j → j ≤ hi → step ((i : Int), (j : Int)) = some (.inl (if p ((i + j) / 2) then ((((i + j) / 2 + 1 : Nat) : Int), (j : Int)) else ((i : Int), (((i + j) / 2 : Nat) : Int)))))
    (he : ∀ i : Nat, lo ≤ i → i ≤ hi → step ((i : Int), (i : Int)) = inrO (k (i : Int))) :
    ∀ (d i j : Nat), j - i = d → lo ≤ i → i ≤ j → j ≤ hi → (∀ t, lo ≤ t → t < i → p t) → (∀ t, j ≤ t → t < hi → ¬ p t) →
      ∃ n, lo ≤ n ∧ n ≤ hi ∧ (∀ t, lo ≤ t → t < n → p t) ∧ (∀ t, n ≤ t → t < hi → ¬ p t) ∧ loopO step ((i : Int), (j : Int)) = k (n : Int) := by
  intro d
  induction d using Nat.strongRecOn with
  | _ d ih =>
    intro i j e h1 h2 h3 h4 h5
    by_cases c : i < j
    · have hst := hs i j h1 c h3
      generalize hh : (i + j) / 2 = h at hst
      by_cases cp : p h
      · rw [if_pos cp] at hst
        obtain ⟨n, r⟩ := ih (j - (h + 1)) (by omega) (h + 1) j rfl (by omega) (by omega) h3 (fun t g1 g2 => by
          by_cases q : t = h
          · rw [q]; exact cp
          · exact hp t h g1 (by omega) (by omega) cp) h5
        exact ⟨n, r.1, r.2.1, r.2.2.1, r.2.2.2.1, (loopO_inl hst).trans r.2.2.2.2⟩
      · rw [if_neg cp] at hst
        obtain ⟨n, r⟩ := ih (h - i) (by omega) i h rfl h1 (by omega) (by omega) h4 (fun t g1 g2 q => by
          by_cases q2 : t = h
          · rw [q2] at q; exact cp q
          · exact cp (hp h t (by omega) (by omega) g2 q))
        exact ⟨n, r.1, r.2.1, r.2.2.1, r.2.2.2.1, (loopO_inl hst).trans r.2.2.2.2⟩
    · have : i = j := by omega
      subst this
      refine ⟨i, h1, h3, h4, h5, ?_⟩
      rw [loopO_eq, he i h1 h3]
      cases k (i : Int) <;> rfl
/-- the middle of two numbers -/
theorem mid_w (i j : Nat) (h : i + j ≤ 9000000000000000000) : w64 (Int.fdiv (IntKind.u64.wrap (w64 ((i : Int) + (j : Int)))) (2 ^ (min (1 : Int).toNat 64))) = (((i + j) / 2 : Nat) : Int) := by
  have e2 : (2 : Int) ^ (min (1 : Int).toNat 64) = ((2 : Nat) : Int) := by decide
  have e1 : IntKind.u64.wrap (w64 ((i : Int) + (j : Int))) = ((i + j : Nat) : Int) := by
    rw [w64_id (by omega) (by omega)]
    unfold IntKind.wrap
    simp only [IntKind.signed, IntKind.bits]
    simp
    omega
  rw [e1, e2, fdiv_nat', w64_id (by omega) (by omega)]
end G
end Go.Proofs.Ytollmifjbcccgaa
