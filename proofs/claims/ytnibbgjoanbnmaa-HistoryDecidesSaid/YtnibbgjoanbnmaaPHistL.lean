/- Histories: the document's search for an order. -/
import Derived.Test.YtnibbgjoanbnmaaPHistK
namespace Go.Proofs.Ytnibbgjoanbnmaa
open Go Go.Dm
set_option linter.unusedVariables false
set_option linter.unusedSimpArgs false
set_option linter.unusedSectionVars false
namespace G
/-- an answer that is had is kept -/
def OLe {β : Type} (a b : Option β) : Prop := ∀ r, a = some r → b = some r
theorem OLe.refl {β : Type} (a : Option β) : OLe a a := fun r h => h
theorem OLe.ob {α β : Type} {a a' : Option α} {f f' : α → Option β} (h : OLe a a') (hf : ∀ x, OLe (f x) (f' x)) : OLe (Dm.ob a f) (Dm.ob a' f') := fun r hr => by
  obtain ⟨x, h1, h2⟩ := ob_elim hr
  rw [h x h1, ob_some]; exact hf x r h2
theorem OLe.asrt {β : Type} {p : Prop} {a a' : Option β} (h : OLe a a') : OLe (Dm.asrt p a) (Dm.asrt p a') := fun r hr => by
  obtain ⟨h1, h2⟩ := asrt_elim hr
  rw [asrt_pos h1]; exact h r h2
theorem OLe.ite {β : Type} {c : Prop} [Decidable c] {a a' b b' : Option β} (h1 : OLe a a') (h2 : OLe b b') : OLe (if c then a else b) (if c then a' else b') := by
  split
  · exact h1
  · exact h2
theorem OLe.inr {σ ρ : Type} {a a' : Option ρ} (h : OLe a a') : OLe (inrO a : Option (σ ⊕ ρ)) (inrO a') := fun r hr => by
  cases a with
  | none => cases hr
  | some x => rw [h x rfl]; exact hr
theorem OLe.loop {σ ρ : Type} {f f' : σ → Option (σ ⊕ ρ)} (h : ∀ s, OLe (f s) (f' s)) (s : σ) : OLe (loopO f s) (loopO f' s) := fun r hr => by
  have h1 := loopO_iff.1 hr
  refine loopO_iff.2 ?_
  clear hr
  induction h1 with
  | done h2 => exact .done (h _ _ h2)
  | next h2 _ ih => exact .next (h _ _ h2) ih
theorem has_eq {xs : List Int} (hx : xs.length ≤ 1000) (z : Int) : R_Has xs z = some (decide (z ∈ xs)) := by
  unfold R_Has R_Has_L1
  have hst : ∀ k : Nat, k < xs.length → R_Has_B1 xs z (k : Int) = if lget xs (k : Int) = z then some (.inr true) else some (.inl ((k + 1 : Nat) : Int)) := fun k hk => by
    have hw : w64 ((k : Int) + 1) = ((k + 1 : Nat) : Int) := by rw [w64_id (by omega) (by omega)]; omega
    unfold R_Has_B1
    rw [if_pos (d_t (by omega)), asrt_pos (by omega), hw]
    by_cases q : lget xs (k : Int) = z
    · rw [if_pos (d_t q), if_pos q]
    · rw [if_neg (d_f q), if_neg q]
  have he : R_Has_B1 xs z (xs.length : Int) = some (.inr false) := by
    unfold R_Has_B1
    rw [if_neg (d_f (by omega))]; rfl
  rcases loop_any (step := fun y => R_Has_B1 xs z y) xs.length (fun k => (k : Int)) (fun k => lget xs (k : Int) = z) (rb := true) (r := false) (fun k hk hn => by rw [hst k hk, if_neg hn]) (fun k hk hn => by rw [hst k hk, if_pos hn]) he with ⟨⟨j, a, b⟩, h5⟩ | ⟨a, h5⟩
  · have hm : z ∈ xs := mem_lget.2 ⟨j, a, b⟩
    rw [decide_eq_true hm]; exact h5
  · have hm : ¬ z ∈ xs := fun h => by
      obtain ⟨k, hk, e⟩ := mem_lget.1 h
      exact a k hk e
    rw [decide_eq_false hm]; exact h5
def Q (l : List Span) (done : List Int) (now : Int) : Prop := ∃ rest : List Int, (done ++ rest).Nodup ∧ (∀ z ∈ done ++ rest, z ∈ cl l l.length) ∧ (done ++ rest).length = (cl l l.length).length ∧ rest.Pairwise (fun x y => ¬ ahd l y x) ∧ RV l now rest
noncomputable instance (l : List Span) (done : List Int) (now : Int) : Decidable (Q l done now) := Classical.propDecidable _
def nxt (l : List Span) (now z : Int) : Int := if (lget l z).Kind = 1 then (lget l z).Value else now
def CC (l : List Span) (done : List Int) (now z : Int) : Prop := z ∉ done ∧ ¬ ((lget l z).Kind = 2 ∧ (lget l z).Value ≠ now) ∧ ∀ y ∈ cl l l.length, y ∉ done → ¬ ahd l y z
theorem sub_len : ∀ {a b : List Int}, a.Nodup → (∀ z ∈ a, z ∈ b) → a.length ≤ b.length
  | [], b, _, _ => Nat.zero_le _
  | x :: a, b, hn, hs => by
    have hx := hs x (by simp)
    obtain ⟨h1, h2⟩ := List.nodup_cons.1 hn
    have := sub_len (b := b.erase x) h2 (fun z hz => (List.mem_erase_of_ne (by rintro rfl; exact h1 hz)).2 (hs z (by simp [hz])))
    rw [List.length_erase_of_mem hx] at this
    have := List.length_pos_of_mem hx
    rw [List.length_cons]; omega
theorem full_perm {a b : List Int} (hn : a.Nodup) (hs : ∀ z ∈ a, z ∈ b) (hl : a.length = b.length) (hb : b.Nodup) : ∀ z ∈ b, z ∈ a := fun z hz => by
  apply Classical.byContradiction
  intro hza
  have := sub_len (a := z :: a) (b := b) (List.nodup_cons.2 ⟨hza, hn⟩) (fun y hy => by
    rcases List.mem_cons.1 hy with rfl | hy
    · exact hz
    · exact hs y hy)
  rw [List.length_cons] at this
  omega
theorem kind_z {l : List Span} (hg : Good l) {z : Int} (hz : 0 ≤ z ∧ z < (l.length : Int)) : (lget l z).Kind = 1 ∨ (lget l z).Kind = 2 := by
  have := hg.kind z.toNat (by omega)
  rwa [show ((z.toNat : Nat) : Int) = z by omega] at this
theorem Q_step {l : List Span} (hg : Good l) {done : List Int} {now : Int} (hn : done.Nodup) (hs : ∀ z ∈ done, z ∈ cl l l.length) (hl : done.length ≠ (cl l l.length).length) :
    Q l done now ↔ ∃ z ∈ cl l l.length, CC l done now z ∧ Q l (done ++ [z]) (nxt l now z) := by
  constructor
  · rintro ⟨rest, h1, h2, h3, h4, h5⟩
    match rest, h1, h2, h3, h4, h5 with
    | [], h1, h2, h3, h4, h5 => rw [List.append_nil] at h3; exact absurd h3 hl
    | z :: rest, h1, h2, h3, h4, h5 =>
      have hz := h2 z (by simp)
      have hall := full_perm h1 h2 h3 (cl_nodup l)
      have hzd : z ∉ done := fun h => (List.nodup_append.1 h1).2.2 z h z (by simp) rfl
      refine ⟨z, hz, ⟨hzd, ?_, fun y hy hyd h => ?_⟩, rest, by simpa using h1, by simpa using h2, by simpa using h3, (List.pairwise_cons.1 h4).2, ?_⟩
      · rintro ⟨k1, k2⟩
        rcases h5 with ⟨k3, _⟩ | ⟨_, k3, _⟩
        · omega
        · exact k2 k3
      · have hy2 := hall y hy
        rcases List.mem_append.1 hy2 with q | q
        · exact hyd q
        · rcases List.mem_cons.1 q with rfl | q
          · have := hg.rng y.toNat (by have := cl_in hy; omega)
            have hin := cl_in hy
            unfold rngBad at this
            rw [show ((y.toNat : Nat) : Int) = y by omega] at this
            unfold ahd at h
            omega
          · exact (List.pairwise_cons.1 h4).1 y q h
      · unfold nxt
        rcases h5 with ⟨k1, k2⟩ | ⟨k1, k2, k3⟩
        · rw [if_pos k1]; exact k2
        · rw [if_neg k1]; exact k3
  · rintro ⟨z, hz, ⟨h1, h2, h3⟩, rest, g1, g2, g3, g4, g5⟩
    have e : done ++ [z] ++ rest = done ++ z :: rest := by simp
    rw [e] at g1 g2 g3
    refine ⟨z :: rest, g1, g2, g3, List.pairwise_cons.2 ⟨fun y hy => h3 y (g2 y (by simp [hy])) fun hd => (List.nodup_append.1 g1).2.2 y hd y (by simp [hy]) rfl, g4⟩, ?_⟩
    unfold nxt at g5
    by_cases k1 : (lget l z).Kind = 1
    · rw [if_pos k1] at g5; exact .inl ⟨k1, g5⟩
    · rw [if_neg k1] at g5
      have k2 : (lget l z).Kind = 2 := (kind_z hg (cl_in hz)).resolve_left k1
      exact .inr ⟨k1, Classical.byContradiction fun q => h2 ⟨k2, q⟩, g5⟩
abbrev T3 := List Span × List Int × Int
theorem any_mono {f f' : T3 → Option Bool} (h : ∀ y, OLe (f y) (f' y)) (l : List Span) (done : List Int) (now : Int) : OLe (R_AnyOrder_S f l done now) (R_AnyOrder_S f' l done now) := by
  unfold R_AnyOrder_S
  refine .ob (.refl _) fun x => .ite (.refl _) ?_
  unfold R_AnyOrder_L1
  refine .loop (fun s => ?_) _
  unfold R_AnyOrder_B1
  refine .ite (.asrt (.asrt (.asrt (.asrt (.asrt (.ob (.refl _) fun x1 => .ite (.refl _) ?_)))))) (.refl _)
  unfold R_AnyOrder_L2
  refine .loop (fun s => ?_) _
  unfold R_AnyOrder_B2
  refine .ite (.refl _) (.inr ?_)
  unfold R_AnyOrder_J3
  exact .ite (.refl _) (.ob (.refl _) fun v4 => .asrt (.asrt (.asrt (.asrt (.ob (h _) fun x2 => .refl _)))))
theorem any_step {l : List Span} (hg : Good l) {done : List Int} {now : Int} (hn : done.Nodup) (hs : ∀ z ∈ done, z ∈ cl l l.length) {f : T3 → Option Bool}
    (hf : ∀ z ∈ cl l l.length, z ∉ done → f (l, done ++ [z], nxt l now z) = some (decide (Q l (done ++ [z]) (nxt l now z)))) (hl0 : done.length ≤ (cl l l.length).length) : R_AnyOrder_S f l done now = some (decide (Q l done now)) := by
  have hl := hg.len
  have hcl := cl_len l l.length
  unfold R_AnyOrder_S
  rw [counting_eq (by omega), ob_some]
  by_cases c : done.length = (cl l l.length).length
  · rw [if_pos (d_t (by omega))]
    have : Q l done now := ⟨[], by simpa using hn, by simpa using hs, by simpa using c, .nil, trivial⟩
    rw [decide_eq_true this]
  rw [if_neg (d_f (by omega))]
  unfold R_AnyOrder_L1
  generalize hx : cl l l.length = x at *
  have hxe := hx
  have hin : ∀ k : Nat, k < x.length → 0 ≤ lget x (k : Int) ∧ lget x (k : Int) < (l.length : Int) := fun k hk => by subst hx; exact in_cl hk
  have hst : ∀ i : Nat, i < x.length → R_AnyOrder_B1 l done now f x (i : Int) = @ite _ (CC l done now (lget x (i : Int)) ∧ Q l (done ++ [lget x (i : Int)]) (nxt l now (lget x (i : Int)))) (Classical.propDecidable _) (some (.inr true)) (some (.inl ((i + 1 : Nat) : Int))) := fun i hi => by
    have hw : w64 ((i : Int) + 1) = ((i + 1 : Nat) : Int) := by rw [w64_id (by omega) (by omega)]; omega
    have hz := hin i hi
    have hzm : lget x (i : Int) ∈ x := lget_mem x (i : Int) (by omega)
    generalize hzz : lget x (i : Int) = z at hz hzm
    unfold R_AnyOrder_B1
    rw [if_pos (d_t (by omega)), asrt_pos (by omega), asrt_pos (by omega), hzz, asrt_pos hz, asrt_pos (by omega), asrt_pos (by omega), has_eq (by omega), ob_some]
    have hJ2 : R_AnyOrder_J2 (i : Int) () = some (.inl ((i + 1 : Nat) : Int)) := by unfold R_AnyOrder_J2; rw [hw]
    by_cases c1 : z ∈ done ∨ ((lget l z).Kind = 2 ∧ (lget l z).Value ≠ now)
    · rw [if_pos (by simpa using c1), hJ2, if_neg]
      rintro ⟨⟨h1, h2, _⟩, _⟩
      rcases c1 with c1 | c1
      · exact h1 c1
      · exact h2 c1
    · rw [if_neg (by simpa using c1)]
      unfold R_AnyOrder_L2
      have hd : ∀ k : Nat, Decidable (∃ j : Nat, j < k ∧ lget x (j : Int) ∉ done ∧ ahd l (lget x (j : Int)) z) := fun _ => Classical.propDecidable _
      have hst2 : ∀ k : Nat, k < x.length → R_AnyOrder_B2 l done now f x (i : Int) (@decide _ (hd k), (k : Int)) = some (.inl (@decide _ (hd (k + 1)), ((k + 1 : Nat) : Int))) := fun k hk => by
        have hw2 : w64 ((k : Int) + 1) = ((k + 1 : Nat) : Int) := by rw [w64_id (by omega) (by omega)]; omega
        unfold R_AnyOrder_B2
        dsimp only
        rw [if_pos (d_t (by omega)), asrt_pos (fun _ => by omega), asrt_pos (fun _ => by omega)]
        have fin : ∀ x3 : Bool, ((@decide _ (hd k)) = false → x3 = decide (lget x (k : Int) ∈ done)) → (Dm.asrt ((!x3) = true → (!(@decide _ (hd k))) = true → 0 ≤ (k : Int) ∧ (k : Int) < (x.length : Int)) <| Dm.asrt ((!x3) = true → (!(@decide _ (hd k))) = true → 0 ≤ (k : Int) ∧ (k : Int) < (x.length : Int)) <| Dm.asrt ((!x3) = true → (!(@decide _ (hd k))) = true → 0 ≤ (lget x (k : Int)) ∧ (lget x (k : Int)) < (l.length : Int)) <|
            lt (R_SpanAhead (⟨(lget l (lget x (k : Int))).Kind, (lget l (lget x (k : Int))).Value, (lget l (lget x (k : Int))).From, (lget l (lget x (k : Int))).To⟩ : Span) (⟨(lget l (lget x (i : Int))).Kind, (lget l (lget x (i : Int))).Value, (lget l (lget x (i : Int))).From, (lget l (lget x (i : Int))).To⟩ : Span)) fun x4 =>
            some (Sum.inl ((@decide _ (hd k)) || ((!x3) && x4), w64 ((k : Int) + 1)))) = (some (.inl (@decide _ (hd (k + 1)), ((k + 1 : Nat) : Int))) : Option ((Bool × Int) ⊕ (Int ⊕ Bool))) := fun x3 h3 => by
          rw [asrt_pos (fun _ _ => by omega), asrt_pos (fun _ _ => by omega), asrt_pos (fun _ _ => hin k hk), hw2, hzz]
          have e : ((@decide _ (hd k)) || ((!x3) && (R_SpanAhead (⟨(lget l (lget x (k : Int))).Kind, (lget l (lget x (k : Int))).Value, (lget l (lget x (k : Int))).From, (lget l (lget x (k : Int))).To⟩ : Span) (⟨(lget l z).Kind, (lget l z).Value, (lget l z).From, (lget l z).To⟩ : Span)))) = @decide _ (hd (k + 1)) := by
            refine Bool.eq_iff_iff.2 ?_
            rw [Bool.or_eq_true, @decide_eq_true_iff _ (hd k), @decide_eq_true_iff _ (hd (k + 1))]
            by_cases hb : ∃ j : Nat, j < k ∧ lget x (j : Int) ∉ done ∧ ahd l (lget x (j : Int)) z
            · obtain ⟨j, j1, j2⟩ := hb
              exact ⟨fun _ => ⟨j, by omega, j2⟩, fun _ => .inl ⟨j, j1, j2⟩⟩
            · have h4 := h3 (@decide_eq_false _ (hd k) hb)
              rw [h4]
              unfold R_SpanAhead
              simp only [Bool.and_eq_true, Bool.not_eq_true', decide_eq_false_iff_not, decide_eq_true_eq]
              constructor
              · rintro (h | ⟨a, b⟩)
                · exact absurd h hb
                · exact ⟨k, by omega, a, b⟩
              · rintro ⟨j, j1, j2, j3⟩
                by_cases q : j = k
                · subst q; exact .inr ⟨j2, j3⟩
                · exact absurd ⟨j, by omega, j2, j3⟩ hb
          show some (Sum.inl (_, _)) = _
          rw [e]
        by_cases hb : ∃ j : Nat, j < k ∧ lget x (j : Int) ∉ done ∧ ahd l (lget x (j : Int)) z
        · rw [if_neg (by rw [@decide_eq_true _ (hd k) hb]; simp), ob_some]
          exact fin _ fun h => by rw [@decide_eq_true _ (hd k) hb] at h; cases h
        · rw [if_pos (by rw [@decide_eq_false _ (hd k) hb]; rfl), has_eq (by omega), ob_some]
          exact fin _ fun _ => rfl
      have h0 : (false : Bool) = @decide _ (hd 0) := (@decide_eq_false _ (hd 0) (by rintro ⟨j, h, _⟩; omega)).symm
      rw [h0]
      refine Eq.trans (loop_run (step := fun y => R_AnyOrder_B2 l done now f x (i : Int) y) x.length (fun k => (@decide _ (hd k), (k : Int))) hst2 (r := @ite _ (CC l done now z ∧ Q l (done ++ [z]) (nxt l now z)) (Classical.propDecidable _) (.inr true) (.inl ((i + 1 : Nat) : Int))) ?_) ?_
      · show R_AnyOrder_B2 l done now f x (i : Int) (@decide _ (hd x.length), (x.length : Int)) = _
        unfold R_AnyOrder_B2
        dsimp only
        rw [if_neg (d_f (by omega))]
        unfold R_AnyOrder_J3
        by_cases hb : ∃ j : Nat, j < x.length ∧ lget x (j : Int) ∉ done ∧ ahd l (lget x (j : Int)) z
        · rw [if_pos (@decide_eq_true _ (hd x.length) hb), hJ2, if_neg]
          · rfl
          · rintro ⟨⟨_, _, h3⟩, _⟩
            obtain ⟨j, j1, j2, j3⟩ := hb
            exact h3 _ (by rw [hxe]; exact lget_mem x (j : Int) (by omega)) j2 j3
        · rw [if_neg (by rw [@decide_eq_false _ (hd x.length) hb]; simp), hzz]
          have hcc : CC l done now z := by
            refine ⟨fun h => c1 (.inl h), fun h => c1 (.inr h), fun y hy hyd h => ?_⟩
            rw [hxe] at hy
            obtain ⟨j, j1, rfl⟩ := mem_lget.1 hy
            exact hb ⟨j, j1, hyd, h⟩
          have e4 : (if (decide (((lget l z).Kind) = 1)) = true then some ((lget l z).Value) else some now) = some (nxt l now z) := by
            unfold nxt
            by_cases k1 : (lget l z).Kind = 1
            · rw [if_pos (d_t k1), if_pos k1]
            · rw [if_neg (d_f k1), if_neg k1]
          rw [e4, ob_some, asrt_pos (by omega), asrt_pos (by omega), asrt_pos (by omega), asrt_pos (by rw [List.length_append, List.length_singleton]; omega), hf z hzm (fun h => c1 (.inl h)), ob_some]
          by_cases q : Q l (done ++ [z]) (nxt l now z)
          · rw [if_pos (d_t q), if_pos ⟨hcc, q⟩]; rfl
          · rw [if_neg (d_f q), if_neg (fun h => q h.2), hJ2]; rfl
      · by_cases q : CC l done now z ∧ Q l (done ++ [z]) (nxt l now z)
        · rw [if_pos q, if_pos q]
        · rw [if_neg q, if_neg q]
  have he : R_AnyOrder_B1 l done now f x (x.length : Int) = some (.inr false) := by
    unfold R_AnyOrder_B1
    rw [if_neg (d_f (by omega))]; rfl
  have hq := Q_step hg (now := now) hn (by rw [hxe]; exact hs) (by rw [hxe]; exact c)
  rw [hxe] at hq
  rcases loop_any (step := fun y => R_AnyOrder_B1 l done now f x y) x.length (fun k => (k : Int)) (fun i => CC l done now (lget x (i : Int)) ∧ Q l (done ++ [lget x (i : Int)]) (nxt l now (lget x (i : Int)))) (rb := true) (r := false)
    (fun k hk hnn => by rw [hst k hk, if_neg hnn]) (fun k hk hnn => by rw [hst k hk, if_pos hnn]) he with ⟨⟨j, a, b⟩, h5⟩ | ⟨a, h5⟩
  · have : Q l done now := hq.2 ⟨_, lget_mem x (j : Int) (by omega), b⟩
    rw [decide_eq_true this]; exact h5
  · have : ¬ Q l done now := fun h => by
      obtain ⟨z, hz, hcz⟩ := hq.1 h
      obtain ⟨k, hk, rfl⟩ := mem_lget.1 hz
      exact a k hk hcz
    rw [decide_eq_false this]; exact h5
theorem any_eq {l : List Span} (hg : Good l) : R_AnyOrder l [] 0 = some (decide (Q l [] 0)) := by
  unfold R_AnyOrder
  let I : T3 → Prop := fun x => x.1 = l ∧ x.2.1.Nodup ∧ ∀ z ∈ x.2.1, z ∈ cl l l.length
  let m : T3 → Nat := fun x => (cl l l.length).length - x.2.1.length
  have total : ∀ (x : T3) (f : T3 → Option Bool), I x → (∀ y, I y → m y < m x → f y = some (decide (Q l y.2.1 y.2.2))) → R_AnyOrder_S f x.1 x.2.1 x.2.2 = some (decide (Q l x.2.1 x.2.2)) := by
    rintro ⟨l', done, now⟩ f ⟨h1, h2, h3⟩ ih
    have h1 : l' = l := h1
    subst h1
    have hsub : done.length ≤ (cl l' l'.length).length := sub_len h2 h3
    refine any_step hg h2 h3 (fun z hz hzd => ?_) hsub
    have hnd : (done ++ [z]).Nodup := nodup_snoc.2 ⟨h2, hzd⟩
    have hs2 : ∀ y ∈ done ++ [z], y ∈ cl l' l'.length := fun y hy => by
      rcases List.mem_append.1 hy with h | h
      · exact h3 y h
      · rw [List.mem_singleton.1 h]; exact hz
    have hsub2 := sub_len hnd hs2
    rw [List.length_append, List.length_singleton] at hsub2
    refine ih (l', done ++ [z], nxt l' now z) ⟨rfl, hnd, hs2⟩ ?_
    show (cl l' l'.length).length - (done ++ [z]).length < (cl l' l'.length).length - done.length
    rw [List.length_append, List.length_singleton]; omega
  refine recO_spec I m (fun x => decide (Q l x.2.1 x.2.2)) (fun x f hI ih r hr => ?_) total (x := (l, [], 0)) ⟨rfl, .nil, fun z hz => by simp at hz⟩
  classical
  have h1 := any_mono (f := f) (f' := fun y => if I y ∧ m y < m x then some (decide (Q l y.2.1 y.2.2)) else f y) (fun y r' hr' => by
    split
    · rename_i hy
      rw [ih y r' hy.1 hy.2 hr']
    · exact hr') x.1 x.2.1 x.2.2 r hr
  rw [total x _ hI (fun y hy hm => if_pos ⟨hy, hm⟩)] at h1
  exact (some_elim h1).symm
theorem Q_ord {l : List Span} : Q l [] 0 ↔ ∃ o, IsOrd l o := by
  constructor
  · rintro ⟨o, h1, h2, h3, h4, h5⟩
    rw [List.nil_append] at h1 h2 h3
    exact ⟨o, (List.perm_ext_iff_of_nodup h1 (cl_nodup l)).2 fun z => ⟨h2 z, full_perm h1 h2 h3 (cl_nodup l) z⟩, h4, h5⟩
  · rintro ⟨o, h1, h2, h3⟩
    exact ⟨o, by rw [List.nil_append]; exact h1.nodup_iff.2 (cl_nodup l), fun z hz => h1.mem_iff.1 (by simpa using hz), by rw [List.nil_append]; exact h1.length_eq, h2, h3⟩
end G
end Go.Proofs.Ytnibbgjoanbnmaa
