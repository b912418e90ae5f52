/- Compacting changes nothing that is seen. -/
import Derived.Test.YtkbgkkbinnclmaaPMergeCompacts
import Derived.Test.YtkbgkkbinnclmaaPMergeJoins
namespace Go.Proofs.Ytkbgkkbinnclmaa
open Go Go.Dm
set_option linter.unusedVariables false
set_option linter.unusedSectionVars false
set_option linter.unusedSimpArgs false
namespace G
theorem pl_symm {a b : Cell} (h : pl a b) : pl b a := ⟨h.1.symm, h.2.symm⟩
theorem pl_trans {a b c : Cell} (h : pl a b) (h' : pl b c) : pl a c := ⟨h.1.trans h'.1, h.2.trans h'.2⟩
theorem key_pl {a b : Cell} (h : key a b) : pl a b := ⟨h.1, h.2.1⟩
theorem sorted_uniq {x y : List Cell} (hx : x.Pairwise ah) (hy : y.Pairwise ah) (h : ∀ c, c ∈ x ↔ c ∈ y) : x = y := by
  have h1 : Firsts x x := by
    have := firsts_ok x
    rw [firsts_self hx] at this; exact this
  exact firsts_uniq h1 ⟨hy, fun c => by rw [← h c, h1.2 c]⟩
theorem sorted_key {l : List Cell} (h : l.Pairwise ah) {a b : Cell} (ha : a ∈ l) (hb : b ∈ l) (hk : key a b) : a = b := by
  obtain ⟨i, hi, rfl⟩ := List.mem_iff_getElem.1 ha
  obtain ⟨j, hj, rfl⟩ := List.mem_iff_getElem.1 hb
  have hp := List.pairwise_iff_getElem.1 h
  by_cases c : i < j
  · exact absurd hk (ah_key (hp i j hi hj c))
  · by_cases c2 : j < i
    · exact absurd (key_symm hk) (ah_key (hp j i hj hi c2))
    · have : i = j := by omega
      subst this; rfl
theorem ah_time {a b : Cell} (h : ah a b) (hp : pl a b) : b.Time < a.Time := by
  unfold ah at h
  rw [hp.1, hp.2] at h
  simp only [bl_irr] at h
  simpa using h
theorem fnd_iff {l : List Cell} (h : l.Pairwise ah) {row col : List UInt8} {t : Int} {c : Cell} : fnd l row col t = some c ↔ c ∈ l ∧ c.Row = row ∧ c.Col = col ∧ c.Time ≤ t ∧ ∀ d ∈ l, d.Row = row → d.Col = col → d.Time ≤ t → d.Time ≤ c.Time := by
  have fwd : ∀ c, fnd l row col t = some c → c ∈ l ∧ c.Row = row ∧ c.Col = col ∧ c.Time ≤ t ∧ ∀ d ∈ l, d.Row = row → d.Col = col → d.Time ≤ t → d.Time ≤ c.Time := by
    intro c hc
    obtain ⟨h1, h2, h3, h4⟩ := fnd_at hc
    refine ⟨h1, h2, h3, h4, fun d hd e1 e2 e3 => ?_⟩
    unfold fnd at hc
    obtain ⟨_, i, hi, e, hn⟩ := List.find?_eq_some_iff_getElem.1 hc
    obtain ⟨j, hj, rfl⟩ := List.mem_iff_getElem.1 hd
    by_cases q : j < i
    · have := hn j q
      rw [at_iff.2 ⟨e1, e2, e3⟩] at this; cases this
    · by_cases q2 : i = j
      · subst q2; rw [← e]; exact Int.le_refl _
      · have := List.pairwise_iff_getElem.1 h i j hi hj (by omega)
        rw [e] at this
        have := ah_time this ⟨by rw [h2, e1], by rw [h3, e2]⟩
        omega
  refine ⟨fwd c, fun ⟨h1, h2, h3, h4, h5⟩ => ?_⟩
  cases hf : fnd l row col t with
  | none =>
    unfold fnd at hf
    have := List.find?_eq_none.1 hf c h1
    exact absurd (at_iff.2 ⟨h2, h3, h4⟩) this
  | some d =>
    obtain ⟨g1, g2, g3, g4, g5⟩ := fwd d hf
    have a := h5 d g1 g2 g3 g4
    have b := g5 c h1 h2 h3 h4
    rw [sorted_key h g1 h1 ⟨by rw [g2, h2], by rw [g3, h3], by omega⟩]
/-- what is seen of a list -/
def seenV (l : List Cell) (a : Ask) (c : Cell) : Prop := c ∈ l ∧ inA a c = true ∧ c.Gone = false ∧ c.Time ≤ a.Time ∧ ∀ d ∈ l, pl d c → d.Time ≤ a.Time → d.Time ≤ c.Time
theorem vis_mem {l : List Cell} (h : l.Pairwise ah) (a : Ask) (c : Cell) : c ∈ l.filter (vis l a) ↔ seenV l a c := by
  rw [List.mem_filter, vis_iff, fnd_iff h]
  constructor
  · rintro ⟨h1, h2, ⟨_, _, _, h3, h4⟩, h5⟩
    exact ⟨h1, h2, h5, h3, fun d hd hp => h4 d hd hp.1 hp.2⟩
  · rintro ⟨h1, h2, h3, h4, h5⟩
    exact ⟨h1, h2, ⟨h1, rfl, rfl, h4, fun d hd e1 e2 => h5 d hd ⟨e1, e2⟩⟩, h3⟩
theorem vis_same {x y : List Cell} (hx : x.Pairwise ah) (hy : y.Pairwise ah) (a : Ask) (h : ∀ c, seenV x a c ↔ seenV y a c) : x.filter (vis x a) = y.filter (vis y a) :=
  sorted_uniq (hx.sublist List.filter_sublist) (hy.sublist List.filter_sublist) fun c => by rw [vis_mem hx, vis_mem hy, h c]
/-- which cells stay -/
theorem doc_mem (since : Int) (whole : Bool) (box : List Cell) (hs : box.Pairwise ah) : ∀ (l d : List Cell), box = d ++ l → ∀ c, c ∈ docL since whole box d.length l ↔ c ∈ l ∧ (since < c.Time ∨ ((∀ y ∈ box, pl y c → y.Time ≤ since → y.Time ≤ c.Time) ∧ ¬ (c.Gone = true ∧ whole = true)))
  | [], d, _, c => by rw [docL]; simp
  | x :: l, d, h, c => by
    have ih := doc_mem since whole box hs l (d ++ [x]) (by rw [h]; simp) c
    have e1 : (d ++ [x]).length = d.length + 1 := by simp
    rw [e1] at ih
    have htk : box.take d.length = d := by rw [h, List.take_left]
    have hx : (decide (x.Time ≤ since) && (oldB since (box.take d.length) x || (x.Gone && whole))) = true ↔ ¬ (since < x.Time ∨ ((∀ y ∈ box, pl y x → y.Time ≤ since → y.Time ≤ x.Time) ∧ ¬ (x.Gone = true ∧ whole = true))) := by
      rw [htk]
      unfold oldB samepl
      simp only [Bool.and_eq_true, Bool.or_eq_true, decide_eq_true_eq, List.any_eq_true]
      constructor
      · rintro ⟨h1, h2⟩ (h3 | ⟨h3, h4⟩)
        · omega
        · rcases h2 with ⟨y, hy, ⟨p1, p2⟩, p3⟩ | h2
          · have hyx : ah y x := by
              rw [h] at hs
              exact (List.pairwise_append.1 hs).2.2 y hy x (List.mem_cons_self ..)
            have := ah_time hyx ⟨p1, p2⟩
            have := h3 y (by rw [h]; exact List.mem_append_left _ hy) ⟨p1, p2⟩ p3
            omega
          · exact h4 h2
      · intro hn
        have h1 : x.Time ≤ since := by
          by_cases q : since < x.Time
          · exact absurd (Or.inl q) hn
          · omega
        refine ⟨h1, ?_⟩
        by_cases q : x.Gone = true ∧ whole = true
        · exact .inr q
        · left
          have : ¬ ∀ y ∈ box, pl y x → y.Time ≤ since → y.Time ≤ x.Time := fun z => hn (.inr ⟨z, q⟩)
          obtain ⟨y, hy, hp, ht, hlt⟩ : ∃ y, y ∈ box ∧ pl y x ∧ y.Time ≤ since ∧ ¬ y.Time ≤ x.Time := by
            apply Classical.byContradiction
            intro w
            exact this fun y a b c => Classical.byContradiction fun d => w ⟨y, a, b, c, d⟩
          refine ⟨y, ?_, ⟨hp.1, hp.2⟩, ht⟩
          rw [h] at hy hs
          rcases List.mem_append.1 hy with z | z
          · exact z
          · rcases List.mem_cons.1 z with z | z
            · rw [z] at hlt; omega
            · have hxy := (List.pairwise_cons.1 (List.pairwise_append.1 hs).2.1).1 y z
              have := ah_time hxy (pl_symm hp)
              omega
    rw [docL]
    by_cases q : (decide (x.Time ≤ since) && (oldB since (box.take d.length) x || (x.Gone && whole))) = true
    · rw [if_pos q, ih]
      constructor
      · rintro ⟨a1, a2⟩; exact ⟨List.mem_cons_of_mem _ a1, a2⟩
      · rintro ⟨a1, a2⟩
        rcases List.mem_cons.1 a1 with z | z
        · rw [z] at a2; exact absurd a2 (hx.1 q)
        · exact ⟨z, a2⟩
    · rw [if_neg q, List.mem_cons, ih]
      have hk := Classical.byContradiction (fun z => q (hx.2 z))
      constructor
      · rintro (z | ⟨a1, a2⟩)
        · rw [z]; exact ⟨List.mem_cons_self .., hk⟩
        · exact ⟨List.mem_cons_of_mem _ a1, a2⟩
      · rintro ⟨a1, a2⟩
        rcases List.mem_cons.1 a1 with z | z
        · exact .inl z
        · exact .inr ⟨z, a2⟩
theorem cmp_mem {since : Int} {whole : Bool} {x : List Cell} (hs : x.Pairwise ah) (c : Cell) : c ∈ cmpL since whole none x ↔ c ∈ x ∧ (since < c.Time ∨ ((∀ y ∈ x, pl y c → y.Time ≤ since → y.Time ≤ c.Time) ∧ ¬ (c.Gone = true ∧ whole = true))) := by
  have := doc_cmp since whole x hs x [] rfl
  rw [if_pos rfl] at this
  rw [← this]
  exact doc_mem since whole x hs x [] rfl c
/-- which are first of two lists, the first of them in order -/
theorem two_mem {x o : List Cell} (hx : x.Pairwise ah) (c : Cell) : c ∈ firsts (x ++ o) ↔ c ∈ x ∨ (c ∈ firsts o ∧ ∀ y ∈ x, ¬ key c y) := by
  rw [(firsts_ok (x ++ o)).2, fk_app, List.head?_append]
  have h1 := fk_one hx c
  match hq : fk c x with
  | [] =>
    have hn : ∀ y ∈ x, ¬ key c y := fun y hy hk => by
      have : y ∈ fk c x := List.mem_filter.2 ⟨hy, decide_eq_true hk⟩
      rw [hq] at this; cases this
    simp only [List.head?_nil, Option.none_or, ← (firsts_ok o).2 c]
    exact ⟨fun h => .inr ⟨h, hn⟩, fun h => h.elim (fun z => absurd (key_refl c) (hn c z)) (fun z => z.1)⟩
  | [y] =>
    have hy : y ∈ fk c x := by rw [hq]; simp
    have hk : key c y := of_decide_eq_true (List.mem_filter.1 hy).2
    have hyx := (List.mem_filter.1 hy).1
    simp only [List.head?_cons, Option.some_or, Option.some.injEq]
    constructor
    · rintro rfl; exact .inl hyx
    · rintro (h | ⟨_, h⟩)
      · exact sorted_key hx hyx h (key_symm hk)
      · exact absurd hk (h y hyx)
  | y :: z :: t => rw [hq] at h1; simp at h1
theorem same_seen {since : Int} {whole : Bool} {x o : List Cell} (hx : x.Pairwise ah) (hO : whole = true → o = []) (a : Ask) (ht : since ≤ a.Time) (c : Cell) :
    seenV (firsts (x ++ o)) a c ↔ seenV (firsts (cmpL since whole none x ++ o)) a c := by
  have hsub := cmpL_sub since whole x none
  have hC : (cmpL since whole none x).Pairwise ah := hx.sublist hsub
  have hCx : ∀ y ∈ cmpL since whole none x, y ∈ x := fun y hy => hsub.subset hy
  -- the newest one up to since of a place stays, unless nothing is behind it
  have newest : ∀ y ∈ x, y.Time ≤ since → whole = false → ∃ m ∈ cmpL since whole none x, pl m y ∧ m.Time ≤ since ∧ ∀ z ∈ x, pl z y → z.Time ≤ since → z.Time ≤ m.Time := by
    intro y hy hys hw
    cases hf : fnd x y.Row y.Col since with
    | none =>
      unfold fnd at hf
      exact absurd (at_iff.2 ⟨rfl, rfl, hys⟩) (List.find?_eq_none.1 hf y hy)
    | some m =>
      obtain ⟨g1, g2, g3, g4, g5⟩ := (fnd_iff hx).1 hf
      refine ⟨m, (cmp_mem hx m).2 ⟨g1, .inr ⟨fun z hz hp hzs => g5 z hz (hp.1.trans g2) (hp.2.trans g3) hzs, by rw [hw]; simp⟩⟩, ⟨g2, g3⟩, g4, fun z hz hp hzs => g5 z hz hp.1 hp.2 hzs⟩
  unfold seenV
  constructor
  · rintro ⟨h1, h2, h3, h4, h5⟩
    have hall : ∀ d ∈ firsts (cmpL since whole none x ++ o), pl d c → d.Time ≤ a.Time → d.Time ≤ c.Time := by
      intro d hd hp hda
      rcases (two_mem hC d).1 hd with z | ⟨z, zn⟩
      · exact h5 d ((two_mem hx d).2 (.inl (hCx d z))) hp hda
      · by_cases q : ∃ y ∈ x, key d y
        · obtain ⟨y, hy, hk⟩ := q
          have := h5 y ((two_mem hx y).2 (.inl hy)) (pl_trans (key_pl (key_symm hk)) hp) (by have := hk.2.2; omega)
          have := hk.2.2
          omega
        · exact h5 d ((two_mem hx d).2 (.inr ⟨z, fun y hy hk => q ⟨y, hy, hk⟩⟩)) hp hda
    refine ⟨(two_mem hC c).2 ?_, h2, h3, h4, hall⟩
    rcases (two_mem hx c).1 h1 with z | ⟨z, zn⟩
    · left
      refine (cmp_mem hx c).2 ⟨z, ?_⟩
      by_cases q : since < c.Time
      · exact .inl q
      · exact .inr ⟨fun y hy hp hys => h5 y ((two_mem hx y).2 (.inl hy)) hp (by omega), by rw [h3]; simp⟩
    · exact .inr ⟨z, fun y hy => zn y (hCx y hy)⟩
  · rintro ⟨h1, h2, h3, h4, h5⟩
    have up : ∀ d ∈ x, pl d c → d.Time ≤ a.Time → d.Time ≤ c.Time := by
      intro d hd hp hda
      apply Decidable.byContradiction
      intro hlt
      by_cases q : d ∈ cmpL since whole none x
      · exact hlt (h5 d ((two_mem hC d).2 (.inl q)) hp hda)
      · have hds : d.Time ≤ since := by
          apply Decidable.byContradiction
          intro w
          exact q ((cmp_mem hx d).2 ⟨hd, .inl (by omega)⟩)
        rcases (two_mem hC c).1 h1 with z | ⟨z, zn⟩
        · rcases ((cmp_mem hx c).1 z).2 with w | ⟨w, _⟩
          · omega
          · exact hlt (w d hd hp hds)
        · have hw : whole = false := by
            cases hq : whole with
            | false => rfl
            | true => rw [hO hq] at z; have := firsts_mem z; cases this
          obtain ⟨m, m1, m2, m3, m4⟩ := newest d hd hds hw
          have e1 := m4 d hd ⟨rfl, rfl⟩ hds
          have e2 := h5 m ((two_mem hC m).2 (.inl m1)) (pl_trans m2 hp) (by omega)
          omega
    have hall : ∀ d ∈ firsts (x ++ o), pl d c → d.Time ≤ a.Time → d.Time ≤ c.Time := by
      intro d hd hp hda
      rcases (two_mem hx d).1 hd with z | ⟨z, zn⟩
      · exact up d z hp hda
      · exact h5 d ((two_mem hC d).2 (.inr ⟨z, fun y hy => zn y (hCx y hy)⟩)) hp hda
    refine ⟨(two_mem hx c).2 ?_, h2, h3, h4, hall⟩
    rcases (two_mem hC c).1 h1 with z | ⟨z, zn⟩
    · exact .inl (hCx c z)
    · refine .inr ⟨z, fun y hy hk => ?_⟩
      have hw : whole = false := by
        cases hq : whole with
        | false => rfl
        | true => rw [hO hq] at z; have := firsts_mem z; cases this
      by_cases q : y ∈ cmpL since whole none x
      · exact zn y q hk
      · have hys : y.Time ≤ since := by
          apply Decidable.byContradiction
          intro w
          exact q ((cmp_mem hx y).2 ⟨hy, .inl (by omega)⟩)
        obtain ⟨m, m1, m2, m3, m4⟩ := newest y hy hys hw
        have e1 := m4 y hy ⟨rfl, rfl⟩ hys
        have e2 := h5 m ((two_mem hC m).2 (.inl m1)) (pl_trans m2 (key_pl (key_symm hk))) (by omega)
        have e3 := hk.2.2
        have hmy : m.Time = y.Time := by omega
        have := sorted_key hx (hCx m m1) hy ⟨m2.1, m2.2, hmy⟩
        rw [this] at m1
        exact q m1
theorem scanM_good {l : List (List Cell)} (h : GoodL l) {a : Ask} (ha : (askF a).Code = 0) : scanM l a = (((firsts l.flatten).filter (vis (firsts l.flatten) a)).take a.Many.toNat, ⟨0, 0⟩) := by
  unfold scanM
  rw [h.f, if_neg (by simp), if_neg (not_not_intro ha)]
theorem scanM_bad {l : List (List Cell)} (h : GoodL l) {a : Ask} (ha : ¬ (askF a).Code = 0) : scanM l a = ([], askF a) := by
  unfold scanM
  rw [h.f, if_neg (by simp), if_pos ha]
theorem cmp_self {since : Int} {whole : Bool} {x : List Cell} (hx : x.Pairwise ah) : cmpL since whole none (cmpL since whole none x) = cmpL since whole none x := by
  have hsub := cmpL_sub since whole x none
  have hC := hx.sublist hsub
  refine sorted_uniq (hC.sublist (cmpL_sub since whole _ none)) hC fun c => ?_
  rw [cmp_mem hC c]
  constructor
  · exact fun h => h.1
  · intro h
    refine ⟨h, ?_⟩
    rcases ((cmp_mem hx c).1 h).2 with w | ⟨w1, w2⟩
    · exact .inl w
    · exact .inr ⟨fun y hy => w1 y (hsub.subset hy), w2⟩
theorem scan_len {l : List (List Cell)} (h : GoodL l) (a : Ask) (n : Nat) : (((firsts l.flatten).filter (vis (firsts l.flatten) a)).take n).length ≤ 1000000 := by
  have h1 := List.length_filter_le (vis (firsts l.flatten) a) (firsts l.flatten)
  have h2 := firsts_len l.flatten
  have h3 := h.flat
  rw [List.length_take]
  omega
theorem MergeSame_eq (l older : List (List Cell)) (since : Int) (whole : Bool) (a : Ask) (hl : l.length ≤ 140737488351232) (hg : ∀ g ∈ l, g.length ≤ 140737488351232) (ho : older.length ≤ 140737488351232) (hog : ∀ g ∈ older, g.length ≤ 140737488351232) : law_MergeSame l older since whole a = some true := by
  obtain ⟨b, hb, hv⟩ := vast_eq l hl hg
  obtain ⟨b', hb', hv'⟩ := vast_eq older ho hog
  unfold law_MergeSame
  rw [mbegun, ob_some, if_neg (by decide), hb, ob_some]
  have e2 : (if (!b) = true then law_vastLists older else some default) = some (!b && b') := by
    cases b with
    | true => rfl
    | false => exact hb'
  rw [e2, ob_some]
  generalize hq : ((b || (!b && b') || decide (19 < w64 ((l.length : Int) + (older.length : Int)))) || decide (a.Time < since)) = q
  cases q with
  | true =>
    rw [if_neg (by decide), ob_some, if_pos (by rfl)]
  | false =>
    rw [if_pos (by rfl), listsFault_eq, ob_some]
    simp only [Bool.or_eq_false_iff, decide_eq_false_iff_not] at hq
    obtain ⟨⟨⟨q1, q2⟩, q3⟩, q4⟩ := hq
    have q2' : b' = false := by rw [q1] at q2; simpa using q2
    obtain ⟨v1, v2, _⟩ := hv q1
    obtain ⟨u1, u2, _⟩ := hv' q2'
    rw [w64_id (by omega) (by omega)] at q3
    by_cases c : (listsS older).Code = 0
    · obtain ⟨_, hgo⟩ := listsS_good c
      rw [if_neg (by simp [c]), compact_eq, ob_some]
      by_cases c1 : (compS l since whole).2.Code = 0
      · obtain ⟨hG, hn, hsi, hc⟩ := compS_ok c1
        have hx : (firsts l.flatten).Pairwise ah := (firsts_ok l.flatten).1
        have hsub := cmpL_sub since whole (firsts l.flatten) none
        have hC := hx.sublist hsub
        have hGC : GoodL [cmpL since whole none (firsts l.flatten)] := ⟨by simp, fun g hg => by
          rw [List.mem_singleton.1 hg]; exact hG.part hsub hn⟩
        have hfC : firsts [cmpL since whole none (firsts l.flatten)].flatten = cmpL since whole none (firsts l.flatten) := by
          rw [List.flatten_cons, List.flatten_nil, List.append_nil, firsts_self hC]
        rw [hc, if_neg (n_f rfl), scanM_eq, ob_some]
        dsimp only
        rw [scanM_eq, ob_some]
        by_cases ca : (askF a).Code = 0
        · have hz := (askF_good ca).1
          have e0 : (firsts l.flatten).filter (vis (firsts l.flatten) a) = (cmpL since whole none (firsts l.flatten)).filter (vis (cmpL since whole none (firsts l.flatten)) a) := by
            refine vis_same hx hC a fun d => ?_
            have := same_seen (since := since) (whole := whole) (o := []) hx (fun _ => rfl) a (by omega) d
            rw [List.append_nil, List.append_nil, firsts_self hx, firsts_self hC] at this
            exact this
          have e1 : scanM [cmpL since whole none (firsts l.flatten)] a = scanM l a := by
            rw [scanM_good hGC ca, scanM_good hG ca, hfC, e0]
          have ecmp : compS [cmpL since whole none (firsts l.flatten)] since whole = (cmpL since whole none (firsts l.flatten), ⟨0, 0⟩) := by
            unfold compS
            rw [joinS_is hGC (by rw [hfC]; have := hsub.length_le; omega), if_neg (by simp), if_neg hsi, hfC, cmp_self hx]
          have hlC : (cmpL since whole none (firsts l.flatten)).length ≤ 1000000 := by have := hsub.length_le; omega
          rw [e1, scanM_good hG ca, if_neg (n_f rfl)]
          dsimp only
          rw [if_pos (by rfl), sameCells_self _ (scan_len hG a _), ob_some, if_neg (by simp), compact_eq, ob_some, ecmp]
          dsimp only
          rw [if_pos (by rfl), sameCells_self _ hlC, ob_some, if_neg (by simp)]
          cases whole with
          | true => rw [if_pos rfl]
          | false =>
            rw [if_neg (by decide), own0_eq l v1 v2, ob_some, asrt_pos (by simp; omega), scanM_eq, ob_some, asrt_pos (by simp; omega), scanM_eq, ob_some]
            have hG1 : GoodL (l ++ older) := ⟨by simp; omega, fun g hg => (List.mem_append.1 hg).elim (hG.good g) (hgo.good g)⟩
            have hG2 : GoodL ([cmpL since false none (firsts l.flatten)] ++ older) := ⟨by simp; omega, fun g hg => (List.mem_append.1 hg).elim (hGC.good g) (hgo.good g)⟩
            have f1 : firsts (l ++ older).flatten = firsts (firsts l.flatten ++ older.flatten) := by
              rw [List.flatten_append]
              exact (Hd.app (hd_firsts l.flatten).symm (Hd.refl older.flatten)).firsts
            have f2 : firsts ([cmpL since false none (firsts l.flatten)] ++ older).flatten = firsts (cmpL since false none (firsts l.flatten) ++ older.flatten) := by
              rw [List.flatten_append, List.flatten_cons, List.flatten_nil, List.append_nil]
            have e5 : scanM ([cmpL since false none (firsts l.flatten)] ++ older) a = scanM (l ++ older) a := by
              rw [scanM_good hG2 ca, scanM_good hG1 ca, f1, f2]
              rw [vis_same (firsts_ok _).1 (firsts_ok _).1 a fun d => same_seen (since := since) (whole := false) (o := older.flatten) hx (fun h => by cases h) a (by omega) d]
            rw [e5, scanM_good hG1 ca]
            dsimp only
            rw [if_pos (by rfl), sameCells_self _ (scan_len hG1 a _), ob_some]; rfl
        · rw [scanM_bad hG ca, scanM_bad hGC ca, if_pos (n_t ca)]
          simp [lt]
      · rw [if_pos (n_t c1)]
    · rw [if_pos (by simp [c])]
end G
end Go.Proofs.Ytkbgkkbinnclmaa
