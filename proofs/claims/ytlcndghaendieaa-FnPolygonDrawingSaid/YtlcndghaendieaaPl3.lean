import Derived.Test.YtlcndghaendieaaPl2
/- Hulls of points: plain facts. -/
set_option linter.unusedVariables false
set_option linter.unusedSimpArgs false
namespace Go.Pl

def negP (p : Pt) : Pt := (-p.1, -p.2)
theorem negP_neg (p : Pt) : negP (negP p) = p := by simp [negP]
theorem ltP_neg (p q : Pt) : ltP (negP p) (negP q) = ltP q p := by
  rw [Bool.eq_iff_iff, ltP_iff, ltP_iff]; simp only [negP]; omega
theorem turn_neg (a b c : Pt) : turn (negP a) (negP b) (negP c) = turn a b c := by unfold turn negP; grind
theorem lin_neg (dx dy : Int) (q : Pt) : lin dx dy (negP q) = lin (-dx) (-dy) q := by unfold lin negP; grind

theorem popP_neg : ∀ (st : List Pt) (p : Pt), popP (st.map negP) (negP p) = (popP st p).map negP
  | b :: a :: r, p => by
    have ih := popP_neg (a :: r) p
    simp only [List.map_cons] at ih
    simp only [List.map_cons, popP, turn_neg]
    split
    · exact ih
    · simp
  | [b], p => by simp [popP]
  | [], p => by simp [popP]
theorem fold_neg : ∀ (l st : List Pt), (l.map negP).foldl stepP (st.map negP) = (l.foldl stepP st).map negP
  | [], st => by simp
  | p :: l, st => by
    have := fold_neg l (stepP st p)
    simp only [List.map_cons, List.foldl_cons]
    rw [← this]
    congr 1
    simp [stepP, popP_neg]
theorem chain_neg (l : List Pt) : chainP (l.map negP) = (chainP l).map negP := by
  have := fold_neg l []
  simp only [List.map_nil] at this
  simp [chainP, chainR, this, List.map_reverse]
theorem map_neg_neg (l : List Pt) : (l.map negP).map negP = l := by
  simp [List.map_map, Function.comp_def, negP_neg]
theorem asc_neg {l : List Pt} (h : Asc l) : Asc (l.reverse.map negP) := by
  unfold Asc at *
  rw [List.pairwise_map, List.pairwise_reverse]
  exact h.imp fun hab => by rw [ltP_neg]; exact hab

/-- The chain back, from the last point to the first. -/
def highP (l : List Pt) : List Pt := chainP l.reverse
theorem highP_eq (l : List Pt) : highP l = (chainP (l.reverse.map negP)).map negP := by rw [chain_neg, map_neg_neg]; rfl
/-- Strictly above whatever lies on both sides. -/
def Top (S : List Pt) (v : Pt) : Prop := ∀ a ∈ S, ∀ b ∈ S, ltP a v = true → ltP v b = true → turn a v b < 0

theorem mem_neg {l : List Pt} {v : Pt} : v ∈ l.map negP ↔ negP v ∈ l := by
  rw [List.mem_map]
  constructor
  · rintro ⟨x, hx, rfl⟩; rwa [negP_neg]
  · intro h; exact ⟨_, h, negP_neg v⟩
theorem mem_high {l : List Pt} (h : Asc l) {v : Pt} : v ∈ highP l ↔ v ∈ l ∧ Top l v := by
  rw [highP_eq, mem_neg, mem_chain (asc_neg h), mem_neg, List.mem_reverse, negP_neg]
  refine and_congr_right fun hv => ?_
  constructor
  · intro hE a ha b hb h1 h2
    have := hE (negP b) (by rw [mem_neg, negP_neg]; simpa using hb) (negP a) (by rw [mem_neg, negP_neg]; simpa using ha) (by rw [ltP_neg]; exact h2) (by rw [ltP_neg]; exact h1)
    rw [turn_neg] at this
    have e : turn b v a = - turn a v b := by unfold turn; grind
    omega
  · intro hT a ha b hb h1 h2
    rw [mem_neg, List.mem_reverse] at ha hb
    have := hT (negP b) hb (negP a) ha (by rw [← negP_neg v, ltP_neg]; exact h2) (by rw [← negP_neg v, ltP_neg]; exact h1)
    have e : turn a (negP v) b = - turn (negP b) v (negP a) := by unfold turn negP; grind
    omega
theorem high_sup {l : List Pt} (h : Asc l) {dx dy : Int} (hd : 0 ≤ dy) {q : Pt} (hq : q ∈ l) : ∃ v ∈ highP l, lin dx dy q ≤ lin dx dy v := by
  obtain ⟨v, hv, hl⟩ := chain_sup (asc_neg h) (dx := -dx) (dy := -dy) (by omega) (q := negP q) (by rw [mem_neg, negP_neg]; simpa using hq)
  refine ⟨negP v, by rw [highP_eq, mem_neg, negP_neg]; exact hv, ?_⟩
  rw [lin_neg] at hl ⊢
  simpa [Int.neg_neg] using hl
theorem desc_high {l : List Pt} (h : Asc l) : Desc (highP l) := by
  have := asc_chain (asc_neg h)
  rw [highP_eq]
  unfold Asc at this
  unfold Desc
  rw [List.pairwise_map]
  exact this.imp fun hab => by rw [ltP_neg]; exact hab

/-! the ends of chains -/
theorem foldl_step_ne {l st : List Pt} (h : l ≠ [] ∨ st ≠ []) : l.foldl stepP st ≠ [] := by
  induction l generalizing st with
  | nil => rcases h with h | h
           · exact absurd rfl h
           · simpa using h
  | cons p l ih => exact ih (.inr (by simp [stepP]))
theorem chainP_ne {l : List Pt} (h : l ≠ []) : chainP l ≠ [] := by
  unfold chainP chainR
  simpa using foldl_step_ne (.inl h)
theorem chain_last (l : List Pt) (p : Pt) : (chainP (l ++ [p])).getLast? = some p := by
  simp [chainP, chainR, stepP]

/-- The vertices of the hull of points in order, each once. -/
def hullA (l : List Pt) : List Pt := if l.length < 2 then l else (chainP l).dropLast ++ (highP l).dropLast
def hullP (l : List Pt) : List Pt := hullA (insP l)

/-- The least point is first in the chain, the last one last. -/
theorem head_mem_ext {m : Pt} {l : List Pt} (h : Asc (m :: l)) : Ext (m :: l) m ∧ Top (m :: l) m := by
  unfold Asc at h
  rw [List.pairwise_cons] at h
  have hn : ∀ a ∈ m :: l, ltP a m = true → False := by
    intro a ha h1
    rcases List.mem_cons.1 ha with rfl | ha
    · rw [ltP_irrefl] at h1; cases h1
    · rw [ltP_asymm (h.1 a ha)] at h1; cases h1
  exact ⟨fun a ha b hb h1 _ => (hn a ha h1).elim, fun a ha b hb h1 _ => (hn a ha h1).elim⟩
theorem last_mem_ext {m : Pt} {l : List Pt} (h : Asc (l ++ [m])) : Ext (l ++ [m]) m ∧ Top (l ++ [m]) m := by
  unfold Asc at h
  rw [List.pairwise_append] at h
  have hn : ∀ b ∈ l ++ [m], ltP m b = true → False := by
    intro b hb h1
    rcases List.mem_append.1 hb with hb | hb
    · rw [ltP_asymm (h.2.2 b hb m (by simp))] at h1; cases h1
    · rw [List.mem_singleton.1 hb, ltP_irrefl] at h1; cases h1
  exact ⟨fun a ha b hb _ h2 => (hn b hb h2).elim, fun a ha b hb _ h2 => (hn b hb h2).elim⟩

theorem mem_dropLast_of_ne {l : List Pt} {p v : Pt} (h : l.getLast? = some p) (hv : v ∈ l) (hne : v ≠ p) : v ∈ l.dropLast := by
  have hl : l ≠ [] := by rintro rfl; simp at hv
  have e := List.dropLast_concat_getLast hl
  rw [List.getLast?_eq_some_getLast hl] at h
  injection h with h
  rw [← e] at hv
  rcases List.mem_append.1 hv with hv | hv
  · exact hv
  · rw [List.mem_singleton.1 hv, h] at hne; exact absurd rfl hne

theorem asc_ends {l : List Pt} (h2 : 2 ≤ l.length) : ∃ m r M, l = m :: (r ++ [M]) := by
  match l, h2 with
  | m :: x :: t, _ => exact ⟨m, (x :: t).dropLast, (x :: t).getLast (by simp), by rw [List.dropLast_concat_getLast]⟩

/-- The points of the hull: those that are strictly extreme downwards or upwards. -/
theorem mem_hullA {l : List Pt} (h : Asc l) (h2 : 2 ≤ l.length) {v : Pt} : v ∈ hullA l ↔ v ∈ chainP l ∨ v ∈ highP l := by
  obtain ⟨m, r, M, rfl⟩ := asc_ends h2
  have h' : Asc ((m :: r) ++ [M]) := by simpa using h
  have hmM : ltP m M = true := by
    unfold Asc at h; rw [List.pairwise_cons] at h; exact h.1 M (by simp)
  have hlast : (chainP (m :: (r ++ [M]))).getLast? = some M := by simpa using chain_last (m :: r) M
  have hlast2 : (highP (m :: (r ++ [M]))).getLast? = some m := by simpa [highP] using chain_last (M :: r.reverse) m
  have hm := head_mem_ext h
  have hM := last_mem_ext h'
  rw [List.cons_append] at hM
  rw [hullA, if_neg (by simp), List.mem_append]
  constructor
  · rintro (hv | hv)
    · exact .inl (List.dropLast_subset _ hv)
    · exact .inr (List.dropLast_subset _ hv)
  · rintro (hv | hv)
    · by_cases e : v = M
      · subst e
        exact .inr (mem_dropLast_of_ne hlast2 ((mem_high h).2 ⟨by simp, hM.2⟩) (ltP_ne hmM).symm)
      · exact .inl (mem_dropLast_of_ne hlast hv e)
    · by_cases e : v = m
      · subst e
        exact .inl (mem_dropLast_of_ne hlast ((mem_chain h).2 ⟨by simp, hm.1⟩) (ltP_ne hmM))
      · exact .inr (mem_dropLast_of_ne hlast2 hv e)

theorem hullA_sub {l : List Pt} (h : Asc l) {v : Pt} (hv : v ∈ hullA l) : v ∈ l := by
  by_cases h2 : l.length < 2
  · rwa [hullA, if_pos h2] at hv
  · rcases (mem_hullA h (by omega)).1 hv with hv | hv
    · exact ((mem_chain h).1 hv).1
    · exact ((mem_high h).1 hv).1

/-- The hull is as far as the points, in each direction. -/
theorem hullA_sup {l : List Pt} (h : Asc l) (dx dy : Int) {q : Pt} (hq : q ∈ l) : ∃ v ∈ hullA l, lin dx dy q ≤ lin dx dy v := by
  by_cases h2 : l.length < 2
  · exact ⟨q, by rwa [hullA, if_pos h2], Int.le_refl _⟩
  · rcases Int.le_total dy 0 with hd | hd
    · obtain ⟨v, hv, hl⟩ := chain_sup h hd hq (dx := dx)
      exact ⟨v, (mem_hullA h (by omega)).2 (.inl hv), hl⟩
    · obtain ⟨v, hv, hl⟩ := high_sup h hd hq (dx := dx)
      exact ⟨v, (mem_hullA h (by omega)).2 (.inr hv), hl⟩

theorem mem_hullP_sub {l : List Pt} {v : Pt} (hv : v ∈ hullP l) : v ∈ l := mem_insP.1 (hullA_sub (asc_insP l) hv)
theorem hullP_sup (l : List Pt) (dx dy : Int) {q : Pt} (hq : q ∈ l) : ∃ v ∈ hullP l, lin dx dy q ≤ lin dx dy v := hullA_sup (asc_insP l) dx dy (mem_insP.2 hq)
theorem hullP_congr {l m : List Pt} (h : ∀ x, x ∈ l ↔ x ∈ m) : hullP l = hullP m := by rw [hullP, hullP, insP_congr h]

theorem asc_nodup {l : List Pt} (h : Asc l) : l.Nodup := h.imp ltP_ne
theorem nodup_hullA {l : List Pt} (h : Asc l) : (hullA l).Nodup := by
  by_cases h2 : l.length < 2
  · rw [hullA, if_pos h2]; exact asc_nodup h
  · have h2 : 2 ≤ l.length := by omega
    rw [hullA, if_neg (by omega)]
    obtain ⟨m, r, M, rfl⟩ := asc_ends h2
    have hlast : (chainP (m :: (r ++ [M]))).getLast? = some M := by simpa using chain_last (m :: r) M
    have hlast2 : (highP (m :: (r ++ [M]))).getLast? = some m := by simpa [highP] using chain_last (M :: r.reverse) m
    have n1 : (chainP (m :: (r ++ [M]))).Nodup := asc_nodup (asc_chain h)
    have n2 : (highP (m :: (r ++ [M]))).Nodup := (desc_high h).imp fun hab => (ltP_ne hab).symm
    have nl : ∀ {x : List Pt} {p : Pt}, x.getLast? = some p → x.Nodup → ∀ v ∈ x.dropLast, v ≠ p := by
      intro x p hx hn v hv e
      subst e
      have hne : x ≠ [] := by rintro rfl; simp at hx
      have e := List.dropLast_concat_getLast hne
      rw [List.getLast?_eq_some_getLast hne] at hx
      injection hx with hx
      rw [← e, hx, List.nodup_append] at hn
      exact hn.2.2 v hv v (by simp) rfl
    rw [List.nodup_append]
    refine ⟨n1.sublist (List.dropLast_sublist _), n2.sublist (List.dropLast_sublist _), fun a ha b hb e => ?_⟩
    subst e
    have q1 := (mem_chain h).1 (List.dropLast_subset _ ha)
    have q2 := (mem_high h).1 (List.dropLast_subset _ hb)
    have e1 := nl hlast n1 a ha
    have e2 := nl hlast2 n2 a hb
    have hs : ltP m a = true ∧ ltP a M = true := by
      have h0 := h
      unfold Asc at h0
      rw [List.pairwise_cons, List.pairwise_append] at h0
      rcases List.mem_cons.1 q1.1 with rfl | h1
      · exact absurd rfl e2
      · rcases List.mem_append.1 h1 with h3 | h3
        · exact ⟨h0.1 a h1, h0.2.2.2 a h3 M (by simp)⟩
        · exact absurd (List.mem_singleton.1 h3) e1
    have t1 := q1.2 m (by simp) M (by simp) hs.1 hs.2
    have t2 := q2.2 m (by simp) M (by simp) hs.1 hs.2
    omega
theorem nodup_len_le : ∀ {a b : List Pt}, a.Nodup → (∀ x ∈ a, x ∈ b) → a.length ≤ b.length
  | [], b, _, _ => by simp
  | x :: a, b, hn, hs => by
    rw [List.nodup_cons] at hn
    have hx : x ∈ b := hs x (by simp)
    have := nodup_len_le (a := a) (b := b.erase x) hn.2 (fun y hy => (List.mem_erase_of_ne (by rintro rfl; exact hn.1 hy)).2 (hs y (by simp [hy])))
    rw [List.length_erase_of_mem hx] at this
    have : 0 < b.length := List.length_pos_of_mem hx
    simp only [List.length_cons]; omega
theorem hullP_len (l : List Pt) : (hullP l).length ≤ l.length := nodup_len_le (nodup_hullA (asc_insP l)) fun _ hx => mem_hullP_sub hx
theorem insP_len (l : List Pt) : (insP l).length ≤ l.length := nodup_len_le (asc_nodup (asc_insP l)) fun _ hx => mem_insP.1 hx
theorem hullP_nil {l : List Pt} : hullP l = [] ↔ l = [] := by
  constructor
  · intro h
    cases l with
    | nil => rfl
    | cons x l =>
      obtain ⟨v, hv, _⟩ := hullP_sup (x :: l) 0 0 (q := x) (by simp)
      rw [h] at hv; simp at hv
  · rintro rfl; rfl

end Go.Pl
