import Derived.Test.YtjlcbomigbolcaaPl20
import Derived.Test.YtjlcbomigbolcaaPl17
/- Graphs that are highest somewhere: by the places where they meet the others. -/
set_option linter.unusedVariables false
set_option linter.unusedSimpArgs false
namespace Go.Pl

theorem red_small {n d A : Int} (hd : 0 < d) (hn : -A ≤ n ∧ n ≤ A) : 0 < (redR n d).2 ∧ (redR n d).2 ≤ d ∧ -A ≤ (redR n d).1 ∧ (redR n d).1 ≤ A ∧ (redR n d).1 * d = n * (redR n d).2 ∧ Int.gcd (redR n d).1 (redR n d).2 = 1 := by
  obtain ⟨hg, a, b, ha, hb, hr, h1⟩ := red_gcd (n := n) (d := d) (by omega)
  rw [hr]
  simp only []
  obtain ⟨g, hgg⟩ : ∃ g : Int, (Int.gcd n d : Int) = g := ⟨_, rfl⟩
  rw [hgg] at hg ha hb
  have hb0 : 0 < b := Int.pos_of_mul_pos_left (by rw [← hb]; exact hd) (by omega)
  have k1 : 0 ≤ b * (g - 1) := Int.mul_nonneg (by omega) (by omega)
  rw [Int.mul_sub] at k1
  refine ⟨hb0, by omega, ?_, ?_, by rw [ha, hb]; grind, h1⟩
  · rcases Int.lt_or_le a 0 with c | c
    · have := Int.mul_nonneg (a := -a) (b := g - 1) (by omega) (by omega)
      rw [Int.mul_sub, Int.neg_mul] at this; omega
    · omega
  · rcases Int.lt_or_le a 0 with c | c
    · omega
    · have := Int.mul_nonneg (a := a) (b := g - 1) (by omega) (by omega)
      rw [Int.mul_sub] at this; omega
/-- Where two graphs meet: the X. -/
def mtX (g h : Pt) : Pt := redR (sgT (decide (g.1 - h.1 < 0)) (g.2 - h.2)) (sgT (decide (g.1 - h.1 < 0)) (g.1 - h.1))
theorem mtX_lo {g h : Pt} (hl : h.1 < g.1) : mtX g h = redR (g.2 - h.2) (g.1 - h.1) := by
  have : decide (g.1 - h.1 < 0) = false := by simp only [decide_eq_false_iff_not]; omega
  rw [mtX, this]; rfl
theorem mtX_hi {g h : Pt} (hl : g.1 < h.1) : mtX g h = redR (h.2 - g.2) (h.1 - g.1) := by
  have : decide (g.1 - h.1 < 0) = true := by simp only [decide_eq_true_eq]; omega
  rw [mtX, this]
  show redR (-(g.2 - h.2)) (-(g.1 - h.1)) = _
  rw [show -(g.2 - h.2) = h.2 - g.2 by omega, show -(g.1 - h.1) = h.1 - g.1 by omega]
def in1 (p : Pt) : Prop := (-1000 ≤ p.1 ∧ p.1 ≤ 1000) ∧ (-1000 ≤ p.2 ∧ p.2 ≤ 1000)
theorem mtX_bd {g h : Pt} (hg : in1 g) (hh : in1 h) (hne : g.1 ≠ h.1) : 0 < (mtX g h).2 ∧ (mtX g h).2 ≤ 2000 ∧ -2000 ≤ (mtX g h).1 ∧ (mtX g h).1 ≤ 2000 ∧ Int.gcd (mtX g h).1 (mtX g h).2 = 1 := by
  unfold in1 at hg hh
  rcases Int.lt_or_gt_of_ne hne with c | c
  · rw [mtX_hi c]
    obtain ⟨h1, h2, h3, h4, _, h5⟩ := red_small (n := h.2 - g.2) (d := h.1 - g.1) (A := 2000) (by omega) (by omega)
    exact ⟨h1, by omega, h3, h4, h5⟩
  · rw [mtX_lo c]
    obtain ⟨h1, h2, h3, h4, _, h5⟩ := red_small (n := g.2 - h.2) (d := g.1 - h.1) (A := 2000) (by omega) (by omega)
    exact ⟨h1, by omega, h3, h4, h5⟩
theorem ltR_red {n d m e : Int} (hd : 0 < d) (he : 0 < e) : ltR (redR n d) (redR m e) = decide (n * e < m * d) := by
  obtain ⟨h1, _, _, _, h2, _⟩ := red_small (n := n) (d := d) (A := max n (-n)) hd (by omega)
  obtain ⟨k1, _, _, _, k2, _⟩ := red_small (n := m) (d := e) (A := max m (-m)) he (by omega)
  obtain ⟨x, hx⟩ : ∃ x, redR n d = x := ⟨_, rfl⟩
  obtain ⟨y, hy⟩ : ∃ y, redR m e = y := ⟨_, rfl⟩
  rw [hx] at h1 h2 ⊢
  rw [hy] at k1 k2 ⊢
  rw [ltR, Bool.eq_iff_iff, decide_eq_true_iff, decide_eq_true_iff]
  have hp : 0 < d * e := Int.mul_pos hd he
  have hq : 0 < x.2 * y.2 := Int.mul_pos h1 k1
  have e1 : (x.1 * y.2) * (d * e) = (n * e) * (x.2 * y.2) := by
    have : (x.1 * y.2) * (d * e) = (x.1 * d) * (y.2 * e) := by grind
    rw [this, h2]; grind
  have e2 : (y.1 * x.2) * (d * e) = (m * d) * (x.2 * y.2) := by
    have : (y.1 * x.2) * (d * e) = (y.1 * e) * (x.2 * d) := by grind
    rw [this, k2]; grind
  constructor
  · intro h
    have := Int.mul_lt_mul_of_pos_right h hp
    rw [e1, e2] at this
    exact Int.lt_of_mul_lt_mul_right this (by omega)
  · intro h
    have := Int.mul_lt_mul_of_pos_right h hq
    rw [← e1, ← e2] at this
    exact Int.lt_of_mul_lt_mul_right this (by omega)
theorem meet_turn {a g c : Pt} (h1 : a.1 < g.1) (h2 : g.1 < c.1) : ltR (mtX g a) (mtX g c) = decide (0 < turn a g c) := by
  rw [mtX_lo h1, mtX_hi h2, ltR_red (by omega) (by omega), Bool.eq_iff_iff, decide_eq_true_iff, decide_eq_true_iff]
  have e : turn a g c = (c.2 - g.2) * (g.1 - a.1) - (g.2 - a.2) * (c.1 - g.1) := by unfold turn; grind
  omega

def dirB (s : Bool) (g h : Pt) : Bool := if s then decide (h.1 < g.1) else decide (g.1 < h.1)
def btB (s : Bool) (x y : Pt) : Bool := if s then ltR x y else ltR y x
/-- The nearest place where a graph meets one of another side, of the first i graphs. -/
def SideI (l : List Pt) (g : Pt) (s : Bool) (i : Nat) (x : Pt) : Prop :=
  (x = (0, 0) ∧ ∀ j, j < i → dirB s g (pA l j) = false) ∨ (∃ j, j < i ∧ dirB s g (pA l j) = true ∧ x = mtX g (pA l j) ∧ ∀ k, k < i → dirB s g (pA l k) = true → btB s x (mtX g (pA l k)) = false)
section
variable {l : List Pt} {g : Pt} {s : Bool} {i : Nat} {x : Pt}
theorem side_zero : SideI l g s 0 (0, 0) := .inl ⟨rfl, fun j h => absurd h (Nat.not_lt_zero j)⟩
theorem side_skip (h : SideI l g s i x) (hd : dirB s g (pA l i) = false) : SideI l g s (i + 1) x := by
  rcases h with ⟨h1, h2⟩ | ⟨j, h1, h2, h3, h4⟩
  · refine .inl ⟨h1, fun j hj => ?_⟩
    rcases Nat.lt_or_ge j i with c | c
    · exact h2 j c
    · rw [show j = i by omega]; exact hd
  · refine .inr ⟨j, by omega, h2, h3, fun k hk hk2 => ?_⟩
    rcases Nat.lt_or_ge k i with c | c
    · exact h4 k c hk2
    · rw [show k = i by omega, hd] at hk2; cases hk2
theorem ltR_irr (y : Pt) : ltR y y = false := by simp [ltR]
theorem btB_irr (y : Pt) : btB s y y = false := by unfold btB; split <;> exact ltR_irr y
theorem mt_pos (hin : in1 g) (hl : ∀ q ∈ l, in1 q) {j : Nat} (hj : j < l.length) (hd : dirB s g (pA l j) = true) : 0 < (mtX g (pA l j)).2 := by
  have hm := hl _ (pA_mem hj)
  refine (mtX_bd hin hm ?_).1
  unfold dirB at hd
  split at hd
  · have := of_decide_eq_true hd; omega
  · have := of_decide_eq_true hd; omega
theorem lt_not {x y z : Pt} (hx : 0 < x.2) (hy : 0 < y.2) (hz : 0 < z.2) (h1 : ltR x y = true) (h2 : ltR x z = false) : ltR y z = false := by
  unfold ltR at *
  rw [decide_eq_true_iff] at h1
  rw [decide_eq_false_iff_not] at h2 ⊢
  intro h3
  exact h2 (ltR_trans hx hy hz h1 h3)
theorem lt_not' {x y z : Pt} (hx : 0 < x.2) (hy : 0 < y.2) (hz : 0 < z.2) (h1 : ltR y x = true) (h2 : ltR z x = false) : ltR z y = false := by
  unfold ltR at *
  rw [decide_eq_true_iff] at h1
  rw [decide_eq_false_iff_not] at h2 ⊢
  intro h3
  exact h2 (ltR_trans hz hy hx h3 h1)
theorem side_new (hin : in1 g) (hl : ∀ q ∈ l, in1 q) (hi : i < l.length) (h : SideI l g s i x) (hd : dirB s g (pA l i) = true) (hb : x.2 = 0 ∨ btB s x (mtX g (pA l i)) = true) : SideI l g s (i + 1) (mtX g (pA l i)) := by
  refine .inr ⟨i, by omega, hd, rfl, fun k hk hk2 => ?_⟩
  rcases Nat.lt_or_ge k i with c | c
  · rcases h with ⟨h1, h2⟩ | ⟨j, h1, h2, h3, h4⟩
    · rw [h2 k c] at hk2; cases hk2
    · have px := mt_pos hin hl (show j < l.length by omega) h2
      have py := mt_pos hin hl hi hd
      have pz := mt_pos hin hl (show k < l.length by omega) hk2
      rw [← h3] at px
      rcases hb with hb | hb
      · omega
      · have := h4 k c hk2
        unfold btB at *
        split at hb
        · rename_i hs
          rw [if_pos hs] at this ⊢; exact lt_not px py pz hb this
        · rename_i hs
          rw [if_neg hs] at this ⊢; exact lt_not' px py pz hb this
  · rw [show k = i by omega]; exact btB_irr _
theorem side_keep (h : SideI l g s i x) (hx : x.2 ≠ 0) (hb : btB s x (mtX g (pA l i)) = false) : SideI l g s (i + 1) x := by
  rcases h with ⟨h1, h2⟩ | ⟨j, h1, h2, h3, h4⟩
  · rw [h1] at hx; exact absurd rfl hx
  · refine .inr ⟨j, by omega, h2, h3, fun k hk hk2 => ?_⟩
    rcases Nat.lt_or_ge k i with c | c
    · exact h4 k c hk2
    · rw [show k = i by omega]; exact hb
theorem side_ok (hin : in1 g) (hl : ∀ q ∈ l, in1 q) (hi : i ≤ l.length) (h : SideI l g s i x) (hx : x.2 ≠ 0) : 0 < x.2 ∧ x.2 ≤ 2000 ∧ -2000 ≤ x.1 ∧ x.1 ≤ 2000 ∧ Int.gcd x.1 x.2 = 1 := by
  rcases h with ⟨h1, h2⟩ | ⟨j, h1, h2, h3, h4⟩
  · rw [h1] at hx; exact absurd rfl hx
  · rw [h3]
    refine mtX_bd hin (hl _ (pA_mem (by omega))) ?_
    unfold dirB at h2
    split at h2
    · have := of_decide_eq_true h2; omega
    · have := of_decide_eq_true h2; omega
end
/-- Is a graph highest somewhere? -/
def topB (l : List Pt) (g : Pt) : Bool := (l.all fun h => !(h.1 == g.1 && decide (h.2 < g.2))) && l.all fun a => l.all fun c => !(decide (a.1 < g.1) && decide (g.1 < c.1)) || decide (0 < turn a g c)
theorem top_iff {l : List Pt} {g : Pt} (hg : g ∈ l) : topB l g = true ↔ TopIn l g := by
  simp only [topB, TopIn, Bool.and_eq_true, List.all_eq_true, Bool.or_eq_true, Bool.not_eq_true', Bool.and_eq_false_iff, beq_eq_false_iff_ne, decide_eq_false_iff_not, decide_eq_true_eq]
  constructor
  · rintro ⟨h1, h2⟩
    refine ⟨hg, fun k hk e => ?_, fun a ha c hc l1 l2 => ?_⟩
    · rcases h1 k hk with h | h
      · exact absurd e h
      · omega
    · rcases h2 a ha c hc with h | h
      · rcases h with h | h <;> omega
      · exact h
  · rintro ⟨_, h1, h2⟩
    refine ⟨fun k hk => ?_, fun a ha c hc => ?_⟩
    · by_cases e : k.1 = g.1
      · right; have := h1 k hk e; omega
      · exact .inl e
    · by_cases l1 : a.1 < g.1
      · by_cases l2 : g.1 < c.1
        · exact .inr (h2 a ha c hc l1 l2)
        · exact .inl (.inr l2)
      · exact .inl (.inl l1)
theorem top_no {l : List Pt} {g h : Pt} (hm : h ∈ l) (h1 : h.1 = g.1) (h2 : h.2 < g.2) : topB l g = false := by
  cases hc : topB l g with
  | false => rfl
  | true =>
    simp only [topB, Bool.and_eq_true, List.all_eq_true] at hc
    have := hc.1 h hm
    simp [h1, h2] at this
theorem top_fin {l : List Pt} {g lo hi : Pt} (hin : in1 g) (hl : ∀ q ∈ l, in1 q) (h0 : ∀ j, j < l.length → ¬ ((pA l j).1 = g.1 ∧ (pA l j).2 < g.2)) (h1 : SideI l g true l.length lo) (h2 : SideI l g false l.length hi) :
    topB l g = (lo.2 == 0 || (hi.2 == 0 || ltR lo hi)) := by
  have ha : (l.all fun h => !(h.1 == g.1 && decide (h.2 < g.2))) = true := by
    rw [List.all_eq_true]
    intro h hm
    obtain ⟨j, hj, rfl⟩ := mem_pA hm
    have := h0 j hj
    obtain ⟨q, hq⟩ : ∃ q, pA l j = q := ⟨_, rfl⟩
    rw [hq] at this ⊢
    by_cases e : q.1 = g.1
    · have : ¬ q.2 < g.2 := fun h => this ⟨e, h⟩
      simp; omega
    · simp [e]
  have none : ∀ s x, SideI l g s l.length x → x.2 = 0 → ∀ q ∈ l, dirB s g q = false := by
    intro s x h hx q hq
    obtain ⟨j, hj, rfl⟩ := mem_pA hq
    rcases h with ⟨_, q2⟩ | ⟨k, q1, q2, q3, _⟩
    · exact q2 j hj
    · have := mt_pos hin hl q1 q2
      rw [← q3] at this; omega
  rw [topB, ha, Bool.true_and, Bool.eq_iff_iff]
  simp only [List.all_eq_true, Bool.or_eq_true, Bool.not_eq_true', Bool.and_eq_false_iff, decide_eq_false_iff_not, decide_eq_true_eq, beq_iff_eq]
  constructor
  · intro h
    by_cases z1 : lo.2 = 0
    · exact .inl z1
    · by_cases z2 : hi.2 = 0
      · exact .inr (.inl z2)
      · right; right
        rcases h1 with ⟨e, _⟩ | ⟨j, q1, q2, q3, _⟩
        · rw [e] at z1; exact absurd rfl z1
        · rcases h2 with ⟨e, _⟩ | ⟨k, r1, r2, r3, _⟩
          · rw [e] at z2; exact absurd rfl z2
          · have l1 : (pA l j).1 < g.1 := by simpa [dirB] using q2
            have l2 : g.1 < (pA l k).1 := by simpa [dirB] using r2
            rw [q3, r3, meet_turn l1 l2]
            rcases h _ (pA_mem q1) _ (pA_mem r1) with h | h
            · rcases h with h | h <;> omega
            · simpa using h
  · intro h a ham c hcm
    by_cases l1 : a.1 < g.1
    · by_cases l2 : g.1 < c.1
      · right
        have da : dirB true g a = true := by simpa [dirB] using l1
        have dc : dirB false g c = true := by simpa [dirB] using l2
        have z1 : lo.2 ≠ 0 := fun e => by rw [none true lo h1 e a ham] at da; cases da
        have z2 : hi.2 ≠ 0 := fun e => by rw [none false hi h2 e c hcm] at dc; cases dc
        have hlt : ltR lo hi = true := by
          rcases h with h | h | h
          · exact absurd h z1
          · exact absurd h z2
          · exact h
        obtain ⟨j, hj, rfl⟩ := mem_pA ham
        obtain ⟨k, hk, rfl⟩ := mem_pA hcm
        have p1 := (side_ok hin hl (Nat.le_refl _) h1 z1).1
        have p2 := (side_ok hin hl (Nat.le_refl _) h2 z2).1
        have p3 := mt_pos hin hl hj da
        have p4 := mt_pos hin hl hk dc
        have b1 : ltR lo (mtX g (pA l j)) = false := by
          rcases h1 with ⟨e, _⟩ | ⟨_, _, _, _, q⟩
          · rw [e] at z1; exact absurd rfl z1
          · simpa [btB] using q j hj da
        have b2 : ltR (mtX g (pA l k)) hi = false := by
          rcases h2 with ⟨e, _⟩ | ⟨_, _, _, _, q⟩
          · rw [e] at z2; exact absurd rfl z2
          · simpa [btB] using q k hk dc
        have key : ltR (mtX g (pA l j)) (mtX g (pA l k)) = true := by
          cases hc : ltR (mtX g (pA l j)) (mtX g (pA l k)) with
          | true => rfl
          | false =>
            have c1 := lt_not' p2 p1 p4 hlt b2
            have c2 := lt_not' (x := mtX g (pA l j)) (y := lo) (z := mtX g (pA l k))
            exfalso
            unfold ltR at hlt b1 b2 hc
            rw [decide_eq_true_iff] at hlt
            rw [decide_eq_false_iff_not] at b1 b2 hc
            generalize mtX g (pA l j) = u at *
            generalize mtX g (pA l k) = v at *
            -- u ≤ lo < hi ≤ v ≤ u
            have s1 : u.1 * lo.2 ≤ lo.1 * u.2 := by omega
            have s2 : hi.1 * v.2 ≤ v.1 * hi.2 := by omega
            have s3 : v.1 * u.2 ≤ u.1 * v.2 := by omega
            have m1 := Int.mul_le_mul_of_nonneg_right s3 (show 0 ≤ lo.2 * hi.2 from Int.mul_nonneg (by omega) (by omega))
            have m2 := Int.mul_le_mul_of_nonneg_right s1 (show 0 ≤ v.2 * hi.2 from Int.mul_nonneg (by omega) (by omega))
            have m3 := Int.mul_le_mul_of_nonneg_right s2 (show 0 ≤ u.2 * lo.2 from Int.mul_nonneg (by omega) (by omega))
            have m4 := Int.mul_lt_mul_of_pos_right hlt (show 0 < u.2 * v.2 from Int.mul_pos p3 p4)
            grind
        rw [meet_turn l1 l2] at key
        simpa using key
      · exact .inl (.inr l2)
    · exact .inl (.inl l1)
theorem key_unique {key : Nat → Int} : ∀ {a b : List Nat}, a.Pairwise (fun x y => key x < key y) → b.Pairwise (fun x y => key x < key y) → (∀ x, x ∈ a ↔ x ∈ b) → a = b
  | [], [], _, _, _ => rfl
  | [], y :: b, _, _, h => absurd ((h y).2 (by simp)) (by simp)
  | x :: a, [], _, _, h => absurd ((h x).1 (by simp)) (by simp)
  | x :: a, y :: b, ha, hb, h => by
    rw [List.pairwise_cons] at ha hb
    have hxy : x = y := by
      rcases List.mem_cons.1 ((h x).1 (by simp)) with e | e
      · exact e
      · rcases List.mem_cons.1 ((h y).2 (by simp)) with e2 | e2
        · exact e2.symm
        · have := ha.1 y e2
          have := hb.1 x e; omega
    subst hxy
    refine congrArg _ (key_unique ha.2 hb.2 fun z => ?_)
    have hz := h z
    simp only [List.mem_cons] at hz
    constructor
    · intro hm
      rcases hz.1 (.inr hm) with e | e
      · subst e; have := ha.1 _ hm; omega
      · exact e
    · intro hm
      rcases hz.2 (.inr hm) with e | e
      · subst e; have := hb.1 _ hm; omega
      · exact e
end Go.Pl
