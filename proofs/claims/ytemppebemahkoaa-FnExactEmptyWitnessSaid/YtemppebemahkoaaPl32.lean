/- Helly's theorem for half-planes within the square. -/
import Derived.Test.YtemppebemahkoaaPl19

namespace Go.Pl

/-- There is a point in all of some half-planes. -/
def Reg (l : List Hf) : Prop := ∃ x y d : Int, 0 < d ∧ ∀ k ∈ l ++ boxL, 0 ≤ gapH k x y d
theorem reg_corn {l : List Hf} : Reg l ↔ cornP l ≠ [] := by
  constructor
  · rintro ⟨x, y, d, hd, h⟩
    obtain ⟨q, hq, _⟩ := corner_above hd (l := l) (x := x) (y := y) (List.all_eq_true.2 fun k hk => has_gap.2 (h k hk))
    exact List.ne_nil_of_mem hq
  · intro h
    obtain ⟨q, hq⟩ := List.exists_mem_of_ne_nil _ h
    obtain ⟨x, y, d, hd, _, h2⟩ := corner_in hq
    exact ⟨x, y, d, hd, fun k hk => has_gap.1 (List.all_eq_true.1 h2 k hk)⟩
theorem reg_sub {l m : List Hf} (hs : ∀ k ∈ m, k ∈ l) (h : Reg l) : Reg m := by
  obtain ⟨x, y, d, hd, h⟩ := h
  refine ⟨x, y, d, hd, fun k hk => h k ?_⟩
  rcases List.mem_append.1 hk with q | q
  · exact List.mem_append.2 (.inl (hs k q))
  · exact List.mem_append.2 (.inr q)

theorem gap_scale (k : Hf) (x y d m : Int) : gapH k (x * m) (y * m) (d * m) = gapH k x y d * m := by unfold gapH; grind
/-- The gap at a point, with a common denominator. -/
def gp (D : Int) (k : Hf) (p : Pt) : Int := gapH k p.1 p.2 D
theorem gp_radon (D : Int) (k : Hf) (a b c d : Pt) : turn b c d * gp D k a + -turn a c d * gp D k b + turn a b d * gp D k c + -turn a b c * gp D k d = 0 := by
  unfold gp gapH turn; grind
theorem radon_sum (a b c d : Pt) : turn b c d + -turn a c d + turn a b d + -turn a b c = 0 := by unfold turn; grind
def posI (x : Int) : Int := if 0 < x then x else 0
theorem posI_nonneg (x : Int) : 0 ≤ posI x := by unfold posI; split <;> omega
theorem posI_sub (x : Int) : posI x - posI (-x) = x := by unfold posI; split <;> split <;> omega
theorem posI_or (x : Int) : posI x = 0 ∨ posI (-x) = 0 := by unfold posI; split <;> split <;> omega
def cmb (l1 l2 l3 l4 : Int) (a b c d : Int) : Int := posI l1 * a + posI l2 * b + posI l3 * c + posI l4 * d
theorem cmb_neg {l1 l2 l3 l4 a b c d : Int} (h : l1 * a + l2 * b + l3 * c + l4 * d = 0) : cmb l1 l2 l3 l4 a b c d = cmb (-l1) (-l2) (-l3) (-l4) a b c d := by
  have h1 := posI_sub l1
  have h2 := posI_sub l2
  have h3 := posI_sub l3
  have h4 := posI_sub l4
  unfold cmb
  generalize posI l1 = p1 at *
  generalize posI l2 = p2 at *
  generalize posI l3 = p3 at *
  generalize posI l4 = p4 at *
  generalize posI (-l1) = q1 at *
  generalize posI (-l2) = q2 at *
  generalize posI (-l3) = q3 at *
  generalize posI (-l4) = q4 at *
  have e1 : p1 = l1 + q1 := by omega
  have e2 : p2 = l2 + q2 := by omega
  have e3 : p3 = l3 + q3 := by omega
  have e4 : p4 = l4 + q4 := by omega
  subst e1 e2 e3 e4
  grind
theorem mul_nn {a b : Int} (ha : 0 ≤ a) (hb : a ≠ 0 → 0 ≤ b) : 0 ≤ a * b := by
  by_cases h : a = 0
  · rw [h, Int.zero_mul]; exact Int.le_refl 0
  · exact Int.mul_nonneg ha (hb h)
theorem cmb_nonneg {l1 l2 l3 l4 a b c d : Int} (h1 : posI l1 ≠ 0 → 0 ≤ a) (h2 : posI l2 ≠ 0 → 0 ≤ b) (h3 : posI l3 ≠ 0 → 0 ≤ c) (h4 : posI l4 ≠ 0 → 0 ≤ d) : 0 ≤ cmb l1 l2 l3 l4 a b c d := by
  have := mul_nn (posI_nonneg l1) h1
  have := mul_nn (posI_nonneg l2) h2
  have := mul_nn (posI_nonneg l3) h3
  have := mul_nn (posI_nonneg l4) h4
  unfold cmb; omega
/-- The middle one of three points on a line is where the others are. -/
theorem mid_gap {D : Int} {a b c : Pt} (ht : turn a b c = 0) (h1 : ltP b a = false) (h2 : ltP c b = false) (k : Hf) (ha : 0 ≤ gp D k a) (hc : 0 ≤ gp D k c) : 0 ≤ gp D k b := by
  have n1 : a.1 < b.1 ∨ a.1 = b.1 ∧ a.2 ≤ b.2 := by
    rw [Bool.eq_false_iff, Ne, ltP_iff] at h1; omega
  have n2 : b.1 < c.1 ∨ b.1 = c.1 ∧ b.2 ≤ c.2 := by
    rw [Bool.eq_false_iff, Ne, ltP_iff] at h2; omega
  rcases Int.lt_or_le a.1 c.1 with q | q
  · have e : (c.1 - a.1) * gp D k b = (c.1 - b.1) * gp D k a + (b.1 - a.1) * gp D k c := by
      unfold gp gapH; unfold turn at ht; grind
    have p1 : 0 ≤ (c.1 - b.1) * gp D k a := Int.mul_nonneg (by omega) ha
    have p2 : 0 ≤ (b.1 - a.1) * gp D k c := Int.mul_nonneg (by omega) hc
    rcases Int.lt_or_le (gp D k b) 0 with r | r
    · have := Int.mul_neg_of_pos_of_neg (show 0 < c.1 - a.1 by omega) r
      omega
    · exact r
  · have e1 : a.1 = b.1 := by omega
    have e2 : b.1 = c.1 := by omega
    rcases Int.lt_or_le a.2 c.2 with r | r
    · have e : (c.2 - a.2) * gp D k b = (c.2 - b.2) * gp D k a + (b.2 - a.2) * gp D k c := by
        unfold gp gapH; rw [e1, e2]; grind
      have p1 : 0 ≤ (c.2 - b.2) * gp D k a := Int.mul_nonneg (by omega) ha
      have p2 : 0 ≤ (b.2 - a.2) * gp D k c := Int.mul_nonneg (by omega) hc
      rcases Int.lt_or_le (gp D k b) 0 with s | s
      · have := Int.mul_neg_of_pos_of_neg (show 0 < c.2 - a.2 by omega) s
        omega
      · exact s
    · have : b = a := Prod.ext (by omega) (by omega)
      rw [this]; exact ha
theorem middle (D : Int) {a b c : Pt} (ht : turn a b c = 0) : (∀ k, 0 ≤ gp D k b → 0 ≤ gp D k c → 0 ≤ gp D k a) ∨ (∀ k, 0 ≤ gp D k a → 0 ≤ gp D k c → 0 ≤ gp D k b) ∨ (∀ k, 0 ≤ gp D k a → 0 ≤ gp D k b → 0 ≤ gp D k c) := by
  have tot : ∀ p q : Pt, ltP p q = false ∨ ltP q p = false := fun p q => by
    cases h : ltP p q with
    | false => exact .inl rfl
    | true => exact .inr (ltP_asymm h)
  have t1 : turn a c b = 0 := by unfold turn at *; grind
  have t2 : turn b a c = 0 := by unfold turn at *; grind
  have t3 : turn b c a = 0 := by unfold turn at *; grind
  have t4 : turn c a b = 0 := by unfold turn at *; grind
  have t5 : turn c b a = 0 := by unfold turn at *; grind
  rcases tot a b with h1 | h1 <;> rcases tot b c with h2 | h2 <;> rcases tot a c with h3 | h3
  · exact .inr (.inl fun k x y => mid_gap t5 h2 h1 k y x)
  · exact .inr (.inl fun k x y => mid_gap t5 h2 h1 k y x)
  · exact .inr (.inr fun k x y => mid_gap t3 h2 h3 k y x)
  · exact .inl fun k x y => mid_gap t2 h1 h3 k x y
  · exact .inl fun k x y => mid_gap t4 h3 h1 k y x
  · exact .inr (.inr fun k x y => mid_gap t1 h3 h2 k x y)
  · exact .inr (.inl fun k x y => mid_gap ht h1 h2 k x y)
  · exact .inr (.inl fun k x y => mid_gap ht h1 h2 k x y)

theorem radon {D : Int} (hD : 0 < D) {a b c d : Pt} {k1 k2 k3 k4 : Hf} {R : List Hf}
    (ha : ∀ k, k = k2 ∨ k = k3 ∨ k = k4 ∨ k ∈ R → 0 ≤ gp D k a) (hb : ∀ k, k = k1 ∨ k = k3 ∨ k = k4 ∨ k ∈ R → 0 ≤ gp D k b)
    (hc : ∀ k, k = k1 ∨ k = k2 ∨ k = k4 ∨ k ∈ R → 0 ≤ gp D k c) (hd : ∀ k, k = k1 ∨ k = k2 ∨ k = k3 ∨ k ∈ R → 0 ≤ gp D k d) :
    ∃ x y e : Int, 0 < e ∧ ∀ k, k = k1 ∨ k = k2 ∨ k = k3 ∨ k = k4 ∨ k ∈ R → 0 ≤ gapH k x y e := by
  have hr := fun k => gp_radon D k a b c d
  have hs := radon_sum a b c d
  by_cases hz : turn b c d = 0 ∧ turn a c d = 0 ∧ turn a b d = 0 ∧ turn a b c = 0
  · rcases middle D hz.2.2.2 with h | h | h
    · refine ⟨a.1, a.2, D, hD, fun k hk => ?_⟩
      rcases hk with rfl | hk
      · exact h _ (hb _ (.inl rfl)) (hc _ (.inl rfl))
      · exact ha k hk
    · refine ⟨b.1, b.2, D, hD, fun k hk => ?_⟩
      rcases hk with rfl | rfl | hk
      · exact hb _ (.inl rfl)
      · exact h _ (ha _ (.inl rfl)) (hc _ (.inr (.inl rfl)))
      · exact hb k (.inr hk)
    · refine ⟨c.1, c.2, D, hD, fun k hk => ?_⟩
      rcases hk with rfl | rfl | rfl | hk
      · exact hc _ (.inl rfl)
      · exact hc _ (.inr (.inl rfl))
      · exact h _ (ha _ (.inr (.inl rfl))) (hb _ (.inr (.inl rfl)))
      · exact hc k (.inr (.inr hk))
  · obtain ⟨l1, e1⟩ : ∃ x, turn b c d = x := ⟨_, rfl⟩
    obtain ⟨l2, e2⟩ : ∃ x, -turn a c d = x := ⟨_, rfl⟩
    obtain ⟨l3, e3⟩ : ∃ x, turn a b d = x := ⟨_, rfl⟩
    obtain ⟨l4, e4⟩ : ∃ x, -turn a b c = x := ⟨_, rfl⟩
    rw [e1, e2, e3, e4] at hs
    simp only [e1, e2, e3, e4] at hr
    have hz' : ¬ (l1 = 0 ∧ l2 = 0 ∧ l3 = 0 ∧ l4 = 0) := by omega
    have hw : 0 < posI l1 + posI l2 + posI l3 + posI l4 := by
      unfold posI
      split <;> split <;> split <;> split <;> omega
    have key : ∀ k, gapH k (cmb l1 l2 l3 l4 a.1 b.1 c.1 d.1) (cmb l1 l2 l3 l4 a.2 b.2 c.2 d.2) ((posI l1 + posI l2 + posI l3 + posI l4) * D) = cmb l1 l2 l3 l4 (gp D k a) (gp D k b) (gp D k c) (gp D k d) := by
      intro k; unfold cmb gp gapH; grind
    refine ⟨cmb l1 l2 l3 l4 a.1 b.1 c.1 d.1, cmb l1 l2 l3 l4 a.2 b.2 c.2 d.2, (posI l1 + posI l2 + posI l3 + posI l4) * D, Int.mul_pos hw hD, fun k hk => ?_⟩
    rw [key]
    rcases hk with rfl | rfl | rfl | rfl | hk
    · rcases posI_or l1 with h | h
      · exact cmb_nonneg (fun q => absurd h q) (fun _ => hb _ (.inl rfl)) (fun _ => hc _ (.inl rfl)) (fun _ => hd _ (.inl rfl))
      · rw [cmb_neg (hr _)]
        exact cmb_nonneg (fun q => absurd h q) (fun _ => hb _ (.inl rfl)) (fun _ => hc _ (.inl rfl)) (fun _ => hd _ (.inl rfl))
    · rcases posI_or l2 with h | h
      · exact cmb_nonneg (fun _ => ha _ (.inl rfl)) (fun q => absurd h q) (fun _ => hc _ (.inr (.inl rfl))) (fun _ => hd _ (.inr (.inl rfl)))
      · rw [cmb_neg (hr _)]
        exact cmb_nonneg (fun _ => ha _ (.inl rfl)) (fun q => absurd h q) (fun _ => hc _ (.inr (.inl rfl))) (fun _ => hd _ (.inr (.inl rfl)))
    · rcases posI_or l3 with h | h
      · exact cmb_nonneg (fun _ => ha _ (.inr (.inl rfl))) (fun _ => hb _ (.inr (.inl rfl))) (fun q => absurd h q) (fun _ => hd _ (.inr (.inr (.inl rfl))))
      · rw [cmb_neg (hr _)]
        exact cmb_nonneg (fun _ => ha _ (.inr (.inl rfl))) (fun _ => hb _ (.inr (.inl rfl))) (fun q => absurd h q) (fun _ => hd _ (.inr (.inr (.inl rfl))))
    · rcases posI_or l4 with h | h
      · exact cmb_nonneg (fun _ => ha _ (.inr (.inr (.inl rfl)))) (fun _ => hb _ (.inr (.inr (.inl rfl)))) (fun _ => hc _ (.inr (.inr (.inl rfl)))) (fun q => absurd h q)
      · rw [cmb_neg (hr _)]
        exact cmb_nonneg (fun _ => ha _ (.inr (.inr (.inl rfl)))) (fun _ => hb _ (.inr (.inr (.inl rfl)))) (fun _ => hc _ (.inr (.inr (.inl rfl)))) (fun q => absurd h q)
    · exact cmb_nonneg (fun _ => ha k (.inr (.inr (.inr hk)))) (fun _ => hb k (.inr (.inr (.inr hk)))) (fun _ => hc k (.inr (.inr (.inr hk)))) (fun _ => hd k (.inr (.inr (.inr hk))))

theorem reg_step {k1 k2 k3 k4 : Hf} {R : List Hf} (h1 : Reg (k2 :: k3 :: k4 :: R)) (h2 : Reg (k1 :: k3 :: k4 :: R)) (h3 : Reg (k1 :: k2 :: k4 :: R)) (h4 : Reg (k1 :: k2 :: k3 :: R)) : Reg (k1 :: k2 :: k3 :: k4 :: R) := by
  obtain ⟨x1, y1, d1, p1, g1⟩ := h1
  obtain ⟨x2, y2, d2, p2, g2⟩ := h2
  obtain ⟨x3, y3, d3, p3, g3⟩ := h3
  obtain ⟨x4, y4, d4, p4, g4⟩ := h4
  have hD : 0 < d1 * d2 * d3 * d4 := Int.mul_pos (Int.mul_pos (Int.mul_pos p1 p2) p3) p4
  have m1 : 0 < d2 * d3 * d4 := Int.mul_pos (Int.mul_pos p2 p3) p4
  have m2 : 0 < d1 * d3 * d4 := Int.mul_pos (Int.mul_pos p1 p3) p4
  have m3 : 0 < d1 * d2 * d4 := Int.mul_pos (Int.mul_pos p1 p2) p4
  have m4 : 0 < d1 * d2 * d3 := Int.mul_pos (Int.mul_pos p1 p2) p3
  have s : ∀ {x y d m : Int} {k : Hf}, 0 < m → d * m = d1 * d2 * d3 * d4 → 0 ≤ gapH k x y d → 0 ≤ gp (d1 * d2 * d3 * d4) k (x * m, y * m) := by
    intro x y d m k hm e h
    show 0 ≤ gapH k (x * m) (y * m) (d1 * d2 * d3 * d4)
    rw [← e, gap_scale]
    exact Int.mul_nonneg h (by omega)
  obtain ⟨x, y, e, he, h⟩ := radon hD (k1 := k1) (k2 := k2) (k3 := k3) (k4 := k4) (R := R ++ boxL) (a := (x1 * (d2 * d3 * d4), y1 * (d2 * d3 * d4))) (b := (x2 * (d1 * d3 * d4), y2 * (d1 * d3 * d4))) (c := (x3 * (d1 * d2 * d4), y3 * (d1 * d2 * d4))) (d := (x4 * (d1 * d2 * d3), y4 * (d1 * d2 * d3)))
    (fun k hk => s m1 (by grind) (g1 k (by simpa using hk))) (fun k hk => s m2 (by grind) (g2 k (by simpa using hk))) (fun k hk => s m3 (by grind) (g3 k (by simpa using hk))) (fun k hk => s m4 (by grind) (g4 k (by simpa using hk)))
  exact ⟨x, y, e, he, fun k hk => h k (by simpa using hk)⟩

/-- Helly: if each three have a common point, all have one. -/
theorem helly {l : List Hf} (h : ∀ ks : List Hf, ks.length ≤ 3 → (∀ k ∈ ks, k ∈ l) → Reg ks) : Reg l := by
  have key : ∀ (n : Nat) (ks : List Hf), ks.length ≤ n → (∀ k ∈ ks, k ∈ l) → Reg ks := by
    intro n
    induction n with
    | zero => intro ks hk hs; exact h ks (by omega) hs
    | succ n ih =>
      intro ks hk hs
      match ks, hk, hs with
      | [], hk, hs => exact h _ (by simp) hs
      | [_], hk, hs => exact h _ (by simp) hs
      | [_, _], hk, hs => exact h _ (by simp) hs
      | [_, _, _], hk, hs => exact h _ (by simp) hs
      | k1 :: k2 :: k3 :: k4 :: R, hk, hs =>
        simp only [List.length_cons] at hk
        simp only [List.mem_cons] at hs
        refine reg_step (ih _ (by simp only [List.length_cons]; omega) fun k hm => hs k ?_) (ih _ (by simp only [List.length_cons]; omega) fun k hm => hs k ?_) (ih _ (by simp only [List.length_cons]; omega) fun k hm => hs k ?_) (ih _ (by simp only [List.length_cons]; omega) fun k hm => hs k ?_)
        all_goals
          simp only [List.mem_cons] at hm
          rcases hm with e | e | e | e <;> simp [e]
  exact key l.length l (Nat.le_refl _) fun k hk => hk
end Go.Pl
