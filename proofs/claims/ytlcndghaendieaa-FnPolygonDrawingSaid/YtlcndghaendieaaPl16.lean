/- Corners of half-planes: the reference's question and the program's are the same. -/
import Derived.Test.YtlcndghaendieaaPl15
set_option linter.unusedVariables false
namespace Go.Pl

theorem red_self (a b : Int) : redR a b = (a.tdiv (Int.gcd a b), b.tdiv (Int.gcd a b)) := rfl
/-- Two fractions with one positive denominator, over the least one. -/
theorem com_den {x y d : Int} (hd : 0 < d) : ∃ m b1 b2 : Int, 0 < m ∧ redR (redR x d).2 (redR y d).2 = (b1, b2) ∧ 0 < b1 ∧ 0 < b2 ∧ 0 < (redR x d).2 ∧ 0 < (redR y d).2
    ∧ x = (redR x d).1 * b2 * m ∧ y = (redR y d).1 * b1 * m ∧ d = b1 * (redR y d).2 * m ∧ (redR x d).2 * b2 = b1 * (redR y d).2 := by
  obtain ⟨h1, a, b, ha, hb, hr, _⟩ := red_gcd (n := x) (d := d) (by omega)
  obtain ⟨h2, a', b', ha', hb', hr', _⟩ := red_gcd (n := y) (d := d) (by omega)
  obtain ⟨g1, hg1⟩ : ∃ g : Int, (Int.gcd x d : Int) = g := ⟨_, rfl⟩
  obtain ⟨g2, hg2⟩ : ∃ g : Int, (Int.gcd y d : Int) = g := ⟨_, rfl⟩
  rw [hg1] at ha hb h1
  rw [hg2] at ha' hb' h2
  rw [hr, hr']
  have pos : ∀ {u v : Int}, 0 < v → 0 < u * v → 0 < u := fun hv h => by
    rename_i u v
    by_cases c : 0 < u
    · exact c
    · have := Int.mul_nonneg (a := -u) (b := v) (by omega) (by omega)
      have e : -u * v = -(u * v) := Int.neg_mul u v
      omega
  have hb0 : 0 < b := pos h1 (by rw [← hb]; exact hd)
  have hb0' : 0 < b' := pos h2 (by rw [← hb']; exact hd)
  obtain ⟨h3, c, c', hc, hc', hr2, hcop⟩ := red_gcd (n := b) (d := b') (by omega)
  obtain ⟨g, hg⟩ : ∃ g : Int, (Int.gcd b b' : Int) = g := ⟨_, rfl⟩
  rw [hg] at hc hc' h3
  have hc0 : 0 < c := pos h3 (by rw [← hc]; exact hb0)
  have hc0' : 0 < c' := pos h3 (by rw [← hc']; exact hb0')
  have key : c * g1 = c' * g2 := by
    have e : g * (c * g1) = g * (c' * g2) := by
      have : b * g1 = b' * g2 := by rw [← hb, ← hb']
      rw [hc, hc'] at this
      grind
    exact Int.eq_of_mul_eq_mul_left (by omega) e
  have hdvd : c' ∣ g1 := by
    have n1 : c'.natAbs ∣ c.natAbs * g1.natAbs := by
      rw [← Int.natAbs_mul, key, Int.natAbs_mul]; exact Nat.dvd_mul_right _ _
    have n2 : Nat.Coprime c'.natAbs c.natAbs := by rw [Nat.coprime_comm]; exact hcop
    exact Int.natAbs_dvd_natAbs.1 (n2.dvd_of_dvd_mul_left n1)
  obtain ⟨m, hm⟩ := hdvd
  have hm0 : 0 < m := pos hc0' (by rw [Int.mul_comm, ← hm]; exact h1)
  have hg2' : g2 = c * m := by
    rw [hm] at key
    have : c' * (c * m) = c' * g2 := by rw [← key]; grind
    exact (Int.eq_of_mul_eq_mul_left (by omega) this).symm
  refine ⟨m, c, c', hm0, hr2, hc0, hc0', hb0, hb0', ?_, ?_, ?_, ?_⟩
  · simp only []; rw [ha, hm]; grind
  · simp only []; rw [ha', hg2']; grind
  · simp only []; rw [hb', hg2']; grind
  · simp only []; rw [hc, hc']; grind
/-- A point of fractions in the square of valid points. -/
def sqQ (p : QP) : Prop := 0 < p.1.2 ∧ 0 < p.2.2 ∧ p.1.2 ≤ 20000000 ∧ p.2.2 ≤ 20000000 ∧ (-(1000 * p.1.2) ≤ p.1.1 ∧ p.1.1 ≤ 1000 * p.1.2) ∧ (-(1000 * p.2.2) ≤ p.2.1 ∧ p.2.1 ≤ 1000 * p.2.2) ∧ (redR p.1.2 p.2.2).1 * p.2.2 ≤ 20000000
theorem side_eq (k : Hf) (p : QP) : sideQ k p = k.1 * (p.1.1 * (redR p.1.2 p.2.2).2) + k.2.1 * (p.2.1 * (redR p.1.2 p.2.2).1) - k.2.2 * (redR p.1.2 p.2.2).1 * p.2.2 := rfl
theorem has_side {x y d : Int} (hd : 0 < d) (k : Hf) : hasH x y d k = decide (sideQ k (redR x d, redR y d) ≤ 0) := by
  obtain ⟨m, b1, b2, hm, hr, h1, h2, h3, h4, hx, hy, hdd, _⟩ := com_den (x := x) (y := y) hd
  rw [side_eq]
  simp only []
  rw [hr]
  simp only []
  obtain ⟨p1, hp1⟩ : ∃ p1, (redR x d).1 = p1 := ⟨_, rfl⟩
  obtain ⟨q1, hq1⟩ : ∃ q1, (redR y d).1 = q1 := ⟨_, rfl⟩
  obtain ⟨q2, hq2⟩ : ∃ q2, (redR y d).2 = q2 := ⟨_, rfl⟩
  rw [hp1] at hx ⊢
  rw [hq1] at hy ⊢
  rw [hq2] at hdd ⊢
  have e : k.1 * x + k.2.1 * y - k.2.2 * d = (k.1 * (p1 * b2) + k.2.1 * (q1 * b1) - k.2.2 * b1 * q2) * m := by
    conv => lhs; rw [hx, hy, hdd]
    grind
  obtain ⟨S, hS⟩ : ∃ S, k.1 * (p1 * b2) + k.2.1 * (q1 * b1) - k.2.2 * b1 * q2 = S := ⟨_, rfl⟩
  rw [hS] at e ⊢
  rw [hasH]
  have h0 : (S ≤ 0) ↔ (k.1 * x + k.2.1 * y ≤ k.2.2 * d) := by
    constructor
    · intro h
      have := Int.mul_nonneg (a := -S) (b := m) (by omega) (by omega)
      have e2 : -S * m = -(S * m) := Int.neg_mul S m
      omega
    · intro h
      by_cases c : S ≤ 0
      · exact c
      · have := Int.mul_pos (a := S) (b := m) (by omega) hm
        omega
  rw [Bool.eq_iff_iff, decide_eq_true_iff, decide_eq_true_iff]; exact h0.symm
theorem red_sq1 {x d L : Int} (hd : 0 < d) : (-(L * (redR x d).2) ≤ (redR x d).1 ∧ (redR x d).1 ≤ L * (redR x d).2) ↔ (-(L * d) ≤ x ∧ x ≤ L * d) := by
  obtain ⟨h1, a, b, ha, hb, hr, _⟩ := red_gcd (n := x) (d := d) (by omega)
  obtain ⟨g1, hg1⟩ : ∃ g : Int, (Int.gcd x d : Int) = g := ⟨_, rfl⟩
  rw [hg1] at ha hb h1
  rw [hr]
  simp only []
  have e1 : L * d - x = (L * b - a) * g1 := by rw [ha, hb]; grind
  have e2 : L * d + x = (L * b + a) * g1 := by rw [ha, hb]; grind
  have key : ∀ S : Int, 0 ≤ S ↔ 0 ≤ S * g1 := fun S => by
    constructor
    · intro h; exact Int.mul_nonneg h (by omega)
    · intro h
      by_cases c : 0 ≤ S
      · exact c
      · have := Int.mul_pos (a := -S) (b := g1) (by omega) h1
        have e : -S * g1 = -(S * g1) := Int.neg_mul S g1
        omega
  have k1 := key (L * b - a)
  have k2 := key (L * b + a)
  rw [← e1] at k1
  rw [← e2] at k2
  obtain ⟨u, hu⟩ : ∃ u, L * b = u := ⟨_, rfl⟩
  obtain ⟨v, hv⟩ : ∃ v, L * d = v := ⟨_, rfl⟩
  rw [hu] at k1 k2 ⊢
  rw [hv] at k1 k2 ⊢
  omega
/-- What the reference asks of a point. -/
def sqB (p : QP) : Bool := decide (-(1000 * p.1.2) ≤ p.1.1 ∧ p.1.1 ≤ 1000 * p.1.2) && decide (-(1000 * p.2.2) ≤ p.2.1 ∧ p.2.1 ≤ 1000 * p.2.2)
def insH (all : List Hf) (p : QP) : Bool := all.all fun k => decide (sideQ k p ≤ 0)
theorem ins_has {x y d : Int} (hd : 0 < d) (all : List Hf) : insH all (redR x d, redR y d) = all.all (hasH x y d) := by
  unfold insH
  congr 1
  funext k
  exact (has_side hd k).symm
theorem sq_has {x y d : Int} (hd : 0 < d) {all : List Hf} (hb : ∀ k ∈ boxL, k ∈ all) (h : all.all (hasH x y d) = true) : sqB (redR x d, redR y d) = true := by
  rw [List.all_eq_true] at h
  have h1 := h _ (hb (1, 0, 1000) (by simp [boxL]))
  have h2 := h _ (hb (-1, 0, 1000) (by simp [boxL]))
  have h3 := h _ (hb (0, 1, 1000) (by simp [boxL]))
  have h4 := h _ (hb (0, -1, 1000) (by simp [boxL]))
  simp only [hasH, decide_eq_true_eq] at h1 h2 h3 h4
  simp only [sqB, Bool.and_eq_true, decide_eq_true_eq]
  exact ⟨(red_sq1 hd).2 (by omega), (red_sq1 hd).2 (by omega)⟩
theorem cand_ask {x y d : Int} (hd : 0 < d) {all : List Hf} (hb : ∀ k ∈ boxL, k ∈ all) : (sqB (redR x d, redR y d) && insH all (redR x d, redR y d)) = all.all (hasH x y d) := by
  rw [ins_has hd]
  cases h : all.all (hasH x y d) with
  | true => rw [sq_has hd hb h]; rfl
  | false => simp
theorem sq_red {x y d : Int} (hd : 0 < d) (h2 : d ≤ 20000000) (h : sqB (redR x d, redR y d) = true) : sqQ (redR x d, redR y d) := by
  obtain ⟨m, b1, b2, hm, hr, h1, h2', h3, h4, hx, hy, hdd, he⟩ := com_den (x := x) (y := y) hd
  simp only [sqB, Bool.and_eq_true, decide_eq_true_eq] at h
  have hp : 0 < b1 * (redR y d).2 := Int.mul_pos h1 h4
  have k1 : b1 * (redR y d).2 ≤ d := by
    have := Int.mul_nonneg (a := b1 * (redR y d).2) (b := m - 1) (by omega) (by omega)
    rw [Int.mul_sub, Int.mul_one, ← hdd] at this; omega
  have k2 : (redR y d).2 ≤ b1 * (redR y d).2 := by
    have := Int.mul_nonneg (a := b1 - 1) (b := (redR y d).2) (by omega) (by omega)
    rw [Int.sub_mul, Int.one_mul] at this; omega
  have k3 : (redR x d).2 ≤ (redR x d).2 * b2 := by
    have := Int.mul_nonneg (a := (redR x d).2) (b := b2 - 1) (by omega) (by omega)
    rw [Int.mul_sub, Int.mul_one] at this; omega
  refine ⟨h3, h4, by simp only []; omega, by simp only []; omega, h.1, h.2, ?_⟩
  simp only []
  rw [hr]; simp only []; omega
/-- What is needed to compute the side of a point. -/
theorem sq_facts {p : QP} (h : sqQ p) : ∃ b1 b2 : Int, redR p.1.2 p.2.2 = (b1, b2) ∧ 0 < b1 ∧ 0 < b2 ∧ p.1.2 * b2 = b1 * p.2.2 ∧ b1 * p.2.2 ≤ 20000000 ∧ b1 ≤ 20000000 ∧ b2 ≤ 20000000 ∧ (-20000000000 ≤ p.1.1 * b2 ∧ p.1.1 * b2 ≤ 20000000000) ∧ (-20000000000 ≤ p.2.1 * b1 ∧ p.2.1 * b1 ≤ 20000000000) ∧ (b1 * p.2.2).tdiv p.1.2 = b2 ∧ (b1 * p.2.2).tdiv p.2.2 = b1 := by
  obtain ⟨h1, h2, h3, h4, h5, h6, h7⟩ := h
  obtain ⟨k1, c, c', hc, hc', hr, _⟩ := red_gcd (n := p.1.2) (d := p.2.2) (by omega)
  obtain ⟨g, hg⟩ : ∃ g : Int, (Int.gcd p.1.2 p.2.2 : Int) = g := ⟨_, rfl⟩
  rw [hg] at hc hc' k1
  rw [hr] at h7
  simp only [] at h7
  have pos : ∀ {u v : Int}, 0 < v → 0 < u * v → 0 < u := fun hv h => by
    rename_i u v
    by_cases c : 0 < u
    · exact c
    · have := Int.mul_nonneg (a := -u) (b := v) (by omega) (by omega)
      have e : -u * v = -(u * v) := Int.neg_mul u v
      omega
  have hc0 : 0 < c := pos k1 (by rw [← hc]; exact h1)
  have hc0' : 0 < c' := pos k1 (by rw [← hc']; exact h2)
  have he : p.1.2 * c' = c * p.2.2 := by
    conv => lhs; rw [hc]
    conv => rhs; rw [hc']
    grind
  have l1 : c ≤ c * p.2.2 := by
    have := Int.mul_nonneg (a := c) (b := p.2.2 - 1) (by omega) (by omega)
    rw [Int.mul_sub, Int.mul_one] at this; omega
  have l2 : c' ≤ p.1.2 * c' := by
    have := Int.mul_nonneg (a := p.1.2 - 1) (b := c') (by omega) (by omega)
    rw [Int.sub_mul, Int.one_mul] at this; omega
  have m1 : -(1000 * (p.1.2 * c')) ≤ p.1.1 * c' ∧ p.1.1 * c' ≤ 1000 * (p.1.2 * c') := by
    have a1 := Int.mul_nonneg (a := 1000 * p.1.2 - p.1.1) (b := c') (by omega) (by omega)
    have a2 := Int.mul_nonneg (a := 1000 * p.1.2 + p.1.1) (b := c') (by omega) (by omega)
    rw [Int.sub_mul, Int.mul_assoc] at a1
    rw [Int.add_mul, Int.mul_assoc] at a2
    omega
  have m2 : -(1000 * (c * p.2.2)) ≤ p.2.1 * c ∧ p.2.1 * c ≤ 1000 * (c * p.2.2) := by
    have a1 := Int.mul_nonneg (a := 1000 * p.2.2 - p.2.1) (b := c) (by omega) (by omega)
    have a2 := Int.mul_nonneg (a := 1000 * p.2.2 + p.2.1) (b := c) (by omega) (by omega)
    rw [Int.sub_mul, Int.mul_assoc, Int.mul_comm p.2.2 c] at a1
    rw [Int.add_mul, Int.mul_assoc, Int.mul_comm p.2.2 c] at a2
    omega
  refine ⟨c, c', hr, hc0, hc0', he, h7, by omega, by omega, by omega, by omega, ?_, ?_⟩
  · rw [← he]; exact Int.mul_tdiv_cancel_left _ (by omega)
  · exact Int.mul_tdiv_cancel _ (by omega)
/-- The corners are in the square. -/
theorem corn_sq {l : List Hf} (hs : ∀ i, smH (hAt (l ++ boxL) i)) : ∀ q ∈ cornP l, sqQ q := by
  have hb : ∀ k ∈ boxL, k ∈ l ++ boxL := fun k hk => by simp [hk]
  have c1 : ∀ g h, smH g → smH h → ∀ q ∈ candL (l ++ boxL) g h, sqQ q := by
    intro g h hg hh q hq
    unfold candL at hq
    simp only [] at hq
    split at hq
    · cases hq
    · rename_i h0
      split at hq
      · rename_i ha
        simp only [List.mem_cons, List.not_mem_nil, or_false] at hq
        subst hq
        have hp := sgT_pos h0
        have b1 := sgT_bd (s := decide (denH g h < 0)) (den_bd hg hh)
        exact sq_red hp (by omega) (sq_has hp hb ha)
      · cases hq
  have c2 : ∀ i k, ∀ q ∈ rawRow (l ++ boxL) i k, sqQ q := by
    intro i k
    induction k with
    | zero => intro q hq; cases hq
    | succ k ih =>
      intro q hq
      rw [rawRow, List.mem_append] at hq
      rcases hq with h | h
      · exact ih q h
      · exact c1 _ _ (hs i) (hs k) q h
  have c3 : ∀ i, ∀ q ∈ rawAll (l ++ boxL) i, sqQ q := by
    intro i
    induction i with
    | zero => intro q hq; cases hq
    | succ i ih =>
      intro q hq
      rw [rawAll, List.mem_append] at hq
      rcases hq with h | h
      · exact ih q h
      · exact c2 i i q h
  intro q hq
  unfold cornP at hq
  have c4 : ∀ (m : List QP) (a : List QP), (∀ q ∈ a, sqQ q) → (∀ q ∈ m, sqQ q) → ∀ q ∈ m.foldl addQ a, sqQ q := by
    intro m
    induction m with
    | nil => intro a ha _ q hq; exact ha q hq
    | cons x m ih =>
      intro a ha hm q hq
      rw [List.foldl_cons] at hq
      refine ih (addQ a x) (fun z hz => ?_) (fun z hz => hm z (by simp [hz])) q hq
      rcases (mem_addG (lt := ltQ)).1 hz with h | h
      · subst h; exact hm z (by simp)
      · exact ha z h
  exact c4 _ [] (fun q hq => by cases hq) (c3 _) q hq
end Go.Pl
