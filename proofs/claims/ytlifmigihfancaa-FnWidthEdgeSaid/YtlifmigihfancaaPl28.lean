/- Widths: two quotients compared by the parts of continued fractions, or by products; the first least quotient. -/
import Derived.Test.YtlifmigihfancaaPl4

namespace Go.Pl

/-- Is the first quotient the smaller one? (numerators are not negative, denominators are positive) -/
def ltF (x y : Int × Int) : Bool := decide (x.1 * y.2 < y.1 * x.2)

theorem part_q {a b : Int} (ha : 0 ≤ a) (hb : 0 < b) : ∃ q r : Int, a.tdiv b = q ∧ a.tmod b = r ∧ a = b * q + r ∧ 0 ≤ r ∧ r < b ∧ 0 ≤ q ∧ q ≤ a := by
  have h1 := Int.tmod_add_mul_tdiv a b
  have h2 := Int.tmod_nonneg b ha
  have h3 := Int.tmod_lt_of_pos a hb
  have h4 : 0 ≤ a.tdiv b := Int.tdiv_nonneg ha (by omega)
  have h5 : a.tdiv b ≤ a := by
    have := Int.mul_le_mul_of_nonneg_right (show (1 : Int) ≤ b by omega) h4
    omega
  exact ⟨_, _, rfl, rfl, by omega, h2, h3, h4, h5⟩

theorem frac_step {a b c d : Int} (ha : 0 ≤ a) (hb : 0 < b) (hc : 0 ≤ c) (hd : 0 < d) :
    (a.tdiv b ≠ c.tdiv d → ltF (a, b) (c, d) = decide (a.tdiv b < c.tdiv d)) ∧ (a.tdiv b = c.tdiv d → ltF (a, b) (c, d) = decide (a.tmod b * d < c.tmod d * b)) := by
  obtain ⟨q, r, e1, e2, ea, r0, r1, q0, _⟩ := part_q ha hb
  obtain ⟨p, s, e3, e4, ec, s0, s1, p0, _⟩ := part_q hc hd
  rw [e1, e2, e3, e4]
  have hbd : 0 < b * d := Int.mul_pos hb hd
  have hrd : 0 ≤ r * d := Int.mul_nonneg r0 (by omega)
  have hsb : 0 ≤ s * b := Int.mul_nonneg s0 (by omega)
  have hrd2 : r * d < b * d := Int.mul_lt_mul_of_pos_right r1 hd
  have hsb2 : s * b < b * d := by rw [Int.mul_comm b d]; exact Int.mul_lt_mul_of_pos_right s1 hb
  have x1 : a * d = b * d * q + r * d := by rw [ea]; grind
  have x2 : c * b = b * d * p + s * b := by rw [ec]; grind
  simp only [ltF]
  constructor
  · intro hne
    rcases Int.lt_or_gt_of_ne hne with h | h
    · have := Int.mul_le_mul_of_nonneg_left (show q + 1 ≤ p by omega) (show 0 ≤ b * d by omega)
      rw [Int.mul_add, Int.mul_one] at this
      rw [decide_eq_true h]
      exact decide_eq_true (by omega)
    · have := Int.mul_le_mul_of_nonneg_left (show p + 1 ≤ q by omega) (show 0 ≤ b * d by omega)
      rw [Int.mul_add, Int.mul_one] at this
      rw [decide_eq_false (show ¬ q < p by omega)]
      exact decide_eq_false (by omega)
  · rintro rfl
    rw [x1, x2]
    exact decide_eq_decide.2 (by omega)

/-- The next quotients, turned over. -/
theorem frac_turn {a b c d : Int} : ltF (d, c) (b, a) = decide (a * d < c * b) := by
  simp only [ltF]
  exact decide_eq_decide.2 (by rw [Int.mul_comm d a, Int.mul_comm b c])

/-- The comparison of two numbers by their upper and lower halves. -/
theorem half_lt {x y m : Nat} (hm : 0 < m) : (x / m < y / m ∨ x / m = y / m ∧ x % m < y % m) ↔ x < y := by
  have h1 := Nat.div_add_mod x m
  have h2 := Nat.div_add_mod y m
  have h3 := Nat.mod_lt x hm
  have h4 := Nat.mod_lt y hm
  constructor
  · rintro (h | ⟨h, k⟩)
    · have := Nat.mul_le_mul_left m (show x / m + 1 ≤ y / m from h)
      rw [Nat.mul_add, Nat.mul_one] at this
      omega
    · rw [h] at h1; omega
  · intro h
    rcases Nat.lt_trichotomy (x / m) (y / m) with k | k | k
    · exact .inl k
    · rw [k] at h1; exact .inr ⟨k, by omega⟩
    · exfalso
      have := Nat.mul_le_mul_left m (show y / m + 1 ≤ x / m from k)
      rw [Nat.mul_add, Nat.mul_one] at this
      omega

abbrev pA' (l : List Pt) (i : Nat) : Pt := l.getD i (0, 0)
/-- The largest cross product of the first points with an edge. -/
def mostN (h : List Pt) (a b : Pt) : Nat → Int
  | 0 => 0
  | k + 1 => max (mostN h a b k) (turn a b (pA' h k))
theorem mostN_nonneg (h : List Pt) (a b : Pt) : ∀ k, 0 ≤ mostN h a b k
  | 0 => Int.le_refl 0
  | k + 1 => by have := mostN_nonneg h a b k; simp only [mostN]; omega
theorem mostN_le {h : List Pt} {a b : Pt} {A : Int} (hA : 0 ≤ A) (hb : ∀ k, k < h.length → turn a b (pA' h k) ≤ A) : ∀ k, k ≤ h.length → mostN h a b k ≤ A
  | 0, _ => hA
  | k + 1, hk => by
    have := mostN_le hA hb k (by omega)
    have := hb k (by omega)
    simp only [mostN]; omega
/-- The squared width at an edge, as a quotient. -/
def wideP (h : List Pt) (i : Nat) : Int × Int :=
  (mostN h (pA' h i) (pA' h ((i + 1) % h.length)) h.length * mostN h (pA' h i) (pA' h ((i + 1) % h.length)) h.length, sqd (pA' h i) (pA' h ((i + 1) % h.length)))
/-- The first edge of the least width among the first ones. -/
def bestW (h : List Pt) : Nat → Nat
  | 0 => 0
  | i + 1 => if i = 0 then 0 else if ltF (wideP h i) (wideP h (bestW h i)) then i else bestW h i
theorem bestW_lt {h : List Pt} (h0 : 0 < h.length) : ∀ i, i ≤ h.length → bestW h i < h.length
  | 0, _ => h0
  | i + 1, hi => by
    have := bestW_lt h0 i (by omega)
    rw [bestW]
    split
    · exact h0
    · split <;> omega
theorem bestW_one (h : List Pt) : bestW h 1 = 0 := by rw [bestW]; simp
theorem bestW_succ {h : List Pt} {i : Nat} (hi : 0 < i) : bestW h (i + 1) = if ltF (wideP h i) (wideP h (bestW h i)) then i else bestW h i := by rw [bestW, if_neg (by omega)]
def widthP (h : List Pt) : Int := if h.length < 3 then -1 else (bestW h h.length : Int)
end Go.Pl
