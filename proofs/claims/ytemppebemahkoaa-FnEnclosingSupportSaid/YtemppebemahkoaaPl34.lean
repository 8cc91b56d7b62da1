/- Smallest circles: their centers. -/
import Derived.Test.YtemppebemahkoaaPl33
import Derived.Test.YtemppebemahkoaaPl10
import Derived.Test.YtemppebemahkoaaPl4

namespace Go.Pl

def dotV (a b c : Pt) : Int := (b.1 - a.1) * (c.1 - a.1) + (b.2 - a.2) * (c.2 - a.2)
/-- Do points determine a circle? -/
def detB : List Pt → Bool
  | [_] => true
  | [a, b] => !(a == b)
  | [a, b, c] => !(turn a b c == 0) && (decide (0 < dotV a b c) && (decide (0 < dotV b c a) && decide (0 < dotV c a b)))
  | _ => false
/-- Is a point in the circle that points determine? -/
def encS (S : List Pt) (q : Pt) : Bool := match S with
  | [a] => a == q
  | [a, b] => decide (dotV q a b ≤ 0)
  | [a, b, c] => decide (0 ≤ sgnI (inC a b c q) * sgnI (turn a b c))
  | _ => false
def selP (l : List Pt) (w : List Nat) : List Pt := w.map fun k => pA l k
def suppB (l : List Pt) (w : List Nat) : Bool := detB (selP l w) && l.all (encS (selP l w))
/-- The center, as two numerators and a denominator. -/
def cenP : List Pt → Int × Int × Int
  | [a] => (a.1, a.2, 1)
  | [a, b] => (a.1 + b.1, a.2 + b.2, 2)
  | [a, b, c] =>
    ((c.2 - a.2) * dotV a b b - (b.2 - a.2) * dotV a c c + a.1 * (2 * turn a b c), (b.1 - a.1) * dotV a c c - (c.1 - a.1) * dotV a b b + a.2 * (2 * turn a b c), 2 * turn a b c)
  | _ => (0, 0, 1)
/-- The square of the scaled distance from the center. -/
def offC (C : Int × Int × Int) (q : Pt) : Int := (C.2.2 * q.1 - C.1) * (C.2.2 * q.1 - C.1) + (C.2.2 * q.2 - C.2.1) * (C.2.2 * q.2 - C.2.1)
def dirC (C : Int × Int × Int) (q : Pt) (v1 v2 : Int) : Int := (C.2.2 * q.1 - C.1) * v1 + (C.2.2 * q.2 - C.2.1) * v2
structure Circ (S : List Pt) (C : Int × Int × Int) (R : Int) : Prop where
  den : C.2.2 ≠ 0
  on : ∀ s ∈ S, offC C s = R
  around : ∀ v1 v2, ∃ s ∈ S, 0 ≤ dirC C s v1 v2
  enc : ∀ q, encS S q = true → offC C q ≤ R
theorem sgn_mul {x y : Int} (h : 0 ≤ sgnI x * sgnI y) : 0 ≤ x * y := by
  unfold sgnI at h
  split at h <;> split at h <;> (try split at h) <;> (try split at h) <;> first
    | omega
    | exact Int.mul_nonneg (by omega) (by omega)
    | (have : x = 0 := by omega
       rw [this]; simp)
    | (have : y = 0 := by omega
       rw [this]; simp)
    | (have := Int.mul_nonneg (show 0 ≤ -x by omega) (show 0 ≤ -y by omega)
       rw [Int.neg_mul_neg] at this; exact this)
theorem pow_id (u1 u2 v1 v2 q1 q2 : Int) :
    2 * (u1 * v2 - u2 * v1) * (q1 * q1 + q2 * q2) - 2 * (q1 * (v2 * (u1 * u1 + u2 * u2) - u2 * (v1 * v1 + v2 * v2)) + q2 * (u1 * (v1 * v1 + v2 * v2) - v1 * (u1 * u1 + u2 * u2)))
      = -2 * inC (0, 0) (u1, u2) (v1, v2) (q1, q2) := by unfold inC; grind
theorem inC_mv (a b c q : Pt) : inC (0, 0) (b.1 - a.1, b.2 - a.2) (c.1 - a.1, c.2 - a.2) (q.1 - a.1, q.2 - a.2) = inC a b c q := by
  unfold inC; grind
theorem inC_at1 (u1 u2 v1 v2 : Int) : inC (0, 0) (u1, u2) (v1, v2) (0, 0) = 0 := by unfold inC; grind
theorem inC_at2 (u1 u2 v1 v2 : Int) : inC (0, 0) (u1, u2) (v1, v2) (u1, u2) = 0 := by unfold inC; grind
theorem inC_at3 (u1 u2 v1 v2 : Int) : inC (0, 0) (u1, u2) (v1, v2) (v1, v2) = 0 := by unfold inC; grind
/-- The scaled distance of a point from the center of three. -/
theorem off_three (a b c q : Pt) : offC (cenP [a, b, c]) q - offC (cenP [a, b, c]) a = -4 * (turn a b c * inC a b c q) := by
  have h := pow_id (b.1 - a.1) (b.2 - a.2) (c.1 - a.1) (c.2 - a.2) (q.1 - a.1) (q.2 - a.2)
  rw [inC_mv] at h
  simp only [offC, cenP]
  have ed : dotV a b b = (b.1 - a.1) * (b.1 - a.1) + (b.2 - a.2) * (b.2 - a.2) := rfl
  have ec : dotV a c c = (c.1 - a.1) * (c.1 - a.1) + (c.2 - a.2) * (c.2 - a.2) := rfl
  have et : turn a b c = (b.1 - a.1) * (c.2 - a.2) - (b.2 - a.2) * (c.1 - a.1) := rfl
  rw [← ed, ← ec, ← et] at h
  generalize dotV a b b = U at *
  generalize dotV a c c = V at *
  generalize turn a b c = t at *
  generalize inC a b c q = D at *
  obtain ⟨x0, hx⟩ : ∃ x, (c.2 - a.2) * U - (b.2 - a.2) * V = x := ⟨_, rfl⟩
  obtain ⟨y0, hy⟩ : ∃ x, (b.1 - a.1) * V - (c.1 - a.1) * U = x := ⟨_, rfl⟩
  rw [hx, hy] at h
  rw [hx, hy]
  clear hx hy ed ec et
  have e : (2 * t * q.1 - (x0 + a.1 * (2 * t))) * (2 * t * q.1 - (x0 + a.1 * (2 * t))) + (2 * t * q.2 - (y0 + a.2 * (2 * t))) * (2 * t * q.2 - (y0 + a.2 * (2 * t))) - ((2 * t * a.1 - (x0 + a.1 * (2 * t))) * (2 * t * a.1 - (x0 + a.1 * (2 * t))) + (2 * t * a.2 - (y0 + a.2 * (2 * t))) * (2 * t * a.2 - (y0 + a.2 * (2 * t))))
      = 2 * t * (2 * t * ((q.1 - a.1) * (q.1 - a.1) + (q.2 - a.2) * (q.2 - a.2)) - 2 * ((q.1 - a.1) * x0 + (q.2 - a.2) * y0)) := by grind
  rw [e, h]; grind
theorem bary (u1 u2 v1 v2 : Int) :
    2 * (u1 * v2 - u2 * v1) * ((v1 * v1 + v2 * v2) * (u1 * (u1 - v1) + u2 * (u2 - v2)) * u1 + (u1 * u1 + u2 * u2) * (v1 * (v1 - u1) + v2 * (v2 - u2)) * v1)
      = (((u1 - v1) * (u1 - v1) + (u2 - v2) * (u2 - v2)) * (u1 * v1 + u2 * v2) + (v1 * v1 + v2 * v2) * (u1 * (u1 - v1) + u2 * (u2 - v2)) + (u1 * u1 + u2 * u2) * (v1 * (v1 - u1) + v2 * (v2 - u2))) * (v2 * (u1 * u1 + u2 * u2) - u2 * (v1 * v1 + v2 * v2))
    ∧ 2 * (u1 * v2 - u2 * v1) * ((v1 * v1 + v2 * v2) * (u1 * (u1 - v1) + u2 * (u2 - v2)) * u2 + (u1 * u1 + u2 * u2) * (v1 * (v1 - u1) + v2 * (v2 - u2)) * v2)
      = (((u1 - v1) * (u1 - v1) + (u2 - v2) * (u2 - v2)) * (u1 * v1 + u2 * v2) + (v1 * v1 + v2 * v2) * (u1 * (u1 - v1) + u2 * (u2 - v2)) + (u1 * u1 + u2 * u2) * (v1 * (v1 - u1) + v2 * (v2 - u2))) * (u1 * (v1 * v1 + v2 * v2) - v1 * (u1 * u1 + u2 * u2)) := by
  constructor <;> grind
theorem sum_pos {x y : Int} (h : x ≠ 0 ∨ y ≠ 0) : 0 < x * x + y * y := by
  have h1 := sq_nonneg x
  have h2 := sq_nonneg y
  rcases h with h | h
  · have := Int.mul_pos_of_neg_of_neg (a := x) (b := x)
    rcases Int.lt_or_gt_of_ne h with q | q
    · have := Int.mul_pos_of_neg_of_neg q q; omega
    · have := Int.mul_pos q q; omega
  · rcases Int.lt_or_gt_of_ne h with q | q
    · have := Int.mul_pos_of_neg_of_neg q q; omega
    · have := Int.mul_pos q q; omega
theorem circ_one (a : Pt) : Circ [a] (cenP [a]) 0 := by
  refine ⟨show (1 : Int) ≠ 0 by decide, fun s hs => ?_, fun v1 v2 => ⟨a, by simp, ?_⟩, fun q hq => ?_⟩
  · rw [List.mem_singleton.1 hs]; simp [offC, cenP]
  · simp [dirC, cenP]
  · simp only [encS, beq_iff_eq] at hq
    subst hq; simp [offC, cenP]
theorem circ_two {a b : Pt} : Circ [a, b] (cenP [a, b]) (sqd a b) := by
  refine ⟨show (2 : Int) ≠ 0 by decide, fun s hs => ?_, fun v1 v2 => ?_, fun q hq => ?_⟩
  · simp only [List.mem_cons, List.not_mem_nil, or_false] at hs
    rcases hs with rfl | rfl
    · simp only [offC, cenP, sqd]; grind
    · simp only [offC, cenP, sqd]; grind
  · have e : dirC (cenP [a, b]) b v1 v2 = -dirC (cenP [a, b]) a v1 v2 := by simp only [dirC, cenP]; grind
    rcases Int.le_total 0 (dirC (cenP [a, b]) a v1 v2) with h | h
    · exact ⟨a, by simp, h⟩
    · exact ⟨b, by simp, by omega⟩
  · simp only [encS, decide_eq_true_eq] at hq
    have e : offC (cenP [a, b]) q = sqd a b + 4 * dotV q a b := by simp only [offC, cenP, sqd, dotV]; grind
    omega
theorem circ_three {a b c : Pt} (h : detB [a, b, c] = true) : Circ [a, b, c] (cenP [a, b, c]) (offC (cenP [a, b, c]) a) := by
  simp only [detB, Bool.and_eq_true, decide_eq_true_eq, Bool.not_eq_true', beq_eq_false_iff_ne] at h
  obtain ⟨ht, h1, h2, h3⟩ := h
  have hoff := off_three a b c
  refine ⟨?_, fun s hs => ?_, fun v1 v2 => ?_, fun q hq => ?_⟩
  · show 2 * turn a b c ≠ 0; omega
  · simp only [List.mem_cons, List.not_mem_nil, or_false] at hs
    have := hoff s
    have key : inC a b c s = 0 := by
      rw [← inC_mv]
      rcases hs with rfl | rfl | rfl
      · rw [Int.sub_self, Int.sub_self]; exact inC_at1 _ _ _ _
      · exact inC_at2 _ _ _ _
      · exact inC_at3 _ _ _ _
    rw [key] at this; omega
  · obtain ⟨k1, k2⟩ := bary (b.1 - a.1) (b.2 - a.2) (c.1 - a.1) (c.2 - a.2)
    -- the weights
    have w1 : 0 < ((b.1 - a.1) - (c.1 - a.1)) * ((b.1 - a.1) - (c.1 - a.1)) + ((b.2 - a.2) - (c.2 - a.2)) * ((b.2 - a.2) - (c.2 - a.2)) := by
      refine sum_pos ?_
      apply Classical.byContradiction
      intro hc
      have e1 : b.1 = c.1 := by omega
      have e2 : b.2 = c.2 := by omega
      apply ht; unfold turn; rw [e1, e2, Int.mul_comm]; omega
    have w2 : 0 < (c.1 - a.1) * (c.1 - a.1) + (c.2 - a.2) * (c.2 - a.2) := by
      refine sum_pos ?_
      apply Classical.byContradiction
      intro hc
      have e1 : c.1 - a.1 = 0 := by omega
      have e2 : c.2 - a.2 = 0 := by omega
      apply ht; unfold turn; rw [e1, e2]; simp
    have w3 : 0 < (b.1 - a.1) * (b.1 - a.1) + (b.2 - a.2) * (b.2 - a.2) := by
      refine sum_pos ?_
      apply Classical.byContradiction
      intro hc
      have e1 : b.1 - a.1 = 0 := by omega
      have e2 : b.2 - a.2 = 0 := by omega
      apply ht; unfold turn; rw [e1, e2]; simp
    have d1 : (b.1 - a.1) * (c.1 - a.1) + (b.2 - a.2) * (c.2 - a.2) = dotV a b c := rfl
    have d2 : (b.1 - a.1) * ((b.1 - a.1) - (c.1 - a.1)) + (b.2 - a.2) * ((b.2 - a.2) - (c.2 - a.2)) = dotV b c a := by unfold dotV; grind
    have d3 : (c.1 - a.1) * ((c.1 - a.1) - (b.1 - a.1)) + (c.2 - a.2) * ((c.2 - a.2) - (b.2 - a.2)) = dotV c a b := by unfold dotV; grind
    rw [d1, d2, d3] at k1 k2
    have p1 := Int.mul_pos w1 h1
    have p2 := Int.mul_pos w2 h2
    have p3 := Int.mul_pos w3 h3
    have et : turn a b c = (b.1 - a.1) * (c.2 - a.2) - (b.2 - a.2) * (c.1 - a.1) := rfl
    rw [← et] at k1 k2
    have eu : dotV a b b = (b.1 - a.1) * (b.1 - a.1) + (b.2 - a.2) * (b.2 - a.2) := rfl
    have ev : dotV a c c = (c.1 - a.1) * (c.1 - a.1) + (c.2 - a.2) * (c.2 - a.2) := rfl
    rw [← eu, ← ev] at k1 k2
    rw [← ev] at p2
    rw [← eu] at p3
    generalize hl0 : (((b.1 - a.1) - (c.1 - a.1)) * ((b.1 - a.1) - (c.1 - a.1)) + ((b.2 - a.2) - (c.2 - a.2)) * ((b.2 - a.2) - (c.2 - a.2))) * dotV a b c = L0 at *
    generalize hl1 : dotV a c c * dotV b c a = L1 at *
    generalize hl2 : dotV a b b * dotV c a b = L2 at *
    obtain ⟨x0, hx⟩ : ∃ x, (c.2 - a.2) * dotV a b b - (b.2 - a.2) * dotV a c c = x := ⟨_, rfl⟩
    obtain ⟨y0, hy⟩ : ∃ x, (b.1 - a.1) * dotV a c c - (c.1 - a.1) * dotV a b b = x := ⟨_, rfl⟩
    rw [hx] at k1
    rw [hy] at k2
    have hC : cenP [a, b, c] = (x0 + a.1 * (2 * turn a b c), y0 + a.2 * (2 * turn a b c), 2 * turn a b c) := by simp only [cenP, hx, hy]
    have hz : L0 * dirC (cenP [a, b, c]) a v1 v2 + L1 * dirC (cenP [a, b, c]) b v1 v2 + L2 * dirC (cenP [a, b, c]) c v1 v2 = 0 := by
      rw [hC]; simp only [dirC]
      have e : L0 * ((2 * turn a b c * a.1 - (x0 + a.1 * (2 * turn a b c))) * v1 + (2 * turn a b c * a.2 - (y0 + a.2 * (2 * turn a b c))) * v2) +
          L1 * ((2 * turn a b c * b.1 - (x0 + a.1 * (2 * turn a b c))) * v1 + (2 * turn a b c * b.2 - (y0 + a.2 * (2 * turn a b c))) * v2) +
          L2 * ((2 * turn a b c * c.1 - (x0 + a.1 * (2 * turn a b c))) * v1 + (2 * turn a b c * c.2 - (y0 + a.2 * (2 * turn a b c))) * v2)
          = (2 * turn a b c * (L1 * (b.1 - a.1) + L2 * (c.1 - a.1)) - (L0 + L1 + L2) * x0) * v1 + (2 * turn a b c * (L1 * (b.2 - a.2) + L2 * (c.2 - a.2)) - (L0 + L1 + L2) * y0) * v2 := by grind
      rw [e, k1, k2]; simp
    apply Classical.byContradiction
    intro hno
    have n1 : dirC (cenP [a, b, c]) a v1 v2 < 0 := by
      apply Int.not_le.1; intro hh; exact hno ⟨a, by simp, hh⟩
    have n2 : dirC (cenP [a, b, c]) b v1 v2 < 0 := by
      apply Int.not_le.1; intro hh; exact hno ⟨b, by simp, hh⟩
    have n3 : dirC (cenP [a, b, c]) c v1 v2 < 0 := by
      apply Int.not_le.1; intro hh; exact hno ⟨c, by simp, hh⟩
    have := Int.mul_neg_of_pos_of_neg p1 n1
    have := Int.mul_neg_of_pos_of_neg p2 n2
    have := Int.mul_neg_of_pos_of_neg p3 n3
    omega
  · have := hoff q
    simp only [encS, decide_eq_true_eq] at hq
    rw [Int.mul_comm] at hq
    have := sgn_mul hq
    omega
theorem circ_of {S : List Pt} (h : detB S = true) : ∃ R, Circ S (cenP S) R := by
  match S, h with
  | [a], _ => exact ⟨_, circ_one a⟩
  | [a, b], _ => exact ⟨_, circ_two⟩
  | [a, b, c], h => exact ⟨_, circ_three h⟩

/-- Circles that have each other's points have the same center. -/
theorem circ_unique {S1 S2 : List Pt} {C1 C2 : Int × Int × Int} {R1 R2 : Int} (h1 : Circ S1 C1 R1) (h2 : Circ S2 C2 R2) (e1 : ∀ s ∈ S1, encS S2 s = true) (e2 : ∀ s ∈ S2, encS S1 s = true) :
    C1.1 * C2.2.2 = C2.1 * C1.2.2 ∧ C1.2.1 * C2.2.2 = C2.2.1 * C1.2.2 := by
  have key : ∀ {S1 S2 : List Pt} {C1 C2 : Int × Int × Int} {R1 R2 : Int}, Circ S1 C1 R1 → Circ S2 C2 R2 → (∀ s ∈ S1, encS S2 s = true) →
      R1 * (C2.2.2 * C2.2.2) + ((C1.1 * C2.2.2 - C2.1 * C1.2.2) * (C1.1 * C2.2.2 - C2.1 * C1.2.2) + (C1.2.1 * C2.2.2 - C2.2.1 * C1.2.2) * (C1.2.1 * C2.2.2 - C2.2.1 * C1.2.2)) ≤ R2 * (C1.2.2 * C1.2.2) := by
    intro S1 S2 C1 C2 R1 R2 h1 h2 e
    obtain ⟨s, hs, hd⟩ := h1.around (C2.2.2 * (C1.1 * C2.2.2 - C2.1 * C1.2.2)) (C2.2.2 * (C1.2.1 * C2.2.2 - C2.2.1 * C1.2.2))
    have a1 := h1.on s hs
    have a2 := h2.enc s (e s hs)
    have a3 := Int.mul_le_mul_of_nonneg_right a2 (sq_nonneg C1.2.2)
    have e2 : offC C2 s * (C1.2.2 * C1.2.2) = offC C1 s * (C2.2.2 * C2.2.2) + 2 * dirC C1 s (C2.2.2 * (C1.1 * C2.2.2 - C2.1 * C1.2.2)) (C2.2.2 * (C1.2.1 * C2.2.2 - C2.2.1 * C1.2.2)) + ((C1.1 * C2.2.2 - C2.1 * C1.2.2) * (C1.1 * C2.2.2 - C2.1 * C1.2.2) + (C1.2.1 * C2.2.2 - C2.2.1 * C1.2.2) * (C1.2.1 * C2.2.2 - C2.2.1 * C1.2.2)) := by
      simp only [offC, dirC]; grind
    rw [a1] at e2
    omega
  have k1 := key h1 h2 e1
  have k2 := key h2 h1 e2
  have s1 := sq_nonneg (C1.1 * C2.2.2 - C2.1 * C1.2.2)
  have s2 := sq_nonneg (C1.2.1 * C2.2.2 - C2.2.1 * C1.2.2)
  have m1 : (C2.1 * C1.2.2 - C1.1 * C2.2.2) * (C2.1 * C1.2.2 - C1.1 * C2.2.2) = (C1.1 * C2.2.2 - C2.1 * C1.2.2) * (C1.1 * C2.2.2 - C2.1 * C1.2.2) := by grind
  have m2 : (C2.2.1 * C1.2.2 - C1.2.1 * C2.2.2) * (C2.2.1 * C1.2.2 - C1.2.1 * C2.2.2) = (C1.2.1 * C2.2.2 - C2.2.1 * C1.2.2) * (C1.2.1 * C2.2.2 - C2.2.1 * C1.2.2) := by grind
  rw [m1, m2] at k2
  constructor
  · apply Classical.byContradiction
    intro hne
    have := sum_pos (x := C1.1 * C2.2.2 - C2.1 * C1.2.2) (y := 0) (.inl (by omega))
    omega
  · apply Classical.byContradiction
    intro hne
    have := sum_pos (x := C1.2.1 * C2.2.2 - C2.2.1 * C1.2.2) (y := 0) (.inl (by omega))
    omega
/-- The points on a smallest circle are vertices of the hull. -/
theorem circ_hull {S l : List Pt} {C : Int × Int × Int} {R : Int} (h : Circ S C R) (hS : ∀ s ∈ S, s ∈ l) (he : ∀ q ∈ l, encS S q = true) : ∀ s ∈ S, s ∈ hullP l := by
  intro s hs
  obtain ⟨v, hv, hl⟩ := hullP_sup l (C.2.2 * (C.2.2 * s.1 - C.1)) (C.2.2 * (C.2.2 * s.2 - C.2.1)) (hS s hs)
  have a1 := h.on s hs
  have a2 := h.enc v (he v (mem_hullP_sub hv))
  unfold lin at hl
  have e : offC C v = offC C s + 2 * (C.2.2 * (C.2.2 * s.1 - C.1) * v.1 + C.2.2 * (C.2.2 * s.2 - C.2.1) * v.2 - (C.2.2 * (C.2.2 * s.1 - C.1) * s.1 + C.2.2 * (C.2.2 * s.2 - C.2.1) * s.2)) + (C.2.2 * (v.1 - s.1) * (C.2.2 * (v.1 - s.1)) + C.2.2 * (v.2 - s.2) * (C.2.2 * (v.2 - s.2))) := by
    simp only [offC]; grind
  have hz : ¬ (0 < C.2.2 * (v.1 - s.1) * (C.2.2 * (v.1 - s.1)) + C.2.2 * (v.2 - s.2) * (C.2.2 * (v.2 - s.2))) := by omega
  have q1 : C.2.2 * (v.1 - s.1) = 0 := by
    apply Classical.byContradiction
    intro hne; exact hz (sum_pos (.inl hne))
  have q2 : C.2.2 * (v.2 - s.2) = 0 := by
    apply Classical.byContradiction
    intro hne; exact hz (sum_pos (.inr hne))
  have z1 : v.1 - s.1 = 0 := (Int.mul_eq_zero.1 q1).resolve_left h.den
  have z2 : v.2 - s.2 = 0 := (Int.mul_eq_zero.1 q2).resolve_left h.den
  have : v = s := Prod.ext (by omega) (by omega)
  rw [← this]; exact hv

/-! the order of the points does not matter -/
theorem det_rot (a b c : Pt) : detB [b, c, a] = detB [a, b, c] := by
  simp only [detB]
  rw [turn_cyc, Bool.eq_iff_iff]
  simp only [Bool.and_eq_true]
  constructor <;> rintro ⟨h1, h2, h3, h4⟩ <;> first | exact ⟨h1, h4, h2, h3⟩ | exact ⟨h1, h3, h4, h2⟩
theorem dotV_comm (a b c : Pt) : dotV a b c = dotV a c b := by unfold dotV; grind
theorem turn_swap (a b c : Pt) : turn b a c = -turn a b c := by unfold turn; grind
theorem det_swap (a b c : Pt) : detB [b, a, c] = detB [a, b, c] := by
  have e : (turn b a c == 0) = (turn a b c == 0) := by
    rw [turn_swap, Bool.eq_iff_iff, beq_iff_eq, beq_iff_eq]; omega
  simp only [detB]
  rw [e, dotV_comm b a c, dotV_comm a c b, dotV_comm c b a, Bool.eq_iff_iff]
  simp only [Bool.and_eq_true]
  constructor <;> rintro ⟨h1, h2, h3, h4⟩ <;> exact ⟨h1, h3, h2, h4⟩
theorem inC_rot (a b c q : Pt) : inC b c a q = inC a b c q := by unfold inC; grind
theorem inC_swap (a b c q : Pt) : inC b a c q = -inC a b c q := by unfold inC; grind
theorem enc_rot (a b c q : Pt) : encS [b, c, a] q = encS [a, b, c] q := by simp only [encS]; rw [turn_cyc, inC_rot]
theorem sgnI_neg (x : Int) : sgnI (-x) = -sgnI x := by unfold sgnI; split <;> split <;> (try split) <;> (try split) <;> omega
theorem enc_swap (a b c q : Pt) : encS [b, a, c] q = encS [a, b, c] q := by simp only [encS]; rw [turn_swap, inC_swap, sgnI_neg, sgnI_neg, Int.neg_mul_neg]
theorem det_ne {a b c : Pt} (h : detB [a, b, c] = true) : a ≠ b ∧ b ≠ c ∧ a ≠ c := by
  simp only [detB, Bool.and_eq_true, Bool.not_eq_true', beq_eq_false_iff_ne] at h
  have ht := h.1
  refine ⟨?_, ?_, ?_⟩ <;> rintro rfl <;> apply ht <;> unfold turn <;> grind
/-- The same points in another order. -/
theorem perm_three {a b c p q r : Pt} (hd : detB [a, b, c] = true) (h1 : p ≠ q) (h2 : q ≠ r) (h3 : p ≠ r) (hp : p = a ∨ p = b ∨ p = c) (hq : q = a ∨ q = b ∨ q = c) (hr : r = a ∨ r = b ∨ r = c) :
    detB [p, q, r] = true ∧ ∀ x, encS [p, q, r] x = encS [a, b, c] x := by
  have r1 := det_rot a b c
  have r2 := det_rot b c a
  have s0 := det_swap a b c
  have s1 := det_swap b c a
  have s2 := det_swap c a b
  have hd1 : detB [b, c, a] = true := r1.trans hd
  have hd2 : detB [c, a, b] = true := r2.trans hd1
  rcases hp with rfl | rfl | rfl <;> rcases hq with rfl | rfl | rfl <;> rcases hr with rfl | rfl | rfl <;> first
    | exact absurd rfl h1
    | exact absurd rfl h2
    | exact absurd rfl h3
    | exact ⟨hd, fun x => rfl⟩
    | exact ⟨hd1, fun x => enc_rot _ _ _ x⟩
    | exact ⟨hd2, fun x => (enc_rot _ _ _ x).trans (enc_rot _ _ _ x)⟩
    | exact ⟨s0.trans hd, fun x => enc_swap _ _ _ x⟩
    | exact ⟨s1.trans hd1, fun x => (enc_swap _ _ _ x).trans (enc_rot _ _ _ x)⟩
    | exact ⟨s2.trans hd2, fun x => (enc_swap _ _ _ x).trans ((enc_rot _ _ _ x).trans (enc_rot _ _ _ x))⟩

theorem idx_of {h : List Pt} {p : Pt} (hp : p ∈ h) : ∃ i, i < h.length ∧ pA h i = p := by
  obtain ⟨i, hi, e⟩ := List.mem_iff_getElem.1 hp
  exact ⟨i, hi, by simp [pA, List.getD, hi, e]⟩
theorem supp_facts {l : List Pt} {w : List Nat} (h : suppB l w = true) : detB (selP l w) = true ∧ ∀ q ∈ l, encS (selP l w) q = true := by
  simpa [suppB, List.all_eq_true] using h
/-- The support of a list gives one of every list between its points and the list. -/
theorem supp_hull {l h : List Pt} {w : List Nat} (hs : suppB l w = true) (hin : ∀ p ∈ selP l w, p ∈ h) (hsub : ∀ p ∈ h, p ∈ l) :
    ∃ v, 1 ≤ v.length ∧ v.length ≤ 3 ∧ Up 0 h.length v ∧ suppB h v = true := by
  obtain ⟨hd, he⟩ := supp_facts hs
  have mk : ∀ v : List Nat, detB (selP h v) = true → (∀ x, encS (selP h v) x = encS (selP l w) x) → suppB h v = true := by
    intro v h1 h2
    rw [suppB, h1, Bool.true_and, List.all_eq_true]
    intro q hq
    rw [h2]; exact he q (hsub q hq)
  generalize hS : selP l w = S at *
  match S, hd with
  | [a], hd =>
    obtain ⟨i, hi, e⟩ := idx_of (hin a (by simp))
    refine ⟨[i], by simp, by simp, ⟨Nat.zero_le _, hi, trivial⟩, mk [i] rfl ?_⟩
    intro x; simp only [selP, List.map_cons, List.map_nil, e]
  | [a, b], hd =>
    obtain ⟨i, hi, e⟩ := idx_of (hin a (by simp))
    obtain ⟨j, hj, e'⟩ := idx_of (hin b (by simp))
    have hab : a ≠ b := by simpa [detB] using hd
    have hij : i ≠ j := by rintro rfl; exact hab (e.symm.trans e')
    rcases Nat.lt_or_gt_of_ne hij with q | q
    · refine ⟨[i, j], by simp, by simp, ⟨Nat.zero_le _, hi, by omega, hj, trivial⟩, mk [i, j] ?_ ?_⟩
      · simp only [selP, List.map_cons, List.map_nil, e, e']; exact hd
      · intro x; simp only [selP, List.map_cons, List.map_nil, e, e']
    · refine ⟨[j, i], by simp, by simp, ⟨Nat.zero_le _, hj, by omega, hi, trivial⟩, mk [j, i] ?_ ?_⟩
      · simp only [selP, List.map_cons, List.map_nil, e, e', detB]
        simpa using Ne.symm hab
      · intro x; simp only [selP, List.map_cons, List.map_nil, e, e', encS]
        rw [dotV_comm]
  | [a, b, c], hd =>
    obtain ⟨d1, d2, d3⟩ := det_ne hd
    obtain ⟨i, hi, e1⟩ := idx_of (hin a (by simp))
    obtain ⟨j, hj, e2⟩ := idx_of (hin b (by simp))
    obtain ⟨k, hk, e3⟩ := idx_of (hin c (by simp))
    obtain ⟨v, v1, v2, v3, v4⟩ := sub_of_idx (n := h.length) (w := [i, j, k]) (by simp) (by simp) (by simp; omega)
    have hij : i ≠ j := by rintro rfl; exact d1 (e1.symm.trans e2)
    have hjk : j ≠ k := by rintro rfl; exact d2 (e2.symm.trans e3)
    have hik : i ≠ k := by rintro rfl; exact d3 (e1.symm.trans e3)
    refine ⟨v, v1, v2, v3, ?_⟩
    match v, v1, v2, v3, v4 with
    | [x], _, _, _, v4 =>
      exfalso
      have := (v4 i).2 (by simp); have := (v4 j).2 (by simp); simp at *; omega
    | [x, y], _, _, _, v4 =>
      exfalso
      have h1 := (v4 i).2 (by simp); have h2 := (v4 j).2 (by simp); have h3 := (v4 k).2 (by simp)
      simp only [List.mem_cons, List.not_mem_nil, or_false] at h1 h2 h3; omega
    | [x, y, z], _, _, v3, v4 =>
      obtain ⟨_, u1, u2, u3, u4, u5, _⟩ := v3
      have get : ∀ t, t ∈ [x, y, z] → pA h t = a ∨ pA h t = b ∨ pA h t = c := by
        intro t ht
        have := (v4 t).1 ht
        simp only [List.mem_cons, List.not_mem_nil, or_false] at this
        rcases this with rfl | rfl | rfl
        · exact .inl e1
        · exact .inr (.inl e2)
        · exact .inr (.inr e3)
      have inj : ∀ s t, s ∈ [x, y, z] → t ∈ [x, y, z] → pA h s = pA h t → s = t := by
        intro s t hs ht hst
        have h1 := (v4 s).1 hs
        have h2 := (v4 t).1 ht
        simp only [List.mem_cons, List.not_mem_nil, or_false] at h1 h2
        rcases h1 with rfl | rfl | rfl <;> rcases h2 with rfl | rfl | rfl <;> first
          | rfl
          | (exfalso; rw [e1, e2] at hst; exact d1 hst)
          | (exfalso; rw [e2, e1] at hst; exact d1 hst.symm)
          | (exfalso; rw [e2, e3] at hst; exact d2 hst)
          | (exfalso; rw [e3, e2] at hst; exact d2 hst.symm)
          | (exfalso; rw [e1, e3] at hst; exact d3 hst)
          | (exfalso; rw [e3, e1] at hst; exact d3 hst.symm)
      obtain ⟨g1, g2⟩ := perm_three hd (p := pA h x) (q := pA h y) (r := pA h z) (fun e => by have := inj x y (by simp) (by simp) e; omega) (fun e => by have := inj y z (by simp) (by simp) e; omega) (fun e => by have := inj x z (by simp) (by simp) e; omega)
        (get x (by simp)) (get y (by simp)) (get z (by simp))
      exact mk [x, y, z] g1 g2
end Go.Pl
