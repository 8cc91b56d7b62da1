/- Plain mathematics (Pl40, Pl41, Pl42, Pl43). -/
import Derived.Test.YtlcndghaendieaaPl22
/- Closed chains without crossings: the number of sides to the left of a vertex, counted with their directions, tells the same turn at all vertices. -/
set_option linter.unusedVariables false
set_option linter.unusedSimpArgs false
namespace Go.Pl

/-! sums -/
def smF (F : Nat → Int) : Nat → Int
  | 0 => 0
  | n + 1 => smF F n + F n
theorem smF_congr {F G : Nat → Int} : ∀ {n}, (∀ i, i < n → F i = G i) → smF F n = smF G n
  | 0, _ => rfl
  | n + 1, h => by
    simp only [smF]
    rw [smF_congr (n := n) fun i hi => h i (by omega), h n (by omega)]
theorem smF_add (F G : Nat → Int) : ∀ n, smF (fun i => F i + G i) n = smF F n + smF G n
  | 0 => rfl
  | n + 1 => by simp only [smF]; rw [smF_add F G n]; omega
theorem smF_sub (F G : Nat → Int) : ∀ n, smF (fun i => F i - G i) n = smF F n - smF G n
  | 0 => rfl
  | n + 1 => by simp only [smF]; rw [smF_sub F G n]; omega
theorem smF_tele (F : Nat → Int) : ∀ n, smF (fun i => F i - F (i + 1)) n = F 0 - F n
  | 0 => by simp [smF]
  | n + 1 => by simp only [smF]; rw [smF_tele F n]; omega
theorem smF_zero {F : Nat → Int} : ∀ {n}, (∀ i, i < n → F i = 0) → smF F n = 0
  | 0, _ => rfl
  | n + 1, h => by
    simp only [smF]
    rw [smF_zero (n := n) fun i hi => h i (by omega), h n (by omega)]; rfl
theorem smF_one {F : Nat → Int} {j : Nat} : ∀ {n}, j < n → (∀ i, i < n → i ≠ j → F i = 0) → smF F n = F j
  | 0, h, _ => by omega
  | n + 1, h, k => by
    simp only [smF]
    by_cases e : j = n
    · subst e
      rw [smF_zero fun i hi => k i (by omega) (by omega)]; omega
    · rw [smF_one (n := n) (by omega) fun i hi hn => k i (by omega) hn, k n (by omega) (by omega)]; omega
theorem smF_first (F : Nat → Int) : ∀ n, smF F (n + 1) = F 0 + smF (fun i => F (i + 1)) n
  | 0 => by simp [smF]
  | n + 1 => by
    have := smF_first F n
    simp only [smF] at *
    omega
theorem smF_shift {F : Nat → Int} {n : Nat} (h : F n = F 0) : smF (fun i => F (i + 1)) n = smF F n := by
  have := smF_first F n
  simp only [smF] at this
  omega

/-! segments that do not meet but in common ends -/
/-- A point of a segment, its ends included. -/
def On (a b z : Pt) : Prop := ∃ k m : Int, 0 < m ∧ 0 ≤ k ∧ k ≤ m ∧ m * (z.1 - a.1) = k * (b.1 - a.1) ∧ m * (z.2 - a.2) = k * (b.2 - a.2)
/-- Two segments have no common point but a common end. -/
structure NM (a b p q : Pt) : Prop where
  cr : ¬ ((0 < turn a b p ∧ turn a b q < 0 ∨ turn a b p < 0 ∧ 0 < turn a b q) ∧ (0 < turn p q a ∧ turn p q b < 0 ∨ turn p q a < 0 ∧ 0 < turn p q b))
  p1 : p ≠ a → p ≠ b → ¬ On a b p
  q1 : q ≠ a → q ≠ b → ¬ On a b q
  a1 : a ≠ p → a ≠ q → ¬ On p q a
  b1 : b ≠ p → b ≠ q → ¬ On p q b
theorem NM.symm {a b p q : Pt} (h : NM a b p q) : NM p q a b := ⟨fun ⟨x, y⟩ => h.cr ⟨y, x⟩, h.a1, h.b1, h.p1, h.q1⟩
theorem turn_sw (a b c : Pt) : turn b a c = - turn a b c := by unfold turn; grind
theorem On.symm {a b z : Pt} (h : On a b z) : On b a z := by
  obtain ⟨k, m, h1, h2, h3, h4, h5⟩ := h
  exact ⟨m - k, m, h1, by omega, by omega, by grind, by grind⟩
theorem NM.swap {a b p q : Pt} (h : NM a b p q) : NM a b q p := by
  refine ⟨fun ⟨x, y⟩ => h.cr ?_, h.q1, h.p1, fun h1 h2 h3 => h.a1 h2 h1 h3.symm, fun h1 h2 h3 => h.b1 h2 h1 h3.symm⟩
  rw [turn_sw p q a, turn_sw p q b] at y
  omega
theorem on_of_turn {a b z : Pt} (h : turn a b z = 0) (h1 : a.2 < z.2) (h2 : z.2 < b.2) : On a b z := by
  refine ⟨z.2 - a.2, b.2 - a.2, by omega, by omega, by omega, ?_, by grind⟩
  unfold turn at h; grind

/-! a side that goes up: what passes to its left between two of its points -/
/-- Of two points of other heights: is the second one passed below? -/
def tLo (p q a b : Pt) : Bool := (decide (p.2 < a.2) && decide (a.2 < q.2) && decide (turn p q a < 0)) || (decide (p = a) && decide (0 < turn a b q))
def tHi (p q a b : Pt) : Bool := (decide (p.2 < b.2) && decide (b.2 < q.2) && decide (turn p q b < 0)) || (decide (q = b) && decide (0 < turn a b p))
def inL (a b z : Pt) : Bool := decide (a.2 < z.2) && decide (z.2 < b.2) && decide (0 < turn a b z)
def bi (b : Bool) : Int := if b then 1 else 0

theorem mul_sgn {c x : Int} (hc : 0 < c) : (0 < c * x ↔ 0 < x) ∧ (c * x < 0 ↔ x < 0) := by
  have h1 : 0 < x → 0 < c * x := fun h => Int.mul_pos hc h
  have h2 : x < 0 → c * x < 0 := fun h => Int.mul_neg_of_pos_of_neg hc h
  have h3 : x = 0 → c * x = 0 := fun h => by rw [h, Int.mul_zero]
  omega
section
variable {a b p q : Pt}
theorem e1 (a b p q : Pt) : (q.2 - a.2) * turn a b p + (a.2 - p.2) * turn a b q = -((b.2 - a.2) * turn p q a) := by unfold turn; grind
theorem e2 (a b p q : Pt) : (q.2 - b.2) * turn a b p + (b.2 - p.2) * turn a b q = -((b.2 - a.2) * turn p q b) := by unfold turn; grind
/-- Each begins below the other's upper end, and the one with the later lower end has it to the right: so has the other its upper end. -/
theorem nm_i (h : NM a b p q) (h1 : p.2 < a.2) (h2 : a.2 < q.2) (h3 : q.2 < b.2) : turn p q a < 0 ↔ 0 < turn a b q := by
  have n1 : turn p q a ≠ 0 := fun e => h.a1 (fun e => by subst e; omega) (fun e => by subst e; omega) (on_of_turn e h1 h2)
  have n2 : turn a b q ≠ 0 := fun e => h.q1 (fun e => by subst e; omega) (fun e => by subst e; omega) (on_of_turn e h2 h3)
  have E1 := e1 a b p q
  have E4 := e2 p q a b
  have s1 := @mul_sgn (q.2 - a.2) (turn a b p) (by omega)
  have s2 := @mul_sgn (a.2 - p.2) (turn a b q) (by omega)
  have s3 := @mul_sgn (b.2 - a.2) (turn p q a) (by omega)
  have s4 := @mul_sgn (b.2 - q.2) (turn p q a) (by omega)
  have s5 := @mul_sgn (q.2 - a.2) (turn p q b) (by omega)
  have s6 := @mul_sgn (q.2 - p.2) (turn a b q) (by omega)
  have hc := h.cr
  omega
theorem nm_iii (h : NM a b p q) (h1 : p.2 < a.2) (h2 : a.2 < b.2) (h3 : b.2 < q.2) : turn p q a < 0 ↔ turn p q b < 0 := by
  have n1 : turn p q a ≠ 0 := fun e => h.a1 (fun e => by subst e; omega) (fun e => by subst e; omega) (on_of_turn e h1 (by omega))
  have n2 : turn p q b ≠ 0 := fun e => h.b1 (fun e => by subst e; omega) (fun e => by subst e; omega) (on_of_turn e (by omega) h3)
  have E1 := e1 a b p q
  have E2 := e2 a b p q
  have s1 := @mul_sgn (q.2 - a.2) (turn a b p) (by omega)
  have s2 := @mul_sgn (a.2 - p.2) (turn a b q) (by omega)
  have s3 := @mul_sgn (b.2 - a.2) (turn p q a) (by omega)
  have s4 := @mul_sgn (q.2 - b.2) (turn a b p) (by omega)
  have s5 := @mul_sgn (b.2 - p.2) (turn a b q) (by omega)
  have s6 := @mul_sgn (b.2 - a.2) (turn p q b) (by omega)
  have z1 : turn a b p = 0 → (q.2 - a.2) * turn a b p = 0 := fun h => by rw [h, Int.mul_zero]
  have z2 : turn a b q = 0 → (a.2 - p.2) * turn a b q = 0 := fun h => by rw [h, Int.mul_zero]
  have z3 : turn a b p = 0 → (q.2 - b.2) * turn a b p = 0 := fun h => by rw [h, Int.mul_zero]
  have z4 : turn a b q = 0 → (b.2 - p.2) * turn a b q = 0 := fun h => by rw [h, Int.mul_zero]
  have hc := h.cr
  omega
/-- The lower end of one lies between the heights of the other; then the upper end of the other. -/
theorem nm_vii (h : NM a b p q) (h1 : a.2 < p.2) (h2 : p.2 < b.2) (h3 : b.2 < q.2) : turn p q b < 0 ↔ 0 < turn a b p := by
  have n1 : turn p q b ≠ 0 := fun e => h.b1 (fun e => by subst e; omega) (fun e => by subst e; omega) (on_of_turn e h2 h3)
  have n2 : turn a b p ≠ 0 := fun e => h.p1 (fun e => by subst e; omega) (fun e => by subst e; omega) (on_of_turn e h1 h2)
  have := nm_i h.symm h1 h2 h3
  omega
theorem nm_v (h : NM a b p q) (h1 : a.2 < p.2) (h2 : p.2 < q.2) (h3 : q.2 < b.2) : 0 < turn a b p ↔ 0 < turn a b q := by
  have n1 : turn a b p ≠ 0 := fun e => h.p1 (fun e => by subst e; omega) (fun e => by subst e; omega) (on_of_turn e h1 (by omega))
  have n2 : turn a b q ≠ 0 := fun e => h.q1 (fun e => by subst e; omega) (fun e => by subst e; omega) (on_of_turn e (by omega) h3)
  have := nm_iii h.symm h1 h2 h3
  omega
/-- What passes to the left of a side at its lower end and not at its upper one ends there. -/
theorem pass (h : NM a b p q) (hab : a.2 < b.2) (hpq : p.2 < q.2) (e1 : p.2 = a.2 → p = a) (e2 : p.2 = b.2 → p = b) (e3 : q.2 = a.2 → q = a) (e4 : q.2 = b.2 → q = b) (hne : p = a → q = b → False) :
    bi (tLo p q a b) - bi (tHi p q a b) = bi (inL a b q) - bi (inL a b p) := by
  have f1 : p = a → turn p q b = - turn a b q := fun e => by subst e; unfold turn; grind
  have f2 : q = b → turn p q a = - turn a b p := fun e => by subst e; unfold turn; grind
  have g1 : p = a → p.2 = a.2 := fun e => by rw [e]
  have g2 : p = b → p.2 = b.2 := fun e => by rw [e]
  have g3 : q = a → q.2 = a.2 := fun e => by rw [e]
  have g4 : q = b → q.2 = b.2 := fun e => by rw [e]
  have c1 := @nm_i a b p q h
  have c2 := @nm_iii a b p q h
  have c3 := @nm_vii a b p q h
  have c4 := @nm_v a b p q h
  have bt : ∀ x : Bool, (bi x = 0 ∨ bi x = 1) ∧ (bi x = 1 ↔ x = true) := fun x => by cases x <;> simp [bi]
  have T := bt (tLo p q a b)
  have U := bt (tHi p q a b)
  have V := bt (inL a b q)
  have W := bt (inL a b p)
  generalize bi (tLo p q a b) = t at *
  generalize bi (tHi p q a b) = u at *
  generalize bi (inL a b q) = v at *
  generalize bi (inL a b p) = w at *
  simp only [tLo, tHi, inL, Bool.or_eq_true, Bool.and_eq_true, decide_eq_true_eq] at T U V W
  generalize turn p q a = γ at *
  generalize turn p q b = δ at *
  generalize turn a b p = α at *
  generalize turn a b q = β at *
  by_cases k1 : p = a
  · have l1 := f1 k1
    have l2 := g1 k1
    by_cases k4 : q = b
    · exact (hne k1 k4).elim
    · have k4' : q.2 ≠ b.2 := fun e => k4 (e4 e)
      simp only [k1, k4, true_and, false_and, or_false] at T U
      clear f1 f2 g1 g2 g3 g4 e1 e2 e3 e4 hne k4 bt c1 c2 c3 c4
      subst k1
      omega
  · have k1' : p.2 ≠ a.2 := fun e => k1 (e1 e)
    by_cases k4 : q = b
    · have l1 := f2 k4
      have l2 := g4 k4
      simp only [k1, k4, true_and, false_and, or_false] at T U
      clear f1 f2 g1 g2 g3 g4 e1 e2 e3 e4 hne k1 bt c1 c2 c3 c4
      subst k4
      omega
    · have k4' : q.2 ≠ b.2 := fun e => k4 (e4 e)
      simp only [k1, k4, false_and, or_false] at T U
      clear f1 f2 g1 g2 g3 g4 hne bt e1 e2 e3 e4
      rcases Int.lt_or_gt_of_ne k1' with o1 | o1
      · rcases Int.lt_or_le a.2 q.2 with o2 | o2
        · rcases Int.lt_or_gt_of_ne k4' with o3 | o3
          · have := c1 o1 o2 o3; clear c1 c2 c3 c4; omega
          · have := c2 o1 hab o3; clear c1 c2 c3 c4; omega
        · clear c1 c2 c3 c4; omega
      · rcases Int.lt_or_le p.2 b.2 with o2 | o2
        · rcases Int.lt_or_gt_of_ne k4' with o3 | o3
          · have := c4 o1 hpq o3; clear c1 c2 c3 c4; omega
          · have := c3 o1 o2 o3; clear c1 c2 c3 c4; omega
        · clear c1 c2 c3 c4; omega
end

/-! closed chains -/
/-- A closed chain of n points of different heights, whose sides meet only in common ends. -/
structure Smp (v : Nat → Pt) (n : Nat) : Prop where
  n3 : 3 ≤ n
  per : ∀ i, v (i + n) = v i
  dis : ∀ i j, i < n → j < n → (v i).2 = (v j).2 → i = j
  nm : ∀ i j, i < n → j < n → i ≠ j → NM (v i) (v (i + 1)) (v j) (v (j + 1))

def pL (p q z : Pt) : Bool := decide (p.2 < z.2) && decide (z.2 < q.2) && decide (turn p q z < 0)
/-- Does a directed side pass to the left of a point: -1 for one that goes up, 1 for one that goes down. -/
def kf (p q z : Pt) : Int := if p.2 < q.2 then - bi (pL p q z) else bi (pL q p z)
def cLo (p q a b : Pt) : Int := if p.2 < q.2 then - bi (tLo p q a b) else bi (tLo q p a b)
def cHi (p q a b : Pt) : Int := if p.2 < q.2 then - bi (tHi p q a b) else bi (tHi q p a b)
theorem bi_or {x y : Bool} (h : x = true → y = false) : bi (x || y) = bi x + bi y := by
  cases x <;> cases y <;> simp [bi] at * 
theorem tLo_eq (p q a b : Pt) : bi (tLo p q a b) = bi (pL p q a) + bi (decide (p = a) && decide (0 < turn a b q)) := by
  unfold tLo pL
  refine bi_or fun h => ?_
  simp only [Bool.and_eq_true, decide_eq_true_eq] at h
  have : p ≠ a := fun e => by subst e; omega
  simp [this]
theorem tHi_eq (p q a b : Pt) : bi (tHi p q a b) = bi (pL p q b) + bi (decide (q = b) && decide (0 < turn a b p)) := by
  unfold tHi pL
  refine bi_or fun h => ?_
  simp only [Bool.and_eq_true, decide_eq_true_eq] at h
  have : q ≠ b := fun e => by subst e; omega
  simp [this]
theorem cLo_kf {p q a b : Pt} (h1 : p ≠ a) (h2 : q ≠ a) : cLo p q a b = kf p q a := by
  unfold cLo kf; rw [tLo_eq, tLo_eq]; simp [h1, h2, bi]
theorem cHi_kf {p q a b : Pt} (h1 : p ≠ b) (h2 : q ≠ b) : cHi p q a b = kf p q b := by
  unfold cHi kf; rw [tHi_eq, tHi_eq]; simp [h1, h2, bi]
theorem kf_1 (p q : Pt) : kf p q p = 0 := by
  unfold kf pL
  have : ¬ p.2 < p.2 := by omega
  simp [this, bi]
theorem kf_2 (p q : Pt) : kf p q q = 0 := by
  unfold kf pL
  have : ¬ q.2 < q.2 := by omega
  simp [this, bi]
theorem cLo_self1 (a b : Pt) : cLo a b a b = 0 := by
  unfold cLo; rw [tLo_eq, tLo_eq]
  have : ¬ a.2 < a.2 := by omega
  simp only [pL, turn_same1, turn_same2, this]
  simp [bi]
theorem cHi_self1 (a b : Pt) : cHi a b a b = 0 := by
  unfold cHi; rw [tHi_eq, tHi_eq]
  have : ¬ b.2 < b.2 := by omega
  simp only [pL, turn_same1, turn_same2, this]
  simp [bi]
theorem cLo_self2 (a b : Pt) : cLo b a a b = 0 := by
  unfold cLo; rw [tLo_eq, tLo_eq]
  have : ¬ a.2 < a.2 := by omega
  simp only [pL, turn_same1, turn_same2, this]
  simp [bi]
theorem cHi_self2 (a b : Pt) : cHi b a a b = 0 := by
  unfold cHi; rw [tHi_eq, tHi_eq]
  have : ¬ b.2 < b.2 := by omega
  simp only [pL, turn_same1, turn_same2, this]
  simp [bi]
theorem inL_1 (a b : Pt) : inL a b a = false := by simp [inL]
theorem inL_2 (a b : Pt) : inL a b b = false := by simp [inL]

/-- The same for a directed side. -/
theorem pass_dir {a b p q : Pt} (h : NM a b p q) (hab : a.2 < b.2) (hpq : p.2 ≠ q.2) (e1 : p.2 = a.2 → p = a) (e2 : p.2 = b.2 → p = b) (e3 : q.2 = a.2 → q = a) (e4 : q.2 = b.2 → q = b) (hne : p = a → q = b → False) (hne' : q = a → p = b → False) :
    cLo p q a b - cHi p q a b = bi (inL a b p) - bi (inL a b q) := by
  unfold cLo cHi
  split
  · have := pass h hab (by assumption) e1 e2 e3 e4 hne
    omega
  · have := pass h.swap hab (by omega) e3 e4 e1 e2 hne'
    omega
theorem pass_sum {v : Nat → Pt} {n : Nat} {a b : Pt} (hv : v n = v 0) (h : ∀ i, i < n → cLo (v i) (v (i + 1)) a b - cHi (v i) (v (i + 1)) a b = bi (inL a b (v i)) - bi (inL a b (v (i + 1)))) :
    smF (fun i => cLo (v i) (v (i + 1)) a b) n = smF (fun i => cHi (v i) (v (i + 1)) a b) n := by
  have h1 := smF_sub (fun i => cLo (v i) (v (i + 1)) a b) (fun i => cHi (v i) (v (i + 1)) a b) n
  rw [smF_congr h] at h1
  have h2 := smF_tele (fun i => bi (inL a b (v i))) n
  rw [hv] at h2
  omega

namespace Smp
variable {v : Nat → Pt} {n : Nat}
theorem close (h : Smp v n) : v n = v 0 := by have := h.per 0; rwa [Nat.zero_add] at this
theorem idx (h : Smp v n) (i : Nat) : v i = v (i % n) := by
  have : ∀ k, v (i % n + n * k) = v (i % n) := by
    intro k
    induction k with
    | zero => simp
    | succ k ih => rw [Nat.mul_succ, ← Nat.add_assoc, h.per, ih]
  have := this (i / n)
  rwa [Nat.mod_add_div] at this
theorem inj (h : Smp v n) {i j : Nat} (hi : i < n) (hj : j < n) (e : v i = v j) : i = j := h.dis i j hi hj (by rw [e])
theorem dis' (h : Smp v n) {i j : Nat} (e : (v i).2 = (v j).2) : v i = v j := by
  have hn := h.n3
  rw [h.idx i, h.idx j] at *
  rw [h.dis _ _ (Nat.mod_lt _ (by omega)) (Nat.mod_lt _ (by omega)) e]
/-- The chain from the next point on. -/
theorem shift (h : Smp v n) : Smp (fun i => v (i + 1)) n := by
  have hn := h.n3
  have hm : ∀ i, i < n → ∃ k, k < n ∧ v (i + 1) = v k ∧ v (i + 1 + 1) = v (k + 1) ∧ (k = if i + 1 = n then 0 else i + 1) := by
    intro i hi
    by_cases e : i + 1 = n
    · refine ⟨0, by omega, ?_, ?_, by rw [if_pos e]⟩
      · rw [e, h.close]
      · rw [e, Nat.add_comm, h.per]
    · exact ⟨i + 1, by omega, rfl, rfl, by rw [if_neg e]⟩
  refine ⟨hn, fun i => ?_, fun i j hi hj e => ?_, fun i j hi hj hne => ?_⟩
  · have := h.per (i + 1)
    rwa [show i + 1 + n = i + n + 1 by omega] at this
  · obtain ⟨k, hk, k1, k2, k3⟩ := hm i hi
    obtain ⟨l, hl, l1, l2, l3⟩ := hm j hj
    simp only [k1, l1] at e
    have := h.dis k l hk hl e
    split at k3 <;> split at l3 <;> omega
  · obtain ⟨k, hk, k1, k2, k3⟩ := hm i hi
    obtain ⟨l, hl, l1, l2, l3⟩ := hm j hj
    show NM (v (i + 1)) (v (i + 1 + 1)) (v (j + 1)) (v (j + 1 + 1))
    rw [k1, k2, l1, l2]
    refine h.nm k l hk hl ?_
    split at k3 <;> split at l3 <;> omega
theorem shifts (h : Smp v n) : ∀ k, Smp (fun i => v (i + k)) n
  | 0 => h
  | k + 1 => by
    have := (h.shifts k).shift
    simpa [Nat.add_assoc, Nat.add_comm 1 k] using this
end Smp
end Go.Pl
/- The number of a vertex is the same for all vertices of a chain. -/
set_option linter.unusedVariables false
set_option linter.unusedSimpArgs false
namespace Go.Pl

/-- How many sides pass to the left of a point, with their directions. -/
def kC (v : Nat → Pt) (n : Nat) (z : Pt) : Int := smF (fun i => kf (v i) (v (i + 1)) z) n
/-- What the sides at a vertex add. -/
def loc (a b c : Pt) : Int := if a.2 < b.2 ∧ b.2 < c.2 then 0 else if b.2 < a.2 ∧ c.2 < b.2 then 1 else if 0 < turn a b c then 1 else 0
def atS (v : Nat → Pt) (n : Nat) (a b : Pt) : Int := if a.2 < b.2 then smF (fun i => cLo (v i) (v (i + 1)) a b) n else 1 + smF (fun i => cHi (v i) (v (i + 1)) b a) n
def atE (v : Nat → Pt) (n : Nat) (a b : Pt) : Int := if a.2 < b.2 then smF (fun i => cHi (v i) (v (i + 1)) a b) n else 1 + smF (fun i => cLo (v i) (v (i + 1)) b a) n
/-- The number of the vertex behind the i-th one. -/
def wV (v : Nat → Pt) (n i : Nat) : Int := kC v n (v (i + 1)) + loc (v i) (v (i + 1)) (v (i + 2))

namespace Smp
variable {v : Nat → Pt} {n : Nat}
theorem ne01 (h : Smp v n) : (v 0).2 ≠ (v 1).2 := fun e => by have := h.n3; have := h.dis 0 1 (by omega) (by omega) e; omega
theorem ne12 (h : Smp v n) : (v 1).2 ≠ (v 2).2 := fun e => by have := h.n3; have := h.dis 1 2 (by omega) (by omega) e; omega
theorem ne02 (h : Smp v n) : (v 0).2 ≠ (v 2).2 := fun e => by have := h.n3; have := h.dis 0 2 (by omega) (by omega) e; omega
theorem ne_i (h : Smp v n) {i : Nat} : (v i).2 ≠ (v (i + 1)).2 := by
  have := (h.shifts i).ne01
  simpa [Nat.add_comm 1 i] using this
/-- Sides that are neither of the first two do not touch the vertex between these. -/
theorem off1 (h : Smp v n) {i : Nat} (hi : i < n) (h0 : i ≠ 0) (h1 : i ≠ 1) : v i ≠ v 1 ∧ v (i + 1) ≠ v 1 := by
  have hn := h.n3
  refine ⟨fun e => h1 (h.inj hi (by omega) e), fun e => ?_⟩
  by_cases k : i + 1 = n
  · rw [k, h.close] at e
    have := h.inj (by omega) (by omega) e
    omega
  · have := h.inj (by omega) (by omega) e
    omega
theorem turn1 (h : Smp v n) (hs : (v 0).2 < (v 1).2 ↔ (v 2).2 < (v 1).2) : turn (v 0) (v 1) (v 2) ≠ 0 := by
  intro e
  have hn := h.n3
  have hh := h.nm 0 1 (by omega) (by omega) (by omega)
  simp only [Nat.zero_add, Nat.reduceAdd] at hh
  have n01 := h.ne01
  have n12 := h.ne12
  have n02 := h.ne02
  have d1 : v 0 ≠ v 1 := fun e => n01 (by rw [e])
  have d2 : v 0 ≠ v 2 := fun e => n02 (by rw [e])
  have d3 : v 2 ≠ v 1 := fun e => n12 (by rw [e])
  have t1 : turn (v 1) (v 2) (v 0) = 0 := by rw [turn_cyc]; exact e
  have t2 : turn (v 1) (v 0) (v 2) = 0 := by rw [turn_sw]; omega
  have t3 : turn (v 2) (v 1) (v 0) = 0 := by rw [turn_sw]; omega
  have t4 : turn (v 0) (v 1) (v 2) = 0 := e
  have b1 : ¬ ((v 1).2 < (v 0).2 ∧ (v 0).2 < (v 2).2) := fun ⟨x, y⟩ => hh.a1 d1 d2 (on_of_turn t1 x y)
  have b2 : ¬ ((v 2).2 < (v 0).2 ∧ (v 0).2 < (v 1).2) := fun ⟨x, y⟩ => hh.a1 d1 d2 (on_of_turn t3 x y).symm
  have b3 : ¬ ((v 0).2 < (v 2).2 ∧ (v 2).2 < (v 1).2) := fun ⟨x, y⟩ => hh.q1 (fun e => d2 e.symm) d3 (on_of_turn t4 x y)
  have b4 : ¬ ((v 1).2 < (v 2).2 ∧ (v 2).2 < (v 0).2) := fun ⟨x, y⟩ => hh.q1 (fun e => d2 e.symm) d3 (on_of_turn t2 x y).symm
  omega
theorem loc_eq (h : Smp v n) : loc (v 0) (v 1) (v 2) = if (v 0).2 < (v 1).2 then (if (v 2).2 < (v 1).2 ∧ 0 < turn (v 0) (v 1) (v 2) then 1 else 0) else (if (v 1).2 < (v 2).2 ∧ turn (v 0) (v 1) (v 2) < 0 then 0 else 1) := by
  have n01 := h.ne01
  have n12 := h.ne12
  have := h.turn1
  unfold loc
  repeat' split
  all_goals first | rfl | (exfalso; omega)
theorem via0 (h : Smp v n) : atE v n (v 0) (v 1) = wV v n 0 := by
  have hn := h.n3
  have n01 := h.ne01
  have n12 := h.ne12
  show _ = kC v n (v 1) + loc (v 0) (v 1) (v 2)
  rw [h.loc_eq]
  have nn : ¬ (v 1).2 < (v 1).2 := by omega
  unfold atE kC
  split
  · rename_i hu
    have hs := smF_sub (fun i => cHi (v i) (v (i + 1)) (v 0) (v 1)) (fun i => kf (v i) (v (i + 1)) (v 1)) n
    rw [smF_one (j := 1) (by omega) fun i hi hne => ?_] at hs
    · simp only [Nat.reduceAdd] at hs
      rw [kf_1] at hs
      have hc : cHi (v 1) (v 2) (v 0) (v 1) = if (v 2).2 < (v 1).2 ∧ 0 < turn (v 0) (v 1) (v 2) then 1 else 0 := by
        unfold cHi
        rw [tHi_eq, tHi_eq]
        have d3 : v 2 ≠ v 1 := fun e => n12 (by rw [e])
        simp only [pL, nn, decide_false, Bool.and_false, Bool.false_and, d3, decide_true, Bool.true_and]
        have z : bi false = 0 := rfl
        split
        · rw [if_neg (by omega)]; simp [z]
        · by_cases ht : 0 < turn (v 0) (v 1) (v 2)
          · rw [if_pos (by omega)]; simp [ht, bi]
          · rw [if_neg (by omega)]; simp [ht, bi]
      omega
    · by_cases h0 : i = 0
      · subst h0; simp only [Nat.zero_add]; rw [cHi_self1, kf_2]; rfl
      · obtain ⟨x, y⟩ := h.off1 hi h0 hne
        rw [cHi_kf x y]; omega
  · rename_i hu
    have hs := smF_sub (fun i => cLo (v i) (v (i + 1)) (v 1) (v 0)) (fun i => kf (v i) (v (i + 1)) (v 1)) n
    rw [smF_one (j := 1) (by omega) fun i hi hne => ?_] at hs
    · simp only [Nat.reduceAdd] at hs
      rw [kf_1] at hs
      have hc : cLo (v 1) (v 2) (v 1) (v 0) = if (v 1).2 < (v 2).2 ∧ turn (v 0) (v 1) (v 2) < 0 then -1 else 0 := by
        unfold cLo
        rw [tLo_eq, tLo_eq, turn_sw (v 0) (v 1)]
        have d3 : v 2 ≠ v 1 := fun e => n12 (by rw [e])
        simp only [pL, nn, decide_false, Bool.and_false, Bool.false_and, d3, decide_true, Bool.true_and]
        have z : bi false = 0 := rfl
        split
        · by_cases ht : turn (v 0) (v 1) (v 2) < 0
          · rw [if_pos (by omega), decide_eq_true (by omega)]; rfl
          · rw [if_neg (by omega), decide_eq_false (by omega)]; rfl
        · rw [if_neg (by omega)]; simp [z]
      split <;> rename_i hq
      · rw [if_pos hq] at hc; omega
      · rw [if_neg hq] at hc; omega
    · by_cases h0 : i = 0
      · subst h0; simp only [Nat.zero_add]; rw [cLo_self2, kf_2]; rfl
      · obtain ⟨x, y⟩ := h.off1 hi h0 hne
        rw [cLo_kf x y]; omega
theorem via1 (h : Smp v n) : atS v n (v 1) (v 2) = wV v n 0 := by
  have hn := h.n3
  have n01 := h.ne01
  have n12 := h.ne12
  have n02 := h.ne02
  have t1 := h.turn1
  show _ = kC v n (v 1) + loc (v 0) (v 1) (v 2)
  rw [h.loc_eq]
  have nn : ¬ (v 1).2 < (v 1).2 := by omega
  have d1 : v 0 ≠ v 1 := fun e => n01 (by rw [e])
  have z : bi false = 0 := rfl
  have z' : bi true = 1 := rfl
  unfold atS kC
  split
  · rename_i hu
    have hs := smF_sub (fun i => cLo (v i) (v (i + 1)) (v 1) (v 2)) (fun i => kf (v i) (v (i + 1)) (v 1)) n
    rw [smF_one (j := 0) (by omega) fun i hi hne => ?_] at hs
    · simp only [Nat.zero_add] at hs
      rw [kf_2] at hs
      have hc : cLo (v 0) (v 1) (v 1) (v 2) = if (v 1).2 < (v 0).2 ∧ 0 < turn (v 0) (v 1) (v 2) then 1 else 0 := by
        unfold cLo
        rw [tLo_eq, tLo_eq, turn_cyc (v 0) (v 1)]
        simp only [pL, nn, decide_false, Bool.and_false, Bool.false_and, d1, decide_true, Bool.true_and]
        split
        · rw [if_neg (by omega)]; simp [z]
        · by_cases ht : 0 < turn (v 0) (v 1) (v 2)
          · rw [if_pos (by omega)]; simp [ht, z, z']
          · rw [if_neg (by omega)]; simp [ht, z, z']
      repeat' split
      all_goals (split at hc <;> omega)
    · by_cases h0 : i = 1
      · subst h0; simp only [Nat.reduceAdd]; rw [cLo_self1, kf_1]; rfl
      · obtain ⟨x, y⟩ := h.off1 hi hne h0
        rw [cLo_kf x y]; omega
  · rename_i hu
    have hs := smF_sub (fun i => cHi (v i) (v (i + 1)) (v 2) (v 1)) (fun i => kf (v i) (v (i + 1)) (v 1)) n
    rw [smF_one (j := 0) (by omega) fun i hi hne => ?_] at hs
    · simp only [Nat.zero_add] at hs
      rw [kf_2] at hs
      have hc : cHi (v 0) (v 1) (v 2) (v 1) = if (v 0).2 < (v 1).2 ∧ turn (v 0) (v 1) (v 2) < 0 then -1 else 0 := by
        unfold cHi
        rw [tHi_eq, tHi_eq, turn_sw (v 1) (v 2) (v 0), turn_cyc (v 0) (v 1)]
        simp only [pL, nn, decide_false, Bool.and_false, Bool.false_and, d1, decide_true, Bool.true_and]
        split
        · by_cases ht : turn (v 0) (v 1) (v 2) < 0
          · rw [if_pos (by omega), decide_eq_true (by omega)]; rfl
          · rw [if_neg (by omega), decide_eq_false (by omega)]; rfl
        · rw [if_neg (by omega)]; simp [z]
      repeat' split
      all_goals (split at hc <;> omega)
    · by_cases h0 : i = 1
      · subst h0; simp only [Nat.reduceAdd]; rw [cHi_self2, kf_1]; rfl
      · obtain ⟨x, y⟩ := h.off1 hi hne h0
        rw [cHi_kf x y]; omega
/-- A side has one number at its ends. -/
theorem along (h : Smp v n) : atS v n (v 0) (v 1) = atE v n (v 0) (v 1) := by
  have hn := h.n3
  have n01 := h.ne01
  have two : ∀ i, i < n → i ≠ 0 → (v i = v 0 → v (i + 1) = v 1 → False) ∧ (v (i + 1) = v 0 → v i = v 1 → False) := by
    intro i hi h0
    refine ⟨fun e _ => h0 (h.inj hi (by omega) e), fun e e' => ?_⟩
    have h1 := h.inj hi (by omega) e'
    subst h1
    have := h.inj (i := 2) (j := 0) (by omega) (by omega) e
    omega
  unfold atS atE
  split
  · refine pass_sum h.close fun i hi => ?_
    by_cases h0 : i = 0
    · subst h0
      simp only [Nat.zero_add]
      rw [cLo_self1, cHi_self1, inL_1, inL_2]; rfl
    · exact pass_dir (h.nm 0 i (by omega) hi (by omega)) (by assumption) h.ne_i h.dis' h.dis' h.dis' h.dis' (two i hi h0).1 (two i hi h0).2
  · rw [pass_sum (n := n) (a := v 1) (b := v 0) h.close fun i hi => ?_]
    by_cases h0 : i = 0
    · subst h0
      simp only [Nat.zero_add]
      rw [cLo_self2, cHi_self2, inL_1, inL_2]; rfl
    · have hh := (h.nm 0 i (by omega) hi (by omega)).symm.swap.symm
      exact pass_dir hh (by omega) h.ne_i h.dis' h.dis' h.dis' h.dis' (fun e e' => (two i hi h0).2 e' e) (fun e e' => (two i hi h0).1 e' e)
end Smp

theorem kC_shift {v : Nat → Pt} {n : Nat} (h : Smp v n) (z : Pt) : kC (fun i => v (i + 1)) n z = kC v n z := by
  unfold kC
  exact smF_shift (F := fun i => kf (v i) (v (i + 1)) z) (by simp only [h.close]; rw [Nat.zero_add, Nat.add_comm, h.per])
theorem atS_shift {v : Nat → Pt} {n : Nat} (h : Smp v n) (a b : Pt) : atS (fun i => v (i + 1)) n a b = atS v n a b := by
  unfold atS
  have e : v (n + 1) = v 1 := by rw [Nat.add_comm, h.per]
  rw [smF_shift (F := fun i => cLo (v i) (v (i + 1)) a b) (by simp only [h.close]; rw [Nat.zero_add, e]), smF_shift (F := fun i => cHi (v i) (v (i + 1)) b a) (by simp only [h.close]; rw [Nat.zero_add, e])]
theorem wV_step {v : Nat → Pt} {n : Nat} (h : Smp v n) : wV (fun i => v (i + 1)) n 0 = wV v n 0 := by
  have h1 := h.via1
  have h2 := h.shift.along
  have h3 := h.shift.via0
  rw [atS_shift h] at h2
  simp only [Nat.zero_add, Nat.reduceAdd] at h1 h2 h3
  omega
theorem kC_shifts {v : Nat → Pt} {n : Nat} (h : Smp v n) (z : Pt) : ∀ k, kC (fun i => v (i + k)) n z = kC v n z
  | 0 => rfl
  | k + 1 => by
    have := kC_shift (h.shifts k) z
    rw [kC_shifts h z k] at this
    rw [← this]
    simp only [Nat.add_assoc, Nat.add_comm 1 k]
theorem wV_shifts {v : Nat → Pt} {n : Nat} (h : Smp v n) : ∀ k, wV (fun i => v (i + k)) n 0 = wV v n 0
  | 0 => rfl
  | k + 1 => by
    have := wV_step (h.shifts k)
    rw [wV_shifts h k] at this
    rw [← this]
    simp only [Nat.add_assoc, Nat.add_comm 1 k]
/-- All vertices have the same number. -/
theorem wV_all {v : Nat → Pt} {n : Nat} (h : Smp v n) (k : Nat) : wV v n k = wV v n 0 := by
  have h1 := wV_shifts h k
  have h2 : wV (fun i => v (i + k)) n 0 = wV v n k := by
    unfold wV
    rw [kC_shifts h]
    simp only [Nat.zero_add, Nat.add_comm, Nat.add_zero]
  omega
theorem kf_none {p q z : Pt} (h : ¬ (p.2 < z.2 ∧ z.2 < q.2)) (h' : ¬ (q.2 < z.2 ∧ z.2 < p.2)) : kf p q z = 0 := by
  unfold kf pL
  have e1 : (decide (p.2 < z.2) && decide (z.2 < q.2)) = false := by
    rw [← Bool.decide_and]; exact decide_eq_false h
  have e2 : (decide (q.2 < z.2) && decide (z.2 < p.2)) = false := by
    rw [← Bool.decide_and]; exact decide_eq_false h'
  rw [e1, e2]
  simp [bi]
theorem top_w {v : Nat → Pt} {n : Nat} (h : Smp v n) {j : Nat} (hj : (∀ k, (v k).2 ≤ (v (j + 1)).2) ∨ (∀ k, (v (j + 1)).2 ≤ (v k).2)) : wV v n 0 = if 0 < turn (v j) (v (j + 1)) (v (j + 2)) then 1 else 0 := by
  rw [← wV_all h j]
  unfold wV
  have hk : kC v n (v (j + 1)) = 0 := by
    unfold kC
    refine smF_zero fun i hi => ?_
    rcases hj with hj | hj
    · have a1 := hj i
      have a2 := hj (i + 1)
      exact kf_none (by omega) (by omega)
    · have a1 := hj i
      have a2 := hj (i + 1)
      exact kf_none (by omega) (by omega)
  rw [hk]
  have hl : loc (v j) (v (j + 1)) (v (j + 2)) = if 0 < turn (v j) (v (j + 1)) (v (j + 2)) then 1 else 0 := by
    unfold loc
    rcases hj with hj | hj
    · have a1 := hj j
      have a2 := hj (j + 2)
      rw [if_neg (by omega), if_neg (by omega)]
    · have a1 := hj j
      have a2 := hj (j + 2)
      rw [if_neg (by omega), if_neg (by omega)]
  rw [hl]; omega
/-- The highest vertex turns as the lowest one does. -/
theorem ends_same {v : Nat → Pt} {n : Nat} (h : Smp v n) {i j : Nat} (hi : ∀ k, (v k).2 ≤ (v (i + 1)).2) (hj : ∀ k, (v (j + 1)).2 ≤ (v k).2) :
    0 < turn (v i) (v (i + 1)) (v (i + 2)) ↔ 0 < turn (v j) (v (j + 1)) (v (j + 2)) := by
  have h1 := top_w h (.inl hi)
  have h2 := top_w h (.inr hj)
  constructor
  · intro a
    apply Classical.byContradiction
    intro b
    rw [if_pos a] at h1; rw [if_neg b] at h2; omega
  · intro a
    apply Classical.byContradiction
    intro b
    rw [if_neg b] at h1; rw [if_pos a] at h2; omega
/-- There is a lowest vertex, so the number is 0 or 1. -/
theorem low_ex (f : Nat → Int) : ∀ n, 0 < n → ∃ i, i < n ∧ ∀ k, k < n → f i ≤ f k
  | 0, h => by omega
  | 1, _ => ⟨0, by omega, fun k hk => by rw [show k = 0 by omega]; omega⟩
  | n + 2, _ => by
    obtain ⟨i, hi, h⟩ := low_ex f (n + 1) (by omega)
    by_cases c : f i ≤ f (n + 1)
    · refine ⟨i, by omega, fun k hk => ?_⟩
      by_cases e : k = n + 1
      · rw [e]; exact c
      · exact h k (by omega)
    · refine ⟨n + 1, by omega, fun k hk => ?_⟩
      by_cases e : k = n + 1
      · rw [e]; omega
      · have := h k (by omega); omega
theorem low_all {v : Nat → Pt} {n : Nat} (h : Smp v n) (g : Pt → Int) : ∃ i, ∀ k, g (v (i + 1)) ≤ g (v k) := by
  have hn := h.n3
  obtain ⟨i, hi, hk⟩ := low_ex (fun i => g (v i)) n (by omega)
  refine ⟨i + n - 1, fun k => ?_⟩
  rw [show i + n - 1 + 1 = i + n by omega, h.per, h.idx k]
  exact hk _ (Nat.mod_lt _ (by omega))
theorem w01 {v : Nat → Pt} {n : Nat} (h : Smp v n) : wV v n 0 = 0 ∨ wV v n 0 = 1 := by
  obtain ⟨i, hi⟩ := low_all h (·.2)
  rw [top_w h (.inr hi)]
  split <;> simp
end Go.Pl
/- Simple polygons whose turns are all to the left are strictly convex. -/
set_option linter.unusedVariables false
set_option linter.unusedSimpArgs false
namespace Go.Pl

/-- A closed chain of n different points whose sides meet only in common ends. -/
structure Ply (v : Nat → Pt) (n : Nat) : Prop where
  n3 : 3 ≤ n
  per : ∀ i, v (i + n) = v i
  inj : ∀ i j, i < n → j < n → v i = v j → i = j
  nm : ∀ i j, i < n → j < n → i ≠ j → NM (v i) (v (i + 1)) (v j) (v (j + 1))

/-! linear maps -/
def lT (α β γ δ : Int) (z : Pt) : Pt := (α * z.1 + β * z.2, γ * z.1 + δ * z.2)
section
variable {α β γ δ : Int}
theorem turn_lT (a b c : Pt) : turn (lT α β γ δ a) (lT α β γ δ b) (lT α β γ δ c) = (α * δ - β * γ) * turn a b c := by unfold turn lT; grind
theorem lin0 (hd : 0 < α * δ - β * γ) {x y : Int} (h1 : α * x + β * y = 0) (h2 : γ * x + δ * y = 0) : x = 0 ∧ y = 0 := by
  have e1 : (α * δ - β * γ) * x = 0 := by grind
  have e2 : (α * δ - β * γ) * y = 0 := by grind
  constructor
  · rcases Int.mul_eq_zero.1 e1 with h | h <;> omega
  · rcases Int.mul_eq_zero.1 e2 with h | h <;> omega
theorem lT_inj (hd : 0 < α * δ - β * γ) {a b : Pt} (h : lT α β γ δ a = lT α β γ δ b) : a = b := by
  simp only [lT, Prod.mk.injEq] at h
  have := lin0 hd (x := a.1 - b.1) (y := a.2 - b.2) (by grind) (by grind)
  exact Prod.ext (by omega) (by omega)
theorem On_lT (hd : 0 < α * δ - β * γ) {a b z : Pt} (h : On (lT α β γ δ a) (lT α β γ δ b) (lT α β γ δ z)) : On a b z := by
  obtain ⟨k, m, h1, h2, h3, h4, h5⟩ := h
  simp only [lT] at h4 h5
  have := lin0 hd (x := m * (z.1 - a.1) - k * (b.1 - a.1)) (y := m * (z.2 - a.2) - k * (b.2 - a.2)) (by grind) (by grind)
  exact ⟨k, m, h1, h2, h3, by omega, by omega⟩
theorem NM_lT (hd : 0 < α * δ - β * γ) {a b p q : Pt} (h : NM a b p q) : NM (lT α β γ δ a) (lT α β γ δ b) (lT α β γ δ p) (lT α β γ δ q) := by
  refine ⟨fun ⟨x, y⟩ => h.cr ?_, fun h1 h2 h3 => h.p1 (fun e => h1 (by rw [e])) (fun e => h2 (by rw [e])) (On_lT hd h3), fun h1 h2 h3 => h.q1 (fun e => h1 (by rw [e])) (fun e => h2 (by rw [e])) (On_lT hd h3), fun h1 h2 h3 => h.a1 (fun e => h1 (by rw [e])) (fun e => h2 (by rw [e])) (On_lT hd h3), fun h1 h2 h3 => h.b1 (fun e => h1 (by rw [e])) (fun e => h2 (by rw [e])) (On_lT hd h3)⟩
  simp only [turn_lT, (mul_sgn hd).1, (mul_sgn hd).2] at x y
  exact ⟨x, y⟩
theorem Ply.map {v : Nat → Pt} {n : Nat} (h : Ply v n) (hd : 0 < α * δ - β * γ) (hh : ∀ i j, i < n → j < n → (lT α β γ δ (v i)).2 = (lT α β γ δ (v j)).2 → i = j) : Smp (fun i => lT α β γ δ (v i)) n :=
  ⟨h.n3, fun i => by rw [h.per], hh, fun i j hi hj hne => NM_lT hd (h.nm i j hi hj hne)⟩
end
namespace Ply
variable {v : Nat → Pt} {n : Nat}
theorem close (h : Ply v n) : v n = v 0 := by have := h.per 0; rwa [Nat.zero_add] at this
theorem idx (h : Ply v n) (i : Nat) : v i = v (i % n) := by
  have : ∀ k, v (i % n + n * k) = v (i % n) := by
    intro k
    induction k with
    | zero => simp
    | succ k ih => rw [Nat.mul_succ, ← Nat.add_assoc, h.per, ih]
  have := this (i / n)
  rwa [Nat.mod_add_div] at this
theorem shift (h : Ply v n) : Ply (fun i => v (i + 1)) n := by
  have hn := h.n3
  have hm : ∀ i, i < n → ∃ k, k < n ∧ v (i + 1) = v k ∧ v (i + 1 + 1) = v (k + 1) ∧ (k = if i + 1 = n then 0 else i + 1) := by
    intro i hi
    by_cases e : i + 1 = n
    · refine ⟨0, by omega, ?_, ?_, by rw [if_pos e]⟩
      · rw [e, h.close]
      · rw [e, Nat.add_comm, h.per]
    · exact ⟨i + 1, by omega, rfl, rfl, by rw [if_neg e]⟩
  refine ⟨hn, fun i => ?_, fun i j hi hj e => ?_, fun i j hi hj hne => ?_⟩
  · have := h.per (i + 1)
    rwa [show i + 1 + n = i + n + 1 by omega] at this
  · obtain ⟨k, hk, k1, k2, k3⟩ := hm i hi
    obtain ⟨l, hl, l1, l2, l3⟩ := hm j hj
    simp only [k1, l1] at e
    have := h.inj k l hk hl e
    split at k3 <;> split at l3 <;> omega
  · obtain ⟨k, hk, k1, k2, k3⟩ := hm i hi
    obtain ⟨l, hl, l1, l2, l3⟩ := hm j hj
    show NM (v (i + 1)) (v (i + 1 + 1)) (v (j + 1)) (v (j + 1 + 1))
    rw [k1, k2, l1, l2]
    refine h.nm k l hk hl ?_
    split at k3 <;> split at l3 <;> omega
theorem shifts (h : Ply v n) : ∀ k, Ply (fun i => v (i + k)) n
  | 0 => h
  | k + 1 => by
    have := (h.shifts k).shift
    simpa [Nat.add_assoc, Nat.add_comm 1 k] using this
/-- No vertex lies on another side. -/
theorem off (h : Ply v n) {i j : Nat} (hi : i < n) (hj : j < n) (h1 : v j ≠ v i) (h2 : v j ≠ v (i + 1)) : ¬ On (v i) (v (i + 1)) (v j) :=
  (h.nm i j hi hj (fun e => h1 (by rw [e]))).p1 h1 h2
end Ply

/-! heights that are different -/
theorem bound_ex (f : Nat → Int) : ∀ n, ∃ B : Int, 0 ≤ B ∧ ∀ i, i < n → -B ≤ f i ∧ f i ≤ B
  | 0 => ⟨0, by omega, fun i hi => by omega⟩
  | n + 1 => by
    obtain ⟨B, h0, h⟩ := bound_ex f n
    refine ⟨B + f n * f n, ?_, fun i hi => ?_⟩
    · have := sq_nonneg (f n); omega
    · have q := sq_nonneg (f n)
      by_cases e : i = n
      · subst e
        have h1 : f i ≤ f i * f i := by
          rcases Int.lt_or_le 0 (f i) with h | h
          · have := Int.mul_le_mul_of_nonneg_right (show 1 ≤ f i by omega) (show 0 ≤ f i by omega); omega
          · omega
        have h2 : -f i ≤ f i * f i := by
          rcases Int.lt_or_le (f i) 0 with h | h
          · have h3 := Int.mul_le_mul_of_nonneg_right (show 1 ≤ -f i by omega) (show 0 ≤ -f i by omega)
            have e : -f i * -f i = f i * f i := by grind
            omega
          · omega
        omega
      · have := h i (by omega); omega
/-- A first height and a second one that breaks ties: in one number. -/
theorem height_ex (h t : Nat → Int) (n : Nat) : ∃ M : Int, 0 < M ∧ (∀ i j, i < n → j < n → h i < h j → M * h i + t i < M * h j + t j) ∧ (∀ i j, i < n → j < n → M * h i + t i = M * h j + t j → h i = h j ∧ t i = t j) := by
  obtain ⟨B, hB, hb⟩ := bound_ex t n
  have k1 : ∀ i j, i < n → j < n → h i < h j → (2 * B + 1) * h i + t i < (2 * B + 1) * h j + t j := by
    intro i j hi hj hl
    have b1 := hb i hi
    have b2 := hb j hj
    have : 0 ≤ (2 * B + 1) * (h j - h i - 1) := Int.mul_nonneg (by omega) (by omega)
    have e : (2 * B + 1) * (h j - h i - 1) = (2 * B + 1) * h j - (2 * B + 1) * h i - (2 * B + 1) := by grind
    omega
  refine ⟨2 * B + 1, by omega, k1, fun i j hi hj e => ?_⟩
  have a1 := k1 i j hi hj
  have a2 := k1 j i hj hi
  have e1 : h i = h j := by omega
  rw [e1] at e
  exact ⟨e1, by omega⟩
theorem min_ex (P : Nat → Prop) (f : Nat → Int) : ∀ n, (∃ i, i < n ∧ P i) → ∃ i, i < n ∧ P i ∧ ∀ k, k < n → P k → f i ≤ f k
  | 0, ⟨i, h, _⟩ => by omega
  | n + 1, ⟨i, hi, hp⟩ => by
    by_cases c : ∃ i, i < n ∧ P i
    · obtain ⟨a, ha, pa, hm⟩ := min_ex P f n c
      by_cases d : P n ∧ f n < f a
      · refine ⟨n, by omega, d.1, fun k hk pk => ?_⟩
        by_cases e : k = n
        · rw [e]; omega
        · have := hm k (by omega) pk; omega
      · refine ⟨a, by omega, pa, fun k hk pk => ?_⟩
        by_cases e : k = n
        · subst e
          apply Classical.byContradiction
          intro hh
          exact d ⟨pk, by omega⟩
        · exact hm k (by omega) pk
    · have e : i = n := by
        apply Classical.byContradiction
        intro h
        exact c ⟨i, by omega, hp⟩
      subst e
      refine ⟨i, by omega, hp, fun k hk pk => ?_⟩
      by_cases e : k = i
      · rw [e]; omega
      · exact (c ⟨k, by omega, pk⟩).elim

/-! along a line and away from it -/
section
variable (U V : Pt)
def lnL (x : Pt) : Int := (V.1 - U.1) * x.2 - (V.2 - U.2) * x.1
def lnD (x : Pt) : Int := (V.1 - U.1) * x.1 + (V.2 - U.2) * x.2
def ln2 : Int := (V.1 - U.1) * (V.1 - U.1) + (V.2 - U.2) * (V.2 - U.2)
theorem ln_turn (x : Pt) : turn U V x = lnL U V x - lnL U V U := by unfold turn lnL; grind
theorem ln_V : lnL U V V = lnL U V U := by unfold lnL; grind
theorem ln_D : lnD U V V = lnD U V U + ln2 U V := by unfold lnD ln2; grind
/-- Of two points on one line along the direction: the turn to a third one. -/
theorem ln_pair {a b : Pt} (h : lnL U V a = lnL U V b) (x : Pt) : ln2 U V * turn a b x = (lnD U V b - lnD U V a) * (lnL U V x - lnL U V a) := by
  unfold lnL lnD ln2 turn at *; grind
theorem ln_On {a b x : Pt} (hab : lnD U V a ≤ lnD U V b) (h : On a b x) : lnD U V a ≤ lnD U V x ∧ lnD U V x ≤ lnD U V b := by
  obtain ⟨k, m, h1, h2, h3, h4, h5⟩ := h
  have e : m * (lnD U V x - lnD U V a) = k * (lnD U V b - lnD U V a) := by
    have e1 : lnD U V x - lnD U V a = (V.1 - U.1) * (x.1 - a.1) + (V.2 - U.2) * (x.2 - a.2) := by unfold lnD; grind
    have e2 : lnD U V b - lnD U V a = (V.1 - U.1) * (b.1 - a.1) + (V.2 - U.2) * (b.2 - a.2) := by unfold lnD; grind
    rw [e1, e2]; grind
  have h6 : 0 ≤ k * (lnD U V b - lnD U V a) := Int.mul_nonneg h2 (by omega)
  have h7 : 0 ≤ (m - k) * (lnD U V b - lnD U V a) := Int.mul_nonneg (by omega) (by omega)
  have e3 : (m - k) * (lnD U V b - lnD U V a) = m * (lnD U V b - lnD U V a) - k * (lnD U V b - lnD U V a) := by grind
  constructor
  · apply Classical.byContradiction
    intro hn
    have := Int.mul_pos h1 (show 0 < lnD U V a - lnD U V x by omega)
    have e4 : m * (lnD U V a - lnD U V x) = - (m * (lnD U V x - lnD U V a)) := by grind
    omega
  · apply Classical.byContradiction
    intro hn
    have := Int.mul_pos h1 (show 0 < lnD U V x - lnD U V b by omega)
    have e4 : m * (lnD U V x - lnD U V b) = m * (lnD U V x - lnD U V a) - m * (lnD U V b - lnD U V a) := by grind
    omega
theorem ln_pos {U V : Pt} (h : U ≠ V) : 0 < ln2 U V := by
  unfold ln2
  have h1 := sq_nonneg (V.1 - U.1)
  have h2 := sq_nonneg (V.2 - U.2)
  by_cases e : V.1 = U.1
  · have e2 : V.2 ≠ U.2 := fun e2 => h (Prod.ext e.symm e2.symm)
    rcases Int.lt_or_gt_of_ne e2 with g | g
    · have := Int.mul_pos_of_neg_of_neg (show V.2 - U.2 < 0 by omega) (show V.2 - U.2 < 0 by omega); omega
    · have := Int.mul_pos (show 0 < V.2 - U.2 by omega) (show 0 < V.2 - U.2 by omega); omega
  · rcases Int.lt_or_gt_of_ne e with g | g
    · have := Int.mul_pos_of_neg_of_neg (show V.1 - U.1 < 0 by omega) (show V.1 - U.1 < 0 by omega); omega
    · have := Int.mul_pos (show 0 < V.1 - U.1 by omega) (show 0 < V.1 - U.1 by omega); omega
theorem ln_inj {U V : Pt} (h : U ≠ V) {a b : Pt} (h1 : lnL U V a = lnL U V b) (h2 : lnD U V a = lnD U V b) : a = b := by
  have hp := ln_pos h
  have e1 : ln2 U V * (a.1 - b.1) = 0 := by unfold lnL lnD ln2 at *; grind
  have e2 : ln2 U V * (a.2 - b.2) = 0 := by unfold lnL lnD ln2 at *; grind
  refine Prod.ext ?_ ?_
  · rcases Int.mul_eq_zero.1 e1 with h | h <;> omega
  · rcases Int.mul_eq_zero.1 e2 with h | h <;> omega
end

/-- Between two vertices on a line that has all others to its left there is no chain that turns to the left only. -/
theorem pocket {p : Nat → Pt} {n : Nat} (h : Ply p n) (hl : ∀ i, 0 < turn (p i) (p (i + 1)) (p (i + 2))) {U V : Pt} (hUV : U ≠ V) (hL : ∀ i, lnL U V U ≤ lnL U V (p i))
    (h0 : lnL U V (p 0) = lnL U V U) {k : Nat} (hk : lnL U V (p k) = lnL U V U) (k2 : 2 ≤ k) (kn : k < n) (hd : lnD U V (p 0) < lnD U V (p k))
    (hb : ∀ i, 0 < i → i < k → lnL U V (p i) = lnL U V U → lnD U V (p k) < lnD U V (p i)) : False := by
  have hpos := ln_pos hUV
  have hk0 : lnL U V (p k) = lnL U V (p 0) := by omega
  have hturn : ∀ x, ln2 U V * turn (p k) (p 0) x = (lnD U V (p 0) - lnD U V (p k)) * (lnL U V x - lnL U V (p k)) := ln_pair U V hk0
  have hright : ∀ i, turn (p k) (p 0) (p i) ≤ 0 := by
    intro i
    have h1 := hturn (p i)
    have h2 := hL i
    have h3 : 0 ≤ (lnD U V (p k) - lnD U V (p 0)) * (lnL U V (p i) - lnL U V (p k)) := Int.mul_nonneg (by omega) (by omega)
    have h4 : (lnD U V (p 0) - lnD U V (p k)) * (lnL U V (p i) - lnL U V (p k)) = -((lnD U V (p k) - lnD U V (p 0)) * (lnL U V (p i) - lnL U V (p k))) := by grind
    have := mul_sgn (x := turn (p k) (p 0) (p i)) hpos
    omega
  have hne : p k ≠ p 0 := fun e => by have := h.inj k 0 kn (by omega) e; omega
  -- the point is not between the two ends
  have hno : ∀ i, i ≤ k → p i ≠ p k → p i ≠ p 0 → ¬ On (p k) (p 0) (p i) := by
    intro i hi e1 e2 ho
    have hi0 : 0 < i := by rcases Nat.eq_zero_or_pos i with r | r; · exact (e2 (by rw [r])).elim
                           · exact r
    have hik : i < k := by rcases Nat.lt_or_ge i k with r | r; · exact r
                           · exact (e1 (by rw [show i = k by omega])).elim
    have ho' := ho.symm
    have h1 := ln_On U V (by omega) ho'
    obtain ⟨c, m, m1, m2, m3, m4, m5⟩ := ho
    have ht : turn (p k) (p 0) (p i) = 0 := by
      have : m * turn (p k) (p 0) (p i) = 0 := by unfold turn; grind
      rcases Int.mul_eq_zero.1 this with r | r
      · omega
      · exact r
    have h2 := hturn (p i)
    rw [ht, Int.mul_zero] at h2
    have h3 : lnL U V (p i) = lnL U V U := by
      rcases Int.mul_eq_zero.1 h2.symm with r | r <;> omega
    have := hb i hi0 hik h3
    omega
  have hclose : ∀ j, j < k → NM (p k) (p 0) (p j) (p (j + 1)) := by
    intro j hj
    refine ⟨?_, hno j (by omega), hno (j + 1) (by omega), fun e1 e2 => h.off (by omega) kn e1 e2, fun e1 e2 => h.off (by omega) (by omega) e1 e2⟩
    have r1 := hright j
    have r2 := hright (j + 1)
    omega
  have hm1 : ∀ i, i < k + 1 → i % (k + 1) = i := fun i hi => Nat.mod_eq_of_lt hi
  have hm2 : (k + 1) % (k + 1) = 0 := Nat.mod_self _
  have hm3 : (k + 2) % (k + 1) = 1 := by rw [show k + 2 = (k + 1) + 1 by omega, Nat.add_mod_left, hm1 1 (by omega)]
  have hq : Ply (fun i => p (i % (k + 1))) (k + 1) := by
    refine ⟨by omega, fun i => by simp, fun i j hi hj e => ?_, fun i j hi hj hne' => ?_⟩
    · simp only [hm1 i hi, hm1 j hj] at e
      exact h.inj i j (by omega) (by omega) e
    · simp only [hm1 i hi, hm1 j hj]
      rcases Nat.lt_or_ge i k with ci | ci
      · rw [hm1 (i + 1) (by omega)]
        rcases Nat.lt_or_ge j k with cj | cj
        · rw [hm1 (j + 1) (by omega)]
          exact h.nm i j (by omega) (by omega) hne'
        · obtain rfl : j = k := by omega
          rw [hm2]
          exact (hclose i ci).symm
      · obtain rfl : i = k := by omega
        rw [hm2, hm1 (j + 1) (by omega)]
        exact hclose j (by omega)
  obtain ⟨M, hM, hM1, hM2⟩ := height_ex (fun i => lnL U V (p i)) (fun i => lnD U V (p i)) (k + 1)
  have hdet : 0 < (V.1 - U.1) * (M * (V.1 - U.1) + (V.2 - U.2)) - (V.2 - U.2) * (V.1 - U.1 - M * (V.2 - U.2)) := by
    have e : (V.1 - U.1) * (M * (V.1 - U.1) + (V.2 - U.2)) - (V.2 - U.2) * (V.1 - U.1 - M * (V.2 - U.2)) = M * ln2 U V := by unfold ln2; grind
    rw [e]; exact Int.mul_pos hM hpos
  have hT : ∀ z, (lT (V.1 - U.1) (V.2 - U.2) (V.1 - U.1 - M * (V.2 - U.2)) (M * (V.1 - U.1) + (V.2 - U.2)) z).2 = M * lnL U V z + lnD U V z := by
    intro z; unfold lT lnL lnD; grind
  have hS := hq.map hdet (fun i j hi hj e => by
    simp only [hm1 i hi, hm1 j hj, hT] at e
    obtain ⟨e1, e2⟩ := hM2 i j hi hj e
    exact h.inj i j (by omega) (by omega) (ln_inj hUV e1 e2))
  have hsgn : ∀ a b c, 0 < turn (lT (V.1 - U.1) (V.2 - U.2) (V.1 - U.1 - M * (V.2 - U.2)) (M * (V.1 - U.1) + (V.2 - U.2)) a) (lT (V.1 - U.1) (V.2 - U.2) (V.1 - U.1 - M * (V.2 - U.2)) (M * (V.1 - U.1) + (V.2 - U.2)) b) (lT (V.1 - U.1) (V.2 - U.2) (V.1 - U.1 - M * (V.2 - U.2)) (M * (V.1 - U.1) + (V.2 - U.2)) c) ↔ 0 < turn a b c := by
    intro a b c
    rw [turn_lT]
    exact (mul_sgn hdet).1
  generalize lT (V.1 - U.1) (V.2 - U.2) (V.1 - U.1 - M * (V.2 - U.2)) (M * (V.1 - U.1) + (V.2 - U.2)) = T at *
  -- a vertex away from the line
  obtain ⟨j, hj0, hjk, hj⟩ : ∃ j, 0 < j ∧ j < k ∧ lnL U V U < lnL U V (p j) := by
    by_cases c : lnL U V U < lnL U V (p 1)
    · exact ⟨1, by omega, by omega, c⟩
    · have q1 := hL 1
      have e1 : lnL U V (p 0) = lnL U V (p 1) := by omega
      have hp := ln_pair U V e1 (p 2)
      have q2 := hl 0
      simp only [Nat.zero_add] at q2
      have q3 := hL 2
      have q4 := Int.mul_pos hpos q2
      have q5 : lnL U V (p 2) ≠ lnL U V (p 0) := by
        intro e
        rw [hp, e, Int.sub_self, Int.mul_zero] at q4
        omega
      refine ⟨2, by omega, ?_, by omega⟩
      rcases Nat.lt_or_ge 2 k with r | r
      · exact r
      · exfalso
        have : k = 2 := by omega
        subst this
        omega
  obtain ⟨i, hi⟩ := low_all hS (fun z => - z.2)
  have hi' : ∀ m, (T (p (m % (k + 1)))).2 ≤ (T (p ((i + 1) % (k + 1)))).2 := fun m => by have := hi m; omega
  have hlow : ∀ m, (T (p ((k + 1) % (k + 1)))).2 ≤ (T (p (m % (k + 1)))).2 := by
    intro m
    rw [hm2]
    have hr := Nat.mod_lt m (show 0 < k + 1 by omega)
    generalize m % (k + 1) = r at *
    by_cases r0 : r = 0
    · rw [r0]; omega
    · rw [hT, hT]
      by_cases c : lnL U V (p r) = lnL U V U
      · have : lnD U V (p 0) < lnD U V (p r) := by
          by_cases rk : r = k
          · rw [rk]; exact hd
          · have := hb r (by omega) (by omega) c; omega
        rw [h0, c]; omega
      · have q := hL r
        have := hM1 0 r (by omega) (by omega) (by omega)
        omega
  have hes := ends_same hS (i := i) (j := k) hi' hlow
  simp only [hsgn, hm2, hm3, hm1 k (by omega)] at hes
  have ht := Nat.mod_lt (i + 1) (show 0 < k + 1 by omega)
  have htop := hi' j
  rw [hm1 j (by omega), hT, hT] at htop
  have hin : 0 < (i + 1) % (k + 1) ∧ (i + 1) % (k + 1) < k := by
    have a1 := hM1 0 j (by omega) (by omega) (by omega)
    have a2 := hM1 k j (by omega) (by omega) (by omega)
    constructor
    · rcases Nat.eq_zero_or_pos ((i + 1) % (k + 1)) with r | r
      · rw [r] at htop; omega
      · exact r
    · rcases Nat.lt_or_ge ((i + 1) % (k + 1)) k with r | r
      · exact r
      · rw [show (i + 1) % (k + 1) = k by omega] at htop; omega
  have e0 : i % (k + 1) + 1 = (i + 1) % (k + 1) := by
    have hr := Nat.mod_lt i (show 0 < k + 1 by omega)
    by_cases c : i % (k + 1) = k
    · rw [Nat.add_mod, c, hm1 1 (by omega), hm2] at hin; omega
    · rw [Nat.add_mod, hm1 1 (by omega), hm1 (i % (k + 1) + 1) (by omega)]
  have e2 : (i + 2) % (k + 1) = (i + 1) % (k + 1) + 1 := by
    rw [show i + 2 = (i + 1) + 1 by omega, Nat.add_mod (i + 1) 1, hm1 1 (by omega), hm1 _ (by omega)]
  have hgo := hl (i % (k + 1))
  rw [e2, ← e0] at hes
  have := hes.1 hgo
  have := hright 1
  omega
end Go.Pl
/- From the pairs of sides to closed chains; simple polygons that turn to the left only are strictly convex. -/
set_option linter.unusedVariables false
set_option linter.unusedSimpArgs false
namespace Go.Pl

theorem onS_of_On {a b z : Pt} (h : On a b z) : onS (a, b) z = true := by
  obtain ⟨k, m, h1, h2, h3, h4, h5⟩ := h
  have ht : turn a b z = 0 := by
    have : m * turn a b z = 0 := by unfold turn; grind
    rcases Int.mul_eq_zero.1 this with r | r
    · omega
    · exact r
  have hb : ∀ x y w : Int, m * (w - x) = k * (y - x) → min x y ≤ w ∧ w ≤ max x y := by
    intro x y w e
    have e' : m * (y - w) = (m - k) * (y - x) := by grind
    have s1 := @mul_sgn m (w - x) h1
    have s2 := @mul_sgn m (y - w) h1
    rcases Int.lt_or_le x y with c | c
    · have q1 : 0 ≤ k * (y - x) := Int.mul_nonneg h2 (by omega)
      have q2 : 0 ≤ (m - k) * (y - x) := Int.mul_nonneg (by omega) (by omega)
      omega
    · have q1 : 0 ≤ k * (x - y) := Int.mul_nonneg h2 (by omega)
      have q2 : 0 ≤ (m - k) * (x - y) := Int.mul_nonneg (by omega) (by omega)
      have e1 : k * (x - y) = -(k * (y - x)) := by grind
      have e2 : (m - k) * (x - y) = -((m - k) * (y - x)) := by grind
      omega
  have b1 := hb _ _ _ h4
  have b2 := hb _ _ _ h5
  unfold onS btw
  simp only [ht, beq_self_eq_true, Bool.and_eq_true, decide_eq_true_eq, true_and]
  exact ⟨b1, b2⟩
theorem mem_endsP {s t : Sg} {z : Pt} : z ∈ endsP s t ↔ (z = s.1 ∨ z = s.2 ∨ z = t.1 ∨ z = t.2) ∧ onS s z = true ∧ onS t z = true := by
  rw [endsP, mem_insP]; simp [List.mem_filter]
theorem nm_apart {a b p q : Pt} (h : relP (a, b) (p, q) = 0) : NM a b p q := by
  have hl : (endsP (a, b) (p, q)).length = 0 := by
    unfold relP at h
    split at h
    · simp at h
    · split at h
      · simp at h
      · omega
  have hno : ∀ z, z ∉ endsP (a, b) (p, q) := by
    intro z hz
    rw [List.length_eq_zero_iff] at hl
    rw [hl] at hz; cases hz
  have hc : crossesP (a, b) (p, q) = false := by
    unfold relP at h
    rw [if_neg (by omega), if_neg (by omega)] at h
    cases hq : crossesP (a, b) (p, q) with
    | false => rfl
    | true => rw [hq] at h; simp at h
  have k1 := onS_1 (a, b)
  have k2 := onS_2 (a, b)
  have k3 := onS_1 (p, q)
  have k4 := onS_2 (p, q)
  refine ⟨?_, fun _ _ ho => hno p (mem_endsP.2 ⟨by simp, onS_of_On ho, k3⟩), fun _ _ ho => hno q (mem_endsP.2 ⟨by simp, onS_of_On ho, k4⟩), fun _ _ ho => hno a (mem_endsP.2 ⟨by simp, k1, onS_of_On ho⟩), fun _ _ ho => hno b (mem_endsP.2 ⟨by simp, k2, onS_of_On ho⟩)⟩
  rintro ⟨x, y⟩
  have sg : ∀ u w : Int, (0 < u ∧ w < 0 ∨ u < 0 ∧ 0 < w) → sgnI u * sgnI w < 0 := by
    intro u w hh
    unfold sgnI
    rcases hh with ⟨r1, r2⟩ | ⟨r1, r2⟩
    · rw [if_neg (by omega), if_pos r1, if_pos r2]; omega
    · rw [if_pos r1, if_neg (by omega), if_pos r2]; omega
  have : crossesP (a, b) (p, q) = true := by
    unfold crossesP
    rw [decide_eq_true (sg _ _ x), decide_eq_true (sg _ _ y)]; rfl
  rw [hc] at this; cases this
theorem nm_touch {a b p q c : Pt} (h : relP (a, b) (p, q) ≠ 3) (h1 : c = a ∨ c = b) (h2 : c = p ∨ c = q) : NM a b p q := by
  have hl : ¬ 1 < (endsP (a, b) (p, q)).length := by
    intro hl
    unfold relP at h
    rw [if_pos hl] at h
    exact h rfl
  have k1 := onS_1 (a, b)
  have k2 := onS_2 (a, b)
  have k3 := onS_1 (p, q)
  have k4 := onS_2 (p, q)
  have hc : c ∈ endsP (a, b) (p, q) := by
    refine mem_endsP.2 ⟨?_, ?_, ?_⟩
    · rcases h1 with rfl | rfl <;> simp
    · rcases h1 with rfl | rfl
      · exact k1
      · exact k2
    · rcases h2 with rfl | rfl
      · exact k3
      · exact k4
  have two : ∀ z, z ≠ c → z ∉ endsP (a, b) (p, q) := by
    intro z hz hm
    match he : endsP (a, b) (p, q) with
    | [] => rw [he] at hc; cases hc
    | [x] =>
      rw [he] at hc hm
      simp only [List.mem_singleton] at hc hm
      exact hz (by rw [hm, hc])
    | x :: y :: r => rw [he] at hl; simp at hl
  refine ⟨?_, fun x y ho => two p (fun e => by rcases h1 with r | r <;> simp_all) (mem_endsP.2 ⟨by simp, onS_of_On ho, k3⟩), fun x y ho => two q (fun e => by rcases h1 with r | r <;> simp_all) (mem_endsP.2 ⟨by simp, onS_of_On ho, k4⟩),
    fun x y ho => two a (fun e => by rcases h2 with r | r <;> simp_all) (mem_endsP.2 ⟨by simp, k1, onS_of_On ho⟩), fun x y ho => two b (fun e => by rcases h2 with r | r <;> simp_all) (mem_endsP.2 ⟨by simp, k2, onS_of_On ho⟩)⟩
  rintro ⟨x, y⟩
  have t1 := turn_same1 a b
  have t2 := turn_same2 a b
  rcases h1 with r1 | r1 <;> rcases h2 with r2 | r2 <;> subst r1 <;> subst r2 <;> omega

def vl (l : List Pt) (i : Nat) : Pt := pA l (i % l.length)
theorem vl_lt {l : List Pt} {i : Nat} (h : i < l.length) : vl l i = pA l i := by rw [vl, Nat.mod_eq_of_lt h]
theorem ed_vl {l : List Pt} {i : Nat} (h : i < l.length) : edP l i = (vl l i, vl l (i + 1)) := by rw [vl_lt h]; rfl
theorem ply_of {l : List Pt} (hn : l.Nodup) (h3 : 3 ≤ l.length) (hp : pairsP l = true) : Ply (vl l) l.length := by
  refine ⟨h3, fun i => by simp [vl], fun i j hi hj e => pA_inj hn hi hj (by rwa [vl_lt hi, vl_lt hj] at e), fun i j hi hj hne => ?_⟩
  have h := pairs_all.1 hp i hi j hj hne
  rw [ed_vl hi, ed_vl hj] at h
  unfold okE at h
  cases ha : adjB l.length i j with
  | false =>
    rw [ha] at h
    exact nm_apart (by simpa using h)
  | true =>
    rw [ha] at h
    have hr : relP (vl l i, vl l (i + 1)) (vl l j, vl l (j + 1)) ≠ 3 := by simpa using h
    simp only [adjB, Bool.or_eq_true, decide_eq_true_eq] at ha
    rcases ha with ha | ha
    · refine nm_touch (c := vl l j) hr (.inr ?_) (.inl rfl)
      rw [vl_lt hj, vl, ha]
    · refine nm_touch (c := vl l i) hr (.inl rfl) (.inr ?_)
      rw [vl_lt hi, vl, ha]

/-! all turns to the left -/
theorem lefts_vl {l : List Pt} (h0 : 0 < l.length) (h : leftsP l = true) (i : Nat) : 0 < turn (vl l i) (vl l (i + 1)) (vl l (i + 2)) := by
  have := lefts_iff.1 h (i % l.length) (Nat.mod_lt _ h0)
  rwa [turnAt, Nat.mod_add_mod, Nat.mod_add_mod] at this
theorem vl_mem {l : List Pt} (h0 : 0 < l.length) (i : Nat) : vl l i ∈ l := pA_mem (Nat.mod_lt _ h0)
theorem mem_vl {l : List Pt} {x : Pt} (h : x ∈ l) : ∃ i, i < l.length ∧ vl l i = x := by
  obtain ⟨i, hi, e⟩ := List.getElem_of_mem h
  refine ⟨i, hi, ?_⟩
  rw [vl_lt hi, pA, List.getD, List.getElem?_eq_getElem hi]; exact e
theorem hull_three {l : List Pt} {a b c : Pt} (ha : a ∈ l) (hb : b ∈ l) (hc : c ∈ l) (ht : turn a b c ≠ 0) : 3 ≤ (hullP l).length := by
  match hh : hullP l with
  | [] =>
    obtain ⟨v, hv, _⟩ := hullP_sup l 0 0 ha
    rw [hh] at hv; cases hv
  | [w] =>
    exfalso
    have all : ∀ q ∈ l, q = w := by
      intro q hq
      have g : ∀ dx dy, lin dx dy q ≤ lin dx dy w := by
        intro dx dy
        obtain ⟨v, hv, hle⟩ := hullP_sup l dx dy hq
        rw [hh, List.mem_singleton] at hv
        rwa [hv] at hle
      have g1 := g 1 0
      have g2 := g (-1) 0
      have g3 := g 0 1
      have g4 := g 0 (-1)
      unfold lin at g1 g2 g3 g4
      exact Prod.ext (by omega) (by omega)
    exact ht (by rw [all a ha, all b hb]; unfold turn; grind)
  | [u, w] =>
    exfalso
    have hne : u ≠ w := by
      intro e
      have := hullP_nodup l
      rw [hh, e] at this
      simp at this
    have all : ∀ q ∈ l, lnL u w q = lnL u w u := by
      intro q hq
      have hV := ln_V u w
      obtain ⟨v, hv, h1⟩ := hullP_sup l (-(w.2 - u.2)) (w.1 - u.1) hq
      obtain ⟨v', hv', h2⟩ := hullP_sup l (w.2 - u.2) (-(w.1 - u.1)) hq
      have e1 : ∀ z, lin (-(w.2 - u.2)) (w.1 - u.1) z = lnL u w z := by intro z; unfold lin lnL; grind
      have e2 : ∀ z, lin (w.2 - u.2) (-(w.1 - u.1)) z = - lnL u w z := by intro z; unfold lin lnL; grind
      rw [e1, e1] at h1
      rw [e2, e2] at h2
      rw [hh] at hv hv'
      simp only [List.mem_cons, List.not_mem_nil, or_false] at hv hv'
      rcases hv with rfl | rfl <;> rcases hv' with rfl | rfl <;> omega
    have ea := all a ha
    have eb := all b hb
    have ec := all c hc
    have hp := ln_pair u w (ea.trans eb.symm) c
    rw [ea, ec, Int.sub_self, Int.mul_zero] at hp
    have := ln_pos hne
    rcases Int.mul_eq_zero.1 hp with r | r
    · omega
    · exact ht r
  | _ :: _ :: _ :: _ => simp

/-- On the line of an edge of the hull all points lie between its ends. -/
theorem hull_line {l : List Pt} (h3 : 3 ≤ (hullP l).length) (i : Nat) {x : Pt} (hx : x ∈ l) :
    lnL (vl (hullP l) i) (vl (hullP l) (i + 1)) (vl (hullP l) i) ≤ lnL (vl (hullP l) i) (vl (hullP l) (i + 1)) x ∧
    (lnL (vl (hullP l) i) (vl (hullP l) (i + 1)) x = lnL (vl (hullP l) i) (vl (hullP l) (i + 1)) (vl (hullP l) i) →
      lnD (vl (hullP l) i) (vl (hullP l) (i + 1)) (vl (hullP l) i) ≤ lnD (vl (hullP l) i) (vl (hullP l) (i + 1)) x) := by
  obtain ⟨H, hH⟩ : ∃ H, hullP l = H := ⟨_, rfl⟩
  have hedge : ∀ k, 0 ≤ turn (vl H k) (vl H (k + 1)) x := by
    intro k
    have hk := Nat.mod_lt k (show 0 < (hullP l).length by omega)
    have := hullP_edge (by omega) hk hx
    rw [hH] at this
    rw [edP, Nat.mod_add_mod] at this
    exact this
  have hst : ∀ k, 0 < turn (vl H k) (vl H (k + 1)) (vl H (k + 2)) := by
    intro k
    have := lefts_vl (l := hullP l) (by omega) (strict_lefts h3 (hullP_Strict (by omega))) k
    rwa [hH] at this
  rw [hH]
  have e0 := hedge i
  rw [ln_turn] at e0
  refine ⟨by omega, fun e => ?_⟩
  -- the edge before
  have hper : ∀ k, vl H (k + H.length) = vl H k := by intro k; simp [vl]
  rw [hH] at h3
  have hp := hedge (i + H.length - 1)
  have hs := hst (i + H.length - 1)
  have s1 : i + H.length - 1 + 1 = i + H.length := by omega
  have s2 : i + H.length - 1 + 2 = (i + 1) + H.length := by omega
  rw [s1, hper] at hp
  rw [s1, s2, hper, hper] at hs
  generalize vl H (i + H.length - 1) = T at hp hs
  generalize vl H i = U at *
  generalize vl H (i + 1) = V at *
  have id : ln2 U V * turn T U x = (lnD U V x - lnD U V U) * turn T U V := by unfold lnL lnD ln2 turn at *; grind
  have q : 0 ≤ ln2 U V := by
    unfold ln2
    have := sq_nonneg (V.1 - U.1)
    have := sq_nonneg (V.2 - U.2)
    omega
  have q2 := Int.mul_nonneg q hp
  rw [id] at q2
  have := @mul_sgn (turn T U V) (lnD U V x - lnD U V U) hs
  rw [Int.mul_comm] at this
  omega
/-- The vertex behind a vertex of the hull is the next one of the hull. -/
theorem hull_next {p : Nat → Pt} {n : Nat} (h : Ply p n) (hl : ∀ i, 0 < turn (p i) (p (i + 1)) (p (i + 2))) {U V : Pt} (hUV : U ≠ V) (hL : ∀ i, lnL U V U ≤ lnL U V (p i))
    (hB : ∀ i, lnL U V (p i) = lnL U V U → lnD U V U ≤ lnD U V (p i)) (h0 : p 0 = U) (hV : ∃ i, p i = V) : p 1 = V := by
  have hn := h.n3
  have hpos := ln_pos hUV
  have hD := ln_D U V
  have hLV := ln_V U V
  have far : ∀ i j, i < n → j < n → i ≠ j → lnL U V (p i) = lnL U V U → lnL U V (p j) = lnL U V U → lnD U V (p i) ≠ lnD U V (p j) := by
    intro i j hi hj hne e1 e2 e3
    exact hne (h.inj i j hi hj (ln_inj hUV (by omega) e3))
  obtain ⟨k0, hk0⟩ := hV
  rw [h.idx] at hk0
  have hk0n := Nat.mod_lt k0 (show 0 < n by omega)
  generalize k0 % n = k0 at *
  have hk00 : k0 ≠ 0 := fun e => hUV (by rw [← h0, ← hk0, e])
  obtain ⟨k, hkn, ⟨hk1, hk2⟩, hk3⟩ := min_ex (fun i => 0 < i ∧ lnL U V (p i) = lnL U V U) (fun i => lnD U V (p i)) n ⟨k0, hk0n, by omega, by rw [hk0]; exact hLV⟩
  have hbU := hB k hk2
  have hf0 := far 0 k (by omega) hkn (by omega) (by rw [h0]) hk2
  rw [h0] at hf0
  have hk : k = 1 := by
    apply Classical.byContradiction
    intro hk
    refine pocket h hl hUV hL (by rw [h0]) hk2 (by omega) hkn (by rw [h0]; omega) fun i hi hik hi2 => ?_
    have := hk3 i (by omega) ⟨hi, hi2⟩
    have := far k i hkn (by omega) (by omega) hk2 hi2
    omega
  subst hk
  apply Classical.byContradiction
  intro hne
  have hk01 : k0 ≠ 1 := fun e => hne (by rw [← e, hk0])
  obtain ⟨j, hjn, ⟨hj1, hj2⟩, hj3⟩ := min_ex (fun i => 0 < i ∧ lnL U V (p (i + 1)) = lnL U V U) (fun i => lnD U V (p (i + 1))) (n - 1) ⟨k0 - 1, by omega, by omega, by rw [show k0 - 1 + 1 = k0 by omega, hk0]; exact hLV⟩
  have q2 := hl 0
  simp only [Nat.zero_add] at q2
  have hj : j ≠ 1 := by
    intro e
    subst e
    have hp := ln_pair U V (a := p 0) (b := p 1) (by rw [h0, hk2]) (p 2)
    rw [hj2, h0, Int.sub_self, Int.mul_zero] at hp
    rw [h0] at q2
    have := Int.mul_pos hpos q2
    omega
  have hm := hk3 (j + 1) (by omega) ⟨by omega, hj2⟩
  have hf := far 1 (j + 1) (by omega) (by omega) (by omega) hk2 hj2
  refine pocket h.shift (fun i => hl (i + 1)) hUV (fun i => hL (i + 1)) hk2 hj2 (by omega) (by omega) (by simp only [Nat.zero_add]; omega) fun i hi hij hi2 => ?_
  have := hj3 i (by omega) ⟨hi, hi2⟩
  have := far (j + 1) (i + 1) (by omega) (by omega) (by omega) hj2 hi2
  omega
/-- A simple polygon whose turns are all to the left is strictly convex. -/
theorem lefts_strict {l : List Pt} (hn : l.Nodup) (h3 : 3 ≤ l.length) (hp : pairsP l = true) (hl : leftsP l = true) : Strict l := by
  have h := ply_of hn h3 hp
  have ht := lefts_vl (by omega) hl
  have h0 := ht 0
  have hm := fun i => vl_mem (l := l) (by omega) i
  have hH := hull_three (hm 0) (hm (0 + 1)) (hm (0 + 2)) (by omega)
  have hHn := hullP_nodup l
  have hne : ∀ j, vl (hullP l) j ≠ vl (hullP l) (j + 1) := by
    intro j e
    have := ed_ne hHn (by omega) (Nat.mod_lt j (show 0 < (hullP l).length by omega))
    rw [edP, Nat.mod_add_mod] at this
    exact this e
  obtain ⟨a, ha, ea⟩ := mem_vl (mem_hullP_sub (vl_mem (l := hullP l) (by omega) 0))
  have all : ∀ j, vl l (j + a) = vl (hullP l) j := by
    intro j
    induction j with
    | zero => rw [Nat.zero_add]; exact ea
    | succ j ih =>
      have hs := h.shifts (j + a)
      obtain ⟨b, hb, eb⟩ := mem_vl (mem_hullP_sub (vl_mem (l := hullP l) (by omega) (j + 1)))
      have := hull_next hs (fun i => by have := ht (i + (j + a)); rwa [show i + (j + a) + 1 = i + 1 + (j + a) by omega, show i + (j + a) + 2 = i + 2 + (j + a) by omega] at this) (hne j) (fun i => (hull_line hH j (hm _)).1) (fun i => (hull_line hH j (hm _)).2) (by rw [Nat.zero_add]; exact ih)
        ⟨b + l.length - (j + a) % l.length, by
          have hlt := Nat.mod_lt (j + a) (show 0 < l.length by omega)
          rw [← eb, vl, vl]
          congr 1
          have e := Nat.mod_add_div (j + a) l.length
          have : b + l.length - (j + a) % l.length + (j + a) = b + l.length * ((j + a) / l.length + 1) := by rw [Nat.mul_add]; omega
          rw [this, Nat.add_mul_mod_self_left]⟩
      rw [← this, show 1 + (j + a) = j + 1 + a by omega]
  intro i hi k hk h1 h2
  have back : ∀ i, i < l.length → vl l i = vl (hullP l) (i + (l.length - a)) := by
    intro i hi
    rw [← all, show i + (l.length - a) + a = i + l.length by omega, h.per]
  have hHp : 0 < (hullP l).length := by omega
  have hs := hullP_strict (l := l) (by omega) (Nat.mod_lt (i + (l.length - a)) hHp) (Nat.mod_lt (k + (l.length - a)) hHp) ?_ ?_
  · rw [ed_vl hi, ← vl_lt hk, back i hi, back k hk]
    have e1 : vl l (i + 1) = vl (hullP l) (i + (l.length - a) + 1) := by rw [← all, show i + (l.length - a) + 1 + a = i + 1 + l.length by omega, h.per]
    rw [e1]
    rw [edP, Nat.mod_add_mod] at hs
    exact hs
  · intro e
    have : vl l k = vl l i := by rw [back k hk, back i hi, vl, vl, e]
    rw [vl_lt hk, vl_lt hi] at this
    exact h1 (pA_inj hn hk hi this)
  · intro e
    rw [Nat.mod_add_mod] at e
    have : vl l k = vl l (i + 1) := by
      have e1 : vl l (i + 1) = vl (hullP l) (i + (l.length - a) + 1) := by rw [← all, show i + (l.length - a) + 1 + a = i + 1 + l.length by omega, h.per]
      rw [back k hk, e1, vl, vl, e]
    rw [vl_lt hk, vl] at this
    exact h2 (pA_inj hn hk (Nat.mod_lt _ (by omega)) this)
end Go.Pl
