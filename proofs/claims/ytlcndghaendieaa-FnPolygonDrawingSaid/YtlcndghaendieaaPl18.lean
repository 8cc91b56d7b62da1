/- Segments that cross: the numbers of the point in which they meet. -/
import Derived.Test.YtlcndghaendieaaPl17
set_option linter.unusedVariables false
namespace Go.Pl

theorem rel_two {s t : Sg} (h : relP s t = 2) : (endsP s t).length = 0 ∧ crossesP s t = true := by
  unfold relP at h
  split at h
  · cases h
  · split at h
    · cases h
    · split at h
      · rename_i h1 h2 h3; exact ⟨by omega, h3⟩
      · cases h
theorem sgn_opp {a b : Int} (h : sgnI a * sgnI b < 0) : (0 < a ∧ b < 0) ∨ (a < 0 ∧ 0 < b) := by
  unfold sgnI at h
  by_cases a1 : a < 0
  · by_cases b1 : b < 0
    · simp [a1, b1] at h
    · by_cases b2 : 0 < b
      · exact .inr ⟨a1, b2⟩
      · simp [a1, b1, b2] at h
  · by_cases a2 : 0 < a
    · by_cases b1 : b < 0
      · exact .inl ⟨a2, b1⟩
      · by_cases b2 : 0 < b
        · simp [a1, a2, b1, b2] at h
        · simp [a1, a2, b1, b2] at h
    · simp [a1, a2] at h
def numX (s t : Sg) : Int := turn t.1 t.2 s.1
def denX (s t : Sg) : Int := numX s t - turn t.1 t.2 s.2
def in9 (p : Pt) : Prop := (-1000 ≤ p.1 ∧ p.1 ≤ 1000) ∧ (-1000 ≤ p.2 ∧ p.2 ≤ 1000)
theorem turn_bd {a b c : Pt} (ha : in9 a) (hb : in9 b) (hc : in9 c) : -8000000 ≤ turn a b c ∧ turn a b c ≤ 8000000 := by
  unfold in9 at ha hb hc
  have m1 := mulB (A := 2000) (B := 2000) (x := b.1 - a.1) (y := c.2 - a.2) (by omega) (by omega)
  have m2 := mulB (A := 2000) (B := 2000) (x := b.2 - a.2) (y := c.1 - a.1) (by omega) (by omega)
  unfold turn; omega
theorem between_bd {a b n d : Int} (ha : -1000 ≤ a ∧ a ≤ 1000) (hb : -1000 ≤ b ∧ b ≤ 1000) (h : (0 < n ∧ n < d) ∨ (d < n ∧ n < 0)) (hd : -16000000 ≤ d ∧ d ≤ 16000000) : -20000000000 ≤ a * d + (b - a) * n ∧ a * d + (b - a) * n ≤ 20000000000 := by
  have e : a * d + (b - a) * n = a * (d - n) + b * n := by grind
  rw [e]
  rcases h with ⟨h1, h2⟩ | ⟨h1, h2⟩
  · have p1 := Int.mul_nonneg (a := 1000 - a) (b := d - n) (by omega) (by omega)
    have p2 := Int.mul_nonneg (a := 1000 + a) (b := d - n) (by omega) (by omega)
    have p3 := Int.mul_nonneg (a := 1000 - b) (b := n) (by omega) (by omega)
    have p4 := Int.mul_nonneg (a := 1000 + b) (b := n) (by omega) (by omega)
    rw [Int.sub_mul] at p1 p3
    rw [Int.add_mul] at p2 p4
    omega
  · have p1 := Int.mul_nonneg (a := 1000 - a) (b := n - d) (by omega) (by omega)
    have p2 := Int.mul_nonneg (a := 1000 + a) (b := n - d) (by omega) (by omega)
    have p3 := Int.mul_nonneg (a := 1000 - b) (b := -n) (by omega) (by omega)
    have p4 := Int.mul_nonneg (a := 1000 + b) (b := -n) (by omega) (by omega)
    have e1 : a * (d - n) = -(a * (n - d)) := by grind
    have e2 : b * n = -(b * (-n)) := by grind
    rw [e1, e2]
    rw [Int.sub_mul] at p1 p3
    rw [Int.add_mul] at p2 p4
    omega
/-- The numbers of a crossing. -/
theorem cross_nums {s t : Sg} (h1 : in9 s.1) (h2 : in9 s.2) (h3 : in9 t.1) (h4 : in9 t.2) (h : relP s t = 2) : denX s t ≠ 0 ∧ (-16000000 ≤ denX s t ∧ denX s t ≤ 16000000) ∧ (-8000000 ≤ numX s t ∧ numX s t ≤ 8000000)
    ∧ (-20000000000 ≤ s.1.1 * denX s t + (s.2.1 - s.1.1) * numX s t ∧ s.1.1 * denX s t + (s.2.1 - s.1.1) * numX s t ≤ 20000000000)
    ∧ (-20000000000 ≤ s.1.2 * denX s t + (s.2.2 - s.1.2) * numX s t ∧ s.1.2 * denX s t + (s.2.2 - s.1.2) * numX s t ≤ 20000000000) := by
  have b1 := turn_bd h3 h4 h1
  have b2 := turn_bd h3 h4 h2
  have hc := (rel_two h).2
  unfold crossesP at hc
  simp only [Bool.and_eq_true, decide_eq_true_eq] at hc
  have ho := sgn_opp hc.2
  have hb : (0 < numX s t ∧ numX s t < denX s t) ∨ (denX s t < numX s t ∧ numX s t < 0) := by unfold denX numX; omega
  have hd : -16000000 ≤ denX s t ∧ denX s t ≤ 16000000 := by unfold denX numX; omega
  refine ⟨by omega, hd, b1, between_bd h1.1 h2.1 hb hd, between_bd h1.2 h2.2 hb hd⟩

/-! pairs of indices -/
def prow (a k : Nat) : List Pt := (List.range k).map fun j => ((a : Int), ((a + 1 + j : Nat) : Int))
theorem prow_succ (a k : Nat) : prow a (k + 1) = prow a k ++ [((a : Int), ((a + 1 + k : Nat) : Int))] := by simp [prow, List.range_succ]
theorem prow_len (a k : Nat) : (prow a k).length = k := by simp [prow]
def prs (n : Nat) : Nat → List Pt
  | 0 => []
  | a + 1 => prs n a ++ prow a (n - (a + 1))
theorem prs_len (n : Nat) : ∀ a, (prs n a).length ≤ n * a
  | 0 => Nat.zero_le _
  | a + 1 => by
    have := prs_len n a
    rw [prs, List.length_append, prow_len, Nat.mul_succ]; omega
theorem prow_mem {a k : Nat} {p : Pt} (h : p ∈ prow a k) : ∃ j, j < k ∧ p = ((a : Int), ((a + 1 + j : Nat) : Int)) := by
  simp only [prow, List.mem_map, List.mem_range] at h
  obtain ⟨j, hj, rfl⟩ := h; exact ⟨j, hj, rfl⟩
theorem prs_mem {n : Nat} {p : Pt} : ∀ {a : Nat}, a ≤ n → p ∈ prs n a → ∃ i j : Nat, i < j ∧ j < n ∧ p = ((i : Int), (j : Int))
  | 0, _, h => by cases h
  | a + 1, ha, h => by
    rw [prs, List.mem_append] at h
    rcases h with h | h
    · exact prs_mem (by omega) h
    · obtain ⟨j, hj, rfl⟩ := prow_mem h
      exact ⟨a, a + 1 + j, by omega, by omega, rfl⟩
def xrow {β : Type} (f : Pt → List β) (i : Nat) : Nat → List β
  | 0 => []
  | k + 1 => xrow f i k ++ f ((i : Int), ((i + 1 + k : Nat) : Int))
def xall {β : Type} (f : Pt → List β) (n : Nat) : Nat → List β
  | 0 => []
  | i + 1 => xall f n i ++ xrow f i (n - (i + 1))
theorem row_flat {β : Type} (f : Pt → List β) (i : Nat) : ∀ k, (prow i k).flatMap f = xrow f i k
  | 0 => rfl
  | k + 1 => by rw [prow_succ, List.flatMap_append, row_flat f i k, xrow]; simp
theorem prs_flat {β : Type} (f : Pt → List β) (n : Nat) : ∀ i, (prs n i).flatMap f = xall f n i
  | 0 => rfl
  | i + 1 => by rw [prs, List.flatMap_append, prs_flat f n i, row_flat, xall]
end Go.Pl
