/- Corners of a region of half-planes. -/
import Derived.Test.YtlcndghaendieaaPl14
set_option linter.unusedVariables false
namespace Go.Pl

abbrev Hf := Int × Int × Int
def boxL : List Hf := [(1, 0, 1000), (-1, 0, 1000), (0, 1, 1000), (0, -1, 1000)]
def denH (g h : Hf) : Int := g.1 * h.2.1 - h.1 * g.2.1
def xH (g h : Hf) : Int := g.2.2 * h.2.1 - h.2.2 * g.2.1
def yH (g h : Hf) : Int := g.1 * h.2.2 - h.1 * g.2.2
def hasH (x y d : Int) (k : Hf) : Bool := decide (k.1 * x + k.2.1 * y ≤ k.2.2 * d)
/-- A number, its sign turned if asked. -/
def sgT (neg : Bool) (x : Int) : Int := if neg then -x else x
/-- The point in which the boundaries of two half-planes meet, if it is one of the region. -/
def candL (all : List Hf) (g h : Hf) : List QP :=
  let s := decide (denH g h < 0)
  if denH g h = 0 then [] else
  if all.all (hasH (sgT s (xH g h)) (sgT s (yH g h)) (sgT s (denH g h))) then [(redR (sgT s (xH g h)) (sgT s (denH g h)), redR (sgT s (yH g h)) (sgT s (denH g h)))] else []
abbrev hAt (l : List Hf) (i : Nat) : Hf := l.getD i (0, 0, 0)
def rawRow (all : List Hf) (i : Nat) : Nat → List QP
  | 0 => []
  | k + 1 => rawRow all i k ++ candL all (hAt all i) (hAt all k)
def rawAll (all : List Hf) : Nat → List QP
  | 0 => []
  | i + 1 => rawAll all i ++ rawRow all i i
/-- A half-plane whose numbers are not too large. -/
def smH (k : Hf) : Prop := (-2000 ≤ k.1 ∧ k.1 ≤ 2000) ∧ (-2000 ≤ k.2.1 ∧ k.2.1 ≤ 2000) ∧ (-4000000 ≤ k.2.2 ∧ k.2.2 ≤ 4000000)
theorem sgT_pos {d : Int} (h : d ≠ 0) : 0 < sgT (decide (d < 0)) d := by
  unfold sgT; by_cases c : d < 0
  · rw [if_pos (by simpa using c)]; omega
  · rw [if_neg (by simpa using c)]; omega
theorem sgT_bd {s : Bool} {x A : Int} (h : -A ≤ x ∧ x ≤ A) : -A ≤ sgT s x ∧ sgT s x ≤ A := by unfold sgT; split <;> omega
theorem mulB {x y A B : Int} (hx : -A ≤ x ∧ x ≤ A) (hy : -B ≤ y ∧ y ≤ B) : -(A * B) ≤ x * y ∧ x * y ≤ A * B := by
  have hA : 0 ≤ A := by omega
  have hB : 0 ≤ B := by omega
  have h1 := Int.mul_nonneg (a := A - x) (b := B - y) (by omega) (by omega)
  have h2 := Int.mul_nonneg (a := A + x) (b := B + y) (by omega) (by omega)
  have h3 := Int.mul_nonneg (a := A - x) (b := B + y) (by omega) (by omega)
  have h4 := Int.mul_nonneg (a := A + x) (b := B - y) (by omega) (by omega)
  constructor <;> grind
theorem den_bd {g h : Hf} (hg : smH g) (hh : smH h) : -8000000 ≤ denH g h ∧ denH g h ≤ 8000000 := by
  have h1 := mulB hg.1 hh.2.1
  have h2 := mulB hh.1 hg.2.1
  unfold denH; omega
theorem x_bd {g h : Hf} (hg : smH g) (hh : smH h) : -16000000000 ≤ xH g h ∧ xH g h ≤ 16000000000 := by
  have h1 := mulB hg.2.2 hh.2.1
  have h2 := mulB hh.2.2 hg.2.1
  unfold xH; omega
theorem y_bd {g h : Hf} (hg : smH g) (hh : smH h) : -16000000000 ≤ yH g h ∧ yH g h ≤ 16000000000 := by
  have h1 := mulB hg.1 hh.2.2
  have h2 := mulB hh.1 hg.2.2
  unfold yH; omega
theorem red_good {n d : Int} (hd : 0 < d) (h2 : d ≤ 20000000) (hn : -20000000000 ≤ n ∧ n ≤ 20000000000) : okR (redR n d) := by
  obtain ⟨hg, a, b, ha, hb, hr, hc⟩ := red_gcd (n := n) (d := d) (by omega)
  obtain ⟨g, hgg⟩ : ∃ g : Int, (Int.gcd n d : Int) = g := ⟨_, rfl⟩
  rw [hgg] at ha hb hg
  rw [hr]
  have hb0 : 0 < b := by
    by_cases h : 0 < b
    · exact h
    · have := Int.mul_nonneg (a := -b) (b := g) (by omega) (by omega)
      have e : -b * g = -(b * g) := Int.neg_mul b g
      omega
  have k1 : b ≤ b * g := by
    have := Int.mul_nonneg (a := b) (b := g - 1) (by omega) (by omega)
    rw [Int.mul_sub, Int.mul_one] at this; omega
  have k2 : a.natAbs ≤ n.natAbs := by
    rw [ha, Int.natAbs_mul]
    exact Nat.le_mul_of_pos_right _ (by omega)
  refine ⟨hb0, by simp only []; omega, hc, ?_, ?_⟩ <;> (simp only []; omega)
theorem cand_good {all : List Hf} {g h : Hf} (hg : smH g) (hh : smH h) : ∀ q ∈ candL all g h, goodQ q := by
  intro q hq
  unfold candL at hq
  simp only [] at hq
  split at hq
  · cases hq
  · rename_i h0
    split at hq
    · simp only [List.mem_cons, List.not_mem_nil, or_false] at hq
      subst hq
      have hp := sgT_pos h0
      have b1 := sgT_bd (s := decide (denH g h < 0)) (den_bd hg hh)
      have b2 := sgT_bd (s := decide (denH g h < 0)) (x_bd hg hh)
      have b3 := sgT_bd (s := decide (denH g h < 0)) (y_bd hg hh)
      exact ⟨red_good hp (by omega) (by omega), red_good hp (by omega) (by omega)⟩
    · cases hq
theorem row_good {all : List Hf} (ha : ∀ i, smH (hAt all i)) (i : Nat) : ∀ k, ∀ q ∈ rawRow all i k, goodQ q
  | 0, q, hq => by cases hq
  | k + 1, q, hq => by
    rw [rawRow, List.mem_append] at hq
    rcases hq with h | h
    · exact row_good ha i k q h
    · exact cand_good (ha i) (ha k) q h
theorem raw_good {all : List Hf} (ha : ∀ i, smH (hAt all i)) : ∀ i, ∀ q ∈ rawAll all i, goodQ q
  | 0, q, hq => by cases hq
  | i + 1, q, hq => by
    rw [rawAll, List.mem_append] at hq
    rcases hq with h | h
    · exact raw_good ha i q h
    · exact row_good ha i i q h
theorem cand_len (all : List Hf) (g h : Hf) : (candL all g h).length ≤ 1 := by
  unfold candL; simp only []; split
  · simp
  · split <;> simp
theorem row_len (all : List Hf) (i : Nat) : ∀ k, (rawRow all i k).length ≤ k
  | 0 => Nat.le_refl _
  | k + 1 => by
    have h1 := row_len all i k
    have h2 := cand_len all (hAt all i) (hAt all k)
    rw [rawRow, List.length_append]; omega
theorem raw_len (all : List Hf) : ∀ i, (rawAll all i).length ≤ i * i
  | 0 => Nat.le_refl _
  | i + 1 => by
    have h1 := raw_len all i
    have h2 := row_len all i i
    rw [rawAll, List.length_append, Nat.succ_mul, Nat.mul_succ]; omega
/-- The corners, in order. -/
def cornP (l : List Hf) : List QP := (rawAll (l ++ boxL) (l ++ boxL).length).foldl addQ []

/-! a half-plane and a point in lowest terms -/
/-- The sign of a half-plane at a point of fractions, over the least common multiple of the denominators. -/
def lcD (p : QP) : Int := p.1.2.tdiv (Int.gcd p.1.2 p.2.2)
def sideQ (k : Hf) (p : QP) : Int := k.1 * (p.1.1 * p.2.2.tdiv (Int.gcd p.1.2 p.2.2)) + k.2.1 * (p.2.1 * p.1.2.tdiv (Int.gcd p.1.2 p.2.2)) - k.2.2 * p.1.2.tdiv (Int.gcd p.1.2 p.2.2) * p.2.2
end Go.Pl
