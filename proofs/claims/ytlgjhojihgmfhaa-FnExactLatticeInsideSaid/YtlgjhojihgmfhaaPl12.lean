/- Lattice points inside of a polygon, row by row. -/
import Derived.Test.YtlgjhojihgmfhaaPl11
set_option linter.unusedVariables false
namespace Go.Pl

/-- The least and the largest coordinates of so many points. -/
def lowF (l : List Pt) : Nat → Pt
  | 0 => pA l 0
  | i + 1 => (min (lowF l i).1 (pA l i).1, min (lowF l i).2 (pA l i).2)
def highF (l : List Pt) : Nat → Pt
  | 0 => pA l 0
  | i + 1 => (max (highF l i).1 (pA l i).1, max (highF l i).2 (pA l i).2)
def lowP (l : List Pt) : Pt := lowF l l.length
def highP2 (l : List Pt) : Pt := highF l l.length
/-- So many points of a column that fulfil a condition; so many columns. -/
def colN (f : Pt → Bool) (x y : Int) : Nat → List Pt
  | 0 => []
  | k + 1 => colN f x y k ++ if f (x, y + k) then [(x, y + k)] else []
def colsN (f : Pt → Bool) (x y : Int) (h : Nat) : Nat → List Pt
  | 0 => []
  | i + 1 => colsN f x y h i ++ colN f (x + i) y h
theorem colN_len (f : Pt → Bool) (x y : Int) : ∀ k, (colN f x y k).length ≤ k
  | 0 => Nat.le_refl _
  | k + 1 => by
    have := colN_len f x y k
    rw [colN, List.length_append]; split <;> simp <;> omega
theorem colsN_len (f : Pt → Bool) (x y : Int) (h : Nat) : ∀ i, (colsN f x y h i).length ≤ h * i
  | 0 => Nat.zero_le _
  | i + 1 => by
    have h1 := colsN_len f x y h i
    have h2 := colN_len f (x + i) y h
    rw [colsN, List.length_append, Nat.mul_succ]; omega
theorem low_bd {l : List Pt} {L : Int} (hl : ∀ i, i < l.length → L ≤ (pA l i).1 ∧ L ≤ (pA l i).2) (h0 : 0 < l.length) : ∀ i, i ≤ l.length → L ≤ (lowF l i).1 ∧ L ≤ (lowF l i).2
  | 0, _ => hl 0 h0
  | i + 1, hi => by
    have h1 := low_bd hl h0 i (by omega)
    have h2 := hl i (by omega)
    rw [lowF]; simp only []; omega
theorem high_bd {l : List Pt} {L : Int} (hl : ∀ i, i < l.length → (pA l i).1 ≤ L ∧ (pA l i).2 ≤ L) (h0 : 0 < l.length) : ∀ i, i ≤ l.length → (highF l i).1 ≤ L ∧ (highF l i).2 ≤ L
  | 0, _ => hl 0 h0
  | i + 1, hi => by
    have h1 := high_bd hl h0 i (by omega)
    have h2 := hl i (by omega)
    rw [highF]; simp only []; omega
theorem low_high (l : List Pt) : ∀ i, (lowF l i).1 ≤ (highF l i).1 ∧ (lowF l i).2 ≤ (highF l i).2
  | 0 => ⟨Int.le_refl _, Int.le_refl _⟩
  | i + 1 => by
    have h1 := low_high l i
    rw [lowF, highF]; simp only []; omega
end Go.Pl
