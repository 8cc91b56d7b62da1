/- Lattice points on edges; convex polygons; the first vertex in order; rings that begin elsewhere. -/
import Derived.Test.YtlcndghaendieaaPl7
set_option linter.unusedVariables false
namespace Go.Pl

theorem gcd_tmod (a b : Int) : Int.gcd b (a.tmod b) = Int.gcd a b := by
  rw [Int.gcd, Int.gcd, Int.natAbs_tmod, Nat.gcd_comm b.natAbs, ← Nat.gcd_rec, Nat.gcd_comm]
theorem tmod_lt {a b : Int} (h : b ≠ 0) : (a.tmod b).natAbs < b.natAbs := by
  rw [Int.natAbs_tmod]; exact Nat.mod_lt _ (by omega)
theorem gcd_zero (a : Int) : ((Int.gcd a 0 : Nat) : Int) = if a < 0 then -a else a := by
  rw [Int.gcd_zero_right]; split <;> omega
theorem gcd_abs (a b : Int) : Int.gcd (if a < 0 then -a else a) (if b < 0 then -b else b) = Int.gcd a b := by
  rw [Int.gcd, Int.gcd]; congr 1 <;> (split <;> omega)

/-- The lattice points on so many edges, each edge without its first end. -/
def lattN (l : List Pt) : Nat → Int
  | 0 => 0
  | i + 1 => lattN l i + ((Int.gcd ((edP l i).2.1 - (edP l i).1.1) ((edP l i).2.2 - (edP l i).1.2) : Nat) : Int)
def lattP (l : List Pt) : Int := lattN l l.length

/-- Is each turn at three vertices to the left? -/
def turnAt (l : List Pt) (i : Nat) : Int := turn (pA l i) (pA l ((i + 1) % l.length)) (pA l ((i + 2) % l.length))
def leftsP (l : List Pt) : Bool := (List.range l.length).all fun i => decide (0 < turnAt l i)
theorem lefts_iff {l : List Pt} : leftsP l = true ↔ ∀ i, i < l.length → 0 < turnAt l i := by simp [leftsP]
theorem lefts_no {l : List Pt} {i : Nat} (hi : i < l.length) (h : turnAt l i ≤ 0) : leftsP l = false := by
  rcases hb : leftsP l with _ | _
  · rfl
  · have := lefts_iff.1 hb i hi; omega
/-- The least sign of a point to so many edges. -/
def leastN (l : List Pt) (q : Pt) : Nat → Int
  | 0 => 1
  | i + 1 => min (leastN l q i) (sgnI (turn (edP l i).1 (edP l i).2 q))
end Go.Pl
