/- Circles through three points; points in ascending order. -/
import Derived.Test.YtlcndghaendieaaPl9
set_option linter.unusedVariables false
namespace Go.Pl

/-- Positive if d is inside of the circle through a, b, c, which are counterclockwise. -/
def inC (a b c d : Pt) : Int :=
  ((a.1 - d.1) * (a.1 - d.1) + (a.2 - d.2) * (a.2 - d.2)) * ((b.1 - d.1) * (c.2 - d.2) - (b.2 - d.2) * (c.1 - d.1))
  - ((b.1 - d.1) * (b.1 - d.1) + (b.2 - d.2) * (b.2 - d.2)) * ((a.1 - d.1) * (c.2 - d.2) - (a.2 - d.2) * (c.1 - d.1))
  + ((c.1 - d.1) * (c.1 - d.1) + (c.2 - d.2) * (c.2 - d.2)) * ((a.1 - d.1) * (b.2 - d.2) - (a.2 - d.2) * (b.1 - d.1))
theorem inC_alt (ax ay bx b_ cx cy : Int) : (ax * ax + ay * ay) * (bx * cy - b_ * cx) + (bx * bx + b_ * b_) * (cx * ay - cy * ax) + (cx * cx + cy * cy) * (ax * b_ - ay * bx)
    = (ax * ax + ay * ay) * (bx * cy - b_ * cx) - (bx * bx + b_ * b_) * (ax * cy - ay * cx) + (cx * cx + cy * cy) * (ax * b_ - ay * bx) := by grind

theorem asc_of_adj {l : List Pt} (h : ∀ i, i + 1 < l.length → ltP (pA l i) (pA l (i + 1)) = true) : Asc l := by
  have key : ∀ d i, i + d + 1 < l.length → ltP (pA l i) (pA l (i + d + 1)) = true := by
    intro d
    induction d with
    | zero => intro i hi; exact h i hi
    | succ d ih => intro i hi; exact ltP_trans (ih i (by omega)) (h (i + d + 1) (by omega))
  refine List.pairwise_iff_getElem.2 fun i j hi hj hij => ?_
  have := key (j - i - 1) i (by omega)
  rw [show i + (j - i - 1) + 1 = j by omega] at this
  simpa [pA, List.getD, hi, hj] using this
theorem adj_of_asc {l : List Pt} (h : Asc l) {i : Nat} (hi : i + 1 < l.length) : ltP (pA l i) (pA l (i + 1)) = true := by
  have := List.pairwise_iff_getElem.1 h i (i + 1) (by omega) hi (by omega)
  simpa [pA, List.getD, hi, show i < l.length by omega] using this
theorem asc_ins {l : List Pt} : l = insP l ↔ Asc l := ⟨fun h => by rw [h]; exact asc_insP l, fun h => (insP_of_asc h).symm⟩
end Go.Pl
