/- The law on sorted points: the walk. -/
import Derived.Test.YtemppebemahkoaaB6
set_option linter.unusedVariables false
set_option linter.unusedSimpArgs false
namespace Go.Proofs.Ytemppebemahkoaa
open Go Go.Ideal Go.Pl Go.Sort


theorem drawPts_any (l : List Pt) (p : Pt) : l.any (· == p) = decide (p ∈ l) := by
  rw [Bool.eq_iff_iff]; simp

end Go.Proofs.Ytemppebemahkoaa
