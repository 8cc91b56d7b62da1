/- Contracts: one of some numbers; drawn points that may be invalid. -/
import Derived.Test.YteaanfpkakaaoaaB6
set_option linter.unusedVariables false
set_option linter.unusedSimpArgs false
namespace Go.Proofs.Yteaanfpkakaaoaa
open Go Go.Ideal Go.Pl Go.Sort


def badI (b : List Int) (p : Nat) : Int := [1001, -1001, 1000, -1000].getD (pickI b p 4).toNat 0
def aPoint (b : List Int) (p : Nat) : Pt × Nat :=
  if pickI b (p + 2) 16 = 0 then ((badI b (p + 3), (rPoint b p).2), p + 4)
  else if pickI b (p + 2) 16 = 1 then (((rPoint b p).1, badI b (p + 3)), p + 4)
  else (rPoint b p, p + 3)

end Go.Proofs.Yteaanfpkakaaoaa
