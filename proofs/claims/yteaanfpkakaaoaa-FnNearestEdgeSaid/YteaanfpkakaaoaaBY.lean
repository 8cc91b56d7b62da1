/- Contracts: what the exact laws do with lists of triangles: sizes, copies, equality. -/
import Derived.Test.YteaanfpkakaaoaaBX
set_option linter.unusedVariables false
set_option linter.unusedSimpArgs false
namespace Go.Proofs.Yteaanfpkakaaoaa
open Go Go.Ideal Go.Pl

theorem encTs_set (l : List Tr) (m : Nat) (p : Tr) : (encTs l).set m (.agg [.num .i64 p.1, .num .i64 p.2.1, .num .i64 p.2.2]) = encTs (l.set m p) := by
  show (l.map encT).set m (encT p) = (l.set m p).map encT
  rw [List.map_set]
def szTriangleV (l : List Tr) (left : Int) : Int := if left < (l.length : Int) then -1 else left - (l.length : Int)

end Go.Proofs.Yteaanfpkakaaoaa
