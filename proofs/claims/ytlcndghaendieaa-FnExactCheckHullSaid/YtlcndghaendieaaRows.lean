/-
  No cell of these rows narrows 'for every input' (looked for: loops, veiled, ifaces, maps, wideKeys, modest, calm, conditions, laid).
  DERIVED. THE GIVEN ROWS OF THIS SEAT. 5 by the template 'for every input the law returns true; each argument reads behind the call as it read before'; 0 by the template 'total and deterministic' (their statements: YtlcndghaendieaaTotals.lean).
  GIVEN WITH THE SEED: the statements are not yours to turn. If you find one false, say at which input.
  Laid BY PROGRAM, IN A SANDBOX (cutbox-rows.mjs): the forced cells as the released guide's own fill.sh prints them over the translation eefdcda9541a8a87… (all of the seat's roots in one cut). By AI agents, Wed Nov 11 2026. No macro, syntax, notation, axiom, sorry.
-/
import Derived.Test.YtlcndghaendieaaChecked
import GoSem.Claim
import GoSem.ClaimJoined
import GoSem.ClaimMapViews
import Derived.JoinedTies
import Derived.KernelRfl
namespace Go.Proofs.Ytlcndghaendieaa
/- THE CELL 'sum', in the pinned program and in every row, IS THE sha256 OF THE DUMP (.gsa) THAT YtlcndghaendieaaProg.lean LOADS. Nothing in Lean hashes anything: it is a label: what it is worth is what the hold of that sum in a sandbox is worth. -/
noncomputable def Try.pinned : Pinned := { name := "ytlcndghaendieaa", sum := "eefdcda9541a8a87ac95d729d2306271e7c595934ef5cdce3d79a7754ccf1f1c", checked := Try.checked }
namespace Rows
def none {H : Type} : Left H := { results := [], args := [] }

/-- 'laws.FnPolygonDrawing': WHATEVER THE INPUT: true; the input reads as it did. -/
def fnPolygonDrawingSpec : ChangeSpec := { name := "fnPolygonDrawing", fn := fun _ => fun
  | [d] => { results := [.lit (.bool true)], args := [d] }
  | _ => none }
def fnPolygonDrawingRow : OpenClaim := { program := "ytlcndghaendieaa", sum := "eefdcda9541a8a87ac95d729d2306271e7c595934ef5cdce3d79a7754ccf1f1c", func := "loop.example/planargeometry/laws.FnPolygonDrawing", spec := "fnPolygonDrawing", unfollowed := true, recurses := true, apart := false }
def FnPolygonDrawingSaid : Prop := fnPolygonDrawingRow.holds Try.pinned (OpenSpec.ofChange fnPolygonDrawingSpec)

/-- ITS FALSE NEIGHBOUR: 'it returns false'. Refute it at one input. -/
def fnPolygonDrawingWrong : ChangeSpec := { name := "fnPolygonDrawing", fn := fun _ => fun
  | [d] => { results := [.lit (.bool false)], args := [d] }
  | _ => none }
def FnPolygonDrawingWrongFalsely : Prop := fnPolygonDrawingRow.holds Try.pinned (OpenSpec.ofChange fnPolygonDrawingWrong)

/-- 'laws.FnDoubleArea': WHATEVER THE INPUT: true; the input reads as it did. -/
def fnDoubleAreaSpec : ChangeSpec := { name := "fnDoubleArea", fn := fun _ => fun
  | [d1, d2] => { results := [.lit (.bool true)], args := [d1, d2] }
  | _ => none }
def fnDoubleAreaRow : OpenClaim := { program := "ytlcndghaendieaa", sum := "eefdcda9541a8a87ac95d729d2306271e7c595934ef5cdce3d79a7754ccf1f1c", func := "loop.example/planargeometry/laws.FnDoubleArea", spec := "fnDoubleArea", unfollowed := true, recurses := true, apart := false }
def FnDoubleAreaSaid : Prop := fnDoubleAreaRow.holds Try.pinned (OpenSpec.ofChange fnDoubleAreaSpec)

/-- ITS FALSE NEIGHBOUR: 'it returns false'. Refute it at one input. -/
def fnDoubleAreaWrong : ChangeSpec := { name := "fnDoubleArea", fn := fun _ => fun
  | [d1, d2] => { results := [.lit (.bool false)], args := [d1, d2] }
  | _ => none }
def FnDoubleAreaWrongFalsely : Prop := fnDoubleAreaRow.holds Try.pinned (OpenSpec.ofChange fnDoubleAreaWrong)

/-- 'laws.FnExactIsDiagonal': WHATEVER THE INPUT: true; the input reads as it did. -/
def fnExactIsDiagonalSpec : ChangeSpec := { name := "fnExactIsDiagonal", fn := fun _ => fun
  | [d1, d2, d3] => { results := [.lit (.bool true)], args := [d1, d2, d3] }
  | _ => none }
def fnExactIsDiagonalRow : OpenClaim := { program := "ytlcndghaendieaa", sum := "eefdcda9541a8a87ac95d729d2306271e7c595934ef5cdce3d79a7754ccf1f1c", func := "loop.example/planargeometry/laws.FnExactIsDiagonal", spec := "fnExactIsDiagonal", unfollowed := true, recurses := true, apart := false }
def FnExactIsDiagonalSaid : Prop := fnExactIsDiagonalRow.holds Try.pinned (OpenSpec.ofChange fnExactIsDiagonalSpec)

/-- ITS FALSE NEIGHBOUR: 'it returns false'. Refute it at one input. -/
def fnExactIsDiagonalWrong : ChangeSpec := { name := "fnExactIsDiagonal", fn := fun _ => fun
  | [d1, d2, d3] => { results := [.lit (.bool false)], args := [d1, d2, d3] }
  | _ => none }
def FnExactIsDiagonalWrongFalsely : Prop := fnExactIsDiagonalRow.holds Try.pinned (OpenSpec.ofChange fnExactIsDiagonalWrong)

/-- 'laws.FnExactCheckHull': WHATEVER THE INPUT: true; the input reads as it did. -/
def fnExactCheckHullSpec : ChangeSpec := { name := "fnExactCheckHull", fn := fun _ => fun
  | [d1, d2, d3] => { results := [.lit (.bool true)], args := [d1, d2, d3] }
  | _ => none }
def fnExactCheckHullRow : OpenClaim := { program := "ytlcndghaendieaa", sum := "eefdcda9541a8a87ac95d729d2306271e7c595934ef5cdce3d79a7754ccf1f1c", func := "loop.example/planargeometry/laws.FnExactCheckHull", spec := "fnExactCheckHull", unfollowed := true, recurses := true, apart := false }
def FnExactCheckHullSaid : Prop := fnExactCheckHullRow.holds Try.pinned (OpenSpec.ofChange fnExactCheckHullSpec)

/-- ITS FALSE NEIGHBOUR: 'it returns false'. Refute it at one input. -/
def fnExactCheckHullWrong : ChangeSpec := { name := "fnExactCheckHull", fn := fun _ => fun
  | [d1, d2, d3] => { results := [.lit (.bool false)], args := [d1, d2, d3] }
  | _ => none }
def FnExactCheckHullWrongFalsely : Prop := fnExactCheckHullRow.holds Try.pinned (OpenSpec.ofChange fnExactCheckHullWrong)

/-- 'laws.FnExactHullWitness': WHATEVER THE INPUT: true; the input reads as it did. -/
def fnExactHullWitnessSpec : ChangeSpec := { name := "fnExactHullWitness", fn := fun _ => fun
  | [d] => { results := [.lit (.bool true)], args := [d] }
  | _ => none }
def fnExactHullWitnessRow : OpenClaim := { program := "ytlcndghaendieaa", sum := "eefdcda9541a8a87ac95d729d2306271e7c595934ef5cdce3d79a7754ccf1f1c", func := "loop.example/planargeometry/laws.FnExactHullWitness", spec := "fnExactHullWitness", unfollowed := true, recurses := true, apart := false }
def FnExactHullWitnessSaid : Prop := fnExactHullWitnessRow.holds Try.pinned (OpenSpec.ofChange fnExactHullWitnessSpec)

/-- ITS FALSE NEIGHBOUR: 'it returns false'. Refute it at one input. -/
def fnExactHullWitnessWrong : ChangeSpec := { name := "fnExactHullWitness", fn := fun _ => fun
  | [d] => { results := [.lit (.bool false)], args := [d] }
  | _ => none }
def FnExactHullWitnessWrongFalsely : Prop := fnExactHullWitnessRow.holds Try.pinned (OpenSpec.ofChange fnExactHullWitnessWrong)

/- THE SECOND FORM. 'bulk': how many values and letters a reading holds, each counted each time it is reached (what is shared counts as often as it is met; a slice's spare places count too). A statement '..UptoSaid' is the law's where the arguments, and the package variables that the reading takes, are together of bulk at most 1048576: NARROWER than '..Said'. Prove '..Said' where nothing that the law and all that it calls make is longer than what came in: it says more and counts as full. Else prove '..UptoSaid'. A law counts once. -/
mutual
def uptoBulk {H : Type} : DataW H → Nat
  | .lit (.string bytes) => bytes.length + 1
  | .lit _ => 1
  | .nil => 1
  | .ptr d => uptoBulk d + 1
  | .slice elems spare => uptoBulkAll elems + uptoBulkAll spare + 1
  | .agg parts => uptoBulkAll parts + 1
  | .iface _ d => uptoBulk d + 1
  | .map entries => uptoBulkEntries entries + 1
  | .held _ => 1
def uptoBulkAll {H : Type} : List (DataW H) → Nat
  | [] => 0
  | d :: r => uptoBulk d + uptoBulkAll r
def uptoBulkEntries {H : Type} : List (Lit × DataW H) → Nat
  | [] => 0
  | x :: r => uptoBulkEntry x + uptoBulkEntries r
def uptoBulkEntry {H : Type} : Lit × DataW H → Nat
  | (.string bytes, d) => bytes.length + uptoBulk d + 1
  | (_, d) => uptoBulk d + 1
 end
def uptoSmall : (H : Type) → List (DataW H) → Bool := fun _ ds => decide (uptoBulkAll ds ≤ 1048576)
def OpenSpec.upto (s : _root_.Go.ChangeSpec) : _root_.Go.OpenSpec := { _root_.Go.OpenSpec.ofChange s with cond := some uptoSmall }

/-- 'laws.FnPolygonDrawing', WHERE WHAT IT READS IS OF BULK AT MOST 1048576: true; the input reads as it did. -/
def fnPolygonDrawingUptoRow : OpenClaim := { program := "ytlcndghaendieaa", sum := "eefdcda9541a8a87ac95d729d2306271e7c595934ef5cdce3d79a7754ccf1f1c", func := "loop.example/planargeometry/laws.FnPolygonDrawing", spec := "fnPolygonDrawing", unfollowed := true, recurses := true, apart := false, narrowed := true }
def FnPolygonDrawingUptoSaid : Prop := fnPolygonDrawingUptoRow.holds Try.pinned (OpenSpec.upto fnPolygonDrawingSpec)

/-- 'laws.FnDoubleArea', WHERE WHAT IT READS IS OF BULK AT MOST 1048576: true; the input reads as it did. -/
def fnDoubleAreaUptoRow : OpenClaim := { program := "ytlcndghaendieaa", sum := "eefdcda9541a8a87ac95d729d2306271e7c595934ef5cdce3d79a7754ccf1f1c", func := "loop.example/planargeometry/laws.FnDoubleArea", spec := "fnDoubleArea", unfollowed := true, recurses := true, apart := false, narrowed := true }
def FnDoubleAreaUptoSaid : Prop := fnDoubleAreaUptoRow.holds Try.pinned (OpenSpec.upto fnDoubleAreaSpec)

/-- 'laws.FnExactIsDiagonal', WHERE WHAT IT READS IS OF BULK AT MOST 1048576: true; the input reads as it did. -/
def fnExactIsDiagonalUptoRow : OpenClaim := { program := "ytlcndghaendieaa", sum := "eefdcda9541a8a87ac95d729d2306271e7c595934ef5cdce3d79a7754ccf1f1c", func := "loop.example/planargeometry/laws.FnExactIsDiagonal", spec := "fnExactIsDiagonal", unfollowed := true, recurses := true, apart := false, narrowed := true }
def FnExactIsDiagonalUptoSaid : Prop := fnExactIsDiagonalUptoRow.holds Try.pinned (OpenSpec.upto fnExactIsDiagonalSpec)

/-- 'laws.FnExactCheckHull', WHERE WHAT IT READS IS OF BULK AT MOST 1048576: true; the input reads as it did. -/
def fnExactCheckHullUptoRow : OpenClaim := { program := "ytlcndghaendieaa", sum := "eefdcda9541a8a87ac95d729d2306271e7c595934ef5cdce3d79a7754ccf1f1c", func := "loop.example/planargeometry/laws.FnExactCheckHull", spec := "fnExactCheckHull", unfollowed := true, recurses := true, apart := false, narrowed := true }
def FnExactCheckHullUptoSaid : Prop := fnExactCheckHullUptoRow.holds Try.pinned (OpenSpec.upto fnExactCheckHullSpec)

/-- 'laws.FnExactHullWitness', WHERE WHAT IT READS IS OF BULK AT MOST 1048576: true; the input reads as it did. -/
def fnExactHullWitnessUptoRow : OpenClaim := { program := "ytlcndghaendieaa", sum := "eefdcda9541a8a87ac95d729d2306271e7c595934ef5cdce3d79a7754ccf1f1c", func := "loop.example/planargeometry/laws.FnExactHullWitness", spec := "fnExactHullWitness", unfollowed := true, recurses := true, apart := false, narrowed := true }
def FnExactHullWitnessUptoSaid : Prop := fnExactHullWitnessUptoRow.holds Try.pinned (OpenSpec.upto fnExactHullWitnessSpec)

end Rows
end Go.Proofs.Ytlcndghaendieaa
