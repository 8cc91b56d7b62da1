/-
  No cell of these rows narrows 'for every input' (looked for: loops, veiled, ifaces, maps, wideKeys, modest, calm, conditions, laid).
  DERIVED. THE GIVEN ROWS OF THIS SEAT. 12 by the template 'for every input the law returns true; each argument reads behind the call as it read before'; 0 by the template 'total and deterministic' (their statements: YtlgjhojihgmfhaaTotals.lean).
  GIVEN WITH THE SEED: the statements are not yours to turn. If you find one false, say at which input.
  Laid BY PROGRAM, IN A SANDBOX (cutbox-rows.mjs): the forced cells as the released guide's own fill.sh prints them over the translation 489d586f0c821c6a… (all of the seat's roots in one cut). By AI agents, Wed Nov 11 2026. No macro, syntax, notation, axiom, sorry.
-/
import Derived.Test.YtlgjhojihgmfhaaChecked
import GoSem.Claim
import GoSem.ClaimJoined
import GoSem.ClaimMapViews
import Derived.JoinedTies
import Derived.KernelRfl
namespace Go.Proofs.Ytlgjhojihgmfhaa
/- THE CELL 'sum', in the pinned program and in every row, IS THE sha256 OF THE DUMP (.gsa) THAT YtlgjhojihgmfhaaProg.lean LOADS. Nothing in Lean hashes anything: it is a label: what it is worth is what the hold of that sum in a sandbox is worth. -/
noncomputable def Try.pinned : Pinned := { name := "ytlgjhojihgmfhaa", sum := "489d586f0c821c6ac3d41320b34358dd34438ecd9df738f279ed0d0367eee936", checked := Try.checked }
namespace Rows
def none {H : Type} : Left H := { results := [], args := [] }

/-- 'laws.FnExactCrossingPoints': WHATEVER THE INPUT: true; the input reads as it did. -/
def fnExactCrossingPointsSpec : ChangeSpec := { name := "fnExactCrossingPoints", fn := fun _ => fun
  | [d] => { results := [.lit (.bool true)], args := [d] }
  | _ => none }
def fnExactCrossingPointsRow : OpenClaim := { program := "ytlgjhojihgmfhaa", sum := "489d586f0c821c6ac3d41320b34358dd34438ecd9df738f279ed0d0367eee936", func := "loop.example/planargeometry/laws.FnExactCrossingPoints", spec := "fnExactCrossingPoints", unfollowed := true, recurses := true, apart := false }
def FnExactCrossingPointsSaid : Prop := fnExactCrossingPointsRow.holds Try.pinned (OpenSpec.ofChange fnExactCrossingPointsSpec)

/-- ITS FALSE NEIGHBOUR: 'it returns false'. Refute it at one input. -/
def fnExactCrossingPointsWrong : ChangeSpec := { name := "fnExactCrossingPoints", fn := fun _ => fun
  | [d] => { results := [.lit (.bool false)], args := [d] }
  | _ => none }
def FnExactCrossingPointsWrongFalsely : Prop := fnExactCrossingPointsRow.holds Try.pinned (OpenSpec.ofChange fnExactCrossingPointsWrong)

/-- 'laws.FnCrossArea': WHATEVER THE INPUT: true; the input reads as it did. -/
def fnCrossAreaSpec : ChangeSpec := { name := "fnCrossArea", fn := fun _ => fun
  | [d] => { results := [.lit (.bool true)], args := [d] }
  | _ => none }
def fnCrossAreaRow : OpenClaim := { program := "ytlgjhojihgmfhaa", sum := "489d586f0c821c6ac3d41320b34358dd34438ecd9df738f279ed0d0367eee936", func := "loop.example/planargeometry/laws.FnCrossArea", spec := "fnCrossArea", unfollowed := true, recurses := true, apart := false }
def FnCrossAreaSaid : Prop := fnCrossAreaRow.holds Try.pinned (OpenSpec.ofChange fnCrossAreaSpec)

/-- ITS FALSE NEIGHBOUR: 'it returns false'. Refute it at one input. -/
def fnCrossAreaWrong : ChangeSpec := { name := "fnCrossArea", fn := fun _ => fun
  | [d] => { results := [.lit (.bool false)], args := [d] }
  | _ => none }
def FnCrossAreaWrongFalsely : Prop := fnCrossAreaRow.holds Try.pinned (OpenSpec.ofChange fnCrossAreaWrong)

/-- 'laws.FnExactIsRedundant': WHATEVER THE INPUT: true; the input reads as it did. -/
def fnExactIsRedundantSpec : ChangeSpec := { name := "fnExactIsRedundant", fn := fun _ => fun
  | [d1, d2] => { results := [.lit (.bool true)], args := [d1, d2] }
  | _ => none }
def fnExactIsRedundantRow : OpenClaim := { program := "ytlgjhojihgmfhaa", sum := "489d586f0c821c6ac3d41320b34358dd34438ecd9df738f279ed0d0367eee936", func := "loop.example/planargeometry/laws.FnExactIsRedundant", spec := "fnExactIsRedundant", unfollowed := true, recurses := true, apart := false }
def FnExactIsRedundantSaid : Prop := fnExactIsRedundantRow.holds Try.pinned (OpenSpec.ofChange fnExactIsRedundantSpec)

/-- ITS FALSE NEIGHBOUR: 'it returns false'. Refute it at one input. -/
def fnExactIsRedundantWrong : ChangeSpec := { name := "fnExactIsRedundant", fn := fun _ => fun
  | [d1, d2] => { results := [.lit (.bool false)], args := [d1, d2] }
  | _ => none }
def FnExactIsRedundantWrongFalsely : Prop := fnExactIsRedundantRow.holds Try.pinned (OpenSpec.ofChange fnExactIsRedundantWrong)

/-- 'laws.FnHighest': WHATEVER THE INPUT: true; the input reads as it did. -/
def fnHighestSpec : ChangeSpec := { name := "fnHighest", fn := fun _ => fun
  | [d] => { results := [.lit (.bool true)], args := [d] }
  | _ => none }
def fnHighestRow : OpenClaim := { program := "ytlgjhojihgmfhaa", sum := "489d586f0c821c6ac3d41320b34358dd34438ecd9df738f279ed0d0367eee936", func := "loop.example/planargeometry/laws.FnHighest", spec := "fnHighest", unfollowed := true, recurses := true, apart := false }
def FnHighestSaid : Prop := fnHighestRow.holds Try.pinned (OpenSpec.ofChange fnHighestSpec)

/-- ITS FALSE NEIGHBOUR: 'it returns false'. Refute it at one input. -/
def fnHighestWrong : ChangeSpec := { name := "fnHighest", fn := fun _ => fun
  | [d] => { results := [.lit (.bool false)], args := [d] }
  | _ => none }
def FnHighestWrongFalsely : Prop := fnHighestRow.holds Try.pinned (OpenSpec.ofChange fnHighestWrong)

/-- 'laws.FnExactHighest': WHATEVER THE INPUT: true; the input reads as it did. -/
def fnExactHighestSpec : ChangeSpec := { name := "fnExactHighest", fn := fun _ => fun
  | [d] => { results := [.lit (.bool true)], args := [d] }
  | _ => none }
def fnExactHighestRow : OpenClaim := { program := "ytlgjhojihgmfhaa", sum := "489d586f0c821c6ac3d41320b34358dd34438ecd9df738f279ed0d0367eee936", func := "loop.example/planargeometry/laws.FnExactHighest", spec := "fnExactHighest", unfollowed := true, recurses := true, apart := false }
def FnExactHighestSaid : Prop := fnExactHighestRow.holds Try.pinned (OpenSpec.ofChange fnExactHighestSpec)

/-- ITS FALSE NEIGHBOUR: 'it returns false'. Refute it at one input. -/
def fnExactHighestWrong : ChangeSpec := { name := "fnExactHighest", fn := fun _ => fun
  | [d] => { results := [.lit (.bool false)], args := [d] }
  | _ => none }
def FnExactHighestWrongFalsely : Prop := fnExactHighestRow.holds Try.pinned (OpenSpec.ofChange fnExactHighestWrong)

/-- 'laws.FnExactCheckEmpty': WHATEVER THE INPUT: true; the input reads as it did. -/
def fnExactCheckEmptySpec : ChangeSpec := { name := "fnExactCheckEmpty", fn := fun _ => fun
  | [d1, d2] => { results := [.lit (.bool true)], args := [d1, d2] }
  | _ => none }
def fnExactCheckEmptyRow : OpenClaim := { program := "ytlgjhojihgmfhaa", sum := "489d586f0c821c6ac3d41320b34358dd34438ecd9df738f279ed0d0367eee936", func := "loop.example/planargeometry/laws.FnExactCheckEmpty", spec := "fnExactCheckEmpty", unfollowed := true, recurses := true, apart := false }
def FnExactCheckEmptySaid : Prop := fnExactCheckEmptyRow.holds Try.pinned (OpenSpec.ofChange fnExactCheckEmptySpec)

/-- ITS FALSE NEIGHBOUR: 'it returns false'. Refute it at one input. -/
def fnExactCheckEmptyWrong : ChangeSpec := { name := "fnExactCheckEmpty", fn := fun _ => fun
  | [d1, d2] => { results := [.lit (.bool false)], args := [d1, d2] }
  | _ => none }
def FnExactCheckEmptyWrongFalsely : Prop := fnExactCheckEmptyRow.holds Try.pinned (OpenSpec.ofChange fnExactCheckEmptyWrong)

/-- 'laws.FnExactSweepTriangles': WHATEVER THE INPUT: true; the input reads as it did. -/
def fnExactSweepTrianglesSpec : ChangeSpec := { name := "fnExactSweepTriangles", fn := fun _ => fun
  | [d] => { results := [.lit (.bool true)], args := [d] }
  | _ => none }
def fnExactSweepTrianglesRow : OpenClaim := { program := "ytlgjhojihgmfhaa", sum := "489d586f0c821c6ac3d41320b34358dd34438ecd9df738f279ed0d0367eee936", func := "loop.example/planargeometry/laws.FnExactSweepTriangles", spec := "fnExactSweepTriangles", unfollowed := true, recurses := true, apart := false }
def FnExactSweepTrianglesSaid : Prop := fnExactSweepTrianglesRow.holds Try.pinned (OpenSpec.ofChange fnExactSweepTrianglesSpec)

/-- ITS FALSE NEIGHBOUR: 'it returns false'. Refute it at one input. -/
def fnExactSweepTrianglesWrong : ChangeSpec := { name := "fnExactSweepTriangles", fn := fun _ => fun
  | [d] => { results := [.lit (.bool false)], args := [d] }
  | _ => none }
def FnExactSweepTrianglesWrongFalsely : Prop := fnExactSweepTrianglesRow.holds Try.pinned (OpenSpec.ofChange fnExactSweepTrianglesWrong)

/-- 'laws.FnExactWidthEdge': WHATEVER THE INPUT: true; the input reads as it did. -/
def fnExactWidthEdgeSpec : ChangeSpec := { name := "fnExactWidthEdge", fn := fun _ => fun
  | [d] => { results := [.lit (.bool true)], args := [d] }
  | _ => none }
def fnExactWidthEdgeRow : OpenClaim := { program := "ytlgjhojihgmfhaa", sum := "489d586f0c821c6ac3d41320b34358dd34438ecd9df738f279ed0d0367eee936", func := "loop.example/planargeometry/laws.FnExactWidthEdge", spec := "fnExactWidthEdge", unfollowed := true, recurses := true, apart := false }
def FnExactWidthEdgeSaid : Prop := fnExactWidthEdgeRow.holds Try.pinned (OpenSpec.ofChange fnExactWidthEdgeSpec)

/-- ITS FALSE NEIGHBOUR: 'it returns false'. Refute it at one input. -/
def fnExactWidthEdgeWrong : ChangeSpec := { name := "fnExactWidthEdge", fn := fun _ => fun
  | [d] => { results := [.lit (.bool false)], args := [d] }
  | _ => none }
def FnExactWidthEdgeWrongFalsely : Prop := fnExactWidthEdgeRow.holds Try.pinned (OpenSpec.ofChange fnExactWidthEdgeWrong)

/-- 'laws.FnExactCorners': WHATEVER THE INPUT: true; the input reads as it did. -/
def fnExactCornersSpec : ChangeSpec := { name := "fnExactCorners", fn := fun _ => fun
  | [d] => { results := [.lit (.bool true)], args := [d] }
  | _ => none }
def fnExactCornersRow : OpenClaim := { program := "ytlgjhojihgmfhaa", sum := "489d586f0c821c6ac3d41320b34358dd34438ecd9df738f279ed0d0367eee936", func := "loop.example/planargeometry/laws.FnExactCorners", spec := "fnExactCorners", unfollowed := true, recurses := true, apart := false }
def FnExactCornersSaid : Prop := fnExactCornersRow.holds Try.pinned (OpenSpec.ofChange fnExactCornersSpec)

/-- ITS FALSE NEIGHBOUR: 'it returns false'. Refute it at one input. -/
def fnExactCornersWrong : ChangeSpec := { name := "fnExactCorners", fn := fun _ => fun
  | [d] => { results := [.lit (.bool false)], args := [d] }
  | _ => none }
def FnExactCornersWrongFalsely : Prop := fnExactCornersRow.holds Try.pinned (OpenSpec.ofChange fnExactCornersWrong)

/-- 'laws.FnWidthEdge': WHATEVER THE INPUT: true; the input reads as it did. -/
def fnWidthEdgeSpec : ChangeSpec := { name := "fnWidthEdge", fn := fun _ => fun
  | [d] => { results := [.lit (.bool true)], args := [d] }
  | _ => none }
def fnWidthEdgeRow : OpenClaim := { program := "ytlgjhojihgmfhaa", sum := "489d586f0c821c6ac3d41320b34358dd34438ecd9df738f279ed0d0367eee936", func := "loop.example/planargeometry/laws.FnWidthEdge", spec := "fnWidthEdge", unfollowed := true, recurses := true, apart := false }
def FnWidthEdgeSaid : Prop := fnWidthEdgeRow.holds Try.pinned (OpenSpec.ofChange fnWidthEdgeSpec)

/-- ITS FALSE NEIGHBOUR: 'it returns false'. Refute it at one input. -/
def fnWidthEdgeWrong : ChangeSpec := { name := "fnWidthEdge", fn := fun _ => fun
  | [d] => { results := [.lit (.bool false)], args := [d] }
  | _ => none }
def FnWidthEdgeWrongFalsely : Prop := fnWidthEdgeRow.holds Try.pinned (OpenSpec.ofChange fnWidthEdgeWrong)

/-- 'laws.FnExactLatticeInside': WHATEVER THE INPUT: true; the input reads as it did. -/
def fnExactLatticeInsideSpec : ChangeSpec := { name := "fnExactLatticeInside", fn := fun _ => fun
  | [d] => { results := [.lit (.bool true)], args := [d] }
  | _ => none }
def fnExactLatticeInsideRow : OpenClaim := { program := "ytlgjhojihgmfhaa", sum := "489d586f0c821c6ac3d41320b34358dd34438ecd9df738f279ed0d0367eee936", func := "loop.example/planargeometry/laws.FnExactLatticeInside", spec := "fnExactLatticeInside", unfollowed := true, recurses := true, apart := false }
def FnExactLatticeInsideSaid : Prop := fnExactLatticeInsideRow.holds Try.pinned (OpenSpec.ofChange fnExactLatticeInsideSpec)

/-- ITS FALSE NEIGHBOUR: 'it returns false'. Refute it at one input. -/
def fnExactLatticeInsideWrong : ChangeSpec := { name := "fnExactLatticeInside", fn := fun _ => fun
  | [d] => { results := [.lit (.bool false)], args := [d] }
  | _ => none }
def FnExactLatticeInsideWrongFalsely : Prop := fnExactLatticeInsideRow.holds Try.pinned (OpenSpec.ofChange fnExactLatticeInsideWrong)

/-- 'laws.FnHull': WHATEVER THE INPUT: true; the input reads as it did. -/
def fnHullSpec : ChangeSpec := { name := "fnHull", fn := fun _ => fun
  | [d] => { results := [.lit (.bool true)], args := [d] }
  | _ => none }
def fnHullRow : OpenClaim := { program := "ytlgjhojihgmfhaa", sum := "489d586f0c821c6ac3d41320b34358dd34438ecd9df738f279ed0d0367eee936", func := "loop.example/planargeometry/laws.FnHull", spec := "fnHull", unfollowed := true, recurses := true, apart := false }
def FnHullSaid : Prop := fnHullRow.holds Try.pinned (OpenSpec.ofChange fnHullSpec)

/-- ITS FALSE NEIGHBOUR: 'it returns false'. Refute it at one input. -/
def fnHullWrong : ChangeSpec := { name := "fnHull", fn := fun _ => fun
  | [d] => { results := [.lit (.bool false)], args := [d] }
  | _ => none }
def FnHullWrongFalsely : Prop := fnHullRow.holds Try.pinned (OpenSpec.ofChange fnHullWrong)

/- THE SECOND FORM. 'bulk': how many values and letters a reading holds, each counted each time it is reached (what is shared counts as often as it is met; a slice's spare places count too). A statement '..UptoSaid' is the law's where the arguments, and the package variables that the reading takes, are together of bulk at most 1048576: NARROWER than '..Said'. Prove '..Said' where nothing that the law and all that it calls make is longer than what came in: it says more and counts as full. Else prove '..UptoSaid'. A law counts once. -/
mutual
def uptoBulk {H : Type} : DataW H → Nat
  | .lit (.string bytes) => bytes.length + 1
  | .lit _ => 1
  | .nil => 1
  | .ptr d => uptoBulk d + 1
  | .slice elems spare => uptoBulkAll elems + uptoBulkAll spare + 1
  | .agg parts => uptoBulkAll parts + 1
  | .iface _ d => uptoBulk d + 1
  | .map entries => uptoBulkEntries entries + 1
  | .held _ => 1
def uptoBulkAll {H : Type} : List (DataW H) → Nat
  | [] => 0
  | d :: r => uptoBulk d + uptoBulkAll r
def uptoBulkEntries {H : Type} : List (Lit × DataW H) → Nat
  | [] => 0
  | x :: r => uptoBulkEntry x + uptoBulkEntries r
def uptoBulkEntry {H : Type} : Lit × DataW H → Nat
  | (.string bytes, d) => bytes.length + uptoBulk d + 1
  | (_, d) => uptoBulk d + 1
 end
def uptoSmall : (H : Type) → List (DataW H) → Bool := fun _ ds => decide (uptoBulkAll ds ≤ 1048576)
def OpenSpec.upto (s : _root_.Go.ChangeSpec) : _root_.Go.OpenSpec := { _root_.Go.OpenSpec.ofChange s with cond := some uptoSmall }

/-- 'laws.FnExactCrossingPoints', WHERE WHAT IT READS IS OF BULK AT MOST 1048576: true; the input reads as it did. -/
def fnExactCrossingPointsUptoRow : OpenClaim := { program := "ytlgjhojihgmfhaa", sum := "489d586f0c821c6ac3d41320b34358dd34438ecd9df738f279ed0d0367eee936", func := "loop.example/planargeometry/laws.FnExactCrossingPoints", spec := "fnExactCrossingPoints", unfollowed := true, recurses := true, apart := false, narrowed := true }
def FnExactCrossingPointsUptoSaid : Prop := fnExactCrossingPointsUptoRow.holds Try.pinned (OpenSpec.upto fnExactCrossingPointsSpec)

/-- 'laws.FnCrossArea', WHERE WHAT IT READS IS OF BULK AT MOST 1048576: true; the input reads as it did. -/
def fnCrossAreaUptoRow : OpenClaim := { program := "ytlgjhojihgmfhaa", sum := "489d586f0c821c6ac3d41320b34358dd34438ecd9df738f279ed0d0367eee936", func := "loop.example/planargeometry/laws.FnCrossArea", spec := "fnCrossArea", unfollowed := true, recurses := true, apart := false, narrowed := true }
def FnCrossAreaUptoSaid : Prop := fnCrossAreaUptoRow.holds Try.pinned (OpenSpec.upto fnCrossAreaSpec)

/-- 'laws.FnExactIsRedundant', WHERE WHAT IT READS IS OF BULK AT MOST 1048576: true; the input reads as it did. -/
def fnExactIsRedundantUptoRow : OpenClaim := { program := "ytlgjhojihgmfhaa", sum := "489d586f0c821c6ac3d41320b34358dd34438ecd9df738f279ed0d0367eee936", func := "loop.example/planargeometry/laws.FnExactIsRedundant", spec := "fnExactIsRedundant", unfollowed := true, recurses := true, apart := false, narrowed := true }
def FnExactIsRedundantUptoSaid : Prop := fnExactIsRedundantUptoRow.holds Try.pinned (OpenSpec.upto fnExactIsRedundantSpec)

/-- 'laws.FnHighest', WHERE WHAT IT READS IS OF BULK AT MOST 1048576: true; the input reads as it did. -/
def fnHighestUptoRow : OpenClaim := { program := "ytlgjhojihgmfhaa", sum := "489d586f0c821c6ac3d41320b34358dd34438ecd9df738f279ed0d0367eee936", func := "loop.example/planargeometry/laws.FnHighest", spec := "fnHighest", unfollowed := true, recurses := true, apart := false, narrowed := true }
def FnHighestUptoSaid : Prop := fnHighestUptoRow.holds Try.pinned (OpenSpec.upto fnHighestSpec)

/-- 'laws.FnExactHighest', WHERE WHAT IT READS IS OF BULK AT MOST 1048576: true; the input reads as it did. -/
def fnExactHighestUptoRow : OpenClaim := { program := "ytlgjhojihgmfhaa", sum := "489d586f0c821c6ac3d41320b34358dd34438ecd9df738f279ed0d0367eee936", func := "loop.example/planargeometry/laws.FnExactHighest", spec := "fnExactHighest", unfollowed := true, recurses := true, apart := false, narrowed := true }
def FnExactHighestUptoSaid : Prop := fnExactHighestUptoRow.holds Try.pinned (OpenSpec.upto fnExactHighestSpec)

/-- 'laws.FnExactCheckEmpty', WHERE WHAT IT READS IS OF BULK AT MOST 1048576: true; the input reads as it did. -/
def fnExactCheckEmptyUptoRow : OpenClaim := { program := "ytlgjhojihgmfhaa", sum := "489d586f0c821c6ac3d41320b34358dd34438ecd9df738f279ed0d0367eee936", func := "loop.example/planargeometry/laws.FnExactCheckEmpty", spec := "fnExactCheckEmpty", unfollowed := true, recurses := true, apart := false, narrowed := true }
def FnExactCheckEmptyUptoSaid : Prop := fnExactCheckEmptyUptoRow.holds Try.pinned (OpenSpec.upto fnExactCheckEmptySpec)

/-- 'laws.FnExactSweepTriangles', WHERE WHAT IT READS IS OF BULK AT MOST 1048576: true; the input reads as it did. -/
def fnExactSweepTrianglesUptoRow : OpenClaim := { program := "ytlgjhojihgmfhaa", sum := "489d586f0c821c6ac3d41320b34358dd34438ecd9df738f279ed0d0367eee936", func := "loop.example/planargeometry/laws.FnExactSweepTriangles", spec := "fnExactSweepTriangles", unfollowed := true, recurses := true, apart := false, narrowed := true }
def FnExactSweepTrianglesUptoSaid : Prop := fnExactSweepTrianglesUptoRow.holds Try.pinned (OpenSpec.upto fnExactSweepTrianglesSpec)

/-- 'laws.FnExactWidthEdge', WHERE WHAT IT READS IS OF BULK AT MOST 1048576: true; the input reads as it did. -/
def fnExactWidthEdgeUptoRow : OpenClaim := { program := "ytlgjhojihgmfhaa", sum := "489d586f0c821c6ac3d41320b34358dd34438ecd9df738f279ed0d0367eee936", func := "loop.example/planargeometry/laws.FnExactWidthEdge", spec := "fnExactWidthEdge", unfollowed := true, recurses := true, apart := false, narrowed := true }
def FnExactWidthEdgeUptoSaid : Prop := fnExactWidthEdgeUptoRow.holds Try.pinned (OpenSpec.upto fnExactWidthEdgeSpec)

/-- 'laws.FnExactCorners', WHERE WHAT IT READS IS OF BULK AT MOST 1048576: true; the input reads as it did. -/
def fnExactCornersUptoRow : OpenClaim := { program := "ytlgjhojihgmfhaa", sum := "489d586f0c821c6ac3d41320b34358dd34438ecd9df738f279ed0d0367eee936", func := "loop.example/planargeometry/laws.FnExactCorners", spec := "fnExactCorners", unfollowed := true, recurses := true, apart := false, narrowed := true }
def FnExactCornersUptoSaid : Prop := fnExactCornersUptoRow.holds Try.pinned (OpenSpec.upto fnExactCornersSpec)

/-- 'laws.FnWidthEdge', WHERE WHAT IT READS IS OF BULK AT MOST 1048576: true; the input reads as it did. -/
def fnWidthEdgeUptoRow : OpenClaim := { program := "ytlgjhojihgmfhaa", sum := "489d586f0c821c6ac3d41320b34358dd34438ecd9df738f279ed0d0367eee936", func := "loop.example/planargeometry/laws.FnWidthEdge", spec := "fnWidthEdge", unfollowed := true, recurses := true, apart := false, narrowed := true }
def FnWidthEdgeUptoSaid : Prop := fnWidthEdgeUptoRow.holds Try.pinned (OpenSpec.upto fnWidthEdgeSpec)

/-- 'laws.FnExactLatticeInside', WHERE WHAT IT READS IS OF BULK AT MOST 1048576: true; the input reads as it did. -/
def fnExactLatticeInsideUptoRow : OpenClaim := { program := "ytlgjhojihgmfhaa", sum := "489d586f0c821c6ac3d41320b34358dd34438ecd9df738f279ed0d0367eee936", func := "loop.example/planargeometry/laws.FnExactLatticeInside", spec := "fnExactLatticeInside", unfollowed := true, recurses := true, apart := false, narrowed := true }
def FnExactLatticeInsideUptoSaid : Prop := fnExactLatticeInsideUptoRow.holds Try.pinned (OpenSpec.upto fnExactLatticeInsideSpec)

/-- 'laws.FnHull', WHERE WHAT IT READS IS OF BULK AT MOST 1048576: true; the input reads as it did. -/
def fnHullUptoRow : OpenClaim := { program := "ytlgjhojihgmfhaa", sum := "489d586f0c821c6ac3d41320b34358dd34438ecd9df738f279ed0d0367eee936", func := "loop.example/planargeometry/laws.FnHull", spec := "fnHull", unfollowed := true, recurses := true, apart := false, narrowed := true }
def FnHullUptoSaid : Prop := fnHullUptoRow.holds Try.pinned (OpenSpec.upto fnHullSpec)

end Rows
end Go.Proofs.Ytlgjhojihgmfhaa
