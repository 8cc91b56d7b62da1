/-
  No cell of these rows narrows 'for every input' (looked for: loops, veiled, ifaces, maps, wideKeys, modest, calm, conditions, laid).
  DERIVED. THE GIVEN ROWS OF THIS SEAT. 12 by the template 'for every input the law returns true; each argument reads behind the call as it read before'; 0 by the template 'total and deterministic' (their statements: YtlifmigihfancaaTotals.lean).
  GIVEN WITH THE SEED: the statements are not yours to turn. If you find one false, say at which input.
  Laid BY PROGRAM, IN A SANDBOX (cutbox-rows.mjs): the forced cells as the released guide's own fill.sh prints them over the translation 72cf75bc59a009dc… (all of the seat's roots in one cut). By AI agents, Wed Nov 11 2026. No macro, syntax, notation, axiom, sorry.
-/
import Derived.Test.YtlifmigihfancaaChecked
import GoSem.Claim
import GoSem.ClaimJoined
import GoSem.ClaimMapViews
import Derived.JoinedTies
import Derived.KernelRfl
namespace Go.Proofs.Ytlifmigihfancaa
/- THE CELL 'sum', in the pinned program and in every row, IS THE sha256 OF THE DUMP (.gsa) THAT YtlifmigihfancaaProg.lean LOADS. Nothing in Lean hashes anything: it is a label: what it is worth is what the hold of that sum in a sandbox is worth. -/
noncomputable def Try.pinned : Pinned := { name := "ytlifmigihfancaa", sum := "72cf75bc59a009dc77f1825b62d19bae6437a1dc1d27f1efb8d149604bca2474", checked := Try.checked }
namespace Rows
def none {H : Type} : Left H := { results := [], args := [] }

/-- 'laws.FnKdOrder': WHATEVER THE INPUT: true; the input reads as it did. -/
def fnKdOrderSpec : ChangeSpec := { name := "fnKdOrder", fn := fun _ => fun
  | [d] => { results := [.lit (.bool true)], args := [d] }
  | _ => none }
def fnKdOrderRow : OpenClaim := { program := "ytlifmigihfancaa", sum := "72cf75bc59a009dc77f1825b62d19bae6437a1dc1d27f1efb8d149604bca2474", func := "loop.example/planargeometry/laws.FnKdOrder", spec := "fnKdOrder", unfollowed := true, recurses := true, apart := false }
def FnKdOrderSaid : Prop := fnKdOrderRow.holds Try.pinned (OpenSpec.ofChange fnKdOrderSpec)

/-- ITS FALSE NEIGHBOUR: 'it returns false'. Refute it at one input. -/
def fnKdOrderWrong : ChangeSpec := { name := "fnKdOrder", fn := fun _ => fun
  | [d] => { results := [.lit (.bool false)], args := [d] }
  | _ => none }
def FnKdOrderWrongFalsely : Prop := fnKdOrderRow.holds Try.pinned (OpenSpec.ofChange fnKdOrderWrong)

/-- 'laws.FnMaxDepth': WHATEVER THE INPUT: true; the input reads as it did. -/
def fnMaxDepthSpec : ChangeSpec := { name := "fnMaxDepth", fn := fun _ => fun
  | [d] => { results := [.lit (.bool true)], args := [d] }
  | _ => none }
def fnMaxDepthRow : OpenClaim := { program := "ytlifmigihfancaa", sum := "72cf75bc59a009dc77f1825b62d19bae6437a1dc1d27f1efb8d149604bca2474", func := "loop.example/planargeometry/laws.FnMaxDepth", spec := "fnMaxDepth", unfollowed := true, recurses := true, apart := false }
def FnMaxDepthSaid : Prop := fnMaxDepthRow.holds Try.pinned (OpenSpec.ofChange fnMaxDepthSpec)

/-- ITS FALSE NEIGHBOUR: 'it returns false'. Refute it at one input. -/
def fnMaxDepthWrong : ChangeSpec := { name := "fnMaxDepth", fn := fun _ => fun
  | [d] => { results := [.lit (.bool false)], args := [d] }
  | _ => none }
def FnMaxDepthWrongFalsely : Prop := fnMaxDepthRow.holds Try.pinned (OpenSpec.ofChange fnMaxDepthWrong)

/-- 'laws.FnExactKdOrder': WHATEVER THE INPUT: true; the input reads as it did. -/
def fnExactKdOrderSpec : ChangeSpec := { name := "fnExactKdOrder", fn := fun _ => fun
  | [d] => { results := [.lit (.bool true)], args := [d] }
  | _ => none }
def fnExactKdOrderRow : OpenClaim := { program := "ytlifmigihfancaa", sum := "72cf75bc59a009dc77f1825b62d19bae6437a1dc1d27f1efb8d149604bca2474", func := "loop.example/planargeometry/laws.FnExactKdOrder", spec := "fnExactKdOrder", unfollowed := true, recurses := true, apart := false }
def FnExactKdOrderSaid : Prop := fnExactKdOrderRow.holds Try.pinned (OpenSpec.ofChange fnExactKdOrderSpec)

/-- ITS FALSE NEIGHBOUR: 'it returns false'. Refute it at one input. -/
def fnExactKdOrderWrong : ChangeSpec := { name := "fnExactKdOrder", fn := fun _ => fun
  | [d] => { results := [.lit (.bool false)], args := [d] }
  | _ => none }
def FnExactKdOrderWrongFalsely : Prop := fnExactKdOrderRow.holds Try.pinned (OpenSpec.ofChange fnExactKdOrderWrong)

/-- 'laws.FnCrossArea': WHATEVER THE INPUT: true; the input reads as it did. -/
def fnCrossAreaSpec : ChangeSpec := { name := "fnCrossArea", fn := fun _ => fun
  | [d] => { results := [.lit (.bool true)], args := [d] }
  | _ => none }
def fnCrossAreaRow : OpenClaim := { program := "ytlifmigihfancaa", sum := "72cf75bc59a009dc77f1825b62d19bae6437a1dc1d27f1efb8d149604bca2474", func := "loop.example/planargeometry/laws.FnCrossArea", spec := "fnCrossArea", unfollowed := true, recurses := true, apart := false }
def FnCrossAreaSaid : Prop := fnCrossAreaRow.holds Try.pinned (OpenSpec.ofChange fnCrossAreaSpec)

/-- ITS FALSE NEIGHBOUR: 'it returns false'. Refute it at one input. -/
def fnCrossAreaWrong : ChangeSpec := { name := "fnCrossArea", fn := fun _ => fun
  | [d] => { results := [.lit (.bool false)], args := [d] }
  | _ => none }
def FnCrossAreaWrongFalsely : Prop := fnCrossAreaRow.holds Try.pinned (OpenSpec.ofChange fnCrossAreaWrong)

/-- 'laws.FnEnclosingHull': WHATEVER THE INPUT: true; the input reads as it did. -/
def fnEnclosingHullSpec : ChangeSpec := { name := "fnEnclosingHull", fn := fun _ => fun
  | [d] => { results := [.lit (.bool true)], args := [d] }
  | _ => none }
def fnEnclosingHullRow : OpenClaim := { program := "ytlifmigihfancaa", sum := "72cf75bc59a009dc77f1825b62d19bae6437a1dc1d27f1efb8d149604bca2474", func := "loop.example/planargeometry/laws.FnEnclosingHull", spec := "fnEnclosingHull", unfollowed := true, recurses := true, apart := false }
def FnEnclosingHullSaid : Prop := fnEnclosingHullRow.holds Try.pinned (OpenSpec.ofChange fnEnclosingHullSpec)

/-- ITS FALSE NEIGHBOUR: 'it returns false'. Refute it at one input. -/
def fnEnclosingHullWrong : ChangeSpec := { name := "fnEnclosingHull", fn := fun _ => fun
  | [d] => { results := [.lit (.bool false)], args := [d] }
  | _ => none }
def FnEnclosingHullWrongFalsely : Prop := fnEnclosingHullRow.holds Try.pinned (OpenSpec.ofChange fnEnclosingHullWrong)

/-- 'laws.FnEnclosingSupport': WHATEVER THE INPUT: true; the input reads as it did. -/
def fnEnclosingSupportSpec : ChangeSpec := { name := "fnEnclosingSupport", fn := fun _ => fun
  | [d] => { results := [.lit (.bool true)], args := [d] }
  | _ => none }
def fnEnclosingSupportRow : OpenClaim := { program := "ytlifmigihfancaa", sum := "72cf75bc59a009dc77f1825b62d19bae6437a1dc1d27f1efb8d149604bca2474", func := "loop.example/planargeometry/laws.FnEnclosingSupport", spec := "fnEnclosingSupport", unfollowed := true, recurses := true, apart := false }
def FnEnclosingSupportSaid : Prop := fnEnclosingSupportRow.holds Try.pinned (OpenSpec.ofChange fnEnclosingSupportSpec)

/-- ITS FALSE NEIGHBOUR: 'it returns false'. Refute it at one input. -/
def fnEnclosingSupportWrong : ChangeSpec := { name := "fnEnclosingSupport", fn := fun _ => fun
  | [d] => { results := [.lit (.bool false)], args := [d] }
  | _ => none }
def FnEnclosingSupportWrongFalsely : Prop := fnEnclosingSupportRow.holds Try.pinned (OpenSpec.ofChange fnEnclosingSupportWrong)

/-- 'laws.FnExactWidthEdge': WHATEVER THE INPUT: true; the input reads as it did. -/
def fnExactWidthEdgeSpec : ChangeSpec := { name := "fnExactWidthEdge", fn := fun _ => fun
  | [d] => { results := [.lit (.bool true)], args := [d] }
  | _ => none }
def fnExactWidthEdgeRow : OpenClaim := { program := "ytlifmigihfancaa", sum := "72cf75bc59a009dc77f1825b62d19bae6437a1dc1d27f1efb8d149604bca2474", func := "loop.example/planargeometry/laws.FnExactWidthEdge", spec := "fnExactWidthEdge", unfollowed := true, recurses := true, apart := false }
def FnExactWidthEdgeSaid : Prop := fnExactWidthEdgeRow.holds Try.pinned (OpenSpec.ofChange fnExactWidthEdgeSpec)

/-- ITS FALSE NEIGHBOUR: 'it returns false'. Refute it at one input. -/
def fnExactWidthEdgeWrong : ChangeSpec := { name := "fnExactWidthEdge", fn := fun _ => fun
  | [d] => { results := [.lit (.bool false)], args := [d] }
  | _ => none }
def FnExactWidthEdgeWrongFalsely : Prop := fnExactWidthEdgeRow.holds Try.pinned (OpenSpec.ofChange fnExactWidthEdgeWrong)

/-- 'laws.FnWidthEdge': WHATEVER THE INPUT: true; the input reads as it did. -/
def fnWidthEdgeSpec : ChangeSpec := { name := "fnWidthEdge", fn := fun _ => fun
  | [d] => { results := [.lit (.bool true)], args := [d] }
  | _ => none }
def fnWidthEdgeRow : OpenClaim := { program := "ytlifmigihfancaa", sum := "72cf75bc59a009dc77f1825b62d19bae6437a1dc1d27f1efb8d149604bca2474", func := "loop.example/planargeometry/laws.FnWidthEdge", spec := "fnWidthEdge", unfollowed := true, recurses := true, apart := false }
def FnWidthEdgeSaid : Prop := fnWidthEdgeRow.holds Try.pinned (OpenSpec.ofChange fnWidthEdgeSpec)

/-- ITS FALSE NEIGHBOUR: 'it returns false'. Refute it at one input. -/
def fnWidthEdgeWrong : ChangeSpec := { name := "fnWidthEdge", fn := fun _ => fun
  | [d] => { results := [.lit (.bool false)], args := [d] }
  | _ => none }
def FnWidthEdgeWrongFalsely : Prop := fnWidthEdgeRow.holds Try.pinned (OpenSpec.ofChange fnWidthEdgeWrong)

/-- 'laws.FnCheckEmpty': WHATEVER THE INPUT: true; the input reads as it did. -/
def fnCheckEmptySpec : ChangeSpec := { name := "fnCheckEmpty", fn := fun _ => fun
  | [d] => { results := [.lit (.bool true)], args := [d] }
  | _ => none }
def fnCheckEmptyRow : OpenClaim := { program := "ytlifmigihfancaa", sum := "72cf75bc59a009dc77f1825b62d19bae6437a1dc1d27f1efb8d149604bca2474", func := "loop.example/planargeometry/laws.FnCheckEmpty", spec := "fnCheckEmpty", unfollowed := true, recurses := true, apart := false }
def FnCheckEmptySaid : Prop := fnCheckEmptyRow.holds Try.pinned (OpenSpec.ofChange fnCheckEmptySpec)

/-- ITS FALSE NEIGHBOUR: 'it returns false'. Refute it at one input. -/
def fnCheckEmptyWrong : ChangeSpec := { name := "fnCheckEmpty", fn := fun _ => fun
  | [d] => { results := [.lit (.bool false)], args := [d] }
  | _ => none }
def FnCheckEmptyWrongFalsely : Prop := fnCheckEmptyRow.holds Try.pinned (OpenSpec.ofChange fnCheckEmptyWrong)

/-- 'laws.FnEmptyWitness': WHATEVER THE INPUT: true; the input reads as it did. -/
def fnEmptyWitnessSpec : ChangeSpec := { name := "fnEmptyWitness", fn := fun _ => fun
  | [d] => { results := [.lit (.bool true)], args := [d] }
  | _ => none }
def fnEmptyWitnessRow : OpenClaim := { program := "ytlifmigihfancaa", sum := "72cf75bc59a009dc77f1825b62d19bae6437a1dc1d27f1efb8d149604bca2474", func := "loop.example/planargeometry/laws.FnEmptyWitness", spec := "fnEmptyWitness", unfollowed := true, recurses := true, apart := false }
def FnEmptyWitnessSaid : Prop := fnEmptyWitnessRow.holds Try.pinned (OpenSpec.ofChange fnEmptyWitnessSpec)

/-- ITS FALSE NEIGHBOUR: 'it returns false'. Refute it at one input. -/
def fnEmptyWitnessWrong : ChangeSpec := { name := "fnEmptyWitness", fn := fun _ => fun
  | [d] => { results := [.lit (.bool false)], args := [d] }
  | _ => none }
def FnEmptyWitnessWrongFalsely : Prop := fnEmptyWitnessRow.holds Try.pinned (OpenSpec.ofChange fnEmptyWitnessWrong)

/-- 'laws.FnExactEmptyWitness': WHATEVER THE INPUT: true; the input reads as it did. -/
def fnExactEmptyWitnessSpec : ChangeSpec := { name := "fnExactEmptyWitness", fn := fun _ => fun
  | [d] => { results := [.lit (.bool true)], args := [d] }
  | _ => none }
def fnExactEmptyWitnessRow : OpenClaim := { program := "ytlifmigihfancaa", sum := "72cf75bc59a009dc77f1825b62d19bae6437a1dc1d27f1efb8d149604bca2474", func := "loop.example/planargeometry/laws.FnExactEmptyWitness", spec := "fnExactEmptyWitness", unfollowed := true, recurses := true, apart := false }
def FnExactEmptyWitnessSaid : Prop := fnExactEmptyWitnessRow.holds Try.pinned (OpenSpec.ofChange fnExactEmptyWitnessSpec)

/-- ITS FALSE NEIGHBOUR: 'it returns false'. Refute it at one input. -/
def fnExactEmptyWitnessWrong : ChangeSpec := { name := "fnExactEmptyWitness", fn := fun _ => fun
  | [d] => { results := [.lit (.bool false)], args := [d] }
  | _ => none }
def FnExactEmptyWitnessWrongFalsely : Prop := fnExactEmptyWitnessRow.holds Try.pinned (OpenSpec.ofChange fnExactEmptyWitnessWrong)

/-- 'laws.FnDelaunayTriangle': WHATEVER THE INPUT: true; the input reads as it did. -/
def fnDelaunayTriangleSpec : ChangeSpec := { name := "fnDelaunayTriangle", fn := fun _ => fun
  | [d] => { results := [.lit (.bool true)], args := [d] }
  | _ => none }
def fnDelaunayTriangleRow : OpenClaim := { program := "ytlifmigihfancaa", sum := "72cf75bc59a009dc77f1825b62d19bae6437a1dc1d27f1efb8d149604bca2474", func := "loop.example/planargeometry/laws.FnDelaunayTriangle", spec := "fnDelaunayTriangle", unfollowed := true, recurses := true, apart := false }
def FnDelaunayTriangleSaid : Prop := fnDelaunayTriangleRow.holds Try.pinned (OpenSpec.ofChange fnDelaunayTriangleSpec)

/-- ITS FALSE NEIGHBOUR: 'it returns false'. Refute it at one input. -/
def fnDelaunayTriangleWrong : ChangeSpec := { name := "fnDelaunayTriangle", fn := fun _ => fun
  | [d] => { results := [.lit (.bool false)], args := [d] }
  | _ => none }
def FnDelaunayTriangleWrongFalsely : Prop := fnDelaunayTriangleRow.holds Try.pinned (OpenSpec.ofChange fnDelaunayTriangleWrong)

/- THE SECOND FORM. 'bulk': how many values and letters a reading holds, each counted each time it is reached (what is shared counts as often as it is met; a slice's spare places count too). A statement '..UptoSaid' is the law's where the arguments, and the package variables that the reading takes, are together of bulk at most 1048576: NARROWER than '..Said'. Prove '..Said' where nothing that the law and all that it calls make is longer than what came in: it says more and counts as full. Else prove '..UptoSaid'. A law counts once. -/
mutual
def uptoBulk {H : Type} : DataW H → Nat
  | .lit (.string bytes) => bytes.length + 1
  | .lit _ => 1
  | .nil => 1
  | .ptr d => uptoBulk d + 1
  | .slice elems spare => uptoBulkAll elems + uptoBulkAll spare + 1
  | .agg parts => uptoBulkAll parts + 1
  | .iface _ d => uptoBulk d + 1
  | .map entries => uptoBulkEntries entries + 1
  | .held _ => 1
def uptoBulkAll {H : Type} : List (DataW H) → Nat
  | [] => 0
  | d :: r => uptoBulk d + uptoBulkAll r
def uptoBulkEntries {H : Type} : List (Lit × DataW H) → Nat
  | [] => 0
  | x :: r => uptoBulkEntry x + uptoBulkEntries r
def uptoBulkEntry {H : Type} : Lit × DataW H → Nat
  | (.string bytes, d) => bytes.length + uptoBulk d + 1
  | (_, d) => uptoBulk d + 1
 end
def uptoSmall : (H : Type) → List (DataW H) → Bool := fun _ ds => decide (uptoBulkAll ds ≤ 1048576)
def OpenSpec.upto (s : _root_.Go.ChangeSpec) : _root_.Go.OpenSpec := { _root_.Go.OpenSpec.ofChange s with cond := some uptoSmall }

/-- 'laws.FnKdOrder', WHERE WHAT IT READS IS OF BULK AT MOST 1048576: true; the input reads as it did. -/
def fnKdOrderUptoRow : OpenClaim := { program := "ytlifmigihfancaa", sum := "72cf75bc59a009dc77f1825b62d19bae6437a1dc1d27f1efb8d149604bca2474", func := "loop.example/planargeometry/laws.FnKdOrder", spec := "fnKdOrder", unfollowed := true, recurses := true, apart := false, narrowed := true }
def FnKdOrderUptoSaid : Prop := fnKdOrderUptoRow.holds Try.pinned (OpenSpec.upto fnKdOrderSpec)

/-- 'laws.FnMaxDepth', WHERE WHAT IT READS IS OF BULK AT MOST 1048576: true; the input reads as it did. -/
def fnMaxDepthUptoRow : OpenClaim := { program := "ytlifmigihfancaa", sum := "72cf75bc59a009dc77f1825b62d19bae6437a1dc1d27f1efb8d149604bca2474", func := "loop.example/planargeometry/laws.FnMaxDepth", spec := "fnMaxDepth", unfollowed := true, recurses := true, apart := false, narrowed := true }
def FnMaxDepthUptoSaid : Prop := fnMaxDepthUptoRow.holds Try.pinned (OpenSpec.upto fnMaxDepthSpec)

/-- 'laws.FnExactKdOrder', WHERE WHAT IT READS IS OF BULK AT MOST 1048576: true; the input reads as it did. -/
def fnExactKdOrderUptoRow : OpenClaim := { program := "ytlifmigihfancaa", sum := "72cf75bc59a009dc77f1825b62d19bae6437a1dc1d27f1efb8d149604bca2474", func := "loop.example/planargeometry/laws.FnExactKdOrder", spec := "fnExactKdOrder", unfollowed := true, recurses := true, apart := false, narrowed := true }
def FnExactKdOrderUptoSaid : Prop := fnExactKdOrderUptoRow.holds Try.pinned (OpenSpec.upto fnExactKdOrderSpec)

/-- 'laws.FnCrossArea', WHERE WHAT IT READS IS OF BULK AT MOST 1048576: true; the input reads as it did. -/
def fnCrossAreaUptoRow : OpenClaim := { program := "ytlifmigihfancaa", sum := "72cf75bc59a009dc77f1825b62d19bae6437a1dc1d27f1efb8d149604bca2474", func := "loop.example/planargeometry/laws.FnCrossArea", spec := "fnCrossArea", unfollowed := true, recurses := true, apart := false, narrowed := true }
def FnCrossAreaUptoSaid : Prop := fnCrossAreaUptoRow.holds Try.pinned (OpenSpec.upto fnCrossAreaSpec)

/-- 'laws.FnEnclosingHull', WHERE WHAT IT READS IS OF BULK AT MOST 1048576: true; the input reads as it did. -/
def fnEnclosingHullUptoRow : OpenClaim := { program := "ytlifmigihfancaa", sum := "72cf75bc59a009dc77f1825b62d19bae6437a1dc1d27f1efb8d149604bca2474", func := "loop.example/planargeometry/laws.FnEnclosingHull", spec := "fnEnclosingHull", unfollowed := true, recurses := true, apart := false, narrowed := true }
def FnEnclosingHullUptoSaid : Prop := fnEnclosingHullUptoRow.holds Try.pinned (OpenSpec.upto fnEnclosingHullSpec)

/-- 'laws.FnEnclosingSupport', WHERE WHAT IT READS IS OF BULK AT MOST 1048576: true; the input reads as it did. -/
def fnEnclosingSupportUptoRow : OpenClaim := { program := "ytlifmigihfancaa", sum := "72cf75bc59a009dc77f1825b62d19bae6437a1dc1d27f1efb8d149604bca2474", func := "loop.example/planargeometry/laws.FnEnclosingSupport", spec := "fnEnclosingSupport", unfollowed := true, recurses := true, apart := false, narrowed := true }
def FnEnclosingSupportUptoSaid : Prop := fnEnclosingSupportUptoRow.holds Try.pinned (OpenSpec.upto fnEnclosingSupportSpec)

/-- 'laws.FnExactWidthEdge', WHERE WHAT IT READS IS OF BULK AT MOST 1048576: true; the input reads as it did. -/
def fnExactWidthEdgeUptoRow : OpenClaim := { program := "ytlifmigihfancaa", sum := "72cf75bc59a009dc77f1825b62d19bae6437a1dc1d27f1efb8d149604bca2474", func := "loop.example/planargeometry/laws.FnExactWidthEdge", spec := "fnExactWidthEdge", unfollowed := true, recurses := true, apart := false, narrowed := true }
def FnExactWidthEdgeUptoSaid : Prop := fnExactWidthEdgeUptoRow.holds Try.pinned (OpenSpec.upto fnExactWidthEdgeSpec)

/-- 'laws.FnWidthEdge', WHERE WHAT IT READS IS OF BULK AT MOST 1048576: true; the input reads as it did. -/
def fnWidthEdgeUptoRow : OpenClaim := { program := "ytlifmigihfancaa", sum := "72cf75bc59a009dc77f1825b62d19bae6437a1dc1d27f1efb8d149604bca2474", func := "loop.example/planargeometry/laws.FnWidthEdge", spec := "fnWidthEdge", unfollowed := true, recurses := true, apart := false, narrowed := true }
def FnWidthEdgeUptoSaid : Prop := fnWidthEdgeUptoRow.holds Try.pinned (OpenSpec.upto fnWidthEdgeSpec)

/-- 'laws.FnCheckEmpty', WHERE WHAT IT READS IS OF BULK AT MOST 1048576: true; the input reads as it did. -/
def fnCheckEmptyUptoRow : OpenClaim := { program := "ytlifmigihfancaa", sum := "72cf75bc59a009dc77f1825b62d19bae6437a1dc1d27f1efb8d149604bca2474", func := "loop.example/planargeometry/laws.FnCheckEmpty", spec := "fnCheckEmpty", unfollowed := true, recurses := true, apart := false, narrowed := true }
def FnCheckEmptyUptoSaid : Prop := fnCheckEmptyUptoRow.holds Try.pinned (OpenSpec.upto fnCheckEmptySpec)

/-- 'laws.FnEmptyWitness', WHERE WHAT IT READS IS OF BULK AT MOST 1048576: true; the input reads as it did. -/
def fnEmptyWitnessUptoRow : OpenClaim := { program := "ytlifmigihfancaa", sum := "72cf75bc59a009dc77f1825b62d19bae6437a1dc1d27f1efb8d149604bca2474", func := "loop.example/planargeometry/laws.FnEmptyWitness", spec := "fnEmptyWitness", unfollowed := true, recurses := true, apart := false, narrowed := true }
def FnEmptyWitnessUptoSaid : Prop := fnEmptyWitnessUptoRow.holds Try.pinned (OpenSpec.upto fnEmptyWitnessSpec)

/-- 'laws.FnExactEmptyWitness', WHERE WHAT IT READS IS OF BULK AT MOST 1048576: true; the input reads as it did. -/
def fnExactEmptyWitnessUptoRow : OpenClaim := { program := "ytlifmigihfancaa", sum := "72cf75bc59a009dc77f1825b62d19bae6437a1dc1d27f1efb8d149604bca2474", func := "loop.example/planargeometry/laws.FnExactEmptyWitness", spec := "fnExactEmptyWitness", unfollowed := true, recurses := true, apart := false, narrowed := true }
def FnExactEmptyWitnessUptoSaid : Prop := fnExactEmptyWitnessUptoRow.holds Try.pinned (OpenSpec.upto fnExactEmptyWitnessSpec)

/-- 'laws.FnDelaunayTriangle', WHERE WHAT IT READS IS OF BULK AT MOST 1048576: true; the input reads as it did. -/
def fnDelaunayTriangleUptoRow : OpenClaim := { program := "ytlifmigihfancaa", sum := "72cf75bc59a009dc77f1825b62d19bae6437a1dc1d27f1efb8d149604bca2474", func := "loop.example/planargeometry/laws.FnDelaunayTriangle", spec := "fnDelaunayTriangle", unfollowed := true, recurses := true, apart := false, narrowed := true }
def FnDelaunayTriangleUptoSaid : Prop := fnDelaunayTriangleUptoRow.holds Try.pinned (OpenSpec.upto fnDelaunayTriangleSpec)

end Rows
end Go.Proofs.Ytlifmigihfancaa
