/-
  No cell of these rows narrows 'for every input' (looked for: loops, veiled, ifaces, maps, wideKeys, modest, calm, conditions, laid).
  DERIVED. THE GIVEN ROWS OF THIS SEAT. 12 by the template 'for every input the law returns true; each argument reads behind the call as it read before'; 0 by the template 'total and deterministic' (their statements: YtjlcbomigbolcaaTotals.lean).
  GIVEN WITH THE SEED: the statements are not yours to turn. If you find one false, say at which input.
  Laid BY PROGRAM, IN A SANDBOX (cutbox-rows.mjs): the forced cells as the released guide's own fill.sh prints them over the translation 332f37fc49da3171… (all of the seat's roots in one cut). By AI agents, Wed Nov 11 2026. No macro, syntax, notation, axiom, sorry.
-/
import Derived.Test.YtjlcbomigbolcaaChecked
import GoSem.Claim
import GoSem.ClaimJoined
import GoSem.ClaimMapViews
import Derived.JoinedTies
import Derived.KernelRfl
namespace Go.Proofs.Ytjlcbomigbolcaa
/- THE CELL 'sum', in the pinned program and in every row, IS THE sha256 OF THE DUMP (.gsa) THAT YtjlcbomigbolcaaProg.lean LOADS. Nothing in Lean hashes anything: it is a label: what it is worth is what the hold of that sum in a sandbox is worth. -/
noncomputable def Try.pinned : Pinned := { name := "ytjlcbomigbolcaa", sum := "332f37fc49da31715fdf42eb10d2b5b2969e93fbb64e3a4f08ad26a680c1190d", checked := Try.checked }
namespace Rows
def none {H : Type} : Left H := { results := [], args := [] }

/-- 'laws.FnCornersMore': WHATEVER THE INPUT: true; the input reads as it did. -/
def fnCornersMoreSpec : ChangeSpec := { name := "fnCornersMore", fn := fun _ => fun
  | [d1, d2] => { results := [.lit (.bool true)], args := [d1, d2] }
  | _ => none }
def fnCornersMoreRow : OpenClaim := { program := "ytjlcbomigbolcaa", sum := "332f37fc49da31715fdf42eb10d2b5b2969e93fbb64e3a4f08ad26a680c1190d", func := "loop.example/planargeometry/laws.FnCornersMore", spec := "fnCornersMore", unfollowed := true, recurses := true, apart := false }
def FnCornersMoreSaid : Prop := fnCornersMoreRow.holds Try.pinned (OpenSpec.ofChange fnCornersMoreSpec)

/-- ITS FALSE NEIGHBOUR: 'it returns false'. Refute it at one input. -/
def fnCornersMoreWrong : ChangeSpec := { name := "fnCornersMore", fn := fun _ => fun
  | [d1, d2] => { results := [.lit (.bool false)], args := [d1, d2] }
  | _ => none }
def FnCornersMoreWrongFalsely : Prop := fnCornersMoreRow.holds Try.pinned (OpenSpec.ofChange fnCornersMoreWrong)

/-- 'laws.FnIsRedundant': WHATEVER THE INPUT: true; the input reads as it did. -/
def fnIsRedundantSpec : ChangeSpec := { name := "fnIsRedundant", fn := fun _ => fun
  | [d] => { results := [.lit (.bool true)], args := [d] }
  | _ => none }
def fnIsRedundantRow : OpenClaim := { program := "ytjlcbomigbolcaa", sum := "332f37fc49da31715fdf42eb10d2b5b2969e93fbb64e3a4f08ad26a680c1190d", func := "loop.example/planargeometry/laws.FnIsRedundant", spec := "fnIsRedundant", unfollowed := true, recurses := true, apart := false }
def FnIsRedundantSaid : Prop := fnIsRedundantRow.holds Try.pinned (OpenSpec.ofChange fnIsRedundantSpec)

/-- ITS FALSE NEIGHBOUR: 'it returns false'. Refute it at one input. -/
def fnIsRedundantWrong : ChangeSpec := { name := "fnIsRedundant", fn := fun _ => fun
  | [d] => { results := [.lit (.bool false)], args := [d] }
  | _ => none }
def FnIsRedundantWrongFalsely : Prop := fnIsRedundantRow.holds Try.pinned (OpenSpec.ofChange fnIsRedundantWrong)

/-- 'laws.FnCorners': WHATEVER THE INPUT: true; the input reads as it did. -/
def fnCornersSpec : ChangeSpec := { name := "fnCorners", fn := fun _ => fun
  | [d1, d2] => { results := [.lit (.bool true)], args := [d1, d2] }
  | _ => none }
def fnCornersRow : OpenClaim := { program := "ytjlcbomigbolcaa", sum := "332f37fc49da31715fdf42eb10d2b5b2969e93fbb64e3a4f08ad26a680c1190d", func := "loop.example/planargeometry/laws.FnCorners", spec := "fnCorners", unfollowed := true, recurses := true, apart := false }
def FnCornersSaid : Prop := fnCornersRow.holds Try.pinned (OpenSpec.ofChange fnCornersSpec)

/-- ITS FALSE NEIGHBOUR: 'it returns false'. Refute it at one input. -/
def fnCornersWrong : ChangeSpec := { name := "fnCorners", fn := fun _ => fun
  | [d1, d2] => { results := [.lit (.bool false)], args := [d1, d2] }
  | _ => none }
def FnCornersWrongFalsely : Prop := fnCornersRow.holds Try.pinned (OpenSpec.ofChange fnCornersWrong)

/-- 'laws.FnCrossingPoints': WHATEVER THE INPUT: true; the input reads as it did. -/
def fnCrossingPointsSpec : ChangeSpec := { name := "fnCrossingPoints", fn := fun _ => fun
  | [d] => { results := [.lit (.bool true)], args := [d] }
  | _ => none }
def fnCrossingPointsRow : OpenClaim := { program := "ytjlcbomigbolcaa", sum := "332f37fc49da31715fdf42eb10d2b5b2969e93fbb64e3a4f08ad26a680c1190d", func := "loop.example/planargeometry/laws.FnCrossingPoints", spec := "fnCrossingPoints", unfollowed := true, recurses := true, apart := false }
def FnCrossingPointsSaid : Prop := fnCrossingPointsRow.holds Try.pinned (OpenSpec.ofChange fnCrossingPointsSpec)

/-- ITS FALSE NEIGHBOUR: 'it returns false'. Refute it at one input. -/
def fnCrossingPointsWrong : ChangeSpec := { name := "fnCrossingPoints", fn := fun _ => fun
  | [d] => { results := [.lit (.bool false)], args := [d] }
  | _ => none }
def FnCrossingPointsWrongFalsely : Prop := fnCrossingPointsRow.holds Try.pinned (OpenSpec.ofChange fnCrossingPointsWrong)

/-- 'laws.FnCheckEmpty': WHATEVER THE INPUT: true; the input reads as it did. -/
def fnCheckEmptySpec : ChangeSpec := { name := "fnCheckEmpty", fn := fun _ => fun
  | [d] => { results := [.lit (.bool true)], args := [d] }
  | _ => none }
def fnCheckEmptyRow : OpenClaim := { program := "ytjlcbomigbolcaa", sum := "332f37fc49da31715fdf42eb10d2b5b2969e93fbb64e3a4f08ad26a680c1190d", func := "loop.example/planargeometry/laws.FnCheckEmpty", spec := "fnCheckEmpty", unfollowed := true, recurses := true, apart := false }
def FnCheckEmptySaid : Prop := fnCheckEmptyRow.holds Try.pinned (OpenSpec.ofChange fnCheckEmptySpec)

/-- ITS FALSE NEIGHBOUR: 'it returns false'. Refute it at one input. -/
def fnCheckEmptyWrong : ChangeSpec := { name := "fnCheckEmpty", fn := fun _ => fun
  | [d] => { results := [.lit (.bool false)], args := [d] }
  | _ => none }
def FnCheckEmptyWrongFalsely : Prop := fnCheckEmptyRow.holds Try.pinned (OpenSpec.ofChange fnCheckEmptyWrong)

/-- 'laws.FnExactUpperEnvelope': WHATEVER THE INPUT: true; the input reads as it did. -/
def fnExactUpperEnvelopeSpec : ChangeSpec := { name := "fnExactUpperEnvelope", fn := fun _ => fun
  | [d] => { results := [.lit (.bool true)], args := [d] }
  | _ => none }
def fnExactUpperEnvelopeRow : OpenClaim := { program := "ytjlcbomigbolcaa", sum := "332f37fc49da31715fdf42eb10d2b5b2969e93fbb64e3a4f08ad26a680c1190d", func := "loop.example/planargeometry/laws.FnExactUpperEnvelope", spec := "fnExactUpperEnvelope", unfollowed := true, recurses := true, apart := false }
def FnExactUpperEnvelopeSaid : Prop := fnExactUpperEnvelopeRow.holds Try.pinned (OpenSpec.ofChange fnExactUpperEnvelopeSpec)

/-- ITS FALSE NEIGHBOUR: 'it returns false'. Refute it at one input. -/
def fnExactUpperEnvelopeWrong : ChangeSpec := { name := "fnExactUpperEnvelope", fn := fun _ => fun
  | [d] => { results := [.lit (.bool false)], args := [d] }
  | _ => none }
def FnExactUpperEnvelopeWrongFalsely : Prop := fnExactUpperEnvelopeRow.holds Try.pinned (OpenSpec.ofChange fnExactUpperEnvelopeWrong)

/-- 'laws.FnUpperEnvelope': WHATEVER THE INPUT: true; the input reads as it did. -/
def fnUpperEnvelopeSpec : ChangeSpec := { name := "fnUpperEnvelope", fn := fun _ => fun
  | [d1, d2] => { results := [.lit (.bool true)], args := [d1, d2] }
  | _ => none }
def fnUpperEnvelopeRow : OpenClaim := { program := "ytjlcbomigbolcaa", sum := "332f37fc49da31715fdf42eb10d2b5b2969e93fbb64e3a4f08ad26a680c1190d", func := "loop.example/planargeometry/laws.FnUpperEnvelope", spec := "fnUpperEnvelope", unfollowed := true, recurses := true, apart := false }
def FnUpperEnvelopeSaid : Prop := fnUpperEnvelopeRow.holds Try.pinned (OpenSpec.ofChange fnUpperEnvelopeSpec)

/-- ITS FALSE NEIGHBOUR: 'it returns false'. Refute it at one input. -/
def fnUpperEnvelopeWrong : ChangeSpec := { name := "fnUpperEnvelope", fn := fun _ => fun
  | [d1, d2] => { results := [.lit (.bool false)], args := [d1, d2] }
  | _ => none }
def FnUpperEnvelopeWrongFalsely : Prop := fnUpperEnvelopeRow.holds Try.pinned (OpenSpec.ofChange fnUpperEnvelopeWrong)

/-- 'laws.FnEnvelopeEnds': WHATEVER THE INPUT: true; the input reads as it did. -/
def fnEnvelopeEndsSpec : ChangeSpec := { name := "fnEnvelopeEnds", fn := fun _ => fun
  | [d] => { results := [.lit (.bool true)], args := [d] }
  | _ => none }
def fnEnvelopeEndsRow : OpenClaim := { program := "ytjlcbomigbolcaa", sum := "332f37fc49da31715fdf42eb10d2b5b2969e93fbb64e3a4f08ad26a680c1190d", func := "loop.example/planargeometry/laws.FnEnvelopeEnds", spec := "fnEnvelopeEnds", unfollowed := true, recurses := true, apart := false }
def FnEnvelopeEndsSaid : Prop := fnEnvelopeEndsRow.holds Try.pinned (OpenSpec.ofChange fnEnvelopeEndsSpec)

/-- ITS FALSE NEIGHBOUR: 'it returns false'. Refute it at one input. -/
def fnEnvelopeEndsWrong : ChangeSpec := { name := "fnEnvelopeEnds", fn := fun _ => fun
  | [d] => { results := [.lit (.bool false)], args := [d] }
  | _ => none }
def FnEnvelopeEndsWrongFalsely : Prop := fnEnvelopeEndsRow.holds Try.pinned (OpenSpec.ofChange fnEnvelopeEndsWrong)

/-- 'laws.FnKdOrder': WHATEVER THE INPUT: true; the input reads as it did. -/
def fnKdOrderSpec : ChangeSpec := { name := "fnKdOrder", fn := fun _ => fun
  | [d] => { results := [.lit (.bool true)], args := [d] }
  | _ => none }
def fnKdOrderRow : OpenClaim := { program := "ytjlcbomigbolcaa", sum := "332f37fc49da31715fdf42eb10d2b5b2969e93fbb64e3a4f08ad26a680c1190d", func := "loop.example/planargeometry/laws.FnKdOrder", spec := "fnKdOrder", unfollowed := true, recurses := true, apart := false }
def FnKdOrderSaid : Prop := fnKdOrderRow.holds Try.pinned (OpenSpec.ofChange fnKdOrderSpec)

/-- ITS FALSE NEIGHBOUR: 'it returns false'. Refute it at one input. -/
def fnKdOrderWrong : ChangeSpec := { name := "fnKdOrder", fn := fun _ => fun
  | [d] => { results := [.lit (.bool false)], args := [d] }
  | _ => none }
def FnKdOrderWrongFalsely : Prop := fnKdOrderRow.holds Try.pinned (OpenSpec.ofChange fnKdOrderWrong)

/-- 'laws.FnExactKdOrder': WHATEVER THE INPUT: true; the input reads as it did. -/
def fnExactKdOrderSpec : ChangeSpec := { name := "fnExactKdOrder", fn := fun _ => fun
  | [d] => { results := [.lit (.bool true)], args := [d] }
  | _ => none }
def fnExactKdOrderRow : OpenClaim := { program := "ytjlcbomigbolcaa", sum := "332f37fc49da31715fdf42eb10d2b5b2969e93fbb64e3a4f08ad26a680c1190d", func := "loop.example/planargeometry/laws.FnExactKdOrder", spec := "fnExactKdOrder", unfollowed := true, recurses := true, apart := false }
def FnExactKdOrderSaid : Prop := fnExactKdOrderRow.holds Try.pinned (OpenSpec.ofChange fnExactKdOrderSpec)

/-- ITS FALSE NEIGHBOUR: 'it returns false'. Refute it at one input. -/
def fnExactKdOrderWrong : ChangeSpec := { name := "fnExactKdOrder", fn := fun _ => fun
  | [d] => { results := [.lit (.bool false)], args := [d] }
  | _ => none }
def FnExactKdOrderWrongFalsely : Prop := fnExactKdOrderRow.holds Try.pinned (OpenSpec.ofChange fnExactKdOrderWrong)

/-- 'laws.FnMaxDepth': WHATEVER THE INPUT: true; the input reads as it did. -/
def fnMaxDepthSpec : ChangeSpec := { name := "fnMaxDepth", fn := fun _ => fun
  | [d] => { results := [.lit (.bool true)], args := [d] }
  | _ => none }
def fnMaxDepthRow : OpenClaim := { program := "ytjlcbomigbolcaa", sum := "332f37fc49da31715fdf42eb10d2b5b2969e93fbb64e3a4f08ad26a680c1190d", func := "loop.example/planargeometry/laws.FnMaxDepth", spec := "fnMaxDepth", unfollowed := true, recurses := true, apart := false }
def FnMaxDepthSaid : Prop := fnMaxDepthRow.holds Try.pinned (OpenSpec.ofChange fnMaxDepthSpec)

/-- ITS FALSE NEIGHBOUR: 'it returns false'. Refute it at one input. -/
def fnMaxDepthWrong : ChangeSpec := { name := "fnMaxDepth", fn := fun _ => fun
  | [d] => { results := [.lit (.bool false)], args := [d] }
  | _ => none }
def FnMaxDepthWrongFalsely : Prop := fnMaxDepthRow.holds Try.pinned (OpenSpec.ofChange fnMaxDepthWrong)

/-- 'laws.FnHullMore': WHATEVER THE INPUT: true; the input reads as it did. -/
def fnHullMoreSpec : ChangeSpec := { name := "fnHullMore", fn := fun _ => fun
  | [d1, d2] => { results := [.lit (.bool true)], args := [d1, d2] }
  | _ => none }
def fnHullMoreRow : OpenClaim := { program := "ytjlcbomigbolcaa", sum := "332f37fc49da31715fdf42eb10d2b5b2969e93fbb64e3a4f08ad26a680c1190d", func := "loop.example/planargeometry/laws.FnHullMore", spec := "fnHullMore", unfollowed := true, recurses := true, apart := false }
def FnHullMoreSaid : Prop := fnHullMoreRow.holds Try.pinned (OpenSpec.ofChange fnHullMoreSpec)

/-- ITS FALSE NEIGHBOUR: 'it returns false'. Refute it at one input. -/
def fnHullMoreWrong : ChangeSpec := { name := "fnHullMore", fn := fun _ => fun
  | [d1, d2] => { results := [.lit (.bool false)], args := [d1, d2] }
  | _ => none }
def FnHullMoreWrongFalsely : Prop := fnHullMoreRow.holds Try.pinned (OpenSpec.ofChange fnHullMoreWrong)

/- THE SECOND FORM. 'bulk': how many values and letters a reading holds, each counted each time it is reached (what is shared counts as often as it is met; a slice's spare places count too). A statement '..UptoSaid' is the law's where the arguments, and the package variables that the reading takes, are together of bulk at most 1048576: NARROWER than '..Said'. Prove '..Said' where nothing that the law and all that it calls make is longer than what came in: it says more and counts as full. Else prove '..UptoSaid'. A law counts once. -/
mutual
def uptoBulk {H : Type} : DataW H → Nat
  | .lit (.string bytes) => bytes.length + 1
  | .lit _ => 1
  | .nil => 1
  | .ptr d => uptoBulk d + 1
  | .slice elems spare => uptoBulkAll elems + uptoBulkAll spare + 1
  | .agg parts => uptoBulkAll parts + 1
  | .iface _ d => uptoBulk d + 1
  | .map entries => uptoBulkEntries entries + 1
  | .held _ => 1
def uptoBulkAll {H : Type} : List (DataW H) → Nat
  | [] => 0
  | d :: r => uptoBulk d + uptoBulkAll r
def uptoBulkEntries {H : Type} : List (Lit × DataW H) → Nat
  | [] => 0
  | x :: r => uptoBulkEntry x + uptoBulkEntries r
def uptoBulkEntry {H : Type} : Lit × DataW H → Nat
  | (.string bytes, d) => bytes.length + uptoBulk d + 1
  | (_, d) => uptoBulk d + 1
 end
def uptoSmall : (H : Type) → List (DataW H) → Bool := fun _ ds => decide (uptoBulkAll ds ≤ 1048576)
def OpenSpec.upto (s : _root_.Go.ChangeSpec) : _root_.Go.OpenSpec := { _root_.Go.OpenSpec.ofChange s with cond := some uptoSmall }

/-- 'laws.FnCornersMore', WHERE WHAT IT READS IS OF BULK AT MOST 1048576: true; the input reads as it did. -/
def fnCornersMoreUptoRow : OpenClaim := { program := "ytjlcbomigbolcaa", sum := "332f37fc49da31715fdf42eb10d2b5b2969e93fbb64e3a4f08ad26a680c1190d", func := "loop.example/planargeometry/laws.FnCornersMore", spec := "fnCornersMore", unfollowed := true, recurses := true, apart := false, narrowed := true }
def FnCornersMoreUptoSaid : Prop := fnCornersMoreUptoRow.holds Try.pinned (OpenSpec.upto fnCornersMoreSpec)

/-- 'laws.FnIsRedundant', WHERE WHAT IT READS IS OF BULK AT MOST 1048576: true; the input reads as it did. -/
def fnIsRedundantUptoRow : OpenClaim := { program := "ytjlcbomigbolcaa", sum := "332f37fc49da31715fdf42eb10d2b5b2969e93fbb64e3a4f08ad26a680c1190d", func := "loop.example/planargeometry/laws.FnIsRedundant", spec := "fnIsRedundant", unfollowed := true, recurses := true, apart := false, narrowed := true }
def FnIsRedundantUptoSaid : Prop := fnIsRedundantUptoRow.holds Try.pinned (OpenSpec.upto fnIsRedundantSpec)

/-- 'laws.FnCorners', WHERE WHAT IT READS IS OF BULK AT MOST 1048576: true; the input reads as it did. -/
def fnCornersUptoRow : OpenClaim := { program := "ytjlcbomigbolcaa", sum := "332f37fc49da31715fdf42eb10d2b5b2969e93fbb64e3a4f08ad26a680c1190d", func := "loop.example/planargeometry/laws.FnCorners", spec := "fnCorners", unfollowed := true, recurses := true, apart := false, narrowed := true }
def FnCornersUptoSaid : Prop := fnCornersUptoRow.holds Try.pinned (OpenSpec.upto fnCornersSpec)

/-- 'laws.FnCrossingPoints', WHERE WHAT IT READS IS OF BULK AT MOST 1048576: true; the input reads as it did. -/
def fnCrossingPointsUptoRow : OpenClaim := { program := "ytjlcbomigbolcaa", sum := "332f37fc49da31715fdf42eb10d2b5b2969e93fbb64e3a4f08ad26a680c1190d", func := "loop.example/planargeometry/laws.FnCrossingPoints", spec := "fnCrossingPoints", unfollowed := true, recurses := true, apart := false, narrowed := true }
def FnCrossingPointsUptoSaid : Prop := fnCrossingPointsUptoRow.holds Try.pinned (OpenSpec.upto fnCrossingPointsSpec)

/-- 'laws.FnCheckEmpty', WHERE WHAT IT READS IS OF BULK AT MOST 1048576: true; the input reads as it did. -/
def fnCheckEmptyUptoRow : OpenClaim := { program := "ytjlcbomigbolcaa", sum := "332f37fc49da31715fdf42eb10d2b5b2969e93fbb64e3a4f08ad26a680c1190d", func := "loop.example/planargeometry/laws.FnCheckEmpty", spec := "fnCheckEmpty", unfollowed := true, recurses := true, apart := false, narrowed := true }
def FnCheckEmptyUptoSaid : Prop := fnCheckEmptyUptoRow.holds Try.pinned (OpenSpec.upto fnCheckEmptySpec)

/-- 'laws.FnExactUpperEnvelope', WHERE WHAT IT READS IS OF BULK AT MOST 1048576: true; the input reads as it did. -/
def fnExactUpperEnvelopeUptoRow : OpenClaim := { program := "ytjlcbomigbolcaa", sum := "332f37fc49da31715fdf42eb10d2b5b2969e93fbb64e3a4f08ad26a680c1190d", func := "loop.example/planargeometry/laws.FnExactUpperEnvelope", spec := "fnExactUpperEnvelope", unfollowed := true, recurses := true, apart := false, narrowed := true }
def FnExactUpperEnvelopeUptoSaid : Prop := fnExactUpperEnvelopeUptoRow.holds Try.pinned (OpenSpec.upto fnExactUpperEnvelopeSpec)

/-- 'laws.FnUpperEnvelope', WHERE WHAT IT READS IS OF BULK AT MOST 1048576: true; the input reads as it did. -/
def fnUpperEnvelopeUptoRow : OpenClaim := { program := "ytjlcbomigbolcaa", sum := "332f37fc49da31715fdf42eb10d2b5b2969e93fbb64e3a4f08ad26a680c1190d", func := "loop.example/planargeometry/laws.FnUpperEnvelope", spec := "fnUpperEnvelope", unfollowed := true, recurses := true, apart := false, narrowed := true }
def FnUpperEnvelopeUptoSaid : Prop := fnUpperEnvelopeUptoRow.holds Try.pinned (OpenSpec.upto fnUpperEnvelopeSpec)

/-- 'laws.FnEnvelopeEnds', WHERE WHAT IT READS IS OF BULK AT MOST 1048576: true; the input reads as it did. -/
def fnEnvelopeEndsUptoRow : OpenClaim := { program := "ytjlcbomigbolcaa", sum := "332f37fc49da31715fdf42eb10d2b5b2969e93fbb64e3a4f08ad26a680c1190d", func := "loop.example/planargeometry/laws.FnEnvelopeEnds", spec := "fnEnvelopeEnds", unfollowed := true, recurses := true, apart := false, narrowed := true }
def FnEnvelopeEndsUptoSaid : Prop := fnEnvelopeEndsUptoRow.holds Try.pinned (OpenSpec.upto fnEnvelopeEndsSpec)

/-- 'laws.FnKdOrder', WHERE WHAT IT READS IS OF BULK AT MOST 1048576: true; the input reads as it did. -/
def fnKdOrderUptoRow : OpenClaim := { program := "ytjlcbomigbolcaa", sum := "332f37fc49da31715fdf42eb10d2b5b2969e93fbb64e3a4f08ad26a680c1190d", func := "loop.example/planargeometry/laws.FnKdOrder", spec := "fnKdOrder", unfollowed := true, recurses := true, apart := false, narrowed := true }
def FnKdOrderUptoSaid : Prop := fnKdOrderUptoRow.holds Try.pinned (OpenSpec.upto fnKdOrderSpec)

/-- 'laws.FnExactKdOrder', WHERE WHAT IT READS IS OF BULK AT MOST 1048576: true; the input reads as it did. -/
def fnExactKdOrderUptoRow : OpenClaim := { program := "ytjlcbomigbolcaa", sum := "332f37fc49da31715fdf42eb10d2b5b2969e93fbb64e3a4f08ad26a680c1190d", func := "loop.example/planargeometry/laws.FnExactKdOrder", spec := "fnExactKdOrder", unfollowed := true, recurses := true, apart := false, narrowed := true }
def FnExactKdOrderUptoSaid : Prop := fnExactKdOrderUptoRow.holds Try.pinned (OpenSpec.upto fnExactKdOrderSpec)

/-- 'laws.FnMaxDepth', WHERE WHAT IT READS IS OF BULK AT MOST 1048576: true; the input reads as it did. -/
def fnMaxDepthUptoRow : OpenClaim := { program := "ytjlcbomigbolcaa", sum := "332f37fc49da31715fdf42eb10d2b5b2969e93fbb64e3a4f08ad26a680c1190d", func := "loop.example/planargeometry/laws.FnMaxDepth", spec := "fnMaxDepth", unfollowed := true, recurses := true, apart := false, narrowed := true }
def FnMaxDepthUptoSaid : Prop := fnMaxDepthUptoRow.holds Try.pinned (OpenSpec.upto fnMaxDepthSpec)

/-- 'laws.FnHullMore', WHERE WHAT IT READS IS OF BULK AT MOST 1048576: true; the input reads as it did. -/
def fnHullMoreUptoRow : OpenClaim := { program := "ytjlcbomigbolcaa", sum := "332f37fc49da31715fdf42eb10d2b5b2969e93fbb64e3a4f08ad26a680c1190d", func := "loop.example/planargeometry/laws.FnHullMore", spec := "fnHullMore", unfollowed := true, recurses := true, apart := false, narrowed := true }
def FnHullMoreUptoSaid : Prop := fnHullMoreUptoRow.holds Try.pinned (OpenSpec.upto fnHullMoreSpec)

end Rows
end Go.Proofs.Ytjlcbomigbolcaa
