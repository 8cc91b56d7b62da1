/-
  No cell of these rows narrows 'for every input' (looked for: loops, veiled, ifaces, maps, wideKeys, modest, calm, conditions, laid).
  DERIVED. THE GIVEN ROWS OF THIS SEAT. 12 by the template 'for every input the law returns true; each argument reads behind the call as it read before'; 0 by the template 'total and deterministic' (their statements: YtodeicbcacggdaaTotals.lean).
  GIVEN WITH THE SEED: the statements are not yours to turn. If you find one false, say at which input.
  Laid BY PROGRAM, IN A SANDBOX (cutbox-rows.mjs): the forced cells as the released guide's own fill.sh prints them over the translation f38777b24f232732… (all of the seat's roots in one cut). By AI agents, Wed Nov 11 2026. No macro, syntax, notation, axiom, sorry.
-/
import Derived.Test.YtodeicbcacggdaaChecked
import GoSem.Claim
import GoSem.ClaimJoined
import GoSem.ClaimMapViews
import Derived.JoinedTies
import Derived.KernelRfl
namespace Go.Proofs.Ytodeicbcacggdaa
/- THE CELL 'sum', in the pinned program and in every row, IS THE sha256 OF THE DUMP (.gsa) THAT YtodeicbcacggdaaProg.lean LOADS. Nothing in Lean hashes anything: it is a label: what it is worth is what the hold of that sum in a sandbox is worth. -/
noncomputable def Try.pinned : Pinned := { name := "ytodeicbcacggdaa", sum := "f38777b24f2327328565d0950f8a30429a9563156156cebd24263c1c5072dc38", checked := Try.checked }
namespace Rows
def none {H : Type} : Left H := { results := [], args := [] }

/-- 'laws.FnKdOrder': WHATEVER THE INPUT: true; the input reads as it did. -/
def fnKdOrderSpec : ChangeSpec := { name := "fnKdOrder", fn := fun _ => fun
  | [d] => { results := [.lit (.bool true)], args := [d] }
  | _ => none }
def fnKdOrderRow : OpenClaim := { program := "ytodeicbcacggdaa", sum := "f38777b24f2327328565d0950f8a30429a9563156156cebd24263c1c5072dc38", func := "loop.example/planargeometry/laws.FnKdOrder", spec := "fnKdOrder", unfollowed := true, recurses := true, apart := false }
def FnKdOrderSaid : Prop := fnKdOrderRow.holds Try.pinned (OpenSpec.ofChange fnKdOrderSpec)

/-- ITS FALSE NEIGHBOUR: 'it returns false'. Refute it at one input. -/
def fnKdOrderWrong : ChangeSpec := { name := "fnKdOrder", fn := fun _ => fun
  | [d] => { results := [.lit (.bool false)], args := [d] }
  | _ => none }
def FnKdOrderWrongFalsely : Prop := fnKdOrderRow.holds Try.pinned (OpenSpec.ofChange fnKdOrderWrong)

/-- 'laws.FnMaxDepth': WHATEVER THE INPUT: true; the input reads as it did. -/
def fnMaxDepthSpec : ChangeSpec := { name := "fnMaxDepth", fn := fun _ => fun
  | [d] => { results := [.lit (.bool true)], args := [d] }
  | _ => none }
def fnMaxDepthRow : OpenClaim := { program := "ytodeicbcacggdaa", sum := "f38777b24f2327328565d0950f8a30429a9563156156cebd24263c1c5072dc38", func := "loop.example/planargeometry/laws.FnMaxDepth", spec := "fnMaxDepth", unfollowed := true, recurses := true, apart := false }
def FnMaxDepthSaid : Prop := fnMaxDepthRow.holds Try.pinned (OpenSpec.ofChange fnMaxDepthSpec)

/-- ITS FALSE NEIGHBOUR: 'it returns false'. Refute it at one input. -/
def fnMaxDepthWrong : ChangeSpec := { name := "fnMaxDepth", fn := fun _ => fun
  | [d] => { results := [.lit (.bool false)], args := [d] }
  | _ => none }
def FnMaxDepthWrongFalsely : Prop := fnMaxDepthRow.holds Try.pinned (OpenSpec.ofChange fnMaxDepthWrong)

/-- 'laws.FnEnvelopeEnds': WHATEVER THE INPUT: true; the input reads as it did. -/
def fnEnvelopeEndsSpec : ChangeSpec := { name := "fnEnvelopeEnds", fn := fun _ => fun
  | [d] => { results := [.lit (.bool true)], args := [d] }
  | _ => none }
def fnEnvelopeEndsRow : OpenClaim := { program := "ytodeicbcacggdaa", sum := "f38777b24f2327328565d0950f8a30429a9563156156cebd24263c1c5072dc38", func := "loop.example/planargeometry/laws.FnEnvelopeEnds", spec := "fnEnvelopeEnds", unfollowed := true, recurses := true, apart := false }
def FnEnvelopeEndsSaid : Prop := fnEnvelopeEndsRow.holds Try.pinned (OpenSpec.ofChange fnEnvelopeEndsSpec)

/-- ITS FALSE NEIGHBOUR: 'it returns false'. Refute it at one input. -/
def fnEnvelopeEndsWrong : ChangeSpec := { name := "fnEnvelopeEnds", fn := fun _ => fun
  | [d] => { results := [.lit (.bool false)], args := [d] }
  | _ => none }
def FnEnvelopeEndsWrongFalsely : Prop := fnEnvelopeEndsRow.holds Try.pinned (OpenSpec.ofChange fnEnvelopeEndsWrong)

/-- 'laws.FnUpperEnvelope': WHATEVER THE INPUT: true; the input reads as it did. -/
def fnUpperEnvelopeSpec : ChangeSpec := { name := "fnUpperEnvelope", fn := fun _ => fun
  | [d1, d2] => { results := [.lit (.bool true)], args := [d1, d2] }
  | _ => none }
def fnUpperEnvelopeRow : OpenClaim := { program := "ytodeicbcacggdaa", sum := "f38777b24f2327328565d0950f8a30429a9563156156cebd24263c1c5072dc38", func := "loop.example/planargeometry/laws.FnUpperEnvelope", spec := "fnUpperEnvelope", unfollowed := true, recurses := true, apart := false }
def FnUpperEnvelopeSaid : Prop := fnUpperEnvelopeRow.holds Try.pinned (OpenSpec.ofChange fnUpperEnvelopeSpec)

/-- ITS FALSE NEIGHBOUR: 'it returns false'. Refute it at one input. -/
def fnUpperEnvelopeWrong : ChangeSpec := { name := "fnUpperEnvelope", fn := fun _ => fun
  | [d1, d2] => { results := [.lit (.bool false)], args := [d1, d2] }
  | _ => none }
def FnUpperEnvelopeWrongFalsely : Prop := fnUpperEnvelopeRow.holds Try.pinned (OpenSpec.ofChange fnUpperEnvelopeWrong)

/-- 'laws.FnSortPoints': WHATEVER THE INPUT: true; the input reads as it did. -/
def fnSortPointsSpec : ChangeSpec := { name := "fnSortPoints", fn := fun _ => fun
  | [d] => { results := [.lit (.bool true)], args := [d] }
  | _ => none }
def fnSortPointsRow : OpenClaim := { program := "ytodeicbcacggdaa", sum := "f38777b24f2327328565d0950f8a30429a9563156156cebd24263c1c5072dc38", func := "loop.example/planargeometry/laws.FnSortPoints", spec := "fnSortPoints", unfollowed := true, recurses := true, apart := false }
def FnSortPointsSaid : Prop := fnSortPointsRow.holds Try.pinned (OpenSpec.ofChange fnSortPointsSpec)

/-- ITS FALSE NEIGHBOUR: 'it returns false'. Refute it at one input. -/
def fnSortPointsWrong : ChangeSpec := { name := "fnSortPoints", fn := fun _ => fun
  | [d] => { results := [.lit (.bool false)], args := [d] }
  | _ => none }
def FnSortPointsWrongFalsely : Prop := fnSortPointsRow.holds Try.pinned (OpenSpec.ofChange fnSortPointsWrong)

/-- 'laws.FnExactKdOrder': WHATEVER THE INPUT: true; the input reads as it did. -/
def fnExactKdOrderSpec : ChangeSpec := { name := "fnExactKdOrder", fn := fun _ => fun
  | [d] => { results := [.lit (.bool true)], args := [d] }
  | _ => none }
def fnExactKdOrderRow : OpenClaim := { program := "ytodeicbcacggdaa", sum := "f38777b24f2327328565d0950f8a30429a9563156156cebd24263c1c5072dc38", func := "loop.example/planargeometry/laws.FnExactKdOrder", spec := "fnExactKdOrder", unfollowed := true, recurses := true, apart := false }
def FnExactKdOrderSaid : Prop := fnExactKdOrderRow.holds Try.pinned (OpenSpec.ofChange fnExactKdOrderSpec)

/-- ITS FALSE NEIGHBOUR: 'it returns false'. Refute it at one input. -/
def fnExactKdOrderWrong : ChangeSpec := { name := "fnExactKdOrder", fn := fun _ => fun
  | [d] => { results := [.lit (.bool false)], args := [d] }
  | _ => none }
def FnExactKdOrderWrongFalsely : Prop := fnExactKdOrderRow.holds Try.pinned (OpenSpec.ofChange fnExactKdOrderWrong)

/-- 'laws.FnExactUpperEnvelope': WHATEVER THE INPUT: true; the input reads as it did. -/
def fnExactUpperEnvelopeSpec : ChangeSpec := { name := "fnExactUpperEnvelope", fn := fun _ => fun
  | [d] => { results := [.lit (.bool true)], args := [d] }
  | _ => none }
def fnExactUpperEnvelopeRow : OpenClaim := { program := "ytodeicbcacggdaa", sum := "f38777b24f2327328565d0950f8a30429a9563156156cebd24263c1c5072dc38", func := "loop.example/planargeometry/laws.FnExactUpperEnvelope", spec := "fnExactUpperEnvelope", unfollowed := true, recurses := true, apart := false }
def FnExactUpperEnvelopeSaid : Prop := fnExactUpperEnvelopeRow.holds Try.pinned (OpenSpec.ofChange fnExactUpperEnvelopeSpec)

/-- ITS FALSE NEIGHBOUR: 'it returns false'. Refute it at one input. -/
def fnExactUpperEnvelopeWrong : ChangeSpec := { name := "fnExactUpperEnvelope", fn := fun _ => fun
  | [d] => { results := [.lit (.bool false)], args := [d] }
  | _ => none }
def FnExactUpperEnvelopeWrongFalsely : Prop := fnExactUpperEnvelopeRow.holds Try.pinned (OpenSpec.ofChange fnExactUpperEnvelopeWrong)

/-- 'laws.FnExtreme': WHATEVER THE INPUT: true; the input reads as it did. -/
def fnExtremeSpec : ChangeSpec := { name := "fnExtreme", fn := fun _ => fun
  | [d] => { results := [.lit (.bool true)], args := [d] }
  | _ => none }
def fnExtremeRow : OpenClaim := { program := "ytodeicbcacggdaa", sum := "f38777b24f2327328565d0950f8a30429a9563156156cebd24263c1c5072dc38", func := "loop.example/planargeometry/laws.FnExtreme", spec := "fnExtreme", unfollowed := true, recurses := true, apart := false }
def FnExtremeSaid : Prop := fnExtremeRow.holds Try.pinned (OpenSpec.ofChange fnExtremeSpec)

/-- ITS FALSE NEIGHBOUR: 'it returns false'. Refute it at one input. -/
def fnExtremeWrong : ChangeSpec := { name := "fnExtreme", fn := fun _ => fun
  | [d] => { results := [.lit (.bool false)], args := [d] }
  | _ => none }
def FnExtremeWrongFalsely : Prop := fnExtremeRow.holds Try.pinned (OpenSpec.ofChange fnExtremeWrong)

/-- 'laws.FnDiameter': WHATEVER THE INPUT: true; the input reads as it did. -/
def fnDiameterSpec : ChangeSpec := { name := "fnDiameter", fn := fun _ => fun
  | [d] => { results := [.lit (.bool true)], args := [d] }
  | _ => none }
def fnDiameterRow : OpenClaim := { program := "ytodeicbcacggdaa", sum := "f38777b24f2327328565d0950f8a30429a9563156156cebd24263c1c5072dc38", func := "loop.example/planargeometry/laws.FnDiameter", spec := "fnDiameter", unfollowed := true, recurses := true, apart := false }
def FnDiameterSaid : Prop := fnDiameterRow.holds Try.pinned (OpenSpec.ofChange fnDiameterSpec)

/-- ITS FALSE NEIGHBOUR: 'it returns false'. Refute it at one input. -/
def fnDiameterWrong : ChangeSpec := { name := "fnDiameter", fn := fun _ => fun
  | [d] => { results := [.lit (.bool false)], args := [d] }
  | _ => none }
def FnDiameterWrongFalsely : Prop := fnDiameterRow.holds Try.pinned (OpenSpec.ofChange fnDiameterWrong)

/-- 'laws.FnExactHull': WHATEVER THE INPUT: true; the input reads as it did. -/
def fnExactHullSpec : ChangeSpec := { name := "fnExactHull", fn := fun _ => fun
  | [d] => { results := [.lit (.bool true)], args := [d] }
  | _ => none }
def fnExactHullRow : OpenClaim := { program := "ytodeicbcacggdaa", sum := "f38777b24f2327328565d0950f8a30429a9563156156cebd24263c1c5072dc38", func := "loop.example/planargeometry/laws.FnExactHull", spec := "fnExactHull", unfollowed := true, recurses := true, apart := false }
def FnExactHullSaid : Prop := fnExactHullRow.holds Try.pinned (OpenSpec.ofChange fnExactHullSpec)

/-- ITS FALSE NEIGHBOUR: 'it returns false'. Refute it at one input. -/
def fnExactHullWrong : ChangeSpec := { name := "fnExactHull", fn := fun _ => fun
  | [d] => { results := [.lit (.bool false)], args := [d] }
  | _ => none }
def FnExactHullWrongFalsely : Prop := fnExactHullRow.holds Try.pinned (OpenSpec.ofChange fnExactHullWrong)

/-- 'laws.FnExactHullArea': WHATEVER THE INPUT: true; the input reads as it did. -/
def fnExactHullAreaSpec : ChangeSpec := { name := "fnExactHullArea", fn := fun _ => fun
  | [d] => { results := [.lit (.bool true)], args := [d] }
  | _ => none }
def fnExactHullAreaRow : OpenClaim := { program := "ytodeicbcacggdaa", sum := "f38777b24f2327328565d0950f8a30429a9563156156cebd24263c1c5072dc38", func := "loop.example/planargeometry/laws.FnExactHullArea", spec := "fnExactHullArea", unfollowed := true, recurses := true, apart := false }
def FnExactHullAreaSaid : Prop := fnExactHullAreaRow.holds Try.pinned (OpenSpec.ofChange fnExactHullAreaSpec)

/-- ITS FALSE NEIGHBOUR: 'it returns false'. Refute it at one input. -/
def fnExactHullAreaWrong : ChangeSpec := { name := "fnExactHullArea", fn := fun _ => fun
  | [d] => { results := [.lit (.bool false)], args := [d] }
  | _ => none }
def FnExactHullAreaWrongFalsely : Prop := fnExactHullAreaRow.holds Try.pinned (OpenSpec.ofChange fnExactHullAreaWrong)

/-- 'laws.FnHullSum': WHATEVER THE INPUT: true; the input reads as it did. -/
def fnHullSumSpec : ChangeSpec := { name := "fnHullSum", fn := fun _ => fun
  | [d1, d2] => { results := [.lit (.bool true)], args := [d1, d2] }
  | _ => none }
def fnHullSumRow : OpenClaim := { program := "ytodeicbcacggdaa", sum := "f38777b24f2327328565d0950f8a30429a9563156156cebd24263c1c5072dc38", func := "loop.example/planargeometry/laws.FnHullSum", spec := "fnHullSum", unfollowed := true, recurses := true, apart := false }
def FnHullSumSaid : Prop := fnHullSumRow.holds Try.pinned (OpenSpec.ofChange fnHullSumSpec)

/-- ITS FALSE NEIGHBOUR: 'it returns false'. Refute it at one input. -/
def fnHullSumWrong : ChangeSpec := { name := "fnHullSum", fn := fun _ => fun
  | [d1, d2] => { results := [.lit (.bool false)], args := [d1, d2] }
  | _ => none }
def FnHullSumWrongFalsely : Prop := fnHullSumRow.holds Try.pinned (OpenSpec.ofChange fnHullSumWrong)

/- THE SECOND FORM. 'bulk': how many values and letters a reading holds, each counted each time it is reached (what is shared counts as often as it is met; a slice's spare places count too). A statement '..UptoSaid' is the law's where the arguments, and the package variables that the reading takes, are together of bulk at most 1048576: NARROWER than '..Said'. Prove '..Said' where nothing that the law and all that it calls make is longer than what came in: it says more and counts as full. Else prove '..UptoSaid'. A law counts once. -/
mutual
def uptoBulk {H : Type} : DataW H → Nat
  | .lit (.string bytes) => bytes.length + 1
  | .lit _ => 1
  | .nil => 1
  | .ptr d => uptoBulk d + 1
  | .slice elems spare => uptoBulkAll elems + uptoBulkAll spare + 1
  | .agg parts => uptoBulkAll parts + 1
  | .iface _ d => uptoBulk d + 1
  | .map entries => uptoBulkEntries entries + 1
  | .held _ => 1
def uptoBulkAll {H : Type} : List (DataW H) → Nat
  | [] => 0
  | d :: r => uptoBulk d + uptoBulkAll r
def uptoBulkEntries {H : Type} : List (Lit × DataW H) → Nat
  | [] => 0
  | x :: r => uptoBulkEntry x + uptoBulkEntries r
def uptoBulkEntry {H : Type} : Lit × DataW H → Nat
  | (.string bytes, d) => bytes.length + uptoBulk d + 1
  | (_, d) => uptoBulk d + 1
 end
def uptoSmall : (H : Type) → List (DataW H) → Bool := fun _ ds => decide (uptoBulkAll ds ≤ 1048576)
def OpenSpec.upto (s : _root_.Go.ChangeSpec) : _root_.Go.OpenSpec := { _root_.Go.OpenSpec.ofChange s with cond := some uptoSmall }

/-- 'laws.FnKdOrder', WHERE WHAT IT READS IS OF BULK AT MOST 1048576: true; the input reads as it did. -/
def fnKdOrderUptoRow : OpenClaim := { program := "ytodeicbcacggdaa", sum := "f38777b24f2327328565d0950f8a30429a9563156156cebd24263c1c5072dc38", func := "loop.example/planargeometry/laws.FnKdOrder", spec := "fnKdOrder", unfollowed := true, recurses := true, apart := false, narrowed := true }
def FnKdOrderUptoSaid : Prop := fnKdOrderUptoRow.holds Try.pinned (OpenSpec.upto fnKdOrderSpec)

/-- 'laws.FnMaxDepth', WHERE WHAT IT READS IS OF BULK AT MOST 1048576: true; the input reads as it did. -/
def fnMaxDepthUptoRow : OpenClaim := { program := "ytodeicbcacggdaa", sum := "f38777b24f2327328565d0950f8a30429a9563156156cebd24263c1c5072dc38", func := "loop.example/planargeometry/laws.FnMaxDepth", spec := "fnMaxDepth", unfollowed := true, recurses := true, apart := false, narrowed := true }
def FnMaxDepthUptoSaid : Prop := fnMaxDepthUptoRow.holds Try.pinned (OpenSpec.upto fnMaxDepthSpec)

/-- 'laws.FnEnvelopeEnds', WHERE WHAT IT READS IS OF BULK AT MOST 1048576: true; the input reads as it did. -/
def fnEnvelopeEndsUptoRow : OpenClaim := { program := "ytodeicbcacggdaa", sum := "f38777b24f2327328565d0950f8a30429a9563156156cebd24263c1c5072dc38", func := "loop.example/planargeometry/laws.FnEnvelopeEnds", spec := "fnEnvelopeEnds", unfollowed := true, recurses := true, apart := false, narrowed := true }
def FnEnvelopeEndsUptoSaid : Prop := fnEnvelopeEndsUptoRow.holds Try.pinned (OpenSpec.upto fnEnvelopeEndsSpec)

/-- 'laws.FnUpperEnvelope', WHERE WHAT IT READS IS OF BULK AT MOST 1048576: true; the input reads as it did. -/
def fnUpperEnvelopeUptoRow : OpenClaim := { program := "ytodeicbcacggdaa", sum := "f38777b24f2327328565d0950f8a30429a9563156156cebd24263c1c5072dc38", func := "loop.example/planargeometry/laws.FnUpperEnvelope", spec := "fnUpperEnvelope", unfollowed := true, recurses := true, apart := false, narrowed := true }
def FnUpperEnvelopeUptoSaid : Prop := fnUpperEnvelopeUptoRow.holds Try.pinned (OpenSpec.upto fnUpperEnvelopeSpec)

/-- 'laws.FnSortPoints', WHERE WHAT IT READS IS OF BULK AT MOST 1048576: true; the input reads as it did. -/
def fnSortPointsUptoRow : OpenClaim := { program := "ytodeicbcacggdaa", sum := "f38777b24f2327328565d0950f8a30429a9563156156cebd24263c1c5072dc38", func := "loop.example/planargeometry/laws.FnSortPoints", spec := "fnSortPoints", unfollowed := true, recurses := true, apart := false, narrowed := true }
def FnSortPointsUptoSaid : Prop := fnSortPointsUptoRow.holds Try.pinned (OpenSpec.upto fnSortPointsSpec)

/-- 'laws.FnExactKdOrder', WHERE WHAT IT READS IS OF BULK AT MOST 1048576: true; the input reads as it did. -/
def fnExactKdOrderUptoRow : OpenClaim := { program := "ytodeicbcacggdaa", sum := "f38777b24f2327328565d0950f8a30429a9563156156cebd24263c1c5072dc38", func := "loop.example/planargeometry/laws.FnExactKdOrder", spec := "fnExactKdOrder", unfollowed := true, recurses := true, apart := false, narrowed := true }
def FnExactKdOrderUptoSaid : Prop := fnExactKdOrderUptoRow.holds Try.pinned (OpenSpec.upto fnExactKdOrderSpec)

/-- 'laws.FnExactUpperEnvelope', WHERE WHAT IT READS IS OF BULK AT MOST 1048576: true; the input reads as it did. -/
def fnExactUpperEnvelopeUptoRow : OpenClaim := { program := "ytodeicbcacggdaa", sum := "f38777b24f2327328565d0950f8a30429a9563156156cebd24263c1c5072dc38", func := "loop.example/planargeometry/laws.FnExactUpperEnvelope", spec := "fnExactUpperEnvelope", unfollowed := true, recurses := true, apart := false, narrowed := true }
def FnExactUpperEnvelopeUptoSaid : Prop := fnExactUpperEnvelopeUptoRow.holds Try.pinned (OpenSpec.upto fnExactUpperEnvelopeSpec)

/-- 'laws.FnExtreme', WHERE WHAT IT READS IS OF BULK AT MOST 1048576: true; the input reads as it did. -/
def fnExtremeUptoRow : OpenClaim := { program := "ytodeicbcacggdaa", sum := "f38777b24f2327328565d0950f8a30429a9563156156cebd24263c1c5072dc38", func := "loop.example/planargeometry/laws.FnExtreme", spec := "fnExtreme", unfollowed := true, recurses := true, apart := false, narrowed := true }
def FnExtremeUptoSaid : Prop := fnExtremeUptoRow.holds Try.pinned (OpenSpec.upto fnExtremeSpec)

/-- 'laws.FnDiameter', WHERE WHAT IT READS IS OF BULK AT MOST 1048576: true; the input reads as it did. -/
def fnDiameterUptoRow : OpenClaim := { program := "ytodeicbcacggdaa", sum := "f38777b24f2327328565d0950f8a30429a9563156156cebd24263c1c5072dc38", func := "loop.example/planargeometry/laws.FnDiameter", spec := "fnDiameter", unfollowed := true, recurses := true, apart := false, narrowed := true }
def FnDiameterUptoSaid : Prop := fnDiameterUptoRow.holds Try.pinned (OpenSpec.upto fnDiameterSpec)

/-- 'laws.FnExactHull', WHERE WHAT IT READS IS OF BULK AT MOST 1048576: true; the input reads as it did. -/
def fnExactHullUptoRow : OpenClaim := { program := "ytodeicbcacggdaa", sum := "f38777b24f2327328565d0950f8a30429a9563156156cebd24263c1c5072dc38", func := "loop.example/planargeometry/laws.FnExactHull", spec := "fnExactHull", unfollowed := true, recurses := true, apart := false, narrowed := true }
def FnExactHullUptoSaid : Prop := fnExactHullUptoRow.holds Try.pinned (OpenSpec.upto fnExactHullSpec)

/-- 'laws.FnExactHullArea', WHERE WHAT IT READS IS OF BULK AT MOST 1048576: true; the input reads as it did. -/
def fnExactHullAreaUptoRow : OpenClaim := { program := "ytodeicbcacggdaa", sum := "f38777b24f2327328565d0950f8a30429a9563156156cebd24263c1c5072dc38", func := "loop.example/planargeometry/laws.FnExactHullArea", spec := "fnExactHullArea", unfollowed := true, recurses := true, apart := false, narrowed := true }
def FnExactHullAreaUptoSaid : Prop := fnExactHullAreaUptoRow.holds Try.pinned (OpenSpec.upto fnExactHullAreaSpec)

/-- 'laws.FnHullSum', WHERE WHAT IT READS IS OF BULK AT MOST 1048576: true; the input reads as it did. -/
def fnHullSumUptoRow : OpenClaim := { program := "ytodeicbcacggdaa", sum := "f38777b24f2327328565d0950f8a30429a9563156156cebd24263c1c5072dc38", func := "loop.example/planargeometry/laws.FnHullSum", spec := "fnHullSum", unfollowed := true, recurses := true, apart := false, narrowed := true }
def FnHullSumUptoSaid : Prop := fnHullSumUptoRow.holds Try.pinned (OpenSpec.upto fnHullSumSpec)

end Rows
end Go.Proofs.Ytodeicbcacggdaa
