/-
  No cell of these rows narrows 'for every input' (looked for: loops, veiled, ifaces, maps, wideKeys, modest, calm, conditions, laid).
  DERIVED. THE GIVEN ROWS OF THIS SEAT. 12 by the template 'for every input the law returns true; each argument reads behind the call as it read before'; 0 by the template 'total and deterministic' (their statements: YtemppebemahkoaaTotals.lean).
  GIVEN WITH THE SEED: the statements are not yours to turn. If you find one false, say at which input.
  Laid BY PROGRAM, IN A SANDBOX (cutbox-rows.mjs): the forced cells as the released guide's own fill.sh prints them over the translation d04276e8b2679ba4… (all of the seat's roots in one cut). By AI agents, Wed Nov 11 2026. No macro, syntax, notation, axiom, sorry.
-/
import Derived.Test.YtemppebemahkoaaChecked
import GoSem.Claim
import GoSem.ClaimJoined
import GoSem.ClaimMapViews
import Derived.JoinedTies
import Derived.KernelRfl
namespace Go.Proofs.Ytemppebemahkoaa
/- THE CELL 'sum', in the pinned program and in every row, IS THE sha256 OF THE DUMP (.gsa) THAT YtemppebemahkoaaProg.lean LOADS. Nothing in Lean hashes anything: it is a label: what it is worth is what the hold of that sum in a sandbox is worth. -/
noncomputable def Try.pinned : Pinned := { name := "ytemppebemahkoaa", sum := "d04276e8b2679ba4d2afebae80b926c2c9781da4ea80a6f1dfcb78b99d7e03c9", checked := Try.checked }
namespace Rows
def none {H : Type} : Left H := { results := [], args := [] }

/-- 'laws.FnKdOrder': WHATEVER THE INPUT: true; the input reads as it did. -/
def fnKdOrderSpec : ChangeSpec := { name := "fnKdOrder", fn := fun _ => fun
  | [d] => { results := [.lit (.bool true)], args := [d] }
  | _ => none }
def fnKdOrderRow : OpenClaim := { program := "ytemppebemahkoaa", sum := "d04276e8b2679ba4d2afebae80b926c2c9781da4ea80a6f1dfcb78b99d7e03c9", func := "loop.example/planargeometry/laws.FnKdOrder", spec := "fnKdOrder", unfollowed := true, recurses := true, apart := false }
def FnKdOrderSaid : Prop := fnKdOrderRow.holds Try.pinned (OpenSpec.ofChange fnKdOrderSpec)

/-- ITS FALSE NEIGHBOUR: 'it returns false'. Refute it at one input. -/
def fnKdOrderWrong : ChangeSpec := { name := "fnKdOrder", fn := fun _ => fun
  | [d] => { results := [.lit (.bool false)], args := [d] }
  | _ => none }
def FnKdOrderWrongFalsely : Prop := fnKdOrderRow.holds Try.pinned (OpenSpec.ofChange fnKdOrderWrong)

/-- 'laws.FnExactKdOrder': WHATEVER THE INPUT: true; the input reads as it did. -/
def fnExactKdOrderSpec : ChangeSpec := { name := "fnExactKdOrder", fn := fun _ => fun
  | [d] => { results := [.lit (.bool true)], args := [d] }
  | _ => none }
def fnExactKdOrderRow : OpenClaim := { program := "ytemppebemahkoaa", sum := "d04276e8b2679ba4d2afebae80b926c2c9781da4ea80a6f1dfcb78b99d7e03c9", func := "loop.example/planargeometry/laws.FnExactKdOrder", spec := "fnExactKdOrder", unfollowed := true, recurses := true, apart := false }
def FnExactKdOrderSaid : Prop := fnExactKdOrderRow.holds Try.pinned (OpenSpec.ofChange fnExactKdOrderSpec)

/-- ITS FALSE NEIGHBOUR: 'it returns false'. Refute it at one input. -/
def fnExactKdOrderWrong : ChangeSpec := { name := "fnExactKdOrder", fn := fun _ => fun
  | [d] => { results := [.lit (.bool false)], args := [d] }
  | _ => none }
def FnExactKdOrderWrongFalsely : Prop := fnExactKdOrderRow.holds Try.pinned (OpenSpec.ofChange fnExactKdOrderWrong)

/-- 'laws.FnExactEmptyWitness': WHATEVER THE INPUT: true; the input reads as it did. -/
def fnExactEmptyWitnessSpec : ChangeSpec := { name := "fnExactEmptyWitness", fn := fun _ => fun
  | [d] => { results := [.lit (.bool true)], args := [d] }
  | _ => none }
def fnExactEmptyWitnessRow : OpenClaim := { program := "ytemppebemahkoaa", sum := "d04276e8b2679ba4d2afebae80b926c2c9781da4ea80a6f1dfcb78b99d7e03c9", func := "loop.example/planargeometry/laws.FnExactEmptyWitness", spec := "fnExactEmptyWitness", unfollowed := true, recurses := true, apart := false }
def FnExactEmptyWitnessSaid : Prop := fnExactEmptyWitnessRow.holds Try.pinned (OpenSpec.ofChange fnExactEmptyWitnessSpec)

/-- ITS FALSE NEIGHBOUR: 'it returns false'. Refute it at one input. -/
def fnExactEmptyWitnessWrong : ChangeSpec := { name := "fnExactEmptyWitness", fn := fun _ => fun
  | [d] => { results := [.lit (.bool false)], args := [d] }
  | _ => none }
def FnExactEmptyWitnessWrongFalsely : Prop := fnExactEmptyWitnessRow.holds Try.pinned (OpenSpec.ofChange fnExactEmptyWitnessWrong)

/-- 'laws.FnCheckEmpty': WHATEVER THE INPUT: true; the input reads as it did. -/
def fnCheckEmptySpec : ChangeSpec := { name := "fnCheckEmpty", fn := fun _ => fun
  | [d] => { results := [.lit (.bool true)], args := [d] }
  | _ => none }
def fnCheckEmptyRow : OpenClaim := { program := "ytemppebemahkoaa", sum := "d04276e8b2679ba4d2afebae80b926c2c9781da4ea80a6f1dfcb78b99d7e03c9", func := "loop.example/planargeometry/laws.FnCheckEmpty", spec := "fnCheckEmpty", unfollowed := true, recurses := true, apart := false }
def FnCheckEmptySaid : Prop := fnCheckEmptyRow.holds Try.pinned (OpenSpec.ofChange fnCheckEmptySpec)

/-- ITS FALSE NEIGHBOUR: 'it returns false'. Refute it at one input. -/
def fnCheckEmptyWrong : ChangeSpec := { name := "fnCheckEmpty", fn := fun _ => fun
  | [d] => { results := [.lit (.bool false)], args := [d] }
  | _ => none }
def FnCheckEmptyWrongFalsely : Prop := fnCheckEmptyRow.holds Try.pinned (OpenSpec.ofChange fnCheckEmptyWrong)

/-- 'laws.FnEmptyWitness': WHATEVER THE INPUT: true; the input reads as it did. -/
def fnEmptyWitnessSpec : ChangeSpec := { name := "fnEmptyWitness", fn := fun _ => fun
  | [d] => { results := [.lit (.bool true)], args := [d] }
  | _ => none }
def fnEmptyWitnessRow : OpenClaim := { program := "ytemppebemahkoaa", sum := "d04276e8b2679ba4d2afebae80b926c2c9781da4ea80a6f1dfcb78b99d7e03c9", func := "loop.example/planargeometry/laws.FnEmptyWitness", spec := "fnEmptyWitness", unfollowed := true, recurses := true, apart := false }
def FnEmptyWitnessSaid : Prop := fnEmptyWitnessRow.holds Try.pinned (OpenSpec.ofChange fnEmptyWitnessSpec)

/-- ITS FALSE NEIGHBOUR: 'it returns false'. Refute it at one input. -/
def fnEmptyWitnessWrong : ChangeSpec := { name := "fnEmptyWitness", fn := fun _ => fun
  | [d] => { results := [.lit (.bool false)], args := [d] }
  | _ => none }
def FnEmptyWitnessWrongFalsely : Prop := fnEmptyWitnessRow.holds Try.pinned (OpenSpec.ofChange fnEmptyWitnessWrong)

/-- 'laws.FnEnclosingSupport': WHATEVER THE INPUT: true; the input reads as it did. -/
def fnEnclosingSupportSpec : ChangeSpec := { name := "fnEnclosingSupport", fn := fun _ => fun
  | [d] => { results := [.lit (.bool true)], args := [d] }
  | _ => none }
def fnEnclosingSupportRow : OpenClaim := { program := "ytemppebemahkoaa", sum := "d04276e8b2679ba4d2afebae80b926c2c9781da4ea80a6f1dfcb78b99d7e03c9", func := "loop.example/planargeometry/laws.FnEnclosingSupport", spec := "fnEnclosingSupport", unfollowed := true, recurses := true, apart := false }
def FnEnclosingSupportSaid : Prop := fnEnclosingSupportRow.holds Try.pinned (OpenSpec.ofChange fnEnclosingSupportSpec)

/-- ITS FALSE NEIGHBOUR: 'it returns false'. Refute it at one input. -/
def fnEnclosingSupportWrong : ChangeSpec := { name := "fnEnclosingSupport", fn := fun _ => fun
  | [d] => { results := [.lit (.bool false)], args := [d] }
  | _ => none }
def FnEnclosingSupportWrongFalsely : Prop := fnEnclosingSupportRow.holds Try.pinned (OpenSpec.ofChange fnEnclosingSupportWrong)

/-- 'laws.FnEnclosingHull': WHATEVER THE INPUT: true; the input reads as it did. -/
def fnEnclosingHullSpec : ChangeSpec := { name := "fnEnclosingHull", fn := fun _ => fun
  | [d] => { results := [.lit (.bool true)], args := [d] }
  | _ => none }
def fnEnclosingHullRow : OpenClaim := { program := "ytemppebemahkoaa", sum := "d04276e8b2679ba4d2afebae80b926c2c9781da4ea80a6f1dfcb78b99d7e03c9", func := "loop.example/planargeometry/laws.FnEnclosingHull", spec := "fnEnclosingHull", unfollowed := true, recurses := true, apart := false }
def FnEnclosingHullSaid : Prop := fnEnclosingHullRow.holds Try.pinned (OpenSpec.ofChange fnEnclosingHullSpec)

/-- ITS FALSE NEIGHBOUR: 'it returns false'. Refute it at one input. -/
def fnEnclosingHullWrong : ChangeSpec := { name := "fnEnclosingHull", fn := fun _ => fun
  | [d] => { results := [.lit (.bool false)], args := [d] }
  | _ => none }
def FnEnclosingHullWrongFalsely : Prop := fnEnclosingHullRow.holds Try.pinned (OpenSpec.ofChange fnEnclosingHullWrong)

/-- 'laws.FnLocate': WHATEVER THE INPUT: true; the input reads as it did. -/
def fnLocateSpec : ChangeSpec := { name := "fnLocate", fn := fun _ => fun
  | [d] => { results := [.lit (.bool true)], args := [d] }
  | _ => none }
def fnLocateRow : OpenClaim := { program := "ytemppebemahkoaa", sum := "d04276e8b2679ba4d2afebae80b926c2c9781da4ea80a6f1dfcb78b99d7e03c9", func := "loop.example/planargeometry/laws.FnLocate", spec := "fnLocate", unfollowed := true, recurses := true, apart := false }
def FnLocateSaid : Prop := fnLocateRow.holds Try.pinned (OpenSpec.ofChange fnLocateSpec)

/-- ITS FALSE NEIGHBOUR: 'it returns false'. Refute it at one input. -/
def fnLocateWrong : ChangeSpec := { name := "fnLocate", fn := fun _ => fun
  | [d] => { results := [.lit (.bool false)], args := [d] }
  | _ => none }
def FnLocateWrongFalsely : Prop := fnLocateRow.holds Try.pinned (OpenSpec.ofChange fnLocateWrong)

/-- 'laws.FnIsSimple': WHATEVER THE INPUT: true; the input reads as it did. -/
def fnIsSimpleSpec : ChangeSpec := { name := "fnIsSimple", fn := fun _ => fun
  | [d1, d2] => { results := [.lit (.bool true)], args := [d1, d2] }
  | _ => none }
def fnIsSimpleRow : OpenClaim := { program := "ytemppebemahkoaa", sum := "d04276e8b2679ba4d2afebae80b926c2c9781da4ea80a6f1dfcb78b99d7e03c9", func := "loop.example/planargeometry/laws.FnIsSimple", spec := "fnIsSimple", unfollowed := true, recurses := true, apart := false }
def FnIsSimpleSaid : Prop := fnIsSimpleRow.holds Try.pinned (OpenSpec.ofChange fnIsSimpleSpec)

/-- ITS FALSE NEIGHBOUR: 'it returns false'. Refute it at one input. -/
def fnIsSimpleWrong : ChangeSpec := { name := "fnIsSimple", fn := fun _ => fun
  | [d1, d2] => { results := [.lit (.bool false)], args := [d1, d2] }
  | _ => none }
def FnIsSimpleWrongFalsely : Prop := fnIsSimpleRow.holds Try.pinned (OpenSpec.ofChange fnIsSimpleWrong)

/-- 'laws.FnBoundaryCount': WHATEVER THE INPUT: true; the input reads as it did. -/
def fnBoundaryCountSpec : ChangeSpec := { name := "fnBoundaryCount", fn := fun _ => fun
  | [d1, d2] => { results := [.lit (.bool true)], args := [d1, d2] }
  | _ => none }
def fnBoundaryCountRow : OpenClaim := { program := "ytemppebemahkoaa", sum := "d04276e8b2679ba4d2afebae80b926c2c9781da4ea80a6f1dfcb78b99d7e03c9", func := "loop.example/planargeometry/laws.FnBoundaryCount", spec := "fnBoundaryCount", unfollowed := true, recurses := true, apart := false }
def FnBoundaryCountSaid : Prop := fnBoundaryCountRow.holds Try.pinned (OpenSpec.ofChange fnBoundaryCountSpec)

/-- ITS FALSE NEIGHBOUR: 'it returns false'. Refute it at one input. -/
def fnBoundaryCountWrong : ChangeSpec := { name := "fnBoundaryCount", fn := fun _ => fun
  | [d1, d2] => { results := [.lit (.bool false)], args := [d1, d2] }
  | _ => none }
def FnBoundaryCountWrongFalsely : Prop := fnBoundaryCountRow.holds Try.pinned (OpenSpec.ofChange fnBoundaryCountWrong)

/-- 'laws.FnIsDrawing': WHATEVER THE INPUT: true; the input reads as it did. -/
def fnIsDrawingSpec : ChangeSpec := { name := "fnIsDrawing", fn := fun _ => fun
  | [d1, d2] => { results := [.lit (.bool true)], args := [d1, d2] }
  | _ => none }
def fnIsDrawingRow : OpenClaim := { program := "ytemppebemahkoaa", sum := "d04276e8b2679ba4d2afebae80b926c2c9781da4ea80a6f1dfcb78b99d7e03c9", func := "loop.example/planargeometry/laws.FnIsDrawing", spec := "fnIsDrawing", unfollowed := true, recurses := true, apart := false }
def FnIsDrawingSaid : Prop := fnIsDrawingRow.holds Try.pinned (OpenSpec.ofChange fnIsDrawingSpec)

/-- ITS FALSE NEIGHBOUR: 'it returns false'. Refute it at one input. -/
def fnIsDrawingWrong : ChangeSpec := { name := "fnIsDrawing", fn := fun _ => fun
  | [d1, d2] => { results := [.lit (.bool false)], args := [d1, d2] }
  | _ => none }
def FnIsDrawingWrongFalsely : Prop := fnIsDrawingRow.holds Try.pinned (OpenSpec.ofChange fnIsDrawingWrong)

/-- 'laws.FnPolygonDrawing': WHATEVER THE INPUT: true; the input reads as it did. -/
def fnPolygonDrawingSpec : ChangeSpec := { name := "fnPolygonDrawing", fn := fun _ => fun
  | [d] => { results := [.lit (.bool true)], args := [d] }
  | _ => none }
def fnPolygonDrawingRow : OpenClaim := { program := "ytemppebemahkoaa", sum := "d04276e8b2679ba4d2afebae80b926c2c9781da4ea80a6f1dfcb78b99d7e03c9", func := "loop.example/planargeometry/laws.FnPolygonDrawing", spec := "fnPolygonDrawing", unfollowed := true, recurses := true, apart := false }
def FnPolygonDrawingSaid : Prop := fnPolygonDrawingRow.holds Try.pinned (OpenSpec.ofChange fnPolygonDrawingSpec)

/-- ITS FALSE NEIGHBOUR: 'it returns false'. Refute it at one input. -/
def fnPolygonDrawingWrong : ChangeSpec := { name := "fnPolygonDrawing", fn := fun _ => fun
  | [d] => { results := [.lit (.bool false)], args := [d] }
  | _ => none }
def FnPolygonDrawingWrongFalsely : Prop := fnPolygonDrawingRow.holds Try.pinned (OpenSpec.ofChange fnPolygonDrawingWrong)

/- THE SECOND FORM. 'bulk': how many values and letters a reading holds, each counted each time it is reached (what is shared counts as often as it is met; a slice's spare places count too). A statement '..UptoSaid' is the law's where the arguments, and the package variables that the reading takes, are together of bulk at most 1048576: NARROWER than '..Said'. Prove '..Said' where nothing that the law and all that it calls make is longer than what came in: it says more and counts as full. Else prove '..UptoSaid'. A law counts once. -/
mutual
def uptoBulk {H : Type} : DataW H → Nat
  | .lit (.string bytes) => bytes.length + 1
  | .lit _ => 1
  | .nil => 1
  | .ptr d => uptoBulk d + 1
  | .slice elems spare => uptoBulkAll elems + uptoBulkAll spare + 1
  | .agg parts => uptoBulkAll parts + 1
  | .iface _ d => uptoBulk d + 1
  | .map entries => uptoBulkEntries entries + 1
  | .held _ => 1
def uptoBulkAll {H : Type} : List (DataW H) → Nat
  | [] => 0
  | d :: r => uptoBulk d + uptoBulkAll r
def uptoBulkEntries {H : Type} : List (Lit × DataW H) → Nat
  | [] => 0
  | x :: r => uptoBulkEntry x + uptoBulkEntries r
def uptoBulkEntry {H : Type} : Lit × DataW H → Nat
  | (.string bytes, d) => bytes.length + uptoBulk d + 1
  | (_, d) => uptoBulk d + 1
 end
def uptoSmall : (H : Type) → List (DataW H) → Bool := fun _ ds => decide (uptoBulkAll ds ≤ 1048576)
def OpenSpec.upto (s : _root_.Go.ChangeSpec) : _root_.Go.OpenSpec := { _root_.Go.OpenSpec.ofChange s with cond := some uptoSmall }

/-- 'laws.FnKdOrder', WHERE WHAT IT READS IS OF BULK AT MOST 1048576: true; the input reads as it did. -/
def fnKdOrderUptoRow : OpenClaim := { program := "ytemppebemahkoaa", sum := "d04276e8b2679ba4d2afebae80b926c2c9781da4ea80a6f1dfcb78b99d7e03c9", func := "loop.example/planargeometry/laws.FnKdOrder", spec := "fnKdOrder", unfollowed := true, recurses := true, apart := false, narrowed := true }
def FnKdOrderUptoSaid : Prop := fnKdOrderUptoRow.holds Try.pinned (OpenSpec.upto fnKdOrderSpec)

/-- 'laws.FnExactKdOrder', WHERE WHAT IT READS IS OF BULK AT MOST 1048576: true; the input reads as it did. -/
def fnExactKdOrderUptoRow : OpenClaim := { program := "ytemppebemahkoaa", sum := "d04276e8b2679ba4d2afebae80b926c2c9781da4ea80a6f1dfcb78b99d7e03c9", func := "loop.example/planargeometry/laws.FnExactKdOrder", spec := "fnExactKdOrder", unfollowed := true, recurses := true, apart := false, narrowed := true }
def FnExactKdOrderUptoSaid : Prop := fnExactKdOrderUptoRow.holds Try.pinned (OpenSpec.upto fnExactKdOrderSpec)

/-- 'laws.FnExactEmptyWitness', WHERE WHAT IT READS IS OF BULK AT MOST 1048576: true; the input reads as it did. -/
def fnExactEmptyWitnessUptoRow : OpenClaim := { program := "ytemppebemahkoaa", sum := "d04276e8b2679ba4d2afebae80b926c2c9781da4ea80a6f1dfcb78b99d7e03c9", func := "loop.example/planargeometry/laws.FnExactEmptyWitness", spec := "fnExactEmptyWitness", unfollowed := true, recurses := true, apart := false, narrowed := true }
def FnExactEmptyWitnessUptoSaid : Prop := fnExactEmptyWitnessUptoRow.holds Try.pinned (OpenSpec.upto fnExactEmptyWitnessSpec)

/-- 'laws.FnCheckEmpty', WHERE WHAT IT READS IS OF BULK AT MOST 1048576: true; the input reads as it did. -/
def fnCheckEmptyUptoRow : OpenClaim := { program := "ytemppebemahkoaa", sum := "d04276e8b2679ba4d2afebae80b926c2c9781da4ea80a6f1dfcb78b99d7e03c9", func := "loop.example/planargeometry/laws.FnCheckEmpty", spec := "fnCheckEmpty", unfollowed := true, recurses := true, apart := false, narrowed := true }
def FnCheckEmptyUptoSaid : Prop := fnCheckEmptyUptoRow.holds Try.pinned (OpenSpec.upto fnCheckEmptySpec)

/-- 'laws.FnEmptyWitness', WHERE WHAT IT READS IS OF BULK AT MOST 1048576: true; the input reads as it did. -/
def fnEmptyWitnessUptoRow : OpenClaim := { program := "ytemppebemahkoaa", sum := "d04276e8b2679ba4d2afebae80b926c2c9781da4ea80a6f1dfcb78b99d7e03c9", func := "loop.example/planargeometry/laws.FnEmptyWitness", spec := "fnEmptyWitness", unfollowed := true, recurses := true, apart := false, narrowed := true }
def FnEmptyWitnessUptoSaid : Prop := fnEmptyWitnessUptoRow.holds Try.pinned (OpenSpec.upto fnEmptyWitnessSpec)

/-- 'laws.FnEnclosingSupport', WHERE WHAT IT READS IS OF BULK AT MOST 1048576: true; the input reads as it did. -/
def fnEnclosingSupportUptoRow : OpenClaim := { program := "ytemppebemahkoaa", sum := "d04276e8b2679ba4d2afebae80b926c2c9781da4ea80a6f1dfcb78b99d7e03c9", func := "loop.example/planargeometry/laws.FnEnclosingSupport", spec := "fnEnclosingSupport", unfollowed := true, recurses := true, apart := false, narrowed := true }
def FnEnclosingSupportUptoSaid : Prop := fnEnclosingSupportUptoRow.holds Try.pinned (OpenSpec.upto fnEnclosingSupportSpec)

/-- 'laws.FnEnclosingHull', WHERE WHAT IT READS IS OF BULK AT MOST 1048576: true; the input reads as it did. -/
def fnEnclosingHullUptoRow : OpenClaim := { program := "ytemppebemahkoaa", sum := "d04276e8b2679ba4d2afebae80b926c2c9781da4ea80a6f1dfcb78b99d7e03c9", func := "loop.example/planargeometry/laws.FnEnclosingHull", spec := "fnEnclosingHull", unfollowed := true, recurses := true, apart := false, narrowed := true }
def FnEnclosingHullUptoSaid : Prop := fnEnclosingHullUptoRow.holds Try.pinned (OpenSpec.upto fnEnclosingHullSpec)

/-- 'laws.FnLocate', WHERE WHAT IT READS IS OF BULK AT MOST 1048576: true; the input reads as it did. -/
def fnLocateUptoRow : OpenClaim := { program := "ytemppebemahkoaa", sum := "d04276e8b2679ba4d2afebae80b926c2c9781da4ea80a6f1dfcb78b99d7e03c9", func := "loop.example/planargeometry/laws.FnLocate", spec := "fnLocate", unfollowed := true, recurses := true, apart := false, narrowed := true }
def FnLocateUptoSaid : Prop := fnLocateUptoRow.holds Try.pinned (OpenSpec.upto fnLocateSpec)

/-- 'laws.FnIsSimple', WHERE WHAT IT READS IS OF BULK AT MOST 1048576: true; the input reads as it did. -/
def fnIsSimpleUptoRow : OpenClaim := { program := "ytemppebemahkoaa", sum := "d04276e8b2679ba4d2afebae80b926c2c9781da4ea80a6f1dfcb78b99d7e03c9", func := "loop.example/planargeometry/laws.FnIsSimple", spec := "fnIsSimple", unfollowed := true, recurses := true, apart := false, narrowed := true }
def FnIsSimpleUptoSaid : Prop := fnIsSimpleUptoRow.holds Try.pinned (OpenSpec.upto fnIsSimpleSpec)

/-- 'laws.FnBoundaryCount', WHERE WHAT IT READS IS OF BULK AT MOST 1048576: true; the input reads as it did. -/
def fnBoundaryCountUptoRow : OpenClaim := { program := "ytemppebemahkoaa", sum := "d04276e8b2679ba4d2afebae80b926c2c9781da4ea80a6f1dfcb78b99d7e03c9", func := "loop.example/planargeometry/laws.FnBoundaryCount", spec := "fnBoundaryCount", unfollowed := true, recurses := true, apart := false, narrowed := true }
def FnBoundaryCountUptoSaid : Prop := fnBoundaryCountUptoRow.holds Try.pinned (OpenSpec.upto fnBoundaryCountSpec)

/-- 'laws.FnIsDrawing', WHERE WHAT IT READS IS OF BULK AT MOST 1048576: true; the input reads as it did. -/
def fnIsDrawingUptoRow : OpenClaim := { program := "ytemppebemahkoaa", sum := "d04276e8b2679ba4d2afebae80b926c2c9781da4ea80a6f1dfcb78b99d7e03c9", func := "loop.example/planargeometry/laws.FnIsDrawing", spec := "fnIsDrawing", unfollowed := true, recurses := true, apart := false, narrowed := true }
def FnIsDrawingUptoSaid : Prop := fnIsDrawingUptoRow.holds Try.pinned (OpenSpec.upto fnIsDrawingSpec)

/-- 'laws.FnPolygonDrawing', WHERE WHAT IT READS IS OF BULK AT MOST 1048576: true; the input reads as it did. -/
def fnPolygonDrawingUptoRow : OpenClaim := { program := "ytemppebemahkoaa", sum := "d04276e8b2679ba4d2afebae80b926c2c9781da4ea80a6f1dfcb78b99d7e03c9", func := "loop.example/planargeometry/laws.FnPolygonDrawing", spec := "fnPolygonDrawing", unfollowed := true, recurses := true, apart := false, narrowed := true }
def FnPolygonDrawingUptoSaid : Prop := fnPolygonDrawingUptoRow.holds Try.pinned (OpenSpec.upto fnPolygonDrawingSpec)

end Rows
end Go.Proofs.Ytemppebemahkoaa
