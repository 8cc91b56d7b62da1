/-
  No cell of these rows narrows 'for every input' (looked for: loops, veiled, ifaces, maps, wideKeys, modest, calm, conditions, laid).
  DERIVED. THE GIVEN ROWS OF THIS SEAT. 12 by the template 'for every input the law returns true; each argument reads behind the call as it read before'; 0 by the template 'total and deterministic' (their statements: YtmcpjnaedgpenaaTotals.lean).
  GIVEN WITH THE SEED: the statements are not yours to turn. If you find one false, say at which input.
  Laid BY PROGRAM, IN A SANDBOX (cutbox-rows.mjs): the forced cells as the released guide's own fill.sh prints them over the translation bb7cb331c7147472… (all of the seat's roots in one cut). By AI agents, Wed Nov 11 2026. No macro, syntax, notation, axiom, sorry.
-/
import Derived.Test.YtmcpjnaedgpenaaChecked
import GoSem.Claim
import GoSem.ClaimJoined
import GoSem.ClaimMapViews
import Derived.JoinedTies
import Derived.KernelRfl
namespace Go.Proofs.Ytmcpjnaedgpenaa
/- THE CELL 'sum', in the pinned program and in every row, IS THE sha256 OF THE DUMP (.gsa) THAT YtmcpjnaedgpenaaProg.lean LOADS. Nothing in Lean hashes anything: it is a label: what it is worth is what the hold of that sum in a sandbox is worth. -/
noncomputable def Try.pinned : Pinned := { name := "ytmcpjnaedgpenaa", sum := "bb7cb331c714747286f82b6b5f0d2c791029d9eb0fc3689578882dec2dd3b57b", checked := Try.checked }
namespace Rows
def none {H : Type} : Left H := { results := [], args := [] }

/-- 'laws.FnDiameterHull': WHATEVER THE INPUT: true; the input reads as it did. -/
def fnDiameterHullSpec : ChangeSpec := { name := "fnDiameterHull", fn := fun _ => fun
  | [d] => { results := [.lit (.bool true)], args := [d] }
  | _ => none }
def fnDiameterHullRow : OpenClaim := { program := "ytmcpjnaedgpenaa", sum := "bb7cb331c714747286f82b6b5f0d2c791029d9eb0fc3689578882dec2dd3b57b", func := "loop.example/planargeometry/laws.FnDiameterHull", spec := "fnDiameterHull", unfollowed := true, recurses := true, apart := false }
def FnDiameterHullSaid : Prop := fnDiameterHullRow.holds Try.pinned (OpenSpec.ofChange fnDiameterHullSpec)

/-- ITS FALSE NEIGHBOUR: 'it returns false'. Refute it at one input. -/
def fnDiameterHullWrong : ChangeSpec := { name := "fnDiameterHull", fn := fun _ => fun
  | [d] => { results := [.lit (.bool false)], args := [d] }
  | _ => none }
def FnDiameterHullWrongFalsely : Prop := fnDiameterHullRow.holds Try.pinned (OpenSpec.ofChange fnDiameterHullWrong)

/-- 'laws.FnExactIsDelaunay': WHATEVER THE INPUT: true; the input reads as it did. -/
def fnExactIsDelaunaySpec : ChangeSpec := { name := "fnExactIsDelaunay", fn := fun _ => fun
  | [d1, d2] => { results := [.lit (.bool true)], args := [d1, d2] }
  | _ => none }
def fnExactIsDelaunayRow : OpenClaim := { program := "ytmcpjnaedgpenaa", sum := "bb7cb331c714747286f82b6b5f0d2c791029d9eb0fc3689578882dec2dd3b57b", func := "loop.example/planargeometry/laws.FnExactIsDelaunay", spec := "fnExactIsDelaunay", unfollowed := true, recurses := true, apart := false }
def FnExactIsDelaunaySaid : Prop := fnExactIsDelaunayRow.holds Try.pinned (OpenSpec.ofChange fnExactIsDelaunaySpec)

/-- ITS FALSE NEIGHBOUR: 'it returns false'. Refute it at one input. -/
def fnExactIsDelaunayWrong : ChangeSpec := { name := "fnExactIsDelaunay", fn := fun _ => fun
  | [d1, d2] => { results := [.lit (.bool false)], args := [d1, d2] }
  | _ => none }
def FnExactIsDelaunayWrongFalsely : Prop := fnExactIsDelaunayRow.holds Try.pinned (OpenSpec.ofChange fnExactIsDelaunayWrong)

/-- 'laws.FnExactIsSimple': WHATEVER THE INPUT: true; the input reads as it did. -/
def fnExactIsSimpleSpec : ChangeSpec := { name := "fnExactIsSimple", fn := fun _ => fun
  | [d] => { results := [.lit (.bool true)], args := [d] }
  | _ => none }
def fnExactIsSimpleRow : OpenClaim := { program := "ytmcpjnaedgpenaa", sum := "bb7cb331c714747286f82b6b5f0d2c791029d9eb0fc3689578882dec2dd3b57b", func := "loop.example/planargeometry/laws.FnExactIsSimple", spec := "fnExactIsSimple", unfollowed := true, recurses := true, apart := false }
def FnExactIsSimpleSaid : Prop := fnExactIsSimpleRow.holds Try.pinned (OpenSpec.ofChange fnExactIsSimpleSpec)

/-- ITS FALSE NEIGHBOUR: 'it returns false'. Refute it at one input. -/
def fnExactIsSimpleWrong : ChangeSpec := { name := "fnExactIsSimple", fn := fun _ => fun
  | [d] => { results := [.lit (.bool false)], args := [d] }
  | _ => none }
def FnExactIsSimpleWrongFalsely : Prop := fnExactIsSimpleRow.holds Try.pinned (OpenSpec.ofChange fnExactIsSimpleWrong)

/-- 'laws.FnHullOrder': WHATEVER THE INPUT: true; the input reads as it did. -/
def fnHullOrderSpec : ChangeSpec := { name := "fnHullOrder", fn := fun _ => fun
  | [d] => { results := [.lit (.bool true)], args := [d] }
  | _ => none }
def fnHullOrderRow : OpenClaim := { program := "ytmcpjnaedgpenaa", sum := "bb7cb331c714747286f82b6b5f0d2c791029d9eb0fc3689578882dec2dd3b57b", func := "loop.example/planargeometry/laws.FnHullOrder", spec := "fnHullOrder", unfollowed := true, recurses := true, apart := false }
def FnHullOrderSaid : Prop := fnHullOrderRow.holds Try.pinned (OpenSpec.ofChange fnHullOrderSpec)

/-- ITS FALSE NEIGHBOUR: 'it returns false'. Refute it at one input. -/
def fnHullOrderWrong : ChangeSpec := { name := "fnHullOrder", fn := fun _ => fun
  | [d] => { results := [.lit (.bool false)], args := [d] }
  | _ => none }
def FnHullOrderWrongFalsely : Prop := fnHullOrderRow.holds Try.pinned (OpenSpec.ofChange fnHullOrderWrong)

/-- 'laws.FnExactIsConvex': WHATEVER THE INPUT: true; the input reads as it did. -/
def fnExactIsConvexSpec : ChangeSpec := { name := "fnExactIsConvex", fn := fun _ => fun
  | [d] => { results := [.lit (.bool true)], args := [d] }
  | _ => none }
def fnExactIsConvexRow : OpenClaim := { program := "ytmcpjnaedgpenaa", sum := "bb7cb331c714747286f82b6b5f0d2c791029d9eb0fc3689578882dec2dd3b57b", func := "loop.example/planargeometry/laws.FnExactIsConvex", spec := "fnExactIsConvex", unfollowed := true, recurses := true, apart := false }
def FnExactIsConvexSaid : Prop := fnExactIsConvexRow.holds Try.pinned (OpenSpec.ofChange fnExactIsConvexSpec)

/-- ITS FALSE NEIGHBOUR: 'it returns false'. Refute it at one input. -/
def fnExactIsConvexWrong : ChangeSpec := { name := "fnExactIsConvex", fn := fun _ => fun
  | [d] => { results := [.lit (.bool false)], args := [d] }
  | _ => none }
def FnExactIsConvexWrongFalsely : Prop := fnExactIsConvexRow.holds Try.pinned (OpenSpec.ofChange fnExactIsConvexWrong)

/-- 'laws.FnExactDoubleArea': WHATEVER THE INPUT: true; the input reads as it did. -/
def fnExactDoubleAreaSpec : ChangeSpec := { name := "fnExactDoubleArea", fn := fun _ => fun
  | [d] => { results := [.lit (.bool true)], args := [d] }
  | _ => none }
def fnExactDoubleAreaRow : OpenClaim := { program := "ytmcpjnaedgpenaa", sum := "bb7cb331c714747286f82b6b5f0d2c791029d9eb0fc3689578882dec2dd3b57b", func := "loop.example/planargeometry/laws.FnExactDoubleArea", spec := "fnExactDoubleArea", unfollowed := true, recurses := true, apart := false }
def FnExactDoubleAreaSaid : Prop := fnExactDoubleAreaRow.holds Try.pinned (OpenSpec.ofChange fnExactDoubleAreaSpec)

/-- ITS FALSE NEIGHBOUR: 'it returns false'. Refute it at one input. -/
def fnExactDoubleAreaWrong : ChangeSpec := { name := "fnExactDoubleArea", fn := fun _ => fun
  | [d] => { results := [.lit (.bool false)], args := [d] }
  | _ => none }
def FnExactDoubleAreaWrongFalsely : Prop := fnExactDoubleAreaRow.holds Try.pinned (OpenSpec.ofChange fnExactDoubleAreaWrong)

/-- 'laws.FnExactLocateConvex': WHATEVER THE INPUT: true; the input reads as it did. -/
def fnExactLocateConvexSpec : ChangeSpec := { name := "fnExactLocateConvex", fn := fun _ => fun
  | [d1, d2] => { results := [.lit (.bool true)], args := [d1, d2] }
  | _ => none }
def fnExactLocateConvexRow : OpenClaim := { program := "ytmcpjnaedgpenaa", sum := "bb7cb331c714747286f82b6b5f0d2c791029d9eb0fc3689578882dec2dd3b57b", func := "loop.example/planargeometry/laws.FnExactLocateConvex", spec := "fnExactLocateConvex", unfollowed := true, recurses := true, apart := false }
def FnExactLocateConvexSaid : Prop := fnExactLocateConvexRow.holds Try.pinned (OpenSpec.ofChange fnExactLocateConvexSpec)

/-- ITS FALSE NEIGHBOUR: 'it returns false'. Refute it at one input. -/
def fnExactLocateConvexWrong : ChangeSpec := { name := "fnExactLocateConvex", fn := fun _ => fun
  | [d1, d2] => { results := [.lit (.bool false)], args := [d1, d2] }
  | _ => none }
def FnExactLocateConvexWrongFalsely : Prop := fnExactLocateConvexRow.holds Try.pinned (OpenSpec.ofChange fnExactLocateConvexWrong)

/-- 'laws.FnExactLocate': WHATEVER THE INPUT: true; the input reads as it did. -/
def fnExactLocateSpec : ChangeSpec := { name := "fnExactLocate", fn := fun _ => fun
  | [d1, d2] => { results := [.lit (.bool true)], args := [d1, d2] }
  | _ => none }
def fnExactLocateRow : OpenClaim := { program := "ytmcpjnaedgpenaa", sum := "bb7cb331c714747286f82b6b5f0d2c791029d9eb0fc3689578882dec2dd3b57b", func := "loop.example/planargeometry/laws.FnExactLocate", spec := "fnExactLocate", unfollowed := true, recurses := true, apart := false }
def FnExactLocateSaid : Prop := fnExactLocateRow.holds Try.pinned (OpenSpec.ofChange fnExactLocateSpec)

/-- ITS FALSE NEIGHBOUR: 'it returns false'. Refute it at one input. -/
def fnExactLocateWrong : ChangeSpec := { name := "fnExactLocate", fn := fun _ => fun
  | [d1, d2] => { results := [.lit (.bool false)], args := [d1, d2] }
  | _ => none }
def FnExactLocateWrongFalsely : Prop := fnExactLocateRow.holds Try.pinned (OpenSpec.ofChange fnExactLocateWrong)

/-- 'laws.FnExactBoundaryCount': WHATEVER THE INPUT: true; the input reads as it did. -/
def fnExactBoundaryCountSpec : ChangeSpec := { name := "fnExactBoundaryCount", fn := fun _ => fun
  | [d] => { results := [.lit (.bool true)], args := [d] }
  | _ => none }
def fnExactBoundaryCountRow : OpenClaim := { program := "ytmcpjnaedgpenaa", sum := "bb7cb331c714747286f82b6b5f0d2c791029d9eb0fc3689578882dec2dd3b57b", func := "loop.example/planargeometry/laws.FnExactBoundaryCount", spec := "fnExactBoundaryCount", unfollowed := true, recurses := true, apart := false }
def FnExactBoundaryCountSaid : Prop := fnExactBoundaryCountRow.holds Try.pinned (OpenSpec.ofChange fnExactBoundaryCountSpec)

/-- ITS FALSE NEIGHBOUR: 'it returns false'. Refute it at one input. -/
def fnExactBoundaryCountWrong : ChangeSpec := { name := "fnExactBoundaryCount", fn := fun _ => fun
  | [d] => { results := [.lit (.bool false)], args := [d] }
  | _ => none }
def FnExactBoundaryCountWrongFalsely : Prop := fnExactBoundaryCountRow.holds Try.pinned (OpenSpec.ofChange fnExactBoundaryCountWrong)

/-- 'laws.FnExactInteriorCount': WHATEVER THE INPUT: true; the input reads as it did. -/
def fnExactInteriorCountSpec : ChangeSpec := { name := "fnExactInteriorCount", fn := fun _ => fun
  | [d] => { results := [.lit (.bool true)], args := [d] }
  | _ => none }
def fnExactInteriorCountRow : OpenClaim := { program := "ytmcpjnaedgpenaa", sum := "bb7cb331c714747286f82b6b5f0d2c791029d9eb0fc3689578882dec2dd3b57b", func := "loop.example/planargeometry/laws.FnExactInteriorCount", spec := "fnExactInteriorCount", unfollowed := true, recurses := true, apart := false }
def FnExactInteriorCountSaid : Prop := fnExactInteriorCountRow.holds Try.pinned (OpenSpec.ofChange fnExactInteriorCountSpec)

/-- ITS FALSE NEIGHBOUR: 'it returns false'. Refute it at one input. -/
def fnExactInteriorCountWrong : ChangeSpec := { name := "fnExactInteriorCount", fn := fun _ => fun
  | [d] => { results := [.lit (.bool false)], args := [d] }
  | _ => none }
def FnExactInteriorCountWrongFalsely : Prop := fnExactInteriorCountRow.holds Try.pinned (OpenSpec.ofChange fnExactInteriorCountWrong)

/-- 'laws.FnExactCanonical': WHATEVER THE INPUT: true; the input reads as it did. -/
def fnExactCanonicalSpec : ChangeSpec := { name := "fnExactCanonical", fn := fun _ => fun
  | [d] => { results := [.lit (.bool true)], args := [d] }
  | _ => none }
def fnExactCanonicalRow : OpenClaim := { program := "ytmcpjnaedgpenaa", sum := "bb7cb331c714747286f82b6b5f0d2c791029d9eb0fc3689578882dec2dd3b57b", func := "loop.example/planargeometry/laws.FnExactCanonical", spec := "fnExactCanonical", unfollowed := true, recurses := true, apart := false }
def FnExactCanonicalSaid : Prop := fnExactCanonicalRow.holds Try.pinned (OpenSpec.ofChange fnExactCanonicalSpec)

/-- ITS FALSE NEIGHBOUR: 'it returns false'. Refute it at one input. -/
def fnExactCanonicalWrong : ChangeSpec := { name := "fnExactCanonical", fn := fun _ => fun
  | [d] => { results := [.lit (.bool false)], args := [d] }
  | _ => none }
def FnExactCanonicalWrongFalsely : Prop := fnExactCanonicalRow.holds Try.pinned (OpenSpec.ofChange fnExactCanonicalWrong)

/-- 'laws.FnExactIsDiagonal': WHATEVER THE INPUT: true; the input reads as it did. -/
def fnExactIsDiagonalSpec : ChangeSpec := { name := "fnExactIsDiagonal", fn := fun _ => fun
  | [d1, d2, d3] => { results := [.lit (.bool true)], args := [d1, d2, d3] }
  | _ => none }
def fnExactIsDiagonalRow : OpenClaim := { program := "ytmcpjnaedgpenaa", sum := "bb7cb331c714747286f82b6b5f0d2c791029d9eb0fc3689578882dec2dd3b57b", func := "loop.example/planargeometry/laws.FnExactIsDiagonal", spec := "fnExactIsDiagonal", unfollowed := true, recurses := true, apart := false }
def FnExactIsDiagonalSaid : Prop := fnExactIsDiagonalRow.holds Try.pinned (OpenSpec.ofChange fnExactIsDiagonalSpec)

/-- ITS FALSE NEIGHBOUR: 'it returns false'. Refute it at one input. -/
def fnExactIsDiagonalWrong : ChangeSpec := { name := "fnExactIsDiagonal", fn := fun _ => fun
  | [d1, d2, d3] => { results := [.lit (.bool false)], args := [d1, d2, d3] }
  | _ => none }
def FnExactIsDiagonalWrongFalsely : Prop := fnExactIsDiagonalRow.holds Try.pinned (OpenSpec.ofChange fnExactIsDiagonalWrong)

/- THE SECOND FORM. 'bulk': how many values and letters a reading holds, each counted each time it is reached (what is shared counts as often as it is met; a slice's spare places count too). A statement '..UptoSaid' is the law's where the arguments, and the package variables that the reading takes, are together of bulk at most 1048576: NARROWER than '..Said'. Prove '..Said' where nothing that the law and all that it calls make is longer than what came in: it says more and counts as full. Else prove '..UptoSaid'. A law counts once. -/
mutual
def uptoBulk {H : Type} : DataW H → Nat
  | .lit (.string bytes) => bytes.length + 1
  | .lit _ => 1
  | .nil => 1
  | .ptr d => uptoBulk d + 1
  | .slice elems spare => uptoBulkAll elems + uptoBulkAll spare + 1
  | .agg parts => uptoBulkAll parts + 1
  | .iface _ d => uptoBulk d + 1
  | .map entries => uptoBulkEntries entries + 1
  | .held _ => 1
def uptoBulkAll {H : Type} : List (DataW H) → Nat
  | [] => 0
  | d :: r => uptoBulk d + uptoBulkAll r
def uptoBulkEntries {H : Type} : List (Lit × DataW H) → Nat
  | [] => 0
  | x :: r => uptoBulkEntry x + uptoBulkEntries r
def uptoBulkEntry {H : Type} : Lit × DataW H → Nat
  | (.string bytes, d) => bytes.length + uptoBulk d + 1
  | (_, d) => uptoBulk d + 1
 end
def uptoSmall : (H : Type) → List (DataW H) → Bool := fun _ ds => decide (uptoBulkAll ds ≤ 1048576)
def OpenSpec.upto (s : _root_.Go.ChangeSpec) : _root_.Go.OpenSpec := { _root_.Go.OpenSpec.ofChange s with cond := some uptoSmall }

/-- 'laws.FnDiameterHull', WHERE WHAT IT READS IS OF BULK AT MOST 1048576: true; the input reads as it did. -/
def fnDiameterHullUptoRow : OpenClaim := { program := "ytmcpjnaedgpenaa", sum := "bb7cb331c714747286f82b6b5f0d2c791029d9eb0fc3689578882dec2dd3b57b", func := "loop.example/planargeometry/laws.FnDiameterHull", spec := "fnDiameterHull", unfollowed := true, recurses := true, apart := false, narrowed := true }
def FnDiameterHullUptoSaid : Prop := fnDiameterHullUptoRow.holds Try.pinned (OpenSpec.upto fnDiameterHullSpec)

/-- 'laws.FnExactIsDelaunay', WHERE WHAT IT READS IS OF BULK AT MOST 1048576: true; the input reads as it did. -/
def fnExactIsDelaunayUptoRow : OpenClaim := { program := "ytmcpjnaedgpenaa", sum := "bb7cb331c714747286f82b6b5f0d2c791029d9eb0fc3689578882dec2dd3b57b", func := "loop.example/planargeometry/laws.FnExactIsDelaunay", spec := "fnExactIsDelaunay", unfollowed := true, recurses := true, apart := false, narrowed := true }
def FnExactIsDelaunayUptoSaid : Prop := fnExactIsDelaunayUptoRow.holds Try.pinned (OpenSpec.upto fnExactIsDelaunaySpec)

/-- 'laws.FnExactIsSimple', WHERE WHAT IT READS IS OF BULK AT MOST 1048576: true; the input reads as it did. -/
def fnExactIsSimpleUptoRow : OpenClaim := { program := "ytmcpjnaedgpenaa", sum := "bb7cb331c714747286f82b6b5f0d2c791029d9eb0fc3689578882dec2dd3b57b", func := "loop.example/planargeometry/laws.FnExactIsSimple", spec := "fnExactIsSimple", unfollowed := true, recurses := true, apart := false, narrowed := true }
def FnExactIsSimpleUptoSaid : Prop := fnExactIsSimpleUptoRow.holds Try.pinned (OpenSpec.upto fnExactIsSimpleSpec)

/-- 'laws.FnHullOrder', WHERE WHAT IT READS IS OF BULK AT MOST 1048576: true; the input reads as it did. -/
def fnHullOrderUptoRow : OpenClaim := { program := "ytmcpjnaedgpenaa", sum := "bb7cb331c714747286f82b6b5f0d2c791029d9eb0fc3689578882dec2dd3b57b", func := "loop.example/planargeometry/laws.FnHullOrder", spec := "fnHullOrder", unfollowed := true, recurses := true, apart := false, narrowed := true }
def FnHullOrderUptoSaid : Prop := fnHullOrderUptoRow.holds Try.pinned (OpenSpec.upto fnHullOrderSpec)

/-- 'laws.FnExactIsConvex', WHERE WHAT IT READS IS OF BULK AT MOST 1048576: true; the input reads as it did. -/
def fnExactIsConvexUptoRow : OpenClaim := { program := "ytmcpjnaedgpenaa", sum := "bb7cb331c714747286f82b6b5f0d2c791029d9eb0fc3689578882dec2dd3b57b", func := "loop.example/planargeometry/laws.FnExactIsConvex", spec := "fnExactIsConvex", unfollowed := true, recurses := true, apart := false, narrowed := true }
def FnExactIsConvexUptoSaid : Prop := fnExactIsConvexUptoRow.holds Try.pinned (OpenSpec.upto fnExactIsConvexSpec)

/-- 'laws.FnExactDoubleArea', WHERE WHAT IT READS IS OF BULK AT MOST 1048576: true; the input reads as it did. -/
def fnExactDoubleAreaUptoRow : OpenClaim := { program := "ytmcpjnaedgpenaa", sum := "bb7cb331c714747286f82b6b5f0d2c791029d9eb0fc3689578882dec2dd3b57b", func := "loop.example/planargeometry/laws.FnExactDoubleArea", spec := "fnExactDoubleArea", unfollowed := true, recurses := true, apart := false, narrowed := true }
def FnExactDoubleAreaUptoSaid : Prop := fnExactDoubleAreaUptoRow.holds Try.pinned (OpenSpec.upto fnExactDoubleAreaSpec)

/-- 'laws.FnExactLocateConvex', WHERE WHAT IT READS IS OF BULK AT MOST 1048576: true; the input reads as it did. -/
def fnExactLocateConvexUptoRow : OpenClaim := { program := "ytmcpjnaedgpenaa", sum := "bb7cb331c714747286f82b6b5f0d2c791029d9eb0fc3689578882dec2dd3b57b", func := "loop.example/planargeometry/laws.FnExactLocateConvex", spec := "fnExactLocateConvex", unfollowed := true, recurses := true, apart := false, narrowed := true }
def FnExactLocateConvexUptoSaid : Prop := fnExactLocateConvexUptoRow.holds Try.pinned (OpenSpec.upto fnExactLocateConvexSpec)

/-- 'laws.FnExactLocate', WHERE WHAT IT READS IS OF BULK AT MOST 1048576: true; the input reads as it did. -/
def fnExactLocateUptoRow : OpenClaim := { program := "ytmcpjnaedgpenaa", sum := "bb7cb331c714747286f82b6b5f0d2c791029d9eb0fc3689578882dec2dd3b57b", func := "loop.example/planargeometry/laws.FnExactLocate", spec := "fnExactLocate", unfollowed := true, recurses := true, apart := false, narrowed := true }
def FnExactLocateUptoSaid : Prop := fnExactLocateUptoRow.holds Try.pinned (OpenSpec.upto fnExactLocateSpec)

/-- 'laws.FnExactBoundaryCount', WHERE WHAT IT READS IS OF BULK AT MOST 1048576: true; the input reads as it did. -/
def fnExactBoundaryCountUptoRow : OpenClaim := { program := "ytmcpjnaedgpenaa", sum := "bb7cb331c714747286f82b6b5f0d2c791029d9eb0fc3689578882dec2dd3b57b", func := "loop.example/planargeometry/laws.FnExactBoundaryCount", spec := "fnExactBoundaryCount", unfollowed := true, recurses := true, apart := false, narrowed := true }
def FnExactBoundaryCountUptoSaid : Prop := fnExactBoundaryCountUptoRow.holds Try.pinned (OpenSpec.upto fnExactBoundaryCountSpec)

/-- 'laws.FnExactInteriorCount', WHERE WHAT IT READS IS OF BULK AT MOST 1048576: true; the input reads as it did. -/
def fnExactInteriorCountUptoRow : OpenClaim := { program := "ytmcpjnaedgpenaa", sum := "bb7cb331c714747286f82b6b5f0d2c791029d9eb0fc3689578882dec2dd3b57b", func := "loop.example/planargeometry/laws.FnExactInteriorCount", spec := "fnExactInteriorCount", unfollowed := true, recurses := true, apart := false, narrowed := true }
def FnExactInteriorCountUptoSaid : Prop := fnExactInteriorCountUptoRow.holds Try.pinned (OpenSpec.upto fnExactInteriorCountSpec)

/-- 'laws.FnExactCanonical', WHERE WHAT IT READS IS OF BULK AT MOST 1048576: true; the input reads as it did. -/
def fnExactCanonicalUptoRow : OpenClaim := { program := "ytmcpjnaedgpenaa", sum := "bb7cb331c714747286f82b6b5f0d2c791029d9eb0fc3689578882dec2dd3b57b", func := "loop.example/planargeometry/laws.FnExactCanonical", spec := "fnExactCanonical", unfollowed := true, recurses := true, apart := false, narrowed := true }
def FnExactCanonicalUptoSaid : Prop := fnExactCanonicalUptoRow.holds Try.pinned (OpenSpec.upto fnExactCanonicalSpec)

/-- 'laws.FnExactIsDiagonal', WHERE WHAT IT READS IS OF BULK AT MOST 1048576: true; the input reads as it did. -/
def fnExactIsDiagonalUptoRow : OpenClaim := { program := "ytmcpjnaedgpenaa", sum := "bb7cb331c714747286f82b6b5f0d2c791029d9eb0fc3689578882dec2dd3b57b", func := "loop.example/planargeometry/laws.FnExactIsDiagonal", spec := "fnExactIsDiagonal", unfollowed := true, recurses := true, apart := false, narrowed := true }
def FnExactIsDiagonalUptoSaid : Prop := fnExactIsDiagonalUptoRow.holds Try.pinned (OpenSpec.upto fnExactIsDiagonalSpec)

end Rows
end Go.Proofs.Ytmcpjnaedgpenaa
