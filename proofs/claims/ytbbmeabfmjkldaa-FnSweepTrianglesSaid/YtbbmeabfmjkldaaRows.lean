/-
  No cell of these rows narrows 'for every input' (looked for: loops, veiled, ifaces, maps, wideKeys, modest, calm, conditions, laid).
  DERIVED. THE GIVEN ROWS OF THIS SEAT. 4 by the template 'for every input the law returns true; each argument reads behind the call as it read before'; 0 by the template 'total and deterministic' (their statements: YtbbmeabfmjkldaaTotals.lean).
  GIVEN WITH THE SEED: the statements are not yours to turn. If you find one false, say at which input.
  Laid BY PROGRAM, IN A SANDBOX (cutbox-rows.mjs): the forced cells as the released guide's own fill.sh prints them over the translation 346c8f672871ecfd… (all of the seat's roots in one cut). By AI agents, Wed Nov 11 2026. No macro, syntax, notation, axiom, sorry.
-/
import Derived.Test.YtbbmeabfmjkldaaChecked
import GoSem.Claim
import GoSem.ClaimJoined
import GoSem.ClaimMapViews
import Derived.JoinedTies
import Derived.KernelRfl
namespace Go.Proofs.Ytbbmeabfmjkldaa
/- THE CELL 'sum', in the pinned program and in every row, IS THE sha256 OF THE DUMP (.gsa) THAT YtbbmeabfmjkldaaProg.lean LOADS. Nothing in Lean hashes anything: it is a label: what it is worth is what the hold of that sum in a sandbox is worth. -/
noncomputable def Try.pinned : Pinned := { name := "ytbbmeabfmjkldaa", sum := "346c8f672871ecfdcb1c2fc550921fde76220c3b1169961e355cfb36f8300df3", checked := Try.checked }
namespace Rows
def none {H : Type} : Left H := { results := [], args := [] }

/-- 'laws.FnIsDelaunay': WHATEVER THE INPUT: true; the input reads as it did. -/
def fnIsDelaunaySpec : ChangeSpec := { name := "fnIsDelaunay", fn := fun _ => fun
  | [d1, d2] => { results := [.lit (.bool true)], args := [d1, d2] }
  | _ => none }
def fnIsDelaunayRow : OpenClaim := { program := "ytbbmeabfmjkldaa", sum := "346c8f672871ecfdcb1c2fc550921fde76220c3b1169961e355cfb36f8300df3", func := "loop.example/planargeometry/laws.FnIsDelaunay", spec := "fnIsDelaunay", unfollowed := true, recurses := true, apart := false }
def FnIsDelaunaySaid : Prop := fnIsDelaunayRow.holds Try.pinned (OpenSpec.ofChange fnIsDelaunaySpec)

/-- ITS FALSE NEIGHBOUR: 'it returns false'. Refute it at one input. -/
def fnIsDelaunayWrong : ChangeSpec := { name := "fnIsDelaunay", fn := fun _ => fun
  | [d1, d2] => { results := [.lit (.bool false)], args := [d1, d2] }
  | _ => none }
def FnIsDelaunayWrongFalsely : Prop := fnIsDelaunayRow.holds Try.pinned (OpenSpec.ofChange fnIsDelaunayWrong)

/-- 'laws.FnDelaunayTriangle': WHATEVER THE INPUT: true; the input reads as it did. -/
def fnDelaunayTriangleSpec : ChangeSpec := { name := "fnDelaunayTriangle", fn := fun _ => fun
  | [d] => { results := [.lit (.bool true)], args := [d] }
  | _ => none }
def fnDelaunayTriangleRow : OpenClaim := { program := "ytbbmeabfmjkldaa", sum := "346c8f672871ecfdcb1c2fc550921fde76220c3b1169961e355cfb36f8300df3", func := "loop.example/planargeometry/laws.FnDelaunayTriangle", spec := "fnDelaunayTriangle", unfollowed := true, recurses := true, apart := false }
def FnDelaunayTriangleSaid : Prop := fnDelaunayTriangleRow.holds Try.pinned (OpenSpec.ofChange fnDelaunayTriangleSpec)

/-- ITS FALSE NEIGHBOUR: 'it returns false'. Refute it at one input. -/
def fnDelaunayTriangleWrong : ChangeSpec := { name := "fnDelaunayTriangle", fn := fun _ => fun
  | [d] => { results := [.lit (.bool false)], args := [d] }
  | _ => none }
def FnDelaunayTriangleWrongFalsely : Prop := fnDelaunayTriangleRow.holds Try.pinned (OpenSpec.ofChange fnDelaunayTriangleWrong)

/-- 'laws.FnExactDelaunay': WHATEVER THE INPUT: true; the input reads as it did. -/
def fnExactDelaunaySpec : ChangeSpec := { name := "fnExactDelaunay", fn := fun _ => fun
  | [d] => { results := [.lit (.bool true)], args := [d] }
  | _ => none }
def fnExactDelaunayRow : OpenClaim := { program := "ytbbmeabfmjkldaa", sum := "346c8f672871ecfdcb1c2fc550921fde76220c3b1169961e355cfb36f8300df3", func := "loop.example/planargeometry/laws.FnExactDelaunay", spec := "fnExactDelaunay", unfollowed := true, recurses := true, apart := false }
def FnExactDelaunaySaid : Prop := fnExactDelaunayRow.holds Try.pinned (OpenSpec.ofChange fnExactDelaunaySpec)

/-- ITS FALSE NEIGHBOUR: 'it returns false'. Refute it at one input. -/
def fnExactDelaunayWrong : ChangeSpec := { name := "fnExactDelaunay", fn := fun _ => fun
  | [d] => { results := [.lit (.bool false)], args := [d] }
  | _ => none }
def FnExactDelaunayWrongFalsely : Prop := fnExactDelaunayRow.holds Try.pinned (OpenSpec.ofChange fnExactDelaunayWrong)

/-- 'laws.FnSweepTriangles': WHATEVER THE INPUT: true; the input reads as it did. -/
def fnSweepTrianglesSpec : ChangeSpec := { name := "fnSweepTriangles", fn := fun _ => fun
  | [d] => { results := [.lit (.bool true)], args := [d] }
  | _ => none }
def fnSweepTrianglesRow : OpenClaim := { program := "ytbbmeabfmjkldaa", sum := "346c8f672871ecfdcb1c2fc550921fde76220c3b1169961e355cfb36f8300df3", func := "loop.example/planargeometry/laws.FnSweepTriangles", spec := "fnSweepTriangles", unfollowed := true, recurses := true, apart := false }
def FnSweepTrianglesSaid : Prop := fnSweepTrianglesRow.holds Try.pinned (OpenSpec.ofChange fnSweepTrianglesSpec)

/-- ITS FALSE NEIGHBOUR: 'it returns false'. Refute it at one input. -/
def fnSweepTrianglesWrong : ChangeSpec := { name := "fnSweepTriangles", fn := fun _ => fun
  | [d] => { results := [.lit (.bool false)], args := [d] }
  | _ => none }
def FnSweepTrianglesWrongFalsely : Prop := fnSweepTrianglesRow.holds Try.pinned (OpenSpec.ofChange fnSweepTrianglesWrong)

/- THE SECOND FORM. 'bulk': how many values and letters a reading holds, each counted each time it is reached (what is shared counts as often as it is met; a slice's spare places count too). A statement '..UptoSaid' is the law's where the arguments, and the package variables that the reading takes, are together of bulk at most 1048576: NARROWER than '..Said'. Prove '..Said' where nothing that the law and all that it calls make is longer than what came in: it says more and counts as full. Else prove '..UptoSaid'. A law counts once. -/
mutual
def uptoBulk {H : Type} : DataW H → Nat
  | .lit (.string bytes) => bytes.length + 1
  | .lit _ => 1
  | .nil => 1
  | .ptr d => uptoBulk d + 1
  | .slice elems spare => uptoBulkAll elems + uptoBulkAll spare + 1
  | .agg parts => uptoBulkAll parts + 1
  | .iface _ d => uptoBulk d + 1
  | .map entries => uptoBulkEntries entries + 1
  | .held _ => 1
def uptoBulkAll {H : Type} : List (DataW H) → Nat
  | [] => 0
  | d :: r => uptoBulk d + uptoBulkAll r
def uptoBulkEntries {H : Type} : List (Lit × DataW H) → Nat
  | [] => 0
  | x :: r => uptoBulkEntry x + uptoBulkEntries r
def uptoBulkEntry {H : Type} : Lit × DataW H → Nat
  | (.string bytes, d) => bytes.length + uptoBulk d + 1
  | (_, d) => uptoBulk d + 1
 end
def uptoSmall : (H : Type) → List (DataW H) → Bool := fun _ ds => decide (uptoBulkAll ds ≤ 1048576)
def OpenSpec.upto (s : _root_.Go.ChangeSpec) : _root_.Go.OpenSpec := { _root_.Go.OpenSpec.ofChange s with cond := some uptoSmall }

/-- 'laws.FnIsDelaunay', WHERE WHAT IT READS IS OF BULK AT MOST 1048576: true; the input reads as it did. -/
def fnIsDelaunayUptoRow : OpenClaim := { program := "ytbbmeabfmjkldaa", sum := "346c8f672871ecfdcb1c2fc550921fde76220c3b1169961e355cfb36f8300df3", func := "loop.example/planargeometry/laws.FnIsDelaunay", spec := "fnIsDelaunay", unfollowed := true, recurses := true, apart := false, narrowed := true }
def FnIsDelaunayUptoSaid : Prop := fnIsDelaunayUptoRow.holds Try.pinned (OpenSpec.upto fnIsDelaunaySpec)

/-- 'laws.FnDelaunayTriangle', WHERE WHAT IT READS IS OF BULK AT MOST 1048576: true; the input reads as it did. -/
def fnDelaunayTriangleUptoRow : OpenClaim := { program := "ytbbmeabfmjkldaa", sum := "346c8f672871ecfdcb1c2fc550921fde76220c3b1169961e355cfb36f8300df3", func := "loop.example/planargeometry/laws.FnDelaunayTriangle", spec := "fnDelaunayTriangle", unfollowed := true, recurses := true, apart := false, narrowed := true }
def FnDelaunayTriangleUptoSaid : Prop := fnDelaunayTriangleUptoRow.holds Try.pinned (OpenSpec.upto fnDelaunayTriangleSpec)

/-- 'laws.FnExactDelaunay', WHERE WHAT IT READS IS OF BULK AT MOST 1048576: true; the input reads as it did. -/
def fnExactDelaunayUptoRow : OpenClaim := { program := "ytbbmeabfmjkldaa", sum := "346c8f672871ecfdcb1c2fc550921fde76220c3b1169961e355cfb36f8300df3", func := "loop.example/planargeometry/laws.FnExactDelaunay", spec := "fnExactDelaunay", unfollowed := true, recurses := true, apart := false, narrowed := true }
def FnExactDelaunayUptoSaid : Prop := fnExactDelaunayUptoRow.holds Try.pinned (OpenSpec.upto fnExactDelaunaySpec)

/-- 'laws.FnSweepTriangles', WHERE WHAT IT READS IS OF BULK AT MOST 1048576: true; the input reads as it did. -/
def fnSweepTrianglesUptoRow : OpenClaim := { program := "ytbbmeabfmjkldaa", sum := "346c8f672871ecfdcb1c2fc550921fde76220c3b1169961e355cfb36f8300df3", func := "loop.example/planargeometry/laws.FnSweepTriangles", spec := "fnSweepTriangles", unfollowed := true, recurses := true, apart := false, narrowed := true }
def FnSweepTrianglesUptoSaid : Prop := fnSweepTrianglesUptoRow.holds Try.pinned (OpenSpec.upto fnSweepTrianglesSpec)

end Rows
end Go.Proofs.Ytbbmeabfmjkldaa
