/- Contracts: edges and areas of polygons. -/
import Derived.Test.YtiadicmnbjaknaaB11
import Derived.Test.YtiadicmnbjaknaaBU
import Derived.Test.YtiadicmnbjaknaaBX
set_option linter.unusedVariables false
set_option linter.unusedSimpArgs false
namespace Go.Proofs.Ytiadicmnbjaknaa
open Go Go.Ideal Go.Pl Go.Sort

/-- The edge from the i-th vertex on. -/
def edgeP (l : List Pt) (i : Nat) : Qd := (pAt l i, pAt l ((i + 1) % l.length))
def edgesN (l : List Pt) (i : Nat) : List Qd := (List.range i).map (edgeP l)
def edgesP (l : List Pt) : List Qd := edgesN l l.length
theorem edgesN_len (l : List Pt) (i : Nat) : (edgesN l i).length = i := by simp [edgesN]
theorem edgesN_succ (l : List Pt) (i : Nat) : edgesN l (i + 1) = edgesN l i ++ [edgeP l i] := by simp [edgesN, List.range_succ]
theorem edgesP_at {l : List Pt} {i : Nat} (h : i < l.length) : qAt (edgesP l) i = edgeP l i := by simp [qAt, edgesP, edgesN, List.getD, h]
def areaN (l : List Pt) : Nat → Int
  | 0 => 0
  | i + 1 => areaN l i + crossP (pAt l i) (pAt l ((i + 1) % l.length))
/-- Twice the area. -/
def areaP (l : List Pt) : Int := areaN l l.length
theorem cross_bd {p q : Pt} (hp : Sm p) (hq : Sm q) : -20000000000 ≤ crossP p q ∧ crossP p q ≤ 20000000000 := by
  have h1 := mulb hp.1 hq.2
  have h2 := mulb hp.2 hq.1
  unfold crossP
  omega
theorem areaN_bd {l : List Pt} (hm : SmL l) : ∀ i : Nat, -(20000000000 * (i : Int)) ≤ areaN l i ∧ areaN l i ≤ 20000000000 * (i : Int)
  | 0 => by simp [areaN]
  | i + 1 => by
    have h1 := areaN_bd hm i
    have h2 := cross_bd (hm.at i) (hm.at ((i + 1) % l.length))
    rw [areaN]
    omega



/-- What HullArea gives. -/
def hareaP (l : List Pt) : Int := if okPs l then areaP (hullP l) else -1
theorem SmL.hull {l : List Pt} (h : SmL l) : SmL (hullP l) := fun p hp => h p (mem_hullP_sub hp)


end Go.Proofs.Ytiadicmnbjaknaa
