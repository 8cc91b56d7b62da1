/- Contracts: what the exact laws do with lists of half-planes, segments, points of fractions. -/
import Derived.Test.YtjlcbomigbolcaaBY
import Derived.Test.YtjlcbomigbolcaaBU
set_option linter.unusedVariables false
set_option linter.unusedSimpArgs false
set_option maxRecDepth 100000
namespace Go.Proofs.Ytjlcbomigbolcaa
open Go Go.Ideal Go.Pl

theorem encQs_setZ (l : List Qd) (m : Nat) (p : Qd) : (encQs l).set m (.agg [.num .i64 p.1.1, .num .i64 p.1.2, .num .i64 p.2.1, .num .i64 p.2.2]) = encQs (l.set m p) := by
  show (l.map encQ).set m (encQ p) = (l.set m p).map encQ
  rw [List.map_set]
def szHalfPlaneV (l : List Tr) (left : Int) : Int := if left < (l.length : Int) then -1 else left - (l.length : Int)
/-- What a list is after it was marked from k on. -/
def marksT : Nat → Int → List Tr
  | 0, _ => []
  | n + 1, k => (k, k + 1, k + 2) :: marksT n (k + 3)
theorem marksT_len : ∀ n k, (marksT n k).length = n
  | 0, _ => rfl
  | n + 1, k => by simp [marksT, marksT_len n]
theorem marksT_at : ∀ n (k : Int) i, i < n → tAt (marksT n k) i = (k + 3 * i, k + 3 * i + 1, k + 3 * i + 2)
  | n + 1, k, 0, _ => by simp [marksT]
  | n + 1, k, i + 1, h => by
    have := marksT_at n (k + 3) i (by omega)
    simp only [marksT, tAt, List.getD, List.getElem?_cons_succ] at this ⊢
    rw [this]
    refine Prod.ext ?_ (Prod.ext ?_ ?_) <;> simp only [] <;> omega
def heldT : List Tr → Int → Int
  | [], k => k
  | p :: l, k => if p.1 = k ∧ p.2.1 = k + 1 ∧ p.2.2 = k + 2 then heldT l (k + 3) else -1
theorem heldT_marks : ∀ n k, heldT (marksT n k) k = k + 3 * (n : Int)
  | 0, k => by simp [marksT, heldT]
  | n + 1, k => by
    rw [marksT, heldT, if_pos ⟨rfl, rfl, rfl⟩, heldT_marks n]
    omega
theorem heldT_step {l : List Tr} {i : Nat} {k : Int} (hi : i < l.length) : heldT (l.drop i) k = if (tAt l i).1 = k ∧ (tAt l i).2.1 = k + 1 ∧ (tAt l i).2.2 = k + 2 then heldT (l.drop (i + 1)) (k + 3) else -1 := by
  rw [drop_eq_g (d := (0, 0, 0)) hi, heldT]

/-- What a list is after it was marked from k on. -/
def marksQ : Nat → Int → List Qd
  | 0, _ => []
  | n + 1, k => ((k, k + 1), (k + 2, k + 3)) :: marksQ n (k + 4)
theorem marksQ_len : ∀ n k, (marksQ n k).length = n
  | 0, _ => rfl
  | n + 1, k => by simp [marksQ, marksQ_len n]
theorem marksQ_at : ∀ n (k : Int) i, i < n → qAt (marksQ n k) i = ((k + 4 * i, k + 4 * i + 1), (k + 4 * i + 2, k + 4 * i + 3))
  | n + 1, k, 0, _ => by simp [marksQ]
  | n + 1, k, i + 1, h => by
    have := marksQ_at n (k + 4) i (by omega)
    simp only [marksQ, qAt, List.getD, List.getElem?_cons_succ] at this ⊢
    rw [this]
    refine Prod.ext (Prod.ext ?_ ?_) (Prod.ext ?_ ?_) <;> simp only [] <;> omega
def heldQ : List Qd → Int → Int
  | [], k => k
  | p :: l, k => if p.1.1 = k ∧ p.1.2 = k + 1 ∧ p.2.1 = k + 2 ∧ p.2.2 = k + 3 then heldQ l (k + 4) else -1
theorem heldQ_marks : ∀ n k, heldQ (marksQ n k) k = k + 4 * (n : Int)
  | 0, k => by simp [marksQ, heldQ]
  | n + 1, k => by
    rw [marksQ, heldQ, if_pos ⟨rfl, rfl, rfl, rfl⟩, heldQ_marks n]
    omega
theorem heldQ_step {l : List Qd} {i : Nat} {k : Int} (hi : i < l.length) : heldQ (l.drop i) k = if (qAt l i).1.1 = k ∧ (qAt l i).1.2 = k + 1 ∧ (qAt l i).2.1 = k + 2 ∧ (qAt l i).2.2 = k + 3 then heldQ (l.drop (i + 1)) (k + 4) else -1 := by
  rw [drop_eq_g (d := ((0, 0), (0, 0))) hi, heldQ]





end Go.Proofs.Ytjlcbomigbolcaa
