/- Hulls are simple convex polygons. -/
import Derived.Test.YtjlcbomigbolcaaB12
import Derived.Test.YtjlcbomigbolcaaB21
import Derived.Test.YtjlcbomigbolcaaPl23
set_option linter.unusedVariables false
set_option linter.unusedSimpArgs false
namespace Go.Proofs.Ytjlcbomigbolcaa
open Go Go.Ideal Go.Pl Go.Sort

theorem hull_cvx {l : List Pt} (hk : okPs l = true) (h3 : 3 ≤ (hullP l).length) : simpB (hullP l) = true ∧ leftsP (hullP l) = true := by
  have hs : Strict (hullP l) := hullP_Strict (by omega)
  have ho : okPs (hullP l) = true := okPs_sub hk (fun x hx => mem_hullP_sub hx) (hullP_len l)
  have hl := hullP_len l
  have h20 : l.length ≤ 20 := by
    simp only [okPs, Bool.and_eq_true, decide_eq_true_eq] at hk; omega
  refine ⟨?_, strict_lefts h3 hs⟩
  have hn : (insP (hullP l)).length = (hullP l).length := ins_len_nodup (hullP_nodup l)
  have hr : inR ((hullP l).length : Int) 3 20 = true := by
    simp only [inR, Bool.and_eq_true, decide_eq_true_eq]; omega
  simp only [simpB, ringB, ho, hr, hn, strict_pairs h3 hs, Bool.and_true, beq_self_eq_true]
theorem least_in {h : List Pt} {q : Pt} : ∀ n, (∀ i, i < n → 0 ≤ turn (edP h i).1 (edP h i).2 q) → 0 ≤ leastN h q n
  | 0, _ => by simp [leastN]
  | n + 1, hq => by
    have h1 := least_in n (fun i hi => hq i (by omega))
    have h2 := hq n (by omega)
    have h3 : 0 ≤ sgnI (turn (edP h n).1 (edP h n).2 q) := by unfold sgnI; split <;> (try split) <;> omega
    rw [leastN]; omega
theorem hull_has {l : List Pt} (h3 : 3 ≤ (hullP l).length) {q : Pt} (hq : q ∈ l) : 0 ≤ lcB (hullP l) q := by
  unfold lcB
  cases cvxB (hullP l) && okP q with
  | false => simp
  | true => exact least_in _ fun i hi => hullP_edge (by omega) hi hq
theorem area_sum (h : List Pt) : ∀ i, areaN h i = sumN h i
  | 0 => rfl
  | i + 1 => by rw [areaN, sumN, area_sum h i]; rfl
end Go.Proofs.Ytjlcbomigbolcaa
