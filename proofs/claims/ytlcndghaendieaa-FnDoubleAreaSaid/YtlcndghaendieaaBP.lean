/- Simple polygons turned round, reversed, moved. -/
import Derived.Test.YtlcndghaendieaaB21
import Derived.Test.YtlcndghaendieaaBM
import Derived.Test.YtlcndghaendieaaPl30
set_option linter.unusedVariables false
set_option linter.unusedSimpArgs false
namespace Go.Proofs.Ytlcndghaendieaa
open Go Go.Ideal Go.Pl Go.Sort

theorem okPs_perm {l m : List Pt} (h : m.Perm l) : okPs m = okPs l := by
  rw [Bool.eq_iff_iff]
  exact ⟨fun hk => okPs_subM hk (fun x hx => h.mem_iff.2 hx) (by rw [h.length_eq]; exact Nat.le_refl _), fun hk => okPs_subM hk (fun x hx => h.mem_iff.1 hx) (by rw [h.length_eq]; exact Nat.le_refl _)⟩
theorem ring_perm {l m : List Pt} (h : m.Perm l) : ringB m = ringB l := by
  rw [ringB, ringB, okPs_perm h, h.length_eq, insP_congr (fun x => h.mem_iff)]
theorem simp_rot {l : List Pt} {r : Nat} (hr : r < l.length) : simpB (rotP l r) = simpB l := by
  rw [simpB, simpB, ring_perm (rot_perm l r), rot_simple hr]
theorem simp_rev (l : List Pt) : simpB l.reverse = simpB l := by
  rw [simpB, simpB, ring_perm (List.reverse_perm l), rev_simple]
theorem simp_mv {l : List Pt} (hn : l.all nearB = true) {dx dy : Int} (hx : -100 ≤ dx ∧ dx ≤ 100) (hy : -100 ≤ dy ∧ dy ≤ 100) : simpB (l.map (mv dx dy)) = simpB l := by
  have h1 : okPs (l.map (mv dx dy)) = okPs l := by
    rw [Bool.eq_iff_iff]
    constructor
    · intro h
      simp only [okPs, Bool.and_eq_true, List.all_eq_true, decide_eq_true_eq, List.length_map] at h hn ⊢
      refine ⟨fun x hxm => ?_, h.2⟩
      have := hn x hxm
      simp only [nearB, Bool.and_eq_true, Bool.not_eq_true', decide_eq_false_iff_not] at this
      simp only [okP, inR, Bool.and_eq_true, decide_eq_true_eq]
      omega
    · intro h; exact okPs_mv h hn hx hy
  have h2 : (insP (l.map (mv dx dy))).length = (insP l).length := by rw [insP_mv, List.length_map]
  rw [simpB, simpB, ringB, ringB, h1, List.length_map, h2, mv_simple]
theorem edges_edgs (l : List Pt) : edgesP l = edgs l := rfl
theorem locB_rev (l : List Pt) (q : Pt) : locB l.reverse q = locB l q := by
  rw [locB, locB, simp_rev, edges_edgs, edges_edgs, loc_rev]
def gcdE (e : Sg) : Int := ((Int.gcd (e.2.1 - e.1.1) (e.2.2 - e.1.2) : Nat) : Int)
theorem latt_sum (l : List Pt) : lattP l = sumE gcdE (edgs l) := by
  have key : ∀ n, lattN l n = sumE gcdE ((List.range n).map (edP l)) := by
    intro n
    induction n with
    | zero => rfl
    | succ n ih =>
      rw [lattN, ih, List.range_succ, List.map_append, sumE_app]
      simp only [List.map_cons, List.map_nil, sumE, gcdE]
      omega
  exact key _
theorem latt_rot {l : List Pt} {r : Nat} (hr : r < l.length) : lattP (rotP l r) = lattP l := by
  rw [latt_sum, latt_sum, sumE_perm (rot_edgs hr)]
theorem gcdE_sw (e : Sg) : gcdE (swS e) = gcdE e := by
  unfold gcdE swS
  simp only []
  rw [show e.1.1 - e.2.1 = -(e.2.1 - e.1.1) by omega, show e.1.2 - e.2.2 = -(e.2.2 - e.1.2) by omega, Int.gcd_neg, Int.neg_gcd]
theorem latt_rev (l : List Pt) : lattP l.reverse = lattP l := by
  rw [latt_sum, latt_sum, sumE_perm (rev_edgs l), sumE_map (g := gcdE) gcdE_sw]
theorem bc_rot {l : List Pt} {r : Nat} (hr : r < l.length) : bcP (rotP l r) = bcP l := by rw [bcP, bcP, simp_rot hr, latt_rot hr]
theorem bc_rev (l : List Pt) : bcP l.reverse = bcP l := by rw [bcP, bcP, simp_rev, latt_rev]
theorem latt_ge {l : List Pt} (hn : l.Nodup) (h2 : 2 ≤ l.length) : (l.length : Int) ≤ lattP l := by
  have key : ∀ n, n ≤ l.length → (n : Int) ≤ lattN l n := by
    intro n
    induction n with
    | zero => intro _; exact Int.le_refl _
    | succ n ih =>
      intro hl
      have h1 := ih (by omega)
      have h3 := ed_ne hn h2 (show n < l.length by omega)
      have h4 : 0 < Int.gcd ((edP l n).2.1 - (edP l n).1.1) ((edP l n).2.2 - (edP l n).1.2) := by
        rw [Nat.pos_iff_ne_zero]
        intro h0
        rw [Int.gcd_eq_zero_iff] at h0
        exact h3 (Prod.ext (by omega) (by omega))
      rw [lattN]; omega
  exact key _ (Nat.le_refl _)
theorem bc_ge {l : List Pt} (h : simpB l = true) : (l.length : Int) ≤ bcP l ∧ 3 ≤ l.length := by
  obtain ⟨h1, h2, h3, h4⟩ := ring_facts (simp_ring h)
  rw [bcP, h]
  exact ⟨latt_ge h4 (by omega), h2⟩

/-! where points lie -/
theorem loc_own {l : List Pt} (h : simpB l = true) {i : Nat} (hi : i < l.length) : locB l (pAt l i) = 0 := by
  obtain ⟨h1, h2, h3, h4⟩ := ring_facts (simp_ring h)
  have hk : okP (pAt l i) = true := by
    simp only [okPs, Bool.and_eq_true, List.all_eq_true] at h1
    exact h1.1 _ (by rw [pAt, List.getD, List.getElem?_eq_getElem hi]; exact List.getElem_mem hi)
  rw [locB, h, hk]
  show locR (pAt l i) (edgs l) false = 0
  refine loc_on.2 ⟨edP l i, List.mem_map.2 ⟨i, List.mem_range.2 hi, rfl⟩, ?_⟩
  have e : (edP l i).1 = pAt l i := rfl
  generalize edP l i = s at e
  rw [← e]
  unfold onS btw turn
  simp only [Bool.and_eq_true, decide_eq_true_eq, beq_iff_eq]
  refine ⟨?_, ?_⟩ <;> grind
/-- Is a point on one of the first edges? -/
def onN (l : List Pt) (q : Pt) (i : Nat) : Bool := ((edgs l).take i).any fun e => onS e q
theorem onN_succ {l : List Pt} {q : Pt} {i : Nat} (hi : i < l.length) : onN l q (i + 1) = (onN l q i || onS (edP l i) q) := by
  have hn : i < (edgs l).length := by simp [edgs, hi]
  have e : (edgs l)[i]? = some (edP l i) := by simp [edgs, hi]
  rw [onN, List.take_add_one, e, List.any_append, onN]
  simp
theorem onN_all {l : List Pt} {q : Pt} (h : simpB l = true) (hq : okP q = true) : onN l q l.length = (locB l q == 0) := by
  rw [locB, h, hq]
  show _ = (locR q (edgs l) false == 0)
  have hl : (edgs l).length = l.length := by simp [edgs]
  rw [onN, List.take_of_length_le (by omega), Bool.eq_iff_iff, beq_iff_eq, loc_on, List.any_eq_true]
theorem loc_out {l : List Pt} {q : Pt} (h : simpB l = true) (hq : okP q = true) (hr : ∀ i, i < l.length → (pAt l i).1 < q.1) : locB l q = -1 := by
  obtain ⟨h1, h2, h3, h4⟩ := ring_facts (simp_ring h)
  rw [locB, h, hq]
  show locR q (edgs l) false = -1
  refine loc_right (fun p hp => ?_) (by omega)
  obtain ⟨i, hi, e⟩ := List.mem_iff_getElem.1 hp
  have := hr i hi
  rw [pAt, List.getD, List.getElem?_eq_getElem hi, Option.getD_some, e] at this
  exact this
end Go.Proofs.Ytlcndghaendieaa
