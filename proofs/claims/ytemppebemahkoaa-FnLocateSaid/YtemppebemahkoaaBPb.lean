/- Simple polygons turned round, reversed; where points lie. A copy of a part of BP: never import both. -/
import Derived.Test.YtemppebemahkoaaB21
import Derived.Test.YtemppebemahkoaaPl30
set_option linter.unusedVariables false
set_option linter.unusedSimpArgs false
namespace Go.Proofs.Ytemppebemahkoaa
open Go Go.Ideal Go.Pl Go.Sort

theorem okPs_subM {l m : List Pt} (h : okPs l = true) (hs : ∀ x ∈ m, x ∈ l) (hn : m.length ≤ l.length) : okPs m = true := by
  simp only [okPs, Bool.and_eq_true, List.all_eq_true, decide_eq_true_eq] at h ⊢
  exact ⟨fun x hx => h.1 x (hs x hx), by omega⟩
theorem okPs_perm {l m : List Pt} (h : m.Perm l) : okPs m = okPs l := by
  rw [Bool.eq_iff_iff]
  exact ⟨fun hk => okPs_subM hk (fun x hx => h.mem_iff.2 hx) (by rw [h.length_eq]; exact Nat.le_refl _), fun hk => okPs_subM hk (fun x hx => h.mem_iff.1 hx) (by rw [h.length_eq]; exact Nat.le_refl _)⟩
theorem ring_perm {l m : List Pt} (h : m.Perm l) : ringB m = ringB l := by
  rw [ringB, ringB, okPs_perm h, h.length_eq, insP_congr (fun x => h.mem_iff)]
theorem simp_rot {l : List Pt} {r : Nat} (hr : r < l.length) : simpB (rotP l r) = simpB l := by
  rw [simpB, simpB, ring_perm (rot_perm l r), rot_simple hr]
theorem simp_rev (l : List Pt) : simpB l.reverse = simpB l := by
  rw [simpB, simpB, ring_perm (List.reverse_perm l), rev_simple]
theorem edges_edgs (l : List Pt) : edgesP l = edgs l := rfl
theorem locB_rev (l : List Pt) (q : Pt) : locB l.reverse q = locB l q := by
  rw [locB, locB, simp_rev, edges_edgs, edges_edgs, loc_rev]
/-! where points lie -/
theorem loc_own {l : List Pt} (h : simpB l = true) {i : Nat} (hi : i < l.length) : locB l (pAt l i) = 0 := by
  obtain ⟨h1, h2, h3, h4⟩ := ring_facts (simp_ring h)
  have hk : okP (pAt l i) = true := by
    simp only [okPs, Bool.and_eq_true, List.all_eq_true] at h1
    exact h1.1 _ (by rw [pAt, List.getD, List.getElem?_eq_getElem hi]; exact List.getElem_mem hi)
  rw [locB, h, hk]
  show locR (pAt l i) (edgs l) false = 0
  refine loc_on.2 ⟨edP l i, List.mem_map.2 ⟨i, List.mem_range.2 hi, rfl⟩, ?_⟩
  have e : (edP l i).1 = pAt l i := rfl
  generalize edP l i = s at e
  rw [← e]
  unfold onS btw turn
  simp only [Bool.and_eq_true, decide_eq_true_eq, beq_iff_eq]
  refine ⟨?_, ?_⟩ <;> grind
/-- Is a point on one of the first edges? -/
def onN (l : List Pt) (q : Pt) (i : Nat) : Bool := ((edgs l).take i).any fun e => onS e q
theorem onN_succ {l : List Pt} {q : Pt} {i : Nat} (hi : i < l.length) : onN l q (i + 1) = (onN l q i || onS (edP l i) q) := by
  have hn : i < (edgs l).length := by simp [edgs, hi]
  have e : (edgs l)[i]? = some (edP l i) := by simp [edgs, hi]
  rw [onN, List.take_add_one, e, List.any_append, onN]
  simp
theorem onN_all {l : List Pt} {q : Pt} (h : simpB l = true) (hq : okP q = true) : onN l q l.length = (locB l q == 0) := by
  rw [locB, h, hq]
  show _ = (locR q (edgs l) false == 0)
  have hl : (edgs l).length = l.length := by simp [edgs]
  rw [onN, List.take_of_length_le (by omega), Bool.eq_iff_iff, beq_iff_eq, loc_on, List.any_eq_true]
theorem loc_out {l : List Pt} {q : Pt} (h : simpB l = true) (hq : okP q = true) (hr : ∀ i, i < l.length → (pAt l i).1 < q.1) : locB l q = -1 := by
  obtain ⟨h1, h2, h3, h4⟩ := ring_facts (simp_ring h)
  rw [locB, h, hq]
  show locR q (edgs l) false = -1
  refine loc_right (fun p hp => ?_) (by omega)
  obtain ⟨i, hi, e⟩ := List.mem_iff_getElem.1 hp
  have := hr i hi
  rw [pAt, List.getD, List.getElem?_eq_getElem hi, Option.getD_some, e] at this
  exact this
end Go.Proofs.Ytemppebemahkoaa
