/- Triangles: simple polygons, their areas and hulls. -/
import Derived.Test.YtlcndghaendieaaPl10
set_option linter.unusedVariables false
namespace Go.Pl

theorem tri_ne {a b c : Pt} (h : turn a b c ≠ 0) : a ≠ b ∧ b ≠ c ∧ a ≠ c := by
  refine ⟨?_, ?_, ?_⟩ <;> (rintro rfl; apply h; unfold turn; grind)
theorem tri_nodup {a b c : Pt} (h : turn a b c ≠ 0) : [a, b, c].Nodup := by
  obtain ⟨h1, h2, h3⟩ := tri_ne h
  simp [h1, h2, h3]
theorem ins_len_nodup {l : List Pt} (h : l.Nodup) : (insP l).length = l.length :=
  Nat.le_antisymm (insP_len l) (nodup_len_le h fun x hx => mem_insP.2 hx)
theorem off_line {s : Sg} {p : Pt} (h : turn s.1 s.2 p ≠ 0) : onS s p = false := by
  unfold onS
  rw [show (turn s.1 s.2 p == 0) = false by simpa using h, Bool.false_and]
/-- Two sides of a triangle have one common end. -/
theorem ends_one {x y z : Pt} (h : turn x y z ≠ 0) : (endsP (y, z) (x, y)).length ≤ 1 := by
  have h2 : turn y z x ≠ 0 := by rw [turn_cyc]; exact h
  have hz : onS (x, y) z = false := off_line h
  have hx : onS (y, z) x = false := off_line h2
  have hall : ∀ p ∈ endsP (y, z) (x, y), p ∈ [y] := by
    intro p hp
    rw [endsP, mem_insP] at hp
    simp only [List.mem_filter, List.mem_cons, List.not_mem_nil, or_false, Bool.and_eq_true] at hp
    obtain ⟨h1 | h1 | h1 | h1, h3, h4⟩ := hp
    · simp [h1]
    · subst h1; rw [hz] at h4; cases h4
    · subst h1; rw [hx] at h3; cases h3
    · simp [h1]
  exact nodup_len_le (nodup_insP _) hall
theorem ends_comm (s t : Sg) : endsP s t = endsP t s := by
  unfold endsP
  refine insP_congr fun x => ?_
  simp only [List.mem_filter, List.mem_cons, List.not_mem_nil, or_false, Bool.and_eq_true]
  constructor
  · rintro ⟨h1 | h1 | h1 | h1, h2, h3⟩ <;> simp [h1, h2, h3] <;> (subst h1; exact ⟨h3, h2⟩)
  · rintro ⟨h1 | h1 | h1 | h1, h2, h3⟩ <;> simp [h1, h2, h3] <;> (subst h1; exact ⟨h3, h2⟩)
theorem rel_ne3 {s t : Sg} (h : (endsP s t).length ≤ 1) : (relP s t != 3) = true := by
  unfold relP
  rw [if_neg (by omega)]
  split
  · rfl
  · split <;> rfl
theorem tri_pairs {a b c : Pt} (h : turn a b c ≠ 0) : pairsP [a, b, c] = true := by
  have hb : turn b c a ≠ 0 := by rw [turn_cyc]; exact h
  have hc : turn c a b ≠ 0 := by rw [turn_cyc]; exact hb
  rw [pairs_iff]
  intro i hi k hk
  simp only [List.length_cons, List.length_nil] at hi
  have e0 : edP [a, b, c] 0 = (a, b) := by simp [edP, pA]
  have e1 : edP [a, b, c] 1 = (b, c) := by simp [edP, pA]
  have e2 : edP [a, b, c] 2 = (c, a) := by simp [edP, pA]
  have hcase : (i = 1 ∧ k = 0) ∨ (i = 2 ∧ k = 0) ∨ (i = 2 ∧ k = 1) := by omega
  rcases hcase with ⟨rfl, rfl⟩ | ⟨rfl, rfl⟩ | ⟨rfl, rfl⟩
  · rw [e1, e0]; rw [okS, show nextB ([a, b, c] : List Pt).length 1 0 = true by simp [nextB]]; exact rel_ne3 (ends_one h)
  · rw [e2, e0]; rw [okS, show nextB ([a, b, c] : List Pt).length 2 0 = true by simp [nextB]]; exact rel_ne3 (by rw [ends_comm]; exact ends_one hc)
  · rw [e2, e1]; rw [okS, show nextB ([a, b, c] : List Pt).length 2 1 = true by simp [nextB]]; exact rel_ne3 (ends_one hb)
theorem tri_lefts {a b c : Pt} : leftsP [a, b, c] = decide (0 < turn a b c) := by
  rw [Bool.eq_iff_iff, lefts_iff, decide_eq_true_eq]
  have t0 : turnAt [a, b, c] 0 = turn a b c := by simp [turnAt, pA]
  have t1 : turnAt [a, b, c] 1 = turn a b c := by
    have : turnAt [a, b, c] 1 = turn b c a := by simp [turnAt, pA]
    rw [this, turn_cyc]
  have t2 : turnAt [a, b, c] 2 = turn a b c := by
    have : turnAt [a, b, c] 2 = turn c a b := by simp [turnAt, pA]
    rw [this, turn_cyc, turn_cyc]
  constructor
  · intro h; rw [← t0]; exact h 0 (by simp)
  · intro h i hi
    simp only [List.length_cons, List.length_nil] at hi
    have hcase : i = 0 ∨ i = 1 ∨ i = 2 := by omega
    rcases hcase with rfl | rfl | rfl
    · rw [t0]; exact h
    · rw [t1]; exact h
    · rw [t2]; exact h
theorem tri_far {a b c : Pt} (h : turn a b c ≠ 0) : a ∈ hullP [a, b, c] := by
  have hb : turn b c a = turn a b c := turn_cyc a b c
  have key : ∀ s : Int, 0 < s * turn b c a → a ∈ hullP [a, b, c] := by
    intro s hs
    obtain ⟨v, hv, hle⟩ := hullP_sup [a, b, c] (-(s * (c.2 - b.2))) (s * (c.1 - b.1)) (q := a) (by simp)
    have hm := mem_hullP_sub hv
    have l1 : lin (-(s * (c.2 - b.2))) (s * (c.1 - b.1)) a = lin (-(s * (c.2 - b.2))) (s * (c.1 - b.1)) b + s * turn b c a := by unfold lin turn; grind
    have l2 : lin (-(s * (c.2 - b.2))) (s * (c.1 - b.1)) c = lin (-(s * (c.2 - b.2))) (s * (c.1 - b.1)) b := by unfold lin; grind
    simp only [List.mem_cons, List.not_mem_nil, or_false] at hm
    rcases hm with rfl | rfl | rfl
    · exact hv
    · omega
    · omega
  rw [hb] at key
  rcases Int.lt_or_gt_of_ne h with h1 | h1
  · exact key (-1) (by omega)
  · exact key 1 (by omega)
theorem tri_hull {a b c : Pt} (h : turn a b c ≠ 0) : (hullP [a, b, c]).length = 3 := by
  have hb : turn b c a ≠ 0 := by rw [turn_cyc]; exact h
  have hc : turn c a b ≠ 0 := by rw [turn_cyc]; exact hb
  have h1 := tri_far h
  have h2 : b ∈ hullP [a, b, c] := by
    rw [hullP_congr (m := [b, c, a]) (fun x => by simp; grind)]; exact tri_far hb
  have h3 : c ∈ hullP [a, b, c] := by
    rw [hullP_congr (m := [c, a, b]) (fun x => by simp; grind)]; exact tri_far hc
  refine Nat.le_antisymm (hullP_len _) ?_
  refine nodup_len_le (a := [a, b, c]) (tri_nodup h) ?_
  intro x hx
  simp only [List.mem_cons, List.not_mem_nil, or_false] at hx
  rcases hx with rfl | rfl | rfl
  · exact h1
  · exact h2
  · exact h3
end Go.Pl
