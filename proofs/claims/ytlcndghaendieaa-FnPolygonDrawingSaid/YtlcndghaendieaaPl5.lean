/- The farthest pair of points: two ways to look for it; the hull has the same distance. -/
import Derived.Test.YtlcndghaendieaaPl4
set_option linter.unusedVariables false
namespace Go.Pl

abbrev pA (l : List Pt) (i : Nat) : Pt := l.getD i (0, 0)
/-- The squared distance of the points at two places. -/
def dis (l : List Pt) (s : Nat × Nat) : Int := sqd (pA l s.1) (pA l s.2)
def fRow (l : List Pt) (i : Nat) (s : Nat × Nat) : Nat → Nat × Nat
  | 0 => s
  | m + 1 => if dis l (fRow l i s m) < dis l (i, i + 1 + m) then (i, i + 1 + m) else fRow l i s m
def fAll (l : List Pt) : Nat → Nat × Nat
  | 0 => (0, 0)
  | i + 1 => fRow l i (fAll l i) (l.length - (i + 1))
def farPair (l : List Pt) : Nat × Nat := fAll l l.length
def bRow (l : List Pt) (i : Nat) (s : (Nat × Nat) × Int) : Nat → (Nat × Nat) × Int
  | 0 => s
  | m + 1 => if (bRow l i s m).2 < 0 ∨ (bRow l i s m).2 < dis l (i, i + 1 + m) then ((i, i + 1 + m), dis l (i, i + 1 + m)) else bRow l i s m
def bAll (l : List Pt) : Nat → (Nat × Nat) × Int
  | 0 => ((0, 0), -1)
  | i + 1 => bRow l i (bAll l i) (l.length - (i + 1))

theorem dis_nonneg (l : List Pt) (s : Nat × Nat) : 0 ≤ dis l s := sqd_nonneg _ _
theorem dis_same (l : List Pt) (i : Nat) : dis l (i, i) = 0 := by unfold dis sqd; simp
def BF (l : List Pt) (s : Nat × Nat) (t : (Nat × Nat) × Int) : Prop := (t.2 ≤ 0 ∧ s = (0, 0)) ∨ (0 < t.2 ∧ t.1 = s ∧ t.2 = dis l s)
theorem row_BF {l : List Pt} {i : Nat} {s : Nat × Nat} {t : (Nat × Nat) × Int} (h : BF l s t) : ∀ m, BF l (fRow l i s m) (bRow l i t m)
  | 0 => h
  | m + 1 => by
    have ih := row_BF (i := i) h m
    have hn := dis_nonneg l (i, i + 1 + m)
    have h0 : dis l (0, 0) = 0 := dis_same l 0
    rw [fRow, bRow]
    generalize fRow l i s m = s' at *
    generalize bRow l i t m = t' at *
    rcases ih with ⟨h1, rfl⟩ | ⟨h1, h2, h3⟩
    · rw [h0]
      by_cases c : 0 < dis l (i, i + 1 + m)
      · rw [if_pos c, if_pos (by omega)]
        exact .inr ⟨c, rfl, rfl⟩
      · rw [if_neg c]
        split
        · exact .inl ⟨by simp only []; omega, rfl⟩
        · exact .inl ⟨h1, rfl⟩
    · by_cases c : dis l s' < dis l (i, i + 1 + m)
      · rw [if_pos c, if_pos (by omega)]
        exact .inr ⟨by simp only []; omega, rfl, rfl⟩
      · rw [if_neg c, if_neg (by omega)]
        exact .inr ⟨h1, h2, h3⟩
theorem all_BF (l : List Pt) : ∀ i, BF l (fAll l i) (bAll l i)
  | 0 => .inl ⟨by simp [bAll], rfl⟩
  | i + 1 => row_BF (all_BF l i) _

theorem fRow_ge (l : List Pt) (i : Nat) (s : Nat × Nat) : ∀ m, dis l s ≤ dis l (fRow l i s m) ∧ ∀ j, j < m → dis l (i, i + 1 + j) ≤ dis l (fRow l i s m)
  | 0 => ⟨Int.le_refl _, fun j h => by omega⟩
  | m + 1 => by
    obtain ⟨h1, h2⟩ := fRow_ge l i s m
    rw [fRow]
    split
    · refine ⟨by omega, fun j hj => ?_⟩
      rcases Nat.lt_succ_iff_lt_or_eq.1 hj with h | rfl
      · have := h2 j h; omega
      · exact Int.le_refl _
    · refine ⟨h1, fun j hj => ?_⟩
      rcases Nat.lt_succ_iff_lt_or_eq.1 hj with h | rfl
      · exact h2 j h
      · omega
theorem fAll_ge (l : List Pt) : ∀ n i k, i < n → i < k → k < l.length → dis l (i, k) ≤ dis l (fAll l n)
  | n + 1, i, k, hi, hk, hl => by
    obtain ⟨h1, h2⟩ := fRow_ge l n (fAll l n) (l.length - (n + 1))
    rw [fAll]
    rcases Nat.lt_succ_iff_lt_or_eq.1 hi with h | rfl
    · have := fAll_ge l n i k h hk hl; omega
    · have := h2 (k - (i + 1)) (by omega)
      rwa [show i + 1 + (k - (i + 1)) = k by omega] at this
theorem fRow_lt {l : List Pt} {i : Nat} {s : Nat × Nat} (hs : s.1 < l.length ∧ s.2 < l.length) : ∀ m, i + m < l.length → (fRow l i s m).1 < l.length ∧ (fRow l i s m).2 < l.length
  | 0, _ => hs
  | m + 1, h => by
    have ih := fRow_lt (i := i) hs m (by omega)
    rw [fRow]
    split
    · exact ⟨by simp only []; omega, by simp only []; omega⟩
    · exact ih
theorem fAll_lt {l : List Pt} (h0 : 0 < l.length) : ∀ n, n ≤ l.length → (fAll l n).1 < l.length ∧ (fAll l n).2 < l.length
  | 0, _ => ⟨h0, h0⟩
  | n + 1, h => fRow_lt (fAll_lt h0 n (by omega)) _ (by omega)
theorem farPair_lt {l : List Pt} (h0 : 0 < l.length) : (farPair l).1 < l.length ∧ (farPair l).2 < l.length := fAll_lt h0 _ (Nat.le_refl _)
theorem farPair_ge {l : List Pt} {i k : Nat} (hi : i < l.length) (hk : k < l.length) : dis l (i, k) ≤ dis l (farPair l) := by
  have h0 := dis_nonneg l (farPair l)
  rcases Nat.lt_trichotomy i k with h | rfl | h
  · exact fAll_ge l _ i k hi h hk
  · rw [dis_same]; exact h0
  · have := fAll_ge l _ k i hk h hi
    have e : dis l (i, k) = dis l (k, i) := sqd_comm _ _
    rw [e]; exact this
theorem mem_pA {l : List Pt} {p : Pt} (h : p ∈ l) : ∃ i, i < l.length ∧ pA l i = p := by
  obtain ⟨i, hi, rfl⟩ := List.getElem_of_mem h
  exact ⟨i, hi, by simp [pA, List.getD, hi]⟩
theorem pA_mem {l : List Pt} {i : Nat} (h : i < l.length) : pA l i ∈ l := by
  simp only [pA, List.getD, List.getElem?_eq_getElem h]
  exact List.getElem_mem h
theorem far_max {l : List Pt} {p q : Pt} (hp : p ∈ l) (hq : q ∈ l) : sqd p q ≤ dis l (farPair l) := by
  obtain ⟨i, hi, rfl⟩ := mem_pA hp
  obtain ⟨k, hk, rfl⟩ := mem_pA hq
  exact farPair_ge hi hk
theorem far_hull {l : List Pt} (h0 : 0 < l.length) : dis (hullP l) (farPair (hullP l)) = dis l (farPair l) := by
  have hh : 0 < (hullP l).length := by
    rcases Nat.eq_zero_or_pos (hullP l).length with h | h
    · have := hullP_nil.1 (List.length_eq_zero_iff.1 h)
      subst this; simp at h0
    · exact h
  obtain ⟨a1, a2⟩ := farPair_lt h0
  obtain ⟨b1, b2⟩ := farPair_lt hh
  refine Int.le_antisymm (far_max (mem_hullP_sub (pA_mem b1)) (mem_hullP_sub (pA_mem b2))) ?_
  obtain ⟨v, hv, k1, _⟩ := hull_far l (p := pA l (farPair l).2) (pA_mem a1)
  obtain ⟨w, hw, k2, _⟩ := hull_far l (p := v) (pA_mem a2)
  have h3 := far_max hw hv
  have h4 := sqd_comm v (pA l (farPair l).2)
  have h5 : dis l (farPair l) = sqd (pA l (farPair l).1) (pA l (farPair l).2) := rfl
  omega
/-- The ends of a farthest pair are vertices of the hull. -/
theorem far_ends {l : List Pt} (h0 : 0 < l.length) : pA l (farPair l).1 ∈ hullP l ∧ pA l (farPair l).2 ∈ hullP l := by
  obtain ⟨a1, a2⟩ := farPair_lt h0
  have h5 : dis l (farPair l) = sqd (pA l (farPair l).1) (pA l (farPair l).2) := rfl
  constructor
  · obtain ⟨v, hv, k1, k2⟩ := hull_far l (p := pA l (farPair l).2) (pA_mem a1)
    have := far_max (mem_hullP_sub hv) (pA_mem a2)
    rw [← k2 (by omega)]; exact hv
  · obtain ⟨v, hv, k1, k2⟩ := hull_far l (p := pA l (farPair l).1) (pA_mem a2)
    have := far_max (mem_hullP_sub hv) (pA_mem a1)
    have h6 := sqd_comm (pA l (farPair l).1) (pA l (farPair l).2)
    rw [← k2 (by omega)]; exact hv

end Go.Pl
