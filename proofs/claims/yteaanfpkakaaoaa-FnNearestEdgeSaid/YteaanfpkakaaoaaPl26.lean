import Derived.Test.YteaanfpkakaaoaaPl11
/- Points in order: the first one off the line; a sweep that adds triangles. -/
set_option linter.unusedVariables false
set_option linter.unusedSimpArgs false
namespace Go.Pl

/-- Three points on one line. -/
theorem col_three {a b x y z : Pt} (hab : a ≠ b) (hx : turn a b x = 0) (hy : turn a b y = 0) (hz : turn a b z = 0) : turn x y z = 0 := by
  have e1 : (b.1 - a.1) * turn x y z = 0 := by
    have : (b.1 - a.1) * turn x y z = (y.1 - x.1) * (turn a b z - turn a b x) - (z.1 - x.1) * (turn a b y - turn a b x) := by unfold turn; grind
    rw [this, hx, hy, hz]; simp
  have e2 : (b.2 - a.2) * turn x y z = 0 := by
    have : (b.2 - a.2) * turn x y z = (y.2 - x.2) * (turn a b z - turn a b x) - (z.2 - x.2) * (turn a b y - turn a b x) := by unfold turn; grind
    rw [this, hx, hy, hz]; simp
  rcases Int.mul_eq_zero.1 e1 with h | h
  · rcases Int.mul_eq_zero.1 e2 with h2 | h2
    · exact absurd (Prod.ext (by omega) (by omega)) hab
    · exact h2
  · exact h
def col3 (l : List Pt) : Bool := (List.range l.length).all fun i => (List.range i).all fun k => (List.range k).all fun n => turn (pA l i) (pA l k) (pA l n) == 0
theorem col3_iff {l : List Pt} : col3 l = true ↔ ∀ i k n, n < k → k < i → i < l.length → turn (pA l i) (pA l k) (pA l n) = 0 := by
  simp only [col3, List.all_eq_true, List.mem_range, beq_iff_eq]
  exact ⟨fun h i k n h1 h2 h3 => h i h3 k h2 n h1, fun h i h3 k h2 n h1 => h i k n h1 h2 h3⟩
/-- Are the first n points on the line of the first two? -/
def onL (l : List Pt) (n : Nat) : Prop := ∀ i, i < n → turn (pA l 0) (pA l 1) (pA l i) = 0
theorem pA_take {l : List Pt} {n i : Nat} (h : i < n) : pA (l.take n) i = pA l i := by
  simp [pA, List.getD, List.getElem?_take, h]
theorem ne01 {l : List Pt} (h : Asc l) (h2 : 2 ≤ l.length) : pA l 0 ≠ pA l 1 := by
  unfold Asc at h
  rw [List.pairwise_iff_getElem] at h
  have := h 0 1 (by omega) (by omega) (by omega)
  have e0 : pA l 0 = l[0] := by simp [pA, List.getD, show 0 < l.length by omega]
  have e1 : pA l 1 = l[1] := by simp [pA, List.getD, show 1 < l.length by omega]
  rw [e0, e1]; exact ltP_ne this
theorem col_take {l : List Pt} (h : Asc l) {n : Nat} (h2 : 2 ≤ l.length) (hn : n ≤ l.length) : col3 (l.take n) = true ↔ onL l n := by
  have hne := ne01 h h2
  rw [col3_iff, List.length_take, Nat.min_eq_left hn]
  constructor
  · intro hc i hi
    rcases Nat.lt_or_ge i 2 with c | c
    · rcases Nat.eq_zero_or_pos i with z | z
      · subst z; unfold turn; grind
      · rw [show i = 1 by omega]; unfold turn; grind
    · have := hc i 1 0 (by omega) (by omega) hi
      rw [pA_take hi, pA_take (by omega), pA_take (by omega)] at this
      have e : turn (pA l 0) (pA l 1) (pA l i) = -turn (pA l i) (pA l 1) (pA l 0) := by unfold turn; grind
      omega
  · intro ho i k m h1 h2' h3
    rw [pA_take h3, pA_take (by omega), pA_take (by omega)]
    exact col_three hne (ho i h3) (ho k (by omega)) (ho m (by omega))
/-- All points on the line of the first and the last. -/
theorem coll_onL {l : List Pt} (h : Asc l) (h2 : 2 ≤ l.length) : (∀ i, i < l.length → turn (pA l 0) (pA l (l.length - 1)) (pA l i) = 0) ↔ onL l l.length := by
  have hne := ne01 h h2
  have hne2 : pA l 0 ≠ pA l (l.length - 1) := by
    unfold Asc at h
    rw [List.pairwise_iff_getElem] at h
    have := h 0 (l.length - 1) (by omega) (by omega) (by omega)
    have e0 : pA l 0 = l[0] := by simp [pA, List.getD, show 0 < l.length by omega]
    have e1 : pA l (l.length - 1) = l[l.length - 1] := by simp [pA, List.getD, show l.length - 1 < l.length by omega]
    rw [e0, e1]; exact ltP_ne this
  constructor
  · intro hc i hi
    exact col_three hne2 (hc 0 (by omega)) (hc 1 (by omega)) (hc i hi)
  · intro ho i hi
    exact col_three hne (ho 0 (by omega)) (ho _ (by omega)) (ho i hi)
/-- The first point off the line of the first two, if there is one. -/
theorem first_off {l : List Pt} (h2 : 2 ≤ l.length) : ∃ N, 2 ≤ N ∧ N ≤ l.length ∧ onL l N ∧ (N < l.length → turn (pA l 0) (pA l 1) (pA l N) ≠ 0) := by
  have key : ∀ k, 2 + k ≤ l.length → (∃ N, 2 ≤ N ∧ N ≤ 2 + k ∧ onL l N ∧ (N < 2 + k → turn (pA l 0) (pA l 1) (pA l N) ≠ 0)) := by
    intro k
    induction k with
    | zero =>
      intro _
      refine ⟨2, by omega, by omega, fun i hi => ?_, by omega⟩
      rcases Nat.eq_zero_or_pos i with z | z
      · subst z; unfold turn; grind
      · rw [show i = 1 by omega]; unfold turn; grind
    | succ k ih =>
      intro hk
      obtain ⟨N, h1, h2, h3, h4⟩ := ih (by omega)
      rcases Nat.lt_or_ge N (2 + k) with c | c
      · exact ⟨N, h1, by omega, h3, fun _ => h4 c⟩
      · have : N = 2 + k := by omega
        subst this
        by_cases z : turn (pA l 0) (pA l 1) (pA l (2 + k)) = 0
        · refine ⟨2 + k + 1, by omega, by omega, fun i hi => ?_, by omega⟩
          rcases Nat.lt_or_ge i (2 + k) with c | c
          · exact h3 i c
          · rw [show i = 2 + k by omega]; exact z
        · exact ⟨2 + k, by omega, by omega, h3, fun _ => z⟩
  obtain ⟨N, h1, h3, h4, h5⟩ := key (l.length - 2) (by omega)
  exact ⟨N, h1, by omega, h4, fun h => h5 (by omega)⟩

/-! the sweep -/
abbrev rA (r : List Nat) (i : Nat) : Nat := r.getD i 0
def seenB (l : List Pt) (r : List Nat) (n i : Nat) : Bool := decide (turn (pA l (rA r i)) (pA l (rA r ((i + 1) % r.length))) (pA l n) < 0)
abbrev T3 := Int × Int × Int
def triL (l : List Pt) (r : List Nat) (n : Nat) : Nat → List T3
  | 0 => []
  | i + 1 => triL l r n i ++ if seenB l r n i then [(((rA r ((i + 1) % r.length) : Nat) : Int), ((rA r i : Nat) : Int), ((n : Nat) : Int))] else []
def prvB (l : List Pt) (r : List Nat) (n i : Nat) : Bool := seenB l r n ((i + r.length - 1) % r.length)
def nxtL (l : List Pt) (r : List Nat) (n : Nat) : Nat → List Nat
  | 0 => []
  | i + 1 => (nxtL l r n i ++ if !prvB l r n i || !seenB l r n i then [rA r i] else []) ++ if !prvB l r n i && seenB l r n i then [n] else []
def swp (l : List Pt) (N : Nat) : Nat → List T3 × List Nat
  | 0 => ([], List.range N ++ (List.range (N - 2)).map fun i => N - 2 - i)
  | k + 1 => ((swp l N k).1 ++ triL l (swp l N k).2 (N + k) (swp l N k).2.length, nxtL l (swp l N k).2 (N + k) (swp l N k).2.length)
theorem triL_len (l : List Pt) (r : List Nat) (n : Nat) : ∀ i, (triL l r n i).length ≤ i
  | 0 => Nat.le_refl _
  | i + 1 => by
    have := triL_len l r n i
    rw [triL, List.length_append]
    split <;> simp <;> omega
theorem nxtL_len (l : List Pt) (r : List Nat) (n : Nat) : ∀ i, (nxtL l r n i).length ≤ 2 * i
  | 0 => Nat.le_refl _
  | i + 1 => by
    have := nxtL_len l r n i
    rw [nxtL, List.length_append, List.length_append]
    split <;> split <;> simp <;> omega
theorem nxtL_mem {l : List Pt} {r : List Nat} {n x : Nat} : ∀ i, i ≤ r.length → x ∈ nxtL l r n i → x ∈ r ∨ x = n
  | 0, _, h => by cases h
  | i + 1, hi, h => by
    rw [nxtL, List.mem_append, List.mem_append] at h
    rcases h with (h | h) | h
    · exact nxtL_mem i (by omega) h
    · split at h
      · rw [List.mem_singleton.1 h, rA, List.getD, List.getElem?_eq_getElem (by omega)]
        exact .inl (List.getElem_mem _)
      · cases h
    · split at h
      · exact .inr (List.mem_singleton.1 h)
      · cases h
theorem two_pow_bd {n : Nat} (h : 2 ≤ n) : 2 * n - 2 ≤ 2 ^ (n - 1) := by
  obtain ⟨k, rfl⟩ : ∃ k, n = k + 2 := ⟨n - 2, by omega⟩
  induction k with
  | zero => decide
  | succ k ih =>
    have := ih (by omega)
    rw [show k + 1 + 2 - 1 = (k + 2 - 1) + 1 by omega, Nat.pow_succ]
    omega
/-- So large they get, with such members. -/
theorem swp_bd {l : List Pt} {N : Nat} (hN : 2 ≤ N) : ∀ k, (swp l N k).2.length ≤ 2 ^ (N + k - 1) ∧ (swp l N k).1.length ≤ 2 ^ (N + k - 1) ∧ ∀ x ∈ (swp l N k).2, x < N + k
  | 0 => by
    have := two_pow_bd hN
    refine ⟨?_, by simp [swp], fun x hx => ?_⟩
    · simp only [swp, List.length_append, List.length_range, List.length_map, Nat.add_zero]; omega
    · simp only [swp, List.mem_append, List.mem_range, List.mem_map] at hx
      rcases hx with h | ⟨i, hi, rfl⟩ <;> omega
  | k + 1 => by
    obtain ⟨h1, h2, h3⟩ := swp_bd (l := l) hN k
    have e : 2 ^ (N + (k + 1) - 1) = 2 * 2 ^ (N + k - 1) := by
      rw [show N + (k + 1) - 1 = (N + k - 1) + 1 by omega, Nat.pow_succ, Nat.mul_comm]
    have t1 := triL_len l (swp l N k).2 (N + k) (swp l N k).2.length
    have t2 := nxtL_len l (swp l N k).2 (N + k) (swp l N k).2.length
    refine ⟨?_, ?_, fun x hx => ?_⟩
    · rw [e]; simp only [swp]; omega
    · rw [e]; simp only [swp, List.length_append]; omega
    · simp only [swp] at hx
      rcases nxtL_mem _ (Nat.le_refl _) hx with h | h
      · have := h3 x h; omega
      · omega
theorem pow_20 {n : Nat} (h : n ≤ 20) : 2 ^ (n - 1) ≤ 524288 := by
  have : 2 ^ (n - 1) ≤ 2 ^ 19 := Nat.pow_le_pow_right (by decide) (by omega)
  exact this
end Go.Pl
