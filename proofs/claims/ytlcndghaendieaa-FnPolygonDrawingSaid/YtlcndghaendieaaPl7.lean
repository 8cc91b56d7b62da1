/- Simple polygons: two ways to ask. -/
import Derived.Test.YtlcndghaendieaaPl6
set_option linter.unusedVariables false
namespace Go.Pl

theorem nodup_of_ins : ∀ {l : List Pt}, (insP l).length = l.length → l.Nodup
  | [], _ => List.nodup_nil
  | x :: r, h => by
    have hx : x ∉ r := by
      intro hx
      have : insP (x :: r) = insP r := insP_congr fun y => by
        simp only [List.mem_cons]
        constructor
        · rintro (rfl | h)
          · exact hx
          · exact h
        · exact .inr
      rw [this] at h
      have := insP_len r
      simp at h
      omega
    have h1 : (insP (x :: r)).length ≤ (x :: insP r).length := nodup_len_le (nodup_insP _) fun y hy => by
      rw [mem_insP, List.mem_cons] at hy
      rw [List.mem_cons, mem_insP]
      exact hy
    have h2 := insP_len r
    simp only [List.length_cons] at h h1
    exact List.nodup_cons.2 ⟨hx, nodup_of_ins (by omega)⟩
theorem pA_inj {l : List Pt} (h : l.Nodup) {i k : Nat} (hi : i < l.length) (hk : k < l.length) (e : pA l i = pA l k) : i = k := by
  simp only [pA, List.getD, List.getElem?_eq_getElem hi, List.getElem?_eq_getElem hk, Option.getD_some] at e
  exact (List.getElem_inj h).1 e

/-- The edge from the i-th vertex on. -/
def edP (l : List Pt) (i : Nat) : Sg := (pA l i, pA l ((i + 1) % l.length))
theorem mod_ne {i n : Nat} (h2 : 2 ≤ n) (hi : i < n) : (i + 1) % n ≠ i := by
  rcases Nat.lt_or_ge (i + 1) n with h | h
  · rw [Nat.mod_eq_of_lt h]; omega
  · have : i + 1 = n := by omega
    rw [this, Nat.mod_self]; omega
theorem ed_ne {l : List Pt} (h : l.Nodup) (h2 : 2 ≤ l.length) {i : Nat} (hi : i < l.length) : (edP l i).1 ≠ (edP l i).2 := by
  intro e
  have := pA_inj h hi (Nat.mod_lt _ (by omega)) e
  exact mod_ne h2 hi this.symm
/-- Is the i-th edge next to the k-th one? -/
def nextB (n i k : Nat) : Bool := decide (k + 1 = i) || decide ((i + 1) % n = k)
def okS (n i k : Nat) (r : Int) : Bool := bif nextB n i k then r != 3 else r == 0
def okI (n i k : Nat) (r : Int) : Bool := r == (if i - k = 1 ∨ i - k = n - 1 then 1 else 0)
theorem next_iff {n i k : Nat} (hk : k < i) (hi : i < n) : nextB n i k = true ↔ i - k = 1 ∨ i - k = n - 1 := by
  simp only [nextB, Bool.or_eq_true, decide_eq_true_eq]
  rcases Nat.lt_or_ge (i + 1) n with h | h
  · rw [Nat.mod_eq_of_lt h]; omega
  · have : i + 1 = n := by omega
    rw [this, Nat.mod_self]; omega
theorem ends_pos {s t : Sg} {p : Pt} (hp : p = s.1 ∨ p = s.2) (hs : onS s p = true) (ht : onS t p = true) : 1 ≤ (endsP s t).length := by
  have : p ∈ endsP s t := by
    rw [endsP, mem_insP, List.mem_filter]
    refine ⟨?_, by rw [hs, ht]; rfl⟩
    rcases hp with rfl | rfl <;> simp
  exact List.length_pos_of_mem this
theorem rel_next {l : List Pt} {i k : Nat} (hk : k < i) (hi : i < l.length) (h : nextB l.length i k = true) : relP (edP l i) (edP l k) = 1 ∨ relP (edP l i) (edP l k) = 3 := by
  have h1 : 1 ≤ (endsP (edP l i) (edP l k)).length := by
    simp only [nextB, Bool.or_eq_true, decide_eq_true_eq] at h
    rcases h with h | h
    · refine ends_pos (p := (edP l i).1) (.inl rfl) (onS_1 _) ?_
      have : (edP l i).1 = (edP l k).2 := by
        simp only [edP]
        rw [h, Nat.mod_eq_of_lt hi]
      rw [this]; exact onS_2 _
    · refine ends_pos (p := (edP l i).2) (.inr rfl) (onS_2 _) ?_
      have : (edP l i).2 = (edP l k).1 := by simp only [edP]; rw [h]
      rw [this]; exact onS_1 _
  unfold relP
  split
  · exact .inr rfl
  · rw [if_pos (by omega)]; exact .inl rfl
theorem ok_same {l : List Pt} {i k : Nat} (hk : k < i) (hi : i < l.length) : okI l.length i k (relP (edP l i) (edP l k)) = okS l.length i k (relP (edP l i) (edP l k)) := by
  unfold okI okS
  cases hn : nextB l.length i k with
  | true =>
    rw [if_pos ((next_iff hk hi).1 hn)]
    rcases rel_next hk hi hn with h | h <;> rw [h] <;> rfl
  | false =>
    rw [if_neg (fun h => by rw [(next_iff hk hi).2 h] at hn; cases hn)]
    rfl
/-- Do all pairs of edges lie as they should? -/
def pairsP (l : List Pt) : Bool := (List.range l.length).all fun i => (List.range i).all fun k => okS l.length i k (relP (edP l i) (edP l k))
theorem pairs_iff {l : List Pt} : pairsP l = true ↔ ∀ i, i < l.length → ∀ k, k < i → okS l.length i k (relP (edP l i) (edP l k)) = true := by
  simp only [pairsP, List.all_eq_true, List.mem_range]
theorem pairs_no {l : List Pt} {i k : Nat} (hi : i < l.length) (hk : k < i) (h : okS l.length i k (relP (edP l i) (edP l k)) = false) : pairsP l = false := by
  cases hp : pairsP l with
  | false => rfl
  | true => rw [pairs_iff.1 hp i hi k hk] at h; cases h

/-! where a point is of a polygon -/
/-- Does the edge cross the ray from a point? -/
def rayP (e : Sg) (q : Pt) : Bool :=
  let f : Sg := if e.2.2 < e.1.2 then (e.2, e.1) else e
  decide (f.1.2 ≤ q.2) && decide (q.2 < f.2.2) && decide (0 < turn f.1 f.2 q)
def locR (q : Pt) : List Sg → Bool → Int
  | [], b => if b then 1 else -1
  | e :: r, b => if onS e q then 0 else locR q r (b ^^ rayP e q)
end Go.Pl
