import Derived.Test.YtlcndghaendieaaPl22
import Derived.Test.YtlcndghaendieaaPl9
/- The hull begins with its first vertex in order and turns to the left. -/
set_option linter.unusedVariables false
set_option linter.unusedSimpArgs false
namespace Go.Pl

theorem hullA_first {l : List Pt} (h : Asc l) (h2 : 2 ≤ l.length) : pA (hullA l) 0 = pA l 0 := by
  obtain ⟨m, r, M, rfl⟩ := asc_ends h2
  have hmM : ltP m M = true := by
    unfold Asc at h; rw [List.pairwise_cons] at h; exact h.1 M (by simp)
  have hm := head_mem_ext h
  have hM := last_mem_ext (m := M) (l := m :: r) (by simpa using h)
  rw [List.cons_append] at hM
  have c1 : m ∈ chainP (m :: (r ++ [M])) := (mem_chain h).2 ⟨by simp, hm.1⟩
  have c2 : M ∈ chainP (m :: (r ++ [M])) := (mem_chain h).2 ⟨by simp, hM.1⟩
  have ha := asc_chain h
  have hin : ∀ v ∈ chainP (m :: (r ++ [M])), ltP v m = false := by
    intro v hv
    have hv' := ((mem_chain h).1 hv).1
    have hh := h
    unfold Asc at hh
    rcases List.mem_cons.1 hv' with rfl | hv'
    · exact ltP_irrefl _
    · rw [List.pairwise_cons] at hh
      exact ltP_asymm (hh.1 v hv')
  have e0 : hullA (m :: (r ++ [M])) = (chainP (m :: (r ++ [M]))).dropLast ++ (highP (m :: (r ++ [M]))).dropLast := by rw [hullA, if_neg (by omega)]
  rw [e0]
  generalize chainP (m :: (r ++ [M])) = C at *
  have e1 : pA (m :: (r ++ [M])) 0 = m := rfl
  rw [e1]
  match C with
  | [] => cases c1
  | [x] =>
    simp at c1 c2
    rw [c1, c2, ltP_irrefl] at hmM; cases hmM
  | x :: y :: t =>
    show x = m
    unfold Asc at ha
    rw [List.pairwise_cons] at ha
    rcases List.mem_cons.1 c1 with h1 | h1
    · exact h1.symm
    · have := ha.1 m h1
      rw [hin x (by simp)] at this; cases this
theorem hull_min {l : List Pt} (h2 : 2 ≤ (hullP l).length) : pA (hullP l) 0 = minP (hullP l) := by
  have hl := insP_two h2
  have e : pA (hullP l) 0 = pA (insP l) 0 := hullA_first (asc_insP l) hl
  refine min_unique (pA_mem (by omega)) fun y hy => ?_
  rw [e]
  have hy' : y ∈ insP l := hullA_sub (asc_insP l) hy
  have ha := asc_insP l
  generalize insP l = L at *
  match L with
  | [] => cases hy'
  | x :: r =>
    show ltP y x = false
    unfold Asc at ha
    rw [List.pairwise_cons] at ha
    rcases List.mem_cons.1 hy' with rfl | h1
    · exact ltP_irrefl _
    · exact ltP_asymm (ha.1 y h1)
/-- A ring that begins with its first vertex is canonical, not turned round. -/
theorem canR_first {h : List Pt} (hn : h.Nodup) (h0 : 0 < h.length) (hm : pA h 0 = minP h) : canR h false = h := by
  have hk := kF_at h0
  have hlt := kF_lt h h.length h0 (Nat.le_refl _)
  have : kF h h.length = 0 := pA_inj hn hlt h0 (hk.trans hm.symm)
  unfold canR turnedP
  simp only [Bool.false_eq_true, if_false, this]
  simp
def crs (p q : Pt) : Int := p.1 * q.2 - p.2 * q.1
theorem turn_crs (o p q : Pt) : turn o p q = crs p q - (crs o q - crs o p) := by unfold turn crs; grind
/-- Sums over a ring do not depend on the point from which they are seen. -/
def fanN (h : List Pt) (o : Pt) : Nat → Int
  | 0 => 0
  | i + 1 => fanN h o i + turn o (pA h i) (pA h ((i + 1) % h.length))
def sumN (h : List Pt) : Nat → Int
  | 0 => 0
  | i + 1 => sumN h i + crs (pA h i) (pA h ((i + 1) % h.length))
theorem fan_sum (h : List Pt) (o : Pt) : ∀ i, i ≤ h.length → fanN h o i = sumN h i - crs o (pA h (i % h.length)) + crs o (pA h 0)
  | 0, _ => by simp [fanN, sumN]; omega
  | i + 1, hi => by
    rw [fanN, sumN, fan_sum h o i (by omega), turn_crs, Nat.mod_eq_of_lt (show i < h.length by omega)]; omega
theorem fan_all (h : List Pt) (o : Pt) : fanN h o h.length = sumN h h.length := by
  rw [fan_sum h o _ (Nat.le_refl _), Nat.mod_self]; omega
theorem fan_nonneg {h : List Pt} {o : Pt} : ∀ n, (∀ i, i < n → 0 ≤ turn (edP h i).1 (edP h i).2 o) → 0 ≤ fanN h o n
  | 0, _ => by simp [fanN]
  | n + 1, hq => by
    have h1 := fan_nonneg n (fun i hi => hq i (by omega))
    have h2 := hq n (by omega)
    rw [fanN]
    have e : turn (edP h n).1 (edP h n).2 o = turn o (pA h n) (pA h ((n + 1) % h.length)) := turn_cyc _ _ _
    rw [← e]; omega
theorem hull_sum_nonneg {l : List Pt} (h2 : 2 ≤ (hullP l).length) : 0 ≤ sumN (hullP l) (hullP l).length := by
  rw [← fan_all _ (pA (hullP l) 0)]
  exact fan_nonneg _ fun i hi => hullP_edge h2 hi (mem_hullP_sub (pA_mem (by omega)))
end Go.Pl
