/- Contracts: the shape of a hull, as the program and as the reference asks. -/
import Derived.Test.YtlcndghaendieaaB21
import Derived.Test.YtlcndghaendieaaPl43
set_option linter.unusedVariables false
set_option linter.unusedSimpArgs false
set_option maxHeartbeats 16000000
set_option maxRecDepth 100000
namespace Go.Proofs.Ytlcndghaendieaa
open Go Go.Ideal Go.Pl Go.Sort

/-- The test of the reference at an edge and a vertex. -/
def rgT (h : List Pt) (i k : Nat) : Bool := !(((!(pAt h k == pAt h i) && !(pAt h k == pAt h ((i + 1) % h.length))) && decide (turn (pAt h i) (pAt h ((i + 1) % h.length)) (pAt h k) ≤ 0)) || (!decide (k = i) && (pAt h k == pAt h i)))
def rgB (h : List Pt) : Bool := (List.range h.length).all fun i => (List.range h.length).all fun k => rgT h i k
def firstB (h : List Pt) : Bool := (List.range h.length).all fun i => decide (i = 0) || ltP (pAt h 0) (pAt h i)
/-- The shape of a hull. -/
def shpS (h : List Pt) : Bool := if h.length < 3 then decide (h.length = 1) || (decide (h.length = 2) && ltP (pAt h 0) (pAt h 1)) else rgB h && firstB h
def shpI (h : List Pt) : Bool := if h.length = 0 then false else if h.length = 1 then true else if h.length = 2 then decide (cmpP (pAt h 0) (pAt h 1) < 0) else cvxB h && (pAt h 0 == pAt (insP h) 0)
theorem rg_iff {h : List Pt} : rgB h = true ↔ ∀ i, i < h.length → ∀ k, k < h.length → rgT h i k = true := by
  simp only [rgB, List.all_eq_true, List.mem_range]
theorem rg_nodup {h : List Pt} (hr : rgB h = true) : h.Nodup := by
  rw [rg_iff] at hr
  rw [List.nodup_iff_pairwise_ne, List.pairwise_iff_getElem]
  intro i j hi hj hij e
  have := hr i hi j hj
  have e' : pAt h j = pAt h i := by
    simp only [pAt, List.getD, List.getElem?_eq_getElem hi, List.getElem?_eq_getElem hj, Option.getD_some]; exact e.symm
  simp only [rgT, e', beq_self_eq_true, decide_eq_false (show ¬ j = i by omega)] at this
  simp at this
theorem rg_strict {h : List Pt} (hr : rgB h = true) : Strict h := by
  intro i hi k hk h1 h2
  have hn := rg_nodup hr
  rw [rg_iff] at hr
  have := hr i hi k hk
  have n1 : (pAt h k == pAt h i) = false := by
    rw [beq_eq_false_iff_ne]; exact fun e => h1 (pA_inj hn hk hi e)
  have n2 : (pAt h k == pAt h ((i + 1) % h.length)) = false := by
    rw [beq_eq_false_iff_ne]; exact fun e => h2 (pA_inj hn hk (Nat.mod_lt _ (by omega)) e)
  simp only [rgT, n1, n2, Bool.not_false, Bool.and_self, Bool.true_and, Bool.and_false, Bool.or_false, Bool.not_eq_true', decide_eq_false_iff_not] at this
  show 0 < turn (pAt h i) (pAt h ((i + 1) % h.length)) (pAt h k)
  omega
theorem rg_of {h : List Pt} (hn : h.Nodup) (hs : Strict h) : rgB h = true := by
  rw [rg_iff]
  intro i hi k hk
  have hm := Nat.mod_lt (i + 1) (show 0 < h.length by omega)
  unfold rgT
  by_cases c1 : k = i
  · subst c1; simp
  · have n1 : (pAt h k == pAt h i) = false := by
      rw [beq_eq_false_iff_ne]; exact fun e => c1 (pA_inj hn hk hi e)
    rw [n1]
    by_cases c2 : k = (i + 1) % h.length
    · have : (pAt h k == pAt h ((i + 1) % h.length)) = true := by rw [← c2]; simp
      rw [this]; simp
    · have := hs i hi k hk c1 c2
      have : ¬ turn (pAt h i) (pAt h ((i + 1) % h.length)) (pAt h k) ≤ 0 := by
        have e : turn (pAt h i) (pAt h ((i + 1) % h.length)) (pAt h k) = turn (edP h i).1 (edP h i).2 (pA h k) := rfl
        omega
      rw [decide_eq_false this]; simp
theorem ins_first {h : List Pt} (hn : h.Nodup) (h0 : 0 < h.length) : firstB h = (pAt h 0 == pAt (insP h) 0) := by
  have hl : 0 < (insP h).length := by
    rcases Nat.eq_zero_or_pos (insP h).length with c | c
    · have : pAt h 0 ∈ insP h := mem_insP.2 (by rw [pAt, List.getD, List.getElem?_eq_getElem h0]; exact List.getElem_mem h0)
      rw [List.length_eq_zero_iff] at c
      rw [c] at this; cases this
    · exact c
  have hasc := asc_insP h
  have hmin : ∀ x ∈ h, x = pAt (insP h) 0 ∨ ltP (pAt (insP h) 0) x = true := by
    intro x hx
    have hx' := mem_insP.2 hx
    match hi : insP h with
    | [] => rw [hi] at hl; simp at hl
    | m :: r =>
      rw [hi] at hx' hasc
      have e : pAt (m :: r) 0 = m := rfl
      rw [e]
      rcases List.mem_cons.1 hx' with rfl | hr
      · exact .inl rfl
      · exact .inr ((List.pairwise_cons.1 hasc).1 x hr)
  have hat : ∀ i, i < h.length → pAt h i ∈ h := fun i hi => by rw [pAt, List.getD, List.getElem?_eq_getElem hi]; exact List.getElem_mem hi
  rw [Bool.eq_iff_iff, beq_iff_eq]
  unfold firstB
  simp only [List.all_eq_true, List.mem_range, Bool.or_eq_true, decide_eq_true_eq]
  constructor
  · intro ha
    have hm : pAt (insP h) 0 ∈ h := mem_insP.1 (by rw [pAt, List.getD, List.getElem?_eq_getElem hl]; exact List.getElem_mem hl)
    obtain ⟨i, hi, e⟩ := List.getElem_of_mem hm
    have ei : pAt h i = pAt (insP h) 0 := by rw [pAt, List.getD, List.getElem?_eq_getElem hi]; exact e
    rcases ha i hi with c | c
    · rw [← ei, c]
    · rcases hmin (pAt h 0) (hat 0 h0) with d | d
      · exact d
      · rw [ei] at c
        rw [ltP_iff] at c d
        omega
  · intro e i hi
    by_cases c : i = 0
    · exact .inl c
    · refine .inr ?_
      rcases hmin (pAt h i) (hat i hi) with d | d
      · exact (c (pA_inj hn hi h0 (d.trans e.symm))).elim
      · rw [e]; exact d
/-- Both ways to ask for the shape. -/
theorem shp_same {h : List Pt} (hk : okPs h = true) : shpI h = shpS h := by
  unfold shpI shpS
  rcases Nat.lt_or_ge h.length 3 with c | c
  · rw [if_pos c]
    by_cases c0 : h.length = 0
    · rw [if_pos c0, c0]; rfl
    · rw [if_neg c0]
      by_cases c1 : h.length = 1
      · rw [if_pos c1, c1]; rfl
      · have c2 : h.length = 2 := by omega
        rw [if_neg c1, if_pos c2, c2]
        have : decide (cmpP (pAt h 0) (pAt h 1) < 0) = ltP (pAt h 0) (pAt h 1) := ltOf_cmpP _ _
        rw [this]; rfl
  · rw [if_neg (by omega), if_neg (by omega), if_neg (by omega), if_neg (by omega)]
    have hlen := okPs_len hk
    cases hr : rgB h with
    | true =>
      have hn := rg_nodup hr
      have hs := rg_strict hr
      have h20 : h.length ≤ 20 := by simp only [okPs, Bool.and_eq_true, decide_eq_true_eq] at hk; omega
      have hring : ringB h = true := by
        have e : (insP h).length = h.length := by
          refine Nat.le_antisymm (insP_len h) (nodup_len_le hn fun x hx => mem_insP.2 hx)
        simp only [ringB, inR, hk, e, Bool.true_and, Bool.and_eq_true, decide_eq_true_eq, beq_self_eq_true, and_true]
        omega
      have hc : cvxB h = true := by
        rw [cvxB, simpB, hring, strict_pairs c hs, strict_lefts c hs]; rfl
      rw [hc, Bool.true_and, Bool.true_and, ins_first hn (by omega)]
    | false =>
      cases hc : cvxB h with
      | false => rfl
      | true =>
        exfalso
        simp only [cvxB, Bool.and_eq_true] at hc
        obtain ⟨f1, f2, f3, f4⟩ := ring_facts (simp_ring hc.1)
        have hp : pairsP h = true := by have := hc.1; simp only [simpB, Bool.and_eq_true] at this; exact this.2
        have := rg_of f4 (lefts_strict f4 f2 hp hc.2)
        rw [hr] at this; cases this
end Go.Proofs.Ytlcndghaendieaa
