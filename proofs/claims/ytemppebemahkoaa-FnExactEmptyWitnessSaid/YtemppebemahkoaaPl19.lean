/- Regions of half-planes: corners with whole coordinates, the highest corner, redundant half-planes. -/
import Derived.Test.YtemppebemahkoaaPl17
set_option linter.unusedVariables false
namespace Go.Pl

/-- A corner with whole coordinates is a point of the region. -/
theorem corner_whole {l : List Hf} {x y : Int} (h : ((x, 1), (y, 1)) ∈ cornP l) : (l ++ boxL).all (hasH x y 1) = true := by
  obtain ⟨X, Y, D, hD, hq, ha⟩ := corner_in h
  have h1 : redR X D = (x, 1) := (congrArg Prod.fst hq).symm
  have h2 : redR Y D = (y, 1) := (congrArg Prod.snd hq).symm
  have key : ∀ {n z : Int}, redR n D = (z, 1) → z * D = n * 1 := by
    intro n z hz
    obtain ⟨hg, a, b, ha, hb, hr, _⟩ := red_gcd (n := n) (d := D) (by omega)
    rw [hz] at hr
    obtain ⟨rfl, rfl⟩ := Prod.mk.inj hr
    obtain ⟨g, hgg⟩ : ∃ g : Int, (Int.gcd n D : Int) = g := ⟨_, rfl⟩
    rw [hgg] at ha hb
    rw [Int.one_mul] at hb
    rw [Int.mul_one, ha, hb]
  have e1 := key h1
  have e2 := key h2
  rw [List.all_eq_true] at ha ⊢
  intro k hk
  rw [has_scale (by decide) hD e1 e2]
  exact ha k hk
theorem box_has {x y : Int} (hx : -1000 ≤ x ∧ x ≤ 1000) (hy : -1000 ≤ y ∧ y ≤ 1000) : boxL.all (hasH x y 1) = true := by
  simp only [boxL, List.all_cons, List.all_nil, hasH, Bool.and_true, Bool.and_eq_true, decide_eq_true_eq]; omega
theorem has_box {x y : Int} (h : boxL.all (hasH x y 1) = true) : (-1000 ≤ x ∧ x ≤ 1000) ∧ (-1000 ≤ y ∧ y ≤ 1000) := by
  simp only [boxL, List.all_cons, List.all_nil, hasH, Bool.and_true, Bool.and_eq_true, decide_eq_true_eq] at h; omega
/-- No point of the region is above the highest corner. -/
theorem below_high {l : List Hf} (hg : ∀ q ∈ cornP l, goodQ q) {x y : Int} (hx : -1000 ≤ x ∧ x ≤ 1000) (hy : -1000 ≤ y ∧ y ≤ 1000) (h : l.all (hasH x y 1) = true) : 0 < (cornP l).length ∧ y * (hiP (cornP l)).2.2 ≤ (hiP (cornP l)).2.1 := by
  have ha : (l ++ boxL).all (hasH x y 1) = true := by rw [List.all_append, h, box_has hx hy]; rfl
  obtain ⟨q, hq, hqy⟩ := corner_above (by decide) ha
  have h0 : 0 < (cornP l).length := List.length_pos_of_mem hq
  obtain ⟨h1, h2⟩ := hi_all hg _ h0 (Nat.le_refl _)
  refine ⟨h0, ?_⟩
  obtain ⟨i, hi, hqi⟩ := List.mem_iff_getElem.1 hq
  have h3 := h2 i hi
  have h4 : qAt' (cornP l) i = q := by rw [qAt', List.getD, List.getElem?_eq_getElem hi, Option.getD_some, hqi]
  rw [h4] at h3
  have g1 := (hg _ hq).2
  have g2 := (hg _ h1).2
  have e : hiF (cornP l) (cornP l).length = hiP (cornP l) := rfl
  rw [e] at h3 g2
  obtain ⟨p, hp⟩ : ∃ p, hiP (cornP l) = p := ⟨_, rfl⟩
  rw [hp] at h3 g2 ⊢
  rw [ltR, decide_eq_false_iff_not] at h3
  rw [Int.mul_one] at hqy
  have k1 : y * q.2.2 * p.2.2 ≤ q.2.1 * p.2.2 := Int.mul_le_mul_of_nonneg_right hqy (by have := g2.1; omega)
  have k2 : (y * p.2.2) * q.2.2 ≤ p.2.1 * q.2.2 := by
    have : (y * p.2.2) * q.2.2 = y * q.2.2 * p.2.2 := by grind
    rw [this]; omega
  exact Int.le_of_mul_le_mul_right k2 g1.1
theorem sgT_neg {d x : Int} (h : d ≠ 0) : sgT (decide (-d < 0)) (-x) = sgT (decide (d < 0)) x := by
  unfold sgT
  by_cases c : d < 0
  · rw [if_neg (by simp; omega), if_pos (by simpa using c)]
  · rw [if_pos (by simp; omega), if_neg (by simpa using c)]; omega
theorem xH_symm (g k : Hf) : xH k g = -xH g k := by unfold xH; grind
theorem yH_symm (g k : Hf) : yH k g = -yH g k := by unfold yH; grind
theorem cand_symm (all : List Hf) (g k : Hf) : candL all k g = candL all g k := by
  unfold candL
  simp only []
  by_cases h0 : denH g k = 0
  · rw [if_pos h0, if_pos (by rw [denH_symm]; omega)]
  · rw [if_neg h0, if_neg (by rw [denH_symm]; omega), denH_symm, xH_symm, yH_symm, sgT_neg h0, sgT_neg h0, sgT_neg h0]
theorem cand_mem {all : List Hf} {g k : Hf} {q : QP} (hg : g ∈ all) (hk : k ∈ all) (h : q ∈ candL all g k) : q ∈ rawAll all all.length := by
  obtain ⟨i, hi, ei⟩ := hAt_mem hg
  obtain ⟨j, hj, ej⟩ := hAt_mem hk
  rcases Nat.lt_trichotomy j i with c | c | c
  · exact mem_raw (i := i) (mem_row (j := j) (by rw [ei, ej]; exact h) i c) _ hi
  · subst c
    rw [ei] at ej; subst ej
    unfold candL at h
    simp only [] at h
    rw [if_pos (by unfold denH; grind)] at h
    cases h
  · exact mem_raw (i := j) (mem_row (j := i) (by rw [ei, ej, cand_symm]; exact h) j c) _ hj
theorem mem_cand {all : List Hf} {q : QP} (h : q ∈ rawAll all all.length) : ∃ g ∈ all, ∃ k ∈ all, q ∈ candL all g k := by
  have hm : ∀ i, i < all.length → hAt all i ∈ all := fun i hi => by rw [hAt, List.getD, List.getElem?_eq_getElem hi]; exact List.getElem_mem hi
  have c2 : ∀ i, i < all.length → ∀ k, k ≤ i → q ∈ rawRow all i k → ∃ g ∈ all, ∃ k ∈ all, q ∈ candL all g k := by
    intro i hi k
    induction k with
    | zero => intro _ hq; cases hq
    | succ k ih =>
      intro hk hq
      rw [rawRow, List.mem_append] at hq
      rcases hq with h | h
      · exact ih (by omega) h
      · exact ⟨_, hm i hi, _, hm k (by omega), h⟩
  have c3 : ∀ i, i ≤ all.length → q ∈ rawAll all i → ∃ g ∈ all, ∃ k ∈ all, q ∈ candL all g k := by
    intro i
    induction i with
    | zero => intro _ hq; cases hq
    | succ i ih =>
      intro hi hq
      rw [rawAll, List.mem_append] at hq
      rcases hq with h | h
      · exact ih (by omega) h
      · exact c2 i (by omega) i (Nat.le_refl _) h
  exact c3 _ (Nat.le_refl _) h
/-- The corners of the others, if a half-plane is redundant. -/
theorem corn_red {l o : List Hf} (ho : ∀ k ∈ o, k ∈ l) {t : Hf} (hl : ∀ k ∈ l, k ∈ o ∨ k = t) (hr : ∀ q ∈ cornP o, sideQ t q ≤ 0) : ∀ q ∈ cornP o, q ∈ cornP l := by
  intro q hq
  have hs := hr q hq
  rw [mem_corn] at hq ⊢
  obtain ⟨g, hg, k, hk, hc⟩ := mem_cand hq
  have sub : ∀ z ∈ o ++ boxL, z ∈ l ++ boxL := by
    intro z hz
    rcases List.mem_append.1 hz with h | h
    · simp [ho z h]
    · simp [h]
  refine cand_mem (sub g hg) (sub k hk) ?_
  unfold candL at hc ⊢
  simp only [] at hc ⊢
  by_cases h0 : denH g k = 0
  · rw [if_pos h0] at hc; cases hc
  · rw [if_neg h0] at hc ⊢
    have hp := sgT_pos h0
    obtain ⟨s, hsg⟩ : ∃ s, decide (denH g k < 0) = s := ⟨_, rfl⟩
    rw [hsg] at hc hp ⊢
    by_cases ha : ((o ++ boxL).all (hasH (sgT s (xH g k)) (sgT s (yH g k)) (sgT s (denH g k)))) = true
    · rw [if_pos ha] at hc
      have hq := hc
      simp only [List.mem_cons, List.not_mem_nil, or_false] at hq
      have hall : ((l ++ boxL).all (hasH (sgT s (xH g k)) (sgT s (yH g k)) (sgT s (denH g k)))) = true := by
        rw [List.all_eq_true] at ha ⊢
        intro z hz
        rcases List.mem_append.1 hz with h | h
        · rcases hl z h with h1 | h1
          · exact ha z (by simp [h1])
          · subst h1
            rw [has_side hp, ← hq]
            simpa using hs
        · exact ha z (by simp [h])
      rw [if_pos hall]; exact hc
    · rw [if_neg ha] at hc; cases hc
theorem take_drop_mem {α : Type} {l : List α} {i : Nat} (hi : i < l.length) : (∀ k ∈ l.take i ++ l.drop (i + 1), k ∈ l) ∧ ∀ k ∈ l, k ∈ l.take i ++ l.drop (i + 1) ∨ k = l[i] := by
  constructor
  · intro k hk
    rcases List.mem_append.1 hk with h | h
    · exact List.mem_of_mem_take h
    · exact List.mem_of_mem_drop h
  · intro k hk
    have e : l = l.take i ++ l[i] :: l.drop (i + 1) := by rw [← List.drop_eq_getElem_cons hi, List.take_append_drop]
    rw [e] at hk
    rcases List.mem_append.1 hk with h | h
    · exact .inl (by simp [h])
    · rcases List.mem_cons.1 h with h | h
      · exact .inr h
      · exact .inl (by simp [h])
end Go.Pl
