/- A region that has a point has a corner, one that is no lower; the highest corner. -/
import Derived.Test.YtlcndghaendieaaPl16
set_option linter.unusedVariables false
namespace Go.Pl

def dotH (k : Hf) (u v : Int) : Int := k.1 * u + k.2.1 * v
def gapH (k : Hf) (x y d : Int) : Int := k.2.2 * d - (k.1 * x + k.2.1 * y)
theorem has_gap {k : Hf} {x y d : Int} : hasH x y d k = true ↔ 0 ≤ gapH k x y d := by
  unfold hasH gapH; rw [decide_eq_true_iff]; omega
/-- One of those that a ray comes to is the first. -/
theorem first_hit (x y d u v : Int) : ∀ L : List Hf, (∀ k ∈ L, 0 ≤ gapH k x y d) → (∃ k ∈ L, 0 < dotH k u v) → ∃ k ∈ L, 0 < dotH k u v ∧ ∀ j ∈ L, 0 < dotH j u v → gapH k x y d * dotH j u v ≤ gapH j x y d * dotH k u v
  | [], _, h => by obtain ⟨k, hk, _⟩ := h; cases hk
  | a :: L, hg, h => by
    by_cases hL : ∃ k ∈ L, 0 < dotH k u v
    · obtain ⟨k, hk, hp, hm⟩ := first_hit x y d u v L (fun k hk => hg k (by simp [hk])) hL
      by_cases ha : 0 < dotH a u v
      · by_cases hc : gapH k x y d * dotH a u v ≤ gapH a x y d * dotH k u v
        · refine ⟨k, by simp [hk], hp, fun j hj hjp => ?_⟩
          rcases List.mem_cons.1 hj with rfl | hj
          · exact hc
          · exact hm j hj hjp
        · refine ⟨a, by simp, ha, fun j hj hjp => ?_⟩
          rcases List.mem_cons.1 hj with rfl | hj
          · exact Int.le_refl _
          · have h1 := hm j hj hjp
            have h2 : gapH a x y d * dotH k u v ≤ gapH k x y d * dotH a u v := by omega
            have h3 := Int.mul_le_mul_of_nonneg_right h2 (show 0 ≤ dotH j u v by omega)
            have h4 := Int.mul_le_mul_of_nonneg_right h1 (show 0 ≤ dotH a u v by omega)
            have h5 : (gapH a x y d * dotH j u v) * dotH k u v ≤ (gapH j x y d * dotH a u v) * dotH k u v := by grind
            exact Int.le_of_mul_le_mul_right h5 hp
      · refine ⟨k, by simp [hk], hp, fun j hj hjp => ?_⟩
        rcases List.mem_cons.1 hj with rfl | hj
        · exact absurd hjp ha
        · exact hm j hj hjp
    · obtain ⟨k, hk, hp⟩ := h
      rcases List.mem_cons.1 hk with rfl | hk
      · refine ⟨k, by simp, hp, fun j hj hjp => ?_⟩
        rcases List.mem_cons.1 hj with rfl | hj
        · exact Int.le_refl _
        · exact absurd ⟨j, hj, hjp⟩ hL
      · exact absurd ⟨k, hk, hp⟩ hL
/-- Along a ray to the boundary. -/
theorem ray {all : List Hf} (hb : ∀ k ∈ boxL, k ∈ all) {x y d u v : Int} (hd : 0 < d) (h : all.all (hasH x y d) = true) (hw : u ≠ 0 ∨ v ≠ 0) :
    ∃ k ∈ all, ∃ e n : Int, 0 < e ∧ 0 ≤ n ∧ 0 < dotH k u v ∧ gapH k (x * e + n * u) (y * e + n * v) (d * e) = 0 ∧ all.all (hasH (x * e + n * u) (y * e + n * v) (d * e)) = true := by
  rw [List.all_eq_true] at h
  have hg : ∀ k ∈ all, 0 ≤ gapH k x y d := fun k hk => has_gap.1 (h k hk)
  have hex : ∃ k ∈ all, 0 < dotH k u v := by
    by_cases u1 : 0 < u
    · exact ⟨(1, 0, 1000), hb _ (by simp [boxL]), by simp only [dotH]; omega⟩
    · by_cases u2 : u < 0
      · exact ⟨(-1, 0, 1000), hb _ (by simp [boxL]), by simp only [dotH]; omega⟩
      · by_cases v1 : 0 < v
        · exact ⟨(0, 1, 1000), hb _ (by simp [boxL]), by simp only [dotH]; omega⟩
        · exact ⟨(0, -1, 1000), hb _ (by simp [boxL]), by simp only [dotH]; omega⟩
  obtain ⟨k, hk, hp, hm⟩ := first_hit x y d u v all hg hex
  have key : ∀ j : Hf, gapH j (x * dotH k u v + gapH k x y d * u) (y * dotH k u v + gapH k x y d * v) (d * dotH k u v) = gapH j x y d * dotH k u v - gapH k x y d * dotH j u v := by
    intro j
    generalize gapH k x y d = n
    generalize dotH k u v = e
    unfold gapH dotH; grind
  refine ⟨k, hk, dotH k u v, gapH k x y d, hp, hg k hk, hp, ?_, ?_⟩
  · rw [key]; exact Int.sub_self _
  · rw [List.all_eq_true]
    intro j hj
    rw [has_gap, key]
    have h0 := hg k hk
    by_cases hjp : 0 < dotH j u v
    · have := hm j hj hjp; omega
    · have h1 := Int.mul_nonneg (hg j hj) (show 0 ≤ dotH k u v by omega)
      have h2 := Int.mul_nonneg h0 (show 0 ≤ -dotH j u v by omega)
      rw [Int.mul_neg] at h2
      omega
/-- From every point to one on two boundaries that is no lower. -/
theorem to_corner {all : List Hf} (hb : ∀ k ∈ boxL, k ∈ all) {x y d : Int} (hd : 0 < d) (h : all.all (hasH x y d) = true) :
    ∃ g ∈ all, ∃ k ∈ all, denH g k ≠ 0 ∧ ∃ x' y' d' : Int, 0 < d' ∧ gapH g x' y' d' = 0 ∧ gapH k x' y' d' = 0 ∧ all.all (hasH x' y' d') = true ∧ y * d' ≤ y' * d := by
  obtain ⟨g, hg, e, n, he, hn, hp, ht, ha⟩ := ray hb hd h (u := 0) (v := 1) (.inr (by decide))
  have hb0 : 0 < g.2.1 := by unfold dotH at hp; omega
  have hd1 : 0 < d * e := Int.mul_pos hd he
  obtain ⟨s, hs⟩ : ∃ s : Int, s = if 0 ≤ g.1 then 1 else -1 := ⟨_, rfl⟩
  have hs1 : s * s = 1 ∧ 0 ≤ s * g.1 := by
    by_cases c : 0 ≤ g.1
    · rw [if_pos c] at hs; subst hs; exact ⟨rfl, by omega⟩
    · rw [if_neg c] at hs; subst hs; exact ⟨rfl, by omega⟩
  have hsn : s ≠ 0 := by intro h0; rw [h0] at hs1; simp at hs1
  obtain ⟨x1, hx1⟩ : ∃ z, x * e + n * 0 = z := ⟨_, rfl⟩
  obtain ⟨y1, hy1⟩ : ∃ z, y * e + n * 1 = z := ⟨_, rfl⟩
  obtain ⟨d1, hdd⟩ : ∃ z, d * e = z := ⟨_, rfl⟩
  rw [hx1, hy1, hdd] at ht ha
  rw [hdd] at hd1
  obtain ⟨k, hk, e', n', he', hn', hp', ht', ha'⟩ := ray hb hd1 ha (u := -(s * g.2.1)) (v := s * g.1) (.inl (by have := Int.mul_ne_zero hsn (show g.2.1 ≠ 0 by omega); omega))
  have hdot : dotH k (-(s * g.2.1)) (s * g.1) = s * denH g k := by unfold dotH denH; grind
  refine ⟨g, hg, k, hk, ?_, _, _, _, Int.mul_pos hd1 he', ?_, ht', ha', ?_⟩
  · intro h0
    rw [hdot, h0] at hp'; simp at hp'
  · have : gapH g (x1 * e' + n' * -(s * g.2.1)) (y1 * e' + n' * (s * g.1)) (d1 * e') = gapH g x1 y1 d1 * e' := by unfold gapH; grind
    rw [this, ht]; exact Int.zero_mul _
  · have q1 : 0 ≤ n' * (s * g.1) * d := Int.mul_nonneg (Int.mul_nonneg hn' hs1.2) (by omega)
    have q2 : 0 ≤ n * e' * d := Int.mul_nonneg (Int.mul_nonneg hn (by omega)) (by omega)
    have : (y1 * e' + n' * (s * g.1)) * d = y * (d1 * e') + n * e' * d + n' * (s * g.1) * d := by rw [← hy1, ← hdd]; grind
    rw [this]; omega
theorem has_scale {x y d X Y D : Int} (hd : 0 < d) (hD : 0 < D) (hx : x * D = X * d) (hy : y * D = Y * d) (k : Hf) : hasH x y d k = hasH X Y D k := by
  have e : gapH k x y d * D = gapH k X Y D * d := by unfold gapH; grind
  have h1 : (0 ≤ gapH k x y d) ↔ (0 ≤ gapH k X Y D) := by
    constructor
    · intro h
      have := Int.mul_nonneg h (show 0 ≤ D by omega)
      rw [e] at this
      exact Int.le_of_mul_le_mul_right (by rw [Int.zero_mul]; exact this) hd
    · intro h
      have := Int.mul_nonneg h (show 0 ≤ d by omega)
      rw [← e] at this
      exact Int.le_of_mul_le_mul_right (by rw [Int.zero_mul]; exact this) hD
  rw [Bool.eq_iff_iff, has_gap, has_gap]; exact h1
theorem hAt_mem {all : List Hf} {k : Hf} (h : k ∈ all) : ∃ i, i < all.length ∧ hAt all i = k := by
  obtain ⟨i, hi, rfl⟩ := List.mem_iff_getElem.1 h
  exact ⟨i, hi, by simp [List.getD, hi]⟩
theorem mem_row {all : List Hf} {i j : Nat} {q : QP} (h : q ∈ candL all (hAt all i) (hAt all j)) : ∀ k, j < k → q ∈ rawRow all i k
  | 0, hk => absurd hk (Nat.not_lt_zero _)
  | k + 1, hk => by
    rw [rawRow, List.mem_append]
    by_cases e : j = k
    · subst e; exact .inr h
    · exact .inl (mem_row h k (by omega))
theorem mem_raw {all : List Hf} {i : Nat} {q : QP} (h : q ∈ rawRow all i i) : ∀ n, i < n → q ∈ rawAll all n
  | 0, hk => absurd hk (Nat.not_lt_zero _)
  | n + 1, hk => by
    rw [rawAll, List.mem_append]
    by_cases e : i = n
    · subst e; exact .inr h
    · exact .inl (mem_raw h n (by omega))
theorem mem_foldQ {q : QP} : ∀ (m a : List QP), q ∈ m.foldl addQ a ↔ q ∈ m ∨ q ∈ a
  | [], a => by simp
  | x :: m, a => by
    rw [List.foldl_cons, mem_foldQ m, List.mem_cons]
    have := mem_addG (lt := ltQ) (p := x) (x := q) (l := a)
    constructor
    · rintro (h | h)
      · exact .inl (.inr h)
      · rcases this.1 h with h | h
        · exact .inl (.inl h)
        · exact .inr h
    · rintro ((h | h) | h)
      · exact .inr (this.2 (.inl h))
      · exact .inl h
      · exact .inr (this.2 (.inr h))
theorem mem_corn {l : List Hf} {q : QP} : q ∈ cornP l ↔ q ∈ rawAll (l ++ boxL) (l ++ boxL).length := by
  unfold cornP; rw [mem_foldQ]; simp
theorem denH_symm (g k : Hf) : denH k g = -denH g k := by unfold denH; grind
/-- What lies on two boundaries that are not parallel. -/
theorem cramer {g k : Hf} {x y d : Int} (h1 : gapH g x y d = 0) (h2 : gapH k x y d = 0) : x * denH g k = xH g k * d ∧ y * denH g k = yH g k * d := by
  unfold gapH at h1 h2
  have e1 : g.2.2 * d = g.1 * x + g.2.1 * y := by omega
  have e2 : k.2.2 * d = k.1 * x + k.2.1 * y := by omega
  unfold denH xH yH
  constructor <;> grind
theorem sgT_mul (s : Bool) (x y : Int) : x * sgT s y = sgT s (x * y) := by unfold sgT; split <;> simp [Int.mul_neg]
theorem mul_sgT (s : Bool) (x y : Int) : sgT s x * y = sgT s (x * y) := by unfold sgT; split <;> simp [Int.neg_mul]
theorem red_ge {y d Y D : Int} (hd : 0 < d) (hD : 0 < D) {y0 d0 : Int} (hd0 : 0 < d0) (hy : y * D = Y * d) (h : y0 * d ≤ y * d0) : y0 * (redR Y D).2 ≤ (redR Y D).1 * d0 := by
  obtain ⟨h1, a, b, ha, hb, hr, _⟩ := red_gcd (n := Y) (d := D) (by omega)
  obtain ⟨g1, hg1⟩ : ∃ g : Int, (Int.gcd Y D : Int) = g := ⟨_, rfl⟩
  rw [hg1] at ha hb h1
  rw [hr]
  simp only []
  have e1 : (y0 * b) * (d * g1) = (y0 * d) * D := by rw [hb]; grind
  have e2 : (a * d0) * (d * g1) = (y * d0) * D := by
    have : (y * d0) * D = (y * D) * d0 := by grind
    rw [this, hy, ha]; grind
  have h3 : (y0 * b) * (d * g1) ≤ (a * d0) * (d * g1) := by
    rw [e1, e2]; exact Int.mul_le_mul_of_nonneg_right h (by omega)
  exact Int.le_of_mul_le_mul_right h3 (Int.mul_pos hd h1)
/-- A region that has a point has a corner that is no lower. -/
theorem corner_above {l : List Hf} {x y d : Int} (hd : 0 < d) (h : (l ++ boxL).all (hasH x y d) = true) : ∃ q ∈ cornP l, y * q.2.2 ≤ q.2.1 * d := by
  have hb : ∀ k ∈ boxL, k ∈ l ++ boxL := fun k hk => by simp [hk]
  obtain ⟨g, hg, k, hk, hden, x', y', d', hd', t1, t2, ha, hy⟩ := to_corner hb hd h
  obtain ⟨i, hi, ei⟩ := hAt_mem hg
  obtain ⟨j, hj, ej⟩ := hAt_mem hk
  have main : ∀ (i j : Nat) (g k : Hf), j < i → i < (l ++ boxL).length → hAt (l ++ boxL) i = g → hAt (l ++ boxL) j = k → denH g k ≠ 0 → gapH g x' y' d' = 0 → gapH k x' y' d' = 0 → ∃ q ∈ cornP l, y * q.2.2 ≤ q.2.1 * d := by
    intro i j g k hji hi ei ej hden t1 t2
    obtain ⟨c1, c2⟩ := cramer t1 t2
    have hp := sgT_pos hden
    obtain ⟨s, hs⟩ : ∃ s, decide (denH g k < 0) = s := ⟨_, rfl⟩
    rw [hs] at hp
    have s1 : x' * sgT s (denH g k) = sgT s (xH g k) * d' := by rw [sgT_mul, mul_sgT, c1]
    have s2 : y' * sgT s (denH g k) = sgT s (yH g k) * d' := by rw [sgT_mul, mul_sgT, c2]
    have hall : (l ++ boxL).all (hasH (sgT s (xH g k)) (sgT s (yH g k)) (sgT s (denH g k))) = true := by
      rw [List.all_eq_true] at ha ⊢
      intro z hz
      rw [← has_scale hd' hp s1 s2]; exact ha z hz
    refine ⟨(redR (sgT s (xH g k)) (sgT s (denH g k)), redR (sgT s (yH g k)) (sgT s (denH g k))), ?_, ?_⟩
    · rw [mem_corn]
      refine mem_raw (i := i) (mem_row (j := j) ?_ i hji) _ hi
      rw [ei, ej]
      unfold candL
      simp only [hs]
      rw [if_neg hden, if_pos hall]; simp
    · exact red_ge hd' hp hd s2 hy
  rcases Nat.lt_trichotomy j i with c | c | c
  · exact main i j g k c hi ei ej hden t1 t2
  · subst c
    rw [ei] at ej; subst ej
    exact absurd (by unfold denH; grind) hden
  · exact main j i k g c hj ej ei (by rw [denH_symm]; omega) t2 t1
/-- A corner is a point of the region. -/
theorem corner_in {l : List Hf} {q : QP} (h : q ∈ cornP l) : ∃ x y d : Int, 0 < d ∧ q = (redR x d, redR y d) ∧ (l ++ boxL).all (hasH x y d) = true := by
  rw [mem_corn] at h
  have c1 : ∀ g k, q ∈ candL (l ++ boxL) g k → ∃ x y d : Int, 0 < d ∧ q = (redR x d, redR y d) ∧ (l ++ boxL).all (hasH x y d) = true := by
    intro g k hq
    unfold candL at hq
    simp only [] at hq
    split at hq
    · cases hq
    · rename_i h0
      split at hq
      · rename_i ha
        simp only [List.mem_cons, List.not_mem_nil, or_false] at hq
        exact ⟨_, _, _, sgT_pos h0, hq, ha⟩
      · cases hq
  have c2 : ∀ i k, q ∈ rawRow (l ++ boxL) i k → ∃ x y d : Int, 0 < d ∧ q = (redR x d, redR y d) ∧ (l ++ boxL).all (hasH x y d) = true := by
    intro i k
    induction k with
    | zero => intro hq; cases hq
    | succ k ih =>
      intro hq
      rw [rawRow, List.mem_append] at hq
      rcases hq with h | h
      · exact ih h
      · exact c1 _ _ h
  have c3 : ∀ i, q ∈ rawAll (l ++ boxL) i → ∃ x y d : Int, 0 < d ∧ q = (redR x d, redR y d) ∧ (l ++ boxL).all (hasH x y d) = true := by
    intro i
    induction i with
    | zero => intro hq; cases hq
    | succ i ih =>
      intro hq
      rw [rawAll, List.mem_append] at hq
      rcases hq with h | h
      · exact ih h
      · exact c2 i i h
  exact c3 _ h
/-- A region within a region. -/
theorem corn_sub {l m : List Hf} (hs : ∀ k ∈ m, k ∈ l) (h : cornP m = []) : cornP l = [] := by
  rcases hc : cornP l with _ | ⟨q, r⟩
  · rfl
  · obtain ⟨x, y, d, hd, _, ha⟩ := corner_in (l := l) (q := q) (by rw [hc]; simp)
    have hm : (m ++ boxL).all (hasH x y d) = true := by
      rw [List.all_eq_true] at ha ⊢
      intro k hk
      rcases List.mem_append.1 hk with hk | hk
      · exact ha k (by simp [hs k hk])
      · exact ha k (by simp [hk])
    obtain ⟨q', hq', _⟩ := corner_above hd hm
    rw [h] at hq'; cases hq'

/-! the highest corner -/
abbrev qAt' (l : List QP) (i : Nat) : QP := l.getD i ((0, 0), (0, 0))
def hiF (l : List QP) : Nat → QP
  | 0 => ((0, 0), (0, 0))
  | i + 1 => if (decide (i = 0) || ltR (hiF l i).2 (qAt' l i).2) = true then qAt' l i else hiF l i
def hiP (l : List QP) : QP := hiF l l.length
theorem hi_all {l : List QP} (hg : ∀ q ∈ l, goodQ q) : ∀ i, 0 < i → i ≤ l.length → hiF l i ∈ l ∧ ∀ j, j < i → ltR (hiF l i).2 (qAt' l j).2 = false
  | 0, h, _ => absurd h (Nat.lt_irrefl _)
  | i + 1, _, hi => by
    have hm : qAt' l i ∈ l := by rw [qAt', List.getD, List.getElem?_eq_getElem (by omega)]; exact List.getElem_mem (by omega)
    have irr : ∀ r : Pt, ltR r r = false := fun r => by simp [ltR]
    rw [hiF]
    rcases Nat.eq_zero_or_pos i with h0 | h0
    · subst h0
      rw [if_pos (by simp)]
      refine ⟨hm, fun j hj => ?_⟩
      have : j = 0 := by omega
      subst this; exact irr _
    · obtain ⟨h1, h2⟩ := hi_all hg i h0 (by omega)
      by_cases c : ltR (hiF l i).2 (qAt' l i).2 = true
      · rw [if_pos (by rw [c, Bool.or_true])]
        refine ⟨hm, fun j hj => ?_⟩
        by_cases e : j = i
        · subst e; exact irr _
        · have h3 := h2 j (by omega)
          have hj' : qAt' l j ∈ l := by rw [qAt', List.getD, List.getElem?_eq_getElem (by omega)]; exact List.getElem_mem (by omega)
          cases h4 : ltR (qAt' l i).2 (qAt' l j).2 with
          | false => rfl
          | true =>
            have g1 := (hg _ h1).2
            have g2 := (hg _ hm).2
            have g3 := (hg _ hj').2
            simp only [ltR, decide_eq_true_eq] at c h4
            have := ltR_trans g1.1 g2.1 g3.1 c h4
            rw [ltR, decide_eq_false_iff_not] at h3
            exact absurd this h3
      · have hd : decide (i = 0) = false := by simp; omega
        have c' : ltR (hiF l i).2 (qAt' l i).2 = false := by simpa using c
        rw [if_neg (by rw [hd, c']; decide)]
        refine ⟨h1, fun j hj => ?_⟩
        by_cases e : j = i
        · subst e; exact c'
        · exact h2 j (by omega)
end Go.Pl
