import Derived.Test.YteaanfpkakaaoaaPl26
/- A ring of points and the next one: its sides and sums over them. -/
set_option linter.unusedVariables false
set_option linter.unusedSimpArgs false
namespace Go.Pl

/-- All sides of a path. -/
def chE (P : Nat → Nat → Prop) : Nat → List Nat → Prop
  | _, [] => True
  | s, a :: A => P s a ∧ chE P a A
def chS (f : Nat → Nat → Int) : Nat → List Nat → Int
  | _, [] => 0
  | s, a :: A => f s a + chS f a A
theorem chE_at {P : Nat → Nat → Prop} : ∀ {A : List Nat} {s : Nat}, chE P s A → ∀ i, i < A.length → P ((s :: A).getD i 0) ((s :: A).getD (i + 1) 0)
  | [], _, _, i, h => by simp at h
  | a :: A, s, hp, 0, _ => by simpa using hp.1
  | a :: A, s, hp, i + 1, h => by
    have := chE_at hp.2 i (by simpa using h)
    simpa using this
theorem chE_imp {P Q : Nat → Nat → Prop} (h : ∀ x y, P x y → Q x y) : ∀ {A : List Nat} {s : Nat}, chE P s A → chE Q s A
  | [], _, _ => trivial
  | a :: A, s, hp => ⟨h _ _ hp.1, chE_imp h hp.2⟩

/-- What a ring's vertices give, from one on. -/
def em (a : Nat → Nat) (sn pv : Nat → Bool) (n : Nat) : Nat → Nat → List Nat
  | 0, _ => []
  | c + 1, i => ((if !pv i || !sn i then [a i] else []) ++ if !pv i && sn i then [n] else []) ++ em a sn pv n c (i + 1)
def sfx (a : Nat → Nat) : Nat → Nat → List Nat
  | 0, _ => []
  | c + 1, i => a i :: sfx a c (i + 1)
def dsum (f : Nat → Nat → Int) (a : Nat → Nat) (sn : Nat → Bool) (n : Nat) : Nat → Int
  | 0 => 0
  | i + 1 => dsum f a sn n i + if sn i then f (a (i + 1)) (a i) + f (a i) n + f n (a (i + 1)) else 0
theorem em_ch {a : Nat → Nat} {sn pv : Nat → Bool} {n m : Nat} {P : Nat → Nat → Prop} (hp : ∀ i, i + 1 < m → pv (i + 1) = sn i) (hw : ∀ j, j + 1 = m → sn j = true → P n (a m))
    (h1 : ∀ i, i < m → sn i = false → P (a i) (a (i + 1))) (h2 : ∀ i, i < m → pv i = false → sn i = true → P (a i) n) (h3 : ∀ i, i < m → pv i = true → sn i = false → P n (a i)) :
    ∀ c j, j + 1 + c = m → chE P (if sn j then n else a j) (em a sn pv n c (j + 1) ++ [a m])
  | 0, j, hj => by
    simp only [em, List.nil_append, chE, and_true]
    cases hs : sn j with
    | true => exact hw j (by omega) hs
    | false => have := h1 j (by omega) hs; rw [show j + 1 = m by omega] at this; exact this
  | c + 1, j, hj => by
    have ih := em_ch hp hw h1 h2 h3 c (j + 1) (by omega)
    have e := hp j (by omega)
    rw [em, e]
    cases hs : sn j with
    | true =>
      cases hq : sn (j + 1) with
      | true => rw [hq] at ih; simpa using ih
      | false => rw [hq] at ih; simpa [chE] using ⟨h3 (j + 1) (by omega) (by rw [e]; exact hs) hq, by simpa using ih⟩
    | false =>
      have q1 := h1 j (by omega) hs
      cases hq : sn (j + 1) with
      | true => rw [hq] at ih; simpa [chE] using ⟨q1, h2 (j + 1) (by omega) (by rw [e]; exact hs) hq, by simpa using ih⟩
      | false => rw [hq] at ih; simpa [chE] using ⟨q1, by simpa using ih⟩
theorem em_sum {a : Nat → Nat} {sn pv : Nat → Bool} {n m : Nat} {f : Nat → Nat → Int} (hf : ∀ x y, f y x = -f x y) (hp : ∀ i, i + 1 < m → pv (i + 1) = sn i) :
    ∀ c j, j + 1 + c = m → chS f (if sn j then n else a j) (em a sn pv n c (j + 1) ++ [a m]) + (if sn j then f (a j) n else 0) + dsum f a sn n j = chS f (a j) (sfx a c (j + 1) ++ [a m]) + dsum f a sn n m
  | 0, j, hj => by
    obtain rfl : m = j + 1 := by omega
    simp only [em, sfx, List.nil_append, chS, dsum]
    have := hf (a j) (a (j + 1))
    cases hs : sn j with
    | true => simp <;> omega
    | false => simp <;> omega
  | c + 1, j, hj => by
    have ih := em_sum (a := a) (n := n) hf hp c (j + 1) (by omega)
    have e := hp j (by omega)
    rw [em, e, sfx]
    have g1 := hf (a j) (a (j + 1))
    have g2 := hf (a (j + 1)) n
    cases hs : sn j with
    | true =>
      cases hq : sn (j + 1) with
      | true => rw [hq] at ih; simp only [chS, dsum, hs] at ih ⊢; simp [chS] at ih ⊢; omega
      | false => rw [hq] at ih; simp only [chS, dsum, hs] at ih ⊢; simp [chS] at ih ⊢; omega
    | false =>
      cases hq : sn (j + 1) with
      | true => rw [hq] at ih; simp only [chS, dsum, hs] at ih ⊢; simp [chS] at ih ⊢; omega
      | false => rw [hq] at ih; simp only [chS, dsum, hs] at ih ⊢; simp [chS] at ih ⊢; omega
theorem em_mem {a : Nat → Nat} {sn pv : Nat → Bool} {n x : Nat} : ∀ c i, x ∈ em a sn pv n c i → x = n ∨ ∃ j, i ≤ j ∧ j < i + c ∧ x = a j
  | 0, i, h => by simp [em] at h
  | c + 1, i, h => by
    rw [em, List.mem_append, List.mem_append] at h
    rcases h with (h | h) | h
    · split at h
      · exact .inr ⟨i, by omega, by omega, List.mem_singleton.1 h⟩
      · cases h
    · split at h
      · exact .inl (List.mem_singleton.1 h)
      · cases h
    · rcases em_mem c (i + 1) h with q | ⟨j, h1, h2, h3⟩
      · exact .inl q
      · exact .inr ⟨j, by omega, by omega, h3⟩
theorem em_new {a : Nat → Nat} {sn pv : Nat → Bool} {n m : Nat} (hp : ∀ i, i + 1 < m → pv (i + 1) = sn i) :
    ∀ c j, j + 1 + c = m → sn j = false → (∃ i, j < i ∧ i < m ∧ sn i = true) → n ∈ em a sn pv n c (j + 1)
  | 0, j, hj, _, ⟨i, h1, h2, _⟩ => by omega
  | c + 1, j, hj, hs, ⟨i, h1, h2, h3⟩ => by
    have e := hp j (by omega)
    rw [em, e, hs]
    cases hq : sn (j + 1) with
    | true => simp
    | false =>
      have : i ≠ j + 1 := by rintro rfl; rw [hq] at h3; cases h3
      have := em_new (a := a) (n := n) hp c (j + 1) (by omega) hq ⟨i, by omega, h2, h3⟩
      simp [this]
theorem nxt_em (l : List Pt) (r : List Nat) (n : Nat) : ∀ c i, nxtL l r n (i + c) = nxtL l r n i ++ em (rA r) (seenB l r n) (prvB l r n) n c i
  | 0, i => by simp [em]
  | c + 1, i => by
    rw [show i + (c + 1) = (i + 1) + c by omega, nxt_em l r n c (i + 1), nxtL, em]
    simp only [List.append_assoc]
/-- The sum over the sides of triangles. -/
def triS (f : Nat → Nat → Int) : List T3 → Int
  | [] => 0
  | t :: L => f t.1.toNat t.2.1.toNat + f t.2.1.toNat t.2.2.toNat + f t.2.2.toNat t.1.toNat + triS f L
theorem triS_app (f : Nat → Nat → Int) : ∀ a b : List T3, triS f (a ++ b) = triS f a + triS f b
  | [], b => by simp [triS]
  | t :: a, b => by simp only [List.cons_append, triS, triS_app f a b]; omega
/-- A ring's vertices with the first one behind the last. -/
def vtx (r : List Nat) (i : Nat) : Nat := if i = r.length then rA r 0 else rA r i
theorem vtx_mod {r : List Nat} {i : Nat} (h : i < r.length) : rA r ((i + 1) % r.length) = vtx r (i + 1) := by
  unfold vtx
  by_cases e : i + 1 = r.length
  · rw [if_pos e, e, Nat.mod_self]
  · rw [if_neg e, Nat.mod_eq_of_lt (by omega)]
theorem vtx_lt {r : List Nat} {i : Nat} (h : i < r.length) : vtx r i = rA r i := by unfold vtx; rw [if_neg (by omega)]
theorem triS_tri (l : List Pt) (r : List Nat) (n : Nat) (f : Nat → Nat → Int) : ∀ i, i ≤ r.length → triS f (triL l r n i) = dsum f (vtx r) (seenB l r n) n i
  | 0, _ => rfl
  | i + 1, h => by
    rw [triL, triS_app, triS_tri l r n f i (by omega), dsum]
    congr 1
    rw [vtx_mod (by omega), vtx_lt (i := i) (by omega)]
    split
    · simp [triS]
    · rfl
theorem em_vtx {r : List Nat} {sn pv : Nat → Bool} {n : Nat} : ∀ c i, i + c ≤ r.length → em (rA r) sn pv n c i = em (vtx r) sn pv n c i
  | 0, i, _ => rfl
  | c + 1, i, h => by rw [em, em, em_vtx c (i + 1) (by omega), vtx_lt (i := i) (by omega)]
theorem sfx_vtx {r : List Nat} : ∀ c i, i + c = r.length → sfx (vtx r) c i = r.drop i
  | 0, i, h => by simp only [sfx]; rw [List.drop_eq_nil_of_le (by omega)]
  | c + 1, i, h => by
    rw [sfx, sfx_vtx c (i + 1) (by omega), vtx_lt (i := i) (by omega), List.drop_eq_getElem_cons (i := i) (by omega)]
    congr 1
    simp [rA, List.getD, show i < r.length by omega]
theorem prv_succ {l : List Pt} {r : List Nat} {n i : Nat} (h : i + 1 < r.length) : prvB l r n (i + 1) = seenB l r n i := by
  unfold prvB
  congr 1
  rw [show i + 1 + r.length - 1 = i + r.length by omega, Nat.add_mod_right, Nat.mod_eq_of_lt (by omega)]
theorem prv_zero {l : List Pt} {r : List Nat} {n j : Nat} (h : j + 1 = r.length) : prvB l r n 0 = seenB l r n j := by
  unfold prvB
  congr 1
  rw [show 0 + r.length - 1 = j by omega, Nat.mod_eq_of_lt (by omega)]
/-- The next ring. -/
theorem nxt_ring {l : List Pt} {r : List Nat} {n : Nat} (hr : 0 < r.length) (h0 : ¬ (prvB l r n 0 = true ∧ seenB l r n 0 = true)) :
    ∃ T, nxtL l r n r.length = rA r 0 :: T
      ∧ (∀ P : Nat → Nat → Prop, (∀ i, i < r.length → seenB l r n i = false → P (rA r i) (vtx r (i + 1))) → (∀ i, i < r.length → prvB l r n i = false → seenB l r n i = true → P (rA r i) n) → (∀ i, i < r.length → prvB l r n i = true → seenB l r n i = false → P n (rA r i)) → chE P (rA r 0) (T ++ [rA r 0]))
      ∧ (∀ f : Nat → Nat → Int, (∀ x y, f y x = -f x y) → chS f (rA r 0) (T ++ [rA r 0]) = chS f (rA r 0) (r.tail ++ [rA r 0]) + triS f (triL l r n r.length))
      ∧ (∀ x ∈ T, x = n ∨ ∃ j, 1 ≤ j ∧ j < r.length ∧ x = rA r j)
      ∧ ((∃ i, i < r.length ∧ seenB l r n i = true) → n ∈ T) := by
  obtain ⟨m, hm⟩ : ∃ m, r.length = m + 1 := ⟨r.length - 1, by omega⟩
  have hp : ∀ i, i + 1 < r.length → prvB l r n (i + 1) = seenB l r n i := fun i h => prv_succ h
  have e1 : nxtL l r n r.length = em (rA r) (seenB l r n) (prvB l r n) n (m + 1) 0 := by
    have := nxt_em l r n (m + 1) 0
    rw [hm]; simpa [nxtL] using this
  rw [em_vtx _ _ (by omega)] at e1
  have v0 : vtx r 0 = rA r 0 := vtx_lt hr
  have vm : vtx r r.length = rA r 0 := by unfold vtx; rw [if_pos rfl]
  refine ⟨(if !prvB l r n 0 && seenB l r n 0 then [n] else []) ++ em (vtx r) (seenB l r n) (prvB l r n) n m 1, ?_, ?_, ?_, ?_, ?_⟩
  · rw [e1, em, v0]
    have : (!prvB l r n 0 || !seenB l r n 0) = true := by
      cases h1 : prvB l r n 0 <;> cases h2 : seenB l r n 0 <;> simp_all
    rw [if_pos this]
    simp
  · intro P h1 h2 h3
    have k1 : ∀ i, i < r.length → seenB l r n i = false → P (vtx r i) (vtx r (i + 1)) := fun i hi h => by rw [vtx_lt hi]; exact h1 i hi h
    have k2 : ∀ i, i < r.length → prvB l r n i = false → seenB l r n i = true → P (vtx r i) n := fun i hi h h' => by rw [vtx_lt hi]; exact h2 i hi h h'
    have k3 : ∀ i, i < r.length → prvB l r n i = true → seenB l r n i = false → P n (vtx r i) := fun i hi h h' => by rw [vtx_lt hi]; exact h3 i hi h h'
    have hw : ∀ j, j + 1 = r.length → seenB l r n j = true → P n (vtx r r.length) := by
      intro j hj hs
      have q0 := prv_zero (l := l) (n := n) hj
      rw [vm]
      refine h3 0 hr (by rw [q0]; exact hs) ?_
      cases h : seenB l r n 0 with
      | true => exact absurd ⟨by rw [q0]; exact hs, h⟩ h0
      | false => rfl
    have := em_ch hp hw k1 k2 k3 m 0 (by omega)
    rw [vm, v0] at this
    cases hs : seenB l r n 0 with
    | true =>
      have hq : prvB l r n 0 = false := by
        rcases Bool.eq_false_or_eq_true (prvB l r n 0) with h | h
        · exact absurd ⟨h, by assumption⟩ h0
        · exact h
      rw [hq]; rw [hs] at this
      simpa [chE] using ⟨h2 0 hr hq hs, by simpa using this⟩
    | false => rw [hs] at this; simpa using this
  · intro f hf
    have := em_sum (a := vtx r) (n := n) hf hp m 0 (by omega)
    rw [vm, v0, Nat.zero_add, sfx_vtx m 1 (by omega)] at this
    rw [triS_tri l r n f _ (Nat.le_refl _), ← List.drop_one]
    cases hs : seenB l r n 0 with
    | true =>
      have hq : prvB l r n 0 = false := by
        rcases Bool.eq_false_or_eq_true (prvB l r n 0) with h | h
        · exact absurd ⟨h, by assumption⟩ h0
        · exact h
      rw [hq]; rw [hs] at this
      simp only [Bool.not_false, Bool.and_true, if_true, ite_true, List.singleton_append, List.cons_append, List.nil_append, chS] at this ⊢
      have z : dsum f (vtx r) (seenB l r n) n 0 = 0 := rfl
      omega
    | false =>
      rw [hs] at this
      have z : dsum f (vtx r) (seenB l r n) n 0 = 0 := rfl
      simp only [Bool.and_false, Bool.false_eq_true, if_false, ite_false, List.nil_append] at this ⊢
      omega
  · intro x hx
    rw [List.mem_append] at hx
    rcases hx with hx | hx
    · split at hx
      · exact .inl (List.mem_singleton.1 hx)
      · cases hx
    · rcases em_mem _ _ hx with q | ⟨j, h1, h2, h3⟩
      · exact .inl q
      · exact .inr ⟨j, h1, by omega, by rw [h3, vtx_lt (by omega)]⟩
  · rintro ⟨i, hi, hs⟩
    cases hz : seenB l r n 0 with
    | true =>
      have hq : prvB l r n 0 = false := by
        rcases Bool.eq_false_or_eq_true (prvB l r n 0) with h | h
        · exact absurd ⟨h, by assumption⟩ h0
        · exact h
      rw [hq]; simp
    | false =>
      have : i ≠ 0 := by rintro rfl; rw [hz] at hs; cases hs
      have := em_new (a := vtx r) (n := n) hp m 0 (by omega) hz ⟨i, by omega, hi, hs⟩
      simp [this]


/-- Ahead in the order of points. -/
def lexp (x y : Int) : Prop := 0 < x ∨ (x = 0 ∧ 0 < y)
theorem lexp_zero {x y a : Int} (h : lexp x y) (ha : 0 ≤ a) : 0 ≤ a * x ∧ (a * x = 0 → 0 ≤ a * y ∧ (a ≠ 0 → x = 0 ∧ 0 < a * y)) := by
  rcases h with h | ⟨h, h2⟩
  · refine ⟨Int.mul_nonneg ha (by omega), fun e => ?_⟩
    rcases Int.mul_eq_zero.1 e with q | q
    · subst q; simp
    · omega
  · subst h
    refine ⟨by simp, fun _ => ⟨Int.mul_nonneg ha (by omega), fun hn => ⟨rfl, Int.mul_pos (by omega) h2⟩⟩⟩
/-- No sum of vectors ahead is nothing. -/
theorem lexC {p1 p2 q1 q2 r1 r2 a b c : Int} (hp : lexp p1 p2) (hq : lexp q1 q2) (hr : lexp r1 r2) (ha : 0 ≤ a) (hb : 0 ≤ b) (hc : 0 ≤ c) (e1 : a * p1 + b * q1 + c * r1 = 0) (e2 : a * p2 + b * q2 + c * r2 = 0) : a = 0 ∧ b = 0 ∧ c = 0 := by
  obtain ⟨a1, a2⟩ := lexp_zero hp ha
  obtain ⟨b1, b2⟩ := lexp_zero hq hb
  obtain ⟨c1, c2⟩ := lexp_zero hr hc
  obtain ⟨a3, a4⟩ := a2 (by omega)
  obtain ⟨b3, b4⟩ := b2 (by omega)
  obtain ⟨c3, c4⟩ := c2 (by omega)
  refine ⟨?_, ?_, ?_⟩
  · rcases Int.lt_trichotomy a 0 with q | q | q
    · omega
    · exact q
    · have := (a4 (by omega)).2; omega
  · rcases Int.lt_trichotomy b 0 with q | q | q
    · omega
    · exact q
    · have := (b4 (by omega)).2; omega
  · rcases Int.lt_trichotomy c 0 with q | q | q
    · omega
    · exact q
    · have := (c4 (by omega)).2; omega
theorem lexp_sq {x y : Int} (h : lexp x y) : 0 < x * x + y * y := by
  have s1 := sq_nonneg x
  have s2 := sq_nonneg y
  rcases h with h | ⟨_, h⟩
  · have := Int.mul_pos h h; omega
  · have := Int.mul_pos h h; omega
/-- Vectors ahead on one line have one direction. -/
theorem lexp_dot {p1 p2 q1 q2 : Int} (hp : lexp p1 p2) (hq : lexp q1 q2) (h : p1 * q2 - p2 * q1 = 0) : 0 < p1 * q1 + p2 * q2 := by
  rcases Int.lt_or_le 0 (p1 * q1 + p2 * q2) with g | g
  · exact g
  · exfalso
    have sq := lexp_sq hp
    have := lexC hp hq hq (a := -(p1 * q1 + p2 * q2)) (b := p1 * p1 + p2 * p2) (c := 0) (by omega) (by omega) (by omega)
      (by have : -(p1 * q1 + p2 * q2) * p1 + (p1 * p1 + p2 * p2) * q1 + 0 * q1 = -(p2 * (p1 * q2 - p2 * q1)) := by grind
          rw [this, h]; simp)
      (by have : -(p1 * q1 + p2 * q2) * p2 + (p1 * p1 + p2 * p2) * q2 + 0 * q2 = p1 * (p1 * q2 - p2 * q1) := by grind
          rw [this, h]; simp)
    omega
theorem mul_pos_of {a b c : Int} (h : a * b = c) (hb : 0 < b) (hc : 0 ≤ c) : 0 ≤ a := by
  rcases Int.lt_or_le a 0 with q | q
  · have := Int.mul_neg_of_neg_of_pos q hb; omega
  · exact q
theorem mul_pos_of' {a b c : Int} (h : a * b = c) (hb : 0 < b) (hc : 0 < c) : 0 < a := by
  rcases Int.lt_or_le 0 a with q | q
  · exact q
  · have : a * b ≤ 0 * b := Int.mul_le_mul_of_nonneg_right q (by omega)
    omega
theorem mul_nn {a b : Int} (ha : 0 ≤ a) (hb : b ≤ 0) : a * b ≤ 0 := by
  have := Int.mul_nonneg ha (show 0 ≤ -b by omega)
  rw [Int.mul_neg] at this; omega
theorem mul_np {a b : Int} (ha : a ≤ 0) (hb : 0 ≤ b) : a * b ≤ 0 := by rw [Int.mul_comm]; exact mul_nn hb ha
theorem mul_nn' {a b : Int} (ha : a ≤ 0) (hb : b ≤ 0) : 0 ≤ a * b := by
  have := Int.mul_nonneg (show 0 ≤ -a by omega) (show 0 ≤ -b by omega)
  rw [Int.neg_mul_neg] at this; exact this
theorem mul_pp' {a b : Int} (ha : a < 0) (hb : b < 0) : 0 < a * b := by
  have := Int.mul_pos (show 0 < -a by omega) (show 0 < -b by omega)
  rw [Int.neg_mul_neg] at this; exact this

/-- New sides at a corner. -/
theorem tan2 {t u v n q : Pt} (h1 : 0 ≤ turn t u q) (h2 : 0 ≤ turn u v q) (h3 : 0 ≤ turn t u n) (h4 : turn u v n < 0) (h5 : 0 < turn u v t) : 0 ≤ turn u n q := by
  have e : turn u n q * turn u v t = (-turn u v n) * turn t u q + turn u v q * turn t u n := by unfold turn; grind
  exact mul_pos_of e h5 (Int.add_nonneg (Int.mul_nonneg (by omega) h1) (Int.mul_nonneg h2 h3))
theorem tan3 {t u v n q : Pt} (h1 : 0 ≤ turn t u q) (h2 : 0 ≤ turn u v q) (h3 : turn t u n < 0) (h4 : 0 ≤ turn u v n) (h5 : 0 < turn u v t) : 0 ≤ turn n u q := by
  have e : turn n u q * turn u v t = turn u v n * turn t u q + turn u v q * (-turn t u n) := by unfold turn; grind
  exact mul_pos_of e h5 (Int.add_nonneg (Int.mul_nonneg h4 h1) (Int.mul_nonneg h2 (by omega)))
def dotP (u t v : Pt) : Int := (t.1 - u.1) * (v.1 - u.1) + (t.2 - u.2) * (v.2 - u.2)
theorem dot_turn (t u v q : Pt) : turn u t q * sqd u v = dotP u t v * turn u v q + turn u t v * dotP u q v := by unfold turn sqd dotP; grind
theorem sqd_pos {a b : Pt} (h : a ≠ b) : 0 < sqd a b := by
  have := sqd_nonneg a b
  rcases Int.lt_or_le 0 (sqd a b) with q | q
  · exact q
  · exact absurd (sqd_eq_zero (by omega)) h
/-- A corner that is a spike: all is on one line. -/
theorem spike {t u v : Pt} (htu : t ≠ u) (huv : u ≠ v) (h0 : turn u v t = 0) : dotP u t v ≠ 0 ∧
    (0 < dotP u t v → ∀ q, 0 ≤ turn t u q → 0 ≤ turn u v q → turn u v q = 0) ∧ (dotP u t v < 0 → ∀ q, (0 ≤ turn t u q → 0 ≤ turn u v q) ∧ (turn t u q < 0 → turn u v q < 0)) := by
  have k0 : turn u t v = 0 := by have : turn u t v = -turn u v t := by unfold turn; grind
                                 omega
  have sv := sqd_pos huv
  have key : ∀ q, turn t u q * sqd u v = -(dotP u t v * turn u v q) := by
    intro q
    have e := dot_turn t u v q
    have : turn t u q = -turn u t q := by unfold turn; grind
    rw [k0, Int.zero_mul] at e
    rw [this, Int.neg_mul]
    omega
  refine ⟨fun hd => ?_, fun hd q g1 g2 => ?_, fun hd q => ⟨fun g => ?_, fun g => ?_⟩⟩
  · have e : dotP u t v * dotP u t v + turn u v t * turn u v t = sqd u t * sqd u v := by unfold dotP turn sqd; grind
    rw [hd, h0] at e
    have st := sqd_pos (Ne.symm htu)
    have := Int.mul_pos st sv
    omega
  · have e := key q
    have p1 := Int.mul_nonneg g1 (Int.le_of_lt sv)
    have p2 := Int.mul_nonneg (Int.le_of_lt hd) g2
    have : dotP u t v * turn u v q = 0 := by omega
    rcases Int.mul_eq_zero.1 this with r | r
    · omega
    · exact r
  · have e := key q
    have p1 := Int.mul_nonneg g (Int.le_of_lt sv)
    rcases Int.lt_or_le (turn u v q) 0 with r | r
    · have := mul_pp' hd r; omega
    · exact r
  · have e := key q
    have p1 := Int.mul_neg_of_neg_of_pos g sv
    rcases Int.lt_or_le (turn u v q) 0 with r | r
    · exact r
    · have := mul_np (Int.le_of_lt hd) r; omega

/-! points in order -/
theorem asc_lt {l : List Pt} (h : Asc l) {i j : Nat} (hij : i < j) (hj : j < l.length) : ltP (pA l i) (pA l j) = true := by
  unfold Asc at h
  rw [List.pairwise_iff_getElem] at h
  have := h i j (by omega) hj hij
  have e0 : pA l i = l[i] := by simp [pA, List.getD, show i < l.length by omega]
  have e1 : pA l j = l[j] := by simp [pA, List.getD, hj]
  rw [e0, e1]; exact this
theorem asc_lexp {l : List Pt} (h : Asc l) {i j : Nat} (hij : i < j) (hj : j < l.length) : lexp ((pA l j).1 - (pA l i).1) ((pA l j).2 - (pA l i).2) := lt_pos (asc_lt h hij hj)
theorem asc_ne {l : List Pt} (h : Asc l) {i j : Nat} (hij : i ≠ j) (hi : i < l.length) (hj : j < l.length) : pA l i ≠ pA l j := by
  rcases Nat.lt_or_ge i j with q | q
  · exact ltP_ne (asc_lt h q hj)
  · exact (ltP_ne (asc_lt h (show j < i by omega) hi)).symm
/-- A side with all of the first k points to its left, and none between its ends. -/
def gE (l : List Pt) (k x y : Nat) : Prop := x < k ∧ y < k ∧ x ≠ y ∧ (∀ q, q < k → 0 ≤ turn (pA l x) (pA l y) (pA l q)) ∧ (∀ q, q < k → turn (pA l x) (pA l y) (pA l q) = 0 → ¬ (x < q ∧ q < y) ∧ ¬ (y < q ∧ q < x))
/-- A ring around the first k points. -/
def rInv (l : List Pt) (k : Nat) (r : List Nat) : Prop := ∃ T, r = 0 :: T ∧ 0 ∉ T ∧ chE (gE l k) 0 (T ++ [0]) ∧ (k - 1) ∈ T
theorem ring_at {P : Nat → Nat → Prop} {s : Nat} {T : List Nat} (h : chE P s (T ++ [s])) : ∀ i, i < (s :: T).length → P (rA (s :: T) i) (vtx (s :: T) (i + 1)) := by
  intro i hi
  have := chE_at h i (by simpa using hi)
  have e1 : (s :: (T ++ [s])).getD i 0 = rA (s :: T) i := by
    simp only [rA, List.getD]
    rw [show s :: (T ++ [s]) = (s :: T) ++ [s] by simp, List.getElem?_append_left hi]
  have e2 : (s :: (T ++ [s])).getD (i + 1) 0 = vtx (s :: T) (i + 1) := by
    unfold vtx
    split
    · rename_i e
      rw [show s :: (T ++ [s]) = (s :: T) ++ [s] by simp, e]
      simp [rA]
    · rename_i e
      simp only [rA, List.getD]
      rw [show s :: (T ++ [s]) = (s :: T) ++ [s] by simp, List.getElem?_append_left (by omega)]
  rw [e1, e2] at this
  exact this
theorem seen_vtx {l : List Pt} {r : List Nat} {n i : Nat} (h : i < r.length) : seenB l r n i = decide (turn (pA l (rA r i)) (pA l (vtx r (i + 1))) (pA l n) < 0) := by
  unfold seenB; rw [vtx_mod h]
theorem seen_t {l : List Pt} {r : List Nat} {n i : Nat} (h : i < r.length) (hs : seenB l r n i = true) : turn (pA l (rA r i)) (pA l (vtx r (i + 1))) (pA l n) < 0 := by
  rw [seen_vtx h] at hs; exact of_decide_eq_true hs
theorem seen_f {l : List Pt} {r : List Nat} {n i : Nat} (h : i < r.length) (hs : seenB l r n i = false) : 0 ≤ turn (pA l (rA r i)) (pA l (vtx r (i + 1))) (pA l n) := by
  rw [seen_vtx h] at hs; have := of_decide_eq_false hs; omega
/-- The vertex before. -/
theorem prv_ex (l : List Pt) {r : List Nat} (n : Nat) {i : Nat} (h : i < r.length) : ∃ j, j < r.length ∧ vtx r (j + 1) = rA r i ∧ prvB l r n i = seenB l r n j := by
  refine ⟨(i + r.length - 1) % r.length, Nat.mod_lt _ (by omega), ?_, rfl⟩
  rcases Nat.eq_zero_or_pos i with z | z
  · subst z
    rw [show 0 + r.length - 1 = r.length - 1 by omega, Nat.mod_eq_of_lt (by omega), show r.length - 1 + 1 = r.length by omega]
    unfold vtx; rw [if_pos rfl]
  · rw [show i + r.length - 1 = (i - 1) + r.length by omega, Nat.add_mod_right, Nat.mod_eq_of_lt (by omega), show i - 1 + 1 = i by omega]
    exact vtx_lt h
/-- Three points that are not on one line are there. -/
def offL (l : List Pt) (k : Nat) : Prop := ∃ N, N < k ∧ 2 ≤ N ∧ turn (pA l 0) (pA l 1) (pA l N) ≠ 0
theorem off_ex {l : List Pt} {k u v : Nat} (h : offL l k) (hk : k ≤ l.length) (hl : Asc l) (hu : u < k) (hv : v < k) (huv : u ≠ v) : ¬ ∀ q, q < k → turn (pA l u) (pA l v) (pA l q) = 0 := by
  intro hq
  obtain ⟨N, h1, h2, h3⟩ := h
  exact h3 (col_three (asc_ne hl huv (by omega) (by omega)) (hq 0 (by omega)) (hq 1 (by omega)) (hq N h1))
/-- The corners of a ring. -/
theorem corner {l : List Pt} {k t u v : Nat} (hl : Asc l) (hk : k ≤ l.length) (ho : offL l k) (h1 : gE l k t u) (h2 : gE l k u v) {n : Pt}
    (hn : (0 ≤ turn (pA l t) (pA l u) n ∧ turn (pA l u) (pA l v) n < 0) ∨ (turn (pA l t) (pA l u) n < 0 ∧ 0 ≤ turn (pA l u) (pA l v) n)) : 0 < turn (pA l u) (pA l v) (pA l t) := by
  have h0 := h2.2.2.2.1 t h1.1
  rcases Int.lt_or_le 0 (turn (pA l u) (pA l v) (pA l t)) with q | q
  · exact q
  · exfalso
    have n1 := asc_ne hl h1.2.2.1 (by have := h1.1; omega) (by have := h1.2.1; omega)
    have n2 := asc_ne hl h2.2.2.1 (by have := h2.1; omega) (by have := h2.2.1; omega)
    obtain ⟨s1, s2, s3⟩ := spike n1 n2 (by omega)
    rcases Int.lt_trichotomy (dotP (pA l u) (pA l t) (pA l v)) 0 with d | d | d
    · obtain ⟨g1, g2⟩ := s3 d n
      rcases hn with ⟨a, b⟩ | ⟨a, b⟩
      · have := g1 a; omega
      · have := g2 a; omega
    · exact s1 d
    · exact off_ex ho hk hl h2.1 h2.2.1 h2.2.2.1 fun q hq => s2 d _ (h1.2.2.2.1 q hq) (h2.2.2.2.1 q hq)
/-- No two vectors ahead that are seen from one ahead. -/
theorem first_corner {t u v n : Pt} (ht : lexp (t.1 - u.1) (t.2 - u.2)) (hv : lexp (v.1 - u.1) (v.2 - u.2)) (hn : lexp (n.1 - u.1) (n.2 - u.2)) (h0 : 0 ≤ turn u v t) (h1 : turn t u n < 0) (h2 : turn u v n < 0) : False := by
  have := lexC ht hv hn (a := -turn u v n) (b := -turn t u n) (c := turn u v t) (by omega) (by omega) h0 (by unfold turn; grind) (by unfold turn; grind)
  omega
theorem last_corner {t u v n : Pt} (ht : lexp (u.1 - t.1) (u.2 - t.2)) (hv : lexp (u.1 - v.1) (u.2 - v.2)) (hn : lexp (n.1 - u.1) (n.2 - u.2)) (h0 : 0 ≤ turn u v t) (h1 : 0 ≤ turn t u n) (h2 : 0 ≤ turn u v n) : turn u v t = 0 ∧ 0 < dotP u t v := by
  have := lexC ht hv hn (a := turn u v n) (b := turn t u n) (c := turn u v t) (by omega) (by omega) h0 (by unfold turn; grind) (by unfold turn; grind)
  refine ⟨this.2.2, ?_⟩
  have := lexp_dot ht hv (by have e : (u.1 - t.1) * (u.2 - v.2) - (u.2 - t.2) * (u.1 - v.1) = -turn u v t := by unfold turn; grind
                             omega)
  have e : dotP u t v = (u.1 - t.1) * (u.1 - v.1) + (u.2 - t.2) * (u.2 - v.2) := by unfold dotP; grind
  omega
theorem gE_more {l : List Pt} {n x y : Nat} (h : gE l n x y) (hn : 0 ≤ turn (pA l x) (pA l y) (pA l n)) : gE l (n + 1) x y := by
  obtain ⟨h1, h2, h3, h4, h5⟩ := h
  refine ⟨by omega, by omega, h3, fun q hq => ?_, fun q hq e => ?_⟩
  · rcases Nat.lt_or_ge q n with c | c
    · exact h4 q c
    · rw [show q = n by omega]; exact hn
  · rcases Nat.lt_or_ge q n with c | c
    · exact h5 q c e
    · omega
theorem par_same {u v n q : Pt} (hn : lexp (n.1 - u.1) (n.2 - u.2)) (hq : lexp (q.1 - u.1) (q.2 - u.2)) (h : turn u n q = 0) (h1 : turn u v n < 0) : turn u v q < 0 := by
  rcases Int.lt_or_le (turn u v q) 0 with g | g
  · exact g
  · exfalso
    have := lexC hq hn hn (a := -turn u v n) (b := turn u v q) (c := 0) (by omega) g (by omega)
      (by have : -turn u v n * (q.1 - u.1) + turn u v q * (n.1 - u.1) + 0 * (n.1 - u.1) = (v.1 - u.1) * turn u n q := by unfold turn; grind
          rw [this, h]; simp)
      (by have : -turn u v n * (q.2 - u.2) + turn u v q * (n.2 - u.2) + 0 * (n.2 - u.2) = (v.2 - u.2) * turn u n q := by unfold turn; grind
          rw [this, h]; simp)
    omega
/-- One point more. -/
theorem ring_step {l : List Pt} {n : Nat} {r : List Nat} (hl : Asc l) (hn : n < l.length) (ho : offL l n) (hr : rInv l n r) : rInv l (n + 1) (nxtL l r n r.length) ∧ (∃ i, i < r.length ∧ seenB l r n i = true) ∧ ¬ (prvB l r n 0 = true ∧ seenB l r n 0 = true) ∧ (∀ i, i < r.length → gE l n (rA r i) (vtx r (i + 1))) := by
  obtain ⟨T, rfl, hT, hc, hm⟩ := hr
  have hat := ring_at hc
  generalize hr : 0 :: T = r at *
  have hlen : 0 < r.length := by rw [← hr]; simp
  have r0 : rA r 0 = 0 := by rw [← hr]; rfl
  have hnz : ∀ j, 1 ≤ j → j < r.length → rA r j ≠ 0 := by
    intro j h1 h2 e
    apply hT
    obtain ⟨i, rfl⟩ : ∃ i, j = i + 1 := ⟨j - 1, by omega⟩
    rw [← hr] at e h2
    simp only [rA, List.getD_cons_succ] at e
    have : i < T.length := by simpa using h2
    rw [← e]; simp [List.getD, this]
  have lex : ∀ x, x < n → lexp ((pA l n).1 - (pA l x).1) ((pA l n).2 - (pA l x).2) := fun x hx => asc_lexp hl hx hn
  have h0 : ¬ (prvB l r n 0 = true ∧ seenB l r n 0 = true) := by
    rintro ⟨p1, p2⟩
    obtain ⟨j, j1, j2, j3⟩ := prv_ex l n hlen
    rw [j3] at p1
    have g1 := hat j j1
    have g2 := hat 0 hlen
    have s1 := seen_t j1 p1
    have s2 := seen_t hlen p2
    rw [j2, r0] at g1 s1
    rw [r0] at g2 s2
    exact first_corner (asc_lexp hl (by have := g1.2.2.1; omega) (by have := g1.1; omega)) (asc_lexp hl (by have := g2.2.2.1; omega) (by have := g2.2.1; omega)) (lex 0 g1.2.1) (g2.2.2.2.1 _ g1.1) s1 s2
  have hs : ∃ i, i < r.length ∧ seenB l r n i = true := by
    have hm' : ∃ i, i < r.length ∧ rA r i = n - 1 := by
      have : n - 1 ∈ r := by rw [← hr]; simp [hm]
      obtain ⟨i, h1, h2⟩ := List.getElem_of_mem this
      exact ⟨i, h1, by simp [rA, List.getD, h1, h2]⟩
    obtain ⟨i, i1, i2⟩ := hm'
    cases p2 : seenB l r n i with
    | true => exact ⟨i, i1, p2⟩
    | false =>
      obtain ⟨j, j1, j2, j3⟩ := prv_ex l n i1
      cases p1 : seenB l r n j with
      | true => exact ⟨j, j1, p1⟩
      | false =>
        exfalso
        have g1 := hat j j1
        have g2 := hat i i1
        have s1 := seen_f j1 p1
        have s2 := seen_f i1 p2
        rw [j2] at g1 s1
        have b1 := g1.1
        have b2 := g1.2.1
        have b3 := g1.2.2.1
        have b4 := g2.2.1
        have b5 := g2.2.2.1
        obtain ⟨k1, k2⟩ := last_corner (asc_lexp hl (show rA r j < rA r i by omega) (by omega)) (asc_lexp hl (show vtx r (i + 1) < rA r i by omega) (by omega)) (lex _ b2) (g2.2.2.2.1 _ b1) s1 s2
        obtain ⟨q1, q2, q3⟩ := spike (asc_ne hl b3 (by omega) (by omega)) (asc_ne hl b5 (by omega) (by omega)) k1
        exact off_ex ho (by omega) hl b2 b4 b5 fun q hq => q2 k2 _ (g1.2.2.2.1 q hq) (g2.2.2.2.1 q hq)
  refine ⟨?_, hs, h0, hat⟩
  obtain ⟨T', e, f1, f2, f3, f4⟩ := nxt_ring hlen h0
  rw [r0] at e f1 f2
  refine ⟨T', e, fun hz => ?_, f1 _ ?_ ?_ ?_, f4 hs⟩
  · rcases f3 0 hz with q | ⟨j, j1, j2, j3⟩
    · obtain ⟨N, a, b, c⟩ := ho; omega
    · exact hnz j j1 j2 j3.symm
  · intro i hi h
    exact gE_more (hat i hi) (seen_f hi h)
  · intro i hi h1 h2
    obtain ⟨j, j1, j2, j3⟩ := prv_ex l n hi
    rw [j3] at h1
    have g1 := hat j j1
    have g2 := hat i hi
    have s1 := seen_f j1 h1
    have s2 := seen_t hi h2
    rw [j2] at g1 s1
    have cr := corner hl (by omega) ho g1 g2 (.inl ⟨s1, s2⟩)
    have b2 := g1.2.1
    refine ⟨by omega, by omega, by omega, fun q hq => ?_, fun q hq e => ?_⟩
    · rcases Nat.lt_or_ge q n with c | c
      · exact tan2 (g1.2.2.2.1 q c) (g2.2.2.2.1 q c) s1 s2 cr
      · rw [show q = n by omega]; unfold turn; grind
    · refine ⟨fun ⟨x1, x2⟩ => ?_, by omega⟩
      have := par_same (lex _ b2) (asc_lexp hl x1 (by omega)) e s2
      have := g2.2.2.2.1 q (by omega)
      omega
  · intro i hi h1 h2
    obtain ⟨j, j1, j2, j3⟩ := prv_ex l n hi
    rw [j3] at h1
    have g1 := hat j j1
    have g2 := hat i hi
    have s1 := seen_t j1 h1
    have s2 := seen_f hi h2
    rw [j2] at g1 s1
    have cr := corner hl (by omega) ho g1 g2 (.inr ⟨s1, s2⟩)
    have b2 := g1.2.1
    refine ⟨by omega, by omega, by omega, fun q hq => ?_, fun q hq e => ?_⟩
    · rcases Nat.lt_or_ge q n with c | c
      · exact tan3 (g1.2.2.2.1 q c) (g2.2.2.2.1 q c) s1 s2 cr
      · rw [show q = n by omega]; unfold turn; grind
    · refine ⟨by omega, fun ⟨x1, x2⟩ => ?_⟩
      have e' : turn (pA l (rA r i)) (pA l n) (pA l q) = 0 := by
        have : turn (pA l (rA r i)) (pA l n) (pA l q) = -turn (pA l n) (pA l (rA r i)) (pA l q) := by unfold turn; grind
        omega
      have fl : ∀ z : Pt, turn (pA l (rA r j)) (pA l (rA r i)) z = -turn (pA l (rA r i)) (pA l (rA r j)) z := fun z => by unfold turn; grind
      have gq := g1.2.2.2.1 q (by omega)
      have : 0 < turn (pA l (rA r i)) (pA l (rA r j)) (pA l n) := by have := fl (pA l n); omega
      have key := lexC (asc_lexp hl x1 (by omega)) (lex _ b2) (lex _ b2) (a := turn (pA l (rA r i)) (pA l (rA r j)) (pA l n)) (b := turn (pA l (rA r j)) (pA l (rA r i)) (pA l q)) (c := 0) (by omega) gq (by omega)
        (by have : turn (pA l (rA r i)) (pA l (rA r j)) (pA l n) * ((pA l q).1 - (pA l (rA r i)).1) + turn (pA l (rA r j)) (pA l (rA r i)) (pA l q) * ((pA l n).1 - (pA l (rA r i)).1) + 0 * ((pA l n).1 - (pA l (rA r i)).1) = -(((pA l (rA r j)).1 - (pA l (rA r i)).1) * turn (pA l (rA r i)) (pA l n) (pA l q)) := by unfold turn; grind
            rw [this, e']; simp)
        (by have : turn (pA l (rA r i)) (pA l (rA r j)) (pA l n) * ((pA l q).2 - (pA l (rA r i)).2) + turn (pA l (rA r j)) (pA l (rA r i)) (pA l q) * ((pA l n).2 - (pA l (rA r i)).2) + 0 * ((pA l n).2 - (pA l (rA r i)).2) = -(((pA l (rA r j)).2 - (pA l (rA r i)).2) * turn (pA l (rA r i)) (pA l n) (pA l q)) := by unfold turn; grind
            rw [this, e']; simp)
      omega


/-! the ring of the first points, all on one line -/
def r0L (N : Nat) : List Nat := List.range N ++ (List.range (N - 2)).map fun i => N - 2 - i
def bv (N i : Nat) : Nat := if i < N then i else 2 * N - 2 - i
theorem r0_len {N : Nat} (h : 2 ≤ N) : (r0L N).length = 2 * N - 2 := by simp [r0L]; omega
theorem r0_at {N i : Nat} (h : 2 ≤ N) (hi : i < 2 * N - 2) : rA (r0L N) i = bv N i := by
  unfold bv
  split
  · rename_i c
    simp only [rA, r0L, List.getD]
    rw [List.getElem?_append_left (by simpa using c)]
    simp [c]
  · rename_i c
    simp only [rA, r0L, List.getD]
    rw [List.getElem?_append_right (by simp; omega)]
    have : i - N < N - 2 := by omega
    simp [this]
    omega
theorem r0_vtx {N i : Nat} (h : 2 ≤ N) (hi : i ≤ 2 * N - 2) : vtx (r0L N) i = bv N i := by
  unfold vtx
  rw [r0_len h]
  split
  · rename_i e
    rw [r0_at h (by omega), e]
    unfold bv
    rw [if_pos (by omega), if_neg (by omega)]; omega
  · exact r0_at h (by omega)
theorem line_sgn {l : List Pt} {N i j : Nat} (hl : Asc l) (hN : 2 ≤ N) (hn : N < l.length) (hon : onL l N) (hij : i < j) (hj : j < N) :
    (0 < turn (pA l 0) (pA l 1) (pA l N) → 0 < turn (pA l i) (pA l j) (pA l N)) ∧ (turn (pA l 0) (pA l 1) (pA l N) < 0 → turn (pA l i) (pA l j) (pA l N) < 0) := by
  have ne : pA l 0 ≠ pA l 1 := asc_ne hl (by omega) (by omega) (by omega)
  have c1 := col_three ne (hon i (by omega)) (hon j hj) (hon 0 (by omega))
  have c2 := col_three ne (hon i (by omega)) (hon j hj) (hon 1 (by omega))
  have x1 := asc_lexp hl (show 0 < 1 by omega) (show 1 < l.length by omega)
  have x2 := asc_lexp hl hij (show j < l.length by omega)
  generalize pA l i = a at *
  generalize pA l j = b at *
  generalize pA l 0 = o at *
  generalize pA l 1 = d at *
  generalize pA l N = n at *
  have z : (b.1 - a.1) * (d.2 - o.2) - (b.2 - a.2) * (d.1 - o.1) = 0 := by
    have : (b.1 - a.1) * (d.2 - o.2) - (b.2 - a.2) * (d.1 - o.1) = turn a b d - turn a b o := by unfold turn; grind
    omega
  have dd := lexp_dot x2 x1 z
  have sq := lexp_sq x1
  have e : turn a b n * ((d.1 - o.1) * (d.1 - o.1) + (d.2 - o.2) * (d.2 - o.2)) = ((b.1 - a.1) * (d.1 - o.1) + (b.2 - a.2) * (d.2 - o.2)) * turn o d n + turn a b o * ((d.1 - o.1) * (d.1 - o.1) + (d.2 - o.2) * (d.2 - o.2)) + ((b.1 - a.1) * (d.2 - o.2) - (b.2 - a.2) * (d.1 - o.1)) * ((d.1 - o.1) * (n.1 - o.1) + (d.2 - o.2) * (n.2 - o.2)) := by unfold turn; grind
  rw [c1, z, Int.zero_mul, Int.zero_mul, Int.add_zero, Int.add_zero] at e
  constructor
  · intro h; exact mul_pos_of' e sq (Int.mul_pos dd h)
  · intro h
    have := mul_pos_of' (a := -turn a b n) (c := ((b.1 - a.1) * (d.1 - o.1) + (b.2 - a.2) * (d.2 - o.2)) * (-turn o d n)) (by rw [Int.neg_mul, Int.mul_neg, e]) sq (Int.mul_pos dd (by omega))
    omega
theorem line_zero {l : List Pt} {N i j q : Nat} (hl : Asc l) (hN : 2 ≤ N) (hn : N < l.length) (hon : onL l N) (hi : i < N) (hj : j < N) (hq : q < N) : turn (pA l i) (pA l j) (pA l q) = 0 :=
  col_three (asc_ne hl (show 0 ≠ 1 by omega) (by omega) (by omega)) (hon i hi) (hon j hj) (hon q hq)
theorem turn_sw (a b c : Pt) : turn b a c = -turn a b c := by unfold turn; grind
theorem ring_base {l : List Pt} {N : Nat} (hl : Asc l) (hN : 2 ≤ N) (hn : N < l.length) (hon : onL l N) (hoff : turn (pA l 0) (pA l 1) (pA l N) ≠ 0) :
    rInv l (N + 1) (nxtL l (r0L N) N (r0L N).length) ∧ (∃ i, i < (r0L N).length ∧ seenB l (r0L N) N i = true) ∧ ¬ (prvB l (r0L N) N 0 = true ∧ seenB l (r0L N) N 0 = true) := by
  have hlen := r0_len hN
  have lz := fun i j q hi hj hq => line_zero (i := i) (j := j) (q := q) hl hN hn hon hi hj hq
  have ls := fun i j hij hj => line_sgn (i := i) (j := j) hl hN hn hon hij hj
  -- what is seen
  have up : ∀ i, i + 1 < N → seenB l (r0L N) N i = decide (turn (pA l 0) (pA l 1) (pA l N) < 0) := by
    intro i hi
    rw [seen_vtx (by omega), r0_at hN (by omega), r0_vtx hN (by omega)]
    unfold bv
    rw [if_pos (by omega), if_pos hi]
    obtain ⟨s1, s2⟩ := ls i (i + 1) (by omega) hi
    rcases Int.lt_trichotomy (turn (pA l 0) (pA l 1) (pA l N)) 0 with s | s | s
    · rw [decide_eq_true s, decide_eq_true (s2 s)]
    · exact absurd s hoff
    · have := s1 s; rw [decide_eq_false (by omega), decide_eq_false (by omega)]
  have dn : ∀ i, N ≤ i + 1 → i < 2 * N - 2 → seenB l (r0L N) N i = decide (0 < turn (pA l 0) (pA l 1) (pA l N)) := by
    intro i hi h2
    rw [seen_vtx (by omega), r0_at hN (by omega), r0_vtx hN (by omega)]
    have e1 : bv N i = 2 * N - 3 - i + 1 := by unfold bv; split <;> omega
    have e2 : bv N (i + 1) = 2 * N - 3 - i := by unfold bv; rw [if_neg (by omega)]; omega
    rw [e1, e2, turn_sw]
    obtain ⟨s1, s2⟩ := ls (2 * N - 3 - i) (2 * N - 3 - i + 1) (by omega) (by omega)
    rcases Int.lt_trichotomy (turn (pA l 0) (pA l 1) (pA l N)) 0 with s | s | s
    · have := s2 s; rw [decide_eq_false (by omega), decide_eq_false (by omega)]
    · exact absurd s hoff
    · have := s1 s; rw [decide_eq_true s, decide_eq_true (by omega)]
  have pz : prvB l (r0L N) N 0 = seenB l (r0L N) N (2 * N - 3) := prv_zero (by rw [hlen]; omega)
  have ps : ∀ i, 0 < i → i < 2 * N - 2 → prvB l (r0L N) N i = seenB l (r0L N) N (i - 1) := by
    intro i h1 h2
    have := prv_succ (l := l) (r := r0L N) (n := N) (i := i - 1) (by omega)
    rwa [show i - 1 + 1 = i by omega] at this
  have h0 : ¬ (prvB l (r0L N) N 0 = true ∧ seenB l (r0L N) N 0 = true) := by
    rintro ⟨p1, p2⟩
    rw [pz, dn _ (by omega) (by omega)] at p1
    rw [up 0 (by omega)] at p2
    have := of_decide_eq_true p1
    have := of_decide_eq_true p2
    omega
  have hs : ∃ i, i < (r0L N).length ∧ seenB l (r0L N) N i = true := by
    rcases Int.lt_trichotomy (turn (pA l 0) (pA l 1) (pA l N)) 0 with s | s | s
    · exact ⟨0, by omega, by rw [up 0 (by omega), decide_eq_true s]⟩
    · exact absurd s hoff
    · exact ⟨N - 1, by omega, by rw [dn _ (by omega) (by omega), decide_eq_true s]⟩
  refine ⟨?_, hs, h0⟩
  obtain ⟨T', e, f1, f2, f3, f4⟩ := nxt_ring (l := l) (n := N) (by omega) h0
  have z0 : rA (r0L N) 0 = 0 := by rw [r0_at hN (by omega)]; unfold bv; rw [if_pos (by omega)]
  rw [z0] at e f1 f2
  refine ⟨T', e, fun hz => ?_, f1 _ ?_ ?_ ?_, f4 hs⟩
  · rcases f3 0 hz with q | ⟨j, j1, j2, j3⟩
    · omega
    · rw [r0_at hN (by omega)] at j3
      unfold bv at j3
      split at j3 <;> omega
  · intro i hi h
    rw [r0_at hN (by omega), r0_vtx hN (by omega)]
    rcases Nat.lt_or_ge (i + 1) N with c | c
    · rw [up i c] at h
      have h := of_decide_eq_false h
      have e1 : bv N i = i := by unfold bv; rw [if_pos (by omega)]
      have e2 : bv N (i + 1) = i + 1 := by unfold bv; rw [if_pos c]
      rw [e1, e2]
      refine ⟨by omega, by omega, by omega, fun q hq => ?_, fun q hq _ => by omega⟩
      rcases Nat.lt_or_ge q N with g | g
      · rw [lz _ _ _ (by omega) c g]; omega
      · rw [show q = N by omega]; exact Int.le_of_lt ((ls i (i + 1) (by omega) c).1 (by omega))
    · rw [dn i c (by omega)] at h
      have h := of_decide_eq_false h
      have e1 : bv N i = 2 * N - 3 - i + 1 := by unfold bv; split <;> omega
      have e2 : bv N (i + 1) = 2 * N - 3 - i := by unfold bv; rw [if_neg (by omega)]; omega
      rw [e1, e2]
      refine ⟨by omega, by omega, by omega, fun q hq => ?_, fun q hq _ => by omega⟩
      rcases Nat.lt_or_ge q N with g | g
      · rw [lz _ _ _ (by omega) (by omega) g]; omega
      · rw [show q = N by omega, turn_sw]
        have := (ls (2 * N - 3 - i) (2 * N - 3 - i + 1) (by omega) (by omega)).2 (by omega)
        omega
  · intro i hi h1 h2
    rw [r0_at hN (by omega)]
    rcases Int.lt_trichotomy (turn (pA l 0) (pA l 1) (pA l N)) 0 with s | s | s
    · have ei : i = 0 := by
        rcases Nat.lt_or_ge (i + 1) N with c | c
        · rcases Nat.eq_zero_or_pos i with z | z
          · exact z
          · rw [ps i z (by omega), up _ (by omega), decide_eq_true s] at h1; cases h1
        · rw [dn i c (by omega)] at h2; have := of_decide_eq_true h2; omega
      have e1 : bv N i = 0 := by unfold bv; rw [if_pos (by omega)]; exact ei
      rw [e1]
      have fl : ∀ q, turn (pA l 0) (pA l N) (pA l q) = -turn (pA l 0) (pA l q) (pA l N) := fun q => by unfold turn; grind
      refine ⟨by omega, by omega, by omega, fun q hq => ?_, fun q hq he => ⟨fun ⟨x1, x2⟩ => ?_, by omega⟩⟩
      · rw [fl]
        rcases Nat.eq_zero_or_pos q with g | g
        · rw [g]; unfold turn; grind
        · rcases Nat.lt_or_ge q N with g2 | g2
          · have := (ls 0 q g g2).2 s; omega
          · rw [show q = N by omega]; unfold turn; grind
      · have := (ls 0 q x1 x2).2 s
        rw [fl] at he; omega
    · exact absurd s hoff
    · have ei : i = N - 1 := by
        rcases Nat.lt_or_ge (i + 1) N with c | c
        · rw [up i c] at h2; have := of_decide_eq_true h2; omega
        · rcases Nat.lt_or_ge i N with c2 | c2
          · omega
          · rw [ps i (by omega) (by omega), dn _ (by omega) (by omega), decide_eq_true s] at h1; cases h1
      have e1 : bv N i = N - 1 := by unfold bv; rw [if_pos (by omega)]; exact ei
      rw [e1]
      have fl : ∀ q, turn (pA l (N - 1)) (pA l N) (pA l q) = turn (pA l q) (pA l (N - 1)) (pA l N) := fun q => (turn_cyc _ _ _).symm ▸ rfl
      refine ⟨by omega, by omega, by omega, fun q hq => ?_, fun q hq he => ⟨by omega, by omega⟩⟩
      rw [fl]
      rcases Nat.lt_or_ge q (N - 1) with g | g
      · have := (ls q (N - 1) g (by omega)).1 s; omega
      · rcases Nat.lt_or_ge q N with g2 | g2
        · rw [show q = N - 1 by omega]; unfold turn; grind
        · rw [show q = N by omega]; unfold turn; grind
  · intro i hi h1 h2
    rw [r0_at hN (by omega)]
    rcases Int.lt_trichotomy (turn (pA l 0) (pA l 1) (pA l N)) 0 with s | s | s
    · have ei : i = N - 1 := by
        rcases Nat.lt_or_ge (i + 1) N with c | c
        · rw [up i c] at h2; have := of_decide_eq_false h2; omega
        · rcases Nat.lt_or_ge i N with c2 | c2
          · omega
          · rw [ps i (by omega) (by omega), dn _ (by omega) (by omega)] at h1; have := of_decide_eq_true h1; omega
      have e1 : bv N i = N - 1 := by unfold bv; rw [if_pos (by omega)]; exact ei
      rw [e1]
      have fl : ∀ q, turn (pA l N) (pA l (N - 1)) (pA l q) = -turn (pA l q) (pA l (N - 1)) (pA l N) := fun q => by unfold turn; grind
      refine ⟨by omega, by omega, by omega, fun q hq => ?_, fun q hq he => ⟨by omega, by omega⟩⟩
      rw [fl]
      rcases Nat.lt_or_ge q (N - 1) with g | g
      · have := (ls q (N - 1) g (by omega)).2 s; omega
      · rcases Nat.lt_or_ge q N with g2 | g2
        · rw [show q = N - 1 by omega]; unfold turn; grind
        · rw [show q = N by omega]; unfold turn; grind
    · exact absurd s hoff
    · have ei : i = 0 := by
        rcases Nat.eq_zero_or_pos i with z | z
        · exact z
        · exfalso
          rcases Nat.lt_or_ge (i + 1) N with c | c
          · rw [ps i z (by omega), up _ (by omega)] at h1; have := of_decide_eq_true h1; omega
          · rw [dn i c (by omega)] at h2; have := of_decide_eq_false h2; omega
      have e1 : bv N i = 0 := by unfold bv; rw [if_pos (by omega)]; exact ei
      rw [e1]
      have fl : ∀ q, turn (pA l N) (pA l 0) (pA l q) = turn (pA l 0) (pA l q) (pA l N) := fun q => by unfold turn; grind
      refine ⟨by omega, by omega, by omega, fun q hq => ?_, fun q hq he => ⟨by omega, fun ⟨x1, x2⟩ => ?_⟩⟩
      · rw [fl]
        rcases Nat.eq_zero_or_pos q with g | g
        · rw [g]; unfold turn; grind
        · rcases Nat.lt_or_ge q N with g2 | g2
          · have := (ls 0 q g g2).1 s; omega
          · rw [show q = N by omega]; unfold turn; grind
      · have := (ls 0 q x1 x2).1 s
        rw [fl] at he; omega

/-! all rings of the sweep -/
theorem off_of {l : List Pt} {N k : Nat} (hN : 2 ≤ N) (hoff : turn (pA l 0) (pA l 1) (pA l N) ≠ 0) (h : N < k) : offL l k := ⟨N, h, hN, hoff⟩
theorem ring_all {l : List Pt} {N : Nat} (hl : Asc l) (hN : 2 ≤ N) (hn : N < l.length) (hon : onL l N) (hoff : turn (pA l 0) (pA l 1) (pA l N) ≠ 0) :
    ∀ k, N + (k + 1) ≤ l.length → rInv l (N + (k + 1)) (swp l N (k + 1)).2
  | 0, _ => (ring_base hl hN hn hon hoff).1
  | k + 1, h => (ring_step hl (by omega) (off_of hN hoff (by omega)) (ring_all hl hN hn hon hoff k (by omega))).1
theorem chS_app (f : Nat → Nat → Int) : ∀ (A : List Nat) (s e : Nat) (B : List Nat), chS f s (A ++ e :: B) = chS f s (A ++ [e]) + chS f e B
  | [], s, e, B => by simp [chS]
  | a :: A, s, e, B => by simp only [List.cons_append, chS, chS_app f A a e B]; omega
theorem chS_rev {f : Nat → Nat → Int} (hf : ∀ x y, f y x = -f x y) : ∀ (A : List Nat) (s e : Nat), chS f s (A ++ [e]) = -chS f e (A.reverse ++ [s])
  | [], s, e => by simp [chS]; have := hf s e; omega
  | a :: A, s, e => by
    rw [List.reverse_cons, List.append_assoc, List.singleton_append, chS_app f A.reverse e a [s], List.cons_append, chS, chS_rev hf A a e]
    simp only [chS]
    have := hf s a
    omega
theorem r0_split {N : Nat} (h : 2 ≤ N) : r0L N = 0 :: (((List.range (N - 2)).map (· + 1)) ++ (N - 1) :: ((List.range (N - 2)).map (· + 1)).reverse) := by
  apply List.ext_getElem
  · simp [r0L]; omega
  · intro i h1 h2
    have hlen : i < 2 * N - 2 := by rw [r0_len h] at h1; exact h1
    have e := r0_at h hlen
    simp only [rA, List.getD, List.getElem?_eq_getElem h1, Option.getD_some] at e
    rw [e]
    unfold bv
    rcases Nat.eq_zero_or_pos i with z | z
    · subst z; simp; omega
    · obtain ⟨j, rfl⟩ : ∃ j, i = j + 1 := ⟨i - 1, by omega⟩
      simp only [List.getElem_cons_succ]
      rcases Nat.lt_or_ge j (N - 2) with c | c
      · rw [List.getElem_append_left (by simpa using c), if_pos (by omega)]
        simp
      · rw [List.getElem_append_right (by simpa using c)]
        simp only [List.length_map, List.length_range]
        rcases Nat.eq_zero_or_pos (j - (N - 2)) with g | g
        · simp only [g, List.getElem_cons_zero]
          rw [if_pos (by omega)]; omega
        · obtain ⟨m, hm⟩ : ∃ m, j - (N - 2) = m + 1 := ⟨j - (N - 2) - 1, by omega⟩
          simp only [hm, List.getElem_cons_succ]
          rw [if_neg (by omega)]
          simp
          omega
/-- The sides of all triangles, summed up, are the ring's. -/
theorem sum_all {l : List Pt} {N : Nat} (hl : Asc l) (hN : 2 ≤ N) (hn : N < l.length) (hon : onL l N) (hoff : turn (pA l 0) (pA l 1) (pA l N) ≠ 0) {f : Nat → Nat → Int} (hf : ∀ x y, f y x = -f x y) :
    ∀ k, N + k ≤ l.length → chS f 0 ((swp l N k).2.tail ++ [0]) = triS f (swp l N k).1
  | 0, _ => by
    have e : (swp l N 0).2 = r0L N := rfl
    rw [e, r0_split hN]
    simp only [List.tail_cons, List.append_assoc, List.cons_append]
    rw [chS_app, chS_rev hf]
    simp only [swp, triS]
    omega
  | k + 1, h => by
    have ih := sum_all hl hN hn hon hoff hf k (by omega)
    have hb : (swp l N k).2.length ≠ 0 ∧ rA (swp l N k).2 0 = 0 ∧ ¬ (prvB l (swp l N k).2 (N + k) 0 = true ∧ seenB l (swp l N k).2 (N + k) 0 = true) := by
      cases k with
      | zero =>
        have e : (swp l N 0).2 = r0L N := rfl
        rw [e]
        refine ⟨by rw [r0_len hN]; omega, by rw [r0_at hN (by omega)]; unfold bv; rw [if_pos (by omega)], (ring_base hl hN hn hon hoff).2.2⟩
      | succ k =>
        have g := ring_all hl hN hn hon hoff k (by omega)
        have s := (ring_step hl (by omega) (off_of hN hoff (by omega)) g).2.2.1
        obtain ⟨T, e, _⟩ := g
        refine ⟨by rw [e]; simp, by rw [e]; rfl, s⟩
    obtain ⟨b1, b2, b3⟩ := hb
    obtain ⟨T', e, f1, f2, f3, f4⟩ := nxt_ring (l := l) (n := N + k) (r := (swp l N k).2) (by omega) b3
    rw [b2] at e f2
    have := f2 f hf
    show chS f 0 ((nxtL l (swp l N k).2 (N + k) (swp l N k).2.length).tail ++ [0]) = triS f ((swp l N k).1 ++ triL l (swp l N k).2 (N + k) (swp l N k).2.length)
    rw [e, List.tail_cons, this, ih, triS_app]

end Go.Pl
