import Derived.Test.YtbbmeabfmjkldaaPl26
/- A ring of points and the next one: its sides and sums over them. -/
set_option linter.unusedVariables false
set_option linter.unusedSimpArgs false
namespace Go.Pl

/-- All sides of a path. -/
def chE (P : Nat → Nat → Prop) : Nat → List Nat → Prop
  | _, [] => True
  | s, a :: A => P s a ∧ chE P a A
def chS (f : Nat → Nat → Int) : Nat → List Nat → Int
  | _, [] => 0
  | s, a :: A => f s a + chS f a A
theorem chE_at {P : Nat → Nat → Prop} : ∀ {A : List Nat} {s : Nat}, chE P s A → ∀ i, i < A.length → P ((s :: A).getD i 0) ((s :: A).getD (i + 1) 0)
  | [], _, _, i, h => by simp at h
  | a :: A, s, hp, 0, _ => by simpa using hp.1
  | a :: A, s, hp, i + 1, h => by
    have := chE_at hp.2 i (by simpa using h)
    simpa using this
theorem chE_imp {P Q : Nat → Nat → Prop} (h : ∀ x y, P x y → Q x y) : ∀ {A : List Nat} {s : Nat}, chE P s A → chE Q s A
  | [], _, _ => trivial
  | a :: A, s, hp => ⟨h _ _ hp.1, chE_imp h hp.2⟩

/-- What a ring's vertices give, from one on. -/
def em (a : Nat → Nat) (sn pv : Nat → Bool) (n : Nat) : Nat → Nat → List Nat
  | 0, _ => []
  | c + 1, i => ((if !pv i || !sn i then [a i] else []) ++ if !pv i && sn i then [n] else []) ++ em a sn pv n c (i + 1)
def sfx (a : Nat → Nat) : Nat → Nat → List Nat
  | 0, _ => []
  | c + 1, i => a i :: sfx a c (i + 1)
def dsum (f : Nat → Nat → Int) (a : Nat → Nat) (sn : Nat → Bool) (n : Nat) : Nat → Int
  | 0 => 0
  | i + 1 => dsum f a sn n i + if sn i then f (a (i + 1)) (a i) + f (a i) n + f n (a (i + 1)) else 0
theorem em_ch {a : Nat → Nat} {sn pv : Nat → Bool} {n m : Nat} {P : Nat → Nat → Prop} (hp : ∀ i, i + 1 < m → pv (i + 1) = sn i) (hw : ∀ j, j + 1 = m → sn j = true → P n (a m))
    (h1 : ∀ i, i < m → sn i = false → P (a i) (a (i + 1))) (h2 : ∀ i, i < m → pv i = false → sn i = true → P (a i) n) (h3 : ∀ i, i < m → pv i = true → sn i = false → P n (a i)) :
    ∀ c j, j + 1 + c = m → chE P (if sn j then n else a j) (em a sn pv n c (j + 1) ++ [a m])
  | 0, j, hj => by
    simp only [em, List.nil_append, chE, and_true]
    cases hs : sn j with
    | true => exact hw j (by omega) hs
    | false => have := h1 j (by omega) hs; rw [show j + 1 = m by omega] at this; exact this
  | c + 1, j, hj => by
    have ih := em_ch hp hw h1 h2 h3 c (j + 1) (by omega)
    have e := hp j (by omega)
    rw [em, e]
    cases hs : sn j with
    | true =>
      cases hq : sn (j + 1) with
      | true => rw [hq] at ih; simpa using ih
      | false => rw [hq] at ih; simpa [chE] using ⟨h3 (j + 1) (by omega) (by rw [e]; exact hs) hq, by simpa using ih⟩
    | false =>
      have q1 := h1 j (by omega) hs
      cases hq : sn (j + 1) with
      | true => rw [hq] at ih; simpa [chE] using ⟨q1, h2 (j + 1) (by omega) (by rw [e]; exact hs) hq, by simpa using ih⟩
      | false => rw [hq] at ih; simpa [chE] using ⟨q1, by simpa using ih⟩
theorem em_sum {a : Nat → Nat} {sn pv : Nat → Bool} {n m : Nat} {f : Nat → Nat → Int} (hf : ∀ x y, f y x = -f x y) (hp : ∀ i, i + 1 < m → pv (i + 1) = sn i) :
    ∀ c j, j + 1 + c = m → chS f (if sn j then n else a j) (em a sn pv n c (j + 1) ++ [a m]) + (if sn j then f (a j) n else 0) + dsum f a sn n j = chS f (a j) (sfx a c (j + 1) ++ [a m]) + dsum f a sn n m
  | 0, j, hj => by
    obtain rfl : m = j + 1 := by omega
    simp only [em, sfx, List.nil_append, chS, dsum]
    have := hf (a j) (a (j + 1))
    cases hs : sn j with
    | true => simp <;> omega
    | false => simp <;> omega
  | c + 1, j, hj => by
    have ih := em_sum (a := a) (n := n) hf hp c (j + 1) (by omega)
    have e := hp j (by omega)
    rw [em, e, sfx]
    have g1 := hf (a j) (a (j + 1))
    have g2 := hf (a (j + 1)) n
    cases hs : sn j with
    | true =>
      cases hq : sn (j + 1) with
      | true => rw [hq] at ih; simp only [chS, dsum, hs] at ih ⊢; simp [chS] at ih ⊢; omega
      | false => rw [hq] at ih; simp only [chS, dsum, hs] at ih ⊢; simp [chS] at ih ⊢; omega
    | false =>
      cases hq : sn (j + 1) with
      | true => rw [hq] at ih; simp only [chS, dsum, hs] at ih ⊢; simp [chS] at ih ⊢; omega
      | false => rw [hq] at ih; simp only [chS, dsum, hs] at ih ⊢; simp [chS] at ih ⊢; omega
theorem em_mem {a : Nat → Nat} {sn pv : Nat → Bool} {n x : Nat} : ∀ c i, x ∈ em a sn pv n c i → x = n ∨ ∃ j, i ≤ j ∧ j < i + c ∧ x = a j
  | 0, i, h => by simp [em] at h
  | c + 1, i, h => by
    rw [em, List.mem_append, List.mem_append] at h
    rcases h with (h | h) | h
    · split at h
      · exact .inr ⟨i, by omega, by omega, List.mem_singleton.1 h⟩
      · cases h
    · split at h
      · exact .inl (List.mem_singleton.1 h)
      · cases h
    · rcases em_mem c (i + 1) h with q | ⟨j, h1, h2, h3⟩
      · exact .inl q
      · exact .inr ⟨j, by omega, by omega, h3⟩
theorem em_new {a : Nat → Nat} {sn pv : Nat → Bool} {n m : Nat} (hp : ∀ i, i + 1 < m → pv (i + 1) = sn i) :
    ∀ c j, j + 1 + c = m → sn j = false → (∃ i, j < i ∧ i < m ∧ sn i = true) → n ∈ em a sn pv n c (j + 1)
  | 0, j, hj, _, ⟨i, h1, h2, _⟩ => by omega
  | c + 1, j, hj, hs, ⟨i, h1, h2, h3⟩ => by
    have e := hp j (by omega)
    rw [em, e, hs]
    cases hq : sn (j + 1) with
    | true => simp
    | false =>
      have : i ≠ j + 1 := by rintro rfl; rw [hq] at h3; cases h3
      have := em_new (a := a) (n := n) hp c (j + 1) (by omega) hq ⟨i, by omega, h2, h3⟩
      simp [this]
theorem nxt_em (l : List Pt) (r : List Nat) (n : Nat) : ∀ c i, nxtL l r n (i + c) = nxtL l r n i ++ em (rA r) (seenB l r n) (prvB l r n) n c i
  | 0, i => by simp [em]
  | c + 1, i => by
    rw [show i + (c + 1) = (i + 1) + c by omega, nxt_em l r n c (i + 1), nxtL, em]
    simp only [List.append_assoc]
/-- The sum over the sides of triangles. -/
def triS (f : Nat → Nat → Int) : List T3 → Int
  | [] => 0
  | t :: L => f t.1.toNat t.2.1.toNat + f t.2.1.toNat t.2.2.toNat + f t.2.2.toNat t.1.toNat + triS f L
theorem triS_app (f : Nat → Nat → Int) : ∀ a b : List T3, triS f (a ++ b) = triS f a + triS f b
  | [], b => by simp [triS]
  | t :: a, b => by simp only [List.cons_append, triS, triS_app f a b]; omega
/-- A ring's vertices with the first one behind the last. -/
def vtx (r : List Nat) (i : Nat) : Nat := if i = r.length then rA r 0 else rA r i
theorem vtx_mod {r : List Nat} {i : Nat} (h : i < r.length) : rA r ((i + 1) % r.length) = vtx r (i + 1) := by
  unfold vtx
  by_cases e : i + 1 = r.length
  · rw [if_pos e, e, Nat.mod_self]
  · rw [if_neg e, Nat.mod_eq_of_lt (by omega)]
theorem vtx_lt {r : List Nat} {i : Nat} (h : i < r.length) : vtx r i = rA r i := by unfold vtx; rw [if_neg (by omega)]
theorem triS_tri (l : List Pt) (r : List Nat) (n : Nat) (f : Nat → Nat → Int) : ∀ i, i ≤ r.length → triS f (triL l r n i) = dsum f (vtx r) (seenB l r n) n i
  | 0, _ => rfl
  | i + 1, h => by
    rw [triL, triS_app, triS_tri l r n f i (by omega), dsum]
    congr 1
    rw [vtx_mod (by omega), vtx_lt (i := i) (by omega)]
    split
    · simp [triS]
    · rfl
theorem em_vtx {r : List Nat} {sn pv : Nat → Bool} {n : Nat} : ∀ c i, i + c ≤ r.length → em (rA r) sn pv n c i = em (vtx r) sn pv n c i
  | 0, i, _ => rfl
  | c + 1, i, h => by rw [em, em, em_vtx c (i + 1) (by omega), vtx_lt (i := i) (by omega)]
theorem sfx_vtx {r : List Nat} : ∀ c i, i + c = r.length → sfx (vtx r) c i = r.drop i
  | 0, i, h => by simp only [sfx]; rw [List.drop_eq_nil_of_le (by omega)]
  | c + 1, i, h => by
    rw [sfx, sfx_vtx c (i + 1) (by omega), vtx_lt (i := i) (by omega), List.drop_eq_getElem_cons (i := i) (by omega)]
    congr 1
    simp [rA, List.getD, show i < r.length by omega]
theorem prv_succ {l : List Pt} {r : List Nat} {n i : Nat} (h : i + 1 < r.length) : prvB l r n (i + 1) = seenB l r n i := by
  unfold prvB
  congr 1
  rw [show i + 1 + r.length - 1 = i + r.length by omega, Nat.add_mod_right, Nat.mod_eq_of_lt (by omega)]
theorem prv_zero {l : List Pt} {r : List Nat} {n j : Nat} (h : j + 1 = r.length) : prvB l r n 0 = seenB l r n j := by
  unfold prvB
  congr 1
  rw [show 0 + r.length - 1 = j by omega, Nat.mod_eq_of_lt (by omega)]
/-- The next ring. -/
theorem nxt_ring {l : List Pt} {r : List Nat} {n : Nat} (hr : 0 < r.length) (h0 : ¬ (prvB l r n 0 = true ∧ seenB l r n 0 = true)) :
    ∃ T, nxtL l r n r.length = rA r 0 :: T
      ∧ (∀ P : Nat → Nat → Prop, (∀ i, i < r.length → seenB l r n i = false → P (rA r i) (vtx r (i + 1))) → (∀ i, i < r.length → prvB l r n i = false → seenB l r n i = true → P (rA r i) n) → (∀ i, i < r.length → prvB l r n i = true → seenB l r n i = false → P n (rA r i)) → chE P (rA r 0) (T ++ [rA r 0]))
      ∧ (∀ f : Nat → Nat → Int, (∀ x y, f y x = -f x y) → chS f (rA r 0) (T ++ [rA r 0]) = chS f (rA r 0) (r.tail ++ [rA r 0]) + triS f (triL l r n r.length))
      ∧ (∀ x ∈ T, x = n ∨ ∃ j, 1 ≤ j ∧ j < r.length ∧ x = rA r j)
      ∧ ((∃ i, i < r.length ∧ seenB l r n i = true) → n ∈ T) := by
  obtain ⟨m, hm⟩ : ∃ m, r.length = m + 1 := ⟨r.length - 1, by omega⟩
  have hp : ∀ i, i + 1 < r.length → prvB l r n (i + 1) = seenB l r n i := fun i h => prv_succ h
  have e1 : nxtL l r n r.length = em (rA r) (seenB l r n) (prvB l r n) n (m + 1) 0 := by
    have := nxt_em l r n (m + 1) 0
    rw [hm]; simpa [nxtL] using this
  rw [em_vtx _ _ (by omega)] at e1
  have v0 : vtx r 0 = rA r 0 := vtx_lt hr
  have vm : vtx r r.length = rA r 0 := by unfold vtx; rw [if_pos rfl]
  refine ⟨(if !prvB l r n 0 && seenB l r n 0 then [n] else []) ++ em (vtx r) (seenB l r n) (prvB l r n) n m 1, ?_, ?_, ?_, ?_, ?_⟩
  · rw [e1, em, v0]
    have : (!prvB l r n 0 || !seenB l r n 0) = true := by
      cases h1 : prvB l r n 0 <;> cases h2 : seenB l r n 0 <;> simp_all
    rw [if_pos this]
    simp
  · intro P h1 h2 h3
    have k1 : ∀ i, i < r.length → seenB l r n i = false → P (vtx r i) (vtx r (i + 1)) := fun i hi h => by rw [vtx_lt hi]; exact h1 i hi h
    have k2 : ∀ i, i < r.length → prvB l r n i = false → seenB l r n i = true → P (vtx r i) n := fun i hi h h' => by rw [vtx_lt hi]; exact h2 i hi h h'
    have k3 : ∀ i, i < r.length → prvB l r n i = true → seenB l r n i = false → P n (vtx r i) := fun i hi h h' => by rw [vtx_lt hi]; exact h3 i hi h h'
    have hw : ∀ j, j + 1 = r.length → seenB l r n j = true → P n (vtx r r.length) := by
      intro j hj hs
      have q0 := prv_zero (l := l) (n := n) hj
      rw [vm]
      refine h3 0 hr (by rw [q0]; exact hs) ?_
      cases h : seenB l r n 0 with
      | true => exact absurd ⟨by rw [q0]; exact hs, h⟩ h0
      | false => rfl
    have := em_ch hp hw k1 k2 k3 m 0 (by omega)
    rw [vm, v0] at this
    cases hs : seenB l r n 0 with
    | true =>
      have hq : prvB l r n 0 = false := by
        rcases Bool.eq_false_or_eq_true (prvB l r n 0) with h | h
        · exact absurd ⟨h, by assumption⟩ h0
        · exact h
      rw [hq]; rw [hs] at this
      simpa [chE] using ⟨h2 0 hr hq hs, by simpa using this⟩
    | false => rw [hs] at this; simpa using this
  · intro f hf
    have := em_sum (a := vtx r) (n := n) hf hp m 0 (by omega)
    rw [vm, v0, Nat.zero_add, sfx_vtx m 1 (by omega)] at this
    rw [triS_tri l r n f _ (Nat.le_refl _), ← List.drop_one]
    cases hs : seenB l r n 0 with
    | true =>
      have hq : prvB l r n 0 = false := by
        rcases Bool.eq_false_or_eq_true (prvB l r n 0) with h | h
        · exact absurd ⟨h, by assumption⟩ h0
        · exact h
      rw [hq]; rw [hs] at this
      simp only [Bool.not_false, Bool.and_true, if_true, ite_true, List.singleton_append, List.cons_append, List.nil_append, chS] at this ⊢
      have z : dsum f (vtx r) (seenB l r n) n 0 = 0 := rfl
      omega
    | false =>
      rw [hs] at this
      have z : dsum f (vtx r) (seenB l r n) n 0 = 0 := rfl
      simp only [Bool.and_false, Bool.false_eq_true, if_false, ite_false, List.nil_append] at this ⊢
      omega
  · intro x hx
    rw [List.mem_append] at hx
    rcases hx with hx | hx
    · split at hx
      · exact .inl (List.mem_singleton.1 hx)
      · cases hx
    · rcases em_mem _ _ hx with q | ⟨j, h1, h2, h3⟩
      · exact .inl q
      · exact .inr ⟨j, h1, by omega, by rw [h3, vtx_lt (by omega)]⟩
  · rintro ⟨i, hi, hs⟩
    cases hz : seenB l r n 0 with
    | true =>
      have hq : prvB l r n 0 = false := by
        rcases Bool.eq_false_or_eq_true (prvB l r n 0) with h | h
        · exact absurd ⟨h, by assumption⟩ h0
        · exact h
      rw [hq]; simp
    | false =>
      have : i ≠ 0 := by rintro rfl; rw [hz] at hs; cases hs
      have := em_new (a := vtx r) (n := n) hp m 0 (by omega) hz ⟨i, by omega, hi, hs⟩
      simp [this]
end Go.Pl
