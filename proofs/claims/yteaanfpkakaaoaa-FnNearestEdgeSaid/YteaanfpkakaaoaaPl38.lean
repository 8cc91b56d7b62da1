import Derived.Test.YteaanfpkakaaoaaPl35
import Derived.Test.YteaanfpkakaaoaaPl31
/- Triangles without points, around all points; flips keep this; Delaunay triangles connect the two nearest points. -/
set_option linter.unusedVariables false
set_option linter.unusedSimpArgs false
namespace Go.Pl



theorem inC_bary (p1 p2 p3 x y q : Pt) : turn x y q * turn p1 p2 p3 = turn p2 p3 q * turn x y p1 + turn p3 p1 q * turn x y p2 + turn p1 p2 q * turn x y p3 := by unfold turn; grind
theorem bary_nn {p1 p2 p3 x y q : Pt} (h : 0 < turn p1 p2 p3) (h1 : 0 ≤ turn p1 p2 q) (h2 : 0 ≤ turn p2 p3 q) (h3 : 0 ≤ turn p3 p1 q) (k1 : 0 ≤ turn x y p1) (k2 : 0 ≤ turn x y p2) (k3 : 0 ≤ turn x y p3) : 0 ≤ turn x y q :=
  mul_pos_of (inC_bary p1 p2 p3 x y q) h (Int.add_nonneg (Int.add_nonneg (Int.mul_nonneg h2 k1) (Int.mul_nonneg h3 k2)) (Int.mul_nonneg h1 k3))
/-- A triangle of some of the first k points has none of them inside but its corners. -/
def empT (l : List Pt) (k : Nat) (t : T3) : Prop := t.1.toNat < k ∧ t.2.1.toNat < k ∧ t.2.2.toNat < k ∧
  ∀ q, q < k → 0 ≤ turn (pI l t.1) (pI l t.2.1) (pA l q) → 0 ≤ turn (pI l t.2.1) (pI l t.2.2) (pA l q) → 0 ≤ turn (pI l t.2.2) (pI l t.1) (pA l q) → q = t.1.toNat ∨ q = t.2.1.toNat ∨ q = t.2.2.toNat
/-- A point behind all corners is not inside. -/
theorem emp_more {l : List Pt} {n : Nat} (hl : Asc l) (hn : n < l.length) {t : T3} (h : empT l n t) (hp : 0 < areaT l t) : empT l (n + 1) t := by
  obtain ⟨h1, h2, h3, h4⟩ := h
  refine ⟨by omega, by omega, by omega, fun q hq a1 a2 a3 => ?_⟩
  rcases Nat.lt_or_ge q n with c | c
  · exact h4 q c a1 a2 a3
  · exfalso
    obtain rfl : q = n := by omega
    have x1 := asc_lexp hl h1 hn
    have x2 := asc_lexp hl h2 hn
    have x3 := asc_lexp hl h3 hn
    unfold areaT at hp
    simp only [pI] at a1 a2 a3 hp
    have := lexC x1 x2 x3 a2 a3 a1 (by unfold turn; grind) (by unfold turn; grind)
    have e : turn (pA l t.1.toNat) (pA l t.2.1.toNat) (pA l t.2.2.toNat) = turn (pA l t.2.1.toNat) (pA l t.2.2.toNat) (pA l q) + turn (pA l t.2.2.toNat) (pA l t.1.toNat) (pA l q) + turn (pA l t.1.toNat) (pA l t.2.1.toNat) (pA l q) := by unfold turn; grind
    omega
/-- Beyond the end of a side that is seen. -/
theorem beyond {u v n q : Pt} (h : turn u v n < 0) (hq : turn u v q = 0) (hx : (lexp (v.1 - u.1) (v.2 - u.2) ∧ lexp (u.1 - q.1) (u.2 - q.2)) ∨ (lexp (u.1 - v.1) (u.2 - v.2) ∧ lexp (q.1 - u.1) (q.2 - u.2))) : turn u n q < 0 := by
  rcases Int.lt_or_le (turn u n q) 0 with g | g
  · exact g
  · exfalso
    rcases hx with ⟨x1, x2⟩ | ⟨x1, x2⟩
    · have := lexC x2 x1 x1 (a := -turn u v n) (b := turn u n q) (c := 0) (by omega) g (by omega)
        (by have : -turn u v n * (u.1 - q.1) + turn u n q * (v.1 - u.1) + 0 * (v.1 - u.1) = (u.1 - n.1) * turn u v q * -1 := by unfold turn; grind
            rw [this, hq]; simp)
        (by have : -turn u v n * (u.2 - q.2) + turn u n q * (v.2 - u.2) + 0 * (v.2 - u.2) = (u.2 - n.2) * turn u v q * -1 := by unfold turn; grind
            rw [this, hq]; simp)
      omega
    · have := lexC x2 x1 x1 (a := -turn u v n) (b := turn u n q) (c := 0) (by omega) g (by omega)
        (by have : -turn u v n * (q.1 - u.1) + turn u n q * (u.1 - v.1) + 0 * (u.1 - v.1) = (u.1 - n.1) * turn u v q := by unfold turn; grind
            rw [this, hq]; simp)
        (by have : -turn u v n * (q.2 - u.2) + turn u n q * (u.2 - v.2) + 0 * (u.2 - v.2) = (u.2 - n.2) * turn u v q := by unfold turn; grind
            rw [this, hq]; simp)
      omega
/-- A new triangle. -/
theorem emp_new {l : List Pt} {n u v : Nat} (hl : Asc l) (hn : n < l.length) (g : gE l n u v) (h : turn (pA l u) (pA l v) (pA l n) < 0) : empT l (n + 1) ((v : Int), (u : Int), (n : Int)) := by
  obtain ⟨g1, g2, g3, g4, g5⟩ := g
  refine ⟨by simp; omega, by simp; omega, by simp, fun q hq a1 a2 a3 => ?_⟩
  simp only [pI, Int.toNat_natCast] at a1 a2 a3 ⊢
  rcases Nat.lt_or_ge q n with c | c
  · have k1 := g4 q c
    rw [turn_sw] at a1
    have k2 : turn (pA l u) (pA l v) (pA l q) = 0 := by omega
    obtain ⟨k3, k4⟩ := g5 q c k2
    by_cases eu : q = u
    · exact .inr (.inl eu)
    by_cases ev : q = v
    · exact .inl ev
    exfalso
    have flip : turn (pA l v) (pA l u) (pA l n) < 0 → False := fun z => by rw [turn_sw] at z; omega
    rcases Nat.lt_or_ge u v with w | w
    · rcases Nat.lt_or_ge q u with w2 | w2
      · have := beyond h k2 (.inl ⟨asc_lexp hl w (by omega), asc_lexp hl w2 (by omega)⟩); omega
      · have hv : v < q := by omega
        have hm : turn (pA l v) (pA l n) (pA l q) ≤ 0 := by
          have : turn (pA l n) (pA l v) (pA l q) = -turn (pA l v) (pA l n) (pA l q) := by unfold turn; grind
          omega
        have := lexC (asc_lexp hl hv (show q < l.length by omega)) (asc_lexp hl w (show v < l.length by omega)) (asc_lexp hl w (show v < l.length by omega)) (a := -turn (pA l u) (pA l v) (pA l n)) (b := -turn (pA l v) (pA l n) (pA l q)) (c := 0) (by omega) (by omega) (by omega)
          (by have : -turn (pA l u) (pA l v) (pA l n) * ((pA l q).1 - (pA l v).1) + -turn (pA l v) (pA l n) (pA l q) * ((pA l v).1 - (pA l u).1) + 0 * ((pA l v).1 - (pA l u).1) = ((pA l v).1 - (pA l n).1) * turn (pA l u) (pA l v) (pA l q) := by unfold turn; grind
              rw [this, k2]; simp)
          (by have : -turn (pA l u) (pA l v) (pA l n) * ((pA l q).2 - (pA l v).2) + -turn (pA l v) (pA l n) (pA l q) * ((pA l v).2 - (pA l u).2) + 0 * ((pA l v).2 - (pA l u).2) = ((pA l v).2 - (pA l n).2) * turn (pA l u) (pA l v) (pA l q) := by unfold turn; grind
              rw [this, k2]; simp)
        omega
    · have w' : v < u := by omega
      rcases Nat.lt_or_ge u q with w2 | w2
      · have := beyond h k2 (.inr ⟨asc_lexp hl w' (by omega), asc_lexp hl w2 (by omega)⟩); omega
      · have hv : q < v := by omega
        have hm : turn (pA l v) (pA l n) (pA l q) ≤ 0 := by
          have : turn (pA l n) (pA l v) (pA l q) = -turn (pA l v) (pA l n) (pA l q) := by unfold turn; grind
          omega
        have := lexC (asc_lexp hl hv (show v < l.length by omega)) (asc_lexp hl w' (show u < l.length by omega)) (asc_lexp hl w' (show u < l.length by omega)) (a := -turn (pA l u) (pA l v) (pA l n)) (b := -turn (pA l v) (pA l n) (pA l q)) (c := 0) (by omega) (by omega) (by omega)
          (by have : -turn (pA l u) (pA l v) (pA l n) * ((pA l v).1 - (pA l q).1) + -turn (pA l v) (pA l n) (pA l q) * ((pA l u).1 - (pA l v).1) + 0 * ((pA l u).1 - (pA l v).1) = -(((pA l v).1 - (pA l n).1) * turn (pA l u) (pA l v) (pA l q)) := by unfold turn; grind
              rw [this, k2]; simp)
          (by have : -turn (pA l u) (pA l v) (pA l n) * ((pA l v).2 - (pA l q).2) + -turn (pA l v) (pA l n) (pA l q) * ((pA l u).2 - (pA l v).2) + 0 * ((pA l u).2 - (pA l v).2) = -(((pA l v).2 - (pA l n).2) * turn (pA l u) (pA l v) (pA l q)) := by unfold turn; grind
              rw [this, k2]; simp)
        omega
  · exact .inr (.inr (by omega))
theorem base_gE {l : List Pt} {N : Nat} (hl : Asc l) (hN : 2 ≤ N) (hn : N < l.length) (hon : onL l N) : ∀ i, i < (r0L N).length → gE l N (rA (r0L N) i) (vtx (r0L N) (i + 1)) := by
  intro i hi
  rw [r0_len hN] at hi
  rw [r0_at hN hi, r0_vtx hN (by omega)]
  have hb : (bv N i < N ∧ bv N (i + 1) < N) ∧ (bv N (i + 1) = bv N i + 1 ∨ bv N i = bv N (i + 1) + 1) := by
    unfold bv; split <;> split <;> omega
  obtain ⟨⟨b1, b2⟩, b3⟩ := hb
  exact ⟨b1, b2, by omega, fun q hq => by rw [line_zero hl hN hn hon b1 b2 hq]; omega, fun q hq _ => by omega⟩
theorem tri_emp {l : List Pt} {r : List Nat} {n : Nat} (hl : Asc l) (hn : n < l.length) (hg : ∀ i, i < r.length → gE l n (rA r i) (vtx r (i + 1))) : ∀ i, i ≤ r.length → ∀ t ∈ triL l r n i, empT l (n + 1) t
  | 0, _, t, h => by simp [triL] at h
  | i + 1, hi, t, h => by
    rw [triL, List.mem_append] at h
    rcases h with h | h
    · exact tri_emp hl hn hg i (by omega) t h
    · split at h
      · rename_i hs
        rw [List.mem_singleton.1 h, vtx_mod (by omega)]
        exact emp_new hl hn (hg i (by omega)) (seen_t (by omega) hs)
      · cases h
theorem tri_mem {l : List Pt} {r : List Nat} {n i : Nat} (h : i < r.length) (hs : seenB l r n i = true) : ∀ m, i < m → ((((vtx r (i + 1) : Nat) : Int), ((rA r i : Nat) : Int), ((n : Nat) : Int)) : T3) ∈ triL l r n m
  | 0, hm => by omega
  | m + 1, hm => by
    rw [triL, List.mem_append]
    rcases Nat.lt_or_ge i m with c | c
    · exact .inl (tri_mem h hs m c)
    · obtain rfl : i = m := by omega
      right
      rw [if_pos hs, vtx_mod h]
      exact List.mem_singleton.2 rfl
def hasV (t : T3) (q : Nat) : Prop := q = t.1.toNat ∨ q = t.2.1.toNat ∨ q = t.2.2.toNat
/-- The sweep's triangles: none has a point inside, each point is a corner. -/
theorem swp_emp {l : List Pt} {N : Nat} (hl : Asc l) (hN : 2 ≤ N) (hn : N < l.length) (hon : onL l N) (hoff : turn (pA l 0) (pA l 1) (pA l N) ≠ 0) :
    ∀ k, N + (k + 1) ≤ l.length → (∀ t ∈ (swp l N (k + 1)).1, empT l (N + (k + 1)) t) ∧ ∀ q, q < N + (k + 1) → ∃ t ∈ (swp l N (k + 1)).1, hasV t q
  | 0, h => by
    have hg := base_gE hl hN hn hon
    have e : (swp l N (0 + 1)).1 = triL l (r0L N) N (r0L N).length := by
      show [] ++ triL l (swp l N 0).2 (N + 0) (swp l N 0).2.length = _
      rw [List.nil_append]; rfl
    rw [e]
    refine ⟨tri_emp hl hn hg _ (Nat.le_refl _), fun q hq => ?_⟩
    have hlen := r0_len hN
    -- the side at x
    have side : ∀ x, x + 1 < N → ∃ t ∈ triL l (r0L N) N (r0L N).length, hasV t x ∧ hasV t (x + 1) ∧ hasV t N := by
      intro x hx
      obtain ⟨s1, s2⟩ := line_sgn hl hN hn hon (show x < x + 1 by omega) hx
      rcases Int.lt_trichotomy (turn (pA l 0) (pA l 1) (pA l N)) 0 with s | s | s
      · have e1 : rA (r0L N) x = x := by rw [r0_at hN (by omega)]; unfold bv; rw [if_pos (by omega)]
        have e2 : vtx (r0L N) (x + 1) = x + 1 := by rw [r0_vtx hN (by omega)]; unfold bv; rw [if_pos (by omega)]
        have hs : seenB l (r0L N) N x = true := by rw [seen_vtx (by omega), e1, e2]; exact decide_eq_true (s2 s)
        refine ⟨_, tri_mem (by omega) hs _ (show x < _ by omega), ?_⟩
        rw [e1, e2]
        exact ⟨.inr (.inl (by simp)), .inl (by simp), .inr (.inr (by simp))⟩
      · exact absurd s hoff
      · have e1 : rA (r0L N) (2 * N - 3 - x) = x + 1 := by rw [r0_at hN (by omega)]; unfold bv; split <;> omega
        have e2 : vtx (r0L N) (2 * N - 3 - x + 1) = x := by rw [r0_vtx hN (by omega)]; unfold bv; rw [if_neg (by omega)]; omega
        have hs : seenB l (r0L N) N (2 * N - 3 - x) = true := by rw [seen_vtx (by omega), e1, e2, turn_sw]; have := s1 s; exact decide_eq_true (by omega)
        refine ⟨_, tri_mem (by omega) hs _ (show 2 * N - 3 - x < _ by omega), ?_⟩
        rw [e1, e2]
        exact ⟨.inl (by simp), .inr (.inl (by simp)), .inr (.inr (by simp))⟩
    rcases Nat.lt_or_ge (q + 1) N with c | c
    · obtain ⟨t, h1, h2, _⟩ := side q c; exact ⟨t, h1, h2⟩
    · rcases Nat.lt_or_ge q N with c2 | c2
      · obtain ⟨t, h1, _, h2, _⟩ := side (N - 2) (by omega)
        rw [show N - 2 + 1 = q by omega] at h2
        exact ⟨t, h1, h2⟩
      · obtain ⟨t, h1, _, _, h2⟩ := side (N - 2) (by omega)
        rw [show q = N by omega]
        exact ⟨t, h1, h2⟩
  | k + 1, h => by
    obtain ⟨i1, i2⟩ := swp_emp hl hN hn hon hoff k (by omega)
    have hr := ring_all hl hN hn hon hoff k (by omega)
    obtain ⟨_, ⟨i, hi, hs⟩, _, hg⟩ := ring_step hl (show N + (k + 1) < l.length by omega) (off_of hN hoff (by omega)) hr
    have e : (swp l N (k + 1 + 1)).1 = (swp l N (k + 1)).1 ++ triL l (swp l N (k + 1)).2 (N + (k + 1)) (swp l N (k + 1)).2.length := rfl
    have gd := swp_good (l := l) hN (k + 1) (by omega)
    rw [e]
    refine ⟨fun t ht => ?_, fun q hq => ?_⟩
    · rcases List.mem_append.1 ht with ht | ht
      · exact emp_more hl (show N + (k + 1) < l.length by omega) (i1 t ht) (gd t ht).2.2.2
      · exact tri_emp hl (show N + (k + 1) < l.length by omega) hg _ (Nat.le_refl _) t ht
    · rcases Nat.lt_or_ge q (N + (k + 1)) with c | c
      · obtain ⟨t, h1, h2⟩ := i2 q c
        exact ⟨t, List.mem_append_left _ h1, h2⟩
      · refine ⟨_, List.mem_append_right _ (tri_mem hi hs _ hi), .inr (.inr ?_)⟩
        show q = (((N + (k + 1) : Nat)) : Int).toNat
        rw [Int.toNat_natCast]; omega

/-! flips -/
/-- What stays. -/
def delI (l : List Pt) (Z : (Nat → Nat → Int) → Int) (L : List T3) : Prop :=
  goodL l L ∧ (∀ t ∈ L, empT l l.length t) ∧ (∀ q, q < l.length → ∃ t ∈ L, hasV t q) ∧ ∀ f : Nat → Nat → Int, (∀ x y, f y x = -f x y) → triS f L = Z f
theorem emp_rot {l : List Pt} {n : Nat} {t : T3} (h : empT l n t) : ∀ k, empT l n (rotT t k)
  | 0 => h
  | k + 1 => by
    obtain ⟨h1, h2, h3, h4⟩ := emp_rot h k
    refine ⟨h2, h3, h1, fun q hq a1 a2 a3 => ?_⟩
    rcases h4 q hq a3 a1 a2 with e | e | e
    · exact .inr (.inr e)
    · exact .inl e
    · exact .inr (.inl e)
theorem has_rot {t : T3} {q : Nat} : ∀ k, hasV (rotT t k) q ↔ hasV t q
  | 0 => Iff.rfl
  | k + 1 => by
    refine Iff.trans ?_ (has_rot k)
    unfold hasV
    simp only [rotT]
    constructor
    · rintro (e | e | e)
      · exact .inr (.inl e)
      · exact .inr (.inr e)
      · exact .inl e
    · rintro (e | e | e)
      · exact .inr (.inr e)
      · exact .inl e
      · exact .inr (.inl e)
def fT (f : Nat → Nat → Int) (t : T3) : Int := f t.1.toNat t.2.1.toNat + f t.2.1.toNat t.2.2.toNat + f t.2.2.toNat t.1.toNat
theorem fT_rot (f : Nat → Nat → Int) (t : T3) : ∀ k, fT f (rotT t k) = fT f t
  | 0 => rfl
  | k + 1 => by
    rw [← fT_rot f t k]
    simp only [fT, rotT]
    omega
theorem triS_set {f : Nat → Nat → Int} : ∀ {L : List T3} {i : Nat} {u : T3}, i < L.length → triS f (L.set i u) = triS f L - fT f (t3 L i) + fT f u
  | [], i, u, h => by simp at h
  | t :: L, 0, u, _ => by simp only [List.set_cons_zero, triS, t3, List.getD_cons_zero, fT]; omega
  | t :: L, i + 1, u, h => by
    have := triS_set (f := f) (L := L) (i := i) (u := u) (by simpa using h)
    simp only [List.set_cons_succ, triS, t3, List.getD_cons_succ] at this ⊢
    omega
/-- Where the four corners of a flip leave no points. -/
theorem flip_emp {l : List Pt} {n : Nat} {t u : T3} (e1 : u.1 = t.2.1) (e2 : u.2.1 = t.1) (ht : empT l n t) (hu : empT l n u) (a1 : 0 < areaT l t) (a2 : 0 < areaT l u)
    (c1 : 0 < turn (pI l t.2.2) (pI l t.1) (pI l u.2.2)) (c2 : 0 < turn (pI l t.2.2) (pI l u.2.2) (pI l t.2.1)) : empT l n (t.2.2, t.1, u.2.2) ∧ empT l n (t.2.2, u.2.2, t.2.1) := by
  obtain ⟨t1, t2, t3', t4⟩ := ht
  obtain ⟨u1, u2, u3, u4⟩ := hu
  unfold areaT at a1 a2
  rw [e1, e2] at u4 a2
  rw [e1] at u1
  rw [e2] at u2
  obtain ⟨a, b, c⟩ := t
  obtain ⟨_, _, d⟩ := u
  simp only [] at *
  have z : ∀ x y : Pt, turn x y x = 0 ∧ turn x y y = 0 := fun x y => by unfold turn; grind
  refine ⟨⟨t3', t1, u3, fun q hq x1 x2 x3 => ?_⟩, ⟨t3', u3, t2, fun q hq x1 x2 x3 => ?_⟩⟩
  · simp only [] at x1 x2 x3 ⊢
    have hb : q ≠ b.toNat := by
      rintro rfl
      have : turn (pI l d) (pI l c) (pA l b.toNat) = -turn (pI l c) (pI l d) (pI l b) := turn_sw _ _ _
      omega
    rcases Int.le_total 0 (turn (pI l a) (pI l b) (pA l q)) with s | s
    · have k : 0 ≤ turn (pI l b) (pI l c) (pA l q) := bary_nn c1 x1 x2 x3 (by rw [(z _ _).2]; omega) (by rw [← turn_cyc]; rw [turn_cyc, turn_cyc] at *; first | omega | (have := turn_cyc (pI l a) (pI l b) (pI l c); omega)) (by have := turn_cyc (pI l b) (pI l c) (pI l d); have := turn_cyc (pI l c) (pI l d) (pI l b); omega)
      rcases t4 q hq s k x1 with e | e | e
      · exact .inr (.inl e)
      · exact absurd e hb
      · exact .inl e
    · have s' : 0 ≤ turn (pI l b) (pI l a) (pA l q) := by rw [turn_sw]; omega
      have k : 0 ≤ turn (pI l d) (pI l b) (pA l q) := bary_nn c1 x1 x2 x3 (by have := turn_cyc (pI l c) (pI l d) (pI l b); omega) (by have := turn_cyc (pI l b) (pI l a) (pI l d); have := turn_cyc (pI l a) (pI l d) (pI l b); omega) (by rw [(z _ _).1]; omega)
      rcases u4 q hq s' x2 k with e | e | e
      · exact absurd e hb
      · exact .inr (.inl e)
      · exact .inr (.inr e)
  · simp only [] at x1 x2 x3 ⊢
    have ha : q ≠ a.toNat := by
      rintro rfl
      have e3 : turn (pI l c) (pI l d) (pA l a.toNat) = -turn (pI l c) (pI l a) (pI l d) := by
        show turn (pI l c) (pI l d) (pI l a) = _
        unfold turn; grind
      omega
    rcases Int.le_total 0 (turn (pI l a) (pI l b) (pA l q)) with s | s
    · have k : 0 ≤ turn (pI l c) (pI l a) (pA l q) := bary_nn c2 x1 x2 x3 (by rw [(z _ _).1]; omega) (by omega) (by have := turn_cyc (pI l a) (pI l b) (pI l c); have := turn_cyc (pI l b) (pI l c) (pI l a); omega)
      rcases t4 q hq s x3 k with e | e | e
      · exact absurd e ha
      · exact .inr (.inr e)
      · exact .inl e
    · have s' : 0 ≤ turn (pI l b) (pI l a) (pA l q) := by rw [turn_sw]; omega
      have k : 0 ≤ turn (pI l a) (pI l d) (pA l q) := bary_nn c2 x1 x2 x3 (by have := turn_cyc (pI l c) (pI l a) (pI l d); omega) (by rw [(z _ _).2]; omega) (by have := turn_cyc (pI l b) (pI l a) (pI l d); omega)
      rcases u4 q hq s' k x2 with e | e | e
      · exact .inr (.inr e)
      · exact absurd e ha
      · exact .inr (.inl e)
theorem flip1_inv {l : List Pt} {Z : (Nat → Nat → Int) → Int} {L L' : List T3} (hI : delI l Z L) {i k m n : Nat} (hi : i < L.length) (hk : k < 3) (hm : m < L.length) (hn : n < 3) (h : flip1 l L i k m n = some L') : delI l Z L' := by
  obtain ⟨hg, he, hv, hz⟩ := hI
  refine ⟨(flip1_good hg hi hk hm hn h).1, ?_⟩
  unfold flip1 at h
  split at h
  · rename_i hb
    injection h with h
    subst h
    have gi := hg _ (t3_mem hi)
    have gm := hg _ (t3_mem hm)
    have hne : i ≠ m := by
      rintro rfl
      refine self_side gi k n hk hn ?_
      unfold flipB at hb
      simp only [Bool.and_eq_true, beq_iff_eq] at hb
      exact hb.1
    have ri := good_rot gi k
    have rm := good_rot gm n
    have ei := emp_rot (he _ (t3_mem hi)) k
    have ek := emp_rot (he _ (t3_mem hm)) n
    have vi : ∀ q, hasV (rotT (t3 L i) k) q ↔ hasV (t3 L i) q := fun q => has_rot k
    have vm : ∀ q, hasV (rotT (t3 L m) n) q ↔ hasV (t3 L m) q := fun q => has_rot n
    have fi : ∀ f, fT f (rotT (t3 L i) k) = fT f (t3 L i) := fun f => fT_rot f _ k
    have fm : ∀ f, fT f (rotT (t3 L m) n) = fT f (t3 L m) := fun f => fT_rot f _ n
    have hset : ∀ x, t3 (L.set i x) m = t3 L m := by
      intro x
      simp only [t3, List.getD]
      rw [List.getElem?_set_ne hne]
    generalize rotT (t3 L i) k = t at *
    generalize rotT (t3 L m) n = u at *
    unfold flipB at hb
    simp only [Bool.and_eq_true, beq_iff_eq, decide_eq_true_eq] at hb
    obtain ⟨⟨e1, e2⟩, hc⟩ := hb
    have a1 := ri.2.2.2
    have a2 := rm.2.2.2
    have b2 := a2
    simp only [areaT] at b2
    rw [e1, e2] at b2
    obtain ⟨c1, c2⟩ := flip_ccw a1 b2 hc
    obtain ⟨em1, em2⟩ := flip_emp e1 e2 ei ek a1 a2 c1 c2
    have mem1 : (t.2.2, t.1, u.2.2) ∈ flipL L i m t u := by
      unfold flipL
      refine List.mem_iff_getElem.2 ⟨i, by simpa using hi, ?_⟩
      rw [List.getElem_set_ne (Ne.symm hne), List.getElem_set_self]
    have mem2 : (t.2.2, u.2.2, t.2.1) ∈ flipL L i m t u := by
      unfold flipL
      exact List.mem_iff_getElem.2 ⟨m, by simpa using hm, by rw [List.getElem_set_self]⟩
    refine ⟨fun x hx => ?_, fun q hq => ?_, fun f hf => ?_⟩
    · unfold flipL at hx
      rcases set_mem hx with hx | rfl
      · rcases set_mem hx with hx | rfl
        · exact he x hx
        · exact em1
      · exact em2
    · obtain ⟨x, hx, hxq⟩ := hv q hq
      obtain ⟨j, hj, rfl⟩ := List.getElem_of_mem hx
      by_cases j1 : j = i
      · subst j1
        have : hasV t q := (vi q).2 (by simpa [t3, List.getD, hj] using hxq)
        rcases this with e | e | e
        · exact ⟨_, mem1, .inr (.inl e)⟩
        · exact ⟨_, mem2, .inr (.inr e)⟩
        · exact ⟨_, mem1, .inl e⟩
      · by_cases j2 : j = m
        · subst j2
          have : hasV u q := (vm q).2 (by simpa [t3, List.getD, hj] using hxq)
          rcases this with e | e | e
          · exact ⟨_, mem2, .inr (.inr (by rw [e, e1]))⟩
          · exact ⟨_, mem1, .inr (.inl (by rw [e, e2]))⟩
          · exact ⟨_, mem1, .inr (.inr e)⟩
        · refine ⟨L[j], ?_, hxq⟩
          unfold flipL
          refine List.mem_iff_getElem.2 ⟨j, by simpa using hj, ?_⟩
          rw [List.getElem_set_ne (Ne.symm j2), List.getElem_set_ne (Ne.symm j1)]
    · unfold flipL
      rw [triS_set (by simpa using hm), triS_set hi, hset, ← fi, ← fm, ← hz f hf]
      simp only [fT]
      rw [e1, e2]
      have q1 := hf t.1.toNat t.2.1.toNat
      have q2 := hf t.2.2.toNat u.2.2.toNat
      omega
  · cases h
theorem flipF_inv {l : List Pt} {Z : (Nat → Nat → Int) → Int} {L L' : List T3} (hI : delI l Z L) (h : flipF l L = some L') : delI l Z L' := by
  obtain ⟨i, hi, h⟩ := firstN_mem h
  obtain ⟨k, hk, h⟩ := firstN_mem h
  obtain ⟨m, hm, h⟩ := firstN_mem h
  obtain ⟨n, hn, h⟩ := firstN_mem h
  exact flip1_inv hI hi hk hm hn h
theorem delN_inv {l : List Pt} {Z : (Nat → Nat → Int) → Int} : ∀ (f : Nat) {L : List T3}, delI l Z L → delI l Z (delN l f L)
  | 0, L, h => h
  | f + 1, L, h => by
    rw [delN]
    cases hF : flipF l L with
    | none => exact h
    | some L' => exact delN_inv f (flipF_inv h hF)


/-- A greatest one. -/
theorem ex_max {α : Type} (r : α → α → Prop) (P : α → Prop) (htr : ∀ x y z, P x → P y → P z → r x y → r y z → r x z) (hir : ∀ x, P x → ¬ r x x) :
    ∀ A : List α, (∃ x ∈ A, P x) → ∃ m ∈ A, P m ∧ ∀ x ∈ A, P x → ¬ r m x
  | [], ⟨x, hx, _⟩ => by cases hx
  | a :: A, h => by
    by_cases hA : ∃ x ∈ A, P x
    · obtain ⟨m, m1, m2, m3⟩ := ex_max r P htr hir A hA
      by_cases hc : P a ∧ r m a
      · refine ⟨a, by simp, hc.1, fun x hx hp hr => ?_⟩
        rcases List.mem_cons.1 hx with e | hx
        · rw [e] at hr; exact hir a hc.1 hr
        · exact m3 x hx hp (htr _ _ _ m2 hc.1 hp hc.2 hr)
      · refine ⟨m, by simp [m1], m2, fun x hx hp hr => ?_⟩
        rcases List.mem_cons.1 hx with e | hx
        · rw [e] at hr hp; exact hc ⟨hp, hr⟩
        · exact m3 x hx hp hr
    · obtain ⟨x, hx, hp⟩ := h
      rcases List.mem_cons.1 hx with e | hx
      · refine ⟨a, by simp, by rw [← e]; exact hp, fun y hy hq hr => ?_⟩
        rcases List.mem_cons.1 hy with e' | hy
        · rw [e'] at hr hq; exact hir _ hq hr
        · exact hA ⟨y, hy, hq⟩
      · exact absurd ⟨x, hx, hp⟩ hA

/-! triangles and their turned forms -/
def rts (L : List T3) : List T3 := L.flatMap fun t => [rotT t 0, rotT t 1, rotT t 2]
theorem mem_rts {L : List T3} {t : T3} : t ∈ rts L ↔ ∃ u ∈ L, ∃ k, k < 3 ∧ t = rotT u k := by
  simp only [rts, List.mem_flatMap, List.mem_cons, List.not_mem_nil, or_false]
  constructor
  · rintro ⟨u, hu, h | h | h⟩
    · exact ⟨u, hu, 0, by omega, h⟩
    · exact ⟨u, hu, 1, by omega, h⟩
    · exact ⟨u, hu, 2, by omega, h⟩
  · rintro ⟨u, hu, k, hk, h⟩
    refine ⟨u, hu, ?_⟩
    match k, hk with
    | 0, _ => exact .inl h
    | 1, _ => exact .inr (.inl h)
    | 2, _ => exact .inr (.inr h)
theorem rts_rot {L : List T3} {t : T3} (h : t ∈ rts L) : (t.2.1, t.2.2, t.1) ∈ rts L := by
  obtain ⟨u, hu, k, hk, rfl⟩ := mem_rts.1 h
  match k, hk with
  | 0, _ => exact mem_rts.2 ⟨u, hu, 1, by omega, rfl⟩
  | 1, _ => exact mem_rts.2 ⟨u, hu, 2, by omega, rfl⟩
  | 2, _ => exact mem_rts.2 ⟨u, hu, 0, by omega, rfl⟩
theorem chS_le {P : Nat → Nat → Prop} {f : Nat → Nat → Int} (hf : ∀ a b, P a b → f a b ≤ 0) : ∀ {A : List Nat} {s : Nat}, chE P s A → chS f s A ≤ 0
  | [], s, _ => by simp [chS]
  | a :: A, s, h => by
    have h1 := hf _ _ h.1
    have h2 := chS_le hf h.2
    simp only [chS]; omega
theorem triS_ge {f : Nat → Nat → Int} : ∀ {L : List T3}, (∀ t ∈ L, 0 ≤ fT f t) → 0 ≤ triS f L ∧ ∀ u ∈ L, fT f u ≤ triS f L
  | [], _ => ⟨by simp [triS], fun u hu => by cases hu⟩
  | t :: L, h => by
    obtain ⟨i1, i2⟩ := triS_ge (L := L) fun u hu => h u (by simp [hu])
    have h1 := h t (by simp)
    have e : triS f (t :: L) = fT f t + triS f L := rfl
    rw [e]
    refine ⟨by omega, fun u hu => ?_⟩
    rcases List.mem_cons.1 hu with q | q
    · rw [q]; omega
    · have := i2 u q; omega
/-- All that is known of the triangles. -/
structure delF (l : List Pt) (L : List T3) : Prop where
  good : ∀ t ∈ rts L, goodT l.length l t
  emp : ∀ t ∈ rts L, empT l l.length t
  cov : ∀ q, q < l.length → ∃ t ∈ rts L, t.1.toNat = q
  side : ∀ t ∈ rts L, (∃ u ∈ rts L, u.1 = t.2.1 ∧ u.2.1 = t.1) ∨ ∀ q, q < l.length → 0 ≤ turn (pI l t.1) (pI l t.2.1) (pA l q)
  loc : ∀ t ∈ rts L, ∀ u ∈ rts L, u.1 = t.2.1 → u.2.1 = t.1 → inC (pI l t.1) (pI l t.2.1) (pI l t.2.2) (pI l u.2.2) ≤ 0
theorem delF_of {l : List Pt} {L : List T3} {Z : (Nat → Nat → Int) → Int} {T : List Nat} (hI : delI l Z L) (hZ : ∀ f : Nat → Nat → Int, (∀ x y, f y x = -f x y) → Z f = chS f 0 (T ++ [0])) (hc : chE (gE l l.length) 0 (T ++ [0])) (hF : flipF l L = none) : delF l L := by
  obtain ⟨hg, he, hv, hz⟩ := hI
  have good : ∀ t ∈ rts L, goodT l.length l t := fun t ht => by
    obtain ⟨u, hu, k, hk, rfl⟩ := mem_rts.1 ht
    exact good_rot (hg u hu) k
  have emp : ∀ t ∈ rts L, empT l l.length t := fun t ht => by
    obtain ⟨u, hu, k, hk, rfl⟩ := mem_rts.1 ht
    exact emp_rot (he u hu) k
  refine ⟨good, emp, fun q hq => ?_, fun t ht => ?_, fun t ht u hu e1 e2 => ?_⟩
  · obtain ⟨t, ht, h⟩ := hv q hq
    rcases h with h | h | h
    · exact ⟨rotT t 0, mem_rts.2 ⟨t, ht, 0, by omega, rfl⟩, h.symm⟩
    · exact ⟨rotT t 1, mem_rts.2 ⟨t, ht, 1, by omega, rfl⟩, h.symm⟩
    · exact ⟨rotT t 2, mem_rts.2 ⟨t, ht, 2, by omega, rfl⟩, h.symm⟩
  · by_cases hu : ∃ u ∈ rts L, u.1 = t.2.1 ∧ u.2.1 = t.1
    · exact .inl hu
    right
    intro q hq
    rcases Int.lt_or_le (turn (pI l t.1) (pI l t.2.1) (pA l q)) 0 with neg | c
    · exfalso
      obtain ⟨x, hx⟩ : ∃ x, t.1.toNat = x := ⟨_, rfl⟩
      obtain ⟨y, hy⟩ : ∃ y, t.2.1.toNat = y := ⟨_, rfl⟩
      have gt := good t ht
      obtain ⟨d1, d2, d3⟩ := rot_distinct gt
      have hxy : x ≠ y := by have := gt.1; have := gt.2.1; omega
      let f : Nat → Nat → Int := fun a b => (if a = x ∧ b = y then 1 else 0) - (if a = y ∧ b = x then 1 else 0)
      have fd : ∀ a b, f a b = (if a = x ∧ b = y then 1 else 0) - (if a = y ∧ b = x then 1 else 0) := fun a b => rfl
      have hf : ∀ a b, f b a = -f a b := fun a b => by
        rw [fd, fd]
        split <;> split <;> split <;> split <;> omega
      have h1 : chS f 0 (T ++ [0]) ≤ 0 := by
        refine chS_le (fun a b hab => ?_) hc
        rw [fd]
        split
        · rename_i e
          have := hab.2.2.2.1 q hq
          rw [e.1, e.2, ← hx, ← hy] at this
          simp only [pI] at neg
          omega
        · split <;> omega
      have side : ∀ v ∈ rts L, 0 ≤ f v.1.toNat v.2.1.toNat := fun v hv => by
        rw [fd]
        have gv := good v hv
        have : ¬ (v.1.toNat = y ∧ v.2.1.toNat = x) := fun e => hu ⟨v, hv, by have := gv.1; have := gt.2.1; omega, by have := gv.2.1; have := gt.1; omega⟩
        rw [if_neg this]
        split <;> omega
      have tri : ∀ v ∈ rts L, 0 ≤ f v.2.1.toNat v.2.2.toNat ∧ 0 ≤ f v.2.2.toNat v.1.toNat := fun v hv => ⟨side _ (rts_rot hv), side _ (rts_rot (rts_rot hv))⟩
      obtain ⟨u, hu', k, hk, e⟩ := mem_rts.1 ht
      have h2 := (triS_ge (f := f) (L := L) fun v hv => by
        have hv' : v ∈ rts L := mem_rts.2 ⟨v, hv, 0, by omega, rfl⟩
        have a1 := side v hv'
        obtain ⟨a2, a3⟩ := tri v hv'
        unfold fT; omega).2 u hu'
      rw [hz f hf, hZ f hf, ← fT_rot f u k, ← e] at h2
      obtain ⟨a2, a3⟩ := tri t ht
      have a1 : f t.1.toNat t.2.1.toNat = 1 := by rw [fd, hx, hy, if_pos ⟨rfl, rfl⟩, if_neg (by omega)]; rfl
      unfold fT at h2
      omega
    · exact c
  · obtain ⟨t', ht', k, hk, rfl⟩ := mem_rts.1 ht
    obtain ⟨u', hu', m, hm, rfl⟩ := mem_rts.1 hu
    obtain ⟨i, hi, ei⟩ := List.getElem_of_mem ht'
    obtain ⟨j, hj, ej⟩ := List.getElem_of_mem hu'
    have e3 : t3 L i = t' := by simp [t3, List.getD, hi, ei]
    have e4 : t3 L j = u' := by simp [t3, List.getD, hj, ej]
    have f1 := firstN_none.1 (firstN_none.1 (firstN_none.1 (firstN_none.1 hF i hi) k hk) j hj) m hm
    unfold flip1 at f1
    rw [e3, e4] at f1
    split at f1
    · cases f1
    · rename_i hb
      unfold flipB at hb
      rcases Int.lt_or_le 0 (inC (pI l (rotT t' k).1) (pI l (rotT t' k).2.1) (pI l (rotT t' k).2.2) (pI l (rotT u' m).2.2)) with c | c
      · exact absurd (by simp only [e1, e2, beq_self_eq_true, Bool.and_self, Bool.true_and, decide_eq_true_eq]; exact c) hb
      · exact c

/-! identities -/
theorem id_quad (a c d b : Pt) : inC a c d b = turn a c b * dotP d a b + turn a b d * dotP c a b := by unfold inC turn dotP; grind
theorem id_cross (a b x y w : Pt) : -turn x y b * turn x w a + turn x y a * turn x w b = -turn a b x * turn x w y := by unfold turn; grind
theorem id_cross2 (a b x y w : Pt) : -turn x y b * turn w y a + turn x y a * turn w y b = turn a b y * turn w y x := by unfold turn; grind
theorem id_rad (x y z w b : Pt) : turn x y z * inC y x w b = turn y x w * inC x y z b - turn y x b * inC x y z w := by unfold turn inC; grind
theorem inC_cyc (a b c d : Pt) : inC b c a d = inC a b c d := by unfold inC; grind
theorem inC_self (a b c : Pt) : inC a b c c = 0 := by unfold inC; grind
theorem id_h (a b x y w : Pt) : turn x w b * turn a b y + turn w y b * turn a b x + turn y x b * turn a b w = 0 := by unfold turn; grind
theorem id_seg (a w b x y : Pt) : turn x y b * sqd a w = (sqd a w - dotP a w b) * turn x y a + dotP a w b * turn x y w + turn a w b * ((y.1 - x.1) * (w.1 - a.1) + (y.2 - x.2) * (w.2 - a.2)) := by unfold turn sqd dotP; grind
theorem id_seg2 (a w b x y : Pt) : turn x y w * sqd a b = (sqd a b - dotP a w b) * turn x y a + dotP a w b * turn x y b + turn a b w * ((y.1 - x.1) * (b.1 - a.1) + (y.2 - x.2) * (b.2 - a.2)) := by unfold turn sqd dotP; grind
theorem id_lag (a w b : Pt) : dotP a w b * dotP a w b + turn a w b * turn a w b = sqd a w * sqd a b := by unfold turn sqd dotP; grind
theorem id_dot (d a b : Pt) : 2 * dotP d a b = sqd d a + sqd d b - sqd a b := by unfold sqd dotP; grind
theorem id_end (a b w x : Pt) : turn x w b * sqd a b = (sqd a b - dotP a w b) * turn a b x + turn a b w * (dotP a x b - sqd a b) := by unfold turn sqd dotP; grind
theorem id_end2 (a b w y : Pt) : turn w y b * sqd a b = (dotP a w b - sqd a b) * turn a b y + turn a b w * (sqd a b - dotP a y b) := by unfold turn sqd dotP; grind

section
variable {l : List Pt} {L : List T3} {a b : Nat}
/-- The nearest two, and no side so short. -/
structure nearH (l : List Pt) (L : List T3) (a b : Nat) : Prop where
  asc : Asc l
  F : delF l L
  ha : a < l.length
  hb : b < l.length
  hab : a ≠ b
  min : ∀ i k, i < l.length → k < l.length → i ≠ k → sqd (pA l a) (pA l b) ≤ sqd (pA l i) (pA l k)
  no : ∀ t ∈ rts L, sqd (pI l t.1) (pI l t.2.1) ≠ sqd (pA l a) (pA l b)
theorem nearH.pos (h : nearH l L a b) : 0 < sqd (pA l a) (pA l b) := sqd_pos (asc_ne h.asc h.hab h.ha h.hb)
theorem nearH.both (h : nearH l L a b) {t : T3} (ht : t ∈ rts L) (h1 : hasV t a) (h2 : hasV t b) : False := by
  have n0 := h.no t ht
  have n1 := h.no _ (rts_rot ht)
  have n2 := h.no _ (rts_rot (rts_rot ht))
  have hab := h.hab
  simp only [pI] at n0 n1 n2
  rcases h1 with e1 | e1 | e1 <;> rcases h2 with e2 | e2 | e2
  · exact hab (e1.trans e2.symm)
  · exact n0 (by rw [e1, e2])
  · exact n2 (by rw [e1, e2]; exact sqd_comm _ _)
  · exact n0 (by rw [e1, e2]; exact sqd_comm _ _)
  · exact hab (e1.trans e2.symm)
  · exact n1 (by rw [e1, e2])
  · exact n2 (by rw [e1, e2])
  · exact n1 (by rw [e1, e2]; exact sqd_comm _ _)
  · exact hab (e1.trans e2.symm)
/-- A corner towards b: none. -/
theorem nearH.ray (h : nearH l L a b) {t : T3} (ht : t ∈ rts L) {w : Nat} (h1 : hasV t a) (h2 : hasV t w) (hw : w < l.length) (hwa : w ≠ a) (h0 : turn (pA l a) (pA l w) (pA l b) = 0) (hd : 0 < dotP (pA l a) (pA l w) (pA l b)) : False := by
  refine h.both ht h1 ?_
  have hm := h.min a w h.ha hw (Ne.symm hwa)
  have lag := id_lag (pA l a) (pA l w) (pA l b)
  rw [h0, Int.zero_mul, Int.add_zero] at lag
  have sp := h.pos
  have hle : dotP (pA l a) (pA l w) (pA l b) ≤ sqd (pA l a) (pA l w) := by
    rcases Int.lt_or_le (sqd (pA l a) (pA l w)) (dotP (pA l a) (pA l w) (pA l b)) with c | c
    · exfalso
      have k1 : dotP (pA l a) (pA l w) (pA l b) * sqd (pA l a) (pA l w) < dotP (pA l a) (pA l w) (pA l b) * dotP (pA l a) (pA l w) (pA l b) := Int.mul_lt_mul_of_pos_left c hd
      have k2 : sqd (pA l a) (pA l w) * sqd (pA l a) (pA l b) ≤ sqd (pA l a) (pA l w) * sqd (pA l a) (pA l w) := Int.mul_le_mul_of_nonneg_left hm (by omega)
      have k3 : sqd (pA l a) (pA l w) * sqd (pA l a) (pA l w) < dotP (pA l a) (pA l w) (pA l b) * sqd (pA l a) (pA l w) := Int.mul_lt_mul_of_pos_right c (by omega)
      omega
    · exact c
  have key : ∀ x y : Pt, 0 ≤ turn x y (pA l a) → 0 ≤ turn x y (pA l w) → 0 ≤ turn x y (pA l b) := fun x y g1 g2 => by
    have e := id_seg (pA l a) (pA l w) (pA l b) x y
    rw [h0, Int.zero_mul, Int.add_zero] at e
    exact mul_pos_of e (by omega) (Int.add_nonneg (Int.mul_nonneg (by omega) g1) (Int.mul_nonneg (by omega) g2))
  obtain ⟨e1, e2, e3, e4⟩ := h.F.emp t ht
  have ar := (h.F.good t ht).2.2.2
  unfold areaT at ar
  have z : ∀ x y : Pt, turn x y x = 0 ∧ turn x y y = 0 := fun x y => by unfold turn; grind
  have cor : ∀ v, hasV t v → 0 ≤ turn (pI l t.1) (pI l t.2.1) (pA l v) ∧ 0 ≤ turn (pI l t.2.1) (pI l t.2.2) (pA l v) ∧ 0 ≤ turn (pI l t.2.2) (pI l t.1) (pA l v) := by
    have c1 := turn_cyc (pI l t.1) (pI l t.2.1) (pI l t.2.2)
    have c2 := turn_cyc (pI l t.2.1) (pI l t.2.2) (pI l t.1)
    rintro v (e | e | e) <;> rw [e]
    · exact ⟨by rw [show pA l t.1.toNat = pI l t.1 from rfl, (z _ _).1]; omega, by rw [show pA l t.1.toNat = pI l t.1 from rfl]; omega, by rw [show pA l t.1.toNat = pI l t.1 from rfl, (z _ _).2]; omega⟩
    · exact ⟨by rw [show pA l t.2.1.toNat = pI l t.2.1 from rfl, (z _ _).2]; omega, by rw [show pA l t.2.1.toNat = pI l t.2.1 from rfl, (z _ _).1]; omega, by rw [show pA l t.2.1.toNat = pI l t.2.1 from rfl]; omega⟩
    · exact ⟨by rw [show pA l t.2.2.toNat = pI l t.2.2 from rfl]; omega, by rw [show pA l t.2.2.toNat = pI l t.2.2 from rfl, (z _ _).2]; omega, by rw [show pA l t.2.2.toNat = pI l t.2.2 from rfl, (z _ _).1]; omega⟩
  obtain ⟨p1, p2, p3⟩ := cor a h1
  obtain ⟨q1, q2, q3⟩ := cor w h2
  exact e4 b h.hb (key _ _ p1 q1) (key _ _ p2 q2) (key _ _ p3 q3)
/-- A triangle at a in whose angle b is. -/
theorem nearH.cone (h : nearH l L a b) : ∃ t ∈ rts L, t.1.toNat = a ∧ 0 < turn (pA l a) (pI l t.2.1) (pA l b) ∧ 0 < turn (pA l a) (pA l b) (pI l t.2.2) := by
  have pa : ∀ t : T3, t.1.toNat = a → pI l t.1 = pA l a := fun t e => by rw [← e]
  -- a second side, turned on
  have nxt : ∀ t ∈ rts L, t.1.toNat = a → turn (pA l a) (pA l b) (pI l t.2.2) < 0 → ∃ u ∈ rts L, u.1.toNat = a ∧ pI l u.2.1 = pI l t.2.2 := fun t ht e hs => by
    rcases h.F.side _ (rts_rot (rts_rot ht)) with ⟨u, hu, u1, u2⟩ | q
    · exact ⟨u, hu, by rw [u1]; exact e, by rw [u2]⟩
    · exfalso
      have := q b h.hb
      simp only [] at this
      rw [pa t e] at this
      have c : turn (pI l t.2.2) (pA l a) (pA l b) = turn (pA l a) (pA l b) (pI l t.2.2) := by unfold turn; grind
      omega
  have prv : ∀ t ∈ rts L, t.1.toNat = a → turn (pA l a) (pI l t.2.1) (pA l b) < 0 → ∃ u ∈ rts L, u.1.toNat = a ∧ pI l u.2.2 = pI l t.2.1 := fun t ht e hs => by
    rcases h.F.side _ ht with ⟨u, hu, u1, u2⟩ | q
    · exact ⟨_, rts_rot hu, by rw [u2]; exact e, by rw [u1]⟩
    · exfalso
      have := q b h.hb
      rw [pa t e] at this
      omega
  have area : ∀ t ∈ rts L, t.1.toNat = a → 0 < turn (pA l a) (pI l t.2.1) (pI l t.2.2) := fun t ht e => by
    have := (h.F.good t ht).2.2.2
    unfold areaT at this
    rw [pa t e] at this; exact this
  have hne : ∀ t ∈ rts L, t.1.toNat = a → t.2.1.toNat ≠ a ∧ t.2.2.toNat ≠ a := fun t ht e => by
    have g := h.F.good t ht
    obtain ⟨d1, d2, d3⟩ := rot_distinct g
    have := g.1; have := g.2.1; have := g.2.2.1
    exact ⟨by omega, by omega⟩
  have idx : ∀ t ∈ rts L, t.2.1.toNat < l.length ∧ t.2.2.toNat < l.length := fun t ht => by
    have g := h.F.good t ht
    have := g.2.1; have := g.2.2.1
    exact ⟨by omega, by omega⟩
  -- no corner on the line towards b
  have noray : ∀ t ∈ rts L, t.1.toNat = a → turn (pA l a) (pI l t.2.1) (pA l b) = 0 → dotP (pA l a) (pI l t.2.1) (pA l b) < 0 := fun t ht e z => by
    rcases Int.lt_trichotomy (dotP (pA l a) (pI l t.2.1) (pA l b)) 0 with c | c | c
    · exact c
    · exfalso
      have lag := id_lag (pA l a) (pI l t.2.1) (pA l b)
      rw [z, c] at lag
      have s1 := sqd_pos (asc_ne h.asc (Ne.symm (hne t ht e).1) h.ha (idx t ht).1)
      have := Int.mul_pos s1 h.pos
      simp only [pI] at lag
      omega
    · exact (h.ray ht (w := t.2.1.toNat) (.inl e.symm) (.inr (.inl rfl)) (idx t ht).1 (hne t ht e).1 z c).elim
  -- a corner on the line, away from b: the next one is on the right
  have away : ∀ t ∈ rts L, t.1.toNat = a → turn (pA l a) (pI l t.2.1) (pA l b) = 0 → turn (pA l a) (pA l b) (pI l t.2.2) < 0 := fun t ht e z => by
    have dn := noray t ht e z
    have e1 := dot_turn (pI l t.2.1) (pA l a) (pA l b) (pI l t.2.2)
    rw [z, Int.zero_mul, Int.add_zero] at e1
    have k := Int.mul_pos (area t ht e) h.pos
    rcases Int.lt_or_le (turn (pA l a) (pA l b) (pI l t.2.2)) 0 with c | c
    · exact c
    · have := mul_np (Int.le_of_lt dn) c; omega
  by_cases hR : ∃ t ∈ rts L, t.1.toNat = a ∧ 0 < turn (pA l a) (pI l t.2.1) (pA l b)
  · obtain ⟨t, ht, ⟨e, p⟩, hmax⟩ := ex_max (fun t u : T3 => 0 < turn (pA l a) (pI l t.2.1) (pI l u.2.1)) (fun t => t.1.toNat = a ∧ 0 < turn (pA l a) (pI l t.2.1) (pA l b))
      (fun x y z hx hy hz r1 r2 => by
        have e : turn (pA l a) (pI l x.2.1) (pI l z.2.1) * turn (pA l a) (pI l y.2.1) (pA l b) = turn (pA l a) (pI l x.2.1) (pI l y.2.1) * turn (pA l a) (pI l z.2.1) (pA l b) + turn (pA l a) (pI l y.2.1) (pI l z.2.1) * turn (pA l a) (pI l x.2.1) (pA l b) := by unfold turn; grind
        exact mul_pos_of' e hy.2 (Int.add_pos (Int.mul_pos r1 hz.2) (Int.mul_pos r2 hx.2)))
      (fun x _ r => by have : turn (pA l a) (pI l x.2.1) (pI l x.2.1) = 0 := by unfold turn; grind
                       omega)
      (rts L) hR
    refine ⟨t, ht, e, p, ?_⟩
    have sw : ∀ w : Pt, turn (pA l a) w (pA l b) = -turn (pA l a) (pA l b) w := fun w => by unfold turn; grind
    rcases Int.lt_trichotomy (turn (pA l a) (pA l b) (pI l t.2.2)) 0 with c | c | c
    · exfalso
      obtain ⟨u, hu, u1, u2⟩ := nxt t ht e c
      refine hmax u hu ⟨u1, by rw [u2, sw]; omega⟩ ?_
      rw [u2]; exact area t ht e
    · exfalso
      -- on the line: towards b or away
      have z : turn (pA l a) (pA l t.2.2.toNat) (pA l b) = 0 := by have := sw (pI l t.2.2); simp only [pI] at this c; omega
      rcases Int.lt_trichotomy (dotP (pA l a) (pA l t.2.2.toNat) (pA l b)) 0 with d | d | d
      · have e1 := dot_turn (pA l t.2.2.toNat) (pA l a) (pA l b) (pI l t.2.1)
        rw [z, Int.zero_mul, Int.add_zero] at e1
        have k1 := area t ht e
        have k2 : turn (pA l a) (pA l t.2.2.toNat) (pI l t.2.1) < 0 := by
          have : turn (pA l a) (pA l t.2.2.toNat) (pI l t.2.1) = -turn (pA l a) (pI l t.2.1) (pI l t.2.2) := by simp only [pI]; unfold turn; grind
          omega
        have k3 := Int.mul_neg_of_neg_of_pos k2 h.pos
        have k4 : turn (pA l a) (pA l b) (pI l t.2.1) < 0 := by have := sw (pI l t.2.1); omega
        have := mul_pp' d k4
        omega
      · have lag := id_lag (pA l a) (pA l t.2.2.toNat) (pA l b)
        rw [z, d] at lag
        have s1 := sqd_pos (asc_ne h.asc (Ne.symm (hne t ht e).2) h.ha (idx t ht).2)
        have := Int.mul_pos s1 h.pos
        omega
      · exact h.ray ht (w := t.2.2.toNat) (.inl e.symm) (.inr (.inr rfl)) (idx t ht).2 (hne t ht e).2 z d
    · exact c
  · exfalso
    have sw : ∀ w : Pt, turn (pA l a) w (pA l b) = -turn (pA l a) (pA l b) w := fun w => by unfold turn; grind
    have allneg : ∀ t ∈ rts L, t.1.toNat = a → turn (pA l a) (pI l t.2.1) (pA l b) < 0 := fun t ht e => by
      rcases Int.lt_trichotomy (turn (pA l a) (pI l t.2.1) (pA l b)) 0 with c | c | c
      · exact c
      · exfalso
        have k := away t ht e c
        obtain ⟨u, hu, u1, u2⟩ := nxt t ht e k
        exact hR ⟨u, hu, u1, by rw [u2, sw]; omega⟩
      · exact absurd ⟨t, ht, e, c⟩ hR
    obtain ⟨t0, h0, e0⟩ := h.F.cov a h.ha
    obtain ⟨t, ht, ⟨e, p⟩, hmax⟩ := ex_max (fun t u : T3 => 0 < turn (pA l a) (pI l u.2.1) (pI l t.2.1)) (fun t => t.1.toNat = a ∧ turn (pA l a) (pI l t.2.1) (pA l b) < 0)
      (fun x y z hx hy hz r1 r2 => by
        have e : turn (pA l a) (pI l z.2.1) (pI l x.2.1) * (-turn (pA l a) (pI l y.2.1) (pA l b)) = turn (pA l a) (pI l z.2.1) (pI l y.2.1) * (-turn (pA l a) (pI l x.2.1) (pA l b)) + turn (pA l a) (pI l y.2.1) (pI l x.2.1) * (-turn (pA l a) (pI l z.2.1) (pA l b)) := by unfold turn; grind
        exact mul_pos_of' e (by have := hy.2; omega) (Int.add_pos (Int.mul_pos r2 (by have := hx.2; omega)) (Int.mul_pos r1 (by have := hz.2; omega))))
      (fun x _ r => by have : turn (pA l a) (pI l x.2.1) (pI l x.2.1) = 0 := by unfold turn; grind
                       omega)
      (rts L) ⟨t0, h0, e0, allneg t0 h0 e0⟩
    obtain ⟨u, hu, u1, u2⟩ := prv t ht e p
    refine hmax u hu ⟨u1, allneg u hu u1⟩ ?_
    have := area u hu u1
    rw [u2] at this; exact this
/-- A side that ab crosses, b inside of the circle. -/
def crossS (l : List Pt) (a b : Nat) (s : T3) : Prop :=
  turn (pI l s.1) (pI l s.2.1) (pA l b) < 0 ∧ turn (pA l a) (pA l b) (pI l s.1) < 0 ∧ 0 < turn (pA l a) (pA l b) (pI l s.2.1) ∧ 0 < turn (pI l s.1) (pI l s.2.1) (pA l a) ∧ 0 < inC (pI l s.1) (pI l s.2.1) (pI l s.2.2) (pA l b)
theorem nearH.dots (h : nearH l L a b) {t : T3} (ht : t ∈ rts L) (h1 : hasV t a) {w : Nat} (h2 : hasV t w) (hw : w < l.length) (hwa : w ≠ a) : 0 < dotP (pA l w) (pA l a) (pA l b) := by
  have hwb : w ≠ b := by rintro rfl; exact h.both ht h1 h2
  have m1 := h.min w a hw h.ha hwa
  have m2 := h.min w b hw h.hb hwb
  have e := id_dot (pA l w) (pA l a) (pA l b)
  have := h.pos
  omega
theorem nearH.start (h : nearH l L a b) : ∃ s ∈ rts L, crossS l a b s := by
  obtain ⟨t, ht, e, p1, p2⟩ := h.cone
  have g := h.F.good t ht
  have ar := g.2.2.2
  unfold areaT at ar
  have pa : pI l t.1 = pA l a := by rw [← e]
  rw [pa] at ar
  obtain ⟨d1, d2, d3⟩ := rot_distinct g
  have i1 := g.1
  have i2 := g.2.1
  have i3 := g.2.2.1
  have sw : turn (pA l a) (pI l t.2.1) (pA l b) = -turn (pA l a) (pA l b) (pI l t.2.1) := by unfold turn; grind
  refine ⟨_, rts_rot ht, ?_, by simp only []; omega, p2, ?_, ?_⟩
  · simp only []
    rcases Int.lt_or_le (turn (pI l t.2.1) (pI l t.2.2) (pA l b)) 0 with c | c
    · exact c
    · exfalso
      refine h.both ht (.inl e.symm) ((h.F.emp t ht).2.2.2 b h.hb ?_ c ?_)
      · rw [pa]; omega
      · rw [pa]
        have : turn (pI l t.2.2) (pA l a) (pA l b) = turn (pA l a) (pA l b) (pI l t.2.2) := by unfold turn; grind
        omega
  · simp only []
    have := turn_cyc (pA l a) (pI l t.2.1) (pI l t.2.2)
    omega
  · simp only []
    rw [pa, inC_cyc, id_quad]
    have k1 := h.dots ht (.inl e.symm) (w := t.2.2.toNat) (.inr (.inr rfl)) (by omega) (by omega)
    have k2 := h.dots ht (.inl e.symm) (w := t.2.1.toNat) (.inr (.inl rfl)) (by omega) (by omega)
    exact Int.add_pos (Int.mul_pos p1 k1) (Int.mul_pos p2 k2)
/-- The next side. -/
theorem nearH.next (h : nearH l L a b) {s : T3} (hs : s ∈ rts L) (hc : crossS l a b s) : ∃ s' ∈ rts L, crossS l a b s' ∧
    turn (pI l s.1) (pI l s.2.1) (pA l a) * -turn (pI l s'.1) (pI l s'.2.1) (pA l b) < turn (pI l s'.1) (pI l s'.2.1) (pA l a) * -turn (pI l s.1) (pI l s.2.1) (pA l b) := by
  obtain ⟨k1, k2, k3, k4, k5⟩ := hc
  rcases h.F.side s hs with ⟨u, hu, u1, u2⟩ | q
  · have lc := h.F.loc s hs u hu u1 u2
    have gs := h.F.good s hs
    have gu := h.F.good u hu
    have ars := gs.2.2.2
    have aru := gu.2.2.2
    unfold areaT at ars aru
    obtain ⟨e1, e2, e3, e4⟩ := h.F.emp u hu
    have i1 := gu.1
    have i2 := gu.2.1
    have i3 := gu.2.2.1
    rw [u1, u2] at aru e4
    rw [u1] at i1
    rw [u2] at i2
    have r1 := rts_rot hu
    have r2 := rts_rot r1
    simp only [u1, u2] at r1 r2
    obtain ⟨xI, yI, zI⟩ := s
    obtain ⟨_, _, wI⟩ := u
    simp only [] at *
    generalize hX : pI l xI = X at *
    generalize hY : pI l yI = Y at *
    generalize hW : pI l wI = W at *
    generalize hZ' : pI l zI = Z at *
    generalize hA : pA l a = A at *
    generalize hB : pA l b = B at *
    have kb : 0 < turn Y X B := by rw [turn_sw]; omega
    have c5 : 0 < inC Y X W B := by
      have e := id_rad X Y Z W B
      have m1 := Int.mul_pos aru k5
      have m2 := mul_nn (Int.le_of_lt kb) lc
      exact mul_pos_of' (a := inC Y X W B) (b := turn X Y Z) ((Int.mul_comm _ _).trans e) ars (by omega)
    -- b is no corner
    have nob : ¬ (b = yI.toNat ∨ b = xI.toNat ∨ b = wI.toNat) := by
      rintro (e | e | e)
      · have : Y = B := by rw [← hY, ← hB, e]
        rw [this] at kb
        have : turn B X B = 0 := by unfold turn; grind
        omega
      · have : X = B := by rw [← hX, ← hB, e]
        rw [this] at kb
        have : turn Y B B = 0 := by unfold turn; grind
        omega
      · have : W = B := by rw [← hW, ← hB, e]
        rw [this, inC_self] at c5
        omega
    have out : ¬ (0 ≤ turn X W B ∧ 0 ≤ turn W Y B) := fun hh => nob (by have := e4 b h.hb; rw [hB] at this; exact this (by omega) hh.1 hh.2)
    have hh := id_h A B X Y W
    have cyc1 : turn X W Y = turn Y X W := by unfold turn; grind
    have cyc2 : turn W Y X = turn Y X W := by unfold turn; grind
    rcases Int.lt_trichotomy (turn A B W) 0 with c | c | c
    · -- south
      have n1 : turn W Y B < 0 := by
        rcases Int.lt_or_le (turn W Y B) 0 with g | g
        · exact g
        · exfalso
          refine out ⟨?_, g⟩
          have m1 := mul_nn g (Int.le_of_lt k2)
          have m2 := mul_nn (Int.le_of_lt kb) (Int.le_of_lt c)
          exact mul_pos_of (c := -(turn W Y B * turn A B X) - turn Y X B * turn A B W) (by omega) k3 (by omega)
      have ic := id_cross2 A B X Y W
      rw [cyc2] at ic
      have m3 := Int.mul_pos k3 aru
      have m4 := Int.mul_neg_of_pos_of_neg k4 n1
      have n2 : 0 < turn W Y A := mul_pos_of' (b := -turn X Y B) (c := turn A B Y * turn Y X W - turn X Y A * turn W Y B) (by rw [Int.mul_comm]; omega) (by omega) (by omega)
      refine ⟨_, r2, ⟨?_, ?_, ?_, ?_, ?_⟩, ?_⟩
      · simp only [hW, hY, hB]; exact n1
      · simp only [hW, hA, hB]; exact c
      · simp only [hY, hA, hB]; exact k3
      · simp only [hW, hY, hA]; exact n2
      · simp only [hW, hY, hX, hB]; rw [show inC W Y X B = inC Y X W B by unfold inC; grind]; exact c5
      · simp only [hX, hW, hY, hA, hB]
        rw [Int.mul_neg, Int.mul_comm (turn W Y A)]
        omega
    · exfalso
      -- on the line
      have sq := h.pos
      rw [hA, hB] at sq
      have xw : turn X Y W < 0 := by rw [turn_sw]; omega
      have e1 := id_seg2 A W B X Y
      rw [c, Int.zero_mul, Int.add_zero] at e1
      have c' : turn A W B = 0 := by have : turn A W B = -turn A B W := by unfold turn; grind
                                     omega
      have lag := id_lag A W B
      rw [c', Int.zero_mul, Int.add_zero] at lag
      have hwa : wI.toNat ≠ a := by
        rintro e
        have : W = A := by rw [← hW, ← hA, ← e]
        rw [this] at xw; omega
      have hm := h.min a wI.toNat h.ha (by omega) (Ne.symm hwa)
      rw [hA, hB, show pA l wI.toNat = W from hW] at hm
      have dpos : 0 < dotP A W B := by
        rcases Int.lt_or_le 0 (dotP A W B) with g | g
        · exact g
        · exfalso
          have m1 := Int.mul_neg_of_neg_of_pos xw sq
          have m2 : 0 ≤ (sqd A B - dotP A W B) * turn X Y A := Int.mul_nonneg (by omega) (by omega)
          have m3 := mul_nn' g (Int.le_of_lt k1)
          omega
      have dge : sqd A B ≤ dotP A W B := by
        rcases Int.lt_or_le (dotP A W B) (sqd A B) with g | g
        · exfalso
          have m1 : dotP A W B * dotP A W B < dotP A W B * sqd A B := Int.mul_lt_mul_of_pos_left g dpos
          have m2 : dotP A W B * sqd A B < sqd A B * sqd A B := Int.mul_lt_mul_of_pos_right g sq
          have m3 : sqd A B * sqd A B ≤ sqd A W * sqd A B := Int.mul_le_mul_of_nonneg_right hm (by omega)
          omega
        · exact g
      refine out ⟨?_, ?_⟩
      · have e := id_end A B W X
        rw [c, Int.zero_mul, Int.add_zero] at e
        exact mul_pos_of e sq (mul_nn' (by omega) (by omega))
      · have e := id_end2 A B W Y
        rw [c, Int.zero_mul, Int.add_zero] at e
        exact mul_pos_of e sq (Int.mul_nonneg (by omega) (by omega))
    · -- north
      have n1 : turn X W B < 0 := by
        rcases Int.lt_or_le (turn X W B) 0 with g | g
        · exact g
        · exfalso
          refine out ⟨g, ?_⟩
          have m1 := Int.mul_nonneg g (Int.le_of_lt k3)
          have m2 := Int.mul_pos kb c
          exact mul_pos_of (b := -turn A B X) (c := turn X W B * turn A B Y + turn Y X B * turn A B W) (by rw [Int.mul_neg]; omega) (by omega) (by omega)
      have ic := id_cross A B X Y W
      rw [cyc1] at ic
      have m3 := Int.mul_pos (show 0 < -turn A B X by omega) aru
      have m4 := Int.mul_neg_of_pos_of_neg k4 n1
      have n2 : 0 < turn X W A := mul_pos_of' (b := -turn X Y B) (c := -turn A B X * turn Y X W - turn X Y A * turn X W B) (by rw [Int.mul_comm]; omega) (by omega) (by omega)
      refine ⟨_, r1, ⟨?_, ?_, ?_, ?_, ?_⟩, ?_⟩
      · simp only [hX, hW, hB]; exact n1
      · simp only [hX, hA, hB]; exact k2
      · simp only [hW, hA, hB]; exact c
      · simp only [hX, hW, hA]; exact n2
      · simp only [hW, hY, hX, hB]; rw [show inC X W Y B = inC Y X W B by unfold inC; grind]; exact c5
      · simp only [hX, hW, hY, hA, hB]
        rw [Int.mul_neg, Int.mul_comm (turn X W A)]
        omega
  · exfalso
    have := q b h.hb
    omega
theorem nearH.absurd (h : nearH l L a b) : False := by
  obtain ⟨s, hs, hc, hmax⟩ := ex_max (fun s s' : T3 => turn (pI l s.1) (pI l s.2.1) (pA l a) * -turn (pI l s'.1) (pI l s'.2.1) (pA l b) < turn (pI l s'.1) (pI l s'.2.1) (pA l a) * -turn (pI l s.1) (pI l s.2.1) (pA l b)) (crossS l a b)
    (fun x y z hx hy hz r1 r2 => by
      obtain ⟨x1, _, _, x4, _⟩ := hx
      obtain ⟨y1, _, _, y4, _⟩ := hy
      obtain ⟨z1, _, _, z4, _⟩ := hz
      generalize turn (pI l x.1) (pI l x.2.1) (pA l a) = p at *
      generalize turn (pI l y.1) (pI l y.2.1) (pA l a) = q at *
      generalize turn (pI l z.1) (pI l z.2.1) (pA l a) = r at *
      have nx : 0 < -turn (pI l x.1) (pI l x.2.1) (pA l b) := by omega
      have ny : 0 < -turn (pI l y.1) (pI l y.2.1) (pA l b) := by omega
      have nz : 0 < -turn (pI l z.1) (pI l z.2.1) (pA l b) := by omega
      generalize -turn (pI l x.1) (pI l x.2.1) (pA l b) = p' at *
      generalize -turn (pI l y.1) (pI l y.2.1) (pA l b) = q' at *
      generalize -turn (pI l z.1) (pI l z.2.1) (pA l b) = r' at *
      have m1 : p * q' * r' < q * p' * r' := Int.mul_lt_mul_of_pos_right r1 nz
      have m2 : q * r' * p' < r * q' * p' := Int.mul_lt_mul_of_pos_right r2 nx
      have e1 : q * p' * r' = q * r' * p' := by grind
      have m3 : p * r' * q' < r * p' * q' := by
        have e2 : p * r' * q' = p * q' * r' := by grind
        have e3 : r * p' * q' = r * q' * p' := by grind
        omega
      exact Int.lt_of_mul_lt_mul_right m3 (by omega))
    (fun x _ r => by omega)
    (rts L) h.start
  obtain ⟨s', hs', hc', hr⟩ := h.next hs hc
  exact hmax s' hs' hc' hr
end
/-- The nearest two points are the ends of a side. -/
theorem near_side {l : List Pt} {N a b : Nat} (hl : Asc l) (hN : 2 ≤ N) (hn : N < l.length) (hon : onL l N) (hoff : turn (pA l 0) (pA l 1) (pA l N) ≠ 0) (ha : a < l.length) (hb : b < l.length) (hab : a ≠ b)
    (hmin : ∀ i k, i < l.length → k < l.length → i ≠ k → sqd (pA l a) (pA l b) ≤ sqd (pA l i) (pA l k)) :
    ∃ t ∈ delP l (swp l N (l.length - N)).1, sqd (pI l t.1) (pI l t.2.1) = sqd (pA l a) (pA l b) ∨ sqd (pI l t.2.1) (pI l t.2.2) = sqd (pA l a) (pA l b) ∨ sqd (pI l t.2.2) (pI l t.1) = sqd (pA l a) (pA l b) := by
  obtain ⟨k, hk⟩ : ∃ k, l.length - N = k + 1 := ⟨l.length - N - 1, by omega⟩
  have hr := ring_all hl hN hn hon hoff k (by omega)
  have he := swp_emp hl hN hn hon hoff k (by omega)
  have hs := fun (f : Nat → Nat → Int) hf => sum_all hl hN hn hon hoff (f := f) hf (k + 1) (by omega)
  have hg := swp_good (l := l) hN (k + 1) (by omega)
  rw [show N + (k + 1) = l.length by omega] at hr he
  obtain ⟨T, e, hT, hc, _⟩ := hr
  rw [e, List.tail_cons] at hs
  have hI : delI l (fun f => chS f 0 (T ++ [0])) (swp l N (k + 1)).1 := ⟨hg, he.1, he.2, fun f hf => (hs f hf).symm⟩
  have hI2 := delN_inv ((potL l (swp l N (k + 1)).1).toNat + 1) hI
  have hF := delP_done hg
  rw [hk]
  have F := delF_of hI2 (fun f _ => rfl) hc hF
  rcases Classical.em (∃ t ∈ rts (delP l (swp l N (k + 1)).1), sqd (pI l t.1) (pI l t.2.1) = sqd (pA l a) (pA l b)) with h | h
  · obtain ⟨t, ht, hq⟩ := h
    obtain ⟨u, hu, m, hm, rfl⟩ := mem_rts.1 ht
    refine ⟨u, hu, ?_⟩
    match m, hm with
    | 0, _ => exact .inl hq
    | 1, _ => exact .inr (.inl hq)
    | 2, _ => exact .inr (.inr hq)
  · exact (nearH.absurd ⟨hl, F, ha, hb, hab, hmin, fun t ht hq => h ⟨t, ht, hq⟩⟩).elim


def mRow (l : List Pt) (i : Nat) (s : (Nat × Nat) × Int) : Nat → (Nat × Nat) × Int
  | 0 => s
  | m + 1 => if (mRow l i s m).2 < 0 ∨ dis l (i, i + 1 + m) < (mRow l i s m).2 then ((i, i + 1 + m), dis l (i, i + 1 + m)) else mRow l i s m
def mAll (l : List Pt) : Nat → (Nat × Nat) × Int
  | 0 => ((0, 0), -1)
  | i + 1 => mRow l i (mAll l i) (l.length - (i + 1))
theorem mAll_end (l : List Pt) (i : Nat) : mAll l (i + 1) = mRow l i (mAll l i) (l.length - (i + 1)) := rfl
/-- A pair and its distance, if one was seen. -/
def mI (l : List Pt) (r : (Nat × Nat) × Int) : Prop := r.2 < 0 ∨ (r.2 = dis l r.1 ∧ r.1.1 < r.1.2 ∧ r.1.2 < l.length)
theorem mRow_in {l : List Pt} {i : Nat} {s : (Nat × Nat) × Int} (h : mI l s) : ∀ m, i + m < l.length → mI l (mRow l i s m)
  | 0, _ => h
  | m + 1, hm => by
    have ih := mRow_in (i := i) h m (by omega)
    rw [mRow]
    split
    · exact .inr ⟨rfl, by simp only []; omega, by simp only []; omega⟩
    · exact ih
theorem mAll_in (l : List Pt) : ∀ i, i ≤ l.length → mI l (mAll l i)
  | 0, _ => .inl (by simp [mAll])
  | i + 1, h => mRow_in (mAll_in l i (by omega)) _ (by omega)
theorem mRow_le {l : List Pt} {i : Nat} {s : (Nat × Nat) × Int} : ∀ m, (0 ≤ s.2 → 0 ≤ (mRow l i s m).2 ∧ (mRow l i s m).2 ≤ s.2) ∧ ∀ j, j < m → 0 ≤ (mRow l i s m).2 ∧ (mRow l i s m).2 ≤ dis l (i, i + 1 + j)
  | 0 => ⟨fun h => ⟨h, Int.le_refl _⟩, fun j h => by omega⟩
  | m + 1 => by
    obtain ⟨h1, h2⟩ := mRow_le (l := l) (i := i) (s := s) m
    have hn := dis_nonneg l (i, i + 1 + m)
    rw [mRow]
    generalize mRow l i s m = r at *
    split
    · rename_i c
      refine ⟨fun h => ?_, fun j hj => ?_⟩
      · have := h1 h; exact ⟨hn, by simp only []; omega⟩
      · rcases Nat.lt_succ_iff_lt_or_eq.1 hj with q | rfl
        · have := h2 j q; exact ⟨hn, by simp only []; omega⟩
        · exact ⟨hn, Int.le_refl _⟩
    · rename_i c
      refine ⟨h1, fun j hj => ?_⟩
      rcases Nat.lt_succ_iff_lt_or_eq.1 hj with q | rfl
      · exact h2 j q
      · omega
theorem mAll_le (l : List Pt) : ∀ n i k, i < n → i < k → k < l.length → 0 ≤ (mAll l n).2 ∧ (mAll l n).2 ≤ dis l (i, k)
  | n + 1, i, k, hi, hk, hl => by
    obtain ⟨h1, h2⟩ := mRow_le (l := l) (i := n) (s := mAll l n) (l.length - (n + 1))
    rw [mAll]
    rcases Nat.lt_succ_iff_lt_or_eq.1 hi with h | rfl
    · have h3 := mAll_le l n i k h hk hl
      have h4 := h1 h3.1
      exact ⟨h4.1, by omega⟩
    · have := h2 (k - (i + 1)) (by omega)
      rwa [show i + 1 + (k - (i + 1)) = k by omega] at this
/-- The nearest pair. -/
theorem near_pair {l : List Pt} (h2 : 2 ≤ l.length) : ∃ a b, a < l.length ∧ b < l.length ∧ a ≠ b ∧ (mAll l l.length).2 = sqd (pA l a) (pA l b) ∧ ∀ i k, i < l.length → k < l.length → i ≠ k → sqd (pA l a) (pA l b) ≤ sqd (pA l i) (pA l k) := by
  have hle := mAll_le l l.length
  have h0 := hle 0 1 (by omega) (by omega) (by omega)
  rcases mAll_in l l.length (Nat.le_refl _) with h | ⟨e1, e2, e3⟩
  · omega
  · refine ⟨_, _, by omega, e3, by omega, e1, fun i k hi hk hne => ?_⟩
    have e : sqd (pA l (mAll l l.length).1.1) (pA l (mAll l l.length).1.2) = (mAll l l.length).2 := e1.symm
    rw [e]
    rcases Nat.lt_or_ge i k with c | c
    · exact (hle i k hi c hk).2
    · have := (hle k i hk (by omega) hi).2
      have q : dis l (k, i) = sqd (pA l i) (pA l k) := sqd_comm _ _
      omega
end Go.Pl
