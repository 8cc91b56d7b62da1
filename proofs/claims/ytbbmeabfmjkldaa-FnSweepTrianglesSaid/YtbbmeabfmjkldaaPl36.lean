import Derived.Test.YtbbmeabfmjkldaaPl35
/- The sweep's ring: all points lie to the left of its sides. -/
set_option linter.unusedVariables false
set_option linter.unusedSimpArgs false
namespace Go.Pl

/-- Ahead in the order of points. -/
def lexp (x y : Int) : Prop := 0 < x ∨ (x = 0 ∧ 0 < y)
theorem lexp_zero {x y a : Int} (h : lexp x y) (ha : 0 ≤ a) : 0 ≤ a * x ∧ (a * x = 0 → 0 ≤ a * y ∧ (a ≠ 0 → x = 0 ∧ 0 < a * y)) := by
  rcases h with h | ⟨h, h2⟩
  · refine ⟨Int.mul_nonneg ha (by omega), fun e => ?_⟩
    rcases Int.mul_eq_zero.1 e with q | q
    · subst q; simp
    · omega
  · subst h
    refine ⟨by simp, fun _ => ⟨Int.mul_nonneg ha (by omega), fun hn => ⟨rfl, Int.mul_pos (by omega) h2⟩⟩⟩
/-- No sum of vectors ahead is nothing. -/
theorem lexC {p1 p2 q1 q2 r1 r2 a b c : Int} (hp : lexp p1 p2) (hq : lexp q1 q2) (hr : lexp r1 r2) (ha : 0 ≤ a) (hb : 0 ≤ b) (hc : 0 ≤ c) (e1 : a * p1 + b * q1 + c * r1 = 0) (e2 : a * p2 + b * q2 + c * r2 = 0) : a = 0 ∧ b = 0 ∧ c = 0 := by
  obtain ⟨a1, a2⟩ := lexp_zero hp ha
  obtain ⟨b1, b2⟩ := lexp_zero hq hb
  obtain ⟨c1, c2⟩ := lexp_zero hr hc
  obtain ⟨a3, a4⟩ := a2 (by omega)
  obtain ⟨b3, b4⟩ := b2 (by omega)
  obtain ⟨c3, c4⟩ := c2 (by omega)
  refine ⟨?_, ?_, ?_⟩
  · rcases Int.lt_trichotomy a 0 with q | q | q
    · omega
    · exact q
    · have := (a4 (by omega)).2; omega
  · rcases Int.lt_trichotomy b 0 with q | q | q
    · omega
    · exact q
    · have := (b4 (by omega)).2; omega
  · rcases Int.lt_trichotomy c 0 with q | q | q
    · omega
    · exact q
    · have := (c4 (by omega)).2; omega
theorem lexp_sq {x y : Int} (h : lexp x y) : 0 < x * x + y * y := by
  have s1 := sq_nonneg x
  have s2 := sq_nonneg y
  rcases h with h | ⟨_, h⟩
  · have := Int.mul_pos h h; omega
  · have := Int.mul_pos h h; omega
/-- Vectors ahead on one line have one direction. -/
theorem lexp_dot {p1 p2 q1 q2 : Int} (hp : lexp p1 p2) (hq : lexp q1 q2) (h : p1 * q2 - p2 * q1 = 0) : 0 < p1 * q1 + p2 * q2 := by
  rcases Int.lt_or_le 0 (p1 * q1 + p2 * q2) with g | g
  · exact g
  · exfalso
    have sq := lexp_sq hp
    have := lexC hp hq hq (a := -(p1 * q1 + p2 * q2)) (b := p1 * p1 + p2 * p2) (c := 0) (by omega) (by omega) (by omega)
      (by have : -(p1 * q1 + p2 * q2) * p1 + (p1 * p1 + p2 * p2) * q1 + 0 * q1 = -(p2 * (p1 * q2 - p2 * q1)) := by grind
          rw [this, h]; simp)
      (by have : -(p1 * q1 + p2 * q2) * p2 + (p1 * p1 + p2 * p2) * q2 + 0 * q2 = p1 * (p1 * q2 - p2 * q1) := by grind
          rw [this, h]; simp)
    omega
theorem mul_pos_of {a b c : Int} (h : a * b = c) (hb : 0 < b) (hc : 0 ≤ c) : 0 ≤ a := by
  rcases Int.lt_or_le a 0 with q | q
  · have := Int.mul_neg_of_neg_of_pos q hb; omega
  · exact q
theorem mul_pos_of' {a b c : Int} (h : a * b = c) (hb : 0 < b) (hc : 0 < c) : 0 < a := by
  rcases Int.lt_or_le 0 a with q | q
  · exact q
  · have : a * b ≤ 0 * b := Int.mul_le_mul_of_nonneg_right q (by omega)
    omega
theorem mul_nn {a b : Int} (ha : 0 ≤ a) (hb : b ≤ 0) : a * b ≤ 0 := by
  have := Int.mul_nonneg ha (show 0 ≤ -b by omega)
  rw [Int.mul_neg] at this; omega
theorem mul_np {a b : Int} (ha : a ≤ 0) (hb : 0 ≤ b) : a * b ≤ 0 := by rw [Int.mul_comm]; exact mul_nn hb ha
theorem mul_nn' {a b : Int} (ha : a ≤ 0) (hb : b ≤ 0) : 0 ≤ a * b := by
  have := Int.mul_nonneg (show 0 ≤ -a by omega) (show 0 ≤ -b by omega)
  rw [Int.neg_mul_neg] at this; exact this
theorem mul_pp' {a b : Int} (ha : a < 0) (hb : b < 0) : 0 < a * b := by
  have := Int.mul_pos (show 0 < -a by omega) (show 0 < -b by omega)
  rw [Int.neg_mul_neg] at this; exact this

/-- New sides at a corner. -/
theorem tan2 {t u v n q : Pt} (h1 : 0 ≤ turn t u q) (h2 : 0 ≤ turn u v q) (h3 : 0 ≤ turn t u n) (h4 : turn u v n < 0) (h5 : 0 < turn u v t) : 0 ≤ turn u n q := by
  have e : turn u n q * turn u v t = (-turn u v n) * turn t u q + turn u v q * turn t u n := by unfold turn; grind
  exact mul_pos_of e h5 (Int.add_nonneg (Int.mul_nonneg (by omega) h1) (Int.mul_nonneg h2 h3))
theorem tan3 {t u v n q : Pt} (h1 : 0 ≤ turn t u q) (h2 : 0 ≤ turn u v q) (h3 : turn t u n < 0) (h4 : 0 ≤ turn u v n) (h5 : 0 < turn u v t) : 0 ≤ turn n u q := by
  have e : turn n u q * turn u v t = turn u v n * turn t u q + turn u v q * (-turn t u n) := by unfold turn; grind
  exact mul_pos_of e h5 (Int.add_nonneg (Int.mul_nonneg h4 h1) (Int.mul_nonneg h2 (by omega)))
def dotP (u t v : Pt) : Int := (t.1 - u.1) * (v.1 - u.1) + (t.2 - u.2) * (v.2 - u.2)
theorem dot_turn (t u v q : Pt) : turn u t q * sqd u v = dotP u t v * turn u v q + turn u t v * dotP u q v := by unfold turn sqd dotP; grind
theorem sqd_pos {a b : Pt} (h : a ≠ b) : 0 < sqd a b := by
  have := sqd_nonneg a b
  rcases Int.lt_or_le 0 (sqd a b) with q | q
  · exact q
  · exact absurd (sqd_eq_zero (by omega)) h
/-- A corner that is a spike: all is on one line. -/
theorem spike {t u v : Pt} (htu : t ≠ u) (huv : u ≠ v) (h0 : turn u v t = 0) : dotP u t v ≠ 0 ∧
    (0 < dotP u t v → ∀ q, 0 ≤ turn t u q → 0 ≤ turn u v q → turn u v q = 0) ∧ (dotP u t v < 0 → ∀ q, (0 ≤ turn t u q → 0 ≤ turn u v q) ∧ (turn t u q < 0 → turn u v q < 0)) := by
  have k0 : turn u t v = 0 := by have : turn u t v = -turn u v t := by unfold turn; grind
                                 omega
  have sv := sqd_pos huv
  have key : ∀ q, turn t u q * sqd u v = -(dotP u t v * turn u v q) := by
    intro q
    have e := dot_turn t u v q
    have : turn t u q = -turn u t q := by unfold turn; grind
    rw [k0, Int.zero_mul] at e
    rw [this, Int.neg_mul]
    omega
  refine ⟨fun hd => ?_, fun hd q g1 g2 => ?_, fun hd q => ⟨fun g => ?_, fun g => ?_⟩⟩
  · have e : dotP u t v * dotP u t v + turn u v t * turn u v t = sqd u t * sqd u v := by unfold dotP turn sqd; grind
    rw [hd, h0] at e
    have st := sqd_pos (Ne.symm htu)
    have := Int.mul_pos st sv
    omega
  · have e := key q
    have p1 := Int.mul_nonneg g1 (Int.le_of_lt sv)
    have p2 := Int.mul_nonneg (Int.le_of_lt hd) g2
    have : dotP u t v * turn u v q = 0 := by omega
    rcases Int.mul_eq_zero.1 this with r | r
    · omega
    · exact r
  · have e := key q
    have p1 := Int.mul_nonneg g (Int.le_of_lt sv)
    rcases Int.lt_or_le (turn u v q) 0 with r | r
    · have := mul_pp' hd r; omega
    · exact r
  · have e := key q
    have p1 := Int.mul_neg_of_neg_of_pos g sv
    rcases Int.lt_or_le (turn u v q) 0 with r | r
    · exact r
    · have := mul_np (Int.le_of_lt hd) r; omega

/-! points in order -/
theorem asc_lt {l : List Pt} (h : Asc l) {i j : Nat} (hij : i < j) (hj : j < l.length) : ltP (pA l i) (pA l j) = true := by
  unfold Asc at h
  rw [List.pairwise_iff_getElem] at h
  have := h i j (by omega) hj hij
  have e0 : pA l i = l[i] := by simp [pA, List.getD, show i < l.length by omega]
  have e1 : pA l j = l[j] := by simp [pA, List.getD, hj]
  rw [e0, e1]; exact this
theorem asc_lexp {l : List Pt} (h : Asc l) {i j : Nat} (hij : i < j) (hj : j < l.length) : lexp ((pA l j).1 - (pA l i).1) ((pA l j).2 - (pA l i).2) := lt_pos (asc_lt h hij hj)
theorem asc_ne {l : List Pt} (h : Asc l) {i j : Nat} (hij : i ≠ j) (hi : i < l.length) (hj : j < l.length) : pA l i ≠ pA l j := by
  rcases Nat.lt_or_ge i j with q | q
  · exact ltP_ne (asc_lt h q hj)
  · exact (ltP_ne (asc_lt h (show j < i by omega) hi)).symm
/-- A side with all of the first k points to its left, and none between its ends. -/
def gE (l : List Pt) (k x y : Nat) : Prop := x < k ∧ y < k ∧ x ≠ y ∧ (∀ q, q < k → 0 ≤ turn (pA l x) (pA l y) (pA l q)) ∧ (∀ q, q < k → turn (pA l x) (pA l y) (pA l q) = 0 → ¬ (x < q ∧ q < y) ∧ ¬ (y < q ∧ q < x))
/-- A ring around the first k points. -/
def rInv (l : List Pt) (k : Nat) (r : List Nat) : Prop := ∃ T, r = 0 :: T ∧ 0 ∉ T ∧ chE (gE l k) 0 (T ++ [0]) ∧ (k - 1) ∈ T
theorem ring_at {P : Nat → Nat → Prop} {s : Nat} {T : List Nat} (h : chE P s (T ++ [s])) : ∀ i, i < (s :: T).length → P (rA (s :: T) i) (vtx (s :: T) (i + 1)) := by
  intro i hi
  have := chE_at h i (by simpa using hi)
  have e1 : (s :: (T ++ [s])).getD i 0 = rA (s :: T) i := by
    simp only [rA, List.getD]
    rw [show s :: (T ++ [s]) = (s :: T) ++ [s] by simp, List.getElem?_append_left hi]
  have e2 : (s :: (T ++ [s])).getD (i + 1) 0 = vtx (s :: T) (i + 1) := by
    unfold vtx
    split
    · rename_i e
      rw [show s :: (T ++ [s]) = (s :: T) ++ [s] by simp, e]
      simp [rA]
    · rename_i e
      simp only [rA, List.getD]
      rw [show s :: (T ++ [s]) = (s :: T) ++ [s] by simp, List.getElem?_append_left (by omega)]
  rw [e1, e2] at this
  exact this
theorem seen_vtx {l : List Pt} {r : List Nat} {n i : Nat} (h : i < r.length) : seenB l r n i = decide (turn (pA l (rA r i)) (pA l (vtx r (i + 1))) (pA l n) < 0) := by
  unfold seenB; rw [vtx_mod h]
theorem seen_t {l : List Pt} {r : List Nat} {n i : Nat} (h : i < r.length) (hs : seenB l r n i = true) : turn (pA l (rA r i)) (pA l (vtx r (i + 1))) (pA l n) < 0 := by
  rw [seen_vtx h] at hs; exact of_decide_eq_true hs
theorem seen_f {l : List Pt} {r : List Nat} {n i : Nat} (h : i < r.length) (hs : seenB l r n i = false) : 0 ≤ turn (pA l (rA r i)) (pA l (vtx r (i + 1))) (pA l n) := by
  rw [seen_vtx h] at hs; have := of_decide_eq_false hs; omega
/-- The vertex before. -/
theorem prv_ex (l : List Pt) {r : List Nat} (n : Nat) {i : Nat} (h : i < r.length) : ∃ j, j < r.length ∧ vtx r (j + 1) = rA r i ∧ prvB l r n i = seenB l r n j := by
  refine ⟨(i + r.length - 1) % r.length, Nat.mod_lt _ (by omega), ?_, rfl⟩
  rcases Nat.eq_zero_or_pos i with z | z
  · subst z
    rw [show 0 + r.length - 1 = r.length - 1 by omega, Nat.mod_eq_of_lt (by omega), show r.length - 1 + 1 = r.length by omega]
    unfold vtx; rw [if_pos rfl]
  · rw [show i + r.length - 1 = (i - 1) + r.length by omega, Nat.add_mod_right, Nat.mod_eq_of_lt (by omega), show i - 1 + 1 = i by omega]
    exact vtx_lt h
/-- Three points that are not on one line are there. -/
def offL (l : List Pt) (k : Nat) : Prop := ∃ N, N < k ∧ 2 ≤ N ∧ turn (pA l 0) (pA l 1) (pA l N) ≠ 0
theorem off_ex {l : List Pt} {k u v : Nat} (h : offL l k) (hk : k ≤ l.length) (hl : Asc l) (hu : u < k) (hv : v < k) (huv : u ≠ v) : ¬ ∀ q, q < k → turn (pA l u) (pA l v) (pA l q) = 0 := by
  intro hq
  obtain ⟨N, h1, h2, h3⟩ := h
  exact h3 (col_three (asc_ne hl huv (by omega) (by omega)) (hq 0 (by omega)) (hq 1 (by omega)) (hq N h1))
/-- The corners of a ring. -/
theorem corner {l : List Pt} {k t u v : Nat} (hl : Asc l) (hk : k ≤ l.length) (ho : offL l k) (h1 : gE l k t u) (h2 : gE l k u v) {n : Pt}
    (hn : (0 ≤ turn (pA l t) (pA l u) n ∧ turn (pA l u) (pA l v) n < 0) ∨ (turn (pA l t) (pA l u) n < 0 ∧ 0 ≤ turn (pA l u) (pA l v) n)) : 0 < turn (pA l u) (pA l v) (pA l t) := by
  have h0 := h2.2.2.2.1 t h1.1
  rcases Int.lt_or_le 0 (turn (pA l u) (pA l v) (pA l t)) with q | q
  · exact q
  · exfalso
    have n1 := asc_ne hl h1.2.2.1 (by have := h1.1; omega) (by have := h1.2.1; omega)
    have n2 := asc_ne hl h2.2.2.1 (by have := h2.1; omega) (by have := h2.2.1; omega)
    obtain ⟨s1, s2, s3⟩ := spike n1 n2 (by omega)
    rcases Int.lt_trichotomy (dotP (pA l u) (pA l t) (pA l v)) 0 with d | d | d
    · obtain ⟨g1, g2⟩ := s3 d n
      rcases hn with ⟨a, b⟩ | ⟨a, b⟩
      · have := g1 a; omega
      · have := g2 a; omega
    · exact s1 d
    · exact off_ex ho hk hl h2.1 h2.2.1 h2.2.2.1 fun q hq => s2 d _ (h1.2.2.2.1 q hq) (h2.2.2.2.1 q hq)
/-- No two vectors ahead that are seen from one ahead. -/
theorem first_corner {t u v n : Pt} (ht : lexp (t.1 - u.1) (t.2 - u.2)) (hv : lexp (v.1 - u.1) (v.2 - u.2)) (hn : lexp (n.1 - u.1) (n.2 - u.2)) (h0 : 0 ≤ turn u v t) (h1 : turn t u n < 0) (h2 : turn u v n < 0) : False := by
  have := lexC ht hv hn (a := -turn u v n) (b := -turn t u n) (c := turn u v t) (by omega) (by omega) h0 (by unfold turn; grind) (by unfold turn; grind)
  omega
theorem last_corner {t u v n : Pt} (ht : lexp (u.1 - t.1) (u.2 - t.2)) (hv : lexp (u.1 - v.1) (u.2 - v.2)) (hn : lexp (n.1 - u.1) (n.2 - u.2)) (h0 : 0 ≤ turn u v t) (h1 : 0 ≤ turn t u n) (h2 : 0 ≤ turn u v n) : turn u v t = 0 ∧ 0 < dotP u t v := by
  have := lexC ht hv hn (a := turn u v n) (b := turn t u n) (c := turn u v t) (by omega) (by omega) h0 (by unfold turn; grind) (by unfold turn; grind)
  refine ⟨this.2.2, ?_⟩
  have := lexp_dot ht hv (by have e : (u.1 - t.1) * (u.2 - v.2) - (u.2 - t.2) * (u.1 - v.1) = -turn u v t := by unfold turn; grind
                             omega)
  have e : dotP u t v = (u.1 - t.1) * (u.1 - v.1) + (u.2 - t.2) * (u.2 - v.2) := by unfold dotP; grind
  omega
theorem gE_more {l : List Pt} {n x y : Nat} (h : gE l n x y) (hn : 0 ≤ turn (pA l x) (pA l y) (pA l n)) : gE l (n + 1) x y := by
  obtain ⟨h1, h2, h3, h4, h5⟩ := h
  refine ⟨by omega, by omega, h3, fun q hq => ?_, fun q hq e => ?_⟩
  · rcases Nat.lt_or_ge q n with c | c
    · exact h4 q c
    · rw [show q = n by omega]; exact hn
  · rcases Nat.lt_or_ge q n with c | c
    · exact h5 q c e
    · omega
theorem par_same {u v n q : Pt} (hn : lexp (n.1 - u.1) (n.2 - u.2)) (hq : lexp (q.1 - u.1) (q.2 - u.2)) (h : turn u n q = 0) (h1 : turn u v n < 0) : turn u v q < 0 := by
  rcases Int.lt_or_le (turn u v q) 0 with g | g
  · exact g
  · exfalso
    have := lexC hq hn hn (a := -turn u v n) (b := turn u v q) (c := 0) (by omega) g (by omega)
      (by have : -turn u v n * (q.1 - u.1) + turn u v q * (n.1 - u.1) + 0 * (n.1 - u.1) = (v.1 - u.1) * turn u n q := by unfold turn; grind
          rw [this, h]; simp)
      (by have : -turn u v n * (q.2 - u.2) + turn u v q * (n.2 - u.2) + 0 * (n.2 - u.2) = (v.2 - u.2) * turn u n q := by unfold turn; grind
          rw [this, h]; simp)
    omega
/-- One point more. -/
theorem ring_step {l : List Pt} {n : Nat} {r : List Nat} (hl : Asc l) (hn : n < l.length) (ho : offL l n) (hr : rInv l n r) : rInv l (n + 1) (nxtL l r n r.length) ∧ (∃ i, i < r.length ∧ seenB l r n i = true) ∧ ¬ (prvB l r n 0 = true ∧ seenB l r n 0 = true) ∧ (∀ i, i < r.length → gE l n (rA r i) (vtx r (i + 1))) := by
  obtain ⟨T, rfl, hT, hc, hm⟩ := hr
  have hat := ring_at hc
  generalize hr : 0 :: T = r at *
  have hlen : 0 < r.length := by rw [← hr]; simp
  have r0 : rA r 0 = 0 := by rw [← hr]; rfl
  have hnz : ∀ j, 1 ≤ j → j < r.length → rA r j ≠ 0 := by
    intro j h1 h2 e
    apply hT
    obtain ⟨i, rfl⟩ : ∃ i, j = i + 1 := ⟨j - 1, by omega⟩
    rw [← hr] at e h2
    simp only [rA, List.getD_cons_succ] at e
    have : i < T.length := by simpa using h2
    rw [← e]; simp [List.getD, this]
  have lex : ∀ x, x < n → lexp ((pA l n).1 - (pA l x).1) ((pA l n).2 - (pA l x).2) := fun x hx => asc_lexp hl hx hn
  have h0 : ¬ (prvB l r n 0 = true ∧ seenB l r n 0 = true) := by
    rintro ⟨p1, p2⟩
    obtain ⟨j, j1, j2, j3⟩ := prv_ex l n hlen
    rw [j3] at p1
    have g1 := hat j j1
    have g2 := hat 0 hlen
    have s1 := seen_t j1 p1
    have s2 := seen_t hlen p2
    rw [j2, r0] at g1 s1
    rw [r0] at g2 s2
    exact first_corner (asc_lexp hl (by have := g1.2.2.1; omega) (by have := g1.1; omega)) (asc_lexp hl (by have := g2.2.2.1; omega) (by have := g2.2.1; omega)) (lex 0 g1.2.1) (g2.2.2.2.1 _ g1.1) s1 s2
  have hs : ∃ i, i < r.length ∧ seenB l r n i = true := by
    have hm' : ∃ i, i < r.length ∧ rA r i = n - 1 := by
      have : n - 1 ∈ r := by rw [← hr]; simp [hm]
      obtain ⟨i, h1, h2⟩ := List.getElem_of_mem this
      exact ⟨i, h1, by simp [rA, List.getD, h1, h2]⟩
    obtain ⟨i, i1, i2⟩ := hm'
    cases p2 : seenB l r n i with
    | true => exact ⟨i, i1, p2⟩
    | false =>
      obtain ⟨j, j1, j2, j3⟩ := prv_ex l n i1
      cases p1 : seenB l r n j with
      | true => exact ⟨j, j1, p1⟩
      | false =>
        exfalso
        have g1 := hat j j1
        have g2 := hat i i1
        have s1 := seen_f j1 p1
        have s2 := seen_f i1 p2
        rw [j2] at g1 s1
        have b1 := g1.1
        have b2 := g1.2.1
        have b3 := g1.2.2.1
        have b4 := g2.2.1
        have b5 := g2.2.2.1
        obtain ⟨k1, k2⟩ := last_corner (asc_lexp hl (show rA r j < rA r i by omega) (by omega)) (asc_lexp hl (show vtx r (i + 1) < rA r i by omega) (by omega)) (lex _ b2) (g2.2.2.2.1 _ b1) s1 s2
        obtain ⟨q1, q2, q3⟩ := spike (asc_ne hl b3 (by omega) (by omega)) (asc_ne hl b5 (by omega) (by omega)) k1
        exact off_ex ho (by omega) hl b2 b4 b5 fun q hq => q2 k2 _ (g1.2.2.2.1 q hq) (g2.2.2.2.1 q hq)
  refine ⟨?_, hs, h0, hat⟩
  obtain ⟨T', e, f1, f2, f3, f4⟩ := nxt_ring hlen h0
  rw [r0] at e f1 f2
  refine ⟨T', e, fun hz => ?_, f1 _ ?_ ?_ ?_, f4 hs⟩
  · rcases f3 0 hz with q | ⟨j, j1, j2, j3⟩
    · obtain ⟨N, a, b, c⟩ := ho; omega
    · exact hnz j j1 j2 j3.symm
  · intro i hi h
    exact gE_more (hat i hi) (seen_f hi h)
  · intro i hi h1 h2
    obtain ⟨j, j1, j2, j3⟩ := prv_ex l n hi
    rw [j3] at h1
    have g1 := hat j j1
    have g2 := hat i hi
    have s1 := seen_f j1 h1
    have s2 := seen_t hi h2
    rw [j2] at g1 s1
    have cr := corner hl (by omega) ho g1 g2 (.inl ⟨s1, s2⟩)
    have b2 := g1.2.1
    refine ⟨by omega, by omega, by omega, fun q hq => ?_, fun q hq e => ?_⟩
    · rcases Nat.lt_or_ge q n with c | c
      · exact tan2 (g1.2.2.2.1 q c) (g2.2.2.2.1 q c) s1 s2 cr
      · rw [show q = n by omega]; unfold turn; grind
    · refine ⟨fun ⟨x1, x2⟩ => ?_, by omega⟩
      have := par_same (lex _ b2) (asc_lexp hl x1 (by omega)) e s2
      have := g2.2.2.2.1 q (by omega)
      omega
  · intro i hi h1 h2
    obtain ⟨j, j1, j2, j3⟩ := prv_ex l n hi
    rw [j3] at h1
    have g1 := hat j j1
    have g2 := hat i hi
    have s1 := seen_t j1 h1
    have s2 := seen_f hi h2
    rw [j2] at g1 s1
    have cr := corner hl (by omega) ho g1 g2 (.inr ⟨s1, s2⟩)
    have b2 := g1.2.1
    refine ⟨by omega, by omega, by omega, fun q hq => ?_, fun q hq e => ?_⟩
    · rcases Nat.lt_or_ge q n with c | c
      · exact tan3 (g1.2.2.2.1 q c) (g2.2.2.2.1 q c) s1 s2 cr
      · rw [show q = n by omega]; unfold turn; grind
    · refine ⟨by omega, fun ⟨x1, x2⟩ => ?_⟩
      have e' : turn (pA l (rA r i)) (pA l n) (pA l q) = 0 := by
        have : turn (pA l (rA r i)) (pA l n) (pA l q) = -turn (pA l n) (pA l (rA r i)) (pA l q) := by unfold turn; grind
        omega
      have fl : ∀ z : Pt, turn (pA l (rA r j)) (pA l (rA r i)) z = -turn (pA l (rA r i)) (pA l (rA r j)) z := fun z => by unfold turn; grind
      have gq := g1.2.2.2.1 q (by omega)
      have : 0 < turn (pA l (rA r i)) (pA l (rA r j)) (pA l n) := by have := fl (pA l n); omega
      have key := lexC (asc_lexp hl x1 (by omega)) (lex _ b2) (lex _ b2) (a := turn (pA l (rA r i)) (pA l (rA r j)) (pA l n)) (b := turn (pA l (rA r j)) (pA l (rA r i)) (pA l q)) (c := 0) (by omega) gq (by omega)
        (by have : turn (pA l (rA r i)) (pA l (rA r j)) (pA l n) * ((pA l q).1 - (pA l (rA r i)).1) + turn (pA l (rA r j)) (pA l (rA r i)) (pA l q) * ((pA l n).1 - (pA l (rA r i)).1) + 0 * ((pA l n).1 - (pA l (rA r i)).1) = -(((pA l (rA r j)).1 - (pA l (rA r i)).1) * turn (pA l (rA r i)) (pA l n) (pA l q)) := by unfold turn; grind
            rw [this, e']; simp)
        (by have : turn (pA l (rA r i)) (pA l (rA r j)) (pA l n) * ((pA l q).2 - (pA l (rA r i)).2) + turn (pA l (rA r j)) (pA l (rA r i)) (pA l q) * ((pA l n).2 - (pA l (rA r i)).2) + 0 * ((pA l n).2 - (pA l (rA r i)).2) = -(((pA l (rA r j)).2 - (pA l (rA r i)).2) * turn (pA l (rA r i)) (pA l n) (pA l q)) := by unfold turn; grind
            rw [this, e']; simp)
      omega
end Go.Pl
