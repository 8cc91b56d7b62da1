import Derived.Test.YtbbmeabfmjkldaaPl36
import Derived.Test.YtbbmeabfmjkldaaPl31
import Derived.Test.YtbbmeabfmjkldaaPl23
/- The swept triangles have the area of the hull. -/
set_option linter.unusedVariables false
set_option linter.unusedSimpArgs false
namespace Go.Pl

/-! the ring of the first points, all on one line -/
def r0L (N : Nat) : List Nat := List.range N ++ (List.range (N - 2)).map fun i => N - 2 - i
def bv (N i : Nat) : Nat := if i < N then i else 2 * N - 2 - i
theorem r0_len {N : Nat} (h : 2 ≤ N) : (r0L N).length = 2 * N - 2 := by simp [r0L]; omega
theorem r0_at {N i : Nat} (h : 2 ≤ N) (hi : i < 2 * N - 2) : rA (r0L N) i = bv N i := by
  unfold bv
  split
  · rename_i c
    simp only [rA, r0L, List.getD]
    rw [List.getElem?_append_left (by simpa using c)]
    simp [c]
  · rename_i c
    simp only [rA, r0L, List.getD]
    rw [List.getElem?_append_right (by simp; omega)]
    have : i - N < N - 2 := by omega
    simp [this]
    omega
theorem r0_vtx {N i : Nat} (h : 2 ≤ N) (hi : i ≤ 2 * N - 2) : vtx (r0L N) i = bv N i := by
  unfold vtx
  rw [r0_len h]
  split
  · rename_i e
    rw [r0_at h (by omega), e]
    unfold bv
    rw [if_pos (by omega), if_neg (by omega)]; omega
  · exact r0_at h (by omega)
theorem line_sgn {l : List Pt} {N i j : Nat} (hl : Asc l) (hN : 2 ≤ N) (hn : N < l.length) (hon : onL l N) (hij : i < j) (hj : j < N) :
    (0 < turn (pA l 0) (pA l 1) (pA l N) → 0 < turn (pA l i) (pA l j) (pA l N)) ∧ (turn (pA l 0) (pA l 1) (pA l N) < 0 → turn (pA l i) (pA l j) (pA l N) < 0) := by
  have ne : pA l 0 ≠ pA l 1 := asc_ne hl (by omega) (by omega) (by omega)
  have c1 := col_three ne (hon i (by omega)) (hon j hj) (hon 0 (by omega))
  have c2 := col_three ne (hon i (by omega)) (hon j hj) (hon 1 (by omega))
  have x1 := asc_lexp hl (show 0 < 1 by omega) (show 1 < l.length by omega)
  have x2 := asc_lexp hl hij (show j < l.length by omega)
  generalize pA l i = a at *
  generalize pA l j = b at *
  generalize pA l 0 = o at *
  generalize pA l 1 = d at *
  generalize pA l N = n at *
  have z : (b.1 - a.1) * (d.2 - o.2) - (b.2 - a.2) * (d.1 - o.1) = 0 := by
    have : (b.1 - a.1) * (d.2 - o.2) - (b.2 - a.2) * (d.1 - o.1) = turn a b d - turn a b o := by unfold turn; grind
    omega
  have dd := lexp_dot x2 x1 z
  have sq := lexp_sq x1
  have e : turn a b n * ((d.1 - o.1) * (d.1 - o.1) + (d.2 - o.2) * (d.2 - o.2)) = ((b.1 - a.1) * (d.1 - o.1) + (b.2 - a.2) * (d.2 - o.2)) * turn o d n + turn a b o * ((d.1 - o.1) * (d.1 - o.1) + (d.2 - o.2) * (d.2 - o.2)) + ((b.1 - a.1) * (d.2 - o.2) - (b.2 - a.2) * (d.1 - o.1)) * ((d.1 - o.1) * (n.1 - o.1) + (d.2 - o.2) * (n.2 - o.2)) := by unfold turn; grind
  rw [c1, z, Int.zero_mul, Int.zero_mul, Int.add_zero, Int.add_zero] at e
  constructor
  · intro h; exact mul_pos_of' e sq (Int.mul_pos dd h)
  · intro h
    have := mul_pos_of' (a := -turn a b n) (c := ((b.1 - a.1) * (d.1 - o.1) + (b.2 - a.2) * (d.2 - o.2)) * (-turn o d n)) (by rw [Int.neg_mul, Int.mul_neg, e]) sq (Int.mul_pos dd (by omega))
    omega
theorem line_zero {l : List Pt} {N i j q : Nat} (hl : Asc l) (hN : 2 ≤ N) (hn : N < l.length) (hon : onL l N) (hi : i < N) (hj : j < N) (hq : q < N) : turn (pA l i) (pA l j) (pA l q) = 0 :=
  col_three (asc_ne hl (show 0 ≠ 1 by omega) (by omega) (by omega)) (hon i hi) (hon j hj) (hon q hq)
theorem turn_sw (a b c : Pt) : turn b a c = -turn a b c := by unfold turn; grind
theorem ring_base {l : List Pt} {N : Nat} (hl : Asc l) (hN : 2 ≤ N) (hn : N < l.length) (hon : onL l N) (hoff : turn (pA l 0) (pA l 1) (pA l N) ≠ 0) :
    rInv l (N + 1) (nxtL l (r0L N) N (r0L N).length) ∧ (∃ i, i < (r0L N).length ∧ seenB l (r0L N) N i = true) ∧ ¬ (prvB l (r0L N) N 0 = true ∧ seenB l (r0L N) N 0 = true) := by
  have hlen := r0_len hN
  have lz := fun i j q hi hj hq => line_zero (i := i) (j := j) (q := q) hl hN hn hon hi hj hq
  have ls := fun i j hij hj => line_sgn (i := i) (j := j) hl hN hn hon hij hj
  -- what is seen
  have up : ∀ i, i + 1 < N → seenB l (r0L N) N i = decide (turn (pA l 0) (pA l 1) (pA l N) < 0) := by
    intro i hi
    rw [seen_vtx (by omega), r0_at hN (by omega), r0_vtx hN (by omega)]
    unfold bv
    rw [if_pos (by omega), if_pos hi]
    obtain ⟨s1, s2⟩ := ls i (i + 1) (by omega) hi
    rcases Int.lt_trichotomy (turn (pA l 0) (pA l 1) (pA l N)) 0 with s | s | s
    · rw [decide_eq_true s, decide_eq_true (s2 s)]
    · exact absurd s hoff
    · have := s1 s; rw [decide_eq_false (by omega), decide_eq_false (by omega)]
  have dn : ∀ i, N ≤ i + 1 → i < 2 * N - 2 → seenB l (r0L N) N i = decide (0 < turn (pA l 0) (pA l 1) (pA l N)) := by
    intro i hi h2
    rw [seen_vtx (by omega), r0_at hN (by omega), r0_vtx hN (by omega)]
    have e1 : bv N i = 2 * N - 3 - i + 1 := by unfold bv; split <;> omega
    have e2 : bv N (i + 1) = 2 * N - 3 - i := by unfold bv; rw [if_neg (by omega)]; omega
    rw [e1, e2, turn_sw]
    obtain ⟨s1, s2⟩ := ls (2 * N - 3 - i) (2 * N - 3 - i + 1) (by omega) (by omega)
    rcases Int.lt_trichotomy (turn (pA l 0) (pA l 1) (pA l N)) 0 with s | s | s
    · have := s2 s; rw [decide_eq_false (by omega), decide_eq_false (by omega)]
    · exact absurd s hoff
    · have := s1 s; rw [decide_eq_true s, decide_eq_true (by omega)]
  have pz : prvB l (r0L N) N 0 = seenB l (r0L N) N (2 * N - 3) := prv_zero (by rw [hlen]; omega)
  have ps : ∀ i, 0 < i → i < 2 * N - 2 → prvB l (r0L N) N i = seenB l (r0L N) N (i - 1) := by
    intro i h1 h2
    have := prv_succ (l := l) (r := r0L N) (n := N) (i := i - 1) (by omega)
    rwa [show i - 1 + 1 = i by omega] at this
  have h0 : ¬ (prvB l (r0L N) N 0 = true ∧ seenB l (r0L N) N 0 = true) := by
    rintro ⟨p1, p2⟩
    rw [pz, dn _ (by omega) (by omega)] at p1
    rw [up 0 (by omega)] at p2
    have := of_decide_eq_true p1
    have := of_decide_eq_true p2
    omega
  have hs : ∃ i, i < (r0L N).length ∧ seenB l (r0L N) N i = true := by
    rcases Int.lt_trichotomy (turn (pA l 0) (pA l 1) (pA l N)) 0 with s | s | s
    · exact ⟨0, by omega, by rw [up 0 (by omega), decide_eq_true s]⟩
    · exact absurd s hoff
    · exact ⟨N - 1, by omega, by rw [dn _ (by omega) (by omega), decide_eq_true s]⟩
  refine ⟨?_, hs, h0⟩
  obtain ⟨T', e, f1, f2, f3, f4⟩ := nxt_ring (l := l) (n := N) (by omega) h0
  have z0 : rA (r0L N) 0 = 0 := by rw [r0_at hN (by omega)]; unfold bv; rw [if_pos (by omega)]
  rw [z0] at e f1 f2
  refine ⟨T', e, fun hz => ?_, f1 _ ?_ ?_ ?_, f4 hs⟩
  · rcases f3 0 hz with q | ⟨j, j1, j2, j3⟩
    · omega
    · rw [r0_at hN (by omega)] at j3
      unfold bv at j3
      split at j3 <;> omega
  · intro i hi h
    rw [r0_at hN (by omega), r0_vtx hN (by omega)]
    rcases Nat.lt_or_ge (i + 1) N with c | c
    · rw [up i c] at h
      have h := of_decide_eq_false h
      have e1 : bv N i = i := by unfold bv; rw [if_pos (by omega)]
      have e2 : bv N (i + 1) = i + 1 := by unfold bv; rw [if_pos c]
      rw [e1, e2]
      refine ⟨by omega, by omega, by omega, fun q hq => ?_, fun q hq _ => by omega⟩
      rcases Nat.lt_or_ge q N with g | g
      · rw [lz _ _ _ (by omega) c g]; omega
      · rw [show q = N by omega]; exact Int.le_of_lt ((ls i (i + 1) (by omega) c).1 (by omega))
    · rw [dn i c (by omega)] at h
      have h := of_decide_eq_false h
      have e1 : bv N i = 2 * N - 3 - i + 1 := by unfold bv; split <;> omega
      have e2 : bv N (i + 1) = 2 * N - 3 - i := by unfold bv; rw [if_neg (by omega)]; omega
      rw [e1, e2]
      refine ⟨by omega, by omega, by omega, fun q hq => ?_, fun q hq _ => by omega⟩
      rcases Nat.lt_or_ge q N with g | g
      · rw [lz _ _ _ (by omega) (by omega) g]; omega
      · rw [show q = N by omega, turn_sw]
        have := (ls (2 * N - 3 - i) (2 * N - 3 - i + 1) (by omega) (by omega)).2 (by omega)
        omega
  · intro i hi h1 h2
    rw [r0_at hN (by omega)]
    rcases Int.lt_trichotomy (turn (pA l 0) (pA l 1) (pA l N)) 0 with s | s | s
    · have ei : i = 0 := by
        rcases Nat.lt_or_ge (i + 1) N with c | c
        · rcases Nat.eq_zero_or_pos i with z | z
          · exact z
          · rw [ps i z (by omega), up _ (by omega), decide_eq_true s] at h1; cases h1
        · rw [dn i c (by omega)] at h2; have := of_decide_eq_true h2; omega
      have e1 : bv N i = 0 := by unfold bv; rw [if_pos (by omega)]; exact ei
      rw [e1]
      have fl : ∀ q, turn (pA l 0) (pA l N) (pA l q) = -turn (pA l 0) (pA l q) (pA l N) := fun q => by unfold turn; grind
      refine ⟨by omega, by omega, by omega, fun q hq => ?_, fun q hq he => ⟨fun ⟨x1, x2⟩ => ?_, by omega⟩⟩
      · rw [fl]
        rcases Nat.eq_zero_or_pos q with g | g
        · rw [g]; unfold turn; grind
        · rcases Nat.lt_or_ge q N with g2 | g2
          · have := (ls 0 q g g2).2 s; omega
          · rw [show q = N by omega]; unfold turn; grind
      · have := (ls 0 q x1 x2).2 s
        rw [fl] at he; omega
    · exact absurd s hoff
    · have ei : i = N - 1 := by
        rcases Nat.lt_or_ge (i + 1) N with c | c
        · rw [up i c] at h2; have := of_decide_eq_true h2; omega
        · rcases Nat.lt_or_ge i N with c2 | c2
          · omega
          · rw [ps i (by omega) (by omega), dn _ (by omega) (by omega), decide_eq_true s] at h1; cases h1
      have e1 : bv N i = N - 1 := by unfold bv; rw [if_pos (by omega)]; exact ei
      rw [e1]
      have fl : ∀ q, turn (pA l (N - 1)) (pA l N) (pA l q) = turn (pA l q) (pA l (N - 1)) (pA l N) := fun q => (turn_cyc _ _ _).symm ▸ rfl
      refine ⟨by omega, by omega, by omega, fun q hq => ?_, fun q hq he => ⟨by omega, by omega⟩⟩
      rw [fl]
      rcases Nat.lt_or_ge q (N - 1) with g | g
      · have := (ls q (N - 1) g (by omega)).1 s; omega
      · rcases Nat.lt_or_ge q N with g2 | g2
        · rw [show q = N - 1 by omega]; unfold turn; grind
        · rw [show q = N by omega]; unfold turn; grind
  · intro i hi h1 h2
    rw [r0_at hN (by omega)]
    rcases Int.lt_trichotomy (turn (pA l 0) (pA l 1) (pA l N)) 0 with s | s | s
    · have ei : i = N - 1 := by
        rcases Nat.lt_or_ge (i + 1) N with c | c
        · rw [up i c] at h2; have := of_decide_eq_false h2; omega
        · rcases Nat.lt_or_ge i N with c2 | c2
          · omega
          · rw [ps i (by omega) (by omega), dn _ (by omega) (by omega)] at h1; have := of_decide_eq_true h1; omega
      have e1 : bv N i = N - 1 := by unfold bv; rw [if_pos (by omega)]; exact ei
      rw [e1]
      have fl : ∀ q, turn (pA l N) (pA l (N - 1)) (pA l q) = -turn (pA l q) (pA l (N - 1)) (pA l N) := fun q => by unfold turn; grind
      refine ⟨by omega, by omega, by omega, fun q hq => ?_, fun q hq he => ⟨by omega, by omega⟩⟩
      rw [fl]
      rcases Nat.lt_or_ge q (N - 1) with g | g
      · have := (ls q (N - 1) g (by omega)).2 s; omega
      · rcases Nat.lt_or_ge q N with g2 | g2
        · rw [show q = N - 1 by omega]; unfold turn; grind
        · rw [show q = N by omega]; unfold turn; grind
    · exact absurd s hoff
    · have ei : i = 0 := by
        rcases Nat.eq_zero_or_pos i with z | z
        · exact z
        · exfalso
          rcases Nat.lt_or_ge (i + 1) N with c | c
          · rw [ps i z (by omega), up _ (by omega)] at h1; have := of_decide_eq_true h1; omega
          · rw [dn i c (by omega)] at h2; have := of_decide_eq_false h2; omega
      have e1 : bv N i = 0 := by unfold bv; rw [if_pos (by omega)]; exact ei
      rw [e1]
      have fl : ∀ q, turn (pA l N) (pA l 0) (pA l q) = turn (pA l 0) (pA l q) (pA l N) := fun q => by unfold turn; grind
      refine ⟨by omega, by omega, by omega, fun q hq => ?_, fun q hq he => ⟨by omega, fun ⟨x1, x2⟩ => ?_⟩⟩
      · rw [fl]
        rcases Nat.eq_zero_or_pos q with g | g
        · rw [g]; unfold turn; grind
        · rcases Nat.lt_or_ge q N with g2 | g2
          · have := (ls 0 q g g2).1 s; omega
          · rw [show q = N by omega]; unfold turn; grind
      · have := (ls 0 q x1 x2).1 s
        rw [fl] at he; omega

/-! all rings of the sweep -/
theorem off_of {l : List Pt} {N k : Nat} (hN : 2 ≤ N) (hoff : turn (pA l 0) (pA l 1) (pA l N) ≠ 0) (h : N < k) : offL l k := ⟨N, h, hN, hoff⟩
theorem ring_all {l : List Pt} {N : Nat} (hl : Asc l) (hN : 2 ≤ N) (hn : N < l.length) (hon : onL l N) (hoff : turn (pA l 0) (pA l 1) (pA l N) ≠ 0) :
    ∀ k, N + (k + 1) ≤ l.length → rInv l (N + (k + 1)) (swp l N (k + 1)).2
  | 0, _ => (ring_base hl hN hn hon hoff).1
  | k + 1, h => (ring_step hl (by omega) (off_of hN hoff (by omega)) (ring_all hl hN hn hon hoff k (by omega))).1
theorem chS_app (f : Nat → Nat → Int) : ∀ (A : List Nat) (s e : Nat) (B : List Nat), chS f s (A ++ e :: B) = chS f s (A ++ [e]) + chS f e B
  | [], s, e, B => by simp [chS]
  | a :: A, s, e, B => by simp only [List.cons_append, chS, chS_app f A a e B]; omega
theorem chS_rev {f : Nat → Nat → Int} (hf : ∀ x y, f y x = -f x y) : ∀ (A : List Nat) (s e : Nat), chS f s (A ++ [e]) = -chS f e (A.reverse ++ [s])
  | [], s, e => by simp [chS]; have := hf s e; omega
  | a :: A, s, e => by
    rw [List.reverse_cons, List.append_assoc, List.singleton_append, chS_app f A.reverse e a [s], List.cons_append, chS, chS_rev hf A a e]
    simp only [chS]
    have := hf s a
    omega
theorem r0_split {N : Nat} (h : 2 ≤ N) : r0L N = 0 :: (((List.range (N - 2)).map (· + 1)) ++ (N - 1) :: ((List.range (N - 2)).map (· + 1)).reverse) := by
  apply List.ext_getElem
  · simp [r0L]; omega
  · intro i h1 h2
    have hlen : i < 2 * N - 2 := by rw [r0_len h] at h1; exact h1
    have e := r0_at h hlen
    simp only [rA, List.getD, List.getElem?_eq_getElem h1, Option.getD_some] at e
    rw [e]
    unfold bv
    rcases Nat.eq_zero_or_pos i with z | z
    · subst z; simp; omega
    · obtain ⟨j, rfl⟩ : ∃ j, i = j + 1 := ⟨i - 1, by omega⟩
      simp only [List.getElem_cons_succ]
      rcases Nat.lt_or_ge j (N - 2) with c | c
      · rw [List.getElem_append_left (by simpa using c), if_pos (by omega)]
        simp
      · rw [List.getElem_append_right (by simpa using c)]
        simp only [List.length_map, List.length_range]
        rcases Nat.eq_zero_or_pos (j - (N - 2)) with g | g
        · simp only [g, List.getElem_cons_zero]
          rw [if_pos (by omega)]; omega
        · obtain ⟨m, hm⟩ : ∃ m, j - (N - 2) = m + 1 := ⟨j - (N - 2) - 1, by omega⟩
          simp only [hm, List.getElem_cons_succ]
          rw [if_neg (by omega)]
          simp
          omega
/-- The sides of all triangles, summed up, are the ring's. -/
theorem sum_all {l : List Pt} {N : Nat} (hl : Asc l) (hN : 2 ≤ N) (hn : N < l.length) (hon : onL l N) (hoff : turn (pA l 0) (pA l 1) (pA l N) ≠ 0) {f : Nat → Nat → Int} (hf : ∀ x y, f y x = -f x y) :
    ∀ k, N + k ≤ l.length → chS f 0 ((swp l N k).2.tail ++ [0]) = triS f (swp l N k).1
  | 0, _ => by
    have e : (swp l N 0).2 = r0L N := rfl
    rw [e, r0_split hN]
    simp only [List.tail_cons, List.append_assoc, List.cons_append]
    rw [chS_app, chS_rev hf]
    simp only [swp, triS]
    omega
  | k + 1, h => by
    have ih := sum_all hl hN hn hon hoff hf k (by omega)
    have hb : (swp l N k).2.length ≠ 0 ∧ rA (swp l N k).2 0 = 0 ∧ ¬ (prvB l (swp l N k).2 (N + k) 0 = true ∧ seenB l (swp l N k).2 (N + k) 0 = true) := by
      cases k with
      | zero =>
        have e : (swp l N 0).2 = r0L N := rfl
        rw [e]
        refine ⟨by rw [r0_len hN]; omega, by rw [r0_at hN (by omega)]; unfold bv; rw [if_pos (by omega)], (ring_base hl hN hn hon hoff).2.2⟩
      | succ k =>
        have g := ring_all hl hN hn hon hoff k (by omega)
        have s := (ring_step hl (by omega) (off_of hN hoff (by omega)) g).2.2.1
        obtain ⟨T, e, _⟩ := g
        refine ⟨by rw [e]; simp, by rw [e]; rfl, s⟩
    obtain ⟨b1, b2, b3⟩ := hb
    obtain ⟨T', e, f1, f2, f3, f4⟩ := nxt_ring (l := l) (n := N + k) (r := (swp l N k).2) (by omega) b3
    rw [b2] at e f2
    have := f2 f hf
    show chS f 0 ((nxtL l (swp l N k).2 (N + k) (swp l N k).2.length).tail ++ [0]) = triS f ((swp l N k).1 ++ triL l (swp l N k).2 (N + k) (swp l N k).2.length)
    rw [e, List.tail_cons, this, ih, triS_app]

/-! two rings with all points to the left have one area -/
def pS (o : Pt) : Pt → List Pt → Int
  | _, [] => 0
  | s, a :: A => turn o s a + pS o a A
def gP (S : List Pt) (x y : Pt) : Prop := x ≠ y ∧ ∀ q ∈ S, 0 ≤ turn x y q
def pth (S : List Pt) (m : Pt) : Pt → List Pt → Prop
  | s, [] => s = m
  | s, a :: A => gP S s a ∧ a ∈ S ∧ (a = m → A = []) ∧ pth S m a A
/-- One side goes on where another one of the same direction ends. -/
theorem side_cut {S : List Pt} {s a b m : Pt} (hs : s ∈ S) (ha : a ∈ S) (hb : b ∈ S) (hmin : ∀ q ∈ S, q ≠ m → ltP m q = true) (hoff : ∀ x ∈ S, ∀ y ∈ S, x ≠ y → ¬ ∀ q ∈ S, turn x y q = 0)
    (g1 : gP S s a) (g2 : gP S s b) (hne : a ≠ b) (hd : sqd s a ≤ sqd s b) : a ≠ m ∧ gP S a b ∧ turn s a b = 0 := by
  have t0 : turn s a b = 0 := by
    have h1 := g1.2 b hb
    have h2 := g2.2 a ha
    have : turn s b a = -turn s a b := by unfold turn; grind
    omega
  have t0' : turn s b a = 0 := by have : turn s b a = -turn s a b := by unfold turn; grind
                                  omega
  obtain ⟨p1, p2, p3⟩ := spike (t := a) (u := s) (v := b) (Ne.symm g1.1) g2.1 t0'
  have dpos : 0 < dotP s a b := by
    rcases Int.lt_trichotomy (dotP s a b) 0 with d | d | d
    · exfalso
      refine hoff s hs b hb g2.1 fun q hq => ?_
      have k1 := g1.2 q hq
      have k2 := g2.2 q hq
      have := (p3 d q).2
      have sw : turn a s q = -turn s a q := turn_sw _ _ _
      rcases Int.lt_or_le (turn a s q) 0 with c | c
      · have := this c; omega
      · have z : turn s a q = 0 := by omega
        have e := dot_turn a s b q
        rw [z, Int.zero_mul, t0, Int.zero_mul, Int.add_zero] at e
        rcases Int.mul_eq_zero.1 e.symm with r | r
        · omega
        · exact r
    · exact absurd d p1
    · exact d
  have sa := sqd_pos g1.1
  have sb := sqd_pos g2.1
  have lag : dotP s a b * dotP s a b + turn s a b * turn s a b = sqd s a * sqd s b := by unfold dotP turn sqd; grind
  rw [t0, Int.zero_mul, Int.add_zero] at lag
  have hlt : sqd s a ≠ sqd s b := by
    intro e
    have e2 : dotP s a b = sqd s b := by
      rw [e] at lag
      rcases Int.lt_trichotomy (dotP s a b) (sqd s b) with c | c | c
      · have h1 := Int.mul_lt_mul_of_pos_right c dpos
        have h2 := Int.mul_lt_mul_of_pos_left c sb
        omega
      · exact c
      · have h1 := Int.mul_lt_mul_of_pos_right c sb
        have h2 := Int.mul_lt_mul_of_pos_left c dpos
        omega
    have : sqd a b = sqd s a + sqd s b - 2 * dotP s a b := by unfold sqd dotP; grind
    exact hne (sqd_eq_zero (by omega))
  have c1 : dotP s a b < sqd s b := by
    rcases Int.lt_or_le (dotP s a b) (sqd s b) with c | c
    · exact c
    · exfalso
      have h1 : sqd s b * sqd s b ≤ dotP s a b * dotP s a b := Int.mul_le_mul c c (by omega) (by omega)
      have h2 := Int.mul_lt_mul_of_pos_right (show sqd s a < sqd s b by omega) sb
      omega
  have c2 : sqd s a < dotP s a b := by
    rcases Int.lt_or_le (sqd s a) (dotP s a b) with c | c
    · exact c
    · exfalso
      have h1 : dotP s a b * dotP s a b ≤ sqd s a * sqd s a := Int.mul_le_mul c c (by omega) (by omega)
      have h2 := Int.mul_lt_mul_of_pos_left (show sqd s a < sqd s b by omega) sa
      omega
  refine ⟨fun e => ?_, ⟨hne, fun q hq => ?_⟩, t0⟩
  · subst e
    have x1 := lt_pos (hmin s hs g1.1)
    have x2 := lt_pos (hmin b hb (Ne.symm hne))
    have := lexC (p1 := s.1 - a.1) (p2 := s.2 - a.2) (q1 := b.1 - a.1) (q2 := b.2 - a.2) (r1 := b.1 - a.1) (r2 := b.2 - a.2) x1 x2 x2 (a := sqd s b - dotP s a b) (b := dotP s a b) (c := 0) (by omega) (by omega) (by omega)
      (by have : (sqd s b - dotP s a b) * (s.1 - a.1) + dotP s a b * (b.1 - a.1) + 0 * (b.1 - a.1) = -((b.2 - s.2) * turn s a b) := by unfold sqd dotP turn; grind
          rw [this, t0]; simp)
      (by have : (sqd s b - dotP s a b) * (s.2 - a.2) + dotP s a b * (b.2 - a.2) + 0 * (b.2 - a.2) = (b.1 - s.1) * turn s a b := by unfold sqd dotP turn; grind
          rw [this, t0]; simp)
    omega
  · have e := dot_turn a s b q
    rw [t0, Int.zero_mul, Int.add_zero] at e
    have k := g2.2 q hq
    have e2 : turn a b q = turn s b q - turn s a q + turn s a b := by unfold turn; grind
    rw [t0, Int.add_zero] at e2
    have e3 : turn a b q * sqd s b = (sqd s b - dotP s a b) * turn s b q := by
      rw [e2, Int.sub_mul, e, Int.sub_mul, Int.mul_comm (turn s b q)]
    exact mul_pos_of e3 sb (Int.mul_nonneg (by omega) k)
theorem ring_merge {S : List Pt} {m o : Pt} (hmin : ∀ q ∈ S, q ≠ m → ltP m q = true) (hoff : ∀ x ∈ S, ∀ y ∈ S, x ≠ y → ¬ ∀ q ∈ S, turn x y q = 0) :
    ∀ (n : Nat) (s : Pt) (A B : List Pt), A.length + B.length ≤ n → s ∈ S → (A = [] ↔ B = []) → pth S m s A → pth S m s B → pS o s A = pS o s B
  | 0, s, A, B, h, hs, he, h1, h2 => by
    have : A = [] := List.length_eq_zero_iff.1 (by omega)
    have : B = [] := List.length_eq_zero_iff.1 (by omega)
    simp_all
  | n + 1, s, [], B, h, hs, he, h1, h2 => by rw [he.1 rfl]
  | n + 1, s, a :: A, [], h, hs, he, h1, h2 => by have := he.2 rfl; cases this
  | n + 1, s, a :: A, b :: B, h, hs, he, h1, h2 => by
    obtain ⟨g1, a1, e1, r1⟩ := h1
    obtain ⟨g2, a2, e2, r2⟩ := h2
    simp only [List.length_cons] at h
    have endA : ∀ {x : Pt} {X : List Pt}, x ≠ m → pth S m x X → X ≠ [] := by
      rintro x X hx hp rfl; exact hx hp
    by_cases c : a = b
    · subst c
      simp only [pS]
      by_cases ce : a = m
      · rw [e1 ce, e2 ce]
      · rw [ring_merge hmin hoff n a A B (by omega) a1 ⟨fun q => absurd q (endA ce r1), fun q => absurd q (endA ce r2)⟩ r1 r2]
    · rcases Int.le_total (sqd s a) (sqd s b) with d | d
      · obtain ⟨k1, k2, k3⟩ := side_cut hs a1 a2 hmin hoff g1 g2 c d
        have := ring_merge (o := o) hmin hoff n a A (b :: B) (by simp; omega) a1 ⟨fun q => absurd q (endA k1 r1), fun q => (by cases q)⟩ r1 ⟨k2, a2, e2, r2⟩
        simp only [pS] at this ⊢
        have e : turn o s b = turn o s a + turn o a b - turn s a b := by unfold turn; grind
        omega
      · obtain ⟨k1, k2, k3⟩ := side_cut hs a2 a1 hmin hoff g2 g1 (Ne.symm c) d
        have := ring_merge (o := o) hmin hoff n b (a :: A) B (by simp; omega) a2 ⟨fun q => (by cases q), fun q => absurd q (endA k1 r2)⟩ ⟨k2, a1, e1, r1⟩ r2
        simp only [pS] at this ⊢
        have e : turn o s a = turn o s b + turn o b a - turn s b a := by unfold turn; grind
        omega
/-- The ring as a path. -/
theorem pth_ring {l : List Pt} (hl : Asc l) : ∀ (T : List Nat) (s : Nat), 0 ∉ T → chE (gE l l.length) s (T ++ [0]) → pth l (pA l 0) (pA l s) ((T ++ [0]).map (pA l)) ∧ ∀ o, pS o (pA l s) ((T ++ [0]).map (pA l)) = chS (fun x y => turn o (pA l x) (pA l y)) s (T ++ [0])
  | [], s, h0, hc => by
    obtain ⟨g, _⟩ := hc
    have mm : ∀ i, i < l.length → pA l i ∈ l := fun i hi => pA_mem hi
    refine ⟨⟨⟨asc_ne hl g.2.2.1 g.1 g.2.1, fun q hq => ?_⟩, mm _ g.2.1, fun _ => rfl, rfl⟩, fun o => by simp [pS, chS]⟩
    obtain ⟨i, h1, h2⟩ := List.getElem_of_mem hq
    have := g.2.2.2.1 i h1
    rwa [show pA l i = q by simp [pA, List.getD, h1, h2]] at this
  | a :: T, s, h0, hc => by
    obtain ⟨g, hc⟩ := hc
    have mm : ∀ i, i < l.length → pA l i ∈ l := fun i hi => pA_mem hi
    obtain ⟨k1, k2⟩ := pth_ring hl T a (fun h => h0 (by simp [h])) hc
    refine ⟨⟨⟨asc_ne hl g.2.2.1 g.1 g.2.1, fun q hq => ?_⟩, mm _ g.2.1, fun e => ?_, k1⟩, fun o => ?_⟩
    · obtain ⟨i, h1, h2⟩ := List.getElem_of_mem hq
      have := g.2.2.2.1 i h1
      rwa [show pA l i = q by simp [pA, List.getD, h1, h2]] at this
    · exact absurd e (asc_ne hl (fun z => h0 (by simp [z])) g.2.1 (by have := g.1; omega))
    · have := k2 o
      simp only [List.map_cons, List.cons_append, pS, chS] at this ⊢
      rw [this]
theorem pth_hull {S h : List Pt} (hn : h.Nodup) (h2 : 2 ≤ h.length) (hsub : ∀ x ∈ h, x ∈ S) (hg : ∀ i, i < h.length → ∀ q ∈ S, 0 ≤ turn (pA h i) (pA h ((i + 1) % h.length)) q) (o : Pt) :
    ∀ c i, i + 1 + c = h.length → pth S (pA h 0) (pA h i) (h.drop (i + 1) ++ [pA h 0]) ∧ pS o (pA h i) (h.drop (i + 1) ++ [pA h 0]) + fanN h o i = fanN h o h.length
  | 0, i, hi => by
    have ne : pA h i ≠ pA h 0 := fun e => by have := pA_inj hn (by omega) (by omega) e; omega
    have g := hg i (by omega)
    rw [show i + 1 = h.length by omega, Nat.mod_self] at g
    rw [show i + 1 = h.length by omega, List.drop_length, List.nil_append]
    refine ⟨⟨⟨ne, g⟩, hsub _ (pA_mem (by omega)), fun _ => rfl, rfl⟩, ?_⟩
    have e : fanN h o h.length = fanN h o (i + 1) := by rw [show i + 1 = h.length by omega]
    rw [e, fanN, show i + 1 = h.length by omega, Nat.mod_self]
    simp only [pS]
    omega
  | c + 1, i, hi => by
    obtain ⟨k1, k2⟩ := pth_hull hn h2 hsub hg o c (i + 1) (by omega)
    have ne : pA h i ≠ pA h (i + 1) := fun e => by have := pA_inj hn (by omega) (by omega) e; omega
    have g := hg i (by omega)
    rw [Nat.mod_eq_of_lt (show i + 1 < h.length by omega)] at g
    have ed : h.drop (i + 1) = pA h (i + 1) :: h.drop (i + 1 + 1) := by
      rw [List.drop_eq_getElem_cons (i := i + 1) (by omega)]
      congr 1
      simp [pA, List.getD, show i + 1 < h.length by omega]
    rw [ed, List.cons_append]
    refine ⟨⟨⟨ne, g⟩, hsub _ (pA_mem (by omega)), fun e => ?_, k1⟩, ?_⟩
    · have := pA_inj hn (by omega) (by omega) e; omega
    · rw [fanN, Nat.mod_eq_of_lt (show i + 1 < h.length by omega)] at k2
      simp only [pS]
      omega
/-- The triangles' areas. -/
def sumT (l : List Pt) : List T3 → Int
  | [] => 0
  | t :: L => areaT l t + sumT l L
theorem triS_area (l : List Pt) (o : Pt) : ∀ L : List T3, triS (fun x y => turn o (pA l x) (pA l y)) L = sumT l L
  | [] => rfl
  | t :: L => by
    rw [triS, sumT, triS_area l o L]
    congr 1
    show turn o (pA l t.1.toNat) (pA l t.2.1.toNat) + turn o (pA l t.2.1.toNat) (pA l t.2.2.toNat) + turn o (pA l t.2.2.toNat) (pA l t.1.toNat) = turn (pA l t.1.toNat) (pA l t.2.1.toNat) (pA l t.2.2.toNat)
    unfold turn; grind
theorem swp_area {l : List Pt} {N : Nat} (hl : Asc l) (hN : 2 ≤ N) (hn : N < l.length) (hon : onL l N) (hoff : turn (pA l 0) (pA l 1) (pA l N) ≠ 0) :
    sumT l (swp l N (l.length - N)).1 = sumN (hullP l) (hullP l).length := by
  obtain ⟨k, hk⟩ : ∃ k, l.length - N = k + 1 := ⟨l.length - N - 1, by omega⟩
  have hr := ring_all hl hN hn hon hoff k (by omega)
  rw [show N + (k + 1) = l.length by omega] at hr
  obtain ⟨T, e, hT, hc, _⟩ := hr
  have hs := sum_all hl hN hn hon hoff (f := fun x y => turn (pA l 0) (pA l x) (pA l y)) (fun x y => by unfold turn; grind) (k + 1) (by omega)
  rw [hk, ← triS_area l (pA l 0), ← hs, e, List.tail_cons]
  obtain ⟨p1, p2⟩ := pth_ring hl T 0 hT hc
  rw [← p2]
  have e1 : insP l = l := insP_of_asc hl
  have h2 : 2 ≤ (hullP l).length := by
    have m0 : pA l 0 ∈ hullP l ∧ pA l (l.length - 1) ∈ hullP l := by
      have eh : hullP l = hullA l := by rw [hullP, e1]
      rw [eh]
      obtain ⟨m, r, M, el⟩ := asc_ends (l := l) (by omega)
      have f := head_mem_ext (m := m) (l := r ++ [M]) (by rw [← el]; exact hl)
      have g := last_mem_ext (m := M) (l := m :: r) (by rw [List.cons_append, ← el]; exact hl)
      have q1 : pA l 0 = m := by rw [el]; rfl
      have q2 : pA l (l.length - 1) = M := by rw [el]; simp [pA, List.getD]
      rw [q1, q2]
      refine ⟨(mem_hullA hl (by omega)).2 (.inl ((mem_chain hl).2 ⟨by rw [el]; simp, by rw [el]; exact f.1⟩)), (mem_hullA hl (by omega)).2 (.inl ((mem_chain hl).2 ⟨by rw [el]; simp, by rw [el]; have := g.1; rwa [List.cons_append] at this⟩))⟩
    have nd : [pA l 0, pA l (l.length - 1)].Nodup := by
      simp only [List.nodup_cons, List.mem_singleton, List.not_mem_nil, not_false_eq_true, List.nodup_nil, and_true]
      exact asc_ne hl (by omega) (by omega) (by omega)
    exact nodup_len_le nd fun x hx => by
      rcases List.mem_cons.1 hx with q | q
      · rw [q]; exact m0.1
      · rw [List.mem_singleton.1 q]; exact m0.2
  have hf : pA (hullP l) 0 = pA l 0 := by
    have := hullA_first hl (by omega)
    rwa [show hullA l = hullP l by rw [hullP, e1]] at this
  obtain ⟨q1, q2⟩ := pth_hull (S := l) (hullP_nodup l) h2 (fun x hx => mem_hullP_sub hx) (fun i hi q hq => hullP_edge h2 hi hq) (pA l 0) ((hullP l).length - 1) 0 (by omega)
  rw [hf] at q1 q2
  rw [← fan_all _ (pA l 0), ← q2]
  simp only [fanN, Int.add_zero]
  refine ring_merge (S := l) (m := pA l 0) ?_ ?_ _ _ _ _ (Nat.le_refl _) (pA_mem (by omega)) ⟨fun q => by simp at q, fun q => by simp at q⟩ p1 q1
  · intro q hq hne
    obtain ⟨i, h1, h3⟩ := List.getElem_of_mem hq
    have eq : pA l i = q := by simp [pA, List.getD, h1, h3]
    rw [← eq]
    refine asc_lt hl ?_ h1
    rcases Nat.eq_zero_or_pos i with z | z
    · subst z; exact absurd eq.symm hne
    · exact z
  · intro x hx y hy hxy hall
    exact hoff (col_three hxy (hall _ (pA_mem (by omega))) (hall _ (pA_mem (by omega))) (hall _ (pA_mem hn)))
end Go.Pl
