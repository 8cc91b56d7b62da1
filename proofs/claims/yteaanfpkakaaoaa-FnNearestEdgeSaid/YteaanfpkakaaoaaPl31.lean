/- Flips of triangles: they end, and leave counterclockwise triangles. -/
import Derived.Test.YteaanfpkakaaoaaPl10
import Derived.Test.YteaanfpkakaaoaaPl26

namespace Go.Pl

/-- The first value that a function has below n. -/
def firstN {β : Type} (f : Nat → Option β) : Nat → Option β
  | 0 => none
  | n + 1 => match firstN f n with
    | some b => some b
    | none => f n
theorem firstN_none {β : Type} {f : Nat → Option β} : ∀ {n : Nat}, firstN f n = none ↔ ∀ i, i < n → f i = none
  | 0 => by simp [firstN]
  | n + 1 => by
    rw [firstN]
    cases h : firstN f n with
    | some b =>
      constructor
      · intro e; cases e
      · intro hh
        have := firstN_none.2 (fun i (hi : i < n) => hh i (by omega))
        rw [h] at this; cases this
    | none =>
      have h2 := firstN_none.1 h
      constructor
      · intro e i hi
        rcases Nat.lt_or_ge i n with q | q
        · exact h2 i q
        · have : i = n := by omega
          subst this; exact e
      · intro hh; exact hh n (by omega)
theorem firstN_some {β : Type} {f : Nat → Option β} {i n : Nat} {b : β} (hi : i < n) (h : ∀ j, j < i → f j = none) (hb : f i = some b) : firstN f n = some b := by
  induction n with
  | zero => omega
  | succ n ih =>
    rw [firstN]
    rcases Nat.lt_or_ge i n with q | q
    · rw [ih q]
    · have : i = n := by omega
      subst this
      rw [firstN_none.2 h]; exact hb
theorem firstN_mem {β : Type} {f : Nat → Option β} : ∀ {n : Nat} {b : β}, firstN f n = some b → ∃ i, i < n ∧ f i = some b
  | 0, b, h => by simp [firstN] at h
  | n + 1, b, h => by
    rw [firstN] at h
    cases hq : firstN f n with
    | some c =>
      rw [hq] at h
      obtain ⟨i, h1, h2⟩ := firstN_mem hq
      exact ⟨i, by omega, by rw [h2]; exact h⟩
    | none => rw [hq] at h; exact ⟨n, by omega, h⟩

/-! triangles -/
abbrev pI (l : List Pt) (x : Int) : Pt := pA l x.toNat
abbrev t3 (L : List T3) (i : Nat) : T3 := L.getD i (0, 0, 0)
def rotT (t : T3) : Nat → T3
  | 0 => t
  | k + 1 => ((rotT t k).2.1, (rotT t k).2.2, (rotT t k).1)
def areaT (l : List Pt) (t : T3) : Int := turn (pI l t.1) (pI l t.2.1) (pI l t.2.2)
theorem areaT_rot (l : List Pt) (t : T3) : ∀ k, areaT l (rotT t k) = areaT l t
  | 0 => rfl
  | k + 1 => by
    have := areaT_rot l t k
    rw [← this]
    simp only [areaT, rotT]
    exact turn_cyc _ _ _
/-- May the common side of two triangles be flipped? -/
def flipB (l : List Pt) (t u : T3) : Bool := (u.1 == t.2.1 && u.2.1 == t.1) && decide (0 < inC (pI l t.1) (pI l t.2.1) (pI l t.2.2) (pI l u.2.2))
def flipL (L : List T3) (i m : Nat) (t u : T3) : List T3 := (L.set i (t.2.2, t.1, u.2.2)).set m (t.2.2, u.2.2, t.2.1)
def flip1 (l : List Pt) (L : List T3) (i k m n : Nat) : Option (List T3) :=
  if flipB l (rotT (t3 L i) k) (rotT (t3 L m) n) then some (flipL L i m (rotT (t3 L i) k) (rotT (t3 L m) n)) else none
def flip2 (l : List Pt) (L : List T3) (i k m : Nat) : Option (List T3) := firstN (flip1 l L i k m) 3
def flip3 (l : List Pt) (L : List T3) (i k : Nat) : Option (List T3) := firstN (flip2 l L i k) L.length
def flip4 (l : List Pt) (L : List T3) (i : Nat) : Option (List T3) := firstN (flip3 l L i) 3
/-- The first flip. -/
def flipF (l : List Pt) (L : List T3) : Option (List T3) := firstN (flip4 l L) L.length

/-- Triangles of points, counterclockwise. -/
def goodT (n : Nat) (l : List Pt) (t : T3) : Prop := (0 ≤ t.1 ∧ t.1 < n) ∧ (0 ≤ t.2.1 ∧ t.2.1 < n) ∧ (0 ≤ t.2.2 ∧ t.2.2 < n) ∧ 0 < areaT l t
def goodL (l : List Pt) (L : List T3) : Prop := ∀ t ∈ L, goodT l.length l t
theorem good_rot {n : Nat} {l : List Pt} {t : T3} (h : goodT n l t) : ∀ k, goodT n l (rotT t k)
  | 0 => h
  | k + 1 => by
    obtain ⟨h1, h2, h3, _⟩ := good_rot h k
    refine ⟨h2, h3, h1, ?_⟩
    rw [areaT_rot]; exact h.2.2.2
def sq0 (p : Pt) : Int := p.1 * p.1 + p.2 * p.2
/-- What a flip makes less. -/
def potT (l : List Pt) (t : T3) : Int := areaT l t * (sq0 (pI l t.1) + sq0 (pI l t.2.1) + sq0 (pI l t.2.2))
theorem sq0_nonneg (p : Pt) : 0 ≤ sq0 p := by
  have key : ∀ x : Int, 0 ≤ x * x := fun x => by
    rcases Int.le_total 0 x with h | h
    · exact Int.mul_nonneg h h
    · have := Int.mul_nonneg (show 0 ≤ -x by omega) (show 0 ≤ -x by omega)
      rw [Int.neg_mul_neg] at this; exact this
  have := key p.1
  have := key p.2
  unfold sq0; omega
theorem turn_rot' (l : List Pt) (t : T3) : ∀ k, potT l (rotT t k) = potT l t
  | 0 => rfl
  | k + 1 => by
    have h1 := turn_rot' l t k
    rw [← h1]
    simp only [potT]
    have := turn_cyc (pI l (rotT t k).1) (pI l (rotT t k).2.1) (pI l (rotT t k).2.2)
    simp only [areaT, rotT]
    rw [this]
    congr 1
    omega
theorem pot_nonneg {n : Nat} {l : List Pt} {t : T3} (h : goodT n l t) : 0 ≤ potT l t := by
  have h1 := h.2.2.2
  have := sq0_nonneg (pI l t.1)
  have := sq0_nonneg (pI l t.2.1)
  have := sq0_nonneg (pI l t.2.2)
  exact Int.mul_nonneg (by omega) (by omega)
/-- The identity of the lifted points. -/
theorem flip_pot (a b t d : Pt) : turn a b t * (sq0 a + sq0 b + sq0 t) + turn b a d * (sq0 b + sq0 a + sq0 d) = turn t a d * (sq0 t + sq0 a + sq0 d) + turn t d b * (sq0 t + sq0 d + sq0 b) + inC a b t d := by
  unfold turn sq0 inC; grind
/-- A point inside of the circle, on the other side of a side: the four are the corners of a convex polygon. -/
theorem flip_ccw {a b t d : Pt} (h1 : 0 < turn a b t) (h2 : 0 < turn b a d) (h : 0 < inC a b t d) : 0 < turn t a d ∧ 0 < turn t d b := by
  have sq : ∀ x y : Int, 0 ≤ x * x + y * y := fun x y => by
    have := sq0_nonneg (x, y); simpa [sq0] using this
  have e1 : inC a b t d = turn t a d * ((b.1 - a.1) * (b.1 - a.1) + (b.2 - a.2) * (b.2 - a.2)) - turn b a d * ((t.1 - a.1) * (t.1 - a.1) + (t.2 - a.2) * (t.2 - a.2)) - turn a b t * ((d.1 - a.1) * (d.1 - a.1) + (d.2 - a.2) * (d.2 - a.2)) := by
    unfold turn inC; grind
  have e2 : inC a b t d = turn t d b * ((a.1 - b.1) * (a.1 - b.1) + (a.2 - b.2) * (a.2 - b.2)) - turn b a d * ((t.1 - b.1) * (t.1 - b.1) + (t.2 - b.2) * (t.2 - b.2)) - turn a b t * ((d.1 - b.1) * (d.1 - b.1) + (d.2 - b.2) * (d.2 - b.2)) := by
    unfold turn inC; grind
  have pos : ∀ {u s v x y : Int}, 0 < u * s - x - y → 0 ≤ s → 0 ≤ x → 0 ≤ y → 0 < u := by
    intro u s v x y hh hs hx hy
    rcases Int.lt_or_le 0 u with q | q
    · exact q
    · exfalso
      have := Int.mul_le_mul_of_nonneg_right q hs
      omega
  constructor
  · rw [e1] at h
    exact pos (v := 0) h (sq _ _) (Int.mul_nonneg (by omega) (sq _ _)) (Int.mul_nonneg (by omega) (sq _ _))
  · rw [e2] at h
    exact pos (v := 0) h (sq _ _) (Int.mul_nonneg (by omega) (sq _ _)) (Int.mul_nonneg (by omega) (sq _ _))
def potL (l : List Pt) : List T3 → Int
  | [] => 0
  | t :: L => potT l t + potL l L
theorem potL_nonneg {l : List Pt} : ∀ {L : List T3}, goodL l L → 0 ≤ potL l L
  | [], _ => Int.le_refl 0
  | t :: L, h => by
    have h1 := pot_nonneg (h t (by simp))
    have h2 := potL_nonneg (L := L) fun u hu => h u (by simp [hu])
    simp only [potL]; omega
theorem potL_set {l : List Pt} : ∀ {L : List T3} {i : Nat} {u : T3}, i < L.length → potL l (L.set i u) = potL l L - potT l (t3 L i) + potT l u
  | [], i, u, h => by simp at h
  | t :: L, 0, u, _ => by simp only [List.set_cons_zero, potL, t3, List.getD_cons_zero]; omega
  | t :: L, i + 1, u, h => by
    have := potL_set (l := l) (L := L) (i := i) (u := u) (by simpa using h)
    simp only [List.set_cons_succ, potL, t3, List.getD_cons_succ] at this ⊢
    omega
theorem t3_mem {L : List T3} {i : Nat} (h : i < L.length) : t3 L i ∈ L := by simp [t3, List.getD, h]
theorem rot_distinct {n : Nat} {l : List Pt} {t : T3} (h : goodT n l t) : t.1 ≠ t.2.1 ∧ t.2.1 ≠ t.2.2 ∧ t.2.2 ≠ t.1 := by
  have h1 := h.2.2.2
  unfold areaT turn at h1
  refine ⟨fun e => ?_, fun e => ?_, fun e => ?_⟩
  · rw [e] at h1; simp only [Int.sub_self, Int.zero_mul] at h1; omega
  · rw [e] at h1
    have : (pI l t.2.2).1 - (pI l t.1).1 = (pI l t.2.2).1 - (pI l t.1).1 := rfl
    rw [Int.mul_comm] at h1; omega
  · rw [e] at h1; simp only [Int.sub_self, Int.mul_zero] at h1; omega
/-- A triangle has no side twice. -/
theorem self_side {n : Nat} {l : List Pt} {t : T3} (h : goodT n l t) (k m : Nat) (hk : k < 3) (hm : m < 3) : ¬ ((rotT t m).1 = (rotT t k).2.1 ∧ (rotT t m).2.1 = (rotT t k).1) := by
  obtain ⟨d1, d2, d3⟩ := rot_distinct h
  match k, m, hk, hm with
  | 0, 0, _, _ | 0, 1, _, _ | 0, 2, _, _ | 1, 0, _, _ | 1, 1, _, _ | 1, 2, _, _ | 2, 0, _, _ | 2, 1, _, _ | 2, 2, _, _ =>
    simp only [rotT]
    rintro ⟨e1, e2⟩
    first | exact d1 e1 | exact d1 e1.symm | exact d2 e1 | exact d2 e1.symm | exact d3 e1 | exact d3 e1.symm | exact d1 e2 | exact d1 e2.symm | exact d2 e2 | exact d2 e2.symm | exact d3 e2 | exact d3 e2.symm
theorem set_mem {α : Type} {L : List α} {i : Nat} {u x : α} (h : x ∈ L.set i u) : x ∈ L ∨ x = u := List.mem_or_eq_of_mem_set h
theorem flip1_good {l : List Pt} {L L' : List T3} (hg : goodL l L) {i k m n : Nat} (hi : i < L.length) (hk : k < 3) (hm : m < L.length) (hn : n < 3) (h : flip1 l L i k m n = some L') :
    goodL l L' ∧ L'.length = L.length ∧ potL l L' < potL l L := by
  unfold flip1 at h
  split at h
  · rename_i hb
    injection h with h
    subst h
    have gi := hg _ (t3_mem hi)
    have gm := hg _ (t3_mem hm)
    have hne : i ≠ m := by
      rintro rfl
      refine self_side gi k n hk hn ?_
      unfold flipB at hb
      simp only [Bool.and_eq_true, beq_iff_eq] at hb
      exact hb.1
    have ri := good_rot gi k
    have rm := good_rot gm n
    have p1 := turn_rot' l (t3 L i) k
    have p2 := turn_rot' l (t3 L m) n
    generalize rotT (t3 L i) k = t at *
    generalize rotT (t3 L m) n = u at *
    unfold flipB at hb
    simp only [Bool.and_eq_true, beq_iff_eq, decide_eq_true_eq] at hb
    obtain ⟨⟨e1, e2⟩, hc⟩ := hb
    have a1 := ri.2.2.2
    have a2 := rm.2.2.2
    simp only [areaT] at a1 a2
    rw [e1, e2] at a2
    obtain ⟨c1, c2⟩ := flip_ccw a1 a2 hc
    have hp := flip_pot (pI l t.1) (pI l t.2.1) (pI l t.2.2) (pI l u.2.2)
    have hset : ∀ x, t3 (L.set i x) m = t3 L m := by
      intro x
      simp only [t3, List.getD]
      rw [List.getElem?_set_ne hne]
    refine ⟨fun x hx => ?_, by simp [flipL], ?_⟩
    · unfold flipL at hx
      rcases set_mem hx with hx | rfl
      · rcases set_mem hx with hx | rfl
        · exact hg x hx
        · exact ⟨ri.2.2.1, ri.1, rm.2.2.1, c1⟩
      · exact ⟨ri.2.2.1, rm.2.2.1, ri.2.1, c2⟩
    · unfold flipL
      rw [potL_set (by simpa using hm), potL_set hi, hset, ← p1, ← p2]
      simp only [potT, areaT]
      rw [e1, e2]
      omega
  · cases h
theorem flipF_good {l : List Pt} {L L' : List T3} (hg : goodL l L) (h : flipF l L = some L') : goodL l L' ∧ L'.length = L.length ∧ potL l L' < potL l L := by
  obtain ⟨i, hi, h⟩ := firstN_mem h
  obtain ⟨k, hk, h⟩ := firstN_mem h
  obtain ⟨m, hm, h⟩ := firstN_mem h
  obtain ⟨n, hn, h⟩ := firstN_mem h
  exact flip1_good hg hi hk hm hn h
/-- Flips, at most so many. -/
def delN (l : List Pt) : Nat → List T3 → List T3
  | 0, L => L
  | f + 1, L => match flipF l L with
    | none => L
    | some L' => delN l f L'
def delP (l : List Pt) (L : List T3) : List T3 := delN l ((potL l L).toNat + 1) L
theorem delN_more {l : List Pt} : ∀ (f g : Nat) {L : List T3}, goodL l L → potL l L < f → potL l L < g → delN l f L = delN l g L
  | 0, _, L, hg, h, _ => by have := potL_nonneg hg; omega
  | f + 1, 0, L, hg, _, h => by have := potL_nonneg hg; omega
  | f + 1, g + 1, L, hg, h1, h2 => by
    rw [delN, delN]
    cases hF : flipF l L with
    | none => rfl
    | some L' =>
      obtain ⟨k1, k2, k3⟩ := flipF_good hg hF
      exact delN_more f g k1 (by omega) (by omega)
theorem delP_none {l : List Pt} {L : List T3} (h : flipF l L = none) : delP l L = L := by rw [delP, delN, h]
theorem delP_some {l : List Pt} {L L' : List T3} (hg : goodL l L) (h : flipF l L = some L') : delP l L = delP l L' := by
  obtain ⟨k1, k2, k3⟩ := flipF_good hg h
  have := potL_nonneg hg
  have := potL_nonneg k1
  rw [delP, delN, h]
  exact delN_more _ _ k1 (by omega) (by omega)
theorem delN_good {l : List Pt} : ∀ (f : Nat) {L : List T3}, goodL l L → goodL l (delN l f L) ∧ (delN l f L).length = L.length
  | 0, L, h => ⟨h, rfl⟩
  | f + 1, L, h => by
    rw [delN]
    cases hF : flipF l L with
    | none => exact ⟨h, rfl⟩
    | some L' =>
      obtain ⟨k1, k2, _⟩ := flipF_good h hF
      obtain ⟨j1, j2⟩ := delN_good f k1
      exact ⟨j1, j2.trans k2⟩
theorem delP_good {l : List Pt} {L : List T3} (h : goodL l L) : goodL l (delP l L) ∧ (delP l L).length = L.length := delN_good _ h
/-- In the end no side may be flipped. -/
theorem delN_done {l : List Pt} : ∀ (f : Nat) {L : List T3}, goodL l L → potL l L < f → flipF l (delN l f L) = none
  | 0, L, hg, h => by have := potL_nonneg hg; omega
  | f + 1, L, hg, h => by
    rw [delN]
    cases hF : flipF l L with
    | none => exact hF
    | some L' =>
      obtain ⟨k1, k2, k3⟩ := flipF_good hg hF
      exact delN_done f k1 (by omega)
theorem delP_done {l : List Pt} {L : List T3} (h : goodL l L) : flipF l (delP l L) = none := delN_done _ h (by have := potL_nonneg h; omega)
/-- A single triangle has nothing to flip. -/
theorem flip_one {l : List Pt} {t : T3} (h : goodT l.length l t) : flipF l [t] = none := by
  cases hF : flipF l [t] with
  | none => rfl
  | some L' =>
    exfalso
    obtain ⟨i, hi, h2⟩ := firstN_mem hF
    obtain ⟨k, hk, h2⟩ := firstN_mem h2
    obtain ⟨m, hm, h2⟩ := firstN_mem h2
    obtain ⟨n, hn, h2⟩ := firstN_mem h2
    have ei : i = 0 := by simpa using hi
    have em : m = 0 := by simpa using hm
    subst ei em
    unfold flip1 at h2
    split at h2
    · rename_i hb
      unfold flipB at hb
      simp only [Bool.and_eq_true, beq_iff_eq] at hb
      exact self_side h k n hk hn hb.1
    · cases h2

/-! the sweep's triangles -/
theorem triL_good {l : List Pt} {r : List Nat} {n : Nat} (hr : ∀ x ∈ r, x < l.length) (hn : n < l.length) : ∀ i, i ≤ r.length → ∀ t ∈ triL l r n i, goodT l.length l t
  | 0, _, t, h => by simp [triL] at h
  | i + 1, hi, t, h => by
    rw [triL, List.mem_append] at h
    rcases h with h | h
    · exact triL_good hr hn i (by omega) t h
    · split at h
      · rename_i hs
        rw [List.mem_singleton.1 h]
        have hm : ∀ j, j < r.length → rA r j < l.length := fun j hj => hr _ (by simp [rA, List.getD, hj])
        have m1 := hm i (by omega)
        have m2 := hm ((i + 1) % r.length) (Nat.mod_lt _ (by omega))
        unfold seenB at hs
        have hs := of_decide_eq_true hs
        refine ⟨by simp only []; omega, by simp only []; omega, by simp only []; omega, ?_⟩
        simp only [areaT, pI, Int.toNat_natCast]
        have e : ∀ a b c : Pt, turn b a c = -turn a b c := fun a b c => by unfold turn; grind
        rw [e]; omega
      · cases h
theorem swp_good {l : List Pt} {N : Nat} (hN : 2 ≤ N) : ∀ k, N + k ≤ l.length → goodL l (swp l N k).1
  | 0, _ => fun t h => by simp [swp] at h
  | k + 1, hk => by
    intro t h
    have hb := (swp_bd (l := l) hN k).2.2
    simp only [swp, List.mem_append] at h
    rcases h with h | h
    · exact swp_good hN k (by omega) t h
    · exact triL_good (fun x hx => by have := hb x hx; omega) (by omega) _ (Nat.le_refl _) t h
end Go.Pl
