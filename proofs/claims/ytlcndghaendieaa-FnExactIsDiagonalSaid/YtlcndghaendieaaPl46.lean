/- Is the middle of a segment between two vertices inside: the angle at one of its ends tells it. -/
import Derived.Test.YtlcndghaendieaaPl45
set_option linter.unusedVariables false
set_option linter.unusedSimpArgs false
set_option maxHeartbeats 4000000
namespace Go.Pl

theorem ray_rf {p q m : Pt} {M : Int} (hM : 0 < M) (h1 : p.2 < q.2 → M * p.2 - p.1 < M * q.2 - q.1) (h2 : q.2 < p.2 → M * q.2 - q.1 < M * p.2 - p.1)
    (h3 : p.2 < m.2 → M * p.2 - p.1 < M * m.2 - m.1) (h4 : m.2 < p.2 → M * m.2 - m.1 < M * p.2 - p.1) (h5 : q.2 < m.2 → M * q.2 - q.1 < M * m.2 - m.1) (h6 : m.2 < q.2 → M * m.2 - m.1 < M * q.2 - q.1) :
    rayP (p, q) m = rf (p.1, M * p.2 - p.1) (q.1, M * q.2 - q.1) (m.1, M * m.2 - m.1) := by
  have k1 : p.2 = q.2 → M * p.2 = M * q.2 := fun e => by rw [e]
  have k2 : p.2 = m.2 → M * p.2 = M * m.2 := fun e => by rw [e]
  have k3 : q.2 = m.2 → M * q.2 = M * m.2 := fun e => by rw [e]
  have s1 : p.2 = m.2 → turn p q m = (q.2 - p.2) * (p.1 - m.1) := fun e => by unfold turn; grind
  have s2 : q.2 = m.2 → turn p q m = (q.2 - p.2) * (q.1 - m.1) := fun e => by unfold turn; grind
  have r1 := prod_sgn (c := q.2 - p.2) (p.1 - m.1)
  have r2 := prod_sgn (c := q.2 - p.2) (q.1 - m.1)
  have t1 : turn (p.1, M * p.2 - p.1) (q.1, M * q.2 - q.1) (m.1, M * m.2 - m.1) = M * turn p q m := by unfold turn; simp only; grind
  have t2 : turn (q.1, M * q.2 - q.1) (p.1, M * p.2 - p.1) (m.1, M * m.2 - m.1) = - (M * turn p q m) := by unfold turn; simp only; grind
  have t3 : turn q p m = - turn p q m := turn_sw p q m
  have r3 := @mul_sgn M (turn p q m) hM
  unfold rayP rf pR
  simp only [t1, t2]
  have b1 : ∀ (P Q R : Prop) [Decidable P] [Decidable Q] [Decidable R], (decide P && decide Q && decide R) = decide (P ∧ Q ∧ R) := by
    intros P Q R _ _ _; rw [Bool.and_assoc, Bool.decide_and, Bool.decide_and]
  simp only [b1]
  clear t1 t2
  by_cases c : q.2 < p.2
  · simp only [if_pos c]
    rw [if_neg (by have := h2 c; omega), t3]
    refine decide_eq_decide.2 ?_
    generalize (q.2 - p.2) * (p.1 - m.1) = A at *
    generalize (q.2 - p.2) * (q.1 - m.1) = B at *
    generalize turn p q m = τ at *
    generalize M * τ = C at *
    generalize M * p.2 = P at *
    generalize M * q.2 = Q at *
    generalize M * m.2 = R at *
    have := h2 c
    rcases Int.lt_trichotomy p.2 m.2 with x | x | x <;> rcases Int.lt_trichotomy q.2 m.2 with y | y | y <;> omega
  · simp only [if_neg c]
    by_cases d : p.2 < q.2
    · rw [if_pos (by have := h1 d; omega)]
      refine decide_eq_decide.2 ?_
      generalize (q.2 - p.2) * (p.1 - m.1) = A at *
      generalize (q.2 - p.2) * (q.1 - m.1) = B at *
      generalize turn p q m = τ at *
      generalize M * τ = C at *
      generalize M * p.2 = P at *
      generalize M * q.2 = Q at *
      generalize M * m.2 = R at *
      have := h1 d
      rcases Int.lt_trichotomy p.2 m.2 with x | x | x <;> rcases Int.lt_trichotomy q.2 m.2 with y | y | y <;> omega
    · have e : p.2 = q.2 := by omega
      have l : ¬ (p.2 ≤ m.2 ∧ m.2 < q.2 ∧ 0 < turn p q m) := by omega
      rw [decide_eq_false l]
      have e0 : (q.2 - p.2) = 0 := by omega
      rw [e0, Int.zero_mul] at s1 s2
      symm
      split <;> refine decide_eq_false ?_
      · generalize turn p q m = τ at *
        generalize M * τ = C at *
        generalize M * p.2 = P at *
        generalize M * q.2 = Q at *
        generalize M * m.2 = R at *
        rcases Int.lt_trichotomy p.2 m.2 with x | x | x <;> omega
      · generalize turn p q m = τ at *
        generalize M * τ = C at *
        generalize M * p.2 = P at *
        generalize M * q.2 = Q at *
        generalize M * m.2 = R at *
        rcases Int.lt_trichotomy p.2 m.2 with x | x | x <;> omega

def dbl (p : Pt) : Pt := (p.1 + p.1, p.2 + p.2)
def dblP (l : List Pt) : List Pt := l.map dbl
theorem dbl_at {l : List Pt} (i : Nat) (hi : i < l.length) : pA (dblP l) i = dbl (pA l i) := by
  simp [pA, dblP, List.getD, hi]
theorem edgs_dbl (l : List Pt) (h0 : 0 < l.length) : edgs (dblP l) = (List.range l.length).map fun i => (dbl (vl l i), dbl (vl l (i + 1))) := by
  unfold edgs
  have hl : (dblP l).length = l.length := by simp [dblP]
  rw [hl]
  refine List.map_congr_left fun i hi => ?_
  rw [List.mem_range] at hi
  unfold edP
  rw [hl, dbl_at i hi, dbl_at _ (Nat.mod_lt _ h0), vl_lt hi]
  rfl
theorem coneP_lT {α β γ δ : Int} (hd : 0 < α * δ - β * γ) (a b c q : Pt) : coneP (lT α β γ δ a) (lT α β γ δ b) (lT α β γ δ c) (lT α β γ δ q) = coneP a b c q := by
  unfold coneP
  simp only [turn_lT]
  have s1 := @mul_sgn _ (turn a b c) hd
  have s2 := @mul_sgn _ (turn b q a) hd
  have s3 := @mul_sgn _ (turn b c q) hd
  have e1 : decide (0 < (α * δ - β * γ) * turn b q a) = decide (0 < turn b q a) := decide_eq_decide.2 s2.1
  have e2 : decide (0 < (α * δ - β * γ) * turn b c q) = decide (0 < turn b c q) := decide_eq_decide.2 s3.1
  have e3 : decide ((α * δ - β * γ) * turn b q a ≤ 0) = decide (turn b q a ≤ 0) := decide_eq_decide.2 (by omega)
  have e4 : decide ((α * δ - β * γ) * turn b c q ≤ 0) = decide (turn b c q ≤ 0) := decide_eq_decide.2 (by omega)
  rw [e1, e2, e3, e4]
  by_cases c : 0 < turn a b c
  · rw [if_pos c, if_pos (s1.1.2 c)]
  · rw [if_neg c, if_neg (fun q => c (s1.1.1 q))]

/-- The number of the middle of such a segment, seen from a vertex. -/
theorem odd1 {u : Nat → Pt} {n : Nat} (h : Smp u n) {q m : Pt} (hqk : ∃ k, u k = q) (hq0 : q ≠ u 0) (hq1 : q ≠ u 1) (hq2 : q ≠ u 2) (hnm : ∀ j, j < n → NM (u 1) q (u j) (u (j + 1)))
    (ht : turn (u 1) q m = 0) (hmid : 2 * m.2 = (u 1).2 + q.2) (hg : ∀ i, (u i).2 ≠ m.2) :
    kC u n m = wV u n 0 - 1 + (if coneP (u 0) (u 1) (u 2) q = true then 1 else 0) ∧ coneP (u 2) (u 1) (u 0) q = (!coneP (u 0) (u 1) (u 2) q) ∧ ∀ j, j < n → ¬ On (u j) (u (j + 1)) m := by
  have hn := h.n3
  have hq : ∀ i, (u i).2 = q.2 → u i = q := by
    intro i e
    obtain ⟨k, hk⟩ := hqk
    rw [← hk] at e ⊢
    exact h.dis' e
  have hqb : q.2 ≠ (u 1).2 := fun e => hq1 (hq 1 e.symm).symm
  have hqa : q.2 ≠ (u 0).2 := fun e => hq0 (hq 0 e.symm).symm
  have hqc : q.2 ≠ (u 2).2 := fun e => hq2 (hq 2 e.symm).symm
  have n01 := h.ne01
  have n12 := h.ne12
  have hm : (u 1).2 < m.2 ∧ m.2 < q.2 ∨ q.2 < m.2 ∧ m.2 < (u 1).2 := by omega
  have hk := kC_diag h hnm hq hq0 hq2 ht hm hg
  have hw : wV u n 0 = kC u n (u 1) + loc (u 0) (u 1) (u 2) := rfl
  have hk' : kC u n m = kC u n (u 1) + locD (u 0) (u 1) (u 2) q := hk
  have flip : ∀ a b c : Pt, turn a b c = - turn a c b := by intro a b c; unfold turn; grind
  have m0 := hnm 0 (by omega)
  have m1 := hnm 1 (by omega)
  simp only [Nat.zero_add, Nat.reduceAdd] at m0 m1
  have t1 := h.turn1
  have h2 : ((u 1).2 < (u 0).2 ↔ (u 1).2 < q.2) → turn (u 1) q (u 0) ≠ 0 := by
    intro hs e
    have c1 : ¬ _ := fun hh => m0.p1 (ne_ht n01) (fun e => hq0 e.symm) (on_mid e hh)
    have e' : turn (u 1) (u 0) q = 0 := by rw [flip, e]; rfl
    have c2 : ¬ _ := fun hh => m0.b1 hq0 hq1 (on_mid e' hh).symm
    omega
  have h3 : ((u 1).2 < (u 2).2 ↔ (u 1).2 < q.2) → turn (u 1) q (u 2) ≠ 0 := by
    intro hs e
    have c1 : ¬ _ := fun hh => m1.q1 (ne_ht (fun e => n12 e.symm)) (fun e => hq2 e.symm) (on_mid e hh)
    have e' : turn (u 1) (u 2) q = 0 := by rw [flip, e]; rfl
    have c2 : ¬ _ := fun hh => m1.b1 hq1 hq2 (on_mid e' hh)
    omega
  have h1 : ((u 1).2 < (u 0).2 ↔ (u 1).2 < (u 2).2) → turn (u 0) (u 1) (u 2) ≠ 0 := fun hs => t1 (by omega)
  have hcl := cone_loc n01 (fun e => n12 e.symm) hqb h1 h2 h3
  refine ⟨by omega, cone_flip n01 (fun e => n12 e.symm) hqb h1 h2 h3, fun j hj => ?_⟩
  refine sub_pt (hnm j hj) ht hm (hg j) (hg (j + 1)) h.dis' (hq j) h.dis' (hq (j + 1)) (fun e e' => ?_) (fun e e' => ?_)
  · have := h.inj hj (by omega) e
    subst this
    exact hq2 e'.symm
  · by_cases c : j = 0
    · subst c; exact hq0 e'.symm
    · by_cases d : j = 1
      · subst d; exact n12 (by rw [← e])
      · exact (h.off1 hj c d).2 e

def shr (M : Int) (z : Pt) : Pt := (z.1, M * z.2 - z.1)
theorem shr_lT (M : Int) (z : Pt) : shr M (dbl z) = lT 2 0 (-2) (2 * M) z := by
  unfold shr dbl lT; exact Prod.ext (by simp only; omega) (by simp only; grind)
/-- All heights different, the middle's among them, and the rays as before. -/
theorem shear_mid {v : Nat → Pt} {n : Nat} (h : Ply v n) (m : Pt) (hno : ∀ j, j < n → ¬ (2 * (v j).2 = m.2 ∧ 2 * (v j).1 = m.1)) :
    ∃ M : Int, 0 < M ∧ Smp (fun j => lT 2 0 (-2) (2 * M) (v j)) n ∧ (∀ j, (lT 2 0 (-2) (2 * M) (v j)).2 ≠ (shr M m).2) ∧
      ∀ j, j < n → rayP (dbl (v j), dbl (v (j + 1))) m = rf (lT 2 0 (-2) (2 * M) (v j)) (lT 2 0 (-2) (2 * M) (v (j + 1))) (shr M m) := by
  have hn := h.n3
  obtain ⟨M, hM, hM1, hM2⟩ := height_ex (fun j => if j < n then 2 * (v j).2 else m.2) (fun j => if j < n then -(2 * (v j).1) else -m.1) (n + 1)
  have hT2 : ∀ z : Pt, (lT 2 0 (-2) (2 * M) z).2 = M * (2 * z.2) + -(2 * z.1) := by
    intro z; unfold lT; simp only; grind
  have hdet : 0 < 2 * (2 * M) - 0 * (-2) := by omega
  have dd : ∀ z : Pt, (dbl z).2 = 2 * z.2 ∧ (dbl z).1 = 2 * z.1 := by intro z; unfold dbl; simp only; omega
  have vv : ∀ {a b}, a < n → b < n → ((dbl (v a)).2 < (dbl (v b)).2 → M * (dbl (v a)).2 - (dbl (v a)).1 < M * (dbl (v b)).2 - (dbl (v b)).1) := by
    intro a b ha hb hlt
    rw [(dd _).1, (dd _).1] at hlt
    have := hM1 a b (by omega) (by omega) (by simp only [if_pos ha, if_pos hb]; exact hlt)
    simp only [if_pos ha, if_pos hb] at this
    rw [(dd _).1, (dd _).1, (dd _).2, (dd _).2]
    omega
  have vm : ∀ {a}, a < n → ((dbl (v a)).2 < m.2 → M * (dbl (v a)).2 - (dbl (v a)).1 < M * m.2 - m.1) := by
    intro a ha hlt
    rw [(dd _).1] at hlt
    have := hM1 a n (by omega) (by omega) (by simp only [if_pos ha, if_neg (Nat.lt_irrefl n)]; exact hlt)
    simp only [if_pos ha, if_neg (Nat.lt_irrefl n)] at this
    rw [(dd _).1, (dd _).2]
    omega
  have mv : ∀ {a}, a < n → (m.2 < (dbl (v a)).2 → M * m.2 - m.1 < M * (dbl (v a)).2 - (dbl (v a)).1) := by
    intro a ha hlt
    rw [(dd _).1] at hlt
    have := hM1 n a (by omega) (by omega) (by simp only [if_pos ha, if_neg (Nat.lt_irrefl n)]; exact hlt)
    simp only [if_pos ha, if_neg (Nat.lt_irrefl n)] at this
    rw [(dd _).1, (dd _).2]
    omega
  refine ⟨M, hM, h.map hdet fun a b ha hb e => ?_, fun j e => ?_, fun j hj => ?_⟩
  · rw [hT2, hT2] at e
    have := hM2 a b (by omega) (by omega) (by simp only [if_pos ha, if_pos hb]; exact e)
    simp only [if_pos ha, if_pos hb] at this
    exact h.inj a b ha hb (Prod.ext (by omega) (by omega))
  · rw [h.idx j, hT2] at e
    have hj := Nat.mod_lt j (show 0 < n by omega)
    have hs : (shr M m).2 = M * m.2 + -m.1 := by unfold shr; simp only; omega
    rw [hs] at e
    have := hM2 (j % n) n (by omega) (by omega) (by simp only [if_pos hj, if_neg (Nat.lt_irrefl n)]; exact e)
    simp only [if_pos hj, if_neg (Nat.lt_irrefl n)] at this
    exact hno (j % n) hj ⟨by omega, by omega⟩
  · have hj1 := Nat.mod_lt (j + 1) (show 0 < n by omega)
    rw [h.idx (j + 1), ← shr_lT, ← shr_lT]
    exact ray_rf hM (vv hj hj1) (vv hj1 hj) (vm hj) (mv hj) (vm hj1) (mv hj1)

/-- A segment between two vertices that meets no side has its middle inside as its direction lies within the angle of one end. -/
theorem loc_diag {l : List Pt} (hn : l.Nodup) (h3 : 3 ≤ l.length) (hp : pairsP l = true) {i k : Nat} (hi : i < l.length) (hk : k < l.length) (hik : k ≠ i) (hk1 : k ≠ (i + 1) % l.length) (hk2 : k ≠ (i + l.length - 1) % l.length)
    (hD : ∀ j, j < l.length → NM (vl l i) (vl l k) (vl l j) (vl l (j + 1))) :
    locR ((vl l i).1 + (vl l k).1, (vl l i).2 + (vl l k).2) (edgs (dblP l)) false =
      if (if sumN l l.length < 0 then coneP (vl l (i + 1)) (vl l i) (vl l (i + l.length - 1)) (vl l k) else coneP (vl l (i + l.length - 1)) (vl l i) (vl l (i + 1)) (vl l k)) = true then 1 else -1 := by
  have h := ply_of hn h3 hp
  have hq1 : vl l k ≠ vl l i := by
    rw [vl_lt hi, vl_lt hk]
    exact fun e => hik (pA_inj hn hk hi e)
  have hq2 : vl l k ≠ vl l (i + 1) := by
    rw [vl_lt hk, vl]
    exact fun e => hk1 (pA_inj hn hk (Nat.mod_lt _ (by omega)) e)
  have hq0 : vl l k ≠ vl l (i + l.length - 1) := by
    rw [vl_lt hk, vl]
    exact fun e => hk2 (pA_inj hn hk (Nat.mod_lt _ (by omega)) e)
  have hsum := sumN_sm l _ (Nat.le_refl l.length)
  rw [edgs_dbl l (by omega)]
  clear hp hn hk1 hk2
  generalize vl l = v at *
  generalize hA : sumN l l.length = A at *
  clear hA
  generalize l.length = n at *
  clear l
  obtain ⟨m2, hm2⟩ : ∃ m2 : Pt, m2 = ((v i).1 + (v k).1, (v i).2 + (v k).2) := ⟨_, rfl⟩
  have m21 : m2.1 = (v i).1 + (v k).1 := by rw [hm2]
  have m22 : m2.2 = (v i).2 + (v k).2 := by rw [hm2]
  rw [← hm2]
  clear hm2
  have hnov : ∀ j, j < n → ¬ (2 * (v j).2 = m2.2 ∧ 2 * (v j).1 = m2.1) := by
    rintro j hj ⟨e2, e1⟩
    have hne1 : v j ≠ v i := fun e => hq1 (by rw [e] at e1 e2; exact Prod.ext (by omega) (by omega))
    have hne2 : v j ≠ v k := fun e => hq1 (by rw [e] at e1 e2; exact Prod.ext (by omega) (by omega))
    exact (hD j hj).p1 hne1 hne2 ⟨1, 2, by omega, by omega, by omega, by omega, by omega⟩
  obtain ⟨M, hM, hS, hg, hray⟩ := shear_mid h m2 hnov
  have hdet : 0 < 2 * (2 * M) - 0 * (-2) := by omega
  have hturn : turn (lT 2 0 (-2) (2 * M) (v i)) (lT 2 0 (-2) (2 * M) (v k)) (shr M m2) = 0 := by
    unfold turn lT shr; simp only; rw [m21, m22]; grind
  have hmid : 2 * (shr M m2).2 = (lT 2 0 (-2) (2 * M) (v i)).2 + (lT 2 0 (-2) (2 * M) (v k)).2 := by
    unfold lT shr; simp only; rw [m21, m22]; grind
  have hSs := hS.shifts (i + n - 1)
  have e1 : 1 + (i + n - 1) = i + n := by omega
  have e2 : 2 + (i + n - 1) = i + 1 + n := by omega
  have hall : ∀ j, NM (v i) (v k) (v j) (v (j + 1)) := by
    intro j
    have hj := Nat.mod_lt j (show 0 < n by omega)
    have := hD (j % n) hj
    rw [← h.idx j] at this
    have e : v (j % n + 1) = v (j + 1) := by rw [h.idx (j % n + 1), h.idx (j + 1), Nat.mod_add_mod]
    rwa [e] at this
  have hkp : v (k + n * (i + n)  - (i + n - 1) + (i + n - 1)) = v k := by
    have : i + n ≤ n * (i + n) := Nat.le_mul_of_pos_left _ (by omega)
    rw [show k + n * (i + n) - (i + n - 1) + (i + n - 1) = k + n * (i + n) by omega, h.idx, Nat.add_mul_mod_self_left, ← h.idx]
  obtain ⟨o1, o2, o3⟩ := odd1 hSs (q := lT 2 0 (-2) (2 * M) (v k)) (m := shr M m2) ⟨k + n * (i + n) - (i + n - 1), by simp only [hkp]⟩
    (by simp only [Nat.zero_add]; exact fun e => hq0 (lT_inj hdet e)) (by simp only [e1, h.per]; exact fun e => hq1 (lT_inj hdet e)) (by simp only [e2, h.per]; exact fun e => hq2 (lT_inj hdet e))
    (fun j _ => by
      simp only [e1, h.per]
      have := NM_lT hdet (hall (j + (i + n - 1)))
      rwa [show j + (i + n - 1) + 1 = j + 1 + (i + n - 1) by omega] at this)
    (by simp only [e1, h.per]; exact hturn) (by simp only [e1, h.per]; exact hmid) (fun j => hg _)
  rw [kC_shifts hS, wV_shifts hS] at o1
  simp only [Nat.zero_add, e1, e2, h.per, coneP_lT hdet] at o1 o2
  have hoff : ∀ j, j < n → ¬ On (lT 2 0 (-2) (2 * M) (v j)) (lT 2 0 (-2) (2 * M) (v (j + 1))) (shr M m2) := by
    intro j hj
    have := o3 ((j + n * (i + n) - (i + n - 1)) % n) (Nat.mod_lt _ (by omega))
    have hle : i + n ≤ n * (i + n) := Nat.le_mul_of_pos_left _ (by omega)
    have r1 : v ((j + n * (i + n) - (i + n - 1)) % n + (i + n - 1)) = v j := by
      rw [h.idx, Nat.mod_add_mod, show j + n * (i + n) - (i + n - 1) + (i + n - 1) = j + n * (i + n) by omega, Nat.add_mul_mod_self_left, ← h.idx]
    have r2 : v ((j + n * (i + n) - (i + n - 1)) % n + 1 + (i + n - 1)) = v (j + 1) := by
      rw [h.idx, show (j + n * (i + n) - (i + n - 1)) % n + 1 + (i + n - 1) = (j + n * (i + n) - (i + n - 1)) % n + (1 + (i + n - 1)) by omega, Nat.mod_add_mod, show j + n * (i + n) - (i + n - 1) + (1 + (i + n - 1)) = (j + 1) + n * (i + n) by omega, Nat.add_mul_mod_self_left, ← h.idx]
    simp only [r1, r2] at this
    exact this
  have hxor := xor_kC hS hg hoff
  rw [locR_eq]
  have hnone : ((List.range n).map fun j => (dbl (v j), dbl (v (j + 1)))).any (fun e => onS e m2) = false := by
    rw [List.any_eq_false]
    intro e he hon
    simp only [List.mem_map, List.mem_range] at he
    obtain ⟨j, hj, rfl⟩ := he
    have ho := On_map (α := 1) (β := 0) (γ := -1) (δ := M) (On_of_onS hon)
    have f1 : ∀ z : Pt, lT 1 0 (-1) M z = shr M z := by
      intro z; unfold lT shr; exact Prod.ext (by simp only; omega) (by simp only; omega)
    rw [f1, f1, f1, shr_lT, shr_lT] at ho
    exact hoff j hj ho
  rw [hnone, Bool.false_xor, List.map_map]
  have hrays : (List.range n).map ((fun e => rayP e m2) ∘ fun j => (dbl (v j), dbl (v (j + 1)))) = (List.range n).map fun j => rf (lT 2 0 (-2) (2 * M) (v j)) (lT 2 0 (-2) (2 * M) (v (j + 1))) (shr M m2) := by
    refine List.map_congr_left fun j hj => ?_
    rw [List.mem_range] at hj
    exact hray j hj
  rw [hrays, hxor]
  have hw := w01 hS
  have har := area_w hS
  simp only [crs_lT, smF_mulc] at har
  rw [← hsum] at har
  have s4 := @mul_sgn _ A hdet
  rw [if_neg (by decide)]
  by_cases hneg : A < 0
  · have hw0 : wV (fun j => lT 2 0 (-2) (2 * M) (v j)) n 0 = 0 := by
      rcases hw with w | w
      · exact w
      · have := har.1 w; omega
    rw [if_pos hneg, o2, o1, hw0]
    cases coneP (v (i + n - 1)) (v i) (v (i + 1)) (v k) <;> simp
  · have hw1 : wV (fun j => lT 2 0 (-2) (2 * M) (v j)) n 0 = 1 := by
      rcases hw with w | w
      · have := har.2 w; omega
      · exact w
    rw [if_neg hneg, o1, hw1]
    cases coneP (v (i + n - 1)) (v i) (v (i + 1)) (v k) <;> simp
end Go.Pl
