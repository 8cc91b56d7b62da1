/- Hulls and translations; points on segments; common ends of segments. -/
import Derived.Test.YtlcndghaendieaaPl5
set_option linter.unusedVariables false
namespace Go.Pl

/-! translations -/
def mv (dx dy : Int) (p : Pt) : Pt := (p.1 + dx, p.2 + dy)
section
variable (dx dy : Int)
theorem ltP_mv (p q : Pt) : ltP (mv dx dy p) (mv dx dy q) = ltP p q := by
  rw [Bool.eq_iff_iff, ltP_iff, ltP_iff]; unfold mv; simp only []; omega
theorem mv_beq (p q : Pt) : (mv dx dy p == mv dx dy q) = (p == q) := by
  rw [Bool.eq_iff_iff]; simp only [beq_iff_eq, mv, Prod.ext_iff]; omega
theorem turn_mv (a b c : Pt) : turn (mv dx dy a) (mv dx dy b) (mv dx dy c) = turn a b c := by unfold turn mv; grind
theorem addP_mv (p : Pt) : ∀ l : List Pt, addP (l.map (mv dx dy)) (mv dx dy p) = (addP l p).map (mv dx dy)
  | [] => rfl
  | q :: l => by
    simp only [List.map_cons, addP, ltP_mv, mv_beq, addP_mv p l]
    split
    · rfl
    · split <;> rfl
theorem fold_mv : ∀ l m : List Pt, (l.map (mv dx dy)).foldl addP (m.map (mv dx dy)) = (l.foldl addP m).map (mv dx dy)
  | [], m => rfl
  | p :: l, m => by simp only [List.map_cons, List.foldl_cons, addP_mv, fold_mv l]
theorem insP_mv (l : List Pt) : insP (l.map (mv dx dy)) = (insP l).map (mv dx dy) := fold_mv dx dy l []
theorem popP_mv : ∀ (st : List Pt) (p : Pt), popP (st.map (mv dx dy)) (mv dx dy p) = (popP st p).map (mv dx dy)
  | [], _ => rfl
  | [_], _ => rfl
  | b :: a :: r, p => by
    have ih := popP_mv (a :: r) p
    simp only [List.map_cons] at ih ⊢
    rw [popP, popP, turn_mv]
    split
    · exact ih
    · rfl
theorem stepF_mv : ∀ l st : List Pt, (l.map (mv dx dy)).foldl stepP (st.map (mv dx dy)) = (l.foldl stepP st).map (mv dx dy)
  | [], _ => rfl
  | p :: l, st => by
    have : stepP (st.map (mv dx dy)) (mv dx dy p) = (stepP st p).map (mv dx dy) := by simp only [stepP, popP_mv, List.map_cons]
    simp only [List.map_cons, List.foldl_cons, this, stepF_mv l]
theorem chain_mv (l : List Pt) : chainP (l.map (mv dx dy)) = (chainP l).map (mv dx dy) := by
  have := stepF_mv dx dy l []
  simp only [List.map_nil] at this
  simp only [chainP, chainR, this, List.map_reverse]
theorem hullA_mv (l : List Pt) : hullA (l.map (mv dx dy)) = (hullA l).map (mv dx dy) := by
  unfold hullA highP
  rw [List.length_map]
  split
  · rfl
  · rw [← List.map_reverse, chain_mv, chain_mv, List.map_append, List.map_dropLast, List.map_dropLast]
theorem hullP_mv (l : List Pt) : hullP (l.map (mv dx dy)) = (hullP l).map (mv dx dy) := by rw [hullP, insP_mv, hullA_mv]; rfl
end
theorem hullP_rev (l : List Pt) : hullP l.reverse = hullP l := hullP_congr (by simp)
theorem hullP_ins (l : List Pt) : hullP (insP l) = hullP l := hullP_congr (fun x => mem_insP)

/-! points on segments -/
abbrev Sg := Pt × Pt
def btw (s : Sg) (p : Pt) : Bool := decide (min s.1.1 s.2.1 ≤ p.1) && decide (p.1 ≤ max s.1.1 s.2.1) && (decide (min s.1.2 s.2.2 ≤ p.2) && decide (p.2 ≤ max s.1.2 s.2.2))
/-- Is a point on a segment? -/
def onS (s : Sg) (p : Pt) : Bool := (turn s.1 s.2 p == 0) && btw s p
def dotW (s : Sg) (p : Pt) : Int := (s.1.1 - p.1) * (s.2.1 - p.1) + (s.1.2 - p.2) * (s.2.2 - p.2)
theorem mul_le0 {a b : Int} : a * b ≤ 0 ↔ (a ≤ 0 ∧ 0 ≤ b) ∨ (0 ≤ a ∧ b ≤ 0) := by
  constructor
  · intro h
    rcases Int.lt_trichotomy a 0 with ha | ha | ha
    · rcases Int.lt_or_le b 0 with hb | hb
      · have := Int.mul_pos_of_neg_of_neg ha hb; omega
      · exact .inl ⟨by omega, hb⟩
    · subst ha; omega
    · rcases Int.lt_or_le 0 b with hb | hb
      · have := Int.mul_pos ha hb; omega
      · exact .inr ⟨by omega, hb⟩
  · rintro (⟨h1, h2⟩ | ⟨h1, h2⟩)
    · have := Int.mul_nonneg (show 0 ≤ -a by omega) h2
      have e : -a * b = -(a * b) := Int.neg_mul a b
      omega
    · have := Int.mul_nonneg h1 (show 0 ≤ -b by omega)
      have e : a * -b = -(a * b) := Int.mul_neg a b
      omega
theorem same_sign {u1 v1 u2 v2 : Int} (hc : u1 * v2 = u2 * v1) : u1 * v1 + u2 * v2 ≤ 0 ↔ u1 * v1 ≤ 0 ∧ u2 * v2 ≤ 0 := by
  have hp : (u1 * v1) * (u2 * v2) = (u1 * v2) * (u1 * v2) := by
    have : (u1 * v1) * (u2 * v2) = (u1 * v2) * (u2 * v1) := by grind
    rw [this, ← hc]
  have hq := sq_nonneg (u1 * v2)
  rw [← hp] at hq
  generalize u1 * v1 = X at *
  generalize u2 * v2 = Y at *
  constructor
  · intro h
    constructor
    · apply Classical.byContradiction
      intro hX
      have := Int.mul_neg_of_pos_of_neg (show 0 < X by omega) (show Y < 0 by omega)
      omega
    · apply Classical.byContradiction
      intro hY
      have := Int.mul_neg_of_neg_of_pos (show X < 0 by omega) (show 0 < Y by omega)
      omega
  · rintro ⟨h1, h2⟩; omega
theorem has_onS (s : Sg) (p : Pt) : ((turn s.1 s.2 p == 0) && decide (dotW s p ≤ 0)) = onS s p := by
  unfold onS
  by_cases ht : turn s.1 s.2 p = 0
  · have e : (turn s.1 s.2 p == 0) = true := by simpa using ht
    rw [e, Bool.true_and, Bool.true_and, Bool.eq_iff_iff, decide_eq_true_eq]
    obtain ⟨⟨ax, ay⟩, ⟨bx, b_⟩⟩ := s
    obtain ⟨px, py⟩ := p
    simp only [turn, dotW, btw, Bool.and_eq_true, decide_eq_true_eq] at *
    have hx : (min ax bx ≤ px ∧ px ≤ max ax bx) ↔ (ax - px) * (bx - px) ≤ 0 := by rw [mul_le0]; omega
    have hy : (min ay b_ ≤ py ∧ py ≤ max ay b_) ↔ (ay - py) * (b_ - py) ≤ 0 := by rw [mul_le0]; omega
    rw [hx, hy]
    have hc : (ax - px) * (b_ - py) = (ay - py) * (bx - px) := by grind
    exact same_sign hc
  · have e : (turn s.1 s.2 p == 0) = false := by simpa using ht
    rw [e, Bool.false_and, Bool.false_and]
theorem turn_same1 (a b : Pt) : turn a b a = 0 := by unfold turn; grind
theorem turn_same2 (a b : Pt) : turn a b b = 0 := by unfold turn; grind
theorem onS_1 (s : Sg) : onS s s.1 = true := by
  unfold onS btw
  rw [turn_same1]
  simp only [Bool.and_eq_true, decide_eq_true_eq, beq_self_eq_true, true_and]
  omega
theorem onS_2 (s : Sg) : onS s s.2 = true := by
  unfold onS btw
  rw [turn_same2]
  simp only [Bool.and_eq_true, decide_eq_true_eq, beq_self_eq_true, true_and]
  omega

/-! common ends -/
/-- The ends of both that lie on both, in order. -/
def endsP (s t : Sg) : List Pt := insP ([s.1, s.2, t.1, t.2].filter fun p => onS s p && onS t p)
/-- The same, in another order. -/
def comP (s t : Sg) : List Pt := ([s.1, s.2].filter fun p => onS t p) ++ ([t.1, t.2].filter fun p => onS s p && !(p == s.1 || p == s.2))
theorem nodup_insP (l : List Pt) : (insP l).Nodup := asc_nodup (asc_insP l)
theorem com_ends {s t : Sg} (hs : s.1 ≠ s.2) (ht : t.1 ≠ t.2) : (comP s t).length = (endsP s t).length := by
  have hmem : ∀ x, x ∈ comP s t ↔ x ∈ endsP s t := by
    intro x
    rw [endsP, mem_insP, comP]
    simp only [List.mem_append, List.mem_filter, List.mem_cons, List.not_mem_nil, or_false, Bool.and_eq_true, Bool.not_eq_true', Bool.or_eq_false_iff, beq_eq_false_iff_ne]
    constructor
    · rintro (⟨h1, h2⟩ | ⟨h1, h2, h3⟩)
      · rcases h1 with rfl | rfl
        · exact ⟨.inl rfl, onS_1 s, h2⟩
        · exact ⟨.inr (.inl rfl), onS_2 s, h2⟩
      · rcases h1 with rfl | rfl
        · exact ⟨.inr (.inr (.inl rfl)), h2, onS_1 t⟩
        · exact ⟨.inr (.inr (.inr rfl)), h2, onS_2 t⟩
    · rintro ⟨h1, h2, h3⟩
      by_cases c : x = s.1 ∨ x = s.2
      · exact .inl ⟨c, h3⟩
      · refine .inr ⟨?_, h2, fun e => c (.inl e), fun e => c (.inr e)⟩
        rcases h1 with h | h | h | h
        · exact absurd (.inl h) c
        · exact absurd (.inr h) c
        · exact .inl h
        · exact .inr h
  have hnd : (comP s t).Nodup := by
    rw [comP, List.nodup_append]
    refine ⟨List.Pairwise.filter _ (by simp [hs]), List.Pairwise.filter _ (by simp [ht]), ?_⟩
    intro a ha b hb hab
    subst hab
    simp only [List.mem_filter, List.mem_cons, List.not_mem_nil, or_false, Bool.and_eq_true, Bool.not_eq_true', Bool.or_eq_false_iff, beq_eq_false_iff_ne] at ha hb
    rcases ha.1 with h | h
    · exact hb.2.2.1 h
    · exact hb.2.2.2 h
  exact Nat.le_antisymm (nodup_len_le hnd fun x hx => (hmem x).1 hx) (nodup_len_le (nodup_insP _) fun x hx => (hmem x).2 hx)

/-- The relation of segments. -/
def sgnI (x : Int) : Int := if x < 0 then -1 else if 0 < x then 1 else 0
def crossesP (s t : Sg) : Bool := decide (sgnI (turn s.1 s.2 t.1) * sgnI (turn s.1 s.2 t.2) < 0) && decide (sgnI (turn t.1 t.2 s.1) * sgnI (turn t.1 t.2 s.2) < 0)
def relP (s t : Sg) : Int := if 1 < (endsP s t).length then 3 else if (endsP s t).length = 1 then 1 else if crossesP s t then 2 else 0
end Go.Pl
