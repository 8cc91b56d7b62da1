import Derived.Test.YtjlcbomigbolcaaPl3
/- The upper envelope of graphs y = M*x - B, as points (M, B): what is highest somewhere. -/
set_option linter.unusedVariables false
set_option linter.unusedSimpArgs false
namespace Go.Pl

/-- Is a graph highest somewhere? -/
def TopIn (S : List Pt) (v : Pt) : Prop := v ∈ S ∧ (∀ h ∈ S, h.1 = v.1 → v.2 ≤ h.2) ∧ ∀ a ∈ S, ∀ c ∈ S, a.1 < v.1 → v.1 < c.1 → 0 < turn a v c

/-- The stack of the reference: the last graph comes first. -/
def popE : List Pt → Pt → List Pt
  | b :: a :: r, p => if b.1 = p.1 ∨ turn a b p ≤ 0 then popE (a :: r) p else b :: a :: r
  | [b], p => if b.1 = p.1 then [] else [b]
  | [], _ => []
def stepE (st : List Pt) (p : Pt) : List Pt := p :: popE st p

theorem popE_eq : ∀ (st : List Pt) (p : Pt), (∀ v ∈ st, v.1 ≠ p.1) → popE st p = popP st p
  | b :: a :: r, p, h => by
    simp only [popE, popP]
    have hb := h b (by simp)
    by_cases c : turn a b p ≤ 0
    · rw [if_pos (.inr c), if_pos c, popE_eq (a :: r) p (fun v hv => h v (List.mem_cons_of_mem _ hv))]
    · rw [if_neg (fun h => h.elim hb c), if_neg c]
  | [b], p, h => by simp [popE, popP, h b]
  | [], p, _ => rfl
theorem turn_down {a b p g : Pt} (hab : a.1 ≤ b.1) (h1 : g.1 = p.1) (h2 : g.2 ≤ p.2) (ht : turn a b p ≤ 0) : turn a b g ≤ 0 := by
  have e : turn a b p - turn a b g = (b.1 - a.1) * (p.2 - g.2) := by unfold turn; rw [h1]; grind
  have := Int.mul_nonneg (a := b.1 - a.1) (b := p.2 - g.2) (by omega) (by omega)
  omega
theorem le_of_lt {a b : Pt} (h : ltP a b = true) : a.1 ≤ b.1 := by rw [ltP_iff] at h; omega
theorem popP_twice {p g : Pt} (h1 : g.1 = p.1) (h2 : g.2 ≤ p.2) : ∀ (st : List Pt), Desc st → popP (popP st p) g = popP st g
  | b :: a :: r, hd => by
    have hd' := hd
    unfold Desc at hd'
    rw [List.pairwise_cons] at hd'
    have hab := le_of_lt (hd'.1 a (by simp))
    by_cases c : turn a b p ≤ 0
    · have c2 := turn_down hab h1 h2 c
      rw [popP, if_pos c, popP_twice h1 h2 (a :: r) hd'.2]
      conv => rhs; rw [popP, if_pos c2]
    · rw [popP, if_neg c]
  | [b], _ => rfl
  | [], _ => rfl

/-- A stack over graphs in order; of graphs with one slope the lowest B counts. -/
structure Env (S st : List Pt) : Prop where
  ex : S = [] ∧ st = [] ∨ ∃ S0 st0 p, Asc (S0 ++ [p]) ∧ (∀ v ∈ S0, v.1 < p.1) ∧ (S0.Pairwise fun a b => a.1 < b.1) ∧ Stk S0 st0 ∧ st = stepP st0 p ∧ (∀ v ∈ S0 ++ [p], v ∈ S) ∧ ∀ h ∈ S, ∃ v ∈ S0 ++ [p], v.1 = h.1 ∧ v.2 ≤ h.2

theorem stk_env {S st : List Pt} (h : Env S st) : ∃ S', Stk S' st ∧ (S'.Pairwise fun a b => a.1 < b.1) ∧ (∀ v ∈ S', v ∈ S) ∧ ∀ h ∈ S, ∃ v ∈ S', v.1 = h.1 ∧ v.2 ≤ h.2 := by
  rcases h.ex with ⟨rfl, rfl⟩ | ⟨S0, st0, p, ha, hl, hp, hk, rfl, h1, h2⟩
  · exact ⟨[], ⟨by simp [Desc], by simp, by simp⟩, List.Pairwise.nil, by simp, by simp⟩
  · have ha' := ha
    unfold Asc at ha'
    rw [List.pairwise_append] at ha'
    refine ⟨S0 ++ [p], stk_step ha'.1 (fun q hq => ha'.2.2 q hq p (by simp)) hk, ?_, h1, h2⟩
    rw [List.pairwise_append]
    exact ⟨hp, by simp, fun a hq b hb => by rw [List.mem_singleton.1 hb]; exact hl a hq⟩

theorem lt_first {a b : Pt} (h : a.1 < b.1) : ltP a b = true := by rw [ltP_iff]; exact .inl h
theorem asc_first {l : List Pt} (h : l.Pairwise fun a b => a.1 < b.1) : Asc l := List.Pairwise.imp (fun h => lt_first h) h

/-- One more graph, in order by slope and then by falling B. -/
theorem env_step {S st : List Pt} {g : Pt} (h : Env S st) (ho : ∀ v ∈ S, v.1 < g.1 ∨ v.1 = g.1 ∧ g.2 ≤ v.2) : Env (S ++ [g]) (stepE st g) := by
  rcases h.ex with ⟨rfl, rfl⟩ | ⟨S0, st0, p, ha, hl, hp, hk, rfl, h1, h2⟩
  · exact ⟨.inr ⟨[], [], g, by simp [Asc], by simp, List.Pairwise.nil, ⟨by simp [Desc], by simp, by simp⟩, rfl, by simp, by simp⟩⟩
  · obtain ⟨S', hk', hp', m1, m2⟩ := stk_env h
    have hpS := h1 p (by simp)
    have hmem0 : ∀ v ∈ st0, v.1 < p.1 := fun v hv => hl v ((hk.mem v).1 hv).1
    rcases ho p hpS with hlt | ⟨heq, hle⟩
    · refine ⟨.inr ⟨S0 ++ [p], stepP st0 p, g, ?_, ?_, ?_, ?_, ?_, ?_, ?_⟩⟩
      · refine asc_first ?_
        rw [List.pairwise_append]
        refine ⟨?_, by simp, fun a hq b hb => ?_⟩
        · rw [List.pairwise_append]
          exact ⟨hp, by simp, fun a hq b hb => by rw [List.mem_singleton.1 hb]; exact hl a hq⟩
        · rw [List.mem_singleton.1 hb]
          rcases List.mem_append.1 hq with hq | hq
          · have := hl a hq; omega
          · rw [List.mem_singleton.1 hq]; exact hlt
      · intro v hv
        rcases List.mem_append.1 hv with hq | hq
        · have := hl v hq; omega
        · rw [List.mem_singleton.1 hq]; exact hlt
      · rw [List.pairwise_append]
        exact ⟨hp, by simp, fun a hq b hb => by rw [List.mem_singleton.1 hb]; exact hl a hq⟩
      · have ha' := ha
        unfold Asc at ha'
        rw [List.pairwise_append] at ha'
        exact stk_step ha'.1 (fun q hq => ha'.2.2 q hq p (by simp)) hk
      · unfold stepE
        rw [popE_eq]
        · rfl
        · intro v hv
          have : v.1 ≤ p.1 := by
            rcases List.mem_cons.1 hv with rfl | hv
            · exact Int.le_refl _
            · have := hmem0 v ((popP_suffix st0 p).subset hv); omega
          omega
      · intro v hv
        rcases List.mem_append.1 hv with hq | hq
        · exact List.mem_append.2 (.inl (h1 v hq))
        · exact List.mem_append.2 (.inr hq)
      · intro k hk2
        rcases List.mem_append.1 hk2 with hq | hq
        · obtain ⟨v, hv, e⟩ := h2 k hq
          exact ⟨v, List.mem_append.2 (.inl hv), e⟩
        · exact ⟨g, by simp, by rw [List.mem_singleton.1 hq]; exact ⟨rfl, Int.le_refl _⟩⟩
    · refine ⟨.inr ⟨S0, st0, g, ?_, ?_, hp, hk, ?_, ?_, ?_⟩⟩
      · refine asc_first ?_
        rw [List.pairwise_append]
        exact ⟨hp, by simp, fun a hq b hb => by rw [List.mem_singleton.1 hb]; have := hl a hq; omega⟩
      · intro v hv; have := hl v hv; omega
      · have hne : ∀ v ∈ popP st0 p, v.1 ≠ g.1 := fun v hv => by have := hmem0 v ((popP_suffix st0 p).subset hv); omega
        have h3 : popE (p :: popP st0 p) g = popE (popP st0 p) g := by
          cases hc : popP st0 p with
          | nil => rw [popE, if_pos heq]; rfl
          | cons a r => rw [popE, if_pos (.inl heq)]
        unfold stepE stepP
        rw [h3, popE_eq _ _ hne, popP_twice heq.symm hle st0 hk.desc]
      · intro v hv
        rcases List.mem_append.1 hv with hq | hq
        · exact List.mem_append.2 (.inl (h1 v (List.mem_append.2 (.inl hq))))
        · exact List.mem_append.2 (.inr hq)
      · intro k hk2
        rcases List.mem_append.1 hk2 with hq | hq
        · obtain ⟨v, hv, e⟩ := h2 k hq
          rcases List.mem_append.1 hv with hv | hv
          · exact ⟨v, List.mem_append.2 (.inl hv), e⟩
          · rw [List.mem_singleton.1 hv] at e
            exact ⟨g, by simp, by omega, by omega⟩
        · exact ⟨g, by simp, by rw [List.mem_singleton.1 hq]; exact ⟨rfl, Int.le_refl _⟩⟩

theorem env_nil : Env [] [] := ⟨.inl ⟨rfl, rfl⟩⟩
/-- In order by slope and then by falling B. -/
def leE (v g : Pt) : Prop := v.1 < g.1 ∨ v.1 = g.1 ∧ g.2 ≤ v.2
theorem env_fold : ∀ (l S st : List Pt), Env S st → (S ++ l).Pairwise leE → Env (S ++ l) (l.foldl stepE st)
  | [], S, st, h, _ => by simpa using h
  | g :: l, S, st, h, hp => by
    have hp' : ((S ++ [g]) ++ l).Pairwise leE := by simpa using hp
    have ho : ∀ v ∈ S, leE v g := by
      rw [List.pairwise_append] at hp
      exact fun v hv => hp.2.2 v hv g (by simp)
    have := env_fold l (S ++ [g]) (stepE st g) (env_step h ho) hp'
    simpa using this

theorem env_desc {S st : List Pt} (h : Env S st) : st.Pairwise fun a b => b.1 < a.1 := by
  obtain ⟨S', hk, hp, h1, h2⟩ := stk_env h
  have hm : ∀ v ∈ st, v ∈ S' := fun v hv => ((hk.mem v).1 hv).1
  have key : ∀ {a b : Pt}, a ∈ S' → b ∈ S' → ltP b a = true → b.1 < a.1 := by
    intro a b ha hb hlt
    have := le_of_lt hlt
    rcases Int.lt_or_eq_of_le this with h | h
    · exact h
    · obtain ⟨i, hi, rfl⟩ := List.mem_iff_getElem.1 ha
      obtain ⟨j, hj, rfl⟩ := List.mem_iff_getElem.1 hb
      rw [List.pairwise_iff_getElem] at hp
      rcases Nat.lt_trichotomy i j with c | c | c
      · have := hp i j hi hj c; omega
      · subst c; rw [ltP_irrefl] at hlt; cases hlt
      · exact hp j i hj hi c
  have hd := hk.desc
  unfold Desc at hd
  exact List.Pairwise.imp_of_mem (fun ha hb hlt => key (hm _ ha) (hm _ hb) hlt) hd
theorem turn_lift {a a' v c c' : Pt} (h1 : a'.1 = a.1) (h2 : a'.2 ≤ a.2) (h3 : c'.1 = c.1) (h4 : c'.2 ≤ c.2) (hav : a.1 < v.1) (hvc : v.1 < c.1) (h : 0 < turn a' v c') : 0 < turn a v c := by
  have e : turn a v c = turn a' v c' + (a.2 - a'.2) * (c.1 - v.1) + (c.2 - c'.2) * (v.1 - a.1) := by unfold turn; rw [h1, h3]; grind
  have p1 := Int.mul_nonneg (a := a.2 - a'.2) (b := c.1 - v.1) (by omega) (by omega)
  have p2 := Int.mul_nonneg (a := c.2 - c'.2) (b := v.1 - a.1) (by omega) (by omega)
  omega
/-- What stands on the stack: what is highest somewhere. -/
theorem env_mem {S st : List Pt} (h : Env S st) (v : Pt) : v ∈ st ↔ TopIn S v := by
  obtain ⟨S', hk, hp, h1, h2⟩ := stk_env h
  have inj : ∀ {a b : Pt}, a ∈ S' → b ∈ S' → a.1 = b.1 → a = b := by
    intro a b ha hb he
    obtain ⟨i, hi, rfl⟩ := List.mem_iff_getElem.1 ha
    obtain ⟨j, hj, rfl⟩ := List.mem_iff_getElem.1 hb
    have hp' := hp
    rw [List.pairwise_iff_getElem] at hp'
    rcases Nat.lt_trichotomy i j with c | c | c
    · have := hp' i j hi hj c; omega
    · subst c; rfl
    · have := hp' j i hj hi c; omega
  rw [hk.mem]
  constructor
  · rintro ⟨hv, he⟩
    refine ⟨h1 v hv, fun k hk2 e => ?_, fun a ha c hc l1 l2 => ?_⟩
    · obtain ⟨w, hw, e1, e2⟩ := h2 k hk2
      have := inj hw hv (by omega)
      subst this; exact e2
    · obtain ⟨a', ha', e1, e2⟩ := h2 a ha
      obtain ⟨c', hc', e3, e4⟩ := h2 c hc
      exact turn_lift e1 e2 e3 e4 l1 l2 (he a' ha' c' hc' (lt_first (by omega)) (lt_first (by omega)))
  · rintro ⟨hv, hs, ht⟩
    obtain ⟨w, hw, e1, e2⟩ := h2 v hv
    have hwv : w = v := by
      have := hs w (h1 w hw) e1
      exact Prod.ext e1 (by omega)
    subst hwv
    refine ⟨hw, fun a ha b hb l1 l2 => ?_⟩
    have la := le_of_lt l1
    have lb := le_of_lt l2
    refine ht a (h1 a ha) b (h1 b hb) ?_ ?_
    · rcases Int.lt_or_eq_of_le la with h | h
      · exact h
      · rw [inj ha hw h, ltP_irrefl] at l1; cases l1
    · rcases Int.lt_or_eq_of_le lb with h | h
      · exact h
      · rw [inj hw hb h, ltP_irrefl] at l2; cases l2
/-- At each place one of them is highest. -/
theorem env_sup {S st : List Pt} (h : Env S st) (x : Int) {q : Pt} (hq : q ∈ S) : ∃ v ∈ st, q.1 * x - q.2 ≤ v.1 * x - v.2 := by
  obtain ⟨S', hk, hp, h1, h2⟩ := stk_env h
  obtain ⟨w, hw, e1, e2⟩ := h2 q hq
  obtain ⟨v, hv, hl⟩ := hk.sup x (-1) (by decide) w hw
  refine ⟨v, hv, ?_⟩
  unfold lin at hl
  rw [Int.mul_comm q.1, ← e1, Int.mul_comm v.1]
  omega
/-- The least slope is on the stack. -/
theorem env_low {S st : List Pt} (h : Env S st) {q : Pt} (hq : q ∈ S) : (∃ v ∈ st, v.1 ≤ q.1) ∧ ∃ v ∈ st, q.1 ≤ v.1 := by
  obtain ⟨S', hk, hp, h1, h2⟩ := stk_env h
  have hS : Asc S' := asc_first hp
  obtain ⟨w, hw, e1, e2⟩ := h2 q hq
  constructor
  · obtain ⟨i, hi, rfl⟩ := List.mem_iff_getElem.1 hw
    have h0 : 0 < S'.length := by omega
    rw [List.pairwise_iff_getElem] at hp
    have hle : S'[0].1 ≤ S'[i].1 := by
      rcases Nat.eq_zero_or_pos i with c | c
      · subst c; exact Int.le_refl _
      · have := hp 0 i h0 hi c; omega
    refine ⟨S'[0], (hk.mem _).2 ⟨List.getElem_mem h0, fun a ha b hb l1 _ => ?_⟩, by omega⟩
    obtain ⟨j, hj, rfl⟩ := List.mem_iff_getElem.1 ha
    have := le_of_lt l1
    rcases Nat.eq_zero_or_pos j with c | c
    · subst c; rw [ltP_irrefl] at l1; cases l1
    · have := hp 0 j h0 hj c; omega
  · obtain ⟨i, hi, rfl⟩ := List.mem_iff_getElem.1 hw
    have h0 : S'.length - 1 < S'.length := by omega
    rw [List.pairwise_iff_getElem] at hp
    have hle : S'[i].1 ≤ S'[S'.length - 1].1 := by
      rcases Nat.lt_or_ge i (S'.length - 1) with c | c
      · have := hp i (S'.length - 1) hi h0 c; omega
      · have : i = S'.length - 1 := by omega
        subst this; exact Int.le_refl _
    refine ⟨S'[S'.length - 1], (hk.mem _).2 ⟨List.getElem_mem h0, fun a ha b hb _ l2 => ?_⟩, by omega⟩
    obtain ⟨j, hj, rfl⟩ := List.mem_iff_getElem.1 hb
    have := le_of_lt l2
    rcases Nat.lt_or_ge j (S'.length - 1) with c | c
    · have := hp j (S'.length - 1) hj h0 c; omega
    · have : j = S'.length - 1 := by omega
      subst this; rw [ltP_irrefl] at l2; cases l2
end Go.Pl
