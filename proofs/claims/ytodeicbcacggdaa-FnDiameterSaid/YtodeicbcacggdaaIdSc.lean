/- The caller's side is right. -/
import Derived.Test.YtodeicbcacggdaaIdSb
set_option linter.unusedVariables false
set_option linter.unusedSimpArgs false
namespace Go.Ideal
open Go

/-- The ids stand for the same. -/
def WLe (c c' : Ctx) (ok : Nat → Prop) : Prop := ∀ id, ok id → c'.sh id = none ∨ (c'.sh id = c.sh id ∧ c'.μ id = c.μ id ∧ c'.κ id = c.κ id)

mutual
theorem noSl_any {c c' : Ctx} {ok : Nat → Prop} (L : WLe c c' ok) : ∀ (x : IV) (v : Value), noSl x = true → (∀ id, x.ment id = true → ok id) → RepV c x v → RepV c' x v
  | .junk, _, _, _, _ => by simp [RepV]
  | .num _ _, _, _, _, h => by simpa [RepV] using h
  | .bool _, _, _, _, h => by simpa [RepV] using h
  | .str _, _, _, _, h => by simpa [RepV] using h
  | .agg l, v, hs, m, h => by
    simp only [noSl] at hs
    simp only [RepV] at h ⊢
    obtain ⟨vs, hv, hl⟩ := h
    exact ⟨vs, hv, noSlL_any L l vs hs (fun id hi => m id (by simpa [IV.ment] using hi)) hl⟩
  | .tup l, v, hs, m, h => by
    simp only [noSl] at hs
    simp only [RepV] at h ⊢
    obtain ⟨vs, hv, hl⟩ := h
    exact ⟨vs, hv, noSlL_any L l vs hs (fun id hi => m id (by simpa [IV.ment] using hi)) hl⟩
  | .sl k es, v, hs, m, h => by simp [noSl] at hs
  | .nils, _, _, _, h => by simpa [RepV] using h
  | .nilp, _, _, _, h => by simpa [RepV] using h
  | .nilI, _, _, _, h => by simpa [RepV] using h
  | .ptr id off, v, hs, m, h => by
    simp only [RepV] at h ⊢
    obtain ⟨a, hv, h⟩ := h
    refine ⟨a, hv, fun hs => ?_⟩
    rcases L id (m id (by simp [IV.ment])) with h0 | ⟨h1, h2, h3⟩
    · rw [h0] at hs; cases hs
    · rw [h2]; exact h (h1 ▸ hs)
  | .aptr id i off, v, hs, m, h => by
    simp only [RepV] at h ⊢
    obtain ⟨a, hv, h⟩ := h
    refine ⟨a, hv, fun k hk hs => ?_⟩
    rcases L id (m id (by simp [IV.ment])) with h0 | ⟨h1, h2, h3⟩
    · rw [h0] at hs; cases hs
    · rw [h2]; exact h k hk (h1 ▸ hs)
  | .eptr k e off, v, hs, m, h => by simp [noSl] at hs
  | .ref id off n full, v, hs, m, h => by
    simp only [RepV] at h ⊢
    obtain ⟨a, cp, hv, han, h⟩ := h
    refine ⟨a, cp, hv, han, fun k hk hs => ?_⟩
    rcases L id (m id (by simp [IV.ment])) with h0 | ⟨h1, h2, h3⟩
    · rw [h0] at hs; cases hs
    · rw [h2, h3]; exact h k hk (h1 ▸ hs)
  | .clo g caps, v, hs, m, h => by
    simp only [noSl] at hs
    simp only [RepV] at h ⊢
    obtain ⟨vs, hv, hl⟩ := h
    exact ⟨vs, hv, noSlL_any L caps vs hs (fun id hi => m id (by simpa [IV.ment] using hi)) hl⟩
  | .opt b x, v, hs, m, h => by
    simp only [noSl] at hs
    simp only [RepV] at h ⊢
    exact ⟨fun hb => noSl_any L x v hs (fun id hi => m id (by simpa [IV.ment] using hi)) (h.1 hb), h.2⟩
  | .ifc, _, _, _, h => by simpa [RepV] using h
  | .anyB, _, _, _, h => by simpa [RepV] using h
theorem noSlL_any {c c' : Ctx} {ok : Nat → Prop} (L : WLe c c' ok) : ∀ (l : List IV) (vs : List Value), noSlL l = true → (∀ id, IV.mentL id l = true → ok id) → RepL c l vs → RepL c' l vs
  | [], _, _, _, h => by simpa [RepL] using h
  | x :: l, vs, hs, m, h => by
    simp only [noSlL, Bool.and_eq_true] at hs
    simp only [RepL] at h ⊢
    obtain ⟨v, r, hv, hx, hl⟩ := h
    exact ⟨v, r, hv, noSl_any L x v hs.1 (fun id hi => m id (by simp [IV.mentL, hi])) hx, noSlL_any L l r hs.2 (fun id hi => m id (by simp [IV.mentL, hi])) hl⟩
end

theorem noSlX_any {c c' : Ctx} {ok : Nat → Prop} (L : WLe c c' ok) {k : Nat} : ∀ (es : List IV) (xs : List Value), noSlL es = true → (∀ id, IV.mentL id es = true → ok id) → RepX c k es xs → RepX c' k es xs
  | [], xs, _, _, h => by simpa [RepX] using h
  | e :: es, xs, hs, m, h => by
    simp only [noSlL, Bool.and_eq_true] at hs
    simp only [RepX] at h ⊢
    obtain ⟨x, r, hx, hv, hk, hr⟩ := h
    exact ⟨x, r, hx, noSl_any L e x hs.1 (fun id hi => m id (by simp [IV.mentL, hi])) hv, hk, noSlX_any L es r hs.2 (fun id hi => m id (by simp [IV.mentL, hi])) hr⟩

theorem conv0_ment {h h' : Nat → Option IBlk} {ρ : Nat → Nat} {x y : IV} {i : Nat} (hc : conv0 h h' ρ x y) (hm : y.ment i = true) : (h' i).isSome = true := by
  cases y with
  | ref id' off' n' f' =>
    simp only [IV.ment, beq_iff_eq] at hm
    subst hm
    cases x <;> simp only [conv0] at hc
    exact hc.1
  | ptr id' off' =>
    simp only [IV.ment, beq_iff_eq] at hm
    subst hm
    cases x <;> simp only [conv0] at hc
    exact hc.1
  | sl k es => simp [IV.ment] at hm
  | junk => simp [IV.ment] at hm
  | _ =>
    have := clean_ment (id := i) _ hc.2
    rw [this] at hm
    cases hm

mutual
theorem conv_ment {h h' : Nat → Option IBlk} {ρ : Nat → Nat} (x : IV) {i : Nat} : ∀ (y : IV), conv h h' ρ x y → y.ment i = true → (h' i).isSome = true
  | .clo g l', hc, hm => by
    cases x with
    | clo g0 l => simp only [conv] at hc; exact convL_ment l l' hc.2 (by simpa [IV.ment] using hm)
    | _ => simp [conv] at hc
  | .agg l', hc, hm => by
    cases x with
    | agg l => simp only [conv] at hc; exact convL_ment l l' hc (by simpa [IV.ment] using hm)
    | _ => simp [conv] at hc
  | .tup l', hc, hm => by
    cases x with
    | tup l => simp only [conv] at hc; exact convL_ment l l' hc (by simpa [IV.ment] using hm)
    | _ => simp [conv] at hc
  | .junk, hc, hm => by simp [IV.ment] at hm
  | .num _ _, hc, hm => by simp [IV.ment] at hm
  | .bool _, hc, hm => by simp [IV.ment] at hm
  | .str _, hc, hm => by simp [IV.ment] at hm
  | .sl _ _, hc, hm => by simp [IV.ment] at hm
  | .nils, hc, hm => by simp [IV.ment] at hm
  | .nilp, hc, hm => by simp [IV.ment] at hm
  | .nilI, hc, hm => by simp [IV.ment] at hm
  | .ptr _ _, hc, hm => conv0_ment (x := x) (by simpa only [conv] using hc) hm
  | .aptr _ _ _, hc, hm => conv0_ment (x := x) (by simpa only [conv] using hc) hm
  | .eptr _ _ _, hc, hm => by simp [IV.ment] at hm
  | .ref _ _ _ _, hc, hm => conv0_ment (x := x) (by simpa only [conv] using hc) hm
  | .opt _ _, hc, hm => conv0_ment (x := x) (by simpa only [conv] using hc) hm
  | .ifc, hc, hm => by simp [IV.ment] at hm
  | .anyB, hc, hm => by simp [IV.ment] at hm
theorem convL_ment {h h' : Nat → Option IBlk} {ρ : Nat → Nat} (l : List IV) {i : Nat} : ∀ (l' : List IV), convL h h' ρ l l' → IV.mentL i l' = true → (h' i).isSome = true
  | [], hc, hm => by simp [IV.mentL] at hm
  | y :: l', hc, hm => by
    cases l with
    | nil => simp [convL] at hc
    | cons x l =>
      simp only [convL] at hc
      simp only [IV.mentL, Bool.or_eq_true] at hm
      rcases hm with hm | hm
      · exact conv_ment x y hc.1 hm
      · exact convL_ment l l' hc.2 hm
end

theorem sm_some : ∀ {l : List (Nat × IBlk)} {i : Nat}, lkH (sm l) i = none → i ∉ l.map Prod.fst
  | [], i, _ => by simp
  | (j, b) :: l, i, h => by
    simp only [sm, lkH] at h
    by_cases e : j = i
    · rw [if_pos e] at h; cases h
    · rw [if_neg e] at h
      have := sm_some h
      simp only [List.map_cons, List.mem_cons, not_or]
      exact ⟨fun x => e x.symm, this⟩

theorem lkH_sm {l : List (Nat × IBlk)} {r : List (Nat × Option IBlk)} {i : Nat} : lkH (sm l ++ r) i = match lkH (sm l) i with | some b => some b | none => lkH r i := by
  induction l with
  | nil => rfl
  | cons p l ih =>
    obtain ⟨j, b⟩ := p
    simp only [sm, List.cons_append, lkH]
    by_cases e : j = i
    · simp [e]
    · simp only [if_neg e]; exact ih

theorem lkH_nones {r : List (Nat × Option IBlk)} {i : Nat} : ∀ {ids : List Nat}, lkH (nones ids ++ r) i = if i ∈ ids then none else lkH r i
  | [] => by simp [nones]
  | j :: ids => by
    simp only [nones, List.cons_append, lkH]
    by_cases e : j = i
    · simp [e]
    · rw [if_neg e, lkH_nones (ids := ids)]
      have : i ≠ j := fun x => e x.symm
      simp [this]

theorem lkH_sub {h : Nat → Option IBlk} {i : Nat} : ∀ {ids : List Nat}, lkH (subHp h ids) i = if i ∈ ids then h i else none
  | [] => by simp [subHp, lkH]
  | j :: ids => by
    simp only [subHp, lkH]
    by_cases e : j = i
    · simp [e]
    · rw [if_neg e, lkH_sub (ids := ids)]
      have : i ≠ j := fun x => e x.symm
      simp [this]

theorem allHere_mem {h : Nat → Option IBlk} : ∀ {ids : List Nat}, allHere h ids → ∀ i ∈ ids, h i ≠ none
  | [], _, i, hi => by simp at hi
  | j :: ids, ha, i, hi => by
    rcases List.mem_cons.1 hi with rfl | hi
    · intro e; have := ha.1; rw [e] at this; cases this
    · exact allHere_mem ha.2 i hi

theorem keyOK_mem {s : ISt} {ids : List Nat} {base : Nat} : ∀ {hv : List (Nat × IBlk)}, keyOK s ids base hv → ∀ i b, lkH (sm hv) i = some b →
    (i ∈ ids ∧ fwd ids (bwd ids base i) = i ∧ 1000 ≤ bwd ids base i ∧ bwd ids base i < 2000 ∧ (lkH s.hp i).map IBlk.shape = some b.shape) ∨
    (i ∉ ids ∧ 2000 ≤ i ∧ mentTm i s.tm = false ∧ mentHp i s.hp = false ∧ lkH s.hp i = none)
  | [], _, i, b, h => by simp [sm, lkH] at h
  | (j, c) :: hv, hk, i, b, h => by
    simp only [sm, lkH] at h
    simp only [keyOK] at hk
    by_cases e : j = i
    · subst e
      rw [if_pos rfl] at h
      injection h with h
      subst h
      cases hc : ids.contains j with
      | true =>
        rw [hc] at hk
        exact .inl ⟨by simpa using hc, hk.1⟩
      | false =>
        rw [hc] at hk
        exact .inr ⟨by simpa using hc, hk.1⟩
    · rw [if_neg e] at h
      exact keyOK_mem hk.2 i b h

theorem flatBs_mem : ∀ {hv : List (Nat × IBlk)}, flatBs hv = true → ∀ i b, lkH (sm hv) i = some b → match b with | .box _ l => noSlL l = true | .arr _ _ l => noSlL l = true
  | [], _, i, b, h => by simp [sm, lkH] at h
  | (j, c) :: hv, hf, i, b, h => by
    simp only [sm, lkH] at h
    by_cases e : j = i
    · subst e
      rw [if_pos rfl] at h
      injection h with h
      subst h
      cases c <;> simp only [flatBs, Bool.and_eq_true] at hf <;> exact hf.1
    · rw [if_neg e] at h
      refine flatBs_mem ?_ i b h
      cases c <;> simp only [flatBs, Bool.and_eq_true] at hf <;> exact hf.2

theorem convHp_box {h h' : Nat → Option IBlk} {ρ : Nat → Nat} {hp : List (Nat × Option IBlk)} (hc : convHp h h' ρ hp) {i : Nat} {ty : TypeId} {cells : List IV} (hb : lkH hp i = some (.box ty cells)) {j : Nat} (hm : IV.mentL j cells = true) : (h' j).isSome = true := by
  have := convHp_lk hc i _ hb
  cases hr : h (ρ i) with
  | none => rw [hr] at this; exact this.elim
  | some b0 =>
    rw [hr] at this
    cases b0 with
    | arr k t es => exact this.elim
    | box t cs => exact convL_ment cs cells this.2 hm

end Go.Ideal
