/- A state given up for another that says no more; what a function returns. -/
import Derived.Test.YtodeicbcacggdaaIdM
set_option linter.unusedVariables false
set_option linter.unusedSimpArgs false
namespace Go.Ideal
open Go

/-- x, in a state with blocks h, reads as y in one with blocks h', whose ids are those of h under ρ. -/
def conv0 (h h' : Nat → Option IBlk) (ρ : Nat → Nat) (x : IV) : IV → Prop
  | .junk => True
  | .sl k es =>
    match x with
    | .nils => es = []
    | .ref id off n _ => ∃ ty es0, h id = some (.arr k ty es0) ∧ off + n ≤ es0.length ∧ es = (es0.drop off).take n ∧ ∀ id', (h' id').isSome = true → ρ id' ≠ id
    | .sl k' es' => k' = k ∧ es' = es
    | _ => False
  | .ref id' off' n' f' =>
    match x with
    | .ref id off n f => (h' id').isSome = true ∧ id = ρ id' ∧ off = off' ∧ n = n' ∧ (f' = true → f = true)
    | _ => False
  | .ptr id' off' =>
    match x with
    | .ptr id off => (h' id').isSome = true ∧ id = ρ id' ∧ off = off'
    | _ => False
  | y => x = y ∧ clean y = true

mutual
def conv (h h' : Nat → Option IBlk) (ρ : Nat → Nat) (x : IV) : IV → Prop
  | .clo g l' => match x with | .clo g0 l => g0 = g ∧ convL h h' ρ l l' | _ => False
  | .agg l' => match x with | .agg l => convL h h' ρ l l' | _ => False
  | .tup l' => match x with | .tup l => convL h h' ρ l l' | _ => False
  | y => conv0 h h' ρ x y
def convL (h h' : Nat → Option IBlk) (ρ : Nat → Nat) (l : List IV) : List IV → Prop
  | [] => l = []
  | y :: l' => match l with | x :: r => conv h h' ρ x y ∧ convL h h' ρ r l' | [] => False
end

def convB (h h' : Nat → Option IBlk) (ρ : Nat → Nat) : Option IBlk → IBlk → Prop
  | some (.arr k ty es), .arr k' ty' es' => k = k' ∧ ty = ty' ∧ es' = es.take es'.length
  | some (.box ty cells), .box ty' cells' => ty = ty' ∧ convL h h' ρ cells cells'
  | _, _ => False

def convTm (h h' : Nat → Option IBlk) (ρ : Nat → Nat) (tm : List (Nat × IV)) : List (Nat × IV) → Prop
  | [] => True
  | (i, y) :: l => conv h h' ρ (lkT tm i) y ∧ convTm h h' ρ tm l
def convHp (h h' : Nat → Option IBlk) (ρ : Nat → Nat) : List (Nat × Option IBlk) → Prop
  | [] => True
  | (i, some b) :: l => convB h h' ρ (h (ρ i)) b ∧ convHp h h' ρ l
  | (_, none) :: l => convHp h h' ρ l

def SLe0 (ρ : Nat → Nat) (s s' : ISt) : Prop :=
  convTm (lkH s.hp) (lkH s'.hp) ρ s.tm s'.tm ∧ convHp (lkH s.hp) (lkH s'.hp) ρ s'.hp ∧ (s'.hp.map fun p => ρ p.1).Nodup
def SLe (ρ : Nat → Nat) (s s' : ISt) : Prop := SLe0 ρ s s' ∧ ∀ id, 1000 ≤ id → id < 2000 → ρ id = id

/-- The memory's part of what a state stands for. -/
structure RepH (F : Fr) (μ κ : Nat → Nat) (hp : List (Nat × Option IBlk)) (w : World) : Prop where
  chg : Chg F.B0 F.w0 w
  inj : ∀ i j, lkH hp i ≠ none → lkH hp j ≠ none → μ i = μ j → i = j
  own : ∀ id blk, lkH hp id = some blk → RepB (ctx F μ κ hp w) id blk ∧ ¬ F.A (μ id) ∧ (F.B0 (μ id) ∨ F.w0.heap.size ≤ μ id)
  pin : ∀ id, 1000 ≤ id → id < 2000 → μ id = F.μ0 id ∧ κ id = F.κ0 id

theorem RepS.toH {F : Fr} {μ κ : Nat → Nat} {s : ISt} {a : Act} {w : World} (R : RepS F μ κ s a w) : RepH F μ κ s.hp w := ⟨R.chg, R.inj, R.own, R.pin⟩

theorem RepH.lt {F : Fr} {μ κ : Nat → Nat} {hp : List (Nat × Option IBlk)} {w : World} (R : RepH F μ κ hp w) {id : Nat} {b : IBlk} (hb : lkH hp id = some b) : μ id < w.heap.size := by
  obtain ⟨hB, _⟩ := R.own id b hb
  cases b with
  | box ty cells => obtain ⟨cs, h1, _⟩ := hB; exact (Array.getElem?_eq_some_iff.1 h1).1
  | arr k ty es => obtain ⟨cur, h1, _⟩ := hB; exact (Array.getElem?_eq_some_iff.1 h1).1

section
variable {P : Program} {F : Fr} {μ κ : Nat → Nat} {s s' : ISt} {a : Act} {w : World} {ρ : Nat → Nat}

theorem convHp_lk {h h' : Nat → Option IBlk} : ∀ {hp : List (Nat × Option IBlk)}, convHp h h' ρ hp → ∀ i b, lkH hp i = some b → convB h h' ρ (h (ρ i)) b
  | [], _, i, b, hb => by simp [lkH] at hb
  | (j, c) :: hp, hc, i, b, hb => by
    simp only [lkH] at hb
    split at hb
    · rename_i h; subst h hb
      exact hc.1
    · refine convHp_lk (hp := hp) ?_ i b hb
      cases c with
      | none => exact hc
      | some x => exact hc.2

theorem convTm_lk {h h' : Nat → Option IBlk} {tm : List (Nat × IV)} : ∀ {tm' : List (Nat × IV)}, convTm h h' ρ tm tm' → ∀ i, conv h h' ρ (lkT tm i) (lkT tm' i)
  | [], _, i => by simp [lkT, conv, conv0]
  | (j, y) :: tm', hc, i => by
    simp only [lkT]
    split
    · rename_i h; subst h; exact hc.1
    · exact convTm_lk hc.2 i

theorem lkH_key : ∀ {hp : List (Nat × Option IBlk)} {i : Nat}, lkH hp i ≠ none → i ∈ hp.map Prod.fst
  | [], i, h => absurd rfl h
  | (j, c) :: hp, i, h => by
    simp only [lkH] at h
    by_cases hj : j = i
    · simp [hj]
    · rw [if_neg hj] at h
      have := lkH_key h
      simp only [List.map_cons, List.mem_cons]
      exact .inr this

theorem inj_of_nodup : ∀ {hp : List (Nat × Option IBlk)}, (hp.map fun p => ρ p.1).Nodup → ∀ i j, i ∈ hp.map Prod.fst → j ∈ hp.map Prod.fst → ρ i = ρ j → i = j
  | [], _, i, j, hi, _, _ => by simp at hi
  | (q, c) :: hp, hn, i, j, hi, hj, e => by
    simp only [List.map_cons, List.nodup_cons] at hn
    simp only [List.map_cons, List.mem_cons] at hi hj
    have hmem : ∀ x, x ∈ hp.map Prod.fst → ρ x ∈ hp.map fun p => ρ p.1 := fun x hx => by
      rw [List.mem_map] at hx ⊢
      obtain ⟨p, hp, rfl⟩ := hx
      exact ⟨p, hp, rfl⟩
    rcases hi with rfl | hi <;> rcases hj with rfl | hj
    · rfl
    · exact absurd (e ▸ hmem j hj) hn.1
    · exact absurd (e ▸ hmem i hi) hn.1
    · exact inj_of_nodup hn.2 i j hi hj e

theorem shape_of_convB {h h' : Nat → Option IBlk} {o : Option IBlk} {b : IBlk} (hc : convB h h' ρ o b) : o.map IBlk.shape = some b.shape := by
  cases o with
  | none => simp [convB] at hc
  | some c => cases c <;> cases b <;> simp [convB] at hc <;> simp [IBlk.shape, hc]

theorem conv0_rep (R : RepH F μ κ s.hp w) (hL : SLe0 ρ s s') : ∀ (x y : IV) (v : Value), conv0 (lkH s.hp) (lkH s'.hp) ρ x y → RepV (ctx F μ κ s.hp w) x v →
    RepV (ctx F (fun i => μ (ρ i)) (fun i => κ (ρ i)) s'.hp w) y v := by
  obtain ⟨hT, hH, hN⟩ := hL
  have hpres : ∀ i, lkH s'.hp i ≠ none → lkH s.hp (ρ i) ≠ none := by
    intro i hi
    cases hb : lkH s'.hp i with
    | none => exact absurd hb hi
    | some b =>
      have := shape_of_convB (convHp_lk hH i b hb)
      intro h0
      rw [h0] at this
      simp at this
  have hsh : ∀ i k, (lkH s'.hp i).map IBlk.shape = some k → (lkH s.hp (ρ i)).map IBlk.shape = some k := by
    intro i k hk
    cases hb : lkH s'.hp i with
    | none => rw [hb] at hk; simp at hk
    | some b =>
      rw [hb] at hk
      rw [shape_of_convB (convHp_lk hH i b hb)]
      exact hk
  have hle : (ctx F μ κ s.hp w).Le (ctx F (fun i => μ (ρ i)) (fun i => κ (ρ i)) s'.hp w) (fun _ => False) :=
    ⟨fun _ h => h.elim, fun b _ hav => by
      rcases hav with h | ⟨i, hi, h⟩
      · exact .inl h
      · exact .inr ⟨ρ i, hpres i hi, h⟩, Nat.le_refl _, fun _ _ _ _ => rfl⟩
  have hclean : ∀ (y : IV) (v : Value), clean y = true → RepV (ctx F μ κ s.hp w) y v → RepV (ctx F (fun i => μ (ρ i)) (fun i => κ (ρ i)) s'.hp w) y v :=
    fun y v hy h => RepV.mono hle y v (fun id hm => by rw [clean_ment y hy] at hm; cases hm) h
  intro x y v hc hx
  cases y with
  | junk => simp [RepV]
  | sl k es =>
    simp only [conv0] at hc
    cases x with
    | nils =>
      simp only at hc
      subst hc
      simp only [RepV] at hx ⊢
      exact ⟨none, 0, 0, hx, rfl, Nat.le_refl _, Nat.zero_le _, fun _ => rfl, fun _ => rfl, fun h => absurd h (Nat.lt_irrefl _)⟩
    | sl k' es' =>
      obtain ⟨rfl, rfl⟩ := hc
      exact hclean _ v rfl hx
    | ref id off n f =>
      obtain ⟨ty, es0, hb, hfit, rfl, hnot⟩ := hc
      obtain ⟨⟨cur, hheap, h2, h3, h4, h5, h6, h7⟩, hA, _⟩ := R.own id _ hb
      simp only [RepV] at hx ⊢
      obtain ⟨ao, cp, rfl, han, hx⟩ := hx
      obtain ⟨hn, hcap, _, ha⟩ := hx k h4 (by show (lkH s.hp id).map _ = _; rw [hb]; rfl)
      have h3' : κ id ≤ maxLen := h3
      have hcap' : off + cp ≤ κ id := hcap
      refine ⟨ao, n, cp, rfl, by simp; omega, hn, by omega, han, (h6.drop off).take n, fun h0 => ?_⟩
      refine ⟨μ id, off * k, ha (.inl h0), ?_, R.lt hb, ?_⟩
      · rintro (h | ⟨i, hi, h⟩)
        · exact hA h
        · have hi' : (lkH s'.hp i).isSome = true := by
            cases hb' : lkH s'.hp i with
            | none => exact absurd hb' hi
            | some b => rfl
          exact hnot i hi' (R.inj (ρ i) id (hpres i hi) (by rw [hb]; simp) h)
      · have hR := (h7.drop off (by omega)).take n
        obtain ⟨xs, hX, hcl⟩ := hR.toX
        exact (hX.mono hle (fun j hj => by rw [(h6.drop off).take n j] at hj; cases hj)).toR (fun j u hu => by have := hcl j u hu; rwa [Nat.zero_add] at this)
    | _ => exact hc.elim
  | ref id' off' n' f' =>
    simp only [conv0] at hc
    cases x with
    | ref id off n f =>
      obtain ⟨hs, rfl, rfl, rfl, hf⟩ := hc
      simp only [RepV] at hx ⊢
      obtain ⟨ao, cp, rfl, han, hx⟩ := hx
      refine ⟨ao, cp, rfl, han, fun k hk hsk => ?_⟩
      obtain ⟨h1, h2, h3, h4⟩ := hx k hk (hsh id' k hsk)
      exact ⟨h1, h2, fun h => h3 (hf h), h4⟩
    | _ => exact hc.elim
  | ptr id' off' =>
    simp only [conv0] at hc
    cases x with
    | ptr id off =>
      obtain ⟨hs, rfl, rfl⟩ := hc
      simp only [RepV] at hx ⊢
      obtain ⟨ao, rfl, hx⟩ := hx
      exact ⟨ao, rfl, fun hsk => hx (hsh id' 0 hsk)⟩
    | _ => exact hc.elim
  | _ => obtain ⟨rfl, hcl⟩ := hc; exact hclean _ v hcl hx

mutual
theorem conv_rep (R : RepH F μ κ s.hp w) (hL : SLe0 ρ s s') (x : IV) : ∀ (y : IV) (v : Value), conv (lkH s.hp) (lkH s'.hp) ρ x y → RepV (ctx F μ κ s.hp w) x v →
    RepV (ctx F (fun i => μ (ρ i)) (fun i => κ (ρ i)) s'.hp w) y v
  | .clo g l', v, hc, hx => by
    cases x with
    | clo g0 l =>
      simp only [conv] at hc
      obtain ⟨rfl, hc⟩ := hc
      simp only [RepV] at hx ⊢
      obtain ⟨cs, rfl, hl⟩ := hx
      exact ⟨cs, rfl, convL_rep R hL l l' cs hc hl⟩
    | _ => simp [conv] at hc
  | .agg l', v, hc, hx => by
    cases x with
    | agg l =>
      simp only [conv] at hc
      simp only [RepV] at hx ⊢
      obtain ⟨cs, rfl, hl⟩ := hx
      exact ⟨cs, rfl, convL_rep R hL l l' cs hc hl⟩
    | _ => simp [conv] at hc
  | .tup l', v, hc, hx => by
    cases x with
    | tup l =>
      simp only [conv] at hc
      simp only [RepV] at hx ⊢
      obtain ⟨cs, rfl, hl⟩ := hx
      exact ⟨cs, rfl, convL_rep R hL l l' cs hc hl⟩
    | _ => simp [conv] at hc
  | .junk, v, hc, hx => conv0_rep R hL x _ v (by simpa only [conv] using hc) hx
  | .num _ _, v, hc, hx => conv0_rep R hL x _ v (by simpa only [conv] using hc) hx
  | .bool _, v, hc, hx => conv0_rep R hL x _ v (by simpa only [conv] using hc) hx
  | .str _, v, hc, hx => conv0_rep R hL x _ v (by simpa only [conv] using hc) hx
  | .sl _ _, v, hc, hx => conv0_rep R hL x _ v (by simpa only [conv] using hc) hx
  | .nils, v, hc, hx => conv0_rep R hL x _ v (by simpa only [conv] using hc) hx
  | .nilp, v, hc, hx => conv0_rep R hL x _ v (by simpa only [conv] using hc) hx
  | .nilI, v, hc, hx => conv0_rep R hL x _ v (by simpa only [conv] using hc) hx
  | .ptr _ _, v, hc, hx => conv0_rep R hL x _ v (by simpa only [conv] using hc) hx
  | .aptr _ _ _, v, hc, hx => conv0_rep R hL x _ v (by simpa only [conv] using hc) hx
  | .eptr _ _ _, v, hc, hx => conv0_rep R hL x _ v (by simpa only [conv] using hc) hx
  | .ref _ _ _ _, v, hc, hx => conv0_rep R hL x _ v (by simpa only [conv] using hc) hx
  | .opt _ _, v, hc, hx => conv0_rep R hL x _ v (by simpa only [conv] using hc) hx
  | .ifc, v, hc, hx => conv0_rep R hL x _ v (by simpa only [conv] using hc) hx
  | .anyB, v, hc, hx => conv0_rep R hL x _ v (by simpa only [conv] using hc) hx
theorem convL_rep (R : RepH F μ κ s.hp w) (hL : SLe0 ρ s s') (l : List IV) : ∀ (l' : List IV) (vs : List Value), convL (lkH s.hp) (lkH s'.hp) ρ l l' → RepL (ctx F μ κ s.hp w) l vs →
    RepL (ctx F (fun i => μ (ρ i)) (fun i => κ (ρ i)) s'.hp w) l' vs
  | [], vs, hc, h => by
    simp only [convL] at hc
    subst hc
    simpa [RepL] using h
  | y :: l', vs, hc, h => by
    cases l with
    | nil => simp [convL] at hc
    | cons x l =>
      simp only [convL] at hc
      simp only [RepL] at h ⊢
      obtain ⟨v, r, hv, hx, hl⟩ := h
      exact ⟨v, r, hv, conv_rep R hL x y v hc.1 hx, convL_rep R hL l l' r hc.2 hl⟩
end

theorem sle_own (R : RepH F μ κ s.hp w) (hL : SLe0 ρ s s') : (∀ i j, lkH s'.hp i ≠ none → lkH s'.hp j ≠ none → μ (ρ i) = μ (ρ j) → i = j) ∧
    (∀ i, lkH s'.hp i ≠ none → lkH s.hp (ρ i) ≠ none) ∧
    ∀ id blk, lkH s'.hp id = some blk → RepB (ctx F (fun i => μ (ρ i)) (fun i => κ (ρ i)) s'.hp w) id blk ∧ ¬ F.A (μ (ρ id)) ∧ (F.B0 (μ (ρ id)) ∨ F.w0.heap.size ≤ μ (ρ id)) := by
  have hL' := hL
  obtain ⟨hT, hH, hN⟩ := hL
  have hpres : ∀ i, lkH s'.hp i ≠ none → lkH s.hp (ρ i) ≠ none := by
    intro i hi
    cases hb : lkH s'.hp i with
    | none => exact absurd hb hi
    | some b =>
      have := shape_of_convB (convHp_lk hH i b hb)
      intro h0
      rw [h0] at this
      simp at this
  refine ⟨fun i j hi hj e => ?_, hpres, fun id blk hb => ?_⟩
  · exact inj_of_nodup hN i j (lkH_key hi) (lkH_key hj) (R.inj _ _ (hpres i hi) (hpres j hj) e)
  · have hc := convHp_lk hH id blk hb
    cases hb0 : lkH s.hp (ρ id) with
    | none => rw [hb0] at hc; cases blk <;> exact hc.elim
    | some b0 =>
      rw [hb0] at hc
      obtain ⟨hB, hr⟩ := R.own _ _ hb0
      refine ⟨?_, hr⟩
      cases b0 with
      | box ty cells =>
        cases blk with
        | arr k ty es => exact hc.elim
        | box ty' cells' =>
          obtain ⟨rfl, hcl⟩ := hc
          obtain ⟨cs, h1, h2, h3⟩ := hB
          exact ⟨cs, h1, convL_rep R hL' _ _ _ hcl h2, h3⟩
      | arr k ty es =>
        cases blk with
        | box ty' cells' => exact hc.elim
        | arr k' ty' es' =>
          obtain ⟨rfl, rfl, hes⟩ := hc
          obtain ⟨cur, h1, h2, h3, h4, h5, h6, h7⟩ := hB
          have hlen : es'.length ≤ es.length := by rw [hes]; simp; omega
          refine ⟨cur, h1, h2, h3, h4, Nat.le_trans hlen h5, by rw [hes]; exact h6.take _, ?_⟩
          have hR := h7.take es'.length
          rw [← hes] at hR
          obtain ⟨xs, hX, hcl⟩ := hR.toX
          have hno : noIdL es' := by rw [hes]; exact h6.take _
          refine (hX.mono (c := ctx F μ κ s.hp w) (c' := ctx F (fun i => μ (ρ i)) (fun i => κ (ρ i)) s'.hp w) (ok := fun _ => False) ⟨fun _ h => h.elim, fun b _ hav => ?_, Nat.le_refl _, fun _ _ _ _ => rfl⟩ (fun j hj => by rw [hno j] at hj; cases hj)).toR hcl
          rcases hav with h | ⟨i, hi, h⟩
          · exact .inl h
          · exact .inr ⟨ρ i, hpres i hi, h⟩

theorem SLe.rep (R : RepS F μ κ s a w) (hL : SLe ρ s s') : RepS F (fun i => μ (ρ i)) (fun i => κ (ρ i)) s' a w := by
  obtain ⟨hL, hP⟩ := hL
  obtain ⟨h1, h2, h3⟩ := sle_own R.toH hL
  exact ⟨R.defers, R.size, R.chg, h1, h3, fun i => conv_rep R.toH hL _ _ _ (convTm_lk hL.1 i) (R.tmps i), fun id q1 q2 => by rw [hP id q1 q2]; exact R.pin id q1 q2⟩

theorem iwp_sle {c : Code} {Q : Exit → ISt → Prop} (ρ : Nat → Nat) (hL : SLe ρ s s') (h : IWp P F c s' Q) : IWp P F c s Q :=
  fun μ κ a w R => h _ _ a w (hL.rep R)

end

/-! ### a function's contract -/

def enumT : Nat → List IV → List (Nat × IV)
  | _, [] => []
  | i, x :: l => (i, x) :: enumT (i + 1) l

/-- What the slots of the results come to. -/
def Gives (res : Array ResultVar) (s : ISt) (v : IV) : Prop :=
  match res.toList with
  | [.tmp t] => conv (lkH s.hp) (fun _ => none) (fun i => i) (lkT s.tm t) v
  | [.tmp t, .tmp u] =>
    match v with
    | .tup [x, y] => conv (lkH s.hp) (fun _ => none) (fun i => i) (lkT s.tm t) x ∧ conv (lkH s.hp) (fun _ => none) (fun i => i) (lkT s.tm u) y
    | _ => False
  | [.tmp t, .tmp u, .tmp r] =>
    match v with
    | .tup [x, y, z] => conv (lkH s.hp) (fun _ => none) (fun i => i) (lkT s.tm t) x ∧ conv (lkH s.hp) (fun _ => none) (fun i => i) (lkT s.tm u) y ∧ conv (lkH s.hp) (fun _ => none) (fun i => i) (lkT s.tm r) z
    | _ => False
  | [] => v = .tup []
  | _ => False

/-- The end of a function's body. -/
def Fin (res : Array ResultVar) (v : IV) : Exit → ISt → Prop
  | .normal, s => Gives res s v
  | .ret, s => Gives res s v
  | _, _ => False

theorem lkT_enum : ∀ (l : List IV) (n i : Nat), n ≤ i → lkT (enumT n l) i = l.getD (i - n) .junk
  | [], n, i, h => by simp [enumT, lkT]
  | x :: l, n, i, h => by
    simp only [enumT, lkT]
    by_cases hn : n = i
    · subst hn; simp
    · rw [if_neg hn, lkT_enum l (n + 1) i (by omega)]
      have : i - n = (i - (n + 1)) + 1 := by omega
      rw [this]
      simp

theorem bare_ctx (A : Nat → Prop) (w : World) (F : Fr) (hA : F.A = A) (μ κ : Nat → Nat) (x : IV) (v : Value) : RepV (ctx F μ κ [] w) x v ↔ RepV (bare A w) x v := by
  have e1 : (ctx F μ κ [] w).Le (bare A w) (fun _ => True) := ⟨fun _ _ => .inl rfl, fun b _ h => .inl (by rw [hA]; exact h), Nat.le_refl _, fun _ _ _ _ => rfl⟩
  have e2 : (bare A w).Le (ctx F μ κ [] w) (fun _ => True) := ⟨fun _ _ => .inl rfl, fun b _ h => by
    rcases h with h | ⟨i, hi, _⟩
    · rw [hA] at h; exact h
    · exact absurd rfl hi, Nat.le_refl _, fun _ _ _ _ => rfl⟩
  exact ⟨RepV.mono e1 x v (fun _ _ => trivial), RepV.mono e2 x v (fun _ _ => trivial)⟩

theorem icall_of {P : Program} {f : FuncId} {fn : Func} {c : Code} {args : List IV} {v : IV} (hf : P.funcs[f]? = some fn) (hb : fn.body = some c) (hn : args.length ≤ fn.ntmps) (hn2 : fn.ntmps ≤ 1000)
    (h : ∀ F : Fr, F.N = fn.ntmps → IWp P F c ⟨enumT 0 args, []⟩ (Fin fn.results v)) : ICall P f args v := by
  intro A w as hA hL
  have hlen := hL.length
  let F : Fr := { A := A, B0 := fun _ => False, w0 := w, N := fn.ntmps, hAB := fun _ _ h => h, hA := hA, hB := fun _ h => h.elim, μ0 := fun i => i, κ0 := fun i => i, hN := hn2 }
  refine calls_of_wp hf hb (Go.wp_mono (h F rfl (fun i => i) (fun i => i) _ w ?_) ?_)
  · refine ⟨rfl, ?_, Chg.refl _ _, fun i j hi => absurd rfl hi, fun id blk hb => (by simp [lkH] at hb), fun i => ?_, fun _ _ _ => ⟨rfl, rfl⟩⟩
    · show (((⟨as⟩ : Array Value) ++ Array.replicate (fn.ntmps - (⟨as⟩ : Array Value).size) undef)).size = fn.ntmps
      simp; omega
    · rw [lkT_enum args 0 i (Nat.zero_le _), Nat.sub_zero]
      rw [bare_ctx A w F rfl]
      by_cases hi : i < args.length
      · obtain ⟨u, hu, hr⟩ := hL.get i hi
        have : ((⟨as⟩ : Array Value) ++ Array.replicate (fn.ntmps - (⟨as⟩ : Array Value).size) undef).getD i undef = u := by
          rw [Array.getD_eq_getD_getElem?, Array.getElem?_append_left (by simp; omega)]
          simp [hu]
        rw [this]
        exact hr
      · have : args.getD i .junk = .junk := by simp [List.getD, List.getElem?_eq_none (Nat.le_of_not_lt hi)]
        rw [this]
        simp [RepV]
  · intro e a w' ⟨μ, κ, s, R, hq⟩
    have fin : Gives fn.results s v → a.defers = [] ∧ ∃ x, (results fn a.tmps).run P w' = .ok x w' ∧ (∃ y, Ending.returned x = .returned y ∧ Chg (fun _ => False) w w' ∧ RepV (bare A w') v y) := by
      intro hg
      refine ⟨R.defers, ?_⟩
      have hchg : Chg (fun _ => False) w w' := R.chg
      have key : ∀ (t : Nat) (y : IV), conv (lkH s.hp) (fun _ => none) (fun i => i) (lkT s.tm t) y → RepV (bare A w') y (a.tmps.getD t undef) := by
        intro t y hc
        have hs : SLe0 (fun i => i) s ⟨[(t, y)], []⟩ := ⟨⟨hc, trivial⟩, trivial, by simp⟩
        have := conv_rep R.toH hs _ _ _ hc (R.tmps t)
        exact (bare_ctx A w' F rfl _ _ y _).1 this
      unfold Gives at hg
      split at hg
      · rename_i t hres
        have hr : fn.results = #[.tmp t] := by apply Array.ext'; simpa using hres
        exact ⟨_, results_tmp hr _ _ _, _, rfl, hchg, key t v hg⟩
      · rename_i t u hres
        split at hg
        · rename_i x y
          have hr : fn.results = #[.tmp t, .tmp u] := by apply Array.ext'; simpa using hres
          refine ⟨_, results_tmp2 hr _ _ _, _, rfl, hchg, ?_⟩
          simp only [RepV, RepL]
          exact ⟨_, rfl, _, _, rfl, key t x hg.1, _, _, rfl, key u y hg.2, rfl⟩
        · exact hg.elim
      · rename_i t u r hres
        split at hg
        · rename_i x y z
          have hr : fn.results = #[.tmp t, .tmp u, .tmp r] := by apply Array.ext'; simpa using hres
          refine ⟨.tuple #[a.tmps.getD t undef, a.tmps.getD u undef, a.tmps.getD r undef], by simp [results, hr], _, rfl, hchg, ?_⟩
          simp only [RepV, RepL]
          exact ⟨_, rfl, _, _, rfl, key t x hg.1, _, _, rfl, key u y hg.2.1, _, _, rfl, key r z hg.2.2, rfl⟩
        · exact hg.elim
      · rename_i hres
        have hr : fn.results = #[] := by apply Array.ext'; simpa using hres
        subst hg
        refine ⟨_, results_none hr _ _ _, _, rfl, hchg, ?_⟩
        simp only [RepV, RepL]
        exact ⟨_, rfl, rfl⟩
      · exact hg.elim
    cases e with
    | normal => exact fin hq
    | ret => exact fin hq
    | _ => exact hq.elim

end Go.Ideal
