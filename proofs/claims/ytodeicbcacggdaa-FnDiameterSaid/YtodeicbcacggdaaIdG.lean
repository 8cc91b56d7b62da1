/- What each operation does to the ideal state, and that the machine does the like. -/
import Derived.Test.YtodeicbcacggdaaIdF
set_option linter.unusedVariables false
set_option linter.unusedSimpArgs false
namespace Go.Ideal
open Go

def mentTm (d : Nat) : List (Nat × IV) → Bool
  | [] => false
  | (_, v) :: l => v.ment d || mentTm d l
def mentHp (d : Nat) : List (Nat × Option IBlk) → Bool
  | [] => false
  | (_, some (.box _ cells)) :: l => IV.mentL d cells || mentHp d l
  | _ :: l => mentHp d l

structure Eff where
  ob : Prop
  tv : List (Nat × IV)
  hv : List (Nat × Option IBlk)

def ISt.app (s : ISt) (e : Eff) : ISt := ⟨e.tv ++ s.tm, e.hv ++ s.hp⟩

def opI (tm : List (Nat × IV)) : Operand → IV
  | .tmp t => lkT tm t
  | .const v => ofC v
  | .func f => .clo f []
  | .global _ => .junk
def gO (tm : List (Nat × IV)) (x : Operand) : IV := (strip (opI tm x)).1
def gB (tm : List (Nat × IV)) (x : Operand) : Bool := (strip (opI tm x)).2
def allB (tm : List (Nat × IV)) : List Operand → Prop
  | [] => True
  | x :: l => gB tm x = true ∧ allB tm l

def gval (tm : List (Nat × IV)) (ops : List Oper) (o : Oper) : Bool × Prop :=
  match o.guard with
  | none => (true, True)
  | some (j, want) =>
    match (ops[j]?).bind (·.dst) with
    | some d =>
      match lkT tm d with
      | .bool b => (b == want, True)
      | .opt p (.bool b) => (p && (b == want), True)
      | .opt p _ => (false, p = false)
      | _ => (true, False)
    | none => (true, False)

def wrapG (o : Oper) (G : Bool) (v : IV) : IV :=
  match o.guard with
  | none => v
  | some _ => .opt G v

def dstOK (N : Nat) (o : Oper) : Prop :=
  match o.dst with
  | some d => d < N
  | none => True

def setD (o : Oper) (v : IV) : List (Nat × IV) :=
  match o.dst with
  | some d => [(d, v)]
  | none => []

def effPure (T : Nat → TD) (N : Nat) (ops : List Oper) (o : Oper) (s : ISt) : Eff :=
  { ob := (gval s.tm ops o).2 ∧ dstOK N o ∧ ((gval s.tm ops o).1 = true → allB s.tm o.op.operands.toList ∧ (pureV T (gO s.tm) (lkH s.hp) o.op).2),
    tv := setD o (wrapG o (gval s.tm ops o).1 (pureV T (gO s.tm) (lkH s.hp) o.op).1), hv := [] }

/-- One operation, at a state that it fits: whatever the machine's state, it goes on to one that fits the new state. -/
def StepOK (P : Program) (F : Fr) (ops : List Oper) (o : Oper) (s : ISt) (e : Eff) : Prop :=
  ∀ μ κ a w, RepS F μ κ s a w → ∀ (Q : Exit → Act → World → Prop) (next : Act → World → Prop),
    (∀ μ' κ' a' w', RepS F μ' κ' (s.app e) a' w' → next a' w') →
    if Region.wanted o (yielded ⟨ops⟩ a.tmps) then o.wp P a w next Q ∨ (o.asks P a w ∧ LetsOut Q) else next (a.put o.dst undef) w

section
variable {P : Program} {T : Nat → TD} {F : Fr} {μ κ : Nat → Nat} {s : ISt} {a : Act} {w : World} {ops : List Oper} {o : Oper}

theorem getD_of_tmps {a : Act} {d : Nat} {v : Value} (h : a.tmps.getD d undef = v) (hv : v ≠ undef) : a.tmps[d]? = some v := by
  rw [Array.getD_eq_getD_getElem?] at h
  cases hd : a.tmps[d]? with
  | none => rw [hd] at h; exact absurd h.symm hv
  | some u => rw [hd] at h; simpa using h

theorem gval_wanted (R : RepS F μ κ s a w) (hg : (gval s.tm ops o).2) : Region.wanted o (yielded ⟨ops⟩ a.tmps) = (gval s.tm ops o).1 := by
  unfold gval at *
  unfold Region.wanted
  cases hgd : o.guard with
  | none => simp [hgd]
  | some p =>
    obtain ⟨j, want⟩ := p
    simp only [hgd] at hg ⊢
    cases hd : (ops[j]?).bind (·.dst) with
    | none => simp [hd] at hg
    | some d =>
      simp only [hd] at hg ⊢
      have hr := R.tmps d
      have hy : yielded ⟨ops⟩ a.tmps j = (match a.tmps[d]? with | some (.bool b) => some b | _ => none) := by
        unfold yielded
        have : ((⟨ops⟩ : Array Oper)[j]?).bind (·.dst) = some d := by simpa using hd
        rw [this]; rfl
      rw [hy]
      cases hl : lkT s.tm d with
      | bool b =>
        rw [hl] at hr
        simp only [RepV] at hr
        rw [getD_of_tmps hr (by simp [undef])]
        simp
      | opt p x =>
        rw [hl] at hr hg
        cases x with
        | bool b =>
          simp only [RepV] at hr
          cases p with
          | true =>
            have := hr.1 rfl
            rw [getD_of_tmps this (by simp [undef])]
            simp
          | false =>
            have := hr.2 rfl
            rw [Array.getD_eq_getD_getElem?] at this
            cases hd2 : a.tmps[d]? with
            | none => simp
            | some u => rw [hd2] at this; simp at this; subst this; simp [undef]
        | _ =>
          simp only at hg
          subst hg
          simp only [RepV] at hr
          have : a.tmps.getD d undef = undef := by first | exact hr.2 rfl | exact hr.2 trivial
          rw [Array.getD_eq_getD_getElem?] at this
          cases hd2 : a.tmps[d]? with
          | none => simp
          | some u => rw [hd2] at this; simp at this; subst this; simp [undef]
      | _ => rw [hl] at hg; simp at hg

theorem opI_rep (R : RepS F μ κ s a w) (x : Operand) : RepV (ctx F μ κ s.hp w) (opI s.tm x) (a.eval x) := by
  cases x with
  | tmp t => exact R.tmps t
  | const v =>
    simp only [opI, Act.eval]
    unfold ofC
    split <;> simp [RepV]
  | func f => simp [opI, Act.eval, RepV, RepL]
  | global g => simp [opI, RepV]

theorem gO_rep (R : RepS F μ κ s a w) {x : Operand} (h : gB s.tm x = true) : RepV (ctx F μ κ s.hp w) (gO s.tm x) (a.eval x) := by
  have := opI_rep R x
  unfold gO gB at *
  cases hx : opI s.tm x with
  | opt b v =>
    rw [hx] at this h
    simp only [strip] at h ⊢
    simp only [RepV] at this
    exact this.1 h
  | _ => rw [hx] at this; exact this

theorem allB_mem : ∀ {l : List Operand}, allB s.tm l → ∀ x ∈ l, gB s.tm x = true
  | [], _, x, hx => by simp at hx
  | y :: l, h, x, hx => by
    simp only [allB] at h
    rcases List.mem_cons.1 hx with rfl | hx
    · exact h.1
    · exact allB_mem h.2 x hx

theorem app_set (R : RepS F μ κ s a w) {x : IV} {v : Value} (hv : RepV (ctx F μ κ s.hp w) x v) (hd : dstOK F.N o) (ob : Prop) :
    RepS F μ κ (s.app ⟨ob, setD o x, []⟩) (a.put o.dst v) w := by
  unfold ISt.app setD dstOK at *
  cases h : o.dst with
  | none => simpa [h] using R.putNone v
  | some d => rw [h] at hd; simpa [h] using R.put hv hd

theorem effPure_sound (hT : TOK P T) (ops : List Oper) (o : Oper) (s : ISt) (hob : (effPure T F.N ops o s).ob) : StepOK P F ops o s (effPure T F.N ops o s) := by
  intro μ κ a w R Q next hn
  obtain ⟨hg, hd, hp⟩ := hob
  rw [gval_wanted R hg]
  cases hG : (gval s.tm ops o).1 with
  | true =>
    obtain ⟨hb, hpv⟩ := hp hG
    obtain ⟨y, hy, hr⟩ := pureV_sound hT R.hpOK (ρ := a.eval) o (fun x hx => gO_rep R (allB_mem hb x hx)) hpv
    simp only [if_true]
    refine .inl ?_
    unfold Oper.wp
    rw [show (ctx F μ κ s.hp w).w = w from rfl] at hy
    rw [hy, Oper.upon_value]
    refine hn μ κ _ _ (app_set R ?_ hd _)
    rw [hG]
    unfold wrapG
    cases o.guard with
    | none => exact hr
    | some p => simp only [RepV]; exact ⟨fun _ => hr, fun h => (by cases h)⟩
  | false =>
    simp only [Bool.false_eq_true, if_false]
    refine hn μ κ _ _ (app_set R ?_ hd _)
    rw [hG]
    unfold wrapG
    cases hgd : o.guard with
    | none => simp [gval, hgd] at hG
    | some p => simp [RepV]

/-! ### pick -/

def pickV (c a b : IV) : IV × Prop :=
  match c, strip a, strip b with
  | .bool cb, (.bool x, p), (.bool y, q) => (.bool (bif cb then x else y), (cb = true → p = true) ∧ (cb = false → q = true))
  | .bool cb, (.bool x, p), _ => (.bool x, cb = true ∧ p = true)
  | .bool cb, _, (.bool y, q) => (.bool y, cb = false ∧ q = true)
  | _, _, _ => (.junk, False)

def effPick (N : Nat) (ops : List Oper) (o : Oper) (c x y : Operand) (s : ISt) : Eff :=
  { ob := (gval s.tm ops o).2 ∧ dstOK N o ∧ ((gval s.tm ops o).1 = true → gB s.tm c = true ∧ (pickV (gO s.tm c) (opI s.tm x) (opI s.tm y)).2),
    tv := setD o (wrapG o (gval s.tm ops o).1 (pickV (gO s.tm c) (opI s.tm x) (opI s.tm y)).1), hv := [] }

theorem strip_bool {c : Ctx} {x : IV} {v : Value} {b p : Bool} (hx : RepV c x v) (h : strip x = (.bool b, p)) (hp : p = true) : v = .bool b := by
  cases x with
  | opt q y =>
    simp only [strip, Prod.mk.injEq] at h
    obtain ⟨rfl, rfl⟩ := h
    simp only [RepV] at hx
    exact hx.1 hp
  | bool q =>
    simp only [strip, Prod.mk.injEq, IV.bool.injEq] at h
    obtain ⟨rfl, _⟩ := h
    simpa [RepV] using hx
  | _ => simp [strip] at h

theorem effPick_sound {c x y : Operand} (ops : List Oper) (o : Oper) (ho : o.op = .pick c x y) (s : ISt) (hob : (effPick F.N ops o c x y s).ob) : StepOK P F ops o s (effPick F.N ops o c x y s) := by
  intro μ κ a w R Q next hn
  obtain ⟨hg, hd, hp⟩ := hob
  rw [gval_wanted R hg]
  cases hG : (gval s.tm ops o).1 with
  | true =>
    obtain ⟨hb, hpv⟩ := hp hG
    simp only [if_true]
    refine .inl ?_
    have hc := gO_rep R hb
    have hx := opI_rep R x
    have hy := opI_rep R y
    have key : ∃ v, (execOp a.eval o).run P w = .ok (.value v) w ∧ RepV (ctx F μ κ s.hp w) (pickV (gO s.tm c) (opI s.tm x) (opI s.tm y)).1 v := by
      unfold pickV at hpv ⊢
      split at hpv
      · rename_i cb b1 p b2 q e1 e2 e3
        rw [e1] at hc
        simp only [RepV] at hc
        refine ⟨if cb then a.eval x else a.eval y, by simp [execOp, ho, hc, asBool], ?_⟩
        cases cb with
        | true => have := strip_bool hx e2 (hpv.1 rfl); simp [this, RepV]
        | false => have := strip_bool hy e3 (hpv.2 rfl); simp [this, RepV]
      · rename_i e1 e2 _
        rw [e1] at hc
        simp only [RepV] at hc
        obtain ⟨rfl, hpp⟩ := hpv
        have := strip_bool hx e2 hpp
        exact ⟨a.eval x, by simp [execOp, ho, hc, asBool], by simp [this, RepV]⟩
      · rename_i e1 e3 _
        rw [e1] at hc
        simp only [RepV] at hc
        obtain ⟨rfl, hpp⟩ := hpv
        have := strip_bool hy e3 hpp
        exact ⟨a.eval y, by simp [execOp, ho, hc, asBool], by simp [this, RepV]⟩
      · exact hpv.elim
    obtain ⟨v, hv, hr⟩ := key
    unfold Oper.wp
    rw [hv, Oper.upon_value]
    refine hn μ κ _ _ (app_set R ?_ hd _)
    rw [hG]
    unfold wrapG
    cases o.guard with
    | none => exact hr
    | some p => simp only [RepV]; exact ⟨fun _ => hr, fun h => (by cases h)⟩
  | false =>
    simp only [Bool.false_eq_true, if_false]
    refine hn μ κ _ _ (app_set R ?_ hd _)
    rw [hG]
    unfold wrapG
    cases hgd : o.guard with
    | none => simp [gval, hgd] at hG
    | some p => simp [RepV]

end
end Go.Ideal
