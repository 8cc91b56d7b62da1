/- Code with what comes after it as a stack: rules that a rewriting can run. -/
import Derived.Test.YtodeicbcacggdaaIdT
set_option linter.unusedVariables false
set_option linter.unusedSimpArgs false
namespace Go.Ideal
open Go

inductive KF where
  | seq (c : Code)
  | block (i : Nat)
  | back (R : ISt → Prop)

/-- What is known of a program, and the frame. -/
structure Env where
  P : Program
  T : Nat → TD
  G : List (Nat × PSpec)
  H : List (Nat × HSpec)
  D : List (Nat × List (Nat × Nat))
  F : Fr

structure Env.OK (E : Env) : Prop where
  t : TOK E.P E.T
  m : E.P.follows .mixedOrders = true
  g : GOK E.P E.G
  h : HOK E.P E.H

def kr (E : Env) : List KF → (Exit → ISt → Prop) → Exit → ISt → Prop
  | [], Q => Q
  | .seq y :: K, Q => seqK (fun s => vc E.P E.F E.T E.G E.H E.D y s (kr E K Q)) (kr E K Q)
  | .block i :: K, Q => blockQ i (kr E K Q)
  | .back R :: K, Q => seqK R (kr E K Q)

def V (E : Env) (c : Code) (s : ISt) (K : List KF) (Q : Exit → ISt → Prop) : Prop := vc E.P E.F E.T E.G E.H E.D c s (kr E K Q)
def W (E : Env) (ops l : List Oper) (s : ISt) (K : List KF) (Q : Exit → ISt → Prop) : Prop := vcOps2 E.T E.G E.H E.F.N ops l s (kr E K Q .normal)
def WI (E : Env) (ps : List (Nat × Nat)) (ops l : List Oper) (acc : List It) (s : ISt) (K : List KF) (Q : Exit → ISt → Prop) : Prop := vcIts E.T E.G E.F.N ops l acc s (fun its s' => dynOK its ps ∧ kr E K Q .normal s')
/-- The same without calls that hand blocks over: for regions that draw an order. -/
def WD (E : Env) (ops l : List Oper) (s : ISt) (K : List KF) (Q : Exit → ISt → Prop) : Prop := vcOps E.T E.G E.F.N ops l s (kr E K Q .normal)
def KN (E : Env) (K : List KF) (Q : Exit → ISt → Prop) (s : ISt) : Prop := kr E K Q .normal s
def KX (E : Env) (e : Exit) (K : List KF) (Q : Exit → ISt → Prop) (s : ISt) : Prop := kr E K Q e s
/-- The end of all. -/
def QE (Q : Exit → ISt → Prop) (e : Exit) (s : ISt) : Prop := Q e s

section
variable {E : Env} {c x y : Code} {s : ISt} {K : List KF} {Q : Exit → ISt → Prop} {ops l : List Oper} {o : Oper}

theorem W_nil : W E ops [] s K Q = KN E K Q s := rfl
theorem W_cons : W E ops (o :: l) s K Q = ((effOp2 E.T E.G E.H E.F.N ops o s).ob ∧ W E ops l (s.app (effOp2 E.T E.G E.H E.F.N ops o s)) K Q) := rfl
theorem WD_nil : WD E ops [] s K Q = KN E K Q s := rfl
theorem WD_cons : WD E ops (o :: l) s K Q = ((effOp E.T E.G E.F.N ops o s).ob ∧ WD E ops l (s.app (effOp E.T E.G E.F.N ops o s)) K Q) := rfl
theorem WI_nil {ps : List (Nat × Nat)} {acc : List It} : WI E ps ops [] acc s K Q = (dynOK acc ps ∧ KN E K Q s) := rfl
theorem WI_cons {ps : List (Nat × Nat)} {acc : List It} : WI E ps ops (o :: l) acc s K Q = ((effOp E.T E.G E.F.N ops o s).ob ∧
    WI E ps ops l (acc ++ [⟨o, (effOp E.T E.G E.F.N ops o s).tv, (effOp E.T E.G E.F.N ops o s).hv, o.op.operands.toList.map (opI s.tm)⟩]) (s.app (effOp E.T E.G E.F.N ops o s)) K Q) := rfl
theorem KN_nil : KN E [] Q s = QE Q .normal s := rfl
theorem KN_seq : KN E (.seq y :: K) Q s = V E y s K Q := rfl
theorem KN_block {i : Nat} : KN E (.block i :: K) Q s = KN E K Q s := rfl
theorem KN_back {R : ISt → Prop} : KN E (.back R :: K) Q s = R s := rfl
theorem KXr_nil : KX E .ret [] Q s = QE Q .ret s := rfl
theorem KXr_seq : KX E .ret (.seq y :: K) Q s = KX E .ret K Q s := rfl
theorem KXr_block {i : Nat} : KX E .ret (.block i :: K) Q s = KX E .ret K Q s := rfl
theorem KXr_back {R : ISt → Prop} : KX E .ret (.back R :: K) Q s = KX E .ret K Q s := rfl
theorem KXe_nil {j : Nat} : KX E (.exit j) [] Q s = QE Q (.exit j) s := rfl
theorem KXe_seq {j : Nat} : KX E (.exit j) (.seq y :: K) Q s = KX E (.exit j) K Q s := rfl
theorem KXe_block {i j : Nat} : KX E (.exit j) (.block i :: K) Q s = if j = i then KN E K Q s else KX E (.exit j) K Q s := rfl
theorem KXe_back {j : Nat} {R : ISt → Prop} : KX E (.exit j) (.back R :: K) Q s = KX E (.exit j) K Q s := rfl

theorem V_seq : V E (.seq x y) s K Q = V E x s (.seq y :: K) Q := rfl
theorem V_skip : V E .skip s K Q = KN E K Q s := rfl
theorem V_ret : V E .ret s K Q = KX E .ret K Q s := rfl
theorem V_exit {i : Nat} : V E (.exit i) s K Q = KX E (.exit i) K Q s := rfl
theorem V_block {i : Nat} : V E (.block i x) s K Q = V E x s (.block i :: K) Q := rfl
theorem V_region {id : Nat} {a : Array Oper} : V E (.region id a false) s K Q = W E a.toList a.toList s K Q := rfl
/-- What a region that draws its order is looked through for. -/
def drawW (E : Env) (a : List Oper) (s : ISt) (K : List KF) (Q : Exit → ISt → Prop) : List (Nat × Nat) → Prop
  | [] => WD E a a s K Q
  | p :: ps => WI E (p :: ps) a a [] s K Q
theorem V_draw {id : Nat} {a : Array Oper} : V E (.region id a true) s K Q = drawW E a.toList s K Q (pairsOf E.D id) := by
  show vc _ _ _ _ _ _ _ _ _ = _
  simp only [vc]
  cases pairsOf E.D id <;> rfl
/-- A branch at a condition that is known by its value, or by its kind alone. -/
def brW (E : Env) (x y : Code) (s : ISt) (K : List KF) (Q : Exit → ISt → Prop) : Option (Option Bool) → Prop
  | some (some true) => V E x s K Q
  | some (some false) => V E y s K Q
  | some none => V E x s K Q ∧ V E y s K Q
  | none => False
theorem V_cond {k : Operand} : V E (.cond k x y) s K Q = brW E x y s K Q (asB (opI s.tm k)) := by
  show vc _ _ _ _ _ _ _ _ _ = _
  simp only [vc]
  cases asB (opI s.tm k) with
  | none => simp [brW]
  | some b =>
    cases b with
    | none => simp [brW, V]
    | some b => cases b <;> simp [brW, V]
theorem brW_true : brW E x y s K Q (some (some true)) = V E x s K Q := rfl
theorem brW_false : brW E x y s K Q (some (some false)) = V E y s K Q := rfl
theorem brW_any : brW E x y s K Q (some none) = (V E x s K Q ∧ V E y s K Q) := rfl
theorem brW_some {b : Bool} (ht : b = true → V E x s K Q) (hf : b = false → V E y s K Q) : brW E x y s K Q (some (some b)) := by
  cases b
  · exact hf rfl
  · exact ht rfl

/-- The rule of all: code outside loops. -/
theorem iwp_V (hE : E.OK) (hs : statC E.D c = true) (h : V E c s [] Q) : IWp E.P E.F c s Q := vc_sound hE.t hE.m hE.g hE.h c s Q hs h

theorem kr_stat (hE : E.OK) (hs : statC E.D c = true) (h : V E c s K Q) : IWp E.P E.F c s (kr E K Q) := vc_sound hE.t hE.m hE.g hE.h c s _ hs h

/-- A loop: at each round's head the state says no less than J of something that is in order. -/
def Back {α : Type} (Inv : α → Prop) (J : α → ISt) (m : α → Nat) (n : Nat) (s : ISt) : Prop := ∃ b ρ, Inv b ∧ m b < n ∧ SLe ρ s (J b)

theorem V_loop (hE : E.OK) (hs : statC E.D c = true) {α : Type} (Inv : α → Prop) (J : α → ISt) (m : α → Nat) (a0 : α) (ρ : Nat → Nat) (h0 : Inv a0) (hl : SLe ρ s (J a0))
    (round : ∀ a, Inv a → V E c (J a) (.back (Back Inv J m (m a)) :: K) Q) : V E (.loop c) s K Q := by
  show IWp E.P E.F (.loop c) s (kr E K Q)
  refine iwp_loop (fun n s' => ∃ a ρ, Inv a ∧ m a = n ∧ SLe ρ s' (J a)) (m a0) ⟨a0, ρ, h0, rfl, hl⟩ ?_
  rintro n s' ⟨a, ρ', ha, rfl, hs'⟩
  refine iwp_sle ρ' hs' ?_
  refine iwp_mono (kr_stat hE hs (round a ha)) ?_
  intro e s1 h1
  cases e with
  | normal =>
    obtain ⟨b, ρ1, q1, q2, q3⟩ := h1
    exact ⟨m b, q2, b, ρ1, q1, rfl, q3⟩
  | _ => exact h1

/-- A slice that was handed over is no longer than memory. -/
theorem V_len {t k : Nat} {es : List IV} (h0 : lkT s.tm t = .sl k es) (h : es.length ≤ maxLen → V E c s K Q) (hE : E.OK) (hs : statC E.D c = true) : IWp E.P E.F c s (kr E K Q) := by
  intro μ κ a w R
  have hr := R.tmps t
  rw [h0] at hr
  simp only [RepV] at hr
  obtain ⟨ad, n, cp, _, h1, h2, h3, _⟩ := hr
  exact kr_stat hE hs (h (by omega)) μ κ a w R

/-- A function's contract. -/
theorem icall_V {T : Nat → TD} {G : List (Nat × PSpec)} {H : List (Nat × HSpec)} {P : Program} (D : List (Nat × List (Nat × Nat))) (hT : TOK P T) (hm : P.follows .mixedOrders = true) (hG : GOK P G) (hH : HOK P H) {f : FuncId} {fn : Func} {args : List IV} {v : IV} {n : Nat} {res : Array ResultVar}
    (hf : P.funcs[f]? = some fn) (hb : fn.body = some c) (hN : fn.ntmps = n) (hr : fn.results = res) (hn : (Nat.ble args.length n && Nat.ble n 1000) = true) (hs : statC D c = true)
    (h : ∀ F : Fr, F.N = n → (∀ i k es, lkT (enumT 0 args) i = .sl k es → es.length ≤ maxLen) → V ⟨P, T, G, H, D, F⟩ c ⟨enumT 0 args, []⟩ [] (Fin res v)) : ICall P f args v := by
  rw [Bool.and_eq_true] at hn
  refine icall_of hf hb (by rw [hN]; exact Nat.le_of_ble_eq_true hn.1) (by rw [hN]; exact Nat.le_of_ble_eq_true hn.2) fun F hF => ?_
  intro μ κ a w R
  refine iwp_V (E := ⟨P, T, G, H, D, F⟩) ⟨hT, hm, hG, hH⟩ hs (hr ▸ h F (hF.trans hN) ?_) μ κ a w R
  intro i k es hi
  have hq := R.tmps i
  simp only [hi, RepV] at hq
  obtain ⟨ad, n, cp, _, h1, h2, h3, _⟩ := hq
  omega

theorem hcall_V {T : Nat → TD} {G : List (Nat × PSpec)} {H : List (Nat × HSpec)} {P : Program} (D : List (Nat × List (Nat × Nat))) (hT : TOK P T) (hm : P.follows .mixedOrders = true) (hG : GOK P G) (hH : HOK P H) {f : FuncId} {fn : Func} {args : List IV} {hp hp' : List (Nat × Option IBlk)} {v : IV} {n : Nat} {res : Array ResultVar}
    (hf : P.funcs[f]? = some fn) (hb : fn.body = some c) (hN : fn.ntmps = n) (hr : fn.results = res) (hn : (Nat.ble args.length n && Nat.ble n 1000) = true) (hs : statC D c = true)
    (h : ∀ F : Fr, F.N = n → (∀ i k es, lkT (enumT 0 args) i = .sl k es → es.length ≤ maxLen) → V ⟨P, T, G, H, D, F⟩ c ⟨enumT 0 args, hp⟩ [] (FinH T res v hp')) : HCall P f args hp v hp' := by
  rw [Bool.and_eq_true] at hn
  refine hcall_of hT hf hb (by rw [hN]; exact Nat.le_of_ble_eq_true hn.1) (by rw [hN]; exact Nat.le_of_ble_eq_true hn.2) fun F hF => ?_
  intro μ κ a w R
  refine iwp_V (E := ⟨P, T, G, H, D, F⟩) ⟨hT, hm, hG, hH⟩ hs (hr ▸ h F (hF.trans hN) ?_) μ κ a w R
  intro i k es hi
  have hq := R.tmps i
  simp only [hi, RepV] at hq
  obtain ⟨ad, n, cp, _, h1, h2, h3, _⟩ := hq
  omega

end
end Go.Ideal
