/- A body cut after so many statements: there the state may be weakened. -/
import Derived.Test.YtodeicbcacggdaaIdZ
set_option linter.unusedVariables false
set_option linter.unusedSimpArgs false
namespace Go.Ideal
open Go

def frontN : Nat → Code → Code
  | 0, _ => .skip
  | n + 1, .seq x y => .seq x (frontN n y)
  | _ + 1, _ => .skip
def restN : Nat → Code → Code
  | 0, c => c
  | n + 1, .seq _ y => restN n y
  | _ + 1, c => c

theorem front0 {c : Code} : frontN 0 c = .skip := by cases c <;> rfl
theorem frontS {n : Nat} {x y : Code} : frontN (n + 1) (.seq x y) = .seq x (frontN n y) := rfl
theorem rest0 {c : Code} : restN 0 c = c := by cases c <;> rfl
theorem restS {n : Nat} {x y : Code} : restN (n + 1) (.seq x y) = restN n y := rfl

theorem stat_front {D : List (Nat × List (Nat × Nat))} : ∀ (n : Nat) (c : Code), statC D c = true → statC D (frontN n c) = true
  | 0, c, _ => by rw [front0]; rfl
  | n + 1, .seq x y, h => by
    simp only [statC, Bool.and_eq_true] at h
    rw [frontS]
    simp only [statC, Bool.and_eq_true]
    exact ⟨h.1, stat_front n y h.2⟩
  | n + 1, .skip, _ | n + 1, .ret, _ | n + 1, .exit _, _ | n + 1, .block _ _, _ | n + 1, .cond _ _ _, _ | n + 1, .loop _, _ | n + 1, .region _ _ _, _ => rfl
  | n + 1, c, h => by cases c <;> first | rfl | (simp only [statC, Bool.and_eq_true] at h; rw [frontS]; simp only [statC, Bool.and_eq_true]; exact ⟨h.1, stat_front n _ h.2⟩)

section
variable {P : Program} {T : Nat → TD} {G : List (Nat × PSpec)} {H : List (Nat × HSpec)} {D : List (Nat × List (Nat × Nat))} {F : Fr}

theorem vc_cut (hT : TOK P T) (hm : P.follows .mixedOrders = true) (hG : GOK P G) (hH : HOK P H) : ∀ (n : Nat) (c : Code) (s : ISt) (Q : Exit → ISt → Prop), statC D c = true →
    vc P F T G H D (frontN n c) s (seqK (fun s' => IWp P F (restN n c) s' Q) Q) → IWp P F c s Q
  | 0, c, s, Q, _, h => by rw [front0, rest0] at h; exact h
  | n + 1, c, s, Q, hs, h => by
    cases c with
    | seq x y =>
      rw [frontS, restS] at h
      simp only [statC, Bool.and_eq_true] at hs
      have h' : vc P F T G H D x s (seqK (fun s' => vc P F T G H D (frontN n y) s' (seqK (fun s' => IWp P F (restN n y) s' Q) Q)) (seqK (fun s' => IWp P F (restN n y) s' Q) Q)) := h
      refine iwp_seq (iwp_mono (vc_sound hT hm hG hH x s _ hs.1 h') ?_)
      intro e s1 h1
      cases e with
      | normal => exact vc_cut hT hm hG hH n y s1 Q hs.2 h1
      | _ => exact h1
    | _ => exact h

end

theorem icall_cut {T : Nat → TD} {G : List (Nat × PSpec)} {H : List (Nat × HSpec)} {P : Program} {n : Nat} {c : Code} {res : Array ResultVar} {v : IV} (m : Nat) (D : List (Nat × List (Nat × Nat))) (hT : TOK P T) (hm : P.follows .mixedOrders = true) (hG : GOK P G) (hH : HOK P H) {f : FuncId} {fn : Func} {args : List IV}
    (hf : P.funcs[f]? = some fn) (hb : fn.body = some c) (hN : fn.ntmps = n) (hr : fn.results = res) (hn : (Nat.ble args.length n && Nat.ble n 1000) = true) (hs : statC D c = true)
    (h : ∀ F : Fr, F.N = n → (∀ i k es, lkT (enumT 0 args) i = .sl k es → es.length ≤ maxLen) →
      V ⟨P, T, G, H, D, F⟩ (frontN m c) ⟨enumT 0 args, []⟩ [.back (fun s' => IWp P F (restN m c) s' (Fin res v))] (Fin res v)) : ICall P f args v := by
  rw [Bool.and_eq_true] at hn
  refine icall_of hf hb (by rw [hN]; exact Nat.le_of_ble_eq_true hn.1) (by rw [hN]; exact Nat.le_of_ble_eq_true hn.2) fun F hF => ?_
  intro μ κ a w R
  subst hr
  refine vc_cut hT hm hG hH m c _ _ hs (h F (hF.trans hN) ?_) μ κ a w R
  intro i k es hi
  have hq := R.tmps i
  simp only [hi, RepV] at hq
  obtain ⟨ad, n, cp, _, h1, h2, h3, _⟩ := hq
  omega

theorem hcall_cut {T : Nat → TD} {G : List (Nat × PSpec)} {H : List (Nat × HSpec)} {P : Program} {n : Nat} {c : Code} {res : Array ResultVar} {v : IV} {hp hp' : List (Nat × Option IBlk)} (m : Nat) (D : List (Nat × List (Nat × Nat))) (hT : TOK P T) (hm : P.follows .mixedOrders = true) (hG : GOK P G) (hH : HOK P H) {f : FuncId} {fn : Func} {args : List IV}
    (hf : P.funcs[f]? = some fn) (hb : fn.body = some c) (hN : fn.ntmps = n) (hr : fn.results = res) (hn : (Nat.ble args.length n && Nat.ble n 1000) = true) (hs : statC D c = true)
    (h : ∀ F : Fr, F.N = n → (∀ i k es, lkT (enumT 0 args) i = .sl k es → es.length ≤ maxLen) →
      V ⟨P, T, G, H, D, F⟩ (frontN m c) ⟨enumT 0 args, hp⟩ [.back (fun s' => IWp P F (restN m c) s' (FinH T res v hp'))] (FinH T res v hp')) : HCall P f args hp v hp' := by
  rw [Bool.and_eq_true] at hn
  refine hcall_of hT hf hb (by rw [hN]; exact Nat.le_of_ble_eq_true hn.1) (by rw [hN]; exact Nat.le_of_ble_eq_true hn.2) fun F hF => ?_
  intro μ κ a w R
  subst hr
  refine vc_cut hT hm hG hH m c _ _ hs (h F (hF.trans hN) ?_) μ κ a w R
  intro i k es hi
  have hq := R.tmps i
  simp only [hi, RepV] at hq
  obtain ⟨ad, n, cp, _, h1, h2, h3, _⟩ := hq
  omega

/-- Going on after a cut, from a weaker state. -/
theorem iwp_go {E : Env} {c : Code} {s : ISt} {Q : Exit → ISt → Prop} (hE : E.OK) (hs : statC E.D c = true) (ρ : Nat → Nat) (s' : ISt) (hl : SLe ρ s s') (h : V E c s' [] Q) : IWp E.P E.F c s Q :=
  iwp_sle ρ hl (iwp_V hE hs h)

end Go.Ideal
