/- The library sort over an own row; from heap contracts to pure ones; cutting a body. -/
import Derived.Test.YtggigfogckeamaaDoorCb
import Derived.Shelf.SlSortCmp.NoneTotal

/- A heap call that gets no blocks and whose result can be given up is a pure one; sorts of nothing. -/
set_option linter.unusedVariables false
set_option linter.unusedSimpArgs false
namespace Go.Ideal
open Go Go.Sort Go.Shelf Go.Proofs Go.Lib

theorem icall_of_hcall {P : Program} {f : FuncId} {args : List IV} {v v' : IV} {hp' : List (Nat × Option IBlk)} (ρ : Nat → Nat) (h : HCall P f args [] v hp') (hc : SLe0 ρ ⟨[(0, v)], hp'⟩ ⟨[(0, v')], []⟩) (hno : idsV v' = []) : ICall P f args v' := by
  intro A w vs hA hL
  let F : Fr := { A := A, B0 := fun _ => False, w0 := w, N := 0, hAB := fun _ _ h => h, hA := hA, hB := fun _ h => h.elim, μ0 := fun i => i, κ0 := fun i => i, hN := Nat.zero_le _ }
  have RH : RepH F (fun i => i) (fun i => i) [] F.w0 := ⟨Chg.refl _ _, fun i j hi => absurd rfl hi, fun id b hb => by simp [lkH] at hb, fun _ _ _ => ⟨rfl, rfl⟩⟩
  have hctx : ∀ μ κ W, (bare A W).Le (ctx F μ κ [] W) (fun _ => True) := fun μ κ W => ⟨fun id _ => .inl rfl, fun b _ hb => by
      rcases hb with hb | ⟨i, hi, _⟩
      · exact hb
      · exact absurd rfl hi, Nat.le_refl _, fun _ _ _ _ => rfl⟩
  have hL' : RepL (ctx F (fun i => i) (fun i => i) [] F.w0) args vs := RepL.mono (hctx _ _ w) args vs (fun _ _ => trivial) hL
  refine (h F _ _ vs RH hL').mono ?_
  rintro e w' ⟨x, μ', κ', rfl, RH', hv⟩
  have h1 := conv_rep (s := ⟨[(0, v)], hp'⟩) (s' := ⟨[(0, v')], []⟩) RH' hc v v' x (by simpa [lkT] using convTm_lk hc.1 0) hv
  refine ⟨x, rfl, RH'.chg, ?_⟩
  have L : (ctx F (fun i => μ' (ρ i)) (fun i => κ' (ρ i)) [] w').Le (bare A w') (fun _ => False) := ⟨fun _ h => h.elim, fun b _ hb => .inl hb, Nat.le_refl _, fun _ _ _ _ => rfl⟩
  refine RepV.mono L v' x (fun id hid => ?_) h1
  have := mem_ids v' hid
  rw [hno] at this
  simp at this
theorem icallW_of_hcall {I : World → Prop} {P : Program} {f : FuncId} {args : List IV} {v v' : IV} {hp' : List (Nat × Option IBlk)} (ρ : Nat → Nat) (h : HCallW I P f args [] v hp') (hc : SLe0 ρ ⟨[(0, v)], hp'⟩ ⟨[(0, v')], []⟩) (hno : idsV v' = []) : ICallW I P f args v' := by
  intro A w vs hw hA hL
  let F : Fr := { A := A, B0 := fun _ => False, w0 := w, N := 0, hAB := fun _ _ h => h, hA := hA, hB := fun _ h => h.elim, μ0 := fun i => i, κ0 := fun i => i, hN := Nat.zero_le _ }
  have RH : RepH F (fun i => i) (fun i => i) [] F.w0 := ⟨Chg.refl _ _, fun i j hi => absurd rfl hi, fun id b hb => by simp [lkH] at hb, fun _ _ _ => ⟨rfl, rfl⟩⟩
  have hctx : ∀ μ κ W, (bare A W).Le (ctx F μ κ [] W) (fun _ => True) := fun μ κ W => ⟨fun id _ => .inl rfl, fun b _ hb => by
      rcases hb with hb | ⟨i, hi, _⟩
      · exact hb
      · exact absurd rfl hi, Nat.le_refl _, fun _ _ _ _ => rfl⟩
  have hL' : RepL (ctx F (fun i => i) (fun i => i) [] F.w0) args vs := RepL.mono (hctx _ _ w) args vs (fun _ _ => trivial) hL
  refine (h F _ _ vs hw rfl RH hL').mono ?_
  rintro e w' ⟨x, μ', κ', rfl, RH', hv⟩
  have h1 := conv_rep (s := ⟨[(0, v)], hp'⟩) (s' := ⟨[(0, v')], []⟩) RH' hc v v' x (by simpa [lkT] using convTm_lk hc.1 0) hv
  refine ⟨x, rfl, RH'.chg, ?_⟩
  have L : (ctx F (fun i => μ' (ρ i)) (fun i => κ' (ρ i)) [] w').Le (bare A w') (fun _ => False) := ⟨fun _ h => h.elim, fun b _ hb => .inl hb, Nat.le_refl _, fun _ _ _ _ => rfl⟩
  refine RepV.mono L v' x (fun id hid => ?_) h1
  have := mem_ids v' hid
  rw [hno] at this
  simp at this

theorem flat_blk {c c' : Ctx} (W : WLe c c' (fun _ => True)) (hw : c'.w = c.w) (hμ : c'.μ = c.μ) (hκ : c'.κ = c.κ) {hp : List (Nat × IBlk)} (hf : flatBs hp = true) {id : Nat} {b : IBlk} (hb : lkH (sm hp) id = some b) (h : RepB c id b) : RepB c' id b := by
  have hfb := flatBs_mem hf id b hb
  cases b with
  | box ty cells =>
    obtain ⟨cs, q1, q2, q3⟩ := h
    exact ⟨cs, by rw [hw, hμ]; exact q1, noSlL_any W cells cs hfb (fun _ _ => trivial) q2, q3⟩
  | arr k ty es =>
    obtain ⟨cur, q1, q2, q3, q4, q5, q6, q7⟩ := h
    refine ⟨cur, by rw [hw, hμ]; exact q1, by rw [hκ]; exact q2, by rw [hκ]; exact q3, q4, by rw [hκ]; exact q5, q6, ?_⟩
    obtain ⟨xs, hX, hcl⟩ := q7.toX
    rw [hμ]
    exact (noSlX_any W es xs hfb (fun _ _ => trivial) hX).toR (by rw [hw]; exact hcl)

/-- The same for a result that lies in new memory. -/
theorem icallF_of_hcall {P : Program} {f : FuncId} {args : List IV} {v v' : IV} {hp' : List (Nat × IBlk)} (ρ : Nat → Nat) (h : HCall P f args [] v (sm hp')) (hc : SLe0 ρ ⟨[(0, v)], sm hp'⟩ ⟨[(0, v')], []⟩) (hno : idsV v' = []) (hns : noSl v = true) (hfb : flatBs hp' = true) : ICallF P f args v' := by
  intro A w vs hA hL
  let F : Fr := { A := A, B0 := fun _ => False, w0 := w, N := 0, hAB := fun _ _ h => h, hA := hA, hB := fun _ h => h.elim, μ0 := fun i => i, κ0 := fun i => i, hN := Nat.zero_le _ }
  let F2 : Fr := { A := fun b => b < w.heap.size, B0 := fun _ => False, w0 := w, N := 0, hAB := fun _ _ h => h, hA := fun _ h => h, hB := fun _ h => h.elim, μ0 := fun i => i, κ0 := fun i => i, hN := Nat.zero_le _ }
  have RH : RepH F (fun i => i) (fun i => i) [] F.w0 := ⟨Chg.refl _ _, fun i j hi => absurd rfl hi, fun id b hb => by simp [lkH] at hb, fun _ _ _ => ⟨rfl, rfl⟩⟩
  have hctx : ∀ μ κ W, (bare A W).Le (ctx F μ κ [] W) (fun _ => True) := fun μ κ W => ⟨fun id _ => .inl rfl, fun b _ hb => by
      rcases hb with hb | ⟨i, hi, _⟩
      · exact hb
      · exact absurd rfl hi, Nat.le_refl _, fun _ _ _ _ => rfl⟩
  have hL' : RepL (ctx F (fun i => i) (fun i => i) [] F.w0) args vs := RepL.mono (hctx _ _ w) args vs (fun _ _ => trivial) hL
  refine (h F _ _ vs RH hL').mono ?_
  rintro e w' ⟨x, μ', κ', rfl, RH', hv⟩
  have W1 : WLe (ctx F μ' κ' (sm hp') w') (ctx F2 μ' κ' (sm hp') w') (fun _ => True) := fun id _ => .inr ⟨rfl, rfl, rfl⟩
  have RH2 : RepH F2 μ' κ' (sm hp') w' := by
    refine ⟨RH'.chg, RH'.inj, fun id blk hb => ?_, RH'.pin⟩
    obtain ⟨h1, h2, h3⟩ := RH'.own id blk hb
    rcases h3 with h3 | h3
    · exact h3.elim
    · refine ⟨flat_blk W1 rfl rfl rfl hfb hb h1, fun hlt => ?_, .inr h3⟩
      exact Nat.lt_irrefl _ (Nat.lt_of_lt_of_le hlt h3)
  have hv2 : RepV (ctx F2 μ' κ' (sm hp') w') v x := noSl_any W1 v x hns (fun _ _ => trivial) hv
  have h1 := conv_rep (s := ⟨[(0, v)], sm hp'⟩) (s' := ⟨[(0, v')], []⟩) RH2 hc v v' x (by simpa [lkT] using convTm_lk hc.1 0) hv2
  refine ⟨x, rfl, RH2.chg, ?_⟩
  have L : (ctx F2 (fun i => μ' (ρ i)) (fun i => κ' (ρ i)) [] w').Le (bare (fun b => b < w.heap.size) w') (fun _ => False) := ⟨fun _ h => h.elim, fun b _ hb => .inl hb, Nat.le_refl _, fun _ _ _ _ => rfl⟩
  refine RepV.mono L v' x (fun id hid => ?_) h1
  have := mem_ids v' hid
  rw [hno] at this
  simp at this

end Go.Ideal

/- A body cut after so many statements: there the state may be weakened. -/
set_option linter.unusedVariables false
set_option linter.unusedSimpArgs false
namespace Go.Ideal
open Go

def frontN : Nat → Code → Code
  | 0, _ => .skip
  | n + 1, .seq x y => .seq x (frontN n y)
  | _ + 1, _ => .skip
def restN : Nat → Code → Code
  | 0, c => c
  | n + 1, .seq _ y => restN n y
  | _ + 1, c => c

theorem front0 {c : Code} : frontN 0 c = .skip := by cases c <;> rfl
theorem frontS {n : Nat} {x y : Code} : frontN (n + 1) (.seq x y) = .seq x (frontN n y) := rfl
theorem rest0 {c : Code} : restN 0 c = c := by cases c <;> rfl
theorem restS {n : Nat} {x y : Code} : restN (n + 1) (.seq x y) = restN n y := rfl

theorem stat_front {D : List (Nat × List (Nat × Nat))} : ∀ (n : Nat) (c : Code), statC D c = true → statC D (frontN n c) = true
  | 0, c, _ => by rw [front0]; rfl
  | n + 1, .seq x y, h => by
    simp only [statC, Bool.and_eq_true] at h
    rw [frontS]
    simp only [statC, Bool.and_eq_true]
    exact ⟨h.1, stat_front n y h.2⟩
  | n + 1, .skip, _ | n + 1, .ret, _ | n + 1, .exit _, _ | n + 1, .block _ _, _ | n + 1, .cond _ _ _, _ | n + 1, .loop _, _ | n + 1, .region _ _ _, _ => rfl
  | n + 1, c, h => by cases c <;> first | rfl | (simp only [statC, Bool.and_eq_true] at h; rw [frontS]; simp only [statC, Bool.and_eq_true]; exact ⟨h.1, stat_front n _ h.2⟩)

section
variable {P : Program} {T : Nat → TD} {G : List (Nat × PSpec)} {H : List (Nat × HSpec)} {D : List (Nat × List (Nat × Nat))} {F : Fr}

theorem vc_cut (hT : TOK P T) (hm : P.follows .mixedOrders = true) (hG : GOKF P F G) (hH : HOK P H) : ∀ (n : Nat) (c : Code) (s : ISt) (Q : Exit → ISt → Prop), statC D c = true →
    vc P F T G H D (frontN n c) s (seqK (fun s' => IWp P F (restN n c) s' Q) Q) → IWp P F c s Q
  | 0, c, s, Q, _, h => by rw [front0, rest0] at h; exact h
  | n + 1, c, s, Q, hs, h => by
    cases c with
    | seq x y =>
      rw [frontS, restS] at h
      simp only [statC, Bool.and_eq_true] at hs
      have h' : vc P F T G H D x s (seqK (fun s' => vc P F T G H D (frontN n y) s' (seqK (fun s' => IWp P F (restN n y) s' Q) Q)) (seqK (fun s' => IWp P F (restN n y) s' Q) Q)) := h
      refine iwp_seq (iwp_mono (vc_sound hT hm hG hH x s _ hs.1 h') ?_)
      intro e s1 h1
      cases e with
      | normal => exact vc_cut hT hm hG hH n y s1 Q hs.2 h1
      | _ => exact h1
    | _ => exact h

end

theorem icall_cut {T : Nat → TD} {G : List (Nat × PSpec)} {H : List (Nat × HSpec)} {P : Program} {n : Nat} {c : Code} {res : Array ResultVar} {v : IV} (m : Nat) (D : List (Nat × List (Nat × Nat))) (hT : TOK P T) (hm : P.follows .mixedOrders = true) (hG : GOK P G) (hH : HOK P H) {f : FuncId} {fn : Func} {args : List IV}
    (hf : P.funcs[f]? = some fn) (hb : fn.body = some c) (hN : fn.ntmps = n) (hr : fn.results = res) (hn : (Nat.ble args.length n && Nat.ble n 1000) = true) (hs : statC D c = true)
    (h : ∀ F : Fr, F.N = n → (∀ i k es, lkT (enumT 0 args) i = .sl k es → es.length ≤ maxLen) →
      V ⟨P, T, G, H, D, F⟩ (frontN m c) ⟨enumT 0 args, []⟩ [.back (fun s' => IWp P F (restN m c) s' (Fin res v))] (Fin res v)) : ICall P f args v := by
  rw [Bool.and_eq_true] at hn
  refine icall_of hf hb (by rw [hN]; exact Nat.le_of_ble_eq_true hn.1) (by rw [hN]; exact Nat.le_of_ble_eq_true hn.2) fun F hF => ?_
  intro μ κ a w R
  subst hr
  refine vc_cut hT hm (hG.toF F) hH m c _ _ hs (h F (hF.trans hN) ?_) μ κ a w R
  intro i k es hi
  have hq := R.tmps i
  simp only [hi, RepV] at hq
  obtain ⟨ad, n, cp, _, h1, h2, h3, _⟩ := hq
  omega

theorem hcall_cut {T : Nat → TD} {G : List (Nat × PSpec)} {H : List (Nat × HSpec)} {P : Program} {n : Nat} {c : Code} {res : Array ResultVar} {v : IV} {hp hp' : List (Nat × Option IBlk)} (m : Nat) (D : List (Nat × List (Nat × Nat))) (hT : TOK P T) (hm : P.follows .mixedOrders = true) (hG : GOK P G) (hH : HOK P H) {f : FuncId} {fn : Func} {args : List IV}
    (hf : P.funcs[f]? = some fn) (hb : fn.body = some c) (hN : fn.ntmps = n) (hr : fn.results = res) (hn : (Nat.ble args.length n && Nat.ble n 1000) = true) (hs : statC D c = true)
    (h : ∀ F : Fr, F.N = n → (∀ i k es, lkT (enumT 0 args) i = .sl k es → es.length ≤ maxLen) →
      V ⟨P, T, G, H, D, F⟩ (frontN m c) ⟨enumT 0 args, hp⟩ [.back (fun s' => IWp P F (restN m c) s' (FinH T res v hp'))] (FinH T res v hp')) : HCall P f args hp v hp' := by
  rw [Bool.and_eq_true] at hn
  refine hcall_of hT hf hb (by rw [hN]; exact Nat.le_of_ble_eq_true hn.1) (by rw [hN]; exact Nat.le_of_ble_eq_true hn.2) fun F hF => ?_
  intro μ κ a w R
  subst hr
  refine vc_cut hT hm (hG.toF F) hH m c _ _ hs (h F (hF.trans hN) ?_) μ κ a w R
  intro i k es hi
  have hq := R.tmps i
  simp only [hi, RepV] at hq
  obtain ⟨ad, n, cp, _, h1, h2, h3, _⟩ := hq
  omega

/-- Going on after a cut, from a weaker state. -/
theorem iwp_go {E : Env} {c : Code} {s : ISt} {Q : Exit → ISt → Prop} (hE : E.OK) (hs : statC E.D c = true) (ρ : Nat → Nat) (s' : ISt) (hl : SLe ρ s s') (h : V E c s' [] Q) : IWp E.P E.F c s Q :=
  iwp_sle ρ hl (iwp_V hE hs h)

end Go.Ideal
