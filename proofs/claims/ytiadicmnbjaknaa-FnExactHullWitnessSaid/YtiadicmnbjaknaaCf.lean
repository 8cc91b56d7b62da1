/- Walks in segments: the frame may change between them. -/
import Derived.Test.YtiadicmnbjaknaaCc
import Derived.Deep.LoopGhost

set_option linter.unusedVariables false
set_option linter.unusedSimpArgs false
namespace Go.Ideal
open Go

/-- A state that says no less than sT. -/
def Goes (sT s : ISt) : Prop := ∃ ρ, SLe ρ s sT

section
variable {P : Program} {F : Fr} {μ κ : Nat → Nat} {s sT : ISt} {a : Act} {w : World}

theorem Goes.rep (h : Goes sT s) (R : RepS F μ κ s a w) : ∃ μ' κ', RepS F μ' κ' sT a w := by
  obtain ⟨ρ, h⟩ := h
  exact ⟨_, _, h.rep R⟩

/-- Code cut after n statements: the first of them by the evaluator. -/
theorem wp_cut {E : Env} (hE : E.OK) {K : ISt → Prop} {X : Exit → ISt → Prop} {Q : Exit → Act → World → Prop}
    (hK : ∀ s' μ' κ' a' w', RepS E.F μ' κ' s' a' w' → X .normal s' → Q .normal a' w') (hX : ∀ e s' μ' κ' a' w', e ≠ .normal → RepS E.F μ' κ' s' a' w' → X e s' → Q e a' w') :
    ∀ (n : Nat) (c : Code) (s : ISt) (μ κ : Nat → Nat) (a : Act) (w : World), statC E.D c = true → RepS E.F μ κ s a w → V E (frontN n c) s [.back K] X →
    (∀ s' μ' κ' a' w', RepS E.F μ' κ' s' a' w' → K s' → (restN n c).wp E.P Q a' w') → c.wp E.P Q a w
  | 0, c, s, μ, κ, a, w, _, R, h, hn => by
    rw [front0] at h
    rw [rest0] at hn
    exact hn s μ κ a w R h
  | n + 1, c, s, μ, κ, a, w, hs, R, h, hn => by
    cases c with
    | seq x y =>
      rw [frontS] at h
      rw [restS] at hn
      simp only [statC, Bool.and_eq_true] at hs
      have h' : vc E.P E.F E.T E.G E.H E.D x s (seqK (fun s' => vc E.P E.F E.T E.G E.H E.D (frontN n y) s' (seqK K X)) (seqK K X)) := h
      refine wp_seq (Go.wp_mono (vc_sound hE.t hE.m hE.g hE.h x s _ hs.1 h' μ κ a w R) ?_)
      rintro e a' w' ⟨μ', κ', s', R', q⟩
      cases e with
      | normal => exact wp_cut hE hK hX n y s' μ' κ' a' w' hs.2 R' q hn
      | _ => exact hX _ s' μ' κ' a' w' (by simp) R' q
    | _ => exact hn s μ κ a w R h

/-- The same, where the first statements go on in the state sT. -/
theorem wp_cutG {T : Nat → TD} {G : List (Nat × PSpec)} {H : List (Nat × HSpec)} {D : List (Nat × List (Nat × Nat))} (hE : Env.OK ⟨P, T, G, H, D, F⟩) (n : Nat) {c : Code} (sT : ISt) {Q : Exit → Act → World → Prop} (hs : statC D c = true) (R : RepS F μ κ s a w)
    (h : V ⟨P, T, G, H, D, F⟩ (frontN n c) s [.back (Goes sT)] (fun _ _ => False)) (hn : ∀ μ' κ' a' w', RepS F μ' κ' sT a' w' → (restN n c).wp P Q a' w') : c.wp P Q a w := by
  refine wp_cut (E := ⟨P, T, G, H, D, F⟩) hE (fun _ _ _ _ _ _ h => h.elim) (fun _ _ _ _ _ _ _ _ h => h.elim) n c s μ κ a w hs R h ?_
  intro s' μ' κ' a' w' R' hk
  obtain ⟨μ1, κ1, R1⟩ := hk.rep R'
  exact hn μ1 κ1 a' w' R1

/-- Code that goes to its end e, in the state sT. -/
theorem wp_segE {T : Nat → TD} {G : List (Nat × PSpec)} {H : List (Nat × HSpec)} {D : List (Nat × List (Nat × Nat))} (hE : Env.OK ⟨P, T, G, H, D, F⟩) {c : Code} (e0 : Exit) (sT : ISt) {Q : Exit → Act → World → Prop} (hs : statC D c = true) (R : RepS F μ κ s a w)
    (h : V ⟨P, T, G, H, D, F⟩ c s [] (fun e s' => e = e0 ∧ Goes sT s')) (hn : ∀ μ' κ' a' w', RepS F μ' κ' sT a' w' → Q e0 a' w') : c.wp P Q a w := by
  refine Go.wp_mono (iwp_V (E := ⟨P, T, G, H, D, F⟩) hE hs h μ κ a w R) ?_
  rintro e a' w' ⟨μ', κ', s', R', rfl, hg⟩
  obtain ⟨μ1, κ1, R1⟩ := hg.rep R'
  exact hn μ1 κ1 a' w' R1

/-- The first n operations of a row by the evaluator. -/
theorem wpList_front {T : Nat → TD} {G : List (Nat × PSpec)} {H : List (Nat × HSpec)} {D : List (Nat × List (Nat × Nat))} (hE : Env.OK ⟨P, T, G, H, D, F⟩) {ops : List Oper} {Q : Exit → Act → World → Prop} (sT : ISt) {X : Exit → ISt → Prop} : ∀ (n : Nat) (l : List Oper) (s : ISt) (μ κ : Nat → Nat) (a : Act) (w : World), RepS F μ κ s a w →
    W ⟨P, T, G, H, D, F⟩ ops (l.take n) s [.back (Goes sT)] X → (∀ μ' κ' a' w', RepS F μ' κ' sT a' w' → wpList P ⟨ops⟩ Q (l.drop n) a' w') → wpList P ⟨ops⟩ Q l a w
  | 0, l, s, μ, κ, a, w, R, h, hn => by
    have hg : Goes sT s := h
    obtain ⟨μ1, κ1, R1⟩ := hg.rep R
    exact hn μ1 κ1 a w R1
  | n + 1, [], s, μ, κ, a, w, R, h, hn => by
    have hg : Goes sT s := h
    obtain ⟨μ1, κ1, R1⟩ := hg.rep R
    exact hn μ1 κ1 a w R1
  | n + 1, o :: l, s, μ, κ, a, w, R, h, hn => by
    rw [List.take_succ_cons, W_cons] at h
    unfold wpList
    exact effOp2_sound hE.t hE.g hE.h h.1 μ κ a w R Q _ (fun μ' κ' a' w' R' => wpList_front hE sT n l _ μ' κ' a' w' R' h.2 hn)

/-- A call by its contract on the machine's values. -/
theorem wpList_call {ops : Array Oper} {Q : Exit → Act → World → Prop} {l : List Oper} {o : Oper} {f : FuncId} {args : Array Operand} {tys : Array TypeId}
    (ho : o.op = .call { callee := .value (.func f), args := args, argTypes := tys }) (hg : o.guard = none) (hent : Enters P f)
    (h : Calls P f ⟨args.toList.map a.eval⟩ w fun e w' => ∃ x, e = .returned x ∧ wpList P ops Q l (a.put o.dst x) w') : wpList P ops Q (o :: l) a w := by
  unfold wpList
  rw [if_pos (by simp [Region.wanted, hg])]
  refine .inl ?_
  unfold Oper.wp
  rw [run_invoke_clo (caps := []) hent ho (by simp [Act.eval]) w, Oper.upon_enter, List.append_nil]
  refine h.mono ?_
  rintro e w' ⟨x, rfl, hx⟩
  exact hx

/-- From one frame to another: ch is what has been written since, out of the frame's reach. -/
theorem RepS.reframe (R : RepS F μ κ s a w) (F' : Fr) {w' : World} (hN : F'.N = F.N) (hμ : F'.μ0 = F.μ0) (hκ : F'.κ0 = F.κ0) (hw : F'.w0 = w') (ch : Nat → Prop) (hC : Chg ch w w') (hch : ∀ b, ch b → F.A b)
    (hA : ∀ b, b < w.heap.size → F'.A b → avOf F μ s.hp b) (hown : ∀ id, lkH s.hp id ≠ none → ¬ F'.A (μ id) ∧ F'.B0 (μ id)) : RepS F' μ κ s a w' := by
  have hle : (ctx F μ κ s.hp w).Le (ctx F' μ κ s.hp w') (fun _ => True) :=
    ⟨fun _ _ => .inr ⟨rfl, rfl, rfl⟩, fun b hb h => h.elim (hA b hb) .inr, hC.size, fun b o hb hn => World.cell?_of_block (hC.block b hb (fun h => hn (.inl (hch b h))))⟩
  refine ⟨R.defers, by rw [hN]; exact R.size, by rw [hw]; exact Chg.refl _ _, R.inj, fun id blk hb => ?_, fun i => RepV.mono hle _ _ (fun _ _ => trivial) (R.tmps i), fun id h1 h2 => by rw [hμ, hκ]; exact R.pin id h1 h2⟩
  obtain ⟨hB, hr⟩ := R.own id blk hb
  have hl := lt_of_own R hb
  have hk := hC.block (μ id) hl (fun h => hr.1 (hch _ h))
  obtain ⟨h1, h2⟩ := hown id (by rw [hb]; simp)
  exact ⟨RepB.mono hle rfl rfl hk (fun o' => World.cell?_of_block hk) (fun _ _ _ _ _ => trivial) hB, h1, .inl h2⟩

/-- What holds no memory stands in every frame. -/
theorem RepS.flat_to {t : Nat} {x : IV} (R : RepS F μ κ ⟨[(t, x)], []⟩ a w) (hf : flat x = true) (F' : Fr) (hN : F'.N = F.N) (hC : Chg F'.B0 F'.w0 w) : RepS F' F'.μ0 F'.κ0 ⟨[(t, x)], []⟩ a w := by
  refine ⟨R.defers, by rw [hN]; exact R.size, hC, fun i j hi => absurd rfl hi, fun id blk hb => (by simp [lkH] at hb), fun i => ?_, fun _ _ _ => ⟨rfl, rfl⟩⟩
  have := R.tmps i
  simp only [lkT] at this ⊢
  split
  · rename_i h
    rw [if_pos h] at this
    exact flat_any _ _ hf this
  · simp [RepV]

/-- A call of a function, at the machine's values, from the evaluator's view of its arguments. -/
theorem raw_at {f : FuncId} {fn : Func} {c : Code} {args : List IV} {t : Nat} (hf : P.funcs[f]? = some fn) (hb : fn.body = some c) (hr : fn.results = #[.tmp t]) (hn : args.length ≤ fn.ntmps) (hn2 : fn.ntmps ≤ 1000)
    {A : Nat → Prop} {w : World} {av : List Value} (hA : ∀ b, A b → b < w.heap.size) (hL : RepL (bare A w) args av) {Post : Value → World → Prop}
    (h : ∀ (F : Fr) (μ κ : Nat → Nat) (a : Act), F.N = fn.ntmps → F.w0 = w → F.A = A → F.B0 = (fun _ => False) → RepS F μ κ ⟨enumT 0 args, []⟩ a w →
      c.wp P (fun e a' w' => (e = .normal ∨ e = .ret) ∧ a'.defers = [] ∧ Post (a'.tmps.getD t undef) w') a w) : Calls P f ⟨av⟩ w fun e w' => ∃ x, e = .returned x ∧ Post x w' := by
  have hlen := hL.length
  let F : Fr := { A := A, B0 := fun _ => False, w0 := w, N := fn.ntmps, hAB := fun _ _ h => h, hA := hA, hB := fun _ h => h.elim, μ0 := fun i => i, κ0 := fun i => i, hN := hn2 }
  refine calls_of_wp hf hb (Go.wp_mono (h F (fun i => i) (fun i => i) _ rfl rfl rfl rfl ?_) ?_)
  · refine ⟨rfl, ?_, Chg.refl _ _, fun i j hi => absurd rfl hi, fun id blk hb => (by simp [lkH] at hb), fun i => ?_, fun _ _ _ => ⟨rfl, rfl⟩⟩
    · show (((⟨av⟩ : Array Value) ++ Array.replicate (fn.ntmps - (⟨av⟩ : Array Value).size) undef)).size = fn.ntmps
      simp; omega
    · rw [lkT_enum args 0 i (Nat.zero_le _), Nat.sub_zero]
      rw [bare_ctx A w F rfl]
      by_cases hi : i < args.length
      · obtain ⟨u, hu, hr⟩ := hL.get i hi
        have : ((⟨av⟩ : Array Value) ++ Array.replicate (fn.ntmps - (⟨av⟩ : Array Value).size) undef).getD i undef = u := by
          rw [Array.getD_eq_getD_getElem?, Array.getElem?_append_left (by simp; omega)]
          simp [hu]
        rw [this]
        exact hr
      · have : args.getD i .junk = .junk := by simp [List.getD, List.getElem?_eq_none (Nat.le_of_not_lt hi)]
        rw [this]
        simp [RepV]
  · rintro e a w' ⟨he, hd, hp⟩
    rcases he with rfl | rfl
    · exact ⟨hd, _, results_tmp hr _ _ _, _, rfl, hp⟩
    · exact ⟨hd, _, results_tmp hr _ _ _, _, rfl, hp⟩

/-- A loop whose rounds bear a number that goes down (the kit's law). -/
theorem wp_rounds {Q : Exit → Act → World → Prop} {c : Code} (I : Nat → Act → World → Prop) (n : Nat) (h0 : I n a w)
    (round : ∀ n a w, I n a w → c.wp P (Exit.then (fun a' w' => ∃ m, m < n ∧ I m a' w') Q) a w) : (Code.loop c).wp P Q a w :=
  wp_loop_ghost I n h0 round

end

end Go.Ideal
