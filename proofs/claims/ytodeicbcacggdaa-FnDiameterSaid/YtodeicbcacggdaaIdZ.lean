/- A heap call that gets no blocks and whose result can be given up is a pure one; sorts of nothing. -/
import Derived.Test.YtodeicbcacggdaaIdY
set_option linter.unusedVariables false
set_option linter.unusedSimpArgs false
namespace Go.Ideal
open Go Go.Sort Go.Shelf Go.Proofs Go.Lib

theorem icall_of_hcall {P : Program} {f : FuncId} {args : List IV} {v v' : IV} {hp' : List (Nat × Option IBlk)} (ρ : Nat → Nat) (h : HCall P f args [] v hp') (hc : SLe0 ρ ⟨[(0, v)], hp'⟩ ⟨[(0, v')], []⟩) (hno : idsV v' = []) : ICall P f args v' := by
  intro A w vs hA hL
  let F : Fr := { A := A, B0 := fun _ => False, w0 := w, N := 0, hAB := fun _ _ h => h, hA := hA, hB := fun _ h => h.elim, μ0 := fun i => i, κ0 := fun i => i, hN := Nat.zero_le _ }
  have RH : RepH F (fun i => i) (fun i => i) [] F.w0 := ⟨Chg.refl _ _, fun i j hi => absurd rfl hi, fun id b hb => by simp [lkH] at hb, fun _ _ _ => ⟨rfl, rfl⟩⟩
  have hctx : ∀ μ κ W, (bare A W).Le (ctx F μ κ [] W) (fun _ => True) := fun μ κ W => ⟨fun id _ => .inl rfl, fun b _ hb => by
      rcases hb with hb | ⟨i, hi, _⟩
      · exact hb
      · exact absurd rfl hi, Nat.le_refl _, fun _ _ _ _ => rfl⟩
  have hL' : RepL (ctx F (fun i => i) (fun i => i) [] F.w0) args vs := RepL.mono (hctx _ _ w) args vs (fun _ _ => trivial) hL
  refine (h F _ _ vs RH hL').mono ?_
  rintro e w' ⟨x, μ', κ', rfl, RH', hv⟩
  have h1 := conv_rep (s := ⟨[(0, v)], hp'⟩) (s' := ⟨[(0, v')], []⟩) RH' hc v v' x (by simpa [lkT] using convTm_lk hc.1 0) hv
  refine ⟨x, rfl, RH'.chg, ?_⟩
  have L : (ctx F (fun i => μ' (ρ i)) (fun i => κ' (ρ i)) [] w').Le (bare A w') (fun _ => False) := ⟨fun _ h => h.elim, fun b _ hb => .inl hb, Nat.le_refl _, fun _ _ _ _ => rfl⟩
  refine RepV.mono L v' x (fun id hid => ?_) h1
  have := mem_ids v' hid
  rw [hno] at this
  simp at this

theorem flat_blk {c c' : Ctx} (W : WLe c c' (fun _ => True)) (hw : c'.w = c.w) (hμ : c'.μ = c.μ) (hκ : c'.κ = c.κ) {hp : List (Nat × IBlk)} (hf : flatBs hp = true) {id : Nat} {b : IBlk} (hb : lkH (sm hp) id = some b) (h : RepB c id b) : RepB c' id b := by
  have hfb := flatBs_mem hf id b hb
  cases b with
  | box ty cells =>
    obtain ⟨cs, q1, q2, q3⟩ := h
    exact ⟨cs, by rw [hw, hμ]; exact q1, noSlL_any W cells cs hfb (fun _ _ => trivial) q2, q3⟩
  | arr k ty es =>
    obtain ⟨cur, q1, q2, q3, q4, q5, q6, q7⟩ := h
    refine ⟨cur, by rw [hw, hμ]; exact q1, by rw [hκ]; exact q2, by rw [hκ]; exact q3, q4, by rw [hκ]; exact q5, q6, ?_⟩
    obtain ⟨xs, hX, hcl⟩ := q7.toX
    rw [hμ]
    exact (noSlX_any W es xs hfb (fun _ _ => trivial) hX).toR (by rw [hw]; exact hcl)

/-- The same for a result that lies in new memory. -/
theorem icallF_of_hcall {P : Program} {f : FuncId} {args : List IV} {v v' : IV} {hp' : List (Nat × IBlk)} (ρ : Nat → Nat) (h : HCall P f args [] v (sm hp')) (hc : SLe0 ρ ⟨[(0, v)], sm hp'⟩ ⟨[(0, v')], []⟩) (hno : idsV v' = []) (hns : noSl v = true) (hfb : flatBs hp' = true) : ICallF P f args v' := by
  intro A w vs hA hL
  let F : Fr := { A := A, B0 := fun _ => False, w0 := w, N := 0, hAB := fun _ _ h => h, hA := hA, hB := fun _ h => h.elim, μ0 := fun i => i, κ0 := fun i => i, hN := Nat.zero_le _ }
  let F2 : Fr := { A := fun b => b < w.heap.size, B0 := fun _ => False, w0 := w, N := 0, hAB := fun _ _ h => h, hA := fun _ h => h, hB := fun _ h => h.elim, μ0 := fun i => i, κ0 := fun i => i, hN := Nat.zero_le _ }
  have RH : RepH F (fun i => i) (fun i => i) [] F.w0 := ⟨Chg.refl _ _, fun i j hi => absurd rfl hi, fun id b hb => by simp [lkH] at hb, fun _ _ _ => ⟨rfl, rfl⟩⟩
  have hctx : ∀ μ κ W, (bare A W).Le (ctx F μ κ [] W) (fun _ => True) := fun μ κ W => ⟨fun id _ => .inl rfl, fun b _ hb => by
      rcases hb with hb | ⟨i, hi, _⟩
      · exact hb
      · exact absurd rfl hi, Nat.le_refl _, fun _ _ _ _ => rfl⟩
  have hL' : RepL (ctx F (fun i => i) (fun i => i) [] F.w0) args vs := RepL.mono (hctx _ _ w) args vs (fun _ _ => trivial) hL
  refine (h F _ _ vs RH hL').mono ?_
  rintro e w' ⟨x, μ', κ', rfl, RH', hv⟩
  have W1 : WLe (ctx F μ' κ' (sm hp') w') (ctx F2 μ' κ' (sm hp') w') (fun _ => True) := fun id _ => .inr ⟨rfl, rfl, rfl⟩
  have RH2 : RepH F2 μ' κ' (sm hp') w' := by
    refine ⟨RH'.chg, RH'.inj, fun id blk hb => ?_, RH'.pin⟩
    obtain ⟨h1, h2, h3⟩ := RH'.own id blk hb
    rcases h3 with h3 | h3
    · exact h3.elim
    · refine ⟨flat_blk W1 rfl rfl rfl hfb hb h1, fun hlt => ?_, .inr h3⟩
      exact Nat.lt_irrefl _ (Nat.lt_of_lt_of_le hlt h3)
  have hv2 : RepV (ctx F2 μ' κ' (sm hp') w') v x := noSl_any W1 v x hns (fun _ _ => trivial) hv
  have h1 := conv_rep (s := ⟨[(0, v)], sm hp'⟩) (s' := ⟨[(0, v')], []⟩) RH2 hc v v' x (by simpa [lkT] using convTm_lk hc.1 0) hv2
  refine ⟨x, rfl, RH2.chg, ?_⟩
  have L : (ctx F2 (fun i => μ' (ρ i)) (fun i => κ' (ρ i)) [] w').Le (bare (fun b => b < w.heap.size) w') (fun _ => False) := ⟨fun _ h => h.elim, fun b _ hb => .inl hb, Nat.le_refl _, fun _ _ _ _ => rfl⟩
  refine RepV.mono L v' x (fun id hid => ?_) h1
  have := mem_ids v' hid
  rw [hno] at this
  simp at this

/-- A sort of nothing. -/
theorem icall_sort_none {α : Type} {k : Nat} {e : α → Value} [Inhabited α] {cf : α → α → Int} {P : Program} {fn : FuncId} (hS : SortC P fn k e cf) (x : IV) (k' : Nat) : ICall P fn [.sl k' [], x] (.tup []) := by
  intro A w vs hA hL
  simp only [RepL] at hL
  obtain ⟨v1, r1, rfl, hv1, v2, r2, rfl, hv2, rfl⟩ := hL
  simp only [RepV] at hv1
  obtain ⟨a, n, cp, rfl, hn, _⟩ := hv1
  subst hn
  refine (hS.1 a cp v2 w).mono ?_
  rintro r w' ⟨rfl, rfl⟩
  exact ⟨.tuple #[], rfl, Chg.refl _ _, by simp only [RepV, RepL]; exact ⟨_, rfl, rfl⟩⟩

end Go.Ideal
