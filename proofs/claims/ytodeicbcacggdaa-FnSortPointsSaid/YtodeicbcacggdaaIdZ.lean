/- A heap call that gets no blocks and whose result can be given up is a pure one; sorts of nothing. -/
import Derived.Test.YtodeicbcacggdaaIdY
set_option linter.unusedVariables false
set_option linter.unusedSimpArgs false
namespace Go.Ideal
open Go Go.Sort Go.Shelf Go.Proofs Go.Lib

theorem icall_of_hcall {P : Program} {f : FuncId} {args : List IV} {v v' : IV} {hp' : List (Nat × Option IBlk)} (ρ : Nat → Nat) (h : HCall P f args [] v hp') (hc : SLe0 ρ ⟨[(0, v)], hp'⟩ ⟨[(0, v')], []⟩) (hno : idsV v' = []) : ICall P f args v' := by
  intro A w vs hA hL
  let F : Fr := { A := A, B0 := fun _ => False, w0 := w, N := 0, hAB := fun _ _ h => h, hA := hA, hB := fun _ h => h.elim, μ0 := fun i => i, κ0 := fun i => i, hN := Nat.zero_le _ }
  have RH : RepH F (fun i => i) (fun i => i) [] F.w0 := ⟨Chg.refl _ _, fun i j hi => absurd rfl hi, fun id b hb => by simp [lkH] at hb, fun _ _ _ => ⟨rfl, rfl⟩⟩
  have hctx : ∀ μ κ W, (bare A W).Le (ctx F μ κ [] W) (fun _ => True) := fun μ κ W => ⟨fun id _ => .inl rfl, fun b _ hb => by
      rcases hb with hb | ⟨i, hi, _⟩
      · exact hb
      · exact absurd rfl hi, Nat.le_refl _, fun _ _ _ _ => rfl⟩
  have hL' : RepL (ctx F (fun i => i) (fun i => i) [] F.w0) args vs := RepL.mono (hctx _ _ w) args vs (fun _ _ => trivial) hL
  refine (h F _ _ vs RH hL').mono ?_
  rintro e w' ⟨x, μ', κ', rfl, RH', hv⟩
  have h1 := conv_rep (s := ⟨[(0, v)], hp'⟩) (s' := ⟨[(0, v')], []⟩) RH' hc v v' x (by simpa [lkT] using convTm_lk hc.1 0) hv
  refine ⟨x, rfl, RH'.chg, ?_⟩
  have L : (ctx F (fun i => μ' (ρ i)) (fun i => κ' (ρ i)) [] w').Le (bare A w') (fun _ => False) := ⟨fun _ h => h.elim, fun b _ hb => .inl hb, Nat.le_refl _, fun _ _ _ _ => rfl⟩
  refine RepV.mono L v' x (fun id hid => ?_) h1
  have := mem_ids v' hid
  rw [hno] at this
  simp at this

/-- A sort of nothing. -/
theorem icall_sort_none {α : Type} {k : Nat} {e : α → Value} [Inhabited α] {cf : α → α → Int} {P : Program} {fn : FuncId} (hS : SortC P fn k e cf) (x : IV) (k' : Nat) : ICall P fn [.sl k' [], x] (.tup []) := by
  intro A w vs hA hL
  simp only [RepL] at hL
  obtain ⟨v1, r1, rfl, hv1, v2, r2, rfl, hv2, rfl⟩ := hL
  simp only [RepV] at hv1
  obtain ⟨a, n, cp, rfl, hn, _⟩ := hv1
  subst hn
  refine (hS.1 a cp v2 w).mono ?_
  rintro r w' ⟨rfl, rfl⟩
  exact ⟨.tuple #[], rfl, Chg.refl _ _, by simp only [RepV, RepL]; exact ⟨_, rfl, rfl⟩⟩

end Go.Ideal
