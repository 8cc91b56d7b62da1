/- Calls that hand blocks over and back. -/
import Derived.Test.YtodeicbcacggdaaIdS
import Derived.Test.YtodeicbcacggdaaIdN
set_option linter.unusedVariables false
set_option linter.unusedSimpArgs false
namespace Go.Ideal
open Go

/-- A function, at arguments and blocks that are handed to it: it returns v and leaves the blocks hp'. -/
def HCall (P : Program) (f : FuncId) (args : List IV) (hp : List (Nat × Option IBlk)) (v : IV) (hp' : List (Nat × Option IBlk)) : Prop :=
  ∀ (F : Fr) (μ κ : Nat → Nat) (as : List Value), RepH F μ κ hp F.w0 → RepL (ctx F μ κ hp F.w0) args as →
    Calls P f ⟨as⟩ F.w0 fun e w' => ∃ x μ' κ', e = .returned x ∧ RepH F μ' κ' hp' w' ∧ RepV (ctx F μ' κ' hp' w') v x

def resV (T : Nat → TD) (s : ISt) : ResultVar → IV × Prop
  | .tmp t => (lkT s.tm t, True)
  | .cell a ty =>
    match lkT s.tm a with
    | .ptr id off => loadV T (lkH s.hp) ty (.ptr id off)
    | _ => (.junk, False)
def resL (T : Nat → TD) (s : ISt) : List ResultVar → List IV × Prop
  | [] => ([], True)
  | r :: l => ((resV T s r).1 :: (resL T s l).1, (resV T s r).2 ∧ (resL T s l).2)
def resA (T : Nat → TD) (res : Array ResultVar) (s : ISt) : IV × Prop :=
  match res.toList with
  | [r] => resV T s r
  | [r, q] => (.tup (resL T s [r, q]).1, (resL T s [r, q]).2)
  | [r, q, u] => (.tup (resL T s [r, q, u]).1, (resL T s [r, q, u]).2)
  | [] => (.tup [], True)
  | _ => (.junk, False)

/-- What a body comes to. -/
def FinH (T : Nat → TD) (res : Array ResultVar) (v : IV) (hp' : List (Nat × Option IBlk)) : Exit → ISt → Prop
  | .normal, s => (resA T res s).2 ∧ ∃ ρ, SLe ρ ⟨[(0, (resA T res s).1)], s.hp⟩ ⟨[(0, v)], hp'⟩
  | .ret, s => (resA T res s).2 ∧ ∃ ρ, SLe ρ ⟨[(0, (resA T res s).1)], s.hp⟩ ⟨[(0, v)], hp'⟩
  | _, _ => False

/-- One result. -/
def oneRes (tmps : Array Value) : ResultVar → Sem Value
  | .tmp t => pure (tmps.getD t undef)
  | .cell a t => do loadVar t (← asAddr (tmps.getD a undef))

theorem results_one (fn : Func) (tmps : Array Value) : results fn tmps = (do
    let vs ← fn.results.mapM (oneRes tmps)
    pure (if h : vs.size = 1 then vs[0] else .tuple vs)) := by
  unfold results
  congr 1

section
variable {P : Program} {T : Nat → TD} {F : Fr} {μ κ : Nat → Nat} {s : ISt} {a : Act} {w : World}

theorem oneRes_sound (hT : TOK P T) (R : RepS F μ κ s a w) {r : ResultVar} (h : (resV T s r).2) : ∃ x, (oneRes a.tmps r).run P w = .ok x w ∧ RepV (ctx F μ κ s.hp w) (resV T s r).1 x := by
  cases r with
  | tmp t => exact ⟨_, by simp [oneRes], R.tmps t⟩
  | cell d ty =>
    have hr := R.tmps d
    simp only [resV] at h ⊢
    cases hl : lkT s.tm d with
    | ptr id off =>
      rw [hl] at h hr
      obtain ⟨y, hy, hv⟩ := loadV_sound hT R.hpOK hr h
      simp only [RepV] at hr
      obtain ⟨ad, e, _⟩ := hr
      refine ⟨y, ?_, hv⟩
      rw [e] at hy
      simp only [Instr.loadAt, Instr.sureAddr, Sem.run_bind, Sem.run_pure, Result.andThen_ok] at hy
      simp only [oneRes, e, asAddr, Sem.run_bind, Sem.run_pure, Result.andThen_ok]
      exact hy
    | _ => rw [hl] at h; exact h.elim

theorem resA_sound (hT : TOK P T) (R : RepS F μ κ s a w) {fn : Func} (h : (resA T fn.results s).2) : ∃ x, (results fn a.tmps).run P w = .ok x w ∧ RepV (ctx F μ κ s.hp w) (resA T fn.results s).1 x := by
  unfold resA at h ⊢
  split at h
  · rename_i r hres
    have hr : fn.results = #[r] := by apply Array.ext'; simpa using hres
    obtain ⟨x, hx, hv⟩ := oneRes_sound hT R h
    refine ⟨x, ?_, hv⟩
    simp [results_one, hr, hx]
  · rename_i r q hres
    have hr : fn.results = #[r, q] := by apply Array.ext'; simpa using hres
    obtain ⟨h1, h2, _⟩ := h
    obtain ⟨x, hx, hv⟩ := oneRes_sound hT R h1
    obtain ⟨y, hy, hu⟩ := oneRes_sound hT R h2
    refine ⟨.tuple #[x, y], ?_, by simp only [RepV, RepL, resL]; exact ⟨_, rfl, _, _, rfl, hv, _, _, rfl, hu, rfl⟩⟩
    simp [results_one, hr, hx, hy]
  · rename_i r q u hres
    have hr : fn.results = #[r, q, u] := by apply Array.ext'; simpa using hres
    obtain ⟨h1, h2, h3, _⟩ := h
    obtain ⟨x, hx, hv⟩ := oneRes_sound hT R h1
    obtain ⟨y, hy, hu⟩ := oneRes_sound hT R h2
    obtain ⟨z, hz, hw⟩ := oneRes_sound hT R h3
    refine ⟨.tuple #[x, y, z], ?_, by simp only [RepV, RepL, resL]; exact ⟨_, rfl, _, _, rfl, hv, _, _, rfl, hu, _, _, rfl, hw, rfl⟩⟩
    simp [results_one, hr, hx, hy, hz]
  · rename_i hres
    have hr : fn.results = #[] := by apply Array.ext'; simpa using hres
    exact ⟨_, results_none hr _ _ _, by simp only [RepV, RepL]; exact ⟨[], rfl, rfl⟩⟩
  · exact h.elim

theorem hcall_of (hT : TOK P T) {f : FuncId} {fn : Func} {c : Code} {args : List IV} {hp hp' : List (Nat × Option IBlk)} {v : IV} (hf : P.funcs[f]? = some fn) (hb : fn.body = some c) (hn : args.length ≤ fn.ntmps) (hn2 : fn.ntmps ≤ 1000)
    (h : ∀ F : Fr, F.N = fn.ntmps → IWp P F c ⟨enumT 0 args, hp⟩ (FinH T fn.results v hp')) : HCall P f args hp v hp' := by
  intro F0 μ κ as RH hL
  have hlen := hL.length
  let F : Fr := { F0 with N := fn.ntmps, hN := hn2 }
  have hctx : ∀ μ κ hp w, ctx F μ κ hp w = ctx F0 μ κ hp w := fun _ _ _ _ => rfl
  refine calls_of_wp hf hb (Go.wp_mono (h F rfl μ κ _ F0.w0 ?_) ?_)
  · refine ⟨rfl, ?_, RH.chg, RH.inj, RH.own, fun i => ?_, RH.pin⟩
    · show (((⟨as⟩ : Array Value) ++ Array.replicate (fn.ntmps - (⟨as⟩ : Array Value).size) undef)).size = fn.ntmps
      simp; omega
    · rw [lkT_enum args 0 i (Nat.zero_le _), Nat.sub_zero]
      by_cases hi : i < args.length
      · obtain ⟨u, hu, hr⟩ := hL.get i hi
        have : ((⟨as⟩ : Array Value) ++ Array.replicate (fn.ntmps - (⟨as⟩ : Array Value).size) undef).getD i undef = u := by
          rw [Array.getD_eq_getD_getElem?, Array.getElem?_append_left (by simp; omega)]
          simp [hu]
        rw [this]
        exact hr
      · have : args.getD i .junk = .junk := by simp [List.getD, List.getElem?_eq_none (Nat.le_of_not_lt hi)]
        rw [this]
        simp [RepV]
  · intro e a w' ⟨μ1, κ1, s, R, hq⟩
    have key : ((resA T fn.results s).2 ∧ ∃ ρ, SLe ρ ⟨[(0, (resA T fn.results s).1)], s.hp⟩ ⟨[(0, v)], hp'⟩) →
        a.defers = [] ∧ ∃ x, (results fn a.tmps).run P w' = .ok x w' ∧ (∃ y μ' κ', Ending.returned x = .returned y ∧ RepH F0 μ' κ' hp' w' ∧ RepV (ctx F0 μ' κ' hp' w') v y) := by
      rintro ⟨hg, ρ, hL, hP⟩
      refine ⟨R.defers, ?_⟩
      obtain ⟨x, hx, hv⟩ := resA_sound hT R hg
      have RH1 : RepH F μ1 κ1 s.hp w' := R.toH
      obtain ⟨h1, _, h3⟩ := sle_own (s := ⟨[(0, (resA T fn.results s).1)], s.hp⟩) (s' := ⟨[(0, v)], hp'⟩) RH1 hL
      have hc := conv_rep (s := ⟨[(0, (resA T fn.results s).1)], s.hp⟩) (s' := ⟨[(0, v)], hp'⟩) RH1 hL _ _ x hL.1.1 (by simpa [lkT] using hv)
      exact ⟨x, hx, x, fun i => μ1 (ρ i), fun i => κ1 (ρ i), rfl, ⟨R.chg, h1, h3, fun id q1 q2 => by rw [hP id q1 q2]; exact R.pin id q1 q2⟩, hc⟩
    cases e with
    | normal => exact key hq
    | ret => exact key hq
    | _ => exact hq.elim

end
end Go.Ideal
