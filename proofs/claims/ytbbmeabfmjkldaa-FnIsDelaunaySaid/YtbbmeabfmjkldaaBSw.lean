/- Contracts: sweeps of points in order (reference). A copy of what stands in B49: never import both. -/
import Derived.Test.YtbbmeabfmjkldaaB48
set_option linter.unusedVariables false
set_option linter.unusedSimpArgs false
set_option maxHeartbeats 1600000
set_option maxRecDepth 100000
namespace Go.Proofs.Ytbbmeabfmjkldaa
open Go Go.Ideal Go.Pl Go.Sort

/-- What the sweep answers. -/
def swV (l : List Pt) : List Tr := if siteB l then sweepP l else []
def g_spec_SweepTriangles : List (Nat × PSpec) := [(49, sp_spec_validSites), (50, sp_spec_sweep)]
theorem gok_spec_SweepTriangles : GOK Try.prog g_spec_SweepTriangles := gok_cons gk_spec_validSites en_spec_validSites (gok_cons gk_spec_sweep en_spec_sweep (gok0))
theorem lk_spec_SweepTriangles_spec_validSites : lkG g_spec_SweepTriangles 49 = sp_spec_validSites := rfl
theorem lk_spec_SweepTriangles_spec_sweep : lkG g_spec_SweepTriangles 50 = sp_spec_sweep := rfl
def h_spec_SweepTriangles : List (Nat × HSpec) := []
theorem hok_spec_SweepTriangles : HOK Try.prog h_spec_SweepTriangles := hok0
theorem c_spec_SweepTriangles (l : List Pt)  : ICall Try.prog 27 [.sl 2 (encPs l)] (.sl 3 (encTs (swV l))) := by
  refine icall_V (G := g_spec_SweepTriangles) (H := []) [] tabOK mixed gok_spec_SweepTriangles hok_spec_SweepTriangles Try.func27 rfl Try.ntmps27 Try.results27 rfl (by kernel_rfl) fun F hN hlen => ?_
  cases hk : siteB l with
  | false =>
    have e : swV l = [] := by rw [swV, hk]; rfl
    have e0n : encTs [] = [] := rfl
    simp only [V_seq, V_ret, V_region, V_cond, brW_true, W_nil, W_cons, effOp2, KN_seq, KXr_nil, KXr_seq, QE, asB, effOp, effPure, effCall, giveUp, hasAll, pureV, ofC, strip, lkT, lkH, ISt.app, opI, gO, gB, allB, gval, wrapG, dstOK, setD, lendV, lendP, lent, lentP, idsV, idsL, lkHS, flat, clean, callArgs, callFn, allLent, enumT, Gives, Ideal.Fin, conv, conv0, Op.operands, reduceIte, reduceCtorEq, cond_true, Bool.or_false, Bool.not_true, Bool.not_false, Nat.reduceLT, Nat.reduceEqDiff, and_self, implies_true, List.map_cons, List.map_nil, List.nil_append, List.cons_append, List.append_nil, ex_clo, or_self, hN, isPs_enc, toPs_enc, lk_spec_SweepTriangles_spec_validSites, sp_spec_validSites, hk, e, e0n]
  | true =>
    have e : swV l = sweepP l := by rw [swV, hk]; rfl
    simp only [V_seq, V_skip, V_ret, V_region, V_cond, brW_false, W_nil, W_cons, effOp2, KN_seq, KXr_nil, QE, asB, effOp, effPure, effCall, giveUp, hasAll, pureV, ofC, strip, lkT, lkH, ISt.app, opI, gO, gB, allB, gval, wrapG, dstOK, setD, lendV, lendP, lent, lentP, idsV, idsL, lkHS, flat, clean, callArgs, callFn, allLent, enumT, Gives, Ideal.Fin, conv, conv0, Op.operands, reduceIte, reduceCtorEq, cond_true, cond_false, Bool.or_false, Bool.not_true, Nat.reduceLT, Nat.reduceEqDiff, and_self, implies_true, List.map_cons, List.map_nil, List.nil_append, List.cons_append, List.append_nil, ex_clo, or_true, or_self, Bool.false_eq_true, hN, isPs_enc, toPs_enc, lk_spec_SweepTriangles_spec_validSites, lk_spec_SweepTriangles_spec_sweep, sp_spec_validSites, sp_spec_sweep, hk, e]
def sp_spec_SweepTriangles : PSpec := ⟨fun xs => match xs with | [.sl 2 les] => isPs les | _ => False, fun xs => match xs with | [.sl _ les] => (fun (l : List Pt) => .sl 3 (encTs (swV l))) (toPs les) | _ => .junk, false⟩
theorem gk_spec_SweepTriangles : ∀ args, sp_spec_SweepTriangles.pre args → ICall Try.prog 27 args (sp_spec_SweepTriangles.val args) := by
  intro args h
  unfold sp_spec_SweepTriangles at h ⊢; simp only at h ⊢; split at h
  · have h0 := h
    obtain ⟨l0, rfl⟩ := isP_ex h0
    simp only [toPs_enc] at *
    exact c_spec_SweepTriangles _ 
  · exact h.elim
theorem en_spec_SweepTriangles : Enters Try.prog 27 := enters_of Try.func27 (by kernel_rfl) rfl

end Go.Proofs.Ytbbmeabfmjkldaa
