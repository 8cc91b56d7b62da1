/- Contracts: squared distances of points. -/
import Derived.Test.YteaanfpkakaaoaaBJ
set_option linter.unusedVariables false
set_option linter.unusedSimpArgs false
namespace Go.Proofs.Yteaanfpkakaaoaa
open Go Go.Ideal Go.Pl Go.Sort

theorem sq_way (a b : Pt) : dotP (wayP b a) (wayP b a) = sqd a b := by unfold dotP wayP sqd; grind
def g_impl_far : List (Nat × PSpec) := [(62, sp_impl_Point_minus), (63, sp_impl_Point_dot)]
theorem gok_impl_far : GOK Try.prog g_impl_far := gok_cons gk_impl_Point_minus en_impl_Point_minus (gok_cons gk_impl_Point_dot en_impl_Point_dot (gok0))
theorem lk_impl_far_impl_Point_minus : lkG g_impl_far 62 = sp_impl_Point_minus := rfl
theorem lk_impl_far_impl_Point_dot : lkG g_impl_far 63 = sp_impl_Point_dot := rfl
def h_impl_far : List (Nat × HSpec) := []
theorem hok_impl_far : HOK Try.prog h_impl_far := hok0
theorem c_impl_far (a : Pt) (b : Pt) (ha : Sm a) (hb : Sm b) : ICall Try.prog 32 [encP a, encP b] (.num .i64 (sqd a b)) := by
  refine icall_V (G := g_impl_far) (H := []) [(1, [(2, 3), (2, 4), (0, 5), (1, 5), (0, 6), (1, 6), (3, 6), (4, 6)])] tabOK mixed gok_impl_far hok_impl_far Try.func32 rfl Try.ntmps32 Try.results32 rfl (by kernel_rfl) fun F hN hlen => ?_
  have hw := hb.way ha
  have g1 := sm_sub hb.1 ha.1
  have g2 := sm_sub hb.2 ha.2
  simp only [V_seq, V_ret, V_region, V_draw, drawW, WS_nil, WS_cons, pairsOf, W_nil, W_cons, effOp2, effOp3, WI_nil, WI_cons, KN_seq, KXr_nil, QE, dynOK, indB, farB, freshB, freshK, freshK1, heapy, effOp, effPure, effNew, effBox, effCall, giveUp, hasAll, skipE, pureV, partV, loadV, solid, IV.cells, ofC, strip, lkT, lkH, ISt.app, opI, gO, gB, allB, gval, wrapG, dstOK, setD, mentTm, mentHp, IV.ment, IV.mentL, oneI, lendV, lendP, lent, lentP, idsV, idsL, lkHS, flat, flatL, clean, cleanL, callArgs, callFn, allLent, enumT, Gives, Ideal.Fin, conv, conv0, Op.operands, Call.operands, List.append_toArray, reduceIte, reduceCtorEq, cond_true, cond_false, Bool.or_false, Bool.and_true, Bool.true_and, Bool.and_eq_true, Bool.not_true, Bool.not_false, Nat.reduceAdd, Nat.reduceLT, Nat.reduceLeDiff, Nat.reduceEqDiff, Nat.reduceBEq, Nat.zero_add, true_and, and_true, and_false, and_self, implies_true, forall_const, List.map_cons, List.map_nil, List.nil_append, List.cons_append, List.append_nil, List.all_cons, List.all_nil, List.getD_cons_zero, List.getD_cons_succ, List.length_cons, List.length_nil, List.take_succ_cons, List.take_zero, List.take_nil, List.drop_succ_cons, List.drop_zero, ex_clo, or_self, tab34, hN, pe, encP, lk_impl_far_impl_Point_minus, lk_impl_far_impl_Point_dot, sp_impl_Point_minus, sp_impl_Point_dot, hw, sq_way]
  omega
def sp_impl_far : PSpec := ⟨fun xs => match xs with | [.agg [.num .i64 a1, .num .i64 a2], .agg [.num .i64 b1, .num .i64 b2]] => ((fun (a : Pt) (b : Pt) => Sm a) (a1, a2) (b1, b2)) ∧ ((fun (a : Pt) (b : Pt) => Sm b) (a1, a2) (b1, b2)) | _ => False, fun xs => match xs with | [.agg [.num _ a1, .num _ a2], .agg [.num _ b1, .num _ b2]] => (fun (a : Pt) (b : Pt) => .num .i64 (sqd a b)) (a1, a2) (b1, b2) | _ => .junk, false⟩
theorem gk_impl_far : ∀ args, sp_impl_far.pre args → ICall Try.prog 32 args (sp_impl_far.val args) := by
  intro args h
  unfold sp_impl_far at h ⊢; simp only at h ⊢; split at h
  · obtain ⟨h0, h1⟩ := h
    simp only [toPs_enc] at *
    exact c_impl_far (_, _) (_, _) h0 h1
  · exact h.elim
theorem en_impl_far : Enters Try.prog 32 := enters_of Try.func32 (by kernel_rfl) rfl

end Go.Proofs.Yteaanfpkakaaoaa
