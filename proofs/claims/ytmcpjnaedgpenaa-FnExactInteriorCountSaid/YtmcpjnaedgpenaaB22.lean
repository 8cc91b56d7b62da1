/- The exact laws on simple polygons: the walks. -/
import Derived.Test.YtmcpjnaedgpenaaB21
import Derived.Test.YtmcpjnaedgpenaaBX
set_option linter.unusedVariables false
set_option linter.unusedSimpArgs false
namespace Go.Proofs.Ytmcpjnaedgpenaa
open Go Go.Ideal Go.Pl Go.Sort

def g_laws_FnExactIsSimple : List (Nat × PSpec) := [(20, sp_laws_szPointS), (28, sp_spec_IsSimple), (29, sp_impl_IsSimple), (26, sp_laws_eqPointS)]
theorem gok_laws_FnExactIsSimple : GOK Try.prog g_laws_FnExactIsSimple := gok_cons gk_laws_szPointS en_laws_szPointS (gok_cons gk_spec_IsSimple en_spec_IsSimple (gok_cons gk_impl_IsSimple en_impl_IsSimple (gok_cons gk_laws_eqPointS en_laws_eqPointS (gok0))))
theorem lk_laws_FnExactIsSimple_laws_szPointS : lkG g_laws_FnExactIsSimple 20 = sp_laws_szPointS := rfl
theorem lk_laws_FnExactIsSimple_spec_IsSimple : lkG g_laws_FnExactIsSimple 28 = sp_spec_IsSimple := rfl
theorem lk_laws_FnExactIsSimple_impl_IsSimple : lkG g_laws_FnExactIsSimple 29 = sp_impl_IsSimple := rfl
theorem lk_laws_FnExactIsSimple_laws_eqPointS : lkG g_laws_FnExactIsSimple 26 = sp_laws_eqPointS := rfl
def h_laws_FnExactIsSimple : List (Nat × HSpec) := [(23, hs_laws_toPointS)]
theorem hok_laws_FnExactIsSimple : HOK Try.prog h_laws_FnExactIsSimple := hok_cons hk_laws_toPointS en_laws_toPointS (hok0)
theorem lh_laws_FnExactIsSimple_laws_szPointS : lkHS h_laws_FnExactIsSimple 20 = none := rfl
theorem lh_laws_FnExactIsSimple_spec_IsSimple : lkHS h_laws_FnExactIsSimple 28 = none := rfl
theorem lh_laws_FnExactIsSimple_impl_IsSimple : lkHS h_laws_FnExactIsSimple 29 = none := rfl
theorem lh_laws_FnExactIsSimple_laws_eqPointS : lkHS h_laws_FnExactIsSimple 26 = none := rfl
theorem lh_laws_FnExactIsSimple_laws_toPointS : lkHS h_laws_FnExactIsSimple 23 = some hs_laws_toPointS := rfl
theorem c_laws_FnExactIsSimple (l : List Pt)  : ICall Try.prog 5 [.sl 2 (encPs l)] (.bool true) := by
  refine icall_V (G := g_laws_FnExactIsSimple) (H := h_laws_FnExactIsSimple) [] tabOK mixed gok_laws_FnExactIsSimple hok_laws_FnExactIsSimple Try.func5 rfl Try.ntmps5 Try.results5 rfl (by kernel_rfl) fun F hN hlen => ?_
  have hl := hlen 0 2 _ rfl
  have el := len_encPs l
  rw [el] at hl
  by_cases c : l.length ≤ 1048576
  · have hv : szPointV l 1048576 = 1048576 - (l.length : Int) := if_neg (by omega)
    have d1 : decide (1048576 - (l.length : Int) < 0) = false := by simp only [decide_eq_false_iff_not]; omega
    have hs : ∀ x : List Pt, (x == x) = true := fun x => by simp
    have hn : ∀ x : Int, (x != x) = false := fun x => by simp
    have hb : ∀ x : Bool, (x != x) = false := fun x => by simp
    simp only [V_seq, V_skip, V_ret, V_region, V_cond, brW_false, W_nil, W_cons, effOp2, KN_seq, KXr_nil, QE, asB, effOp, effPure, effCall, giveUp, hasAll, Option.isSome_some, skipE, pureV, binV, ofC, strip, lkT, lkH, ISt.app, opI, gO, gB, allB, gval, wrapG, dstOK, setD, mentTm, mentHp, IV.ment, lendV, lendP, lent, lentP, idsV, idsL, flat, clean, callArgs, callFn, allLent, enumT, Gives, Ideal.Fin, conv, conv0, IBlk.shape, Op.operands, reduceIte, reduceCtorEq, cond_true, cond_false, Bool.or_false, Bool.and_true, Bool.not_true, Bool.not_false, Nat.reduceAdd, Nat.reduceSub, Nat.reduceMul, Nat.reduceLT, Nat.reduceLeDiff, Nat.reduceEqDiff, Nat.reduceBEq, Nat.add_zero, Nat.zero_add, not_false_eq_true, beq_self_eq_true, true_and, and_true, and_false, and_self, implies_true, forall_const, List.map_cons, List.map_nil, List.nil_append, List.cons_append, List.append_nil, List.all_nil, Option.map_none, List.drop_zero, ex_clo, true_or, or_self, tab4, hN, isPs_enc, toPs_enc, SLe0, convTm, convHp, convB, sm, effH, mkHC0, mkHC1, lendM, lentM, lentI, allHere, addIds, flatIds, reach, posn, renV, renL, renB, renH, numB, subHp, fwd, bk, bwd, nones, keyOK, noSl, flatBs, List.contains, List.elem, Option.isSome_some, List.nodup_nil, List.nodup_cons, List.not_mem_nil, Option.getD_some, lk_laws_FnExactIsSimple_laws_szPointS, lk_laws_FnExactIsSimple_spec_IsSimple, lk_laws_FnExactIsSimple_impl_IsSimple, lk_laws_FnExactIsSimple_laws_eqPointS, sp_laws_szPointS, sp_spec_IsSimple, sp_impl_IsSimple, sp_laws_eqPointS, lh_laws_FnExactIsSimple_laws_szPointS, lh_laws_FnExactIsSimple_spec_IsSimple, lh_laws_FnExactIsSimple_impl_IsSimple, lh_laws_FnExactIsSimple_laws_eqPointS, lh_laws_FnExactIsSimple_laws_toPointS, hs_laws_toPointS, el, hv, d1, c, take_encPs]
    exact ⟨⟨by omega, by omega⟩, Nat.le_refl _⟩
  · have hv : szPointV l 1048576 = -1 := if_pos (by omega)
    have d1 : decide ((-1 : Int) < 0) = true := by decide
    simp only [V_seq, V_ret, V_region, V_cond, brW_true, W_nil, W_cons, effOp2, KN_seq, KXr_nil, KXr_seq, QE, asB, effOp, effPure, effCall, giveUp, hasAll, pureV, binV, ofC, strip, lkT, lkH, ISt.app, opI, gO, gB, allB, gval, wrapG, dstOK, setD, lendV, lendP, lent, lentP, idsV, idsL, flat, clean, callArgs, callFn, allLent, enumT, Gives, Ideal.Fin, conv, conv0, Op.operands, reduceIte, reduceCtorEq, cond_true, Bool.or_false, Bool.not_true, Nat.reduceLT, Nat.reduceEqDiff, true_and, and_true, and_self, implies_true, forall_const, List.map_cons, List.map_nil, List.nil_append, List.cons_append, List.append_nil, ex_clo, or_self, hN, isPs_enc, toPs_enc, lk_laws_FnExactIsSimple_laws_szPointS, sp_laws_szPointS, lh_laws_FnExactIsSimple_laws_szPointS, hv, d1]
    exact ⟨by omega, by omega⟩
def sp_laws_FnExactIsSimple : PSpec := ⟨fun xs => match xs with | [.sl 2 les] => isPs les | _ => False, fun xs => match xs with | [.sl _ les] => (fun (l : List Pt) => .bool true) (toPs les) | _ => .junk, false⟩
theorem gk_laws_FnExactIsSimple : ∀ args, sp_laws_FnExactIsSimple.pre args → ICall Try.prog 5 args (sp_laws_FnExactIsSimple.val args) := by
  intro args h
  unfold sp_laws_FnExactIsSimple at h ⊢; simp only at h ⊢; split at h
  · have h0 := h
    obtain ⟨l0, rfl⟩ := isP_ex h0
    simp only [toPs_enc] at *
    exact c_laws_FnExactIsSimple _ 
  · exact h.elim
theorem en_laws_FnExactIsSimple : Enters Try.prog 5 := enters_of Try.func5 (by kernel_rfl) rfl

def g_laws_FnExactIsConvex : List (Nat × PSpec) := [(20, sp_laws_szPointS), (37, sp_spec_IsConvex), (38, sp_impl_IsConvex), (26, sp_laws_eqPointS)]
theorem gok_laws_FnExactIsConvex : GOK Try.prog g_laws_FnExactIsConvex := gok_cons gk_laws_szPointS en_laws_szPointS (gok_cons gk_spec_IsConvex en_spec_IsConvex (gok_cons gk_impl_IsConvex en_impl_IsConvex (gok_cons gk_laws_eqPointS en_laws_eqPointS (gok0))))
theorem lk_laws_FnExactIsConvex_laws_szPointS : lkG g_laws_FnExactIsConvex 20 = sp_laws_szPointS := rfl
theorem lk_laws_FnExactIsConvex_spec_IsConvex : lkG g_laws_FnExactIsConvex 37 = sp_spec_IsConvex := rfl
theorem lk_laws_FnExactIsConvex_impl_IsConvex : lkG g_laws_FnExactIsConvex 38 = sp_impl_IsConvex := rfl
theorem lk_laws_FnExactIsConvex_laws_eqPointS : lkG g_laws_FnExactIsConvex 26 = sp_laws_eqPointS := rfl
def h_laws_FnExactIsConvex : List (Nat × HSpec) := [(23, hs_laws_toPointS)]
theorem hok_laws_FnExactIsConvex : HOK Try.prog h_laws_FnExactIsConvex := hok_cons hk_laws_toPointS en_laws_toPointS (hok0)
theorem lh_laws_FnExactIsConvex_laws_szPointS : lkHS h_laws_FnExactIsConvex 20 = none := rfl
theorem lh_laws_FnExactIsConvex_spec_IsConvex : lkHS h_laws_FnExactIsConvex 37 = none := rfl
theorem lh_laws_FnExactIsConvex_impl_IsConvex : lkHS h_laws_FnExactIsConvex 38 = none := rfl
theorem lh_laws_FnExactIsConvex_laws_eqPointS : lkHS h_laws_FnExactIsConvex 26 = none := rfl
theorem lh_laws_FnExactIsConvex_laws_toPointS : lkHS h_laws_FnExactIsConvex 23 = some hs_laws_toPointS := rfl
theorem c_laws_FnExactIsConvex (l : List Pt)  : ICall Try.prog 7 [.sl 2 (encPs l)] (.bool true) := by
  refine icall_V (G := g_laws_FnExactIsConvex) (H := h_laws_FnExactIsConvex) [] tabOK mixed gok_laws_FnExactIsConvex hok_laws_FnExactIsConvex Try.func7 rfl Try.ntmps7 Try.results7 rfl (by kernel_rfl) fun F hN hlen => ?_
  have hl := hlen 0 2 _ rfl
  have el := len_encPs l
  rw [el] at hl
  by_cases c : l.length ≤ 1048576
  · have hv : szPointV l 1048576 = 1048576 - (l.length : Int) := if_neg (by omega)
    have d1 : decide (1048576 - (l.length : Int) < 0) = false := by simp only [decide_eq_false_iff_not]; omega
    have hs : ∀ x : List Pt, (x == x) = true := fun x => by simp
    have hn : ∀ x : Int, (x != x) = false := fun x => by simp
    have hb : ∀ x : Bool, (x != x) = false := fun x => by simp
    simp only [V_seq, V_skip, V_ret, V_region, V_cond, brW_false, W_nil, W_cons, effOp2, KN_seq, KXr_nil, QE, asB, effOp, effPure, effCall, giveUp, hasAll, Option.isSome_some, skipE, pureV, binV, ofC, strip, lkT, lkH, ISt.app, opI, gO, gB, allB, gval, wrapG, dstOK, setD, mentTm, mentHp, IV.ment, lendV, lendP, lent, lentP, idsV, idsL, flat, clean, callArgs, callFn, allLent, enumT, Gives, Ideal.Fin, conv, conv0, IBlk.shape, Op.operands, reduceIte, reduceCtorEq, cond_true, cond_false, Bool.or_false, Bool.and_true, Bool.not_true, Bool.not_false, Nat.reduceAdd, Nat.reduceSub, Nat.reduceMul, Nat.reduceLT, Nat.reduceLeDiff, Nat.reduceEqDiff, Nat.reduceBEq, Nat.add_zero, Nat.zero_add, not_false_eq_true, beq_self_eq_true, true_and, and_true, and_false, and_self, implies_true, forall_const, List.map_cons, List.map_nil, List.nil_append, List.cons_append, List.append_nil, List.all_nil, Option.map_none, List.drop_zero, ex_clo, true_or, or_self, tab4, hN, isPs_enc, toPs_enc, SLe0, convTm, convHp, convB, sm, effH, mkHC0, mkHC1, lendM, lentM, lentI, allHere, addIds, flatIds, reach, posn, renV, renL, renB, renH, numB, subHp, fwd, bk, bwd, nones, keyOK, noSl, flatBs, List.contains, List.elem, Option.isSome_some, List.nodup_nil, List.nodup_cons, List.not_mem_nil, Option.getD_some, lk_laws_FnExactIsConvex_laws_szPointS, lk_laws_FnExactIsConvex_spec_IsConvex, lk_laws_FnExactIsConvex_impl_IsConvex, lk_laws_FnExactIsConvex_laws_eqPointS, sp_laws_szPointS, sp_spec_IsConvex, sp_impl_IsConvex, sp_laws_eqPointS, lh_laws_FnExactIsConvex_laws_szPointS, lh_laws_FnExactIsConvex_spec_IsConvex, lh_laws_FnExactIsConvex_impl_IsConvex, lh_laws_FnExactIsConvex_laws_eqPointS, lh_laws_FnExactIsConvex_laws_toPointS, hs_laws_toPointS, el, hv, d1, c, take_encPs]
    exact ⟨⟨by omega, by omega⟩, Nat.le_refl _⟩
  · have hv : szPointV l 1048576 = -1 := if_pos (by omega)
    have d1 : decide ((-1 : Int) < 0) = true := by decide
    simp only [V_seq, V_ret, V_region, V_cond, brW_true, W_nil, W_cons, effOp2, KN_seq, KXr_nil, KXr_seq, QE, asB, effOp, effPure, effCall, giveUp, hasAll, pureV, binV, ofC, strip, lkT, lkH, ISt.app, opI, gO, gB, allB, gval, wrapG, dstOK, setD, lendV, lendP, lent, lentP, idsV, idsL, flat, clean, callArgs, callFn, allLent, enumT, Gives, Ideal.Fin, conv, conv0, Op.operands, reduceIte, reduceCtorEq, cond_true, Bool.or_false, Bool.not_true, Nat.reduceLT, Nat.reduceEqDiff, true_and, and_true, and_self, implies_true, forall_const, List.map_cons, List.map_nil, List.nil_append, List.cons_append, List.append_nil, ex_clo, or_self, hN, isPs_enc, toPs_enc, lk_laws_FnExactIsConvex_laws_szPointS, sp_laws_szPointS, lh_laws_FnExactIsConvex_laws_szPointS, hv, d1]
    exact ⟨by omega, by omega⟩
def sp_laws_FnExactIsConvex : PSpec := ⟨fun xs => match xs with | [.sl 2 les] => isPs les | _ => False, fun xs => match xs with | [.sl _ les] => (fun (l : List Pt) => .bool true) (toPs les) | _ => .junk, false⟩
theorem gk_laws_FnExactIsConvex : ∀ args, sp_laws_FnExactIsConvex.pre args → ICall Try.prog 7 args (sp_laws_FnExactIsConvex.val args) := by
  intro args h
  unfold sp_laws_FnExactIsConvex at h ⊢; simp only at h ⊢; split at h
  · have h0 := h
    obtain ⟨l0, rfl⟩ := isP_ex h0
    simp only [toPs_enc] at *
    exact c_laws_FnExactIsConvex _ 
  · exact h.elim
theorem en_laws_FnExactIsConvex : Enters Try.prog 7 := enters_of Try.func7 (by kernel_rfl) rfl

def g_laws_FnExactDoubleArea : List (Nat × PSpec) := [(20, sp_laws_szPointS), (39, sp_spec_DoubleArea), (40, sp_impl_DoubleArea), (26, sp_laws_eqPointS)]
theorem gok_laws_FnExactDoubleArea : GOK Try.prog g_laws_FnExactDoubleArea := gok_cons gk_laws_szPointS en_laws_szPointS (gok_cons gk_spec_DoubleArea en_spec_DoubleArea (gok_cons gk_impl_DoubleArea en_impl_DoubleArea (gok_cons gk_laws_eqPointS en_laws_eqPointS (gok0))))
theorem lk_laws_FnExactDoubleArea_laws_szPointS : lkG g_laws_FnExactDoubleArea 20 = sp_laws_szPointS := rfl
theorem lk_laws_FnExactDoubleArea_spec_DoubleArea : lkG g_laws_FnExactDoubleArea 39 = sp_spec_DoubleArea := rfl
theorem lk_laws_FnExactDoubleArea_impl_DoubleArea : lkG g_laws_FnExactDoubleArea 40 = sp_impl_DoubleArea := rfl
theorem lk_laws_FnExactDoubleArea_laws_eqPointS : lkG g_laws_FnExactDoubleArea 26 = sp_laws_eqPointS := rfl
def h_laws_FnExactDoubleArea : List (Nat × HSpec) := [(23, hs_laws_toPointS)]
theorem hok_laws_FnExactDoubleArea : HOK Try.prog h_laws_FnExactDoubleArea := hok_cons hk_laws_toPointS en_laws_toPointS (hok0)
theorem lh_laws_FnExactDoubleArea_laws_szPointS : lkHS h_laws_FnExactDoubleArea 20 = none := rfl
theorem lh_laws_FnExactDoubleArea_spec_DoubleArea : lkHS h_laws_FnExactDoubleArea 39 = none := rfl
theorem lh_laws_FnExactDoubleArea_impl_DoubleArea : lkHS h_laws_FnExactDoubleArea 40 = none := rfl
theorem lh_laws_FnExactDoubleArea_laws_eqPointS : lkHS h_laws_FnExactDoubleArea 26 = none := rfl
theorem lh_laws_FnExactDoubleArea_laws_toPointS : lkHS h_laws_FnExactDoubleArea 23 = some hs_laws_toPointS := rfl
theorem c_laws_FnExactDoubleArea (l : List Pt)  : ICall Try.prog 8 [.sl 2 (encPs l)] (.bool true) := by
  refine icall_V (G := g_laws_FnExactDoubleArea) (H := h_laws_FnExactDoubleArea) [] tabOK mixed gok_laws_FnExactDoubleArea hok_laws_FnExactDoubleArea Try.func8 rfl Try.ntmps8 Try.results8 rfl (by kernel_rfl) fun F hN hlen => ?_
  have hl := hlen 0 2 _ rfl
  have el := len_encPs l
  rw [el] at hl
  by_cases c : l.length ≤ 1048576
  · have hv : szPointV l 1048576 = 1048576 - (l.length : Int) := if_neg (by omega)
    have d1 : decide (1048576 - (l.length : Int) < 0) = false := by simp only [decide_eq_false_iff_not]; omega
    have hs : ∀ x : List Pt, (x == x) = true := fun x => by simp
    have hn : ∀ x : Int, (x != x) = false := fun x => by simp
    have hb : ∀ x : Bool, (x != x) = false := fun x => by simp
    simp only [V_seq, V_skip, V_ret, V_region, V_cond, brW_false, W_nil, W_cons, effOp2, KN_seq, KXr_nil, QE, asB, effOp, effPure, effCall, giveUp, hasAll, Option.isSome_some, skipE, pureV, binV, ofC, strip, lkT, lkH, ISt.app, opI, gO, gB, allB, gval, wrapG, dstOK, setD, mentTm, mentHp, IV.ment, lendV, lendP, lent, lentP, idsV, idsL, flat, clean, callArgs, callFn, allLent, enumT, Gives, Ideal.Fin, conv, conv0, IBlk.shape, Op.operands, reduceIte, reduceCtorEq, cond_true, cond_false, Bool.or_false, Bool.and_true, Bool.not_true, Bool.not_false, Nat.reduceAdd, Nat.reduceSub, Nat.reduceMul, Nat.reduceLT, Nat.reduceLeDiff, Nat.reduceEqDiff, Nat.reduceBEq, Nat.add_zero, Nat.zero_add, not_false_eq_true, beq_self_eq_true, true_and, and_true, and_false, and_self, implies_true, forall_const, List.map_cons, List.map_nil, List.nil_append, List.cons_append, List.append_nil, List.all_nil, Option.map_none, List.drop_zero, ex_clo, true_or, or_self, hN, isPs_enc, toPs_enc, SLe0, convTm, convHp, convB, sm, effH, mkHC0, mkHC1, lendM, lentM, lentI, allHere, addIds, flatIds, reach, posn, renV, renL, renB, renH, numB, subHp, fwd, bk, bwd, nones, keyOK, noSl, flatBs, List.contains, List.elem, Option.isSome_some, List.nodup_nil, List.nodup_cons, List.not_mem_nil, Option.getD_some, lk_laws_FnExactDoubleArea_laws_szPointS, lk_laws_FnExactDoubleArea_spec_DoubleArea, lk_laws_FnExactDoubleArea_impl_DoubleArea, lk_laws_FnExactDoubleArea_laws_eqPointS, sp_laws_szPointS, sp_spec_DoubleArea, sp_impl_DoubleArea, sp_laws_eqPointS, lh_laws_FnExactDoubleArea_laws_szPointS, lh_laws_FnExactDoubleArea_spec_DoubleArea, lh_laws_FnExactDoubleArea_impl_DoubleArea, lh_laws_FnExactDoubleArea_laws_eqPointS, lh_laws_FnExactDoubleArea_laws_toPointS, hs_laws_toPointS, el, hv, d1, c, take_encPs, hn]
    exact ⟨⟨by omega, by omega⟩, Nat.le_refl _⟩
  · have hv : szPointV l 1048576 = -1 := if_pos (by omega)
    have d1 : decide ((-1 : Int) < 0) = true := by decide
    simp only [V_seq, V_ret, V_region, V_cond, brW_true, W_nil, W_cons, effOp2, KN_seq, KXr_nil, KXr_seq, QE, asB, effOp, effPure, effCall, giveUp, hasAll, pureV, binV, ofC, strip, lkT, lkH, ISt.app, opI, gO, gB, allB, gval, wrapG, dstOK, setD, lendV, lendP, lent, lentP, idsV, idsL, flat, clean, callArgs, callFn, allLent, enumT, Gives, Ideal.Fin, conv, conv0, Op.operands, reduceIte, reduceCtorEq, cond_true, Bool.or_false, Bool.not_true, Nat.reduceLT, Nat.reduceEqDiff, true_and, and_true, and_self, implies_true, forall_const, List.map_cons, List.map_nil, List.nil_append, List.cons_append, List.append_nil, ex_clo, or_self, hN, isPs_enc, toPs_enc, lk_laws_FnExactDoubleArea_laws_szPointS, sp_laws_szPointS, lh_laws_FnExactDoubleArea_laws_szPointS, hv, d1]
    exact ⟨by omega, by omega⟩
def sp_laws_FnExactDoubleArea : PSpec := ⟨fun xs => match xs with | [.sl 2 les] => isPs les | _ => False, fun xs => match xs with | [.sl _ les] => (fun (l : List Pt) => .bool true) (toPs les) | _ => .junk, false⟩
theorem gk_laws_FnExactDoubleArea : ∀ args, sp_laws_FnExactDoubleArea.pre args → ICall Try.prog 8 args (sp_laws_FnExactDoubleArea.val args) := by
  intro args h
  unfold sp_laws_FnExactDoubleArea at h ⊢; simp only at h ⊢; split at h
  · have h0 := h
    obtain ⟨l0, rfl⟩ := isP_ex h0
    simp only [toPs_enc] at *
    exact c_laws_FnExactDoubleArea _ 
  · exact h.elim
theorem en_laws_FnExactDoubleArea : Enters Try.prog 8 := enters_of Try.func8 (by kernel_rfl) rfl

def g_laws_FnExactBoundaryCount : List (Nat × PSpec) := [(20, sp_laws_szPointS), (46, sp_spec_BoundaryCount), (47, sp_impl_BoundaryCount), (26, sp_laws_eqPointS)]
theorem gok_laws_FnExactBoundaryCount : GOK Try.prog g_laws_FnExactBoundaryCount := gok_cons gk_laws_szPointS en_laws_szPointS (gok_cons gk_spec_BoundaryCount en_spec_BoundaryCount (gok_cons gk_impl_BoundaryCount en_impl_BoundaryCount (gok_cons gk_laws_eqPointS en_laws_eqPointS (gok0))))
theorem lk_laws_FnExactBoundaryCount_laws_szPointS : lkG g_laws_FnExactBoundaryCount 20 = sp_laws_szPointS := rfl
theorem lk_laws_FnExactBoundaryCount_spec_BoundaryCount : lkG g_laws_FnExactBoundaryCount 46 = sp_spec_BoundaryCount := rfl
theorem lk_laws_FnExactBoundaryCount_impl_BoundaryCount : lkG g_laws_FnExactBoundaryCount 47 = sp_impl_BoundaryCount := rfl
theorem lk_laws_FnExactBoundaryCount_laws_eqPointS : lkG g_laws_FnExactBoundaryCount 26 = sp_laws_eqPointS := rfl
def h_laws_FnExactBoundaryCount : List (Nat × HSpec) := [(23, hs_laws_toPointS)]
theorem hok_laws_FnExactBoundaryCount : HOK Try.prog h_laws_FnExactBoundaryCount := hok_cons hk_laws_toPointS en_laws_toPointS (hok0)
theorem lh_laws_FnExactBoundaryCount_laws_szPointS : lkHS h_laws_FnExactBoundaryCount 20 = none := rfl
theorem lh_laws_FnExactBoundaryCount_spec_BoundaryCount : lkHS h_laws_FnExactBoundaryCount 46 = none := rfl
theorem lh_laws_FnExactBoundaryCount_impl_BoundaryCount : lkHS h_laws_FnExactBoundaryCount 47 = none := rfl
theorem lh_laws_FnExactBoundaryCount_laws_eqPointS : lkHS h_laws_FnExactBoundaryCount 26 = none := rfl
theorem lh_laws_FnExactBoundaryCount_laws_toPointS : lkHS h_laws_FnExactBoundaryCount 23 = some hs_laws_toPointS := rfl
theorem c_laws_FnExactBoundaryCount (l : List Pt)  : ICall Try.prog 11 [.sl 2 (encPs l)] (.bool true) := by
  refine icall_V (G := g_laws_FnExactBoundaryCount) (H := h_laws_FnExactBoundaryCount) [] tabOK mixed gok_laws_FnExactBoundaryCount hok_laws_FnExactBoundaryCount Try.func11 rfl Try.ntmps11 Try.results11 rfl (by kernel_rfl) fun F hN hlen => ?_
  have hl := hlen 0 2 _ rfl
  have el := len_encPs l
  rw [el] at hl
  by_cases c : l.length ≤ 1048576
  · have hv : szPointV l 1048576 = 1048576 - (l.length : Int) := if_neg (by omega)
    have d1 : decide (1048576 - (l.length : Int) < 0) = false := by simp only [decide_eq_false_iff_not]; omega
    have hs : ∀ x : List Pt, (x == x) = true := fun x => by simp
    have hn : ∀ x : Int, (x != x) = false := fun x => by simp
    have hb : ∀ x : Bool, (x != x) = false := fun x => by simp
    simp only [V_seq, V_skip, V_ret, V_region, V_cond, brW_false, W_nil, W_cons, effOp2, KN_seq, KXr_nil, QE, asB, effOp, effPure, effCall, giveUp, hasAll, Option.isSome_some, skipE, pureV, binV, ofC, strip, lkT, lkH, ISt.app, opI, gO, gB, allB, gval, wrapG, dstOK, setD, mentTm, mentHp, IV.ment, lendV, lendP, lent, lentP, idsV, idsL, flat, clean, callArgs, callFn, allLent, enumT, Gives, Ideal.Fin, conv, conv0, IBlk.shape, Op.operands, reduceIte, reduceCtorEq, cond_true, cond_false, Bool.or_false, Bool.and_true, Bool.not_true, Bool.not_false, Nat.reduceAdd, Nat.reduceSub, Nat.reduceMul, Nat.reduceLT, Nat.reduceLeDiff, Nat.reduceEqDiff, Nat.reduceBEq, Nat.add_zero, Nat.zero_add, not_false_eq_true, beq_self_eq_true, true_and, and_true, and_false, and_self, implies_true, forall_const, List.map_cons, List.map_nil, List.nil_append, List.cons_append, List.append_nil, List.all_nil, Option.map_none, List.drop_zero, ex_clo, true_or, or_self, hN, isPs_enc, toPs_enc, SLe0, convTm, convHp, convB, sm, effH, mkHC0, mkHC1, lendM, lentM, lentI, allHere, addIds, flatIds, reach, posn, renV, renL, renB, renH, numB, subHp, fwd, bk, bwd, nones, keyOK, noSl, flatBs, List.contains, List.elem, Option.isSome_some, List.nodup_nil, List.nodup_cons, List.not_mem_nil, Option.getD_some, lk_laws_FnExactBoundaryCount_laws_szPointS, lk_laws_FnExactBoundaryCount_spec_BoundaryCount, lk_laws_FnExactBoundaryCount_impl_BoundaryCount, lk_laws_FnExactBoundaryCount_laws_eqPointS, sp_laws_szPointS, sp_spec_BoundaryCount, sp_impl_BoundaryCount, sp_laws_eqPointS, lh_laws_FnExactBoundaryCount_laws_szPointS, lh_laws_FnExactBoundaryCount_spec_BoundaryCount, lh_laws_FnExactBoundaryCount_impl_BoundaryCount, lh_laws_FnExactBoundaryCount_laws_eqPointS, lh_laws_FnExactBoundaryCount_laws_toPointS, hs_laws_toPointS, el, hv, d1, c, take_encPs, hn]
    exact ⟨⟨by omega, by omega⟩, Nat.le_refl _⟩
  · have hv : szPointV l 1048576 = -1 := if_pos (by omega)
    have d1 : decide ((-1 : Int) < 0) = true := by decide
    simp only [V_seq, V_ret, V_region, V_cond, brW_true, W_nil, W_cons, effOp2, KN_seq, KXr_nil, KXr_seq, QE, asB, effOp, effPure, effCall, giveUp, hasAll, pureV, binV, ofC, strip, lkT, lkH, ISt.app, opI, gO, gB, allB, gval, wrapG, dstOK, setD, lendV, lendP, lent, lentP, idsV, idsL, flat, clean, callArgs, callFn, allLent, enumT, Gives, Ideal.Fin, conv, conv0, Op.operands, reduceIte, reduceCtorEq, cond_true, Bool.or_false, Bool.not_true, Nat.reduceLT, Nat.reduceEqDiff, true_and, and_true, and_self, implies_true, forall_const, List.map_cons, List.map_nil, List.nil_append, List.cons_append, List.append_nil, ex_clo, or_self, hN, isPs_enc, toPs_enc, lk_laws_FnExactBoundaryCount_laws_szPointS, sp_laws_szPointS, lh_laws_FnExactBoundaryCount_laws_szPointS, hv, d1]
    exact ⟨by omega, by omega⟩
def sp_laws_FnExactBoundaryCount : PSpec := ⟨fun xs => match xs with | [.sl 2 les] => isPs les | _ => False, fun xs => match xs with | [.sl _ les] => (fun (l : List Pt) => .bool true) (toPs les) | _ => .junk, false⟩
theorem gk_laws_FnExactBoundaryCount : ∀ args, sp_laws_FnExactBoundaryCount.pre args → ICall Try.prog 11 args (sp_laws_FnExactBoundaryCount.val args) := by
  intro args h
  unfold sp_laws_FnExactBoundaryCount at h ⊢; simp only at h ⊢; split at h
  · have h0 := h
    obtain ⟨l0, rfl⟩ := isP_ex h0
    simp only [toPs_enc] at *
    exact c_laws_FnExactBoundaryCount _ 
  · exact h.elim
theorem en_laws_FnExactBoundaryCount : Enters Try.prog 11 := enters_of Try.func11 (by kernel_rfl) rfl

def g_laws_FnExactInteriorCount : List (Nat × PSpec) := [(20, sp_laws_szPointS), (48, sp_spec_InteriorCount), (49, sp_impl_InteriorCount), (26, sp_laws_eqPointS)]
theorem gok_laws_FnExactInteriorCount : GOK Try.prog g_laws_FnExactInteriorCount := gok_cons gk_laws_szPointS en_laws_szPointS (gok_cons gk_spec_InteriorCount en_spec_InteriorCount (gok_cons gk_impl_InteriorCount en_impl_InteriorCount (gok_cons gk_laws_eqPointS en_laws_eqPointS (gok0))))
theorem lk_laws_FnExactInteriorCount_laws_szPointS : lkG g_laws_FnExactInteriorCount 20 = sp_laws_szPointS := rfl
theorem lk_laws_FnExactInteriorCount_spec_InteriorCount : lkG g_laws_FnExactInteriorCount 48 = sp_spec_InteriorCount := rfl
theorem lk_laws_FnExactInteriorCount_impl_InteriorCount : lkG g_laws_FnExactInteriorCount 49 = sp_impl_InteriorCount := rfl
theorem lk_laws_FnExactInteriorCount_laws_eqPointS : lkG g_laws_FnExactInteriorCount 26 = sp_laws_eqPointS := rfl
def h_laws_FnExactInteriorCount : List (Nat × HSpec) := [(23, hs_laws_toPointS)]
theorem hok_laws_FnExactInteriorCount : HOK Try.prog h_laws_FnExactInteriorCount := hok_cons hk_laws_toPointS en_laws_toPointS (hok0)
theorem lh_laws_FnExactInteriorCount_laws_szPointS : lkHS h_laws_FnExactInteriorCount 20 = none := rfl
theorem lh_laws_FnExactInteriorCount_spec_InteriorCount : lkHS h_laws_FnExactInteriorCount 48 = none := rfl
theorem lh_laws_FnExactInteriorCount_impl_InteriorCount : lkHS h_laws_FnExactInteriorCount 49 = none := rfl
theorem lh_laws_FnExactInteriorCount_laws_eqPointS : lkHS h_laws_FnExactInteriorCount 26 = none := rfl
theorem lh_laws_FnExactInteriorCount_laws_toPointS : lkHS h_laws_FnExactInteriorCount 23 = some hs_laws_toPointS := rfl
theorem c_laws_FnExactInteriorCount (l : List Pt)  : ICall Try.prog 12 [.sl 2 (encPs l)] (.bool true) := by
  refine icall_V (G := g_laws_FnExactInteriorCount) (H := h_laws_FnExactInteriorCount) [] tabOK mixed gok_laws_FnExactInteriorCount hok_laws_FnExactInteriorCount Try.func12 rfl Try.ntmps12 Try.results12 rfl (by kernel_rfl) fun F hN hlen => ?_
  have hl := hlen 0 2 _ rfl
  have el := len_encPs l
  rw [el] at hl
  by_cases c : l.length ≤ 1048576
  · have hv : szPointV l 1048576 = 1048576 - (l.length : Int) := if_neg (by omega)
    have d1 : decide (1048576 - (l.length : Int) < 0) = false := by simp only [decide_eq_false_iff_not]; omega
    have hs : ∀ x : List Pt, (x == x) = true := fun x => by simp
    have hn : ∀ x : Int, (x != x) = false := fun x => by simp
    have hb : ∀ x : Bool, (x != x) = false := fun x => by simp
    simp only [V_seq, V_skip, V_ret, V_region, V_cond, brW_false, W_nil, W_cons, effOp2, KN_seq, KXr_nil, QE, asB, effOp, effPure, effCall, giveUp, hasAll, Option.isSome_some, skipE, pureV, binV, ofC, strip, lkT, lkH, ISt.app, opI, gO, gB, allB, gval, wrapG, dstOK, setD, mentTm, mentHp, IV.ment, lendV, lendP, lent, lentP, idsV, idsL, flat, clean, callArgs, callFn, allLent, enumT, Gives, Ideal.Fin, conv, conv0, IBlk.shape, Op.operands, reduceIte, reduceCtorEq, cond_true, cond_false, Bool.or_false, Bool.and_true, Bool.not_true, Bool.not_false, Nat.reduceAdd, Nat.reduceSub, Nat.reduceMul, Nat.reduceLT, Nat.reduceLeDiff, Nat.reduceEqDiff, Nat.reduceBEq, Nat.add_zero, Nat.zero_add, not_false_eq_true, beq_self_eq_true, true_and, and_true, and_false, and_self, implies_true, forall_const, List.map_cons, List.map_nil, List.nil_append, List.cons_append, List.append_nil, List.all_nil, Option.map_none, List.drop_zero, ex_clo, true_or, or_self, hN, isPs_enc, toPs_enc, SLe0, convTm, convHp, convB, sm, effH, mkHC0, mkHC1, lendM, lentM, lentI, allHere, addIds, flatIds, reach, posn, renV, renL, renB, renH, numB, subHp, fwd, bk, bwd, nones, keyOK, noSl, flatBs, List.contains, List.elem, Option.isSome_some, List.nodup_nil, List.nodup_cons, List.not_mem_nil, Option.getD_some, lk_laws_FnExactInteriorCount_laws_szPointS, lk_laws_FnExactInteriorCount_spec_InteriorCount, lk_laws_FnExactInteriorCount_impl_InteriorCount, lk_laws_FnExactInteriorCount_laws_eqPointS, sp_laws_szPointS, sp_spec_InteriorCount, sp_impl_InteriorCount, sp_laws_eqPointS, lh_laws_FnExactInteriorCount_laws_szPointS, lh_laws_FnExactInteriorCount_spec_InteriorCount, lh_laws_FnExactInteriorCount_impl_InteriorCount, lh_laws_FnExactInteriorCount_laws_eqPointS, lh_laws_FnExactInteriorCount_laws_toPointS, hs_laws_toPointS, el, hv, d1, c, take_encPs, hn]
    exact ⟨⟨by omega, by omega⟩, Nat.le_refl _⟩
  · have hv : szPointV l 1048576 = -1 := if_pos (by omega)
    have d1 : decide ((-1 : Int) < 0) = true := by decide
    simp only [V_seq, V_ret, V_region, V_cond, brW_true, W_nil, W_cons, effOp2, KN_seq, KXr_nil, KXr_seq, QE, asB, effOp, effPure, effCall, giveUp, hasAll, pureV, binV, ofC, strip, lkT, lkH, ISt.app, opI, gO, gB, allB, gval, wrapG, dstOK, setD, lendV, lendP, lent, lentP, idsV, idsL, flat, clean, callArgs, callFn, allLent, enumT, Gives, Ideal.Fin, conv, conv0, Op.operands, reduceIte, reduceCtorEq, cond_true, Bool.or_false, Bool.not_true, Nat.reduceLT, Nat.reduceEqDiff, true_and, and_true, and_self, implies_true, forall_const, List.map_cons, List.map_nil, List.nil_append, List.cons_append, List.append_nil, ex_clo, or_self, hN, isPs_enc, toPs_enc, lk_laws_FnExactInteriorCount_laws_szPointS, sp_laws_szPointS, lh_laws_FnExactInteriorCount_laws_szPointS, hv, d1]
    exact ⟨by omega, by omega⟩
def sp_laws_FnExactInteriorCount : PSpec := ⟨fun xs => match xs with | [.sl 2 les] => isPs les | _ => False, fun xs => match xs with | [.sl _ les] => (fun (l : List Pt) => .bool true) (toPs les) | _ => .junk, false⟩
theorem gk_laws_FnExactInteriorCount : ∀ args, sp_laws_FnExactInteriorCount.pre args → ICall Try.prog 12 args (sp_laws_FnExactInteriorCount.val args) := by
  intro args h
  unfold sp_laws_FnExactInteriorCount at h ⊢; simp only at h ⊢; split at h
  · have h0 := h
    obtain ⟨l0, rfl⟩ := isP_ex h0
    simp only [toPs_enc] at *
    exact c_laws_FnExactInteriorCount _ 
  · exact h.elim
theorem en_laws_FnExactInteriorCount : Enters Try.prog 12 := enters_of Try.func12 (by kernel_rfl) rfl


end Go.Proofs.Ytmcpjnaedgpenaa
