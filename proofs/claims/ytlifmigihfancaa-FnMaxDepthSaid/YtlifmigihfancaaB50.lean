/- Contracts: rectangles: valid ones; the reference's deepest cell. -/
import Derived.Test.YtlifmigihfancaaB6
import Derived.Test.YtlifmigihfancaaPl27
set_option linter.unusedVariables false
set_option linter.unusedSimpArgs false
set_option maxHeartbeats 1600000
set_option maxRecDepth 100000
namespace Go.Proofs.Ytlifmigihfancaa
open Go Go.Ideal Go.Pl Go.Sort

/-- Is a rectangle valid? -/
def vRc (s : Qd) : Bool := okP s.1 && (okP s.2 && (decide (s.1.1 < s.2.1) && decide (s.1.2 < s.2.2)))
def okRs (l : List Qd) : Bool := l.all vRc && decide (l.length ≤ 12)
theorem vRc_facts {s : Qd} (h : vRc s = true) : (-1000 ≤ s.1.1 ∧ s.1.1 ≤ 1000) ∧ (-1000 ≤ s.1.2 ∧ s.1.2 ≤ 1000) ∧ (-1000 ≤ s.2.1 ∧ s.2.1 ≤ 1000) ∧ (-1000 ≤ s.2.2 ∧ s.2.2 ≤ 1000) ∧ s.1.1 < s.2.1 ∧ s.1.2 < s.2.2 := by
  simp only [vRc, okP, inR, Bool.and_eq_true, decide_eq_true_eq] at h
  omega
def g_impl_Rect_valid : List (Nat × PSpec) := [(88, sp_impl_allValid)]
theorem gok_impl_Rect_valid : GOK Try.prog g_impl_Rect_valid := gok_cons gk_impl_allValid en_impl_allValid (gok0)
theorem lk_impl_Rect_valid_impl_allValid : lkG g_impl_Rect_valid 88 = sp_impl_allValid := rfl
def h_impl_Rect_valid : List (Nat × HSpec) := []
theorem hok_impl_Rect_valid : HOK Try.prog h_impl_Rect_valid := hok0
theorem c_impl_Rect_valid (s : Qd)  : ICall Try.prog 151 [encQ s] (.bool (vRc s)) := by
  refine icall_V (G := g_impl_Rect_valid) (H := []) [] tabOK mixed gok_impl_Rect_valid hok_impl_Rect_valid Try.func151 rfl Try.ntmps151 Try.results151 rfl (by kernel_rfl) fun F hN hlen => ?_
  have hv : vRc s = (okP s.1 && (okP s.2 && (decide (s.1.1 < s.2.1) && decide (s.1.2 < s.2.2)))) := rfl
  cases h1 : okP s.1 with
  | false =>
    rw [h1, Bool.false_and] at hv
    simp only [V_seq, V_ret, V_region, W_nil, W_cons, effOp2, KN_seq, KXr_nil, QE, effOp, effPure, effPick, effNew, effBox, effBuildSlice, effFrz, frz, tmpsOf, effCall, giveUp, hasAll, Option.isSome_some, skipE, pureV, pickV, binV, partV, loadV, faddrV, solid, IV.cells, ofC, strip, lkT, lkH, ISt.app, opI, gO, gB, allB, gval, wrapG, dstOK, setD, mentTm, mentHp, IV.ment, IV.mentL, partsL, eltsI, eltI, oneI, noId', lendV, lendP, lent, lentP, idsV, idsL, lkHS, flat, clean, callArgs, callFn, allLent, enumT, Gives, Ideal.Fin, conv, conv0, IBlk.shape, Op.operands, reduceIte, reduceCtorEq, cond_true, cond_false, Bool.or_false, Bool.and_true, Bool.false_and, Bool.not_true, Nat.reduceAdd, Nat.reduceMul, Nat.reduceLT, Nat.reduceLeDiff, Nat.reduceEqDiff, Nat.reduceBEq, Nat.add_zero, Nat.zero_add, ne_eq, not_false_eq_true, and_true, and_false, and_self, false_implies, implies_true, List.map_cons, List.map_nil, List.nil_append, List.cons_append, List.append_nil, List.all_cons, List.all_nil, Option.map_some, Option.bind_some, List.getElem?_cons_zero, List.getElem?_cons_succ, List.getD_cons_zero, List.getD_cons_succ, List.length_cons, List.length_nil, List.take_succ_cons, List.take_zero, List.take_nil, List.drop_succ_cons, List.drop_zero, ex_clo, bft, or_self, Bool.false_eq_true, tab3, tab23, tab30, tab37, hN, pe, encQ, isPs_nil, toPs_nil, isPs_cons, toPs_cons, lk_impl_Rect_valid_impl_allValid, sp_impl_allValid, h1, hv, List.all_cons, List.all_nil]
  | true =>
    rw [h1, Bool.true_and] at hv
    cases h2 : okP s.2 with
    | false =>
      rw [h2, Bool.false_and] at hv
      simp only [V_seq, V_ret, V_region, W_nil, W_cons, effOp2, KN_seq, KXr_nil, QE, effOp, effPure, effPick, effNew, effBox, effBuildSlice, effFrz, frz, tmpsOf, effCall, giveUp, hasAll, Option.isSome_some, skipE, pureV, pickV, binV, partV, loadV, faddrV, solid, IV.cells, ofC, strip, lkT, lkH, ISt.app, opI, gO, gB, allB, gval, wrapG, dstOK, setD, mentTm, mentHp, IV.ment, IV.mentL, partsL, eltsI, eltI, oneI, noId', lendV, lendP, lent, lentP, idsV, idsL, lkHS, flat, clean, callArgs, callFn, allLent, enumT, Gives, Ideal.Fin, conv, conv0, IBlk.shape, Op.operands, reduceIte, reduceCtorEq, cond_true, cond_false, Bool.or_false, Bool.and_true, Bool.and_false, Bool.not_true, Nat.reduceAdd, Nat.reduceMul, Nat.reduceLT, Nat.reduceLeDiff, Nat.reduceEqDiff, Nat.reduceBEq, Nat.add_zero, Nat.zero_add, ne_eq, not_false_eq_true, and_true, and_false, and_self, false_implies, implies_true, List.map_cons, List.map_nil, List.nil_append, List.cons_append, List.append_nil, List.all_cons, List.all_nil, Option.map_some, Option.bind_some, List.getElem?_cons_zero, List.getElem?_cons_succ, List.getD_cons_zero, List.getD_cons_succ, List.length_cons, List.length_nil, List.take_succ_cons, List.take_zero, List.take_nil, List.drop_succ_cons, List.drop_zero, ex_clo, bft, or_self, Bool.false_eq_true, tab3, tab23, tab30, tab37, hN, pe, encQ, isPs_nil, toPs_nil, isPs_cons, toPs_cons, lk_impl_Rect_valid_impl_allValid, sp_impl_allValid, h1, h2, hv, List.all_cons, List.all_nil]
    | true =>
      rw [h2, Bool.true_and] at hv
      cases h3 : decide (s.1.1 < s.2.1) with
      | false =>
        rw [h3, Bool.false_and] at hv
        simp only [V_seq, V_ret, V_region, W_nil, W_cons, effOp2, KN_seq, KXr_nil, QE, effOp, effPure, effPick, effNew, effBox, effBuildSlice, effFrz, frz, tmpsOf, effCall, giveUp, hasAll, Option.isSome_some, skipE, pureV, pickV, binV, partV, loadV, faddrV, solid, IV.cells, ofC, strip, lkT, lkH, ISt.app, opI, gO, gB, allB, gval, wrapG, dstOK, setD, mentTm, mentHp, IV.ment, IV.mentL, partsL, eltsI, eltI, oneI, noId', lendV, lendP, lent, lentP, idsV, idsL, lkHS, flat, clean, callArgs, callFn, allLent, enumT, Gives, Ideal.Fin, conv, conv0, IBlk.shape, Op.operands, reduceIte, reduceCtorEq, cond_true, cond_false, Bool.or_false, Bool.and_true, Bool.not_true, Nat.reduceAdd, Nat.reduceMul, Nat.reduceLT, Nat.reduceLeDiff, Nat.reduceEqDiff, Nat.reduceBEq, Nat.add_zero, Nat.zero_add, ne_eq, not_false_eq_true, beq_self_eq_true, and_true, and_false, and_self, false_implies, implies_true, List.map_cons, List.map_nil, List.nil_append, List.cons_append, List.append_nil, List.all_cons, List.all_nil, Option.map_some, Option.bind_some, List.getElem?_cons_zero, List.getElem?_cons_succ, List.getD_cons_zero, List.getD_cons_succ, List.length_cons, List.length_nil, List.take_succ_cons, List.take_zero, List.take_nil, List.drop_succ_cons, List.drop_zero, ex_clo, bft, or_self, Bool.true_eq_false, Bool.false_eq_true, tab3, tab23, tab30, tab37, hN, pe, encQ, isPs_nil, toPs_nil, isPs_cons, toPs_cons, lk_impl_Rect_valid_impl_allValid, sp_impl_allValid, h1, h2, h3, hv, List.all_cons, List.all_nil]
      | true =>
        rw [h3, Bool.true_and] at hv
        simp only [V_seq, V_ret, V_region, W_nil, W_cons, effOp2, KN_seq, KXr_nil, QE, effOp, effPure, effPick, effNew, effBox, effBuildSlice, effFrz, frz, tmpsOf, effCall, giveUp, hasAll, Option.isSome_some, skipE, pureV, pickV, binV, partV, loadV, faddrV, solid, IV.cells, ofC, strip, lkT, lkH, ISt.app, opI, gO, gB, allB, gval, wrapG, dstOK, setD, mentTm, mentHp, IV.ment, IV.mentL, partsL, eltsI, eltI, oneI, noId', lendV, lendP, lent, lentP, idsV, idsL, lkHS, flat, clean, callArgs, callFn, allLent, enumT, Gives, Ideal.Fin, conv, conv0, IBlk.shape, Op.operands, reduceIte, reduceCtorEq, cond_true, Bool.or_false, Bool.and_true, Bool.not_true, Nat.reduceAdd, Nat.reduceMul, Nat.reduceLT, Nat.reduceLeDiff, Nat.reduceEqDiff, Nat.reduceBEq, Nat.add_zero, Nat.zero_add, ne_eq, not_false_eq_true, beq_self_eq_true, and_false, and_self, implies_true, List.map_cons, List.map_nil, List.nil_append, List.cons_append, List.append_nil, List.all_cons, List.all_nil, Option.map_some, Option.bind_some, List.getElem?_cons_zero, List.getElem?_cons_succ, List.getD_cons_zero, List.getD_cons_succ, List.length_cons, List.length_nil, List.take_succ_cons, List.take_zero, List.take_nil, List.drop_succ_cons, List.drop_zero, ex_clo, or_self, Bool.true_eq_false, tab3, tab23, tab30, tab37, hN, pe, encQ, isPs_nil, toPs_nil, isPs_cons, toPs_cons, lk_impl_Rect_valid_impl_allValid, sp_impl_allValid, h1, h2, h3, hv, List.all_cons, List.all_nil]
def sp_impl_Rect_valid : PSpec := ⟨fun xs => match xs with | [.agg [.num .i64 s1, .num .i64 s2, .num .i64 s3, .num .i64 s4]] => True | _ => False, fun xs => match xs with | [.agg [.num _ s1, .num _ s2, .num _ s3, .num _ s4]] => (fun (s : Qd) => .bool (vRc s)) ((s1, s2), (s3, s4)) | _ => .junk, false⟩
theorem gk_impl_Rect_valid : ∀ args, sp_impl_Rect_valid.pre args → ICall Try.prog 151 args (sp_impl_Rect_valid.val args) := by
  intro args h
  unfold sp_impl_Rect_valid at h ⊢; simp only at h ⊢; split at h
  · exact c_impl_Rect_valid ((_, _), (_, _))
  · exact h.elim
theorem en_impl_Rect_valid : Enters Try.prog 151 := enters_of Try.func151 (by kernel_rfl) rfl

def g_spec_validRect : List (Nat × PSpec) := [(90, sp_spec_validPoint)]
theorem gok_spec_validRect : GOK Try.prog g_spec_validRect := gok_cons gk_spec_validPoint en_spec_validPoint (gok0)
theorem lk_spec_validRect_spec_validPoint : lkG g_spec_validRect 90 = sp_spec_validPoint := rfl
def h_spec_validRect : List (Nat × HSpec) := []
theorem hok_spec_validRect : HOK Try.prog h_spec_validRect := hok0
theorem c_spec_validRect (s : Qd)  : ICall Try.prog 154 [encQ s] (.bool (vRc s)) := by
  refine icall_V (G := g_spec_validRect) (H := []) [] tabOK mixed gok_spec_validRect hok_spec_validRect Try.func154 rfl Try.ntmps154 Try.results154 rfl (by kernel_rfl) fun F hN hlen => ?_
  have hv : vRc s = (okP s.1 && (okP s.2 && (decide (s.1.1 < s.2.1) && decide (s.1.2 < s.2.2)))) := rfl
  cases h1 : okP s.1 with
  | false =>
    rw [h1, Bool.false_and] at hv
    simp only [V_seq, V_ret, V_region, W_nil, W_cons, effOp2, KN_seq, KXr_nil, QE, effOp, effPure, effPick, effNew, effBox, effCall, giveUp, hasAll, skipE, pureV, pickV, binV, partV, loadV, faddrV, solid, IV.cells, ofC, strip, lkT, lkH, ISt.app, opI, gO, gB, allB, gval, wrapG, dstOK, setD, mentTm, mentHp, IV.ment, IV.mentL, oneI, lendV, lendP, lent, lentP, idsV, idsL, lkHS, flat, clean, callArgs, callFn, allLent, enumT, Gives, Ideal.Fin, conv, conv0, IBlk.shape, Op.operands, reduceIte, reduceCtorEq, cond_true, cond_false, Bool.or_false, Bool.or_true, Bool.and_true, Bool.not_true, Bool.not_false, Nat.reduceAdd, Nat.reduceLT, Nat.reduceLeDiff, Nat.reduceEqDiff, Nat.add_zero, Nat.zero_add, and_true, and_false, and_self, false_implies, implies_true, List.map_cons, List.map_nil, List.nil_append, List.cons_append, List.append_nil, List.all_cons, List.all_nil, Option.map_some, Option.bind_some, List.getElem?_cons_zero, List.getElem?_cons_succ, List.getD_cons_zero, List.getD_cons_succ, List.length_cons, List.length_nil, List.take_succ_cons, List.take_zero, List.take_nil, List.drop_succ_cons, List.drop_zero, ex_clo, bft, or_self, Bool.false_eq_true, tab3, tab30, tab37, hN, pe, encQ, lk_spec_validRect_spec_validPoint, sp_spec_validPoint, h1, hv]
  | true =>
    rw [h1, Bool.true_and] at hv
    cases h2 : okP s.2 with
    | false =>
      rw [h2, Bool.false_and] at hv
      simp only [V_seq, V_ret, V_region, W_nil, W_cons, effOp2, KN_seq, KXr_nil, QE, effOp, effPure, effPick, effNew, effBox, effCall, giveUp, hasAll, skipE, pureV, pickV, binV, partV, loadV, faddrV, solid, IV.cells, ofC, strip, lkT, lkH, ISt.app, opI, gO, gB, allB, gval, wrapG, dstOK, setD, mentTm, mentHp, IV.ment, IV.mentL, oneI, lendV, lendP, lent, lentP, idsV, idsL, lkHS, flat, clean, callArgs, callFn, allLent, enumT, Gives, Ideal.Fin, conv, conv0, IBlk.shape, Op.operands, reduceIte, reduceCtorEq, cond_true, cond_false, Bool.or_false, Bool.and_true, Bool.not_true, Nat.reduceAdd, Nat.reduceLT, Nat.reduceLeDiff, Nat.reduceEqDiff, Nat.add_zero, Nat.zero_add, beq_self_eq_true, and_true, and_false, and_self, false_implies, implies_true, List.map_cons, List.map_nil, List.nil_append, List.cons_append, List.append_nil, List.all_cons, List.all_nil, Option.map_some, Option.bind_some, List.getElem?_cons_zero, List.getElem?_cons_succ, List.getD_cons_zero, List.getD_cons_succ, List.length_cons, List.length_nil, List.take_succ_cons, List.take_zero, List.take_nil, List.drop_succ_cons, List.drop_zero, ex_clo, bft, or_self, Bool.true_eq_false, Bool.false_eq_true, tab3, tab30, tab37, hN, pe, encQ, lk_spec_validRect_spec_validPoint, sp_spec_validPoint, h1, h2, hv]
    | true =>
      rw [h2, Bool.true_and] at hv
      cases h3 : decide (s.1.1 < s.2.1) with
      | false =>
        rw [h3, Bool.false_and] at hv
        simp only [V_seq, V_ret, V_region, W_nil, W_cons, effOp2, KN_seq, KXr_nil, QE, effOp, effPure, effPick, effNew, effBox, effCall, giveUp, hasAll, skipE, pureV, pickV, binV, partV, loadV, faddrV, solid, IV.cells, ofC, strip, lkT, lkH, ISt.app, opI, gO, gB, allB, gval, wrapG, dstOK, setD, mentTm, mentHp, IV.ment, IV.mentL, oneI, lendV, lendP, lent, lentP, idsV, idsL, lkHS, flat, clean, callArgs, callFn, allLent, enumT, Gives, Ideal.Fin, conv, conv0, IBlk.shape, Op.operands, reduceIte, reduceCtorEq, cond_true, cond_false, Bool.or_false, Bool.and_true, Bool.not_true, Nat.reduceAdd, Nat.reduceLT, Nat.reduceLeDiff, Nat.reduceEqDiff, Nat.add_zero, Nat.zero_add, beq_self_eq_true, and_true, and_false, and_self, false_implies, implies_true, List.map_cons, List.map_nil, List.nil_append, List.cons_append, List.append_nil, List.all_cons, List.all_nil, Option.map_some, Option.bind_some, List.getElem?_cons_zero, List.getElem?_cons_succ, List.getD_cons_zero, List.getD_cons_succ, List.length_cons, List.length_nil, List.take_succ_cons, List.take_zero, List.take_nil, List.drop_succ_cons, List.drop_zero, ex_clo, bft, or_self, Bool.true_eq_false, Bool.false_eq_true, tab3, tab30, tab37, hN, pe, encQ, lk_spec_validRect_spec_validPoint, sp_spec_validPoint, h1, h2, h3, hv]
      | true =>
        rw [h3, Bool.true_and] at hv
        simp only [V_seq, V_ret, V_region, W_nil, W_cons, effOp2, KN_seq, KXr_nil, QE, effOp, effPure, effPick, effNew, effBox, effCall, giveUp, hasAll, skipE, pureV, pickV, binV, partV, loadV, faddrV, solid, IV.cells, ofC, strip, lkT, lkH, ISt.app, opI, gO, gB, allB, gval, wrapG, dstOK, setD, mentTm, mentHp, IV.ment, IV.mentL, oneI, lendV, lendP, lent, lentP, idsV, idsL, lkHS, flat, clean, callArgs, callFn, allLent, enumT, Gives, Ideal.Fin, conv, conv0, IBlk.shape, Op.operands, reduceIte, reduceCtorEq, cond_true, Bool.or_false, Bool.and_true, Bool.not_true, Nat.reduceAdd, Nat.reduceLT, Nat.reduceLeDiff, Nat.reduceEqDiff, Nat.add_zero, Nat.zero_add, beq_self_eq_true, and_false, and_self, implies_true, List.map_cons, List.map_nil, List.nil_append, List.cons_append, List.append_nil, List.all_cons, List.all_nil, Option.map_some, Option.bind_some, List.getElem?_cons_zero, List.getElem?_cons_succ, List.getD_cons_zero, List.getD_cons_succ, List.length_cons, List.length_nil, List.take_succ_cons, List.take_zero, List.take_nil, List.drop_succ_cons, List.drop_zero, ex_clo, or_self, Bool.true_eq_false, tab3, tab30, tab37, hN, pe, encQ, lk_spec_validRect_spec_validPoint, sp_spec_validPoint, h1, h2, h3, hv]
def sp_spec_validRect : PSpec := ⟨fun xs => match xs with | [.agg [.num .i64 s1, .num .i64 s2, .num .i64 s3, .num .i64 s4]] => True | _ => False, fun xs => match xs with | [.agg [.num _ s1, .num _ s2, .num _ s3, .num _ s4]] => (fun (s : Qd) => .bool (vRc s)) ((s1, s2), (s3, s4)) | _ => .junk, false⟩
theorem gk_spec_validRect : ∀ args, sp_spec_validRect.pre args → ICall Try.prog 154 args (sp_spec_validRect.val args) := by
  intro args h
  unfold sp_spec_validRect at h ⊢; simp only at h ⊢; split at h
  · exact c_spec_validRect ((_, _), (_, _))
  · exact h.elim
theorem en_spec_validRect : Enters Try.prog 154 := enters_of Try.func154 (by kernel_rfl) rfl

def g_spec_validRects : List (Nat × PSpec) := [(154, sp_spec_validRect)]
theorem gok_spec_validRects : GOK Try.prog g_spec_validRects := gok_cons gk_spec_validRect en_spec_validRect (gok0)
theorem lk_spec_validRects_spec_validRect : lkG g_spec_validRects 154 = sp_spec_validRect := rfl
def h_spec_validRects : List (Nat × HSpec) := []
theorem hok_spec_validRects : HOK Try.prog h_spec_validRects := hok0
theorem c_spec_validRects (l : List Qd)  : ICall Try.prog 81 [.sl 4 (encQs l)] (.bool (okRs l)) := by
  refine icall_V (G := g_spec_validRects) (H := []) [] tabOK mixed gok_spec_validRects hok_spec_validRects Try.func81 rfl Try.ntmps81 Try.results81 rfl (by kernel_rfl) fun F hN hlen => ?_
  have hl := hlen 0 4 _ rfl
  have el := len_encQs l
  rw [el] at hl
  simp only [V_seq, V_block, V_region, W_nil, W_cons, effOp2, KN_seq, effOp, effPure, pureV, ofC, strip, ISt.app, opI, gO, gB, allB, gval, wrapG, dstOK, setD, enumT, Op.operands, Nat.reduceLT, true_and, and_self, implies_true, List.nil_append, List.cons_append, List.append_nil, hN]
  refine V_loop (α := Nat) ⟨tabOK, mixed, gok_spec_validRects, hok_spec_validRects⟩ (by kernel_rfl) (fun i => i ≤ l.length ∧ l.all vRc = (l.drop i).all vRc) (fun i => ⟨[(3, .num .i64 i), (0, .sl 4 (encQs l))], []⟩) (fun i => l.length - i) 0 id (by simp) (by simp [SLe, SLe0, convTm, convHp, conv, conv0, lkT, lkH, clean]) ?_
  rintro i ⟨hi, hj⟩
  simp only [V_seq, V_region, V_cond, W_nil, W_cons, effOp2, KN_seq, asB, effOp, effPure, pureV, binV, lenV, strip, lkT, ISt.app, opI, gO, gB, allB, gval, wrapG, dstOK, setD, Op.operands, Call.operands, List.append_toArray, reduceIte, reduceCtorEq, Nat.reduceLT, Nat.reduceEqDiff, ne_eq, not_false_eq_true, true_and, and_self, implies_true, List.nil_append, List.cons_append, List.append_nil, tab32, hN, el]
  refine brW_some (fun h => ?_) (fun h => ?_)
  · have hi' : i < l.length := by simpa using h
    have g1 := getD_encQs hi'
    have hw := wr_succ hi' hl
    have hst := all_step (p := vRc) (d := ((0, 0), (0, 0))) hi'
    simp only [V_seq, V_skip, V_block, V_region, V_cond, W_nil, W_cons, effOp2, KN_seq, asB, effOp, effPure, effCall, giveUp, hasAll, pureV, partV, eltV, loadV, iaddrV, strip, lkT, lkH, ISt.app, opI, gO, gB, allB, gval, wrapG, dstOK, setD, lendV, lendP, lent, lentP, idsV, idsL, lkHS, flat, clean, callArgs, callFn, allLent, Op.operands, reduceIte, reduceCtorEq, cond_true, Bool.or_false, Bool.not_true, Nat.reduceAdd, Nat.reduceLT, Nat.reduceLeDiff, Nat.reduceEqDiff, Nat.zero_add, ne_eq, not_false_eq_true, true_and, and_true, and_false, and_self, implies_true, forall_const, List.map_cons, List.map_nil, List.nil_append, List.cons_append, List.append_nil, List.getD_cons_zero, List.length_cons, List.length_nil, List.take_succ_cons, List.take_nil, List.drop_zero, ex_clo, or_self, tab32, tab37, hN, pe, Int.toNat_natCast, lk_spec_validRects_spec_validRect, sp_spec_validRect, el, Int.toNat_natCast, g1]
    repeat refine And.intro (by omega) ?_
    refine brW_some (fun h => ?_) (fun h => ?_)
    · simp only [V_seq, V_ret, V_region, W_nil, W_cons, effOp2, KN_seq, KXr_nil, KXr_seq, KXr_block, KXr_back, QE, effOp, effPure, pureV, ofC, strip, lkT, lkH, ISt.app, opI, gO, gB, allB, gval, wrapG, dstOK, setD, clean, Gives, Ideal.Fin, conv, conv0, Op.operands, reduceIte, reduceCtorEq, Nat.reduceLT, Nat.reduceEqDiff, true_and, and_true, and_self, implies_true, List.nil_append, List.cons_append, List.append_nil, hN]
      have hq : vRc (qAt l i) = false := by simpa using h
      have : l.all vRc = false := by rw [hj, hst, hq]; rfl
      simp only [okRs, this, Bool.false_and]
    · simp only [V_skip, V_region, W_nil, W_cons, effOp2, KN_seq, KN_block, KN_back, effOp, effPure, pureV, binV, ofC, strip, lkT, ISt.app, opI, gO, gB, allB, gval, wrapG, dstOK, setD, Op.operands, reduceIte, reduceCtorEq, Nat.reduceLT, Nat.reduceEqDiff, true_and, and_self, implies_true, List.nil_append, List.cons_append, List.append_nil, hN, hw]
      have hq : vRc (qAt l i) = true := by simpa using h
      exact ⟨i + 1, id, ⟨by omega, by rw [hj, hst, hq]; rfl⟩, by simp only []; omega, by simp [SLe, SLe0, convTm, convHp, conv, conv0, lkT, lkH, clean]⟩
  · simp only [V_seq, V_ret, V_exit, V_region, W_nil, W_cons, effOp2, KN_seq, KXr_nil, KXe_nil, KXe_seq, KXe_block, KXe_back, QE, effOp, effPure, pureV, binV, lenV, ofC, strip, lkT, lkH, ISt.app, opI, gO, gB, allB, gval, wrapG, dstOK, setD, clean, Gives, Ideal.Fin, conv, conv0, Op.operands, Call.operands, List.append_toArray, reduceIte, reduceCtorEq, Nat.reduceLT, Nat.reduceEqDiff, ne_eq, not_false_eq_true, true_and, and_true, and_self, implies_true, List.nil_append, List.cons_append, List.append_nil, tab32, hN, el]
    have hie : i = l.length := by simp at h; omega
    subst hie
    have : l.all vRc = true := by rw [hj]; simp
    simp only [okRs, this, Bool.true_and]
    simp
    omega
def sp_spec_validRects : PSpec := ⟨fun xs => match xs with | [.sl 4 les] => isQs les | _ => False, fun xs => match xs with | [.sl _ les] => (fun (l : List Qd) => .bool (okRs l)) (toQs les) | _ => .junk, false⟩
theorem gk_spec_validRects : ∀ args, sp_spec_validRects.pre args → ICall Try.prog 81 args (sp_spec_validRects.val args) := by
  intro args h
  unfold sp_spec_validRects at h ⊢; simp only at h ⊢; split at h
  · have h0 := h
    obtain ⟨l0, rfl⟩ := isQ_ex h0
    simp only [toQs_enc] at *
    exact c_spec_validRects _ 
  · exact h.elim
theorem en_spec_validRects : Enters Try.prog 81 := enters_of Try.func81 (by kernel_rfl) rfl

def g_impl_ValidRects_1 : List (Nat × PSpec) := [(151, sp_impl_Rect_valid)]
theorem gok_impl_ValidRects_1 : GOK Try.prog g_impl_ValidRects_1 := gok_cons gk_impl_Rect_valid en_impl_Rect_valid (gok0)
theorem lk_impl_ValidRects_1_impl_Rect_valid : lkG g_impl_ValidRects_1 151 = sp_impl_Rect_valid := rfl
def h_impl_ValidRects_1 : List (Nat × HSpec) := []
theorem hok_impl_ValidRects_1 : HOK Try.prog h_impl_ValidRects_1 := hok0
theorem c_impl_ValidRects_1 (s : Qd)  : ICall Try.prog 150 [encQ s] (.bool (!vRc s)) := by
  refine icall_V (G := g_impl_ValidRects_1) (H := []) [] tabOK mixed gok_impl_ValidRects_1 hok_impl_ValidRects_1 Try.func150 rfl Try.ntmps150 Try.results150 rfl (by kernel_rfl) fun F hN hlen => ?_
  simp only [V_seq, V_ret, V_region, W_nil, W_cons, effOp2, KN_seq, KXr_nil, QE, effOp, effPure, effNew, effBox, effCall, giveUp, hasAll, skipE, pureV, partV, loadV, solid, IV.cells, ofC, strip, lkT, lkH, ISt.app, opI, gO, gB, allB, gval, wrapG, dstOK, setD, mentTm, mentHp, IV.ment, IV.mentL, oneI, lendV, lendP, lent, lentP, idsV, idsL, lkHS, flat, clean, callArgs, callFn, allLent, enumT, Gives, Ideal.Fin, conv, conv0, Op.operands, reduceIte, reduceCtorEq, cond_true, Bool.or_false, Bool.and_true, Bool.not_true, Nat.reduceAdd, Nat.reduceLT, Nat.reduceLeDiff, Nat.reduceEqDiff, Nat.zero_add, and_false, and_self, implies_true, List.map_cons, List.map_nil, List.nil_append, List.cons_append, List.append_nil, List.all_cons, List.all_nil, List.getD_cons_zero, List.length_cons, List.length_nil, List.take_succ_cons, List.take_nil, List.drop_zero, ex_clo, or_self, tab37, hN, pe, encQ, lk_impl_ValidRects_1_impl_Rect_valid, sp_impl_Rect_valid]
def sp_impl_ValidRects_1 : PSpec := ⟨fun xs => match xs with | [.agg [.num .i64 s1, .num .i64 s2, .num .i64 s3, .num .i64 s4]] => True | _ => False, fun xs => match xs with | [.agg [.num _ s1, .num _ s2, .num _ s3, .num _ s4]] => (fun (s : Qd) => .bool (!vRc s)) ((s1, s2), (s3, s4)) | _ => .junk, false⟩
theorem gk_impl_ValidRects_1 : ∀ args, sp_impl_ValidRects_1.pre args → ICall Try.prog 150 args (sp_impl_ValidRects_1.val args) := by
  intro args h
  unfold sp_impl_ValidRects_1 at h ⊢; simp only at h ⊢; split at h
  · exact c_impl_ValidRects_1 ((_, _), (_, _))
  · exact h.elim
theorem en_impl_ValidRects_1 : Enters Try.prog 150 := enters_of Try.func150 (by kernel_rfl) rfl

def g_slices_IndexFunc_impl_Rect_impl_Rect_ok_1 : List (Nat × PSpec) := [(150, sp_impl_ValidRects_1)]
theorem gok_slices_IndexFunc_impl_Rect_impl_Rect_ok_1 : GOK Try.prog g_slices_IndexFunc_impl_Rect_impl_Rect_ok_1 := gok_cons gk_impl_ValidRects_1 en_impl_ValidRects_1 (gok0)
theorem lk_slices_IndexFunc_impl_Rect_impl_Rect_ok_1_impl_ValidRects_1 : lkG g_slices_IndexFunc_impl_Rect_impl_Rect_ok_1 150 = sp_impl_ValidRects_1 := rfl
def h_slices_IndexFunc_impl_Rect_impl_Rect_ok_1 : List (Nat × HSpec) := []
theorem hok_slices_IndexFunc_impl_Rect_impl_Rect_ok_1 : HOK Try.prog h_slices_IndexFunc_impl_Rect_impl_Rect_ok_1 := hok0
theorem c_slices_IndexFunc_impl_Rect_impl_Rect_ok_1 (l : List Qd)  : ICall Try.prog 217 [.sl 4 (encQs l), .clo 150 []] (.num .i64 (idxF (fun p => !vRc p) l 0)) := by
  refine icall_V (G := g_slices_IndexFunc_impl_Rect_impl_Rect_ok_1) (H := []) [] tabOK mixed gok_slices_IndexFunc_impl_Rect_impl_Rect_ok_1 hok_slices_IndexFunc_impl_Rect_impl_Rect_ok_1 Try.func217 rfl Try.ntmps217 Try.results217 rfl (by kernel_rfl) fun F hN hlen => ?_
  have hl := hlen 0 4 _ rfl
  have el := len_encQs l
  rw [el] at hl
  simp only [V_seq, V_block, V_region, W_nil, W_cons, effOp2, KN_seq, effOp, effPure, pureV, lenV, ofC, strip, lkT, ISt.app, opI, gO, gB, allB, gval, wrapG, dstOK, setD, enumT, Op.operands, Call.operands, List.append_toArray, reduceIte, reduceCtorEq, Nat.reduceLT, Nat.reduceEqDiff, Nat.zero_add, ne_eq, not_false_eq_true, true_and, and_self, implies_true, List.nil_append, List.cons_append, List.append_nil, tab32, hN, el]
  refine V_loop (α := Nat) ⟨tabOK, mixed, gok_slices_IndexFunc_impl_Rect_impl_Rect_ok_1, hok_slices_IndexFunc_impl_Rect_impl_Rect_ok_1⟩ (by kernel_rfl) (fun i => i ≤ l.length ∧ idxF (fun p => !vRc p) l 0 = idxF (fun p => !vRc p) (l.drop i) i)
    (fun i => ⟨[(8, .num .i64 i), (7, .num .i64 l.length), (0, .sl 4 (encQs l)), (1, .clo 150 [])], []⟩) (fun i => l.length - i) 0 id (by simp) (by simp [SLe, SLe0, convTm, convHp, conv, conv0, convL, lkT, lkH, clean]) ?_
  rintro i ⟨hi, hj⟩
  simp only [V_seq, V_region, V_cond, W_nil, W_cons, effOp2, KN_seq, asB, effOp, effPure, pureV, binV, strip, lkT, ISt.app, opI, gO, gB, allB, gval, wrapG, dstOK, setD, Op.operands, reduceIte, reduceCtorEq, Nat.reduceLT, Nat.reduceEqDiff, true_and, and_self, implies_true, List.nil_append, List.cons_append, List.append_nil, hN]
  refine brW_some (fun h => ?_) (fun h => ?_)
  · have hi' : i < l.length := by simpa using h
    have g1 := getD_encQs hi'
    have hw := wr_succ hi' hl
    have hst := idxF_step (p := fun p => !vRc p) (d := ((0, 0), (0, 0))) hi'
    simp only [V_seq, V_skip, V_block, V_region, V_cond, W_nil, W_cons, effOp2, KN_seq, asB, effOp, effPure, effCall, giveUp, hasAll, pureV, partV, eltV, loadV, iaddrV, strip, lkT, lkH, ISt.app, opI, gO, gB, allB, gval, wrapG, dstOK, setD, lendV, lendP, lent, lentP, idsV, idsL, lkHS, flat, clean, callArgs, callFn, allLent, Op.operands, reduceIte, reduceCtorEq, cond_true, Bool.or_false, Bool.not_true, Nat.reduceAdd, Nat.reduceLT, Nat.reduceLeDiff, Nat.reduceEqDiff, Nat.zero_add, ne_eq, not_false_eq_true, true_and, and_true, and_false, and_self, implies_true, forall_const, List.map_cons, List.map_nil, List.nil_append, List.cons_append, List.append_nil, List.getD_cons_zero, List.length_cons, List.length_nil, List.take_succ_cons, List.take_nil, List.drop_zero, ex_clo, or_self, tab32, tab37, hN, pe, Int.toNat_natCast, lk_slices_IndexFunc_impl_Rect_impl_Rect_ok_1_impl_ValidRects_1, sp_impl_ValidRects_1, el, Int.toNat_natCast, g1]
    
    repeat refine And.intro (by omega) ?_
    refine brW_some (fun h => ?_) (fun h => ?_)
    · simp only [V_seq, V_ret, V_region, W_nil, W_cons, effOp2, KN_seq, KXr_nil, KXr_seq, KXr_block, KXr_back, QE, effOp, effPure, pureV, strip, lkT, lkH, ISt.app, opI, gO, gB, allB, gval, wrapG, dstOK, setD, clean, Gives, Ideal.Fin, conv, conv0, Op.operands, reduceIte, reduceCtorEq, Nat.reduceLT, Nat.reduceEqDiff, true_and, and_true, and_self, implies_true, List.nil_append, List.cons_append, List.append_nil, hN]
      have hq : (fun p => !vRc p) (qAt l i) = true := by simpa using h
      rw [hj, hst]
      exact congrArg _ (if_pos hq).symm
    · simp only [V_skip, V_region, W_nil, W_cons, effOp2, KN_seq, KN_block, KN_back, effOp, effPure, pureV, binV, ofC, strip, lkT, ISt.app, opI, gO, gB, allB, gval, wrapG, dstOK, setD, Op.operands, reduceIte, reduceCtorEq, Nat.reduceLT, Nat.reduceEqDiff, true_and, and_self, implies_true, List.nil_append, List.cons_append, List.append_nil, hN, hw]
      have hq : (fun p => !vRc p) (qAt l i) = false := by simpa using h
      exact ⟨i + 1, id, ⟨by omega, hj.trans (hst.trans (if_neg (ne_true_of_eq_false hq)))⟩, by simp only []; omega, by simp [SLe, SLe0, convTm, convHp, conv, conv0, convL, lkT, lkH, clean]⟩
  · simp only [V_seq, V_ret, V_exit, V_region, W_nil, W_cons, effOp2, KN_seq, KXr_nil, KXe_nil, KXe_seq, KXe_block, KXe_back, QE, effOp, effPure, pureV, ofC, strip, lkT, lkH, ISt.app, opI, gO, gB, allB, gval, wrapG, dstOK, setD, clean, Gives, Ideal.Fin, conv, conv0, Op.operands, reduceIte, reduceCtorEq, Nat.reduceLT, Nat.reduceEqDiff, true_and, and_true, and_self, implies_true, List.nil_append, List.cons_append, List.append_nil, hN]
    have hie : i = l.length := by simp at h; omega
    subst hie
    rw [hj]
    simp [idxF]
def sp_slices_IndexFunc_impl_Rect_impl_Rect_ok_1 : PSpec := ⟨fun xs => match xs with | [.sl 4 les, .clo 150 []] => isQs les | _ => False, fun xs => match xs with | [.sl _ les, .clo 150 []] => (fun (l : List Qd) => .num .i64 (idxF (fun p => !vRc p) l 0)) (toQs les) | _ => .junk, false⟩
theorem gk_slices_IndexFunc_impl_Rect_impl_Rect_ok_1 : ∀ args, sp_slices_IndexFunc_impl_Rect_impl_Rect_ok_1.pre args → ICall Try.prog 217 args (sp_slices_IndexFunc_impl_Rect_impl_Rect_ok_1.val args) := by
  intro args h
  unfold sp_slices_IndexFunc_impl_Rect_impl_Rect_ok_1 at h ⊢; simp only at h ⊢; split at h
  · have h0 := h
    obtain ⟨l0, rfl⟩ := isQ_ex h0
    simp only [toQs_enc] at *
    exact c_slices_IndexFunc_impl_Rect_impl_Rect_ok_1 _ 
  · exact h.elim
theorem en_slices_IndexFunc_impl_Rect_impl_Rect_ok_1 : Enters Try.prog 217 := enters_of Try.func217 (by kernel_rfl) rfl

def g_slices_ContainsFunc_impl_Rect_impl_Rect_ok_1 : List (Nat × PSpec) := [(217, sp_slices_IndexFunc_impl_Rect_impl_Rect_ok_1)]
theorem gok_slices_ContainsFunc_impl_Rect_impl_Rect_ok_1 : GOK Try.prog g_slices_ContainsFunc_impl_Rect_impl_Rect_ok_1 := gok_cons gk_slices_IndexFunc_impl_Rect_impl_Rect_ok_1 en_slices_IndexFunc_impl_Rect_impl_Rect_ok_1 (gok0)
theorem lk_slices_ContainsFunc_impl_Rect_impl_Rect_ok_1_slices_IndexFunc_impl_Rect_impl_Rect_ok_1 : lkG g_slices_ContainsFunc_impl_Rect_impl_Rect_ok_1 217 = sp_slices_IndexFunc_impl_Rect_impl_Rect_ok_1 := rfl
def h_slices_ContainsFunc_impl_Rect_impl_Rect_ok_1 : List (Nat × HSpec) := []
theorem hok_slices_ContainsFunc_impl_Rect_impl_Rect_ok_1 : HOK Try.prog h_slices_ContainsFunc_impl_Rect_impl_Rect_ok_1 := hok0
theorem c_slices_ContainsFunc_impl_Rect_impl_Rect_ok_1 (l : List Qd)  : ICall Try.prog 149 [.sl 4 (encQs l), .clo 150 []] (.bool (l.any (fun p => !vRc p))) := by
  refine icall_V (G := g_slices_ContainsFunc_impl_Rect_impl_Rect_ok_1) (H := []) [] tabOK mixed gok_slices_ContainsFunc_impl_Rect_impl_Rect_ok_1 hok_slices_ContainsFunc_impl_Rect_impl_Rect_ok_1 Try.func149 rfl Try.ntmps149 Try.results149 rfl (by kernel_rfl) fun F hN hlen => ?_
  simp only [V_seq, V_ret, V_region, W_nil, W_cons, effOp2, KN_seq, KXr_nil, QE, effOp, effPure, effCall, giveUp, hasAll, pureV, binV, ofC, strip, lkT, lkH, ISt.app, opI, gO, gB, allB, gval, wrapG, dstOK, setD, lendV, lendP, lent, lentP, lentPs, idsV, idsL, lkHS, flat, clean, callArgs, callFn, allLent, enumT, Gives, Ideal.Fin, conv, conv0, Op.operands, reduceIte, reduceCtorEq, cond_true, Bool.or_false, Bool.not_true, Nat.reduceLT, Nat.reduceEqDiff, Nat.zero_add, and_self, implies_true, List.map_cons, List.map_nil, List.nil_append, List.cons_append, List.append_nil, ex_clo, or_self, hN, isQs_enc, toQs_enc, lk_slices_ContainsFunc_impl_Rect_impl_Rect_ok_1_slices_IndexFunc_impl_Rect_impl_Rect_ok_1, sp_slices_IndexFunc_impl_Rect_impl_Rect_ok_1, idxF_sign]
  
def sp_slices_ContainsFunc_impl_Rect_impl_Rect_ok_1 : PSpec := ⟨fun xs => match xs with | [.sl 4 les, .clo 150 []] => isQs les | _ => False, fun xs => match xs with | [.sl _ les, .clo 150 []] => (fun (l : List Qd) => .bool (l.any (fun p => !vRc p))) (toQs les) | _ => .junk, false⟩
theorem gk_slices_ContainsFunc_impl_Rect_impl_Rect_ok_1 : ∀ args, sp_slices_ContainsFunc_impl_Rect_impl_Rect_ok_1.pre args → ICall Try.prog 149 args (sp_slices_ContainsFunc_impl_Rect_impl_Rect_ok_1.val args) := by
  intro args h
  unfold sp_slices_ContainsFunc_impl_Rect_impl_Rect_ok_1 at h ⊢; simp only at h ⊢; split at h
  · have h0 := h
    obtain ⟨l0, rfl⟩ := isQ_ex h0
    simp only [toQs_enc] at *
    exact c_slices_ContainsFunc_impl_Rect_impl_Rect_ok_1 _ 
  · exact h.elim
theorem en_slices_ContainsFunc_impl_Rect_impl_Rect_ok_1 : Enters Try.prog 149 := enters_of Try.func149 (by kernel_rfl) rfl

def g_impl_ValidRects : List (Nat × PSpec) := [(149, sp_slices_ContainsFunc_impl_Rect_impl_Rect_ok_1)]
theorem gok_impl_ValidRects : GOK Try.prog g_impl_ValidRects := gok_cons gk_slices_ContainsFunc_impl_Rect_impl_Rect_ok_1 en_slices_ContainsFunc_impl_Rect_impl_Rect_ok_1 (gok0)
theorem lk_impl_ValidRects_slices_ContainsFunc_impl_Rect_impl_Rect_ok_1 : lkG g_impl_ValidRects 149 = sp_slices_ContainsFunc_impl_Rect_impl_Rect_ok_1 := rfl
def h_impl_ValidRects : List (Nat × HSpec) := []
theorem hok_impl_ValidRects : HOK Try.prog h_impl_ValidRects := hok0
theorem c_impl_ValidRects (l : List Qd)  : ICall Try.prog 79 [.sl 4 (encQs l)] (.bool (okRs l)) := by
  refine icall_V (G := g_impl_ValidRects) (H := []) [] tabOK mixed gok_impl_ValidRects hok_impl_ValidRects Try.func79 rfl Try.ntmps79 Try.results79 rfl (by kernel_rfl) fun F hN hlen => ?_
  have hd : decide ((l.length : Int) ≤ 12) = decide (l.length ≤ 12) := by simp; omega
  have hv : okRs l = (decide (l.length ≤ 12) && !(l.any fun p => !vRc p)) := by rw [okRs, List.all_eq_not_any_not, Bool.and_comm]
  simp only [V_seq, V_ret, V_region, W_nil, W_cons, effOp2, KN_seq, KXr_nil, QE, effOp, effPure, effPick, effCall, giveUp, hasAll, pureV, pickV, binV, lenV, ofC, strip, lkT, lkH, ISt.app, opI, gO, gB, allB, gval, wrapG, dstOK, setD, lendV, lendP, lent, lentP, lentPs, idsV, idsL, lkHS, flat, clean, callArgs, callFn, allLent, enumT, Gives, Ideal.Fin, conv, conv0, Op.operands, Call.operands, List.append_toArray, reduceIte, reduceCtorEq, cond_true, Bool.or_false, Bool.true_or, Nat.reduceLT, Nat.reduceEqDiff, ne_eq, not_false_eq_true, true_and, and_true, and_self, implies_true, forall_const, List.map_cons, List.map_nil, List.nil_append, List.cons_append, List.append_nil, Option.bind_some, List.getElem?_cons_zero, List.getElem?_cons_succ, ex_clo, or_self, tab32, hN, isQs_enc, toQs_enc, lk_impl_ValidRects_slices_ContainsFunc_impl_Rect_impl_Rect_ok_1, sp_slices_ContainsFunc_impl_Rect_impl_Rect_ok_1, len_encQs, hd, hv]
  cases decide (l.length ≤ 12) <;> simp
def sp_impl_ValidRects : PSpec := ⟨fun xs => match xs with | [.sl 4 les] => isQs les | _ => False, fun xs => match xs with | [.sl _ les] => (fun (l : List Qd) => .bool (okRs l)) (toQs les) | _ => .junk, false⟩
theorem gk_impl_ValidRects : ∀ args, sp_impl_ValidRects.pre args → ICall Try.prog 79 args (sp_impl_ValidRects.val args) := by
  intro args h
  unfold sp_impl_ValidRects at h ⊢; simp only at h ⊢; split at h
  · have h0 := h
    obtain ⟨l0, rfl⟩ := isQ_ex h0
    simp only [toQs_enc] at *
    exact c_impl_ValidRects _ 
  · exact h.elim
theorem en_impl_ValidRects : Enters Try.prog 79 := enters_of Try.func79 (by kernel_rfl) rfl


theorem add_step {l : List Int} {n : Int} {k : Nat} (hk : k < l.length) : addG ltI n (l.drop k) = if l.getD k 0 < n then l.getD k 0 :: addG ltI n (l.drop (k + 1)) else if l.getD k 0 = n then l.drop k else n :: l.drop k := by
  rw [drop_eq_g (d := 0) hk, addG]
  simp only [ltI, decide_eq_true_eq]
theorem take_cons {l : List Int} {k : Nat} (hk : k < l.length) (m : List Int) : l.take k ++ (l.getD k 0 :: m) = l.take (k + 1) ++ m := by
  rw [List.take_add_one, List.append_assoc]
  congr 1
  simp [List.getD, hk]
def g_spec_addInt : List (Nat × PSpec) := []
theorem gok_spec_addInt : GOK Try.prog g_spec_addInt := gok0
def h_spec_addInt : List (Nat × HSpec) := []
theorem hok_spec_addInt : HOK Try.prog h_spec_addInt := hok0
theorem c_spec_addInt (l : List Int) (n : Int) (hsz : l.length ≤ 1000000) : ICall Try.prog 155 [.sl 1 (encI l), .num .i64 n] (.sl 1 (encI (addG ltI n l))) := by
  refine icall_V (G := g_spec_addInt) (H := []) [] tabOK mixed gok_spec_addInt hok_spec_addInt Try.func155 rfl Try.ntmps155 Try.results155 rfl (by kernel_rfl) fun F hN hlen => ?_
  have el := len_encI l
  have e0 : encI [] = [] := rfl
  simp only [V_seq, V_block, V_region, W_nil, W_cons, effOp2, KN_seq, effOp, effPure, pureV, ofC, strip, ISt.app, opI, gO, gB, allB, gval, wrapG, dstOK, setD, enumT, Op.operands, Nat.reduceLT, Nat.zero_add, true_and, and_self, implies_true, List.nil_append, List.cons_append, List.append_nil, hN]
  refine V_loop (α := Nat) ⟨tabOK, mixed, gok_spec_addInt, hok_spec_addInt⟩ (by kernel_rfl) (fun k => k ≤ l.length ∧ addG ltI n l = l.take k ++ addG ltI n (l.drop k)) (fun k => ⟨[(5, .num .i64 k), (0, .sl 1 (encI l)), (1, .num .i64 n)], []⟩) (fun k => l.length - k) 0 id (by simp) (by simp [SLe, SLe0, convTm, convHp, conv, conv0, lkT, lkH, clean]) ?_
  rintro k ⟨hk, hj⟩
  have e1 : (encI l).take k ++ [.num .i64 n] = encI (l.take k ++ [n]) := by rw [encI_take, ← encI_app]; rfl
  have e2 : encI (l.take k ++ [n]) ++ (encI l).drop k = encI (l.take k ++ n :: l.drop k) := by rw [encI_drop, encI_app]; simp
  have lk : ((encI l).take k).length = k := by rw [List.length_take, el]; omega
  have tk : ((encI l).take k).take k = (encI l).take k := List.take_of_length_le (by omega)
  have tk2 : (encI (l.take k ++ [n])).take (k + 1) = encI (l.take k ++ [n]) := List.take_of_length_le (by rw [len_encI, List.length_append, List.length_take]; simp; omega)
  have ld : ((encI l).drop k).length = l.length - k := by rw [List.length_drop, el]
  have ln1 : (encI (l.take k ++ [n])).length = k + 1 := by rw [len_encI, List.length_append, List.length_take, List.length_singleton]; omega
  have ln2 : (encI (l.take k ++ n :: l.drop k)).length = k + 1 + (l.length - k) := by rw [len_encI, List.length_append, List.length_take, List.length_cons, List.length_drop]; omega
  rcases Nat.lt_or_ge k l.length with c | c
  · have g := getD_encI c
    have hw := wr_succ c (by rw [maxLen_eq]; omega)
    have d1 : decide ((k : Int) < (l.length : Int)) = true := by simpa using c
    rw [add_step c] at hj
    cases c1 : decide (l.getD k 0 < n) with
    | true =>
      rw [if_pos (of_decide_eq_true c1), take_cons c] at hj
      simp only [V_seq, V_skip, V_block, V_region, V_cond, brW_true, W_nil, W_cons, effOp2, KN_seq, KN_block, KN_back, asB, effOp, effPure, effPick, pureV, pickV, binV, eltV, loadV, iaddrV, lenV, ofC, strip, lkT, ISt.app, opI, gO, gB, allB, gval, wrapG, dstOK, setD, Op.operands, Call.operands, List.append_toArray, reduceIte, reduceCtorEq, cond_true, Nat.reduceLT, Nat.reduceEqDiff, ne_eq, not_false_eq_true, beq_self_eq_true, true_and, and_true, and_self, implies_true, forall_const, List.nil_append, List.cons_append, List.append_nil, Option.bind_some, List.getElem?_cons_zero, List.getElem?_cons_succ, Bool.true_eq_false, tab3, tab25, hN, Int.toNat_natCast, el, g, d1, c1, hw]
      repeat refine And.intro (by first | omega | (simp; done) | (simp; omega)) ?_
      exact ⟨k + 1, id, ⟨by omega, hj⟩, by simp only []; omega, by simp [SLe, SLe0, convTm, convHp, conv, conv0, lkT, lkH, clean]⟩
    | false =>
      rw [if_neg (of_decide_eq_false c1)] at hj
      cases c2 : (l.getD k 0 == n) with
      | true =>
        rw [if_pos (by simpa using c2), List.take_append_drop] at hj
        simp only [V_seq, V_ret, V_exit, V_region, V_cond, brW_true, brW_false, W_nil, W_cons, effOp2, KN_seq, KXr_nil, KXr_seq, KXe_nil, KXe_seq, KXe_block, KXe_back, QE, asB, effOp, effPure, effPick, pureV, pickV, binV, eltV, loadV, iaddrV, lenV, ofC, strip, lkT, lkH, ISt.app, opI, gO, gB, allB, gval, wrapG, dstOK, setD, Gives, Ideal.Fin, conv, conv0, Op.operands, Call.operands, List.append_toArray, reduceIte, reduceCtorEq, cond_true, Nat.reduceLT, Nat.reduceEqDiff, ne_eq, not_false_eq_true, beq_self_eq_true, true_and, and_true, and_self, implies_true, forall_const, List.nil_append, List.cons_append, List.append_nil, Option.bind_some, List.getElem?_cons_zero, List.getElem?_cons_succ, Bool.true_eq_false, tab3, tab25, hN, Int.toNat_natCast, el, g, d1, c1, c2, hj]
        repeat refine And.intro (by first | omega | (simp; done) | (simp; omega)) ?_
        omega
      | false =>
        rw [if_neg (by simpa using c2)] at hj
        simp only [V_seq, V_skip, V_ret, V_exit, V_region, V_cond, brW_false, W_nil, W_cons, effOp2, KN_seq, KXr_nil, KXe_nil, KXe_seq, KXe_block, KXe_back, QE, asB, effOp, effPure, effPick, effNew, effBuildSlice, effFrz, frz, tmpsOf, effAppend, effZeros, skipE, pureV, pickV, srcV, refId, binV, eltV, loadV, iaddrV, sliceV, lenV, ofC, strip, lkT, lkH, ISt.app, opI, gO, gB, allB, gval, wrapG, dstOK, setD, mentTm, mentHp, IV.ment, partsL, eltsI, eltI, noId', Gives, Ideal.Fin, conv, conv0, Op.operands, Call.operands, List.append_toArray, Array.append_empty, Option.toArray_none, Option.toArray_some, reduceIte, reduceCtorEq, cond_true, Bool.or_false, Nat.reduceMul, Nat.reduceLT, Nat.reduceLeDiff, Nat.reduceEqDiff, Nat.reduceBEq, Nat.zero_add, ne_eq, not_false_eq_true, beq_self_eq_true, true_and, and_true, and_self, implies_true, forall_const, List.nil_append, List.cons_append, List.append_nil, Option.some.injEq, Option.map_some, Option.map_none, Option.bind_some, List.getElem?_cons_zero, List.getElem?_cons_succ, List.length_cons, List.length_nil, List.take_succ_cons, List.take_nil, List.drop_zero, Bool.true_eq_false, tab3, tab25, hN, Int.toNat_natCast, el, g, d1, c1, c2, hj, lk, tk, e1, tk2, e2]
        repeat refine And.intro (by first | omega | (simp; done) | (simp; omega)) ?_
        exact ⟨_, _, rfl, by rw [ld, ln2]; exact Nat.le_refl _, by rw [ld, ← ln2, List.take_length], by simp⟩
  · have hke : k = l.length := by omega
    have d1 : decide ((k : Int) < (l.length : Int)) = false := by simpa using c
    rw [List.drop_eq_nil_of_le c, addG] at hj
    have g : (encI l).getD k .junk = .junk := by rw [List.getD, List.getElem?_eq_none (by omega)]; rfl
    have dn : (encI l).drop k = [] := List.drop_eq_nil_of_le (by omega)
    simp only [V_seq, V_skip, V_ret, V_exit, V_region, V_cond, brW_false, W_nil, W_cons, effOp2, KN_seq, KXr_nil, KXe_nil, KXe_seq, KXe_block, KXe_back, QE, asB, effOp, effPure, effPick, effNew, effBuildSlice, effFrz, frz, tmpsOf, effAppend, effZeros, skipE, pureV, pickV, srcV, refId, binV, eltV, loadV, iaddrV, sliceV, lenV, ofC, strip, lkT, lkH, ISt.app, opI, gO, gB, allB, gval, wrapG, dstOK, setD, mentTm, mentHp, IV.ment, partsL, eltsI, eltI, noId', Gives, Ideal.Fin, conv, conv0, Op.operands, Call.operands, List.append_toArray, Array.append_empty, Option.toArray_none, Option.toArray_some, reduceIte, reduceCtorEq, cond_true, Bool.or_false, Nat.reduceMul, Nat.reduceLT, Nat.reduceLeDiff, Nat.reduceEqDiff, Nat.reduceBEq, Nat.add_zero, Nat.zero_add, ne_eq, not_false_eq_true, true_and, and_true, false_and, and_self, false_implies, implies_true, forall_const, List.nil_append, List.cons_append, List.append_nil, Option.some.injEq, Option.map_some, Option.map_none, Option.bind_some, List.getElem?_cons_zero, List.getElem?_cons_succ, List.length_cons, List.length_nil, List.take_succ_cons, List.take_nil, List.drop_zero, bft, Bool.false_eq_true, tab3, tab25, hN, Int.toNat_natCast, el, d1, g, hj, lk, tk, e1, tk2, dn]
    repeat refine And.intro (by first | omega | (simp; done) | (simp; omega)) ?_
    exact ⟨_, _, rfl, by rw [ln1]; exact Nat.le_refl _, by rw [← ln1, List.take_length], by simp⟩
def sp_spec_addInt : PSpec := ⟨fun xs => match xs with | [.sl 1 les, .num .i64 n] => isIs les ∧ ((fun (l : List Int) (n : Int) => l.length ≤ 1000000) (toIs les) n) | _ => False, fun xs => match xs with | [.sl _ les, .num _ n] => (fun (l : List Int) (n : Int) => .sl 1 (encI (addG ltI n l))) (toIs les) n | _ => .junk, false⟩
theorem gk_spec_addInt : ∀ args, sp_spec_addInt.pre args → ICall Try.prog 155 args (sp_spec_addInt.val args) := by
  intro args h
  unfold sp_spec_addInt at h ⊢; simp only at h ⊢; split at h
  · obtain ⟨h0, h1⟩ := h
    obtain ⟨l0, rfl⟩ := isI_ex h0
    simp only [toIs_enc] at *
    exact c_spec_addInt _ _ h1
  · exact h.elim
theorem en_spec_addInt : Enters Try.prog 155 := enters_of Try.func155 (by kernel_rfl) rfl

def g_spec_depthAt : List (Nat × PSpec) := [(123, sp_spec_inRange)]
theorem gok_spec_depthAt : GOK Try.prog g_spec_depthAt := gok_cons gk_spec_inRange en_spec_inRange (gok0)
theorem lk_spec_depthAt_spec_inRange : lkG g_spec_depthAt 123 = sp_spec_inRange := rfl
def h_spec_depthAt : List (Nat × HSpec) := []
theorem hok_spec_depthAt : HOK Try.prog h_spec_depthAt := hok0
theorem c_spec_depthAt (l : List Qd) (x : Int) (y : Int) (hk : ∀ r ∈ l, vRc r = true) (hsz : l.length ≤ 12) : ICall Try.prog 83 [.sl 4 (encQs l), .num .i64 x, .num .i64 y] (.num .i64 ((dep l x y : Nat) : Int)) := by
  refine icall_V (G := g_spec_depthAt) (H := []) [(5, [(1, 14), (2, 14), (3, 14), (4, 14), (5, 14), (7, 14), (8, 14), (9, 14), (10, 14), (11, 14), (12, 14), (14, 16), (14, 17), (14, 18), (14, 19), (14, 20), (14, 21), (14, 22), (14, 23), (14, 24), (14, 25), (14, 26), (14, 27), (14, 28), (14, 29), (0, 30), (1, 30), (2, 30), (3, 30), (4, 30), (5, 30), (6, 30), (7, 30), (8, 30), (9, 30), (10, 30), (11, 30), (12, 30), (13, 30), (14, 30), (17, 30), (18, 30), (19, 30), (20, 30), (21, 30), (23, 30), (24, 30), (25, 30), (26, 30), (27, 30), (28, 30), (14, 31)])] tabOK mixed gok_spec_depthAt hok_spec_depthAt Try.func83 rfl Try.ntmps83 Try.results83 rfl (by kernel_rfl) fun F hN hlen => ?_
  have el := len_encQs l
  simp only [V_seq, V_block, V_region, W_nil, W_cons, effOp2, KN_seq, effOp, effPure, pureV, ofC, strip, ISt.app, opI, gO, gB, allB, gval, wrapG, dstOK, setD, enumT, Op.operands, Nat.reduceAdd, Nat.reduceLT, Nat.zero_add, true_and, and_self, implies_true, List.nil_append, List.cons_append, List.append_nil, hN]
  refine V_loop (α := Nat) ⟨tabOK, mixed, gok_spec_depthAt, hok_spec_depthAt⟩ (by kernel_rfl) (fun i => i ≤ l.length) (fun i => ⟨[(8, .num .i64 i), (7, .num .i64 ((dep (l.take i) x y : Nat) : Int)), (0, .sl 4 (encQs l)), (1, .num .i64 x), (2, .num .i64 y)], []⟩) (fun i => l.length - i) 0 id (Nat.zero_le _) (by simp [SLe, SLe0, convTm, convHp, conv, conv0, lkT, lkH, clean, dep]) ?_
  intro i hi
  simp only [V_seq, V_region, V_cond, W_nil, W_cons, effOp2, KN_seq, asB, effOp, effPure, pureV, binV, lenV, strip, lkT, ISt.app, opI, gO, gB, allB, gval, wrapG, dstOK, setD, Op.operands, Call.operands, List.append_toArray, reduceIte, reduceCtorEq, Nat.reduceLT, Nat.reduceEqDiff, ne_eq, not_false_eq_true, true_and, and_self, implies_true, List.nil_append, List.cons_append, List.append_nil, tab32, hN, el]
  refine brW_some (fun h => ?_) (fun h => ?_)
  · have hi' : i < l.length := by simpa using h
    have g := getD_encQs hi'
    have hw := wr_succ hi' (by rw [maxLen_eq]; omega)
    have hm : qAt l i ∈ l := by simp [hi']
    have hq := vRc_facts (hk _ hm)
    have hst : dep (l.take (i + 1)) x y = dep (l.take i) x y + if inC x y (qAt l i) then 1 else 0 := by
      rw [dep, dep, take_succ_g (d := ((0, 0), (0, 0))) hi', List.countP_append]
      congr 1
      simp [List.countP_cons]
    have hle : dep (l.take i) x y ≤ i := Nat.le_trans List.countP_le_length (by rw [List.length_take]; omega)
    obtain ⟨q, hq2⟩ : ∃ q, qAt l i = q := ⟨_, rfl⟩
    rw [hq2] at g hst hq
    obtain ⟨d, hd⟩ : ∃ d, dep (l.take i) x y = d := ⟨_, rfl⟩
    rw [hd] at hst hle
    have w1 : IntKind.i64.wrap (q.2.1 - 1) = q.2.1 - 1 := wr (by omega) (by omega)
    have w2 : IntKind.i64.wrap (q.2.2 - 1) = q.2.2 - 1 := wr (by omega) (by omega)
    have w3 : IntKind.i64.wrap ((d : Int) + 1) = ((d + 1 : Nat) : Int) := by rw [wr (by omega) (by omega)]; omega
    have hin : inC x y q = (inR x q.1.1 (q.2.1 - 1) && inR y q.1.2 (q.2.2 - 1)) := by simp [inC, inR, Bool.decide_and]
    cases c1 : inR x q.1.1 (q.2.1 - 1) with
    | false =>
      rw [hin, c1, Bool.false_and, if_neg (by decide)] at hst
      simp only [V_seq, V_skip, V_block, V_region, V_draw, V_cond, brW_false, drawW, WS_nil, WS_cons, pairsOf, W_nil, W_cons, effOp2, effOp3, WI_nil, WI_cons, KN_seq, KN_block, KN_back, dynOK, indB, farB, freshB, freshK, freshK1, heapy, asB, effOp, effPure, effPick, effCall, giveUp, hasAll, pureV, pickV, binV, partV, eltV, loadV, faddrV, iaddrV, ofC, strip, lkT, lkH, ISt.app, opI, gO, gB, allB, gval, wrapG, dstOK, setD, mentTm, mentHp, IV.ment, lendV, lendP, lent, lentP, idsV, idsL, lkHS, flat, clean, callArgs, callFn, allLent, Op.operands, Call.operands, List.append_toArray, reduceIte, reduceCtorEq, cond_true, cond_false, Bool.or_false, Bool.or_true, Bool.and_true, Bool.true_and, Bool.and_eq_true, Bool.not_true, Bool.not_false, Nat.reduceAdd, Nat.reduceLT, Nat.reduceLeDiff, Nat.reduceEqDiff, Nat.reduceBEq, Nat.add_zero, Nat.zero_add, ne_eq, not_false_eq_true, true_and, and_true, false_and, and_false, and_self, false_implies, implies_true, forall_const, List.map_cons, List.map_nil, List.nil_append, List.cons_append, List.append_nil, Option.bind_some, List.getElem?_cons_zero, List.getElem?_cons_succ, List.getD_cons_zero, List.getD_cons_succ, List.length_cons, List.length_nil, List.take_succ_cons, List.take_zero, List.take_nil, List.drop_succ_cons, List.drop_zero, ex_clo, bft, or_self, Bool.false_eq_true, tab3, tab30, tab32, tab37, hN, Int.toNat_natCast, lk_spec_depthAt_spec_inRange, sp_spec_inRange, el, g, hw, w1, w2, c1, hd]
      repeat refine And.intro (by first | omega | (simp; done) | (simp; omega)) ?_
      exact ⟨i + 1, id, by simp only []; omega, by simp only []; omega, by simp only [hst]; exact by simp [SLe, SLe0, convTm, convHp, conv, conv0, lkT, lkH, clean]⟩
    | true =>
      cases c2 : inR y q.1.2 (q.2.2 - 1) with
      | false =>
        rw [hin, c1, c2, Bool.and_false, if_neg (by decide)] at hst
        simp only [V_seq, V_skip, V_block, V_region, V_draw, V_cond, brW_false, drawW, WS_nil, WS_cons, pairsOf, W_nil, W_cons, effOp2, effOp3, WI_nil, WI_cons, KN_seq, KN_block, KN_back, dynOK, indB, farB, freshB, freshK, freshK1, heapy, asB, effOp, effPure, effPick, effCall, giveUp, hasAll, pureV, pickV, binV, partV, eltV, loadV, faddrV, iaddrV, ofC, strip, lkT, lkH, ISt.app, opI, gO, gB, allB, gval, wrapG, dstOK, setD, mentTm, mentHp, IV.ment, lendV, lendP, lent, lentP, idsV, idsL, lkHS, flat, clean, callArgs, callFn, allLent, Op.operands, Call.operands, List.append_toArray, reduceIte, reduceCtorEq, cond_true, cond_false, Bool.or_false, Bool.and_true, Bool.true_and, Bool.and_eq_true, Bool.not_true, Bool.not_false, Nat.reduceAdd, Nat.reduceLT, Nat.reduceLeDiff, Nat.reduceEqDiff, Nat.reduceBEq, Nat.add_zero, Nat.zero_add, ne_eq, not_false_eq_true, beq_self_eq_true, true_and, and_true, and_false, and_self, implies_true, forall_const, List.map_cons, List.map_nil, List.nil_append, List.cons_append, List.append_nil, Option.bind_some, List.getElem?_cons_zero, List.getElem?_cons_succ, List.getD_cons_zero, List.getD_cons_succ, List.length_cons, List.length_nil, List.take_succ_cons, List.take_zero, List.take_nil, List.drop_succ_cons, List.drop_zero, ex_clo, or_self, Bool.true_eq_false, tab3, tab30, tab32, tab37, hN, Int.toNat_natCast, lk_spec_depthAt_spec_inRange, sp_spec_inRange, el, g, hw, w1, w2, c1, c2, hd]
        repeat refine And.intro (by first | omega | (simp; done) | (simp; omega)) ?_
        exact ⟨i + 1, id, by simp only []; omega, by simp only []; omega, by simp only [hst]; exact by simp [SLe, SLe0, convTm, convHp, conv, conv0, lkT, lkH, clean]⟩
      | true =>
        rw [hin, c1, c2, Bool.and_true, if_pos rfl] at hst
        simp only [V_seq, V_skip, V_block, V_region, V_draw, V_cond, brW_true, drawW, WS_nil, WS_cons, pairsOf, W_nil, W_cons, effOp2, effOp3, WI_nil, WI_cons, KN_seq, KN_block, KN_back, dynOK, indB, farB, freshB, freshK, freshK1, heapy, asB, effOp, effPure, effPick, effCall, giveUp, hasAll, pureV, pickV, binV, partV, eltV, loadV, faddrV, iaddrV, ofC, strip, lkT, lkH, ISt.app, opI, gO, gB, allB, gval, wrapG, dstOK, setD, mentTm, mentHp, IV.ment, lendV, lendP, lent, lentP, idsV, idsL, lkHS, flat, clean, callArgs, callFn, allLent, Op.operands, Call.operands, List.append_toArray, reduceIte, reduceCtorEq, cond_true, cond_false, Bool.or_false, Bool.and_true, Bool.true_and, Bool.and_eq_true, Bool.not_true, Bool.not_false, Nat.reduceAdd, Nat.reduceLT, Nat.reduceLeDiff, Nat.reduceEqDiff, Nat.reduceBEq, Nat.add_zero, Nat.zero_add, ne_eq, not_false_eq_true, beq_self_eq_true, true_and, and_true, and_false, and_self, implies_true, forall_const, List.map_cons, List.map_nil, List.nil_append, List.cons_append, List.append_nil, Option.bind_some, List.getElem?_cons_zero, List.getElem?_cons_succ, List.getD_cons_zero, List.getD_cons_succ, List.length_cons, List.length_nil, List.take_succ_cons, List.take_zero, List.take_nil, List.drop_succ_cons, List.drop_zero, ex_clo, or_self, Bool.true_eq_false, tab3, tab30, tab32, tab37, hN, Int.toNat_natCast, lk_spec_depthAt_spec_inRange, sp_spec_inRange, el, g, hw, w1, w2, w3, c1, c2, hd]
        repeat refine And.intro (by first | omega | (simp; done) | (simp; omega)) ?_
        exact ⟨i + 1, id, by simp only []; omega, by simp only []; omega, by simp only [hst]; exact by simp [SLe, SLe0, convTm, convHp, conv, conv0, lkT, lkH, clean]⟩
  · have hie : i = l.length := by simp at h; omega
    have hd : dep (l.take i) x y = dep l x y := by rw [hie, List.take_length]
    simp only [V_seq, V_ret, V_exit, V_region, W_nil, W_cons, effOp2, KN_seq, KXr_nil, KXe_nil, KXe_seq, KXe_block, KXe_back, QE, effOp, effPure, pureV, strip, lkT, lkH, ISt.app, opI, gO, gB, allB, gval, wrapG, dstOK, setD, clean, Gives, Ideal.Fin, conv, conv0, Op.operands, reduceIte, reduceCtorEq, Nat.reduceLT, Nat.reduceEqDiff, and_self, implies_true, List.nil_append, List.cons_append, List.append_nil, hN, hd]
def sp_spec_depthAt : PSpec := ⟨fun xs => match xs with | [.sl 4 les, .num .i64 x, .num .i64 y] => isQs les ∧ ((fun (l : List Qd) (x : Int) (y : Int) => ∀ r ∈ l, vRc r = true) (toQs les) x y) ∧ ((fun (l : List Qd) (x : Int) (y : Int) => l.length ≤ 12) (toQs les) x y) | _ => False, fun xs => match xs with | [.sl _ les, .num _ x, .num _ y] => (fun (l : List Qd) (x : Int) (y : Int) => .num .i64 ((dep l x y : Nat) : Int)) (toQs les) x y | _ => .junk, false⟩
theorem gk_spec_depthAt : ∀ args, sp_spec_depthAt.pre args → ICall Try.prog 83 args (sp_spec_depthAt.val args) := by
  intro args h
  unfold sp_spec_depthAt at h ⊢; simp only at h ⊢; split at h
  · obtain ⟨h0, h1, h2⟩ := h
    obtain ⟨l0, rfl⟩ := isQ_ex h0
    simp only [toQs_enc] at *
    exact c_spec_depthAt _ _ _ h1 h2
  · exact h.elim
theorem en_spec_depthAt : Enters Try.prog 83 := enters_of Try.func83 (by kernel_rfl) rfl

theorem addG_len {n : Int} : ∀ {l : List Int}, (addG ltI n l).length ≤ l.length + 1
  | [] => by simp [addG]
  | x :: l => by
    have := addG_len (n := n) (l := l)
    rw [addG]
    split
    · simp only [List.length_cons]; omega
    · split <;> simp only [List.length_cons] <;> omega
theorem fold_len : ∀ (l m : List Int), (l.foldl (fun m p => addG ltI p m) m).length ≤ m.length + l.length
  | [], m => by simp
  | x :: l, m => by
    have h1 := fold_len l (addG ltI x m)
    have h2 := addG_len (n := x) (l := m)
    rw [List.foldl_cons, List.length_cons]; omega
theorem insG_two (l : List Int) (a b : Int) : insG ltI (l ++ [a, b]) = addG ltI b (addG ltI a (insG ltI l)) := by simp [insG, List.foldl_append]
theorem flat2_len (f g : Qd → Int) : ∀ l : List Qd, (l.flatMap fun r => [f r, g r]).length = 2 * l.length
  | [] => rfl
  | x :: l => by
    rw [List.flatMap_cons, List.length_append, flat2_len f g l]
    simp only [List.length_cons, List.length_nil]; omega
theorem bxs_len (l : List Qd) : (bxs l).length ≤ 2 * l.length := by
  have := fold_len (l.flatMap fun r => [r.1.1, r.2.1]) []
  have e : (l.flatMap fun r => [r.1.1, r.2.1]).length = 2 * l.length := flat2_len _ _ l
  rw [e] at this
  exact Nat.le_trans this (by simp)
theorem bys_len (l : List Qd) : (bys l).length ≤ 2 * l.length := by
  have := fold_len (l.flatMap fun r => [r.1.2, r.2.2]) []
  have e : (l.flatMap fun r => [r.1.2, r.2.2]).length = 2 * l.length := flat2_len _ _ l
  rw [e] at this
  exact Nat.le_trans this (by simp)
theorem bxs_succ {l : List Qd} {i : Nat} (hi : i < l.length) : bxs (l.take (i + 1)) = addG ltI (qAt l i).2.1 (addG ltI (qAt l i).1.1 (bxs (l.take i))) := by
  rw [bxs, take_succ_g (d := ((0, 0), (0, 0))) hi, List.flatMap_append]
  exact insG_two _ _ _
theorem bys_succ {l : List Qd} {i : Nat} (hi : i < l.length) : bys (l.take (i + 1)) = addG ltI (qAt l i).2.2 (addG ltI (qAt l i).1.2 (bys (l.take i))) := by
  rw [bys, take_succ_g (d := ((0, 0), (0, 0))) hi, List.flatMap_append]
  exact insG_two _ _ _
def g_spec_cells : List (Nat × PSpec) := [(155, sp_spec_addInt)]
theorem gok_spec_cells : GOK Try.prog g_spec_cells := gok_cons gk_spec_addInt en_spec_addInt (gok0)
theorem lk_spec_cells_spec_addInt : lkG g_spec_cells 155 = sp_spec_addInt := rfl
def h_spec_cells : List (Nat × HSpec) := []
theorem hok_spec_cells : HOK Try.prog h_spec_cells := hok0
theorem c_spec_cells (l : List Qd) (hsz : l.length ≤ 12) : ICall Try.prog 82 [.sl 4 (encQs l)] (.tup [.sl 1 (encI (bxs l)), .sl 1 (encI (bys l))]) := by
  refine icall_V (G := g_spec_cells) (H := []) [(6, [(1, 7), (2, 7), (3, 7), (4, 7), (5, 7), (7, 8), (7, 9), (7, 10), (7, 11), (7, 12), (7, 13), (0, 14), (1, 14), (2, 14), (3, 14), (4, 14), (5, 14), (6, 14), (8, 14), (9, 14), (10, 14), (11, 14), (12, 14)]), (7, [(1, 7), (2, 7), (3, 7), (4, 7), (5, 7), (7, 8), (7, 9), (7, 10), (7, 11), (7, 12), (7, 13), (0, 14), (1, 14), (2, 14), (3, 14), (4, 14), (5, 14), (6, 14), (8, 14), (9, 14), (10, 14), (11, 14), (12, 14)])] tabOK mixed gok_spec_cells hok_spec_cells Try.func82 rfl Try.ntmps82 Try.results82 rfl (by kernel_rfl) fun F hN hlen => ?_
  have el := len_encQs l
  simp only [V_seq, V_block, V_region, W_nil, W_cons, effOp2, KN_seq, effOp, effPure, effNew, effBuildSlice, effFrz, frz, tmpsOf, skipE, pureV, ofC, strip, lkT, ISt.app, opI, gO, gB, allB, gval, wrapG, dstOK, setD, mentTm, mentHp, IV.ment, partsL, eltsI, enumT, Op.operands, reduceIte, reduceCtorEq, cond_true, Bool.or_false, Nat.reduceMul, Nat.reduceLT, Nat.reduceLeDiff, Nat.reduceEqDiff, Nat.reduceBEq, ne_eq, not_false_eq_true, true_and, and_self, implies_true, List.nil_append, List.cons_append, List.append_nil, List.length_nil, tab3, tab25, hN]
  refine V_loop (α := Nat) ⟨tabOK, mixed, gok_spec_cells, hok_spec_cells⟩ (by kernel_rfl) (fun i => i ≤ l.length) (fun i => ⟨[(6, .num .i64 i), (5, .sl 1 (encI (bys (l.take i)))), (4, .sl 1 (encI (bxs (l.take i)))), (0, .sl 4 (encQs l))], []⟩) (fun i => l.length - i) 0 id (Nat.zero_le _) (by simp [SLe, SLe0, convTm, convHp, conv, conv0, lkT, lkH, clean, bxs, bys, insG, encI]) ?_
  intro i hi
  simp only [V_seq, V_region, V_cond, W_nil, W_cons, effOp2, KN_seq, asB, effOp, effPure, pureV, binV, lenV, strip, lkT, ISt.app, opI, gO, gB, allB, gval, wrapG, dstOK, setD, Op.operands, Call.operands, List.append_toArray, reduceIte, reduceCtorEq, Nat.reduceLT, Nat.reduceEqDiff, ne_eq, not_false_eq_true, true_and, and_self, implies_true, List.nil_append, List.cons_append, List.append_nil, tab32, hN, el]
  refine brW_some (fun h => ?_) (fun h => ?_)
  · have hi' : i < l.length := by simpa using h
    have g := getD_encQs hi'
    have hw := wr_succ hi' (by rw [maxLen_eq]; omega)
    have hx := bxs_succ hi'
    have hy := bys_succ hi'
    have z1 := bxs_len (l.take i)
    have z2 := bys_len (l.take i)
    rw [List.length_take] at z1 z2
    obtain ⟨q, hq⟩ : ∃ q, qAt l i = q := ⟨_, rfl⟩
    rw [hq] at g hx hy
    obtain ⟨X, hX⟩ : ∃ X, bxs (l.take i) = X := ⟨_, rfl⟩
    obtain ⟨Y, hY⟩ : ∃ Y, bys (l.take i) = Y := ⟨_, rfl⟩
    rw [hX] at hx z1
    rw [hY] at hy z2
    have z3 := addG_len (n := q.1.1) (l := X)
    have z4 := addG_len (n := q.1.2) (l := Y)
    have z5 : X.length ≤ 1000000 := by omega
    have z6 : Y.length ≤ 1000000 := by omega
    have z7 : (addG ltI q.1.1 X).length ≤ 1000000 := by omega
    have z8 : (addG ltI q.1.2 Y).length ≤ 1000000 := by omega
    simp only [V_seq, V_skip, V_block, V_region, V_draw, drawW, WS_nil, WS_cons, pairsOf, W_nil, W_cons, effOp2, effOp3, WI_nil, WI_cons, KN_seq, KN_block, KN_back, dynOK, indB, farB, freshB, freshK, freshK1, heapy, effOp, effPure, effCall, giveUp, hasAll, pureV, binV, partV, eltV, loadV, faddrV, iaddrV, ofC, strip, lkT, lkH, ISt.app, opI, gO, gB, allB, gval, wrapG, dstOK, setD, mentTm, mentHp, IV.ment, lendV, lendP, lent, lentP, idsV, idsL, lkHS, flat, clean, callArgs, callFn, allLent, Op.operands, Call.operands, List.append_toArray, reduceIte, reduceCtorEq, cond_true, cond_false, Bool.or_false, Bool.and_true, Bool.true_and, Bool.and_eq_true, Bool.not_true, Bool.not_false, Nat.reduceAdd, Nat.reduceLT, Nat.reduceLeDiff, Nat.reduceEqDiff, Nat.reduceBEq, Nat.add_zero, Nat.zero_add, ne_eq, not_false_eq_true, true_and, and_true, and_false, and_self, implies_true, forall_const, List.map_cons, List.map_nil, List.nil_append, List.cons_append, List.append_nil, List.getD_cons_zero, List.getD_cons_succ, List.length_cons, List.length_nil, List.take_succ_cons, List.take_zero, List.take_nil, List.drop_succ_cons, List.drop_zero, ex_clo, or_true, Bool.false_eq_true, tab3, tab30, tab32, tab37, hN, Int.toNat_natCast, isIs_enc, toIs_enc, lk_spec_cells_spec_addInt, sp_spec_addInt, el, g, hw, hX, hY, z5, z6, z7, z8]
    repeat refine And.intro (by first | omega | (simp; done) | (simp; omega)) ?_
    exact ⟨i + 1, id, by simp only []; omega, by simp only []; omega, by simp only [hx, hy]; exact by simp [SLe, SLe0, convTm, convHp, conv, conv0, lkT, lkH, clean]⟩
  · have hie : i = l.length := by simp at h; omega
    have ht : l.take i = l := by rw [hie, List.take_length]
    simp only [V_seq, V_ret, V_exit, V_region, W_nil, W_cons, effOp2, KN_seq, KXr_nil, KXe_nil, KXe_seq, KXe_block, KXe_back, QE, effOp, effPure, pureV, strip, lkT, lkH, ISt.app, opI, gO, gB, allB, gval, wrapG, dstOK, setD, Gives, Ideal.Fin, conv, conv0, Op.operands, reduceIte, reduceCtorEq, Nat.reduceLT, Nat.reduceEqDiff, and_self, implies_true, List.nil_append, List.cons_append, List.append_nil, hN, ht]
def sp_spec_cells : PSpec := ⟨fun xs => match xs with | [.sl 4 les] => isQs les ∧ ((fun (l : List Qd) => l.length ≤ 12) (toQs les)) | _ => False, fun xs => match xs with | [.sl _ les] => (fun (l : List Qd) => .tup [.sl 1 (encI (bxs l)), .sl 1 (encI (bys l))]) (toQs les) | _ => .junk, false⟩
theorem gk_spec_cells : ∀ args, sp_spec_cells.pre args → ICall Try.prog 82 args (sp_spec_cells.val args) := by
  intro args h
  unfold sp_spec_cells at h ⊢; simp only at h ⊢; split at h
  · obtain ⟨h0, h1⟩ := h
    obtain ⟨l0, rfl⟩ := isQ_ex h0
    simp only [toQs_enc] at *
    exact c_spec_cells _ h1
  · exact h.elim
theorem en_spec_cells : Enters Try.prog 82 := enters_of Try.func82 (by kernel_rfl) rfl

theorem okRs_facts {l : List Qd} (h : okRs l = true) : (∀ r ∈ l, vRc r = true) ∧ l.length ≤ 12 := by
  simp only [okRs, Bool.and_eq_true, decide_eq_true_eq, List.all_eq_true] at h
  exact h
def mxV (l : List Qd) : Int × Pt := if okRs l then maxP l else (-1, (0, 0))
theorem grP_succ (xs ys : List Int) (m i : Nat) : grP xs ys m (i + 1) = grP xs ys m i ++ rowP ys (iA xs i) m := rfl
def g_spec_MaxDepth : List (Nat × PSpec) := [(81, sp_spec_validRects), (82, sp_spec_cells), (83, sp_spec_depthAt)]
theorem gok_spec_MaxDepth : GOK Try.prog g_spec_MaxDepth := gok_cons gk_spec_validRects en_spec_validRects (gok_cons gk_spec_cells en_spec_cells (gok_cons gk_spec_depthAt en_spec_depthAt (gok0)))
theorem lk_spec_MaxDepth_spec_validRects : lkG g_spec_MaxDepth 81 = sp_spec_validRects := rfl
theorem lk_spec_MaxDepth_spec_cells : lkG g_spec_MaxDepth 82 = sp_spec_cells := rfl
theorem lk_spec_MaxDepth_spec_depthAt : lkG g_spec_MaxDepth 83 = sp_spec_depthAt := rfl
def h_spec_MaxDepth : List (Nat × HSpec) := []
theorem hok_spec_MaxDepth : HOK Try.prog h_spec_MaxDepth := hok0
theorem c_spec_MaxDepth (l : List Qd)  : ICall Try.prog 22 [.sl 4 (encQs l)] (.tup [.num .i64 (mxV l).1, encP (mxV l).2]) := by
  refine icall_of_hcall (v := .tup [.num .i64 (mxV l).1, encP (mxV l).2]) (hp' := []) id ?_ (by simp [SLe0, convTm, convHp, conv, convL, conv0, lkT, clean, encP]) (by simp [idsV, idsL, encP])
  refine hcall_V (G := g_spec_MaxDepth) (H := []) [(12, [(1, 9), (2, 9), (3, 9), (5, 9), (6, 9), (7, 9)])] tabOK mixed gok_spec_MaxDepth hok_spec_MaxDepth Try.func22 rfl Try.ntmps22 Try.results22 rfl (by kernel_rfl) fun F hN hlen => ?_
  cases hk : okRs l with
  | false =>
    have hv : mxV l = (-1, (0, 0)) := by rw [mxV, hk]; rfl
    simp only [V_seq, V_ret, V_region, V_cond, brW_true, W_nil, W_cons, effOp2, KN_seq, KXr_nil, KXr_seq, QE, asB, effOp, effPure, effNew, effAlloc, effStore, effCall, giveUp, hasAll, skipE, pureV, storeV, partV, loadV, over, solid, buildL, IV.cells, ofC, strip, lkT, lkH, ISt.app, opI, gO, gB, allB, gval, wrapG, dstOK, setD, mentTm, mentHp, IV.ment, oneI, lendV, lendP, lent, lentP, idsV, idsL, lkHS, flat, clean, callArgs, callFn, allLent, enumT, conv, conv0, convL, Op.operands, reduceIte, reduceCtorEq, cond_true, Bool.or_false, Bool.and_true, Bool.not_true, Bool.not_false, Nat.reduceAdd, Nat.reduceLT, Nat.reduceLeDiff, Nat.reduceEqDiff, Nat.zero_add, ne_eq, not_false_eq_true, true_and, and_false, and_self, implies_true, List.map_cons, List.map_nil, List.nil_append, List.cons_append, List.append_nil, List.all_cons, List.all_nil, List.getD_cons_zero, List.length_cons, List.length_nil, List.take_succ_cons, List.take_zero, List.take_nil, List.drop_succ_cons, List.drop_zero, List.drop_nil, ex_clo, or_self, tab30, hN, encP, isQs_enc, toQs_enc, FinH, resA, resL, resV, SLe, SLe0, convTm, convHp, lk_spec_MaxDepth_spec_validRects, sp_spec_validRects, hk, hv]
    exact ⟨id, List.nodup_nil, fun _ _ _ => rfl⟩
  | true =>
    obtain ⟨h1, h2⟩ := okRs_facts hk
    have hv : mxV l = bestP (dep l) (grP (bxs l) (bys l) (bys l).length (bxs l).length) (0, (0, 0)) := by rw [mxV, hk]; rfl
    have z1 := bxs_len l
    have z2 := bys_len l
    obtain ⟨X, hX⟩ : ∃ X, bxs l = X := ⟨_, rfl⟩
    obtain ⟨Y, hY⟩ : ∃ Y, bys l = Y := ⟨_, rfl⟩
    rw [hX, hY] at hv
    rw [hX] at z1
    rw [hY] at z2
    have eX := len_encI X
    have eY := len_encI Y
    simp only [V_seq, V_skip, V_block, V_region, V_cond, brW_false, W_nil, W_cons, effOp2, KN_seq, asB, effOp, effPure, effNew, effAlloc, effStore, effCall, giveUp, hasAll, skipE, pureV, storeV, over, solid, buildL, IV.cells, ofC, strip, lkT, lkH, ISt.app, opI, gO, gB, allB, gval, wrapG, dstOK, setD, mentTm, mentHp, IV.ment, IV.mentL, oneI, lendV, lendP, lent, lentP, idsV, idsL, lkHS, flat, flatL, clean, cleanL, callArgs, callFn, allLent, enumT, Op.operands, reduceIte, reduceCtorEq, cond_true, cond_false, Bool.or_false, Bool.and_true, Bool.and_false, Bool.not_true, Nat.reduceAdd, Nat.reduceLT, Nat.reduceLeDiff, Nat.reduceEqDiff, Nat.reduceBEq, Nat.zero_add, ne_eq, not_false_eq_true, true_and, and_self, implies_true, List.map_cons, List.map_nil, List.nil_append, List.cons_append, List.append_nil, List.all_cons, List.all_nil, List.getD_cons_zero, List.getD_cons_succ, List.length_cons, List.length_nil, List.take_zero, List.drop_succ_cons, List.drop_nil, ex_clo, or_true, or_self, Bool.false_eq_true, tab30, hN, encP, isQs_enc, toQs_enc, lk_spec_MaxDepth_spec_validRects, lk_spec_MaxDepth_spec_cells, sp_spec_validRects, sp_spec_cells, hk, h2, hX, hY]
    refine V_loop (α := Nat) ⟨tabOK, mixed, gok_spec_MaxDepth, hok_spec_MaxDepth⟩ (by kernel_rfl) (fun i => i ≤ X.length) (fun i => ⟨[(8, .num .i64 i), (7, .ptr 7 0), (6, .num .i64 (bestP (dep l) (grP X Y Y.length i) (0, (0, 0))).1), (5, .sl 1 (encI Y)), (4, .sl 1 (encI X)), (3, .ptr 3 0), (0, .sl 4 (encQs l))], [(7, some (.box 30 [.num .i64 (bestP (dep l) (grP X Y Y.length i) (0, (0, 0))).2.1, .num .i64 (bestP (dep l) (grP X Y Y.length i) (0, (0, 0))).2.2])), (3, some (.box 30 [.num .i64 0, .num .i64 0]))]⟩) (fun i => X.length - i) 0 id (Nat.zero_le _) (by simp [SLe, SLe0, convTm, convHp, convB, conv, conv0, convL, lkT, lkH, clean, grP, bestP]) ?_
    intro i hi
    have hg := grP_succ X Y Y.length i
    obtain ⟨B, hB⟩ : ∃ B, bestP (dep l) (grP X Y Y.length i) (0, (0, 0)) = B := ⟨_, rfl⟩
    have hBn : bestP (dep l) (grP X Y Y.length (i + 1)) (0, (0, 0)) = bestP (dep l) (rowP Y (iA X i) Y.length) B := by rw [hg, bestP_app, hB]
    simp only [hB]
    simp only [V_seq, V_region, V_cond, W_nil, W_cons, effOp2, KN_seq, asB, effOp, effPure, pureV, binV, lenV, strip, lkT, ISt.app, opI, gO, gB, allB, gval, wrapG, dstOK, setD, Op.operands, Call.operands, List.append_toArray, reduceIte, reduceCtorEq, Nat.reduceLT, Nat.reduceEqDiff, ne_eq, not_false_eq_true, true_and, and_self, implies_true, List.nil_append, List.cons_append, tab25, hN, eX]
    refine brW_some (fun h => ?_) (fun h => ?_)
    · have hi' : i < X.length := by simpa using h
      have g := getD_encI hi'
      have hw := wr_succ hi' (by rw [maxLen_eq]; omega)
      have hia : X.getD i 0 = iA X i := rfl
      rw [hia] at g
      simp only [V_seq, V_skip, V_block, V_region, W_nil, W_cons, effOp2, KN_seq, effOp, effPure, pureV, ofC, strip, ISt.app, opI, gO, gB, allB, gval, wrapG, dstOK, setD, Op.operands, Nat.reduceLT, true_and, and_self, implies_true, List.nil_append, List.cons_append, hN]
      refine V_loop (α := Nat) ⟨tabOK, mixed, gok_spec_MaxDepth, hok_spec_MaxDepth⟩ (by kernel_rfl) (fun k => k ≤ Y.length) (fun k => ⟨[(9, .num .i64 k), (8, .num .i64 i), (7, .ptr 7 0), (6, .num .i64 (bestP (dep l) (rowP Y (iA X i) k) B).1), (5, .sl 1 (encI Y)), (4, .sl 1 (encI X)), (3, .ptr 3 0), (0, .sl 4 (encQs l))], [(7, some (.box 30 [.num .i64 (bestP (dep l) (rowP Y (iA X i) k) B).2.1, .num .i64 (bestP (dep l) (rowP Y (iA X i) k) B).2.2])), (3, some (.box 30 [.num .i64 0, .num .i64 0]))]⟩) (fun k => Y.length - k) 0 id (Nat.zero_le _) (by simp [SLe, SLe0, convTm, convHp, convB, conv, conv0, convL, lkT, lkH, clean, rowP, bestP]) ?_
      intro k hk2
      have hr := rowP_succ Y (iA X i) k
      obtain ⟨C, hC⟩ : ∃ C, bestP (dep l) (rowP Y (iA X i) k) B = C := ⟨_, rfl⟩
      have hCn : bestP (dep l) (rowP Y (iA X i) (k + 1)) B = if C.1 < (dep l (iA X i) (iA Y k) : Int) then ((dep l (iA X i) (iA Y k) : Int), (iA X i, iA Y k)) else C := by rw [hr, bestP_app, hC]; rfl
      simp only [hC]
      simp only [V_seq, V_region, V_cond, W_nil, W_cons, effOp2, KN_seq, asB, effOp, effPure, pureV, binV, lenV, strip, lkT, ISt.app, opI, gO, gB, allB, gval, wrapG, dstOK, setD, Op.operands, Call.operands, List.append_toArray, reduceIte, reduceCtorEq, Nat.reduceLT, Nat.reduceEqDiff, ne_eq, not_false_eq_true, true_and, and_self, implies_true, List.nil_append, List.cons_append, tab25, hN, eY]
      refine brW_some (fun h => ?_) (fun h => ?_)
      · have hk' : k < Y.length := by simpa using h
        have g2 := getD_encI hk'
        have hwk := wr_succ hk' (by rw [maxLen_eq]; omega)
        have hka : Y.getD k 0 = iA Y k := rfl
        rw [hka] at g2
        cases c1 : decide (C.1 < (dep l (iA X i) (iA Y k) : Int)) with
        | true =>
          rw [if_pos (of_decide_eq_true c1)] at hCn
          simp only [V_seq, V_skip, V_block, V_region, V_draw, V_cond, brW_true, drawW, WS_nil, WS_cons, pairsOf, W_nil, W_cons, WD_nil, WD_cons, effOp2, effOp3, WI_nil, WI_cons, KN_seq, KN_block, KN_back, dynOK, indB, farB, freshB, freshK, freshK1, heapy, asB, effOp, effPure, effStore, effCall, giveUp, hasAll, pureV, storeV, binV, eltV, loadV, iaddrV, over, solid, buildL, IV.cells, ofC, strip, lkT, lkH, ISt.app, opI, gO, gB, allB, gval, wrapG, dstOK, setD, mentTm, mentHp, IV.ment, oneI, lendV, lendP, lent, lentP, idsV, idsL, lkHS, flat, clean, callArgs, callFn, allLent, Op.operands, Call.operands, List.append_toArray, reduceIte, reduceCtorEq, cond_true, cond_false, Bool.or_false, Bool.and_true, Bool.and_eq_true, Bool.not_true, Bool.not_false, Nat.reduceAdd, Nat.reduceLT, Nat.reduceLeDiff, Nat.reduceEqDiff, Nat.reduceBEq, Nat.zero_add, ne_eq, not_false_eq_true, true_and, and_true, and_self, implies_true, forall_const, List.map_cons, List.map_nil, List.nil_append, List.cons_append, List.append_nil, List.all_cons, List.all_nil, List.getD_cons_zero, List.getD_cons_succ, List.length_cons, List.length_nil, List.take_succ_cons, List.take_zero, List.drop_succ_cons, List.drop_zero, List.drop_nil, ex_clo, or_self, tab3, tab25, tab30, hN, Int.toNat_natCast, isQs_enc, toQs_enc, lk_spec_MaxDepth_spec_depthAt, sp_spec_depthAt, eX, eY, g, g2, hwk, h2, c1]
          repeat refine And.intro (by first | omega | (simp; done) | (simp; omega)) ?_
          exact ⟨k + 1, id, by simp only []; omega, by simp only []; omega, by simp only [hCn]; exact by simp [SLe, SLe0, convTm, convHp, convB, conv, conv0, convL, lkT, lkH, clean]⟩
        | false =>
          rw [if_neg (of_decide_eq_false c1)] at hCn
          simp only [V_seq, V_skip, V_block, V_region, V_draw, V_cond, brW_false, drawW, WS_nil, WS_cons, pairsOf, W_nil, W_cons, effOp2, effOp3, WI_nil, WI_cons, KN_seq, KN_block, KN_back, dynOK, indB, farB, freshB, freshK, freshK1, heapy, asB, effOp, effPure, effCall, giveUp, hasAll, pureV, binV, eltV, loadV, iaddrV, ofC, strip, lkT, lkH, ISt.app, opI, gO, gB, allB, gval, wrapG, dstOK, setD, mentTm, mentHp, IV.ment, lendV, lendP, lent, lentP, idsV, idsL, lkHS, flat, clean, callArgs, callFn, allLent, Op.operands, Call.operands, List.append_toArray, reduceIte, reduceCtorEq, cond_true, cond_false, Bool.or_false, Bool.and_true, Bool.and_eq_true, Bool.not_true, Bool.not_false, Nat.reduceLT, Nat.reduceEqDiff, Nat.reduceBEq, ne_eq, not_false_eq_true, true_and, and_true, and_self, implies_true, forall_const, List.map_cons, List.map_nil, List.nil_append, List.cons_append, List.append_nil, List.getD_cons_zero, List.getD_cons_succ, List.take_succ_cons, List.take_zero, List.drop_succ_cons, List.drop_zero, ex_clo, or_self, tab3, tab25, hN, Int.toNat_natCast, isQs_enc, toQs_enc, lk_spec_MaxDepth_spec_depthAt, sp_spec_depthAt, eX, eY, g, g2, hwk, h2, c1]
          repeat refine And.intro (by first | omega | (simp; done) | (simp; omega)) ?_
          exact ⟨k + 1, id, by simp only []; omega, by simp only []; omega, by simp only [hCn]; exact by simp [SLe, SLe0, convTm, convHp, convB, conv, conv0, convL, lkT, lkH, clean]⟩
      · have hke : k = Y.length := by simp at h; omega
        subst hke
        rw [hC] at hBn
        simp only [V_seq, V_ret, V_exit, V_region, V_draw, drawW, pairsOf, W_nil, W_cons, WD_nil, WD_cons, effOp2, effOp3, KN_seq, KN_block, KN_back, KXr_nil, KXe_nil, KXe_seq, KXe_block, KXe_back, QE, effOp, effPure, effStore, pureV, storeV, binV, partV, loadV, over, solid, IV.cells, ofC, strip, lkT, lkH, ISt.app, opI, gO, gB, allB, gval, wrapG, dstOK, setD, oneI, clean, conv, conv0, convL, Op.operands, reduceIte, reduceCtorEq, cond_true, Bool.and_true, Nat.reduceAdd, Nat.reduceLT, Nat.reduceLeDiff, Nat.reduceEqDiff, Nat.zero_add, true_and, and_true, and_false, and_self, implies_true, List.map_nil, List.nil_append, List.cons_append, List.append_nil, List.all_cons, List.all_nil, List.getD_cons_zero, List.length_cons, List.length_nil, List.take_succ_cons, List.take_zero, List.take_nil, List.drop_succ_cons, List.drop_zero, List.drop_nil, tab30, hN, FinH, resA, resL, resV, SLe, SLe0, convTm, convHp, hw]
        exact ⟨i + 1, id, by simp only []; omega, by simp only []; omega, by simp only [hBn]; exact by simp [SLe, SLe0, convTm, convHp, convB, conv, conv0, convL, lkT, lkH, clean]⟩
    · have hie : i = X.length := by simp at h; omega
      subst hie
      rw [hB] at hv
      simp only [V_seq, V_ret, V_exit, V_draw, drawW, pairsOf, WD_nil, WD_cons, effOp3, KN_seq, KXr_nil, KXe_nil, KXe_seq, KXe_block, KXe_back, QE, effOp, effPure, effStore, pureV, storeV, partV, loadV, over, solid, IV.cells, strip, lkT, lkH, ISt.app, opI, gO, gB, allB, gval, wrapG, dstOK, setD, oneI, clean, conv, conv0, convL, Op.operands, reduceIte, reduceCtorEq, cond_true, Bool.and_true, Nat.reduceAdd, Nat.reduceLT, Nat.reduceLeDiff, Nat.reduceEqDiff, Nat.zero_add, true_and, and_false, and_self, implies_true, List.map_nil, List.nil_append, List.cons_append, List.append_nil, List.all_cons, List.all_nil, List.getD_cons_zero, List.length_cons, List.length_nil, List.take_succ_cons, List.take_zero, List.take_nil, List.drop_succ_cons, List.drop_zero, List.drop_nil, tab30, hN, FinH, resA, resL, resV, SLe, SLe0, convTm, convHp, hv]
      exact ⟨id, List.nodup_nil, fun _ _ _ => rfl⟩
def sp_spec_MaxDepth : PSpec := ⟨fun xs => match xs with | [.sl 4 les] => isQs les | _ => False, fun xs => match xs with | [.sl _ les] => (fun (l : List Qd) => .tup [.num .i64 (mxV l).1, encP (mxV l).2]) (toQs les) | _ => .junk, false⟩
theorem gk_spec_MaxDepth : ∀ args, sp_spec_MaxDepth.pre args → ICall Try.prog 22 args (sp_spec_MaxDepth.val args) := by
  intro args h
  unfold sp_spec_MaxDepth at h ⊢; simp only at h ⊢; split at h
  · have h0 := h
    obtain ⟨l0, rfl⟩ := isQ_ex h0
    simp only [toQs_enc] at *
    exact c_spec_MaxDepth _ 
  · exact h.elim
theorem en_spec_MaxDepth : Enters Try.prog 22 := enters_of Try.func22 (by kernel_rfl) rfl

end Go.Proofs.Ytlifmigihfancaa
