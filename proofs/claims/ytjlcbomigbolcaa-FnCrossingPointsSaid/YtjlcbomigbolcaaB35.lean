/- Contracts: crossing points of segments; the exact law on them. -/
import Derived.Test.YtjlcbomigbolcaaBR
import Derived.Test.YtjlcbomigbolcaaBU
import Derived.Test.YtjlcbomigbolcaaBZ
import Derived.Test.YtjlcbomigbolcaaB17
import Derived.Test.YtjlcbomigbolcaaPl18
set_option linter.unusedVariables false
set_option linter.unusedSimpArgs false
set_option maxHeartbeats 1600000
set_option maxRecDepth 100000
namespace Go.Proofs.Ytjlcbomigbolcaa
open Go Go.Ideal Go.Pl Go.Sort

/-- Is a segment valid? -/
def vSg (s : Qd) : Bool := okP s.1 && (okP s.2 && s.1 != s.2)
theorem vSg_facts {s : Qd} (h : vSg s = true) : SmQ s ∧ in9 s.1 ∧ in9 s.2 ∧ s.1 ≠ s.2 := by
  simp only [vSg, Bool.and_eq_true, bne_iff_ne, ne_eq] at h
  refine ⟨⟨okP_sm h.1, okP_sm h.2.1⟩, ?_, ?_, h.2.2⟩
  · simpa only [okP, inR, Bool.and_eq_true, decide_eq_true_eq, in9] using h.1
  · simpa only [okP, inR, Bool.and_eq_true, decide_eq_true_eq, in9] using h.2.1
theorem neP (a b : Pt) : (!(a.1 == b.1 && a.2 == b.2)) = (a != b) := rfl
def g_impl_Segment_valid : List (Nat × PSpec) := [(172, sp_impl_allValid)]
theorem gok_impl_Segment_valid : GOK Try.prog g_impl_Segment_valid := gok_cons gk_impl_allValid en_impl_allValid (gok0)
theorem lk_impl_Segment_valid_impl_allValid : lkG g_impl_Segment_valid 172 = sp_impl_allValid := rfl
def h_impl_Segment_valid : List (Nat × HSpec) := []
theorem hok_impl_Segment_valid : HOK Try.prog h_impl_Segment_valid := hok0
theorem c_impl_Segment_valid (s : Qd)  : ICall Try.prog 96 [encQ s] (.bool (vSg s)) := by
  refine icall_V (G := g_impl_Segment_valid) (H := []) [] tabOK mixed gok_impl_Segment_valid hok_impl_Segment_valid Try.func96 rfl Try.ntmps96 Try.results96 rfl (by kernel_rfl) fun F hN hlen => ?_
  have hv : vSg s = (okP s.1 && (okP s.2 && s.1 != s.2)) := rfl
  cases h1 : okP s.1 with
  | false =>
    rw [h1, Bool.false_and] at hv
    simp only [V_seq, V_ret, V_region, W_nil, W_cons, effOp2, KN_seq, KXr_nil, QE, effOp, effPure, effPick, effNew, effBox, effBuildSlice, effFrz, frz, tmpsOf, effCall, giveUp, hasAll, Option.isSome_some, skipE, pureV, pickV, binV, partV, loadV, faddrV, solid, IV.cells, ofC, strip, lkT, lkH, ISt.app, opI, gO, gB, allB, gval, wrapG, dstOK, setD, mentTm, mentHp, IV.ment, IV.mentL, partsL, eltsI, eltI, oneI, noId', lendV, lendP, lent, lentP, idsV, idsL, lkHS, flat, clean, callArgs, callFn, allLent, enumT, Gives, Ideal.Fin, conv, conv0, IBlk.shape, eqL, numsOnly, Op.operands, reduceIte, reduceCtorEq, cond_true, cond_false, Bool.or_false, Bool.and_true, Bool.false_and, Bool.not_true, Nat.reduceAdd, Nat.reduceMul, Nat.reduceLT, Nat.reduceLeDiff, Nat.reduceEqDiff, Nat.reduceBEq, Nat.add_zero, Nat.zero_add, ne_eq, not_false_eq_true, and_true, and_false, and_self, false_implies, implies_true, List.map_cons, List.map_nil, List.nil_append, List.cons_append, List.append_nil, List.all_cons, List.all_nil, Option.map_some, Option.bind_some, List.getElem?_cons_zero, List.getElem?_cons_succ, List.getD_cons_zero, List.getD_cons_succ, List.length_cons, List.length_nil, List.take_succ_cons, List.take_zero, List.take_nil, List.drop_succ_cons, List.drop_zero, ex_clo, bft, or_self, Bool.false_eq_true, tab30, tab47, tab67, hN, pe, encQ, isPs_nil, toPs_nil, isPs_cons, toPs_cons, lk_impl_Segment_valid_impl_allValid, sp_impl_allValid, h1, hv, List.all_cons, List.all_nil]
  | true =>
    rw [h1, Bool.true_and] at hv
    cases h2 : okP s.2 with
    | false =>
      rw [h2, Bool.false_and] at hv
      simp only [V_seq, V_ret, V_region, W_nil, W_cons, effOp2, KN_seq, KXr_nil, QE, effOp, effPure, effPick, effNew, effBox, effBuildSlice, effFrz, frz, tmpsOf, effCall, giveUp, hasAll, Option.isSome_some, skipE, pureV, pickV, binV, partV, loadV, faddrV, solid, IV.cells, ofC, strip, lkT, lkH, ISt.app, opI, gO, gB, allB, gval, wrapG, dstOK, setD, mentTm, mentHp, IV.ment, IV.mentL, partsL, eltsI, eltI, oneI, noId', lendV, lendP, lent, lentP, idsV, idsL, lkHS, flat, clean, callArgs, callFn, allLent, enumT, Gives, Ideal.Fin, conv, conv0, IBlk.shape, eqL, numsOnly, Op.operands, reduceIte, reduceCtorEq, cond_true, cond_false, Bool.or_false, Bool.and_true, Bool.and_false, Bool.not_true, Nat.reduceAdd, Nat.reduceMul, Nat.reduceLT, Nat.reduceLeDiff, Nat.reduceEqDiff, Nat.reduceBEq, Nat.add_zero, Nat.zero_add, ne_eq, not_false_eq_true, and_true, and_false, and_self, false_implies, implies_true, List.map_cons, List.map_nil, List.nil_append, List.cons_append, List.append_nil, List.all_cons, List.all_nil, Option.map_some, Option.bind_some, List.getElem?_cons_zero, List.getElem?_cons_succ, List.getD_cons_zero, List.getD_cons_succ, List.length_cons, List.length_nil, List.take_succ_cons, List.take_zero, List.take_nil, List.drop_succ_cons, List.drop_zero, ex_clo, bft, or_self, Bool.false_eq_true, tab30, tab47, tab67, hN, pe, encQ, isPs_nil, toPs_nil, isPs_cons, toPs_cons, lk_impl_Segment_valid_impl_allValid, sp_impl_allValid, h1, h2, hv, List.all_cons, List.all_nil]
    | true =>
      rw [h2, Bool.true_and] at hv
      simp only [V_seq, V_ret, V_region, W_nil, W_cons, effOp2, KN_seq, KXr_nil, QE, effOp, effPure, effPick, effNew, effBox, effBuildSlice, effFrz, frz, tmpsOf, effCall, giveUp, hasAll, Option.isSome_some, skipE, pureV, pickV, binV, partV, loadV, faddrV, solid, IV.cells, ofC, strip, lkT, lkH, ISt.app, opI, gO, gB, allB, gval, wrapG, dstOK, setD, mentTm, mentHp, IV.ment, IV.mentL, partsL, eltsI, eltI, oneI, noId', lendV, lendP, lent, lentP, idsV, idsL, lkHS, flat, clean, callArgs, callFn, allLent, enumT, Gives, Ideal.Fin, conv, conv0, IBlk.shape, eqL, numsOnly, Op.operands, reduceIte, reduceCtorEq, cond_true, Bool.or_false, Bool.and_true, Bool.not_true, Nat.reduceAdd, Nat.reduceMul, Nat.reduceLT, Nat.reduceLeDiff, Nat.reduceEqDiff, Nat.reduceBEq, Nat.add_zero, Nat.zero_add, ne_eq, not_false_eq_true, beq_self_eq_true, and_false, and_self, implies_true, List.map_cons, List.map_nil, List.nil_append, List.cons_append, List.append_nil, List.all_cons, List.all_nil, Option.map_some, Option.bind_some, List.getElem?_cons_zero, List.getElem?_cons_succ, List.getD_cons_zero, List.getD_cons_succ, List.length_cons, List.length_nil, List.take_succ_cons, List.take_zero, List.take_nil, List.drop_succ_cons, List.drop_zero, ex_clo, or_self, Bool.true_eq_false, tab30, tab47, tab67, hN, pe, encQ, isPs_nil, toPs_nil, isPs_cons, toPs_cons, lk_impl_Segment_valid_impl_allValid, sp_impl_allValid, h1, h2, hv, neP, List.all_cons, List.all_nil]
def sp_impl_Segment_valid : PSpec := ⟨fun xs => match xs with | [.agg [.num .i64 s1, .num .i64 s2, .num .i64 s3, .num .i64 s4]] => True | _ => False, fun xs => match xs with | [.agg [.num _ s1, .num _ s2, .num _ s3, .num _ s4]] => (fun (s : Qd) => .bool (vSg s)) ((s1, s2), (s3, s4)) | _ => .junk, false⟩
theorem gk_impl_Segment_valid : ∀ args, sp_impl_Segment_valid.pre args → ICall Try.prog 96 args (sp_impl_Segment_valid.val args) := by
  intro args h
  unfold sp_impl_Segment_valid at h ⊢; simp only at h ⊢; split at h
  · exact c_impl_Segment_valid ((_, _), (_, _))
  · exact h.elim
theorem en_impl_Segment_valid : Enters Try.prog 96 := enters_of Try.func96 (by kernel_rfl) rfl

def g_spec_validSegment : List (Nat × PSpec) := [(184, sp_spec_validPoint)]
theorem gok_spec_validSegment : GOK Try.prog g_spec_validSegment := gok_cons gk_spec_validPoint en_spec_validPoint (gok0)
theorem lk_spec_validSegment_spec_validPoint : lkG g_spec_validSegment 184 = sp_spec_validPoint := rfl
def h_spec_validSegment : List (Nat × HSpec) := []
theorem hok_spec_validSegment : HOK Try.prog h_spec_validSegment := hok0
theorem c_spec_validSegment (s : Qd)  : ICall Try.prog 166 [encQ s] (.bool (vSg s)) := by
  refine icall_V (G := g_spec_validSegment) (H := []) [] tabOK mixed gok_spec_validSegment hok_spec_validSegment Try.func166 rfl Try.ntmps166 Try.results166 rfl (by kernel_rfl) fun F hN hlen => ?_
  have hv : vSg s = (okP s.1 && (okP s.2 && s.1 != s.2)) := rfl
  cases h1 : okP s.1 with
  | false =>
    rw [h1, Bool.false_and] at hv
    simp only [V_seq, V_ret, V_region, W_nil, W_cons, effOp2, KN_seq, KXr_nil, QE, effOp, effPure, effPick, effNew, effBox, effCall, giveUp, hasAll, skipE, pureV, pickV, binV, partV, loadV, faddrV, solid, IV.cells, ofC, strip, lkT, lkH, ISt.app, opI, gO, gB, allB, gval, wrapG, dstOK, setD, mentTm, mentHp, IV.ment, IV.mentL, oneI, lendV, lendP, lent, lentP, idsV, idsL, lkHS, flat, clean, callArgs, callFn, allLent, enumT, Gives, Ideal.Fin, conv, conv0, IBlk.shape, eqL, numsOnly, Op.operands, reduceIte, reduceCtorEq, cond_true, cond_false, Bool.or_false, Bool.or_true, Bool.and_true, Bool.not_true, Bool.not_false, Nat.reduceAdd, Nat.reduceLT, Nat.reduceLeDiff, Nat.reduceEqDiff, Nat.add_zero, Nat.zero_add, and_true, and_false, and_self, false_implies, implies_true, List.map_cons, List.map_nil, List.nil_append, List.cons_append, List.append_nil, List.all_cons, List.all_nil, Option.map_some, Option.bind_some, List.getElem?_cons_zero, List.getElem?_cons_succ, List.getD_cons_zero, List.getD_cons_succ, List.length_cons, List.length_nil, List.take_succ_cons, List.take_zero, List.take_nil, List.drop_succ_cons, List.drop_zero, ex_clo, bft, or_self, Bool.false_eq_true, tab30, tab47, hN, pe, encQ, lk_spec_validSegment_spec_validPoint, sp_spec_validPoint, h1, hv]
  | true =>
    rw [h1, Bool.true_and] at hv
    cases h2 : okP s.2 with
    | false =>
      rw [h2, Bool.false_and] at hv
      simp only [V_seq, V_ret, V_region, W_nil, W_cons, effOp2, KN_seq, KXr_nil, QE, effOp, effPure, effPick, effNew, effBox, effCall, giveUp, hasAll, skipE, pureV, pickV, binV, partV, loadV, faddrV, solid, IV.cells, ofC, strip, lkT, lkH, ISt.app, opI, gO, gB, allB, gval, wrapG, dstOK, setD, mentTm, mentHp, IV.ment, IV.mentL, oneI, lendV, lendP, lent, lentP, idsV, idsL, lkHS, flat, clean, callArgs, callFn, allLent, enumT, Gives, Ideal.Fin, conv, conv0, IBlk.shape, eqL, numsOnly, Op.operands, reduceIte, reduceCtorEq, cond_true, cond_false, Bool.or_false, Bool.and_true, Bool.not_true, Nat.reduceAdd, Nat.reduceLT, Nat.reduceLeDiff, Nat.reduceEqDiff, Nat.add_zero, Nat.zero_add, beq_self_eq_true, and_true, and_false, and_self, false_implies, implies_true, List.map_cons, List.map_nil, List.nil_append, List.cons_append, List.append_nil, List.all_cons, List.all_nil, Option.map_some, Option.bind_some, List.getElem?_cons_zero, List.getElem?_cons_succ, List.getD_cons_zero, List.getD_cons_succ, List.length_cons, List.length_nil, List.take_succ_cons, List.take_zero, List.take_nil, List.drop_succ_cons, List.drop_zero, ex_clo, bft, or_self, Bool.true_eq_false, Bool.false_eq_true, tab30, tab47, hN, pe, encQ, lk_spec_validSegment_spec_validPoint, sp_spec_validPoint, h1, h2, hv]
    | true =>
      rw [h2, Bool.true_and] at hv
      simp only [V_seq, V_ret, V_region, W_nil, W_cons, effOp2, KN_seq, KXr_nil, QE, effOp, effPure, effPick, effNew, effBox, effCall, giveUp, hasAll, skipE, pureV, pickV, binV, partV, loadV, faddrV, solid, IV.cells, ofC, strip, lkT, lkH, ISt.app, opI, gO, gB, allB, gval, wrapG, dstOK, setD, mentTm, mentHp, IV.ment, IV.mentL, oneI, lendV, lendP, lent, lentP, idsV, idsL, lkHS, flat, clean, callArgs, callFn, allLent, enumT, Gives, Ideal.Fin, conv, conv0, IBlk.shape, eqL, numsOnly, Op.operands, reduceIte, reduceCtorEq, cond_true, Bool.or_false, Bool.and_true, Bool.not_true, Nat.reduceAdd, Nat.reduceLT, Nat.reduceLeDiff, Nat.reduceEqDiff, Nat.add_zero, Nat.zero_add, beq_self_eq_true, and_false, and_self, implies_true, List.map_cons, List.map_nil, List.nil_append, List.cons_append, List.append_nil, List.all_cons, List.all_nil, Option.map_some, Option.bind_some, List.getElem?_cons_zero, List.getElem?_cons_succ, List.getD_cons_zero, List.getD_cons_succ, List.length_cons, List.length_nil, List.take_succ_cons, List.take_zero, List.take_nil, List.drop_succ_cons, List.drop_zero, ex_clo, or_self, Bool.true_eq_false, tab30, tab47, hN, pe, encQ, lk_spec_validSegment_spec_validPoint, sp_spec_validPoint, h1, h2, hv, neP]
def sp_spec_validSegment : PSpec := ⟨fun xs => match xs with | [.agg [.num .i64 s1, .num .i64 s2, .num .i64 s3, .num .i64 s4]] => True | _ => False, fun xs => match xs with | [.agg [.num _ s1, .num _ s2, .num _ s3, .num _ s4]] => (fun (s : Qd) => .bool (vSg s)) ((s1, s2), (s3, s4)) | _ => .junk, false⟩
theorem gk_spec_validSegment : ∀ args, sp_spec_validSegment.pre args → ICall Try.prog 166 args (sp_spec_validSegment.val args) := by
  intro args h
  unfold sp_spec_validSegment at h ⊢; simp only at h ⊢; split at h
  · exact c_spec_validSegment ((_, _), (_, _))
  · exact h.elim
theorem en_spec_validSegment : Enters Try.prog 166 := enters_of Try.func166 (by kernel_rfl) rfl

def okSs (l : List Qd) : Bool := l.all vSg && decide (l.length ≤ 12)
def g_spec_validSegments : List (Nat × PSpec) := [(166, sp_spec_validSegment)]
theorem gok_spec_validSegments : GOK Try.prog g_spec_validSegments := gok_cons gk_spec_validSegment en_spec_validSegment (gok0)
theorem lk_spec_validSegments_spec_validSegment : lkG g_spec_validSegments 166 = sp_spec_validSegment := rfl
def h_spec_validSegments : List (Nat × HSpec) := []
theorem hok_spec_validSegments : HOK Try.prog h_spec_validSegments := hok0
theorem c_spec_validSegments (l : List Qd)  : ICall Try.prog 92 [.sl 4 (encQs l)] (.bool (okSs l)) := by
  refine icall_V (G := g_spec_validSegments) (H := []) [] tabOK mixed gok_spec_validSegments hok_spec_validSegments Try.func92 rfl Try.ntmps92 Try.results92 rfl (by kernel_rfl) fun F hN hlen => ?_
  have hl := hlen 0 4 _ rfl
  have el := len_encQs l
  rw [el] at hl
  simp only [V_seq, V_block, V_region, W_nil, W_cons, effOp2, KN_seq, effOp, effPure, pureV, ofC, strip, ISt.app, opI, gO, gB, allB, gval, wrapG, dstOK, setD, enumT, Op.operands, Nat.reduceLT, true_and, and_self, implies_true, List.nil_append, List.cons_append, List.append_nil, hN]
  refine V_loop (α := Nat) ⟨tabOK, mixed, gok_spec_validSegments, hok_spec_validSegments⟩ (by kernel_rfl) (fun i => i ≤ l.length ∧ l.all vSg = (l.drop i).all vSg) (fun i => ⟨[(3, .num .i64 i), (0, .sl 4 (encQs l))], []⟩) (fun i => l.length - i) 0 id (by simp) (by simp [SLe, SLe0, convTm, convHp, conv, conv0, lkT, lkH, clean]) ?_
  rintro i ⟨hi, hj⟩
  simp only [V_seq, V_region, V_cond, W_nil, W_cons, effOp2, KN_seq, asB, effOp, effPure, pureV, binV, lenV, strip, lkT, ISt.app, opI, gO, gB, allB, gval, wrapG, dstOK, setD, Op.operands, Call.operands, List.append_toArray, reduceIte, reduceCtorEq, Nat.reduceLT, Nat.reduceEqDiff, ne_eq, not_false_eq_true, true_and, and_self, implies_true, List.nil_append, List.cons_append, List.append_nil, tab43, hN, el]
  refine brW_some (fun h => ?_) (fun h => ?_)
  · have hi' : i < l.length := by simpa using h
    have g1 := getD_encQs hi'
    have hw := wr_succ hi' hl
    have hst := all_step (p := vSg) (d := ((0, 0), (0, 0))) hi'
    simp only [V_seq, V_skip, V_block, V_region, V_cond, W_nil, W_cons, effOp2, KN_seq, asB, effOp, effPure, effCall, giveUp, hasAll, pureV, partV, eltV, loadV, iaddrV, strip, lkT, lkH, ISt.app, opI, gO, gB, allB, gval, wrapG, dstOK, setD, lendV, lendP, lent, lentP, idsV, idsL, lkHS, flat, clean, callArgs, callFn, allLent, Op.operands, reduceIte, reduceCtorEq, cond_true, Bool.or_false, Bool.not_true, Nat.reduceAdd, Nat.reduceLT, Nat.reduceLeDiff, Nat.reduceEqDiff, Nat.zero_add, ne_eq, not_false_eq_true, true_and, and_true, and_false, and_self, implies_true, forall_const, List.map_cons, List.map_nil, List.nil_append, List.cons_append, List.append_nil, List.getD_cons_zero, List.length_cons, List.length_nil, List.take_succ_cons, List.take_nil, List.drop_zero, ex_clo, or_self, tab43, tab47, hN, pe, Int.toNat_natCast, lk_spec_validSegments_spec_validSegment, sp_spec_validSegment, el, Int.toNat_natCast, g1]
    repeat refine And.intro (by omega) ?_
    refine brW_some (fun h => ?_) (fun h => ?_)
    · simp only [V_seq, V_ret, V_region, W_nil, W_cons, effOp2, KN_seq, KXr_nil, KXr_seq, KXr_block, KXr_back, QE, effOp, effPure, pureV, ofC, strip, lkT, lkH, ISt.app, opI, gO, gB, allB, gval, wrapG, dstOK, setD, clean, Gives, Ideal.Fin, conv, conv0, Op.operands, reduceIte, reduceCtorEq, Nat.reduceLT, Nat.reduceEqDiff, true_and, and_true, and_self, implies_true, List.nil_append, List.cons_append, List.append_nil, hN]
      have hq : vSg (qAt l i) = false := by simpa using h
      have : l.all vSg = false := by rw [hj, hst, hq]; rfl
      simp only [okSs, this, Bool.false_and]
    · simp only [V_skip, V_region, W_nil, W_cons, effOp2, KN_seq, KN_block, KN_back, effOp, effPure, pureV, binV, ofC, strip, lkT, ISt.app, opI, gO, gB, allB, gval, wrapG, dstOK, setD, Op.operands, reduceIte, reduceCtorEq, Nat.reduceLT, Nat.reduceEqDiff, true_and, and_self, implies_true, List.nil_append, List.cons_append, List.append_nil, hN, hw]
      have hq : vSg (qAt l i) = true := by simpa using h
      exact ⟨i + 1, id, ⟨by omega, by rw [hj, hst, hq]; rfl⟩, by simp only []; omega, by simp [SLe, SLe0, convTm, convHp, conv, conv0, lkT, lkH, clean]⟩
  · simp only [V_seq, V_ret, V_exit, V_region, W_nil, W_cons, effOp2, KN_seq, KXr_nil, KXe_nil, KXe_seq, KXe_block, KXe_back, QE, effOp, effPure, pureV, binV, lenV, ofC, strip, lkT, lkH, ISt.app, opI, gO, gB, allB, gval, wrapG, dstOK, setD, clean, Gives, Ideal.Fin, conv, conv0, Op.operands, Call.operands, List.append_toArray, reduceIte, reduceCtorEq, Nat.reduceLT, Nat.reduceEqDiff, ne_eq, not_false_eq_true, true_and, and_true, and_self, implies_true, List.nil_append, List.cons_append, List.append_nil, tab43, hN, el]
    have hie : i = l.length := by simp at h; omega
    subst hie
    have : l.all vSg = true := by rw [hj]; simp
    simp only [okSs, this, Bool.true_and]
    simp
    omega
def sp_spec_validSegments : PSpec := ⟨fun xs => match xs with | [.sl 4 les] => isQs les | _ => False, fun xs => match xs with | [.sl _ les] => (fun (l : List Qd) => .bool (okSs l)) (toQs les) | _ => .junk, false⟩
theorem gk_spec_validSegments : ∀ args, sp_spec_validSegments.pre args → ICall Try.prog 92 args (sp_spec_validSegments.val args) := by
  intro args h
  unfold sp_spec_validSegments at h ⊢; simp only at h ⊢; split at h
  · have h0 := h
    obtain ⟨l0, rfl⟩ := isQ_ex h0
    simp only [toQs_enc] at *
    exact c_spec_validSegments _ 
  · exact h.elim
theorem en_spec_validSegments : Enters Try.prog 92 := enters_of Try.func92 (by kernel_rfl) rfl

def g_impl_segmentsOk_1 : List (Nat × PSpec) := [(96, sp_impl_Segment_valid)]
theorem gok_impl_segmentsOk_1 : GOK Try.prog g_impl_segmentsOk_1 := gok_cons gk_impl_Segment_valid en_impl_Segment_valid (gok0)
theorem lk_impl_segmentsOk_1_impl_Segment_valid : lkG g_impl_segmentsOk_1 96 = sp_impl_Segment_valid := rfl
def h_impl_segmentsOk_1 : List (Nat × HSpec) := []
theorem hok_impl_segmentsOk_1 : HOK Try.prog h_impl_segmentsOk_1 := hok0
theorem c_impl_segmentsOk_1 (s : Qd)  : ICall Try.prog 160 [encQ s] (.bool (!vSg s)) := by
  refine icall_V (G := g_impl_segmentsOk_1) (H := []) [] tabOK mixed gok_impl_segmentsOk_1 hok_impl_segmentsOk_1 Try.func160 rfl Try.ntmps160 Try.results160 rfl (by kernel_rfl) fun F hN hlen => ?_
  simp only [V_seq, V_ret, V_region, W_nil, W_cons, effOp2, KN_seq, KXr_nil, QE, effOp, effPure, effNew, effBox, effCall, giveUp, hasAll, skipE, pureV, partV, loadV, solid, IV.cells, ofC, strip, lkT, lkH, ISt.app, opI, gO, gB, allB, gval, wrapG, dstOK, setD, mentTm, mentHp, IV.ment, IV.mentL, oneI, lendV, lendP, lent, lentP, idsV, idsL, lkHS, flat, clean, callArgs, callFn, allLent, enumT, Gives, Ideal.Fin, conv, conv0, Op.operands, reduceIte, reduceCtorEq, cond_true, Bool.or_false, Bool.and_true, Bool.not_true, Nat.reduceAdd, Nat.reduceLT, Nat.reduceLeDiff, Nat.reduceEqDiff, Nat.zero_add, and_false, and_self, implies_true, List.map_cons, List.map_nil, List.nil_append, List.cons_append, List.append_nil, List.all_cons, List.all_nil, List.getD_cons_zero, List.length_cons, List.length_nil, List.take_succ_cons, List.take_nil, List.drop_zero, ex_clo, or_self, tab47, hN, pe, encQ, lk_impl_segmentsOk_1_impl_Segment_valid, sp_impl_Segment_valid]
def sp_impl_segmentsOk_1 : PSpec := ⟨fun xs => match xs with | [.agg [.num .i64 s1, .num .i64 s2, .num .i64 s3, .num .i64 s4]] => True | _ => False, fun xs => match xs with | [.agg [.num _ s1, .num _ s2, .num _ s3, .num _ s4]] => (fun (s : Qd) => .bool (!vSg s)) ((s1, s2), (s3, s4)) | _ => .junk, false⟩
theorem gk_impl_segmentsOk_1 : ∀ args, sp_impl_segmentsOk_1.pre args → ICall Try.prog 160 args (sp_impl_segmentsOk_1.val args) := by
  intro args h
  unfold sp_impl_segmentsOk_1 at h ⊢; simp only at h ⊢; split at h
  · exact c_impl_segmentsOk_1 ((_, _), (_, _))
  · exact h.elim
theorem en_impl_segmentsOk_1 : Enters Try.prog 160 := enters_of Try.func160 (by kernel_rfl) rfl

def g_slices_IndexFunc_impl_Segment_impl_Segment_ok_1 : List (Nat × PSpec) := [(160, sp_impl_segmentsOk_1)]
theorem gok_slices_IndexFunc_impl_Segment_impl_Segment_ok_1 : GOK Try.prog g_slices_IndexFunc_impl_Segment_impl_Segment_ok_1 := gok_cons gk_impl_segmentsOk_1 en_impl_segmentsOk_1 (gok0)
theorem lk_slices_IndexFunc_impl_Segment_impl_Segment_ok_1_impl_segmentsOk_1 : lkG g_slices_IndexFunc_impl_Segment_impl_Segment_ok_1 160 = sp_impl_segmentsOk_1 := rfl
def h_slices_IndexFunc_impl_Segment_impl_Segment_ok_1 : List (Nat × HSpec) := []
theorem hok_slices_IndexFunc_impl_Segment_impl_Segment_ok_1 : HOK Try.prog h_slices_IndexFunc_impl_Segment_impl_Segment_ok_1 := hok0
theorem c_slices_IndexFunc_impl_Segment_impl_Segment_ok_1 (l : List Qd)  : ICall Try.prog 205 [.sl 4 (encQs l), .clo 160 []] (.num .i64 (idxF (fun p => !vSg p) l 0)) := by
  refine icall_V (G := g_slices_IndexFunc_impl_Segment_impl_Segment_ok_1) (H := []) [] tabOK mixed gok_slices_IndexFunc_impl_Segment_impl_Segment_ok_1 hok_slices_IndexFunc_impl_Segment_impl_Segment_ok_1 Try.func205 rfl Try.ntmps205 Try.results205 rfl (by kernel_rfl) fun F hN hlen => ?_
  have hl := hlen 0 4 _ rfl
  have el := len_encQs l
  rw [el] at hl
  simp only [V_seq, V_block, V_region, W_nil, W_cons, effOp2, KN_seq, effOp, effPure, pureV, lenV, ofC, strip, lkT, ISt.app, opI, gO, gB, allB, gval, wrapG, dstOK, setD, enumT, Op.operands, Call.operands, List.append_toArray, reduceIte, reduceCtorEq, Nat.reduceLT, Nat.reduceEqDiff, Nat.zero_add, ne_eq, not_false_eq_true, true_and, and_self, implies_true, List.nil_append, List.cons_append, List.append_nil, tab43, hN, el]
  refine V_loop (α := Nat) ⟨tabOK, mixed, gok_slices_IndexFunc_impl_Segment_impl_Segment_ok_1, hok_slices_IndexFunc_impl_Segment_impl_Segment_ok_1⟩ (by kernel_rfl) (fun i => i ≤ l.length ∧ idxF (fun p => !vSg p) l 0 = idxF (fun p => !vSg p) (l.drop i) i)
    (fun i => ⟨[(8, .num .i64 i), (7, .num .i64 l.length), (0, .sl 4 (encQs l)), (1, .clo 160 [])], []⟩) (fun i => l.length - i) 0 id (by simp) (by simp [SLe, SLe0, convTm, convHp, conv, conv0, convL, lkT, lkH, clean]) ?_
  rintro i ⟨hi, hj⟩
  simp only [V_seq, V_region, V_cond, W_nil, W_cons, effOp2, KN_seq, asB, effOp, effPure, pureV, binV, strip, lkT, ISt.app, opI, gO, gB, allB, gval, wrapG, dstOK, setD, Op.operands, reduceIte, reduceCtorEq, Nat.reduceLT, Nat.reduceEqDiff, true_and, and_self, implies_true, List.nil_append, List.cons_append, List.append_nil, hN]
  refine brW_some (fun h => ?_) (fun h => ?_)
  · have hi' : i < l.length := by simpa using h
    have g1 := getD_encQs hi'
    have hw := wr_succ hi' hl
    have hst := idxF_step (p := fun p => !vSg p) (d := ((0, 0), (0, 0))) hi'
    simp only [V_seq, V_skip, V_block, V_region, V_cond, W_nil, W_cons, effOp2, KN_seq, asB, effOp, effPure, effCall, giveUp, hasAll, pureV, partV, eltV, loadV, iaddrV, strip, lkT, lkH, ISt.app, opI, gO, gB, allB, gval, wrapG, dstOK, setD, lendV, lendP, lent, lentP, idsV, idsL, lkHS, flat, clean, callArgs, callFn, allLent, Op.operands, reduceIte, reduceCtorEq, cond_true, Bool.or_false, Bool.not_true, Nat.reduceAdd, Nat.reduceLT, Nat.reduceLeDiff, Nat.reduceEqDiff, Nat.zero_add, ne_eq, not_false_eq_true, true_and, and_true, and_false, and_self, implies_true, forall_const, List.map_cons, List.map_nil, List.nil_append, List.cons_append, List.append_nil, List.getD_cons_zero, List.length_cons, List.length_nil, List.take_succ_cons, List.take_nil, List.drop_zero, ex_clo, or_self, tab43, tab47, hN, pe, Int.toNat_natCast, lk_slices_IndexFunc_impl_Segment_impl_Segment_ok_1_impl_segmentsOk_1, sp_impl_segmentsOk_1, el, Int.toNat_natCast, g1]
    
    repeat refine And.intro (by omega) ?_
    refine brW_some (fun h => ?_) (fun h => ?_)
    · simp only [V_seq, V_ret, V_region, W_nil, W_cons, effOp2, KN_seq, KXr_nil, KXr_seq, KXr_block, KXr_back, QE, effOp, effPure, pureV, strip, lkT, lkH, ISt.app, opI, gO, gB, allB, gval, wrapG, dstOK, setD, clean, Gives, Ideal.Fin, conv, conv0, Op.operands, reduceIte, reduceCtorEq, Nat.reduceLT, Nat.reduceEqDiff, true_and, and_true, and_self, implies_true, List.nil_append, List.cons_append, List.append_nil, hN]
      have hq : (fun p => !vSg p) (qAt l i) = true := by simpa using h
      rw [hj, hst]
      exact congrArg _ (if_pos hq).symm
    · simp only [V_skip, V_region, W_nil, W_cons, effOp2, KN_seq, KN_block, KN_back, effOp, effPure, pureV, binV, ofC, strip, lkT, ISt.app, opI, gO, gB, allB, gval, wrapG, dstOK, setD, Op.operands, reduceIte, reduceCtorEq, Nat.reduceLT, Nat.reduceEqDiff, true_and, and_self, implies_true, List.nil_append, List.cons_append, List.append_nil, hN, hw]
      have hq : (fun p => !vSg p) (qAt l i) = false := by simpa using h
      exact ⟨i + 1, id, ⟨by omega, hj.trans (hst.trans (if_neg (ne_true_of_eq_false hq)))⟩, by simp only []; omega, by simp [SLe, SLe0, convTm, convHp, conv, conv0, convL, lkT, lkH, clean]⟩
  · simp only [V_seq, V_ret, V_exit, V_region, W_nil, W_cons, effOp2, KN_seq, KXr_nil, KXe_nil, KXe_seq, KXe_block, KXe_back, QE, effOp, effPure, pureV, ofC, strip, lkT, lkH, ISt.app, opI, gO, gB, allB, gval, wrapG, dstOK, setD, clean, Gives, Ideal.Fin, conv, conv0, Op.operands, reduceIte, reduceCtorEq, Nat.reduceLT, Nat.reduceEqDiff, true_and, and_true, and_self, implies_true, List.nil_append, List.cons_append, List.append_nil, hN]
    have hie : i = l.length := by simp at h; omega
    subst hie
    rw [hj]
    simp [idxF]
def sp_slices_IndexFunc_impl_Segment_impl_Segment_ok_1 : PSpec := ⟨fun xs => match xs with | [.sl 4 les, .clo 160 []] => isQs les | _ => False, fun xs => match xs with | [.sl _ les, .clo 160 []] => (fun (l : List Qd) => .num .i64 (idxF (fun p => !vSg p) l 0)) (toQs les) | _ => .junk, false⟩
theorem gk_slices_IndexFunc_impl_Segment_impl_Segment_ok_1 : ∀ args, sp_slices_IndexFunc_impl_Segment_impl_Segment_ok_1.pre args → ICall Try.prog 205 args (sp_slices_IndexFunc_impl_Segment_impl_Segment_ok_1.val args) := by
  intro args h
  unfold sp_slices_IndexFunc_impl_Segment_impl_Segment_ok_1 at h ⊢; simp only at h ⊢; split at h
  · have h0 := h
    obtain ⟨l0, rfl⟩ := isQ_ex h0
    simp only [toQs_enc] at *
    exact c_slices_IndexFunc_impl_Segment_impl_Segment_ok_1 _ 
  · exact h.elim
theorem en_slices_IndexFunc_impl_Segment_impl_Segment_ok_1 : Enters Try.prog 205 := enters_of Try.func205 (by kernel_rfl) rfl

def g_slices_ContainsFunc_impl_Segment_impl_Segment_ok_1 : List (Nat × PSpec) := [(205, sp_slices_IndexFunc_impl_Segment_impl_Segment_ok_1)]
theorem gok_slices_ContainsFunc_impl_Segment_impl_Segment_ok_1 : GOK Try.prog g_slices_ContainsFunc_impl_Segment_impl_Segment_ok_1 := gok_cons gk_slices_IndexFunc_impl_Segment_impl_Segment_ok_1 en_slices_IndexFunc_impl_Segment_impl_Segment_ok_1 (gok0)
theorem lk_slices_ContainsFunc_impl_Segment_impl_Segment_ok_1_slices_IndexFunc_impl_Segment_impl_Segment_ok_1 : lkG g_slices_ContainsFunc_impl_Segment_impl_Segment_ok_1 205 = sp_slices_IndexFunc_impl_Segment_impl_Segment_ok_1 := rfl
def h_slices_ContainsFunc_impl_Segment_impl_Segment_ok_1 : List (Nat × HSpec) := []
theorem hok_slices_ContainsFunc_impl_Segment_impl_Segment_ok_1 : HOK Try.prog h_slices_ContainsFunc_impl_Segment_impl_Segment_ok_1 := hok0
theorem c_slices_ContainsFunc_impl_Segment_impl_Segment_ok_1 (l : List Qd)  : ICall Try.prog 159 [.sl 4 (encQs l), .clo 160 []] (.bool (l.any (fun p => !vSg p))) := by
  refine icall_V (G := g_slices_ContainsFunc_impl_Segment_impl_Segment_ok_1) (H := []) [] tabOK mixed gok_slices_ContainsFunc_impl_Segment_impl_Segment_ok_1 hok_slices_ContainsFunc_impl_Segment_impl_Segment_ok_1 Try.func159 rfl Try.ntmps159 Try.results159 rfl (by kernel_rfl) fun F hN hlen => ?_
  simp only [V_seq, V_ret, V_region, W_nil, W_cons, effOp2, KN_seq, KXr_nil, QE, effOp, effPure, effCall, giveUp, hasAll, pureV, binV, ofC, strip, lkT, lkH, ISt.app, opI, gO, gB, allB, gval, wrapG, dstOK, setD, lendV, lendP, lent, lentP, lentPs, idsV, idsL, lkHS, flat, clean, callArgs, callFn, allLent, enumT, Gives, Ideal.Fin, conv, conv0, Op.operands, reduceIte, reduceCtorEq, cond_true, Bool.or_false, Bool.not_true, Nat.reduceLT, Nat.reduceEqDiff, Nat.zero_add, and_self, implies_true, List.map_cons, List.map_nil, List.nil_append, List.cons_append, List.append_nil, ex_clo, or_self, hN, isQs_enc, toQs_enc, lk_slices_ContainsFunc_impl_Segment_impl_Segment_ok_1_slices_IndexFunc_impl_Segment_impl_Segment_ok_1, sp_slices_IndexFunc_impl_Segment_impl_Segment_ok_1, idxF_sign]
  
def sp_slices_ContainsFunc_impl_Segment_impl_Segment_ok_1 : PSpec := ⟨fun xs => match xs with | [.sl 4 les, .clo 160 []] => isQs les | _ => False, fun xs => match xs with | [.sl _ les, .clo 160 []] => (fun (l : List Qd) => .bool (l.any (fun p => !vSg p))) (toQs les) | _ => .junk, false⟩
theorem gk_slices_ContainsFunc_impl_Segment_impl_Segment_ok_1 : ∀ args, sp_slices_ContainsFunc_impl_Segment_impl_Segment_ok_1.pre args → ICall Try.prog 159 args (sp_slices_ContainsFunc_impl_Segment_impl_Segment_ok_1.val args) := by
  intro args h
  unfold sp_slices_ContainsFunc_impl_Segment_impl_Segment_ok_1 at h ⊢; simp only at h ⊢; split at h
  · have h0 := h
    obtain ⟨l0, rfl⟩ := isQ_ex h0
    simp only [toQs_enc] at *
    exact c_slices_ContainsFunc_impl_Segment_impl_Segment_ok_1 _ 
  · exact h.elim
theorem en_slices_ContainsFunc_impl_Segment_impl_Segment_ok_1 : Enters Try.prog 159 := enters_of Try.func159 (by kernel_rfl) rfl

def g_impl_segmentsOk : List (Nat × PSpec) := [(159, sp_slices_ContainsFunc_impl_Segment_impl_Segment_ok_1)]
theorem gok_impl_segmentsOk : GOK Try.prog g_impl_segmentsOk := gok_cons gk_slices_ContainsFunc_impl_Segment_impl_Segment_ok_1 en_slices_ContainsFunc_impl_Segment_impl_Segment_ok_1 (gok0)
theorem lk_impl_segmentsOk_slices_ContainsFunc_impl_Segment_impl_Segment_ok_1 : lkG g_impl_segmentsOk 159 = sp_slices_ContainsFunc_impl_Segment_impl_Segment_ok_1 := rfl
def h_impl_segmentsOk : List (Nat × HSpec) := []
theorem hok_impl_segmentsOk : HOK Try.prog h_impl_segmentsOk := hok0
theorem c_impl_segmentsOk (l : List Qd)  : ICall Try.prog 84 [.sl 4 (encQs l)] (.bool (okSs l)) := by
  refine icall_V (G := g_impl_segmentsOk) (H := []) [] tabOK mixed gok_impl_segmentsOk hok_impl_segmentsOk Try.func84 rfl Try.ntmps84 Try.results84 rfl (by kernel_rfl) fun F hN hlen => ?_
  have hd : decide ((l.length : Int) ≤ 12) = decide (l.length ≤ 12) := by simp; omega
  have hv : okSs l = (decide (l.length ≤ 12) && !(l.any fun p => !vSg p)) := by rw [okSs, List.all_eq_not_any_not, Bool.and_comm]
  simp only [V_seq, V_ret, V_region, W_nil, W_cons, effOp2, KN_seq, KXr_nil, QE, effOp, effPure, effPick, effCall, giveUp, hasAll, pureV, pickV, binV, lenV, ofC, strip, lkT, lkH, ISt.app, opI, gO, gB, allB, gval, wrapG, dstOK, setD, lendV, lendP, lent, lentP, lentPs, idsV, idsL, lkHS, flat, clean, callArgs, callFn, allLent, enumT, Gives, Ideal.Fin, conv, conv0, Op.operands, Call.operands, List.append_toArray, reduceIte, reduceCtorEq, cond_true, Bool.or_false, Bool.true_or, Nat.reduceLT, Nat.reduceEqDiff, ne_eq, not_false_eq_true, true_and, and_true, and_self, implies_true, forall_const, List.map_cons, List.map_nil, List.nil_append, List.cons_append, List.append_nil, Option.bind_some, List.getElem?_cons_zero, List.getElem?_cons_succ, ex_clo, or_self, tab43, hN, isQs_enc, toQs_enc, lk_impl_segmentsOk_slices_ContainsFunc_impl_Segment_impl_Segment_ok_1, sp_slices_ContainsFunc_impl_Segment_impl_Segment_ok_1, len_encQs, hd, hv]
  cases decide (l.length ≤ 12) <;> simp
def sp_impl_segmentsOk : PSpec := ⟨fun xs => match xs with | [.sl 4 les] => isQs les | _ => False, fun xs => match xs with | [.sl _ les] => (fun (l : List Qd) => .bool (okSs l)) (toQs les) | _ => .junk, false⟩
theorem gk_impl_segmentsOk : ∀ args, sp_impl_segmentsOk.pre args → ICall Try.prog 84 args (sp_impl_segmentsOk.val args) := by
  intro args h
  unfold sp_impl_segmentsOk at h ⊢; simp only at h ⊢; split at h
  · have h0 := h
    obtain ⟨l0, rfl⟩ := isQ_ex h0
    simp only [toQs_enc] at *
    exact c_impl_segmentsOk _ 
  · exact h.elim
theorem en_impl_segmentsOk : Enters Try.prog 84 := enters_of Try.func84 (by kernel_rfl) rfl

theorem okSs_len {l : List Qd} (h : okSs l = true) : l.length ≤ 12 := by
  simp only [okSs, Bool.and_eq_true, decide_eq_true_eq] at h
  exact h.2
theorem okSs_at {l : List Qd} (h : okSs l = true) {i : Nat} (hi : i < l.length) : vSg (qAt l i) = true := by
  simp only [okSs, Bool.and_eq_true, List.all_eq_true] at h
  exact h.1 _ (by rw [qAt, List.getD, List.getElem?_eq_getElem hi]; exact List.getElem_mem hi)

/-- The point in which segments cross. -/
def crossQ (s t : Qd) : Qd := (ratQ (s.1.1 * denX s t + (s.2.1 - s.1.1) * numX s t) (denX s t), ratQ (s.1.2 * denX s t + (s.2.2 - s.1.2) * numX s t) (denX s t))
theorem ratQ_good {n d : Int} (hd : d ≠ 0) (h2 : -20000000 ≤ d ∧ d ≤ 20000000) (hn : -20000000000 ≤ n ∧ n ≤ 20000000000) : okR (ratQ n d) := by
  have hp := sgT_pos hd
  have b1 := sgT_bd (s := decide (d < 0)) h2
  have b2 := sgT_bd (s := decide (d < 0)) hn
  exact red_good hp b1.2 b2
theorem crossQ_good {s t : Qd} (hs : vSg s = true) (ht : vSg t = true) (h : relP s t = 2) : goodQ (crossQ s t) := by
  obtain ⟨_, s1, s2, _⟩ := vSg_facts hs
  obtain ⟨_, t1, t2, _⟩ := vSg_facts ht
  obtain ⟨h0, hd, hn, hx, hy⟩ := cross_nums s1 s2 t1 t2 h
  exact ⟨ratQ_good h0 (by omega) hx, ratQ_good h0 (by omega) hy⟩
def g_spec_crossPoint : List (Nat × PSpec) := [(169, sp_spec_cross), (171, sp_spec_ratio)]
theorem gok_spec_crossPoint : GOK Try.prog g_spec_crossPoint := gok_cons gk_spec_cross en_spec_cross (gok_cons gk_spec_ratio en_spec_ratio (gok0))
theorem lk_spec_crossPoint_spec_cross : lkG g_spec_crossPoint 169 = sp_spec_cross := rfl
theorem lk_spec_crossPoint_spec_ratio : lkG g_spec_crossPoint 171 = sp_spec_ratio := rfl
def h_spec_crossPoint : List (Nat × HSpec) := []
theorem hok_spec_crossPoint : HOK Try.prog h_spec_crossPoint := hok0
theorem c_spec_crossPoint (s : Qd) (t : Qd) (hs : vSg s = true) (ht : vSg t = true) (h : relP s t = 2) : ICall Try.prog 95 [encQ s, encQ t] (encQ (crossQ s t)) := by
  refine icall_of_hcall (v := encQ (crossQ s t)) (hp' := []) id ?_ (by simp [SLe0, convTm, convHp, conv, convL, conv0, lkT, clean, encQ]) (by simp [idsV, idsL, encQ])
  refine hcall_V (G := g_spec_crossPoint) (H := []) [(3, [(0, 16), (1, 16), (2, 16), (3, 16), (4, 16), (5, 16), (6, 16), (7, 16), (8, 16), (9, 16), (10, 16), (11, 16), (12, 16), (13, 16), (16, 17), (16, 18), (16, 19), (16, 20), (16, 21), (16, 22), (16, 23), (16, 24), (16, 25), (16, 26), (16, 27), (16, 28), (16, 29), (16, 30), (16, 31), (16, 32), (0, 33), (1, 33), (2, 33), (3, 33), (4, 33), (5, 33), (6, 33), (7, 33), (8, 33), (9, 33), (10, 33), (11, 33), (12, 33), (13, 33), (14, 33), (15, 33), (17, 33), (18, 33), (19, 33), (20, 33), (21, 33), (22, 33), (23, 33), (24, 33), (25, 33), (26, 33), (27, 33), (28, 33), (29, 33), (30, 33)])] tabOK mixed gok_spec_crossPoint hok_spec_crossPoint Try.func95 rfl Try.ntmps95 Try.results95 rfl (by kernel_rfl) fun F hN hlen => ?_
  obtain ⟨sm1, s1, s2, _⟩ := vSg_facts hs
  obtain ⟨sm2, t1, t2, _⟩ := vSg_facts ht
  obtain ⟨h0, hd, hn, hx, hy⟩ := cross_nums s1 s2 t1 t2 h
  have b2 := Go.Pl.turn_bd t1 t2 s2
  have e1 : turn t.1 t.2 s.1 = numX s t := rfl
  have w1 : IntKind.i64.wrap (numX s t - turn t.1 t.2 s.2) = denX s t := wr (by omega) (by omega)
  have v1 := s1
  have v2 := s2
  unfold in9 at v1 v2
  have m1 := mulB (A := 1000) (B := 16000000) (x := s.1.1) (y := denX s t) (by omega) (by omega)
  have m2 := mulB (A := 2000) (B := 8000000) (x := s.2.1 - s.1.1) (y := numX s t) (by omega) (by omega)
  have m3 := mulB (A := 1000) (B := 16000000) (x := s.1.2) (y := denX s t) (by omega) (by omega)
  have m4 := mulB (A := 2000) (B := 8000000) (x := s.2.2 - s.1.2) (y := numX s t) (by omega) (by omega)
  have w2 : IntKind.i64.wrap (s.1.1 * denX s t) = s.1.1 * denX s t := wr (by omega) (by omega)
  have w3 : IntKind.i64.wrap (s.2.1 - s.1.1) = s.2.1 - s.1.1 := wr (by omega) (by omega)
  have w4 : IntKind.i64.wrap ((s.2.1 - s.1.1) * numX s t) = (s.2.1 - s.1.1) * numX s t := wr (by omega) (by omega)
  have w5 : IntKind.i64.wrap (s.1.1 * denX s t + (s.2.1 - s.1.1) * numX s t) = s.1.1 * denX s t + (s.2.1 - s.1.1) * numX s t := wr (by omega) (by omega)
  have w6 : IntKind.i64.wrap (s.1.2 * denX s t) = s.1.2 * denX s t := wr (by omega) (by omega)
  have w7 : IntKind.i64.wrap (s.2.2 - s.1.2) = s.2.2 - s.1.2 := wr (by omega) (by omega)
  have w8 : IntKind.i64.wrap ((s.2.2 - s.1.2) * numX s t) = (s.2.2 - s.1.2) * numX s t := wr (by omega) (by omega)
  have w9 : IntKind.i64.wrap (s.1.2 * denX s t + (s.2.2 - s.1.2) * numX s t) = s.1.2 * denX s t + (s.2.2 - s.1.2) * numX s t := wr (by omega) (by omega)
  have hd2 : -20000000 ≤ denX s t ∧ denX s t ≤ 20000000 := by omega
  have a1 := sm1.1
  have a2 := sm1.2
  have a3 := sm2.1
  have a4 := sm2.2
  simp only [V_seq, V_ret, V_region, V_draw, drawW, WS_nil, pairsOf, W_nil, W_cons, effOp2, WI_nil, WI_cons, KN_seq, KXr_nil, QE, dynOK, indB, farB, freshB, heapy, effOp, effPure, effNew, effAlloc, effBox, effStore, effCall, giveUp, hasAll, skipE, pureV, storeV, binV, partV, loadV, faddrV, over, solid, buildL, IV.cells, ofC, strip, lkT, lkH, ISt.app, opI, gO, gB, allB, gval, wrapG, dstOK, setD, mentTm, mentHp, IV.ment, IV.mentL, oneI, lendV, lendP, lent, lentP, idsV, idsL, lkHS, flat, flatL, clean, cleanL, callArgs, callFn, allLent, enumT, conv, conv0, convL, IBlk.shape, Op.operands, Call.operands, List.append_toArray, reduceIte, reduceCtorEq, cond_true, cond_false, Bool.or_false, Bool.and_true, Bool.and_eq_true, Bool.not_true, Bool.not_false, Nat.reduceAdd, Nat.reduceLT, Nat.reduceLeDiff, Nat.reduceEqDiff, Nat.reduceBEq, Nat.add_zero, Nat.zero_add, ne_eq, not_false_eq_true, true_and, and_true, and_false, and_self, implies_true, List.map_cons, List.map_nil, List.nil_append, List.cons_append, List.append_nil, List.all_cons, List.all_nil, Option.map_some, List.getD_cons_zero, List.getD_cons_succ, List.length_cons, List.length_nil, List.take_succ_cons, List.take_zero, List.take_nil, List.drop_succ_cons, List.drop_zero, List.drop_nil, ex_clo, or_self, tab3, tab30, tab39, tab47, hN, pe, encP, encQ, FinH, resA, resV, SLe, SLe0, convTm, convHp, lk_spec_crossPoint_spec_cross, lk_spec_crossPoint_spec_ratio, sp_spec_cross, sp_spec_ratio, a1, a2, a3, a4, e1, w1, w2, w3, w4, w5, w6, w7, w8, w9, h0, hd2, hx, hy]
  exact ⟨id, ⟨⟨rfl, rfl, rfl, rfl⟩, List.nodup_nil⟩, fun _ _ _ => rfl⟩
def sp_spec_crossPoint : PSpec := ⟨fun xs => match xs with | [.agg [.num .i64 s1, .num .i64 s2, .num .i64 s3, .num .i64 s4], .agg [.num .i64 t1, .num .i64 t2, .num .i64 t3, .num .i64 t4]] => ((fun (s : Qd) (t : Qd) => vSg s = true) ((s1, s2), (s3, s4)) ((t1, t2), (t3, t4))) ∧ ((fun (s : Qd) (t : Qd) => vSg t = true) ((s1, s2), (s3, s4)) ((t1, t2), (t3, t4))) ∧ ((fun (s : Qd) (t : Qd) => relP s t = 2) ((s1, s2), (s3, s4)) ((t1, t2), (t3, t4))) | _ => False, fun xs => match xs with | [.agg [.num _ s1, .num _ s2, .num _ s3, .num _ s4], .agg [.num _ t1, .num _ t2, .num _ t3, .num _ t4]] => (fun (s : Qd) (t : Qd) => encQ (crossQ s t)) ((s1, s2), (s3, s4)) ((t1, t2), (t3, t4)) | _ => .junk, false⟩
theorem gk_spec_crossPoint : ∀ args, sp_spec_crossPoint.pre args → ICall Try.prog 95 args (sp_spec_crossPoint.val args) := by
  intro args h
  unfold sp_spec_crossPoint at h ⊢; simp only at h ⊢; split at h
  · obtain ⟨h0, h1, h2⟩ := h
    simp only [toPs_enc] at *
    exact c_spec_crossPoint ((_, _), (_, _)) ((_, _), (_, _)) h0 h1 h2
  · exact h.elim
theorem en_spec_crossPoint : Enters Try.prog 95 := enters_of Try.func95 (by kernel_rfl) rfl

def g_impl_meet : List (Nat × PSpec) := [(161, sp_impl_common), (133, sp_impl_Point_minus), (163, sp_impl_Point_cross), (146, sp_impl_reduced)]
theorem gok_impl_meet : GOK Try.prog g_impl_meet := gok_cons gk_impl_common en_impl_common (gok_cons gk_impl_Point_minus en_impl_Point_minus (gok_cons gk_impl_Point_cross en_impl_Point_cross (gok_cons gk_impl_reduced en_impl_reduced (gok0))))
theorem lk_impl_meet_impl_common : lkG g_impl_meet 161 = sp_impl_common := rfl
theorem lk_impl_meet_impl_Point_minus : lkG g_impl_meet 133 = sp_impl_Point_minus := rfl
theorem lk_impl_meet_impl_Point_cross : lkG g_impl_meet 163 = sp_impl_Point_cross := rfl
theorem lk_impl_meet_impl_reduced : lkG g_impl_meet 146 = sp_impl_reduced := rfl
def h_impl_meet : List (Nat × HSpec) := []
theorem hok_impl_meet : HOK Try.prog h_impl_meet := hok0
theorem c_impl_meet (s : Qd) (t : Qd) (hs : vSg s = true) (ht : vSg t = true) (h : relP s t = 2) : ICall Try.prog 87 [encQ s, encQ t] (encQ (crossQ s t)) := by
  refine icall_of_hcall (v := encQ (crossQ s t)) (hp' := []) id ?_ (by simp [SLe0, convTm, convHp, conv, convL, conv0, lkT, clean, encQ]) (by simp [idsV, idsL, encQ])
  refine hcall_V (G := g_impl_meet) (H := []) [(4, [(0, 4), (2, 4), (4, 5), (4, 6), (4, 7), (4, 8), (0, 9), (1, 9), (2, 9), (3, 9), (5, 9), (7, 9), (0, 10), (1, 10), (2, 10), (3, 10), (4, 10), (5, 10), (6, 10), (7, 10), (8, 10), (9, 10), (0, 11), (1, 11), (2, 11), (3, 11), (4, 11), (5, 11), (6, 11), (7, 11), (8, 11), (9, 11), (10, 11), (5, 12), (6, 12), (7, 12), (8, 12)]), (6, [(0, 4), (2, 4), (4, 5), (0, 6), (1, 6), (2, 6), (3, 6)]), (7, [(0, 11), (1, 11), (2, 11), (3, 11), (4, 11), (5, 11), (6, 11), (7, 11), (8, 11), (11, 12), (11, 13), (11, 14), (11, 15), (11, 16), (11, 17), (11, 18), (11, 19), (11, 20), (11, 21), (11, 22), (0, 23), (1, 23), (2, 23), (3, 23), (4, 23), (5, 23), (6, 23), (7, 23), (8, 23), (9, 23), (10, 23), (12, 23), (13, 23), (14, 23), (15, 23), (16, 23), (17, 23), (18, 23), (19, 23), (20, 23)])] tabOK mixed gok_impl_meet hok_impl_meet Try.func87 rfl Try.ntmps87 Try.results87 rfl (by kernel_rfl) fun F hN hlen => ?_
  obtain ⟨sm1, s1, s2, ns⟩ := vSg_facts hs
  obtain ⟨sm2, t1, t2, nt⟩ := vSg_facts ht
  obtain ⟨h0, hd, hn, hx, hy⟩ := cross_nums s1 s2 t1 t2 h
  have z0 : decide ((0 : Int) < ((0 : Nat) : Int)) = false := rfl
  have hc : comP s t = [] := List.length_eq_zero_iff.1 ((com_ends ns nt).trans (rel_two h).1)
  have e0 : encPs [] = [] := rfl
  have v1 := s1
  have v2 := s2
  have v3 := t1
  have v4 := t2
  unfold in9 at v1 v2 v3 v4
  have m1 := mulB (A := 1000) (B := 16000000) (x := s.1.1) (y := denX s t) (by omega) (by omega)
  have m2 := mulB (A := 2000) (B := 8000000) (x := s.2.1 - s.1.1) (y := numX s t) (by omega) (by omega)
  have m3 := mulB (A := 1000) (B := 16000000) (x := s.1.2) (y := denX s t) (by omega) (by omega)
  have m4 := mulB (A := 2000) (B := 8000000) (x := s.2.2 - s.1.2) (y := numX s t) (by omega) (by omega)
  have c1 : ∀ x : Int, numX s t * x = x * numX s t := fun x => Int.mul_comm _ _
  have w2 : IntKind.i64.wrap (s.1.1 * denX s t) = s.1.1 * denX s t := wr (by omega) (by omega)
  have w4 : IntKind.i64.wrap (numX s t * (s.2.1 - s.1.1)) = (s.2.1 - s.1.1) * numX s t := by rw [c1]; exact wr (by omega) (by omega)
  have w5 : IntKind.i64.wrap (s.1.1 * denX s t + (s.2.1 - s.1.1) * numX s t) = s.1.1 * denX s t + (s.2.1 - s.1.1) * numX s t := wr (by omega) (by omega)
  have w6 : IntKind.i64.wrap (s.1.2 * denX s t) = s.1.2 * denX s t := wr (by omega) (by omega)
  have w8 : IntKind.i64.wrap (numX s t * (s.2.2 - s.1.2)) = (s.2.2 - s.1.2) * numX s t := by rw [c1]; exact wr (by omega) (by omega)
  have w9 : IntKind.i64.wrap (s.1.2 * denX s t + (s.2.2 - s.1.2) * numX s t) = s.1.2 * denX s t + (s.2.2 - s.1.2) * numX s t := wr (by omega) (by omega)
  have hd2 : -20000000 ≤ denX s t ∧ denX s t ≤ 20000000 := by omega
  have k1 : crossP (s.2.1 - s.1.1, s.2.2 - s.1.2) (t.2.1 - t.1.1, t.2.2 - t.1.2) = denX s t := by unfold crossP denX numX turn; grind
  have k2 : crossP (t.1.1 - s.1.1, t.1.2 - s.1.2) (t.2.1 - t.1.1, t.2.2 - t.1.2) = numX s t := by unfold crossP numX turn; grind
  have y1 := mulB (A := 2000) (B := 2000) (x := s.2.1 - s.1.1) (y := t.2.2 - t.1.2) (by omega) (by omega)
  have y2 := mulB (A := 2000) (B := 2000) (x := s.2.2 - s.1.2) (y := t.2.1 - t.1.1) (by omega) (by omega)
  have y3 := mulB (A := 2000) (B := 2000) (x := t.1.1 - s.1.1) (y := t.2.2 - t.1.2) (by omega) (by omega)
  have y4 := mulB (A := 2000) (B := 2000) (x := t.1.2 - s.1.2) (y := t.2.1 - t.1.1) (by omega) (by omega)
  have o1 : -4611686018427387904 < s.2.1 - s.1.1 ∧ s.2.1 - s.1.1 < 4611686018427387904 := by omega
  have o2 : -4611686018427387904 < s.2.2 - s.1.2 ∧ s.2.2 - s.1.2 < 4611686018427387904 := by omega
  have o3 : -4611686018427387904 < t.2.1 - t.1.1 ∧ t.2.1 - t.1.1 < 4611686018427387904 := by omega
  have o4 : -4611686018427387904 < t.2.2 - t.1.2 ∧ t.2.2 - t.1.2 < 4611686018427387904 := by omega
  have o5 : -4611686018427387904 < t.1.1 - s.1.1 ∧ t.1.1 - s.1.1 < 4611686018427387904 := by omega
  have o6 : -4611686018427387904 < t.1.2 - s.1.2 ∧ t.1.2 - s.1.2 < 4611686018427387904 := by omega
  have o7 : -4611686018427387904 < (s.2.1 - s.1.1) * (t.2.2 - t.1.2) ∧ (s.2.1 - s.1.1) * (t.2.2 - t.1.2) < 4611686018427387904 := by omega
  have o8 : -4611686018427387904 < (s.2.2 - s.1.2) * (t.2.1 - t.1.1) ∧ (s.2.2 - s.1.2) * (t.2.1 - t.1.1) < 4611686018427387904 := by omega
  have o9 : -4611686018427387904 < (t.1.1 - s.1.1) * (t.2.2 - t.1.2) ∧ (t.1.1 - s.1.1) * (t.2.2 - t.1.2) < 4611686018427387904 := by omega
  have o10 : -4611686018427387904 < (t.1.2 - s.1.2) * (t.2.1 - t.1.1) ∧ (t.1.2 - s.1.2) * (t.2.1 - t.1.1) < 4611686018427387904 := by omega
  simp only [V_seq, V_skip, V_ret, V_region, V_draw, V_cond, brW_false, drawW, WS_nil, pairsOf, W_nil, W_cons, effOp2, WI_nil, WI_cons, KN_seq, KXr_nil, QE, dynOK, indB, farB, seeB, see, isStore, freshB, heapy, asB, effOp, effPure, effNew, effAlloc, effBox, effStore, effCall, giveUp, hasAll, skipE, pureV, storeV, binV, partV, loadV, faddrV, lenV, over, solid, buildL, IV.cells, ofC, strip, lkT, lkH, ISt.app, opI, gO, gB, allB, gval, wrapG, dstOK, setD, mentTm, mentHp, IV.ment, IV.mentL, oneI, lendV, lendP, lent, lentP, idsV, idsL, lkHS, flat, flatL, clean, cleanL, callArgs, callFn, allLent, enumT, conv, conv0, convL, IBlk.shape, Op.operands, Call.operands, List.append_toArray, reduceIte, reduceCtorEq, cond_true, cond_false, Bool.or_false, Bool.or_true, Bool.and_true, Bool.and_false, Bool.and_eq_true, Bool.not_true, Bool.not_false, Nat.reduceAdd, Nat.reduceLT, Nat.reduceLeDiff, Nat.reduceEqDiff, Nat.reduceBEq, Nat.add_zero, Nat.zero_add, ne_eq, not_false_eq_true, beq_self_eq_true, true_and, and_true, and_false, and_self, implies_true, List.map_cons, List.map_nil, List.nil_append, List.cons_append, List.append_nil, List.all_cons, List.all_nil, Option.map_some, List.getD_cons_zero, List.getD_cons_succ, List.length_cons, List.length_nil, List.take_succ_cons, List.take_zero, List.take_nil, List.drop_succ_cons, List.drop_zero, List.drop_nil, ex_clo, or_true, or_self, Bool.false_eq_true, tab3, tab30, tab39, tab47, tab67, hN, pe, encP, encQ, FinH, resA, resV, SLe, SLe0, convTm, convHp, lk_impl_meet_impl_common, lk_impl_meet_impl_Point_minus, lk_impl_meet_impl_Point_cross, lk_impl_meet_impl_reduced, sp_impl_common, sp_impl_Point_minus, sp_impl_Point_cross, sp_impl_reduced, sm1, sm2, hc, e0, wayP, o1, o2, o3, o4, o5, o6, o7, o8, o9, o10, k1, k2, w2, w4, w5, w6, w8, w9, h0, hd2, hx, hy, z0]
  exact ⟨id, ⟨⟨rfl, rfl, rfl, rfl⟩, List.nodup_nil⟩, fun _ _ _ => rfl⟩
def sp_impl_meet : PSpec := ⟨fun xs => match xs with | [.agg [.num .i64 s1, .num .i64 s2, .num .i64 s3, .num .i64 s4], .agg [.num .i64 t1, .num .i64 t2, .num .i64 t3, .num .i64 t4]] => ((fun (s : Qd) (t : Qd) => vSg s = true) ((s1, s2), (s3, s4)) ((t1, t2), (t3, t4))) ∧ ((fun (s : Qd) (t : Qd) => vSg t = true) ((s1, s2), (s3, s4)) ((t1, t2), (t3, t4))) ∧ ((fun (s : Qd) (t : Qd) => relP s t = 2) ((s1, s2), (s3, s4)) ((t1, t2), (t3, t4))) | _ => False, fun xs => match xs with | [.agg [.num _ s1, .num _ s2, .num _ s3, .num _ s4], .agg [.num _ t1, .num _ t2, .num _ t3, .num _ t4]] => (fun (s : Qd) (t : Qd) => encQ (crossQ s t)) ((s1, s2), (s3, s4)) ((t1, t2), (t3, t4)) | _ => .junk, false⟩
theorem gk_impl_meet : ∀ args, sp_impl_meet.pre args → ICall Try.prog 87 args (sp_impl_meet.val args) := by
  intro args h
  unfold sp_impl_meet at h ⊢; simp only at h ⊢; split at h
  · obtain ⟨h0, h1, h2⟩ := h
    simp only [toPs_enc] at *
    exact c_impl_meet ((_, _), (_, _)) ((_, _), (_, _)) h0 h1 h2
  · exact h.elim
theorem en_impl_meet : Enters Try.prog 87 := enters_of Try.func87 (by kernel_rfl) rfl


def g_impl_pairs : List (Nat × PSpec) := []
theorem gok_impl_pairs : GOK Try.prog g_impl_pairs := gok0
def h_impl_pairs : List (Nat × HSpec) := []
theorem hok_impl_pairs : HOK Try.prog h_impl_pairs := hok0
theorem c_impl_pairs (n : Int) (h0 : 0 ≤ n) (h1 : n ≤ 1000) : ICall Try.prog 85 [.num .i64 n] (.sl 2 (encPs (prs n.toNat n.toNat))) := by
  refine icall_V (G := g_impl_pairs) (H := []) [] tabOK mixed gok_impl_pairs hok_impl_pairs Try.func85 rfl Try.ntmps85 Try.results85 rfl (by kernel_rfl) fun F hN hlen => ?_
  obtain ⟨m, rfl⟩ : ∃ m : Nat, n = m := ⟨n.toNat, by omega⟩
  rw [Int.toNat_natCast]
  simp only [V_seq, V_block, V_region, W_nil, W_cons, effOp2, KN_seq, effOp, effPure, effNew, effBuildSlice, effFrz, frz, tmpsOf, skipE, pureV, ofC, strip, lkT, ISt.app, opI, gO, gB, allB, gval, wrapG, dstOK, setD, mentTm, mentHp, IV.ment, partsL, eltsI, enumT, Op.operands, reduceIte, reduceCtorEq, cond_true, Bool.or_false, Nat.reduceMul, Nat.reduceLT, Nat.reduceLeDiff, Nat.reduceEqDiff, ne_eq, not_false_eq_true, true_and, and_self, implies_true, List.nil_append, List.cons_append, List.append_nil, List.length_nil, tab105, tab108, hN]
  refine V_loop (α := Nat) ⟨tabOK, mixed, gok_impl_pairs, hok_impl_pairs⟩ (by kernel_rfl) (fun i => i ≤ m) (fun i => ⟨[(8, .num .i64 i), (7, .num .i64 m), (3, .ref 6 0 (prs m i).length true), (0, .num .i64 m)], [(6, some (.arr 2 108 (encPs (prs m i))))]⟩) (fun i => m - i) 0 id (Nat.zero_le _) (by simp [SLe, SLe0, convTm, convHp, convB, conv, conv0, lkT, lkH, clean, prs, encPs]) ?_
  intro i hi
  simp only [V_seq, V_region, V_cond, W_nil, W_cons, effOp2, KN_seq, asB, effOp, effPure, pureV, binV, strip, lkT, ISt.app, opI, gO, gB, allB, gval, wrapG, dstOK, setD, Op.operands, reduceIte, reduceCtorEq, Nat.reduceLT, Nat.reduceEqDiff, true_and, and_self, implies_true, List.nil_append, List.cons_append, hN]
  refine brW_some (fun h => ?_) (fun h => ?_)
  · have hi' : i < m := by simpa using h
    have hw := wr_succ hi' (by rw [maxLen_eq]; omega)
    have hp0 := prs_len m i
    have hmi : m * i ≤ 1000 * 1000 := Nat.mul_le_mul (by omega) (by omega)
    simp only [V_seq, V_skip, V_block, V_region, W_nil, W_cons, effOp2, KN_seq, effOp, effPure, pureV, binV, ofC, strip, lkT, ISt.app, opI, gO, gB, allB, gval, wrapG, dstOK, setD, Op.operands, reduceIte, reduceCtorEq, Nat.reduceLT, Nat.reduceEqDiff, true_and, and_self, implies_true, List.nil_append, List.cons_append, hN, hw]
    refine V_loop (α := Nat) ⟨tabOK, mixed, gok_impl_pairs, hok_impl_pairs⟩ (by kernel_rfl) (fun k => k ≤ m - (i + 1)) (fun k => ⟨[(5, .num .i64 ((i + 1 + k : Nat) : Int)), (4, .num .i64 i), (8, .num .i64 i), (7, .num .i64 m), (3, .ref 6 0 (prs m i ++ prow i k).length true), (0, .num .i64 m)], [(6, some (.arr 2 108 (encPs (prs m i ++ prow i k))))]⟩) (fun k => m - k) 0 id (Nat.zero_le _) (by simp [SLe, SLe0, convTm, convHp, convB, conv, conv0, lkT, lkH, clean, prow, encPs]; exact (List.take_of_length_le (by simp)).symm) ?_
    intro k hk
    have eo := len_encPs (prs m i ++ prow i k)
    have hx : ∃ k' ty es, IBlk.arr 2 108 (encPs (prs m i ++ prow i k)) = IBlk.arr k' ty es := ⟨_, _, _, rfl⟩
    have hst : prs m i ++ prow i (k + 1) = (prs m i ++ prow i k) ++ [((i : Int), ((i + 1 + k : Nat) : Int))] := by rw [prow_succ, List.append_assoc]
    have hle : (prs m i ++ prow i k).length ≤ 2000000 := by rw [List.length_append, prow_len]; omega
    have hfin : prs m (i + 1) = prs m i ++ prow i (m - (i + 1)) := rfl
    simp only [V_seq, V_region, V_cond, W_nil, W_cons, effOp2, KN_seq, asB, effOp, effPure, pureV, binV, strip, lkT, ISt.app, opI, gO, gB, allB, gval, wrapG, dstOK, setD, Op.operands, reduceIte, reduceCtorEq, Nat.reduceLT, Nat.reduceEqDiff, true_and, and_self, implies_true, List.nil_append, List.cons_append, hN]
    refine brW_some (fun h => ?_) (fun h => ?_)
    · have hk' : i + 1 + k < m := by simp at h; omega
      have hw2 : IntKind.i64.wrap (((i + 1 + k : Nat) : Int) + 1) = ((i + 1 + (k + 1) : Nat) : Int) := by rw [wr (by omega) (by omega)]; omega
      obtain ⟨out, hout⟩ : ∃ out, prs m i ++ prow i k = out := ⟨_, rfl⟩
      rw [hout] at eo hx hst hle ⊢
      simp only [V_seq, V_skip, V_block, V_region, W_nil, W_cons, effOp2, KN_seq, KN_block, KN_back, effOp, effPure, effNew, effBuildSlice, effFrz, frz, tmpsOf, effAppend, effZeros, skipE, pureV, srcV, refId, binV, over, solid, buildL, IV.cells, ofC, strip, lkT, lkH, ISt.app, opI, gO, gB, allB, gval, wrapG, dstOK, setD, mentTm, mentHp, IV.ment, IV.mentL, partsL, eltsI, eltI, oneI, noId', Op.operands, reduceIte, reduceCtorEq, cond_true, Bool.or_false, Bool.and_true, Nat.reduceAdd, Nat.reduceMul, Nat.reduceLT, Nat.reduceLeDiff, Nat.reduceEqDiff, Nat.reduceBEq, Nat.zero_add, ne_eq, not_false_eq_true, true_and, and_true, and_self, implies_true, List.map_cons, List.map_nil, List.nil_append, List.cons_append, List.append_nil, List.all_cons, List.all_nil, Option.some.injEq, List.getD_cons_zero, List.getD_cons_succ, List.length_cons, List.length_nil, List.take_succ_cons, List.take_zero, List.take_nil, List.drop_succ_cons, List.drop_zero, List.drop_nil, tab105, tab108, hN, hw2, eo]
      repeat refine And.intro (by first | omega | (simp; done) | (simp; omega)) ?_
      refine ⟨k + 1, fun x => if x = 6 then 23 else x, by simp only []; omega, by simp only []; omega, ?_⟩
      have hen : encPs (out ++ [((i : Int), ((i + 1 + k : Nat) : Int))]) = (encPs out).take out.length ++ [IV.agg [.num .i64 (i : Int), .num .i64 ((i + 1 + k : Nat) : Int)]] := by
        rw [← encPs_app, List.take_of_length_le (Nat.le_of_eq eo)]; rfl
      simp only [hst, hen, List.length_append]
      simp [SLe, SLe0, convTm, convHp, convB, conv, conv0, lkT, lkH, clean]
      exact ⟨(List.take_of_length_le (by rw [List.length_append, List.length_take]; exact Nat.le_refl _)).symm, fun id a1 a2 a3 => by omega⟩
    · have hke : k = m - (i + 1) := by simp at h; omega
      subst hke
      rw [← hfin]
      simp only [V_seq, V_ret, V_exit, V_region, W_nil, W_cons, effOp2, KN_seq, KN_block, KN_back, KXr_nil, KXe_nil, KXe_seq, KXe_block, KXe_back, QE, effOp, effPure, pureV, binV, ofC, strip, lkT, lkH, ISt.app, opI, gO, gB, allB, gval, wrapG, dstOK, setD, Gives, Ideal.Fin, conv, conv0, Op.operands, reduceIte, reduceCtorEq, Nat.reduceLT, Nat.reduceEqDiff, Nat.zero_add, ne_eq, true_and, and_self, implies_true, List.nil_append, List.cons_append, Option.some.injEq, List.drop_zero, hN, hw]
      exact ⟨i + 1, id, by simp only []; omega, by simp only []; omega, by simp [SLe, SLe0, convTm, convHp, convB, conv, conv0, lkT, lkH, clean]⟩
  · have hie : i = m := by simp at h; omega
    subst hie
    have eo := len_encPs (prs i i)
    simp only [V_seq, V_ret, V_exit, V_region, W_nil, W_cons, effOp2, KN_seq, KXr_nil, KXe_nil, KXe_seq, KXe_block, KXe_back, QE, effOp, effPure, pureV, strip, lkT, lkH, ISt.app, opI, gO, gB, allB, gval, wrapG, dstOK, setD, Gives, Ideal.Fin, conv, conv0, Op.operands, reduceIte, reduceCtorEq, Nat.reduceLT, Nat.reduceEqDiff, Nat.zero_add, ne_eq, true_and, and_self, implies_true, List.nil_append, List.cons_append, Option.some.injEq, List.drop_zero, hN]
    exact ⟨_, _, rfl, by omega, (List.take_of_length_le (by omega)).symm, by simp⟩
def sp_impl_pairs : PSpec := ⟨fun xs => match xs with | [.num .i64 n] => ((fun (n : Int) => 0 ≤ n) n) ∧ ((fun (n : Int) => n ≤ 1000) n) | _ => False, fun xs => match xs with | [.num _ n] => (fun (n : Int) => .sl 2 (encPs (prs n.toNat n.toNat))) n | _ => .junk, false⟩
theorem gk_impl_pairs : ∀ args, sp_impl_pairs.pre args → ICall Try.prog 85 args (sp_impl_pairs.val args) := by
  intro args h
  unfold sp_impl_pairs at h ⊢; simp only at h ⊢; split at h
  · obtain ⟨h0, h1⟩ := h
    simp only [toPs_enc] at *
    exact c_impl_pairs _ h0 h1
  · exact h.elim
theorem en_impl_pairs : Enters Try.prog 85 := enters_of Try.func85 (by kernel_rfl) rfl


/-- The crossing of two segments with given indices, if they cross. -/
def crF (l : List Qd) (p : Pt) : List Qd := if relP (qAt l p.1.toNat) (qAt l p.2.toNat) == 2 then [crossQ (qAt l p.1.toNat) (qAt l p.2.toNat)] else []
def crsP (l : List Qd) : List Qd := ((prs l.length l.length).flatMap (crF l)).foldl addQ []
theorem crF_good {l : List Qd} (h : okSs l = true) {i j : Nat} (hi : i < l.length) (hj : j < l.length) : ∀ q ∈ crF l ((i : Int), (j : Int)), goodQ q := by
  intro q hq
  unfold crF at hq
  simp only [Int.toNat_natCast] at hq
  split at hq
  · rename_i hr
    simp only [List.mem_cons, List.not_mem_nil, or_false] at hq
    subst hq
    exact crossQ_good (okSs_at h hi) (okSs_at h hj) (by simpa using hr)
  · cases hq
theorem crs_good {l : List Qd} (h : okSs l = true) : ∀ q ∈ (prs l.length l.length).flatMap (crF l), goodQ q := by
  intro q hq
  obtain ⟨p, hp, hq⟩ := List.mem_flatMap.1 hq
  obtain ⟨i, j, h1, h2, rfl⟩ := prs_mem (Nat.le_refl _) hp
  exact crF_good h (by omega) h2 q hq
theorem crF_len (l : List Qd) (p : Pt) : (crF l p).length ≤ 1 := by unfold crF; split <;> simp
theorem flat_len (l : List Qd) : ∀ ps : List Pt, (ps.flatMap (crF l)).length ≤ ps.length
  | [] => Nat.le_refl _
  | p :: ps => by
    have h1 := crF_len l p
    have h2 := flat_len l ps
    rw [List.flatMap_cons, List.length_append, List.length_cons]; omega
theorem prs_at {n i : Nat} (h : i < (prs n n).length) : ∃ a b : Nat, a < b ∧ b < n ∧ pAt (prs n n) i = ((a : Int), (b : Int)) := prs_mem (Nat.le_refl _) (by rw [pAt, List.getD, List.getElem?_eq_getElem h]; exact List.getElem_mem h)
def g_impl_CrossingPoints_h : List (Nat × PSpec) := [(84, sp_impl_segmentsOk), (85, sp_impl_pairs), (86, sp_impl_relation), (87, sp_impl_meet)]
theorem gok_impl_CrossingPoints_h : GOK Try.prog g_impl_CrossingPoints_h := gok_cons gk_impl_segmentsOk en_impl_segmentsOk (gok_cons gk_impl_pairs en_impl_pairs (gok_cons gk_impl_relation en_impl_relation (gok_cons gk_impl_meet en_impl_meet (gok0))))
theorem lk_impl_CrossingPoints_h_impl_segmentsOk : lkG g_impl_CrossingPoints_h 84 = sp_impl_segmentsOk := rfl
theorem lk_impl_CrossingPoints_h_impl_pairs : lkG g_impl_CrossingPoints_h 85 = sp_impl_pairs := rfl
theorem lk_impl_CrossingPoints_h_impl_relation : lkG g_impl_CrossingPoints_h 86 = sp_impl_relation := rfl
theorem lk_impl_CrossingPoints_h_impl_meet : lkG g_impl_CrossingPoints_h 87 = sp_impl_meet := rfl
def h_impl_CrossingPoints_h : List (Nat × HSpec) := [(88, hs_slices_SortFunc_impl_RatPoint_impl_RatPoint), (91, hs_slices_Compact_impl_RatPoint_impl_RatPoint), (90, hs_slices_Clip_impl_RatPoint_impl_RatPoint)]
theorem hok_impl_CrossingPoints_h : HOK Try.prog h_impl_CrossingPoints_h := hok_cons hk_slices_SortFunc_impl_RatPoint_impl_RatPoint en_slices_SortFunc_impl_RatPoint_impl_RatPoint (hok_cons hk_slices_Compact_impl_RatPoint_impl_RatPoint en_slices_Compact_impl_RatPoint_impl_RatPoint (hok_cons hk_slices_Clip_impl_RatPoint_impl_RatPoint en_slices_Clip_impl_RatPoint_impl_RatPoint (hok0)))
theorem lh_impl_CrossingPoints_h_impl_segmentsOk : lkHS h_impl_CrossingPoints_h 84 = none := rfl
theorem lh_impl_CrossingPoints_h_impl_pairs : lkHS h_impl_CrossingPoints_h 85 = none := rfl
theorem lh_impl_CrossingPoints_h_impl_relation : lkHS h_impl_CrossingPoints_h 86 = none := rfl
theorem lh_impl_CrossingPoints_h_impl_meet : lkHS h_impl_CrossingPoints_h 87 = none := rfl
theorem lh_impl_CrossingPoints_h_slices_SortFunc_impl_RatPoint_impl_RatPoint : lkHS h_impl_CrossingPoints_h 88 = some hs_slices_SortFunc_impl_RatPoint_impl_RatPoint := rfl
theorem lh_impl_CrossingPoints_h_slices_Compact_impl_RatPoint_impl_RatPoint : lkHS h_impl_CrossingPoints_h 91 = some hs_slices_Compact_impl_RatPoint_impl_RatPoint := rfl
theorem lh_impl_CrossingPoints_h_slices_Clip_impl_RatPoint_impl_RatPoint : lkHS h_impl_CrossingPoints_h 90 = some hs_slices_Clip_impl_RatPoint_impl_RatPoint := rfl
theorem c_impl_CrossingPoints_h (l : List Qd) (hs : okSs l = true) : HCall Try.prog 26 [.sl 4 (encQs l)] (sm ([])) (.ref 0 0 (crsP l).length false) (sm ([(0, .arr 4 39 (encQs (crsP l)))])) := by
  refine hcall_V (G := g_impl_CrossingPoints_h) (H := h_impl_CrossingPoints_h) [(7, [(0, 10), (1, 10), (2, 10), (3, 10), (5, 10), (6, 10), (7, 10), (8, 10)]), (8, [(0, 11), (1, 11), (2, 11), (3, 11), (4, 11), (6, 11), (7, 11), (8, 11), (9, 11), (0, 12), (1, 12), (2, 12), (3, 12), (4, 12), (5, 12), (6, 12), (7, 12), (8, 12), (9, 12), (10, 12), (1, 13), (2, 13), (3, 13), (4, 13), (5, 13), (6, 13), (7, 13), (8, 13), (9, 13), (10, 13)])] tabOK mixed gok_impl_CrossingPoints_h hok_impl_CrossingPoints_h Try.func26 rfl Try.ntmps26 Try.results26 rfl (by kernel_rfl) fun F hN hlen => ?_
  simp only [sm]
  have el := len_encQs l
  have h12 := okSs_len hs
  have hg := crs_good hs
  have hcp : crsP l = compFQ (sortQ ((prs l.length l.length).flatMap (crF l))) := by
    rw [compFQ_eq, comp_sortQ hg]; rfl
  have hpl := prs_len l.length l.length
  have hpl2 : l.length * l.length ≤ 12 * 12 := Nat.mul_le_mul h12 h12
  have hat := @prs_at l.length
  obtain ⟨ps, hps⟩ : ∃ ps, prs l.length l.length = ps := ⟨_, rfl⟩
  rw [hps] at hg hcp hpl hat
  have ep := len_encPs ps
  have z1 : (0 : Int) ≤ (l.length : Int) := by omega
  have z2 : (l.length : Int) ≤ 1000 := by omega
  simp only [V_seq, V_skip, V_block, V_region, V_cond, brW_false, W_nil, W_cons, effOp2, KN_seq, asB, effOp, effPure, effNew, effBuildSlice, effFrz, frz, tmpsOf, effCall, giveUp, hasAll, skipE, pureV, lenV, ofC, strip, lkT, lkH, ISt.app, opI, gO, gB, allB, gval, wrapG, dstOK, setD, mentTm, mentHp, IV.ment, partsL, eltsI, lendV, lendP, lent, lentP, idsV, idsL, flat, clean, callArgs, callFn, allLent, enumT, Op.operands, Call.operands, List.append_toArray, reduceIte, reduceCtorEq, cond_true, cond_false, Bool.or_false, Bool.not_true, Nat.reduceMul, Nat.reduceLT, Nat.reduceLeDiff, Nat.reduceEqDiff, ne_eq, not_false_eq_true, true_and, and_self, implies_true, List.map_cons, List.map_nil, List.nil_append, List.cons_append, List.append_nil, List.length_nil, ex_clo, or_true, or_self, Bool.false_eq_true, tab25, tab39, tab43, tab105, hN, Int.toNat_natCast, isQs_enc, toQs_enc, lk_impl_CrossingPoints_h_impl_segmentsOk, lk_impl_CrossingPoints_h_impl_pairs, sp_impl_segmentsOk, sp_impl_pairs, lh_impl_CrossingPoints_h_impl_segmentsOk, lh_impl_CrossingPoints_h_impl_pairs, hs, el, z1, z2, hps, ep]
  refine V_loop (α := Nat) ⟨tabOK, mixed, gok_impl_CrossingPoints_h, hok_impl_CrossingPoints_h⟩ (by kernel_rfl) (fun i => i ≤ ps.length) (fun i => ⟨[(14, .num .i64 i), (13, .num .i64 ps.length), (12, .sl 2 (encPs ps)), (3, .ref 9 0 ((ps.take i).flatMap (crF l)).length true), (0, .sl 4 (encQs l))], [(9, some (.arr 4 39 (encQs ((ps.take i).flatMap (crF l)))))]⟩) (fun i => ps.length - i) 0 id (Nat.zero_le _) (by simp [SLe, SLe0, convTm, convHp, convB, conv, conv0, lkT, lkH, clean, encQs]) ?_
  intro i hi
  have hfl := flat_len l (ps.take i)
  have hst : i < ps.length → (ps.take (i + 1)).flatMap (crF l) = (ps.take i).flatMap (crF l) ++ crF l (pAt ps i) := fun h => by
    rw [take_succ_g (d := (0, 0)) h, List.flatMap_append]; simp
  have hfin : (ps.take ps.length).flatMap (crF l) = ps.flatMap (crF l) := by rw [List.take_length]
  rw [List.length_take] at hfl
  simp only [V_seq, V_region, V_cond, W_nil, W_cons, effOp2, KN_seq, asB, effOp, effPure, pureV, binV, strip, lkT, ISt.app, opI, gO, gB, allB, gval, wrapG, dstOK, setD, Op.operands, reduceIte, reduceCtorEq, Nat.reduceLT, Nat.reduceEqDiff, true_and, and_self, implies_true, List.nil_append, List.cons_append, hN]
  refine brW_some (fun h => ?_) (fun h => ?_)
  · have hi' : i < ps.length := by simpa using h
    have hw := wr_succ hi' (by rw [maxLen_eq]; omega)
    have g0 := getD_encPs hi'
    have hst := hst hi'
    obtain ⟨a, b, hab, hb, hpa⟩ := hat hi'
    rw [hpa] at g0 hst
    have ga := getD_encQs (l := l) (i := a) (by omega)
    have gb := getD_encQs hb
    have va := okSs_at hs (show a < l.length by omega)
    have vb := okSs_at hs hb
    obtain ⟨sma, _, _, na⟩ := vSg_facts va
    obtain ⟨smb, _, _, nb⟩ := vSg_facts vb
    have hcf : crF l ((a : Int), (b : Int)) = if relP (qAt l a) (qAt l b) == 2 then [crossQ (qAt l a) (qAt l b)] else [] := by unfold crF; simp only [Int.toNat_natCast]
    obtain ⟨s, hsa⟩ : ∃ s, qAt l a = s := ⟨_, rfl⟩
    obtain ⟨t, htb⟩ : ∃ t, qAt l b = t := ⟨_, rfl⟩
    rw [hsa] at ga va sma na hcf
    rw [htb] at gb vb smb nb hcf
    obtain ⟨out, hout⟩ : ∃ out, (ps.take i).flatMap (crF l) = out := ⟨_, rfl⟩
    rw [hout] at hst hfl ⊢
    have eo := len_encQs out
    have hx : ∃ k ty es, IBlk.arr 4 39 (encQs out) = IBlk.arr k ty es := ⟨_, _, _, rfl⟩
    cases hr : (relP s t == 2) with
    | false =>
      rw [hcf, hr, if_neg (by decide), List.append_nil] at hst
      simp only [V_seq, V_skip, V_block, V_region, V_draw, V_cond, brW_false, drawW, WS_nil, pairsOf, W_nil, W_cons, effOp2, WI_nil, WI_cons, KN_seq, KN_block, KN_back, dynOK, indB, farB, freshB, heapy, asB, effOp, effPure, effNew, effAlloc, effStore, effCall, giveUp, hasAll, skipE, pureV, storeV, binV, partV, eltV, loadV, faddrV, iaddrV, over, solid, IV.cells, ofC, strip, lkT, lkH, ISt.app, opI, gO, gB, allB, gval, wrapG, dstOK, setD, mentTm, mentHp, IV.ment, IV.mentL, oneI, lendV, lendP, lent, lentP, idsV, idsL, flat, clean, callArgs, callFn, allLent, IBlk.shape, Op.operands, Call.operands, List.append_toArray, reduceIte, reduceCtorEq, cond_true, cond_false, Bool.or_false, Bool.and_true, Bool.and_eq_true, Bool.not_true, Bool.not_false, Nat.reduceAdd, Nat.reduceLT, Nat.reduceLeDiff, Nat.reduceEqDiff, Nat.reduceBEq, Nat.add_zero, Nat.zero_add, ne_eq, not_false_eq_true, true_and, and_true, and_false, and_self, implies_true, forall_const, List.map_cons, List.map_nil, List.nil_append, List.cons_append, List.append_nil, List.all_cons, List.all_nil, Option.map_some, List.getD_cons_zero, List.getD_cons_succ, List.length_cons, List.length_nil, List.take_succ_cons, List.take_zero, List.take_nil, List.drop_succ_cons, List.drop_zero, List.drop_nil, ex_clo, or_self, tab3, tab43, tab47, tab105, tab108, hN, pe, Int.toNat_natCast, lk_impl_CrossingPoints_h_impl_relation, sp_impl_relation, lh_impl_CrossingPoints_h_impl_relation, el, ep, hw, g0, ga, gb, sma, smb, na, nb, hr]
      repeat refine And.intro (by first | omega | (simp; done) | (simp; omega)) ?_
      refine ⟨i + 1, id, by simp only []; omega, by simp only []; omega, ?_⟩
      simp only [hst]
      exact by simp [SLe, SLe0, convTm, convHp, convB, conv, conv0, lkT, lkH, clean]
    | true =>
      have hr2 : relP s t = 2 := by simpa using hr
      rw [hcf, hr, if_pos rfl] at hst
      obtain ⟨q, hq⟩ : ∃ q, crossQ s t = q := ⟨_, rfl⟩
      rw [hq] at hst
      simp only [V_seq, V_skip, V_block, V_region, V_draw, V_cond, brW_true, drawW, WS_nil, pairsOf, W_nil, W_cons, effOp2, WI_nil, WI_cons, KN_seq, KN_block, KN_back, dynOK, indB, farB, seeB, see, isStore, freshB, heapy, asB, effOp, effPure, effNew, effAlloc, effBuildSlice, effFrz, frz, tmpsOf, effStore, effAppend, effZeros, effCall, giveUp, hasAll, skipE, pureV, storeV, srcV, refId, binV, partV, eltV, loadV, faddrV, iaddrV, over, solid, IV.cells, ofC, strip, lkT, lkH, ISt.app, opI, gO, gB, allB, gval, wrapG, dstOK, setD, mentTm, mentHp, IV.ment, IV.mentL, partsL, eltsI, eltI, oneI, noId', lendV, lendP, lent, lentP, idsV, idsL, flat, flatL, clean, cleanL, callArgs, callFn, allLent, IBlk.shape, Op.operands, Call.operands, List.append_toArray, reduceIte, reduceCtorEq, cond_true, cond_false, Bool.or_false, Bool.or_true, Bool.and_true, Bool.and_false, Bool.and_eq_true, Bool.not_true, Bool.not_false, Nat.reduceAdd, Nat.reduceMul, Nat.reduceLT, Nat.reduceLeDiff, Nat.reduceEqDiff, Nat.reduceBEq, Nat.add_zero, Nat.zero_add, ne_eq, not_false_eq_true, beq_self_eq_true, true_and, and_true, and_false, and_self, implies_true, forall_const, List.map_cons, List.map_nil, List.nil_append, List.cons_append, List.append_nil, List.all_cons, List.all_nil, Option.some.injEq, Option.map_some, List.getD_cons_zero, List.getD_cons_succ, List.length_cons, List.length_nil, List.take_succ_cons, List.take_zero, List.take_nil, List.drop_succ_cons, List.drop_zero, List.drop_nil, ex_clo, or_self, tab3, tab25, tab39, tab43, tab47, tab105, tab108, hN, pe, Int.toNat_natCast, encQ, lk_impl_CrossingPoints_h_impl_relation, lk_impl_CrossingPoints_h_impl_meet, sp_impl_relation, sp_impl_meet, lh_impl_CrossingPoints_h_impl_relation, lh_impl_CrossingPoints_h_impl_meet, el, ep, hw, g0, ga, gb, va, vb, sma, smb, na, nb, hr2, hq, eo]
      repeat refine And.intro (by first | omega | (simp; done) | (simp; omega)) ?_
      refine ⟨i + 1, fun x => if x = 9 then 43 else x, by simp only []; omega, by simp only []; omega, ?_⟩
      have hen : encQs (out ++ [q]) = (encQs out).take out.length ++ [IV.agg [.num .i64 q.1.1, .num .i64 q.1.2, .num .i64 q.2.1, .num .i64 q.2.2]] := by
        rw [← encQs_app, List.take_of_length_le (Nat.le_of_eq eo)]; rfl
      simp only [hst, hen, List.length_append]
      simp [SLe, SLe0, convTm, convHp, convB, conv, conv0, lkT, lkH, clean]
      exact ⟨(List.take_of_length_le (by rw [List.length_append, List.length_take]; exact Nat.le_refl _)).symm, fun id a1 a2 a3 => by omega⟩
  · have hie : i = ps.length := by simp at h; omega
    subst hie
    rw [hfin] at hfl ⊢
    obtain ⟨raw, hraw⟩ : ∃ raw, ps.flatMap (crF l) = raw := ⟨_, rfl⟩
    rw [hraw] at hg hcp hfl ⊢
    have er := len_encQs raw
    have hsl := sortQ_len hg
    have z3 : raw.length ≤ 1000000 := by omega
    have es : (encQs (sortQ raw)).length = raw.length := by rw [len_encQs, hsl]
    have z4 : (sortQ raw).length ≤ 1000000 := by omega
    have ec := len_encQs (crsP l)
    simp only [V_seq, V_ret, V_exit, V_region, W_nil, W_cons, effOp2, KN_seq, KXr_nil, KXe_nil, KXe_seq, KXe_block, KXe_back, QE, effOp, effPure, Option.isSome_some, skipE, pureV, strip, lkT, lkH, ISt.app, opI, gO, gB, allB, gval, wrapG, dstOK, setD, mentTm, mentHp, IV.ment, IV.mentL, idsV, idsL, callArgs, callFn, enumT, conv, conv0, convL, IBlk.shape, Op.operands, reduceIte, reduceCtorEq, cond_true, cond_false, Bool.or_false, Bool.or_true, Bool.and_true, Nat.reduceAdd, Nat.reduceSub, Nat.reduceMul, Nat.reduceLT, Nat.reduceLeDiff, Nat.reduceEqDiff, Nat.zero_add, not_false_eq_true, beq_self_eq_true, true_and, and_true, and_false, and_self, false_implies, implies_true, List.map_cons, List.map_nil, List.nil_append, List.cons_append, List.append_nil, List.all_nil, Option.map_some, List.getD_cons_zero, ex_clo, true_or, Bool.true_eq_false, Bool.false_eq_true, hN, isQs_enc, toQs_enc, FinH, resA, resV, SLe, SLe0, convTm, convHp, convB, sm, effH, mkHC0, mkHC1, lendM, lentM, lentI, allHere, addIds, idsB, flatIds, reach, posn, renV, renL, renB, renH, numB, subHp, fwd, bk, bwd, nones, keyOK, noSl, noSlL, flatBs, List.contains, List.elem, Option.isSome_some, List.nodup_nil, List.nodup_cons, List.not_mem_nil, Option.getD_some, lh_impl_CrossingPoints_h_slices_SortFunc_impl_RatPoint_impl_RatPoint, lh_impl_CrossingPoints_h_slices_Compact_impl_RatPoint_impl_RatPoint, lh_impl_CrossingPoints_h_slices_Clip_impl_RatPoint_impl_RatPoint, hs_slices_SortFunc_impl_RatPoint_impl_RatPoint, hs_slices_Compact_impl_RatPoint_impl_RatPoint, hs_slices_Clip_impl_RatPoint_impl_RatPoint, er, z3, es, z4, ← hcp, ec]
    have t1 : encQs raw = (encQs raw).take raw.length := (List.take_of_length_le (by omega)).symm
    have t2 : encQs (sortQ raw) = (encQs (sortQ raw)).take raw.length := (List.take_of_length_le (by omega)).symm
    have t3 : encQs (crsP l) = (encQs (crsP l)).take (crsP l).length := (List.take_of_length_le (by omega)).symm
    exact ⟨⟨t1, hg, t2⟩, ⟨t2, t3⟩, ⟨t3, Nat.le_refl _, t3⟩, fun x => if x = 0 then 9 else x, by simp; omega⟩
def hs_impl_CrossingPoints_h : HSpec := ⟨[true], fun xs hp => match xs, hp with | [.sl 4 es], [] => (isQs es) ∧ ((fun (l : List Qd) => okSs l = true) (toQs es)) | _, _ => False, fun xs hp => match xs, hp with | [.sl 4 es], [] => (fun (l : List Qd) => (.ref 0 0 (crsP l).length false : IV)) (toQs es) | _, _ => .junk, fun xs hp => match xs, hp with | [.sl 4 es], [] => (fun (l : List Qd) => ([(0, .arr 4 39 (encQs (crsP l)))] : List (Nat × IBlk))) (toQs es) | _, _ => []⟩
theorem hk_impl_CrossingPoints_h : ∀ args hp, hs_impl_CrossingPoints_h.pre args hp → HCall Try.prog 26 args (sm hp) (hs_impl_CrossingPoints_h.val args hp) (sm (hs_impl_CrossingPoints_h.hval args hp)) := by
  intro args hp h
  unfold hs_impl_CrossingPoints_h at h ⊢; simp only at h ⊢; split at h
  · obtain ⟨h1, h2⟩ := h; obtain ⟨l, rfl⟩ := isQ_ex h1; rw [toQs_enc] at *; exact c_impl_CrossingPoints_h l h2
  · exact h.elim
theorem en_impl_CrossingPoints_h : Enters Try.prog 26 := enters_of Try.func26 (by kernel_rfl) rfl


def g_impl_CrossingPoints_e0 : List (Nat × PSpec) := [(84, sp_impl_segmentsOk), (85, sp_impl_pairs), (86, sp_impl_relation), (87, sp_impl_meet)]
theorem gok_impl_CrossingPoints_e0 : GOK Try.prog g_impl_CrossingPoints_e0 := gok_cons gk_impl_segmentsOk en_impl_segmentsOk (gok_cons gk_impl_pairs en_impl_pairs (gok_cons gk_impl_relation en_impl_relation (gok_cons gk_impl_meet en_impl_meet (gok0))))
theorem lk_impl_CrossingPoints_e0_impl_segmentsOk : lkG g_impl_CrossingPoints_e0 84 = sp_impl_segmentsOk := rfl
theorem lk_impl_CrossingPoints_e0_impl_pairs : lkG g_impl_CrossingPoints_e0 85 = sp_impl_pairs := rfl
theorem lk_impl_CrossingPoints_e0_impl_relation : lkG g_impl_CrossingPoints_e0 86 = sp_impl_relation := rfl
theorem lk_impl_CrossingPoints_e0_impl_meet : lkG g_impl_CrossingPoints_e0 87 = sp_impl_meet := rfl
def h_impl_CrossingPoints_e0 : List (Nat × HSpec) := [(88, hs_slices_SortFunc_impl_RatPoint_impl_RatPoint), (91, hs_slices_Compact_impl_RatPoint_impl_RatPoint), (90, hs_slices_Clip_impl_RatPoint_impl_RatPoint)]
theorem hok_impl_CrossingPoints_e0 : HOK Try.prog h_impl_CrossingPoints_e0 := hok_cons hk_slices_SortFunc_impl_RatPoint_impl_RatPoint en_slices_SortFunc_impl_RatPoint_impl_RatPoint (hok_cons hk_slices_Compact_impl_RatPoint_impl_RatPoint en_slices_Compact_impl_RatPoint_impl_RatPoint (hok_cons hk_slices_Clip_impl_RatPoint_impl_RatPoint en_slices_Clip_impl_RatPoint_impl_RatPoint (hok0)))
theorem lh_impl_CrossingPoints_e0_impl_segmentsOk : lkHS h_impl_CrossingPoints_e0 84 = none := rfl
theorem lh_impl_CrossingPoints_e0_impl_pairs : lkHS h_impl_CrossingPoints_e0 85 = none := rfl
theorem lh_impl_CrossingPoints_e0_impl_relation : lkHS h_impl_CrossingPoints_e0 86 = none := rfl
theorem lh_impl_CrossingPoints_e0_impl_meet : lkHS h_impl_CrossingPoints_e0 87 = none := rfl
theorem lh_impl_CrossingPoints_e0_slices_SortFunc_impl_RatPoint_impl_RatPoint : lkHS h_impl_CrossingPoints_e0 88 = some hs_slices_SortFunc_impl_RatPoint_impl_RatPoint := rfl
theorem lh_impl_CrossingPoints_e0_slices_Compact_impl_RatPoint_impl_RatPoint : lkHS h_impl_CrossingPoints_e0 91 = some hs_slices_Compact_impl_RatPoint_impl_RatPoint := rfl
theorem lh_impl_CrossingPoints_e0_slices_Clip_impl_RatPoint_impl_RatPoint : lkHS h_impl_CrossingPoints_e0 90 = some hs_slices_Clip_impl_RatPoint_impl_RatPoint := rfl
theorem c_impl_CrossingPoints_e0 (l : List Qd) (hk : okSs l = false) : ICall Try.prog 26 [.sl 4 (encQs l)] (.sl 4 []) := by
  refine icall_V (G := g_impl_CrossingPoints_e0) (H := h_impl_CrossingPoints_e0) [(7, [(0, 10), (1, 10), (2, 10), (3, 10), (5, 10), (6, 10), (7, 10), (8, 10)]), (8, [(0, 11), (1, 11), (2, 11), (3, 11), (4, 11), (6, 11), (7, 11), (8, 11), (9, 11), (0, 12), (1, 12), (2, 12), (3, 12), (4, 12), (5, 12), (6, 12), (7, 12), (8, 12), (9, 12), (10, 12), (1, 13), (2, 13), (3, 13), (4, 13), (5, 13), (6, 13), (7, 13), (8, 13), (9, 13), (10, 13)])] tabOK mixed gok_impl_CrossingPoints_e0 hok_impl_CrossingPoints_e0 Try.func26 rfl Try.ntmps26 Try.results26 rfl (by kernel_rfl) fun F hN hlen => ?_
  simp only [V_seq, V_ret, V_region, V_cond, brW_true, W_nil, W_cons, effOp2, KN_seq, KXr_nil, KXr_seq, QE, asB, effOp, effPure, effCall, giveUp, hasAll, pureV, ofC, strip, lkT, lkH, ISt.app, opI, gO, gB, allB, gval, wrapG, dstOK, setD, lendV, lendP, lent, lentP, idsV, idsL, flat, clean, callArgs, callFn, allLent, enumT, Gives, Ideal.Fin, conv, conv0, Op.operands, reduceIte, reduceCtorEq, cond_true, Bool.or_false, Bool.not_true, Bool.not_false, Nat.reduceLT, Nat.reduceEqDiff, and_self, implies_true, List.map_cons, List.map_nil, List.nil_append, List.cons_append, List.append_nil, ex_clo, or_self, hN, isQs_enc, toQs_enc, lk_impl_CrossingPoints_e0_impl_segmentsOk, sp_impl_segmentsOk, lh_impl_CrossingPoints_e0_impl_segmentsOk, hk]
def sp_impl_CrossingPoints_e0 : PSpec := ⟨fun xs => match xs with | [.sl 4 les] => isQs les ∧ ((fun (l : List Qd) => okSs l = false) (toQs les)) | _ => False, fun xs => match xs with | [.sl _ les] => (fun (l : List Qd) => .sl 4 []) (toQs les) | _ => .junk, false⟩
theorem gk_impl_CrossingPoints_e0 : ∀ args, sp_impl_CrossingPoints_e0.pre args → ICall Try.prog 26 args (sp_impl_CrossingPoints_e0.val args) := by
  intro args h
  unfold sp_impl_CrossingPoints_e0 at h ⊢; simp only at h ⊢; split at h
  · obtain ⟨h0, h1⟩ := h
    obtain ⟨l0, rfl⟩ := isQ_ex h0
    simp only [toQs_enc] at *
    exact c_impl_CrossingPoints_e0 _ h1
  · exact h.elim
theorem en_impl_CrossingPoints_e0 : Enters Try.prog 26 := enters_of Try.func26 (by kernel_rfl) rfl

def g_impl_CrossingPoints_e : List (Nat × PSpec) := [(84, sp_impl_segmentsOk), (85, sp_impl_pairs), (86, sp_impl_relation), (87, sp_impl_meet)]
theorem gok_impl_CrossingPoints_e : GOK Try.prog g_impl_CrossingPoints_e := gok_cons gk_impl_segmentsOk en_impl_segmentsOk (gok_cons gk_impl_pairs en_impl_pairs (gok_cons gk_impl_relation en_impl_relation (gok_cons gk_impl_meet en_impl_meet (gok0))))
theorem lk_impl_CrossingPoints_e_impl_segmentsOk : lkG g_impl_CrossingPoints_e 84 = sp_impl_segmentsOk := rfl
theorem lk_impl_CrossingPoints_e_impl_pairs : lkG g_impl_CrossingPoints_e 85 = sp_impl_pairs := rfl
theorem lk_impl_CrossingPoints_e_impl_relation : lkG g_impl_CrossingPoints_e 86 = sp_impl_relation := rfl
theorem lk_impl_CrossingPoints_e_impl_meet : lkG g_impl_CrossingPoints_e 87 = sp_impl_meet := rfl
def h_impl_CrossingPoints_e : List (Nat × HSpec) := [(88, hs_slices_SortFunc_impl_RatPoint_impl_RatPoint), (91, hs_slices_Compact_impl_RatPoint_impl_RatPoint), (90, hs_slices_Clip_impl_RatPoint_impl_RatPoint)]
theorem hok_impl_CrossingPoints_e : HOK Try.prog h_impl_CrossingPoints_e := hok_cons hk_slices_SortFunc_impl_RatPoint_impl_RatPoint en_slices_SortFunc_impl_RatPoint_impl_RatPoint (hok_cons hk_slices_Compact_impl_RatPoint_impl_RatPoint en_slices_Compact_impl_RatPoint_impl_RatPoint (hok_cons hk_slices_Clip_impl_RatPoint_impl_RatPoint en_slices_Clip_impl_RatPoint_impl_RatPoint (hok0)))
theorem lh_impl_CrossingPoints_e_impl_segmentsOk : lkHS h_impl_CrossingPoints_e 84 = none := rfl
theorem lh_impl_CrossingPoints_e_impl_pairs : lkHS h_impl_CrossingPoints_e 85 = none := rfl
theorem lh_impl_CrossingPoints_e_impl_relation : lkHS h_impl_CrossingPoints_e 86 = none := rfl
theorem lh_impl_CrossingPoints_e_impl_meet : lkHS h_impl_CrossingPoints_e 87 = none := rfl
theorem lh_impl_CrossingPoints_e_slices_SortFunc_impl_RatPoint_impl_RatPoint : lkHS h_impl_CrossingPoints_e 88 = some hs_slices_SortFunc_impl_RatPoint_impl_RatPoint := rfl
theorem lh_impl_CrossingPoints_e_slices_Compact_impl_RatPoint_impl_RatPoint : lkHS h_impl_CrossingPoints_e 91 = some hs_slices_Compact_impl_RatPoint_impl_RatPoint := rfl
theorem lh_impl_CrossingPoints_e_slices_Clip_impl_RatPoint_impl_RatPoint : lkHS h_impl_CrossingPoints_e 90 = some hs_slices_Clip_impl_RatPoint_impl_RatPoint := rfl
theorem c_impl_CrossingPoints_e (l : List Qd) (hk : okSs l = false) : ICallF Try.prog 26 [.sl 4 (encQs l)] (.sl 4 []) := by
  exact icallF_nil (c_impl_CrossingPoints_e0 l hk)
def sp_impl_CrossingPoints_e : PSpec := ⟨fun xs => match xs with | [.sl 4 les] => isQs les ∧ ((fun (l : List Qd) => okSs l = false) (toQs les)) | _ => False, fun xs => match xs with | [.sl _ les] => (fun (l : List Qd) => .sl 4 []) (toQs les) | _ => .junk, true⟩
theorem gk_impl_CrossingPoints_e : ∀ args, sp_impl_CrossingPoints_e.pre args → ICallF Try.prog 26 args (sp_impl_CrossingPoints_e.val args) ∧ ∀ id, (sp_impl_CrossingPoints_e.val args).ment id = false := by
  intro args h
  unfold sp_impl_CrossingPoints_e at h ⊢; simp only at h ⊢; split at h
  · obtain ⟨h0, h1⟩ := h
    obtain ⟨l0, rfl⟩ := isQ_ex h0
    simp only [toQs_enc] at *
    exact ⟨c_impl_CrossingPoints_e _ h1, fun id => rfl⟩
  · exact h.elim
theorem en_impl_CrossingPoints_e : Enters Try.prog 26 := enters_of Try.func26 (by kernel_rfl) rfl

def crsV (l : List Qd) : List Qd := if okSs l then crsP l else []
theorem crs_all (l : List Qd) : crsP l = (xall (crF l) l.length l.length).foldl addQ [] := by rw [crsP, prs_flat]
theorem xrow_succ (f : Pt → List Qd) (i k : Nat) : xrow f i (k + 1) = xrow f i k ++ f ((i : Int), ((i + 1 + k : Nat) : Int)) := rfl
theorem xrow_len (l : List Qd) (i : Nat) : ∀ k, (xrow (crF l) i k).length ≤ k
  | 0 => Nat.le_refl _
  | k + 1 => by
    have h1 := xrow_len l i k
    have h2 := crF_len l ((i : Int), ((i + 1 + k : Nat) : Int))
    rw [xrow, List.length_append]; omega
theorem xall_len (l : List Qd) (n : Nat) : ∀ i, (xall (crF l) n i).length ≤ n * i
  | 0 => Nat.zero_le _
  | i + 1 => by
    have h1 := xall_len l n i
    have h2 := xrow_len l i (n - (i + 1))
    rw [xall, List.length_append, Nat.mul_succ]; omega
theorem xrow_good {l : List Qd} (h : okSs l = true) {i : Nat} (hi : i < l.length) : ∀ k, i + 1 + k ≤ l.length → ∀ q ∈ xrow (crF l) i k, goodQ q
  | 0, _, q, hq => by cases hq
  | k + 1, hk, q, hq => by
    rw [xrow, List.mem_append] at hq
    rcases hq with h1 | h1
    · exact xrow_good h hi k (by omega) q h1
    · exact crF_good h hi (by omega) q h1
theorem xall_good {l : List Qd} (h : okSs l = true) : ∀ i, i ≤ l.length → ∀ q ∈ xall (crF l) l.length i, goodQ q
  | 0, _, q, hq => by cases hq
  | i + 1, hi, q, hq => by
    rw [xall, List.mem_append] at hq
    rcases hq with h1 | h1
    · exact xall_good h i (by omega) q h1
    · exact xrow_good h (by omega) _ (by omega) q h1
def xF (l : List Qd) (i k : Nat) : List Qd := (xall (crF l) l.length i ++ xrow (crF l) i k).foldl addQ []
theorem xF_step (l : List Qd) (i k : Nat) : xF l i (k + 1) = (crF l ((i : Int), ((i + 1 + k : Nat) : Int))).foldl addQ (xF l i k) := by
  unfold xF
  rw [xrow_succ, ← List.append_assoc, List.foldl_append]
def g_spec_CrossingPoints : List (Nat × PSpec) := [(92, sp_spec_validSegments), (93, sp_spec_relation), (95, sp_spec_crossPoint), (94, sp_spec_addRatPoint)]
theorem gok_spec_CrossingPoints : GOK Try.prog g_spec_CrossingPoints := gok_cons gk_spec_validSegments en_spec_validSegments (gok_cons gk_spec_relation en_spec_relation (gok_cons gk_spec_crossPoint en_spec_crossPoint (gok_cons gk_spec_addRatPoint en_spec_addRatPoint (gok0))))
theorem lk_spec_CrossingPoints_spec_validSegments : lkG g_spec_CrossingPoints 92 = sp_spec_validSegments := rfl
theorem lk_spec_CrossingPoints_spec_relation : lkG g_spec_CrossingPoints 93 = sp_spec_relation := rfl
theorem lk_spec_CrossingPoints_spec_crossPoint : lkG g_spec_CrossingPoints 95 = sp_spec_crossPoint := rfl
theorem lk_spec_CrossingPoints_spec_addRatPoint : lkG g_spec_CrossingPoints 94 = sp_spec_addRatPoint := rfl
def h_spec_CrossingPoints : List (Nat × HSpec) := []
theorem hok_spec_CrossingPoints : HOK Try.prog h_spec_CrossingPoints := hok0
theorem c_spec_CrossingPoints (l : List Qd)  : ICall Try.prog 27 [.sl 4 (encQs l)] (.sl 4 (encQs (crsV l))) := by
  refine icall_V (G := g_spec_CrossingPoints) (H := []) [(10, [(0, 8), (1, 8), (2, 8), (4, 8), (5, 8), (6, 8)]), (11, [(0, 9), (1, 9), (2, 9), (3, 9), (5, 9), (6, 9), (7, 9), (1, 10), (2, 10), (3, 10), (4, 10), (5, 10), (6, 10), (7, 10), (8, 10)])] tabOK mixed gok_spec_CrossingPoints hok_spec_CrossingPoints Try.func27 rfl Try.ntmps27 Try.results27 rfl (by kernel_rfl) fun F hN hlen => ?_
  have el := len_encQs l
  have e0 : encQs [] = [] := rfl
  cases hs : okSs l with
  | false =>
    have hv : crsV l = [] := by rw [crsV, hs]; rfl
    simp only [V_seq, V_ret, V_region, V_cond, brW_true, W_nil, W_cons, effOp2, KN_seq, KXr_nil, KXr_seq, QE, asB, effOp, effPure, effNew, effBuildSlice, effFrz, frz, tmpsOf, effCall, giveUp, hasAll, skipE, pureV, ofC, strip, lkT, lkH, ISt.app, opI, gO, gB, allB, gval, wrapG, dstOK, setD, mentTm, mentHp, IV.ment, partsL, eltsI, lendV, lendP, lent, lentP, idsV, idsL, lkHS, flat, clean, callArgs, callFn, allLent, enumT, Gives, Ideal.Fin, conv, conv0, Op.operands, reduceIte, reduceCtorEq, cond_true, Bool.or_false, Bool.not_true, Bool.not_false, Nat.reduceMul, Nat.reduceLT, Nat.reduceLeDiff, Nat.reduceEqDiff, ne_eq, not_false_eq_true, and_self, implies_true, List.map_cons, List.map_nil, List.nil_append, List.cons_append, List.append_nil, List.length_nil, ex_clo, or_self, tab25, tab39, hN, isQs_enc, toQs_enc, lk_spec_CrossingPoints_spec_validSegments, sp_spec_validSegments, hs, hv, e0]
  | true =>
    have hv : crsV l = (xall (crF l) l.length l.length).foldl addQ [] := by rw [crsV, hs, ← crs_all]; rfl
    have h12 := okSs_len hs
    rw [hv]
    simp only [V_seq, V_skip, V_block, V_region, V_cond, brW_false, W_nil, W_cons, effOp2, KN_seq, asB, effOp, effPure, effNew, effBuildSlice, effFrz, frz, tmpsOf, effCall, giveUp, hasAll, skipE, pureV, ofC, strip, lkT, lkH, ISt.app, opI, gO, gB, allB, gval, wrapG, dstOK, setD, mentTm, mentHp, IV.ment, partsL, eltsI, lendV, lendP, lent, lentP, idsV, idsL, lkHS, flat, clean, callArgs, callFn, allLent, enumT, Op.operands, reduceIte, reduceCtorEq, cond_true, Bool.or_false, Bool.not_true, Nat.reduceMul, Nat.reduceLT, Nat.reduceLeDiff, Nat.reduceEqDiff, ne_eq, not_false_eq_true, true_and, and_self, implies_true, List.map_cons, List.map_nil, List.nil_append, List.cons_append, List.append_nil, List.length_nil, ex_clo, or_self, tab25, tab39, hN, isQs_enc, toQs_enc, lk_spec_CrossingPoints_spec_validSegments, sp_spec_validSegments, hs]
    refine V_loop (α := Nat) ⟨tabOK, mixed, gok_spec_CrossingPoints, hok_spec_CrossingPoints⟩ (by kernel_rfl) (fun i => i ≤ l.length) (fun i => ⟨[(4, .num .i64 i), (3, .sl 4 (encQs ((xall (crF l) l.length i).foldl addQ []))), (0, .sl 4 (encQs l))], []⟩) (fun i => l.length - i) 0 id (Nat.zero_le _) (by simp [SLe, SLe0, convTm, convHp, conv, conv0, lkT, lkH, clean, xall, encQs]) ?_
    intro i hi
    simp only [V_seq, V_region, V_cond, W_nil, W_cons, effOp2, KN_seq, asB, effOp, effPure, pureV, binV, lenV, strip, lkT, ISt.app, opI, gO, gB, allB, gval, wrapG, dstOK, setD, Op.operands, Call.operands, List.append_toArray, reduceIte, reduceCtorEq, Nat.reduceLT, Nat.reduceEqDiff, ne_eq, not_false_eq_true, true_and, and_self, implies_true, List.nil_append, List.cons_append, List.append_nil, tab43, hN, el]
    refine brW_some (fun h => ?_) (fun h => ?_)
    · have hi' : i < l.length := by simpa using h
      have hw := wr_succ hi' (by rw [maxLen_eq]; omega)
      have va := okSs_at hs hi'
      have ga := getD_encQs hi'
      obtain ⟨sma, _, _, na⟩ := vSg_facts va
      simp only [V_seq, V_skip, V_block, V_region, W_nil, W_cons, effOp2, KN_seq, effOp, effPure, pureV, binV, ofC, strip, lkT, ISt.app, opI, gO, gB, allB, gval, wrapG, dstOK, setD, Op.operands, reduceIte, reduceCtorEq, Nat.reduceLT, Nat.reduceEqDiff, true_and, and_self, implies_true, List.nil_append, List.cons_append, List.append_nil, hN, hw]
      refine V_loop (α := Nat) ⟨tabOK, mixed, gok_spec_CrossingPoints, hok_spec_CrossingPoints⟩ (by kernel_rfl) (fun k => i + 1 + k ≤ l.length) (fun k => ⟨[(5, .num .i64 ((i + 1 + k : Nat) : Int)), (4, .num .i64 i), (3, .sl 4 (encQs (xF l i k))), (0, .sl 4 (encQs l))], []⟩) (fun k => l.length - k) 0 id (by omega) (by simp [SLe, SLe0, convTm, convHp, conv, conv0, lkT, lkH, clean, xF, xrow]) ?_
      intro k hk
      have hst := xF_step l i k
      have hgf : ∀ q ∈ xF l i k, goodQ q := by
        intro q hq
        rcases (mem_foldQ _ _).1 hq with h | h
        · rcases List.mem_append.1 h with h | h
          · exact xall_good hs i hi q h
          · exact xrow_good hs hi' k (by omega) q h
        · cases h
      have hlf : (xF l i k).length ≤ 100000 := by
        have h1 := fold_len (xall (crF l) l.length i ++ xrow (crF l) i k) []
        have h2 := xall_len l l.length i
        have h3 := xrow_len l i k
        have h4 : l.length * i ≤ 12 * 12 := Nat.mul_le_mul (by omega) (by omega)
        rw [List.length_append, List.length_nil] at h1
        unfold xF; omega
      simp only [V_seq, V_region, V_cond, W_nil, W_cons, effOp2, KN_seq, asB, effOp, effPure, pureV, binV, lenV, strip, lkT, ISt.app, opI, gO, gB, allB, gval, wrapG, dstOK, setD, Op.operands, Call.operands, List.append_toArray, reduceIte, reduceCtorEq, Nat.reduceLT, Nat.reduceEqDiff, ne_eq, not_false_eq_true, true_and, and_self, implies_true, List.nil_append, List.cons_append, List.append_nil, tab43, hN, el]
      refine brW_some (fun h => ?_) (fun h => ?_)
      · have hk' : i + 1 + k < l.length := by simp at h; omega
        have hw2 : IntKind.i64.wrap (((i + 1 + k : Nat) : Int) + 1) = ((i + 1 + (k + 1) : Nat) : Int) := by rw [wr (by omega) (by omega)]; omega
        have vb := okSs_at hs hk'
        have gb := getD_encQs hk'
        obtain ⟨smb, _, _, nb⟩ := vSg_facts vb
        have hcf : crF l ((i : Int), ((i + 1 + k : Nat) : Int)) = if relP (qAt l i) (qAt l (i + 1 + k)) == 2 then [crossQ (qAt l i) (qAt l (i + 1 + k))] else [] := by unfold crF; simp only [Int.toNat_natCast]
        obtain ⟨j, hj⟩ : ∃ j, i + 1 + k = j := ⟨_, rfl⟩
        rw [hj] at hk' gb vb smb nb hcf hst hw2 ⊢
        obtain ⟨s, hsa⟩ : ∃ s, qAt l i = s := ⟨_, rfl⟩
        obtain ⟨t, htb⟩ : ∃ t, qAt l j = t := ⟨_, rfl⟩
        rw [hsa] at ga va sma na hcf
        rw [htb] at gb vb smb nb hcf
        obtain ⟨out, hout⟩ : ∃ out, xF l i k = out := ⟨_, rfl⟩
        rw [hout] at hst hgf hlf ⊢
        cases hr : (relP s t == 2) with
        | false =>
          rw [hcf, hr, if_neg (by decide)] at hst
          simp only [V_seq, V_skip, V_block, V_region, V_draw, V_cond, brW_false, drawW, WS_nil, pairsOf, W_nil, W_cons, effOp2, WI_nil, WI_cons, KN_seq, KN_block, KN_back, dynOK, indB, farB, freshB, heapy, asB, effOp, effPure, effCall, giveUp, hasAll, pureV, binV, partV, eltV, loadV, iaddrV, ofC, strip, lkT, lkH, ISt.app, opI, gO, gB, allB, gval, wrapG, dstOK, setD, mentTm, mentHp, IV.ment, lendV, lendP, lent, lentP, idsV, idsL, lkHS, flat, clean, callArgs, callFn, allLent, Op.operands, Call.operands, List.append_toArray, reduceIte, reduceCtorEq, cond_true, cond_false, Bool.or_false, Bool.and_true, Bool.and_eq_true, Bool.not_true, Bool.not_false, Nat.reduceAdd, Nat.reduceLT, Nat.reduceLeDiff, Nat.reduceEqDiff, Nat.reduceBEq, Nat.zero_add, ne_eq, not_false_eq_true, true_and, and_true, and_false, and_self, implies_true, forall_const, List.map_cons, List.map_nil, List.nil_append, List.cons_append, List.append_nil, List.getD_cons_zero, List.getD_cons_succ, List.length_cons, List.length_nil, List.take_succ_cons, List.take_zero, List.take_nil, List.drop_zero, ex_clo, or_self, tab43, tab47, hN, pe, Int.toNat_natCast, lk_spec_CrossingPoints_spec_relation, sp_spec_relation, el, hw2, ga, gb, sma, smb, hr]
          repeat refine And.intro (by first | omega | (simp; done) | (simp; omega)) ?_
          refine ⟨k + 1, id, by simp only []; omega, by simp only []; omega, ?_⟩
          simp only [hst]
          exact by simp [SLe, SLe0, convTm, convHp, conv, conv0, lkT, lkH, clean]
        | true =>
          have hr2 : relP s t = 2 := by simpa using hr
          rw [hcf, hr, if_pos rfl] at hst
          have hcg := crossQ_good va vb hr2
          obtain ⟨q, hq⟩ : ∃ q, crossQ s t = q := ⟨_, rfl⟩
          rw [hq] at hst hcg
          simp only [V_seq, V_skip, V_block, V_region, V_draw, V_cond, brW_true, drawW, WS_nil, pairsOf, W_nil, W_cons, effOp2, WI_nil, WI_cons, KN_seq, KN_block, KN_back, dynOK, indB, farB, freshB, heapy, asB, effOp, effPure, effCall, giveUp, hasAll, pureV, binV, partV, eltV, loadV, iaddrV, ofC, strip, lkT, lkH, ISt.app, opI, gO, gB, allB, gval, wrapG, dstOK, setD, mentTm, mentHp, IV.ment, IV.mentL, lendV, lendP, lent, lentP, idsV, idsL, lkHS, flat, flatL, clean, cleanL, callArgs, callFn, allLent, Op.operands, Call.operands, List.append_toArray, reduceIte, reduceCtorEq, cond_true, cond_false, Bool.or_false, Bool.and_true, Bool.and_eq_true, Bool.not_true, Bool.not_false, Nat.reduceAdd, Nat.reduceLT, Nat.reduceLeDiff, Nat.reduceEqDiff, Nat.reduceBEq, Nat.zero_add, ne_eq, not_false_eq_true, beq_self_eq_true, true_and, and_true, and_false, and_self, implies_true, forall_const, List.map_cons, List.map_nil, List.nil_append, List.cons_append, List.append_nil, List.getD_cons_zero, List.getD_cons_succ, List.length_cons, List.length_nil, List.take_succ_cons, List.take_zero, List.take_nil, List.drop_zero, ex_clo, or_true, or_self, Bool.false_eq_true, tab43, tab47, hN, pe, Int.toNat_natCast, encQ, isQs_enc, toQs_enc, lk_spec_CrossingPoints_spec_relation, lk_spec_CrossingPoints_spec_crossPoint, lk_spec_CrossingPoints_spec_addRatPoint, sp_spec_relation, sp_spec_crossPoint, sp_spec_addRatPoint, el, hw2, ga, gb, va, vb, sma, smb, hr2, hq, hlf, hcg]
          repeat refine And.intro (by first | omega | (simp; done) | (simp; omega)) ?_
          refine ⟨k + 1, id, by simp only []; omega, by simp only []; omega, ?_⟩
          simp only [hst]
          exact by simp [SLe, SLe0, convTm, convHp, conv, conv0, lkT, lkH, clean]
      · have hke : k = l.length - (i + 1) := by simp at h; omega
        have hfin : xF l i k = (xall (crF l) l.length (i + 1)).foldl addQ [] := by rw [hke]; rfl
        rw [hfin]
        simp only [V_seq, V_ret, V_exit, V_region, W_nil, W_cons, effOp2, KN_seq, KN_block, KN_back, KXr_nil, KXe_nil, KXe_seq, KXe_block, KXe_back, QE, effOp, effPure, pureV, binV, ofC, strip, lkT, lkH, ISt.app, opI, gO, gB, allB, gval, wrapG, dstOK, setD, Gives, Ideal.Fin, conv, conv0, Op.operands, reduceIte, reduceCtorEq, Nat.reduceLT, Nat.reduceEqDiff, true_and, and_self, implies_true, List.nil_append, List.cons_append, List.append_nil, hN, hw]
        exact ⟨i + 1, id, by simp only []; omega, by simp only []; omega, by simp [SLe, SLe0, convTm, convHp, conv, conv0, lkT, lkH, clean]⟩
    · have hie : i = l.length := by simp at h; omega
      subst hie
      simp only [V_seq, V_ret, V_exit, V_region, W_nil, W_cons, effOp2, KN_seq, KXr_nil, KXe_nil, KXe_seq, KXe_block, KXe_back, QE, effOp, effPure, pureV, strip, lkT, lkH, ISt.app, opI, gO, gB, allB, gval, wrapG, dstOK, setD, Gives, Ideal.Fin, conv, conv0, Op.operands, reduceIte, reduceCtorEq, Nat.reduceLT, Nat.reduceEqDiff, and_self, implies_true, List.nil_append, List.cons_append, List.append_nil, hN]
def sp_spec_CrossingPoints : PSpec := ⟨fun xs => match xs with | [.sl 4 les] => isQs les | _ => False, fun xs => match xs with | [.sl _ les] => (fun (l : List Qd) => .sl 4 (encQs (crsV l))) (toQs les) | _ => .junk, false⟩
theorem gk_spec_CrossingPoints : ∀ args, sp_spec_CrossingPoints.pre args → ICall Try.prog 27 args (sp_spec_CrossingPoints.val args) := by
  intro args h
  unfold sp_spec_CrossingPoints at h ⊢; simp only at h ⊢; split at h
  · have h0 := h
    obtain ⟨l0, rfl⟩ := isQ_ex h0
    simp only [toQs_enc] at *
    exact c_spec_CrossingPoints _ 
  · exact h.elim
theorem en_spec_CrossingPoints : Enters Try.prog 27 := enters_of Try.func27 (by kernel_rfl) rfl


def szSegmentV (l : List Qd) (left : Int) : Int := if left < (l.length : Int) then -1 else left - (l.length : Int)
def g_e_excrs_a : List (Nat × PSpec) := [(27, sp_spec_CrossingPoints), (26, sp_impl_CrossingPoints_e)]
theorem gok_e_excrs_a : GOK Try.prog g_e_excrs_a := gok_cons gk_spec_CrossingPoints en_spec_CrossingPoints (gok_consO gk_impl_CrossingPoints_e en_impl_CrossingPoints_e (gok0))
theorem lk_e_excrs_a_spec_CrossingPoints : lkG g_e_excrs_a 27 = sp_spec_CrossingPoints := rfl
theorem lk_e_excrs_a_impl_CrossingPoints_e : lkG g_e_excrs_a 26 = sp_impl_CrossingPoints_e := rfl
def h_e_excrs_a : List (Nat × HSpec) := []
theorem hok_e_excrs_a : HOK Try.prog h_e_excrs_a := hok0
def g_e_excrs_b : List (Nat × PSpec) := [(27, sp_spec_CrossingPoints)]
theorem gok_e_excrs_b : GOK Try.prog g_e_excrs_b := gok_cons gk_spec_CrossingPoints en_spec_CrossingPoints (gok0)
theorem lk_e_excrs_b_spec_CrossingPoints : lkG g_e_excrs_b 27 = sp_spec_CrossingPoints := rfl
def h_e_excrs_b : List (Nat × HSpec) := [(26, hs_impl_CrossingPoints_h)]
theorem hok_e_excrs_b : HOK Try.prog h_e_excrs_b := hok_cons hk_impl_CrossingPoints_h en_impl_CrossingPoints_h (hok0)
theorem lh_e_excrs_b_spec_CrossingPoints : lkHS h_e_excrs_b 27 = none := rfl
theorem lh_e_excrs_b_impl_CrossingPoints_h : lkHS h_e_excrs_b 26 = some hs_impl_CrossingPoints_h := rfl
end Go.Proofs.Ytjlcbomigbolcaa
