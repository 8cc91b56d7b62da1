/- Contracts: crossing points of segments; the exact law on them. -/
import Derived.Test.YtlgjhojihgmfhaaBR
import Derived.Test.YtlgjhojihgmfhaaBU
import Derived.Test.YtlgjhojihgmfhaaBZ
import Derived.Test.YtlgjhojihgmfhaaB17
import Derived.Test.YtlgjhojihgmfhaaPl18
set_option linter.unusedVariables false
set_option linter.unusedSimpArgs false
set_option maxHeartbeats 1600000
set_option maxRecDepth 100000
namespace Go.Proofs.Ytlgjhojihgmfhaa
open Go Go.Ideal Go.Pl Go.Sort

/-- Is a segment valid? -/
def vSg (s : Qd) : Bool := okP s.1 && (okP s.2 && s.1 != s.2)
theorem vSg_facts {s : Qd} (h : vSg s = true) : SmQ s ∧ in9 s.1 ∧ in9 s.2 ∧ s.1 ≠ s.2 := by
  simp only [vSg, Bool.and_eq_true, bne_iff_ne, ne_eq] at h
  refine ⟨⟨okP_sm h.1, okP_sm h.2.1⟩, ?_, ?_, h.2.2⟩
  · simpa only [okP, inR, Bool.and_eq_true, decide_eq_true_eq, in9] using h.1
  · simpa only [okP, inR, Bool.and_eq_true, decide_eq_true_eq, in9] using h.2.1
theorem neP (a b : Pt) : (!(a.1 == b.1 && a.2 == b.2)) = (a != b) := rfl
def g_impl_Segment_valid : List (Nat × PSpec) := [(86, sp_impl_allValid)]
theorem gok_impl_Segment_valid : GOK Try.prog g_impl_Segment_valid := gok_cons gk_impl_allValid en_impl_allValid (gok0)
theorem lk_impl_Segment_valid_impl_allValid : lkG g_impl_Segment_valid 86 = sp_impl_allValid := rfl
def h_impl_Segment_valid : List (Nat × HSpec) := []
theorem hok_impl_Segment_valid : HOK Try.prog h_impl_Segment_valid := hok0
theorem c_impl_Segment_valid (s : Qd)  : ICall Try.prog 151 [encQ s] (.bool (vSg s)) := by
  refine icall_V (G := g_impl_Segment_valid) (H := []) [] tabOK mixed gok_impl_Segment_valid hok_impl_Segment_valid Try.func151 rfl Try.ntmps151 Try.results151 rfl (by kernel_rfl) fun F hN hlen => ?_
  have hv : vSg s = (okP s.1 && (okP s.2 && s.1 != s.2)) := rfl
  cases h1 : okP s.1 with
  | false =>
    rw [h1, Bool.false_and] at hv
    simp only [V_seq, V_ret, V_region, W_nil, W_cons, effOp2, KN_seq, KXr_nil, QE, effOp, effPure, effPick, effNew, effBox, effBuildSlice, effFrz, frz, tmpsOf, effCall, giveUp, hasAll, Option.isSome_some, skipE, pureV, pickV, binV, partV, loadV, faddrV, solid, IV.cells, ofC, strip, lkT, lkH, ISt.app, opI, gO, gB, allB, gval, wrapG, dstOK, setD, mentTm, mentHp, IV.ment, IV.mentL, partsL, eltsI, eltI, oneI, noId', lendV, lendP, lent, lentP, idsV, idsL, lkHS, flat, clean, callArgs, callFn, allLent, enumT, Gives, Ideal.Fin, conv, conv0, IBlk.shape, eqL, numsOnly, Op.operands, reduceIte, reduceCtorEq, cond_true, cond_false, Bool.or_false, Bool.and_true, Bool.false_and, Bool.not_true, Nat.reduceAdd, Nat.reduceMul, Nat.reduceLT, Nat.reduceLeDiff, Nat.reduceEqDiff, Nat.reduceBEq, Nat.add_zero, Nat.zero_add, ne_eq, not_false_eq_true, and_true, and_false, and_self, false_implies, implies_true, List.map_cons, List.map_nil, List.nil_append, List.cons_append, List.append_nil, List.all_cons, List.all_nil, Option.map_some, Option.bind_some, List.getElem?_cons_zero, List.getElem?_cons_succ, List.getD_cons_zero, List.getD_cons_succ, List.length_cons, List.length_nil, List.take_succ_cons, List.take_zero, List.take_nil, List.drop_succ_cons, List.drop_zero, ex_clo, bft, or_self, Bool.false_eq_true, tab35, tab39, tab84, hN, pe, encQ, isPs_nil, toPs_nil, isPs_cons, toPs_cons, lk_impl_Segment_valid_impl_allValid, sp_impl_allValid, h1, hv, List.all_cons, List.all_nil]
  | true =>
    rw [h1, Bool.true_and] at hv
    cases h2 : okP s.2 with
    | false =>
      rw [h2, Bool.false_and] at hv
      simp only [V_seq, V_ret, V_region, W_nil, W_cons, effOp2, KN_seq, KXr_nil, QE, effOp, effPure, effPick, effNew, effBox, effBuildSlice, effFrz, frz, tmpsOf, effCall, giveUp, hasAll, Option.isSome_some, skipE, pureV, pickV, binV, partV, loadV, faddrV, solid, IV.cells, ofC, strip, lkT, lkH, ISt.app, opI, gO, gB, allB, gval, wrapG, dstOK, setD, mentTm, mentHp, IV.ment, IV.mentL, partsL, eltsI, eltI, oneI, noId', lendV, lendP, lent, lentP, idsV, idsL, lkHS, flat, clean, callArgs, callFn, allLent, enumT, Gives, Ideal.Fin, conv, conv0, IBlk.shape, eqL, numsOnly, Op.operands, reduceIte, reduceCtorEq, cond_true, cond_false, Bool.or_false, Bool.and_true, Bool.and_false, Bool.not_true, Nat.reduceAdd, Nat.reduceMul, Nat.reduceLT, Nat.reduceLeDiff, Nat.reduceEqDiff, Nat.reduceBEq, Nat.add_zero, Nat.zero_add, ne_eq, not_false_eq_true, and_true, and_false, and_self, false_implies, implies_true, List.map_cons, List.map_nil, List.nil_append, List.cons_append, List.append_nil, List.all_cons, List.all_nil, Option.map_some, Option.bind_some, List.getElem?_cons_zero, List.getElem?_cons_succ, List.getD_cons_zero, List.getD_cons_succ, List.length_cons, List.length_nil, List.take_succ_cons, List.take_zero, List.take_nil, List.drop_succ_cons, List.drop_zero, ex_clo, bft, or_self, Bool.false_eq_true, tab35, tab39, tab84, hN, pe, encQ, isPs_nil, toPs_nil, isPs_cons, toPs_cons, lk_impl_Segment_valid_impl_allValid, sp_impl_allValid, h1, h2, hv, List.all_cons, List.all_nil]
    | true =>
      rw [h2, Bool.true_and] at hv
      simp only [V_seq, V_ret, V_region, W_nil, W_cons, effOp2, KN_seq, KXr_nil, QE, effOp, effPure, effPick, effNew, effBox, effBuildSlice, effFrz, frz, tmpsOf, effCall, giveUp, hasAll, Option.isSome_some, skipE, pureV, pickV, binV, partV, loadV, faddrV, solid, IV.cells, ofC, strip, lkT, lkH, ISt.app, opI, gO, gB, allB, gval, wrapG, dstOK, setD, mentTm, mentHp, IV.ment, IV.mentL, partsL, eltsI, eltI, oneI, noId', lendV, lendP, lent, lentP, idsV, idsL, lkHS, flat, clean, callArgs, callFn, allLent, enumT, Gives, Ideal.Fin, conv, conv0, IBlk.shape, eqL, numsOnly, Op.operands, reduceIte, reduceCtorEq, cond_true, Bool.or_false, Bool.and_true, Bool.not_true, Nat.reduceAdd, Nat.reduceMul, Nat.reduceLT, Nat.reduceLeDiff, Nat.reduceEqDiff, Nat.reduceBEq, Nat.add_zero, Nat.zero_add, ne_eq, not_false_eq_true, beq_self_eq_true, and_false, and_self, implies_true, List.map_cons, List.map_nil, List.nil_append, List.cons_append, List.append_nil, List.all_cons, List.all_nil, Option.map_some, Option.bind_some, List.getElem?_cons_zero, List.getElem?_cons_succ, List.getD_cons_zero, List.getD_cons_succ, List.length_cons, List.length_nil, List.take_succ_cons, List.take_zero, List.take_nil, List.drop_succ_cons, List.drop_zero, ex_clo, or_self, Bool.true_eq_false, tab35, tab39, tab84, hN, pe, encQ, isPs_nil, toPs_nil, isPs_cons, toPs_cons, lk_impl_Segment_valid_impl_allValid, sp_impl_allValid, h1, h2, hv, neP, List.all_cons, List.all_nil]
def sp_impl_Segment_valid : PSpec := ⟨fun xs => match xs with | [.agg [.num .i64 s1, .num .i64 s2, .num .i64 s3, .num .i64 s4]] => True | _ => False, fun xs => match xs with | [.agg [.num _ s1, .num _ s2, .num _ s3, .num _ s4]] => (fun (s : Qd) => .bool (vSg s)) ((s1, s2), (s3, s4)) | _ => .junk, false⟩
theorem gk_impl_Segment_valid : ∀ args, sp_impl_Segment_valid.pre args → ICall Try.prog 151 args (sp_impl_Segment_valid.val args) := by
  intro args h
  unfold sp_impl_Segment_valid at h ⊢; simp only at h ⊢; split at h
  · exact c_impl_Segment_valid ((_, _), (_, _))
  · exact h.elim
theorem en_impl_Segment_valid : Enters Try.prog 151 := enters_of Try.func151 (by kernel_rfl) rfl

def g_spec_validSegment : List (Nat × PSpec) := [(88, sp_spec_validPoint)]
theorem gok_spec_validSegment : GOK Try.prog g_spec_validSegment := gok_cons gk_spec_validPoint en_spec_validPoint (gok0)
theorem lk_spec_validSegment_spec_validPoint : lkG g_spec_validSegment 88 = sp_spec_validPoint := rfl
def h_spec_validSegment : List (Nat × HSpec) := []
theorem hok_spec_validSegment : HOK Try.prog h_spec_validSegment := hok0
theorem c_spec_validSegment (s : Qd)  : ICall Try.prog 144 [encQ s] (.bool (vSg s)) := by
  refine icall_V (G := g_spec_validSegment) (H := []) [] tabOK mixed gok_spec_validSegment hok_spec_validSegment Try.func144 rfl Try.ntmps144 Try.results144 rfl (by kernel_rfl) fun F hN hlen => ?_
  have hv : vSg s = (okP s.1 && (okP s.2 && s.1 != s.2)) := rfl
  cases h1 : okP s.1 with
  | false =>
    rw [h1, Bool.false_and] at hv
    simp only [V_seq, V_ret, V_region, W_nil, W_cons, effOp2, KN_seq, KXr_nil, QE, effOp, effPure, effPick, effNew, effBox, effCall, giveUp, hasAll, skipE, pureV, pickV, binV, partV, loadV, faddrV, solid, IV.cells, ofC, strip, lkT, lkH, ISt.app, opI, gO, gB, allB, gval, wrapG, dstOK, setD, mentTm, mentHp, IV.ment, IV.mentL, oneI, lendV, lendP, lent, lentP, idsV, idsL, lkHS, flat, clean, callArgs, callFn, allLent, enumT, Gives, Ideal.Fin, conv, conv0, IBlk.shape, eqL, numsOnly, Op.operands, reduceIte, reduceCtorEq, cond_true, cond_false, Bool.or_false, Bool.or_true, Bool.and_true, Bool.not_true, Bool.not_false, Nat.reduceAdd, Nat.reduceLT, Nat.reduceLeDiff, Nat.reduceEqDiff, Nat.add_zero, Nat.zero_add, and_true, and_false, and_self, false_implies, implies_true, List.map_cons, List.map_nil, List.nil_append, List.cons_append, List.append_nil, List.all_cons, List.all_nil, Option.map_some, Option.bind_some, List.getElem?_cons_zero, List.getElem?_cons_succ, List.getD_cons_zero, List.getD_cons_succ, List.length_cons, List.length_nil, List.take_succ_cons, List.take_zero, List.take_nil, List.drop_succ_cons, List.drop_zero, ex_clo, bft, or_self, Bool.false_eq_true, tab35, tab84, hN, pe, encQ, lk_spec_validSegment_spec_validPoint, sp_spec_validPoint, h1, hv]
  | true =>
    rw [h1, Bool.true_and] at hv
    cases h2 : okP s.2 with
    | false =>
      rw [h2, Bool.false_and] at hv
      simp only [V_seq, V_ret, V_region, W_nil, W_cons, effOp2, KN_seq, KXr_nil, QE, effOp, effPure, effPick, effNew, effBox, effCall, giveUp, hasAll, skipE, pureV, pickV, binV, partV, loadV, faddrV, solid, IV.cells, ofC, strip, lkT, lkH, ISt.app, opI, gO, gB, allB, gval, wrapG, dstOK, setD, mentTm, mentHp, IV.ment, IV.mentL, oneI, lendV, lendP, lent, lentP, idsV, idsL, lkHS, flat, clean, callArgs, callFn, allLent, enumT, Gives, Ideal.Fin, conv, conv0, IBlk.shape, eqL, numsOnly, Op.operands, reduceIte, reduceCtorEq, cond_true, cond_false, Bool.or_false, Bool.and_true, Bool.not_true, Nat.reduceAdd, Nat.reduceLT, Nat.reduceLeDiff, Nat.reduceEqDiff, Nat.add_zero, Nat.zero_add, beq_self_eq_true, and_true, and_false, and_self, false_implies, implies_true, List.map_cons, List.map_nil, List.nil_append, List.cons_append, List.append_nil, List.all_cons, List.all_nil, Option.map_some, Option.bind_some, List.getElem?_cons_zero, List.getElem?_cons_succ, List.getD_cons_zero, List.getD_cons_succ, List.length_cons, List.length_nil, List.take_succ_cons, List.take_zero, List.take_nil, List.drop_succ_cons, List.drop_zero, ex_clo, bft, or_self, Bool.true_eq_false, Bool.false_eq_true, tab35, tab84, hN, pe, encQ, lk_spec_validSegment_spec_validPoint, sp_spec_validPoint, h1, h2, hv]
    | true =>
      rw [h2, Bool.true_and] at hv
      simp only [V_seq, V_ret, V_region, W_nil, W_cons, effOp2, KN_seq, KXr_nil, QE, effOp, effPure, effPick, effNew, effBox, effCall, giveUp, hasAll, skipE, pureV, pickV, binV, partV, loadV, faddrV, solid, IV.cells, ofC, strip, lkT, lkH, ISt.app, opI, gO, gB, allB, gval, wrapG, dstOK, setD, mentTm, mentHp, IV.ment, IV.mentL, oneI, lendV, lendP, lent, lentP, idsV, idsL, lkHS, flat, clean, callArgs, callFn, allLent, enumT, Gives, Ideal.Fin, conv, conv0, IBlk.shape, eqL, numsOnly, Op.operands, reduceIte, reduceCtorEq, cond_true, Bool.or_false, Bool.and_true, Bool.not_true, Nat.reduceAdd, Nat.reduceLT, Nat.reduceLeDiff, Nat.reduceEqDiff, Nat.add_zero, Nat.zero_add, beq_self_eq_true, and_false, and_self, implies_true, List.map_cons, List.map_nil, List.nil_append, List.cons_append, List.append_nil, List.all_cons, List.all_nil, Option.map_some, Option.bind_some, List.getElem?_cons_zero, List.getElem?_cons_succ, List.getD_cons_zero, List.getD_cons_succ, List.length_cons, List.length_nil, List.take_succ_cons, List.take_zero, List.take_nil, List.drop_succ_cons, List.drop_zero, ex_clo, or_self, Bool.true_eq_false, tab35, tab84, hN, pe, encQ, lk_spec_validSegment_spec_validPoint, sp_spec_validPoint, h1, h2, hv, neP]
def sp_spec_validSegment : PSpec := ⟨fun xs => match xs with | [.agg [.num .i64 s1, .num .i64 s2, .num .i64 s3, .num .i64 s4]] => True | _ => False, fun xs => match xs with | [.agg [.num _ s1, .num _ s2, .num _ s3, .num _ s4]] => (fun (s : Qd) => .bool (vSg s)) ((s1, s2), (s3, s4)) | _ => .junk, false⟩
theorem gk_spec_validSegment : ∀ args, sp_spec_validSegment.pre args → ICall Try.prog 144 args (sp_spec_validSegment.val args) := by
  intro args h
  unfold sp_spec_validSegment at h ⊢; simp only at h ⊢; split at h
  · exact c_spec_validSegment ((_, _), (_, _))
  · exact h.elim
theorem en_spec_validSegment : Enters Try.prog 144 := enters_of Try.func144 (by kernel_rfl) rfl

def okSs (l : List Qd) : Bool := l.all vSg && decide (l.length ≤ 12)
def g_spec_validSegments : List (Nat × PSpec) := [(144, sp_spec_validSegment)]
theorem gok_spec_validSegments : GOK Try.prog g_spec_validSegments := gok_cons gk_spec_validSegment en_spec_validSegment (gok0)
theorem lk_spec_validSegments_spec_validSegment : lkG g_spec_validSegments 144 = sp_spec_validSegment := rfl
def h_spec_validSegments : List (Nat × HSpec) := []
theorem hok_spec_validSegments : HOK Try.prog h_spec_validSegments := hok0
theorem c_spec_validSegments (l : List Qd)  : ICall Try.prog 71 [.sl 4 (encQs l)] (.bool (okSs l)) := by
  refine icall_V (G := g_spec_validSegments) (H := []) [] tabOK mixed gok_spec_validSegments hok_spec_validSegments Try.func71 rfl Try.ntmps71 Try.results71 rfl (by kernel_rfl) fun F hN hlen => ?_
  have hl := hlen 0 4 _ rfl
  have el := len_encQs l
  rw [el] at hl
  simp only [V_seq, V_block, V_region, W_nil, W_cons, effOp2, KN_seq, effOp, effPure, pureV, ofC, strip, ISt.app, opI, gO, gB, allB, gval, wrapG, dstOK, setD, enumT, Op.operands, Nat.reduceLT, true_and, and_self, implies_true, List.nil_append, List.cons_append, List.append_nil, hN]
  refine V_loop (α := Nat) ⟨tabOK, mixed, gok_spec_validSegments, hok_spec_validSegments⟩ (by kernel_rfl) (fun i => i ≤ l.length ∧ l.all vSg = (l.drop i).all vSg) (fun i => ⟨[(3, .num .i64 i), (0, .sl 4 (encQs l))], []⟩) (fun i => l.length - i) 0 id (by simp) (by simp [SLe, SLe0, convTm, convHp, conv, conv0, lkT, lkH, clean]) ?_
  rintro i ⟨hi, hj⟩
  simp only [V_seq, V_region, V_cond, W_nil, W_cons, effOp2, KN_seq, asB, effOp, effPure, pureV, binV, lenV, strip, lkT, ISt.app, opI, gO, gB, allB, gval, wrapG, dstOK, setD, Op.operands, Call.operands, List.append_toArray, reduceIte, reduceCtorEq, Nat.reduceLT, Nat.reduceEqDiff, ne_eq, not_false_eq_true, true_and, and_self, implies_true, List.nil_append, List.cons_append, List.append_nil, tab26, hN, el]
  refine brW_some (fun h => ?_) (fun h => ?_)
  · have hi' : i < l.length := by simpa using h
    have g1 := getD_encQs hi'
    have hw := wr_succ hi' hl
    have hst := all_step (p := vSg) (d := ((0, 0), (0, 0))) hi'
    simp only [V_seq, V_skip, V_block, V_region, V_cond, W_nil, W_cons, effOp2, KN_seq, asB, effOp, effPure, effCall, giveUp, hasAll, pureV, partV, eltV, loadV, iaddrV, strip, lkT, lkH, ISt.app, opI, gO, gB, allB, gval, wrapG, dstOK, setD, lendV, lendP, lent, lentP, idsV, idsL, lkHS, flat, clean, callArgs, callFn, allLent, Op.operands, reduceIte, reduceCtorEq, cond_true, Bool.or_false, Bool.not_true, Nat.reduceAdd, Nat.reduceLT, Nat.reduceLeDiff, Nat.reduceEqDiff, Nat.zero_add, ne_eq, not_false_eq_true, true_and, and_true, and_false, and_self, implies_true, forall_const, List.map_cons, List.map_nil, List.nil_append, List.cons_append, List.append_nil, List.getD_cons_zero, List.length_cons, List.length_nil, List.take_succ_cons, List.take_nil, List.drop_zero, ex_clo, or_self, tab26, tab84, hN, pe, Int.toNat_natCast, lk_spec_validSegments_spec_validSegment, sp_spec_validSegment, el, Int.toNat_natCast, g1]
    repeat refine And.intro (by omega) ?_
    refine brW_some (fun h => ?_) (fun h => ?_)
    · simp only [V_seq, V_ret, V_region, W_nil, W_cons, effOp2, KN_seq, KXr_nil, KXr_seq, KXr_block, KXr_back, QE, effOp, effPure, pureV, ofC, strip, lkT, lkH, ISt.app, opI, gO, gB, allB, gval, wrapG, dstOK, setD, clean, Gives, Ideal.Fin, conv, conv0, Op.operands, reduceIte, reduceCtorEq, Nat.reduceLT, Nat.reduceEqDiff, true_and, and_true, and_self, implies_true, List.nil_append, List.cons_append, List.append_nil, hN]
      have hq : vSg (qAt l i) = false := by simpa using h
      have : l.all vSg = false := by rw [hj, hst, hq]; rfl
      simp only [okSs, this, Bool.false_and]
    · simp only [V_skip, V_region, W_nil, W_cons, effOp2, KN_seq, KN_block, KN_back, effOp, effPure, pureV, binV, ofC, strip, lkT, ISt.app, opI, gO, gB, allB, gval, wrapG, dstOK, setD, Op.operands, reduceIte, reduceCtorEq, Nat.reduceLT, Nat.reduceEqDiff, true_and, and_self, implies_true, List.nil_append, List.cons_append, List.append_nil, hN, hw]
      have hq : vSg (qAt l i) = true := by simpa using h
      exact ⟨i + 1, id, ⟨by omega, by rw [hj, hst, hq]; rfl⟩, by simp only []; omega, by simp [SLe, SLe0, convTm, convHp, conv, conv0, lkT, lkH, clean]⟩
  · simp only [V_seq, V_ret, V_exit, V_region, W_nil, W_cons, effOp2, KN_seq, KXr_nil, KXe_nil, KXe_seq, KXe_block, KXe_back, QE, effOp, effPure, pureV, binV, lenV, ofC, strip, lkT, lkH, ISt.app, opI, gO, gB, allB, gval, wrapG, dstOK, setD, clean, Gives, Ideal.Fin, conv, conv0, Op.operands, Call.operands, List.append_toArray, reduceIte, reduceCtorEq, Nat.reduceLT, Nat.reduceEqDiff, ne_eq, not_false_eq_true, true_and, and_true, and_self, implies_true, List.nil_append, List.cons_append, List.append_nil, tab26, hN, el]
    have hie : i = l.length := by simp at h; omega
    subst hie
    have : l.all vSg = true := by rw [hj]; simp
    simp only [okSs, this, Bool.true_and]
    simp
    omega
def sp_spec_validSegments : PSpec := ⟨fun xs => match xs with | [.sl 4 les] => isQs les | _ => False, fun xs => match xs with | [.sl _ les] => (fun (l : List Qd) => .bool (okSs l)) (toQs les) | _ => .junk, false⟩
theorem gk_spec_validSegments : ∀ args, sp_spec_validSegments.pre args → ICall Try.prog 71 args (sp_spec_validSegments.val args) := by
  intro args h
  unfold sp_spec_validSegments at h ⊢; simp only at h ⊢; split at h
  · have h0 := h
    obtain ⟨l0, rfl⟩ := isQ_ex h0
    simp only [toQs_enc] at *
    exact c_spec_validSegments _ 
  · exact h.elim
theorem en_spec_validSegments : Enters Try.prog 71 := enters_of Try.func71 (by kernel_rfl) rfl

def g_impl_segmentsOk_1 : List (Nat × PSpec) := [(151, sp_impl_Segment_valid)]
theorem gok_impl_segmentsOk_1 : GOK Try.prog g_impl_segmentsOk_1 := gok_cons gk_impl_Segment_valid en_impl_Segment_valid (gok0)
theorem lk_impl_segmentsOk_1_impl_Segment_valid : lkG g_impl_segmentsOk_1 151 = sp_impl_Segment_valid := rfl
def h_impl_segmentsOk_1 : List (Nat × HSpec) := []
theorem hok_impl_segmentsOk_1 : HOK Try.prog h_impl_segmentsOk_1 := hok0
theorem c_impl_segmentsOk_1 (s : Qd)  : ICall Try.prog 150 [encQ s] (.bool (!vSg s)) := by
  refine icall_V (G := g_impl_segmentsOk_1) (H := []) [] tabOK mixed gok_impl_segmentsOk_1 hok_impl_segmentsOk_1 Try.func150 rfl Try.ntmps150 Try.results150 rfl (by kernel_rfl) fun F hN hlen => ?_
  simp only [V_seq, V_ret, V_region, W_nil, W_cons, effOp2, KN_seq, KXr_nil, QE, effOp, effPure, effNew, effBox, effCall, giveUp, hasAll, skipE, pureV, partV, loadV, solid, IV.cells, ofC, strip, lkT, lkH, ISt.app, opI, gO, gB, allB, gval, wrapG, dstOK, setD, mentTm, mentHp, IV.ment, IV.mentL, oneI, lendV, lendP, lent, lentP, idsV, idsL, lkHS, flat, clean, callArgs, callFn, allLent, enumT, Gives, Ideal.Fin, conv, conv0, Op.operands, reduceIte, reduceCtorEq, cond_true, Bool.or_false, Bool.and_true, Bool.not_true, Nat.reduceAdd, Nat.reduceLT, Nat.reduceLeDiff, Nat.reduceEqDiff, Nat.zero_add, and_false, and_self, implies_true, List.map_cons, List.map_nil, List.nil_append, List.cons_append, List.append_nil, List.all_cons, List.all_nil, List.getD_cons_zero, List.length_cons, List.length_nil, List.take_succ_cons, List.take_nil, List.drop_zero, ex_clo, or_self, tab84, hN, pe, encQ, lk_impl_segmentsOk_1_impl_Segment_valid, sp_impl_Segment_valid]
def sp_impl_segmentsOk_1 : PSpec := ⟨fun xs => match xs with | [.agg [.num .i64 s1, .num .i64 s2, .num .i64 s3, .num .i64 s4]] => True | _ => False, fun xs => match xs with | [.agg [.num _ s1, .num _ s2, .num _ s3, .num _ s4]] => (fun (s : Qd) => .bool (!vSg s)) ((s1, s2), (s3, s4)) | _ => .junk, false⟩
theorem gk_impl_segmentsOk_1 : ∀ args, sp_impl_segmentsOk_1.pre args → ICall Try.prog 150 args (sp_impl_segmentsOk_1.val args) := by
  intro args h
  unfold sp_impl_segmentsOk_1 at h ⊢; simp only at h ⊢; split at h
  · exact c_impl_segmentsOk_1 ((_, _), (_, _))
  · exact h.elim
theorem en_impl_segmentsOk_1 : Enters Try.prog 150 := enters_of Try.func150 (by kernel_rfl) rfl

def g_slices_IndexFunc_impl_Segment_impl_Segment_ok_1 : List (Nat × PSpec) := [(150, sp_impl_segmentsOk_1)]
theorem gok_slices_IndexFunc_impl_Segment_impl_Segment_ok_1 : GOK Try.prog g_slices_IndexFunc_impl_Segment_impl_Segment_ok_1 := gok_cons gk_impl_segmentsOk_1 en_impl_segmentsOk_1 (gok0)
theorem lk_slices_IndexFunc_impl_Segment_impl_Segment_ok_1_impl_segmentsOk_1 : lkG g_slices_IndexFunc_impl_Segment_impl_Segment_ok_1 150 = sp_impl_segmentsOk_1 := rfl
def h_slices_IndexFunc_impl_Segment_impl_Segment_ok_1 : List (Nat × HSpec) := []
theorem hok_slices_IndexFunc_impl_Segment_impl_Segment_ok_1 : HOK Try.prog h_slices_IndexFunc_impl_Segment_impl_Segment_ok_1 := hok0
theorem c_slices_IndexFunc_impl_Segment_impl_Segment_ok_1 (l : List Qd)  : ICall Try.prog 211 [.sl 4 (encQs l), .clo 150 []] (.num .i64 (idxF (fun p => !vSg p) l 0)) := by
  refine icall_V (G := g_slices_IndexFunc_impl_Segment_impl_Segment_ok_1) (H := []) [] tabOK mixed gok_slices_IndexFunc_impl_Segment_impl_Segment_ok_1 hok_slices_IndexFunc_impl_Segment_impl_Segment_ok_1 Try.func211 rfl Try.ntmps211 Try.results211 rfl (by kernel_rfl) fun F hN hlen => ?_
  have hl := hlen 0 4 _ rfl
  have el := len_encQs l
  rw [el] at hl
  simp only [V_seq, V_block, V_region, W_nil, W_cons, effOp2, KN_seq, effOp, effPure, pureV, lenV, ofC, strip, lkT, ISt.app, opI, gO, gB, allB, gval, wrapG, dstOK, setD, enumT, Op.operands, Call.operands, List.append_toArray, reduceIte, reduceCtorEq, Nat.reduceLT, Nat.reduceEqDiff, Nat.zero_add, ne_eq, not_false_eq_true, true_and, and_self, implies_true, List.nil_append, List.cons_append, List.append_nil, tab26, hN, el]
  refine V_loop (α := Nat) ⟨tabOK, mixed, gok_slices_IndexFunc_impl_Segment_impl_Segment_ok_1, hok_slices_IndexFunc_impl_Segment_impl_Segment_ok_1⟩ (by kernel_rfl) (fun i => i ≤ l.length ∧ idxF (fun p => !vSg p) l 0 = idxF (fun p => !vSg p) (l.drop i) i)
    (fun i => ⟨[(8, .num .i64 i), (7, .num .i64 l.length), (0, .sl 4 (encQs l)), (1, .clo 150 [])], []⟩) (fun i => l.length - i) 0 id (by simp) (by simp [SLe, SLe0, convTm, convHp, conv, conv0, convL, lkT, lkH, clean]) ?_
  rintro i ⟨hi, hj⟩
  simp only [V_seq, V_region, V_cond, W_nil, W_cons, effOp2, KN_seq, asB, effOp, effPure, pureV, binV, strip, lkT, ISt.app, opI, gO, gB, allB, gval, wrapG, dstOK, setD, Op.operands, reduceIte, reduceCtorEq, Nat.reduceLT, Nat.reduceEqDiff, true_and, and_self, implies_true, List.nil_append, List.cons_append, List.append_nil, hN]
  refine brW_some (fun h => ?_) (fun h => ?_)
  · have hi' : i < l.length := by simpa using h
    have g1 := getD_encQs hi'
    have hw := wr_succ hi' hl
    have hst := idxF_step (p := fun p => !vSg p) (d := ((0, 0), (0, 0))) hi'
    simp only [V_seq, V_skip, V_block, V_region, V_cond, W_nil, W_cons, effOp2, KN_seq, asB, effOp, effPure, effCall, giveUp, hasAll, pureV, partV, eltV, loadV, iaddrV, strip, lkT, lkH, ISt.app, opI, gO, gB, allB, gval, wrapG, dstOK, setD, lendV, lendP, lent, lentP, idsV, idsL, lkHS, flat, clean, callArgs, callFn, allLent, Op.operands, reduceIte, reduceCtorEq, cond_true, Bool.or_false, Bool.not_true, Nat.reduceAdd, Nat.reduceLT, Nat.reduceLeDiff, Nat.reduceEqDiff, Nat.zero_add, ne_eq, not_false_eq_true, true_and, and_true, and_false, and_self, implies_true, forall_const, List.map_cons, List.map_nil, List.nil_append, List.cons_append, List.append_nil, List.getD_cons_zero, List.length_cons, List.length_nil, List.take_succ_cons, List.take_nil, List.drop_zero, ex_clo, or_self, tab26, tab84, hN, pe, Int.toNat_natCast, lk_slices_IndexFunc_impl_Segment_impl_Segment_ok_1_impl_segmentsOk_1, sp_impl_segmentsOk_1, el, Int.toNat_natCast, g1]
    
    repeat refine And.intro (by omega) ?_
    refine brW_some (fun h => ?_) (fun h => ?_)
    · simp only [V_seq, V_ret, V_region, W_nil, W_cons, effOp2, KN_seq, KXr_nil, KXr_seq, KXr_block, KXr_back, QE, effOp, effPure, pureV, strip, lkT, lkH, ISt.app, opI, gO, gB, allB, gval, wrapG, dstOK, setD, clean, Gives, Ideal.Fin, conv, conv0, Op.operands, reduceIte, reduceCtorEq, Nat.reduceLT, Nat.reduceEqDiff, true_and, and_true, and_self, implies_true, List.nil_append, List.cons_append, List.append_nil, hN]
      have hq : (fun p => !vSg p) (qAt l i) = true := by simpa using h
      rw [hj, hst]
      exact congrArg _ (if_pos hq).symm
    · simp only [V_skip, V_region, W_nil, W_cons, effOp2, KN_seq, KN_block, KN_back, effOp, effPure, pureV, binV, ofC, strip, lkT, ISt.app, opI, gO, gB, allB, gval, wrapG, dstOK, setD, Op.operands, reduceIte, reduceCtorEq, Nat.reduceLT, Nat.reduceEqDiff, true_and, and_self, implies_true, List.nil_append, List.cons_append, List.append_nil, hN, hw]
      have hq : (fun p => !vSg p) (qAt l i) = false := by simpa using h
      exact ⟨i + 1, id, ⟨by omega, hj.trans (hst.trans (if_neg (ne_true_of_eq_false hq)))⟩, by simp only []; omega, by simp [SLe, SLe0, convTm, convHp, conv, conv0, convL, lkT, lkH, clean]⟩
  · simp only [V_seq, V_ret, V_exit, V_region, W_nil, W_cons, effOp2, KN_seq, KXr_nil, KXe_nil, KXe_seq, KXe_block, KXe_back, QE, effOp, effPure, pureV, ofC, strip, lkT, lkH, ISt.app, opI, gO, gB, allB, gval, wrapG, dstOK, setD, clean, Gives, Ideal.Fin, conv, conv0, Op.operands, reduceIte, reduceCtorEq, Nat.reduceLT, Nat.reduceEqDiff, true_and, and_true, and_self, implies_true, List.nil_append, List.cons_append, List.append_nil, hN]
    have hie : i = l.length := by simp at h; omega
    subst hie
    rw [hj]
    simp [idxF]
def sp_slices_IndexFunc_impl_Segment_impl_Segment_ok_1 : PSpec := ⟨fun xs => match xs with | [.sl 4 les, .clo 150 []] => isQs les | _ => False, fun xs => match xs with | [.sl _ les, .clo 150 []] => (fun (l : List Qd) => .num .i64 (idxF (fun p => !vSg p) l 0)) (toQs les) | _ => .junk, false⟩
theorem gk_slices_IndexFunc_impl_Segment_impl_Segment_ok_1 : ∀ args, sp_slices_IndexFunc_impl_Segment_impl_Segment_ok_1.pre args → ICall Try.prog 211 args (sp_slices_IndexFunc_impl_Segment_impl_Segment_ok_1.val args) := by
  intro args h
  unfold sp_slices_IndexFunc_impl_Segment_impl_Segment_ok_1 at h ⊢; simp only at h ⊢; split at h
  · have h0 := h
    obtain ⟨l0, rfl⟩ := isQ_ex h0
    simp only [toQs_enc] at *
    exact c_slices_IndexFunc_impl_Segment_impl_Segment_ok_1 _ 
  · exact h.elim
theorem en_slices_IndexFunc_impl_Segment_impl_Segment_ok_1 : Enters Try.prog 211 := enters_of Try.func211 (by kernel_rfl) rfl

def g_slices_ContainsFunc_impl_Segment_impl_Segment_ok_1 : List (Nat × PSpec) := [(211, sp_slices_IndexFunc_impl_Segment_impl_Segment_ok_1)]
theorem gok_slices_ContainsFunc_impl_Segment_impl_Segment_ok_1 : GOK Try.prog g_slices_ContainsFunc_impl_Segment_impl_Segment_ok_1 := gok_cons gk_slices_IndexFunc_impl_Segment_impl_Segment_ok_1 en_slices_IndexFunc_impl_Segment_impl_Segment_ok_1 (gok0)
theorem lk_slices_ContainsFunc_impl_Segment_impl_Segment_ok_1_slices_IndexFunc_impl_Segment_impl_Segment_ok_1 : lkG g_slices_ContainsFunc_impl_Segment_impl_Segment_ok_1 211 = sp_slices_IndexFunc_impl_Segment_impl_Segment_ok_1 := rfl
def h_slices_ContainsFunc_impl_Segment_impl_Segment_ok_1 : List (Nat × HSpec) := []
theorem hok_slices_ContainsFunc_impl_Segment_impl_Segment_ok_1 : HOK Try.prog h_slices_ContainsFunc_impl_Segment_impl_Segment_ok_1 := hok0
theorem c_slices_ContainsFunc_impl_Segment_impl_Segment_ok_1 (l : List Qd)  : ICall Try.prog 149 [.sl 4 (encQs l), .clo 150 []] (.bool (l.any (fun p => !vSg p))) := by
  refine icall_V (G := g_slices_ContainsFunc_impl_Segment_impl_Segment_ok_1) (H := []) [] tabOK mixed gok_slices_ContainsFunc_impl_Segment_impl_Segment_ok_1 hok_slices_ContainsFunc_impl_Segment_impl_Segment_ok_1 Try.func149 rfl Try.ntmps149 Try.results149 rfl (by kernel_rfl) fun F hN hlen => ?_
  simp only [V_seq, V_ret, V_region, W_nil, W_cons, effOp2, KN_seq, KXr_nil, QE, effOp, effPure, effCall, giveUp, hasAll, pureV, binV, ofC, strip, lkT, lkH, ISt.app, opI, gO, gB, allB, gval, wrapG, dstOK, setD, lendV, lendP, lent, lentP, lentPs, idsV, idsL, lkHS, flat, clean, callArgs, callFn, allLent, enumT, Gives, Ideal.Fin, conv, conv0, Op.operands, reduceIte, reduceCtorEq, cond_true, Bool.or_false, Bool.not_true, Nat.reduceLT, Nat.reduceEqDiff, Nat.zero_add, and_self, implies_true, List.map_cons, List.map_nil, List.nil_append, List.cons_append, List.append_nil, ex_clo, or_self, hN, isQs_enc, toQs_enc, lk_slices_ContainsFunc_impl_Segment_impl_Segment_ok_1_slices_IndexFunc_impl_Segment_impl_Segment_ok_1, sp_slices_IndexFunc_impl_Segment_impl_Segment_ok_1, idxF_sign]
  
def sp_slices_ContainsFunc_impl_Segment_impl_Segment_ok_1 : PSpec := ⟨fun xs => match xs with | [.sl 4 les, .clo 150 []] => isQs les | _ => False, fun xs => match xs with | [.sl _ les, .clo 150 []] => (fun (l : List Qd) => .bool (l.any (fun p => !vSg p))) (toQs les) | _ => .junk, false⟩
theorem gk_slices_ContainsFunc_impl_Segment_impl_Segment_ok_1 : ∀ args, sp_slices_ContainsFunc_impl_Segment_impl_Segment_ok_1.pre args → ICall Try.prog 149 args (sp_slices_ContainsFunc_impl_Segment_impl_Segment_ok_1.val args) := by
  intro args h
  unfold sp_slices_ContainsFunc_impl_Segment_impl_Segment_ok_1 at h ⊢; simp only at h ⊢; split at h
  · have h0 := h
    obtain ⟨l0, rfl⟩ := isQ_ex h0
    simp only [toQs_enc] at *
    exact c_slices_ContainsFunc_impl_Segment_impl_Segment_ok_1 _ 
  · exact h.elim
theorem en_slices_ContainsFunc_impl_Segment_impl_Segment_ok_1 : Enters Try.prog 149 := enters_of Try.func149 (by kernel_rfl) rfl

def g_impl_segmentsOk : List (Nat × PSpec) := [(149, sp_slices_ContainsFunc_impl_Segment_impl_Segment_ok_1)]
theorem gok_impl_segmentsOk : GOK Try.prog g_impl_segmentsOk := gok_cons gk_slices_ContainsFunc_impl_Segment_impl_Segment_ok_1 en_slices_ContainsFunc_impl_Segment_impl_Segment_ok_1 (gok0)
theorem lk_impl_segmentsOk_slices_ContainsFunc_impl_Segment_impl_Segment_ok_1 : lkG g_impl_segmentsOk 149 = sp_slices_ContainsFunc_impl_Segment_impl_Segment_ok_1 := rfl
def h_impl_segmentsOk : List (Nat × HSpec) := []
theorem hok_impl_segmentsOk : HOK Try.prog h_impl_segmentsOk := hok0
theorem c_impl_segmentsOk (l : List Qd)  : ICall Try.prog 76 [.sl 4 (encQs l)] (.bool (okSs l)) := by
  refine icall_V (G := g_impl_segmentsOk) (H := []) [] tabOK mixed gok_impl_segmentsOk hok_impl_segmentsOk Try.func76 rfl Try.ntmps76 Try.results76 rfl (by kernel_rfl) fun F hN hlen => ?_
  have hd : decide ((l.length : Int) ≤ 12) = decide (l.length ≤ 12) := by simp; omega
  have hv : okSs l = (decide (l.length ≤ 12) && !(l.any fun p => !vSg p)) := by rw [okSs, List.all_eq_not_any_not, Bool.and_comm]
  simp only [V_seq, V_ret, V_region, W_nil, W_cons, effOp2, KN_seq, KXr_nil, QE, effOp, effPure, effPick, effCall, giveUp, hasAll, pureV, pickV, binV, lenV, ofC, strip, lkT, lkH, ISt.app, opI, gO, gB, allB, gval, wrapG, dstOK, setD, lendV, lendP, lent, lentP, lentPs, idsV, idsL, lkHS, flat, clean, callArgs, callFn, allLent, enumT, Gives, Ideal.Fin, conv, conv0, Op.operands, Call.operands, List.append_toArray, reduceIte, reduceCtorEq, cond_true, Bool.or_false, Bool.true_or, Nat.reduceLT, Nat.reduceEqDiff, ne_eq, not_false_eq_true, true_and, and_true, and_self, implies_true, forall_const, List.map_cons, List.map_nil, List.nil_append, List.cons_append, List.append_nil, Option.bind_some, List.getElem?_cons_zero, List.getElem?_cons_succ, ex_clo, or_self, tab26, hN, isQs_enc, toQs_enc, lk_impl_segmentsOk_slices_ContainsFunc_impl_Segment_impl_Segment_ok_1, sp_slices_ContainsFunc_impl_Segment_impl_Segment_ok_1, len_encQs, hd, hv]
  cases decide (l.length ≤ 12) <;> simp
def sp_impl_segmentsOk : PSpec := ⟨fun xs => match xs with | [.sl 4 les] => isQs les | _ => False, fun xs => match xs with | [.sl _ les] => (fun (l : List Qd) => .bool (okSs l)) (toQs les) | _ => .junk, false⟩
theorem gk_impl_segmentsOk : ∀ args, sp_impl_segmentsOk.pre args → ICall Try.prog 76 args (sp_impl_segmentsOk.val args) := by
  intro args h
  unfold sp_impl_segmentsOk at h ⊢; simp only at h ⊢; split at h
  · have h0 := h
    obtain ⟨l0, rfl⟩ := isQ_ex h0
    simp only [toQs_enc] at *
    exact c_impl_segmentsOk _ 
  · exact h.elim
theorem en_impl_segmentsOk : Enters Try.prog 76 := enters_of Try.func76 (by kernel_rfl) rfl

theorem okSs_len {l : List Qd} (h : okSs l = true) : l.length ≤ 12 := by
  simp only [okSs, Bool.and_eq_true, decide_eq_true_eq] at h
  exact h.2
theorem okSs_at {l : List Qd} (h : okSs l = true) {i : Nat} (hi : i < l.length) : vSg (qAt l i) = true := by
  simp only [okSs, Bool.and_eq_true, List.all_eq_true] at h
  exact h.1 _ (by rw [qAt, List.getD, List.getElem?_eq_getElem hi]; exact List.getElem_mem hi)

/-- The point in which segments cross. -/
def crossQ (s t : Qd) : Qd := (ratQ (s.1.1 * denX s t + (s.2.1 - s.1.1) * numX s t) (denX s t), ratQ (s.1.2 * denX s t + (s.2.2 - s.1.2) * numX s t) (denX s t))
theorem ratQ_good {n d : Int} (hd : d ≠ 0) (h2 : -20000000 ≤ d ∧ d ≤ 20000000) (hn : -20000000000 ≤ n ∧ n ≤ 20000000000) : okR (ratQ n d) := by
  have hp := sgT_pos hd
  have b1 := sgT_bd (s := decide (d < 0)) h2
  have b2 := sgT_bd (s := decide (d < 0)) hn
  exact red_good hp b1.2 b2
theorem crossQ_good {s t : Qd} (hs : vSg s = true) (ht : vSg t = true) (h : relP s t = 2) : goodQ (crossQ s t) := by
  obtain ⟨_, s1, s2, _⟩ := vSg_facts hs
  obtain ⟨_, t1, t2, _⟩ := vSg_facts ht
  obtain ⟨h0, hd, hn, hx, hy⟩ := cross_nums s1 s2 t1 t2 h
  exact ⟨ratQ_good h0 (by omega) hx, ratQ_good h0 (by omega) hy⟩
def g_spec_crossPoint : List (Nat × PSpec) := [(89, sp_spec_cross), (148, sp_spec_ratio)]
theorem gok_spec_crossPoint : GOK Try.prog g_spec_crossPoint := gok_cons gk_spec_cross en_spec_cross (gok_cons gk_spec_ratio en_spec_ratio (gok0))
theorem lk_spec_crossPoint_spec_cross : lkG g_spec_crossPoint 89 = sp_spec_cross := rfl
theorem lk_spec_crossPoint_spec_ratio : lkG g_spec_crossPoint 148 = sp_spec_ratio := rfl
def h_spec_crossPoint : List (Nat × HSpec) := []
theorem hok_spec_crossPoint : HOK Try.prog h_spec_crossPoint := hok0
theorem c_spec_crossPoint (s : Qd) (t : Qd) (hs : vSg s = true) (ht : vSg t = true) (h : relP s t = 2) : ICall Try.prog 74 [encQ s, encQ t] (encQ (crossQ s t)) := by
  refine icall_of_hcall (v := encQ (crossQ s t)) (hp' := []) id ?_ (by simp [SLe0, convTm, convHp, conv, convL, conv0, lkT, clean, encQ]) (by simp [idsV, idsL, encQ])
  refine hcall_V (G := g_spec_crossPoint) (H := []) [(3, [(0, 16), (1, 16), (2, 16), (3, 16), (4, 16), (5, 16), (6, 16), (7, 16), (8, 16), (9, 16), (10, 16), (11, 16), (12, 16), (13, 16), (16, 17), (16, 18), (16, 19), (16, 20), (16, 21), (16, 22), (16, 23), (16, 24), (16, 25), (16, 26), (16, 27), (16, 28), (16, 29), (16, 30), (16, 31), (16, 32), (0, 33), (1, 33), (2, 33), (3, 33), (4, 33), (5, 33), (6, 33), (7, 33), (8, 33), (9, 33), (10, 33), (11, 33), (12, 33), (13, 33), (14, 33), (15, 33), (17, 33), (18, 33), (19, 33), (20, 33), (21, 33), (22, 33), (23, 33), (24, 33), (25, 33), (26, 33), (27, 33), (28, 33), (29, 33), (30, 33)])] tabOK mixed gok_spec_crossPoint hok_spec_crossPoint Try.func74 rfl Try.ntmps74 Try.results74 rfl (by kernel_rfl) fun F hN hlen => ?_
  obtain ⟨sm1, s1, s2, _⟩ := vSg_facts hs
  obtain ⟨sm2, t1, t2, _⟩ := vSg_facts ht
  obtain ⟨h0, hd, hn, hx, hy⟩ := cross_nums s1 s2 t1 t2 h
  have b2 := Go.Pl.turn_bd t1 t2 s2
  have e1 : turn t.1 t.2 s.1 = numX s t := rfl
  have w1 : IntKind.i64.wrap (numX s t - turn t.1 t.2 s.2) = denX s t := wr (by omega) (by omega)
  have v1 := s1
  have v2 := s2
  unfold in9 at v1 v2
  have m1 := mulB (A := 1000) (B := 16000000) (x := s.1.1) (y := denX s t) (by omega) (by omega)
  have m2 := mulB (A := 2000) (B := 8000000) (x := s.2.1 - s.1.1) (y := numX s t) (by omega) (by omega)
  have m3 := mulB (A := 1000) (B := 16000000) (x := s.1.2) (y := denX s t) (by omega) (by omega)
  have m4 := mulB (A := 2000) (B := 8000000) (x := s.2.2 - s.1.2) (y := numX s t) (by omega) (by omega)
  have w2 : IntKind.i64.wrap (s.1.1 * denX s t) = s.1.1 * denX s t := wr (by omega) (by omega)
  have w3 : IntKind.i64.wrap (s.2.1 - s.1.1) = s.2.1 - s.1.1 := wr (by omega) (by omega)
  have w4 : IntKind.i64.wrap ((s.2.1 - s.1.1) * numX s t) = (s.2.1 - s.1.1) * numX s t := wr (by omega) (by omega)
  have w5 : IntKind.i64.wrap (s.1.1 * denX s t + (s.2.1 - s.1.1) * numX s t) = s.1.1 * denX s t + (s.2.1 - s.1.1) * numX s t := wr (by omega) (by omega)
  have w6 : IntKind.i64.wrap (s.1.2 * denX s t) = s.1.2 * denX s t := wr (by omega) (by omega)
  have w7 : IntKind.i64.wrap (s.2.2 - s.1.2) = s.2.2 - s.1.2 := wr (by omega) (by omega)
  have w8 : IntKind.i64.wrap ((s.2.2 - s.1.2) * numX s t) = (s.2.2 - s.1.2) * numX s t := wr (by omega) (by omega)
  have w9 : IntKind.i64.wrap (s.1.2 * denX s t + (s.2.2 - s.1.2) * numX s t) = s.1.2 * denX s t + (s.2.2 - s.1.2) * numX s t := wr (by omega) (by omega)
  have hd2 : -20000000 ≤ denX s t ∧ denX s t ≤ 20000000 := by omega
  have a1 := sm1.1
  have a2 := sm1.2
  have a3 := sm2.1
  have a4 := sm2.2
  simp only [V_seq, V_ret, V_region, V_draw, drawW, WS_nil, pairsOf, W_nil, W_cons, effOp2, WI_nil, WI_cons, KN_seq, KXr_nil, QE, dynOK, indB, farB, freshB, heapy, effOp, effPure, effNew, effAlloc, effBox, effStore, effCall, giveUp, hasAll, skipE, pureV, storeV, binV, partV, loadV, faddrV, over, solid, buildL, IV.cells, ofC, strip, lkT, lkH, ISt.app, opI, gO, gB, allB, gval, wrapG, dstOK, setD, mentTm, mentHp, IV.ment, IV.mentL, oneI, lendV, lendP, lent, lentP, idsV, idsL, lkHS, flat, flatL, clean, cleanL, callArgs, callFn, allLent, enumT, conv, conv0, convL, IBlk.shape, Op.operands, Call.operands, List.append_toArray, reduceIte, reduceCtorEq, cond_true, cond_false, Bool.or_false, Bool.and_true, Bool.and_eq_true, Bool.not_true, Bool.not_false, Nat.reduceAdd, Nat.reduceLT, Nat.reduceLeDiff, Nat.reduceEqDiff, Nat.reduceBEq, Nat.add_zero, Nat.zero_add, ne_eq, not_false_eq_true, true_and, and_true, and_false, and_self, implies_true, List.map_cons, List.map_nil, List.nil_append, List.cons_append, List.append_nil, List.all_cons, List.all_nil, Option.map_some, List.getD_cons_zero, List.getD_cons_succ, List.length_cons, List.length_nil, List.take_succ_cons, List.take_zero, List.take_nil, List.drop_succ_cons, List.drop_zero, List.drop_nil, ex_clo, or_self, tab3, tab35, tab55, tab84, hN, pe, encP, encQ, FinH, resA, resV, SLe, SLe0, convTm, convHp, lk_spec_crossPoint_spec_cross, lk_spec_crossPoint_spec_ratio, sp_spec_cross, sp_spec_ratio, a1, a2, a3, a4, e1, w1, w2, w3, w4, w5, w6, w7, w8, w9, h0, hd2, hx, hy]
  exact ⟨id, ⟨⟨rfl, rfl, rfl, rfl⟩, List.nodup_nil⟩, fun _ _ _ => rfl⟩
def sp_spec_crossPoint : PSpec := ⟨fun xs => match xs with | [.agg [.num .i64 s1, .num .i64 s2, .num .i64 s3, .num .i64 s4], .agg [.num .i64 t1, .num .i64 t2, .num .i64 t3, .num .i64 t4]] => ((fun (s : Qd) (t : Qd) => vSg s = true) ((s1, s2), (s3, s4)) ((t1, t2), (t3, t4))) ∧ ((fun (s : Qd) (t : Qd) => vSg t = true) ((s1, s2), (s3, s4)) ((t1, t2), (t3, t4))) ∧ ((fun (s : Qd) (t : Qd) => relP s t = 2) ((s1, s2), (s3, s4)) ((t1, t2), (t3, t4))) | _ => False, fun xs => match xs with | [.agg [.num _ s1, .num _ s2, .num _ s3, .num _ s4], .agg [.num _ t1, .num _ t2, .num _ t3, .num _ t4]] => (fun (s : Qd) (t : Qd) => encQ (crossQ s t)) ((s1, s2), (s3, s4)) ((t1, t2), (t3, t4)) | _ => .junk, false⟩
theorem gk_spec_crossPoint : ∀ args, sp_spec_crossPoint.pre args → ICall Try.prog 74 args (sp_spec_crossPoint.val args) := by
  intro args h
  unfold sp_spec_crossPoint at h ⊢; simp only at h ⊢; split at h
  · obtain ⟨h0, h1, h2⟩ := h
    simp only [toPs_enc] at *
    exact c_spec_crossPoint ((_, _), (_, _)) ((_, _), (_, _)) h0 h1 h2
  · exact h.elim
theorem en_spec_crossPoint : Enters Try.prog 74 := enters_of Try.func74 (by kernel_rfl) rfl

def g_impl_meet : List (Nat × PSpec) := [(152, sp_impl_common), (154, sp_impl_Point_minus), (155, sp_impl_Point_cross), (156, sp_impl_reduced)]
theorem gok_impl_meet : GOK Try.prog g_impl_meet := gok_cons gk_impl_common en_impl_common (gok_cons gk_impl_Point_minus en_impl_Point_minus (gok_cons gk_impl_Point_cross en_impl_Point_cross (gok_cons gk_impl_reduced en_impl_reduced (gok0))))
theorem lk_impl_meet_impl_common : lkG g_impl_meet 152 = sp_impl_common := rfl
theorem lk_impl_meet_impl_Point_minus : lkG g_impl_meet 154 = sp_impl_Point_minus := rfl
theorem lk_impl_meet_impl_Point_cross : lkG g_impl_meet 155 = sp_impl_Point_cross := rfl
theorem lk_impl_meet_impl_reduced : lkG g_impl_meet 156 = sp_impl_reduced := rfl
def h_impl_meet : List (Nat × HSpec) := []
theorem hok_impl_meet : HOK Try.prog h_impl_meet := hok0
theorem c_impl_meet (s : Qd) (t : Qd) (hs : vSg s = true) (ht : vSg t = true) (h : relP s t = 2) : ICall Try.prog 79 [encQ s, encQ t] (encQ (crossQ s t)) := by
  refine icall_of_hcall (v := encQ (crossQ s t)) (hp' := []) id ?_ (by simp [SLe0, convTm, convHp, conv, convL, conv0, lkT, clean, encQ]) (by simp [idsV, idsL, encQ])
  refine hcall_V (G := g_impl_meet) (H := []) [(4, [(0, 4), (2, 4), (4, 5), (4, 6), (4, 7), (4, 8), (0, 9), (1, 9), (2, 9), (3, 9), (5, 9), (7, 9), (0, 10), (1, 10), (2, 10), (3, 10), (4, 10), (5, 10), (6, 10), (7, 10), (8, 10), (9, 10), (0, 11), (1, 11), (2, 11), (3, 11), (4, 11), (5, 11), (6, 11), (7, 11), (8, 11), (9, 11), (10, 11), (5, 12), (6, 12), (7, 12), (8, 12)]), (6, [(0, 4), (2, 4), (4, 5), (0, 6), (1, 6), (2, 6), (3, 6)]), (7, [(0, 11), (1, 11), (2, 11), (3, 11), (4, 11), (5, 11), (6, 11), (7, 11), (8, 11), (11, 12), (11, 13), (11, 14), (11, 15), (11, 16), (11, 17), (11, 18), (11, 19), (11, 20), (11, 21), (11, 22), (0, 23), (1, 23), (2, 23), (3, 23), (4, 23), (5, 23), (6, 23), (7, 23), (8, 23), (9, 23), (10, 23), (12, 23), (13, 23), (14, 23), (15, 23), (16, 23), (17, 23), (18, 23), (19, 23), (20, 23)])] tabOK mixed gok_impl_meet hok_impl_meet Try.func79 rfl Try.ntmps79 Try.results79 rfl (by kernel_rfl) fun F hN hlen => ?_
  obtain ⟨sm1, s1, s2, ns⟩ := vSg_facts hs
  obtain ⟨sm2, t1, t2, nt⟩ := vSg_facts ht
  obtain ⟨h0, hd, hn, hx, hy⟩ := cross_nums s1 s2 t1 t2 h
  have z0 : decide ((0 : Int) < ((0 : Nat) : Int)) = false := rfl
  have hc : comP s t = [] := List.length_eq_zero_iff.1 ((com_ends ns nt).trans (rel_two h).1)
  have e0 : encPs [] = [] := rfl
  have v1 := s1
  have v2 := s2
  have v3 := t1
  have v4 := t2
  unfold in9 at v1 v2 v3 v4
  have m1 := mulB (A := 1000) (B := 16000000) (x := s.1.1) (y := denX s t) (by omega) (by omega)
  have m2 := mulB (A := 2000) (B := 8000000) (x := s.2.1 - s.1.1) (y := numX s t) (by omega) (by omega)
  have m3 := mulB (A := 1000) (B := 16000000) (x := s.1.2) (y := denX s t) (by omega) (by omega)
  have m4 := mulB (A := 2000) (B := 8000000) (x := s.2.2 - s.1.2) (y := numX s t) (by omega) (by omega)
  have c1 : ∀ x : Int, numX s t * x = x * numX s t := fun x => Int.mul_comm _ _
  have w2 : IntKind.i64.wrap (s.1.1 * denX s t) = s.1.1 * denX s t := wr (by omega) (by omega)
  have w4 : IntKind.i64.wrap (numX s t * (s.2.1 - s.1.1)) = (s.2.1 - s.1.1) * numX s t := by rw [c1]; exact wr (by omega) (by omega)
  have w5 : IntKind.i64.wrap (s.1.1 * denX s t + (s.2.1 - s.1.1) * numX s t) = s.1.1 * denX s t + (s.2.1 - s.1.1) * numX s t := wr (by omega) (by omega)
  have w6 : IntKind.i64.wrap (s.1.2 * denX s t) = s.1.2 * denX s t := wr (by omega) (by omega)
  have w8 : IntKind.i64.wrap (numX s t * (s.2.2 - s.1.2)) = (s.2.2 - s.1.2) * numX s t := by rw [c1]; exact wr (by omega) (by omega)
  have w9 : IntKind.i64.wrap (s.1.2 * denX s t + (s.2.2 - s.1.2) * numX s t) = s.1.2 * denX s t + (s.2.2 - s.1.2) * numX s t := wr (by omega) (by omega)
  have hd2 : -20000000 ≤ denX s t ∧ denX s t ≤ 20000000 := by omega
  have k1 : crossP (s.2.1 - s.1.1, s.2.2 - s.1.2) (t.2.1 - t.1.1, t.2.2 - t.1.2) = denX s t := by unfold crossP denX numX turn; grind
  have k2 : crossP (t.1.1 - s.1.1, t.1.2 - s.1.2) (t.2.1 - t.1.1, t.2.2 - t.1.2) = numX s t := by unfold crossP numX turn; grind
  have y1 := mulB (A := 2000) (B := 2000) (x := s.2.1 - s.1.1) (y := t.2.2 - t.1.2) (by omega) (by omega)
  have y2 := mulB (A := 2000) (B := 2000) (x := s.2.2 - s.1.2) (y := t.2.1 - t.1.1) (by omega) (by omega)
  have y3 := mulB (A := 2000) (B := 2000) (x := t.1.1 - s.1.1) (y := t.2.2 - t.1.2) (by omega) (by omega)
  have y4 := mulB (A := 2000) (B := 2000) (x := t.1.2 - s.1.2) (y := t.2.1 - t.1.1) (by omega) (by omega)
  have o1 : -4611686018427387904 < s.2.1 - s.1.1 ∧ s.2.1 - s.1.1 < 4611686018427387904 := by omega
  have o2 : -4611686018427387904 < s.2.2 - s.1.2 ∧ s.2.2 - s.1.2 < 4611686018427387904 := by omega
  have o3 : -4611686018427387904 < t.2.1 - t.1.1 ∧ t.2.1 - t.1.1 < 4611686018427387904 := by omega
  have o4 : -4611686018427387904 < t.2.2 - t.1.2 ∧ t.2.2 - t.1.2 < 4611686018427387904 := by omega
  have o5 : -4611686018427387904 < t.1.1 - s.1.1 ∧ t.1.1 - s.1.1 < 4611686018427387904 := by omega
  have o6 : -4611686018427387904 < t.1.2 - s.1.2 ∧ t.1.2 - s.1.2 < 4611686018427387904 := by omega
  have o7 : -4611686018427387904 < (s.2.1 - s.1.1) * (t.2.2 - t.1.2) ∧ (s.2.1 - s.1.1) * (t.2.2 - t.1.2) < 4611686018427387904 := by omega
  have o8 : -4611686018427387904 < (s.2.2 - s.1.2) * (t.2.1 - t.1.1) ∧ (s.2.2 - s.1.2) * (t.2.1 - t.1.1) < 4611686018427387904 := by omega
  have o9 : -4611686018427387904 < (t.1.1 - s.1.1) * (t.2.2 - t.1.2) ∧ (t.1.1 - s.1.1) * (t.2.2 - t.1.2) < 4611686018427387904 := by omega
  have o10 : -4611686018427387904 < (t.1.2 - s.1.2) * (t.2.1 - t.1.1) ∧ (t.1.2 - s.1.2) * (t.2.1 - t.1.1) < 4611686018427387904 := by omega
  simp only [V_seq, V_skip, V_ret, V_region, V_draw, V_cond, brW_false, drawW, WS_nil, pairsOf, W_nil, W_cons, effOp2, WI_nil, WI_cons, KN_seq, KXr_nil, QE, dynOK, indB, farB, seeB, see, isStore, freshB, heapy, asB, effOp, effPure, effNew, effAlloc, effBox, effStore, effCall, giveUp, hasAll, skipE, pureV, storeV, binV, partV, loadV, faddrV, lenV, over, solid, buildL, IV.cells, ofC, strip, lkT, lkH, ISt.app, opI, gO, gB, allB, gval, wrapG, dstOK, setD, mentTm, mentHp, IV.ment, IV.mentL, oneI, lendV, lendP, lent, lentP, idsV, idsL, lkHS, flat, flatL, clean, cleanL, callArgs, callFn, allLent, enumT, conv, conv0, convL, IBlk.shape, Op.operands, Call.operands, List.append_toArray, reduceIte, reduceCtorEq, cond_true, cond_false, Bool.or_false, Bool.or_true, Bool.and_true, Bool.and_false, Bool.and_eq_true, Bool.not_true, Bool.not_false, Nat.reduceAdd, Nat.reduceLT, Nat.reduceLeDiff, Nat.reduceEqDiff, Nat.reduceBEq, Nat.add_zero, Nat.zero_add, ne_eq, not_false_eq_true, beq_self_eq_true, true_and, and_true, and_false, and_self, implies_true, List.map_cons, List.map_nil, List.nil_append, List.cons_append, List.append_nil, List.all_cons, List.all_nil, Option.map_some, List.getD_cons_zero, List.getD_cons_succ, List.length_cons, List.length_nil, List.take_succ_cons, List.take_zero, List.take_nil, List.drop_succ_cons, List.drop_zero, List.drop_nil, ex_clo, or_true, or_self, Bool.false_eq_true, tab3, tab35, tab39, tab55, tab84, hN, pe, encP, encQ, FinH, resA, resV, SLe, SLe0, convTm, convHp, lk_impl_meet_impl_common, lk_impl_meet_impl_Point_minus, lk_impl_meet_impl_Point_cross, lk_impl_meet_impl_reduced, sp_impl_common, sp_impl_Point_minus, sp_impl_Point_cross, sp_impl_reduced, sm1, sm2, hc, e0, wayP, o1, o2, o3, o4, o5, o6, o7, o8, o9, o10, k1, k2, w2, w4, w5, w6, w8, w9, h0, hd2, hx, hy, z0]
  exact ⟨id, ⟨⟨rfl, rfl, rfl, rfl⟩, List.nodup_nil⟩, fun _ _ _ => rfl⟩
def sp_impl_meet : PSpec := ⟨fun xs => match xs with | [.agg [.num .i64 s1, .num .i64 s2, .num .i64 s3, .num .i64 s4], .agg [.num .i64 t1, .num .i64 t2, .num .i64 t3, .num .i64 t4]] => ((fun (s : Qd) (t : Qd) => vSg s = true) ((s1, s2), (s3, s4)) ((t1, t2), (t3, t4))) ∧ ((fun (s : Qd) (t : Qd) => vSg t = true) ((s1, s2), (s3, s4)) ((t1, t2), (t3, t4))) ∧ ((fun (s : Qd) (t : Qd) => relP s t = 2) ((s1, s2), (s3, s4)) ((t1, t2), (t3, t4))) | _ => False, fun xs => match xs with | [.agg [.num _ s1, .num _ s2, .num _ s3, .num _ s4], .agg [.num _ t1, .num _ t2, .num _ t3, .num _ t4]] => (fun (s : Qd) (t : Qd) => encQ (crossQ s t)) ((s1, s2), (s3, s4)) ((t1, t2), (t3, t4)) | _ => .junk, false⟩
theorem gk_impl_meet : ∀ args, sp_impl_meet.pre args → ICall Try.prog 79 args (sp_impl_meet.val args) := by
  intro args h
  unfold sp_impl_meet at h ⊢; simp only at h ⊢; split at h
  · obtain ⟨h0, h1, h2⟩ := h
    simp only [toPs_enc] at *
    exact c_impl_meet ((_, _), (_, _)) ((_, _), (_, _)) h0 h1 h2
  · exact h.elim
theorem en_impl_meet : Enters Try.prog 79 := enters_of Try.func79 (by kernel_rfl) rfl


def g_impl_pairs : List (Nat × PSpec) := []
theorem gok_impl_pairs : GOK Try.prog g_impl_pairs := gok0
def h_impl_pairs : List (Nat × HSpec) := []
theorem hok_impl_pairs : HOK Try.prog h_impl_pairs := hok0
theorem c_impl_pairs (n : Int) (h0 : 0 ≤ n) (h1 : n ≤ 1000) : ICall Try.prog 77 [.num .i64 n] (.sl 2 (encPs (prs n.toNat n.toNat))) := by
  refine icall_V (G := g_impl_pairs) (H := []) [] tabOK mixed gok_impl_pairs hok_impl_pairs Try.func77 rfl Try.ntmps77 Try.results77 rfl (by kernel_rfl) fun F hN hlen => ?_
  obtain ⟨m, rfl⟩ : ∃ m : Nat, n = m := ⟨n.toNat, by omega⟩
  rw [Int.toNat_natCast]
  simp only [V_seq, V_block, V_region, W_nil, W_cons, effOp2, KN_seq, effOp, effPure, effNew, effBuildSlice, effFrz, frz, tmpsOf, skipE, pureV, ofC, strip, lkT, ISt.app, opI, gO, gB, allB, gval, wrapG, dstOK, setD, mentTm, mentHp, IV.ment, partsL, eltsI, enumT, Op.operands, reduceIte, reduceCtorEq, cond_true, Bool.or_false, Nat.reduceMul, Nat.reduceLT, Nat.reduceLeDiff, Nat.reduceEqDiff, ne_eq, not_false_eq_true, true_and, and_self, implies_true, List.nil_append, List.cons_append, List.append_nil, List.length_nil, tab91, tab94, hN]
  refine V_loop (α := Nat) ⟨tabOK, mixed, gok_impl_pairs, hok_impl_pairs⟩ (by kernel_rfl) (fun i => i ≤ m) (fun i => ⟨[(8, .num .i64 i), (7, .num .i64 m), (3, .ref 6 0 (prs m i).length true), (0, .num .i64 m)], [(6, some (.arr 2 94 (encPs (prs m i))))]⟩) (fun i => m - i) 0 id (Nat.zero_le _) (by simp [SLe, SLe0, convTm, convHp, convB, conv, conv0, lkT, lkH, clean, prs, encPs]) ?_
  intro i hi
  simp only [V_seq, V_region, V_cond, W_nil, W_cons, effOp2, KN_seq, asB, effOp, effPure, pureV, binV, strip, lkT, ISt.app, opI, gO, gB, allB, gval, wrapG, dstOK, setD, Op.operands, reduceIte, reduceCtorEq, Nat.reduceLT, Nat.reduceEqDiff, true_and, and_self, implies_true, List.nil_append, List.cons_append, hN]
  refine brW_some (fun h => ?_) (fun h => ?_)
  · have hi' : i < m := by simpa using h
    have hw := wr_succ hi' (by rw [maxLen_eq]; omega)
    have hp0 := prs_len m i
    have hmi : m * i ≤ 1000 * 1000 := Nat.mul_le_mul (by omega) (by omega)
    simp only [V_seq, V_skip, V_block, V_region, W_nil, W_cons, effOp2, KN_seq, effOp, effPure, pureV, binV, ofC, strip, lkT, ISt.app, opI, gO, gB, allB, gval, wrapG, dstOK, setD, Op.operands, reduceIte, reduceCtorEq, Nat.reduceLT, Nat.reduceEqDiff, true_and, and_self, implies_true, List.nil_append, List.cons_append, hN, hw]
    refine V_loop (α := Nat) ⟨tabOK, mixed, gok_impl_pairs, hok_impl_pairs⟩ (by kernel_rfl) (fun k => k ≤ m - (i + 1)) (fun k => ⟨[(5, .num .i64 ((i + 1 + k : Nat) : Int)), (4, .num .i64 i), (8, .num .i64 i), (7, .num .i64 m), (3, .ref 6 0 (prs m i ++ prow i k).length true), (0, .num .i64 m)], [(6, some (.arr 2 94 (encPs (prs m i ++ prow i k))))]⟩) (fun k => m - k) 0 id (Nat.zero_le _) (by simp [SLe, SLe0, convTm, convHp, convB, conv, conv0, lkT, lkH, clean, prow, encPs]; exact (List.take_of_length_le (by simp)).symm) ?_
    intro k hk
    have eo := len_encPs (prs m i ++ prow i k)
    have hx : ∃ k' ty es, IBlk.arr 2 94 (encPs (prs m i ++ prow i k)) = IBlk.arr k' ty es := ⟨_, _, _, rfl⟩
    have hst : prs m i ++ prow i (k + 1) = (prs m i ++ prow i k) ++ [((i : Int), ((i + 1 + k : Nat) : Int))] := by rw [prow_succ, List.append_assoc]
    have hle : (prs m i ++ prow i k).length ≤ 2000000 := by rw [List.length_append, prow_len]; omega
    have hfin : prs m (i + 1) = prs m i ++ prow i (m - (i + 1)) := rfl
    simp only [V_seq, V_region, V_cond, W_nil, W_cons, effOp2, KN_seq, asB, effOp, effPure, pureV, binV, strip, lkT, ISt.app, opI, gO, gB, allB, gval, wrapG, dstOK, setD, Op.operands, reduceIte, reduceCtorEq, Nat.reduceLT, Nat.reduceEqDiff, true_and, and_self, implies_true, List.nil_append, List.cons_append, hN]
    refine brW_some (fun h => ?_) (fun h => ?_)
    · have hk' : i + 1 + k < m := by simp at h; omega
      have hw2 : IntKind.i64.wrap (((i + 1 + k : Nat) : Int) + 1) = ((i + 1 + (k + 1) : Nat) : Int) := by rw [wr (by omega) (by omega)]; omega
      obtain ⟨out, hout⟩ : ∃ out, prs m i ++ prow i k = out := ⟨_, rfl⟩
      rw [hout] at eo hx hst hle ⊢
      simp only [V_seq, V_skip, V_block, V_region, W_nil, W_cons, effOp2, KN_seq, KN_block, KN_back, effOp, effPure, effNew, effBuildSlice, effFrz, frz, tmpsOf, effAppend, effZeros, skipE, pureV, srcV, refId, binV, over, solid, buildL, IV.cells, ofC, strip, lkT, lkH, ISt.app, opI, gO, gB, allB, gval, wrapG, dstOK, setD, mentTm, mentHp, IV.ment, IV.mentL, partsL, eltsI, eltI, oneI, noId', Op.operands, reduceIte, reduceCtorEq, cond_true, Bool.or_false, Bool.and_true, Nat.reduceAdd, Nat.reduceMul, Nat.reduceLT, Nat.reduceLeDiff, Nat.reduceEqDiff, Nat.reduceBEq, Nat.zero_add, ne_eq, not_false_eq_true, true_and, and_true, and_self, implies_true, List.map_cons, List.map_nil, List.nil_append, List.cons_append, List.append_nil, List.all_cons, List.all_nil, Option.some.injEq, List.getD_cons_zero, List.getD_cons_succ, List.length_cons, List.length_nil, List.take_succ_cons, List.take_zero, List.take_nil, List.drop_succ_cons, List.drop_zero, List.drop_nil, tab91, tab94, hN, hw2, eo]
      repeat refine And.intro (by first | omega | (simp; done) | (simp; omega)) ?_
      refine ⟨k + 1, fun x => if x = 6 then 23 else x, by simp only []; omega, by simp only []; omega, ?_⟩
      have hen : encPs (out ++ [((i : Int), ((i + 1 + k : Nat) : Int))]) = (encPs out).take out.length ++ [IV.agg [.num .i64 (i : Int), .num .i64 ((i + 1 + k : Nat) : Int)]] := by
        rw [← encPs_app, List.take_of_length_le (Nat.le_of_eq eo)]; rfl
      simp only [hst, hen, List.length_append]
      simp [SLe, SLe0, convTm, convHp, convB, conv, conv0, lkT, lkH, clean]
      exact ⟨(List.take_of_length_le (by rw [List.length_append, List.length_take]; exact Nat.le_refl _)).symm, fun id a1 a2 a3 => by omega⟩
    · have hke : k = m - (i + 1) := by simp at h; omega
      subst hke
      rw [← hfin]
      simp only [V_seq, V_ret, V_exit, V_region, W_nil, W_cons, effOp2, KN_seq, KN_block, KN_back, KXr_nil, KXe_nil, KXe_seq, KXe_block, KXe_back, QE, effOp, effPure, pureV, binV, ofC, strip, lkT, lkH, ISt.app, opI, gO, gB, allB, gval, wrapG, dstOK, setD, Gives, Ideal.Fin, conv, conv0, Op.operands, reduceIte, reduceCtorEq, Nat.reduceLT, Nat.reduceEqDiff, Nat.zero_add, ne_eq, true_and, and_self, implies_true, List.nil_append, List.cons_append, Option.some.injEq, List.drop_zero, hN, hw]
      exact ⟨i + 1, id, by simp only []; omega, by simp only []; omega, by simp [SLe, SLe0, convTm, convHp, convB, conv, conv0, lkT, lkH, clean]⟩
  · have hie : i = m := by simp at h; omega
    subst hie
    have eo := len_encPs (prs i i)
    simp only [V_seq, V_ret, V_exit, V_region, W_nil, W_cons, effOp2, KN_seq, KXr_nil, KXe_nil, KXe_seq, KXe_block, KXe_back, QE, effOp, effPure, pureV, strip, lkT, lkH, ISt.app, opI, gO, gB, allB, gval, wrapG, dstOK, setD, Gives, Ideal.Fin, conv, conv0, Op.operands, reduceIte, reduceCtorEq, Nat.reduceLT, Nat.reduceEqDiff, Nat.zero_add, ne_eq, true_and, and_self, implies_true, List.nil_append, List.cons_append, Option.some.injEq, List.drop_zero, hN]
    exact ⟨_, _, rfl, by omega, (List.take_of_length_le (by omega)).symm, by simp⟩
def sp_impl_pairs : PSpec := ⟨fun xs => match xs with | [.num .i64 n] => ((fun (n : Int) => 0 ≤ n) n) ∧ ((fun (n : Int) => n ≤ 1000) n) | _ => False, fun xs => match xs with | [.num _ n] => (fun (n : Int) => .sl 2 (encPs (prs n.toNat n.toNat))) n | _ => .junk, false⟩
theorem gk_impl_pairs : ∀ args, sp_impl_pairs.pre args → ICall Try.prog 77 args (sp_impl_pairs.val args) := by
  intro args h
  unfold sp_impl_pairs at h ⊢; simp only at h ⊢; split at h
  · obtain ⟨h0, h1⟩ := h
    simp only [toPs_enc] at *
    exact c_impl_pairs _ h0 h1
  · exact h.elim
theorem en_impl_pairs : Enters Try.prog 77 := enters_of Try.func77 (by kernel_rfl) rfl


/-- The crossing of two segments with given indices, if they cross. -/
def crF (l : List Qd) (p : Pt) : List Qd := if relP (qAt l p.1.toNat) (qAt l p.2.toNat) == 2 then [crossQ (qAt l p.1.toNat) (qAt l p.2.toNat)] else []
def crsP (l : List Qd) : List Qd := ((prs l.length l.length).flatMap (crF l)).foldl addQ []
theorem crF_good {l : List Qd} (h : okSs l = true) {i j : Nat} (hi : i < l.length) (hj : j < l.length) : ∀ q ∈ crF l ((i : Int), (j : Int)), goodQ q := by
  intro q hq
  unfold crF at hq
  simp only [Int.toNat_natCast] at hq
  split at hq
  · rename_i hr
    simp only [List.mem_cons, List.not_mem_nil, or_false] at hq
    subst hq
    exact crossQ_good (okSs_at h hi) (okSs_at h hj) (by simpa using hr)
  · cases hq
theorem crs_good {l : List Qd} (h : okSs l = true) : ∀ q ∈ (prs l.length l.length).flatMap (crF l), goodQ q := by
  intro q hq
  obtain ⟨p, hp, hq⟩ := List.mem_flatMap.1 hq
  obtain ⟨i, j, h1, h2, rfl⟩ := prs_mem (Nat.le_refl _) hp
  exact crF_good h (by omega) h2 q hq
theorem crF_len (l : List Qd) (p : Pt) : (crF l p).length ≤ 1 := by unfold crF; split <;> simp
theorem flat_len (l : List Qd) : ∀ ps : List Pt, (ps.flatMap (crF l)).length ≤ ps.length
  | [] => Nat.le_refl _
  | p :: ps => by
    have h1 := crF_len l p
    have h2 := flat_len l ps
    rw [List.flatMap_cons, List.length_append, List.length_cons]; omega
theorem prs_at {n i : Nat} (h : i < (prs n n).length) : ∃ a b : Nat, a < b ∧ b < n ∧ pAt (prs n n) i = ((a : Int), (b : Int)) := prs_mem (Nat.le_refl _) (by rw [pAt, List.getD, List.getElem?_eq_getElem h]; exact List.getElem_mem h)
def g_impl_CrossingPoints_h : List (Nat × PSpec) := [(76, sp_impl_segmentsOk), (77, sp_impl_pairs), (78, sp_impl_relation), (79, sp_impl_meet)]
theorem gok_impl_CrossingPoints_h : GOK Try.prog g_impl_CrossingPoints_h := gok_cons gk_impl_segmentsOk en_impl_segmentsOk (gok_cons gk_impl_pairs en_impl_pairs (gok_cons gk_impl_relation en_impl_relation (gok_cons gk_impl_meet en_impl_meet (gok0))))
theorem lk_impl_CrossingPoints_h_impl_segmentsOk : lkG g_impl_CrossingPoints_h 76 = sp_impl_segmentsOk := rfl
theorem lk_impl_CrossingPoints_h_impl_pairs : lkG g_impl_CrossingPoints_h 77 = sp_impl_pairs := rfl
theorem lk_impl_CrossingPoints_h_impl_relation : lkG g_impl_CrossingPoints_h 78 = sp_impl_relation := rfl
theorem lk_impl_CrossingPoints_h_impl_meet : lkG g_impl_CrossingPoints_h 79 = sp_impl_meet := rfl
def h_impl_CrossingPoints_h : List (Nat × HSpec) := [(80, hs_slices_SortFunc_impl_RatPoint_impl_RatPoint), (83, hs_slices_Compact_impl_RatPoint_impl_RatPoint), (82, hs_slices_Clip_impl_RatPoint_impl_RatPoint)]
theorem hok_impl_CrossingPoints_h : HOK Try.prog h_impl_CrossingPoints_h := hok_cons hk_slices_SortFunc_impl_RatPoint_impl_RatPoint en_slices_SortFunc_impl_RatPoint_impl_RatPoint (hok_cons hk_slices_Compact_impl_RatPoint_impl_RatPoint en_slices_Compact_impl_RatPoint_impl_RatPoint (hok_cons hk_slices_Clip_impl_RatPoint_impl_RatPoint en_slices_Clip_impl_RatPoint_impl_RatPoint (hok0)))
theorem lh_impl_CrossingPoints_h_impl_segmentsOk : lkHS h_impl_CrossingPoints_h 76 = none := rfl
theorem lh_impl_CrossingPoints_h_impl_pairs : lkHS h_impl_CrossingPoints_h 77 = none := rfl
theorem lh_impl_CrossingPoints_h_impl_relation : lkHS h_impl_CrossingPoints_h 78 = none := rfl
theorem lh_impl_CrossingPoints_h_impl_meet : lkHS h_impl_CrossingPoints_h 79 = none := rfl
theorem lh_impl_CrossingPoints_h_slices_SortFunc_impl_RatPoint_impl_RatPoint : lkHS h_impl_CrossingPoints_h 80 = some hs_slices_SortFunc_impl_RatPoint_impl_RatPoint := rfl
theorem lh_impl_CrossingPoints_h_slices_Compact_impl_RatPoint_impl_RatPoint : lkHS h_impl_CrossingPoints_h 83 = some hs_slices_Compact_impl_RatPoint_impl_RatPoint := rfl
theorem lh_impl_CrossingPoints_h_slices_Clip_impl_RatPoint_impl_RatPoint : lkHS h_impl_CrossingPoints_h 82 = some hs_slices_Clip_impl_RatPoint_impl_RatPoint := rfl
theorem c_impl_CrossingPoints_h (l : List Qd) (hs : okSs l = true) : HCall Try.prog 18 [.sl 4 (encQs l)] (sm ([])) (.ref 0 0 (crsP l).length false) (sm ([(0, .arr 4 55 (encQs (crsP l)))])) := by
  refine hcall_V (G := g_impl_CrossingPoints_h) (H := h_impl_CrossingPoints_h) [(7, [(0, 10), (1, 10), (2, 10), (3, 10), (5, 10), (6, 10), (7, 10), (8, 10)]), (8, [(0, 11), (1, 11), (2, 11), (3, 11), (4, 11), (6, 11), (7, 11), (8, 11), (9, 11), (0, 12), (1, 12), (2, 12), (3, 12), (4, 12), (5, 12), (6, 12), (7, 12), (8, 12), (9, 12), (10, 12), (1, 13), (2, 13), (3, 13), (4, 13), (5, 13), (6, 13), (7, 13), (8, 13), (9, 13), (10, 13)])] tabOK mixed gok_impl_CrossingPoints_h hok_impl_CrossingPoints_h Try.func18 rfl Try.ntmps18 Try.results18 rfl (by kernel_rfl) fun F hN hlen => ?_
  simp only [sm]
  have el := len_encQs l
  have h12 := okSs_len hs
  have hg := crs_good hs
  have hcp : crsP l = compFQ (sortQ ((prs l.length l.length).flatMap (crF l))) := by
    rw [compFQ_eq, comp_sortQ hg]; rfl
  have hpl := prs_len l.length l.length
  have hpl2 : l.length * l.length ≤ 12 * 12 := Nat.mul_le_mul h12 h12
  have hat := @prs_at l.length
  obtain ⟨ps, hps⟩ : ∃ ps, prs l.length l.length = ps := ⟨_, rfl⟩
  rw [hps] at hg hcp hpl hat
  have ep := len_encPs ps
  have z1 : (0 : Int) ≤ (l.length : Int) := by omega
  have z2 : (l.length : Int) ≤ 1000 := by omega
  simp only [V_seq, V_skip, V_block, V_region, V_cond, brW_false, W_nil, W_cons, effOp2, KN_seq, asB, effOp, effPure, effNew, effBuildSlice, effFrz, frz, tmpsOf, effCall, giveUp, hasAll, skipE, pureV, lenV, ofC, strip, lkT, lkH, ISt.app, opI, gO, gB, allB, gval, wrapG, dstOK, setD, mentTm, mentHp, IV.ment, partsL, eltsI, lendV, lendP, lent, lentP, idsV, idsL, flat, clean, callArgs, callFn, allLent, enumT, Op.operands, Call.operands, List.append_toArray, reduceIte, reduceCtorEq, cond_true, cond_false, Bool.or_false, Bool.not_true, Nat.reduceMul, Nat.reduceLT, Nat.reduceLeDiff, Nat.reduceEqDiff, ne_eq, not_false_eq_true, true_and, and_self, implies_true, List.map_cons, List.map_nil, List.nil_append, List.cons_append, List.append_nil, List.length_nil, ex_clo, or_true, or_self, Bool.false_eq_true, tab24, tab26, tab55, tab91, hN, Int.toNat_natCast, isQs_enc, toQs_enc, lk_impl_CrossingPoints_h_impl_segmentsOk, lk_impl_CrossingPoints_h_impl_pairs, sp_impl_segmentsOk, sp_impl_pairs, lh_impl_CrossingPoints_h_impl_segmentsOk, lh_impl_CrossingPoints_h_impl_pairs, hs, el, z1, z2, hps, ep]
  refine V_loop (α := Nat) ⟨tabOK, mixed, gok_impl_CrossingPoints_h, hok_impl_CrossingPoints_h⟩ (by kernel_rfl) (fun i => i ≤ ps.length) (fun i => ⟨[(14, .num .i64 i), (13, .num .i64 ps.length), (12, .sl 2 (encPs ps)), (3, .ref 9 0 ((ps.take i).flatMap (crF l)).length true), (0, .sl 4 (encQs l))], [(9, some (.arr 4 55 (encQs ((ps.take i).flatMap (crF l)))))]⟩) (fun i => ps.length - i) 0 id (Nat.zero_le _) (by simp [SLe, SLe0, convTm, convHp, convB, conv, conv0, lkT, lkH, clean, encQs]) ?_
  intro i hi
  have hfl := flat_len l (ps.take i)
  have hst : i < ps.length → (ps.take (i + 1)).flatMap (crF l) = (ps.take i).flatMap (crF l) ++ crF l (pAt ps i) := fun h => by
    rw [take_succ_g (d := (0, 0)) h, List.flatMap_append]; simp
  have hfin : (ps.take ps.length).flatMap (crF l) = ps.flatMap (crF l) := by rw [List.take_length]
  rw [List.length_take] at hfl
  simp only [V_seq, V_region, V_cond, W_nil, W_cons, effOp2, KN_seq, asB, effOp, effPure, pureV, binV, strip, lkT, ISt.app, opI, gO, gB, allB, gval, wrapG, dstOK, setD, Op.operands, reduceIte, reduceCtorEq, Nat.reduceLT, Nat.reduceEqDiff, true_and, and_self, implies_true, List.nil_append, List.cons_append, hN]
  refine brW_some (fun h => ?_) (fun h => ?_)
  · have hi' : i < ps.length := by simpa using h
    have hw := wr_succ hi' (by rw [maxLen_eq]; omega)
    have g0 := getD_encPs hi'
    have hst := hst hi'
    obtain ⟨a, b, hab, hb, hpa⟩ := hat hi'
    rw [hpa] at g0 hst
    have ga := getD_encQs (l := l) (i := a) (by omega)
    have gb := getD_encQs hb
    have va := okSs_at hs (show a < l.length by omega)
    have vb := okSs_at hs hb
    obtain ⟨sma, _, _, na⟩ := vSg_facts va
    obtain ⟨smb, _, _, nb⟩ := vSg_facts vb
    have hcf : crF l ((a : Int), (b : Int)) = if relP (qAt l a) (qAt l b) == 2 then [crossQ (qAt l a) (qAt l b)] else [] := by unfold crF; simp only [Int.toNat_natCast]
    obtain ⟨s, hsa⟩ : ∃ s, qAt l a = s := ⟨_, rfl⟩
    obtain ⟨t, htb⟩ : ∃ t, qAt l b = t := ⟨_, rfl⟩
    rw [hsa] at ga va sma na hcf
    rw [htb] at gb vb smb nb hcf
    obtain ⟨out, hout⟩ : ∃ out, (ps.take i).flatMap (crF l) = out := ⟨_, rfl⟩
    rw [hout] at hst hfl ⊢
    have eo := len_encQs out
    have hx : ∃ k ty es, IBlk.arr 4 55 (encQs out) = IBlk.arr k ty es := ⟨_, _, _, rfl⟩
    cases hr : (relP s t == 2) with
    | false =>
      rw [hcf, hr, if_neg (by decide), List.append_nil] at hst
      simp only [V_seq, V_skip, V_block, V_region, V_draw, V_cond, brW_false, drawW, WS_nil, pairsOf, W_nil, W_cons, effOp2, WI_nil, WI_cons, KN_seq, KN_block, KN_back, dynOK, indB, farB, freshB, heapy, asB, effOp, effPure, effNew, effAlloc, effStore, effCall, giveUp, hasAll, skipE, pureV, storeV, binV, partV, eltV, loadV, faddrV, iaddrV, over, solid, IV.cells, ofC, strip, lkT, lkH, ISt.app, opI, gO, gB, allB, gval, wrapG, dstOK, setD, mentTm, mentHp, IV.ment, IV.mentL, oneI, lendV, lendP, lent, lentP, idsV, idsL, flat, clean, callArgs, callFn, allLent, IBlk.shape, Op.operands, Call.operands, List.append_toArray, reduceIte, reduceCtorEq, cond_true, cond_false, Bool.or_false, Bool.and_true, Bool.and_eq_true, Bool.not_true, Bool.not_false, Nat.reduceAdd, Nat.reduceLT, Nat.reduceLeDiff, Nat.reduceEqDiff, Nat.reduceBEq, Nat.add_zero, Nat.zero_add, ne_eq, not_false_eq_true, true_and, and_true, and_false, and_self, implies_true, forall_const, List.map_cons, List.map_nil, List.nil_append, List.cons_append, List.append_nil, List.all_cons, List.all_nil, Option.map_some, List.getD_cons_zero, List.getD_cons_succ, List.length_cons, List.length_nil, List.take_succ_cons, List.take_zero, List.take_nil, List.drop_succ_cons, List.drop_zero, List.drop_nil, ex_clo, or_self, tab3, tab26, tab84, tab91, tab94, hN, pe, Int.toNat_natCast, lk_impl_CrossingPoints_h_impl_relation, sp_impl_relation, lh_impl_CrossingPoints_h_impl_relation, el, ep, hw, g0, ga, gb, sma, smb, na, nb, hr]
      repeat refine And.intro (by first | omega | (simp; done) | (simp; omega)) ?_
      refine ⟨i + 1, id, by simp only []; omega, by simp only []; omega, ?_⟩
      simp only [hst]
      exact by simp [SLe, SLe0, convTm, convHp, convB, conv, conv0, lkT, lkH, clean]
    | true =>
      have hr2 : relP s t = 2 := by simpa using hr
      rw [hcf, hr, if_pos rfl] at hst
      obtain ⟨q, hq⟩ : ∃ q, crossQ s t = q := ⟨_, rfl⟩
      rw [hq] at hst
      simp only [V_seq, V_skip, V_block, V_region, V_draw, V_cond, brW_true, drawW, WS_nil, pairsOf, W_nil, W_cons, effOp2, WI_nil, WI_cons, KN_seq, KN_block, KN_back, dynOK, indB, farB, seeB, see, isStore, freshB, heapy, asB, effOp, effPure, effNew, effAlloc, effBuildSlice, effFrz, frz, tmpsOf, effStore, effAppend, effZeros, effCall, giveUp, hasAll, skipE, pureV, storeV, srcV, refId, binV, partV, eltV, loadV, faddrV, iaddrV, over, solid, IV.cells, ofC, strip, lkT, lkH, ISt.app, opI, gO, gB, allB, gval, wrapG, dstOK, setD, mentTm, mentHp, IV.ment, IV.mentL, partsL, eltsI, eltI, oneI, noId', lendV, lendP, lent, lentP, idsV, idsL, flat, flatL, clean, cleanL, callArgs, callFn, allLent, IBlk.shape, Op.operands, Call.operands, List.append_toArray, reduceIte, reduceCtorEq, cond_true, cond_false, Bool.or_false, Bool.or_true, Bool.and_true, Bool.and_false, Bool.and_eq_true, Bool.not_true, Bool.not_false, Nat.reduceAdd, Nat.reduceMul, Nat.reduceLT, Nat.reduceLeDiff, Nat.reduceEqDiff, Nat.reduceBEq, Nat.add_zero, Nat.zero_add, ne_eq, not_false_eq_true, beq_self_eq_true, true_and, and_true, and_false, and_self, implies_true, forall_const, List.map_cons, List.map_nil, List.nil_append, List.cons_append, List.append_nil, List.all_cons, List.all_nil, Option.some.injEq, Option.map_some, List.getD_cons_zero, List.getD_cons_succ, List.length_cons, List.length_nil, List.take_succ_cons, List.take_zero, List.take_nil, List.drop_succ_cons, List.drop_zero, List.drop_nil, ex_clo, or_self, tab3, tab24, tab26, tab55, tab84, tab91, tab94, hN, pe, Int.toNat_natCast, encQ, lk_impl_CrossingPoints_h_impl_relation, lk_impl_CrossingPoints_h_impl_meet, sp_impl_relation, sp_impl_meet, lh_impl_CrossingPoints_h_impl_relation, lh_impl_CrossingPoints_h_impl_meet, el, ep, hw, g0, ga, gb, va, vb, sma, smb, na, nb, hr2, hq, eo]
      repeat refine And.intro (by first | omega | (simp; done) | (simp; omega)) ?_
      refine ⟨i + 1, fun x => if x = 9 then 43 else x, by simp only []; omega, by simp only []; omega, ?_⟩
      have hen : encQs (out ++ [q]) = (encQs out).take out.length ++ [IV.agg [.num .i64 q.1.1, .num .i64 q.1.2, .num .i64 q.2.1, .num .i64 q.2.2]] := by
        rw [← encQs_app, List.take_of_length_le (Nat.le_of_eq eo)]; rfl
      simp only [hst, hen, List.length_append]
      simp [SLe, SLe0, convTm, convHp, convB, conv, conv0, lkT, lkH, clean]
      exact ⟨(List.take_of_length_le (by rw [List.length_append, List.length_take]; exact Nat.le_refl _)).symm, fun id a1 a2 a3 => by omega⟩
  · have hie : i = ps.length := by simp at h; omega
    subst hie
    rw [hfin] at hfl ⊢
    obtain ⟨raw, hraw⟩ : ∃ raw, ps.flatMap (crF l) = raw := ⟨_, rfl⟩
    rw [hraw] at hg hcp hfl ⊢
    have er := len_encQs raw
    have hsl := sortQ_len hg
    have z3 : raw.length ≤ 1000000 := by omega
    have es : (encQs (sortQ raw)).length = raw.length := by rw [len_encQs, hsl]
    have z4 : (sortQ raw).length ≤ 1000000 := by omega
    have ec := len_encQs (crsP l)
    simp only [V_seq, V_ret, V_exit, V_region, W_nil, W_cons, effOp2, KN_seq, KXr_nil, KXe_nil, KXe_seq, KXe_block, KXe_back, QE, effOp, effPure, Option.isSome_some, skipE, pureV, strip, lkT, lkH, ISt.app, opI, gO, gB, allB, gval, wrapG, dstOK, setD, mentTm, mentHp, IV.ment, IV.mentL, idsV, idsL, callArgs, callFn, enumT, conv, conv0, convL, IBlk.shape, Op.operands, reduceIte, reduceCtorEq, cond_true, cond_false, Bool.or_false, Bool.or_true, Bool.and_true, Nat.reduceAdd, Nat.reduceSub, Nat.reduceMul, Nat.reduceLT, Nat.reduceLeDiff, Nat.reduceEqDiff, Nat.zero_add, not_false_eq_true, beq_self_eq_true, true_and, and_true, and_false, and_self, false_implies, implies_true, List.map_cons, List.map_nil, List.nil_append, List.cons_append, List.append_nil, List.all_nil, Option.map_some, List.getD_cons_zero, ex_clo, true_or, Bool.true_eq_false, Bool.false_eq_true, hN, isQs_enc, toQs_enc, FinH, resA, resV, SLe, SLe0, convTm, convHp, convB, sm, effH, mkHC0, mkHC1, lendM, lentM, lentI, allHere, addIds, idsB, flatIds, reach, posn, renV, renL, renB, renH, numB, subHp, fwd, bk, bwd, nones, keyOK, noSl, noSlL, flatBs, List.contains, List.elem, Option.isSome_some, List.nodup_nil, List.nodup_cons, List.not_mem_nil, Option.getD_some, lh_impl_CrossingPoints_h_slices_SortFunc_impl_RatPoint_impl_RatPoint, lh_impl_CrossingPoints_h_slices_Compact_impl_RatPoint_impl_RatPoint, lh_impl_CrossingPoints_h_slices_Clip_impl_RatPoint_impl_RatPoint, hs_slices_SortFunc_impl_RatPoint_impl_RatPoint, hs_slices_Compact_impl_RatPoint_impl_RatPoint, hs_slices_Clip_impl_RatPoint_impl_RatPoint, er, z3, es, z4, ← hcp, ec]
    have t1 : encQs raw = (encQs raw).take raw.length := (List.take_of_length_le (by omega)).symm
    have t2 : encQs (sortQ raw) = (encQs (sortQ raw)).take raw.length := (List.take_of_length_le (by omega)).symm
    have t3 : encQs (crsP l) = (encQs (crsP l)).take (crsP l).length := (List.take_of_length_le (by omega)).symm
    exact ⟨⟨t1, hg, t2⟩, ⟨t2, t3⟩, ⟨t3, Nat.le_refl _, t3⟩, fun x => if x = 0 then 9 else x, by simp; omega⟩
def hs_impl_CrossingPoints_h : HSpec := ⟨[true], fun xs hp => match xs, hp with | [.sl 4 es], [] => (isQs es) ∧ ((fun (l : List Qd) => okSs l = true) (toQs es)) | _, _ => False, fun xs hp => match xs, hp with | [.sl 4 es], [] => (fun (l : List Qd) => (.ref 0 0 (crsP l).length false : IV)) (toQs es) | _, _ => .junk, fun xs hp => match xs, hp with | [.sl 4 es], [] => (fun (l : List Qd) => ([(0, .arr 4 55 (encQs (crsP l)))] : List (Nat × IBlk))) (toQs es) | _, _ => []⟩
theorem hk_impl_CrossingPoints_h : ∀ args hp, hs_impl_CrossingPoints_h.pre args hp → HCall Try.prog 18 args (sm hp) (hs_impl_CrossingPoints_h.val args hp) (sm (hs_impl_CrossingPoints_h.hval args hp)) := by
  intro args hp h
  unfold hs_impl_CrossingPoints_h at h ⊢; simp only at h ⊢; split at h
  · obtain ⟨h1, h2⟩ := h; obtain ⟨l, rfl⟩ := isQ_ex h1; rw [toQs_enc] at *; exact c_impl_CrossingPoints_h l h2
  · exact h.elim
theorem en_impl_CrossingPoints_h : Enters Try.prog 18 := enters_of Try.func18 (by kernel_rfl) rfl


def g_impl_CrossingPoints_e0 : List (Nat × PSpec) := [(76, sp_impl_segmentsOk), (77, sp_impl_pairs), (78, sp_impl_relation), (79, sp_impl_meet)]
theorem gok_impl_CrossingPoints_e0 : GOK Try.prog g_impl_CrossingPoints_e0 := gok_cons gk_impl_segmentsOk en_impl_segmentsOk (gok_cons gk_impl_pairs en_impl_pairs (gok_cons gk_impl_relation en_impl_relation (gok_cons gk_impl_meet en_impl_meet (gok0))))
theorem lk_impl_CrossingPoints_e0_impl_segmentsOk : lkG g_impl_CrossingPoints_e0 76 = sp_impl_segmentsOk := rfl
theorem lk_impl_CrossingPoints_e0_impl_pairs : lkG g_impl_CrossingPoints_e0 77 = sp_impl_pairs := rfl
theorem lk_impl_CrossingPoints_e0_impl_relation : lkG g_impl_CrossingPoints_e0 78 = sp_impl_relation := rfl
theorem lk_impl_CrossingPoints_e0_impl_meet : lkG g_impl_CrossingPoints_e0 79 = sp_impl_meet := rfl
def h_impl_CrossingPoints_e0 : List (Nat × HSpec) := [(80, hs_slices_SortFunc_impl_RatPoint_impl_RatPoint), (83, hs_slices_Compact_impl_RatPoint_impl_RatPoint), (82, hs_slices_Clip_impl_RatPoint_impl_RatPoint)]
theorem hok_impl_CrossingPoints_e0 : HOK Try.prog h_impl_CrossingPoints_e0 := hok_cons hk_slices_SortFunc_impl_RatPoint_impl_RatPoint en_slices_SortFunc_impl_RatPoint_impl_RatPoint (hok_cons hk_slices_Compact_impl_RatPoint_impl_RatPoint en_slices_Compact_impl_RatPoint_impl_RatPoint (hok_cons hk_slices_Clip_impl_RatPoint_impl_RatPoint en_slices_Clip_impl_RatPoint_impl_RatPoint (hok0)))
theorem lh_impl_CrossingPoints_e0_impl_segmentsOk : lkHS h_impl_CrossingPoints_e0 76 = none := rfl
theorem lh_impl_CrossingPoints_e0_impl_pairs : lkHS h_impl_CrossingPoints_e0 77 = none := rfl
theorem lh_impl_CrossingPoints_e0_impl_relation : lkHS h_impl_CrossingPoints_e0 78 = none := rfl
theorem lh_impl_CrossingPoints_e0_impl_meet : lkHS h_impl_CrossingPoints_e0 79 = none := rfl
theorem lh_impl_CrossingPoints_e0_slices_SortFunc_impl_RatPoint_impl_RatPoint : lkHS h_impl_CrossingPoints_e0 80 = some hs_slices_SortFunc_impl_RatPoint_impl_RatPoint := rfl
theorem lh_impl_CrossingPoints_e0_slices_Compact_impl_RatPoint_impl_RatPoint : lkHS h_impl_CrossingPoints_e0 83 = some hs_slices_Compact_impl_RatPoint_impl_RatPoint := rfl
theorem lh_impl_CrossingPoints_e0_slices_Clip_impl_RatPoint_impl_RatPoint : lkHS h_impl_CrossingPoints_e0 82 = some hs_slices_Clip_impl_RatPoint_impl_RatPoint := rfl
theorem c_impl_CrossingPoints_e0 (l : List Qd) (hk : okSs l = false) : ICall Try.prog 18 [.sl 4 (encQs l)] (.sl 4 []) := by
  refine icall_V (G := g_impl_CrossingPoints_e0) (H := h_impl_CrossingPoints_e0) [(7, [(0, 10), (1, 10), (2, 10), (3, 10), (5, 10), (6, 10), (7, 10), (8, 10)]), (8, [(0, 11), (1, 11), (2, 11), (3, 11), (4, 11), (6, 11), (7, 11), (8, 11), (9, 11), (0, 12), (1, 12), (2, 12), (3, 12), (4, 12), (5, 12), (6, 12), (7, 12), (8, 12), (9, 12), (10, 12), (1, 13), (2, 13), (3, 13), (4, 13), (5, 13), (6, 13), (7, 13), (8, 13), (9, 13), (10, 13)])] tabOK mixed gok_impl_CrossingPoints_e0 hok_impl_CrossingPoints_e0 Try.func18 rfl Try.ntmps18 Try.results18 rfl (by kernel_rfl) fun F hN hlen => ?_
  simp only [V_seq, V_ret, V_region, V_cond, brW_true, W_nil, W_cons, effOp2, KN_seq, KXr_nil, KXr_seq, QE, asB, effOp, effPure, effCall, giveUp, hasAll, pureV, ofC, strip, lkT, lkH, ISt.app, opI, gO, gB, allB, gval, wrapG, dstOK, setD, lendV, lendP, lent, lentP, idsV, idsL, flat, clean, callArgs, callFn, allLent, enumT, Gives, Ideal.Fin, conv, conv0, Op.operands, reduceIte, reduceCtorEq, cond_true, Bool.or_false, Bool.not_true, Bool.not_false, Nat.reduceLT, Nat.reduceEqDiff, and_self, implies_true, List.map_cons, List.map_nil, List.nil_append, List.cons_append, List.append_nil, ex_clo, or_self, hN, isQs_enc, toQs_enc, lk_impl_CrossingPoints_e0_impl_segmentsOk, sp_impl_segmentsOk, lh_impl_CrossingPoints_e0_impl_segmentsOk, hk]
def sp_impl_CrossingPoints_e0 : PSpec := ⟨fun xs => match xs with | [.sl 4 les] => isQs les ∧ ((fun (l : List Qd) => okSs l = false) (toQs les)) | _ => False, fun xs => match xs with | [.sl _ les] => (fun (l : List Qd) => .sl 4 []) (toQs les) | _ => .junk, false⟩
theorem gk_impl_CrossingPoints_e0 : ∀ args, sp_impl_CrossingPoints_e0.pre args → ICall Try.prog 18 args (sp_impl_CrossingPoints_e0.val args) := by
  intro args h
  unfold sp_impl_CrossingPoints_e0 at h ⊢; simp only at h ⊢; split at h
  · obtain ⟨h0, h1⟩ := h
    obtain ⟨l0, rfl⟩ := isQ_ex h0
    simp only [toQs_enc] at *
    exact c_impl_CrossingPoints_e0 _ h1
  · exact h.elim
theorem en_impl_CrossingPoints_e0 : Enters Try.prog 18 := enters_of Try.func18 (by kernel_rfl) rfl

def g_impl_CrossingPoints_e : List (Nat × PSpec) := [(76, sp_impl_segmentsOk), (77, sp_impl_pairs), (78, sp_impl_relation), (79, sp_impl_meet)]
theorem gok_impl_CrossingPoints_e : GOK Try.prog g_impl_CrossingPoints_e := gok_cons gk_impl_segmentsOk en_impl_segmentsOk (gok_cons gk_impl_pairs en_impl_pairs (gok_cons gk_impl_relation en_impl_relation (gok_cons gk_impl_meet en_impl_meet (gok0))))
theorem lk_impl_CrossingPoints_e_impl_segmentsOk : lkG g_impl_CrossingPoints_e 76 = sp_impl_segmentsOk := rfl
theorem lk_impl_CrossingPoints_e_impl_pairs : lkG g_impl_CrossingPoints_e 77 = sp_impl_pairs := rfl
theorem lk_impl_CrossingPoints_e_impl_relation : lkG g_impl_CrossingPoints_e 78 = sp_impl_relation := rfl
theorem lk_impl_CrossingPoints_e_impl_meet : lkG g_impl_CrossingPoints_e 79 = sp_impl_meet := rfl
def h_impl_CrossingPoints_e : List (Nat × HSpec) := [(80, hs_slices_SortFunc_impl_RatPoint_impl_RatPoint), (83, hs_slices_Compact_impl_RatPoint_impl_RatPoint), (82, hs_slices_Clip_impl_RatPoint_impl_RatPoint)]
theorem hok_impl_CrossingPoints_e : HOK Try.prog h_impl_CrossingPoints_e := hok_cons hk_slices_SortFunc_impl_RatPoint_impl_RatPoint en_slices_SortFunc_impl_RatPoint_impl_RatPoint (hok_cons hk_slices_Compact_impl_RatPoint_impl_RatPoint en_slices_Compact_impl_RatPoint_impl_RatPoint (hok_cons hk_slices_Clip_impl_RatPoint_impl_RatPoint en_slices_Clip_impl_RatPoint_impl_RatPoint (hok0)))
theorem lh_impl_CrossingPoints_e_impl_segmentsOk : lkHS h_impl_CrossingPoints_e 76 = none := rfl
theorem lh_impl_CrossingPoints_e_impl_pairs : lkHS h_impl_CrossingPoints_e 77 = none := rfl
theorem lh_impl_CrossingPoints_e_impl_relation : lkHS h_impl_CrossingPoints_e 78 = none := rfl
theorem lh_impl_CrossingPoints_e_impl_meet : lkHS h_impl_CrossingPoints_e 79 = none := rfl
theorem lh_impl_CrossingPoints_e_slices_SortFunc_impl_RatPoint_impl_RatPoint : lkHS h_impl_CrossingPoints_e 80 = some hs_slices_SortFunc_impl_RatPoint_impl_RatPoint := rfl
theorem lh_impl_CrossingPoints_e_slices_Compact_impl_RatPoint_impl_RatPoint : lkHS h_impl_CrossingPoints_e 83 = some hs_slices_Compact_impl_RatPoint_impl_RatPoint := rfl
theorem lh_impl_CrossingPoints_e_slices_Clip_impl_RatPoint_impl_RatPoint : lkHS h_impl_CrossingPoints_e 82 = some hs_slices_Clip_impl_RatPoint_impl_RatPoint := rfl
theorem c_impl_CrossingPoints_e (l : List Qd) (hk : okSs l = false) : ICallF Try.prog 18 [.sl 4 (encQs l)] (.sl 4 []) := by
  exact icallF_nil (c_impl_CrossingPoints_e0 l hk)
def sp_impl_CrossingPoints_e : PSpec := ⟨fun xs => match xs with | [.sl 4 les] => isQs les ∧ ((fun (l : List Qd) => okSs l = false) (toQs les)) | _ => False, fun xs => match xs with | [.sl _ les] => (fun (l : List Qd) => .sl 4 []) (toQs les) | _ => .junk, true⟩
theorem gk_impl_CrossingPoints_e : ∀ args, sp_impl_CrossingPoints_e.pre args → ICallF Try.prog 18 args (sp_impl_CrossingPoints_e.val args) ∧ ∀ id, (sp_impl_CrossingPoints_e.val args).ment id = false := by
  intro args h
  unfold sp_impl_CrossingPoints_e at h ⊢; simp only at h ⊢; split at h
  · obtain ⟨h0, h1⟩ := h
    obtain ⟨l0, rfl⟩ := isQ_ex h0
    simp only [toQs_enc] at *
    exact ⟨c_impl_CrossingPoints_e _ h1, fun id => rfl⟩
  · exact h.elim
theorem en_impl_CrossingPoints_e : Enters Try.prog 18 := enters_of Try.func18 (by kernel_rfl) rfl

def crsV (l : List Qd) : List Qd := if okSs l then crsP l else []
theorem crs_all (l : List Qd) : crsP l = (xall (crF l) l.length l.length).foldl addQ [] := by rw [crsP, prs_flat]
theorem xrow_succ (f : Pt → List Qd) (i k : Nat) : xrow f i (k + 1) = xrow f i k ++ f ((i : Int), ((i + 1 + k : Nat) : Int)) := rfl
theorem xrow_len (l : List Qd) (i : Nat) : ∀ k, (xrow (crF l) i k).length ≤ k
  | 0 => Nat.le_refl _
  | k + 1 => by
    have h1 := xrow_len l i k
    have h2 := crF_len l ((i : Int), ((i + 1 + k : Nat) : Int))
    rw [xrow, List.length_append]; omega
theorem xall_len (l : List Qd) (n : Nat) : ∀ i, (xall (crF l) n i).length ≤ n * i
  | 0 => Nat.zero_le _
  | i + 1 => by
    have h1 := xall_len l n i
    have h2 := xrow_len l i (n - (i + 1))
    rw [xall, List.length_append, Nat.mul_succ]; omega
theorem xrow_good {l : List Qd} (h : okSs l = true) {i : Nat} (hi : i < l.length) : ∀ k, i + 1 + k ≤ l.length → ∀ q ∈ xrow (crF l) i k, goodQ q
  | 0, _, q, hq => by cases hq
  | k + 1, hk, q, hq => by
    rw [xrow, List.mem_append] at hq
    rcases hq with h1 | h1
    · exact xrow_good h hi k (by omega) q h1
    · exact crF_good h hi (by omega) q h1
theorem xall_good {l : List Qd} (h : okSs l = true) : ∀ i, i ≤ l.length → ∀ q ∈ xall (crF l) l.length i, goodQ q
  | 0, _, q, hq => by cases hq
  | i + 1, hi, q, hq => by
    rw [xall, List.mem_append] at hq
    rcases hq with h1 | h1
    · exact xall_good h i (by omega) q h1
    · exact xrow_good h (by omega) _ (by omega) q h1
def xF (l : List Qd) (i k : Nat) : List Qd := (xall (crF l) l.length i ++ xrow (crF l) i k).foldl addQ []
theorem xF_step (l : List Qd) (i k : Nat) : xF l i (k + 1) = (crF l ((i : Int), ((i + 1 + k : Nat) : Int))).foldl addQ (xF l i k) := by
  unfold xF
  rw [xrow_succ, ← List.append_assoc, List.foldl_append]
def g_spec_CrossingPoints : List (Nat × PSpec) := [(71, sp_spec_validSegments), (72, sp_spec_relation), (74, sp_spec_crossPoint), (73, sp_spec_addRatPoint)]
theorem gok_spec_CrossingPoints : GOK Try.prog g_spec_CrossingPoints := gok_cons gk_spec_validSegments en_spec_validSegments (gok_cons gk_spec_relation en_spec_relation (gok_cons gk_spec_crossPoint en_spec_crossPoint (gok_cons gk_spec_addRatPoint en_spec_addRatPoint (gok0))))
theorem lk_spec_CrossingPoints_spec_validSegments : lkG g_spec_CrossingPoints 71 = sp_spec_validSegments := rfl
theorem lk_spec_CrossingPoints_spec_relation : lkG g_spec_CrossingPoints 72 = sp_spec_relation := rfl
theorem lk_spec_CrossingPoints_spec_crossPoint : lkG g_spec_CrossingPoints 74 = sp_spec_crossPoint := rfl
theorem lk_spec_CrossingPoints_spec_addRatPoint : lkG g_spec_CrossingPoints 73 = sp_spec_addRatPoint := rfl
def h_spec_CrossingPoints : List (Nat × HSpec) := []
theorem hok_spec_CrossingPoints : HOK Try.prog h_spec_CrossingPoints := hok0
theorem c_spec_CrossingPoints (l : List Qd)  : ICall Try.prog 16 [.sl 4 (encQs l)] (.sl 4 (encQs (crsV l))) := by
  refine icall_V (G := g_spec_CrossingPoints) (H := []) [(10, [(0, 8), (1, 8), (2, 8), (4, 8), (5, 8), (6, 8)]), (11, [(0, 9), (1, 9), (2, 9), (3, 9), (5, 9), (6, 9), (7, 9), (1, 10), (2, 10), (3, 10), (4, 10), (5, 10), (6, 10), (7, 10), (8, 10)])] tabOK mixed gok_spec_CrossingPoints hok_spec_CrossingPoints Try.func16 rfl Try.ntmps16 Try.results16 rfl (by kernel_rfl) fun F hN hlen => ?_
  have el := len_encQs l
  have e0 : encQs [] = [] := rfl
  cases hs : okSs l with
  | false =>
    have hv : crsV l = [] := by rw [crsV, hs]; rfl
    simp only [V_seq, V_ret, V_region, V_cond, brW_true, W_nil, W_cons, effOp2, KN_seq, KXr_nil, KXr_seq, QE, asB, effOp, effPure, effNew, effBuildSlice, effFrz, frz, tmpsOf, effCall, giveUp, hasAll, skipE, pureV, ofC, strip, lkT, lkH, ISt.app, opI, gO, gB, allB, gval, wrapG, dstOK, setD, mentTm, mentHp, IV.ment, partsL, eltsI, lendV, lendP, lent, lentP, idsV, idsL, lkHS, flat, clean, callArgs, callFn, allLent, enumT, Gives, Ideal.Fin, conv, conv0, Op.operands, reduceIte, reduceCtorEq, cond_true, Bool.or_false, Bool.not_true, Bool.not_false, Nat.reduceMul, Nat.reduceLT, Nat.reduceLeDiff, Nat.reduceEqDiff, ne_eq, not_false_eq_true, and_self, implies_true, List.map_cons, List.map_nil, List.nil_append, List.cons_append, List.append_nil, List.length_nil, ex_clo, or_self, tab24, tab55, hN, isQs_enc, toQs_enc, lk_spec_CrossingPoints_spec_validSegments, sp_spec_validSegments, hs, hv, e0]
  | true =>
    have hv : crsV l = (xall (crF l) l.length l.length).foldl addQ [] := by rw [crsV, hs, ← crs_all]; rfl
    have h12 := okSs_len hs
    rw [hv]
    simp only [V_seq, V_skip, V_block, V_region, V_cond, brW_false, W_nil, W_cons, effOp2, KN_seq, asB, effOp, effPure, effNew, effBuildSlice, effFrz, frz, tmpsOf, effCall, giveUp, hasAll, skipE, pureV, ofC, strip, lkT, lkH, ISt.app, opI, gO, gB, allB, gval, wrapG, dstOK, setD, mentTm, mentHp, IV.ment, partsL, eltsI, lendV, lendP, lent, lentP, idsV, idsL, lkHS, flat, clean, callArgs, callFn, allLent, enumT, Op.operands, reduceIte, reduceCtorEq, cond_true, Bool.or_false, Bool.not_true, Nat.reduceMul, Nat.reduceLT, Nat.reduceLeDiff, Nat.reduceEqDiff, ne_eq, not_false_eq_true, true_and, and_self, implies_true, List.map_cons, List.map_nil, List.nil_append, List.cons_append, List.append_nil, List.length_nil, ex_clo, or_self, tab24, tab55, hN, isQs_enc, toQs_enc, lk_spec_CrossingPoints_spec_validSegments, sp_spec_validSegments, hs]
    refine V_loop (α := Nat) ⟨tabOK, mixed, gok_spec_CrossingPoints, hok_spec_CrossingPoints⟩ (by kernel_rfl) (fun i => i ≤ l.length) (fun i => ⟨[(4, .num .i64 i), (3, .sl 4 (encQs ((xall (crF l) l.length i).foldl addQ []))), (0, .sl 4 (encQs l))], []⟩) (fun i => l.length - i) 0 id (Nat.zero_le _) (by simp [SLe, SLe0, convTm, convHp, conv, conv0, lkT, lkH, clean, xall, encQs]) ?_
    intro i hi
    simp only [V_seq, V_region, V_cond, W_nil, W_cons, effOp2, KN_seq, asB, effOp, effPure, pureV, binV, lenV, strip, lkT, ISt.app, opI, gO, gB, allB, gval, wrapG, dstOK, setD, Op.operands, Call.operands, List.append_toArray, reduceIte, reduceCtorEq, Nat.reduceLT, Nat.reduceEqDiff, ne_eq, not_false_eq_true, true_and, and_self, implies_true, List.nil_append, List.cons_append, List.append_nil, tab26, hN, el]
    refine brW_some (fun h => ?_) (fun h => ?_)
    · have hi' : i < l.length := by simpa using h
      have hw := wr_succ hi' (by rw [maxLen_eq]; omega)
      have va := okSs_at hs hi'
      have ga := getD_encQs hi'
      obtain ⟨sma, _, _, na⟩ := vSg_facts va
      simp only [V_seq, V_skip, V_block, V_region, W_nil, W_cons, effOp2, KN_seq, effOp, effPure, pureV, binV, ofC, strip, lkT, ISt.app, opI, gO, gB, allB, gval, wrapG, dstOK, setD, Op.operands, reduceIte, reduceCtorEq, Nat.reduceLT, Nat.reduceEqDiff, true_and, and_self, implies_true, List.nil_append, List.cons_append, List.append_nil, hN, hw]
      refine V_loop (α := Nat) ⟨tabOK, mixed, gok_spec_CrossingPoints, hok_spec_CrossingPoints⟩ (by kernel_rfl) (fun k => i + 1 + k ≤ l.length) (fun k => ⟨[(5, .num .i64 ((i + 1 + k : Nat) : Int)), (4, .num .i64 i), (3, .sl 4 (encQs (xF l i k))), (0, .sl 4 (encQs l))], []⟩) (fun k => l.length - k) 0 id (by omega) (by simp [SLe, SLe0, convTm, convHp, conv, conv0, lkT, lkH, clean, xF, xrow]) ?_
      intro k hk
      have hst := xF_step l i k
      have hgf : ∀ q ∈ xF l i k, goodQ q := by
        intro q hq
        rcases (mem_foldQ _ _).1 hq with h | h
        · rcases List.mem_append.1 h with h | h
          · exact xall_good hs i hi q h
          · exact xrow_good hs hi' k (by omega) q h
        · cases h
      have hlf : (xF l i k).length ≤ 100000 := by
        have h1 := fold_len (xall (crF l) l.length i ++ xrow (crF l) i k) []
        have h2 := xall_len l l.length i
        have h3 := xrow_len l i k
        have h4 : l.length * i ≤ 12 * 12 := Nat.mul_le_mul (by omega) (by omega)
        rw [List.length_append, List.length_nil] at h1
        unfold xF; omega
      simp only [V_seq, V_region, V_cond, W_nil, W_cons, effOp2, KN_seq, asB, effOp, effPure, pureV, binV, lenV, strip, lkT, ISt.app, opI, gO, gB, allB, gval, wrapG, dstOK, setD, Op.operands, Call.operands, List.append_toArray, reduceIte, reduceCtorEq, Nat.reduceLT, Nat.reduceEqDiff, ne_eq, not_false_eq_true, true_and, and_self, implies_true, List.nil_append, List.cons_append, List.append_nil, tab26, hN, el]
      refine brW_some (fun h => ?_) (fun h => ?_)
      · have hk' : i + 1 + k < l.length := by simp at h; omega
        have hw2 : IntKind.i64.wrap (((i + 1 + k : Nat) : Int) + 1) = ((i + 1 + (k + 1) : Nat) : Int) := by rw [wr (by omega) (by omega)]; omega
        have vb := okSs_at hs hk'
        have gb := getD_encQs hk'
        obtain ⟨smb, _, _, nb⟩ := vSg_facts vb
        have hcf : crF l ((i : Int), ((i + 1 + k : Nat) : Int)) = if relP (qAt l i) (qAt l (i + 1 + k)) == 2 then [crossQ (qAt l i) (qAt l (i + 1 + k))] else [] := by unfold crF; simp only [Int.toNat_natCast]
        obtain ⟨j, hj⟩ : ∃ j, i + 1 + k = j := ⟨_, rfl⟩
        rw [hj] at hk' gb vb smb nb hcf hst hw2 ⊢
        obtain ⟨s, hsa⟩ : ∃ s, qAt l i = s := ⟨_, rfl⟩
        obtain ⟨t, htb⟩ : ∃ t, qAt l j = t := ⟨_, rfl⟩
        rw [hsa] at ga va sma na hcf
        rw [htb] at gb vb smb nb hcf
        obtain ⟨out, hout⟩ : ∃ out, xF l i k = out := ⟨_, rfl⟩
        rw [hout] at hst hgf hlf ⊢
        cases hr : (relP s t == 2) with
        | false =>
          rw [hcf, hr, if_neg (by decide)] at hst
          simp only [V_seq, V_skip, V_block, V_region, V_draw, V_cond, brW_false, drawW, WS_nil, pairsOf, W_nil, W_cons, effOp2, WI_nil, WI_cons, KN_seq, KN_block, KN_back, dynOK, indB, farB, freshB, heapy, asB, effOp, effPure, effCall, giveUp, hasAll, pureV, binV, partV, eltV, loadV, iaddrV, ofC, strip, lkT, lkH, ISt.app, opI, gO, gB, allB, gval, wrapG, dstOK, setD, mentTm, mentHp, IV.ment, lendV, lendP, lent, lentP, idsV, idsL, lkHS, flat, clean, callArgs, callFn, allLent, Op.operands, Call.operands, List.append_toArray, reduceIte, reduceCtorEq, cond_true, cond_false, Bool.or_false, Bool.and_true, Bool.and_eq_true, Bool.not_true, Bool.not_false, Nat.reduceAdd, Nat.reduceLT, Nat.reduceLeDiff, Nat.reduceEqDiff, Nat.reduceBEq, Nat.zero_add, ne_eq, not_false_eq_true, true_and, and_true, and_false, and_self, implies_true, forall_const, List.map_cons, List.map_nil, List.nil_append, List.cons_append, List.append_nil, List.getD_cons_zero, List.getD_cons_succ, List.length_cons, List.length_nil, List.take_succ_cons, List.take_zero, List.take_nil, List.drop_zero, ex_clo, or_self, tab26, tab84, hN, pe, Int.toNat_natCast, lk_spec_CrossingPoints_spec_relation, sp_spec_relation, el, hw2, ga, gb, sma, smb, hr]
          repeat refine And.intro (by first | omega | (simp; done) | (simp; omega)) ?_
          refine ⟨k + 1, id, by simp only []; omega, by simp only []; omega, ?_⟩
          simp only [hst]
          exact by simp [SLe, SLe0, convTm, convHp, conv, conv0, lkT, lkH, clean]
        | true =>
          have hr2 : relP s t = 2 := by simpa using hr
          rw [hcf, hr, if_pos rfl] at hst
          have hcg := crossQ_good va vb hr2
          obtain ⟨q, hq⟩ : ∃ q, crossQ s t = q := ⟨_, rfl⟩
          rw [hq] at hst hcg
          simp only [V_seq, V_skip, V_block, V_region, V_draw, V_cond, brW_true, drawW, WS_nil, pairsOf, W_nil, W_cons, effOp2, WI_nil, WI_cons, KN_seq, KN_block, KN_back, dynOK, indB, farB, freshB, heapy, asB, effOp, effPure, effCall, giveUp, hasAll, pureV, binV, partV, eltV, loadV, iaddrV, ofC, strip, lkT, lkH, ISt.app, opI, gO, gB, allB, gval, wrapG, dstOK, setD, mentTm, mentHp, IV.ment, IV.mentL, lendV, lendP, lent, lentP, idsV, idsL, lkHS, flat, flatL, clean, cleanL, callArgs, callFn, allLent, Op.operands, Call.operands, List.append_toArray, reduceIte, reduceCtorEq, cond_true, cond_false, Bool.or_false, Bool.and_true, Bool.and_eq_true, Bool.not_true, Bool.not_false, Nat.reduceAdd, Nat.reduceLT, Nat.reduceLeDiff, Nat.reduceEqDiff, Nat.reduceBEq, Nat.zero_add, ne_eq, not_false_eq_true, beq_self_eq_true, true_and, and_true, and_false, and_self, implies_true, forall_const, List.map_cons, List.map_nil, List.nil_append, List.cons_append, List.append_nil, List.getD_cons_zero, List.getD_cons_succ, List.length_cons, List.length_nil, List.take_succ_cons, List.take_zero, List.take_nil, List.drop_zero, ex_clo, or_true, or_self, Bool.false_eq_true, tab26, tab84, hN, pe, Int.toNat_natCast, encQ, isQs_enc, toQs_enc, lk_spec_CrossingPoints_spec_relation, lk_spec_CrossingPoints_spec_crossPoint, lk_spec_CrossingPoints_spec_addRatPoint, sp_spec_relation, sp_spec_crossPoint, sp_spec_addRatPoint, el, hw2, ga, gb, va, vb, sma, smb, hr2, hq, hlf, hcg]
          repeat refine And.intro (by first | omega | (simp; done) | (simp; omega)) ?_
          refine ⟨k + 1, id, by simp only []; omega, by simp only []; omega, ?_⟩
          simp only [hst]
          exact by simp [SLe, SLe0, convTm, convHp, conv, conv0, lkT, lkH, clean]
      · have hke : k = l.length - (i + 1) := by simp at h; omega
        have hfin : xF l i k = (xall (crF l) l.length (i + 1)).foldl addQ [] := by rw [hke]; rfl
        rw [hfin]
        simp only [V_seq, V_ret, V_exit, V_region, W_nil, W_cons, effOp2, KN_seq, KN_block, KN_back, KXr_nil, KXe_nil, KXe_seq, KXe_block, KXe_back, QE, effOp, effPure, pureV, binV, ofC, strip, lkT, lkH, ISt.app, opI, gO, gB, allB, gval, wrapG, dstOK, setD, Gives, Ideal.Fin, conv, conv0, Op.operands, reduceIte, reduceCtorEq, Nat.reduceLT, Nat.reduceEqDiff, true_and, and_self, implies_true, List.nil_append, List.cons_append, List.append_nil, hN, hw]
        exact ⟨i + 1, id, by simp only []; omega, by simp only []; omega, by simp [SLe, SLe0, convTm, convHp, conv, conv0, lkT, lkH, clean]⟩
    · have hie : i = l.length := by simp at h; omega
      subst hie
      simp only [V_seq, V_ret, V_exit, V_region, W_nil, W_cons, effOp2, KN_seq, KXr_nil, KXe_nil, KXe_seq, KXe_block, KXe_back, QE, effOp, effPure, pureV, strip, lkT, lkH, ISt.app, opI, gO, gB, allB, gval, wrapG, dstOK, setD, Gives, Ideal.Fin, conv, conv0, Op.operands, reduceIte, reduceCtorEq, Nat.reduceLT, Nat.reduceEqDiff, and_self, implies_true, List.nil_append, List.cons_append, List.append_nil, hN]
def sp_spec_CrossingPoints : PSpec := ⟨fun xs => match xs with | [.sl 4 les] => isQs les | _ => False, fun xs => match xs with | [.sl _ les] => (fun (l : List Qd) => .sl 4 (encQs (crsV l))) (toQs les) | _ => .junk, false⟩
theorem gk_spec_CrossingPoints : ∀ args, sp_spec_CrossingPoints.pre args → ICall Try.prog 16 args (sp_spec_CrossingPoints.val args) := by
  intro args h
  unfold sp_spec_CrossingPoints at h ⊢; simp only at h ⊢; split at h
  · have h0 := h
    obtain ⟨l0, rfl⟩ := isQ_ex h0
    simp only [toQs_enc] at *
    exact c_spec_CrossingPoints _ 
  · exact h.elim
theorem en_spec_CrossingPoints : Enters Try.prog 16 := enters_of Try.func16 (by kernel_rfl) rfl


def g_laws_toSegment : List (Nat × PSpec) := [(121, sp_laws_toPoint)]
theorem gok_laws_toSegment : GOK Try.prog g_laws_toSegment := gok_cons gk_laws_toPoint en_laws_toPoint (gok0)
theorem lk_laws_toSegment_laws_toPoint : lkG g_laws_toSegment 121 = sp_laws_toPoint := rfl
def h_laws_toSegment : List (Nat × HSpec) := []
theorem hok_laws_toSegment : HOK Try.prog h_laws_toSegment := hok0
theorem c_laws_toSegment (p : Qd)  : ICall Try.prog 75 [encQ p] (encQ p) := by
  refine icall_of_hcall (v := encQ p) (hp' := []) id ?_ (by simp [SLe0, convTm, convHp, conv, convL, conv0, lkT, clean, encQ]) (by simp [idsV, idsL, encQ])
  refine hcall_V (G := g_laws_toSegment) (H := []) [] tabOK mixed gok_laws_toSegment hok_laws_toSegment Try.func75 rfl Try.ntmps75 Try.results75 rfl (by kernel_rfl) fun F hN hlen => ?_
  simp only [V_seq, V_ret, V_region, W_nil, W_cons, effOp2, KN_seq, KXr_nil, QE, effOp, effPure, effNew, effAlloc, effBox, effStore, effCall, giveUp, hasAll, skipE, pureV, storeV, partV, loadV, faddrV, over, solid, IV.cells, strip, lkT, lkH, ISt.app, opI, gO, gB, allB, gval, wrapG, dstOK, setD, mentTm, mentHp, IV.ment, IV.mentL, oneI, lendV, lendP, lent, lentP, idsV, idsL, lkHS, flat, flatL, clean, cleanL, callArgs, callFn, allLent, enumT, conv, conv0, convL, IBlk.shape, Op.operands, reduceIte, reduceCtorEq, cond_true, Bool.or_false, Bool.and_true, Bool.not_true, Nat.reduceAdd, Nat.reduceLT, Nat.reduceLeDiff, Nat.reduceEqDiff, Nat.reduceBEq, Nat.add_zero, Nat.zero_add, true_and, and_false, and_self, implies_true, List.map_cons, List.map_nil, List.nil_append, List.cons_append, List.append_nil, List.all_cons, List.all_nil, Option.map_some, List.getD_cons_zero, List.getD_cons_succ, List.length_cons, List.length_nil, List.take_succ_cons, List.take_zero, List.take_nil, List.drop_succ_cons, List.drop_zero, List.drop_nil, ex_clo, or_self, tab35, tab84, tab88, tab90, hN, encP, encQ, FinH, resA, resV, SLe, SLe0, convTm, convHp, lk_laws_toSegment_laws_toPoint, sp_laws_toPoint]
  exact ⟨id, List.nodup_nil, fun _ _ _ => rfl⟩
def sp_laws_toSegment : PSpec := ⟨fun xs => match xs with | [.agg [.num .i64 p1, .num .i64 p2, .num .i64 p3, .num .i64 p4]] => True | _ => False, fun xs => match xs with | [.agg [.num _ p1, .num _ p2, .num _ p3, .num _ p4]] => (fun (p : Qd) => encQ p) ((p1, p2), (p3, p4)) | _ => .junk, false⟩
theorem gk_laws_toSegment : ∀ args, sp_laws_toSegment.pre args → ICall Try.prog 75 args (sp_laws_toSegment.val args) := by
  intro args h
  unfold sp_laws_toSegment at h ⊢; simp only at h ⊢; split at h
  · exact c_laws_toSegment ((_, _), (_, _))
  · exact h.elim
theorem en_laws_toSegment : Enters Try.prog 75 := enters_of Try.func75 (by kernel_rfl) rfl

def szSegmentV (l : List Qd) (left : Int) : Int := if left < (l.length : Int) then -1 else left - (l.length : Int)
def g_laws_szSegmentS : List (Nat × PSpec) := []
theorem gok_laws_szSegmentS : GOK Try.prog g_laws_szSegmentS := gok0
def h_laws_szSegmentS : List (Nat × HSpec) := []
theorem hok_laws_szSegmentS : HOK Try.prog h_laws_szSegmentS := hok0
theorem c_laws_szSegmentS (l : List Qd) (left : Int) (h0 : 0 ≤ left) (h1 : left ≤ 1048576) : ICall Try.prog 15 [.sl 4 (encQs l), .num .i64 left] (.num .i64 (szSegmentV l left)) := by
  refine icall_V (G := g_laws_szSegmentS) (H := []) [] tabOK mixed gok_laws_szSegmentS hok_laws_szSegmentS Try.func15 rfl Try.ntmps15 Try.results15 rfl (by kernel_rfl) fun F hN hlen => ?_
  have hl := hlen 0 4 _ rfl
  have el := len_encQs l
  rw [el, maxLen_eq] at hl
  have w1 : IntKind.i64.wrap (left - (l.length : Int)) = left - (l.length : Int) := wr (by omega) (by omega)
  by_cases c : left < (l.length : Int)
  · have d1 : decide (left - (l.length : Int) < 0) = true := by simp only [decide_eq_true_eq]; omega
    have hv : szSegmentV l left = -1 := if_pos c
    simp only [V_seq, V_ret, V_region, V_cond, brW_true, W_nil, W_cons, effOp2, KN_seq, KXr_nil, KXr_seq, QE, asB, effOp, effPure, pureV, binV, lenV, ofC, strip, lkT, lkH, ISt.app, opI, gO, gB, allB, gval, wrapG, dstOK, setD, clean, enumT, Gives, Ideal.Fin, conv, conv0, Op.operands, Call.operands, List.append_toArray, reduceIte, reduceCtorEq, Nat.reduceLT, Nat.reduceEqDiff, Nat.zero_add, ne_eq, not_false_eq_true, and_self, implies_true, List.nil_append, List.cons_append, List.append_nil, tab22, hN, el, w1, d1, hv]
  · have d1 : decide (left - (l.length : Int) < 0) = false := by simp only [decide_eq_false_iff_not]; omega
    have hv : szSegmentV l left = left - (l.length : Int) := if_neg c
    simp only [V_seq, V_skip, V_ret, V_region, V_cond, brW_false, W_nil, W_cons, effOp2, KN_seq, KXr_nil, QE, asB, effOp, effPure, pureV, binV, lenV, ofC, strip, lkT, lkH, ISt.app, opI, gO, gB, allB, gval, wrapG, dstOK, setD, clean, enumT, Gives, Ideal.Fin, conv, conv0, Op.operands, Call.operands, List.append_toArray, reduceIte, reduceCtorEq, Nat.reduceLT, Nat.reduceEqDiff, Nat.zero_add, ne_eq, not_false_eq_true, and_self, implies_true, List.nil_append, List.cons_append, List.append_nil, tab22, hN, el, w1, d1, hv]
def sp_laws_szSegmentS : PSpec := ⟨fun xs => match xs with | [.sl 4 les, .num .i64 left] => isQs les ∧ ((fun (l : List Qd) (left : Int) => 0 ≤ left) (toQs les) left) ∧ ((fun (l : List Qd) (left : Int) => left ≤ 1048576) (toQs les) left) | _ => False, fun xs => match xs with | [.sl _ les, .num _ left] => (fun (l : List Qd) (left : Int) => .num .i64 (szSegmentV l left)) (toQs les) left | _ => .junk, false⟩
theorem gk_laws_szSegmentS : ∀ args, sp_laws_szSegmentS.pre args → ICall Try.prog 15 args (sp_laws_szSegmentS.val args) := by
  intro args h
  unfold sp_laws_szSegmentS at h ⊢; simp only at h ⊢; split at h
  · obtain ⟨h0, h1, h2⟩ := h
    obtain ⟨l0, rfl⟩ := isQ_ex h0
    simp only [toQs_enc] at *
    exact c_laws_szSegmentS _ _ h1 h2
  · exact h.elim
theorem en_laws_szSegmentS : Enters Try.prog 15 := enters_of Try.func15 (by kernel_rfl) rfl

def g_laws_toSegmentS : List (Nat × PSpec) := [(75, sp_laws_toSegment)]
theorem gok_laws_toSegmentS : GOK Try.prog g_laws_toSegmentS := gok_cons gk_laws_toSegment en_laws_toSegment (gok0)
theorem lk_laws_toSegmentS_laws_toSegment : lkG g_laws_toSegmentS 75 = sp_laws_toSegment := rfl
def h_laws_toSegmentS : List (Nat × HSpec) := []
theorem hok_laws_toSegmentS : HOK Try.prog h_laws_toSegmentS := hok0
theorem c_laws_toSegmentS (l : List Qd) (hsz : l.length ≤ 1048576) : HCall Try.prog 17 [.sl 4 (encQs l)] (sm ([])) (.ref 0 0 l.length true) (sm ([(0, .arr 4 84 (encQs l))])) := by
  refine hcall_V (G := g_laws_toSegmentS) (H := []) [] tabOK mixed gok_laws_toSegmentS hok_laws_toSegmentS Try.func17 rfl Try.ntmps17 Try.results17 rfl (by kernel_rfl) fun F hN hlen => ?_
  simp only [sm]
  have el := len_encQs l
  simp only [V_seq, V_block, V_region, W_nil, W_cons, effOp2, KN_seq, effOp, effPure, effNew, effMake, skipE, pureV, lenV, ofC, strip, lkT, ISt.app, opI, gO, gB, allB, gval, wrapG, dstOK, setD, mentTm, mentHp, IV.ment, zeroElt, noId', enumT, Op.operands, Call.operands, List.append_toArray, reduceIte, reduceCtorEq, cond_true, Bool.or_false, Bool.and_true, Nat.reduceLT, Nat.reduceLeDiff, Nat.reduceEqDiff, ne_eq, not_false_eq_true, true_and, and_true, and_self, implies_true, List.nil_append, List.cons_append, List.append_nil, List.all_cons, List.all_nil, tab22, tab26, tab84, hN, Int.toNat_natCast, el]
  refine ⟨by omega, ?_⟩
  refine V_loop (α := Nat) ⟨tabOK, mixed, gok_laws_toSegmentS, hok_laws_toSegmentS⟩ (by kernel_rfl) (fun i => i ≤ l.length) (fun i => ⟨[(4, .num .i64 i), (3, .ref 7 0 l.length true), (0, .sl 4 (encQs l))], [(7, some (.arr 4 84 (encQs (l.take i ++ List.replicate (l.length - i) ((0, 0), (0, 0))))))]⟩) (fun i => l.length - i) 0 id (Nat.zero_le _) (by simp [SLe, SLe0, convTm, convHp, convB, conv, conv0, lkT, lkH, clean, encQs, encQ]) ?_
  intro i hi
  have hx : ∃ k ty es, IBlk.arr 4 84 (encQs (l.take i ++ List.replicate (l.length - i) ((0, 0), (0, 0)))) = IBlk.arr k ty es := ⟨_, _, _, rfl⟩
  have ex : (encQs (l.take i ++ List.replicate (l.length - i) ((0, 0), (0, 0)))).length = l.length := by rw [len_encQs, List.length_append, List.length_take, List.length_replicate]; omega
  simp only [V_seq, V_region, V_cond, W_nil, W_cons, effOp2, KN_seq, asB, effOp, effPure, pureV, binV, lenV, strip, lkT, ISt.app, opI, gO, gB, allB, gval, wrapG, dstOK, setD, Op.operands, Call.operands, List.append_toArray, reduceIte, reduceCtorEq, Nat.reduceLT, Nat.reduceEqDiff, ne_eq, not_false_eq_true, true_and, and_self, implies_true, List.nil_append, List.cons_append, tab22, hN, el]
  refine brW_some (fun h => ?_) (fun h => ?_)
  · have hi' : i < l.length := by simpa using h
    have g0 := getD_encQs hi'
    have hw := wr_succ hi' (by rw [maxLen_eq]; omega)
    have hset : (l.take i ++ List.replicate (l.length - i) ((0, 0), (0, 0))).set i (qAt l i) = l.take (i + 1) ++ List.replicate (l.length - (i + 1)) ((0, 0), (0, 0)) := by
      rw [List.set_append_right _ _ (by rw [List.length_take]; omega), List.length_take, Nat.min_eq_left (Nat.le_of_lt hi'), Nat.sub_self, show l.length - i = (l.length - (i + 1)) + 1 by omega, List.replicate_succ, List.set_cons_zero, take_succ_g (d := ((0, 0), (0, 0))) hi', List.append_assoc]
      rfl
    have hes := encQs_setZ (l.take i ++ List.replicate (l.length - i) ((0, 0), (0, 0))) i (qAt l i)
    rw [hset] at hes
    simp only [V_seq, V_skip, V_block, V_region, W_nil, W_cons, effOp2, KN_seq, KN_block, KN_back, effOp, effPure, effStore, effCall, giveUp, hasAll, pureV, storeV, binV, partV, eltV, loadV, iaddrV, over, solid, IV.cells, ofC, strip, lkT, lkH, ISt.app, opI, gO, gB, allB, gval, wrapG, dstOK, setD, eltI, oneI, noId', lendV, lendP, lent, lentP, idsV, idsL, lkHS, flat, flatL, clean, cleanL, callArgs, callFn, allLent, Op.operands, reduceIte, reduceCtorEq, cond_true, Bool.or_false, Bool.and_true, Bool.true_and, Bool.not_true, Nat.reduceAdd, Nat.reduceLT, Nat.reduceLeDiff, Nat.reduceEqDiff, Nat.zero_add, ne_eq, not_false_eq_true, true_and, and_true, and_false, and_self, implies_true, forall_const, List.map_cons, List.map_nil, List.nil_append, List.cons_append, List.append_nil, List.all_cons, List.all_nil, List.getD_cons_zero, List.length_cons, List.length_nil, List.take_succ_cons, List.take_zero, List.take_nil, List.drop_zero, ex_clo, or_self, tab22, tab26, tab84, tab90, hN, Int.toNat_natCast, encQ, lk_laws_toSegmentS_laws_toSegment, sp_laws_toSegment, el, g0, hw, ex, hes]
    repeat refine And.intro (by first | omega | (simp; done) | (simp; omega)) ?_
    exact ⟨i + 1, id, by simp only []; omega, by simp only []; omega, by simp [SLe, SLe0, convTm, convHp, convB, conv, conv0, lkT, lkH, clean]⟩
  · have hie : i = l.length := by simp at h; omega
    subst hie
    have hf : l.take l.length ++ List.replicate (l.length - l.length) ((0, 0), (0, 0)) = l := by simp
    rw [hf] at hx ex ⊢
    simp only [V_seq, V_ret, V_exit, V_region, W_nil, W_cons, effOp2, KN_seq, KXr_nil, KXe_nil, KXe_seq, KXe_block, KXe_back, QE, effOp, effPure, Option.isSome_some, pureV, strip, lkT, lkH, ISt.app, opI, gO, gB, allB, gval, wrapG, dstOK, setD, conv, conv0, Op.operands, reduceIte, reduceCtorEq, Nat.reduceLT, Nat.reduceEqDiff, true_and, and_true, and_self, implies_true, List.map_cons, List.map_nil, List.nil_append, List.cons_append, hN, FinH, resA, resV, SLe, SLe0, convTm, convHp, convB]
    exact ⟨fun x => if x = 0 then 7 else x, by simp; omega⟩
def hs_laws_toSegmentS : HSpec := ⟨[true], fun xs hp => match xs, hp with | [.sl 4 es], [] => (isQs es) ∧ ((fun (l : List Qd) => l.length ≤ 1048576) (toQs es)) | _, _ => False, fun xs hp => match xs, hp with | [.sl 4 es], [] => (fun (l : List Qd) => (.ref 0 0 l.length true : IV)) (toQs es) | _, _ => .junk, fun xs hp => match xs, hp with | [.sl 4 es], [] => (fun (l : List Qd) => ([(0, .arr 4 84 (encQs l))] : List (Nat × IBlk))) (toQs es) | _, _ => []⟩
theorem hk_laws_toSegmentS : ∀ args hp, hs_laws_toSegmentS.pre args hp → HCall Try.prog 17 args (sm hp) (hs_laws_toSegmentS.val args hp) (sm (hs_laws_toSegmentS.hval args hp)) := by
  intro args hp h
  unfold hs_laws_toSegmentS at h ⊢; simp only at h ⊢; split at h
  · obtain ⟨h1, h2⟩ := h; obtain ⟨l, rfl⟩ := isQ_ex h1; rw [toQs_enc] at *; exact c_laws_toSegmentS l h2
  · exact h.elim
theorem en_laws_toSegmentS : Enters Try.prog 17 := enters_of Try.func17 (by kernel_rfl) rfl

def g_laws_eqSegment : List (Nat × PSpec) := [(125, sp_laws_eqPoint)]
theorem gok_laws_eqSegment : GOK Try.prog g_laws_eqSegment := gok_cons gk_laws_eqPoint en_laws_eqPoint (gok0)
theorem lk_laws_eqSegment_laws_eqPoint : lkG g_laws_eqSegment 125 = sp_laws_eqPoint := rfl
def h_laws_eqSegment : List (Nat × HSpec) := []
theorem hok_laws_eqSegment : HOK Try.prog h_laws_eqSegment := hok0
theorem c_laws_eqSegment (p : Qd) (q : Qd)  : ICall Try.prog 84 [encQ p, encQ q] (.bool (p == q)) := by
  refine icall_V (G := g_laws_eqSegment) (H := []) [] tabOK mixed gok_laws_eqSegment hok_laws_eqSegment Try.func84 rfl Try.ntmps84 Try.results84 rfl (by kernel_rfl) fun F hN hlen => ?_
  obtain ⟨p1, p2⟩ := p
  obtain ⟨q1, q2⟩ := q
  cases c1 : (p1 == q1) with
  | false =>
    have hv : ((p1, p2) == (q1, q2)) = false := by show ((p1 == q1) && (p2 == q2)) = false; rw [c1]; rfl
    simp only [V_seq, V_ret, V_region, V_cond, brW_true, W_nil, W_cons, effOp2, KN_seq, KXr_nil, KXr_seq, QE, asB, effOp, effPure, effNew, effBox, effCall, giveUp, hasAll, skipE, pureV, partV, loadV, faddrV, solid, IV.cells, ofC, strip, lkT, lkH, ISt.app, opI, gO, gB, allB, gval, wrapG, dstOK, setD, mentTm, mentHp, IV.ment, IV.mentL, oneI, lendV, lendP, lent, lentP, idsV, idsL, lkHS, flat, clean, callArgs, callFn, allLent, enumT, Gives, Ideal.Fin, conv, conv0, IBlk.shape, Op.operands, reduceIte, reduceCtorEq, cond_true, Bool.or_false, Bool.and_true, Bool.not_true, Bool.not_false, Nat.reduceAdd, Nat.reduceLT, Nat.reduceLeDiff, Nat.reduceEqDiff, Nat.reduceBEq, Nat.add_zero, Nat.zero_add, and_false, and_self, implies_true, List.map_cons, List.map_nil, List.nil_append, List.cons_append, List.append_nil, List.all_cons, List.all_nil, Option.map_some, List.getD_cons_zero, List.length_cons, List.length_nil, List.take_succ_cons, List.take_zero, List.drop_zero, ex_clo, or_self, tab35, tab84, hN, pe, encQ, lk_laws_eqSegment_laws_eqPoint, sp_laws_eqPoint, c1, hv]
  | true =>
    cases c2 : (p2 == q2) with
    | false =>
      have hv : ((p1, p2) == (q1, q2)) = false := by show ((p1 == q1) && (p2 == q2)) = false; rw [c1, c2]; rfl
      simp only [V_seq, V_skip, V_ret, V_region, V_cond, brW_true, brW_false, W_nil, W_cons, effOp2, KN_seq, KXr_nil, KXr_seq, QE, asB, effOp, effPure, effNew, effBox, effCall, giveUp, hasAll, skipE, pureV, partV, loadV, faddrV, solid, IV.cells, ofC, strip, lkT, lkH, ISt.app, opI, gO, gB, allB, gval, wrapG, dstOK, setD, mentTm, mentHp, IV.ment, IV.mentL, oneI, lendV, lendP, lent, lentP, idsV, idsL, lkHS, flat, clean, callArgs, callFn, allLent, enumT, Gives, Ideal.Fin, conv, conv0, IBlk.shape, Op.operands, reduceIte, reduceCtorEq, cond_true, Bool.or_false, Bool.and_true, Bool.not_true, Bool.not_false, Nat.reduceAdd, Nat.reduceLT, Nat.reduceLeDiff, Nat.reduceEqDiff, Nat.reduceBEq, Nat.add_zero, Nat.zero_add, and_false, and_self, implies_true, List.map_cons, List.map_nil, List.nil_append, List.cons_append, List.append_nil, List.all_cons, List.all_nil, Option.map_some, List.getD_cons_zero, List.getD_cons_succ, List.length_cons, List.length_nil, List.take_succ_cons, List.take_zero, List.take_nil, List.drop_succ_cons, List.drop_zero, ex_clo, or_self, tab35, tab84, hN, pe, encQ, lk_laws_eqSegment_laws_eqPoint, sp_laws_eqPoint, c1, c2, hv]
    | true =>
      have hv : ((p1, p2) == (q1, q2)) = true := by show ((p1 == q1) && (p2 == q2)) = true; rw [c1, c2]; rfl
      simp only [V_seq, V_skip, V_ret, V_region, V_cond, brW_false, W_nil, W_cons, effOp2, KN_seq, KXr_nil, QE, asB, effOp, effPure, effNew, effBox, effCall, giveUp, hasAll, skipE, pureV, partV, loadV, faddrV, solid, IV.cells, ofC, strip, lkT, lkH, ISt.app, opI, gO, gB, allB, gval, wrapG, dstOK, setD, mentTm, mentHp, IV.ment, IV.mentL, oneI, lendV, lendP, lent, lentP, idsV, idsL, lkHS, flat, clean, callArgs, callFn, allLent, enumT, Gives, Ideal.Fin, conv, conv0, IBlk.shape, Op.operands, reduceIte, reduceCtorEq, cond_true, Bool.or_false, Bool.and_true, Bool.not_true, Nat.reduceAdd, Nat.reduceLT, Nat.reduceLeDiff, Nat.reduceEqDiff, Nat.reduceBEq, Nat.add_zero, Nat.zero_add, and_false, and_self, implies_true, List.map_cons, List.map_nil, List.nil_append, List.cons_append, List.append_nil, List.all_cons, List.all_nil, Option.map_some, List.getD_cons_zero, List.getD_cons_succ, List.length_cons, List.length_nil, List.take_succ_cons, List.take_zero, List.take_nil, List.drop_succ_cons, List.drop_zero, ex_clo, or_self, tab35, tab84, hN, pe, encQ, lk_laws_eqSegment_laws_eqPoint, sp_laws_eqPoint, c1, c2, hv]
def sp_laws_eqSegment : PSpec := ⟨fun xs => match xs with | [.agg [.num .i64 p1, .num .i64 p2, .num .i64 p3, .num .i64 p4], .agg [.num .i64 q1, .num .i64 q2, .num .i64 q3, .num .i64 q4]] => True | _ => False, fun xs => match xs with | [.agg [.num _ p1, .num _ p2, .num _ p3, .num _ p4], .agg [.num _ q1, .num _ q2, .num _ q3, .num _ q4]] => (fun (p : Qd) (q : Qd) => .bool (p == q)) ((p1, p2), (p3, p4)) ((q1, q2), (q3, q4)) | _ => .junk, false⟩
theorem gk_laws_eqSegment : ∀ args, sp_laws_eqSegment.pre args → ICall Try.prog 84 args (sp_laws_eqSegment.val args) := by
  intro args h
  unfold sp_laws_eqSegment at h ⊢; simp only at h ⊢; split at h
  · exact c_laws_eqSegment ((_, _), (_, _)) ((_, _), (_, _))
  · exact h.elim
theorem en_laws_eqSegment : Enters Try.prog 84 := enters_of Try.func84 (by kernel_rfl) rfl

def g_laws_eqSegmentS : List (Nat × PSpec) := [(84, sp_laws_eqSegment)]
theorem gok_laws_eqSegmentS : GOK Try.prog g_laws_eqSegmentS := gok_cons gk_laws_eqSegment en_laws_eqSegment (gok0)
theorem lk_laws_eqSegmentS_laws_eqSegment : lkG g_laws_eqSegmentS 84 = sp_laws_eqSegment := rfl
def h_laws_eqSegmentS : List (Nat × HSpec) := []
theorem hok_laws_eqSegmentS : HOK Try.prog h_laws_eqSegmentS := hok0
theorem c_laws_eqSegmentS (a : List Qd) (b : List Qd)  : ICall Try.prog 20 [.sl 4 (encQs a), .sl 4 (encQs b)] (.bool (a == b)) := by
  refine icall_V (G := g_laws_eqSegmentS) (H := []) [(6, [(0, 8), (1, 8), (2, 8), (4, 8), (5, 8), (6, 8)])] tabOK mixed gok_laws_eqSegmentS hok_laws_eqSegmentS Try.func20 rfl Try.ntmps20 Try.results20 rfl (by kernel_rfl) fun F hN hlen => ?_
  have la := hlen 0 4 _ rfl
  have lb := hlen 1 4 _ rfl
  have ea := len_encQs a
  have eb := len_encQs b
  rw [ea] at la
  rw [eb] at lb
  simp only [V_seq, V_region, V_cond, W_nil, W_cons, effOp2, KN_seq, asB, effOp, effPure, pureV, binV, lenV, ofC, strip, lkT, ISt.app, opI, gO, gB, allB, gval, wrapG, dstOK, setD, enumT, Op.operands, Call.operands, List.append_toArray, reduceIte, reduceCtorEq, Nat.reduceLT, Nat.reduceEqDiff, Nat.zero_add, ne_eq, not_false_eq_true, true_and, and_self, implies_true, List.nil_append, List.cons_append, List.append_nil, tab26, hN, ea, eb]
  refine brW_some (fun h => ?_) (fun h => ?_)
  · simp only [V_seq, V_ret, V_region, W_nil, W_cons, effOp2, KN_seq, KXr_nil, KXr_seq, QE, effOp, effPure, pureV, ofC, strip, lkT, lkH, ISt.app, opI, gO, gB, allB, gval, wrapG, dstOK, setD, clean, Gives, Ideal.Fin, conv, conv0, Op.operands, reduceIte, reduceCtorEq, Nat.reduceLT, Nat.reduceEqDiff, true_and, and_true, and_self, implies_true, List.nil_append, List.cons_append, List.append_nil, hN]
    have : a ≠ b := by rintro rfl; simp at h
    simp [this]
  · simp only [V_seq, V_skip, V_block, V_region, W_nil, W_cons, effOp2, KN_seq, effOp, effPure, pureV, ofC, strip, ISt.app, opI, gO, gB, allB, gval, wrapG, dstOK, setD, Op.operands, Nat.reduceLT, true_and, and_self, implies_true, List.nil_append, List.cons_append, List.append_nil, hN]
    have hab : a.length = b.length := by simp at h; omega
    refine V_loop (α := Nat) ⟨tabOK, mixed, gok_laws_eqSegmentS, hok_laws_eqSegmentS⟩ (by kernel_rfl) (fun i => i ≤ a.length ∧ ∀ j, j < i → qAt a j = qAt b j) (fun i => ⟨[(5, .num .i64 i), (0, .sl 4 (encQs a)), (1, .sl 4 (encQs b))], []⟩) (fun i => a.length - i) 0 id (by simp) (by simp [SLe, SLe0, convTm, convHp, conv, conv0, lkT, lkH, clean]) ?_
    rintro i ⟨hi, hj⟩
    simp only [V_seq, V_region, V_cond, W_nil, W_cons, effOp2, KN_seq, asB, effOp, effPure, pureV, binV, lenV, strip, lkT, ISt.app, opI, gO, gB, allB, gval, wrapG, dstOK, setD, Op.operands, Call.operands, List.append_toArray, reduceIte, reduceCtorEq, Nat.reduceLT, Nat.reduceEqDiff, ne_eq, not_false_eq_true, true_and, and_self, implies_true, List.nil_append, List.cons_append, List.append_nil, tab26, hN, ea]
    refine brW_some (fun h => ?_) (fun h => ?_)
    · have hi' : i < a.length := by simpa using h
      have g1 := getD_encQs hi'
      have g2 := getD_encQs (hab ▸ hi' : i < b.length)
      have hw := wr_succ hi' la
      simp only [V_seq, V_skip, V_block, V_draw, V_cond, drawW, WS_nil, pairsOf, W_nil, W_cons, effOp2, WI_nil, WI_cons, KN_seq, dynOK, indB, farB, freshB, heapy, asB, effOp, effPure, effCall, giveUp, hasAll, pureV, partV, eltV, loadV, iaddrV, strip, lkT, lkH, ISt.app, opI, gO, gB, allB, gval, wrapG, dstOK, setD, mentTm, mentHp, IV.ment, lendV, lendP, lent, lentP, idsV, idsL, lkHS, flat, clean, callArgs, callFn, allLent, Op.operands, Call.operands, List.append_toArray, reduceIte, reduceCtorEq, cond_true, cond_false, Bool.or_false, Bool.and_true, Bool.and_eq_true, Bool.not_true, Bool.not_false, Nat.reduceAdd, Nat.reduceLT, Nat.reduceLeDiff, Nat.reduceEqDiff, Nat.reduceBEq, Nat.zero_add, ne_eq, not_false_eq_true, true_and, and_true, and_false, and_self, implies_true, forall_const, List.map_cons, List.map_nil, List.nil_append, List.cons_append, List.append_nil, List.getD_cons_zero, List.getD_cons_succ, List.length_cons, List.length_nil, List.take_succ_cons, List.take_zero, List.take_nil, List.drop_zero, ex_clo, or_self, tab26, tab84, hN, pe, Int.toNat_natCast, lk_laws_eqSegmentS_laws_eqSegment, sp_laws_eqSegment, ea, eb, Int.toNat_natCast, g1, g2]
      repeat refine And.intro (by omega) ?_
      refine brW_some (fun h => ?_) (fun h => ?_)
      · simp only [V_seq, V_ret, V_region, W_nil, W_cons, effOp2, KN_seq, KXr_nil, KXr_seq, KXr_block, KXr_back, QE, effOp, effPure, pureV, ofC, strip, lkT, lkH, ISt.app, opI, gO, gB, allB, gval, wrapG, dstOK, setD, clean, Gives, Ideal.Fin, conv, conv0, Op.operands, reduceIte, reduceCtorEq, Nat.reduceLT, Nat.reduceEqDiff, true_and, and_true, and_self, implies_true, List.nil_append, List.cons_append, List.append_nil, hN]
        have : a ≠ b := by rintro rfl; simp at h
        simp [this]
      · simp only [V_skip, V_region, W_nil, W_cons, effOp2, KN_seq, KN_block, KN_back, effOp, effPure, pureV, binV, ofC, strip, lkT, ISt.app, opI, gO, gB, allB, gval, wrapG, dstOK, setD, Op.operands, reduceIte, reduceCtorEq, Nat.reduceLT, Nat.reduceEqDiff, true_and, and_self, implies_true, List.nil_append, List.cons_append, List.append_nil, hN, hw]
        refine ⟨i + 1, id, ⟨by omega, ?_⟩, by simp only []; omega, by simp [SLe, SLe0, convTm, convHp, conv, conv0, lkT, lkH, clean]⟩
        intro j hj'
        rcases Nat.lt_succ_iff_lt_or_eq.1 hj' with h' | rfl
        · exact hj j h'
        · simpa using h
    · simp only [V_seq, V_ret, V_exit, V_region, W_nil, W_cons, effOp2, KN_seq, KXr_nil, KXe_nil, KXe_seq, KXe_block, KXe_back, QE, effOp, effPure, pureV, ofC, strip, lkT, lkH, ISt.app, opI, gO, gB, allB, gval, wrapG, dstOK, setD, clean, Gives, Ideal.Fin, conv, conv0, Op.operands, reduceIte, reduceCtorEq, Nat.reduceLT, Nat.reduceEqDiff, true_and, and_true, and_self, implies_true, List.nil_append, List.cons_append, List.append_nil, hN]
      have hie : i = a.length := by simp at h; omega
      have : a = b := eq_of_getD hab (fun j h' => hj j (by omega))
      simp [this]
def sp_laws_eqSegmentS : PSpec := ⟨fun xs => match xs with | [.sl 4 aes, .sl 4 bes] => isQs aes ∧ isQs bes | _ => False, fun xs => match xs with | [.sl _ aes, .sl _ bes] => (fun (a : List Qd) (b : List Qd) => .bool (a == b)) (toQs aes) (toQs bes) | _ => .junk, false⟩
theorem gk_laws_eqSegmentS : ∀ args, sp_laws_eqSegmentS.pre args → ICall Try.prog 20 args (sp_laws_eqSegmentS.val args) := by
  intro args h
  unfold sp_laws_eqSegmentS at h ⊢; simp only at h ⊢; split at h
  · obtain ⟨h0, h1⟩ := h
    obtain ⟨l0, rfl⟩ := isQ_ex h0
    obtain ⟨l1, rfl⟩ := isQ_ex h1
    simp only [toQs_enc] at *
    exact c_laws_eqSegmentS _ _ 
  · exact h.elim
theorem en_laws_eqSegmentS : Enters Try.prog 20 := enters_of Try.func20 (by kernel_rfl) rfl

def g_laws_markSegmentS : List (Nat × PSpec) := []
theorem gok_laws_markSegmentS : GOK Try.prog g_laws_markSegmentS := gok0
def h_laws_markSegmentS : List (Nat × HSpec) := []
theorem hok_laws_markSegmentS : HOK Try.prog h_laws_markSegmentS := hok0
theorem c_laws_markSegmentS (l : List Qd) (k : Int) (full : Bool) (hsz : l.length ≤ 2000000) (h0 : 0 ≤ k) (h1 : k ≤ 2000000) : HCall Try.prog 21 [.ref 1000 0 l.length full, .num .i64 k] (sm ([(1000, .arr 4 84 (encQs l))])) (.num .i64 (k + 4 * (l.length : Int))) (sm ([(1000, .arr 4 84 (encQs (marksQ l.length k)))])) := by
  refine hcall_V (G := g_laws_markSegmentS) (H := []) [] tabOK mixed gok_laws_markSegmentS hok_laws_markSegmentS Try.func21 rfl Try.ntmps21 Try.results21 rfl (by kernel_rfl) fun F hN hlen => ?_
  simp only [sm]
  have hx : ∃ k ty es, IBlk.arr 4 84 (encQs l) = IBlk.arr k ty es := ⟨_, _, _, rfl⟩
  simp only [V_seq, V_block, V_region, W_nil, W_cons, effOp2, KN_seq, effOp, effPure, pureV, ofC, strip, ISt.app, opI, gO, gB, allB, gval, wrapG, dstOK, setD, enumT, Op.operands, Nat.reduceLT, Nat.zero_add, true_and, and_self, implies_true, List.nil_append, List.cons_append, hN]
  refine V_loop (α := Nat × List Qd) ⟨tabOK, mixed, gok_laws_markSegmentS, hok_laws_markSegmentS⟩ (by kernel_rfl) (fun b => b.1 ≤ l.length ∧ b.2.length = l.length ∧ ∀ j, j < b.1 → qAt b.2 j = ((k + 4 * j, k + 4 * j + 1), (k + 4 * j + 2, k + 4 * j + 3))) (fun b => ⟨[(5, .num .i64 b.1), (0, .ref 1000 0 l.length full), (1, .num .i64 (k + 4 * (b.1 : Int)))], [(1000, some (.arr 4 84 (encQs b.2)))]⟩) (fun b => l.length - b.1) (0, l) id ⟨by simp, rfl, fun j h => absurd h (Nat.not_lt_zero j)⟩ (by simp [SLe, SLe0, convTm, convHp, convB, conv, conv0, lkT, lkH, clean, List.take_length]) ?_
  rintro ⟨i, m⟩ ⟨hi, hl, hj⟩
  simp only [] at hi hl hj
  have em := len_encQs m
  rw [hl] at em
  have hx : ∃ k ty es, IBlk.arr 4 84 (encQs m) = IBlk.arr k ty es := ⟨_, _, _, rfl⟩
  simp only [V_seq, V_region, V_cond, W_nil, W_cons, effOp2, KN_seq, asB, effOp, effPure, pureV, binV, lenV, strip, lkT, ISt.app, opI, gO, gB, allB, gval, wrapG, dstOK, setD, Op.operands, Call.operands, List.append_toArray, reduceIte, reduceCtorEq, Nat.reduceLT, Nat.reduceEqDiff, ne_eq, not_false_eq_true, true_and, and_self, implies_true, List.nil_append, List.cons_append, tab26, hN]
  refine brW_some (fun h => ?_) (fun h => ?_)
  · have hi' : i < l.length := by simpa using h
    have hw := wr_succ hi' (by rw [maxLen_eq]; omega)
    have g0 := getD_encQs (l := m) (i := i) (by omega)
    obtain ⟨K, hK⟩ : ∃ K, k + 4 * (i : Int) = K := ⟨_, rfl⟩
    obtain ⟨v0, hv0⟩ : ∃ v, qAt m i = v := ⟨_, rfl⟩
    rw [hv0] at g0
    have w1 : IntKind.i64.wrap (K + 1) = K + 1 := by rw [wr (by omega) (by omega)]
    have w2 : IntKind.i64.wrap (K + 1 + 1) = K + 2 := by rw [wr (by omega) (by omega)]; omega
    have w3 : IntKind.i64.wrap (K + 2 + 1) = K + 3 := by rw [wr (by omega) (by omega)]; omega
    have w4 : IntKind.i64.wrap (K + 3 + 1) = k + 4 * ((i + 1 : Nat) : Int) := by rw [wr (by omega) (by omega)]; omega
    have e1 : (encQs m).set i (.agg [.num .i64 (K), .num .i64 (v0.1.2), .num .i64 (v0.2.1), .num .i64 (v0.2.2)]) = encQs (m.set i ((K, v0.1.2), (v0.2.1, v0.2.2))) := encQs_setZ m i ((K, v0.1.2), (v0.2.1, v0.2.2))
    obtain ⟨m1, hm1⟩ : ∃ z, m.set i ((K, v0.1.2), (v0.2.1, v0.2.2)) = z := ⟨_, rfl⟩
    have l1 : m1.length = l.length := by rw [← hm1]; simp; omega
    have a1 : qAt m1 i = ((K, v0.1.2), (v0.2.1, v0.2.2)) := by rw [← hm1]; simp [show i < m.length by omega]
    have b1 : ∀ j, i ≠ j → qAt m1 j = qAt m j := fun j hne => by rw [← hm1]; simp [List.getElem?_set_ne hne]
    rw [hm1] at e1
    have g1 := getD_encQs (l := m1) (i := i) (by omega)
    rw [a1] at g1
    have hx1 : ∃ k ty es, IBlk.arr 4 84 (encQs m1) = IBlk.arr k ty es := ⟨_, _, _, rfl⟩
    have em1 := len_encQs m1
    rw [l1] at em1
    have e2 : (encQs m1).set i (.agg [.num .i64 (K), .num .i64 (K + 1), .num .i64 (v0.2.1), .num .i64 (v0.2.2)]) = encQs (m1.set i ((K, K + 1), (v0.2.1, v0.2.2))) := encQs_setZ m1 i ((K, K + 1), (v0.2.1, v0.2.2))
    obtain ⟨m2, hm2⟩ : ∃ z, m1.set i ((K, K + 1), (v0.2.1, v0.2.2)) = z := ⟨_, rfl⟩
    have l2 : m2.length = l.length := by rw [← hm2]; simp; omega
    have a2 : qAt m2 i = ((K, K + 1), (v0.2.1, v0.2.2)) := by rw [← hm2]; simp [show i < m1.length by omega]
    have b2 : ∀ j, i ≠ j → qAt m2 j = qAt m1 j := fun j hne => by rw [← hm2]; simp [List.getElem?_set_ne hne]
    rw [hm2] at e2
    have g2 := getD_encQs (l := m2) (i := i) (by omega)
    rw [a2] at g2
    have hx2 : ∃ k ty es, IBlk.arr 4 84 (encQs m2) = IBlk.arr k ty es := ⟨_, _, _, rfl⟩
    have em2 := len_encQs m2
    rw [l2] at em2
    have e3 : (encQs m2).set i (.agg [.num .i64 (K), .num .i64 (K + 1), .num .i64 (K + 2), .num .i64 (v0.2.2)]) = encQs (m2.set i ((K, K + 1), (K + 2, v0.2.2))) := encQs_setZ m2 i ((K, K + 1), (K + 2, v0.2.2))
    obtain ⟨m3, hm3⟩ : ∃ z, m2.set i ((K, K + 1), (K + 2, v0.2.2)) = z := ⟨_, rfl⟩
    have l3 : m3.length = l.length := by rw [← hm3]; simp; omega
    have a3 : qAt m3 i = ((K, K + 1), (K + 2, v0.2.2)) := by rw [← hm3]; simp [show i < m2.length by omega]
    have b3 : ∀ j, i ≠ j → qAt m3 j = qAt m2 j := fun j hne => by rw [← hm3]; simp [List.getElem?_set_ne hne]
    rw [hm3] at e3
    have g3 := getD_encQs (l := m3) (i := i) (by omega)
    rw [a3] at g3
    have hx3 : ∃ k ty es, IBlk.arr 4 84 (encQs m3) = IBlk.arr k ty es := ⟨_, _, _, rfl⟩
    have em3 := len_encQs m3
    rw [l3] at em3
    have e4 : (encQs m3).set i (.agg [.num .i64 (K), .num .i64 (K + 1), .num .i64 (K + 2), .num .i64 (K + 3)]) = encQs (m3.set i ((K, K + 1), (K + 2, K + 3))) := encQs_setZ m3 i ((K, K + 1), (K + 2, K + 3))
    obtain ⟨m4, hm4⟩ : ∃ z, m3.set i ((K, K + 1), (K + 2, K + 3)) = z := ⟨_, rfl⟩
    have l4 : m4.length = l.length := by rw [← hm4]; simp; omega
    have a4 : qAt m4 i = ((K, K + 1), (K + 2, K + 3)) := by rw [← hm4]; simp [show i < m3.length by omega]
    have b4 : ∀ j, i ≠ j → qAt m4 j = qAt m3 j := fun j hne => by rw [← hm4]; simp [List.getElem?_set_ne hne]
    rw [hm4] at e4
    have ej : ∀ j, j < i + 1 → qAt m4 j = ((k + 4 * j, k + 4 * j + 1), (k + 4 * j + 2, k + 4 * j + 3)) := by
      intro j hj'
      by_cases c : i = j
      · subst c; rw [a4, ← hK]
      · rw [b4 j c, b3 j c, b2 j c, b1 j c]; exact hj j (by omega)
    simp only [V_seq, V_skip, V_block, V_region, W_nil, W_cons, effOp2, KN_seq, KN_block, KN_back, effOp, effPure, effStore, pureV, storeV, binV, faddrV, iaddrV, over, solid, IV.cells, ofC, strip, lkT, lkH, ISt.app, opI, gO, gB, allB, gval, wrapG, dstOK, setD, eltI, oneI, noId', Op.operands, reduceIte, reduceCtorEq, cond_true, Bool.and_true, Nat.reduceAdd, Nat.reduceLT, Nat.reduceLeDiff, Nat.reduceEqDiff, Nat.add_zero, Nat.zero_add, ne_eq, not_false_eq_true, true_and, and_true, false_and, and_false, and_self, implies_true, forall_const, List.nil_append, List.cons_append, List.append_nil, List.all_cons, List.all_nil, Option.some.injEq, List.getD_cons_zero, List.getD_cons_succ, List.length_cons, List.length_nil, List.take_succ_cons, List.take_zero, List.drop_succ_cons, List.drop_zero, List.drop_nil, tab3, tab26, tab35, tab84, hN, Int.toNat_natCast, hK, hx, hw, em, g0, w1, w2, w3, w4, e1, g1, hx1, em1, e2, g2, hx2, em2, e3, g3, hx3, em3, e4]
    repeat refine And.intro (by first | omega | (simp; done) | (simp; omega)) ?_
    exact ⟨(i + 1, m4), id, ⟨by simp only []; omega, by simp only []; omega, ej⟩, by simp only []; omega, by simp [SLe, SLe0, convTm, convHp, convB, conv, conv0, lkT, lkH, clean, List.take_length]⟩
  · have hie : i = l.length := by simp at h; omega
    subst hie
    have hm : m = marksQ l.length k := eq_of_getD (d := ((0, 0), (0, 0))) (by rw [hl, marksQ_len]) (fun j h' => (hj j (by omega)).trans (marksQ_at _ _ _ (by omega)).symm)
    subst hm
    simp only [V_seq, V_ret, V_exit, V_region, W_nil, W_cons, effOp2, KN_seq, KXr_nil, KXe_nil, KXe_seq, KXe_block, KXe_back, QE, effOp, effPure, pureV, strip, lkT, lkH, ISt.app, opI, gO, gB, allB, gval, wrapG, dstOK, setD, clean, conv, conv0, Op.operands, reduceIte, reduceCtorEq, Nat.reduceLT, Nat.reduceEqDiff, true_and, and_true, and_self, implies_true, List.map_cons, List.map_nil, List.nil_append, List.cons_append, hN, FinH, resA, resV, SLe, SLe0, convTm, convHp, convB]
    exact ⟨id, by simp⟩
def hs_laws_markSegmentS : HSpec := ⟨[false, false], fun xs hp => match xs, hp with | [.ref 1000 0 n full, .num .i64 k], [(1000, .arr 4 ty es)] => (isQs es) ∧ (ty = 84) ∧ (n = es.length) ∧ ((fun (l : List Qd) (k : Int) (full : Bool) => l.length ≤ 2000000) (toQs es) k full) ∧ ((fun (l : List Qd) (k : Int) (full : Bool) => 0 ≤ k) (toQs es) k full) ∧ ((fun (l : List Qd) (k : Int) (full : Bool) => k ≤ 2000000) (toQs es) k full) | _, _ => False, fun xs hp => match xs, hp with | [.ref 1000 0 n full, .num .i64 k], [(1000, .arr 4 ty es)] => (fun (l : List Qd) (k : Int) (full : Bool) => (.num .i64 (k + 4 * (l.length : Int)) : IV)) (toQs es) k full | _, _ => .junk, fun xs hp => match xs, hp with | [.ref 1000 0 n full, .num .i64 k], [(1000, .arr 4 ty es)] => (fun (l : List Qd) (k : Int) (full : Bool) => ([(1000, .arr 4 84 (encQs (marksQ l.length k)))] : List (Nat × IBlk))) (toQs es) k full | _, _ => []⟩
theorem hk_laws_markSegmentS : ∀ args hp, hs_laws_markSegmentS.pre args hp → HCall Try.prog 21 args (sm hp) (hs_laws_markSegmentS.val args hp) (sm (hs_laws_markSegmentS.hval args hp)) := by
  intro args hp h
  unfold hs_laws_markSegmentS at h ⊢; simp only at h ⊢; split at h
  · obtain ⟨h1, rfl, rfl, h2, h3, h4⟩ := h; obtain ⟨l, rfl⟩ := isQ_ex h1; rw [toQs_enc] at *; rw [len_encQs]; exact c_laws_markSegmentS l _ _ h2 h3 h4
  · exact h.elim
theorem en_laws_markSegmentS : Enters Try.prog 21 := enters_of Try.func21 (by kernel_rfl) rfl

def g_e_excrs_a : List (Nat × PSpec) := [(15, sp_laws_szSegmentS), (16, sp_spec_CrossingPoints), (18, sp_impl_CrossingPoints_e), (20, sp_laws_eqSegmentS), (19, sp_laws_eqRatPointS), (23, sp_laws_heldRatPointS)]
theorem gok_e_excrs_a : GOK Try.prog g_e_excrs_a := gok_cons gk_laws_szSegmentS en_laws_szSegmentS (gok_cons gk_spec_CrossingPoints en_spec_CrossingPoints (gok_consO gk_impl_CrossingPoints_e en_impl_CrossingPoints_e (gok_cons gk_laws_eqSegmentS en_laws_eqSegmentS (gok_cons gk_laws_eqRatPointS en_laws_eqRatPointS (gok_cons gk_laws_heldRatPointS en_laws_heldRatPointS (gok0))))))
theorem lk_e_excrs_a_laws_szSegmentS : lkG g_e_excrs_a 15 = sp_laws_szSegmentS := rfl
theorem lk_e_excrs_a_spec_CrossingPoints : lkG g_e_excrs_a 16 = sp_spec_CrossingPoints := rfl
theorem lk_e_excrs_a_impl_CrossingPoints_e : lkG g_e_excrs_a 18 = sp_impl_CrossingPoints_e := rfl
theorem lk_e_excrs_a_laws_eqSegmentS : lkG g_e_excrs_a 20 = sp_laws_eqSegmentS := rfl
theorem lk_e_excrs_a_laws_eqRatPointS : lkG g_e_excrs_a 19 = sp_laws_eqRatPointS := rfl
theorem lk_e_excrs_a_laws_heldRatPointS : lkG g_e_excrs_a 23 = sp_laws_heldRatPointS := rfl
def h_e_excrs_a : List (Nat × HSpec) := [(17, hs_laws_toSegmentS), (21, hs_laws_markSegmentS), (22, hs_laws_markRatPointS_or)]
theorem hok_e_excrs_a : HOK Try.prog h_e_excrs_a := hok_cons hk_laws_toSegmentS en_laws_toSegmentS (hok_cons hk_laws_markSegmentS en_laws_markSegmentS (hok_cons hk_laws_markRatPointS_or en_laws_markRatPointS_or (hok0)))
theorem lh_e_excrs_a_laws_szSegmentS : lkHS h_e_excrs_a 15 = none := rfl
theorem lh_e_excrs_a_spec_CrossingPoints : lkHS h_e_excrs_a 16 = none := rfl
theorem lh_e_excrs_a_impl_CrossingPoints_e : lkHS h_e_excrs_a 18 = none := rfl
theorem lh_e_excrs_a_laws_eqSegmentS : lkHS h_e_excrs_a 20 = none := rfl
theorem lh_e_excrs_a_laws_eqRatPointS : lkHS h_e_excrs_a 19 = none := rfl
theorem lh_e_excrs_a_laws_heldRatPointS : lkHS h_e_excrs_a 23 = none := rfl
theorem lh_e_excrs_a_laws_toSegmentS : lkHS h_e_excrs_a 17 = some hs_laws_toSegmentS := rfl
theorem lh_e_excrs_a_laws_markSegmentS : lkHS h_e_excrs_a 21 = some hs_laws_markSegmentS := rfl
theorem lh_e_excrs_a_laws_markRatPointS_or : lkHS h_e_excrs_a 22 = some hs_laws_markRatPointS_or := rfl
def g_e_excrs_b : List (Nat × PSpec) := [(15, sp_laws_szSegmentS), (16, sp_spec_CrossingPoints), (20, sp_laws_eqSegmentS), (19, sp_laws_eqRatPointS), (23, sp_laws_heldRatPointS)]
theorem gok_e_excrs_b : GOK Try.prog g_e_excrs_b := gok_cons gk_laws_szSegmentS en_laws_szSegmentS (gok_cons gk_spec_CrossingPoints en_spec_CrossingPoints (gok_cons gk_laws_eqSegmentS en_laws_eqSegmentS (gok_cons gk_laws_eqRatPointS en_laws_eqRatPointS (gok_cons gk_laws_heldRatPointS en_laws_heldRatPointS (gok0)))))
theorem lk_e_excrs_b_laws_szSegmentS : lkG g_e_excrs_b 15 = sp_laws_szSegmentS := rfl
theorem lk_e_excrs_b_spec_CrossingPoints : lkG g_e_excrs_b 16 = sp_spec_CrossingPoints := rfl
theorem lk_e_excrs_b_laws_eqSegmentS : lkG g_e_excrs_b 20 = sp_laws_eqSegmentS := rfl
theorem lk_e_excrs_b_laws_eqRatPointS : lkG g_e_excrs_b 19 = sp_laws_eqRatPointS := rfl
theorem lk_e_excrs_b_laws_heldRatPointS : lkG g_e_excrs_b 23 = sp_laws_heldRatPointS := rfl
def h_e_excrs_b : List (Nat × HSpec) := [(17, hs_laws_toSegmentS), (18, hs_impl_CrossingPoints_h), (21, hs_laws_markSegmentS), (22, hs_laws_markRatPointS)]
theorem hok_e_excrs_b : HOK Try.prog h_e_excrs_b := hok_cons hk_laws_toSegmentS en_laws_toSegmentS (hok_cons hk_impl_CrossingPoints_h en_impl_CrossingPoints_h (hok_cons hk_laws_markSegmentS en_laws_markSegmentS (hok_cons hk_laws_markRatPointS en_laws_markRatPointS (hok0))))
theorem lh_e_excrs_b_laws_szSegmentS : lkHS h_e_excrs_b 15 = none := rfl
theorem lh_e_excrs_b_spec_CrossingPoints : lkHS h_e_excrs_b 16 = none := rfl
theorem lh_e_excrs_b_laws_eqSegmentS : lkHS h_e_excrs_b 20 = none := rfl
theorem lh_e_excrs_b_laws_eqRatPointS : lkHS h_e_excrs_b 19 = none := rfl
theorem lh_e_excrs_b_laws_heldRatPointS : lkHS h_e_excrs_b 23 = none := rfl
theorem lh_e_excrs_b_laws_toSegmentS : lkHS h_e_excrs_b 17 = some hs_laws_toSegmentS := rfl
theorem lh_e_excrs_b_impl_CrossingPoints_h : lkHS h_e_excrs_b 18 = some hs_impl_CrossingPoints_h := rfl
theorem lh_e_excrs_b_laws_markSegmentS : lkHS h_e_excrs_b 21 = some hs_laws_markSegmentS := rfl
theorem lh_e_excrs_b_laws_markRatPointS : lkHS h_e_excrs_b 22 = some hs_laws_markRatPointS := rfl
def g_laws_FnExactCrossingPoints : List (Nat × PSpec) := [(15, sp_laws_szSegmentS), (16, sp_spec_CrossingPoints), (19, sp_laws_eqRatPointS), (20, sp_laws_eqSegmentS), (23, sp_laws_heldRatPointS)]
theorem gok_laws_FnExactCrossingPoints : GOK Try.prog g_laws_FnExactCrossingPoints := gok_cons gk_laws_szSegmentS en_laws_szSegmentS (gok_cons gk_spec_CrossingPoints en_spec_CrossingPoints (gok_cons gk_laws_eqRatPointS en_laws_eqRatPointS (gok_cons gk_laws_eqSegmentS en_laws_eqSegmentS (gok_cons gk_laws_heldRatPointS en_laws_heldRatPointS (gok0)))))
theorem lk_laws_FnExactCrossingPoints_laws_szSegmentS : lkG g_laws_FnExactCrossingPoints 15 = sp_laws_szSegmentS := rfl
theorem lk_laws_FnExactCrossingPoints_spec_CrossingPoints : lkG g_laws_FnExactCrossingPoints 16 = sp_spec_CrossingPoints := rfl
theorem lk_laws_FnExactCrossingPoints_laws_eqRatPointS : lkG g_laws_FnExactCrossingPoints 19 = sp_laws_eqRatPointS := rfl
theorem lk_laws_FnExactCrossingPoints_laws_eqSegmentS : lkG g_laws_FnExactCrossingPoints 20 = sp_laws_eqSegmentS := rfl
theorem lk_laws_FnExactCrossingPoints_laws_heldRatPointS : lkG g_laws_FnExactCrossingPoints 23 = sp_laws_heldRatPointS := rfl
def h_laws_FnExactCrossingPoints : List (Nat × HSpec) := [(17, hs_laws_toSegmentS), (21, hs_laws_markSegmentS), (22, hs_laws_markRatPointS)]
theorem hok_laws_FnExactCrossingPoints : HOK Try.prog h_laws_FnExactCrossingPoints := hok_cons hk_laws_toSegmentS en_laws_toSegmentS (hok_cons hk_laws_markSegmentS en_laws_markSegmentS (hok_cons hk_laws_markRatPointS en_laws_markRatPointS (hok0)))
theorem lh_laws_FnExactCrossingPoints_laws_szSegmentS : lkHS h_laws_FnExactCrossingPoints 15 = none := rfl
theorem lh_laws_FnExactCrossingPoints_spec_CrossingPoints : lkHS h_laws_FnExactCrossingPoints 16 = none := rfl
theorem lh_laws_FnExactCrossingPoints_laws_eqRatPointS : lkHS h_laws_FnExactCrossingPoints 19 = none := rfl
theorem lh_laws_FnExactCrossingPoints_laws_eqSegmentS : lkHS h_laws_FnExactCrossingPoints 20 = none := rfl
theorem lh_laws_FnExactCrossingPoints_laws_heldRatPointS : lkHS h_laws_FnExactCrossingPoints 23 = none := rfl
theorem lh_laws_FnExactCrossingPoints_laws_toSegmentS : lkHS h_laws_FnExactCrossingPoints 17 = some hs_laws_toSegmentS := rfl
theorem lh_laws_FnExactCrossingPoints_laws_markSegmentS : lkHS h_laws_FnExactCrossingPoints 21 = some hs_laws_markSegmentS := rfl
theorem lh_laws_FnExactCrossingPoints_laws_markRatPointS : lkHS h_laws_FnExactCrossingPoints 22 = some hs_laws_markRatPointS := rfl
theorem c_laws_FnExactCrossingPoints (l : List Qd)  : ICall Try.prog 3 [.sl 4 (encQs l)] (.bool true) := by
  have hs2 : ∀ x : List Qd, (x == x) = true := fun x => by simp
  have hn : ∀ x : Int, (x != x) = false := fun x => by simp
  cases hc : okSs l with
  | true =>
    have hcv : crsV l = crsP l := by rw [crsV, hc]; rfl
    refine icall_V (G := g_e_excrs_b) (H := h_e_excrs_b) [] tabOK mixed gok_e_excrs_b hok_e_excrs_b Try.func3 rfl Try.ntmps3 Try.results3 rfl (by kernel_rfl) fun F hN hlen => ?_
    have el := len_encQs l
    have hl := okSs_len hc
    have hh : (crsP l).length ≤ 1000 := by
      have h1 := fold_len ((prs l.length l.length).flatMap (crF l)) []
      have h2 := flat_len l (prs l.length l.length)
      have h3 := prs_len l.length l.length
      have h4 : l.length * l.length ≤ 12 * 12 := Nat.mul_le_mul hl hl
      rw [List.length_nil] at h1
      unfold crsP; omega
    have c : l.length ≤ 1048576 := by omega
    have c2 : l.length ≤ 2000000 := by omega
    have c3 : (crsP l).length ≤ 2000000 := by omega
    have hv : szSegmentV l 1048576 = 1048576 - (l.length : Int) := if_neg (by omega)
    have d1 : decide (1048576 - (l.length : Int) < 0) = false := by simp only [decide_eq_false_iff_not]; omega
    have d2 : decide (1 + 4 * (l.length : Int) < 0) = false := by simp only [decide_eq_false_iff_not]; omega
    have d3 : decide (1 + 4 * ((crsP l).length : Int) < 0) = false := by simp only [decide_eq_false_iff_not]; omega
    have eh := len_encQs (crsP l)
    have em1 := len_encQs (marksQ l.length 1)
    have em2 := len_encQs (marksQ (crsP l).length 1)
    rw [marksQ_len] at em1 em2
    have ml := marksQ_len l.length 1
    have ml2 := marksQ_len (crsP l).length 1
    have hd := heldQ_marks (crsP l).length 1
    have tk : (encQs (marksQ (crsP l).length 1)).take (crsP l).length = encQs (marksQ (crsP l).length 1) := List.take_of_length_le (by omega)
    have tk3 : (encQs (crsP l)).take (crsP l).length = encQs (crsP l) := List.take_of_length_le (by omega)
    have tk1 : (encQs (marksQ l.length 1)).take l.length = encQs (marksQ l.length 1) := List.take_of_length_le (by omega)
    have tk0 : (encQs l).take l.length = encQs l := List.take_of_length_le (by omega)
    simp only [V_seq, V_skip, V_ret, V_region, V_cond, brW_false, W_nil, W_cons, effOp2, KN_seq, KXr_nil, QE, asB, effOp, effPure, effPick, effCall, giveUp, hasAll, Option.isSome_some, skipE, pureV, pickV, binV, ofC, strip, lkT, lkH, ISt.app, opI, gO, gB, allB, gval, wrapG, dstOK, setD, mentTm, mentHp, IV.ment, lendV, lendP, lent, lentP, idsV, idsL, flat, clean, callArgs, callFn, allLent, enumT, Gives, Ideal.Fin, conv, conv0, IBlk.shape, Op.operands, reduceIte, reduceCtorEq, cond_true, cond_false, Bool.or_false, Bool.or_true, Bool.and_true, Bool.not_true, Bool.not_false, Nat.reduceAdd, Nat.reduceSub, Nat.reduceMul, Nat.reduceLT, Nat.reduceLeDiff, Nat.reduceEqDiff, Nat.reduceBEq, Nat.add_zero, Nat.zero_add, not_false_eq_true, beq_self_eq_true, true_and, and_true, and_false, and_self, false_implies, implies_true, forall_const, List.map_cons, List.map_nil, List.nil_append, List.cons_append, List.append_nil, List.all_cons, List.all_nil, Option.map_some, Option.map_none, Option.bind_some, List.getElem?_cons_zero, List.getElem?_cons_succ, List.getD_cons_zero, List.drop_zero, ex_clo, or_true, or_self, Bool.true_eq_false, Bool.false_eq_true, hN, isQs_enc, toQs_enc, SLe0, convTm, convHp, convB, sm, effH, mkHC0, mkHC1, lendM, lentM, lentI, allHere, addIds, idsB, flatIds, reach, posn, renV, renL, renB, renH, numB, subHp, fwd, bk, bwd, nones, keyOK, noSl, flatBs, List.contains, List.elem, Option.isSome_some, List.nodup_nil, List.nodup_cons, List.not_mem_nil, Option.getD_some, lk_e_excrs_b_laws_szSegmentS, lk_e_excrs_b_spec_CrossingPoints, lk_e_excrs_b_laws_eqSegmentS, lk_e_excrs_b_laws_eqRatPointS, lk_e_excrs_b_laws_heldRatPointS, sp_laws_szSegmentS, sp_spec_CrossingPoints, sp_laws_eqSegmentS, sp_laws_eqRatPointS, sp_laws_heldRatPointS, lh_e_excrs_b_laws_szSegmentS, lh_e_excrs_b_spec_CrossingPoints, lh_e_excrs_b_laws_eqSegmentS, lh_e_excrs_b_laws_eqRatPointS, lh_e_excrs_b_laws_heldRatPointS, lh_e_excrs_b_laws_toSegmentS, lh_e_excrs_b_impl_CrossingPoints_h, lh_e_excrs_b_laws_markSegmentS, lh_e_excrs_b_laws_markRatPointS, hs_laws_toSegmentS, hs_impl_CrossingPoints_h, hs_laws_markSegmentS, hs_laws_markRatPointS, el, hv, d1, d2, d3, c, c2, c3, hc, hcv, hn, eh, em1, em2, ml2, hd, tk, tk1, tk3, tk0, noSl_encQs]
    omega
  | false =>
    have hcv : crsV l = [] := by rw [crsV, hc]; rfl
    refine icall_V (G := g_e_excrs_a) (H := h_e_excrs_a) [] tabOK mixed gok_e_excrs_a hok_e_excrs_a Try.func3 rfl Try.ntmps3 Try.results3 rfl (by kernel_rfl) fun F hN hlen => ?_
    have hl := hlen 0 4 _ rfl
    have el := len_encQs l
    rw [el] at hl
    by_cases c : l.length ≤ 1048576
    · have hv : szSegmentV l 1048576 = 1048576 - (l.length : Int) := if_neg (by omega)
      have c2 : l.length ≤ 2000000 := by omega
      have d1 : decide (1048576 - (l.length : Int) < 0) = false := by simp only [decide_eq_false_iff_not]; omega
      have d2 : decide (1 + 4 * (l.length : Int) < 0) = false := by simp only [decide_eq_false_iff_not]; omega
      have d3 : decide ((1 : Int) < 0) = false := by decide
      have em1 := len_encQs (marksQ l.length 1)
      rw [marksQ_len] at em1
      have ml := marksQ_len l.length 1
      have hd : heldQ [] 1 = 1 := rfl
      have e0 : encQs [] = [] := rfl
      have tk1 : (encQs (marksQ l.length 1)).take l.length = encQs (marksQ l.length 1) := List.take_of_length_le (by omega)
      have tk0 : (encQs l).take l.length = encQs l := List.take_of_length_le (by omega)
      simp only [V_seq, V_skip, V_ret, V_region, V_cond, brW_false, W_nil, W_cons, effOp2, KN_seq, KXr_nil, QE, asB, effOp, effPure, effPick, effCall, giveUp, hasAll, Option.isSome_some, skipE, pureV, pickV, binV, ofC, strip, lkT, lkH, ISt.app, opI, gO, gB, allB, gval, wrapG, dstOK, setD, mentTm, mentHp, IV.ment, lendV, lendP, lent, lentP, idsV, idsL, flat, clean, callArgs, callFn, allLent, enumT, Gives, Ideal.Fin, conv, conv0, IBlk.shape, Op.operands, reduceIte, reduceCtorEq, cond_true, cond_false, Bool.or_false, Bool.or_true, Bool.and_true, Bool.not_true, Bool.not_false, Nat.reduceAdd, Nat.reduceSub, Nat.reduceMul, Nat.reduceLT, Nat.reduceLeDiff, Nat.reduceEqDiff, Nat.reduceBEq, Nat.add_zero, Nat.zero_add, not_false_eq_true, beq_self_eq_true, true_and, and_true, and_false, and_self, implies_true, forall_const, List.map_cons, List.map_nil, List.nil_append, List.cons_append, List.append_nil, List.all_nil, Option.map_some, Option.map_none, Option.bind_some, List.getElem?_cons_zero, List.getElem?_cons_succ, List.getD_cons_zero, List.length_nil, List.drop_zero, ex_clo, true_or, or_true, or_self, Bool.true_eq_false, Bool.false_eq_true, hN, isQs_enc, toQs_enc, isQs_nil, toQs_nil, SLe0, convTm, convHp, convB, sm, effH, mkHC0, mkHC1, lendM, lentM, lentI, allHere, addIds, idsB, flatIds, reach, posn, renV, renL, renB, renH, numB, subHp, fwd, bk, bwd, nones, keyOK, noSl, flatBs, List.contains, List.elem, Option.isSome_some, List.nodup_nil, List.nodup_cons, List.not_mem_nil, Option.getD_some, lk_e_excrs_a_laws_szSegmentS, lk_e_excrs_a_spec_CrossingPoints, lk_e_excrs_a_impl_CrossingPoints_e, lk_e_excrs_a_laws_eqSegmentS, lk_e_excrs_a_laws_eqRatPointS, lk_e_excrs_a_laws_heldRatPointS, sp_laws_szSegmentS, sp_spec_CrossingPoints, sp_impl_CrossingPoints_e, sp_laws_eqSegmentS, sp_laws_eqRatPointS, sp_laws_heldRatPointS, lh_e_excrs_a_laws_szSegmentS, lh_e_excrs_a_spec_CrossingPoints, lh_e_excrs_a_impl_CrossingPoints_e, lh_e_excrs_a_laws_eqSegmentS, lh_e_excrs_a_laws_eqRatPointS, lh_e_excrs_a_laws_heldRatPointS, lh_e_excrs_a_laws_toSegmentS, lh_e_excrs_a_laws_markSegmentS, lh_e_excrs_a_laws_markRatPointS_or, hs_laws_toSegmentS, hs_laws_markSegmentS, hs_laws_markRatPointS_or, el, hv, d1, d2, d3, c, c2, hn, em1, hd, hc, hcv, e0, tk1, tk0, hs_or, sel_sl, hs_laws_markRatPointS, hs_laws_markRatPointS_n]
      omega
    · have hv : szSegmentV l 1048576 = -1 := if_pos (by omega)
      have d1 : decide ((-1 : Int) < 0) = true := by decide
      simp only [V_seq, V_ret, V_region, V_cond, brW_true, W_nil, W_cons, effOp2, KN_seq, KXr_nil, KXr_seq, QE, asB, effOp, effPure, effCall, giveUp, hasAll, pureV, binV, ofC, strip, lkT, lkH, ISt.app, opI, gO, gB, allB, gval, wrapG, dstOK, setD, lendV, lendP, lent, lentP, idsV, idsL, flat, clean, callArgs, callFn, allLent, enumT, Gives, Ideal.Fin, conv, conv0, Op.operands, reduceIte, reduceCtorEq, cond_true, Bool.or_false, Bool.not_true, Nat.reduceLT, Nat.reduceEqDiff, true_and, and_true, and_self, implies_true, forall_const, List.map_cons, List.map_nil, List.nil_append, List.cons_append, List.append_nil, ex_clo, or_self, hN, isQs_enc, toQs_enc, lk_e_excrs_a_laws_szSegmentS, sp_laws_szSegmentS, lh_e_excrs_a_laws_szSegmentS, hv, d1]
      exact ⟨by omega, by omega⟩
def sp_laws_FnExactCrossingPoints : PSpec := ⟨fun xs => match xs with | [.sl 4 les] => isQs les | _ => False, fun xs => match xs with | [.sl _ les] => (fun (l : List Qd) => .bool true) (toQs les) | _ => .junk, false⟩
theorem gk_laws_FnExactCrossingPoints : ∀ args, sp_laws_FnExactCrossingPoints.pre args → ICall Try.prog 3 args (sp_laws_FnExactCrossingPoints.val args) := by
  intro args h
  unfold sp_laws_FnExactCrossingPoints at h ⊢; simp only at h ⊢; split at h
  · have h0 := h
    obtain ⟨l0, rfl⟩ := isQ_ex h0
    simp only [toPs_enc] at *
    exact c_laws_FnExactCrossingPoints _ 
  · exact h.elim
theorem en_laws_FnExactCrossingPoints : Enters Try.prog 3 := enters_of Try.func3 (by kernel_rfl) rfl

end Go.Proofs.Ytlgjhojihgmfhaa
