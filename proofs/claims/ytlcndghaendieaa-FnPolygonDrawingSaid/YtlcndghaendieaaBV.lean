/- Contracts: valid segments. -/
import Derived.Test.YtlcndghaendieaaB17
import Derived.Test.YtlcndghaendieaaPl18
set_option linter.unusedVariables false
set_option linter.unusedSimpArgs false
set_option maxHeartbeats 1600000
set_option maxRecDepth 100000
namespace Go.Proofs.Ytlcndghaendieaa
open Go Go.Ideal Go.Pl Go.Sort

/-- Is a segment valid? -/
def vSg (s : Qd) : Bool := okP s.1 && (okP s.2 && s.1 != s.2)
theorem vSg_facts {s : Qd} (h : vSg s = true) : SmQ s ∧ in9 s.1 ∧ in9 s.2 ∧ s.1 ≠ s.2 := by
  simp only [vSg, Bool.and_eq_true, bne_iff_ne, ne_eq] at h
  refine ⟨⟨okP_sm h.1, okP_sm h.2.1⟩, ?_, ?_, h.2.2⟩
  · simpa only [okP, inR, Bool.and_eq_true, decide_eq_true_eq, in9] using h.1
  · simpa only [okP, inR, Bool.and_eq_true, decide_eq_true_eq, in9] using h.2.1
theorem neP (a b : Pt) : (!(a.1 == b.1 && a.2 == b.2)) = (a != b) := rfl
def g_impl_Segment_valid : List (Nat × PSpec) := [(108, sp_impl_allValid)]
theorem gok_impl_Segment_valid : GOK Try.prog g_impl_Segment_valid := gok_cons gk_impl_allValid en_impl_allValid (gok0)
theorem lk_impl_Segment_valid_impl_allValid : lkG g_impl_Segment_valid 108 = sp_impl_allValid := rfl
def h_impl_Segment_valid : List (Nat × HSpec) := []
theorem hok_impl_Segment_valid : HOK Try.prog h_impl_Segment_valid := hok0
theorem c_impl_Segment_valid (s : Qd)  : ICall Try.prog 89 [encQ s] (.bool (vSg s)) := by
  refine icall_V (G := g_impl_Segment_valid) (H := []) [] tabOK mixed gok_impl_Segment_valid hok_impl_Segment_valid Try.func89 rfl Try.ntmps89 Try.results89 rfl (by kernel_rfl) fun F hN hlen => ?_
  have hv : vSg s = (okP s.1 && (okP s.2 && s.1 != s.2)) := rfl
  cases h1 : okP s.1 with
  | false =>
    rw [h1, Bool.false_and] at hv
    simp only [V_seq, V_ret, V_region, W_nil, W_cons, effOp2, KN_seq, KXr_nil, QE, effOp, effPure, effPick, effNew, effBox, effBuildSlice, effFrz, frz, tmpsOf, effCall, giveUp, hasAll, Option.isSome_some, skipE, pureV, pickV, binV, partV, loadV, faddrV, solid, IV.cells, ofC, strip, lkT, lkH, ISt.app, opI, gO, gB, allB, gval, wrapG, dstOK, setD, mentTm, mentHp, IV.ment, IV.mentL, partsL, eltsI, eltI, oneI, noId', lendV, lendP, lent, lentP, idsV, idsL, lkHS, flat, clean, callArgs, callFn, allLent, enumT, Gives, Ideal.Fin, conv, conv0, IBlk.shape, eqL, numsOnly, Op.operands, reduceIte, reduceCtorEq, cond_true, cond_false, Bool.or_false, Bool.and_true, Bool.false_and, Bool.not_true, Nat.reduceAdd, Nat.reduceMul, Nat.reduceLT, Nat.reduceLeDiff, Nat.reduceEqDiff, Nat.reduceBEq, Nat.add_zero, Nat.zero_add, ne_eq, not_false_eq_true, and_true, and_false, and_self, false_implies, implies_true, List.map_cons, List.map_nil, List.nil_append, List.cons_append, List.append_nil, List.all_cons, List.all_nil, Option.map_some, Option.bind_some, List.getElem?_cons_zero, List.getElem?_cons_succ, List.getD_cons_zero, List.getD_cons_succ, List.length_cons, List.length_nil, List.take_succ_cons, List.take_zero, List.take_nil, List.drop_succ_cons, List.drop_zero, ex_clo, bft, or_self, Bool.false_eq_true, tab23, tab28, tab30, hN, pe, encQ, isPs_nil, toPs_nil, isPs_cons, toPs_cons, lk_impl_Segment_valid_impl_allValid, sp_impl_allValid, h1, hv, List.all_cons, List.all_nil]
  | true =>
    rw [h1, Bool.true_and] at hv
    cases h2 : okP s.2 with
    | false =>
      rw [h2, Bool.false_and] at hv
      simp only [V_seq, V_ret, V_region, W_nil, W_cons, effOp2, KN_seq, KXr_nil, QE, effOp, effPure, effPick, effNew, effBox, effBuildSlice, effFrz, frz, tmpsOf, effCall, giveUp, hasAll, Option.isSome_some, skipE, pureV, pickV, binV, partV, loadV, faddrV, solid, IV.cells, ofC, strip, lkT, lkH, ISt.app, opI, gO, gB, allB, gval, wrapG, dstOK, setD, mentTm, mentHp, IV.ment, IV.mentL, partsL, eltsI, eltI, oneI, noId', lendV, lendP, lent, lentP, idsV, idsL, lkHS, flat, clean, callArgs, callFn, allLent, enumT, Gives, Ideal.Fin, conv, conv0, IBlk.shape, eqL, numsOnly, Op.operands, reduceIte, reduceCtorEq, cond_true, cond_false, Bool.or_false, Bool.and_true, Bool.and_false, Bool.not_true, Nat.reduceAdd, Nat.reduceMul, Nat.reduceLT, Nat.reduceLeDiff, Nat.reduceEqDiff, Nat.reduceBEq, Nat.add_zero, Nat.zero_add, ne_eq, not_false_eq_true, and_true, and_false, and_self, false_implies, implies_true, List.map_cons, List.map_nil, List.nil_append, List.cons_append, List.append_nil, List.all_cons, List.all_nil, Option.map_some, Option.bind_some, List.getElem?_cons_zero, List.getElem?_cons_succ, List.getD_cons_zero, List.getD_cons_succ, List.length_cons, List.length_nil, List.take_succ_cons, List.take_zero, List.take_nil, List.drop_succ_cons, List.drop_zero, ex_clo, bft, or_self, Bool.false_eq_true, tab23, tab28, tab30, hN, pe, encQ, isPs_nil, toPs_nil, isPs_cons, toPs_cons, lk_impl_Segment_valid_impl_allValid, sp_impl_allValid, h1, h2, hv, List.all_cons, List.all_nil]
    | true =>
      rw [h2, Bool.true_and] at hv
      simp only [V_seq, V_ret, V_region, W_nil, W_cons, effOp2, KN_seq, KXr_nil, QE, effOp, effPure, effPick, effNew, effBox, effBuildSlice, effFrz, frz, tmpsOf, effCall, giveUp, hasAll, Option.isSome_some, skipE, pureV, pickV, binV, partV, loadV, faddrV, solid, IV.cells, ofC, strip, lkT, lkH, ISt.app, opI, gO, gB, allB, gval, wrapG, dstOK, setD, mentTm, mentHp, IV.ment, IV.mentL, partsL, eltsI, eltI, oneI, noId', lendV, lendP, lent, lentP, idsV, idsL, lkHS, flat, clean, callArgs, callFn, allLent, enumT, Gives, Ideal.Fin, conv, conv0, IBlk.shape, eqL, numsOnly, Op.operands, reduceIte, reduceCtorEq, cond_true, Bool.or_false, Bool.and_true, Bool.not_true, Nat.reduceAdd, Nat.reduceMul, Nat.reduceLT, Nat.reduceLeDiff, Nat.reduceEqDiff, Nat.reduceBEq, Nat.add_zero, Nat.zero_add, ne_eq, not_false_eq_true, beq_self_eq_true, and_false, and_self, implies_true, List.map_cons, List.map_nil, List.nil_append, List.cons_append, List.append_nil, List.all_cons, List.all_nil, Option.map_some, Option.bind_some, List.getElem?_cons_zero, List.getElem?_cons_succ, List.getD_cons_zero, List.getD_cons_succ, List.length_cons, List.length_nil, List.take_succ_cons, List.take_zero, List.take_nil, List.drop_succ_cons, List.drop_zero, ex_clo, or_self, Bool.true_eq_false, tab23, tab28, tab30, hN, pe, encQ, isPs_nil, toPs_nil, isPs_cons, toPs_cons, lk_impl_Segment_valid_impl_allValid, sp_impl_allValid, h1, h2, hv, neP, List.all_cons, List.all_nil]
def sp_impl_Segment_valid : PSpec := ⟨fun xs => match xs with | [.agg [.num .i64 s1, .num .i64 s2, .num .i64 s3, .num .i64 s4]] => True | _ => False, fun xs => match xs with | [.agg [.num _ s1, .num _ s2, .num _ s3, .num _ s4]] => (fun (s : Qd) => .bool (vSg s)) ((s1, s2), (s3, s4)) | _ => .junk, false⟩
theorem gk_impl_Segment_valid : ∀ args, sp_impl_Segment_valid.pre args → ICall Try.prog 89 args (sp_impl_Segment_valid.val args) := by
  intro args h
  unfold sp_impl_Segment_valid at h ⊢; simp only at h ⊢; split at h
  · exact c_impl_Segment_valid ((_, _), (_, _))
  · exact h.elim
theorem en_impl_Segment_valid : Enters Try.prog 89 := enters_of Try.func89 (by kernel_rfl) rfl

def okSs (l : List Qd) : Bool := l.all vSg && decide (l.length ≤ 12)
def g_impl_segmentsOk_1 : List (Nat × PSpec) := [(89, sp_impl_Segment_valid)]
theorem gok_impl_segmentsOk_1 : GOK Try.prog g_impl_segmentsOk_1 := gok_cons gk_impl_Segment_valid en_impl_Segment_valid (gok0)
theorem lk_impl_segmentsOk_1_impl_Segment_valid : lkG g_impl_segmentsOk_1 89 = sp_impl_Segment_valid := rfl
def h_impl_segmentsOk_1 : List (Nat × HSpec) := []
theorem hok_impl_segmentsOk_1 : HOK Try.prog h_impl_segmentsOk_1 := hok0
theorem c_impl_segmentsOk_1 (s : Qd)  : ICall Try.prog 88 [encQ s] (.bool (!vSg s)) := by
  refine icall_V (G := g_impl_segmentsOk_1) (H := []) [] tabOK mixed gok_impl_segmentsOk_1 hok_impl_segmentsOk_1 Try.func88 rfl Try.ntmps88 Try.results88 rfl (by kernel_rfl) fun F hN hlen => ?_
  simp only [V_seq, V_ret, V_region, W_nil, W_cons, effOp2, KN_seq, KXr_nil, QE, effOp, effPure, effNew, effBox, effCall, giveUp, hasAll, skipE, pureV, partV, loadV, solid, IV.cells, ofC, strip, lkT, lkH, ISt.app, opI, gO, gB, allB, gval, wrapG, dstOK, setD, mentTm, mentHp, IV.ment, IV.mentL, oneI, lendV, lendP, lent, lentP, idsV, idsL, lkHS, flat, clean, callArgs, callFn, allLent, enumT, Gives, Ideal.Fin, conv, conv0, Op.operands, reduceIte, reduceCtorEq, cond_true, Bool.or_false, Bool.and_true, Bool.not_true, Nat.reduceAdd, Nat.reduceLT, Nat.reduceLeDiff, Nat.reduceEqDiff, Nat.zero_add, and_false, and_self, implies_true, List.map_cons, List.map_nil, List.nil_append, List.cons_append, List.append_nil, List.all_cons, List.all_nil, List.getD_cons_zero, List.length_cons, List.length_nil, List.take_succ_cons, List.take_nil, List.drop_zero, ex_clo, or_self, tab30, hN, pe, encQ, lk_impl_segmentsOk_1_impl_Segment_valid, sp_impl_Segment_valid]
def sp_impl_segmentsOk_1 : PSpec := ⟨fun xs => match xs with | [.agg [.num .i64 s1, .num .i64 s2, .num .i64 s3, .num .i64 s4]] => True | _ => False, fun xs => match xs with | [.agg [.num _ s1, .num _ s2, .num _ s3, .num _ s4]] => (fun (s : Qd) => .bool (!vSg s)) ((s1, s2), (s3, s4)) | _ => .junk, false⟩
theorem gk_impl_segmentsOk_1 : ∀ args, sp_impl_segmentsOk_1.pre args → ICall Try.prog 88 args (sp_impl_segmentsOk_1.val args) := by
  intro args h
  unfold sp_impl_segmentsOk_1 at h ⊢; simp only at h ⊢; split at h
  · exact c_impl_segmentsOk_1 ((_, _), (_, _))
  · exact h.elim
theorem en_impl_segmentsOk_1 : Enters Try.prog 88 := enters_of Try.func88 (by kernel_rfl) rfl

def g_slices_IndexFunc_impl_Segment_impl_Segment_ok_1 : List (Nat × PSpec) := [(88, sp_impl_segmentsOk_1)]
theorem gok_slices_IndexFunc_impl_Segment_impl_Segment_ok_1 : GOK Try.prog g_slices_IndexFunc_impl_Segment_impl_Segment_ok_1 := gok_cons gk_impl_segmentsOk_1 en_impl_segmentsOk_1 (gok0)
theorem lk_slices_IndexFunc_impl_Segment_impl_Segment_ok_1_impl_segmentsOk_1 : lkG g_slices_IndexFunc_impl_Segment_impl_Segment_ok_1 88 = sp_impl_segmentsOk_1 := rfl
def h_slices_IndexFunc_impl_Segment_impl_Segment_ok_1 : List (Nat × HSpec) := []
theorem hok_slices_IndexFunc_impl_Segment_impl_Segment_ok_1 : HOK Try.prog h_slices_IndexFunc_impl_Segment_impl_Segment_ok_1 := hok0
theorem c_slices_IndexFunc_impl_Segment_impl_Segment_ok_1 (l : List Qd)  : ICall Try.prog 127 [.sl 4 (encQs l), .clo 88 []] (.num .i64 (idxF (fun p => !vSg p) l 0)) := by
  refine icall_V (G := g_slices_IndexFunc_impl_Segment_impl_Segment_ok_1) (H := []) [] tabOK mixed gok_slices_IndexFunc_impl_Segment_impl_Segment_ok_1 hok_slices_IndexFunc_impl_Segment_impl_Segment_ok_1 Try.func127 rfl Try.ntmps127 Try.results127 rfl (by kernel_rfl) fun F hN hlen => ?_
  have hl := hlen 0 4 _ rfl
  have el := len_encQs l
  rw [el] at hl
  simp only [V_seq, V_block, V_region, W_nil, W_cons, effOp2, KN_seq, effOp, effPure, pureV, lenV, ofC, strip, lkT, ISt.app, opI, gO, gB, allB, gval, wrapG, dstOK, setD, enumT, Op.operands, Call.operands, List.append_toArray, reduceIte, reduceCtorEq, Nat.reduceLT, Nat.reduceEqDiff, Nat.zero_add, ne_eq, not_false_eq_true, true_and, and_self, implies_true, List.nil_append, List.cons_append, List.append_nil, tab26, hN, el]
  refine V_loop (α := Nat) ⟨tabOK, mixed, gok_slices_IndexFunc_impl_Segment_impl_Segment_ok_1, hok_slices_IndexFunc_impl_Segment_impl_Segment_ok_1⟩ (by kernel_rfl) (fun i => i ≤ l.length ∧ idxF (fun p => !vSg p) l 0 = idxF (fun p => !vSg p) (l.drop i) i)
    (fun i => ⟨[(8, .num .i64 i), (7, .num .i64 l.length), (0, .sl 4 (encQs l)), (1, .clo 88 [])], []⟩) (fun i => l.length - i) 0 id (by simp) (by simp [SLe, SLe0, convTm, convHp, conv, conv0, convL, lkT, lkH, clean]) ?_
  rintro i ⟨hi, hj⟩
  simp only [V_seq, V_region, V_cond, W_nil, W_cons, effOp2, KN_seq, asB, effOp, effPure, pureV, binV, strip, lkT, ISt.app, opI, gO, gB, allB, gval, wrapG, dstOK, setD, Op.operands, reduceIte, reduceCtorEq, Nat.reduceLT, Nat.reduceEqDiff, true_and, and_self, implies_true, List.nil_append, List.cons_append, List.append_nil, hN]
  refine brW_some (fun h => ?_) (fun h => ?_)
  · have hi' : i < l.length := by simpa using h
    have g1 := getD_encQs hi'
    have hw := wr_succ hi' hl
    have hst := idxF_step (p := fun p => !vSg p) (d := ((0, 0), (0, 0))) hi'
    simp only [V_seq, V_skip, V_block, V_region, V_cond, W_nil, W_cons, effOp2, KN_seq, asB, effOp, effPure, effCall, giveUp, hasAll, pureV, partV, eltV, loadV, iaddrV, strip, lkT, lkH, ISt.app, opI, gO, gB, allB, gval, wrapG, dstOK, setD, lendV, lendP, lent, lentP, idsV, idsL, lkHS, flat, clean, callArgs, callFn, allLent, Op.operands, reduceIte, reduceCtorEq, cond_true, Bool.or_false, Bool.not_true, Nat.reduceAdd, Nat.reduceLT, Nat.reduceLeDiff, Nat.reduceEqDiff, Nat.zero_add, ne_eq, not_false_eq_true, true_and, and_true, and_false, and_self, implies_true, forall_const, List.map_cons, List.map_nil, List.nil_append, List.cons_append, List.append_nil, List.getD_cons_zero, List.length_cons, List.length_nil, List.take_succ_cons, List.take_nil, List.drop_zero, ex_clo, or_self, tab26, tab30, hN, pe, Int.toNat_natCast, lk_slices_IndexFunc_impl_Segment_impl_Segment_ok_1_impl_segmentsOk_1, sp_impl_segmentsOk_1, el, Int.toNat_natCast, g1]
    
    repeat refine And.intro (by omega) ?_
    refine brW_some (fun h => ?_) (fun h => ?_)
    · simp only [V_seq, V_ret, V_region, W_nil, W_cons, effOp2, KN_seq, KXr_nil, KXr_seq, KXr_block, KXr_back, QE, effOp, effPure, pureV, strip, lkT, lkH, ISt.app, opI, gO, gB, allB, gval, wrapG, dstOK, setD, clean, Gives, Ideal.Fin, conv, conv0, Op.operands, reduceIte, reduceCtorEq, Nat.reduceLT, Nat.reduceEqDiff, true_and, and_true, and_self, implies_true, List.nil_append, List.cons_append, List.append_nil, hN]
      have hq : (fun p => !vSg p) (qAt l i) = true := by simpa using h
      rw [hj, hst]
      exact congrArg _ (if_pos hq).symm
    · simp only [V_skip, V_region, W_nil, W_cons, effOp2, KN_seq, KN_block, KN_back, effOp, effPure, pureV, binV, ofC, strip, lkT, ISt.app, opI, gO, gB, allB, gval, wrapG, dstOK, setD, Op.operands, reduceIte, reduceCtorEq, Nat.reduceLT, Nat.reduceEqDiff, true_and, and_self, implies_true, List.nil_append, List.cons_append, List.append_nil, hN, hw]
      have hq : (fun p => !vSg p) (qAt l i) = false := by simpa using h
      exact ⟨i + 1, id, ⟨by omega, hj.trans (hst.trans (if_neg (ne_true_of_eq_false hq)))⟩, by simp only []; omega, by simp [SLe, SLe0, convTm, convHp, conv, conv0, convL, lkT, lkH, clean]⟩
  · simp only [V_seq, V_ret, V_exit, V_region, W_nil, W_cons, effOp2, KN_seq, KXr_nil, KXe_nil, KXe_seq, KXe_block, KXe_back, QE, effOp, effPure, pureV, ofC, strip, lkT, lkH, ISt.app, opI, gO, gB, allB, gval, wrapG, dstOK, setD, clean, Gives, Ideal.Fin, conv, conv0, Op.operands, reduceIte, reduceCtorEq, Nat.reduceLT, Nat.reduceEqDiff, true_and, and_true, and_self, implies_true, List.nil_append, List.cons_append, List.append_nil, hN]
    have hie : i = l.length := by simp at h; omega
    subst hie
    rw [hj]
    simp [idxF]
def sp_slices_IndexFunc_impl_Segment_impl_Segment_ok_1 : PSpec := ⟨fun xs => match xs with | [.sl 4 les, .clo 88 []] => isQs les | _ => False, fun xs => match xs with | [.sl _ les, .clo 88 []] => (fun (l : List Qd) => .num .i64 (idxF (fun p => !vSg p) l 0)) (toQs les) | _ => .junk, false⟩
theorem gk_slices_IndexFunc_impl_Segment_impl_Segment_ok_1 : ∀ args, sp_slices_IndexFunc_impl_Segment_impl_Segment_ok_1.pre args → ICall Try.prog 127 args (sp_slices_IndexFunc_impl_Segment_impl_Segment_ok_1.val args) := by
  intro args h
  unfold sp_slices_IndexFunc_impl_Segment_impl_Segment_ok_1 at h ⊢; simp only at h ⊢; split at h
  · have h0 := h
    obtain ⟨l0, rfl⟩ := isQ_ex h0
    simp only [toQs_enc] at *
    exact c_slices_IndexFunc_impl_Segment_impl_Segment_ok_1 _ 
  · exact h.elim
theorem en_slices_IndexFunc_impl_Segment_impl_Segment_ok_1 : Enters Try.prog 127 := enters_of Try.func127 (by kernel_rfl) rfl

def g_slices_ContainsFunc_impl_Segment_impl_Segment_ok_1 : List (Nat × PSpec) := [(127, sp_slices_IndexFunc_impl_Segment_impl_Segment_ok_1)]
theorem gok_slices_ContainsFunc_impl_Segment_impl_Segment_ok_1 : GOK Try.prog g_slices_ContainsFunc_impl_Segment_impl_Segment_ok_1 := gok_cons gk_slices_IndexFunc_impl_Segment_impl_Segment_ok_1 en_slices_IndexFunc_impl_Segment_impl_Segment_ok_1 (gok0)
theorem lk_slices_ContainsFunc_impl_Segment_impl_Segment_ok_1_slices_IndexFunc_impl_Segment_impl_Segment_ok_1 : lkG g_slices_ContainsFunc_impl_Segment_impl_Segment_ok_1 127 = sp_slices_IndexFunc_impl_Segment_impl_Segment_ok_1 := rfl
def h_slices_ContainsFunc_impl_Segment_impl_Segment_ok_1 : List (Nat × HSpec) := []
theorem hok_slices_ContainsFunc_impl_Segment_impl_Segment_ok_1 : HOK Try.prog h_slices_ContainsFunc_impl_Segment_impl_Segment_ok_1 := hok0
theorem c_slices_ContainsFunc_impl_Segment_impl_Segment_ok_1 (l : List Qd)  : ICall Try.prog 87 [.sl 4 (encQs l), .clo 88 []] (.bool (l.any (fun p => !vSg p))) := by
  refine icall_V (G := g_slices_ContainsFunc_impl_Segment_impl_Segment_ok_1) (H := []) [] tabOK mixed gok_slices_ContainsFunc_impl_Segment_impl_Segment_ok_1 hok_slices_ContainsFunc_impl_Segment_impl_Segment_ok_1 Try.func87 rfl Try.ntmps87 Try.results87 rfl (by kernel_rfl) fun F hN hlen => ?_
  simp only [V_seq, V_ret, V_region, W_nil, W_cons, effOp2, KN_seq, KXr_nil, QE, effOp, effPure, effCall, giveUp, hasAll, pureV, binV, ofC, strip, lkT, lkH, ISt.app, opI, gO, gB, allB, gval, wrapG, dstOK, setD, lendV, lendP, lent, lentP, lentPs, idsV, idsL, lkHS, flat, clean, callArgs, callFn, allLent, enumT, Gives, Ideal.Fin, conv, conv0, Op.operands, reduceIte, reduceCtorEq, cond_true, Bool.or_false, Bool.not_true, Nat.reduceLT, Nat.reduceEqDiff, Nat.zero_add, and_self, implies_true, List.map_cons, List.map_nil, List.nil_append, List.cons_append, List.append_nil, ex_clo, or_self, hN, isQs_enc, toQs_enc, lk_slices_ContainsFunc_impl_Segment_impl_Segment_ok_1_slices_IndexFunc_impl_Segment_impl_Segment_ok_1, sp_slices_IndexFunc_impl_Segment_impl_Segment_ok_1, idxF_sign]
  
def sp_slices_ContainsFunc_impl_Segment_impl_Segment_ok_1 : PSpec := ⟨fun xs => match xs with | [.sl 4 les, .clo 88 []] => isQs les | _ => False, fun xs => match xs with | [.sl _ les, .clo 88 []] => (fun (l : List Qd) => .bool (l.any (fun p => !vSg p))) (toQs les) | _ => .junk, false⟩
theorem gk_slices_ContainsFunc_impl_Segment_impl_Segment_ok_1 : ∀ args, sp_slices_ContainsFunc_impl_Segment_impl_Segment_ok_1.pre args → ICall Try.prog 87 args (sp_slices_ContainsFunc_impl_Segment_impl_Segment_ok_1.val args) := by
  intro args h
  unfold sp_slices_ContainsFunc_impl_Segment_impl_Segment_ok_1 at h ⊢; simp only at h ⊢; split at h
  · have h0 := h
    obtain ⟨l0, rfl⟩ := isQ_ex h0
    simp only [toQs_enc] at *
    exact c_slices_ContainsFunc_impl_Segment_impl_Segment_ok_1 _ 
  · exact h.elim
theorem en_slices_ContainsFunc_impl_Segment_impl_Segment_ok_1 : Enters Try.prog 87 := enters_of Try.func87 (by kernel_rfl) rfl

def g_impl_segmentsOk : List (Nat × PSpec) := [(87, sp_slices_ContainsFunc_impl_Segment_impl_Segment_ok_1)]
theorem gok_impl_segmentsOk : GOK Try.prog g_impl_segmentsOk := gok_cons gk_slices_ContainsFunc_impl_Segment_impl_Segment_ok_1 en_slices_ContainsFunc_impl_Segment_impl_Segment_ok_1 (gok0)
theorem lk_impl_segmentsOk_slices_ContainsFunc_impl_Segment_impl_Segment_ok_1 : lkG g_impl_segmentsOk 87 = sp_slices_ContainsFunc_impl_Segment_impl_Segment_ok_1 := rfl
def h_impl_segmentsOk : List (Nat × HSpec) := []
theorem hok_impl_segmentsOk : HOK Try.prog h_impl_segmentsOk := hok0
theorem c_impl_segmentsOk (l : List Qd)  : ICall Try.prog 38 [.sl 4 (encQs l)] (.bool (okSs l)) := by
  refine icall_V (G := g_impl_segmentsOk) (H := []) [] tabOK mixed gok_impl_segmentsOk hok_impl_segmentsOk Try.func38 rfl Try.ntmps38 Try.results38 rfl (by kernel_rfl) fun F hN hlen => ?_
  have hd : decide ((l.length : Int) ≤ 12) = decide (l.length ≤ 12) := by simp; omega
  have hv : okSs l = (decide (l.length ≤ 12) && !(l.any fun p => !vSg p)) := by rw [okSs, List.all_eq_not_any_not, Bool.and_comm]
  simp only [V_seq, V_ret, V_region, W_nil, W_cons, effOp2, KN_seq, KXr_nil, QE, effOp, effPure, effPick, effCall, giveUp, hasAll, pureV, pickV, binV, lenV, ofC, strip, lkT, lkH, ISt.app, opI, gO, gB, allB, gval, wrapG, dstOK, setD, lendV, lendP, lent, lentP, lentPs, idsV, idsL, lkHS, flat, clean, callArgs, callFn, allLent, enumT, Gives, Ideal.Fin, conv, conv0, Op.operands, Call.operands, List.append_toArray, reduceIte, reduceCtorEq, cond_true, Bool.or_false, Bool.true_or, Nat.reduceLT, Nat.reduceEqDiff, ne_eq, not_false_eq_true, true_and, and_true, and_self, implies_true, forall_const, List.map_cons, List.map_nil, List.nil_append, List.cons_append, List.append_nil, Option.bind_some, List.getElem?_cons_zero, List.getElem?_cons_succ, ex_clo, or_self, tab26, hN, isQs_enc, toQs_enc, lk_impl_segmentsOk_slices_ContainsFunc_impl_Segment_impl_Segment_ok_1, sp_slices_ContainsFunc_impl_Segment_impl_Segment_ok_1, len_encQs, hd, hv]
  cases decide (l.length ≤ 12) <;> simp
def sp_impl_segmentsOk : PSpec := ⟨fun xs => match xs with | [.sl 4 les] => isQs les | _ => False, fun xs => match xs with | [.sl _ les] => (fun (l : List Qd) => .bool (okSs l)) (toQs les) | _ => .junk, false⟩
theorem gk_impl_segmentsOk : ∀ args, sp_impl_segmentsOk.pre args → ICall Try.prog 38 args (sp_impl_segmentsOk.val args) := by
  intro args h
  unfold sp_impl_segmentsOk at h ⊢; simp only at h ⊢; split at h
  · have h0 := h
    obtain ⟨l0, rfl⟩ := isQ_ex h0
    simp only [toQs_enc] at *
    exact c_impl_segmentsOk _ 
  · exact h.elim
theorem en_impl_segmentsOk : Enters Try.prog 38 := enters_of Try.func38 (by kernel_rfl) rfl

theorem okSs_len {l : List Qd} (h : okSs l = true) : l.length ≤ 12 := by
  simp only [okSs, Bool.and_eq_true, decide_eq_true_eq] at h
  exact h.2
theorem okSs_at {l : List Qd} (h : okSs l = true) {i : Nat} (hi : i < l.length) : vSg (qAt l i) = true := by
  simp only [okSs, Bool.and_eq_true, List.all_eq_true] at h
  exact h.1 _ (by rw [qAt, List.getD, List.getElem?_eq_getElem hi]; exact List.getElem_mem hi)

end Go.Proofs.Ytlcndghaendieaa
