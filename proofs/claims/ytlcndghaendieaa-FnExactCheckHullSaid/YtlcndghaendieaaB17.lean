/- Contracts: segments and how they meet. -/
import Derived.Test.YtlcndghaendieaaBJ
import Derived.Test.YtlcndghaendieaaBG
import Derived.Test.YtlcndghaendieaaB15
import Derived.Test.YtlcndghaendieaaPl11
set_option linter.unusedVariables false
set_option linter.unusedSimpArgs false
set_option maxHeartbeats 1600000
set_option maxRecDepth 100000
namespace Go.Proofs.Ytlcndghaendieaa
open Go Go.Ideal Go.Pl Go.Sort

def SmQ (s : Qd) : Prop := Sm s.1 ∧ Sm s.2
theorem dot_way (s : Qd) (p : Pt) : dotP (wayP s.1 p) (wayP s.2 p) = dotW s p := by unfold dotP wayP dotW; rfl

def g_impl_Segment_has : List (Nat × PSpec) := [(93, sp_impl_turn), (128, sp_impl_Point_minus), (129, sp_impl_Point_dot)]
theorem gok_impl_Segment_has : GOK Try.prog g_impl_Segment_has := gok_cons gk_impl_turn en_impl_turn (gok_cons gk_impl_Point_minus en_impl_Point_minus (gok_cons gk_impl_Point_dot en_impl_Point_dot (gok0)))
theorem lk_impl_Segment_has_impl_turn : lkG g_impl_Segment_has 93 = sp_impl_turn := rfl
theorem lk_impl_Segment_has_impl_Point_minus : lkG g_impl_Segment_has 128 = sp_impl_Point_minus := rfl
theorem lk_impl_Segment_has_impl_Point_dot : lkG g_impl_Segment_has 129 = sp_impl_Point_dot := rfl
def h_impl_Segment_has : List (Nat × HSpec) := []
theorem hok_impl_Segment_has : HOK Try.prog h_impl_Segment_has := hok0
theorem c_impl_Segment_has (s : Qd) (p : Pt) (hs : SmQ s) (hp : Sm p) : ICall Try.prog 91 [encQ s, encP p] (.bool (onS s p)) := by
  refine icall_V (G := g_impl_Segment_has) (H := []) [(1, [(0, 5), (2, 5), (5, 8), (5, 9), (5, 10), (0, 11), (1, 11), (2, 11), (3, 11), (4, 11), (5, 11), (6, 11), (8, 11), (5, 12), (11, 12), (5, 13), (11, 13), (5, 14), (11, 14), (0, 15), (1, 15), (2, 15), (3, 15), (4, 15), (5, 15), (6, 15), (8, 15), (9, 15), (10, 15), (12, 15), (0, 16), (1, 16), (2, 16), (3, 16), (4, 16), (5, 16), (6, 16), (8, 16), (9, 16), (10, 16), (12, 16), (13, 16), (14, 16), (5, 17), (11, 17), (15, 17), (5, 18), (11, 18), (15, 18), (16, 18)])] tabOK mixed gok_impl_Segment_has hok_impl_Segment_has Try.func91 rfl Try.ntmps91 Try.results91 rfl (by kernel_rfl) fun F hN hlen => ?_
  have s1 := hs.1
  have s2 := hs.2
  have w1 := s1.way hp
  have w2 := s2.way hp
  have g1 := sm_sub s1.1 hp.1
  have g2 := sm_sub s1.2 hp.2
  have g3 := sm_sub s2.1 hp.1
  have g4 := sm_sub s2.2 hp.2
  have hv := has_onS s p
  by_cases ht : turn s.1 s.2 p = 0
  · have d1 : (turn s.1 s.2 p == 0) = true := by simpa using ht
    rw [d1, Bool.true_and] at hv
    simp only [V_seq, V_ret, V_region, V_draw, drawW, WS_nil, pairsOf, W_nil, W_cons, effOp2, effOp3, WI_nil, WI_cons, KN_seq, KXr_nil, QE, dynOK, indB, farB, freshB, freshK, freshK1, heapy, effOp, effPure, effPick, effNew, effBox, effCall, giveUp, hasAll, skipE, pureV, pickV, binV, partV, loadV, faddrV, solid, IV.cells, ofC, strip, lkT, lkH, ISt.app, opI, gO, gB, allB, gval, wrapG, dstOK, setD, mentTm, mentHp, IV.ment, IV.mentL, oneI, lendV, lendP, lent, lentP, idsV, idsL, lkHS, flat, flatL, clean, cleanL, callArgs, callFn, allLent, enumT, Gives, Ideal.Fin, conv, conv0, IBlk.shape, Op.operands, Call.operands, List.append_toArray, reduceIte, reduceCtorEq, cond_true, cond_false, Bool.or_false, Bool.and_true, Bool.and_eq_true, Bool.not_true, Bool.not_false, Nat.reduceAdd, Nat.reduceLT, Nat.reduceLeDiff, Nat.reduceEqDiff, Nat.reduceBEq, Nat.add_zero, Nat.zero_add, beq_self_eq_true, true_and, and_true, and_false, and_self, implies_true, forall_const, List.map_cons, List.map_nil, List.nil_append, List.cons_append, List.append_nil, List.all_cons, List.all_nil, Option.map_some, Option.bind_some, List.getElem?_cons_zero, List.getElem?_cons_succ, List.getD_cons_zero, List.getD_cons_succ, List.length_cons, List.length_nil, List.take_succ_cons, List.take_zero, List.take_nil, List.drop_succ_cons, List.drop_zero, ex_clo, or_self, Bool.true_eq_false, tab28, tab30, hN, pe, encP, encQ, lk_impl_Segment_has_impl_turn, lk_impl_Segment_has_impl_Point_minus, lk_impl_Segment_has_impl_Point_dot, sp_impl_turn, sp_impl_Point_minus, sp_impl_Point_dot, s1, s2, hp, w1, w2, d1, dot_way, hv]
    exact ⟨⟨⟨by omega, by omega⟩, by omega, by omega⟩, ⟨by omega, by omega⟩, by omega, by omega⟩
  · have d1 : (turn s.1 s.2 p == 0) = false := by simpa using ht
    rw [d1, Bool.false_and] at hv
    simp only [V_seq, V_ret, V_region, V_draw, drawW, WS_nil, pairsOf, W_nil, W_cons, effOp2, effOp3, WI_nil, WI_cons, KN_seq, KXr_nil, QE, dynOK, indB, farB, freshB, freshK, freshK1, heapy, effOp, effPure, effPick, effNew, effBox, effCall, giveUp, hasAll, skipE, pureV, pickV, binV, partV, loadV, faddrV, solid, IV.cells, ofC, strip, lkT, lkH, ISt.app, opI, gO, gB, allB, gval, wrapG, dstOK, setD, mentTm, mentHp, IV.ment, IV.mentL, oneI, lendV, lendP, lent, lentP, idsV, idsL, lkHS, flat, flatL, clean, cleanL, callArgs, callFn, allLent, enumT, Gives, Ideal.Fin, conv, conv0, IBlk.shape, Op.operands, Call.operands, List.append_toArray, reduceIte, reduceCtorEq, cond_true, cond_false, Bool.or_false, Bool.or_true, Bool.and_true, Bool.and_eq_true, Bool.not_true, Bool.not_false, Nat.reduceAdd, Nat.reduceLT, Nat.reduceLeDiff, Nat.reduceEqDiff, Nat.reduceBEq, Nat.add_zero, Nat.zero_add, true_and, and_true, false_and, and_false, and_self, false_implies, implies_true, List.map_cons, List.map_nil, List.nil_append, List.cons_append, List.append_nil, List.all_cons, List.all_nil, Option.map_some, Option.bind_some, List.getElem?_cons_zero, List.getElem?_cons_succ, List.getD_cons_zero, List.getD_cons_succ, List.length_cons, List.length_nil, List.take_succ_cons, List.take_zero, List.take_nil, List.drop_succ_cons, List.drop_zero, ex_clo, bft, or_self, Bool.false_eq_true, tab28, tab30, hN, pe, encP, encQ, lk_impl_Segment_has_impl_turn, lk_impl_Segment_has_impl_Point_minus, lk_impl_Segment_has_impl_Point_dot, sp_impl_turn, sp_impl_Point_minus, sp_impl_Point_dot, s1, s2, hp, w1, w2, d1, dot_way, ← hv]
def sp_impl_Segment_has : PSpec := ⟨fun xs => match xs with | [.agg [.num .i64 s1, .num .i64 s2, .num .i64 s3, .num .i64 s4], .agg [.num .i64 p1, .num .i64 p2]] => ((fun (s : Qd) (p : Pt) => SmQ s) ((s1, s2), (s3, s4)) (p1, p2)) ∧ ((fun (s : Qd) (p : Pt) => Sm p) ((s1, s2), (s3, s4)) (p1, p2)) | _ => False, fun xs => match xs with | [.agg [.num _ s1, .num _ s2, .num _ s3, .num _ s4], .agg [.num _ p1, .num _ p2]] => (fun (s : Qd) (p : Pt) => .bool (onS s p)) ((s1, s2), (s3, s4)) (p1, p2) | _ => .junk, false⟩
theorem gk_impl_Segment_has : ∀ args, sp_impl_Segment_has.pre args → ICall Try.prog 91 args (sp_impl_Segment_has.val args) := by
  intro args h
  unfold sp_impl_Segment_has at h ⊢; simp only at h ⊢; split at h
  · obtain ⟨h0, h1⟩ := h
    simp only [toPs_enc] at *
    exact c_impl_Segment_has ((_, _), (_, _)) (_, _) h0 h1
  · exact h.elim
theorem en_impl_Segment_has : Enters Try.prog 91 := enters_of Try.func91 (by kernel_rfl) rfl

def g_impl_Segment_isEnd : List (Nat × PSpec) := []
theorem gok_impl_Segment_isEnd : GOK Try.prog g_impl_Segment_isEnd := gok0
def h_impl_Segment_isEnd : List (Nat × HSpec) := []
theorem hok_impl_Segment_isEnd : HOK Try.prog h_impl_Segment_isEnd := hok0
theorem c_impl_Segment_isEnd (s : Qd) (p : Pt)  : ICall Try.prog 94 [encQ s, encP p] (.bool (p == s.1 || p == s.2)) := by
  refine icall_V (G := g_impl_Segment_isEnd) (H := []) [] tabOK mixed gok_impl_Segment_isEnd hok_impl_Segment_isEnd Try.func94 rfl Try.ntmps94 Try.results94 rfl (by kernel_rfl) fun F hN hlen => ?_
  cases h1 : (p == s.1) with
  | true =>
    have e : (p.1 == s.1.1 && p.2 == s.1.2) = true := by rw [← h1]; rfl
    simp only [V_seq, V_ret, V_region, W_nil, W_cons, effOp2, KN_seq, KXr_nil, QE, effOp, effPure, effPick, effNew, effBox, skipE, pureV, pickV, binV, partV, loadV, faddrV, solid, IV.cells, ofC, strip, lkT, lkH, ISt.app, opI, gO, gB, allB, gval, wrapG, dstOK, setD, mentTm, mentHp, IV.ment, IV.mentL, oneI, clean, enumT, Gives, Ideal.Fin, conv, conv0, IBlk.shape, eqL, numsOnly, Op.operands, reduceIte, reduceCtorEq, cond_true, Bool.or_false, Bool.true_or, Bool.and_true, Nat.reduceAdd, Nat.reduceLT, Nat.reduceLeDiff, Nat.reduceEqDiff, Nat.reduceBEq, Nat.add_zero, Nat.zero_add, and_true, and_false, and_self, false_implies, implies_true, List.nil_append, List.cons_append, List.append_nil, List.all_cons, List.all_nil, Option.map_some, Option.bind_some, List.getElem?_cons_zero, List.getElem?_cons_succ, List.getD_cons_zero, List.getD_cons_succ, List.length_cons, List.length_nil, List.take_succ_cons, List.take_zero, List.take_nil, List.drop_succ_cons, List.drop_zero, btf, Bool.true_eq_false, Bool.false_eq_true, tab28, tab30, hN, encP, encQ, e]
  | false =>
    have e : (p.1 == s.1.1 && p.2 == s.1.2) = false := by rw [← h1]; rfl
    have e2 : (p.1 == s.2.1 && p.2 == s.2.2) = (p == s.2) := rfl
    simp only [V_seq, V_ret, V_region, W_nil, W_cons, effOp2, KN_seq, KXr_nil, QE, effOp, effPure, effPick, effNew, effBox, skipE, pureV, pickV, binV, partV, loadV, faddrV, solid, IV.cells, ofC, strip, lkT, lkH, ISt.app, opI, gO, gB, allB, gval, wrapG, dstOK, setD, mentTm, mentHp, IV.ment, IV.mentL, oneI, clean, enumT, Gives, Ideal.Fin, conv, conv0, IBlk.shape, eqL, numsOnly, Op.operands, reduceIte, reduceCtorEq, cond_true, cond_false, Bool.or_false, Bool.false_or, Bool.and_true, Nat.reduceAdd, Nat.reduceLT, Nat.reduceLeDiff, Nat.reduceEqDiff, Nat.reduceBEq, Nat.add_zero, Nat.zero_add, beq_self_eq_true, and_false, and_self, implies_true, List.nil_append, List.cons_append, List.append_nil, List.all_cons, List.all_nil, Option.map_some, Option.bind_some, List.getElem?_cons_zero, List.getElem?_cons_succ, List.getD_cons_zero, List.getD_cons_succ, List.length_cons, List.length_nil, List.take_succ_cons, List.take_zero, List.take_nil, List.drop_succ_cons, List.drop_zero, Bool.false_eq_true, tab28, tab30, hN, encP, encQ, e, e2]
def sp_impl_Segment_isEnd : PSpec := ⟨fun xs => match xs with | [.agg [.num .i64 s1, .num .i64 s2, .num .i64 s3, .num .i64 s4], .agg [.num .i64 p1, .num .i64 p2]] => True | _ => False, fun xs => match xs with | [.agg [.num _ s1, .num _ s2, .num _ s3, .num _ s4], .agg [.num _ p1, .num _ p2]] => (fun (s : Qd) (p : Pt) => .bool (p == s.1 || p == s.2)) ((s1, s2), (s3, s4)) (p1, p2) | _ => .junk, false⟩
theorem gk_impl_Segment_isEnd : ∀ args, sp_impl_Segment_isEnd.pre args → ICall Try.prog 94 args (sp_impl_Segment_isEnd.val args) := by
  intro args h
  unfold sp_impl_Segment_isEnd at h ⊢; simp only at h ⊢; split at h
  · exact c_impl_Segment_isEnd ((_, _), (_, _)) (_, _)
  · exact h.elim
theorem en_impl_Segment_isEnd : Enters Try.prog 94 := enters_of Try.func94 (by kernel_rfl) rfl

def g_impl_Segment_atEnds : List (Nat × PSpec) := [(94, sp_impl_Segment_isEnd)]
theorem gok_impl_Segment_atEnds : GOK Try.prog g_impl_Segment_atEnds := gok_cons gk_impl_Segment_isEnd en_impl_Segment_isEnd (gok0)
theorem lk_impl_Segment_atEnds_impl_Segment_isEnd : lkG g_impl_Segment_atEnds 94 = sp_impl_Segment_isEnd := rfl
def h_impl_Segment_atEnds : List (Nat × HSpec) := []
theorem hok_impl_Segment_atEnds : HOK Try.prog h_impl_Segment_atEnds := hok0
theorem c_impl_Segment_atEnds (s : Qd) (t : Qd) (p : Pt)  : ICall Try.prog 44 [encQ s, encQ t, encP p] (.bool ((p == s.1 || p == s.2) && (p == t.1 || p == t.2))) := by
  refine icall_V (G := g_impl_Segment_atEnds) (H := []) [] tabOK mixed gok_impl_Segment_atEnds hok_impl_Segment_atEnds Try.func44 rfl Try.ntmps44 Try.results44 rfl (by kernel_rfl) fun F hN hlen => ?_
  cases h1 : (p == s.1 || p == s.2) with
  | true =>
    simp only [V_seq, V_ret, V_region, W_nil, W_cons, effOp2, KN_seq, KXr_nil, QE, effOp, effPure, effPick, effNew, effBox, effCall, giveUp, hasAll, skipE, pureV, pickV, partV, loadV, solid, IV.cells, ofC, strip, lkT, lkH, ISt.app, opI, gO, gB, allB, gval, wrapG, dstOK, setD, mentTm, mentHp, IV.ment, IV.mentL, oneI, lendV, lendP, lent, lentP, idsV, idsL, lkHS, flat, clean, callArgs, callFn, allLent, enumT, Gives, Ideal.Fin, conv, conv0, Op.operands, reduceIte, reduceCtorEq, cond_true, Bool.or_false, Bool.and_true, Bool.true_and, Bool.not_true, Nat.reduceAdd, Nat.reduceLT, Nat.reduceLeDiff, Nat.reduceEqDiff, Nat.reduceBEq, Nat.zero_add, beq_self_eq_true, and_false, and_self, implies_true, List.map_cons, List.map_nil, List.nil_append, List.cons_append, List.append_nil, List.all_cons, List.all_nil, Option.bind_some, List.getElem?_cons_zero, List.getElem?_cons_succ, List.getD_cons_zero, List.length_cons, List.length_nil, List.take_succ_cons, List.take_nil, List.drop_zero, ex_clo, or_self, Bool.true_eq_false, tab28, tab30, hN, pe, encP, encQ, lk_impl_Segment_atEnds_impl_Segment_isEnd, sp_impl_Segment_isEnd, h1]
  | false =>
    simp only [V_seq, V_ret, V_region, W_nil, W_cons, effOp2, KN_seq, KXr_nil, QE, effOp, effPure, effPick, effNew, effBox, effCall, giveUp, hasAll, skipE, pureV, pickV, partV, loadV, solid, IV.cells, ofC, strip, lkT, lkH, ISt.app, opI, gO, gB, allB, gval, wrapG, dstOK, setD, mentTm, mentHp, IV.ment, IV.mentL, oneI, lendV, lendP, lent, lentP, idsV, idsL, lkHS, flat, clean, callArgs, callFn, allLent, enumT, Gives, Ideal.Fin, conv, conv0, Op.operands, reduceIte, reduceCtorEq, cond_true, cond_false, Bool.or_false, Bool.or_true, Bool.and_true, Bool.false_and, Bool.not_true, Bool.not_false, Nat.reduceAdd, Nat.reduceLT, Nat.reduceLeDiff, Nat.reduceEqDiff, Nat.reduceBEq, Nat.zero_add, and_true, and_false, and_self, false_implies, implies_true, List.map_cons, List.map_nil, List.nil_append, List.cons_append, List.append_nil, List.all_cons, List.all_nil, Option.bind_some, List.getElem?_cons_zero, List.getElem?_cons_succ, List.getD_cons_zero, List.length_cons, List.length_nil, List.take_succ_cons, List.take_nil, List.drop_zero, ex_clo, bft, or_self, Bool.false_eq_true, tab28, tab30, hN, pe, encP, encQ, lk_impl_Segment_atEnds_impl_Segment_isEnd, sp_impl_Segment_isEnd, h1]
def sp_impl_Segment_atEnds : PSpec := ⟨fun xs => match xs with | [.agg [.num .i64 s1, .num .i64 s2, .num .i64 s3, .num .i64 s4], .agg [.num .i64 t1, .num .i64 t2, .num .i64 t3, .num .i64 t4], .agg [.num .i64 p1, .num .i64 p2]] => True | _ => False, fun xs => match xs with | [.agg [.num _ s1, .num _ s2, .num _ s3, .num _ s4], .agg [.num _ t1, .num _ t2, .num _ t3, .num _ t4], .agg [.num _ p1, .num _ p2]] => (fun (s : Qd) (t : Qd) (p : Pt) => .bool ((p == s.1 || p == s.2) && (p == t.1 || p == t.2))) ((s1, s2), (s3, s4)) ((t1, t2), (t3, t4)) (p1, p2) | _ => .junk, false⟩
theorem gk_impl_Segment_atEnds : ∀ args, sp_impl_Segment_atEnds.pre args → ICall Try.prog 44 args (sp_impl_Segment_atEnds.val args) := by
  intro args h
  unfold sp_impl_Segment_atEnds at h ⊢; simp only at h ⊢; split at h
  · exact c_impl_Segment_atEnds ((_, _), (_, _)) ((_, _), (_, _)) (_, _)
  · exact h.elim
theorem en_impl_Segment_atEnds : Enters Try.prog 44 := enters_of Try.func44 (by kernel_rfl) rfl


def g_spec_between : List (Nat × PSpec) := [(50, sp_spec_inRange)]
theorem gok_spec_between : GOK Try.prog g_spec_between := gok_cons gk_spec_inRange en_spec_inRange (gok0)
theorem lk_spec_between_spec_inRange : lkG g_spec_between 50 = sp_spec_inRange := rfl
def h_spec_between : List (Nat × HSpec) := []
theorem hok_spec_between : HOK Try.prog h_spec_between := hok0
theorem c_spec_between (s : Qd) (p : Pt)  : ICall Try.prog 131 [encQ s, encP p] (.bool (btw s p)) := by
  refine icall_V (G := g_spec_between) (H := []) [] tabOK mixed gok_spec_between hok_spec_between Try.func131 rfl Try.ntmps131 Try.results131 rfl (by kernel_rfl) fun F hN hlen => ?_
  have e : btw s p = (inR p.1 (min s.1.1 s.2.1) (max s.1.1 s.2.1) && inR p.2 (min s.1.2 s.2.2) (max s.1.2 s.2.2)) := rfl
  cases h1 : inR p.1 (min s.1.1 s.2.1) (max s.1.1 s.2.1) with
  | true =>
    rw [h1] at e
    simp only [V_seq, V_ret, V_region, W_nil, W_cons, effOp2, KN_seq, KXr_nil, QE, effOp, effPure, effPick, effNew, effBox, effCall, giveUp, hasAll, skipE, pureV, pickV, partV, loadV, faddrV, solid, IV.cells, ofC, strip, lkT, lkH, ISt.app, opI, gO, gB, allB, gval, wrapG, dstOK, setD, mentTm, mentHp, IV.ment, IV.mentL, oneI, lendV, lendP, lent, lentP, idsV, idsL, lkHS, flat, clean, callArgs, callFn, allLent, enumT, Gives, Ideal.Fin, conv, conv0, IBlk.shape, Op.operands, Call.operands, List.append_toArray, reduceIte, reduceCtorEq, cond_true, Bool.or_false, Bool.and_true, Bool.true_and, Bool.not_true, Nat.reduceAdd, Nat.reduceLT, Nat.reduceLeDiff, Nat.reduceEqDiff, Nat.reduceBEq, Nat.add_zero, Nat.zero_add, beq_self_eq_true, and_self, implies_true, List.map_cons, List.map_nil, List.nil_append, List.cons_append, List.append_nil, List.all_cons, List.all_nil, Option.map_some, Option.bind_some, List.getElem?_cons_zero, List.getElem?_cons_succ, List.getD_cons_zero, List.getD_cons_succ, List.length_cons, List.length_nil, List.take_succ_cons, List.take_zero, List.take_nil, List.drop_succ_cons, List.drop_zero, ex_clo, or_self, Bool.true_eq_false, tab3, tab28, tab30, hN, encP, encQ, lk_spec_between_spec_inRange, sp_spec_inRange, h1, e]
  | false =>
    rw [h1] at e
    simp only [V_seq, V_ret, V_region, W_nil, W_cons, effOp2, KN_seq, KXr_nil, QE, effOp, effPure, effPick, effNew, effBox, effCall, giveUp, hasAll, skipE, pureV, pickV, partV, loadV, faddrV, solid, IV.cells, ofC, strip, lkT, lkH, ISt.app, opI, gO, gB, allB, gval, wrapG, dstOK, setD, mentTm, mentHp, IV.ment, IV.mentL, oneI, lendV, lendP, lent, lentP, idsV, idsL, lkHS, flat, clean, callArgs, callFn, allLent, enumT, Gives, Ideal.Fin, conv, conv0, IBlk.shape, Op.operands, Call.operands, List.append_toArray, reduceIte, reduceCtorEq, cond_true, cond_false, Bool.or_false, Bool.or_true, Bool.and_true, Bool.false_and, Bool.not_true, Bool.not_false, Nat.reduceAdd, Nat.reduceLT, Nat.reduceLeDiff, Nat.reduceEqDiff, Nat.reduceBEq, Nat.add_zero, Nat.zero_add, and_true, and_false, and_self, false_implies, implies_true, List.map_cons, List.map_nil, List.nil_append, List.cons_append, List.append_nil, List.all_cons, List.all_nil, Option.map_some, Option.bind_some, List.getElem?_cons_zero, List.getElem?_cons_succ, List.getD_cons_zero, List.getD_cons_succ, List.length_cons, List.length_nil, List.take_succ_cons, List.take_zero, List.take_nil, List.drop_succ_cons, List.drop_zero, ex_clo, bft, or_self, Bool.false_eq_true, tab3, tab28, tab30, hN, encP, encQ, lk_spec_between_spec_inRange, sp_spec_inRange, h1, e]
def sp_spec_between : PSpec := ⟨fun xs => match xs with | [.agg [.num .i64 s1, .num .i64 s2, .num .i64 s3, .num .i64 s4], .agg [.num .i64 p1, .num .i64 p2]] => True | _ => False, fun xs => match xs with | [.agg [.num _ s1, .num _ s2, .num _ s3, .num _ s4], .agg [.num _ p1, .num _ p2]] => (fun (s : Qd) (p : Pt) => .bool (btw s p)) ((s1, s2), (s3, s4)) (p1, p2) | _ => .junk, false⟩
theorem gk_spec_between : ∀ args, sp_spec_between.pre args → ICall Try.prog 131 args (sp_spec_between.val args) := by
  intro args h
  unfold sp_spec_between at h ⊢; simp only at h ⊢; split at h
  · exact c_spec_between ((_, _), (_, _)) (_, _)
  · exact h.elim
theorem en_spec_between : Enters Try.prog 131 := enters_of Try.func131 (by kernel_rfl) rfl

def g_spec_onSegment : List (Nat × PSpec) := [(107, sp_spec_cross), (131, sp_spec_between)]
theorem gok_spec_onSegment : GOK Try.prog g_spec_onSegment := gok_cons gk_spec_cross en_spec_cross (gok_cons gk_spec_between en_spec_between (gok0))
theorem lk_spec_onSegment_spec_cross : lkG g_spec_onSegment 107 = sp_spec_cross := rfl
theorem lk_spec_onSegment_spec_between : lkG g_spec_onSegment 131 = sp_spec_between := rfl
def h_spec_onSegment : List (Nat × HSpec) := []
theorem hok_spec_onSegment : HOK Try.prog h_spec_onSegment := hok0
theorem c_spec_onSegment (s : Qd) (p : Pt) (hs : SmQ s) (hp : Sm p) : ICall Try.prog 96 [encQ s, encP p] (.bool (onS s p)) := by
  refine icall_V (G := g_spec_onSegment) (H := []) [] tabOK mixed gok_spec_onSegment hok_spec_onSegment Try.func96 rfl Try.ntmps96 Try.results96 rfl (by kernel_rfl) fun F hN hlen => ?_
  have s1 := hs.1
  have s2 := hs.2
  have e : onS s p = ((turn s.1 s.2 p == 0) && btw s p) := rfl
  cases d1 : (turn s.1 s.2 p == 0) with
  | true =>
    rw [d1] at e
    simp only [V_seq, V_ret, V_region, W_nil, W_cons, effOp2, KN_seq, KXr_nil, QE, effOp, effPure, effPick, effNew, effBox, effCall, giveUp, hasAll, skipE, pureV, pickV, binV, partV, loadV, faddrV, solid, IV.cells, ofC, strip, lkT, lkH, ISt.app, opI, gO, gB, allB, gval, wrapG, dstOK, setD, mentTm, mentHp, IV.ment, IV.mentL, oneI, lendV, lendP, lent, lentP, idsV, idsL, lkHS, flat, clean, callArgs, callFn, allLent, enumT, Gives, Ideal.Fin, conv, conv0, IBlk.shape, Op.operands, reduceIte, reduceCtorEq, cond_true, Bool.or_false, Bool.and_true, Bool.true_and, Bool.not_true, Nat.reduceAdd, Nat.reduceLT, Nat.reduceLeDiff, Nat.reduceEqDiff, Nat.reduceBEq, Nat.add_zero, Nat.zero_add, beq_self_eq_true, and_false, and_self, implies_true, List.map_cons, List.map_nil, List.nil_append, List.cons_append, List.append_nil, List.all_cons, List.all_nil, Option.map_some, Option.bind_some, List.getElem?_cons_zero, List.getElem?_cons_succ, List.getD_cons_zero, List.getD_cons_succ, List.length_cons, List.length_nil, List.take_succ_cons, List.take_zero, List.take_nil, List.drop_succ_cons, List.drop_zero, ex_clo, or_self, Bool.true_eq_false, tab28, tab30, hN, pe, encP, encQ, lk_spec_onSegment_spec_cross, lk_spec_onSegment_spec_between, sp_spec_cross, sp_spec_between, s1, s2, hp, d1, e]
  | false =>
    rw [d1] at e
    simp only [V_seq, V_ret, V_region, W_nil, W_cons, effOp2, KN_seq, KXr_nil, QE, effOp, effPure, effPick, effNew, effBox, effCall, giveUp, hasAll, skipE, pureV, pickV, binV, partV, loadV, faddrV, solid, IV.cells, ofC, strip, lkT, lkH, ISt.app, opI, gO, gB, allB, gval, wrapG, dstOK, setD, mentTm, mentHp, IV.ment, IV.mentL, oneI, lendV, lendP, lent, lentP, idsV, idsL, lkHS, flat, clean, callArgs, callFn, allLent, enumT, Gives, Ideal.Fin, conv, conv0, IBlk.shape, Op.operands, reduceIte, reduceCtorEq, cond_true, cond_false, Bool.or_false, Bool.or_true, Bool.and_true, Bool.false_and, Bool.not_true, Bool.not_false, Nat.reduceAdd, Nat.reduceLT, Nat.reduceLeDiff, Nat.reduceEqDiff, Nat.reduceBEq, Nat.add_zero, Nat.zero_add, and_true, and_false, and_self, false_implies, implies_true, List.map_cons, List.map_nil, List.nil_append, List.cons_append, List.append_nil, List.all_cons, List.all_nil, Option.map_some, Option.bind_some, List.getElem?_cons_zero, List.getElem?_cons_succ, List.getD_cons_zero, List.getD_cons_succ, List.length_cons, List.length_nil, List.take_succ_cons, List.take_zero, List.take_nil, List.drop_succ_cons, List.drop_zero, ex_clo, bft, or_self, Bool.false_eq_true, tab28, tab30, hN, pe, encP, encQ, lk_spec_onSegment_spec_cross, lk_spec_onSegment_spec_between, sp_spec_cross, sp_spec_between, s1, s2, hp, d1, e]
def sp_spec_onSegment : PSpec := ⟨fun xs => match xs with | [.agg [.num .i64 s1, .num .i64 s2, .num .i64 s3, .num .i64 s4], .agg [.num .i64 p1, .num .i64 p2]] => ((fun (s : Qd) (p : Pt) => SmQ s) ((s1, s2), (s3, s4)) (p1, p2)) ∧ ((fun (s : Qd) (p : Pt) => Sm p) ((s1, s2), (s3, s4)) (p1, p2)) | _ => False, fun xs => match xs with | [.agg [.num _ s1, .num _ s2, .num _ s3, .num _ s4], .agg [.num _ p1, .num _ p2]] => (fun (s : Qd) (p : Pt) => .bool (onS s p)) ((s1, s2), (s3, s4)) (p1, p2) | _ => .junk, false⟩
theorem gk_spec_onSegment : ∀ args, sp_spec_onSegment.pre args → ICall Try.prog 96 args (sp_spec_onSegment.val args) := by
  intro args h
  unfold sp_spec_onSegment at h ⊢; simp only at h ⊢; split at h
  · obtain ⟨h0, h1⟩ := h
    simp only [toPs_enc] at *
    exact c_spec_onSegment ((_, _), (_, _)) (_, _) h0 h1
  · exact h.elim
theorem en_spec_onSegment : Enters Try.prog 96 := enters_of Try.func96 (by kernel_rfl) rfl


/-- What common has gathered after so many ends of its first part, and of its second. -/
def com1 (s t : Qd) (i : Nat) : List Pt := ([s.1, s.2].take i).filter fun p => onS t p
def com2 (s t : Qd) (i : Nat) : List Pt := com1 s t 2 ++ ([t.1, t.2].take i).filter fun p => onS s p && !(p == s.1 || p == s.2)
theorem com1_len (s t : Qd) (i : Nat) : (com1 s t i).length ≤ i := by
  have := List.length_filter_le (fun p => onS t p) ([s.1, s.2].take i)
  rw [List.length_take] at this
  unfold com1; omega
theorem com2_len (s t : Qd) (i : Nat) : (com2 s t i).length ≤ 2 + i := by
  have := List.length_filter_le (fun p => onS s p && !(p == s.1 || p == s.2)) ([t.1, t.2].take i)
  rw [List.length_take] at this
  have := com1_len s t 2
  unfold com2; rw [List.length_append]; omega
theorem com1_step {s t : Qd} {i : Nat} (h : i < 2) : com1 s t (i + 1) = com1 s t i ++ if onS t (pAt [s.1, s.2] i) then [pAt [s.1, s.2] i] else [] := by
  have : [s.1, s.2].take (i + 1) = [s.1, s.2].take i ++ [pAt [s.1, s.2] i] := take_succ_getD (by simpa using h)
  unfold com1
  rw [this, List.filter_append]
  congr 1
  simp only [List.filter_cons, List.filter_nil]
theorem com2_step {s t : Qd} {i : Nat} (h : i < 2) : com2 s t (i + 1) = com2 s t i ++ if (onS s (pAt [t.1, t.2] i) && !(pAt [t.1, t.2] i == s.1 || pAt [t.1, t.2] i == s.2)) then [pAt [t.1, t.2] i] else [] := by
  have : [t.1, t.2].take (i + 1) = [t.1, t.2].take i ++ [pAt [t.1, t.2] i] := take_succ_getD (by simpa using h)
  unfold com2
  rw [this, List.filter_append, List.append_assoc]
  congr 2
  simp only [List.filter_cons, List.filter_nil]
theorem app_if {l : List Pt} {b : Bool} {p : Pt} (n : Nat) (hn : (encPs l).length = n) (hb : b = true) : encPs (l ++ if b then [p] else []) = (encPs l).take n ++ [IV.agg [.num .i64 p.1, .num .i64 p.2]] := by
  rw [if_pos hb, ← encPs_app, List.take_of_length_le (Nat.le_of_eq hn)]; rfl

theorem at_two {P : Pt → Prop} {a b : Pt} (ha : P a) (hb : P b) {i : Nat} (h : i < 2) : P (pAt [a, b] i) := by
  rcases i with _ | _ | i
  · exact ha
  · exact hb
  · omega
theorem com1_all (s t : Qd) : com2 s t 0 = com1 s t 2 := by unfold com2; simp
theorem com2_all (s t : Qd) : com2 s t 2 = comP s t := rfl
theorem end_at {a b : Pt} {i : Nat} (h : i < 2) : (pAt [a, b] i == a || pAt [a, b] i == b) = true := by
  rcases i with _ | _ | i
  · simp
  · simp
  · omega
def g_impl_common : List (Nat × PSpec) := [(91, sp_impl_Segment_has), (44, sp_impl_Segment_atEnds)]
theorem gok_impl_common : GOK Try.prog g_impl_common := gok_cons gk_impl_Segment_has en_impl_Segment_has (gok_cons gk_impl_Segment_atEnds en_impl_Segment_atEnds (gok0))
theorem lk_impl_common_impl_Segment_has : lkG g_impl_common 91 = sp_impl_Segment_has := rfl
theorem lk_impl_common_impl_Segment_atEnds : lkG g_impl_common 44 = sp_impl_Segment_atEnds := rfl
def h_impl_common : List (Nat × HSpec) := []
theorem hok_impl_common : HOK Try.prog h_impl_common := hok0
theorem c_impl_common (s : Qd) (t : Qd) (hs : SmQ s) (ht : SmQ t) : ICall Try.prog 42 [encQ s, encQ t] (.sl 2 (encPs (comP s t))) := by
  refine icall_V (G := g_impl_common) (H := []) [] tabOK mixed gok_impl_common hok_impl_common Try.func42 rfl Try.ntmps42 Try.results42 rfl (by kernel_rfl) fun F hN hlen => ?_
  have el := len_encPs [s.1, s.2]
  have el2 := len_encPs [t.1, t.2]
  simp only [V_seq, V_block, V_region, W_nil, W_cons, effOp2, KN_seq, effOp, effPure, effNew, effBox, effBuildSlice, effFrz, frz, tmpsOf, skipE, pureV, partV, loadV, faddrV, lenV, solid, IV.cells, ofC, strip, lkT, lkH, ISt.app, opI, gO, gB, allB, gval, wrapG, dstOK, setD, mentTm, mentHp, IV.ment, IV.mentL, partsL, eltsI, eltI, oneI, noId', enumT, IBlk.shape, Op.operands, Call.operands, List.append_toArray, reduceIte, reduceCtorEq, cond_true, Bool.or_false, Bool.and_true, Nat.reduceAdd, Nat.reduceMul, Nat.reduceLT, Nat.reduceLeDiff, Nat.reduceEqDiff, Nat.reduceBEq, Nat.add_zero, Nat.zero_add, ne_eq, not_false_eq_true, true_and, and_false, and_self, implies_true, List.nil_append, List.cons_append, List.append_nil, List.all_cons, List.all_nil, Option.map_some, List.getD_cons_zero, List.getD_cons_succ, List.length_cons, List.length_nil, List.take_succ_cons, List.take_zero, List.take_nil, List.drop_succ_cons, List.drop_zero, tab23, tab28, tab30, hN, encQ]
  refine V_loop (α := Nat) ⟨tabOK, mixed, gok_impl_common, hok_impl_common⟩ (by kernel_rfl) (fun i => i ≤ 2) (fun i => ⟨[(17, .num .i64 i), (16, .num .i64 2), (15, .sl 2 (encPs [s.1, s.2])), (5, .ref 10 0 (com1 s t i).length true), (3, .ptr 3 0), (2, .ptr 2 0)], [(10, some (.arr 2 28 (encPs (com1 s t i)))), (3, some (.box 30 [.num .i64 t.1.1, .num .i64 t.1.2, .num .i64 t.2.1, .num .i64 t.2.2])), (2, some (.box 30 [.num .i64 s.1.1, .num .i64 s.1.2, .num .i64 s.2.1, .num .i64 s.2.2]))]⟩) (fun i => 2 - i) 0 id (Nat.zero_le _)
    (by simp [SLe, SLe0, convTm, convHp, convB, conv, conv0, convL, lkT, lkH, clean, com1, encPs, encP]; exact ⟨_, _, ⟨rfl, rfl⟩, by simp, by simp, fun id' h e => by subst e; simp at h⟩) ?_
  intro i hi
  have ec := len_encPs (com1 s t i)
  have hx : ∃ k ty es, IBlk.arr 2 28 (encPs (com1 s t i)) = IBlk.arr k ty es := ⟨_, _, _, rfl⟩
  have hcl := com1_len s t i
  simp only [V_seq, V_region, V_cond, W_nil, W_cons, effOp2, KN_seq, asB, effOp, effPure, pureV, binV, strip, lkT, ISt.app, opI, gO, gB, allB, gval, wrapG, dstOK, setD, Op.operands, reduceIte, Nat.reduceLT, Nat.reduceEqDiff, true_and, and_self, implies_true, List.nil_append, List.cons_append, hN]
  refine brW_some (fun h => ?_) (fun h => ?_)
  · have hi' : i < 2 := by simp at h; omega
    have g0 := getD_encPs (l := [s.1, s.2]) (i := i) (by simpa using hi')
    have hw := wr_succ hi' (by rw [maxLen_eq]; omega)
    have sp := at_two (P := Sm) hs.1 hs.2 hi'
    have hst := com1_step (s := s) (t := t) hi'
    generalize pAt [s.1, s.2] i = p at *
    cases c1 : onS t p with
    | true =>
      rw [if_pos c1] at hst
      have hen := app_if (l := com1 s t i) (p := p) _ ec c1
      rw [if_pos c1, ← hst] at hen
      have hln : (com1 s t (i + 1)).length = (com1 s t i).length + 1 := by rw [hst]; simp
      simp only [V_seq, V_skip, V_block, V_region, V_cond, brW_true, W_nil, W_cons, effOp2, KN_seq, KN_block, KN_back, asB, effOp, effPure, effNew, effAlloc, effBuildSlice, effFrz, frz, tmpsOf, effStore, effAppend, effZeros, effCall, giveUp, hasAll, skipE, pureV, storeV, srcV, refId, binV, partV, eltV, loadV, iaddrV, over, solid, IV.cells, ofC, strip, lkT, lkH, ISt.app, opI, gO, gB, allB, gval, wrapG, dstOK, setD, mentTm, mentHp, IV.ment, IV.mentL, partsL, eltsI, eltI, oneI, noId', lendV, lendP, lent, lentP, idsV, idsL, lkHS, flat, clean, callArgs, callFn, allLent, Op.operands, reduceIte, reduceCtorEq, cond_true, Bool.or_false, Bool.and_true, Bool.not_true, Nat.reduceAdd, Nat.reduceMul, Nat.reduceLT, Nat.reduceLeDiff, Nat.reduceEqDiff, Nat.reduceBEq, Nat.zero_add, ne_eq, not_false_eq_true, true_and, and_true, and_false, and_self, implies_true, forall_const, List.map_cons, List.map_nil, List.nil_append, List.cons_append, List.append_nil, List.all_cons, List.all_nil, Option.some.injEq, List.getD_cons_zero, List.length_cons, List.length_nil, List.take_succ_cons, List.take_zero, List.take_nil, List.drop_succ_cons, List.drop_zero, List.drop_nil, ex_clo, or_self, tab23, tab28, tab30, hN, pe, Int.toNat_natCast, lk_impl_common_impl_Segment_has, sp_impl_Segment_has, el, g0, hw, ht, sp, c1, ec]
      repeat refine And.intro (by first | omega | (simp; done) | (simp; omega)) ?_
      refine ⟨i + 1, fun x => if x = 10 then 27 else x, by simp only []; omega, by simp only []; omega, ?_⟩
      simp only [hen, hln]
      simp [SLe, SLe0, convTm, convHp, convB, conv, conv0, convL, lkT, lkH, clean]
      exact ⟨(List.take_of_length_le (by rw [List.length_append, List.length_take]; exact Nat.le_refl _)).symm, fun x a1 a2 a3 => by omega⟩
    | false =>
      rw [if_neg (by rw [c1]; decide), List.append_nil] at hst
      simp only [V_seq, V_skip, V_block, V_region, V_cond, brW_false, W_nil, W_cons, effOp2, KN_seq, KN_block, KN_back, asB, effOp, effPure, effNew, effAlloc, effStore, effCall, giveUp, hasAll, skipE, pureV, storeV, binV, partV, eltV, loadV, iaddrV, over, solid, IV.cells, ofC, strip, lkT, lkH, ISt.app, opI, gO, gB, allB, gval, wrapG, dstOK, setD, mentTm, mentHp, IV.ment, IV.mentL, oneI, lendV, lendP, lent, lentP, idsV, idsL, lkHS, flat, clean, callArgs, callFn, allLent, Op.operands, reduceIte, reduceCtorEq, cond_true, Bool.or_false, Bool.and_true, Bool.not_true, Nat.reduceAdd, Nat.reduceLT, Nat.reduceLeDiff, Nat.reduceEqDiff, Nat.reduceBEq, Nat.zero_add, ne_eq, not_false_eq_true, true_and, and_true, and_false, and_self, implies_true, forall_const, List.map_cons, List.map_nil, List.nil_append, List.cons_append, List.append_nil, List.all_cons, List.all_nil, List.getD_cons_zero, List.length_cons, List.length_nil, List.take_succ_cons, List.take_zero, List.take_nil, List.drop_succ_cons, List.drop_zero, List.drop_nil, ex_clo, or_self, tab23, tab28, tab30, hN, pe, Int.toNat_natCast, lk_impl_common_impl_Segment_has, sp_impl_Segment_has, el, g0, hw, ht, sp, c1]
      repeat refine And.intro (by first | omega | (simp; done) | (simp; omega)) ?_
      exact ⟨i + 1, id, by simp only []; omega, by simp only []; omega, by simp only [hst]; exact by simp [SLe, SLe0, convTm, convHp, convB, conv, conv0, convL, lkT, lkH, clean]⟩
  · have hie : i = 2 := by simp at h; omega
    subst hie
    simp only [V_seq, V_exit, V_block, V_region, W_nil, W_cons, effOp2, KN_seq, KXe_nil, KXe_seq, KXe_block, KXe_back, QE, effOp, effPure, effNew, effBuildSlice, effFrz, frz, tmpsOf, skipE, pureV, partV, loadV, faddrV, lenV, ofC, strip, lkT, lkH, ISt.app, opI, gO, gB, allB, gval, wrapG, dstOK, setD, mentTm, mentHp, IV.ment, IV.mentL, partsL, eltsI, eltI, oneI, noId', Ideal.Fin, IBlk.shape, Op.operands, Call.operands, List.append_toArray, reduceIte, reduceCtorEq, cond_true, Bool.or_false, Bool.and_true, Nat.reduceAdd, Nat.reduceSub, Nat.reduceMul, Nat.reduceLT, Nat.reduceLeDiff, Nat.reduceEqDiff, Nat.reduceBEq, Nat.add_zero, Nat.zero_add, ne_eq, not_false_eq_true, true_and, and_false, and_self, implies_true, List.nil_append, List.cons_append, List.append_nil, List.all_cons, List.all_nil, Option.map_some, List.getD_cons_zero, List.getD_cons_succ, List.length_cons, List.length_nil, List.take_succ_cons, List.take_zero, List.take_nil, List.drop_succ_cons, List.drop_zero, tab23, tab28, tab30, hN]
    refine V_loop (α := Nat) ⟨tabOK, mixed, gok_impl_common, hok_impl_common⟩ (by kernel_rfl) (fun i => i ≤ 2) (fun i => ⟨[(35, .num .i64 i), (34, .num .i64 2), (33, .sl 2 (encPs [t.1, t.2])), (5, .ref 10 0 (com2 s t i).length true), (3, .ptr 3 0), (2, .ptr 2 0)], [(10, some (.arr 2 28 (encPs (com2 s t i)))), (3, some (.box 30 [.num .i64 t.1.1, .num .i64 t.1.2, .num .i64 t.2.1, .num .i64 t.2.2])), (2, some (.box 30 [.num .i64 s.1.1, .num .i64 s.1.2, .num .i64 s.2.1, .num .i64 s.2.2]))]⟩) (fun i => 2 - i) 0 id (Nat.zero_le _)
      (by simp [SLe, SLe0, convTm, convHp, convB, conv, conv0, convL, lkT, lkH, clean, com1_all, encPs, encP]; exact ⟨⟨_, _, ⟨rfl, rfl⟩, by simp, by simp, fun id' h e => by subst e; simp at h⟩, (List.take_of_length_le (by simp)).symm⟩) ?_
    intro i hi
    have ec := len_encPs (com2 s t i)
    have hx : ∃ k ty es, IBlk.arr 2 28 (encPs (com2 s t i)) = IBlk.arr k ty es := ⟨_, _, _, rfl⟩
    have hcl := com2_len s t i
    simp only [V_seq, V_region, V_cond, W_nil, W_cons, effOp2, KN_seq, asB, effOp, effPure, pureV, binV, strip, lkT, ISt.app, opI, gO, gB, allB, gval, wrapG, dstOK, setD, Op.operands, reduceIte, Nat.reduceLT, Nat.reduceEqDiff, true_and, and_self, implies_true, List.nil_append, List.cons_append, hN]
    refine brW_some (fun h => ?_) (fun h => ?_)
    · have hi' : i < 2 := by simp at h; omega
      have g0 := getD_encPs (l := [t.1, t.2]) (i := i) (by simpa using hi')
      have hw := wr_succ hi' (by rw [maxLen_eq]; omega)
      have sp := at_two (P := Sm) ht.1 ht.2 hi'
      have hst := com2_step (s := s) (t := t) hi'
      have hend := end_at (a := t.1) (b := t.2) hi'
      generalize pAt [t.1, t.2] i = p at *
      cases c1 : onS s p with
      | true =>
        rw [c1, Bool.true_and] at hst
        cases c2 : (p == s.1 || p == s.2) with
        | false =>
          rw [if_pos (by rw [c2]; rfl)] at hst
          have hen := app_if (l := com2 s t i) (p := p) _ ec rfl
          rw [if_pos rfl, ← hst] at hen
          have hln : (com2 s t (i + 1)).length = (com2 s t i).length + 1 := by rw [hst]; simp
          simp only [V_seq, V_skip, V_block, V_region, V_cond, brW_true, W_nil, W_cons, effOp2, KN_seq, KN_block, KN_back, asB, effOp, effPure, effPick, effNew, effAlloc, effBuildSlice, effFrz, frz, tmpsOf, effStore, effAppend, effZeros, effCall, giveUp, hasAll, skipE, pureV, pickV, storeV, srcV, refId, binV, partV, eltV, loadV, iaddrV, over, solid, IV.cells, ofC, strip, lkT, lkH, ISt.app, opI, gO, gB, allB, gval, wrapG, dstOK, setD, mentTm, mentHp, IV.ment, IV.mentL, partsL, eltsI, eltI, oneI, noId', lendV, lendP, lent, lentP, idsV, idsL, lkHS, flat, clean, callArgs, callFn, allLent, Op.operands, reduceIte, reduceCtorEq, cond_true, Bool.or_false, Bool.and_true, Bool.and_false, Bool.not_true, Bool.not_false, Nat.reduceAdd, Nat.reduceMul, Nat.reduceLT, Nat.reduceLeDiff, Nat.reduceEqDiff, Nat.reduceBEq, Nat.zero_add, ne_eq, not_false_eq_true, beq_self_eq_true, true_and, and_true, and_false, and_self, implies_true, forall_const, List.map_cons, List.map_nil, List.nil_append, List.cons_append, List.append_nil, List.all_cons, List.all_nil, Option.some.injEq, Option.bind_some, List.getElem?_cons_zero, List.getElem?_cons_succ, List.getD_cons_zero, List.length_cons, List.length_nil, List.take_succ_cons, List.take_zero, List.take_nil, List.drop_succ_cons, List.drop_zero, List.drop_nil, ex_clo, or_self, Bool.true_eq_false, tab23, tab28, tab30, hN, pe, Int.toNat_natCast, lk_impl_common_impl_Segment_has, lk_impl_common_impl_Segment_atEnds, sp_impl_Segment_has, sp_impl_Segment_atEnds, el2, g0, hw, hs, sp, c1, ec, hend, c2]
          repeat refine And.intro (by first | omega | (simp; done) | (simp; omega)) ?_
          refine ⟨i + 1, fun x => if x = 10 then 52 else x, by simp only []; omega, by simp only []; omega, ?_⟩
          simp only [hen, hln]
          simp [SLe, SLe0, convTm, convHp, convB, conv, conv0, convL, lkT, lkH, clean]
          exact ⟨(List.take_of_length_le (by rw [List.length_append, List.length_take]; exact Nat.le_refl _)).symm, fun x a1 a2 a3 => by omega⟩
        | true =>
          rw [if_neg (by rw [c2]; decide), List.append_nil] at hst
          simp only [V_seq, V_skip, V_block, V_region, V_cond, brW_false, W_nil, W_cons, effOp2, KN_seq, KN_block, KN_back, asB, effOp, effPure, effPick, effNew, effAlloc, effStore, effCall, giveUp, hasAll, skipE, pureV, pickV, storeV, binV, partV, eltV, loadV, iaddrV, over, solid, IV.cells, ofC, strip, lkT, lkH, ISt.app, opI, gO, gB, allB, gval, wrapG, dstOK, setD, mentTm, mentHp, IV.ment, IV.mentL, oneI, lendV, lendP, lent, lentP, idsV, idsL, lkHS, flat, clean, callArgs, callFn, allLent, Op.operands, reduceIte, reduceCtorEq, cond_true, Bool.or_false, Bool.and_true, Bool.not_true, Nat.reduceAdd, Nat.reduceLT, Nat.reduceLeDiff, Nat.reduceEqDiff, Nat.reduceBEq, Nat.zero_add, ne_eq, not_false_eq_true, beq_self_eq_true, true_and, and_true, and_false, and_self, implies_true, forall_const, List.map_cons, List.map_nil, List.nil_append, List.cons_append, List.append_nil, List.all_cons, List.all_nil, Option.bind_some, List.getElem?_cons_zero, List.getElem?_cons_succ, List.getD_cons_zero, List.length_cons, List.length_nil, List.take_succ_cons, List.take_zero, List.take_nil, List.drop_succ_cons, List.drop_zero, List.drop_nil, ex_clo, or_self, Bool.true_eq_false, tab23, tab28, tab30, hN, pe, Int.toNat_natCast, lk_impl_common_impl_Segment_has, lk_impl_common_impl_Segment_atEnds, sp_impl_Segment_has, sp_impl_Segment_atEnds, el2, g0, hw, hs, sp, c1, hend, c2]
          repeat refine And.intro (by first | omega | (simp; done) | (simp; omega)) ?_
          exact ⟨i + 1, id, by simp only []; omega, by simp only []; omega, by simp only [hst]; exact by simp [SLe, SLe0, convTm, convHp, convB, conv, conv0, convL, lkT, lkH, clean]⟩
      | false =>
        rw [c1, Bool.false_and, if_neg (by decide), List.append_nil] at hst
        simp only [V_seq, V_skip, V_block, V_region, V_cond, brW_false, W_nil, W_cons, effOp2, KN_seq, KN_block, KN_back, asB, effOp, effPure, effPick, effNew, effAlloc, effStore, effCall, giveUp, hasAll, skipE, pureV, pickV, storeV, binV, partV, eltV, loadV, iaddrV, over, solid, IV.cells, ofC, strip, lkT, lkH, ISt.app, opI, gO, gB, allB, gval, wrapG, dstOK, setD, mentTm, mentHp, IV.ment, IV.mentL, oneI, lendV, lendP, lent, lentP, idsV, idsL, lkHS, flat, clean, callArgs, callFn, allLent, Op.operands, reduceIte, reduceCtorEq, cond_true, cond_false, Bool.or_false, Bool.or_true, Bool.and_true, Bool.not_true, Bool.not_false, Nat.reduceAdd, Nat.reduceLT, Nat.reduceLeDiff, Nat.reduceEqDiff, Nat.reduceBEq, Nat.zero_add, ne_eq, not_false_eq_true, true_and, and_true, and_false, and_self, false_implies, implies_true, forall_const, List.map_cons, List.map_nil, List.nil_append, List.cons_append, List.append_nil, List.all_cons, List.all_nil, Option.bind_some, List.getElem?_cons_zero, List.getElem?_cons_succ, List.getD_cons_zero, List.length_cons, List.length_nil, List.take_succ_cons, List.take_zero, List.take_nil, List.drop_succ_cons, List.drop_zero, List.drop_nil, ex_clo, bft, or_self, Bool.false_eq_true, tab23, tab28, tab30, hN, pe, Int.toNat_natCast, lk_impl_common_impl_Segment_has, lk_impl_common_impl_Segment_atEnds, sp_impl_Segment_has, sp_impl_Segment_atEnds, el2, g0, hw, hs, sp, c1]
        repeat refine And.intro (by first | omega | (simp; done) | (simp; omega)) ?_
        exact ⟨i + 1, id, by simp only []; omega, by simp only []; omega, by simp only [hst]; exact by simp [SLe, SLe0, convTm, convHp, convB, conv, conv0, convL, lkT, lkH, clean]⟩
    · have hie : i = 2 := by simp at h; omega
      subst hie
      simp only [V_seq, V_ret, V_exit, V_region, W_nil, W_cons, effOp2, KN_seq, KXr_nil, KXe_nil, KXe_seq, KXe_block, KXe_back, QE, effOp, effPure, pureV, strip, lkT, lkH, ISt.app, opI, gO, gB, allB, gval, wrapG, dstOK, setD, Gives, Ideal.Fin, conv, conv0, Op.operands, reduceIte, Nat.reduceSub, Nat.reduceLT, Nat.reduceEqDiff, Nat.zero_add, ne_eq, true_and, and_self, implies_true, List.nil_append, List.cons_append, Option.some.injEq, List.drop_zero, hN, com2_all]
      exact ⟨_, _, rfl, by rw [len_encPs]; exact Nat.le_refl _, (take_encPs _).symm, by simp⟩
def sp_impl_common : PSpec := ⟨fun xs => match xs with | [.agg [.num .i64 s1, .num .i64 s2, .num .i64 s3, .num .i64 s4], .agg [.num .i64 t1, .num .i64 t2, .num .i64 t3, .num .i64 t4]] => ((fun (s : Qd) (t : Qd) => SmQ s) ((s1, s2), (s3, s4)) ((t1, t2), (t3, t4))) ∧ ((fun (s : Qd) (t : Qd) => SmQ t) ((s1, s2), (s3, s4)) ((t1, t2), (t3, t4))) | _ => False, fun xs => match xs with | [.agg [.num _ s1, .num _ s2, .num _ s3, .num _ s4], .agg [.num _ t1, .num _ t2, .num _ t3, .num _ t4]] => (fun (s : Qd) (t : Qd) => .sl 2 (encPs (comP s t))) ((s1, s2), (s3, s4)) ((t1, t2), (t3, t4)) | _ => .junk, false⟩
theorem gk_impl_common : ∀ args, sp_impl_common.pre args → ICall Try.prog 42 args (sp_impl_common.val args) := by
  intro args h
  unfold sp_impl_common at h ⊢; simp only at h ⊢; split at h
  · obtain ⟨h0, h1⟩ := h
    simp only [toPs_enc] at *
    exact c_impl_common ((_, _), (_, _)) ((_, _), (_, _)) h0 h1
  · exact h.elim
theorem en_impl_common : Enters Try.prog 42 := enters_of Try.func42 (by kernel_rfl) rfl


theorem sg_mul (a b : Int) : IntKind.i64.wrap (sgnI a * sgnI b) = sgnI a * sgnI b := by
  have h1 := sgn_bd a
  have h2 := sgn_bd b
  have h3 := mulb (A := 1) (B := 1) h1 h2
  exact wr (by omega) (by omega)
theorem rel_cases (s t : Qd) : relP s t = if 1 < (endsP s t).length then 3 else if (endsP s t).length = 1 then 1 else if crossesP s t then 2 else 0 := rfl
def g_impl_relation : List (Nat × PSpec) := [(42, sp_impl_common), (93, sp_impl_turn), (92, sp_impl_sign)]
theorem gok_impl_relation : GOK Try.prog g_impl_relation := gok_cons gk_impl_common en_impl_common (gok_cons gk_impl_turn en_impl_turn (gok_cons gk_impl_sign en_impl_sign (gok0)))
theorem lk_impl_relation_impl_common : lkG g_impl_relation 42 = sp_impl_common := rfl
theorem lk_impl_relation_impl_turn : lkG g_impl_relation 93 = sp_impl_turn := rfl
theorem lk_impl_relation_impl_sign : lkG g_impl_relation 92 = sp_impl_sign := rfl
def h_impl_relation : List (Nat × HSpec) := []
theorem hok_impl_relation : HOK Try.prog h_impl_relation := hok0
theorem c_impl_relation (s : Qd) (t : Qd) (hs : SmQ s) (ht : SmQ t) (ns : s.1 ≠ s.2) (nt : t.1 ≠ t.2) : ICall Try.prog 43 [encQ s, encQ t] (.num .i64 (relP s t)) := by
  refine icall_V (G := g_impl_relation) (H := []) [(3, [(0, 6), (2, 6), (4, 6), (0, 7), (1, 7), (2, 7), (3, 7), (4, 7), (5, 7), (6, 8), (7, 8), (6, 9), (7, 9), (6, 10), (7, 10), (6, 11), (7, 11), (6, 12), (7, 12), (6, 13), (7, 13), (0, 14), (1, 14), (2, 14), (3, 14), (4, 14), (5, 14), (6, 14), (8, 14), (10, 14), (12, 14), (0, 15), (1, 15), (2, 15), (3, 15), (4, 15), (5, 15), (6, 15), (7, 15), (8, 15), (9, 15), (10, 15), (11, 15), (12, 15), (13, 15), (6, 16), (14, 16)]), (4, [(0, 6), (2, 6), (4, 6), (0, 7), (1, 7), (2, 7), (3, 7), (4, 7), (5, 7), (6, 8), (7, 8), (6, 9), (7, 9), (6, 10), (7, 10), (6, 11), (7, 11), (6, 12), (7, 12), (6, 13), (7, 13), (0, 14), (1, 14), (2, 14), (3, 14), (4, 14), (5, 14), (6, 14), (8, 14), (10, 14), (12, 14), (0, 15), (1, 15), (2, 15), (3, 15), (4, 15), (5, 15), (6, 15), (7, 15), (8, 15), (9, 15), (10, 15), (11, 15), (12, 15), (13, 15), (6, 16), (14, 16)])] tabOK mixed gok_impl_relation hok_impl_relation Try.func43 rfl Try.ntmps43 Try.results43 rfl (by kernel_rfl) fun F hN hlen => ?_
  have el := len_encPs (comP s t)
  rw [com_ends ns nt] at el
  have s1 := hs.1
  have s2 := hs.2
  have t1 := ht.1
  have t2 := ht.2
  have hr := rel_cases s t
  obtain ⟨n, hn⟩ : ∃ n, (endsP s t).length = n := ⟨_, rfl⟩
  rw [hn] at el hr
  rcases n with _ | _ | n
  · have d1 : (((0 : Nat) : Int) == 0) = true := rfl
    have hc : crossesP s t = (decide (sgnI (turn s.1 s.2 t.1) * sgnI (turn s.1 s.2 t.2) < 0) && decide (sgnI (turn t.1 t.2 s.1) * sgnI (turn t.1 t.2 s.2) < 0)) := rfl
    cases c1 : decide (sgnI (turn s.1 s.2 t.1) * sgnI (turn s.1 s.2 t.2) < 0) with
    | true =>
      cases c2 : decide (sgnI (turn t.1 t.2 s.1) * sgnI (turn t.1 t.2 s.2) < 0) with
      | true =>
        have hx : relP s t = 2 := by rw [hr, hc, c1, c2]; rfl
        simp only [V_seq, V_ret, V_block, V_region, V_draw, V_cond, brW_true, drawW, WS_nil, pairsOf, W_nil, W_cons, effOp2, effOp3, WI_nil, WI_cons, KN_seq, KXr_nil, KXr_seq, KXr_block, QE, dynOK, indB, farB, freshB, freshK, freshK1, heapy, asB, effOp, effPure, effPick, effNew, effBox, effCall, giveUp, hasAll, skipE, pureV, pickV, binV, partV, loadV, faddrV, lenV, solid, IV.cells, ofC, strip, lkT, lkH, ISt.app, opI, gO, gB, allB, gval, wrapG, dstOK, setD, mentTm, mentHp, IV.ment, IV.mentL, oneI, lendV, lendP, lent, lentP, idsV, idsL, lkHS, flat, clean, callArgs, callFn, allLent, enumT, Gives, Ideal.Fin, conv, conv0, IBlk.shape, Op.operands, Call.operands, List.append_toArray, reduceIte, reduceCtorEq, cond_true, cond_false, Bool.or_false, Bool.and_true, Bool.and_eq_true, Bool.not_true, Bool.not_false, Nat.reduceAdd, Nat.reduceLT, Nat.reduceLeDiff, Nat.reduceEqDiff, Nat.reduceBEq, Nat.add_zero, Nat.zero_add, ne_eq, not_false_eq_true, beq_self_eq_true, and_true, and_false, and_self, implies_true, List.map_cons, List.map_nil, List.nil_append, List.cons_append, List.append_nil, List.all_cons, List.all_nil, Option.map_some, Option.bind_some, List.getElem?_cons_zero, List.getElem?_cons_succ, List.getD_cons_zero, List.getD_cons_succ, List.length_cons, List.length_nil, List.take_succ_cons, List.take_zero, List.take_nil, List.drop_succ_cons, List.drop_zero, ex_clo, or_true, or_self, Bool.true_eq_false, Bool.false_eq_true, tab23, tab28, tab30, hN, pe, encQ, lk_impl_relation_impl_common, lk_impl_relation_impl_turn, lk_impl_relation_impl_sign, sp_impl_common, sp_impl_turn, sp_impl_sign, hs, ht, el, s1, s2, t1, t2, d1, sg_mul, c1, c2, hx]
      | false =>
        have hx : relP s t = 0 := by rw [hr, hc, c1, c2]; rfl
        simp only [V_seq, V_skip, V_ret, V_block, V_region, V_draw, V_cond, brW_true, brW_false, drawW, WS_nil, pairsOf, W_nil, W_cons, effOp2, effOp3, WI_nil, WI_cons, KN_seq, KXr_nil, KXr_seq, KXr_block, QE, dynOK, indB, farB, freshB, freshK, freshK1, heapy, asB, effOp, effPure, effPick, effNew, effBox, effCall, giveUp, hasAll, skipE, pureV, pickV, binV, partV, loadV, faddrV, lenV, solid, IV.cells, ofC, strip, lkT, lkH, ISt.app, opI, gO, gB, allB, gval, wrapG, dstOK, setD, mentTm, mentHp, IV.ment, IV.mentL, oneI, lendV, lendP, lent, lentP, idsV, idsL, lkHS, flat, clean, callArgs, callFn, allLent, enumT, Gives, Ideal.Fin, conv, conv0, IBlk.shape, Op.operands, Call.operands, List.append_toArray, reduceIte, reduceCtorEq, cond_true, cond_false, Bool.or_false, Bool.and_true, Bool.and_eq_true, Bool.not_true, Bool.not_false, Nat.reduceAdd, Nat.reduceLT, Nat.reduceLeDiff, Nat.reduceEqDiff, Nat.reduceBEq, Nat.add_zero, Nat.zero_add, ne_eq, not_false_eq_true, beq_self_eq_true, and_true, and_false, and_self, implies_true, List.map_cons, List.map_nil, List.nil_append, List.cons_append, List.append_nil, List.all_cons, List.all_nil, Option.map_some, Option.bind_some, List.getElem?_cons_zero, List.getElem?_cons_succ, List.getD_cons_zero, List.getD_cons_succ, List.length_cons, List.length_nil, List.take_succ_cons, List.take_zero, List.take_nil, List.drop_succ_cons, List.drop_zero, ex_clo, or_true, or_self, Bool.true_eq_false, Bool.false_eq_true, tab23, tab28, tab30, hN, pe, encQ, lk_impl_relation_impl_common, lk_impl_relation_impl_turn, lk_impl_relation_impl_sign, sp_impl_common, sp_impl_turn, sp_impl_sign, hs, ht, el, s1, s2, t1, t2, d1, sg_mul, c1, c2, hx]
    | false =>
      have hx : relP s t = 0 := by rw [hr, hc, c1]; rfl
      simp only [V_seq, V_skip, V_ret, V_block, V_region, V_draw, V_cond, brW_true, brW_false, drawW, WS_nil, pairsOf, W_nil, W_cons, effOp2, effOp3, WI_nil, WI_cons, KN_seq, KXr_nil, KXr_seq, KXr_block, QE, dynOK, indB, farB, freshB, freshK, freshK1, heapy, asB, effOp, effPure, effPick, effNew, effBox, effCall, giveUp, hasAll, skipE, pureV, pickV, binV, partV, loadV, faddrV, lenV, solid, IV.cells, ofC, strip, lkT, lkH, ISt.app, opI, gO, gB, allB, gval, wrapG, dstOK, setD, mentTm, mentHp, IV.ment, IV.mentL, oneI, lendV, lendP, lent, lentP, idsV, idsL, lkHS, flat, clean, callArgs, callFn, allLent, enumT, Gives, Ideal.Fin, conv, conv0, IBlk.shape, Op.operands, Call.operands, List.append_toArray, reduceIte, reduceCtorEq, cond_true, cond_false, Bool.or_false, Bool.and_true, Bool.and_eq_true, Bool.not_true, Bool.not_false, Nat.reduceAdd, Nat.reduceLT, Nat.reduceLeDiff, Nat.reduceEqDiff, Nat.reduceBEq, Nat.add_zero, Nat.zero_add, ne_eq, not_false_eq_true, and_true, and_false, and_self, false_implies, implies_true, List.map_cons, List.map_nil, List.nil_append, List.cons_append, List.append_nil, List.all_cons, List.all_nil, Option.map_some, Option.bind_some, List.getElem?_cons_zero, List.getElem?_cons_succ, List.getD_cons_zero, List.getD_cons_succ, List.length_cons, List.length_nil, List.take_succ_cons, List.take_zero, List.take_nil, List.drop_succ_cons, List.drop_zero, ex_clo, bft, or_true, or_self, Bool.false_eq_true, tab23, tab28, tab30, hN, pe, encQ, lk_impl_relation_impl_common, lk_impl_relation_impl_turn, lk_impl_relation_impl_sign, sp_impl_common, sp_impl_turn, sp_impl_sign, hs, ht, el, s1, s2, t1, t2, d1, sg_mul, c1, hx]
  · have d1 : (((0 + 1 : Nat) : Int) == 0) = false := rfl
    have d2 : (((0 + 1 : Nat) : Int) == 1) = true := rfl
    have hx : relP s t = 1 := by rw [hr]; rfl
    simp only [V_seq, V_ret, V_block, V_region, V_cond, brW_true, brW_false, W_nil, W_cons, effOp2, KN_seq, KXr_nil, KXr_seq, KXr_block, QE, asB, effOp, effPure, effNew, effBox, effCall, giveUp, hasAll, skipE, pureV, binV, partV, loadV, lenV, solid, IV.cells, ofC, strip, lkT, lkH, ISt.app, opI, gO, gB, allB, gval, wrapG, dstOK, setD, mentTm, mentHp, IV.ment, IV.mentL, oneI, lendV, lendP, lent, lentP, idsV, idsL, lkHS, flat, clean, callArgs, callFn, allLent, enumT, Gives, Ideal.Fin, conv, conv0, Op.operands, Call.operands, List.append_toArray, reduceIte, reduceCtorEq, cond_true, cond_false, Bool.or_false, Bool.and_true, Bool.not_true, Nat.reduceAdd, Nat.reduceLT, Nat.reduceLeDiff, Nat.reduceEqDiff, Nat.reduceBEq, Nat.zero_add, ne_eq, not_false_eq_true, and_false, and_self, implies_true, List.map_cons, List.map_nil, List.nil_append, List.cons_append, List.append_nil, List.all_cons, List.all_nil, List.getD_cons_zero, List.length_cons, List.length_nil, List.take_succ_cons, List.take_nil, List.drop_zero, ex_clo, or_true, Bool.false_eq_true, tab23, tab30, hN, pe, encQ, lk_impl_relation_impl_common, sp_impl_common, hs, ht, el, d1, d2, hx]
  · have d1 : (((n + 1 + 1 : Nat) : Int) == 0) = false := by simp; omega
    have d2 : (((n + 1 + 1 : Nat) : Int) == 1) = false := by simp; omega
    have hx : relP s t = 3 := by rw [hr, if_pos (by omega)]
    simp only [V_seq, V_skip, V_ret, V_block, V_region, V_cond, brW_false, W_nil, W_cons, effOp2, KN_seq, KN_block, KXr_nil, QE, asB, effOp, effPure, effNew, effBox, effCall, giveUp, hasAll, skipE, pureV, binV, partV, loadV, lenV, solid, IV.cells, ofC, strip, lkT, lkH, ISt.app, opI, gO, gB, allB, gval, wrapG, dstOK, setD, mentTm, mentHp, IV.ment, IV.mentL, oneI, lendV, lendP, lent, lentP, idsV, idsL, lkHS, flat, clean, callArgs, callFn, allLent, enumT, Gives, Ideal.Fin, conv, conv0, Op.operands, Call.operands, List.append_toArray, reduceIte, reduceCtorEq, cond_true, cond_false, Bool.or_false, Bool.and_true, Bool.not_true, Nat.reduceAdd, Nat.reduceLT, Nat.reduceLeDiff, Nat.reduceEqDiff, Nat.reduceBEq, Nat.zero_add, ne_eq, not_false_eq_true, and_false, and_self, implies_true, List.map_cons, List.map_nil, List.nil_append, List.cons_append, List.append_nil, List.all_cons, List.all_nil, List.getD_cons_zero, List.length_cons, List.length_nil, List.take_succ_cons, List.take_nil, List.drop_zero, ex_clo, or_true, Bool.false_eq_true, tab23, tab30, hN, pe, encQ, lk_impl_relation_impl_common, sp_impl_common, hs, ht, el, d1, d2, hx]
def sp_impl_relation : PSpec := ⟨fun xs => match xs with | [.agg [.num .i64 s1, .num .i64 s2, .num .i64 s3, .num .i64 s4], .agg [.num .i64 t1, .num .i64 t2, .num .i64 t3, .num .i64 t4]] => ((fun (s : Qd) (t : Qd) => SmQ s) ((s1, s2), (s3, s4)) ((t1, t2), (t3, t4))) ∧ ((fun (s : Qd) (t : Qd) => SmQ t) ((s1, s2), (s3, s4)) ((t1, t2), (t3, t4))) ∧ ((fun (s : Qd) (t : Qd) => s.1 ≠ s.2) ((s1, s2), (s3, s4)) ((t1, t2), (t3, t4))) ∧ ((fun (s : Qd) (t : Qd) => t.1 ≠ t.2) ((s1, s2), (s3, s4)) ((t1, t2), (t3, t4))) | _ => False, fun xs => match xs with | [.agg [.num _ s1, .num _ s2, .num _ s3, .num _ s4], .agg [.num _ t1, .num _ t2, .num _ t3, .num _ t4]] => (fun (s : Qd) (t : Qd) => .num .i64 (relP s t)) ((s1, s2), (s3, s4)) ((t1, t2), (t3, t4)) | _ => .junk, false⟩
theorem gk_impl_relation : ∀ args, sp_impl_relation.pre args → ICall Try.prog 43 args (sp_impl_relation.val args) := by
  intro args h
  unfold sp_impl_relation at h ⊢; simp only at h ⊢; split at h
  · obtain ⟨h0, h1, h2, h3⟩ := h
    simp only [toPs_enc] at *
    exact c_impl_relation ((_, _), (_, _)) ((_, _), (_, _)) h0 h1 h2 h3
  · exact h.elim
theorem en_impl_relation : Enters Try.prog 43 := enters_of Try.func43 (by kernel_rfl) rfl


/-- The common ends among the first ones looked at. -/
def both (s t : Qd) (p : Pt) : Bool := onS s p && onS t p
def endsN (s t : Qd) (i : Nat) : List Pt := insP (([s.1, s.2, t.1, t.2].take i).filter (both s t))
theorem endsN_all (s t : Qd) : endsN s t 4 = endsP s t := rfl
theorem endsN_step {s t : Qd} {i : Nat} (h : i < 4) : endsN s t (i + 1) = if both s t (pAt [s.1, s.2, t.1, t.2] i) then addP (endsN s t i) (pAt [s.1, s.2, t.1, t.2] i) else endsN s t i := by
  have : [s.1, s.2, t.1, t.2].take (i + 1) = [s.1, s.2, t.1, t.2].take i ++ [pAt [s.1, s.2, t.1, t.2] i] := take_succ_g (d := (0, 0)) (by simpa using h)
  unfold endsN
  rw [this, List.filter_append]
  simp only [List.filter_cons, List.filter_nil]
  split
  · rw [insP, insP, List.foldl_append]; rfl
  · rw [List.append_nil]
theorem endsN_len (s t : Qd) (i : Nat) : (endsN s t i).length ≤ 4 := by
  have h1 := insP_len (([s.1, s.2, t.1, t.2].take i).filter (both s t))
  have h2 := List.length_filter_le (both s t) ([s.1, s.2, t.1, t.2].take i)
  rw [List.length_take] at h2
  unfold endsN
  simp only [List.length_cons, List.length_nil] at h2
  omega
theorem at_four {P : Pt → Prop} {a b c d : Pt} (ha : P a) (hb : P b) (hc : P c) (hd : P d) {i : Nat} (h : i < 4) : P (pAt [a, b, c, d] i) := by
  rcases i with _ | _ | _ | _ | i
  · exact ha
  · exact hb
  · exact hc
  · exact hd
  · omega
def g_spec_commonEnds : List (Nat × PSpec) := [(96, sp_spec_onSegment), (135, sp_spec_addPoint)]
theorem gok_spec_commonEnds : GOK Try.prog g_spec_commonEnds := gok_cons gk_spec_onSegment en_spec_onSegment (gok_cons gk_spec_addPoint en_spec_addPoint (gok0))
theorem lk_spec_commonEnds_spec_onSegment : lkG g_spec_commonEnds 96 = sp_spec_onSegment := rfl
theorem lk_spec_commonEnds_spec_addPoint : lkG g_spec_commonEnds 135 = sp_spec_addPoint := rfl
def h_spec_commonEnds : List (Nat × HSpec) := []
theorem hok_spec_commonEnds : HOK Try.prog h_spec_commonEnds := hok0
theorem c_spec_commonEnds (s : Qd) (t : Qd) (hs : SmQ s) (ht : SmQ t) : ICall Try.prog 126 [encQ s, encQ t] (.sl 2 (encPs (endsP s t))) := by
  refine icall_V (G := g_spec_commonEnds) (H := []) [(6, [(1, 5), (2, 5), (3, 5), (5, 7), (5, 8), (5, 9), (5, 10), (5, 11), (0, 12), (1, 12), (2, 12), (3, 12), (4, 12), (5, 12), (8, 12), (9, 12), (10, 12), (5, 13)])] tabOK mixed gok_spec_commonEnds hok_spec_commonEnds Try.func126 rfl Try.ntmps126 Try.results126 rfl (by kernel_rfl) fun F hN hlen => ?_
  have el := len_encPs [s.1, s.2, t.1, t.2]
  simp only [V_seq, V_block, V_region, W_nil, W_cons, effOp2, KN_seq, effOp, effPure, effNew, effBox, effBuildSlice, effFrz, frz, tmpsOf, skipE, pureV, partV, loadV, faddrV, solid, IV.cells, ofC, strip, lkT, lkH, ISt.app, opI, gO, gB, allB, gval, wrapG, dstOK, setD, mentTm, mentHp, IV.ment, IV.mentL, partsL, eltsI, eltI, oneI, noId', enumT, IBlk.shape, Op.operands, reduceIte, reduceCtorEq, cond_true, Bool.or_false, Bool.and_true, Nat.reduceAdd, Nat.reduceMul, Nat.reduceLT, Nat.reduceLeDiff, Nat.reduceEqDiff, Nat.reduceBEq, Nat.add_zero, Nat.zero_add, ne_eq, not_false_eq_true, true_and, and_false, and_self, implies_true, List.nil_append, List.cons_append, List.append_nil, List.all_cons, List.all_nil, Option.map_some, List.getD_cons_zero, List.getD_cons_succ, List.length_cons, List.length_nil, List.take_succ_cons, List.take_zero, List.take_nil, List.drop_succ_cons, List.drop_zero, tab23, tab28, tab30, hN, encQ]
  refine V_loop (α := Nat) ⟨tabOK, mixed, gok_spec_commonEnds, hok_spec_commonEnds⟩ (by kernel_rfl) (fun i => i ≤ 4) (fun i => ⟨[(7, .num .i64 i), (6, .sl 2 (encPs [s.1, s.2, t.1, t.2])), (5, .sl 2 (encPs (endsN s t i))), (3, .ptr 3 0), (2, .ptr 2 0)], [(3, some (.box 30 [.num .i64 t.1.1, .num .i64 t.1.2, .num .i64 t.2.1, .num .i64 t.2.2])), (2, some (.box 30 [.num .i64 s.1.1, .num .i64 s.1.2, .num .i64 s.2.1, .num .i64 s.2.2]))]⟩) (fun i => 4 - i) 0 id (Nat.zero_le _) (by simp [SLe, SLe0, convTm, convHp, convB, conv, conv0, convL, lkT, lkH, clean, endsN, insP, encPs, encP]; exact ⟨⟨_, _, ⟨rfl, rfl⟩, by simp, by simp, fun id' h e => by subst e; simp at h⟩, fun id' h e => by subst e; simp at h⟩) ?_
  intro i hi
  simp only [V_seq, V_region, V_cond, W_nil, W_cons, effOp2, KN_seq, asB, effOp, effPure, pureV, binV, lenV, strip, lkT, ISt.app, opI, gO, gB, allB, gval, wrapG, dstOK, setD, Op.operands, Call.operands, List.append_toArray, reduceIte, reduceCtorEq, Nat.reduceAdd, Nat.reduceLT, Nat.reduceEqDiff, Nat.zero_add, ne_eq, not_false_eq_true, true_and, and_self, implies_true, List.nil_append, List.cons_append, List.length_cons, List.length_nil, tab23, hN, el]
  refine brW_some (fun h => ?_) (fun h => ?_)
  · have hi' : i < 4 := by simp at h; omega
    have g0 := getD_encPs (l := [s.1, s.2, t.1, t.2]) (i := i) (by simpa using hi')
    have hw := wr_succ hi' (by rw [maxLen_eq]; omega)
    have sp := at_four (P := Sm) hs.1 hs.2 ht.1 ht.2 hi'
    have hst := endsN_step (s := s) (t := t) hi'
    have hn := endsN_len s t i
    have hn2 : (endsN s t i).length ≤ 1000 := by omega
    generalize pAt [s.1, s.2, t.1, t.2] i = p at *
    cases c1 : onS s p with
    | true =>
      cases c2 : onS t p with
      | true =>
        rw [if_pos (by rw [both, c1, c2]; rfl)] at hst
        simp only [V_seq, V_skip, V_block, V_region, V_draw, V_cond, brW_true, drawW, WS_nil, WS_cons, pairsOf, W_nil, W_cons, effOp2, effOp3, WI_nil, WI_cons, KN_seq, KN_block, KN_back, dynOK, indB, farB, freshB, freshK, freshK1, heapy, asB, effOp, effPure, effPick, effCall, giveUp, hasAll, pureV, pickV, binV, partV, eltV, loadV, iaddrV, ofC, strip, lkT, lkH, ISt.app, opI, gO, gB, allB, gval, wrapG, dstOK, setD, mentTm, mentHp, IV.ment, IV.mentL, lendV, lendP, lent, lentP, idsV, idsL, lkHS, flat, clean, callArgs, callFn, allLent, Op.operands, Call.operands, List.append_toArray, reduceIte, reduceCtorEq, cond_true, cond_false, Bool.or_false, Bool.and_true, Bool.true_and, Bool.and_eq_true, Bool.not_true, Bool.not_false, Nat.reduceAdd, Nat.reduceLT, Nat.reduceLeDiff, Nat.reduceEqDiff, Nat.reduceBEq, Nat.zero_add, ne_eq, not_false_eq_true, beq_self_eq_true, true_and, and_true, and_false, and_self, implies_true, forall_const, List.map_cons, List.map_nil, List.nil_append, List.cons_append, List.append_nil, Option.bind_some, List.getElem?_cons_zero, List.getElem?_cons_succ, List.getD_cons_zero, List.getD_cons_succ, List.length_cons, List.length_nil, List.take_succ_cons, List.take_zero, List.take_nil, List.drop_succ_cons, List.drop_zero, ex_clo, or_true, or_self, Bool.true_eq_false, Bool.false_eq_true, tab23, tab28, tab30, hN, pe, Int.toNat_natCast, isPs_enc, toPs_enc, lk_spec_commonEnds_spec_onSegment, lk_spec_commonEnds_spec_addPoint, sp_spec_onSegment, sp_spec_addPoint, el, g0, hw, hs, ht, sp, c1, c2, hn2]
        repeat refine And.intro (by first | omega | (simp; done) | (simp; omega)) ?_
        exact ⟨i + 1, id, by simp only []; omega, by simp only []; omega, by simp only []; rw [hst]; exact by simp [SLe, SLe0, convTm, convHp, convB, conv, conv0, convL, lkT, lkH, clean]⟩
      | false =>
        rw [if_neg (by rw [both, c1, c2]; decide)] at hst
        simp only [V_seq, V_skip, V_block, V_region, V_draw, V_cond, brW_false, drawW, WS_nil, WS_cons, pairsOf, W_nil, W_cons, effOp2, effOp3, WI_nil, WI_cons, KN_seq, KN_block, KN_back, dynOK, indB, farB, freshB, freshK, freshK1, heapy, asB, effOp, effPure, effPick, effCall, giveUp, hasAll, pureV, pickV, binV, partV, eltV, loadV, iaddrV, ofC, strip, lkT, lkH, ISt.app, opI, gO, gB, allB, gval, wrapG, dstOK, setD, mentTm, mentHp, IV.ment, IV.mentL, lendV, lendP, lent, lentP, idsV, idsL, lkHS, flat, clean, callArgs, callFn, allLent, Op.operands, Call.operands, List.append_toArray, reduceIte, reduceCtorEq, cond_true, cond_false, Bool.or_false, Bool.and_true, Bool.true_and, Bool.and_eq_true, Bool.not_true, Bool.not_false, Nat.reduceAdd, Nat.reduceLT, Nat.reduceLeDiff, Nat.reduceEqDiff, Nat.reduceBEq, Nat.zero_add, ne_eq, not_false_eq_true, beq_self_eq_true, true_and, and_true, and_false, and_self, implies_true, forall_const, List.map_cons, List.map_nil, List.nil_append, List.cons_append, List.append_nil, Option.bind_some, List.getElem?_cons_zero, List.getElem?_cons_succ, List.getD_cons_zero, List.getD_cons_succ, List.length_cons, List.length_nil, List.take_succ_cons, List.take_zero, List.take_nil, List.drop_succ_cons, List.drop_zero, ex_clo, or_self, Bool.true_eq_false, tab23, tab28, tab30, hN, pe, Int.toNat_natCast, lk_spec_commonEnds_spec_onSegment, sp_spec_onSegment, el, g0, hw, hs, ht, sp, c1, c2]
        repeat refine And.intro (by first | omega | (simp; done) | (simp; omega)) ?_
        exact ⟨i + 1, id, by simp only []; omega, by simp only []; omega, by simp only []; rw [hst]; exact by simp [SLe, SLe0, convTm, convHp, convB, conv, conv0, convL, lkT, lkH, clean]⟩
    | false =>
      rw [if_neg (by rw [both, c1]; simp)] at hst
      simp only [V_seq, V_skip, V_block, V_region, V_draw, V_cond, brW_false, drawW, WS_nil, WS_cons, pairsOf, W_nil, W_cons, effOp2, effOp3, WI_nil, WI_cons, KN_seq, KN_block, KN_back, dynOK, indB, farB, freshB, freshK, freshK1, heapy, asB, effOp, effPure, effPick, effCall, giveUp, hasAll, pureV, pickV, binV, partV, eltV, loadV, iaddrV, ofC, strip, lkT, lkH, ISt.app, opI, gO, gB, allB, gval, wrapG, dstOK, setD, mentTm, mentHp, IV.ment, IV.mentL, lendV, lendP, lent, lentP, idsV, idsL, lkHS, flat, clean, callArgs, callFn, allLent, Op.operands, Call.operands, List.append_toArray, reduceIte, reduceCtorEq, cond_true, cond_false, Bool.or_false, Bool.or_true, Bool.and_true, Bool.true_and, Bool.and_eq_true, Bool.not_true, Bool.not_false, Nat.reduceAdd, Nat.reduceLT, Nat.reduceLeDiff, Nat.reduceEqDiff, Nat.reduceBEq, Nat.zero_add, ne_eq, not_false_eq_true, true_and, and_true, false_and, and_false, and_self, false_implies, implies_true, forall_const, List.map_cons, List.map_nil, List.nil_append, List.cons_append, List.append_nil, Option.bind_some, List.getElem?_cons_zero, List.getElem?_cons_succ, List.getD_cons_zero, List.getD_cons_succ, List.length_cons, List.length_nil, List.take_succ_cons, List.take_zero, List.take_nil, List.drop_succ_cons, List.drop_zero, ex_clo, bft, or_self, Bool.false_eq_true, tab23, tab28, tab30, hN, pe, Int.toNat_natCast, lk_spec_commonEnds_spec_onSegment, sp_spec_onSegment, el, g0, hw, hs, ht, sp, c1]
      repeat refine And.intro (by first | omega | (simp; done) | (simp; omega)) ?_
      exact ⟨i + 1, id, by simp only []; omega, by simp only []; omega, by simp only []; rw [hst]; exact by simp [SLe, SLe0, convTm, convHp, convB, conv, conv0, convL, lkT, lkH, clean]⟩
  · have hie : i = 4 := by simp at h; omega
    subst hie
    simp only [V_seq, V_ret, V_exit, V_region, W_nil, W_cons, effOp2, KN_seq, KXr_nil, KXe_nil, KXe_seq, KXe_block, KXe_back, QE, effOp, effPure, pureV, strip, lkT, lkH, ISt.app, opI, gO, gB, allB, gval, wrapG, dstOK, setD, Gives, Ideal.Fin, conv, conv0, Op.operands, reduceIte, Nat.reduceSub, Nat.reduceLT, Nat.reduceEqDiff, and_self, implies_true, List.nil_append, List.cons_append, hN, endsN_all]
def sp_spec_commonEnds : PSpec := ⟨fun xs => match xs with | [.agg [.num .i64 s1, .num .i64 s2, .num .i64 s3, .num .i64 s4], .agg [.num .i64 t1, .num .i64 t2, .num .i64 t3, .num .i64 t4]] => ((fun (s : Qd) (t : Qd) => SmQ s) ((s1, s2), (s3, s4)) ((t1, t2), (t3, t4))) ∧ ((fun (s : Qd) (t : Qd) => SmQ t) ((s1, s2), (s3, s4)) ((t1, t2), (t3, t4))) | _ => False, fun xs => match xs with | [.agg [.num _ s1, .num _ s2, .num _ s3, .num _ s4], .agg [.num _ t1, .num _ t2, .num _ t3, .num _ t4]] => (fun (s : Qd) (t : Qd) => .sl 2 (encPs (endsP s t))) ((s1, s2), (s3, s4)) ((t1, t2), (t3, t4)) | _ => .junk, false⟩
theorem gk_spec_commonEnds : ∀ args, sp_spec_commonEnds.pre args → ICall Try.prog 126 args (sp_spec_commonEnds.val args) := by
  intro args h
  unfold sp_spec_commonEnds at h ⊢; simp only at h ⊢; split at h
  · obtain ⟨h0, h1⟩ := h
    simp only [toPs_enc] at *
    exact c_spec_commonEnds ((_, _), (_, _)) ((_, _), (_, _)) h0 h1
  · exact h.elim
theorem en_spec_commonEnds : Enters Try.prog 126 := enters_of Try.func126 (by kernel_rfl) rfl

def g_spec_relation : List (Nat × PSpec) := [(126, sp_spec_commonEnds), (107, sp_spec_cross), (106, sp_spec_sign)]
theorem gok_spec_relation : GOK Try.prog g_spec_relation := gok_cons gk_spec_commonEnds en_spec_commonEnds (gok_cons gk_spec_cross en_spec_cross (gok_cons gk_spec_sign en_spec_sign (gok0)))
theorem lk_spec_relation_spec_commonEnds : lkG g_spec_relation 126 = sp_spec_commonEnds := rfl
theorem lk_spec_relation_spec_cross : lkG g_spec_relation 107 = sp_spec_cross := rfl
theorem lk_spec_relation_spec_sign : lkG g_spec_relation 106 = sp_spec_sign := rfl
def h_spec_relation : List (Nat × HSpec) := []
theorem hok_spec_relation : HOK Try.prog h_spec_relation := hok0
theorem c_spec_relation (s : Qd) (t : Qd) (hs : SmQ s) (ht : SmQ t) : ICall Try.prog 85 [encQ s, encQ t] (.num .i64 (relP s t)) := by
  refine icall_V (G := g_spec_relation) (H := []) [(6, [(0, 6), (2, 6), (4, 6), (0, 7), (1, 7), (2, 7), (3, 7), (4, 7), (5, 7), (6, 8), (7, 8), (6, 9), (7, 9), (6, 10), (7, 10), (6, 11), (7, 11), (6, 12), (7, 12), (6, 13), (7, 13), (0, 14), (1, 14), (2, 14), (3, 14), (4, 14), (5, 14), (6, 14), (8, 14), (10, 14), (12, 14), (0, 15), (1, 15), (2, 15), (3, 15), (4, 15), (5, 15), (6, 15), (7, 15), (8, 15), (9, 15), (10, 15), (11, 15), (12, 15), (13, 15), (6, 16), (14, 16), (6, 17), (7, 17), (14, 17), (15, 17), (6, 18), (7, 18), (14, 18), (6, 19), (7, 19), (14, 19), (15, 19), (6, 20), (7, 20), (14, 20), (15, 20), (6, 21), (7, 21), (14, 21), (15, 21), (6, 22), (7, 22), (14, 22), (15, 22), (6, 23), (7, 23), (14, 23), (15, 23), (6, 24), (7, 24), (14, 24), (15, 24), (0, 25), (1, 25), (2, 25), (3, 25), (4, 25), (5, 25), (6, 25), (7, 25), (8, 25), (9, 25), (10, 25), (11, 25), (12, 25), (13, 25), (14, 25), (15, 25), (16, 25), (17, 25), (19, 25), (21, 25), (23, 25), (0, 26), (1, 26), (2, 26), (3, 26), (4, 26), (5, 26), (6, 26), (7, 26), (8, 26), (9, 26), (10, 26), (11, 26), (12, 26), (13, 26), (14, 26), (15, 26), (16, 26), (17, 26), (19, 26), (20, 26), (21, 26), (22, 26), (23, 26), (24, 26), (6, 27), (7, 27), (14, 27), (15, 27), (25, 27), (26, 27), (6, 28), (7, 28), (14, 28), (15, 28), (25, 28), (26, 28), (6, 29), (7, 29), (14, 29), (15, 29), (25, 29), (26, 29), (6, 30), (7, 30), (14, 30), (15, 30), (25, 30), (26, 30), (6, 31), (7, 31), (14, 31), (15, 31), (25, 31), (26, 31), (6, 32), (7, 32), (14, 32), (15, 32), (25, 32), (26, 32), (0, 33), (1, 33), (2, 33), (3, 33), (4, 33), (5, 33), (6, 33), (7, 33), (8, 33), (9, 33), (10, 33), (11, 33), (12, 33), (13, 33), (14, 33), (15, 33), (16, 33), (17, 33), (19, 33), (20, 33), (21, 33), (22, 33), (23, 33), (24, 33), (25, 33), (27, 33), (29, 33), (31, 33), (0, 34), (1, 34), (2, 34), (3, 34), (4, 34), (5, 34), (6, 34), (7, 34), (8, 34), (9, 34), (10, 34), (11, 34), (12, 34), (13, 34), (14, 34), (15, 34), (16, 34), (17, 34), (19, 34), (20, 34), (21, 34), (22, 34), (23, 34), (24, 34), (25, 34), (26, 34), (27, 34), (28, 34), (29, 34), (30, 34), (31, 34), (32, 34), (6, 35), (7, 35), (14, 35), (15, 35), (25, 35), (33, 35), (6, 36), (7, 36), (14, 36), (15, 36), (25, 36), (26, 36), (33, 36), (34, 36), (6, 37), (7, 37), (14, 37), (15, 37), (25, 37), (26, 37), (33, 37), (34, 37), (6, 38), (7, 38), (14, 38), (15, 38), (25, 38), (26, 38), (33, 38)])] tabOK mixed gok_spec_relation hok_spec_relation Try.func85 rfl Try.ntmps85 Try.results85 rfl (by kernel_rfl) fun F hN hlen => ?_
  have el := len_encPs (endsP s t)
  have s1 := hs.1
  have s2 := hs.2
  have t1 := ht.1
  have t2 := ht.2
  have hr := rel_cases s t
  obtain ⟨n, hn⟩ : ∃ n, (endsP s t).length = n := ⟨_, rfl⟩
  rw [hn] at el hr
  rcases n with _ | _ | n
  · have d1 : decide ((1 : Int) < ((0 : Nat) : Int)) = false := rfl
    have d2 : (((0 : Nat) : Int) == 1) = false := rfl
    have hc : crossesP s t = (decide (sgnI (turn s.1 s.2 t.1) * sgnI (turn s.1 s.2 t.2) < 0) && decide (sgnI (turn t.1 t.2 s.1) * sgnI (turn t.1 t.2 s.2) < 0)) := rfl
    cases c1 : decide (sgnI (turn s.1 s.2 t.1) * sgnI (turn s.1 s.2 t.2) < 0) with
    | true =>
      cases c2 : decide (sgnI (turn t.1 t.2 s.1) * sgnI (turn t.1 t.2 s.2) < 0) with
      | true =>
        have hx : relP s t = 2 := by rw [hr, hc, c1, c2]; rfl
        simp only [V_seq, V_ret, V_block, V_region, V_draw, V_cond, brW_true, brW_false, drawW, WS_nil, pairsOf, W_nil, W_cons, effOp2, effOp3, WI_nil, WI_cons, KN_seq, KXr_nil, KXr_seq, KXr_block, QE, dynOK, indB, farB, freshB, freshK, freshK1, heapy, asB, effOp, effPure, effPick, effNew, effBox, effCall, giveUp, hasAll, skipE, pureV, pickV, binV, partV, loadV, faddrV, lenV, solid, IV.cells, ofC, strip, lkT, lkH, ISt.app, opI, gO, gB, allB, gval, wrapG, dstOK, setD, mentTm, mentHp, IV.ment, IV.mentL, oneI, lendV, lendP, lent, lentP, idsV, idsL, lkHS, flat, clean, callArgs, callFn, allLent, enumT, Gives, Ideal.Fin, conv, conv0, IBlk.shape, Op.operands, Call.operands, List.append_toArray, reduceIte, reduceCtorEq, cond_true, cond_false, Bool.or_false, Bool.and_true, Bool.and_eq_true, Bool.not_true, Bool.not_false, Nat.reduceAdd, Nat.reduceLT, Nat.reduceLeDiff, Nat.reduceEqDiff, Nat.reduceBEq, Nat.add_zero, Nat.zero_add, ne_eq, not_false_eq_true, beq_self_eq_true, and_true, and_false, and_self, implies_true, List.map_cons, List.map_nil, List.nil_append, List.cons_append, List.append_nil, List.all_cons, List.all_nil, Option.map_some, Option.bind_some, List.getElem?_cons_zero, List.getElem?_cons_succ, List.getD_cons_zero, List.getD_cons_succ, List.length_cons, List.length_nil, List.take_succ_cons, List.take_zero, List.take_nil, List.drop_succ_cons, List.drop_zero, ex_clo, or_true, or_self, Bool.true_eq_false, Bool.false_eq_true, tab23, tab28, tab30, hN, pe, encQ, lk_spec_relation_spec_commonEnds, lk_spec_relation_spec_cross, lk_spec_relation_spec_sign, sp_spec_commonEnds, sp_spec_cross, sp_spec_sign, hs, ht, el, s1, s2, t1, t2, d1, d2, sg_mul, c1, c2, hx]
      | false =>
        have hx : relP s t = 0 := by rw [hr, hc, c1, c2]; rfl
        simp only [V_seq, V_skip, V_ret, V_block, V_region, V_draw, V_cond, brW_false, drawW, WS_nil, pairsOf, W_nil, W_cons, effOp2, effOp3, WI_nil, WI_cons, KN_seq, KN_block, KXr_nil, QE, dynOK, indB, farB, freshB, freshK, freshK1, heapy, asB, effOp, effPure, effPick, effNew, effBox, effCall, giveUp, hasAll, skipE, pureV, pickV, binV, partV, loadV, faddrV, lenV, solid, IV.cells, ofC, strip, lkT, lkH, ISt.app, opI, gO, gB, allB, gval, wrapG, dstOK, setD, mentTm, mentHp, IV.ment, IV.mentL, oneI, lendV, lendP, lent, lentP, idsV, idsL, lkHS, flat, clean, callArgs, callFn, allLent, enumT, Gives, Ideal.Fin, conv, conv0, IBlk.shape, Op.operands, Call.operands, List.append_toArray, reduceIte, reduceCtorEq, cond_true, cond_false, Bool.or_false, Bool.and_true, Bool.and_eq_true, Bool.not_true, Bool.not_false, Nat.reduceAdd, Nat.reduceLT, Nat.reduceLeDiff, Nat.reduceEqDiff, Nat.reduceBEq, Nat.add_zero, Nat.zero_add, ne_eq, not_false_eq_true, beq_self_eq_true, and_true, and_false, and_self, implies_true, List.map_cons, List.map_nil, List.nil_append, List.cons_append, List.append_nil, List.all_cons, List.all_nil, Option.map_some, Option.bind_some, List.getElem?_cons_zero, List.getElem?_cons_succ, List.getD_cons_zero, List.getD_cons_succ, List.length_cons, List.length_nil, List.take_succ_cons, List.take_zero, List.take_nil, List.drop_succ_cons, List.drop_zero, ex_clo, or_true, or_self, Bool.true_eq_false, Bool.false_eq_true, tab23, tab28, tab30, hN, pe, encQ, lk_spec_relation_spec_commonEnds, lk_spec_relation_spec_cross, lk_spec_relation_spec_sign, sp_spec_commonEnds, sp_spec_cross, sp_spec_sign, hs, ht, el, s1, s2, t1, t2, d1, d2, sg_mul, c1, c2, hx]
    | false =>
      have hx : relP s t = 0 := by rw [hr, hc, c1]; rfl
      simp only [V_seq, V_skip, V_ret, V_block, V_region, V_draw, V_cond, brW_false, drawW, WS_nil, pairsOf, W_nil, W_cons, effOp2, effOp3, WI_nil, WI_cons, KN_seq, KN_block, KXr_nil, QE, dynOK, indB, farB, freshB, freshK, freshK1, heapy, asB, effOp, effPure, effPick, effNew, effBox, effCall, giveUp, hasAll, skipE, pureV, pickV, binV, partV, loadV, faddrV, lenV, solid, IV.cells, ofC, strip, lkT, lkH, ISt.app, opI, gO, gB, allB, gval, wrapG, dstOK, setD, mentTm, mentHp, IV.ment, IV.mentL, oneI, lendV, lendP, lent, lentP, idsV, idsL, lkHS, flat, clean, callArgs, callFn, allLent, enumT, Gives, Ideal.Fin, conv, conv0, IBlk.shape, Op.operands, Call.operands, List.append_toArray, reduceIte, reduceCtorEq, cond_true, cond_false, Bool.or_false, Bool.or_true, Bool.and_true, Bool.and_eq_true, Bool.not_true, Bool.not_false, Nat.reduceAdd, Nat.reduceLT, Nat.reduceLeDiff, Nat.reduceEqDiff, Nat.reduceBEq, Nat.add_zero, Nat.zero_add, ne_eq, not_false_eq_true, and_true, and_false, and_self, false_implies, implies_true, List.map_cons, List.map_nil, List.nil_append, List.cons_append, List.append_nil, List.all_cons, List.all_nil, Option.map_some, Option.bind_some, List.getElem?_cons_zero, List.getElem?_cons_succ, List.getD_cons_zero, List.getD_cons_succ, List.length_cons, List.length_nil, List.take_succ_cons, List.take_zero, List.take_nil, List.drop_succ_cons, List.drop_zero, ex_clo, bft, or_true, or_self, Bool.false_eq_true, tab23, tab28, tab30, hN, pe, encQ, lk_spec_relation_spec_commonEnds, lk_spec_relation_spec_cross, lk_spec_relation_spec_sign, sp_spec_commonEnds, sp_spec_cross, sp_spec_sign, hs, ht, el, s1, s2, t1, t2, d1, d2, sg_mul, c1, hx]
  · have d1 : decide ((1 : Int) < ((0 + 1 : Nat) : Int)) = false := rfl
    have d2 : (((0 + 1 : Nat) : Int) == 1) = true := rfl
    have hx : relP s t = 1 := by rw [hr]; rfl
    simp only [V_seq, V_ret, V_block, V_region, V_cond, brW_true, brW_false, W_nil, W_cons, effOp2, KN_seq, KXr_nil, KXr_seq, KXr_block, QE, asB, effOp, effPure, effNew, effBox, effCall, giveUp, hasAll, skipE, pureV, binV, partV, loadV, lenV, solid, IV.cells, ofC, strip, lkT, lkH, ISt.app, opI, gO, gB, allB, gval, wrapG, dstOK, setD, mentTm, mentHp, IV.ment, IV.mentL, oneI, lendV, lendP, lent, lentP, idsV, idsL, lkHS, flat, clean, callArgs, callFn, allLent, enumT, Gives, Ideal.Fin, conv, conv0, Op.operands, Call.operands, List.append_toArray, reduceIte, reduceCtorEq, cond_true, cond_false, Bool.or_false, Bool.and_true, Bool.not_true, Nat.reduceAdd, Nat.reduceLT, Nat.reduceLeDiff, Nat.reduceEqDiff, Nat.reduceBEq, Nat.zero_add, ne_eq, not_false_eq_true, and_false, and_self, implies_true, List.map_cons, List.map_nil, List.nil_append, List.cons_append, List.append_nil, List.all_cons, List.all_nil, List.getD_cons_zero, List.length_cons, List.length_nil, List.take_succ_cons, List.take_nil, List.drop_zero, ex_clo, or_true, Bool.false_eq_true, tab23, tab30, hN, pe, encQ, lk_spec_relation_spec_commonEnds, sp_spec_commonEnds, hs, ht, el, d1, d2, hx]
  · have d1 : decide ((1 : Int) < ((n + 1 + 1 : Nat) : Int)) = true := by simp only [decide_eq_true_eq]; omega
    have hx : relP s t = 3 := by rw [hr, if_pos (by omega)]
    simp only [V_seq, V_ret, V_block, V_region, V_cond, brW_true, W_nil, W_cons, effOp2, KN_seq, KXr_nil, KXr_seq, KXr_block, QE, asB, effOp, effPure, effNew, effBox, effCall, giveUp, hasAll, skipE, pureV, binV, partV, loadV, lenV, solid, IV.cells, ofC, strip, lkT, lkH, ISt.app, opI, gO, gB, allB, gval, wrapG, dstOK, setD, mentTm, mentHp, IV.ment, IV.mentL, oneI, lendV, lendP, lent, lentP, idsV, idsL, lkHS, flat, clean, callArgs, callFn, allLent, enumT, Gives, Ideal.Fin, conv, conv0, Op.operands, Call.operands, List.append_toArray, reduceIte, reduceCtorEq, cond_true, cond_false, Bool.or_false, Bool.and_true, Bool.not_true, Nat.reduceAdd, Nat.reduceLT, Nat.reduceLeDiff, Nat.reduceEqDiff, Nat.reduceBEq, Nat.zero_add, ne_eq, not_false_eq_true, and_false, and_self, implies_true, List.map_cons, List.map_nil, List.nil_append, List.cons_append, List.append_nil, List.all_cons, List.all_nil, List.getD_cons_zero, List.length_cons, List.length_nil, List.take_succ_cons, List.take_nil, List.drop_zero, ex_clo, or_true, Bool.false_eq_true, tab23, tab30, hN, pe, encQ, lk_spec_relation_spec_commonEnds, sp_spec_commonEnds, hs, ht, el, d1, hx]
def sp_spec_relation : PSpec := ⟨fun xs => match xs with | [.agg [.num .i64 s1, .num .i64 s2, .num .i64 s3, .num .i64 s4], .agg [.num .i64 t1, .num .i64 t2, .num .i64 t3, .num .i64 t4]] => ((fun (s : Qd) (t : Qd) => SmQ s) ((s1, s2), (s3, s4)) ((t1, t2), (t3, t4))) ∧ ((fun (s : Qd) (t : Qd) => SmQ t) ((s1, s2), (s3, s4)) ((t1, t2), (t3, t4))) | _ => False, fun xs => match xs with | [.agg [.num _ s1, .num _ s2, .num _ s3, .num _ s4], .agg [.num _ t1, .num _ t2, .num _ t3, .num _ t4]] => (fun (s : Qd) (t : Qd) => .num .i64 (relP s t)) ((s1, s2), (s3, s4)) ((t1, t2), (t3, t4)) | _ => .junk, false⟩
theorem gk_spec_relation : ∀ args, sp_spec_relation.pre args → ICall Try.prog 85 args (sp_spec_relation.val args) := by
  intro args h
  unfold sp_spec_relation at h ⊢; simp only at h ⊢; split at h
  · obtain ⟨h0, h1⟩ := h
    simp only [toPs_enc] at *
    exact c_spec_relation ((_, _), (_, _)) ((_, _), (_, _)) h0 h1
  · exact h.elim
theorem en_spec_relation : Enters Try.prog 85 := enters_of Try.func85 (by kernel_rfl) rfl

def g_spec_edgeOf : List (Nat × PSpec) := []
theorem gok_spec_edgeOf : GOK Try.prog g_spec_edgeOf := gok0
def h_spec_edgeOf : List (Nat × HSpec) := []
theorem hok_spec_edgeOf : HOK Try.prog h_spec_edgeOf := hok0
theorem c_spec_edgeOf (l : List Pt) (k : Int) (h0 : 0 ≤ k) (h1 : k < l.length) (hsz : l.length ≤ 1000000) : ICall Try.prog 86 [.sl 2 (encPs l), .num .i64 k] (encQ (edgeP l k.toNat)) := by
  refine icall_of_hcall (v := encQ (edgeP l k.toNat)) (hp' := []) id ?_ (by simp [SLe0, convTm, convHp, conv, convL, conv0, lkT, clean, encQ]) (by simp [idsV, idsL, encQ])
  refine hcall_V (G := g_spec_edgeOf) (H := []) [] tabOK mixed gok_spec_edgeOf hok_spec_edgeOf Try.func86 rfl Try.ntmps86 Try.results86 rfl (by kernel_rfl) fun F hN hlen => ?_
  obtain ⟨i, rfl⟩ : ∃ i : Nat, k = i := ⟨k.toNat, by omega⟩
  have hi' : i < l.length := by omega
  have el := len_encPs l
  have hn : (i + 1) % l.length < l.length := Nat.mod_lt _ (by omega)
  have g0 := getD_encPs hi'
  have g1 := getD_encPs hn
  have hw := wr_succ hi' (by rw [maxLen_eq]; omega)
  have t1 : ((i + 1 : Nat) : Int).tmod (l.length : Int) = (((i + 1) % l.length : Nat) : Int) := by rw [Int.tmod_eq_emod_of_nonneg (by omega)]; simp
  simp only [V_seq, V_ret, V_region, V_draw, drawW, pairsOf, W_nil, W_cons, WD_nil, WD_cons, effOp2, effOp3, KN_seq, KXr_nil, QE, effOp, effPure, effNew, effAlloc, effStore, skipE, pureV, storeV, binV, partV, eltV, loadV, iaddrV, lenV, over, solid, buildL, IV.cells, ofC, strip, lkT, lkH, ISt.app, opI, gO, gB, allB, gval, wrapG, dstOK, setD, mentTm, mentHp, IV.ment, oneI, clean, enumT, conv, conv0, convL, Op.operands, Call.operands, List.append_toArray, reduceIte, reduceCtorEq, cond_true, Bool.or_false, Bool.and_true, Nat.reduceAdd, Nat.reduceLT, Nat.reduceLeDiff, Nat.reduceEqDiff, Nat.zero_add, ne_eq, not_false_eq_true, true_and, and_true, false_and, and_false, and_self, implies_true, forall_const, List.map_cons, List.map_nil, List.nil_append, List.cons_append, List.append_nil, List.all_cons, List.all_nil, List.getD_cons_zero, List.getD_cons_succ, List.length_cons, List.length_nil, List.take_succ_cons, List.take_zero, List.take_nil, List.drop_succ_cons, List.drop_zero, List.drop_nil, tab23, tab28, tab30, hN, Int.toNat_natCast, encQ, FinH, resA, resV, SLe, SLe0, convTm, convHp, el, hw, t1, g0, g1, edgeP]
  repeat refine And.intro (by first | omega | (simp; done) | (simp; omega)) ?_
  exact ⟨id, List.nodup_nil, fun _ _ _ => rfl⟩
def sp_spec_edgeOf : PSpec := ⟨fun xs => match xs with | [.sl 2 les, .num .i64 k] => isPs les ∧ ((fun (l : List Pt) (k : Int) => 0 ≤ k) (toPs les) k) ∧ ((fun (l : List Pt) (k : Int) => k < l.length) (toPs les) k) ∧ ((fun (l : List Pt) (k : Int) => l.length ≤ 1000000) (toPs les) k) | _ => False, fun xs => match xs with | [.sl _ les, .num _ k] => (fun (l : List Pt) (k : Int) => encQ (edgeP l k.toNat)) (toPs les) k | _ => .junk, false⟩
theorem gk_spec_edgeOf : ∀ args, sp_spec_edgeOf.pre args → ICall Try.prog 86 args (sp_spec_edgeOf.val args) := by
  intro args h
  unfold sp_spec_edgeOf at h ⊢; simp only at h ⊢; split at h
  · obtain ⟨h0, h1, h2, h3⟩ := h
    obtain ⟨l0, rfl⟩ := isP_ex h0
    simp only [toPs_enc] at *
    exact c_spec_edgeOf _ _ h1 h2 h3
  · exact h.elim
theorem en_spec_edgeOf : Enters Try.prog 86 := enters_of Try.func86 (by kernel_rfl) rfl


end Go.Proofs.Ytlcndghaendieaa
