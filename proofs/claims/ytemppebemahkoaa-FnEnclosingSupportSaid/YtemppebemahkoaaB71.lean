/- Circles that enclose points: the tests of the program. -/
import Derived.Test.YtemppebemahkoaaB70
set_option linter.unusedVariables false
set_option linter.unusedSimpArgs false
set_option maxHeartbeats 1600000
set_option maxRecDepth 100000
namespace Go.Proofs.Ytemppebemahkoaa
open Go Go.Ideal Go.Pl Go.Sort

theorem dot_dotV (a b c : Pt) : dotP (wayP b a) (wayP c a) = dotV a b c := by unfold dotP wayP dotV; rfl
def g_impl_acute_1 : List (Nat × PSpec) := [(111, sp_impl_Point_minus), (113, sp_impl_Point_dot)]
theorem gok_impl_acute_1 : GOK Try.prog g_impl_acute_1 := gok_cons gk_impl_Point_minus en_impl_Point_minus (gok_cons gk_impl_Point_dot en_impl_Point_dot (gok0))
theorem lk_impl_acute_1_impl_Point_minus : lkG g_impl_acute_1 111 = sp_impl_Point_minus := rfl
theorem lk_impl_acute_1_impl_Point_dot : lkG g_impl_acute_1 113 = sp_impl_Point_dot := rfl
def h_impl_acute_1 : List (Nat × HSpec) := []
theorem hok_impl_acute_1 : HOK Try.prog h_impl_acute_1 := hok0
theorem c_impl_acute_1 (a : Pt) (b : Pt) (c : Pt) (ha : Vp a) (hb : Vp b) (hc : Vp c) : ICall Try.prog 222 [encP a, encP b, encP c] (.bool (decide (0 < dotV a b c))) := by
  refine icall_V (G := g_impl_acute_1) (H := []) [(1, [(2, 3), (2, 4), (0, 5), (1, 5), (0, 6), (1, 6), (3, 6), (4, 6), (2, 7), (5, 7)])] tabOK mixed gok_impl_acute_1 hok_impl_acute_1 Try.func222 rfl Try.ntmps222 Try.results222 rfl (by kernel_rfl) fun F hN hlen => ?_
  have h1 := vp_way hb ha
  have h2 := vp_way hc ha
  have n1 : Sm9 (wayP b a) := by unfold Sm9 wayP; simp only []; omega
  have n2 : Sm9 (wayP c a) := by unfold Sm9 wayP; simp only []; omega
  have hd := dot_dotV a b c
  simp only [V_seq, V_ret, V_region, V_draw, drawW, WS_nil, WS_cons, pairsOf, W_nil, W_cons, effOp2, effOp3, WI_nil, WI_cons, KN_seq, KXr_nil, QE, dynOK, indB, farB, freshB, freshK, freshK1, heapy, effOp, effPure, effNew, effBox, effCall, giveUp, hasAll, skipE, pureV, binV, partV, loadV, solid, IV.cells, ofC, strip, lkT, lkH, ISt.app, opI, gO, gB, allB, gval, wrapG, dstOK, setD, mentTm, mentHp, IV.ment, IV.mentL, oneI, lendV, lendP, lent, lentP, idsV, idsL, lkHS, flat, flatL, clean, cleanL, callArgs, callFn, allLent, enumT, Gives, Ideal.Fin, conv, conv0, Op.operands, Call.operands, List.append_toArray, reduceIte, reduceCtorEq, cond_true, cond_false, Bool.or_false, Bool.and_true, Bool.true_and, Bool.and_eq_true, Bool.not_true, Bool.not_false, Nat.reduceAdd, Nat.reduceLT, Nat.reduceLeDiff, Nat.reduceEqDiff, Nat.reduceBEq, Nat.zero_add, true_and, and_true, and_false, and_self, implies_true, forall_const, List.map_cons, List.map_nil, List.nil_append, List.cons_append, List.append_nil, List.all_cons, List.all_nil, List.getD_cons_zero, List.getD_cons_succ, List.length_cons, List.length_nil, List.take_succ_cons, List.take_zero, List.take_nil, List.drop_succ_cons, List.drop_zero, ex_clo, or_self, tab30, hN, pe, encP, lk_impl_acute_1_impl_Point_minus, lk_impl_acute_1_impl_Point_dot, sp_impl_Point_minus, sp_impl_Point_dot, n1, n2, hd]
  exact ⟨⟨⟨by omega, by omega⟩, by omega, by omega⟩, ⟨by omega, by omega⟩, by omega, by omega⟩
def sp_impl_acute_1 : PSpec := ⟨fun xs => match xs with | [.agg [.num .i64 a1, .num .i64 a2], .agg [.num .i64 b1, .num .i64 b2], .agg [.num .i64 c1, .num .i64 c2]] => ((fun (a : Pt) (b : Pt) (c : Pt) => Vp a) (a1, a2) (b1, b2) (c1, c2)) ∧ ((fun (a : Pt) (b : Pt) (c : Pt) => Vp b) (a1, a2) (b1, b2) (c1, c2)) ∧ ((fun (a : Pt) (b : Pt) (c : Pt) => Vp c) (a1, a2) (b1, b2) (c1, c2)) | _ => False, fun xs => match xs with | [.agg [.num _ a1, .num _ a2], .agg [.num _ b1, .num _ b2], .agg [.num _ c1, .num _ c2]] => (fun (a : Pt) (b : Pt) (c : Pt) => .bool (decide (0 < dotV a b c))) (a1, a2) (b1, b2) (c1, c2) | _ => .junk, false⟩
theorem gk_impl_acute_1 : ∀ args, sp_impl_acute_1.pre args → ICall Try.prog 222 args (sp_impl_acute_1.val args) := by
  intro args h
  unfold sp_impl_acute_1 at h ⊢; simp only at h ⊢; split at h
  · obtain ⟨h0, h1, h2⟩ := h
    simp only [toPs_enc] at *
    exact c_impl_acute_1 (_, _) (_, _) (_, _) h0 h1 h2
  · exact h.elim
theorem en_impl_acute_1 : Enters Try.prog 222 := enters_of Try.func222 (by kernel_rfl) rfl

def g_impl_acute : List (Nat × PSpec) := [(185, sp_impl_turn), (222, sp_impl_acute_1)]
theorem gok_impl_acute : GOK Try.prog g_impl_acute := gok_cons gk_impl_turn en_impl_turn (gok_cons gk_impl_acute_1 en_impl_acute_1 (gok0))
theorem lk_impl_acute_impl_turn : lkG g_impl_acute 185 = sp_impl_turn := rfl
theorem lk_impl_acute_impl_acute_1 : lkG g_impl_acute 222 = sp_impl_acute_1 := rfl
def h_impl_acute : List (Nat × HSpec) := []
theorem hok_impl_acute : HOK Try.prog h_impl_acute := hok0
theorem c_impl_acute (a : Pt) (b : Pt) (c : Pt) (ha : Vp a) (hb : Vp b) (hc : Vp c) : ICall Try.prog 181 [encP a, encP b, encP c] (.bool (detB [a, b, c])) := by
  refine icall_V (G := g_impl_acute) (H := []) [] tabOK mixed gok_impl_acute hok_impl_acute Try.func181 rfl Try.ntmps181 Try.results181 rfl (by kernel_rfl) fun F hN hlen => ?_
  have s0 := ha.sm
  have s1 := hb.sm
  have s2 := hc.sm
  have hv : detB [a, b, c] = (!(turn a b c == 0) && (decide (0 < dotV a b c) && (decide (0 < dotV b c a) && decide (0 < dotV c a b)))) := rfl
  have hv2 : detB [a, b, c] = ((turn a b c != 0) && (decide (0 < dotV a b c) && (decide (0 < dotV b c a) && decide (0 < dotV c a b)))) := hv
  clear hv
  cases c1 : (turn a b c != 0) with
  | false =>
    rw [c1] at hv2
    simp only [V_seq, V_ret, V_region, W_nil, W_cons, effOp2, KN_seq, KXr_nil, QE, effOp, effPure, effPick, effNew, effBox, effCall, giveUp, hasAll, skipE, pureV, pickV, binV, partV, loadV, solid, IV.cells, ofC, strip, lkT, lkH, ISt.app, opI, gO, gB, allB, gval, wrapG, dstOK, setD, mentTm, mentHp, IV.ment, IV.mentL, oneI, lendV, lendP, lent, lentP, idsV, idsL, lkHS, flat, clean, callArgs, callFn, allLent, enumT, Gives, Ideal.Fin, conv, conv0, Op.operands, reduceIte, reduceCtorEq, cond_true, cond_false, Bool.or_false, Bool.or_true, Bool.and_true, Bool.false_and, Bool.not_true, Bool.not_false, Nat.reduceAdd, Nat.reduceLT, Nat.reduceLeDiff, Nat.reduceEqDiff, Nat.reduceBEq, Nat.zero_add, and_true, and_false, and_self, false_implies, implies_true, List.map_cons, List.map_nil, List.nil_append, List.cons_append, List.append_nil, List.all_cons, List.all_nil, Option.bind_some, List.getElem?_cons_zero, List.getElem?_cons_succ, List.getD_cons_zero, List.length_cons, List.length_nil, List.take_succ_cons, List.take_nil, List.drop_zero, ex_clo, bft, or_self, Bool.false_eq_true, tab30, hN, pe, encP, lk_impl_acute_impl_turn, lk_impl_acute_impl_acute_1, sp_impl_turn, sp_impl_acute_1, ha, hb, hc, s0, s1, s2, c1, hv2]
  | true =>
    cases c2 : decide (0 < dotV a b c) with
    | false =>
      rw [c1, c2] at hv2
      simp only [V_seq, V_ret, V_region, W_nil, W_cons, effOp2, KN_seq, KXr_nil, QE, effOp, effPure, effPick, effNew, effBox, effCall, giveUp, hasAll, skipE, pureV, pickV, binV, partV, loadV, solid, IV.cells, ofC, strip, lkT, lkH, ISt.app, opI, gO, gB, allB, gval, wrapG, dstOK, setD, mentTm, mentHp, IV.ment, IV.mentL, oneI, lendV, lendP, lent, lentP, idsV, idsL, lkHS, flat, clean, callArgs, callFn, allLent, enumT, Gives, Ideal.Fin, conv, conv0, Op.operands, reduceIte, reduceCtorEq, cond_true, cond_false, Bool.or_false, Bool.or_true, Bool.and_true, Bool.and_false, Bool.false_and, Bool.not_true, Bool.not_false, Nat.reduceAdd, Nat.reduceLT, Nat.reduceLeDiff, Nat.reduceEqDiff, Nat.reduceBEq, Nat.zero_add, beq_self_eq_true, and_true, and_false, and_self, false_implies, implies_true, List.map_cons, List.map_nil, List.nil_append, List.cons_append, List.append_nil, List.all_cons, List.all_nil, Option.bind_some, List.getElem?_cons_zero, List.getElem?_cons_succ, List.getD_cons_zero, List.length_cons, List.length_nil, List.take_succ_cons, List.take_nil, List.drop_zero, ex_clo, bft, or_self, Bool.true_eq_false, Bool.false_eq_true, tab30, hN, pe, encP, lk_impl_acute_impl_turn, lk_impl_acute_impl_acute_1, sp_impl_turn, sp_impl_acute_1, ha, hb, hc, s0, s1, s2, c1, c2, hv2]
    | true =>
      cases c3 : decide (0 < dotV b c a) with
      | false =>
        rw [c1, c2, c3] at hv2
        simp only [V_seq, V_ret, V_region, W_nil, W_cons, effOp2, KN_seq, KXr_nil, QE, effOp, effPure, effPick, effNew, effBox, effCall, giveUp, hasAll, skipE, pureV, pickV, binV, partV, loadV, solid, IV.cells, ofC, strip, lkT, lkH, ISt.app, opI, gO, gB, allB, gval, wrapG, dstOK, setD, mentTm, mentHp, IV.ment, IV.mentL, oneI, lendV, lendP, lent, lentP, idsV, idsL, lkHS, flat, clean, callArgs, callFn, allLent, enumT, Gives, Ideal.Fin, conv, conv0, Op.operands, reduceIte, reduceCtorEq, cond_true, cond_false, Bool.or_false, Bool.or_true, Bool.and_true, Bool.and_false, Bool.false_and, Bool.not_true, Bool.not_false, Nat.reduceAdd, Nat.reduceLT, Nat.reduceLeDiff, Nat.reduceEqDiff, Nat.reduceBEq, Nat.zero_add, beq_self_eq_true, and_true, and_false, and_self, false_implies, implies_true, List.map_cons, List.map_nil, List.nil_append, List.cons_append, List.append_nil, List.all_cons, List.all_nil, Option.bind_some, List.getElem?_cons_zero, List.getElem?_cons_succ, List.getD_cons_zero, List.length_cons, List.length_nil, List.take_succ_cons, List.take_nil, List.drop_zero, ex_clo, bft, or_self, Bool.true_eq_false, Bool.false_eq_true, tab30, hN, pe, encP, lk_impl_acute_impl_turn, lk_impl_acute_impl_acute_1, sp_impl_turn, sp_impl_acute_1, ha, hb, hc, s0, s1, s2, c1, c2, c3, hv2]
      | true =>
        rw [c1, c2, c3] at hv2
        simp only [V_seq, V_ret, V_region, W_nil, W_cons, effOp2, KN_seq, KXr_nil, QE, effOp, effPure, effPick, effNew, effBox, effCall, giveUp, hasAll, skipE, pureV, pickV, binV, partV, loadV, solid, IV.cells, ofC, strip, lkT, lkH, ISt.app, opI, gO, gB, allB, gval, wrapG, dstOK, setD, mentTm, mentHp, IV.ment, IV.mentL, oneI, lendV, lendP, lent, lentP, idsV, idsL, lkHS, flat, clean, callArgs, callFn, allLent, enumT, Gives, Ideal.Fin, conv, conv0, Op.operands, reduceIte, reduceCtorEq, cond_true, Bool.or_false, Bool.and_true, Bool.true_and, Bool.not_true, Nat.reduceAdd, Nat.reduceLT, Nat.reduceLeDiff, Nat.reduceEqDiff, Nat.reduceBEq, Nat.zero_add, beq_self_eq_true, and_false, and_self, implies_true, List.map_cons, List.map_nil, List.nil_append, List.cons_append, List.append_nil, List.all_cons, List.all_nil, Option.bind_some, List.getElem?_cons_zero, List.getElem?_cons_succ, List.getD_cons_zero, List.length_cons, List.length_nil, List.take_succ_cons, List.take_nil, List.drop_zero, ex_clo, or_self, Bool.true_eq_false, tab30, hN, pe, encP, lk_impl_acute_impl_turn, lk_impl_acute_impl_acute_1, sp_impl_turn, sp_impl_acute_1, ha, hb, hc, s0, s1, s2, c1, c2, c3, hv2]
def sp_impl_acute : PSpec := ⟨fun xs => match xs with | [.agg [.num .i64 a1, .num .i64 a2], .agg [.num .i64 b1, .num .i64 b2], .agg [.num .i64 c1, .num .i64 c2]] => ((fun (a : Pt) (b : Pt) (c : Pt) => Vp a) (a1, a2) (b1, b2) (c1, c2)) ∧ ((fun (a : Pt) (b : Pt) (c : Pt) => Vp b) (a1, a2) (b1, b2) (c1, c2)) ∧ ((fun (a : Pt) (b : Pt) (c : Pt) => Vp c) (a1, a2) (b1, b2) (c1, c2)) | _ => False, fun xs => match xs with | [.agg [.num _ a1, .num _ a2], .agg [.num _ b1, .num _ b2], .agg [.num _ c1, .num _ c2]] => (fun (a : Pt) (b : Pt) (c : Pt) => .bool (detB [a, b, c])) (a1, a2) (b1, b2) (c1, c2) | _ => .junk, false⟩
theorem gk_impl_acute : ∀ args, sp_impl_acute.pre args → ICall Try.prog 181 args (sp_impl_acute.val args) := by
  intro args h
  unfold sp_impl_acute at h ⊢; simp only at h ⊢; split at h
  · obtain ⟨h0, h1, h2⟩ := h
    simp only [toPs_enc] at *
    exact c_impl_acute (_, _) (_, _) (_, _) h0 h1 h2
  · exact h.elim
theorem en_impl_acute : Enters Try.prog 181 := enters_of Try.func181 (by kernel_rfl) rfl

def g_impl_determines : List (Nat × PSpec) := [(181, sp_impl_acute)]
theorem gok_impl_determines : GOK Try.prog g_impl_determines := gok_cons gk_impl_acute en_impl_acute (gok0)
theorem lk_impl_determines_impl_acute : lkG g_impl_determines 181 = sp_impl_acute := rfl
def h_impl_determines : List (Nat × HSpec) := []
theorem hok_impl_determines : HOK Try.prog h_impl_determines := hok0
theorem c_impl_determines (S : List Pt) (hv : ∀ p ∈ S, Vp p) : ICall Try.prog 106 [.sl 2 (encPs S)] (.bool (detB S)) := by
  refine icall_V (G := g_impl_determines) (H := []) [(7, [(0, 9), (1, 9), (3, 9), (4, 9), (6, 9), (7, 9)])] tabOK mixed gok_impl_determines hok_impl_determines Try.func106 rfl Try.ntmps106 Try.results106 rfl (by kernel_rfl) fun F hN hlen => ?_
  rcases S with _ | ⟨a, _ | ⟨b, _ | ⟨c, _ | ⟨d, r⟩⟩⟩⟩
  · have e : encPs [] = [] := rfl
    have hd : detB [] = false := rfl
    simp only [V_seq, V_skip, V_ret, V_block, V_region, V_cond, brW_false, W_nil, W_cons, effOp2, KN_seq, KN_block, KXr_nil, QE, asB, effOp, effPure, pureV, binV, lenV, ofC, strip, lkT, lkH, ISt.app, opI, gO, gB, allB, gval, wrapG, dstOK, setD, clean, enumT, Gives, Ideal.Fin, conv, conv0, Op.operands, Call.operands, List.append_toArray, reduceIte, reduceCtorEq, Nat.reduceLT, Nat.reduceEqDiff, ne_eq, not_false_eq_true, and_self, implies_true, List.nil_append, List.cons_append, List.append_nil, List.length_nil, tab23, hN, e, hd, ci0, xe01, xe02, xe03]
  · have e : encPs [a] = [.agg [.num .i64 a.1, .num .i64 a.2]] := rfl
    have hd : detB [a] = true := rfl
    simp only [V_seq, V_ret, V_block, V_region, V_cond, brW_true, W_nil, W_cons, effOp2, KN_seq, KXr_nil, KXr_seq, KXr_block, QE, asB, effOp, effPure, pureV, binV, lenV, ofC, strip, lkT, lkH, ISt.app, opI, gO, gB, allB, gval, wrapG, dstOK, setD, clean, enumT, Gives, Ideal.Fin, conv, conv0, Op.operands, Call.operands, List.append_toArray, reduceIte, reduceCtorEq, Nat.reduceLT, Nat.reduceEqDiff, Nat.zero_add, ne_eq, not_false_eq_true, beq_self_eq_true, and_self, implies_true, List.nil_append, List.cons_append, List.append_nil, List.length_cons, List.length_nil, tab23, hN, e, hd, ci1]
  · have e : encPs [a, b] = [.agg [.num .i64 a.1, .num .i64 a.2], .agg [.num .i64 b.1, .num .i64 b.2]] := rfl
    have hd : detB [a, b] = !(a == b) := rfl
    simp only [V_seq, V_ret, V_block, V_region, V_draw, V_cond, brW_true, brW_false, drawW, pairsOf, W_nil, W_cons, WD_nil, WD_cons, effOp2, effOp3, KN_seq, KXr_nil, KXr_seq, KXr_block, QE, asB, effOp, effPure, pureV, binV, partV, eltV, loadV, iaddrV, lenV, ofC, strip, lkT, lkH, ISt.app, opI, gO, gB, allB, gval, wrapG, dstOK, setD, clean, enumT, Gives, Ideal.Fin, conv, conv0, eqL, numsOnly, Op.operands, Call.operands, List.append_toArray, reduceIte, reduceCtorEq, Bool.and_true, Nat.reduceAdd, Nat.reduceLT, Nat.reduceLeDiff, Nat.reduceEqDiff, Nat.zero_add, ne_eq, not_false_eq_true, beq_self_eq_true, true_and, and_true, and_false, and_self, implies_true, forall_const, List.nil_append, List.cons_append, List.append_nil, List.getD_cons_zero, List.getD_cons_succ, List.length_cons, List.length_nil, List.take_succ_cons, List.take_nil, List.drop_zero, tab23, tab30, hN, e, hd, eqP, tn0, tn1, ci2, xe21, List.getD_cons_zero, List.getD_cons_succ]
    and_intros <;> omega
  · have e : encPs [a, b, c] = [.agg [.num .i64 a.1, .num .i64 a.2], .agg [.num .i64 b.1, .num .i64 b.2], .agg [.num .i64 c.1, .num .i64 c.2]] := rfl
    have v0 := hv a (by simp)
    have v1 := hv b (by simp)
    have v2 := hv c (by simp)
    simp only [V_seq, V_ret, V_block, V_region, V_draw, V_cond, brW_true, brW_false, drawW, WS_nil, pairsOf, W_nil, W_cons, effOp2, effOp3, WI_nil, WI_cons, KN_seq, KXr_nil, KXr_seq, KXr_block, QE, dynOK, indB, farB, freshB, freshK, freshK1, heapy, asB, effOp, effPure, effCall, giveUp, hasAll, pureV, binV, partV, eltV, loadV, iaddrV, lenV, ofC, strip, lkT, lkH, ISt.app, opI, gO, gB, allB, gval, wrapG, dstOK, setD, mentTm, mentHp, IV.ment, lendV, lendP, lent, lentP, idsV, idsL, lkHS, flat, clean, callArgs, callFn, allLent, enumT, Gives, Ideal.Fin, conv, conv0, Op.operands, Call.operands, List.append_toArray, reduceIte, reduceCtorEq, cond_true, cond_false, Bool.or_false, Bool.and_true, Bool.and_eq_true, Bool.not_true, Bool.not_false, Nat.reduceAdd, Nat.reduceLT, Nat.reduceLeDiff, Nat.reduceEqDiff, Nat.reduceBEq, Nat.zero_add, ne_eq, not_false_eq_true, beq_self_eq_true, true_and, and_true, and_false, and_self, implies_true, forall_const, List.map_cons, List.map_nil, List.nil_append, List.cons_append, List.append_nil, List.getD_cons_zero, List.getD_cons_succ, List.length_cons, List.length_nil, List.take_succ_cons, List.take_zero, List.take_nil, List.drop_zero, ex_clo, or_self, tab23, tab30, hN, pe, lk_impl_determines_impl_acute, sp_impl_acute, e, v0, v1, v2, tn0, tn1, tn2, ci3, xe31, xe32, List.getD_cons_zero, List.getD_cons_succ]
    and_intros <;> omega
  · have e : ((encPs (a :: b :: c :: d :: r)).length : Int) = (r.length : Int) + 4 := by rw [len_encPs]; simp; omega
    have hd : detB (a :: b :: c :: d :: r) = false := rfl
    have d1 : ((r.length : Int) + 4 == 1) = false := by rw [beq_eq_false_iff_ne]; omega
    have d2 : ((r.length : Int) + 4 == 2) = false := by rw [beq_eq_false_iff_ne]; omega
    have d3 : ((r.length : Int) + 4 == 3) = false := by rw [beq_eq_false_iff_ne]; omega
    simp only [V_seq, V_skip, V_ret, V_block, V_region, V_cond, brW_false, W_nil, W_cons, effOp2, KN_seq, KN_block, KXr_nil, QE, asB, effOp, effPure, pureV, binV, lenV, ofC, strip, lkT, lkH, ISt.app, opI, gO, gB, allB, gval, wrapG, dstOK, setD, clean, enumT, Gives, Ideal.Fin, conv, conv0, Op.operands, Call.operands, List.append_toArray, reduceIte, reduceCtorEq, Nat.reduceLT, Nat.reduceEqDiff, ne_eq, not_false_eq_true, and_self, implies_true, List.nil_append, List.cons_append, List.append_nil, tab23, hN, e, hd, d1, d2, d3]
def sp_impl_determines : PSpec := ⟨fun xs => match xs with | [.sl 2 Ses] => isPs Ses ∧ ((fun (S : List Pt) => ∀ p ∈ S, Vp p) (toPs Ses)) | _ => False, fun xs => match xs with | [.sl _ Ses] => (fun (S : List Pt) => .bool (detB S)) (toPs Ses) | _ => .junk, false⟩
theorem gk_impl_determines : ∀ args, sp_impl_determines.pre args → ICall Try.prog 106 args (sp_impl_determines.val args) := by
  intro args h
  unfold sp_impl_determines at h ⊢; simp only at h ⊢; split at h
  · obtain ⟨h0, h1⟩ := h
    obtain ⟨l0, rfl⟩ := isP_ex h0
    simp only [toPs_enc] at *
    exact c_impl_determines _ h1
  · exact h.elim
theorem en_impl_determines : Enters Try.prog 106 := enters_of Try.func106 (by kernel_rfl) rfl

def g_impl_encloses : List (Nat × PSpec) := [(111, sp_impl_Point_minus), (113, sp_impl_Point_dot), (218, sp_impl_inCircle)]
theorem gok_impl_encloses : GOK Try.prog g_impl_encloses := gok_cons gk_impl_Point_minus en_impl_Point_minus (gok_cons gk_impl_Point_dot en_impl_Point_dot (gok_cons gk_impl_inCircle en_impl_inCircle (gok0)))
theorem lk_impl_encloses_impl_Point_minus : lkG g_impl_encloses 111 = sp_impl_Point_minus := rfl
theorem lk_impl_encloses_impl_Point_dot : lkG g_impl_encloses 113 = sp_impl_Point_dot := rfl
theorem lk_impl_encloses_impl_inCircle : lkG g_impl_encloses 218 = sp_impl_inCircle := rfl
def h_impl_encloses : List (Nat × HSpec) := []
theorem hok_impl_encloses : HOK Try.prog h_impl_encloses := hok0
theorem c_impl_encloses (S : List Pt) (q : Pt) (hv : ∀ p ∈ S, Vp p) (hq : Vp q) (h1 : 1 ≤ S.length ∧ S.length ≤ 3) : ICall Try.prog 170 [.sl 2 (encPs S), encP q] (.bool (encS S q)) := by
  refine icall_V (G := g_impl_encloses) (H := []) [(5, [(0, 4), (1, 4), (4, 5), (4, 6), (4, 7), (4, 8), (0, 9), (1, 9), (2, 9), (3, 9), (5, 9), (6, 9), (0, 10), (1, 10), (2, 10), (3, 10), (5, 10), (6, 10), (7, 10), (8, 10), (4, 11), (9, 11)]), (6, [(0, 10), (1, 10), (3, 10), (4, 10), (6, 10), (7, 10)])] tabOK mixed gok_impl_encloses hok_impl_encloses Try.func170 rfl Try.ntmps170 Try.results170 rfl (by kernel_rfl) fun F hN hlen => ?_
  rcases S with _ | ⟨a, _ | ⟨b, _ | ⟨c, _ | ⟨d, r⟩⟩⟩⟩
  · simp at h1
  · have e : encPs [a] = [.agg [.num .i64 a.1, .num .i64 a.2]] := rfl
    have hd : encS [a] q = (a == q) := rfl
    simp only [V_seq, V_ret, V_block, V_region, V_draw, V_cond, brW_true, drawW, pairsOf, W_nil, W_cons, WD_nil, WD_cons, effOp2, effOp3, KN_seq, KXr_nil, KXr_seq, KXr_block, QE, asB, effOp, effPure, effNew, effBox, skipE, pureV, binV, partV, eltV, loadV, iaddrV, lenV, solid, IV.cells, ofC, strip, lkT, lkH, ISt.app, opI, gO, gB, allB, gval, wrapG, dstOK, setD, mentTm, mentHp, IV.ment, IV.mentL, oneI, clean, enumT, Gives, Ideal.Fin, conv, conv0, eqL, numsOnly, Op.operands, Call.operands, List.append_toArray, reduceIte, reduceCtorEq, cond_true, Bool.or_false, Bool.and_true, Nat.reduceAdd, Nat.reduceLT, Nat.reduceLeDiff, Nat.reduceEqDiff, Nat.zero_add, ne_eq, not_false_eq_true, beq_self_eq_true, true_and, and_true, and_false, and_self, implies_true, forall_const, List.nil_append, List.cons_append, List.append_nil, List.all_cons, List.all_nil, List.getD_cons_zero, List.length_cons, List.length_nil, List.take_succ_cons, List.take_nil, List.drop_zero, tab23, tab30, hN, encP, e, hd, eqP, tn0, ci1, List.getD_cons_zero]
    and_intros <;> omega
  · have e : encPs [a, b] = [.agg [.num .i64 a.1, .num .i64 a.2], .agg [.num .i64 b.1, .num .i64 b.2]] := rfl
    have hd : encS [a, b] q = decide (dotV q a b ≤ 0) := rfl
    have v0 := hv a (by simp)
    have v1 := hv b (by simp)
    have m1 := vp_way v0 hq
    have m2 := vp_way v1 hq
    have n1 : Sm9 (wayP a q) := by unfold Sm9 wayP; simp only []; omega
    have n2 : Sm9 (wayP b q) := by unfold Sm9 wayP; simp only []; omega
    have hdd := dot_dotV q a b
    simp only [V_seq, V_ret, V_block, V_region, V_draw, V_cond, brW_true, brW_false, drawW, WS_nil, pairsOf, W_nil, W_cons, effOp2, effOp3, WI_nil, WI_cons, KN_seq, KXr_nil, KXr_seq, KXr_block, QE, dynOK, indB, farB, freshB, freshK, freshK1, heapy, asB, effOp, effPure, effNew, effBox, effCall, giveUp, hasAll, skipE, pureV, binV, partV, eltV, loadV, iaddrV, lenV, solid, IV.cells, ofC, strip, lkT, lkH, ISt.app, opI, gO, gB, allB, gval, wrapG, dstOK, setD, mentTm, mentHp, IV.ment, IV.mentL, oneI, lendV, lendP, lent, lentP, idsV, idsL, lkHS, flat, flatL, clean, cleanL, callArgs, callFn, allLent, enumT, Gives, Ideal.Fin, conv, conv0, Op.operands, Call.operands, List.append_toArray, reduceIte, reduceCtorEq, cond_true, cond_false, Bool.or_false, Bool.and_true, Bool.and_eq_true, Bool.not_true, Bool.not_false, Nat.reduceAdd, Nat.reduceLT, Nat.reduceLeDiff, Nat.reduceEqDiff, Nat.reduceBEq, Nat.zero_add, ne_eq, not_false_eq_true, beq_self_eq_true, true_and, and_true, and_false, and_self, implies_true, forall_const, List.map_cons, List.map_nil, List.nil_append, List.cons_append, List.append_nil, List.all_cons, List.all_nil, List.getD_cons_zero, List.getD_cons_succ, List.length_cons, List.length_nil, List.take_succ_cons, List.take_zero, List.take_nil, List.drop_zero, ex_clo, or_self, tab23, tab30, hN, pe, encP, lk_impl_encloses_impl_Point_minus, lk_impl_encloses_impl_Point_dot, sp_impl_Point_minus, sp_impl_Point_dot, e, hd, n1, n2, hdd, tn0, tn1, ci2, xe21, List.getD_cons_zero, List.getD_cons_succ]
    and_intros <;> omega
  · have e : encPs [a, b, c] = [.agg [.num .i64 a.1, .num .i64 a.2], .agg [.num .i64 b.1, .num .i64 b.2], .agg [.num .i64 c.1, .num .i64 c.2]] := rfl
    have hd : encS [a, b, c] q = decide (0 ≤ sgnI (inC a b c q) * sgnI (turn a b c)) := rfl
    have v0 := hv a (by simp)
    have v1 := hv b (by simp)
    have v2 := hv c (by simp)
    simp only [V_seq, V_skip, V_ret, V_block, V_region, V_draw, V_cond, brW_false, drawW, WS_nil, pairsOf, W_nil, W_cons, effOp2, effOp3, WI_nil, WI_cons, KN_seq, KN_block, KXr_nil, QE, dynOK, indB, farB, freshB, freshK, freshK1, heapy, asB, effOp, effPure, effNew, effBox, effCall, giveUp, hasAll, skipE, pureV, binV, partV, eltV, loadV, iaddrV, lenV, solid, IV.cells, ofC, strip, lkT, lkH, ISt.app, opI, gO, gB, allB, gval, wrapG, dstOK, setD, mentTm, mentHp, IV.ment, IV.mentL, oneI, lendV, lendP, lent, lentP, idsV, idsL, lkHS, flat, clean, callArgs, callFn, allLent, enumT, Gives, Ideal.Fin, conv, conv0, Op.operands, Call.operands, List.append_toArray, reduceIte, reduceCtorEq, cond_true, cond_false, Bool.or_false, Bool.and_true, Bool.and_eq_true, Bool.not_true, Bool.not_false, Nat.reduceAdd, Nat.reduceLT, Nat.reduceLeDiff, Nat.reduceEqDiff, Nat.reduceBEq, Nat.zero_add, ne_eq, not_false_eq_true, true_and, and_true, and_false, and_self, implies_true, forall_const, List.map_cons, List.map_nil, List.nil_append, List.cons_append, List.append_nil, List.all_cons, List.all_nil, List.getD_cons_zero, List.getD_cons_succ, List.length_cons, List.length_nil, List.take_succ_cons, List.take_zero, List.take_nil, List.drop_zero, ex_clo, or_self, tab23, tab30, hN, pe, encP, lk_impl_encloses_impl_inCircle, sp_impl_inCircle, e, hd, v0, v1, v2, hq, tn0, tn1, tn2, ci3, xe31, xe32, List.getD_cons_zero, List.getD_cons_succ]
    and_intros <;> omega
  · simp at h1
def sp_impl_encloses : PSpec := ⟨fun xs => match xs with | [.sl 2 Ses, .agg [.num .i64 q1, .num .i64 q2]] => isPs Ses ∧ ((fun (S : List Pt) (q : Pt) => ∀ p ∈ S, Vp p) (toPs Ses) (q1, q2)) ∧ ((fun (S : List Pt) (q : Pt) => Vp q) (toPs Ses) (q1, q2)) ∧ ((fun (S : List Pt) (q : Pt) => 1 ≤ S.length ∧ S.length ≤ 3) (toPs Ses) (q1, q2)) | _ => False, fun xs => match xs with | [.sl _ Ses, .agg [.num _ q1, .num _ q2]] => (fun (S : List Pt) (q : Pt) => .bool (encS S q)) (toPs Ses) (q1, q2) | _ => .junk, false⟩
theorem gk_impl_encloses : ∀ args, sp_impl_encloses.pre args → ICall Try.prog 170 args (sp_impl_encloses.val args) := by
  intro args h
  unfold sp_impl_encloses at h ⊢; simp only at h ⊢; split at h
  · obtain ⟨h0, h1, h2, h3⟩ := h
    obtain ⟨l0, rfl⟩ := isP_ex h0
    simp only [toPs_enc] at *
    exact c_impl_encloses _ (_, _) h1 h2 h3
  · exact h.elim
theorem en_impl_encloses : Enters Try.prog 170 := enters_of Try.func170 (by kernel_rfl) rfl

def g_impl_chosen : List (Nat × PSpec) := []
theorem gok_impl_chosen : GOK Try.prog g_impl_chosen := gok0
def h_impl_chosen : List (Nat × HSpec) := []
theorem hok_impl_chosen : HOK Try.prog h_impl_chosen := hok0
theorem c_impl_chosen (l : List Pt) (w : List Int) (hw : ∀ x ∈ w, 0 ≤ x ∧ x < (l.length : Int)) (hsz : w.length ≤ 1000000) : ICall Try.prog 107 [.sl 2 (encPs l), .sl 1 (encI w)] (.sl 2 (encPs (selI l w))) := by
  refine icall_V (G := g_impl_chosen) (H := []) [] tabOK mixed gok_impl_chosen hok_impl_chosen Try.func107 rfl Try.ntmps107 Try.results107 rfl (by kernel_rfl) fun F hN hlen => ?_
  have el := len_encPs l
  have ew := len_encI w
  simp only [V_seq, V_block, V_region, W_nil, W_cons, effOp2, KN_seq, effOp, effPure, effNew, effMake, skipE, pureV, lenV, ofC, strip, lkT, ISt.app, opI, gO, gB, allB, gval, wrapG, dstOK, setD, mentTm, mentHp, IV.ment, zeroElt, noId', enumT, Op.operands, Call.operands, List.append_toArray, reduceIte, reduceCtorEq, cond_true, Bool.or_false, Bool.and_true, Nat.reduceLT, Nat.reduceLeDiff, Nat.reduceEqDiff, Nat.zero_add, ne_eq, not_false_eq_true, true_and, and_true, and_self, implies_true, List.nil_append, List.cons_append, List.append_nil, List.all_cons, List.all_nil, tab23, tab25, tab30, hN, ew]
  refine ⟨⟨by omega, by omega, by omega, by omega⟩, ?_⟩
  refine V_loop (α := Nat) ⟨tabOK, mixed, gok_impl_chosen, hok_impl_chosen⟩ (by kernel_rfl) (fun i => i ≤ w.length) (fun i => ⟨[(13, .num .i64 i), (12, .num .i64 w.length), (11, .sl 1 (encI w)), (5, .ref 10 0 i true), (0, .sl 2 (encPs l))], [(10, some (.arr 2 30 (encPs (selI l (w.take i)))))]⟩) (fun i => w.length - i) 0 id (Nat.zero_le _) (by simp [SLe, SLe0, convTm, convHp, convB, conv, conv0, lkT, lkH, clean, selI, encPs]) ?_
  intro i hi
  have eo : (encPs (selI l (w.take i))).length = i := by rw [len_encPs, selI_len, List.length_take]; omega
  have hx : ∃ k ty es, IBlk.arr 2 30 (encPs (selI l (w.take i))) = IBlk.arr k ty es := ⟨_, _, _, rfl⟩
  simp only [V_seq, V_region, V_cond, W_nil, W_cons, effOp2, KN_seq, asB, effOp, effPure, pureV, binV, strip, lkT, ISt.app, opI, gO, gB, allB, gval, wrapG, dstOK, setD, Op.operands, reduceIte, reduceCtorEq, Nat.reduceLT, Nat.reduceEqDiff, true_and, and_self, implies_true, List.nil_append, List.cons_append, hN]
  refine brW_some (fun h => ?_) (fun h => ?_)
  · have hi' : i < w.length := by simpa using h
    have hwi := wr_succ hi' (by rw [maxLen_eq]; omega)
    have g0 := getD_encI hi'
    have hb := hw (w.getD i 0) (by rw [List.getD, List.getElem?_eq_getElem hi']; exact List.getElem_mem hi')
    have hst := selI_step (l := l) hi'
    obtain ⟨x, hxx⟩ : ∃ x, w.getD i 0 = x := ⟨_, rfl⟩
    rw [hxx] at g0 hb hst
    obtain ⟨k, rfl⟩ : ∃ k : Nat, x = k := ⟨x.toNat, by omega⟩
    rw [Int.toNat_natCast] at hst
    have g1 := getD_encPs (l := l) (i := k) (by omega)
    obtain ⟨q, hq⟩ : ∃ q, pAt l k = q := ⟨_, rfl⟩
    rw [hq] at g1 hst
    have hen : encPs (selI l (w.take (i + 1))) = (encPs (selI l (w.take i))).take i ++ [IV.agg [.num .i64 q.1, .num .i64 q.2]] := by
      have ht : (encPs (selI l (w.take i))).take i = encPs (selI l (w.take i)) := List.take_of_length_le (by omega)
      rw [hst, ← encPs_app, ht]; rfl
    simp only [V_seq, V_skip, V_block, V_region, W_nil, W_cons, effOp2, KN_seq, KN_block, KN_back, effOp, effPure, effNew, effBuildSlice, effFrz, frz, tmpsOf, effAppend, effZeros, skipE, pureV, srcV, refId, binV, partV, eltV, loadV, iaddrV, ofC, strip, lkT, lkH, ISt.app, opI, gO, gB, allB, gval, wrapG, dstOK, setD, mentTm, mentHp, IV.ment, IV.mentL, partsL, eltsI, eltI, oneI, noId', Op.operands, reduceIte, reduceCtorEq, cond_true, Bool.or_false, Bool.and_true, Nat.reduceAdd, Nat.reduceMul, Nat.reduceLT, Nat.reduceLeDiff, Nat.reduceEqDiff, Nat.reduceBEq, Nat.zero_add, ne_eq, not_false_eq_true, true_and, and_true, and_false, and_self, implies_true, forall_const, List.nil_append, List.cons_append, List.append_nil, List.all_cons, List.all_nil, Option.some.injEq, List.getD_cons_zero, List.length_cons, List.length_nil, List.take_succ_cons, List.take_nil, List.drop_zero, tab3, tab23, tab25, tab30, hN, Int.toNat_natCast, el, ew, hwi, g0, g1, eo]
    repeat refine And.intro (by first | omega | (simp; done) | (simp; omega)) ?_
    refine ⟨i + 1, fun x => if x = 10 then 23 else x, by simp only []; omega, by simp only []; omega, ?_⟩
    simp only [hen]
    simp [SLe, SLe0, convTm, convHp, convB, conv, conv0, lkT, lkH, clean]
    exact ⟨(List.take_of_length_le (by rw [List.length_append, List.length_take, eo]; simp)).symm, fun id a1 a2 a3 => by omega⟩
  · have hie : i = w.length := by simp at h; omega
    subst hie
    rw [List.take_length] at eo hx ⊢
    simp only [V_seq, V_ret, V_exit, V_region, W_nil, W_cons, effOp2, KN_seq, KXr_nil, KXe_nil, KXe_seq, KXe_block, KXe_back, QE, effOp, effPure, pureV, strip, lkT, lkH, ISt.app, opI, gO, gB, allB, gval, wrapG, dstOK, setD, Gives, Ideal.Fin, conv, conv0, Op.operands, reduceIte, reduceCtorEq, Nat.reduceLT, Nat.reduceEqDiff, Nat.zero_add, ne_eq, true_and, and_self, implies_true, List.nil_append, List.cons_append, Option.some.injEq, List.drop_zero, hN]
    exact ⟨_, _, rfl, by omega, (List.take_of_length_le (by omega)).symm, by simp⟩
def sp_impl_chosen : PSpec := ⟨fun xs => match xs with | [.sl 2 les, .sl 1 wes] => isPs les ∧ isIs wes ∧ ((fun (l : List Pt) (w : List Int) => ∀ x ∈ w, 0 ≤ x ∧ x < (l.length : Int)) (toPs les) (toIs wes)) ∧ ((fun (l : List Pt) (w : List Int) => w.length ≤ 1000000) (toPs les) (toIs wes)) | _ => False, fun xs => match xs with | [.sl _ les, .sl _ wes] => (fun (l : List Pt) (w : List Int) => .sl 2 (encPs (selI l w))) (toPs les) (toIs wes) | _ => .junk, false⟩
theorem gk_impl_chosen : ∀ args, sp_impl_chosen.pre args → ICall Try.prog 107 args (sp_impl_chosen.val args) := by
  intro args h
  unfold sp_impl_chosen at h ⊢; simp only at h ⊢; split at h
  · obtain ⟨h0, h1, h2, h3⟩ := h
    obtain ⟨l0, rfl⟩ := isP_ex h0
    obtain ⟨l1, rfl⟩ := isI_ex h1
    simp only [toPs_enc, toIs_enc] at *
    exact c_impl_chosen _ _ h2 h3
  · exact h.elim
theorem en_impl_chosen : Enters Try.prog 107 := enters_of Try.func107 (by kernel_rfl) rfl

def g_impl_enclosing_1 : List (Nat × PSpec) := [(170, sp_impl_encloses)]
theorem gok_impl_enclosing_1 : GOK Try.prog g_impl_enclosing_1 := gok_cons gk_impl_encloses en_impl_encloses (gok0)
theorem lk_impl_enclosing_1_impl_encloses : lkG g_impl_enclosing_1 170 = sp_impl_encloses := rfl
def h_impl_enclosing_1 : List (Nat × HSpec) := []
theorem hok_impl_enclosing_1 : HOK Try.prog h_impl_enclosing_1 := hok0
theorem c_impl_enclosing_1 (q : Pt) (S : List Pt) (hv : ∀ p ∈ S, Vp p) (hq : Vp q) (h1 : 1 ≤ S.length ∧ S.length ≤ 3) : HCall Try.prog 169 [encP q, .ptr 1000 0] (sm ([(1000, .box 23 [.sl 2 (encPs S)])])) (.bool (!encS S q)) (sm ([(1000, .box 23 [.sl 2 (encPs S)])])) := by
  refine hcall_V (G := g_impl_enclosing_1) (H := []) [] tabOK mixed gok_impl_enclosing_1 hok_impl_enclosing_1 Try.func169 rfl Try.ntmps169 Try.results169 rfl (by kernel_rfl) fun F hN hlen => ?_
  simp only [sm]
  simp only [V_seq, V_ret, V_region, W_nil, W_cons, effOp2, KN_seq, KXr_nil, QE, effOp, effPure, effNew, effBox, effCall, giveUp, hasAll, skipE, pureV, partV, loadV, solid, IV.cells, ofC, strip, lkT, lkH, ISt.app, opI, gO, gB, allB, gval, wrapG, dstOK, setD, mentTm, mentHp, IV.ment, IV.mentL, oneI, lendV, lendP, lent, lentP, idsV, idsL, lkHS, flat, clean, callArgs, callFn, allLent, enumT, conv, conv0, Op.operands, reduceIte, reduceCtorEq, cond_true, Bool.or_false, Bool.and_true, Bool.not_true, Nat.reduceAdd, Nat.reduceLT, Nat.reduceLeDiff, Nat.reduceEqDiff, Nat.reduceBEq, Nat.zero_add, true_and, and_true, and_false, and_self, false_implies, implies_true, forall_const, List.map_cons, List.map_nil, List.nil_append, List.cons_append, List.append_nil, List.all_cons, List.all_nil, List.getD_cons_zero, List.length_cons, List.length_nil, List.take_succ_cons, List.take_nil, List.drop_zero, ex_clo, or_self, tab23, tab30, hN, pe, encP, isPs_enc, toPs_enc, FinH, resA, resV, SLe, SLe0, convTm, convHp, convB, lk_impl_enclosing_1_impl_encloses, sp_impl_encloses, hq, h1]
  exact ⟨hv, id, by simp [convL, conv, conv0]⟩
def hs_impl_enclosing_1 : HSpec := ⟨[true, false], fun xs hp => match xs, hp with | [.agg [.num .i64 qx, .num .i64 qy], .ptr 1000 0], [(1000, .box ty [.sl 2 es])] => (isPs es) ∧ (ty = 23) ∧ ((fun (q : Pt) (S : List Pt) => ∀ p ∈ S, Vp p) (qx, qy) (toPs es)) ∧ ((fun (q : Pt) (S : List Pt) => Vp q) (qx, qy) (toPs es)) ∧ ((fun (q : Pt) (S : List Pt) => 1 ≤ S.length ∧ S.length ≤ 3) (qx, qy) (toPs es)) | _, _ => False, fun xs hp => match xs, hp with | [.agg [.num .i64 qx, .num .i64 qy], .ptr 1000 0], [(1000, .box ty [.sl 2 es])] => (fun (q : Pt) (S : List Pt) => (.bool (!encS S q) : IV)) (qx, qy) (toPs es) | _, _ => .junk, fun xs hp => match xs, hp with | [.agg [.num .i64 qx, .num .i64 qy], .ptr 1000 0], [(1000, .box ty [.sl 2 es])] => (fun (q : Pt) (S : List Pt) => ([(1000, .box 23 [.sl 2 (encPs S)])] : List (Nat × IBlk))) (qx, qy) (toPs es) | _, _ => []⟩
theorem hk_impl_enclosing_1 : ∀ args hp, hs_impl_enclosing_1.pre args hp → HCall Try.prog 169 args (sm hp) (hs_impl_enclosing_1.val args hp) (sm (hs_impl_enclosing_1.hval args hp)) := by
  intro args hp h
  unfold hs_impl_enclosing_1 at h ⊢; simp only at h ⊢; split at h
  · obtain ⟨h1, rfl, h2, h3, h4⟩ := h; obtain ⟨l, rfl⟩ := isP_ex h1; rw [toPs_enc] at *; exact c_impl_enclosing_1 _ l h2 h3 h4
  · exact h.elim
theorem en_impl_enclosing_1 : Enters Try.prog 169 := enters_of Try.func169 (by kernel_rfl) rfl

def g_slices_IndexFunc_impl_Point_impl_Point_enc : List (Nat × PSpec) := []
theorem gok_slices_IndexFunc_impl_Point_impl_Point_enc : GOK Try.prog g_slices_IndexFunc_impl_Point_impl_Point_enc := gok0
def h_slices_IndexFunc_impl_Point_impl_Point_enc : List (Nat × HSpec) := [(169, hs_impl_enclosing_1)]
theorem hok_slices_IndexFunc_impl_Point_impl_Point_enc : HOK Try.prog h_slices_IndexFunc_impl_Point_impl_Point_enc := hok_cons hk_impl_enclosing_1 en_impl_enclosing_1 (hok0)
theorem lh_slices_IndexFunc_impl_Point_impl_Point_enc_impl_enclosing_1 : lkHS h_slices_IndexFunc_impl_Point_impl_Point_enc 169 = some hs_impl_enclosing_1 := rfl
theorem c_slices_IndexFunc_impl_Point_impl_Point_enc (l : List Pt) (S : List Pt) (hv : ∀ p ∈ S, Vp p) (hq : ∀ p ∈ l, Vp p) (h1 : 1 ≤ S.length ∧ S.length ≤ 3) (hsz : l.length ≤ 1000000) : HCall Try.prog 217 [.sl 2 (encPs l), .clo 169 [.ptr 1000 0]] (sm ([(1000, .box 23 [.sl 2 (encPs S)])])) (.num .i64 (idxF (fun k => !encS S k) l 0)) (sm ([(1000, .box 23 [.sl 2 (encPs S)])])) := by
  refine hcall_V (G := g_slices_IndexFunc_impl_Point_impl_Point_enc) (H := h_slices_IndexFunc_impl_Point_impl_Point_enc) [] tabOK mixed gok_slices_IndexFunc_impl_Point_impl_Point_enc hok_slices_IndexFunc_impl_Point_impl_Point_enc Try.func217 rfl Try.ntmps217 Try.results217 rfl (by kernel_rfl) fun F hN hlen => ?_
  simp only [sm]
  have el := len_encPs l
  simp only [V_seq, V_block, V_region, W_nil, W_cons, effOp2, KN_seq, effOp, effPure, pureV, lenV, ofC, strip, lkT, ISt.app, opI, gO, gB, allB, gval, wrapG, dstOK, setD, enumT, Op.operands, Call.operands, List.append_toArray, reduceIte, reduceCtorEq, Nat.reduceLT, Nat.reduceEqDiff, Nat.zero_add, ne_eq, not_false_eq_true, true_and, and_self, implies_true, List.nil_append, List.cons_append, tab23, hN, el]
  refine V_loop (α := Nat) ⟨tabOK, mixed, gok_slices_IndexFunc_impl_Point_impl_Point_enc, hok_slices_IndexFunc_impl_Point_impl_Point_enc⟩ (by kernel_rfl) (fun i => i ≤ l.length ∧ idxF (fun k => !encS S k) l 0 = idxF (fun k => !encS S k) (l.drop i) i)
    (fun i => ⟨[(8, .num .i64 i), (7, .num .i64 l.length), (0, .sl 2 (encPs l)), (1, .clo 169 [.ptr 1000 0])], [(1000, some (.box 23 [.sl 2 (encPs S)]))]⟩) (fun i => l.length - i) 0 id (by simp) (by simp [SLe, SLe0, convTm, convHp, convB, conv, conv0, convL, lkT, lkH, clean]) ?_
  rintro i ⟨hi2, hj⟩
  simp only [V_seq, V_region, V_cond, W_nil, W_cons, effOp2, KN_seq, asB, effOp, effPure, pureV, binV, strip, lkT, ISt.app, opI, gO, gB, allB, gval, wrapG, dstOK, setD, Op.operands, reduceIte, reduceCtorEq, Nat.reduceLT, Nat.reduceEqDiff, true_and, and_self, implies_true, List.nil_append, List.cons_append, hN]
  refine brW_some (fun h => ?_) (fun h => ?_)
  · have hi' : i < l.length := by simpa using h
    have g0 := getD_encPs hi'
    have hw := wr_succ hi' (by rw [maxLen_eq]; omega)
    have hst := idxF_step (p := fun k => !encS S k) (d := (0, 0)) hi'
    have hz : Vp (pAt l i) := hq _ (by rw [pAt, List.getD, List.getElem?_eq_getElem hi']; exact List.getElem_mem hi')
    change _ = if (!encS S (pAt l i)) = true then _ else _ at hst
    generalize pAt l i = z at *
    simp only [V_seq, V_skip, V_block, V_region, V_cond, W_nil, W_cons, effOp2, KN_seq, asB, effOp, effPure, Option.isSome_some, skipE, pureV, partV, eltV, loadV, iaddrV, strip, lkT, lkH, ISt.app, opI, gO, gB, allB, gval, wrapG, dstOK, setD, mentTm, mentHp, IV.ment, IV.mentL, lendV, lendP, lent, lentP, idsV, idsL, clean, callArgs, callFn, enumT, conv, conv0, convL, IBlk.shape, Op.operands, reduceIte, reduceCtorEq, cond_true, cond_false, Bool.or_false, Bool.or_true, Bool.and_true, Nat.reduceAdd, Nat.reduceSub, Nat.reduceMul, Nat.reduceLT, Nat.reduceLeDiff, Nat.reduceEqDiff, Nat.zero_add, ne_eq, not_false_eq_true, beq_self_eq_true, true_and, and_true, and_false, and_self, implies_true, forall_const, List.map_cons, List.map_nil, List.nil_append, List.cons_append, List.append_nil, List.all_nil, Option.map_some, List.getD_cons_zero, List.length_cons, List.length_nil, List.take_succ_cons, List.take_nil, List.drop_zero, ex_clo, Bool.true_eq_false, Bool.false_eq_true, tab23, tab30, hN, pe, Int.toNat_natCast, isPs_enc, toPs_enc, SLe0, convTm, convHp, convB, sm, effH, mkHC0, mkHC1, lendM, lentM, lentI, allHere, addIds, idsB, flatIds, reach, posn, renV, renL, renB, renH, numB, subHp, fwd, bk, bwd, nones, keyOK, noSl, noSlL, flatBs, List.contains, List.elem, Option.isSome_some, List.nodup_nil, List.nodup_cons, List.not_mem_nil, or_false, Option.getD_some, lh_slices_IndexFunc_impl_Point_impl_Point_enc_impl_enclosing_1, hs_impl_enclosing_1, el, g0, hz, h1]
    refine ⟨⟨by omega, by omega⟩, hv, brW_some (fun h => ?_) (fun h => ?_)⟩
    · rw [if_pos h, ← hj] at hst
      simp only [V_seq, V_ret, V_region, W_nil, W_cons, effOp2, KN_seq, KXr_nil, KXr_seq, KXr_block, KXr_back, QE, effOp, effPure, pureV, strip, lkT, lkH, ISt.app, opI, gO, gB, allB, gval, wrapG, dstOK, setD, clean, conv, conv0, Op.operands, reduceIte, reduceCtorEq, Nat.reduceLT, Nat.reduceEqDiff, not_false_eq_true, true_and, and_true, and_self, false_implies, implies_true, List.map_cons, List.map_nil, List.nil_append, List.cons_append, hN, FinH, resA, resV, SLe, SLe0, convTm, convHp, convB, List.nodup_nil, List.nodup_cons, List.not_mem_nil, hst]
      exact ⟨id, by simp [convL, conv, conv0]⟩
    · rw [if_neg (by rw [h]; decide), ← hj] at hst
      simp only [V_skip, V_region, W_nil, W_cons, effOp2, KN_seq, KN_block, KN_back, effOp, effPure, pureV, binV, ofC, strip, lkT, ISt.app, opI, gO, gB, allB, gval, wrapG, dstOK, setD, Op.operands, reduceIte, reduceCtorEq, Nat.reduceLT, Nat.reduceEqDiff, true_and, and_self, implies_true, List.nil_append, List.cons_append, hN, hw]
      exact ⟨i + 1, id, ⟨by omega, hst⟩, by simp only []; omega, by simp [SLe, SLe0, convTm, convHp, convB, conv, conv0, convL, lkT, lkH, clean]⟩
  · have hie : i = l.length := by simp at h; omega
    subst hie
    rw [List.drop_length] at hj
    simp only [V_seq, V_ret, V_exit, V_region, W_nil, W_cons, effOp2, KN_seq, KXr_nil, KXe_nil, KXe_seq, KXe_block, KXe_back, QE, effOp, effPure, pureV, ofC, strip, lkT, lkH, ISt.app, opI, gO, gB, allB, gval, wrapG, dstOK, setD, clean, conv, conv0, Op.operands, reduceIte, reduceCtorEq, Nat.reduceLT, Nat.reduceEqDiff, not_false_eq_true, true_and, and_true, and_self, false_implies, implies_true, List.map_cons, List.map_nil, List.nil_append, List.cons_append, hN, FinH, resA, resV, SLe, SLe0, convTm, convHp, convB, List.nodup_nil, List.nodup_cons, List.not_mem_nil, hj, idxF]
    exact ⟨id, by simp [convL, conv, conv0]⟩
def hs_slices_IndexFunc_impl_Point_impl_Point_enc : HSpec := ⟨[true, false], fun xs hp => match xs, hp with | [.sl 2 ls, .clo 169 [.ptr 1000 0]], [(1000, .box ty [.sl 2 es])] => (isPs ls) ∧ (isPs es) ∧ (ty = 23) ∧ ((fun (l : List Pt) (S : List Pt) => ∀ p ∈ S, Vp p) (toPs ls) (toPs es)) ∧ ((fun (l : List Pt) (S : List Pt) => ∀ p ∈ l, Vp p) (toPs ls) (toPs es)) ∧ ((fun (l : List Pt) (S : List Pt) => 1 ≤ S.length ∧ S.length ≤ 3) (toPs ls) (toPs es)) ∧ ((fun (l : List Pt) (S : List Pt) => l.length ≤ 1000000) (toPs ls) (toPs es)) | _, _ => False, fun xs hp => match xs, hp with | [.sl 2 ls, .clo 169 [.ptr 1000 0]], [(1000, .box ty [.sl 2 es])] => (fun (l : List Pt) (S : List Pt) => (.num .i64 (idxF (fun k => !encS S k) l 0) : IV)) (toPs ls) (toPs es) | _, _ => .junk, fun xs hp => match xs, hp with | [.sl 2 ls, .clo 169 [.ptr 1000 0]], [(1000, .box ty [.sl 2 es])] => (fun (l : List Pt) (S : List Pt) => ([(1000, .box 23 [.sl 2 (encPs S)])] : List (Nat × IBlk))) (toPs ls) (toPs es) | _, _ => []⟩
theorem hk_slices_IndexFunc_impl_Point_impl_Point_enc : ∀ args hp, hs_slices_IndexFunc_impl_Point_impl_Point_enc.pre args hp → HCall Try.prog 217 args (sm hp) (hs_slices_IndexFunc_impl_Point_impl_Point_enc.val args hp) (sm (hs_slices_IndexFunc_impl_Point_impl_Point_enc.hval args hp)) := by
  intro args hp h
  unfold hs_slices_IndexFunc_impl_Point_impl_Point_enc at h ⊢; simp only at h ⊢; split at h
  · obtain ⟨h0, h1, rfl, h2, h3, h4, h5⟩ := h; obtain ⟨w, rfl⟩ := isP_ex h0; obtain ⟨l, rfl⟩ := isP_ex h1; rw [toPs_enc, toPs_enc] at *; exact c_slices_IndexFunc_impl_Point_impl_Point_enc w l h2 h3 h4 h5
  · exact h.elim
theorem en_slices_IndexFunc_impl_Point_impl_Point_enc : Enters Try.prog 217 := enters_of Try.func217 (by kernel_rfl) rfl

def g_slices_ContainsFunc_impl_Point_impl_Point_enc : List (Nat × PSpec) := []
theorem gok_slices_ContainsFunc_impl_Point_impl_Point_enc : GOK Try.prog g_slices_ContainsFunc_impl_Point_impl_Point_enc := gok0
def h_slices_ContainsFunc_impl_Point_impl_Point_enc : List (Nat × HSpec) := [(217, hs_slices_IndexFunc_impl_Point_impl_Point_enc)]
theorem hok_slices_ContainsFunc_impl_Point_impl_Point_enc : HOK Try.prog h_slices_ContainsFunc_impl_Point_impl_Point_enc := hok_cons hk_slices_IndexFunc_impl_Point_impl_Point_enc en_slices_IndexFunc_impl_Point_impl_Point_enc (hok0)
theorem lh_slices_ContainsFunc_impl_Point_impl_Point_enc_slices_IndexFunc_impl_Point_impl_Point_enc : lkHS h_slices_ContainsFunc_impl_Point_impl_Point_enc 217 = some hs_slices_IndexFunc_impl_Point_impl_Point_enc := rfl
theorem c_slices_ContainsFunc_impl_Point_impl_Point_enc (l : List Pt) (S : List Pt) (hv : ∀ p ∈ S, Vp p) (hq : ∀ p ∈ l, Vp p) (h1 : 1 ≤ S.length ∧ S.length ≤ 3) (hsz : l.length ≤ 1000000) : HCall Try.prog 168 [.sl 2 (encPs l), .clo 169 [.ptr 1000 0]] (sm ([(1000, .box 23 [.sl 2 (encPs S)])])) (.bool (l.any (fun k => !encS S k))) (sm ([(1000, .box 23 [.sl 2 (encPs S)])])) := by
  refine hcall_V (G := g_slices_ContainsFunc_impl_Point_impl_Point_enc) (H := h_slices_ContainsFunc_impl_Point_impl_Point_enc) [] tabOK mixed gok_slices_ContainsFunc_impl_Point_impl_Point_enc hok_slices_ContainsFunc_impl_Point_impl_Point_enc Try.func168 rfl Try.ntmps168 Try.results168 rfl (by kernel_rfl) fun F hN hlen => ?_
  simp only [sm]
  simp only [V_seq, V_ret, V_region, W_nil, W_cons, effOp2, KN_seq, KXr_nil, QE, effOp, effPure, Option.isSome_some, skipE, pureV, binV, ofC, strip, lkT, lkH, ISt.app, opI, gO, gB, allB, gval, wrapG, dstOK, setD, mentTm, mentHp, IV.ment, IV.mentL, lendV, lendP, lent, lentP, idsV, idsL, clean, callArgs, callFn, enumT, conv, conv0, convL, IBlk.shape, Op.operands, reduceIte, reduceCtorEq, cond_true, cond_false, Bool.or_false, Bool.or_true, Bool.and_true, Nat.reduceAdd, Nat.reduceSub, Nat.reduceMul, Nat.reduceLT, Nat.reduceLeDiff, Nat.reduceEqDiff, Nat.zero_add, not_false_eq_true, beq_self_eq_true, true_and, and_true, and_false, and_self, false_implies, implies_true, List.map_cons, List.map_nil, List.nil_append, List.cons_append, List.append_nil, List.all_nil, Option.map_some, List.getD_cons_zero, ex_clo, Bool.true_eq_false, Bool.false_eq_true, hN, isPs_enc, toPs_enc, FinH, resA, resV, SLe, SLe0, convTm, convHp, convB, sm, effH, mkHC0, mkHC1, lendM, lentM, lentI, allHere, addIds, idsB, flatIds, reach, posn, renV, renL, renB, renH, numB, subHp, fwd, bk, bwd, nones, keyOK, noSl, noSlL, flatBs, List.contains, List.elem, Option.isSome_some, List.nodup_nil, List.nodup_cons, List.not_mem_nil, or_false, Option.getD_some, lh_slices_ContainsFunc_impl_Point_impl_Point_enc_slices_IndexFunc_impl_Point_impl_Point_enc, hs_slices_IndexFunc_impl_Point_impl_Point_enc, h1, hsz, idxF_sign]
  exact ⟨⟨hv, hq⟩, id, by simp [convL, conv, conv0]⟩
def hs_slices_ContainsFunc_impl_Point_impl_Point_enc : HSpec := ⟨[true, false], fun xs hp => match xs, hp with | [.sl 2 ls, .clo 169 [.ptr 1000 0]], [(1000, .box ty [.sl 2 es])] => (isPs ls) ∧ (isPs es) ∧ (ty = 23) ∧ ((fun (l : List Pt) (S : List Pt) => ∀ p ∈ S, Vp p) (toPs ls) (toPs es)) ∧ ((fun (l : List Pt) (S : List Pt) => ∀ p ∈ l, Vp p) (toPs ls) (toPs es)) ∧ ((fun (l : List Pt) (S : List Pt) => 1 ≤ S.length ∧ S.length ≤ 3) (toPs ls) (toPs es)) ∧ ((fun (l : List Pt) (S : List Pt) => l.length ≤ 1000000) (toPs ls) (toPs es)) | _, _ => False, fun xs hp => match xs, hp with | [.sl 2 ls, .clo 169 [.ptr 1000 0]], [(1000, .box ty [.sl 2 es])] => (fun (l : List Pt) (S : List Pt) => (.bool (l.any (fun k => !encS S k)) : IV)) (toPs ls) (toPs es) | _, _ => .junk, fun xs hp => match xs, hp with | [.sl 2 ls, .clo 169 [.ptr 1000 0]], [(1000, .box ty [.sl 2 es])] => (fun (l : List Pt) (S : List Pt) => ([(1000, .box 23 [.sl 2 (encPs S)])] : List (Nat × IBlk))) (toPs ls) (toPs es) | _, _ => []⟩
theorem hk_slices_ContainsFunc_impl_Point_impl_Point_enc : ∀ args hp, hs_slices_ContainsFunc_impl_Point_impl_Point_enc.pre args hp → HCall Try.prog 168 args (sm hp) (hs_slices_ContainsFunc_impl_Point_impl_Point_enc.val args hp) (sm (hs_slices_ContainsFunc_impl_Point_impl_Point_enc.hval args hp)) := by
  intro args hp h
  unfold hs_slices_ContainsFunc_impl_Point_impl_Point_enc at h ⊢; simp only at h ⊢; split at h
  · obtain ⟨h0, h1, rfl, h2, h3, h4, h5⟩ := h; obtain ⟨w, rfl⟩ := isP_ex h0; obtain ⟨l, rfl⟩ := isP_ex h1; rw [toPs_enc, toPs_enc] at *; exact c_slices_ContainsFunc_impl_Point_impl_Point_enc w l h2 h3 h4 h5
  · exact h.elim
theorem en_slices_ContainsFunc_impl_Point_impl_Point_enc : Enters Try.prog 168 := enters_of Try.func168 (by kernel_rfl) rfl

theorem det_len {S : List Pt} (h : detB S = true) : 1 ≤ S.length ∧ S.length ≤ 3 := by
  rcases S with _ | ⟨a, _ | ⟨b, _ | ⟨c, _ | ⟨d, r⟩⟩⟩⟩
  · cases h
  · simp
  · simp
  · simp
  · cases h
def suppI (l : List Pt) (w : List Int) : Bool := detB (selI l w) && l.all (encS (selI l w))
def g_impl_enclosing : List (Nat × PSpec) := [(107, sp_impl_chosen), (106, sp_impl_determines)]
theorem gok_impl_enclosing : GOK Try.prog g_impl_enclosing := gok_cons gk_impl_chosen en_impl_chosen (gok_cons gk_impl_determines en_impl_determines (gok0))
theorem lk_impl_enclosing_impl_chosen : lkG g_impl_enclosing 107 = sp_impl_chosen := rfl
theorem lk_impl_enclosing_impl_determines : lkG g_impl_enclosing 106 = sp_impl_determines := rfl
def h_impl_enclosing : List (Nat × HSpec) := [(168, hs_slices_ContainsFunc_impl_Point_impl_Point_enc)]
theorem hok_impl_enclosing : HOK Try.prog h_impl_enclosing := hok_cons hk_slices_ContainsFunc_impl_Point_impl_Point_enc en_slices_ContainsFunc_impl_Point_impl_Point_enc (hok0)
theorem lh_impl_enclosing_impl_chosen : lkHS h_impl_enclosing 107 = none := rfl
theorem lh_impl_enclosing_impl_determines : lkHS h_impl_enclosing 106 = none := rfl
theorem lh_impl_enclosing_slices_ContainsFunc_impl_Point_impl_Point_enc : lkHS h_impl_enclosing 168 = some hs_slices_ContainsFunc_impl_Point_impl_Point_enc := rfl
theorem c_impl_enclosing (l : List Pt) (w : List Int) (hk : okPs l = true) (hw : ∀ x ∈ w, 0 ≤ x ∧ x < (l.length : Int)) (hsz : w.length ≤ 1000000) : ICall Try.prog 100 [.sl 2 (encPs l), .sl 1 (encI w)] (.bool (suppI l w)) := by
  refine icall_V (G := g_impl_enclosing) (H := h_impl_enclosing) [] tabOK mixed gok_impl_enclosing hok_impl_enclosing Try.func100 rfl Try.ntmps100 Try.results100 rfl (by kernel_rfl) fun F hN hlen => ?_
  have hv := selI_vp hk hw
  have hvl : ∀ p ∈ l, Vp p := fun p hp => by
    simp only [okPs, Bool.and_eq_true, List.all_eq_true] at hk
    exact okP_vp (hk.1 p hp)
  have hz : l.length ≤ 1000000 := by have := okPs_len hk; omega
  have hs : suppI l w = (detB (selI l w) && l.all (encS (selI l w))) := rfl
  have ts := take_encPs (selI l w)
  cases hd : detB (selI l w) with
  | false =>
    rw [hd] at hs
    simp only [V_seq, V_ret, V_region, W_nil, W_cons, effOp2, KN_seq, KXr_nil, QE, effOp, effPure, effPick, effNew, effAlloc, effStore, effCall, giveUp, hasAll, Option.isSome_some, skipE, pureV, pickV, storeV, partV, loadV, over, solid, IV.cells, ofC, strip, lkT, lkH, ISt.app, opI, gO, gB, allB, gval, wrapG, dstOK, setD, mentTm, mentHp, IV.ment, IV.mentL, oneI, lendV, lendP, lent, lentP, idsV, idsL, flat, clean, callArgs, callFn, allLent, enumT, Gives, Ideal.Fin, conv, conv0, convL, IBlk.shape, Op.operands, List.append_toArray, reduceIte, reduceCtorEq, cond_true, cond_false, Bool.or_false, Bool.or_true, Bool.and_true, Bool.false_and, Bool.not_true, Nat.reduceAdd, Nat.reduceSub, Nat.reduceMul, Nat.reduceLT, Nat.reduceLeDiff, Nat.reduceEqDiff, Nat.zero_add, not_false_eq_true, beq_self_eq_true, true_and, and_true, false_and, and_false, and_self, false_implies, implies_true, forall_const, List.map_cons, List.map_nil, List.nil_append, List.cons_append, List.append_nil, List.all_cons, List.all_nil, Option.map_some, Option.bind_some, List.getElem?_cons_zero, List.getElem?_cons_succ, List.getD_cons_zero, List.length_cons, List.length_nil, List.take_succ_cons, List.take_zero, List.take_nil, List.drop_succ_cons, List.drop_zero, List.drop_nil, ex_clo, bft, or_true, or_self, Bool.true_eq_false, Bool.false_eq_true, tab23, hN, isPs_enc, toPs_enc, isIs_enc, toIs_enc, SLe0, convTm, convHp, convB, sm, effH, mkHC0, mkHC1, lendM, lentM, lentI, allHere, addIds, idsB, flatIds, reach, posn, renV, renL, renB, renH, numB, subHp, fwd, bk, bwd, nones, keyOK, noSl, noSlL, flatBs, List.contains, List.elem, Option.isSome_some, List.nodup_nil, List.nodup_cons, List.not_mem_nil, or_false, Option.getD_some, lk_impl_enclosing_impl_chosen, lk_impl_enclosing_impl_determines, sp_impl_chosen, sp_impl_determines, lh_impl_enclosing_impl_chosen, lh_impl_enclosing_impl_determines, lh_impl_enclosing_slices_ContainsFunc_impl_Point_impl_Point_enc, hs_slices_ContainsFunc_impl_Point_impl_Point_enc, hsz, hd, hs]
    exact ⟨hw, hv⟩
  | true =>
    have h1 := det_len hd
    have ha : l.all (encS (selI l w)) = !(l.any fun k => !encS (selI l w) k) := by rw [List.all_eq_not_any_not]
    rw [hd, ha] at hs
    simp only [V_seq, V_ret, V_region, W_nil, W_cons, effOp2, KN_seq, KXr_nil, QE, effOp, effPure, effPick, effNew, effAlloc, effStore, effCall, giveUp, hasAll, Option.isSome_some, skipE, pureV, pickV, storeV, partV, loadV, over, solid, IV.cells, ofC, strip, lkT, lkH, ISt.app, opI, gO, gB, allB, gval, wrapG, dstOK, setD, mentTm, mentHp, IV.ment, IV.mentL, oneI, lendV, lendP, lent, lentP, idsV, idsL, flat, clean, callArgs, callFn, allLent, enumT, Gives, Ideal.Fin, conv, conv0, convL, IBlk.shape, Op.operands, List.append_toArray, reduceIte, reduceCtorEq, cond_true, cond_false, Bool.or_false, Bool.or_true, Bool.and_true, Bool.true_and, Bool.not_true, Nat.reduceAdd, Nat.reduceSub, Nat.reduceMul, Nat.reduceLT, Nat.reduceLeDiff, Nat.reduceEqDiff, Nat.zero_add, not_false_eq_true, beq_self_eq_true, true_and, and_true, and_false, and_self, implies_true, forall_const, List.map_cons, List.map_nil, List.nil_append, List.cons_append, List.append_nil, List.all_cons, List.all_nil, Option.map_some, Option.bind_some, List.getElem?_cons_zero, List.getElem?_cons_succ, List.getD_cons_zero, List.length_cons, List.length_nil, List.take_succ_cons, List.take_zero, List.take_nil, List.drop_succ_cons, List.drop_zero, List.drop_nil, ex_clo, or_true, or_self, Bool.true_eq_false, Bool.false_eq_true, tab23, hN, isPs_enc, toPs_enc, isIs_enc, toIs_enc, SLe0, convTm, convHp, convB, sm, effH, mkHC0, mkHC1, lendM, lentM, lentI, allHere, addIds, idsB, flatIds, reach, posn, renV, renL, renB, renH, numB, subHp, fwd, bk, bwd, nones, keyOK, noSl, noSlL, flatBs, List.contains, List.elem, Option.isSome_some, List.nodup_nil, List.nodup_cons, List.not_mem_nil, or_false, Option.getD_some, lk_impl_enclosing_impl_chosen, lk_impl_enclosing_impl_determines, sp_impl_chosen, sp_impl_determines, lh_impl_enclosing_impl_chosen, lh_impl_enclosing_impl_determines, lh_impl_enclosing_slices_ContainsFunc_impl_Point_impl_Point_enc, hs_slices_ContainsFunc_impl_Point_impl_Point_enc, hsz, hz, h1, hd, hs]
    exact ⟨hw, hv, hv, hvl⟩
def sp_impl_enclosing : PSpec := ⟨fun xs => match xs with | [.sl 2 les, .sl 1 wes] => isPs les ∧ isIs wes ∧ ((fun (l : List Pt) (w : List Int) => okPs l = true) (toPs les) (toIs wes)) ∧ ((fun (l : List Pt) (w : List Int) => ∀ x ∈ w, 0 ≤ x ∧ x < (l.length : Int)) (toPs les) (toIs wes)) ∧ ((fun (l : List Pt) (w : List Int) => w.length ≤ 1000000) (toPs les) (toIs wes)) | _ => False, fun xs => match xs with | [.sl _ les, .sl _ wes] => (fun (l : List Pt) (w : List Int) => .bool (suppI l w)) (toPs les) (toIs wes) | _ => .junk, false⟩
theorem gk_impl_enclosing : ∀ args, sp_impl_enclosing.pre args → ICall Try.prog 100 args (sp_impl_enclosing.val args) := by
  intro args h
  unfold sp_impl_enclosing at h ⊢; simp only at h ⊢; split at h
  · obtain ⟨h0, h1, h2, h3, h4⟩ := h
    obtain ⟨l0, rfl⟩ := isP_ex h0
    obtain ⟨l1, rfl⟩ := isI_ex h1
    simp only [toPs_enc, toIs_enc] at *
    exact c_impl_enclosing _ _ h2 h3 h4
  · exact h.elim
theorem en_impl_enclosing : Enters Try.prog 100 := enters_of Try.func100 (by kernel_rfl) rfl

end Go.Proofs.Ytemppebemahkoaa
