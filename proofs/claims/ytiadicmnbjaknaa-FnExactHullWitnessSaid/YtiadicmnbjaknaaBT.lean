/- Contracts: points in triangles. -/
import Derived.Test.YtiadicmnbjaknaaB17
import Derived.Test.YtiadicmnbjaknaaBG
set_option linter.unusedVariables false
set_option linter.unusedSimpArgs false
set_option maxHeartbeats 16000000
set_option maxRecDepth 100000
namespace Go.Proofs.Ytiadicmnbjaknaa
open Go Go.Ideal Go.Pl Go.Sort

/-- Is a point in a triangle, which may be flat? -/
def inTri (a b c q : Pt) : Bool := if turn a b c = 0 then onS (a, b) q || (onS (b, c) q || onS (c, a) q)
  else decide (0 ≤ sgnI (turn a b c) * turn a b q) && (decide (0 ≤ sgnI (turn a b c) * turn b c q) && decide (0 ≤ sgnI (turn a b c) * turn c a q))
theorem onS_deg (a q : Pt) : onS (a, a) q = (a == q) := by
  rw [Bool.eq_iff_iff, beq_iff_eq]
  have ht : turn a a q = 0 := by unfold turn; grind
  unfold onS btw
  simp only [ht, beq_self_eq_true, Bool.and_eq_true, decide_eq_true_eq, true_and]
  constructor
  · rintro ⟨h1, h2⟩; exact Prod.ext (by omega) (by omega)
  · rintro rfl; omega
theorem onS_swap (a b q : Pt) : onS (b, a) q = onS (a, b) q := by
  rw [Bool.eq_iff_iff]
  have ht : turn b a q = - turn a b q := by unfold turn; grind
  unfold onS btw
  simp only [ht, Bool.and_eq_true, decide_eq_true_eq, beq_iff_eq]
  constructor
  · rintro ⟨h0, h1, h2⟩; exact ⟨by omega, by omega, by omega⟩
  · rintro ⟨h0, h1, h2⟩; exact ⟨by omega, by omega, by omega⟩
theorem onS_left (a b : Pt) : onS (a, b) a = true := onS_1 (a, b)
theorem onS_right (a b : Pt) : onS (a, b) b = true := onS_2 (a, b)
def triS (a b c q : Pt) : Bool := (a == q) || ((!(a == b) && onS (a, b) q) || ((!(b == c) && onS (b, c) q) || (!(a == c) && onS (a, c) q)))
theorem tri_flat {a b c q : Pt} (h : turn a b c = 0) : inTri a b c q = triS a b c q := by
  unfold inTri triS
  rw [if_pos h, onS_swap a c q]
  by_cases e1 : a = q
  · subst e1; rw [onS_left]; simp
  · have e1' : (a == q) = false := by simpa using e1
    rw [e1', Bool.false_or]
    by_cases e2 : a = b
    · subst e2
      rw [onS_deg, e1']
      by_cases e3 : a = c
      · subst e3; rw [onS_deg, e1']; simp
      · have e3' : (a == c) = false := by simpa using e3
        rw [e3']; simp
    · have e2' : (a == b) = false := by simpa using e2
      rw [e2', Bool.not_false, Bool.true_and]
      by_cases e3 : b = c
      · subst e3
        rw [e2', onS_deg]
        by_cases e4 : b = q
        · subst e4; rw [onS_right]; simp
        · have e4' : (b == q) = false := by simpa using e4
          rw [e4']; simp
      · have e3' : (b == c) = false := by simpa using e3
        rw [e3', Bool.not_false, Bool.true_and]
        by_cases e5 : a = c
        · subst e5
          rw [onS_deg, e1']; simp
        · have e5' : (a == c) = false := by simpa using e5
          rw [e5', Bool.not_false, Bool.true_and]
theorem sgn_mul_sgn (s x : Int) : decide (0 ≤ sgnI x * sgnI s) = decide (0 ≤ sgnI s * x) := by
  refine decide_eq_decide.2 ?_
  unfold sgnI
  split <;> split <;> (try split) <;> (try split) <;> omega
theorem sgn_zero (x : Int) : (sgnI x == 0) = decide (x = 0) := by
  rw [Bool.eq_iff_iff]
  unfold sgnI
  simp only [beq_iff_eq, decide_eq_true_eq]
  split <;> (try split) <;> omega
theorem sgn_bd1 (x : Int) : -1 ≤ sgnI x ∧ sgnI x ≤ 1 := by
  unfold sgnI; split <;> (try split) <;> omega
theorem sgn_x_bd {s x A : Int} (h : -A ≤ x ∧ x ≤ A) : -A ≤ sgnI s * x ∧ sgnI s * x ≤ A := by
  unfold sgnI; split <;> (try split) <;> omega
def g_impl_inTriangle : List (Nat × PSpec) := [(48, sp_impl_turn), (50, sp_impl_sign), (51, sp_impl_Segment_has)]
theorem gok_impl_inTriangle : GOK Try.prog g_impl_inTriangle := gok_cons gk_impl_turn en_impl_turn (gok_cons gk_impl_sign en_impl_sign (gok_cons gk_impl_Segment_has en_impl_Segment_has (gok0)))
theorem lk_impl_inTriangle_impl_turn : lkG g_impl_inTriangle 48 = sp_impl_turn := rfl
theorem lk_impl_inTriangle_impl_sign : lkG g_impl_inTriangle 50 = sp_impl_sign := rfl
theorem lk_impl_inTriangle_impl_Segment_has : lkG g_impl_inTriangle 51 = sp_impl_Segment_has := rfl
def h_impl_inTriangle : List (Nat × HSpec) := []
theorem hok_impl_inTriangle : HOK Try.prog h_impl_inTriangle := hok0
theorem c_impl_inTriangle (a : Pt) (b : Pt) (c : Pt) (q : Pt) (ha : Sm a) (hb : Sm b) (hc : Sm c) (hq : Sm q) : ICall Try.prog 35 [encP a, encP b, encP c, encP q] (.bool (inTri a b c q)) := by
  refine icall_V (G := g_impl_inTriangle) (H := []) [] tabOK mixed gok_impl_inTriangle hok_impl_inTriangle Try.func35 rfl Try.ntmps35 Try.results35 rfl (by kernel_rfl) fun F hN hlen => ?_
  have b1 := turn_bd ha hb hq
  have b2 := turn_bd hb hc hq
  have b3 := turn_bd hc ha hq
  have z := sgn_zero (turn a b c)
  have hv : inTri a b c q = if turn a b c = 0 then onS (a, b) q || (onS (b, c) q || onS (c, a) q) else decide (0 ≤ sgnI (turn a b c) * turn a b q) && (decide (0 ≤ sgnI (turn a b c) * turn b c q) && decide (0 ≤ sgnI (turn a b c) * turn c a q)) := rfl
  have w1 : IntKind.i64.wrap (sgnI (turn a b c) * turn a b q) = sgnI (turn a b c) * turn a b q := by have := sgn_x_bd (s := turn a b c) b1; exact wr (by omega) (by omega)
  have w2 : IntKind.i64.wrap (sgnI (turn a b c) * turn b c q) = sgnI (turn a b c) * turn b c q := by have := sgn_x_bd (s := turn a b c) b2; exact wr (by omega) (by omega)
  have w3 : IntKind.i64.wrap (sgnI (turn a b c) * turn c a q) = sgnI (turn a b c) * turn c a q := by have := sgn_x_bd (s := turn a b c) b3; exact wr (by omega) (by omega)
  have q1 : SmQ (a, b) := ⟨ha, hb⟩
  have q2 : SmQ (b, c) := ⟨hb, hc⟩
  have q3 : SmQ (c, a) := ⟨hc, ha⟩
  by_cases h0 : turn a b c = 0
  · rw [if_pos h0] at hv
    rw [decide_eq_true h0] at z
    cases x1 : onS (a, b) q with
    | true =>
      rw [x1] at hv
      simp only [V_seq, V_ret, V_region, V_cond, brW_true, W_nil, W_cons, effOp2, KN_seq, KXr_nil, KXr_seq, QE, asB, effOp, effPure, effPick, effNew, effBox, effCall, giveUp, hasAll, skipE, pureV, pickV, binV, partV, loadV, over, solid, buildL, IV.cells, ofC, strip, lkT, lkH, ISt.app, opI, gO, gB, allB, gval, wrapG, dstOK, setD, mentTm, mentHp, IV.ment, IV.mentL, oneI, lendV, lendP, lent, lentP, idsV, idsL, lkHS, flat, clean, callArgs, callFn, allLent, enumT, Gives, Ideal.Fin, conv, conv0, Op.operands, reduceIte, reduceCtorEq, cond_true, Bool.or_false, Bool.or_true, Bool.true_or, Bool.and_true, Bool.not_true, Bool.not_false, Nat.reduceAdd, Nat.reduceLT, Nat.reduceLeDiff, Nat.reduceEqDiff, Nat.reduceBEq, Nat.zero_add, ne_eq, not_false_eq_true, true_and, and_true, false_and, and_false, and_self, false_implies, implies_true, List.map_cons, List.map_nil, List.nil_append, List.cons_append, List.append_nil, List.all_cons, List.all_nil, Option.bind_some, List.getElem?_cons_zero, List.getElem?_cons_succ, List.getD_cons_zero, List.getD_cons_succ, List.length_cons, List.length_nil, List.take_succ_cons, List.take_zero, List.take_nil, List.drop_succ_cons, List.drop_zero, List.drop_nil, ex_clo, btf, or_self, Bool.true_eq_false, Bool.false_eq_true, tab38, tab55, hN, pe, encP, lk_impl_inTriangle_impl_turn, lk_impl_inTriangle_impl_sign, lk_impl_inTriangle_impl_Segment_has, sp_impl_turn, sp_impl_sign, sp_impl_Segment_has, ha, hb, hc, hq, z, q1, q2, q3, x1, hv]
    | false =>
      cases x2 : onS (b, c) q with
      | true =>
        rw [x1, x2] at hv
        simp only [V_seq, V_ret, V_region, V_cond, brW_true, W_nil, W_cons, effOp2, KN_seq, KXr_nil, KXr_seq, QE, asB, effOp, effPure, effPick, effNew, effBox, effCall, giveUp, hasAll, skipE, pureV, pickV, binV, partV, loadV, over, solid, buildL, IV.cells, ofC, strip, lkT, lkH, ISt.app, opI, gO, gB, allB, gval, wrapG, dstOK, setD, mentTm, mentHp, IV.ment, IV.mentL, oneI, lendV, lendP, lent, lentP, idsV, idsL, lkHS, flat, clean, callArgs, callFn, allLent, enumT, Gives, Ideal.Fin, conv, conv0, Op.operands, reduceIte, reduceCtorEq, cond_true, cond_false, Bool.or_false, Bool.or_true, Bool.true_or, Bool.and_true, Bool.not_true, Bool.not_false, Nat.reduceAdd, Nat.reduceLT, Nat.reduceLeDiff, Nat.reduceEqDiff, Nat.reduceBEq, Nat.zero_add, ne_eq, not_false_eq_true, beq_self_eq_true, true_and, and_true, false_and, and_false, and_self, false_implies, implies_true, List.map_cons, List.map_nil, List.nil_append, List.cons_append, List.append_nil, List.all_cons, List.all_nil, Option.bind_some, List.getElem?_cons_zero, List.getElem?_cons_succ, List.getD_cons_zero, List.getD_cons_succ, List.length_cons, List.length_nil, List.take_succ_cons, List.take_zero, List.take_nil, List.drop_succ_cons, List.drop_zero, List.drop_nil, ex_clo, btf, or_self, Bool.true_eq_false, Bool.false_eq_true, tab38, tab55, hN, pe, encP, lk_impl_inTriangle_impl_turn, lk_impl_inTriangle_impl_sign, lk_impl_inTriangle_impl_Segment_has, sp_impl_turn, sp_impl_sign, sp_impl_Segment_has, ha, hb, hc, hq, z, q1, q2, q3, x1, x2, hv]
      | false =>
        rw [x1, x2] at hv
        simp only [V_seq, V_ret, V_region, V_cond, brW_true, W_nil, W_cons, effOp2, KN_seq, KXr_nil, KXr_seq, QE, asB, effOp, effPure, effPick, effNew, effBox, effCall, giveUp, hasAll, skipE, pureV, pickV, binV, partV, loadV, over, solid, buildL, IV.cells, ofC, strip, lkT, lkH, ISt.app, opI, gO, gB, allB, gval, wrapG, dstOK, setD, mentTm, mentHp, IV.ment, IV.mentL, oneI, lendV, lendP, lent, lentP, idsV, idsL, lkHS, flat, clean, callArgs, callFn, allLent, enumT, Gives, Ideal.Fin, conv, conv0, Op.operands, reduceIte, reduceCtorEq, cond_true, cond_false, Bool.or_false, Bool.false_or, Bool.and_true, Bool.not_true, Nat.reduceAdd, Nat.reduceLT, Nat.reduceLeDiff, Nat.reduceEqDiff, Nat.reduceBEq, Nat.zero_add, ne_eq, not_false_eq_true, beq_self_eq_true, true_and, and_true, false_and, and_false, and_self, implies_true, List.map_cons, List.map_nil, List.nil_append, List.cons_append, List.append_nil, List.all_cons, List.all_nil, Option.bind_some, List.getElem?_cons_zero, List.getElem?_cons_succ, List.getD_cons_zero, List.getD_cons_succ, List.length_cons, List.length_nil, List.take_succ_cons, List.take_zero, List.take_nil, List.drop_succ_cons, List.drop_zero, List.drop_nil, ex_clo, or_self, Bool.false_eq_true, tab38, tab55, hN, pe, encP, lk_impl_inTriangle_impl_turn, lk_impl_inTriangle_impl_sign, lk_impl_inTriangle_impl_Segment_has, sp_impl_turn, sp_impl_sign, sp_impl_Segment_has, ha, hb, hc, hq, z, q1, q2, q3, x1, x2, hv]
  · rw [if_neg h0] at hv
    rw [decide_eq_false h0] at z
    cases x1 : decide (0 ≤ sgnI (turn a b c) * turn a b q) with
    | false =>
      rw [x1] at hv
      simp only [V_seq, V_skip, V_ret, V_region, V_cond, brW_false, W_nil, W_cons, effOp2, KN_seq, KXr_nil, QE, asB, effOp, effPure, effPick, effNew, effBox, effCall, giveUp, hasAll, skipE, pureV, pickV, binV, partV, loadV, solid, IV.cells, ofC, strip, lkT, lkH, ISt.app, opI, gO, gB, allB, gval, wrapG, dstOK, setD, mentTm, mentHp, IV.ment, IV.mentL, oneI, lendV, lendP, lent, lentP, idsV, idsL, lkHS, flat, clean, callArgs, callFn, allLent, enumT, Gives, Ideal.Fin, conv, conv0, Op.operands, reduceIte, reduceCtorEq, cond_true, cond_false, Bool.or_false, Bool.or_true, Bool.and_true, Bool.false_and, Bool.not_true, Bool.not_false, Nat.reduceAdd, Nat.reduceLT, Nat.reduceLeDiff, Nat.reduceEqDiff, Nat.reduceBEq, Nat.zero_add, and_true, and_false, and_self, false_implies, implies_true, List.map_cons, List.map_nil, List.nil_append, List.cons_append, List.append_nil, List.all_cons, List.all_nil, Option.bind_some, List.getElem?_cons_zero, List.getElem?_cons_succ, List.getD_cons_zero, List.length_cons, List.length_nil, List.take_succ_cons, List.take_nil, List.drop_zero, ex_clo, bft, or_self, Bool.false_eq_true, tab38, hN, pe, encP, lk_impl_inTriangle_impl_turn, lk_impl_inTriangle_impl_sign, sp_impl_turn, sp_impl_sign, ha, hb, hc, hq, z, w1, w2, w3, x1, hv]
    | true =>
      cases x2 : decide (0 ≤ sgnI (turn a b c) * turn b c q) with
      | false =>
        rw [x1, x2] at hv
        simp only [V_seq, V_skip, V_ret, V_region, V_cond, brW_false, W_nil, W_cons, effOp2, KN_seq, KXr_nil, QE, asB, effOp, effPure, effPick, effNew, effBox, effCall, giveUp, hasAll, skipE, pureV, pickV, binV, partV, loadV, solid, IV.cells, ofC, strip, lkT, lkH, ISt.app, opI, gO, gB, allB, gval, wrapG, dstOK, setD, mentTm, mentHp, IV.ment, IV.mentL, oneI, lendV, lendP, lent, lentP, idsV, idsL, lkHS, flat, clean, callArgs, callFn, allLent, enumT, Gives, Ideal.Fin, conv, conv0, Op.operands, reduceIte, reduceCtorEq, cond_true, cond_false, Bool.or_false, Bool.or_true, Bool.and_true, Bool.and_false, Bool.false_and, Bool.not_true, Bool.not_false, Nat.reduceAdd, Nat.reduceLT, Nat.reduceLeDiff, Nat.reduceEqDiff, Nat.reduceBEq, Nat.zero_add, beq_self_eq_true, and_true, and_false, and_self, false_implies, implies_true, List.map_cons, List.map_nil, List.nil_append, List.cons_append, List.append_nil, List.all_cons, List.all_nil, Option.bind_some, List.getElem?_cons_zero, List.getElem?_cons_succ, List.getD_cons_zero, List.length_cons, List.length_nil, List.take_succ_cons, List.take_nil, List.drop_zero, ex_clo, bft, or_self, Bool.true_eq_false, Bool.false_eq_true, tab38, hN, pe, encP, lk_impl_inTriangle_impl_turn, lk_impl_inTriangle_impl_sign, sp_impl_turn, sp_impl_sign, ha, hb, hc, hq, z, w1, w2, w3, x1, x2, hv]
      | true =>
        rw [x1, x2] at hv
        simp only [V_seq, V_skip, V_ret, V_region, V_cond, brW_false, W_nil, W_cons, effOp2, KN_seq, KXr_nil, QE, asB, effOp, effPure, effPick, effNew, effBox, effCall, giveUp, hasAll, skipE, pureV, pickV, binV, partV, loadV, solid, IV.cells, ofC, strip, lkT, lkH, ISt.app, opI, gO, gB, allB, gval, wrapG, dstOK, setD, mentTm, mentHp, IV.ment, IV.mentL, oneI, lendV, lendP, lent, lentP, idsV, idsL, lkHS, flat, clean, callArgs, callFn, allLent, enumT, Gives, Ideal.Fin, conv, conv0, Op.operands, reduceIte, reduceCtorEq, cond_true, Bool.or_false, Bool.and_true, Bool.true_and, Bool.not_true, Nat.reduceAdd, Nat.reduceLT, Nat.reduceLeDiff, Nat.reduceEqDiff, Nat.reduceBEq, Nat.zero_add, beq_self_eq_true, and_false, and_self, implies_true, List.map_cons, List.map_nil, List.nil_append, List.cons_append, List.append_nil, List.all_cons, List.all_nil, Option.bind_some, List.getElem?_cons_zero, List.getElem?_cons_succ, List.getD_cons_zero, List.length_cons, List.length_nil, List.take_succ_cons, List.take_nil, List.drop_zero, ex_clo, or_self, Bool.true_eq_false, tab38, hN, pe, encP, lk_impl_inTriangle_impl_turn, lk_impl_inTriangle_impl_sign, sp_impl_turn, sp_impl_sign, ha, hb, hc, hq, z, w1, w2, w3, x1, x2, hv]
def sp_impl_inTriangle : PSpec := ⟨fun xs => match xs with | [.agg [.num .i64 a1, .num .i64 a2], .agg [.num .i64 b1, .num .i64 b2], .agg [.num .i64 c1, .num .i64 c2], .agg [.num .i64 q1, .num .i64 q2]] => ((fun (a : Pt) (b : Pt) (c : Pt) (q : Pt) => Sm a) (a1, a2) (b1, b2) (c1, c2) (q1, q2)) ∧ ((fun (a : Pt) (b : Pt) (c : Pt) (q : Pt) => Sm b) (a1, a2) (b1, b2) (c1, c2) (q1, q2)) ∧ ((fun (a : Pt) (b : Pt) (c : Pt) (q : Pt) => Sm c) (a1, a2) (b1, b2) (c1, c2) (q1, q2)) ∧ ((fun (a : Pt) (b : Pt) (c : Pt) (q : Pt) => Sm q) (a1, a2) (b1, b2) (c1, c2) (q1, q2)) | _ => False, fun xs => match xs with | [.agg [.num _ a1, .num _ a2], .agg [.num _ b1, .num _ b2], .agg [.num _ c1, .num _ c2], .agg [.num _ q1, .num _ q2]] => (fun (a : Pt) (b : Pt) (c : Pt) (q : Pt) => .bool (inTri a b c q)) (a1, a2) (b1, b2) (c1, c2) (q1, q2) | _ => .junk, false⟩
theorem gk_impl_inTriangle : ∀ args, sp_impl_inTriangle.pre args → ICall Try.prog 35 args (sp_impl_inTriangle.val args) := by
  intro args h
  unfold sp_impl_inTriangle at h ⊢; simp only at h ⊢; split at h
  · obtain ⟨h0, h1, h2, h3⟩ := h
    try simp only [toPs_enc] at *
    exact c_impl_inTriangle (_, _) (_, _) (_, _) (_, _) h0 h1 h2 h3
  · exact h.elim
theorem en_impl_inTriangle : Enters Try.prog 35 := enters_of Try.func35 (by kernel_rfl) rfl

def g_spec_inTriangle : List (Nat × PSpec) := [(38, sp_spec_cross), (39, sp_spec_sign), (40, sp_spec_onSegment)]
theorem gok_spec_inTriangle : GOK Try.prog g_spec_inTriangle := gok_cons gk_spec_cross en_spec_cross (gok_cons gk_spec_sign en_spec_sign (gok_cons gk_spec_onSegment en_spec_onSegment (gok0)))
theorem lk_spec_inTriangle_spec_cross : lkG g_spec_inTriangle 38 = sp_spec_cross := rfl
theorem lk_spec_inTriangle_spec_sign : lkG g_spec_inTriangle 39 = sp_spec_sign := rfl
theorem lk_spec_inTriangle_spec_onSegment : lkG g_spec_inTriangle 40 = sp_spec_onSegment := rfl
def h_spec_inTriangle : List (Nat × HSpec) := []
theorem hok_spec_inTriangle : HOK Try.prog h_spec_inTriangle := hok0
theorem c_spec_inTriangle (a : Pt) (b : Pt) (c : Pt) (q : Pt) (ha : Sm a) (hb : Sm b) (hc : Sm c) (hq : Sm q) : ICall Try.prog 28 [encP a, encP b, encP c, encP q] (.bool (inTri a b c q)) := by
  refine icall_V (G := g_spec_inTriangle) (H := []) [] tabOK mixed gok_spec_inTriangle hok_spec_inTriangle Try.func28 rfl Try.ntmps28 Try.results28 rfl (by kernel_rfl) fun F hN hlen => ?_
  have z := sgn_zero (turn a b c)
  have q1 : SmQ (a, b) := ⟨ha, hb⟩
  have q2 : SmQ (b, c) := ⟨hb, hc⟩
  have q3 : SmQ (a, c) := ⟨ha, hc⟩
  by_cases h0 : turn a b c = 0
  · have hv := tri_flat (q := q) h0
    unfold triS at hv
    rw [decide_eq_true h0] at z
    cases x1 : (a == q) with
    | true =>
      rw [x1] at hv
      simp only [V_seq, V_ret, V_region, V_cond, brW_true, W_nil, W_cons, effOp2, KN_seq, KXr_nil, KXr_seq, QE, asB, effOp, effPure, effPick, effNew, effBox, effCall, giveUp, hasAll, skipE, pureV, pickV, binV, partV, loadV, over, solid, buildL, IV.cells, ofC, strip, lkT, lkH, ISt.app, opI, gO, gB, allB, gval, wrapG, dstOK, setD, mentTm, mentHp, IV.ment, IV.mentL, oneI, lendV, lendP, lent, lentP, idsV, idsL, lkHS, flat, clean, callArgs, callFn, allLent, enumT, Gives, Ideal.Fin, conv, conv0, eqL, numsOnly, Op.operands, reduceIte, reduceCtorEq, cond_true, Bool.or_false, Bool.or_true, Bool.true_or, Bool.and_true, Bool.false_and, Bool.not_true, Bool.not_false, Nat.reduceAdd, Nat.reduceLT, Nat.reduceLeDiff, Nat.reduceEqDiff, Nat.reduceBEq, Nat.zero_add, ne_eq, not_false_eq_true, true_and, and_true, false_and, and_false, and_self, false_implies, implies_true, List.map_cons, List.map_nil, List.nil_append, List.cons_append, List.append_nil, List.all_cons, List.all_nil, Option.bind_some, List.getElem?_cons_zero, List.getElem?_cons_succ, List.getD_cons_zero, List.getD_cons_succ, List.length_cons, List.length_nil, List.take_succ_cons, List.take_zero, List.take_nil, List.drop_succ_cons, List.drop_zero, List.drop_nil, ex_clo, btf, or_self, Bool.true_eq_false, Bool.false_eq_true, tab38, tab55, hN, pe, encP, lk_spec_inTriangle_spec_cross, lk_spec_inTriangle_spec_sign, lk_spec_inTriangle_spec_onSegment, sp_spec_cross, sp_spec_sign, sp_spec_onSegment, eqP, ha, hb, hc, hq, z, q1, q2, q3, x1, hv]
    | false =>
      cases x2 : (a == b) with
      | true =>
        cases x3 : (b == c) with
        | true =>
          cases x4 : (a == c) with
          | true =>
            rw [x1, x2, x3, x4] at hv
            simp only [V_seq, V_ret, V_region, V_cond, brW_true, W_nil, W_cons, effOp2, KN_seq, KXr_nil, KXr_seq, QE, asB, effOp, effPure, effPick, effNew, effBox, effCall, giveUp, hasAll, skipE, pureV, pickV, binV, partV, loadV, over, solid, buildL, IV.cells, ofC, strip, lkT, lkH, ISt.app, opI, gO, gB, allB, gval, wrapG, dstOK, setD, mentTm, mentHp, IV.ment, IV.mentL, oneI, lendV, lendP, lent, lentP, idsV, idsL, lkHS, flat, clean, callArgs, callFn, allLent, enumT, Gives, Ideal.Fin, conv, conv0, eqL, numsOnly, Op.operands, reduceIte, reduceCtorEq, cond_true, cond_false, Bool.or_false, Bool.or_true, Bool.and_true, Bool.and_false, Bool.false_and, Bool.not_true, Bool.not_false, Nat.reduceAdd, Nat.reduceLT, Nat.reduceLeDiff, Nat.reduceEqDiff, Nat.reduceBEq, Nat.zero_add, ne_eq, not_false_eq_true, beq_self_eq_true, true_and, and_true, false_and, and_false, and_self, false_implies, implies_true, List.map_cons, List.map_nil, List.nil_append, List.cons_append, List.append_nil, List.all_cons, List.all_nil, Option.bind_some, List.getElem?_cons_zero, List.getElem?_cons_succ, List.getD_cons_zero, List.getD_cons_succ, List.length_cons, List.length_nil, List.take_succ_cons, List.take_zero, List.take_nil, List.drop_succ_cons, List.drop_zero, List.drop_nil, ex_clo, bft, or_self, Bool.false_eq_true, tab38, tab55, hN, pe, encP, lk_spec_inTriangle_spec_cross, lk_spec_inTriangle_spec_sign, lk_spec_inTriangle_spec_onSegment, sp_spec_cross, sp_spec_sign, sp_spec_onSegment, eqP, ha, hb, hc, hq, z, q1, q2, q3, x1, x2, x3, x4, hv]
          | false =>
            rw [x1, x2, x3, x4] at hv
            simp only [V_seq, V_ret, V_region, V_cond, brW_true, W_nil, W_cons, effOp2, KN_seq, KXr_nil, KXr_seq, QE, asB, effOp, effPure, effPick, effNew, effBox, effCall, giveUp, hasAll, skipE, pureV, pickV, binV, partV, loadV, over, solid, buildL, IV.cells, ofC, strip, lkT, lkH, ISt.app, opI, gO, gB, allB, gval, wrapG, dstOK, setD, mentTm, mentHp, IV.ment, IV.mentL, oneI, lendV, lendP, lent, lentP, idsV, idsL, lkHS, flat, clean, callArgs, callFn, allLent, enumT, Gives, Ideal.Fin, conv, conv0, eqL, numsOnly, Op.operands, reduceIte, reduceCtorEq, cond_true, cond_false, Bool.or_false, Bool.or_true, Bool.false_or, Bool.and_true, Bool.and_false, Bool.true_and, Bool.false_and, Bool.not_true, Bool.not_false, Nat.reduceAdd, Nat.reduceLT, Nat.reduceLeDiff, Nat.reduceEqDiff, Nat.reduceBEq, Nat.zero_add, ne_eq, not_false_eq_true, beq_self_eq_true, true_and, and_true, false_and, and_false, and_self, false_implies, implies_true, List.map_cons, List.map_nil, List.nil_append, List.cons_append, List.append_nil, List.all_cons, List.all_nil, Option.bind_some, List.getElem?_cons_zero, List.getElem?_cons_succ, List.getD_cons_zero, List.getD_cons_succ, List.length_cons, List.length_nil, List.take_succ_cons, List.take_zero, List.take_nil, List.drop_succ_cons, List.drop_zero, List.drop_nil, ex_clo, bft, or_self, Bool.true_eq_false, Bool.false_eq_true, tab38, tab55, hN, pe, encP, lk_spec_inTriangle_spec_cross, lk_spec_inTriangle_spec_sign, lk_spec_inTriangle_spec_onSegment, sp_spec_cross, sp_spec_sign, sp_spec_onSegment, eqP, ha, hb, hc, hq, z, q1, q2, q3, x1, x2, x3, x4, hv]
        | false =>
          cases y3 : onS (b, c) q with
          | true =>
            rw [x1, x2, x3, y3] at hv
            simp only [V_seq, V_ret, V_region, V_cond, brW_true, W_nil, W_cons, effOp2, KN_seq, KXr_nil, KXr_seq, QE, asB, effOp, effPure, effPick, effNew, effBox, effCall, giveUp, hasAll, skipE, pureV, pickV, binV, partV, loadV, over, solid, buildL, IV.cells, ofC, strip, lkT, lkH, ISt.app, opI, gO, gB, allB, gval, wrapG, dstOK, setD, mentTm, mentHp, IV.ment, IV.mentL, oneI, lendV, lendP, lent, lentP, idsV, idsL, lkHS, flat, clean, callArgs, callFn, allLent, enumT, Gives, Ideal.Fin, conv, conv0, eqL, numsOnly, Op.operands, reduceIte, reduceCtorEq, cond_true, cond_false, Bool.or_false, Bool.or_true, Bool.true_or, Bool.and_true, Bool.and_false, Bool.false_and, Bool.not_true, Bool.not_false, Nat.reduceAdd, Nat.reduceLT, Nat.reduceLeDiff, Nat.reduceEqDiff, Nat.reduceBEq, Nat.zero_add, ne_eq, not_false_eq_true, beq_self_eq_true, true_and, and_true, false_and, and_false, and_self, false_implies, implies_true, List.map_cons, List.map_nil, List.nil_append, List.cons_append, List.append_nil, List.all_cons, List.all_nil, Option.bind_some, List.getElem?_cons_zero, List.getElem?_cons_succ, List.getD_cons_zero, List.getD_cons_succ, List.length_cons, List.length_nil, List.take_succ_cons, List.take_zero, List.take_nil, List.drop_succ_cons, List.drop_zero, List.drop_nil, ex_clo, bft, btf, or_self, Bool.true_eq_false, Bool.false_eq_true, tab38, tab55, hN, pe, encP, lk_spec_inTriangle_spec_cross, lk_spec_inTriangle_spec_sign, lk_spec_inTriangle_spec_onSegment, sp_spec_cross, sp_spec_sign, sp_spec_onSegment, eqP, ha, hb, hc, hq, z, q1, q2, q3, x1, x2, x3, y3, hv]
          | false =>
            cases x4 : (a == c) with
            | true =>
              rw [x1, x2, x3, y3, x4] at hv
              simp only [V_seq, V_ret, V_region, V_cond, brW_true, W_nil, W_cons, effOp2, KN_seq, KXr_nil, KXr_seq, QE, asB, effOp, effPure, effPick, effNew, effBox, effCall, giveUp, hasAll, skipE, pureV, pickV, binV, partV, loadV, over, solid, buildL, IV.cells, ofC, strip, lkT, lkH, ISt.app, opI, gO, gB, allB, gval, wrapG, dstOK, setD, mentTm, mentHp, IV.ment, IV.mentL, oneI, lendV, lendP, lent, lentP, idsV, idsL, lkHS, flat, clean, callArgs, callFn, allLent, enumT, Gives, Ideal.Fin, conv, conv0, eqL, numsOnly, Op.operands, reduceIte, reduceCtorEq, cond_true, cond_false, Bool.or_false, Bool.or_true, Bool.and_true, Bool.and_false, Bool.false_and, Bool.not_true, Bool.not_false, Nat.reduceAdd, Nat.reduceLT, Nat.reduceLeDiff, Nat.reduceEqDiff, Nat.reduceBEq, Nat.zero_add, ne_eq, not_false_eq_true, beq_self_eq_true, true_and, and_true, false_and, and_false, and_self, false_implies, implies_true, List.map_cons, List.map_nil, List.nil_append, List.cons_append, List.append_nil, List.all_cons, List.all_nil, Option.bind_some, List.getElem?_cons_zero, List.getElem?_cons_succ, List.getD_cons_zero, List.getD_cons_succ, List.length_cons, List.length_nil, List.take_succ_cons, List.take_zero, List.take_nil, List.drop_succ_cons, List.drop_zero, List.drop_nil, ex_clo, bft, or_self, Bool.true_eq_false, Bool.false_eq_true, tab38, tab55, hN, pe, encP, lk_spec_inTriangle_spec_cross, lk_spec_inTriangle_spec_sign, lk_spec_inTriangle_spec_onSegment, sp_spec_cross, sp_spec_sign, sp_spec_onSegment, eqP, ha, hb, hc, hq, z, q1, q2, q3, x1, x2, x3, y3, x4, hv]
            | false =>
              rw [x1, x2, x3, y3, x4] at hv
              simp only [V_seq, V_ret, V_region, V_cond, brW_true, W_nil, W_cons, effOp2, KN_seq, KXr_nil, KXr_seq, QE, asB, effOp, effPure, effPick, effNew, effBox, effCall, giveUp, hasAll, skipE, pureV, pickV, binV, partV, loadV, over, solid, buildL, IV.cells, ofC, strip, lkT, lkH, ISt.app, opI, gO, gB, allB, gval, wrapG, dstOK, setD, mentTm, mentHp, IV.ment, IV.mentL, oneI, lendV, lendP, lent, lentP, idsV, idsL, lkHS, flat, clean, callArgs, callFn, allLent, enumT, Gives, Ideal.Fin, conv, conv0, eqL, numsOnly, Op.operands, reduceIte, reduceCtorEq, cond_true, cond_false, Bool.or_false, Bool.or_true, Bool.false_or, Bool.and_true, Bool.and_false, Bool.true_and, Bool.false_and, Bool.not_true, Bool.not_false, Nat.reduceAdd, Nat.reduceLT, Nat.reduceLeDiff, Nat.reduceEqDiff, Nat.reduceBEq, Nat.zero_add, ne_eq, not_false_eq_true, beq_self_eq_true, true_and, and_true, false_and, and_false, and_self, false_implies, implies_true, List.map_cons, List.map_nil, List.nil_append, List.cons_append, List.append_nil, List.all_cons, List.all_nil, Option.bind_some, List.getElem?_cons_zero, List.getElem?_cons_succ, List.getD_cons_zero, List.getD_cons_succ, List.length_cons, List.length_nil, List.take_succ_cons, List.take_zero, List.take_nil, List.drop_succ_cons, List.drop_zero, List.drop_nil, ex_clo, bft, or_self, Bool.true_eq_false, Bool.false_eq_true, tab38, tab55, hN, pe, encP, lk_spec_inTriangle_spec_cross, lk_spec_inTriangle_spec_sign, lk_spec_inTriangle_spec_onSegment, sp_spec_cross, sp_spec_sign, sp_spec_onSegment, eqP, ha, hb, hc, hq, z, q1, q2, q3, x1, x2, x3, y3, x4, hv]
      | false =>
        cases y2 : onS (a, b) q with
        | true =>
          rw [x1, x2, y2] at hv
          simp only [V_seq, V_ret, V_region, V_cond, brW_true, W_nil, W_cons, effOp2, KN_seq, KXr_nil, KXr_seq, QE, asB, effOp, effPure, effPick, effNew, effBox, effCall, giveUp, hasAll, skipE, pureV, pickV, binV, partV, loadV, over, solid, buildL, IV.cells, ofC, strip, lkT, lkH, ISt.app, opI, gO, gB, allB, gval, wrapG, dstOK, setD, mentTm, mentHp, IV.ment, IV.mentL, oneI, lendV, lendP, lent, lentP, idsV, idsL, lkHS, flat, clean, callArgs, callFn, allLent, enumT, Gives, Ideal.Fin, conv, conv0, eqL, numsOnly, Op.operands, reduceIte, reduceCtorEq, cond_true, cond_false, Bool.or_false, Bool.or_true, Bool.true_or, Bool.and_true, Bool.false_and, Bool.not_true, Bool.not_false, Nat.reduceAdd, Nat.reduceLT, Nat.reduceLeDiff, Nat.reduceEqDiff, Nat.reduceBEq, Nat.zero_add, ne_eq, not_false_eq_true, beq_self_eq_true, true_and, and_true, false_and, and_false, and_self, false_implies, implies_true, List.map_cons, List.map_nil, List.nil_append, List.cons_append, List.append_nil, List.all_cons, List.all_nil, Option.bind_some, List.getElem?_cons_zero, List.getElem?_cons_succ, List.getD_cons_zero, List.getD_cons_succ, List.length_cons, List.length_nil, List.take_succ_cons, List.take_zero, List.take_nil, List.drop_succ_cons, List.drop_zero, List.drop_nil, ex_clo, btf, or_self, Bool.true_eq_false, Bool.false_eq_true, tab38, tab55, hN, pe, encP, lk_spec_inTriangle_spec_cross, lk_spec_inTriangle_spec_sign, lk_spec_inTriangle_spec_onSegment, sp_spec_cross, sp_spec_sign, sp_spec_onSegment, eqP, ha, hb, hc, hq, z, q1, q2, q3, x1, x2, y2, hv]
        | false =>
          cases x3 : (b == c) with
          | true =>
            cases x4 : (a == c) with
            | true =>
              rw [x1, x2, y2, x3, x4] at hv
              simp only [V_seq, V_ret, V_region, V_cond, brW_true, W_nil, W_cons, effOp2, KN_seq, KXr_nil, KXr_seq, QE, asB, effOp, effPure, effPick, effNew, effBox, effCall, giveUp, hasAll, skipE, pureV, pickV, binV, partV, loadV, over, solid, buildL, IV.cells, ofC, strip, lkT, lkH, ISt.app, opI, gO, gB, allB, gval, wrapG, dstOK, setD, mentTm, mentHp, IV.ment, IV.mentL, oneI, lendV, lendP, lent, lentP, idsV, idsL, lkHS, flat, clean, callArgs, callFn, allLent, enumT, Gives, Ideal.Fin, conv, conv0, eqL, numsOnly, Op.operands, reduceIte, reduceCtorEq, cond_true, cond_false, Bool.or_false, Bool.or_true, Bool.and_true, Bool.and_false, Bool.false_and, Bool.not_true, Bool.not_false, Nat.reduceAdd, Nat.reduceLT, Nat.reduceLeDiff, Nat.reduceEqDiff, Nat.reduceBEq, Nat.zero_add, ne_eq, not_false_eq_true, beq_self_eq_true, true_and, and_true, false_and, and_false, and_self, false_implies, implies_true, List.map_cons, List.map_nil, List.nil_append, List.cons_append, List.append_nil, List.all_cons, List.all_nil, Option.bind_some, List.getElem?_cons_zero, List.getElem?_cons_succ, List.getD_cons_zero, List.getD_cons_succ, List.length_cons, List.length_nil, List.take_succ_cons, List.take_zero, List.take_nil, List.drop_succ_cons, List.drop_zero, List.drop_nil, ex_clo, bft, or_self, Bool.true_eq_false, Bool.false_eq_true, tab38, tab55, hN, pe, encP, lk_spec_inTriangle_spec_cross, lk_spec_inTriangle_spec_sign, lk_spec_inTriangle_spec_onSegment, sp_spec_cross, sp_spec_sign, sp_spec_onSegment, eqP, ha, hb, hc, hq, z, q1, q2, q3, x1, x2, y2, x3, x4, hv]
            | false =>
              rw [x1, x2, y2, x3, x4] at hv
              simp only [V_seq, V_ret, V_region, V_cond, brW_true, W_nil, W_cons, effOp2, KN_seq, KXr_nil, KXr_seq, QE, asB, effOp, effPure, effPick, effNew, effBox, effCall, giveUp, hasAll, skipE, pureV, pickV, binV, partV, loadV, over, solid, buildL, IV.cells, ofC, strip, lkT, lkH, ISt.app, opI, gO, gB, allB, gval, wrapG, dstOK, setD, mentTm, mentHp, IV.ment, IV.mentL, oneI, lendV, lendP, lent, lentP, idsV, idsL, lkHS, flat, clean, callArgs, callFn, allLent, enumT, Gives, Ideal.Fin, conv, conv0, eqL, numsOnly, Op.operands, reduceIte, reduceCtorEq, cond_true, cond_false, Bool.or_false, Bool.or_true, Bool.false_or, Bool.and_true, Bool.and_false, Bool.true_and, Bool.false_and, Bool.not_true, Bool.not_false, Nat.reduceAdd, Nat.reduceLT, Nat.reduceLeDiff, Nat.reduceEqDiff, Nat.reduceBEq, Nat.zero_add, ne_eq, not_false_eq_true, beq_self_eq_true, true_and, and_true, false_and, and_false, and_self, false_implies, implies_true, List.map_cons, List.map_nil, List.nil_append, List.cons_append, List.append_nil, List.all_cons, List.all_nil, Option.bind_some, List.getElem?_cons_zero, List.getElem?_cons_succ, List.getD_cons_zero, List.getD_cons_succ, List.length_cons, List.length_nil, List.take_succ_cons, List.take_zero, List.take_nil, List.drop_succ_cons, List.drop_zero, List.drop_nil, ex_clo, bft, or_self, Bool.true_eq_false, Bool.false_eq_true, tab38, tab55, hN, pe, encP, lk_spec_inTriangle_spec_cross, lk_spec_inTriangle_spec_sign, lk_spec_inTriangle_spec_onSegment, sp_spec_cross, sp_spec_sign, sp_spec_onSegment, eqP, ha, hb, hc, hq, z, q1, q2, q3, x1, x2, y2, x3, x4, hv]
          | false =>
            cases y3 : onS (b, c) q with
            | true =>
              rw [x1, x2, y2, x3, y3] at hv
              simp only [V_seq, V_ret, V_region, V_cond, brW_true, W_nil, W_cons, effOp2, KN_seq, KXr_nil, KXr_seq, QE, asB, effOp, effPure, effPick, effNew, effBox, effCall, giveUp, hasAll, skipE, pureV, pickV, binV, partV, loadV, over, solid, buildL, IV.cells, ofC, strip, lkT, lkH, ISt.app, opI, gO, gB, allB, gval, wrapG, dstOK, setD, mentTm, mentHp, IV.ment, IV.mentL, oneI, lendV, lendP, lent, lentP, idsV, idsL, lkHS, flat, clean, callArgs, callFn, allLent, enumT, Gives, Ideal.Fin, conv, conv0, eqL, numsOnly, Op.operands, reduceIte, reduceCtorEq, cond_true, cond_false, Bool.or_false, Bool.or_true, Bool.true_or, Bool.and_true, Bool.and_false, Bool.false_and, Bool.not_true, Bool.not_false, Nat.reduceAdd, Nat.reduceLT, Nat.reduceLeDiff, Nat.reduceEqDiff, Nat.reduceBEq, Nat.zero_add, ne_eq, not_false_eq_true, beq_self_eq_true, true_and, and_true, false_and, and_false, and_self, false_implies, implies_true, List.map_cons, List.map_nil, List.nil_append, List.cons_append, List.append_nil, List.all_cons, List.all_nil, Option.bind_some, List.getElem?_cons_zero, List.getElem?_cons_succ, List.getD_cons_zero, List.getD_cons_succ, List.length_cons, List.length_nil, List.take_succ_cons, List.take_zero, List.take_nil, List.drop_succ_cons, List.drop_zero, List.drop_nil, ex_clo, btf, or_self, Bool.true_eq_false, Bool.false_eq_true, tab38, tab55, hN, pe, encP, lk_spec_inTriangle_spec_cross, lk_spec_inTriangle_spec_sign, lk_spec_inTriangle_spec_onSegment, sp_spec_cross, sp_spec_sign, sp_spec_onSegment, eqP, ha, hb, hc, hq, z, q1, q2, q3, x1, x2, y2, x3, y3, hv]
            | false =>
              cases x4 : (a == c) with
              | true =>
                rw [x1, x2, y2, x3, y3, x4] at hv
                simp only [V_seq, V_ret, V_region, V_cond, brW_true, W_nil, W_cons, effOp2, KN_seq, KXr_nil, KXr_seq, QE, asB, effOp, effPure, effPick, effNew, effBox, effCall, giveUp, hasAll, skipE, pureV, pickV, binV, partV, loadV, over, solid, buildL, IV.cells, ofC, strip, lkT, lkH, ISt.app, opI, gO, gB, allB, gval, wrapG, dstOK, setD, mentTm, mentHp, IV.ment, IV.mentL, oneI, lendV, lendP, lent, lentP, idsV, idsL, lkHS, flat, clean, callArgs, callFn, allLent, enumT, Gives, Ideal.Fin, conv, conv0, eqL, numsOnly, Op.operands, reduceIte, reduceCtorEq, cond_true, cond_false, Bool.or_false, Bool.or_true, Bool.and_true, Bool.and_false, Bool.false_and, Bool.not_true, Bool.not_false, Nat.reduceAdd, Nat.reduceLT, Nat.reduceLeDiff, Nat.reduceEqDiff, Nat.reduceBEq, Nat.zero_add, ne_eq, not_false_eq_true, beq_self_eq_true, true_and, and_true, false_and, and_false, and_self, false_implies, implies_true, List.map_cons, List.map_nil, List.nil_append, List.cons_append, List.append_nil, List.all_cons, List.all_nil, Option.bind_some, List.getElem?_cons_zero, List.getElem?_cons_succ, List.getD_cons_zero, List.getD_cons_succ, List.length_cons, List.length_nil, List.take_succ_cons, List.take_zero, List.take_nil, List.drop_succ_cons, List.drop_zero, List.drop_nil, ex_clo, bft, or_self, Bool.true_eq_false, Bool.false_eq_true, tab38, tab55, hN, pe, encP, lk_spec_inTriangle_spec_cross, lk_spec_inTriangle_spec_sign, lk_spec_inTriangle_spec_onSegment, sp_spec_cross, sp_spec_sign, sp_spec_onSegment, eqP, ha, hb, hc, hq, z, q1, q2, q3, x1, x2, y2, x3, y3, x4, hv]
              | false =>
                rw [x1, x2, y2, x3, y3, x4] at hv
                simp only [V_seq, V_ret, V_region, V_cond, brW_true, W_nil, W_cons, effOp2, KN_seq, KXr_nil, KXr_seq, QE, asB, effOp, effPure, effPick, effNew, effBox, effCall, giveUp, hasAll, skipE, pureV, pickV, binV, partV, loadV, over, solid, buildL, IV.cells, ofC, strip, lkT, lkH, ISt.app, opI, gO, gB, allB, gval, wrapG, dstOK, setD, mentTm, mentHp, IV.ment, IV.mentL, oneI, lendV, lendP, lent, lentP, idsV, idsL, lkHS, flat, clean, callArgs, callFn, allLent, enumT, Gives, Ideal.Fin, conv, conv0, eqL, numsOnly, Op.operands, reduceIte, reduceCtorEq, cond_true, cond_false, Bool.or_false, Bool.false_or, Bool.and_true, Bool.and_false, Bool.true_and, Bool.not_true, Bool.not_false, Nat.reduceAdd, Nat.reduceLT, Nat.reduceLeDiff, Nat.reduceEqDiff, Nat.reduceBEq, Nat.zero_add, ne_eq, not_false_eq_true, beq_self_eq_true, true_and, and_true, false_and, and_false, and_self, implies_true, List.map_cons, List.map_nil, List.nil_append, List.cons_append, List.append_nil, List.all_cons, List.all_nil, Option.bind_some, List.getElem?_cons_zero, List.getElem?_cons_succ, List.getD_cons_zero, List.getD_cons_succ, List.length_cons, List.length_nil, List.take_succ_cons, List.take_zero, List.take_nil, List.drop_succ_cons, List.drop_zero, List.drop_nil, ex_clo, or_self, Bool.true_eq_false, Bool.false_eq_true, tab38, tab55, hN, pe, encP, lk_spec_inTriangle_spec_cross, lk_spec_inTriangle_spec_sign, lk_spec_inTriangle_spec_onSegment, sp_spec_cross, sp_spec_sign, sp_spec_onSegment, eqP, ha, hb, hc, hq, z, q1, q2, q3, x1, x2, y2, x3, y3, x4, hv]
  · have hv : inTri a b c q = (decide (0 ≤ sgnI (turn a b c) * turn a b q) && (decide (0 ≤ sgnI (turn a b c) * turn b c q) && decide (0 ≤ sgnI (turn a b c) * turn c a q))) := if_neg h0
    rw [← sgn_mul_sgn (turn a b c) (turn a b q), ← sgn_mul_sgn (turn a b c) (turn b c q), ← sgn_mul_sgn (turn a b c) (turn c a q)] at hv
    rw [decide_eq_false h0] at z
    have ww : ∀ x y : Int, IntKind.i64.wrap (sgnI x * sgnI y) = sgnI x * sgnI y := by
      intro x y
      have := sgn_x_bd (s := x) (x := sgnI y) (A := 1) (sgn_bd1 y)
      exact wr (by omega) (by omega)
    cases x1 : decide (0 ≤ sgnI (turn a b q) * sgnI (turn a b c)) with
    | false =>
      rw [x1] at hv
      simp only [V_seq, V_skip, V_ret, V_region, V_cond, brW_false, W_nil, W_cons, effOp2, KN_seq, KXr_nil, QE, asB, effOp, effPure, effPick, effNew, effBox, effCall, giveUp, hasAll, skipE, pureV, pickV, binV, partV, loadV, solid, IV.cells, ofC, strip, lkT, lkH, ISt.app, opI, gO, gB, allB, gval, wrapG, dstOK, setD, mentTm, mentHp, IV.ment, IV.mentL, oneI, lendV, lendP, lent, lentP, idsV, idsL, lkHS, flat, clean, callArgs, callFn, allLent, enumT, Gives, Ideal.Fin, conv, conv0, Op.operands, reduceIte, reduceCtorEq, cond_true, cond_false, Bool.or_false, Bool.or_true, Bool.and_true, Bool.false_and, Bool.not_true, Bool.not_false, Nat.reduceAdd, Nat.reduceLT, Nat.reduceLeDiff, Nat.reduceEqDiff, Nat.reduceBEq, Nat.zero_add, and_true, and_false, and_self, false_implies, implies_true, List.map_cons, List.map_nil, List.nil_append, List.cons_append, List.append_nil, List.all_cons, List.all_nil, Option.bind_some, List.getElem?_cons_zero, List.getElem?_cons_succ, List.getD_cons_zero, List.length_cons, List.length_nil, List.take_succ_cons, List.take_nil, List.drop_zero, ex_clo, bft, or_self, Bool.false_eq_true, tab38, hN, pe, encP, lk_spec_inTriangle_spec_cross, lk_spec_inTriangle_spec_sign, sp_spec_cross, sp_spec_sign, ha, hb, hc, hq, z, ww, x1, hv]
    | true =>
      cases x2 : decide (0 ≤ sgnI (turn b c q) * sgnI (turn a b c)) with
      | false =>
        rw [x1, x2] at hv
        simp only [V_seq, V_skip, V_ret, V_region, V_cond, brW_false, W_nil, W_cons, effOp2, KN_seq, KXr_nil, QE, asB, effOp, effPure, effPick, effNew, effBox, effCall, giveUp, hasAll, skipE, pureV, pickV, binV, partV, loadV, solid, IV.cells, ofC, strip, lkT, lkH, ISt.app, opI, gO, gB, allB, gval, wrapG, dstOK, setD, mentTm, mentHp, IV.ment, IV.mentL, oneI, lendV, lendP, lent, lentP, idsV, idsL, lkHS, flat, clean, callArgs, callFn, allLent, enumT, Gives, Ideal.Fin, conv, conv0, Op.operands, reduceIte, reduceCtorEq, cond_true, cond_false, Bool.or_false, Bool.or_true, Bool.and_true, Bool.and_false, Bool.false_and, Bool.not_true, Bool.not_false, Nat.reduceAdd, Nat.reduceLT, Nat.reduceLeDiff, Nat.reduceEqDiff, Nat.reduceBEq, Nat.zero_add, beq_self_eq_true, and_true, and_false, and_self, false_implies, implies_true, List.map_cons, List.map_nil, List.nil_append, List.cons_append, List.append_nil, List.all_cons, List.all_nil, Option.bind_some, List.getElem?_cons_zero, List.getElem?_cons_succ, List.getD_cons_zero, List.length_cons, List.length_nil, List.take_succ_cons, List.take_nil, List.drop_zero, ex_clo, bft, or_self, Bool.true_eq_false, Bool.false_eq_true, tab38, hN, pe, encP, lk_spec_inTriangle_spec_cross, lk_spec_inTriangle_spec_sign, sp_spec_cross, sp_spec_sign, ha, hb, hc, hq, z, ww, x1, x2, hv]
      | true =>
        rw [x1, x2] at hv
        simp only [V_seq, V_skip, V_ret, V_region, V_cond, brW_false, W_nil, W_cons, effOp2, KN_seq, KXr_nil, QE, asB, effOp, effPure, effPick, effNew, effBox, effCall, giveUp, hasAll, skipE, pureV, pickV, binV, partV, loadV, solid, IV.cells, ofC, strip, lkT, lkH, ISt.app, opI, gO, gB, allB, gval, wrapG, dstOK, setD, mentTm, mentHp, IV.ment, IV.mentL, oneI, lendV, lendP, lent, lentP, idsV, idsL, lkHS, flat, clean, callArgs, callFn, allLent, enumT, Gives, Ideal.Fin, conv, conv0, Op.operands, reduceIte, reduceCtorEq, cond_true, Bool.or_false, Bool.and_true, Bool.true_and, Bool.not_true, Nat.reduceAdd, Nat.reduceLT, Nat.reduceLeDiff, Nat.reduceEqDiff, Nat.reduceBEq, Nat.zero_add, beq_self_eq_true, and_false, and_self, implies_true, List.map_cons, List.map_nil, List.nil_append, List.cons_append, List.append_nil, List.all_cons, List.all_nil, Option.bind_some, List.getElem?_cons_zero, List.getElem?_cons_succ, List.getD_cons_zero, List.length_cons, List.length_nil, List.take_succ_cons, List.take_nil, List.drop_zero, ex_clo, or_self, Bool.true_eq_false, tab38, hN, pe, encP, lk_spec_inTriangle_spec_cross, lk_spec_inTriangle_spec_sign, sp_spec_cross, sp_spec_sign, ha, hb, hc, hq, z, ww, x1, x2, hv]
def sp_spec_inTriangle : PSpec := ⟨fun xs => match xs with | [.agg [.num .i64 a1, .num .i64 a2], .agg [.num .i64 b1, .num .i64 b2], .agg [.num .i64 c1, .num .i64 c2], .agg [.num .i64 q1, .num .i64 q2]] => ((fun (a : Pt) (b : Pt) (c : Pt) (q : Pt) => Sm a) (a1, a2) (b1, b2) (c1, c2) (q1, q2)) ∧ ((fun (a : Pt) (b : Pt) (c : Pt) (q : Pt) => Sm b) (a1, a2) (b1, b2) (c1, c2) (q1, q2)) ∧ ((fun (a : Pt) (b : Pt) (c : Pt) (q : Pt) => Sm c) (a1, a2) (b1, b2) (c1, c2) (q1, q2)) ∧ ((fun (a : Pt) (b : Pt) (c : Pt) (q : Pt) => Sm q) (a1, a2) (b1, b2) (c1, c2) (q1, q2)) | _ => False, fun xs => match xs with | [.agg [.num _ a1, .num _ a2], .agg [.num _ b1, .num _ b2], .agg [.num _ c1, .num _ c2], .agg [.num _ q1, .num _ q2]] => (fun (a : Pt) (b : Pt) (c : Pt) (q : Pt) => .bool (inTri a b c q)) (a1, a2) (b1, b2) (c1, c2) (q1, q2) | _ => .junk, false⟩
theorem gk_spec_inTriangle : ∀ args, sp_spec_inTriangle.pre args → ICall Try.prog 28 args (sp_spec_inTriangle.val args) := by
  intro args h
  unfold sp_spec_inTriangle at h ⊢; simp only at h ⊢; split at h
  · obtain ⟨h0, h1, h2, h3⟩ := h
    try simp only [toPs_enc] at *
    exact c_spec_inTriangle (_, _) (_, _) (_, _) (_, _) h0 h1 h2 h3
  · exact h.elim
theorem en_spec_inTriangle : Enters Try.prog 28 := enters_of Try.func28 (by kernel_rfl) rfl

end Go.Proofs.Ytiadicmnbjaknaa
