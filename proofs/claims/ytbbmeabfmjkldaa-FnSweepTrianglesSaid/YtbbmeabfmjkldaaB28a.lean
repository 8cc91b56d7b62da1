/- Contracts: the area of a triangle, three drawn points. -/
import Derived.Test.YtbbmeabfmjkldaaBO
import Derived.Test.YtbbmeabfmjkldaaB8
set_option linter.unusedVariables false
set_option linter.unusedSimpArgs false
set_option maxHeartbeats 1600000
set_option maxRecDepth 100000
namespace Go.Proofs.Ytbbmeabfmjkldaa
open Go Go.Ideal Go.Pl Go.Sort

/-- Twice the area of a triangle of valid points. -/
def crI (a b c : Pt) : Int := bif okP a && (okP b && okP c) then turn a b c else 0
def g_impl_Cross : List (Nat × PSpec) := [(40, sp_impl_allValid), (41, sp_impl_turn)]
theorem gok_impl_Cross : GOK Try.prog g_impl_Cross := gok_cons gk_impl_allValid en_impl_allValid (gok_cons gk_impl_turn en_impl_turn (gok0))
theorem lk_impl_Cross_impl_allValid : lkG g_impl_Cross 40 = sp_impl_allValid := rfl
theorem lk_impl_Cross_impl_turn : lkG g_impl_Cross 41 = sp_impl_turn := rfl
def h_impl_Cross : List (Nat × HSpec) := []
theorem hok_impl_Cross : HOK Try.prog h_impl_Cross := hok0
theorem c_impl_Cross (a : Pt) (b : Pt) (c : Pt)  : ICall Try.prog 12 [encP a, encP b, encP c] (.num .i64 (crI a b c)) := by
  refine icall_V (G := g_impl_Cross) (H := []) [] tabOK mixed gok_impl_Cross hok_impl_Cross Try.func12 rfl Try.ntmps12 Try.results12 rfl (by kernel_rfl) fun F hN hlen => ?_
  have hv : crI a b c = bif okP a && (okP b && okP c) then turn a b c else 0 := rfl
  cases h1 : okP a with
  | false =>
    rw [h1] at hv
    simp only [V_seq, V_ret, V_region, V_cond, brW_true, W_nil, W_cons, effOp2, KN_seq, KXr_nil, KXr_seq, QE, asB, effOp, effPure, effNew, effBox, effBuildSlice, effFrz, frz, tmpsOf, effCall, giveUp, hasAll, Option.isSome_some, skipE, pureV, partV, loadV, solid, IV.cells, ofC, strip, lkT, lkH, ISt.app, opI, gO, gB, allB, gval, wrapG, dstOK, setD, mentTm, mentHp, IV.ment, IV.mentL, partsL, eltsI, eltI, oneI, noId', lendV, lendP, lent, lentP, idsV, idsL, lkHS, flat, clean, callArgs, callFn, allLent, enumT, Gives, Ideal.Fin, conv, conv0, Op.operands, reduceIte, reduceCtorEq, cond_true, cond_false, Bool.or_false, Bool.and_true, Bool.false_and, Bool.not_true, Bool.not_false, Nat.reduceAdd, Nat.reduceMul, Nat.reduceLT, Nat.reduceLeDiff, Nat.reduceEqDiff, Nat.reduceBEq, Nat.zero_add, ne_eq, not_false_eq_true, and_false, and_self, implies_true, List.map_cons, List.map_nil, List.nil_append, List.cons_append, List.append_nil, List.all_cons, List.all_nil, List.getD_cons_zero, List.length_cons, List.length_nil, List.take_succ_cons, List.take_nil, List.drop_zero, ex_clo, or_self, tab23, tab30, hN, pe, encP, isPs_nil, toPs_nil, isPs_cons, toPs_cons, lk_impl_Cross_impl_allValid, sp_impl_allValid, h1, hv, List.all_cons, List.all_nil]
  | true =>
    have s1 := okP_sm h1
    cases h2 : okP b with
    | false =>
      rw [h1, h2] at hv
      simp only [V_seq, V_ret, V_region, V_cond, brW_true, W_nil, W_cons, effOp2, KN_seq, KXr_nil, KXr_seq, QE, asB, effOp, effPure, effNew, effBox, effBuildSlice, effFrz, frz, tmpsOf, effCall, giveUp, hasAll, Option.isSome_some, skipE, pureV, partV, loadV, solid, IV.cells, ofC, strip, lkT, lkH, ISt.app, opI, gO, gB, allB, gval, wrapG, dstOK, setD, mentTm, mentHp, IV.ment, IV.mentL, partsL, eltsI, eltI, oneI, noId', lendV, lendP, lent, lentP, idsV, idsL, lkHS, flat, clean, callArgs, callFn, allLent, enumT, Gives, Ideal.Fin, conv, conv0, Op.operands, reduceIte, reduceCtorEq, cond_true, cond_false, Bool.or_false, Bool.and_true, Bool.and_false, Bool.false_and, Bool.not_true, Bool.not_false, Nat.reduceAdd, Nat.reduceMul, Nat.reduceLT, Nat.reduceLeDiff, Nat.reduceEqDiff, Nat.reduceBEq, Nat.zero_add, ne_eq, not_false_eq_true, and_false, and_self, implies_true, List.map_cons, List.map_nil, List.nil_append, List.cons_append, List.append_nil, List.all_cons, List.all_nil, List.getD_cons_zero, List.length_cons, List.length_nil, List.take_succ_cons, List.take_nil, List.drop_zero, ex_clo, or_self, tab23, tab30, hN, pe, encP, isPs_nil, toPs_nil, isPs_cons, toPs_cons, lk_impl_Cross_impl_allValid, sp_impl_allValid, h1, h2, hv, List.all_cons, List.all_nil]
    | true =>
      have s2 := okP_sm h2
      cases h3 : okP c with
      | false =>
        rw [h1, h2, h3] at hv
        simp only [V_seq, V_ret, V_region, V_cond, brW_true, W_nil, W_cons, effOp2, KN_seq, KXr_nil, KXr_seq, QE, asB, effOp, effPure, effNew, effBox, effBuildSlice, effFrz, frz, tmpsOf, effCall, giveUp, hasAll, Option.isSome_some, skipE, pureV, partV, loadV, solid, IV.cells, ofC, strip, lkT, lkH, ISt.app, opI, gO, gB, allB, gval, wrapG, dstOK, setD, mentTm, mentHp, IV.ment, IV.mentL, partsL, eltsI, eltI, oneI, noId', lendV, lendP, lent, lentP, idsV, idsL, lkHS, flat, clean, callArgs, callFn, allLent, enumT, Gives, Ideal.Fin, conv, conv0, Op.operands, reduceIte, reduceCtorEq, cond_true, cond_false, Bool.or_false, Bool.and_true, Bool.and_false, Bool.not_true, Bool.not_false, Nat.reduceAdd, Nat.reduceMul, Nat.reduceLT, Nat.reduceLeDiff, Nat.reduceEqDiff, Nat.reduceBEq, Nat.zero_add, ne_eq, not_false_eq_true, and_false, and_self, implies_true, List.map_cons, List.map_nil, List.nil_append, List.cons_append, List.append_nil, List.all_cons, List.all_nil, List.getD_cons_zero, List.length_cons, List.length_nil, List.take_succ_cons, List.take_nil, List.drop_zero, ex_clo, or_self, tab23, tab30, hN, pe, encP, isPs_nil, toPs_nil, isPs_cons, toPs_cons, lk_impl_Cross_impl_allValid, sp_impl_allValid, h1, h2, h3, hv, List.all_cons, List.all_nil]
      | true =>
        have s3 := okP_sm h3
        rw [h1, h2, h3] at hv
        simp only [V_seq, V_skip, V_ret, V_region, V_cond, brW_false, W_nil, W_cons, effOp2, KN_seq, KXr_nil, QE, asB, effOp, effPure, effNew, effBox, effBuildSlice, effFrz, frz, tmpsOf, effCall, giveUp, hasAll, Option.isSome_some, skipE, pureV, partV, loadV, solid, IV.cells, ofC, strip, lkT, lkH, ISt.app, opI, gO, gB, allB, gval, wrapG, dstOK, setD, mentTm, mentHp, IV.ment, IV.mentL, partsL, eltsI, eltI, oneI, noId', lendV, lendP, lent, lentP, idsV, idsL, lkHS, flat, clean, callArgs, callFn, allLent, enumT, Gives, Ideal.Fin, conv, conv0, Op.operands, reduceIte, reduceCtorEq, cond_true, Bool.or_false, Bool.and_true, Bool.not_true, Nat.reduceAdd, Nat.reduceMul, Nat.reduceLT, Nat.reduceLeDiff, Nat.reduceEqDiff, Nat.reduceBEq, Nat.zero_add, ne_eq, not_false_eq_true, and_false, and_self, implies_true, List.map_cons, List.map_nil, List.nil_append, List.cons_append, List.append_nil, List.all_cons, List.all_nil, List.getD_cons_zero, List.length_cons, List.length_nil, List.take_succ_cons, List.take_nil, List.drop_zero, ex_clo, or_self, tab23, tab30, hN, pe, encP, isPs_nil, toPs_nil, isPs_cons, toPs_cons, lk_impl_Cross_impl_allValid, lk_impl_Cross_impl_turn, sp_impl_allValid, sp_impl_turn, h1, h2, h3, s1, s2, s3, hv, List.all_cons, List.all_nil]
def sp_impl_Cross : PSpec := ⟨fun xs => match xs with | [.agg [.num .i64 a1, .num .i64 a2], .agg [.num .i64 b1, .num .i64 b2], .agg [.num .i64 c1, .num .i64 c2]] => True | _ => False, fun xs => match xs with | [.agg [.num _ a1, .num _ a2], .agg [.num _ b1, .num _ b2], .agg [.num _ c1, .num _ c2]] => (fun (a : Pt) (b : Pt) (c : Pt) => .num .i64 (crI a b c)) (a1, a2) (b1, b2) (c1, c2) | _ => .junk, false⟩
theorem gk_impl_Cross : ∀ args, sp_impl_Cross.pre args → ICall Try.prog 12 args (sp_impl_Cross.val args) := by
  intro args h
  unfold sp_impl_Cross at h ⊢; simp only at h ⊢; split at h
  · exact c_impl_Cross (_, _) (_, _) (_, _)
  · exact h.elim
theorem en_impl_Cross : Enters Try.prog 12 := enters_of Try.func12 (by kernel_rfl) rfl

def g_spec_Cross : List (Nat × PSpec) := [(43, sp_spec_validPoint), (44, sp_spec_cross)]
theorem gok_spec_Cross : GOK Try.prog g_spec_Cross := gok_cons gk_spec_validPoint en_spec_validPoint (gok_cons gk_spec_cross en_spec_cross (gok0))
theorem lk_spec_Cross_spec_validPoint : lkG g_spec_Cross 43 = sp_spec_validPoint := rfl
theorem lk_spec_Cross_spec_cross : lkG g_spec_Cross 44 = sp_spec_cross := rfl
def h_spec_Cross : List (Nat × HSpec) := []
theorem hok_spec_Cross : HOK Try.prog h_spec_Cross := hok0
theorem c_spec_Cross (a : Pt) (b : Pt) (c : Pt)  : ICall Try.prog 13 [encP a, encP b, encP c] (.num .i64 (crI a b c)) := by
  refine icall_V (G := g_spec_Cross) (H := []) [] tabOK mixed gok_spec_Cross hok_spec_Cross Try.func13 rfl Try.ntmps13 Try.results13 rfl (by kernel_rfl) fun F hN hlen => ?_
  have hv : crI a b c = bif okP a && (okP b && okP c) then turn a b c else 0 := rfl
  cases h1 : okP a with
  | false =>
    rw [h1] at hv
    simp only [V_seq, V_ret, V_region, V_cond, brW_true, W_nil, W_cons, effOp2, KN_seq, KXr_nil, KXr_seq, QE, asB, effOp, effPure, effPick, effNew, effBox, effCall, giveUp, hasAll, skipE, pureV, pickV, partV, loadV, solid, IV.cells, ofC, strip, lkT, lkH, ISt.app, opI, gO, gB, allB, gval, wrapG, dstOK, setD, mentTm, mentHp, IV.ment, IV.mentL, oneI, lendV, lendP, lent, lentP, idsV, idsL, lkHS, flat, clean, callArgs, callFn, allLent, enumT, Gives, Ideal.Fin, conv, conv0, Op.operands, reduceIte, reduceCtorEq, cond_true, cond_false, Bool.or_false, Bool.or_true, Bool.and_true, Bool.false_and, Bool.not_true, Bool.not_false, Nat.reduceAdd, Nat.reduceLT, Nat.reduceLeDiff, Nat.reduceEqDiff, Nat.reduceBEq, Nat.zero_add, and_true, and_false, and_self, false_implies, implies_true, List.map_cons, List.map_nil, List.nil_append, List.cons_append, List.append_nil, List.all_cons, List.all_nil, Option.bind_some, List.getElem?_cons_zero, List.getElem?_cons_succ, List.getD_cons_zero, List.length_cons, List.length_nil, List.take_succ_cons, List.take_nil, List.drop_zero, ex_clo, btf, or_self, Bool.true_eq_false, Bool.false_eq_true, tab30, hN, pe, encP, lk_spec_Cross_spec_validPoint, sp_spec_validPoint, h1, hv]
  | true =>
    have s1 := okP_sm h1
    cases h2 : okP b with
    | false =>
      rw [h1, h2] at hv
      simp only [V_seq, V_ret, V_region, V_cond, brW_true, W_nil, W_cons, effOp2, KN_seq, KXr_nil, KXr_seq, QE, asB, effOp, effPure, effPick, effNew, effBox, effCall, giveUp, hasAll, skipE, pureV, pickV, partV, loadV, solid, IV.cells, ofC, strip, lkT, lkH, ISt.app, opI, gO, gB, allB, gval, wrapG, dstOK, setD, mentTm, mentHp, IV.ment, IV.mentL, oneI, lendV, lendP, lent, lentP, idsV, idsL, lkHS, flat, clean, callArgs, callFn, allLent, enumT, Gives, Ideal.Fin, conv, conv0, Op.operands, reduceIte, reduceCtorEq, cond_true, cond_false, Bool.or_false, Bool.or_true, Bool.and_true, Bool.and_false, Bool.false_and, Bool.not_true, Bool.not_false, Nat.reduceAdd, Nat.reduceLT, Nat.reduceLeDiff, Nat.reduceEqDiff, Nat.reduceBEq, Nat.zero_add, beq_self_eq_true, and_true, and_false, and_self, false_implies, implies_true, List.map_cons, List.map_nil, List.nil_append, List.cons_append, List.append_nil, List.all_cons, List.all_nil, Option.bind_some, List.getElem?_cons_zero, List.getElem?_cons_succ, List.getD_cons_zero, List.length_cons, List.length_nil, List.take_succ_cons, List.take_nil, List.drop_zero, ex_clo, btf, or_self, Bool.true_eq_false, Bool.false_eq_true, tab30, hN, pe, encP, lk_spec_Cross_spec_validPoint, sp_spec_validPoint, h1, h2, hv]
    | true =>
      have s2 := okP_sm h2
      cases h3 : okP c with
      | false =>
        rw [h1, h2, h3] at hv
        simp only [V_seq, V_ret, V_region, V_cond, brW_true, W_nil, W_cons, effOp2, KN_seq, KXr_nil, KXr_seq, QE, asB, effOp, effPure, effPick, effNew, effBox, effCall, giveUp, hasAll, skipE, pureV, pickV, partV, loadV, solid, IV.cells, ofC, strip, lkT, lkH, ISt.app, opI, gO, gB, allB, gval, wrapG, dstOK, setD, mentTm, mentHp, IV.ment, IV.mentL, oneI, lendV, lendP, lent, lentP, idsV, idsL, lkHS, flat, clean, callArgs, callFn, allLent, enumT, Gives, Ideal.Fin, conv, conv0, Op.operands, reduceIte, reduceCtorEq, cond_true, cond_false, Bool.or_false, Bool.and_true, Bool.and_false, Bool.not_true, Bool.not_false, Nat.reduceAdd, Nat.reduceLT, Nat.reduceLeDiff, Nat.reduceEqDiff, Nat.reduceBEq, Nat.zero_add, beq_self_eq_true, and_false, and_self, implies_true, List.map_cons, List.map_nil, List.nil_append, List.cons_append, List.append_nil, List.all_cons, List.all_nil, Option.bind_some, List.getElem?_cons_zero, List.getElem?_cons_succ, List.getD_cons_zero, List.length_cons, List.length_nil, List.take_succ_cons, List.take_nil, List.drop_zero, ex_clo, or_self, Bool.false_eq_true, tab30, hN, pe, encP, lk_spec_Cross_spec_validPoint, sp_spec_validPoint, h1, h2, h3, hv]
      | true =>
        have s3 := okP_sm h3
        rw [h1, h2, h3] at hv
        simp only [V_seq, V_skip, V_ret, V_region, V_cond, brW_false, W_nil, W_cons, effOp2, KN_seq, KXr_nil, QE, asB, effOp, effPure, effPick, effNew, effBox, effCall, giveUp, hasAll, skipE, pureV, pickV, partV, loadV, solid, IV.cells, ofC, strip, lkT, lkH, ISt.app, opI, gO, gB, allB, gval, wrapG, dstOK, setD, mentTm, mentHp, IV.ment, IV.mentL, oneI, lendV, lendP, lent, lentP, idsV, idsL, lkHS, flat, clean, callArgs, callFn, allLent, enumT, Gives, Ideal.Fin, conv, conv0, Op.operands, reduceIte, reduceCtorEq, cond_true, cond_false, Bool.or_false, Bool.and_true, Bool.not_true, Nat.reduceAdd, Nat.reduceLT, Nat.reduceLeDiff, Nat.reduceEqDiff, Nat.reduceBEq, Nat.zero_add, beq_self_eq_true, and_false, and_self, implies_true, List.map_cons, List.map_nil, List.nil_append, List.cons_append, List.append_nil, List.all_cons, List.all_nil, Option.bind_some, List.getElem?_cons_zero, List.getElem?_cons_succ, List.getD_cons_zero, List.length_cons, List.length_nil, List.take_succ_cons, List.take_nil, List.drop_zero, ex_clo, or_self, Bool.false_eq_true, tab30, hN, pe, encP, lk_spec_Cross_spec_validPoint, lk_spec_Cross_spec_cross, sp_spec_validPoint, sp_spec_cross, h1, h2, h3, s1, s2, s3, hv]
def sp_spec_Cross : PSpec := ⟨fun xs => match xs with | [.agg [.num .i64 a1, .num .i64 a2], .agg [.num .i64 b1, .num .i64 b2], .agg [.num .i64 c1, .num .i64 c2]] => True | _ => False, fun xs => match xs with | [.agg [.num _ a1, .num _ a2], .agg [.num _ b1, .num _ b2], .agg [.num _ c1, .num _ c2]] => (fun (a : Pt) (b : Pt) (c : Pt) => .num .i64 (crI a b c)) (a1, a2) (b1, b2) (c1, c2) | _ => .junk, false⟩
theorem gk_spec_Cross : ∀ args, sp_spec_Cross.pre args → ICall Try.prog 13 args (sp_spec_Cross.val args) := by
  intro args h
  unfold sp_spec_Cross at h ⊢; simp only at h ⊢; split at h
  · exact c_spec_Cross (_, _) (_, _) (_, _)
  · exact h.elim
theorem en_spec_Cross : Enters Try.prog 13 := enters_of Try.func13 (by kernel_rfl) rfl


/-- The three points that a code draws. -/
def d3A (b : List Int) : Pt := (aPoint (b.take 2000) 0).1
def d3B (b : List Int) : Pt := (aPoint (b.take 2000) (aPoint (b.take 2000) 0).2).1
def d3C (b : List Int) : Pt := (aPoint (b.take 2000) (aPoint (b.take 2000) (aPoint (b.take 2000) 0).2).2).1
theorem aPoint_pos (b : List Int) (p : Nat) : (aPoint b p).2 ≤ p + 4 := by
  unfold aPoint; split
  · simp
  · split <;> simp
def g_spec_threePoints : List (Nat × PSpec) := []
theorem gok_spec_threePoints : GOK Try.prog g_spec_threePoints := gok0
def h_spec_threePoints : List (Nat × HSpec) := [(29, hs_spec_newReader), (70, hs_spec_anyPoint)]
theorem hok_spec_threePoints : HOK Try.prog h_spec_threePoints := hok_cons hk_spec_newReader en_spec_newReader (hok_cons hk_spec_anyPoint en_spec_anyPoint (hok0))
theorem lh_spec_threePoints_spec_newReader : lkHS h_spec_threePoints 29 = some hs_spec_newReader := rfl
theorem lh_spec_threePoints_spec_anyPoint : lkHS h_spec_threePoints 70 = some hs_spec_anyPoint := rfl
theorem c_spec_threePoints (b : List Int) (hb : ∀ x ∈ b, 0 ≤ x ∧ x < 256) (hsz : b.length ≤ 1048576) : ICall Try.prog 42 [.sl 1 (encBy b)] (.tup [encP (d3A b), encP (d3B b), encP (d3C b)]) := by
  refine icall_of_hcall (v := .tup [encP (d3A b), encP (d3B b), encP (d3C b)]) (hp' := []) id ?_ (by simp [SLe0, convTm, convHp, conv, convL, conv0, lkT, clean, encP]) (by simp [idsV, idsL, encP])
  refine hcall_V (G := g_spec_threePoints) (H := h_spec_threePoints) [(4, [(0, 3), (1, 3), (1, 4), (2, 4), (2, 5), (3, 5)])] tabOK mixed gok_spec_threePoints hok_spec_threePoints Try.func42 rfl Try.ntmps42 Try.results42 rfl (by kernel_rfl) fun F hN hlen => ?_
  have hbt := bytes_take hb
  have p1 := aPoint_pos (b.take 2000) 0
  have p2 := aPoint_pos (b.take 2000) (aPoint (b.take 2000) 0).2
  have q0 : (0 : Nat) ≤ 800000 := by omega
  have q1 : (aPoint (b.take 2000) 0).2 ≤ 800000 := by omega
  have q2 : (aPoint (b.take 2000) (aPoint (b.take 2000) 0).2).2 ≤ 800000 := by omega
  have eA : (aPoint (b.take 2000) 0).1 = d3A b := rfl
  have eB : (aPoint (b.take 2000) (aPoint (b.take 2000) 0).2).1 = d3B b := rfl
  have eC : (aPoint (b.take 2000) (aPoint (b.take 2000) (aPoint (b.take 2000) 0).2).2).1 = d3C b := rfl
  simp only [V_seq, V_ret, V_region, V_draw, drawW, WS_nil, pairsOf, W_nil, W_cons, effOp2, effOp3, WI_nil, WI_cons, KN_seq, KXr_nil, QE, dynOK, indB, farB, seeB, see, isStore, freshB, freshK, freshK1, ownId, heapy, effOp, effPure, effNew, effAlloc, effStore, Option.isSome_some, skipE, badE, pureV, storeV, partV, loadV, over, solid, IV.cells, strip, lkT, lkH, ISt.app, opI, gO, gB, allB, gval, wrapG, dstOK, setD, mentTm, mentHp, IV.ment, IV.mentL, oneI, lendV, lendP, lent, lentP, idsV, idsL, clean, callArgs, callFn, enumT, conv, conv0, convL, IBlk.shape, Op.operands, Call.operands, List.append_toArray, reduceIte, reduceCtorEq, cond_true, cond_false, Bool.or_false, Bool.or_true, Bool.and_true, Bool.and_false, Bool.and_eq_true, Bool.not_false, Nat.reduceAdd, Nat.reduceSub, Nat.reduceMul, Nat.reduceLT, Nat.reduceLeDiff, Nat.reduceEqDiff, Nat.reduceBEq, Nat.add_zero, Nat.zero_add, not_false_eq_true, beq_self_eq_true, true_and, and_true, and_false, and_self, implies_true, List.map_cons, List.map_nil, List.nil_append, List.cons_append, List.append_nil, List.all_cons, List.all_nil, Option.map_some, Option.map_none, List.getD_cons_zero, List.getD_cons_succ, List.length_cons, List.length_nil, List.take_succ_cons, List.take_zero, List.take_nil, List.drop_succ_cons, List.drop_zero, List.drop_nil, ex_clo, Bool.true_eq_false, Bool.false_eq_true, tab30, hN, Int.toNat_natCast, encP, isBy_enc, toBy_enc, FinH, resA, resL, resV, SLe, SLe0, convTm, convHp, convB, sm, effH, effHs, keysIn, mkHC0, mkHC1, lendM, lentM, lentI, allHere, addIds, idsB, flatIds, reach, posn, renV, renL, renB, renH, numB, subHp, fwd, bk, bwd, nones, keyOK, noSl, noSlL, flatBs, List.contains, List.elem, Option.isSome_some, List.nodup_nil, List.nodup_cons, List.not_mem_nil, or_false, Option.getD_some, lh_spec_threePoints_spec_newReader, lh_spec_threePoints_spec_anyPoint, hs_spec_newReader, hs_spec_anyPoint, rdr, hsz, hbt, q0, q1, q2, eA, eB, eC]
  exact ⟨id, fun _ _ _ => rfl⟩
def sp_spec_threePoints : PSpec := ⟨fun xs => match xs with | [.sl 1 bes] => isBy bes ∧ ((fun (b : List Int) => ∀ x ∈ b, 0 ≤ x ∧ x < 256) (toIs bes)) ∧ ((fun (b : List Int) => b.length ≤ 1048576) (toIs bes)) | _ => False, fun xs => match xs with | [.sl _ bes] => (fun (b : List Int) => .tup [encP (d3A b), encP (d3B b), encP (d3C b)]) (toIs bes) | _ => .junk, false⟩
theorem gk_spec_threePoints : ∀ args, sp_spec_threePoints.pre args → ICall Try.prog 42 args (sp_spec_threePoints.val args) := by
  intro args h
  unfold sp_spec_threePoints at h ⊢; simp only at h ⊢; split at h
  · obtain ⟨h0, h1, h2⟩ := h
    obtain ⟨l0, rfl⟩ := isBy_ex h0
    simp only [toBy_enc] at *
    exact c_spec_threePoints _ h1 h2
  · exact h.elim
theorem en_spec_threePoints : Enters Try.prog 42 := enters_of Try.func42 (by kernel_rfl) rfl

def g_spec_DrawCross : List (Nat × PSpec) := [(42, sp_spec_threePoints)]
theorem gok_spec_DrawCross : GOK Try.prog g_spec_DrawCross := gok_cons gk_spec_threePoints en_spec_threePoints (gok0)
theorem lk_spec_DrawCross_spec_threePoints : lkG g_spec_DrawCross 42 = sp_spec_threePoints := rfl
def h_spec_DrawCross : List (Nat × HSpec) := []
theorem hok_spec_DrawCross : HOK Try.prog h_spec_DrawCross := hok0
theorem c_spec_DrawCross (b : List Int) (hb : ∀ x ∈ b, 0 ≤ x ∧ x < 256) (hsz : b.length ≤ 1048576) : ICall Try.prog 11 [.sl 1 (encBy b)] (.tup [encP (d3A b), encP (d3B b), encP (d3C b)]) := by
  refine icall_of_hcall (v := .tup [encP (d3A b), encP (d3B b), encP (d3C b)]) (hp' := []) id ?_ (by simp [SLe0, convTm, convHp, conv, convL, conv0, lkT, clean, encP]) (by simp [idsV, idsL, encP])
  refine hcall_V (G := g_spec_DrawCross) (H := []) [] tabOK mixed gok_spec_DrawCross hok_spec_DrawCross Try.func11 rfl Try.ntmps11 Try.results11 rfl (by kernel_rfl) fun F hN hlen => ?_
  simp only [V_seq, V_ret, V_region, W_nil, W_cons, effOp2, KN_seq, KXr_nil, QE, effOp, effPure, effNew, effAlloc, effStore, effCall, giveUp, hasAll, skipE, pureV, storeV, partV, loadV, over, solid, IV.cells, strip, lkT, lkH, ISt.app, opI, gO, gB, allB, gval, wrapG, dstOK, setD, mentTm, mentHp, IV.ment, IV.mentL, oneI, lendV, lendP, lent, lentP, idsV, idsL, lkHS, flat, flatL, clean, cleanL, callArgs, callFn, allLent, enumT, conv, conv0, convL, Op.operands, reduceIte, reduceCtorEq, cond_true, Bool.or_false, Bool.and_true, Bool.not_true, Nat.reduceAdd, Nat.reduceLT, Nat.reduceLeDiff, Nat.reduceEqDiff, Nat.reduceBEq, Nat.zero_add, true_and, and_true, and_false, and_self, implies_true, forall_const, List.map_cons, List.map_nil, List.nil_append, List.cons_append, List.append_nil, List.all_cons, List.all_nil, List.getD_cons_zero, List.getD_cons_succ, List.length_cons, List.length_nil, List.take_succ_cons, List.take_zero, List.take_nil, List.drop_succ_cons, List.drop_zero, List.drop_nil, ex_clo, or_self, tab30, hN, encP, isBy_enc, toBy_enc, FinH, resA, resL, resV, SLe, SLe0, convTm, convHp, lk_spec_DrawCross_spec_threePoints, sp_spec_threePoints, hsz]
  exact ⟨hb, id, List.nodup_nil, fun _ _ _ => rfl⟩
def sp_spec_DrawCross : PSpec := ⟨fun xs => match xs with | [.sl 1 bes] => isBy bes ∧ ((fun (b : List Int) => ∀ x ∈ b, 0 ≤ x ∧ x < 256) (toIs bes)) ∧ ((fun (b : List Int) => b.length ≤ 1048576) (toIs bes)) | _ => False, fun xs => match xs with | [.sl _ bes] => (fun (b : List Int) => .tup [encP (d3A b), encP (d3B b), encP (d3C b)]) (toIs bes) | _ => .junk, false⟩
theorem gk_spec_DrawCross : ∀ args, sp_spec_DrawCross.pre args → ICall Try.prog 11 args (sp_spec_DrawCross.val args) := by
  intro args h
  unfold sp_spec_DrawCross at h ⊢; simp only at h ⊢; split at h
  · obtain ⟨h0, h1, h2⟩ := h
    obtain ⟨l0, rfl⟩ := isBy_ex h0
    simp only [toBy_enc] at *
    exact c_spec_DrawCross _ h1 h2
  · exact h.elim
theorem en_spec_DrawCross : Enters Try.prog 11 := enters_of Try.func11 (by kernel_rfl) rfl


theorem cr_facts {a b c : Pt} (h : crI a b c ≠ 0) : okP a = true ∧ okP b = true ∧ okP c = true ∧ crI a b c = turn a b c ∧ turn a b c ≠ 0 := by
  unfold crI at h ⊢
  cases h1 : okP a <;> cases h2 : okP b <;> cases h3 : okP c <;> simp_all
end Go.Proofs.Ytbbmeabfmjkldaa
