/- Contracts: what the exact laws do with lists of triangles: sizes, copies, equality. -/
import Derived.Test.YtbbmeabfmjkldaaBX
set_option linter.unusedVariables false
set_option linter.unusedSimpArgs false
namespace Go.Proofs.Ytbbmeabfmjkldaa
open Go Go.Ideal Go.Pl

theorem encTs_set (l : List Tr) (m : Nat) (p : Tr) : (encTs l).set m (.agg [.num .i64 p.1, .num .i64 p.2.1, .num .i64 p.2.2]) = encTs (l.set m p) := by
  show (l.map encT).set m (encT p) = (l.set m p).map encT
  rw [List.map_set]
def szTriangleV (l : List Tr) (left : Int) : Int := if left < (l.length : Int) then -1 else left - (l.length : Int)
def g_laws_eqTriangle : List (Nat × PSpec) := []
theorem gok_laws_eqTriangle : GOK Try.prog g_laws_eqTriangle := gok0
def h_laws_eqTriangle : List (Nat × HSpec) := []
theorem hok_laws_eqTriangle : HOK Try.prog h_laws_eqTriangle := hok0
theorem c_laws_eqTriangle (p : Tr) (q : Tr)  : ICall Try.prog 53 [encT p, encT q] (.bool (p == q)) := by
  refine icall_V (G := g_laws_eqTriangle) (H := []) [] tabOK mixed gok_laws_eqTriangle hok_laws_eqTriangle Try.func53 rfl Try.ntmps53 Try.results53 rfl (by kernel_rfl) fun F hN hlen => ?_
  obtain ⟨p1, p2, p3⟩ := p
  obtain ⟨q1, q2, q3⟩ := q
  by_cases c1 : p1 = q1
  · have d1 : (p1 != q1) = false := by simpa using c1
    by_cases c2 : p2 = q2
    · have d2 : (p2 != q2) = false := by simpa using c2
      by_cases c3 : p3 = q3
      · have d3 : (p3 != q3) = false := by simpa using c3
        simp only [V_seq, V_skip, V_ret, V_region, V_cond, brW_false, W_nil, W_cons, effOp2, KN_seq, KXr_nil, QE, asB, effOp, effPure, effNew, effBox, skipE, pureV, binV, partV, loadV, faddrV, solid, IV.cells, ofC, strip, lkT, lkH, ISt.app, opI, gO, gB, allB, gval, wrapG, dstOK, setD, mentTm, mentHp, IV.ment, IV.mentL, oneI, clean, enumT, Gives, Ideal.Fin, conv, conv0, IBlk.shape, Op.operands, reduceIte, reduceCtorEq, cond_true, Bool.or_false, Bool.and_true, Nat.reduceAdd, Nat.reduceLT, Nat.reduceLeDiff, Nat.reduceEqDiff, Nat.reduceBEq, Nat.add_zero, Nat.zero_add, true_and, and_true, and_self, implies_true, List.nil_append, List.cons_append, List.append_nil, List.all_cons, List.all_nil, Option.map_some, List.getD_cons_zero, List.getD_cons_succ, List.length_cons, List.length_nil, List.take_succ_cons, List.take_zero, List.take_nil, List.drop_succ_cons, List.drop_zero, tab3, tab32, hN, encT, d1, d2, d3]
        simp [c1, c2, c3]
      · have d3 : (p3 != q3) = true := by simpa using c3
        simp only [V_seq, V_skip, V_ret, V_region, V_cond, brW_true, brW_false, W_nil, W_cons, effOp2, KN_seq, KXr_nil, KXr_seq, QE, asB, effOp, effPure, effNew, effBox, skipE, pureV, binV, partV, loadV, faddrV, solid, IV.cells, ofC, strip, lkT, lkH, ISt.app, opI, gO, gB, allB, gval, wrapG, dstOK, setD, mentTm, mentHp, IV.ment, IV.mentL, oneI, clean, enumT, Gives, Ideal.Fin, conv, conv0, IBlk.shape, Op.operands, reduceIte, reduceCtorEq, cond_true, Bool.or_false, Bool.and_true, Nat.reduceAdd, Nat.reduceLT, Nat.reduceLeDiff, Nat.reduceEqDiff, Nat.reduceBEq, Nat.add_zero, Nat.zero_add, true_and, and_true, and_self, implies_true, List.nil_append, List.cons_append, List.append_nil, List.all_cons, List.all_nil, Option.map_some, List.getD_cons_zero, List.getD_cons_succ, List.length_cons, List.length_nil, List.take_succ_cons, List.take_zero, List.take_nil, List.drop_succ_cons, List.drop_zero, tab3, tab32, hN, encT, d1, d2, d3]
        simp [c3]
    · have d2 : (p2 != q2) = true := by simpa using c2
      simp only [V_seq, V_skip, V_ret, V_region, V_cond, brW_true, brW_false, W_nil, W_cons, effOp2, KN_seq, KXr_nil, KXr_seq, QE, asB, effOp, effPure, effNew, effBox, skipE, pureV, binV, partV, loadV, faddrV, solid, IV.cells, ofC, strip, lkT, lkH, ISt.app, opI, gO, gB, allB, gval, wrapG, dstOK, setD, mentTm, mentHp, IV.ment, IV.mentL, oneI, clean, enumT, Gives, Ideal.Fin, conv, conv0, IBlk.shape, Op.operands, reduceIte, reduceCtorEq, cond_true, Bool.or_false, Bool.and_true, Nat.reduceAdd, Nat.reduceLT, Nat.reduceLeDiff, Nat.reduceEqDiff, Nat.reduceBEq, Nat.add_zero, Nat.zero_add, true_and, and_true, and_self, implies_true, List.nil_append, List.cons_append, List.append_nil, List.all_cons, List.all_nil, Option.map_some, List.getD_cons_zero, List.getD_cons_succ, List.length_cons, List.length_nil, List.take_succ_cons, List.take_zero, List.drop_succ_cons, List.drop_zero, tab3, tab32, hN, encT, d1, d2]
      simp [c2]
  · have d1 : (p1 != q1) = true := by simpa using c1
    simp only [V_seq, V_ret, V_region, V_cond, brW_true, W_nil, W_cons, effOp2, KN_seq, KXr_nil, KXr_seq, QE, asB, effOp, effPure, effNew, effBox, skipE, pureV, binV, partV, loadV, faddrV, solid, IV.cells, ofC, strip, lkT, lkH, ISt.app, opI, gO, gB, allB, gval, wrapG, dstOK, setD, mentTm, mentHp, IV.ment, IV.mentL, oneI, clean, enumT, Gives, Ideal.Fin, conv, conv0, IBlk.shape, Op.operands, reduceIte, reduceCtorEq, cond_true, Bool.or_false, Bool.and_true, Nat.reduceAdd, Nat.reduceLT, Nat.reduceLeDiff, Nat.reduceEqDiff, Nat.reduceBEq, Nat.add_zero, Nat.zero_add, true_and, and_true, and_self, implies_true, List.nil_append, List.cons_append, List.append_nil, List.all_cons, List.all_nil, Option.map_some, List.getD_cons_zero, List.length_cons, List.length_nil, List.take_succ_cons, List.take_zero, List.drop_zero, tab3, tab32, hN, encT, d1]
    simp [c1]
def sp_laws_eqTriangle : PSpec := ⟨fun xs => match xs with | [.agg [.num .i64 p1, .num .i64 p2, .num .i64 p3], .agg [.num .i64 q1, .num .i64 q2, .num .i64 q3]] => True | _ => False, fun xs => match xs with | [.agg [.num _ p1, .num _ p2, .num _ p3], .agg [.num _ q1, .num _ q2, .num _ q3]] => (fun (p : Tr) (q : Tr) => .bool (p == q)) (p1, p2, p3) (q1, q2, q3) | _ => .junk, false⟩
theorem gk_laws_eqTriangle : ∀ args, sp_laws_eqTriangle.pre args → ICall Try.prog 53 args (sp_laws_eqTriangle.val args) := by
  intro args h
  unfold sp_laws_eqTriangle at h ⊢; simp only at h ⊢; split at h
  · exact c_laws_eqTriangle (_, _, _) (_, _, _)
  · exact h.elim
theorem en_laws_eqTriangle : Enters Try.prog 53 := enters_of Try.func53 (by kernel_rfl) rfl

def g_laws_eqTriangleS : List (Nat × PSpec) := [(53, sp_laws_eqTriangle)]
theorem gok_laws_eqTriangleS : GOK Try.prog g_laws_eqTriangleS := gok_cons gk_laws_eqTriangle en_laws_eqTriangle (gok0)
theorem lk_laws_eqTriangleS_laws_eqTriangle : lkG g_laws_eqTriangleS 53 = sp_laws_eqTriangle := rfl
def h_laws_eqTriangleS : List (Nat × HSpec) := []
theorem hok_laws_eqTriangleS : HOK Try.prog h_laws_eqTriangleS := hok0
theorem c_laws_eqTriangleS (a : List Tr) (b : List Tr)  : ICall Try.prog 21 [.sl 3 (encTs a), .sl 3 (encTs b)] (.bool (a == b)) := by
  refine icall_V (G := g_laws_eqTriangleS) (H := []) [(6, [(0, 8), (1, 8), (2, 8), (4, 8), (5, 8), (6, 8)])] tabOK mixed gok_laws_eqTriangleS hok_laws_eqTriangleS Try.func21 rfl Try.ntmps21 Try.results21 rfl (by kernel_rfl) fun F hN hlen => ?_
  have la := hlen 0 3 _ rfl
  have lb := hlen 1 3 _ rfl
  have ea := len_encTs a
  have eb := len_encTs b
  rw [ea] at la
  rw [eb] at lb
  simp only [V_seq, V_region, V_cond, W_nil, W_cons, effOp2, KN_seq, asB, effOp, effPure, pureV, binV, lenV, ofC, strip, lkT, ISt.app, opI, gO, gB, allB, gval, wrapG, dstOK, setD, enumT, Op.operands, Call.operands, List.append_toArray, reduceIte, reduceCtorEq, Nat.reduceLT, Nat.reduceEqDiff, Nat.zero_add, ne_eq, not_false_eq_true, true_and, and_self, implies_true, List.nil_append, List.cons_append, List.append_nil, tab24, hN, ea, eb]
  refine brW_some (fun h => ?_) (fun h => ?_)
  · simp only [V_seq, V_ret, V_region, W_nil, W_cons, effOp2, KN_seq, KXr_nil, KXr_seq, QE, effOp, effPure, pureV, ofC, strip, lkT, lkH, ISt.app, opI, gO, gB, allB, gval, wrapG, dstOK, setD, clean, Gives, Ideal.Fin, conv, conv0, Op.operands, reduceIte, reduceCtorEq, Nat.reduceLT, Nat.reduceEqDiff, true_and, and_true, and_self, implies_true, List.nil_append, List.cons_append, List.append_nil, hN]
    have : a ≠ b := by rintro rfl; simp at h
    simp [this]
  · simp only [V_seq, V_skip, V_block, V_region, W_nil, W_cons, effOp2, KN_seq, effOp, effPure, pureV, ofC, strip, ISt.app, opI, gO, gB, allB, gval, wrapG, dstOK, setD, Op.operands, Nat.reduceLT, true_and, and_self, implies_true, List.nil_append, List.cons_append, List.append_nil, hN]
    have hab : a.length = b.length := by simp at h; omega
    refine V_loop (α := Nat) ⟨tabOK, mixed, gok_laws_eqTriangleS, hok_laws_eqTriangleS⟩ (by kernel_rfl) (fun i => i ≤ a.length ∧ ∀ j, j < i → tAt a j = tAt b j) (fun i => ⟨[(5, .num .i64 i), (0, .sl 3 (encTs a)), (1, .sl 3 (encTs b))], []⟩) (fun i => a.length - i) 0 id (by simp) (by simp [SLe, SLe0, convTm, convHp, conv, conv0, lkT, lkH, clean]) ?_
    rintro i ⟨hi, hj⟩
    simp only [V_seq, V_region, V_cond, W_nil, W_cons, effOp2, KN_seq, asB, effOp, effPure, pureV, binV, lenV, strip, lkT, ISt.app, opI, gO, gB, allB, gval, wrapG, dstOK, setD, Op.operands, Call.operands, List.append_toArray, reduceIte, reduceCtorEq, Nat.reduceLT, Nat.reduceEqDiff, ne_eq, not_false_eq_true, true_and, and_self, implies_true, List.nil_append, List.cons_append, List.append_nil, tab24, hN, ea]
    refine brW_some (fun h => ?_) (fun h => ?_)
    · have hi' : i < a.length := by simpa using h
      have g1 := getD_encTs hi'
      have g2 := getD_encTs (hab ▸ hi' : i < b.length)
      have hw := wr_succ hi' la
      simp only [V_seq, V_skip, V_block, V_draw, V_cond, drawW, WS_nil, pairsOf, W_nil, W_cons, effOp2, effOp3, WI_nil, WI_cons, KN_seq, dynOK, indB, farB, freshB, freshK, freshK1, heapy, asB, effOp, effPure, effCall, giveUp, hasAll, pureV, partV, eltV, loadV, iaddrV, strip, lkT, lkH, ISt.app, opI, gO, gB, allB, gval, wrapG, dstOK, setD, mentTm, mentHp, IV.ment, lendV, lendP, lent, lentP, idsV, idsL, lkHS, flat, clean, callArgs, callFn, allLent, Op.operands, Call.operands, List.append_toArray, reduceIte, reduceCtorEq, cond_true, cond_false, Bool.or_false, Bool.and_true, Bool.and_eq_true, Bool.not_true, Bool.not_false, Nat.reduceAdd, Nat.reduceLT, Nat.reduceLeDiff, Nat.reduceEqDiff, Nat.reduceBEq, Nat.zero_add, ne_eq, not_false_eq_true, true_and, and_true, and_false, and_self, implies_true, forall_const, List.map_cons, List.map_nil, List.nil_append, List.cons_append, List.append_nil, List.getD_cons_zero, List.getD_cons_succ, List.length_cons, List.length_nil, List.take_succ_cons, List.take_zero, List.take_nil, List.drop_zero, ex_clo, or_self, tab24, tab32, hN, pe, Int.toNat_natCast, lk_laws_eqTriangleS_laws_eqTriangle, sp_laws_eqTriangle, ea, eb, Int.toNat_natCast, g1, g2]
      repeat refine And.intro (by omega) ?_
      refine brW_some (fun h => ?_) (fun h => ?_)
      · simp only [V_seq, V_ret, V_region, W_nil, W_cons, effOp2, KN_seq, KXr_nil, KXr_seq, KXr_block, KXr_back, QE, effOp, effPure, pureV, ofC, strip, lkT, lkH, ISt.app, opI, gO, gB, allB, gval, wrapG, dstOK, setD, clean, Gives, Ideal.Fin, conv, conv0, Op.operands, reduceIte, reduceCtorEq, Nat.reduceLT, Nat.reduceEqDiff, true_and, and_true, and_self, implies_true, List.nil_append, List.cons_append, List.append_nil, hN]
        have : a ≠ b := by rintro rfl; simp at h
        simp [this]
      · simp only [V_skip, V_region, W_nil, W_cons, effOp2, KN_seq, KN_block, KN_back, effOp, effPure, pureV, binV, ofC, strip, lkT, ISt.app, opI, gO, gB, allB, gval, wrapG, dstOK, setD, Op.operands, reduceIte, reduceCtorEq, Nat.reduceLT, Nat.reduceEqDiff, true_and, and_self, implies_true, List.nil_append, List.cons_append, List.append_nil, hN, hw]
        refine ⟨i + 1, id, ⟨by omega, ?_⟩, by simp only []; omega, by simp [SLe, SLe0, convTm, convHp, conv, conv0, lkT, lkH, clean]⟩
        intro j hj'
        rcases Nat.lt_succ_iff_lt_or_eq.1 hj' with h' | rfl
        · exact hj j h'
        · simpa using h
    · simp only [V_seq, V_ret, V_exit, V_region, W_nil, W_cons, effOp2, KN_seq, KXr_nil, KXe_nil, KXe_seq, KXe_block, KXe_back, QE, effOp, effPure, pureV, ofC, strip, lkT, lkH, ISt.app, opI, gO, gB, allB, gval, wrapG, dstOK, setD, clean, Gives, Ideal.Fin, conv, conv0, Op.operands, reduceIte, reduceCtorEq, Nat.reduceLT, Nat.reduceEqDiff, true_and, and_true, and_self, implies_true, List.nil_append, List.cons_append, List.append_nil, hN]
      have hie : i = a.length := by simp at h; omega
      have : a = b := eq_of_getD hab (fun j h' => hj j (by omega))
      simp [this]
def sp_laws_eqTriangleS : PSpec := ⟨fun xs => match xs with | [.sl 3 aes, .sl 3 bes] => isTs aes ∧ isTs bes | _ => False, fun xs => match xs with | [.sl _ aes, .sl _ bes] => (fun (a : List Tr) (b : List Tr) => .bool (a == b)) (toTs aes) (toTs bes) | _ => .junk, false⟩
theorem gk_laws_eqTriangleS : ∀ args, sp_laws_eqTriangleS.pre args → ICall Try.prog 21 args (sp_laws_eqTriangleS.val args) := by
  intro args h
  unfold sp_laws_eqTriangleS at h ⊢; simp only at h ⊢; split at h
  · obtain ⟨h0, h1⟩ := h
    obtain ⟨l0, rfl⟩ := isT_ex h0
    obtain ⟨l1, rfl⟩ := isT_ex h1
    simp only [toTs_enc] at *
    exact c_laws_eqTriangleS _ _ 
  · exact h.elim
theorem en_laws_eqTriangleS : Enters Try.prog 21 := enters_of Try.func21 (by kernel_rfl) rfl


end Go.Proofs.Ytbbmeabfmjkldaa
