/- The law on the diameter: the walk. -/
import Derived.Test.YtmcpjnaedgpenaaB13
import Derived.Test.YtmcpjnaedgpenaaPl5
set_option linter.unusedVariables false
set_option linter.unusedSimpArgs false
namespace Go.Proofs.Ytmcpjnaedgpenaa
open Go Go.Ideal Go.Pl Go.Sort

theorem sq_way (a b : Pt) : dotP (wayP b a) (wayP b a) = sqd a b := by unfold dotP wayP sqd; grind
def g_impl_far : List (Nat × PSpec) := [(119, sp_impl_Point_minus), (120, sp_impl_Point_dot)]
theorem gok_impl_far : GOK Try.prog g_impl_far := gok_cons gk_impl_Point_minus en_impl_Point_minus (gok_cons gk_impl_Point_dot en_impl_Point_dot (gok0))
theorem lk_impl_far_impl_Point_minus : lkG g_impl_far 119 = sp_impl_Point_minus := rfl
theorem lk_impl_far_impl_Point_dot : lkG g_impl_far 120 = sp_impl_Point_dot := rfl
def h_impl_far : List (Nat × HSpec) := []
theorem hok_impl_far : HOK Try.prog h_impl_far := hok0
theorem c_impl_far (a : Pt) (b : Pt) (ha : Sm a) (hb : Sm b) : ICall Try.prog 108 [encP a, encP b] (.num .i64 (sqd a b)) := by
  refine icall_V (G := g_impl_far) (H := []) [(1, [(2, 3), (2, 4), (0, 5), (1, 5), (0, 6), (1, 6), (3, 6), (4, 6)])] tabOK mixed gok_impl_far hok_impl_far Try.func108 rfl Try.ntmps108 Try.results108 rfl (by kernel_rfl) fun F hN hlen => ?_
  have hw := hb.way ha
  have g1 := sm_sub hb.1 ha.1
  have g2 := sm_sub hb.2 ha.2
  simp only [V_seq, V_ret, V_region, V_draw, drawW, WS_nil, WS_cons, pairsOf, W_nil, W_cons, effOp2, WI_nil, WI_cons, KN_seq, KXr_nil, QE, dynOK, indB, farB, freshB, heapy, effOp, effPure, effNew, effBox, effCall, giveUp, hasAll, skipE, pureV, partV, loadV, solid, IV.cells, ofC, strip, lkT, lkH, ISt.app, opI, gO, gB, allB, gval, wrapG, dstOK, setD, mentTm, mentHp, IV.ment, IV.mentL, oneI, lendV, lendP, lent, lentP, idsV, idsL, lkHS, flat, flatL, clean, cleanL, callArgs, callFn, allLent, enumT, Gives, Ideal.Fin, conv, conv0, Op.operands, Call.operands, List.append_toArray, reduceIte, reduceCtorEq, cond_true, cond_false, Bool.or_false, Bool.and_true, Bool.true_and, Bool.and_eq_true, Bool.not_true, Bool.not_false, Nat.reduceAdd, Nat.reduceLT, Nat.reduceLeDiff, Nat.reduceEqDiff, Nat.reduceBEq, Nat.zero_add, true_and, and_true, and_false, and_self, implies_true, forall_const, List.map_cons, List.map_nil, List.nil_append, List.cons_append, List.append_nil, List.all_cons, List.all_nil, List.getD_cons_zero, List.getD_cons_succ, List.length_cons, List.length_nil, List.take_succ_cons, List.take_zero, List.take_nil, List.drop_succ_cons, List.drop_zero, ex_clo, or_self, tab30, hN, pe, encP, lk_impl_far_impl_Point_minus, lk_impl_far_impl_Point_dot, sp_impl_Point_minus, sp_impl_Point_dot, hw, sq_way]
  omega
def sp_impl_far : PSpec := ⟨fun xs => match xs with | [.agg [.num .i64 a1, .num .i64 a2], .agg [.num .i64 b1, .num .i64 b2]] => ((fun (a : Pt) (b : Pt) => Sm a) (a1, a2) (b1, b2)) ∧ ((fun (a : Pt) (b : Pt) => Sm b) (a1, a2) (b1, b2)) | _ => False, fun xs => match xs with | [.agg [.num _ a1, .num _ a2], .agg [.num _ b1, .num _ b2]] => (fun (a : Pt) (b : Pt) => .num .i64 (sqd a b)) (a1, a2) (b1, b2) | _ => .junk, false⟩
theorem gk_impl_far : ∀ args, sp_impl_far.pre args → ICall Try.prog 108 args (sp_impl_far.val args) := by
  intro args h
  unfold sp_impl_far at h ⊢; simp only at h ⊢; split at h
  · obtain ⟨h0, h1⟩ := h
    simp only [toPs_enc] at *
    exact c_impl_far (_, _) (_, _) h0 h1
  · exact h.elim
theorem en_impl_far : Enters Try.prog 108 := enters_of Try.func108 (by kernel_rfl) rfl

def g_spec_square : List (Nat × PSpec) := []
theorem gok_spec_square : GOK Try.prog g_spec_square := gok0
def h_spec_square : List (Nat × HSpec) := []
theorem hok_spec_square : HOK Try.prog h_spec_square := hok0
theorem c_spec_square (a : Pt) (b : Pt) (ha : Sm a) (hb : Sm b) : ICall Try.prog 63 [encP a, encP b] (.num .i64 (sqd a b)) := by
  refine icall_V (G := g_spec_square) (H := []) [] tabOK mixed gok_spec_square hok_spec_square Try.func63 rfl Try.ntmps63 Try.results63 rfl (by kernel_rfl) fun F hN hlen => ?_
  have g1 := sm_sub ha.1 hb.1
  have g2 := sm_sub ha.2 hb.2
  have h1 := mulb g1 g1
  have h2 := mulb g2 g2
  have w1 : IntKind.i64.wrap (a.1 - b.1) = a.1 - b.1 := wr (by omega) (by omega)
  have w2 : IntKind.i64.wrap (a.2 - b.2) = a.2 - b.2 := wr (by omega) (by omega)
  have w3 : IntKind.i64.wrap ((a.1 - b.1) * (a.1 - b.1)) = (a.1 - b.1) * (a.1 - b.1) := wr (by omega) (by omega)
  have w4 : IntKind.i64.wrap ((a.2 - b.2) * (a.2 - b.2)) = (a.2 - b.2) * (a.2 - b.2) := wr (by omega) (by omega)
  have w5 : IntKind.i64.wrap ((a.1 - b.1) * (a.1 - b.1) + (a.2 - b.2) * (a.2 - b.2)) = sqd a b := wr (by omega) (by omega)
  simp only [V_seq, V_ret, V_region, W_nil, W_cons, effOp2, KN_seq, KXr_nil, QE, effOp, effPure, effNew, effBox, skipE, pureV, binV, partV, loadV, faddrV, solid, IV.cells, ofC, strip, lkT, lkH, ISt.app, opI, gO, gB, allB, gval, wrapG, dstOK, setD, mentTm, mentHp, IV.ment, IV.mentL, oneI, clean, enumT, Gives, Ideal.Fin, conv, conv0, IBlk.shape, Op.operands, reduceIte, reduceCtorEq, cond_true, Bool.or_false, Bool.and_true, Nat.reduceAdd, Nat.reduceLT, Nat.reduceLeDiff, Nat.reduceEqDiff, Nat.reduceBEq, Nat.add_zero, Nat.zero_add, and_self, implies_true, List.nil_append, List.cons_append, List.append_nil, List.all_cons, List.all_nil, Option.map_some, List.getD_cons_zero, List.getD_cons_succ, List.length_cons, List.length_nil, List.take_succ_cons, List.take_zero, List.take_nil, List.drop_succ_cons, List.drop_zero, tab3, tab30, hN, encP, w1, w2, w3, w4, w5]
def sp_spec_square : PSpec := ⟨fun xs => match xs with | [.agg [.num .i64 a1, .num .i64 a2], .agg [.num .i64 b1, .num .i64 b2]] => ((fun (a : Pt) (b : Pt) => Sm a) (a1, a2) (b1, b2)) ∧ ((fun (a : Pt) (b : Pt) => Sm b) (a1, a2) (b1, b2)) | _ => False, fun xs => match xs with | [.agg [.num _ a1, .num _ a2], .agg [.num _ b1, .num _ b2]] => (fun (a : Pt) (b : Pt) => .num .i64 (sqd a b)) (a1, a2) (b1, b2) | _ => .junk, false⟩
theorem gk_spec_square : ∀ args, sp_spec_square.pre args → ICall Try.prog 63 args (sp_spec_square.val args) := by
  intro args h
  unfold sp_spec_square at h ⊢; simp only at h ⊢; split at h
  · obtain ⟨h0, h1⟩ := h
    simp only [toPs_enc] at *
    exact c_spec_square (_, _) (_, _) h0 h1
  · exact h.elim
theorem en_spec_square : Enters Try.prog 63 := enters_of Try.func63 (by kernel_rfl) rfl

def g_impl_Diameter_1 : List (Nat × PSpec) := []
theorem gok_impl_Diameter_1 : GOK Try.prog g_impl_Diameter_1 := gok0
def h_impl_Diameter_1 : List (Nat × HSpec) := []
theorem hok_impl_Diameter_1 : HOK Try.prog h_impl_Diameter_1 := hok0
theorem c_impl_Diameter_1 (n : Int) (m : Int)  : ICall Try.prog 60 [.num .i64 n, .num .i64 m] (.bool (decide (m < n))) := by
  refine icall_V (G := g_impl_Diameter_1) (H := []) [] tabOK mixed gok_impl_Diameter_1 hok_impl_Diameter_1 Try.func60 rfl Try.ntmps60 Try.results60 rfl (by kernel_rfl) fun F hN hlen => ?_
  simp only [V_seq, V_ret, V_region, W_nil, W_cons, effOp2, KN_seq, KXr_nil, QE, effOp, effPure, pureV, binV, ofC, strip, lkT, lkH, ISt.app, opI, gO, gB, allB, gval, wrapG, dstOK, setD, clean, enumT, Gives, Ideal.Fin, conv, conv0, Op.operands, reduceIte, reduceCtorEq, Nat.reduceLT, Nat.reduceEqDiff, Nat.zero_add, and_self, implies_true, List.nil_append, List.cons_append, List.append_nil, hN]
def sp_impl_Diameter_1 : PSpec := ⟨fun xs => match xs with | [.num .i64 n, .num .i64 m] => True | _ => False, fun xs => match xs with | [.num _ n, .num _ m] => (fun (n : Int) (m : Int) => .bool (decide (m < n))) n m | _ => .junk, false⟩
theorem gk_impl_Diameter_1 : ∀ args, sp_impl_Diameter_1.pre args → ICall Try.prog 60 args (sp_impl_Diameter_1.val args) := by
  intro args h
  unfold sp_impl_Diameter_1 at h ⊢; simp only at h ⊢; split at h
  · exact c_impl_Diameter_1 _ _
  · exact h.elim
theorem en_impl_Diameter_1 : Enters Try.prog 60 := enters_of Try.func60 (by kernel_rfl) rfl


theorem bAll_end (l : List Pt) (i : Nat) : bAll l (i + 1) = bRow l i (bAll l i) (l.length - (i + 1)) := rfl
theorem fAll_end (l : List Pt) (i : Nat) : fAll l (i + 1) = fRow l i (fAll l i) (l.length - (i + 1)) := rfl

def g_impl_bestPair_far : List (Nat × PSpec) := [(108, sp_impl_far), (60, sp_impl_Diameter_1)]
theorem gok_impl_bestPair_far : GOK Try.prog g_impl_bestPair_far := gok_cons gk_impl_far en_impl_far (gok_cons gk_impl_Diameter_1 en_impl_Diameter_1 (gok0))
theorem lk_impl_bestPair_far_impl_far : lkG g_impl_bestPair_far 108 = sp_impl_far := rfl
theorem lk_impl_bestPair_far_impl_Diameter_1 : lkG g_impl_bestPair_far 60 = sp_impl_Diameter_1 := rfl
def h_impl_bestPair_far : List (Nat × HSpec) := []
theorem hok_impl_bestPair_far : HOK Try.prog h_impl_bestPair_far := hok0
theorem c_impl_bestPair_far (l : List Pt) (hm : SmL l) (hsz : l.length ≤ 1000000) : ICall Try.prog 59 [.sl 2 (encPs l), .clo 60 []] (.tup [.num .i64 (bAll l l.length).1.1, .num .i64 (bAll l l.length).1.2, .num .i64 (bAll l l.length).2]) := by
  refine icall_V (G := g_impl_bestPair_far) (H := []) [(8, [(0, 8), (1, 8), (2, 8), (4, 8), (5, 8), (6, 8)])] tabOK mixed gok_impl_bestPair_far hok_impl_bestPair_far Try.func59 rfl Try.ntmps59 Try.results59 rfl (by kernel_rfl) fun F hN hlen => ?_
  have el := len_encPs l
  simp only [V_seq, V_block, V_region, W_nil, W_cons, effOp2, KN_seq, effOp, effPure, pureV, lenV, ofC, strip, lkT, ISt.app, opI, gO, gB, allB, gval, wrapG, dstOK, setD, enumT, Op.operands, Call.operands, List.append_toArray, reduceIte, reduceCtorEq, Nat.reduceLT, Nat.reduceEqDiff, Nat.zero_add, ne_eq, not_false_eq_true, true_and, and_self, implies_true, List.nil_append, List.cons_append, List.append_nil, tab23, hN, el]
  refine V_loop (α := Nat) ⟨tabOK, mixed, gok_impl_bestPair_far, hok_impl_bestPair_far⟩ (by kernel_rfl) (fun i => i ≤ l.length) (fun i => ⟨[(15, .num .i64 i), (14, .num .i64 l.length), (9, .num .i64 (bAll l i).2), (8, .num .i64 (bAll l i).1.2), (7, .num .i64 (bAll l i).1.1), (1, .clo 60 []), (0, .sl 2 (encPs l))], []⟩) (fun i => l.length - i) 0 id (Nat.zero_le _) (by simp [SLe, SLe0, convTm, convHp, conv, conv0, convL, lkT, lkH, clean, bAll]) ?_
  intro i hi
  simp only [V_seq, V_region, V_cond, W_nil, W_cons, effOp2, KN_seq, asB, effOp, effPure, pureV, binV, strip, lkT, ISt.app, opI, gO, gB, allB, gval, wrapG, dstOK, setD, Op.operands, reduceIte, reduceCtorEq, Nat.reduceLT, Nat.reduceEqDiff, true_and, and_self, implies_true, List.nil_append, List.cons_append, List.append_nil, hN]
  refine brW_some (fun h => ?_) (fun h => ?_)
  · have hi' : i < l.length := by simpa using h
    have hw := wr_succ hi' (by rw [maxLen_eq]; omega)
    simp only [V_seq, V_skip, V_block, V_region, W_nil, W_cons, effOp2, KN_seq, effOp, effPure, pureV, binV, ofC, strip, lkT, ISt.app, opI, gO, gB, allB, gval, wrapG, dstOK, setD, Op.operands, reduceIte, reduceCtorEq, Nat.reduceLT, Nat.reduceEqDiff, true_and, and_self, implies_true, List.nil_append, List.cons_append, List.append_nil, hN, hw]
    refine V_loop (α := Nat) ⟨tabOK, mixed, gok_impl_bestPair_far, hok_impl_bestPair_far⟩ (by kernel_rfl) (fun m => i + 1 + m ≤ l.length) (fun m => ⟨[(11, .num .i64 ((i + 1 + m : Nat) : Int)), (10, .num .i64 i), (15, .num .i64 i), (14, .num .i64 l.length), (9, .num .i64 (bRow l i (bAll l i) m).2), (8, .num .i64 (bRow l i (bAll l i) m).1.2), (7, .num .i64 (bRow l i (bAll l i) m).1.1), (1, .clo 60 []), (0, .sl 2 (encPs l))], []⟩) (fun m => l.length - m) 0 id (by omega) (by simp [SLe, SLe0, convTm, convHp, conv, conv0, convL, lkT, lkH, clean, bRow]) ?_
    intro m hmi
    have hrow : bRow l i (bAll l i) (m + 1) = if (bRow l i (bAll l i) m).2 < 0 ∨ (bRow l i (bAll l i) m).2 < dis l (i, i + 1 + m) then ((i, i + 1 + m), dis l (i, i + 1 + m)) else bRow l i (bAll l i) m := rfl
    simp only [V_seq, V_region, V_cond, W_nil, W_cons, effOp2, KN_seq, asB, effOp, effPure, pureV, binV, lenV, strip, lkT, ISt.app, opI, gO, gB, allB, gval, wrapG, dstOK, setD, Op.operands, Call.operands, List.append_toArray, reduceIte, reduceCtorEq, Nat.reduceLT, Nat.reduceEqDiff, ne_eq, not_false_eq_true, true_and, and_self, implies_true, List.nil_append, List.cons_append, List.append_nil, tab23, hN, el]
    refine brW_some (fun h => ?_) (fun h => ?_)
    · have hk : i + 1 + m < l.length := by simp at h; omega
      have g0 := getD_encPs hi'
      have g1 := getD_encPs hk
      have s1 := hm.at i
      have s2 := hm.at (i + 1 + m)
      have hw2 : IntKind.i64.wrap (((i + 1 + m : Nat) : Int) + 1) = ((i + 1 + (m + 1) : Nat) : Int) := by rw [wr (by omega) (by omega)]; omega
      have hd : sqd (pAt l i) (pAt l (i + 1 + m)) = dis l (i, i + 1 + m) := rfl
      generalize bRow l i (bAll l i) m = r at *
      by_cases c1 : r.2 < 0
      · have d1 : decide (r.2 < 0) = true := by simpa using c1
        rw [if_pos (.inl c1)] at hrow
        simp only [V_seq, V_skip, V_block, V_region, V_draw, V_cond, brW_true, drawW, WS_nil, pairsOf, W_nil, W_cons, effOp2, WI_nil, WI_cons, KN_seq, KN_block, KN_back, dynOK, indB, farB, freshB, heapy, asB, effOp, effPure, effPick, effCall, giveUp, hasAll, pureV, pickV, binV, partV, eltV, loadV, iaddrV, ofC, strip, lkT, lkH, ISt.app, opI, gO, gB, allB, gval, wrapG, dstOK, setD, mentTm, mentHp, IV.ment, lendV, lendP, lent, lentP, idsV, idsL, lkHS, flat, clean, callArgs, callFn, allLent, Op.operands, Call.operands, List.append_toArray, reduceIte, reduceCtorEq, cond_true, cond_false, Bool.or_false, Bool.or_true, Bool.and_true, Bool.and_eq_true, Bool.not_true, Bool.not_false, Nat.reduceAdd, Nat.reduceLT, Nat.reduceLeDiff, Nat.reduceEqDiff, Nat.reduceBEq, Nat.zero_add, ne_eq, not_false_eq_true, true_and, and_true, and_false, and_self, false_implies, implies_true, forall_const, List.map_cons, List.map_nil, List.nil_append, List.cons_append, List.append_nil, Option.bind_some, List.getElem?_cons_zero, List.getElem?_cons_succ, List.getD_cons_zero, List.getD_cons_succ, List.length_cons, List.length_nil, List.take_succ_cons, List.take_zero, List.take_nil, List.drop_zero, ex_clo, btf, or_self, Bool.true_eq_false, Bool.false_eq_true, tab23, tab30, hN, pe, Int.toNat_natCast, lk_impl_bestPair_far_impl_far, lk_impl_bestPair_far_impl_Diameter_1, sp_impl_far, sp_impl_Diameter_1, el, g0, g1, s1, s2, hw2, hd, d1]
        repeat refine And.intro (by first | omega | (simp; done) | (simp; omega)) ?_
        exact ⟨m + 1, id, by simp only []; omega, by simp only []; omega, by simp [SLe, SLe0, convTm, convHp, conv, conv0, convL, lkT, lkH, clean, hrow]⟩
      · have d1 : decide (r.2 < 0) = false := by simpa using c1
        simp only [V_seq, V_skip, V_block, V_region, V_draw, V_cond, drawW, WS_nil, pairsOf, W_nil, W_cons, effOp2, WI_nil, WI_cons, KN_seq, dynOK, indB, farB, freshB, heapy, asB, effOp, effPure, effPick, effCall, giveUp, hasAll, pureV, pickV, binV, partV, eltV, loadV, iaddrV, ofC, strip, lkT, lkH, ISt.app, opI, gO, gB, allB, gval, wrapG, dstOK, setD, mentTm, mentHp, IV.ment, lendV, lendP, lent, lentP, idsV, idsL, lkHS, flat, clean, callArgs, callFn, allLent, Op.operands, Call.operands, List.append_toArray, reduceIte, reduceCtorEq, cond_true, cond_false, Bool.or_false, Bool.and_true, Bool.and_eq_true, Bool.not_true, Bool.not_false, Nat.reduceAdd, Nat.reduceLT, Nat.reduceLeDiff, Nat.reduceEqDiff, Nat.reduceBEq, Nat.zero_add, ne_eq, not_false_eq_true, beq_self_eq_true, true_and, and_true, and_false, and_self, implies_true, forall_const, List.map_cons, List.map_nil, List.nil_append, List.cons_append, List.append_nil, Option.bind_some, List.getElem?_cons_zero, List.getElem?_cons_succ, List.getD_cons_zero, List.getD_cons_succ, List.length_cons, List.length_nil, List.take_succ_cons, List.take_zero, List.take_nil, List.drop_zero, ex_clo, or_self, Bool.false_eq_true, tab23, tab30, hN, pe, Int.toNat_natCast, lk_impl_bestPair_far_impl_far, lk_impl_bestPair_far_impl_Diameter_1, sp_impl_far, sp_impl_Diameter_1, el, g0, g1, s1, s2, hd, d1]
        repeat refine And.intro (by first | omega | (simp; done) | (simp; omega)) ?_
        refine brW_some (fun h => ?_) (fun h => ?_)
        · have c2 : r.2 < dis l (i, i + 1 + m) := by simpa using h
          rw [if_pos (.inr c2)] at hrow
          simp only [V_region, W_nil, W_cons, effOp2, KN_seq, KN_block, KN_back, effOp, effPure, pureV, binV, ofC, strip, lkT, ISt.app, opI, gO, gB, allB, gval, wrapG, dstOK, setD, Op.operands, reduceIte, reduceCtorEq, Nat.reduceLT, Nat.reduceEqDiff, true_and, and_self, implies_true, List.nil_append, List.cons_append, List.append_nil, hN, hw2]
          exact ⟨m + 1, id, by simp only []; omega, by simp only []; omega, by simp [SLe, SLe0, convTm, convHp, conv, conv0, convL, lkT, lkH, clean, hrow]⟩
        · have c2 : ¬ r.2 < dis l (i, i + 1 + m) := by simpa using h
          rw [if_neg (by omega)] at hrow
          simp only [V_skip, V_region, W_nil, W_cons, effOp2, KN_seq, KN_block, KN_back, effOp, effPure, pureV, binV, ofC, strip, lkT, ISt.app, opI, gO, gB, allB, gval, wrapG, dstOK, setD, Op.operands, reduceIte, reduceCtorEq, Nat.reduceLT, Nat.reduceEqDiff, true_and, and_self, implies_true, List.nil_append, List.cons_append, List.append_nil, hN, hw2]
          exact ⟨m + 1, id, by simp only []; omega, by simp only []; omega, by simp [SLe, SLe0, convTm, convHp, conv, conv0, convL, lkT, lkH, clean, hrow]⟩
    · have hme : m = l.length - (i + 1) := by simp at h; omega
      subst hme
      rw [← bAll_end]
      simp only [V_seq, V_ret, V_exit, V_region, W_nil, W_cons, effOp2, KN_seq, KN_block, KN_back, KXr_nil, KXe_nil, KXe_seq, KXe_block, KXe_back, QE, effOp, effPure, pureV, binV, ofC, strip, lkT, lkH, ISt.app, opI, gO, gB, allB, gval, wrapG, dstOK, setD, clean, Gives, Ideal.Fin, conv, conv0, Op.operands, reduceIte, reduceCtorEq, Nat.reduceLT, Nat.reduceEqDiff, true_and, and_true, and_self, implies_true, List.nil_append, List.cons_append, List.append_nil, hN, hw]
      exact ⟨i + 1, id, by simp only []; omega, by simp only []; omega, by simp [SLe, SLe0, convTm, convHp, conv, conv0, convL, lkT, lkH, clean]⟩
  · have hie : i = l.length := by simp at h; omega
    subst hie
    simp only [V_seq, V_ret, V_exit, V_region, W_nil, W_cons, effOp2, KN_seq, KXr_nil, KXe_nil, KXe_seq, KXe_block, KXe_back, QE, effOp, effPure, pureV, strip, lkT, lkH, ISt.app, opI, gO, gB, allB, gval, wrapG, dstOK, setD, clean, Gives, Ideal.Fin, conv, conv0, Op.operands, reduceIte, reduceCtorEq, Nat.reduceLT, Nat.reduceEqDiff, and_self, implies_true, List.nil_append, List.cons_append, List.append_nil, hN]
def sp_impl_bestPair_far : PSpec := ⟨fun xs => match xs with | [.sl 2 les, .clo 60 []] => isPs les ∧ ((fun (l : List Pt) => SmL l) (toPs les)) ∧ ((fun (l : List Pt) => l.length ≤ 1000000) (toPs les)) | _ => False, fun xs => match xs with | [.sl _ les, .clo 60 []] => (fun (l : List Pt) => .tup [.num .i64 (bAll l l.length).1.1, .num .i64 (bAll l l.length).1.2, .num .i64 (bAll l l.length).2]) (toPs les) | _ => .junk, false⟩
theorem gk_impl_bestPair_far : ∀ args, sp_impl_bestPair_far.pre args → ICall Try.prog 59 args (sp_impl_bestPair_far.val args) := by
  intro args h
  unfold sp_impl_bestPair_far at h ⊢; simp only at h ⊢; split at h
  · obtain ⟨h0, h1, h2⟩ := h
    obtain ⟨l0, rfl⟩ := isP_ex h0
    simp only [toPs_enc] at *
    exact c_impl_bestPair_far _ h1 h2
  · exact h.elim
theorem en_impl_bestPair_far : Enters Try.prog 59 := enters_of Try.func59 (by kernel_rfl) rfl


def g_spec_farthest : List (Nat × PSpec) := [(63, sp_spec_square)]
theorem gok_spec_farthest : GOK Try.prog g_spec_farthest := gok_cons gk_spec_square en_spec_square (gok0)
theorem lk_spec_farthest_spec_square : lkG g_spec_farthest 63 = sp_spec_square := rfl
def h_spec_farthest : List (Nat × HSpec) := []
theorem hok_spec_farthest : HOK Try.prog h_spec_farthest := hok0
theorem c_spec_farthest (l : List Pt) (h0 : 0 < l.length) (hm : SmL l) (hsz : l.length ≤ 1000000) : ICall Try.prog 62 [.sl 2 (encPs l)] (.tup [.num .i64 (farPair l).1, .num .i64 (farPair l).2]) := by
  refine icall_V (G := g_spec_farthest) (H := []) [(9, [(0, 8), (1, 8), (2, 8), (4, 8), (5, 8), (6, 8), (8, 9), (8, 10), (8, 11), (8, 12), (8, 13), (8, 14), (8, 15), (8, 16), (0, 17), (1, 17), (2, 17), (3, 17), (4, 17), (5, 17), (6, 17), (7, 17), (9, 17), (10, 17), (11, 17), (13, 17), (14, 17), (15, 17)])] tabOK mixed gok_spec_farthest hok_spec_farthest Try.func62 rfl Try.ntmps62 Try.results62 rfl (by kernel_rfl) fun F hN hlen => ?_
  have el := len_encPs l
  simp only [V_seq, V_block, V_region, W_nil, W_cons, effOp2, KN_seq, effOp, effPure, pureV, ofC, strip, ISt.app, opI, gO, gB, allB, gval, wrapG, dstOK, setD, enumT, Op.operands, Nat.reduceLT, true_and, and_self, implies_true, List.nil_append, List.cons_append, List.append_nil, hN]
  refine V_loop (α := Nat) ⟨tabOK, mixed, gok_spec_farthest, hok_spec_farthest⟩ (by kernel_rfl) (fun i => i ≤ l.length) (fun i => ⟨[(6, .num .i64 i), (4, .num .i64 (fAll l i).1), (5, .num .i64 (fAll l i).2), (0, .sl 2 (encPs l))], []⟩) (fun i => l.length - i) 0 id (Nat.zero_le _) (by simp [SLe, SLe0, convTm, convHp, conv, conv0, lkT, lkH, clean, fAll]) ?_
  intro i hi
  simp only [V_seq, V_region, V_cond, W_nil, W_cons, effOp2, KN_seq, asB, effOp, effPure, pureV, binV, lenV, strip, lkT, ISt.app, opI, gO, gB, allB, gval, wrapG, dstOK, setD, Op.operands, Call.operands, List.append_toArray, reduceIte, reduceCtorEq, Nat.reduceLT, Nat.reduceEqDiff, ne_eq, not_false_eq_true, true_and, and_self, implies_true, List.nil_append, List.cons_append, List.append_nil, tab23, hN, el]
  refine brW_some (fun h => ?_) (fun h => ?_)
  · have hi' : i < l.length := by simpa using h
    have hw := wr_succ hi' (by rw [maxLen_eq]; omega)
    simp only [V_seq, V_skip, V_block, V_region, W_nil, W_cons, effOp2, KN_seq, effOp, effPure, pureV, binV, ofC, strip, lkT, ISt.app, opI, gO, gB, allB, gval, wrapG, dstOK, setD, Op.operands, reduceIte, reduceCtorEq, Nat.reduceLT, Nat.reduceEqDiff, true_and, and_self, implies_true, List.nil_append, List.cons_append, List.append_nil, hN, hw]
    refine V_loop (α := Nat) ⟨tabOK, mixed, gok_spec_farthest, hok_spec_farthest⟩ (by kernel_rfl) (fun m => i + 1 + m ≤ l.length) (fun m => ⟨[(7, .num .i64 ((i + 1 + m : Nat) : Int)), (6, .num .i64 i), (4, .num .i64 (fRow l i (fAll l i) m).1), (5, .num .i64 (fRow l i (fAll l i) m).2), (0, .sl 2 (encPs l))], []⟩) (fun m => l.length - m) 0 id (by omega) (by simp [SLe, SLe0, convTm, convHp, conv, conv0, lkT, lkH, clean, fRow]) ?_
    intro m hmi
    have hrow : fRow l i (fAll l i) (m + 1) = if dis l (fRow l i (fAll l i) m) < dis l (i, i + 1 + m) then (i, i + 1 + m) else fRow l i (fAll l i) m := rfl
    simp only [V_seq, V_region, V_cond, W_nil, W_cons, effOp2, KN_seq, asB, effOp, effPure, pureV, binV, lenV, strip, lkT, ISt.app, opI, gO, gB, allB, gval, wrapG, dstOK, setD, Op.operands, Call.operands, List.append_toArray, reduceIte, reduceCtorEq, Nat.reduceLT, Nat.reduceEqDiff, ne_eq, not_false_eq_true, true_and, and_self, implies_true, List.nil_append, List.cons_append, List.append_nil, tab23, hN, el]
    refine brW_some (fun h => ?_) (fun h => ?_)
    · have hk : i + 1 + m < l.length := by simp at h; omega
      have hr := fRow_lt (i := i) (fAll_lt h0 i (by omega)) m (by omega)
      have g0 := getD_encPs hi'
      have g1 := getD_encPs hk
      have g2 := getD_encPs hr.1
      have g3 := getD_encPs hr.2
      have s1 := hm.at i
      have s2 := hm.at (i + 1 + m)
      have s3 := hm.at (fRow l i (fAll l i) m).1
      have s4 := hm.at (fRow l i (fAll l i) m).2
      have hw2 : IntKind.i64.wrap (((i + 1 + m : Nat) : Int) + 1) = ((i + 1 + (m + 1) : Nat) : Int) := by rw [wr (by omega) (by omega)]; omega
      have hd : sqd (pAt l i) (pAt l (i + 1 + m)) = dis l (i, i + 1 + m) := rfl
      have hd2 : sqd (pAt l (fRow l i (fAll l i) m).1) (pAt l (fRow l i (fAll l i) m).2) = dis l (fRow l i (fAll l i) m) := rfl
      generalize fRow l i (fAll l i) m = r at *
      simp only [V_seq, V_skip, V_block, V_draw, V_cond, drawW, WS_nil, pairsOf, W_nil, W_cons, effOp2, WI_nil, WI_cons, KN_seq, dynOK, indB, farB, freshB, heapy, asB, effOp, effPure, effCall, giveUp, hasAll, pureV, binV, partV, eltV, loadV, iaddrV, strip, lkT, lkH, ISt.app, opI, gO, gB, allB, gval, wrapG, dstOK, setD, mentTm, mentHp, IV.ment, IV.mentL, lendV, lendP, lent, lentP, idsV, idsL, lkHS, flat, clean, callArgs, callFn, allLent, Op.operands, Call.operands, List.append_toArray, reduceIte, reduceCtorEq, cond_true, cond_false, Bool.or_false, Bool.and_true, Bool.and_eq_true, Bool.not_true, Bool.not_false, Nat.reduceAdd, Nat.reduceLT, Nat.reduceLeDiff, Nat.reduceEqDiff, Nat.reduceBEq, Nat.zero_add, ne_eq, not_false_eq_true, true_and, and_true, and_false, and_self, implies_true, forall_const, List.map_cons, List.map_nil, List.nil_append, List.cons_append, List.append_nil, List.getD_cons_zero, List.getD_cons_succ, List.length_cons, List.length_nil, List.take_succ_cons, List.take_zero, List.take_nil, List.drop_zero, ex_clo, or_self, tab23, tab30, hN, pe, Int.toNat_natCast, lk_spec_farthest_spec_square, sp_spec_square, el, g0, g1, g2, g3, s1, s2, s3, s4, hd, hd2]
      repeat refine And.intro (by first | omega | (simp; done) | (simp; omega)) ?_
      refine brW_some (fun h => ?_) (fun h => ?_)
      · have c2 : dis l r < dis l (i, i + 1 + m) := by simpa using h
        rw [if_pos c2] at hrow
        simp only [V_seq, V_region, W_nil, W_cons, effOp2, KN_seq, KN_block, KN_back, effOp, effPure, pureV, binV, ofC, strip, lkT, ISt.app, opI, gO, gB, allB, gval, wrapG, dstOK, setD, Op.operands, reduceIte, reduceCtorEq, Nat.reduceLT, Nat.reduceEqDiff, true_and, and_self, implies_true, List.nil_append, List.cons_append, List.append_nil, hN, hw2]
        exact ⟨m + 1, id, by simp only []; omega, by simp only []; omega, by simp [SLe, SLe0, convTm, convHp, conv, conv0, lkT, lkH, clean, hrow]⟩
      · have c2 : ¬ dis l r < dis l (i, i + 1 + m) := by simpa using h
        rw [if_neg c2] at hrow
        simp only [V_skip, V_region, W_nil, W_cons, effOp2, KN_seq, KN_block, KN_back, effOp, effPure, pureV, binV, ofC, strip, lkT, ISt.app, opI, gO, gB, allB, gval, wrapG, dstOK, setD, Op.operands, reduceIte, reduceCtorEq, Nat.reduceLT, Nat.reduceEqDiff, true_and, and_self, implies_true, List.nil_append, List.cons_append, List.append_nil, hN, hw2]
        exact ⟨m + 1, id, by simp only []; omega, by simp only []; omega, by simp [SLe, SLe0, convTm, convHp, conv, conv0, lkT, lkH, clean, hrow]⟩
    · have hme : m = l.length - (i + 1) := by simp at h; omega
      subst hme
      rw [← fAll_end]
      simp only [V_seq, V_ret, V_exit, V_region, W_nil, W_cons, effOp2, KN_seq, KN_block, KN_back, KXr_nil, KXe_nil, KXe_seq, KXe_block, KXe_back, QE, effOp, effPure, pureV, binV, ofC, strip, lkT, lkH, ISt.app, opI, gO, gB, allB, gval, wrapG, dstOK, setD, clean, Gives, Ideal.Fin, conv, conv0, Op.operands, reduceIte, reduceCtorEq, Nat.reduceLT, Nat.reduceEqDiff, true_and, and_true, and_self, implies_true, List.nil_append, List.cons_append, List.append_nil, hN, hw]
      exact ⟨i + 1, id, by simp only []; omega, by simp only []; omega, by simp [SLe, SLe0, convTm, convHp, conv, conv0, lkT, lkH, clean]⟩
  · have hie : i = l.length := by simp at h; omega
    subst hie
    simp only [V_seq, V_ret, V_exit, V_region, W_nil, W_cons, effOp2, KN_seq, KXr_nil, KXe_nil, KXe_seq, KXe_block, KXe_back, QE, effOp, effPure, pureV, strip, lkT, lkH, ISt.app, opI, gO, gB, allB, gval, wrapG, dstOK, setD, clean, Gives, Ideal.Fin, conv, conv0, Op.operands, reduceIte, reduceCtorEq, Nat.reduceLT, Nat.reduceEqDiff, true_and, and_true, and_self, implies_true, List.nil_append, List.cons_append, List.append_nil, hN]
    exact ⟨rfl, rfl⟩
def sp_spec_farthest : PSpec := ⟨fun xs => match xs with | [.sl 2 les] => isPs les ∧ ((fun (l : List Pt) => 0 < l.length) (toPs les)) ∧ ((fun (l : List Pt) => SmL l) (toPs les)) ∧ ((fun (l : List Pt) => l.length ≤ 1000000) (toPs les)) | _ => False, fun xs => match xs with | [.sl _ les] => (fun (l : List Pt) => .tup [.num .i64 (farPair l).1, .num .i64 (farPair l).2]) (toPs les) | _ => .junk, false⟩
theorem gk_spec_farthest : ∀ args, sp_spec_farthest.pre args → ICall Try.prog 62 args (sp_spec_farthest.val args) := by
  intro args h
  unfold sp_spec_farthest at h ⊢; simp only at h ⊢; split at h
  · obtain ⟨h0, h1, h2, h3⟩ := h
    obtain ⟨l0, rfl⟩ := isP_ex h0
    simp only [toPs_enc] at *
    exact c_spec_farthest _ h1 h2 h3
  · exact h.elim
theorem en_spec_farthest : Enters Try.prog 62 := enters_of Try.func62 (by kernel_rfl) rfl


/-- The farthest pair and its squared distance, when all is in order. -/
def diaOk (l : List Pt) : Bool := okPs l && decide (0 < l.length)
def diaA (l : List Pt) : Int := if diaOk l then (farPair l).1 else 0
def diaB (l : List Pt) : Int := if diaOk l then (farPair l).2 else 0
def diaN (l : List Pt) : Int := if diaOk l then dis l (farPair l) else -1
theorem dia_no {l : List Pt} (h : diaOk l = false) : diaA l = 0 ∧ diaB l = 0 ∧ diaN l = -1 := by simp [diaA, diaB, diaN, h]
theorem dia_yes {l : List Pt} (h : diaOk l = true) : diaA l = (farPair l).1 ∧ diaB l = (farPair l).2 ∧ diaN l = dis l (farPair l) := by simp [diaA, diaB, diaN, h]

def g_spec_Diameter : List (Nat × PSpec) := [(61, sp_spec_validPoints), (62, sp_spec_farthest), (63, sp_spec_square)]
theorem gok_spec_Diameter : GOK Try.prog g_spec_Diameter := gok_cons gk_spec_validPoints en_spec_validPoints (gok_cons gk_spec_farthest en_spec_farthest (gok_cons gk_spec_square en_spec_square (gok0)))
theorem lk_spec_Diameter_spec_validPoints : lkG g_spec_Diameter 61 = sp_spec_validPoints := rfl
theorem lk_spec_Diameter_spec_farthest : lkG g_spec_Diameter 62 = sp_spec_farthest := rfl
theorem lk_spec_Diameter_spec_square : lkG g_spec_Diameter 63 = sp_spec_square := rfl
def h_spec_Diameter : List (Nat × HSpec) := []
theorem hok_spec_Diameter : HOK Try.prog h_spec_Diameter := hok0
theorem c_spec_Diameter (l : List Pt)  : ICall Try.prog 17 [.sl 2 (encPs l)] (.tup [.num .i64 (diaA l), .num .i64 (diaB l), .num .i64 (diaN l)]) := by
  refine icall_V (G := g_spec_Diameter) (H := []) [(4, [(0, 10), (1, 10), (2, 10), (3, 10), (4, 10), (6, 10), (7, 10), (8, 10), (10, 12)])] tabOK mixed gok_spec_Diameter hok_spec_Diameter Try.func17 rfl Try.ntmps17 Try.results17 rfl (by kernel_rfl) fun F hN hlen => ?_
  have el := len_encPs l
  cases h1 : okPs l with
  | false =>
    obtain ⟨a1, a2, a3⟩ := dia_no (l := l) (by simp [diaOk, h1])
    simp only [V_seq, V_ret, V_region, V_cond, brW_true, W_nil, W_cons, effOp2, KN_seq, KXr_nil, KXr_seq, QE, asB, effOp, effPure, effPick, effCall, giveUp, hasAll, pureV, pickV, binV, lenV, ofC, strip, lkT, lkH, ISt.app, opI, gO, gB, allB, gval, wrapG, dstOK, setD, lendV, lendP, lent, lentP, idsV, idsL, lkHS, flat, clean, callArgs, callFn, allLent, enumT, Gives, Ideal.Fin, conv, conv0, Op.operands, Call.operands, List.append_toArray, reduceIte, reduceCtorEq, cond_true, Bool.or_false, Bool.not_true, Bool.not_false, Nat.reduceLT, Nat.reduceEqDiff, ne_eq, not_false_eq_true, and_true, and_self, false_implies, implies_true, List.map_cons, List.map_nil, List.nil_append, List.cons_append, List.append_nil, Option.bind_some, List.getElem?_cons_zero, List.getElem?_cons_succ, ex_clo, btf, or_self, Bool.true_eq_false, Bool.false_eq_true, tab23, hN, isPs_enc, toPs_enc, lk_spec_Diameter_spec_validPoints, sp_spec_validPoints, h1, el, a1, a2, a3]
  | true =>
    have hn := okPs_len h1
    rcases Nat.eq_zero_or_pos l.length with hz | hz
    · obtain ⟨a1, a2, a3⟩ := dia_no (l := l) (by simp [diaOk, hz])
      have d1 : (((l.length : Nat) : Int) == 0) = true := by simp [hz]
      simp only [V_seq, V_ret, V_region, V_cond, brW_true, W_nil, W_cons, effOp2, KN_seq, KXr_nil, KXr_seq, QE, asB, effOp, effPure, effPick, effCall, giveUp, hasAll, pureV, pickV, binV, lenV, ofC, strip, lkT, lkH, ISt.app, opI, gO, gB, allB, gval, wrapG, dstOK, setD, lendV, lendP, lent, lentP, idsV, idsL, lkHS, flat, clean, callArgs, callFn, allLent, enumT, Gives, Ideal.Fin, conv, conv0, Op.operands, Call.operands, List.append_toArray, reduceIte, reduceCtorEq, cond_true, cond_false, Bool.or_false, Bool.not_true, Nat.reduceLT, Nat.reduceEqDiff, ne_eq, not_false_eq_true, beq_self_eq_true, and_self, implies_true, List.map_cons, List.map_nil, List.nil_append, List.cons_append, List.append_nil, Option.bind_some, List.getElem?_cons_zero, List.getElem?_cons_succ, ex_clo, or_self, Bool.false_eq_true, tab23, hN, isPs_enc, toPs_enc, lk_spec_Diameter_spec_validPoints, sp_spec_validPoints, h1, el, d1, a1, a2, a3]
    · obtain ⟨a1, a2, a3⟩ := dia_yes (l := l) (by simp [diaOk, h1, hz])
      have d1 : (((l.length : Nat) : Int) == 0) = false := by simp; intro e; subst e; simp at hz
      have hm := okPs_sm h1
      have hl : l.length ≤ 1000000 := by omega
      have hr := farPair_lt hz
      have g1 := getD_encPs hr.1
      have g2 := getD_encPs hr.2
      have s1 := hm.at (farPair l).1
      have s2 := hm.at (farPair l).2
      have hd2 : sqd (pAt l (farPair l).1) (pAt l (farPair l).2) = dis l (farPair l) := rfl
      simp only [V_seq, V_skip, V_ret, V_region, V_draw, V_cond, brW_false, drawW, WS_nil, pairsOf, W_nil, W_cons, effOp2, WI_nil, WI_cons, KN_seq, KXr_nil, QE, dynOK, indB, farB, freshB, heapy, asB, effOp, effPure, effPick, effCall, giveUp, hasAll, pureV, pickV, binV, partV, eltV, loadV, iaddrV, lenV, ofC, strip, lkT, lkH, ISt.app, opI, gO, gB, allB, gval, wrapG, dstOK, setD, mentTm, mentHp, IV.ment, lendV, lendP, lent, lentP, idsV, idsL, lkHS, flat, flatL, clean, cleanL, callArgs, callFn, allLent, enumT, Gives, Ideal.Fin, conv, conv0, Op.operands, Call.operands, List.append_toArray, reduceIte, reduceCtorEq, cond_true, cond_false, Bool.or_false, Bool.and_true, Bool.and_eq_true, Bool.not_true, Bool.not_false, Nat.reduceAdd, Nat.reduceLT, Nat.reduceLeDiff, Nat.reduceEqDiff, Nat.reduceBEq, Nat.zero_add, ne_eq, not_false_eq_true, beq_self_eq_true, true_and, and_true, and_false, and_self, implies_true, forall_const, List.map_cons, List.map_nil, List.nil_append, List.cons_append, List.append_nil, Option.bind_some, List.getElem?_cons_zero, List.getElem?_cons_succ, List.getD_cons_zero, List.getD_cons_succ, List.length_cons, List.length_nil, List.take_succ_cons, List.take_zero, List.take_nil, List.drop_zero, ex_clo, or_self, Bool.false_eq_true, tab23, tab30, hN, pe, Int.toNat_natCast, isPs_enc, toPs_enc, lk_spec_Diameter_spec_validPoints, lk_spec_Diameter_spec_farthest, lk_spec_Diameter_spec_square, sp_spec_validPoints, sp_spec_farthest, sp_spec_square, h1, el, d1, a1, a2, a3, hz, hm, hl, g1, g2, s1, s2, hd2]
      repeat refine And.intro (by first | omega | (simp; done) | (simp; omega)) ?_
      omega
def sp_spec_Diameter : PSpec := ⟨fun xs => match xs with | [.sl 2 les] => isPs les | _ => False, fun xs => match xs with | [.sl _ les] => (fun (l : List Pt) => .tup [.num .i64 (diaA l), .num .i64 (diaB l), .num .i64 (diaN l)]) (toPs les) | _ => .junk, false⟩
theorem gk_spec_Diameter : ∀ args, sp_spec_Diameter.pre args → ICall Try.prog 17 args (sp_spec_Diameter.val args) := by
  intro args h
  unfold sp_spec_Diameter at h ⊢; simp only at h ⊢; split at h
  · have h0 := h
    obtain ⟨l0, rfl⟩ := isP_ex h0
    simp only [toPs_enc] at *
    exact c_spec_Diameter _ 
  · exact h.elim
theorem en_spec_Diameter : Enters Try.prog 17 := enters_of Try.func17 (by kernel_rfl) rfl

def g_impl_Diameter : List (Nat × PSpec) := [(58, sp_impl_listOk), (59, sp_impl_bestPair_far)]
theorem gok_impl_Diameter : GOK Try.prog g_impl_Diameter := gok_cons gk_impl_listOk en_impl_listOk (gok_cons gk_impl_bestPair_far en_impl_bestPair_far (gok0))
theorem lk_impl_Diameter_impl_listOk : lkG g_impl_Diameter 58 = sp_impl_listOk := rfl
theorem lk_impl_Diameter_impl_bestPair_far : lkG g_impl_Diameter 59 = sp_impl_bestPair_far := rfl
def h_impl_Diameter : List (Nat × HSpec) := []
theorem hok_impl_Diameter : HOK Try.prog h_impl_Diameter := hok0
theorem c_impl_Diameter (l : List Pt)  : ICall Try.prog 16 [.sl 2 (encPs l)] (.tup [.num .i64 (diaA l), .num .i64 (diaB l), .num .i64 (diaN l)]) := by
  refine icall_V (G := g_impl_Diameter) (H := []) [] tabOK mixed gok_impl_Diameter hok_impl_Diameter Try.func16 rfl Try.ntmps16 Try.results16 rfl (by kernel_rfl) fun F hN hlen => ?_
  have el := len_encPs l
  cases h1 : okPs l with
  | false =>
    obtain ⟨a1, a2, a3⟩ := dia_no (l := l) (by simp [diaOk, h1])
    simp only [V_seq, V_ret, V_region, V_cond, brW_true, W_nil, W_cons, effOp2, KN_seq, KXr_nil, KXr_seq, QE, asB, effOp, effPure, effPick, effCall, giveUp, hasAll, pureV, pickV, binV, lenV, ofC, strip, lkT, lkH, ISt.app, opI, gO, gB, allB, gval, wrapG, dstOK, setD, lendV, lendP, lent, lentP, idsV, idsL, lkHS, flat, clean, callArgs, callFn, allLent, enumT, Gives, Ideal.Fin, conv, conv0, Op.operands, Call.operands, List.append_toArray, reduceIte, reduceCtorEq, cond_true, Bool.or_false, Bool.not_true, Bool.not_false, Nat.reduceLT, Nat.reduceEqDiff, ne_eq, not_false_eq_true, and_true, and_self, false_implies, implies_true, List.map_cons, List.map_nil, List.nil_append, List.cons_append, List.append_nil, Option.bind_some, List.getElem?_cons_zero, List.getElem?_cons_succ, ex_clo, btf, or_self, Bool.true_eq_false, Bool.false_eq_true, tab23, hN, isPs_enc, toPs_enc, lk_impl_Diameter_impl_listOk, sp_impl_listOk, h1, el, a1, a2, a3]
  | true =>
    have hn := okPs_len h1
    rcases Nat.eq_zero_or_pos l.length with hz | hz
    · obtain ⟨a1, a2, a3⟩ := dia_no (l := l) (by simp [diaOk, hz])
      have d1 : (((l.length : Nat) : Int) == 0) = true := by simp [hz]
      simp only [V_seq, V_ret, V_region, V_cond, brW_true, W_nil, W_cons, effOp2, KN_seq, KXr_nil, KXr_seq, QE, asB, effOp, effPure, effPick, effCall, giveUp, hasAll, pureV, pickV, binV, lenV, ofC, strip, lkT, lkH, ISt.app, opI, gO, gB, allB, gval, wrapG, dstOK, setD, lendV, lendP, lent, lentP, idsV, idsL, lkHS, flat, clean, callArgs, callFn, allLent, enumT, Gives, Ideal.Fin, conv, conv0, Op.operands, Call.operands, List.append_toArray, reduceIte, reduceCtorEq, cond_true, cond_false, Bool.or_false, Bool.not_true, Nat.reduceLT, Nat.reduceEqDiff, ne_eq, not_false_eq_true, beq_self_eq_true, and_self, implies_true, List.map_cons, List.map_nil, List.nil_append, List.cons_append, List.append_nil, Option.bind_some, List.getElem?_cons_zero, List.getElem?_cons_succ, ex_clo, or_self, Bool.false_eq_true, tab23, hN, isPs_enc, toPs_enc, lk_impl_Diameter_impl_listOk, sp_impl_listOk, h1, el, d1, a1, a2, a3]
    · obtain ⟨a1, a2, a3⟩ := dia_yes (l := l) (by simp [diaOk, h1, hz])
      have d1 : (((l.length : Nat) : Int) == 0) = false := by simp; intro e; subst e; simp at hz
      have hm := okPs_sm h1
      have hl : l.length ≤ 1000000 := by omega
      have hbf := all_BF l l.length
      have hfp : fAll l l.length = farPair l := rfl
      rw [hfp] at hbf
      obtain ⟨t, ht⟩ : ∃ t, bAll l l.length = t := ⟨_, rfl⟩
      rw [ht] at hbf
      rcases hbf with ⟨b1, b2⟩ | ⟨b1, b2, b3⟩
      · have d2 : decide (t.2 ≤ 0) = true := by simpa using b1
        have e1 : (farPair l).1 = 0 := by rw [b2]
        have e2 : (farPair l).2 = 0 := by rw [b2]
        have e3 : dis l (farPair l) = 0 := by rw [b2]; exact dis_same l 0
        simp only [V_seq, V_skip, V_ret, V_region, V_cond, brW_true, brW_false, W_nil, W_cons, effOp2, KN_seq, KXr_nil, KXr_seq, QE, asB, effOp, effPure, effPick, effCall, giveUp, hasAll, pureV, pickV, binV, lenV, ofC, strip, lkT, lkH, ISt.app, opI, gO, gB, allB, gval, wrapG, dstOK, setD, lendV, lendP, lent, lentP, lentPs, idsV, idsL, lkHS, flat, flatL, clean, cleanL, callArgs, callFn, allLent, enumT, Gives, Ideal.Fin, conv, conv0, Op.operands, Call.operands, List.append_toArray, reduceIte, reduceCtorEq, cond_true, cond_false, Bool.or_false, Bool.and_true, Bool.not_true, Nat.reduceAdd, Nat.reduceLT, Nat.reduceEqDiff, Nat.zero_add, ne_eq, not_false_eq_true, beq_self_eq_true, true_and, and_true, and_self, implies_true, List.map_cons, List.map_nil, List.nil_append, List.cons_append, List.append_nil, Option.bind_some, List.getElem?_cons_zero, List.getElem?_cons_succ, List.getD_cons_zero, List.getD_cons_succ, List.length_cons, List.length_nil, ex_clo, or_self, Bool.false_eq_true, tab23, hN, isPs_enc, toPs_enc, lk_impl_Diameter_impl_listOk, lk_impl_Diameter_impl_bestPair_far, sp_impl_listOk, sp_impl_bestPair_far, h1, el, d1, a1, a2, a3, hm, hl, d2, e1, e2, e3, ht]
        rfl
      · have d2 : decide (dis l (farPair l) ≤ 0) = false := by simp only [decide_eq_false_iff_not]; omega
        simp only [V_seq, V_skip, V_ret, V_region, V_cond, brW_false, W_nil, W_cons, effOp2, KN_seq, KXr_nil, QE, asB, effOp, effPure, effPick, effCall, giveUp, hasAll, pureV, pickV, binV, lenV, ofC, strip, lkT, lkH, ISt.app, opI, gO, gB, allB, gval, wrapG, dstOK, setD, lendV, lendP, lent, lentP, lentPs, idsV, idsL, lkHS, flat, flatL, clean, cleanL, callArgs, callFn, allLent, enumT, Gives, Ideal.Fin, conv, conv0, Op.operands, Call.operands, List.append_toArray, reduceIte, reduceCtorEq, cond_true, cond_false, Bool.or_false, Bool.and_true, Bool.not_true, Nat.reduceAdd, Nat.reduceLT, Nat.reduceEqDiff, Nat.zero_add, ne_eq, not_false_eq_true, beq_self_eq_true, and_self, implies_true, List.map_cons, List.map_nil, List.nil_append, List.cons_append, List.append_nil, Option.bind_some, List.getElem?_cons_zero, List.getElem?_cons_succ, List.getD_cons_zero, List.getD_cons_succ, List.length_cons, List.length_nil, ex_clo, or_self, Bool.false_eq_true, tab23, hN, isPs_enc, toPs_enc, lk_impl_Diameter_impl_listOk, lk_impl_Diameter_impl_bestPair_far, sp_impl_listOk, sp_impl_bestPair_far, h1, el, d1, a1, a2, a3, hm, hl, d2, b2, b3, ht]
def sp_impl_Diameter : PSpec := ⟨fun xs => match xs with | [.sl 2 les] => isPs les | _ => False, fun xs => match xs with | [.sl _ les] => (fun (l : List Pt) => .tup [.num .i64 (diaA l), .num .i64 (diaB l), .num .i64 (diaN l)]) (toPs les) | _ => .junk, false⟩
theorem gk_impl_Diameter : ∀ args, sp_impl_Diameter.pre args → ICall Try.prog 16 args (sp_impl_Diameter.val args) := by
  intro args h
  unfold sp_impl_Diameter at h ⊢; simp only at h ⊢; split at h
  · have h0 := h
    obtain ⟨l0, rfl⟩ := isP_ex h0
    simp only [toPs_enc] at *
    exact c_impl_Diameter _ 
  · exact h.elim
theorem en_impl_Diameter : Enters Try.prog 16 := enters_of Try.func16 (by kernel_rfl) rfl


/-- The squared distance of valid points. -/
def sqI (p q : Pt) : Int := if okP p = true ∧ okP q = true then sqd p q else -1

def g_spec_DrawDiameter : List (Nat × PSpec) := []
theorem gok_spec_DrawDiameter : GOK Try.prog g_spec_DrawDiameter := gok0
def h_spec_DrawDiameter : List (Nat × HSpec) := [(57, hs_spec_newReader), (56, hs_spec_anyPoints)]
theorem hok_spec_DrawDiameter : HOK Try.prog h_spec_DrawDiameter := hok_cons hk_spec_newReader en_spec_newReader (hok_cons hk_spec_anyPoints en_spec_anyPoints (hok0))
theorem lh_spec_DrawDiameter_spec_newReader : lkHS h_spec_DrawDiameter 57 = some hs_spec_newReader := rfl
theorem lh_spec_DrawDiameter_spec_anyPoints : lkHS h_spec_DrawDiameter 56 = some hs_spec_anyPoints := rfl
theorem c_spec_DrawDiameter (b : List Int) (hb : ∀ x ∈ b, 0 ≤ x ∧ x < 256) (hsz : b.length ≤ 1048576) : ICall Try.prog 15 [.sl 1 (encBy b)] (.sl 2 (encPs (drawPts b 9))) := by
  refine icall_V (G := g_spec_DrawDiameter) (H := h_spec_DrawDiameter) [] tabOK mixed gok_spec_DrawDiameter hok_spec_DrawDiameter Try.func15 rfl Try.ntmps15 Try.results15 rfl (by kernel_rfl) fun F hN hlen => ?_
  have hbt := bytes_take hb
  have hl := drawPts_len hb (show (0 : Int) ≤ 9 by omega) (by omega)
  have hd : (aPoints (b.take 2000) 0 9).1 = drawPts b 9 := rfl
  simp only [V_seq, V_ret, V_region, W_nil, W_cons, effOp2, KN_seq, KXr_nil, QE, effOp, effPure, Option.isSome_some, skipE, pureV, ofC, strip, lkT, lkH, ISt.app, opI, gO, gB, allB, gval, wrapG, dstOK, setD, mentTm, mentHp, IV.ment, IV.mentL, lendV, lendP, lent, lentP, idsV, idsL, clean, callArgs, callFn, enumT, Gives, Ideal.Fin, conv, conv0, convL, IBlk.shape, Op.operands, reduceIte, reduceCtorEq, cond_true, cond_false, Bool.or_false, Bool.and_true, Bool.and_false, Bool.not_false, Nat.reduceAdd, Nat.reduceSub, Nat.reduceMul, Nat.reduceLT, Nat.reduceLeDiff, Nat.reduceEqDiff, Nat.reduceBEq, Nat.add_zero, Nat.zero_add, ne_eq, not_false_eq_true, beq_self_eq_true, true_and, and_true, and_false, and_self, false_implies, implies_true, List.map_cons, List.map_nil, List.nil_append, List.cons_append, List.append_nil, List.all_nil, Option.some.injEq, Option.map_some, Option.map_none, List.getD_cons_zero, List.drop_zero, ex_clo, or_self, Bool.true_eq_false, Bool.false_eq_true, hN, Int.toNat_natCast, isBy_enc, toBy_enc, SLe0, convTm, convHp, convB, sm, effH, mkHC0, mkHC1, lendM, lentM, lentI, allHere, addIds, idsB, flatIds, reach, posn, renV, renL, renB, renH, numB, subHp, fwd, bk, bwd, nones, keyOK, noSl, noSlL, flatBs, List.contains, List.elem, Option.isSome_some, Option.isSome_none, List.nodup_nil, List.nodup_cons, List.not_mem_nil, List.mem_cons, or_false, Option.getD_some, lh_spec_DrawDiameter_spec_newReader, lh_spec_DrawDiameter_spec_anyPoints, hs_spec_newReader, hs_spec_anyPoints, rdr, hsz, hbt, hd]
  exact ⟨⟨⟨by omega, by omega⟩, take_eq_of rfl⟩, _, _, rfl, by rw [len_encPs]; exact Nat.le_refl _, (take_encPs _).symm⟩
def sp_spec_DrawDiameter : PSpec := ⟨fun xs => match xs with | [.sl 1 bes] => isBy bes ∧ ((fun (b : List Int) => ∀ x ∈ b, 0 ≤ x ∧ x < 256) (toIs bes)) ∧ ((fun (b : List Int) => b.length ≤ 1048576) (toIs bes)) | _ => False, fun xs => match xs with | [.sl _ bes] => (fun (b : List Int) => .sl 2 (encPs (drawPts b 9))) (toIs bes) | _ => .junk, false⟩
theorem gk_spec_DrawDiameter : ∀ args, sp_spec_DrawDiameter.pre args → ICall Try.prog 15 args (sp_spec_DrawDiameter.val args) := by
  intro args h
  unfold sp_spec_DrawDiameter at h ⊢; simp only at h ⊢; split at h
  · obtain ⟨h0, h1, h2⟩ := h
    obtain ⟨l0, rfl⟩ := isBy_ex h0
    simp only [toBy_enc] at *
    exact c_spec_DrawDiameter _ h1 h2
  · exact h.elim
theorem en_spec_DrawDiameter : Enters Try.prog 15 := enters_of Try.func15 (by kernel_rfl) rfl


theorem okPs_at {l : List Pt} (h : okPs l = true) {i : Nat} (hi : i < l.length) : okP (pAt l i) = true := by
  simp only [okPs, Bool.and_eq_true, List.all_eq_true] at h
  refine h.1 _ ?_
  rw [pAt, List.getD, List.getElem?_eq_getElem hi]
  exact List.getElem_mem hi
theorem sqI_at {l : List Pt} (h : okPs l = true) {i k : Nat} (hi : i < l.length) (hk : k < l.length) : sqI (pAt l i) (pAt l k) = dis l (i, k) := by
  rw [sqI, if_pos ⟨okPs_at h hi, okPs_at h hk⟩]; rfl
theorem hull_pos {l : List Pt} (h0 : 0 < l.length) : 0 < (hullP l).length := by
  rcases Nat.eq_zero_or_pos (hullP l).length with h | h
  · have := hullP_nil.1 (List.length_eq_zero_iff.1 h)
    subst this; simp at h0
  · exact h


end Go.Proofs.Ytmcpjnaedgpenaa
