/- The law on nearest neighbours: the walk. -/
import Derived.Test.YteaanfpkakaaoaaB85b
import Derived.Test.YteaanfpkakaaoaaB86a
import Derived.Test.YteaanfpkakaaoaaBFa
import Derived.Test.YteaanfpkakaaoaaPl38
set_option linter.unusedVariables false
set_option linter.unusedSimpArgs false
set_option maxHeartbeats 16000000
set_option maxRecDepth 100000
namespace Go.Proofs.Yteaanfpkakaaoaa
open Go Go.Ideal Go.Pl Go.Sort

def g_impl_ClosestPair_1 : List (Nat × PSpec) := []
theorem gok_impl_ClosestPair_1 : GOK Try.prog g_impl_ClosestPair_1 := gok0
def h_impl_ClosestPair_1 : List (Nat × HSpec) := []
theorem hok_impl_ClosestPair_1 : HOK Try.prog h_impl_ClosestPair_1 := hok0
theorem c_impl_ClosestPair_1 (n : Int) (m : Int)  : ICall Try.prog 30 [.num .i64 n, .num .i64 m] (.bool (decide (n < m))) := by
  refine icall_V (G := g_impl_ClosestPair_1) (H := []) [] tabOK mixed gok_impl_ClosestPair_1 hok_impl_ClosestPair_1 Try.func30 rfl Try.ntmps30 Try.results30 rfl (by kernel_rfl) fun F hN hlen => ?_
  simp only [V_seq, V_ret, V_region, W_nil, W_cons, effOp2, KN_seq, KXr_nil, QE, effOp, effPure, pureV, binV, ofC, strip, lkT, lkH, ISt.app, opI, gO, gB, allB, gval, wrapG, dstOK, setD, clean, enumT, Gives, Ideal.Fin, conv, conv0, Op.operands, reduceIte, reduceCtorEq, Nat.reduceLT, Nat.reduceEqDiff, Nat.zero_add, and_self, implies_true, List.nil_append, List.cons_append, List.append_nil, hN]
def sp_impl_ClosestPair_1 : PSpec := ⟨fun xs => match xs with | [.num .i64 n, .num .i64 m] => True | _ => False, fun xs => match xs with | [.num _ n, .num _ m] => (fun (n : Int) (m : Int) => .bool (decide (n < m))) n m | _ => .junk, false⟩
theorem gk_impl_ClosestPair_1 : ∀ args, sp_impl_ClosestPair_1.pre args → ICall Try.prog 30 args (sp_impl_ClosestPair_1.val args) := by
  intro args h
  unfold sp_impl_ClosestPair_1 at h ⊢; simp only at h ⊢; split at h
  · exact c_impl_ClosestPair_1 _ _
  · exact h.elim
theorem en_impl_ClosestPair_1 : Enters Try.prog 30 := enters_of Try.func30 (by kernel_rfl) rfl

def g_impl_bestPair_near : List (Nat × PSpec) := [(32, sp_impl_far), (30, sp_impl_ClosestPair_1)]
theorem gok_impl_bestPair_near : GOK Try.prog g_impl_bestPair_near := gok_cons gk_impl_far en_impl_far (gok_cons gk_impl_ClosestPair_1 en_impl_ClosestPair_1 (gok0))
theorem lk_impl_bestPair_near_impl_far : lkG g_impl_bestPair_near 32 = sp_impl_far := rfl
theorem lk_impl_bestPair_near_impl_ClosestPair_1 : lkG g_impl_bestPair_near 30 = sp_impl_ClosestPair_1 := rfl
def h_impl_bestPair_near : List (Nat × HSpec) := []
theorem hok_impl_bestPair_near : HOK Try.prog h_impl_bestPair_near := hok0
theorem c_impl_bestPair_near (l : List Pt) (hm : SmL l) (hsz : l.length ≤ 1000000) : ICall Try.prog 29 [.sl 2 (encPs l), .clo 30 []] (.tup [.num .i64 (mAll l l.length).1.1, .num .i64 (mAll l l.length).1.2, .num .i64 (mAll l l.length).2]) := by
  refine icall_V (G := g_impl_bestPair_near) (H := []) [(8, [(0, 8), (1, 8), (2, 8), (4, 8), (5, 8), (6, 8)])] tabOK mixed gok_impl_bestPair_near hok_impl_bestPair_near Try.func29 rfl Try.ntmps29 Try.results29 rfl (by kernel_rfl) fun F hN hlen => ?_
  have el := len_encPs l
  simp only [V_seq, V_block, V_region, W_nil, W_cons, effOp2, KN_seq, effOp, effPure, pureV, lenV, ofC, strip, lkT, ISt.app, opI, gO, gB, allB, gval, wrapG, dstOK, setD, enumT, Op.operands, Call.operands, List.append_toArray, reduceIte, reduceCtorEq, Nat.reduceLT, Nat.reduceEqDiff, Nat.zero_add, ne_eq, not_false_eq_true, true_and, and_self, implies_true, List.nil_append, List.cons_append, List.append_nil, tab23, hN, el]
  refine V_loop (α := Nat) ⟨tabOK, mixed, gok_impl_bestPair_near, hok_impl_bestPair_near⟩ (by kernel_rfl) (fun i => i ≤ l.length) (fun i => ⟨[(15, .num .i64 i), (14, .num .i64 l.length), (9, .num .i64 (mAll l i).2), (8, .num .i64 (mAll l i).1.2), (7, .num .i64 (mAll l i).1.1), (1, .clo 30 []), (0, .sl 2 (encPs l))], []⟩) (fun i => l.length - i) 0 id (Nat.zero_le _) (by simp [SLe, SLe0, convTm, convHp, conv, conv0, convL, lkT, lkH, clean, mAll]) ?_
  intro i hi
  simp only [V_seq, V_region, V_cond, W_nil, W_cons, effOp2, KN_seq, asB, effOp, effPure, pureV, binV, strip, lkT, ISt.app, opI, gO, gB, allB, gval, wrapG, dstOK, setD, Op.operands, reduceIte, reduceCtorEq, Nat.reduceLT, Nat.reduceEqDiff, true_and, and_self, implies_true, List.nil_append, List.cons_append, List.append_nil, hN]
  refine brW_some (fun h => ?_) (fun h => ?_)
  · have hi' : i < l.length := by simpa using h
    have hw := wr_succ hi' (by rw [maxLen_eq]; omega)
    simp only [V_seq, V_skip, V_block, V_region, W_nil, W_cons, effOp2, KN_seq, effOp, effPure, pureV, binV, ofC, strip, lkT, ISt.app, opI, gO, gB, allB, gval, wrapG, dstOK, setD, Op.operands, reduceIte, reduceCtorEq, Nat.reduceLT, Nat.reduceEqDiff, true_and, and_self, implies_true, List.nil_append, List.cons_append, List.append_nil, hN, hw]
    refine V_loop (α := Nat) ⟨tabOK, mixed, gok_impl_bestPair_near, hok_impl_bestPair_near⟩ (by kernel_rfl) (fun m => i + 1 + m ≤ l.length) (fun m => ⟨[(11, .num .i64 ((i + 1 + m : Nat) : Int)), (10, .num .i64 i), (15, .num .i64 i), (14, .num .i64 l.length), (9, .num .i64 (mRow l i (mAll l i) m).2), (8, .num .i64 (mRow l i (mAll l i) m).1.2), (7, .num .i64 (mRow l i (mAll l i) m).1.1), (1, .clo 30 []), (0, .sl 2 (encPs l))], []⟩) (fun m => l.length - m) 0 id (by omega) (by simp [SLe, SLe0, convTm, convHp, conv, conv0, convL, lkT, lkH, clean, mRow]) ?_
    intro m hmi
    have hrow : mRow l i (mAll l i) (m + 1) = if (mRow l i (mAll l i) m).2 < 0 ∨ dis l (i, i + 1 + m) < (mRow l i (mAll l i) m).2 then ((i, i + 1 + m), dis l (i, i + 1 + m)) else mRow l i (mAll l i) m := rfl
    simp only [V_seq, V_region, V_cond, W_nil, W_cons, effOp2, KN_seq, asB, effOp, effPure, pureV, binV, lenV, strip, lkT, ISt.app, opI, gO, gB, allB, gval, wrapG, dstOK, setD, Op.operands, Call.operands, List.append_toArray, reduceIte, reduceCtorEq, Nat.reduceLT, Nat.reduceEqDiff, ne_eq, not_false_eq_true, true_and, and_self, implies_true, List.nil_append, List.cons_append, List.append_nil, tab23, hN, el]
    refine brW_some (fun h => ?_) (fun h => ?_)
    · have hk : i + 1 + m < l.length := by simp at h; omega
      have g0 := getD_encPs hi'
      have g1 := getD_encPs hk
      have s1 := hm.at i
      have s2 := hm.at (i + 1 + m)
      have hw2 : IntKind.i64.wrap (((i + 1 + m : Nat) : Int) + 1) = ((i + 1 + (m + 1) : Nat) : Int) := by rw [wr (by omega) (by omega)]; omega
      have hd : sqd (pAt l i) (pAt l (i + 1 + m)) = dis l (i, i + 1 + m) := rfl
      generalize mRow l i (mAll l i) m = r at *
      by_cases c1 : r.2 < 0
      · have d1 : decide (r.2 < 0) = true := by simpa using c1
        rw [if_pos (.inl c1)] at hrow
        simp only [V_seq, V_skip, V_block, V_region, V_draw, V_cond, brW_true, drawW, WS_nil, pairsOf, W_nil, W_cons, effOp2, effOp3, WI_nil, WI_cons, KN_seq, KN_block, KN_back, dynOK, indB, farB, freshB, freshK, freshK1, heapy, asB, effOp, effPure, effPick, effCall, giveUp, hasAll, pureV, pickV, binV, partV, eltV, loadV, iaddrV, ofC, strip, lkT, lkH, ISt.app, opI, gO, gB, allB, gval, wrapG, dstOK, setD, mentTm, mentHp, IV.ment, lendV, lendP, lent, lentP, idsV, idsL, lkHS, flat, clean, callArgs, callFn, allLent, Op.operands, Call.operands, List.append_toArray, reduceIte, reduceCtorEq, cond_true, cond_false, Bool.or_false, Bool.or_true, Bool.and_true, Bool.and_eq_true, Bool.not_true, Bool.not_false, Nat.reduceAdd, Nat.reduceLT, Nat.reduceLeDiff, Nat.reduceEqDiff, Nat.reduceBEq, Nat.zero_add, ne_eq, not_false_eq_true, true_and, and_true, and_false, and_self, false_implies, implies_true, forall_const, List.map_cons, List.map_nil, List.nil_append, List.cons_append, List.append_nil, Option.bind_some, List.getElem?_cons_zero, List.getElem?_cons_succ, List.getD_cons_zero, List.getD_cons_succ, List.length_cons, List.length_nil, List.take_succ_cons, List.take_zero, List.take_nil, List.drop_zero, ex_clo, btf, or_self, Bool.true_eq_false, Bool.false_eq_true, tab23, tab34, hN, pe, Int.toNat_natCast, lk_impl_bestPair_near_impl_far, lk_impl_bestPair_near_impl_ClosestPair_1, sp_impl_far, sp_impl_ClosestPair_1, el, g0, g1, s1, s2, hw2, hd, d1]
        repeat refine And.intro (by first | omega | (simp; done) | (simp; omega)) ?_
        exact ⟨m + 1, id, by simp only []; omega, by simp only []; omega, by simp [SLe, SLe0, convTm, convHp, conv, conv0, convL, lkT, lkH, clean, hrow]⟩
      · have d1 : decide (r.2 < 0) = false := by simpa using c1
        simp only [V_seq, V_skip, V_block, V_region, V_draw, V_cond, drawW, WS_nil, pairsOf, W_nil, W_cons, effOp2, effOp3, WI_nil, WI_cons, KN_seq, dynOK, indB, farB, freshB, freshK, freshK1, heapy, asB, effOp, effPure, effPick, effCall, giveUp, hasAll, pureV, pickV, binV, partV, eltV, loadV, iaddrV, ofC, strip, lkT, lkH, ISt.app, opI, gO, gB, allB, gval, wrapG, dstOK, setD, mentTm, mentHp, IV.ment, lendV, lendP, lent, lentP, idsV, idsL, lkHS, flat, clean, callArgs, callFn, allLent, Op.operands, Call.operands, List.append_toArray, reduceIte, reduceCtorEq, cond_true, cond_false, Bool.or_false, Bool.and_true, Bool.and_eq_true, Bool.not_true, Bool.not_false, Nat.reduceAdd, Nat.reduceLT, Nat.reduceLeDiff, Nat.reduceEqDiff, Nat.reduceBEq, Nat.zero_add, ne_eq, not_false_eq_true, beq_self_eq_true, true_and, and_true, and_false, and_self, implies_true, forall_const, List.map_cons, List.map_nil, List.nil_append, List.cons_append, List.append_nil, Option.bind_some, List.getElem?_cons_zero, List.getElem?_cons_succ, List.getD_cons_zero, List.getD_cons_succ, List.length_cons, List.length_nil, List.take_succ_cons, List.take_zero, List.take_nil, List.drop_zero, ex_clo, or_self, Bool.false_eq_true, tab23, tab34, hN, pe, Int.toNat_natCast, lk_impl_bestPair_near_impl_far, lk_impl_bestPair_near_impl_ClosestPair_1, sp_impl_far, sp_impl_ClosestPair_1, el, g0, g1, s1, s2, hd, d1]
        repeat refine And.intro (by first | omega | (simp; done) | (simp; omega)) ?_
        refine brW_some (fun h => ?_) (fun h => ?_)
        · have c2 : dis l (i, i + 1 + m) < r.2 := by simpa using h
          rw [if_pos (.inr c2)] at hrow
          simp only [V_region, W_nil, W_cons, effOp2, KN_seq, KN_block, KN_back, effOp, effPure, pureV, binV, ofC, strip, lkT, ISt.app, opI, gO, gB, allB, gval, wrapG, dstOK, setD, Op.operands, reduceIte, reduceCtorEq, Nat.reduceLT, Nat.reduceEqDiff, true_and, and_self, implies_true, List.nil_append, List.cons_append, List.append_nil, hN, hw2]
          exact ⟨m + 1, id, by simp only []; omega, by simp only []; omega, by simp [SLe, SLe0, convTm, convHp, conv, conv0, convL, lkT, lkH, clean, hrow]⟩
        · have c2 : ¬ dis l (i, i + 1 + m) < r.2 := by simpa using h
          rw [if_neg (by omega)] at hrow
          simp only [V_skip, V_region, W_nil, W_cons, effOp2, KN_seq, KN_block, KN_back, effOp, effPure, pureV, binV, ofC, strip, lkT, ISt.app, opI, gO, gB, allB, gval, wrapG, dstOK, setD, Op.operands, reduceIte, reduceCtorEq, Nat.reduceLT, Nat.reduceEqDiff, true_and, and_self, implies_true, List.nil_append, List.cons_append, List.append_nil, hN, hw2]
          exact ⟨m + 1, id, by simp only []; omega, by simp only []; omega, by simp [SLe, SLe0, convTm, convHp, conv, conv0, convL, lkT, lkH, clean, hrow]⟩
    · have hme : m = l.length - (i + 1) := by simp at h; omega
      subst hme
      rw [← mAll_end]
      simp only [V_seq, V_ret, V_exit, V_region, W_nil, W_cons, effOp2, KN_seq, KN_block, KN_back, KXr_nil, KXe_nil, KXe_seq, KXe_block, KXe_back, QE, effOp, effPure, pureV, binV, ofC, strip, lkT, lkH, ISt.app, opI, gO, gB, allB, gval, wrapG, dstOK, setD, clean, Gives, Ideal.Fin, conv, conv0, Op.operands, reduceIte, reduceCtorEq, Nat.reduceLT, Nat.reduceEqDiff, true_and, and_true, and_self, implies_true, List.nil_append, List.cons_append, List.append_nil, hN, hw]
      exact ⟨i + 1, id, by simp only []; omega, by simp only []; omega, by simp [SLe, SLe0, convTm, convHp, conv, conv0, convL, lkT, lkH, clean]⟩
  · have hie : i = l.length := by simp at h; omega
    subst hie
    simp only [V_seq, V_ret, V_exit, V_region, W_nil, W_cons, effOp2, KN_seq, KXr_nil, KXe_nil, KXe_seq, KXe_block, KXe_back, QE, effOp, effPure, pureV, strip, lkT, lkH, ISt.app, opI, gO, gB, allB, gval, wrapG, dstOK, setD, clean, Gives, Ideal.Fin, conv, conv0, Op.operands, reduceIte, reduceCtorEq, Nat.reduceLT, Nat.reduceEqDiff, and_self, implies_true, List.nil_append, List.cons_append, List.append_nil, hN]
def sp_impl_bestPair_near : PSpec := ⟨fun xs => match xs with | [.sl 2 les, .clo 30 []] => isPs les ∧ ((fun (l : List Pt) => SmL l) (toPs les)) ∧ ((fun (l : List Pt) => l.length ≤ 1000000) (toPs les)) | _ => False, fun xs => match xs with | [.sl _ les, .clo 30 []] => (fun (l : List Pt) => .tup [.num .i64 (mAll l l.length).1.1, .num .i64 (mAll l l.length).1.2, .num .i64 (mAll l l.length).2]) (toPs les) | _ => .junk, false⟩
theorem gk_impl_bestPair_near : ∀ args, sp_impl_bestPair_near.pre args → ICall Try.prog 29 args (sp_impl_bestPair_near.val args) := by
  intro args h
  unfold sp_impl_bestPair_near at h ⊢; simp only at h ⊢; split at h
  · obtain ⟨h0, h1, h2⟩ := h
    obtain ⟨l0, rfl⟩ := isP_ex h0
    simp only [toPs_enc] at *
    exact c_impl_bestPair_near _ h1 h2
  · exact h.elim
theorem en_impl_bestPair_near : Enters Try.prog 29 := enters_of Try.func29 (by kernel_rfl) rfl

def g_impl_ClosestPair : List (Nat × PSpec) := [(28, sp_impl_listOk), (29, sp_impl_bestPair_near)]
theorem gok_impl_ClosestPair : GOK Try.prog g_impl_ClosestPair := gok_cons gk_impl_listOk en_impl_listOk (gok_cons gk_impl_bestPair_near en_impl_bestPair_near (gok0))
theorem lk_impl_ClosestPair_impl_listOk : lkG g_impl_ClosestPair 28 = sp_impl_listOk := rfl
theorem lk_impl_ClosestPair_impl_bestPair_near : lkG g_impl_ClosestPair 29 = sp_impl_bestPair_near := rfl
def h_impl_ClosestPair : List (Nat × HSpec) := []
theorem hok_impl_ClosestPair : HOK Try.prog h_impl_ClosestPair := hok0
theorem c_impl_ClosestPair (l : List Pt) (hk : okPs l = true) : ICall Try.prog 9 [.sl 2 (encPs l)] (.tup [.num .i64 (mAll l l.length).1.1, .num .i64 (mAll l l.length).1.2, .num .i64 (mAll l l.length).2]) := by
  refine icall_V (G := g_impl_ClosestPair) (H := []) [] tabOK mixed gok_impl_ClosestPair hok_impl_ClosestPair Try.func9 rfl Try.ntmps9 Try.results9 rfl (by kernel_rfl) fun F hN hlen => ?_
  have hn := okPs_len hk
  have hm := okPs_sm hk
  have hl : l.length ≤ 1000000 := by omega
  simp only [V_seq, V_skip, V_ret, V_region, V_cond, brW_false, W_nil, W_cons, effOp2, KN_seq, KXr_nil, QE, asB, effOp, effPure, effCall, giveUp, hasAll, pureV, ofC, strip, lkT, lkH, ISt.app, opI, gO, gB, allB, gval, wrapG, dstOK, setD, lendV, lendP, lent, lentP, lentPs, idsV, idsL, lkHS, flat, flatL, clean, cleanL, callArgs, callFn, allLent, enumT, Gives, Ideal.Fin, conv, conv0, Op.operands, reduceIte, reduceCtorEq, cond_true, Bool.or_false, Bool.and_true, Bool.not_true, Nat.reduceAdd, Nat.reduceLT, Nat.reduceEqDiff, Nat.zero_add, and_self, implies_true, List.map_cons, List.map_nil, List.nil_append, List.cons_append, List.append_nil, List.getD_cons_zero, List.getD_cons_succ, List.length_cons, List.length_nil, ex_clo, or_self, hN, isPs_enc, toPs_enc, lk_impl_ClosestPair_impl_listOk, lk_impl_ClosestPair_impl_bestPair_near, sp_impl_listOk, sp_impl_bestPair_near, hk, hm, hl]
def sp_impl_ClosestPair : PSpec := ⟨fun xs => match xs with | [.sl 2 les] => isPs les ∧ ((fun (l : List Pt) => okPs l = true) (toPs les)) | _ => False, fun xs => match xs with | [.sl _ les] => (fun (l : List Pt) => .tup [.num .i64 (mAll l l.length).1.1, .num .i64 (mAll l l.length).1.2, .num .i64 (mAll l l.length).2]) (toPs les) | _ => .junk, false⟩
theorem gk_impl_ClosestPair : ∀ args, sp_impl_ClosestPair.pre args → ICall Try.prog 9 args (sp_impl_ClosestPair.val args) := by
  intro args h
  unfold sp_impl_ClosestPair at h ⊢; simp only at h ⊢; split at h
  · obtain ⟨h0, h1⟩ := h
    obtain ⟨l0, rfl⟩ := isP_ex h0
    simp only [toPs_enc] at *
    exact c_impl_ClosestPair _ h1
  · exact h.elim
theorem en_impl_ClosestPair : Enters Try.prog 9 := enters_of Try.func9 (by kernel_rfl) rfl

def g_impl_SquaredDistance : List (Nat × PSpec) := [(31, sp_impl_allValid), (32, sp_impl_far)]
theorem gok_impl_SquaredDistance : GOK Try.prog g_impl_SquaredDistance := gok_cons gk_impl_allValid en_impl_allValid (gok_cons gk_impl_far en_impl_far (gok0))
theorem lk_impl_SquaredDistance_impl_allValid : lkG g_impl_SquaredDistance 31 = sp_impl_allValid := rfl
theorem lk_impl_SquaredDistance_impl_far : lkG g_impl_SquaredDistance 32 = sp_impl_far := rfl
def h_impl_SquaredDistance : List (Nat × HSpec) := []
theorem hok_impl_SquaredDistance : HOK Try.prog h_impl_SquaredDistance := hok0
theorem c_impl_SquaredDistance (a : Pt) (b : Pt) (ha : okP a = true) (hb : okP b = true) : ICall Try.prog 10 [encP a, encP b] (.num .i64 (sqd a b)) := by
  refine icall_V (G := g_impl_SquaredDistance) (H := []) [] tabOK mixed gok_impl_SquaredDistance hok_impl_SquaredDistance Try.func10 rfl Try.ntmps10 Try.results10 rfl (by kernel_rfl) fun F hN hlen => ?_
  have s1 := okP_sm ha
  have s2 := okP_sm hb
  simp only [V_seq, V_skip, V_ret, V_region, V_cond, brW_false, W_nil, W_cons, effOp2, KN_seq, KXr_nil, QE, asB, effOp, effPure, effNew, effBox, effBuildSlice, effFrz, frz, tmpsOf, effCall, giveUp, hasAll, Option.isSome_some, skipE, pureV, partV, loadV, solid, IV.cells, ofC, strip, lkT, lkH, ISt.app, opI, gO, gB, allB, gval, wrapG, dstOK, setD, mentTm, mentHp, IV.ment, IV.mentL, partsL, eltsI, eltI, oneI, noId', lendV, lendP, lent, lentP, idsV, idsL, lkHS, flat, clean, callArgs, callFn, allLent, enumT, Gives, Ideal.Fin, conv, conv0, Op.operands, reduceIte, reduceCtorEq, cond_true, Bool.or_false, Bool.and_true, Bool.not_true, Nat.reduceAdd, Nat.reduceMul, Nat.reduceLT, Nat.reduceLeDiff, Nat.reduceEqDiff, Nat.reduceBEq, Nat.zero_add, ne_eq, not_false_eq_true, and_false, and_self, implies_true, List.map_cons, List.map_nil, List.nil_append, List.cons_append, List.append_nil, List.all_cons, List.all_nil, List.getD_cons_zero, List.length_cons, List.length_nil, List.take_succ_cons, List.take_nil, List.drop_zero, ex_clo, or_self, tab23, tab34, hN, pe, encP, isPs_nil, toPs_nil, isPs_cons, toPs_cons, lk_impl_SquaredDistance_impl_allValid, lk_impl_SquaredDistance_impl_far, sp_impl_allValid, sp_impl_far, ha, hb, s1, s2, List.all_cons, List.all_nil]
def sp_impl_SquaredDistance : PSpec := ⟨fun xs => match xs with | [.agg [.num .i64 a1, .num .i64 a2], .agg [.num .i64 b1, .num .i64 b2]] => ((fun (a : Pt) (b : Pt) => okP a = true) (a1, a2) (b1, b2)) ∧ ((fun (a : Pt) (b : Pt) => okP b = true) (a1, a2) (b1, b2)) | _ => False, fun xs => match xs with | [.agg [.num _ a1, .num _ a2], .agg [.num _ b1, .num _ b2]] => (fun (a : Pt) (b : Pt) => .num .i64 (sqd a b)) (a1, a2) (b1, b2) | _ => .junk, false⟩
theorem gk_impl_SquaredDistance : ∀ args, sp_impl_SquaredDistance.pre args → ICall Try.prog 10 args (sp_impl_SquaredDistance.val args) := by
  intro args h
  unfold sp_impl_SquaredDistance at h ⊢; simp only at h ⊢; split at h
  · obtain ⟨h0, h1⟩ := h
    simp only [toPs_enc] at *
    exact c_impl_SquaredDistance (_, _) (_, _) h0 h1
  · exact h.elim
theorem en_impl_SquaredDistance : Enters Try.prog 10 := enters_of Try.func10 (by kernel_rfl) rfl

def drawDe (b : List Int) : List Pt := (aSites (b.take 2000) 0).1
def g_spec_DrawDelaunay : List (Nat × PSpec) := []
theorem gok_spec_DrawDelaunay : GOK Try.prog g_spec_DrawDelaunay := gok0
def h_spec_DrawDelaunay : List (Nat × HSpec) := [(21, hs_spec_newReader), (20, hs_spec_anySites)]
theorem hok_spec_DrawDelaunay : HOK Try.prog h_spec_DrawDelaunay := hok_cons hk_spec_newReader en_spec_newReader (hok_cons hk_spec_anySites en_spec_anySites (hok0))
theorem lh_spec_DrawDelaunay_spec_newReader : lkHS h_spec_DrawDelaunay 21 = some hs_spec_newReader := rfl
theorem lh_spec_DrawDelaunay_spec_anySites : lkHS h_spec_DrawDelaunay 20 = some hs_spec_anySites := rfl
theorem c_spec_DrawDelaunay (b : List Int) (hb : ∀ x ∈ b, 0 ≤ x ∧ x < 256) (hsz : b.length ≤ 1048576) : ICall Try.prog 5 [.sl 1 (encBy b)] (.sl 2 (encPs (drawDe b))) := by
  refine icall_V (G := g_spec_DrawDelaunay) (H := h_spec_DrawDelaunay) [] tabOK mixed gok_spec_DrawDelaunay hok_spec_DrawDelaunay Try.func5 rfl Try.ntmps5 Try.results5 rfl (by kernel_rfl) fun F hN hlen => ?_
  have hbt := bytes_take hb
  have hd : (aSites (b.take 2000) 0).1 = drawDe b := rfl
  obtain ⟨g1, g2⟩ := aSites_bd hbt (Nat.zero_le 700000)
  rw [hd] at g1
  obtain ⟨P, hP⟩ : ∃ P, drawDe b = P := ⟨_, rfl⟩
  rw [hP] at g1 hd
  have eP := len_encPs P
  simp only [V_seq, V_ret, V_region, W_nil, W_cons, effOp2, KN_seq, KXr_nil, QE, effOp, effPure, Option.isSome_some, skipE, pureV, ofC, strip, lkT, lkH, ISt.app, opI, gO, gB, allB, gval, wrapG, dstOK, setD, mentTm, mentHp, IV.ment, IV.mentL, lendV, lendP, lent, lentP, idsV, idsL, clean, callArgs, callFn, enumT, Gives, Ideal.Fin, conv, conv0, convL, IBlk.shape, Op.operands, reduceIte, reduceCtorEq, cond_true, cond_false, Bool.or_false, Bool.and_true, Bool.not_false, Nat.reduceAdd, Nat.reduceSub, Nat.reduceMul, Nat.reduceLT, Nat.reduceLeDiff, Nat.reduceEqDiff, Nat.add_zero, not_false_eq_true, beq_self_eq_true, and_false, and_self, implies_true, List.map_cons, List.map_nil, List.nil_append, List.cons_append, List.append_nil, List.all_nil, Option.map_some, Option.map_none, List.getD_cons_zero, ex_clo, Bool.true_eq_false, Bool.false_eq_true, hN, Int.toNat_natCast, isBy_enc, toBy_enc, SLe0, convTm, convHp, convB, sm, effH, mkHC0, mkHC1, lendM, lentM, lentI, allHere, addIds, idsB, flatIds, reach, posn, renV, renL, renB, renH, numB, subHp, fwd, bk, bwd, nones, keyOK, noSl, noSlL, flatBs, List.contains, List.elem, Option.isSome_some, List.nodup_nil, List.nodup_cons, List.not_mem_nil, or_false, Option.getD_some, lh_spec_DrawDelaunay_spec_newReader, lh_spec_DrawDelaunay_spec_anySites, hs_spec_newReader, hs_spec_anySites, rdr, hsz, hbt, hd, hP]
def sp_spec_DrawDelaunay : PSpec := ⟨fun xs => match xs with | [.sl 1 bes] => isBy bes ∧ ((fun (b : List Int) => ∀ x ∈ b, 0 ≤ x ∧ x < 256) (toIs bes)) ∧ ((fun (b : List Int) => b.length ≤ 1048576) (toIs bes)) | _ => False, fun xs => match xs with | [.sl _ bes] => (fun (b : List Int) => .sl 2 (encPs (drawDe b))) (toIs bes) | _ => .junk, false⟩
theorem gk_spec_DrawDelaunay : ∀ args, sp_spec_DrawDelaunay.pre args → ICall Try.prog 5 args (sp_spec_DrawDelaunay.val args) := by
  intro args h
  unfold sp_spec_DrawDelaunay at h ⊢; simp only at h ⊢; split at h
  · obtain ⟨h0, h1, h2⟩ := h
    obtain ⟨l0, rfl⟩ := isBy_ex h0
    simp only [toBy_enc] at *
    exact c_spec_DrawDelaunay _ h1 h2
  · exact h.elim
theorem en_spec_DrawDelaunay : Enters Try.prog 5 := enters_of Try.func5 (by kernel_rfl) rfl

theorem del_near {l : List Pt} (hs : siteB l = true) (h0 : (delV l).length ≠ 0) : ∃ n, (mAll l l.length).2 = n ∧ ∃ i, i < (delV l).length ∧ (sqd (pI l (tAt (delV l) i).1) (pI l (tAt (delV l) i).2.1) = n ∨ sqd (pI l (tAt (delV l) i).2.1) (pI l (tAt (delV l) i).2.2) = n ∨ sqd (pI l (tAt (delV l) i).2.2) (pI l (tAt (delV l) i).1) = n) := by
  obtain ⟨_, ha, _⟩ := site_facts hs
  obtain ⟨d1, d2, d3⟩ := delV_good hs
  refine ⟨_, rfl, ?_⟩
  have h0' : sweepP l ≠ [] := by rintro e; rw [d3, e] at h0; exact h0 rfl
  have hc : ¬ l.length < 2 := by intro c; unfold sweepP at h0'; rw [if_pos c] at h0'; exact h0' rfl
  obtain ⟨f1, f2, f3, f4⟩ := fstN_facts (l := l) (by omega)
  have esw : sweepP l = (swp l (fstN l) (l.length - fstN l)).1 := by unfold sweepP; rw [if_neg hc]
  have q : fstN l < l.length := by
    rcases Nat.lt_or_ge (fstN l) l.length with q | q
    · exact q
    · rw [esw, show l.length - fstN l = 0 by omega] at h0'
      exact absurd rfl h0'
  obtain ⟨a, b, a1, b1, ab, e1, hmin⟩ := near_pair (l := l) (by omega)
  obtain ⟨t, ht, hh⟩ := near_side ha f1 q f3 (f4 q) a1 b1 ab hmin
  rw [← esw, ← d1] at ht
  obtain ⟨i, i1, i2⟩ := List.getElem_of_mem ht
  refine ⟨i, i1, ?_⟩
  have : tAt (delV l) i = t := by simp [tAt, List.getD, i1, i2]
  rw [this, e1]
  exact hh
def g_laws_FnNearestEdge : List (Nat × PSpec) := [(5, sp_spec_DrawDelaunay), (6, sp_impl_Delaunay), (8, sp_spec_Delaunay), (7, sp_laws_equalTriangles), (9, sp_impl_ClosestPair), (10, sp_impl_SquaredDistance)]
theorem gok_laws_FnNearestEdge : GOK Try.prog g_laws_FnNearestEdge := gok_cons gk_spec_DrawDelaunay en_spec_DrawDelaunay (gok_cons gk_impl_Delaunay en_impl_Delaunay (gok_cons gk_spec_Delaunay en_spec_Delaunay (gok_cons gk_laws_equalTriangles en_laws_equalTriangles (gok_cons gk_impl_ClosestPair en_impl_ClosestPair (gok_cons gk_impl_SquaredDistance en_impl_SquaredDistance (gok0))))))
theorem lk_laws_FnNearestEdge_spec_DrawDelaunay : lkG g_laws_FnNearestEdge 5 = sp_spec_DrawDelaunay := rfl
theorem lk_laws_FnNearestEdge_impl_Delaunay : lkG g_laws_FnNearestEdge 6 = sp_impl_Delaunay := rfl
theorem lk_laws_FnNearestEdge_spec_Delaunay : lkG g_laws_FnNearestEdge 8 = sp_spec_Delaunay := rfl
theorem lk_laws_FnNearestEdge_laws_equalTriangles : lkG g_laws_FnNearestEdge 7 = sp_laws_equalTriangles := rfl
theorem lk_laws_FnNearestEdge_impl_ClosestPair : lkG g_laws_FnNearestEdge 9 = sp_impl_ClosestPair := rfl
theorem lk_laws_FnNearestEdge_impl_SquaredDistance : lkG g_laws_FnNearestEdge 10 = sp_impl_SquaredDistance := rfl
def h_laws_FnNearestEdge : List (Nat × HSpec) := []
theorem hok_laws_FnNearestEdge : HOK Try.prog h_laws_FnNearestEdge := hok0
theorem c_laws_FnNearestEdge (b : List Int) (hb : ∀ x ∈ b, 0 ≤ x ∧ x < 256) : ICall Try.prog 3 [.sl 1 (encBy b)] (.bool true) := by
  refine icall_V (G := g_laws_FnNearestEdge) (H := []) [(12, [(0, 10), (1, 10), (2, 10), (3, 10), (5, 10), (6, 10), (7, 10), (8, 10), (10, 11), (10, 14), (10, 15), (10, 16), (10, 17), (10, 18), (10, 19), (10, 20), (10, 21), (10, 22), (10, 23), (0, 24), (1, 24), (2, 24), (3, 24), (4, 24), (5, 24), (6, 24), (7, 24), (8, 24), (9, 24), (10, 24), (11, 24), (12, 24), (14, 24), (15, 24), (16, 24), (17, 24), (19, 24), (20, 24), (21, 24), (22, 24), (10, 25), (24, 25), (10, 26), (10, 27), (24, 27), (10, 28), (10, 29), (24, 29), (10, 30), (24, 30), (10, 31), (24, 31), (10, 32), (24, 32), (10, 33), (24, 33), (10, 34), (24, 34), (10, 35), (24, 35), (10, 36), (24, 36), (10, 37), (24, 37), (10, 38), (24, 38), (0, 39), (1, 39), (2, 39), (3, 39), (4, 39), (5, 39), (6, 39), (7, 39), (8, 39), (9, 39), (10, 39), (11, 39), (12, 39), (13, 39), (14, 39), (15, 39), (16, 39), (17, 39), (18, 39), (19, 39), (20, 39), (21, 39), (22, 39), (23, 39), (24, 39), (25, 39), (26, 39), (27, 39), (29, 39), (30, 39), (31, 39), (32, 39), (34, 39), (35, 39), (36, 39), (37, 39), (10, 40), (24, 40), (39, 40), (10, 41), (24, 41), (10, 42), (24, 42), (39, 42)])] tabOK mixed gok_laws_FnNearestEdge hok_laws_FnNearestEdge Try.func3 rfl Try.ntmps3 Try.results3 rfl (by kernel_rfl) fun F hN hlen => ?_
  have el := len_encBy b
  have hself : ∀ x : List Tr, (x == x) = true := fun x => by simp
  cases d1 : decide (1048576 < (b.length : Int)) with
  | true => simp only [V_seq, V_ret, V_region, V_cond, brW_true, W_nil, W_cons, effOp2, KN_seq, KXr_nil, KXr_seq, QE, asB, effOp, effPure, pureV, binV, lenV, ofC, strip, lkT, lkH, ISt.app, opI, gO, gB, allB, gval, wrapG, dstOK, setD, clean, enumT, Gives, Ideal.Fin, conv, conv0, Op.operands, Call.operands, List.append_toArray, reduceIte, reduceCtorEq, Nat.reduceLT, Nat.reduceEqDiff, ne_eq, not_false_eq_true, and_self, implies_true, List.nil_append, List.cons_append, List.append_nil, tab22, hN, el, d1]
  | false =>
    have hsz : b.length ≤ 1048576 := by simp at d1; omega
    obtain ⟨P, hP⟩ : ∃ P, drawDe b = P := ⟨_, rfl⟩
    obtain ⟨L, hL⟩ : ∃ L, delV P = L := ⟨_, rfl⟩
    have eP := len_encPs P
    have eL := len_encTs L
    cases d2 : ((L.length : Int) == 0) with
    | true =>
      simp only [V_seq, V_skip, V_ret, V_region, V_cond, brW_true, brW_false, W_nil, W_cons, effOp2, KN_seq, KXr_nil, KXr_seq, QE, asB, effOp, effPure, effPick, effCall, giveUp, hasAll, pureV, pickV, binV, lenV, ofC, strip, lkT, lkH, ISt.app, opI, gO, gB, allB, gval, wrapG, dstOK, setD, lendV, lendP, lent, lentP, idsV, idsL, lkHS, flat, clean, callArgs, callFn, allLent, enumT, Gives, Ideal.Fin, conv, conv0, Op.operands, Call.operands, List.append_toArray, reduceIte, reduceCtorEq, cond_true, cond_false, Bool.or_false, Bool.not_true, Nat.reduceLT, Nat.reduceEqDiff, ne_eq, not_false_eq_true, beq_self_eq_true, true_and, and_true, and_self, implies_true, forall_const, List.map_cons, List.map_nil, List.nil_append, List.cons_append, List.append_nil, Option.bind_some, List.getElem?_cons_zero, List.getElem?_cons_succ, ex_clo, or_true, or_self, Bool.false_eq_true, tab22, tab25, hN, isPs_enc, toPs_enc, isTs_enc, toTs_enc, isBy_enc, toBy_enc, lk_laws_FnNearestEdge_spec_DrawDelaunay, lk_laws_FnNearestEdge_impl_Delaunay, lk_laws_FnNearestEdge_spec_Delaunay, lk_laws_FnNearestEdge_laws_equalTriangles, sp_spec_DrawDelaunay, sp_impl_Delaunay, sp_spec_Delaunay, sp_laws_equalTriangles, el, d1, hsz, hP, hL, eL, d2]
      exact hb
    | false =>
      have hs : siteB P = true := by
        cases h : siteB P with
        | true => rfl
        | false => rw [delV, h] at hL; subst hL; simp at d2
      have hk := (site_facts hs).1
      obtain ⟨_, hg, _⟩ := delV_good hs
      have hlen := sweep_len hs
      obtain ⟨n, hn, hnear⟩ := del_near hs (by rw [hL]; simpa using d2)
      rw [hL] at hg hnear
      have hlL : L.length ≤ 1000000 := by rw [← hL, (delV_good hs).2.2]; exact hlen
      have h20 := okPs_len hk
      have hpt : ∀ j, j < P.length → okP (pAt P j) = true := fun j hj => by
        simp only [okPs, Bool.and_eq_true, List.all_eq_true] at hk
        exact hk.1 _ (by rw [pAt, List.getD, List.getElem?_eq_getElem hj]; exact List.getElem_mem hj)
      have hta : ∀ i, i < L.length → goodT P.length P (tAt L i) := fun i hi => hg _ (t3_mem hi)
      obtain ⟨m1, hm1⟩ : ∃ m, (mAll P P.length).1.1 = m := ⟨_, rfl⟩
      obtain ⟨m2, hm2⟩ : ∃ m, (mAll P P.length).1.2 = m := ⟨_, rfl⟩
      simp only [V_seq, V_skip, V_block, V_region, V_cond, brW_false, W_nil, W_cons, effOp2, KN_seq, asB, effOp, effPure, effPick, effCall, giveUp, hasAll, pureV, pickV, binV, lenV, ofC, strip, lkT, lkH, ISt.app, opI, gO, gB, allB, gval, wrapG, dstOK, setD, lendV, lendP, lent, lentP, idsV, idsL, lkHS, flat, flatL, clean, cleanL, callArgs, callFn, allLent, enumT, Op.operands, Call.operands, List.append_toArray, reduceIte, reduceCtorEq, cond_true, cond_false, Bool.or_false, Bool.and_true, Bool.not_true, Nat.reduceAdd, Nat.reduceLT, Nat.reduceEqDiff, Nat.zero_add, ne_eq, not_false_eq_true, beq_self_eq_true, true_and, and_true, and_self, implies_true, forall_const, List.map_cons, List.map_nil, List.nil_append, List.cons_append, List.append_nil, Option.bind_some, List.getElem?_cons_zero, List.getElem?_cons_succ, List.getD_cons_zero, List.getD_cons_succ, List.length_cons, List.length_nil, ex_clo, or_true, or_self, Bool.false_eq_true, tab22, tab25, hN, isPs_enc, toPs_enc, isTs_enc, toTs_enc, isBy_enc, toBy_enc, lk_laws_FnNearestEdge_spec_DrawDelaunay, lk_laws_FnNearestEdge_impl_Delaunay, lk_laws_FnNearestEdge_spec_Delaunay, lk_laws_FnNearestEdge_laws_equalTriangles, lk_laws_FnNearestEdge_impl_ClosestPair, sp_spec_DrawDelaunay, sp_impl_Delaunay, sp_spec_Delaunay, sp_laws_equalTriangles, sp_impl_ClosestPair, el, d1, hsz, hP, hL, eL, d2, hk, hm1, hm2, hn]
      refine ⟨hb, ?_⟩
      refine V_loop (α := Nat) ⟨tabOK, mixed, gok_laws_FnNearestEdge, hok_laws_FnNearestEdge⟩ (by kernel_rfl) (fun i => i ≤ L.length ∧ ∀ j, j < i → ¬ (sqd (pI P (tAt L j).1) (pI P (tAt L j).2.1) = n ∨ sqd (pI P (tAt L j).2.1) (pI P (tAt L j).2.2) = n ∨ sqd (pI P (tAt L j).2.2) (pI P (tAt L j).1) = n)) (fun i => ⟨[(8, .num .i64 i), (7, .num .i64 n), (4, .sl 3 (encTs L)), (3, .sl 2 (encPs P))], []⟩) (fun i => L.length - i) 0 id ⟨Nat.zero_le _, fun j hj => absurd hj (Nat.not_lt_zero j)⟩ (by simp [SLe, SLe0, convTm, convHp, conv, conv0, lkT, lkH, clean]) ?_
      rintro i ⟨hi, hj⟩
      simp only [V_seq, V_region, V_cond, W_nil, W_cons, effOp2, KN_seq, asB, effOp, effPure, pureV, binV, lenV, strip, lkT, ISt.app, opI, gO, gB, allB, gval, wrapG, dstOK, setD, Op.operands, Call.operands, List.append_toArray, reduceIte, reduceCtorEq, Nat.reduceLT, Nat.reduceEqDiff, ne_eq, not_false_eq_true, true_and, and_self, implies_true, List.nil_append, List.cons_append, List.append_nil, tab25, hN, eL]
      refine brW_some (fun h => ?_) (fun h => ?_)
      · have hi' : i < L.length := by simpa using h
        have hw := wr_succ hi' (by rw [maxLen_eq]; omega)
        have g0 := getD_encTs hi'
        obtain ⟨⟨a0, a1⟩, ⟨b0, b1⟩, ⟨c0, c1⟩, htp⟩ := hta i hi'
        have hstep : ¬ (sqd (pI P (tAt L i).1) (pI P (tAt L i).2.1) = n ∨ sqd (pI P (tAt L i).2.1) (pI P (tAt L i).2.2) = n ∨ sqd (pI P (tAt L i).2.2) (pI P (tAt L i).1) = n) → ∀ j, j < i + 1 → ¬ (sqd (pI P (tAt L j).1) (pI P (tAt L j).2.1) = n ∨ sqd (pI P (tAt L j).2.1) (pI P (tAt L j).2.2) = n ∨ sqd (pI P (tAt L j).2.2) (pI P (tAt L j).1) = n) := fun hn j hj' => by
          rcases Nat.lt_succ_iff_lt_or_eq.1 hj' with q | rfl
          · exact hj j q
          · exact hn
        obtain ⟨t, ht⟩ : ∃ t, tAt L i = t := ⟨_, rfl⟩
        rw [ht] at g0 a0 a1 b0 b1 c0 c1 hstep
        obtain ⟨t1', t2', t3'⟩ := t
        simp only [] at a0 a1 b0 b1 c0 c1
        obtain ⟨x, rfl⟩ : ∃ n : Nat, t1' = n := ⟨t1'.toNat, by omega⟩
        obtain ⟨y, rfl⟩ : ∃ n : Nat, t2' = n := ⟨t2'.toNat, by omega⟩
        obtain ⟨z, rfl⟩ : ∃ n : Nat, t3' = n := ⟨t3'.toNat, by omega⟩
        have g1 := getD_encPs (l := P) (i := x) (by omega)
        have g2 := getD_encPs (l := P) (i := y) (by omega)
        have g3 := getD_encPs (l := P) (i := z) (by omega)
        have o1 := hpt x (by omega)
        have o2 := hpt y (by omega)
        have o3 := hpt z (by omega)
        simp only [pI, Int.toNat_natCast] at hstep
        obtain ⟨A, hA⟩ : ∃ A, pA P x = A := ⟨_, rfl⟩
        obtain ⟨B, hB⟩ : ∃ B, pA P y = B := ⟨_, rfl⟩
        obtain ⟨C, hC⟩ : ∃ C, pA P z = C := ⟨_, rfl⟩
        have hA' : pAt P x = A := hA
        have hB' : pAt P y = B := hB
        have hC' : pAt P z = C := hC
        rw [hA, hB, hC] at hstep
        rw [hA'] at g1 o1
        rw [hB'] at g2 o2
        rw [hC'] at g3 o3
        cases d3 : (sqd A B == n) with
        | true =>
          simp only [V_seq, V_skip, V_ret, V_block, V_region, V_draw, V_cond, brW_true, drawW, WS_nil, pairsOf, W_nil, W_cons, effOp2, effOp3, WI_nil, WI_cons, KN_seq, KXr_nil, KXr_seq, KXr_block, KXr_back, QE, dynOK, indB, farB, freshB, freshK, freshK1, heapy, asB, effOp, effPure, effPick, effNew, effAlloc, effStore, effCall, giveUp, hasAll, skipE, pureV, pickV, storeV, binV, partV, eltV, loadV, faddrV, iaddrV, over, solid, IV.cells, ofC, strip, lkT, lkH, ISt.app, opI, gO, gB, allB, gval, wrapG, dstOK, setD, mentTm, mentHp, IV.ment, IV.mentL, oneI, lendV, lendP, lent, lentP, idsV, idsL, lkHS, flat, clean, callArgs, callFn, allLent, Gives, Ideal.Fin, conv, conv0, IBlk.shape, Op.operands, Call.operands, List.append_toArray, reduceIte, reduceCtorEq, cond_true, cond_false, Bool.or_false, Bool.or_true, Bool.and_true, Bool.and_eq_true, Bool.not_true, Bool.not_false, Nat.reduceAdd, Nat.reduceLT, Nat.reduceLeDiff, Nat.reduceEqDiff, Nat.reduceBEq, Nat.add_zero, Nat.zero_add, ne_eq, not_false_eq_true, true_and, and_true, false_and, and_false, and_self, false_implies, implies_true, forall_const, List.map_cons, List.map_nil, List.nil_append, List.cons_append, List.append_nil, List.all_cons, List.all_nil, Option.map_some, Option.bind_some, List.getElem?_cons_zero, List.getElem?_cons_succ, List.getD_cons_zero, List.getD_cons_succ, List.length_cons, List.length_nil, List.take_succ_cons, List.take_zero, List.take_nil, List.drop_succ_cons, List.drop_zero, List.drop_nil, ex_clo, btf, or_self, Bool.true_eq_false, Bool.false_eq_true, tab3, tab23, tab25, tab31, tab34, hN, pe, Int.toNat_natCast, lk_laws_FnNearestEdge_impl_SquaredDistance, sp_impl_SquaredDistance, eL, eP, g0, g1, g2, g3, o1, o2, o3, d3, Int.toNat_natCast]
          repeat first | refine And.intro (by omega) ?_ | omega
        | false =>
          cases d4 : (sqd B C == n) with
          | true =>
            simp only [V_seq, V_skip, V_ret, V_block, V_region, V_draw, V_cond, brW_true, drawW, WS_nil, pairsOf, W_nil, W_cons, effOp2, effOp3, WI_nil, WI_cons, KN_seq, KXr_nil, KXr_seq, KXr_block, KXr_back, QE, dynOK, indB, farB, freshB, freshK, freshK1, heapy, asB, effOp, effPure, effPick, effNew, effAlloc, effStore, effCall, giveUp, hasAll, skipE, pureV, pickV, storeV, binV, partV, eltV, loadV, faddrV, iaddrV, over, solid, IV.cells, ofC, strip, lkT, lkH, ISt.app, opI, gO, gB, allB, gval, wrapG, dstOK, setD, mentTm, mentHp, IV.ment, IV.mentL, oneI, lendV, lendP, lent, lentP, idsV, idsL, lkHS, flat, clean, callArgs, callFn, allLent, Gives, Ideal.Fin, conv, conv0, IBlk.shape, Op.operands, Call.operands, List.append_toArray, reduceIte, reduceCtorEq, cond_true, cond_false, Bool.or_false, Bool.or_true, Bool.and_true, Bool.and_eq_true, Bool.not_true, Bool.not_false, Nat.reduceAdd, Nat.reduceLT, Nat.reduceLeDiff, Nat.reduceEqDiff, Nat.reduceBEq, Nat.add_zero, Nat.zero_add, ne_eq, not_false_eq_true, beq_self_eq_true, true_and, and_true, false_and, and_false, and_self, false_implies, implies_true, forall_const, List.map_cons, List.map_nil, List.nil_append, List.cons_append, List.append_nil, List.all_cons, List.all_nil, Option.map_some, Option.bind_some, List.getElem?_cons_zero, List.getElem?_cons_succ, List.getD_cons_zero, List.getD_cons_succ, List.length_cons, List.length_nil, List.take_succ_cons, List.take_zero, List.take_nil, List.drop_succ_cons, List.drop_zero, List.drop_nil, ex_clo, btf, or_self, Bool.true_eq_false, Bool.false_eq_true, tab3, tab23, tab25, tab31, tab34, hN, pe, Int.toNat_natCast, lk_laws_FnNearestEdge_impl_SquaredDistance, sp_impl_SquaredDistance, eL, eP, g0, g1, g2, g3, o1, o2, o3, d3, d4, Int.toNat_natCast]
            repeat first | refine And.intro (by omega) ?_ | omega
          | false =>
            cases d5 : (sqd C A == n) with
            | true =>
              simp only [V_seq, V_skip, V_ret, V_block, V_region, V_draw, V_cond, brW_true, drawW, WS_nil, pairsOf, W_nil, W_cons, effOp2, effOp3, WI_nil, WI_cons, KN_seq, KXr_nil, KXr_seq, KXr_block, KXr_back, QE, dynOK, indB, farB, freshB, freshK, freshK1, heapy, asB, effOp, effPure, effPick, effNew, effAlloc, effStore, effCall, giveUp, hasAll, skipE, pureV, pickV, storeV, binV, partV, eltV, loadV, faddrV, iaddrV, over, solid, IV.cells, ofC, strip, lkT, lkH, ISt.app, opI, gO, gB, allB, gval, wrapG, dstOK, setD, mentTm, mentHp, IV.ment, IV.mentL, oneI, lendV, lendP, lent, lentP, idsV, idsL, lkHS, flat, clean, callArgs, callFn, allLent, Gives, Ideal.Fin, conv, conv0, IBlk.shape, Op.operands, Call.operands, List.append_toArray, reduceIte, reduceCtorEq, cond_true, cond_false, Bool.or_false, Bool.and_true, Bool.and_eq_true, Bool.not_true, Bool.not_false, Nat.reduceAdd, Nat.reduceLT, Nat.reduceLeDiff, Nat.reduceEqDiff, Nat.reduceBEq, Nat.add_zero, Nat.zero_add, ne_eq, not_false_eq_true, beq_self_eq_true, true_and, and_true, and_false, and_self, implies_true, forall_const, List.map_cons, List.map_nil, List.nil_append, List.cons_append, List.append_nil, List.all_cons, List.all_nil, Option.map_some, Option.bind_some, List.getElem?_cons_zero, List.getElem?_cons_succ, List.getD_cons_zero, List.getD_cons_succ, List.length_cons, List.length_nil, List.take_succ_cons, List.take_zero, List.take_nil, List.drop_succ_cons, List.drop_zero, List.drop_nil, ex_clo, or_self, Bool.false_eq_true, tab3, tab23, tab25, tab31, tab34, hN, pe, Int.toNat_natCast, lk_laws_FnNearestEdge_impl_SquaredDistance, sp_impl_SquaredDistance, eL, eP, g0, g1, g2, g3, o1, o2, o3, d3, d4, d5, Int.toNat_natCast]
              repeat first | refine And.intro (by omega) ?_ | omega
            | false =>
              have hno := hstep (by rw [beq_eq_false_iff_ne] at d3 d4 d5; rintro (q | q | q) <;> contradiction)
              simp only [V_seq, V_skip, V_block, V_region, V_draw, V_cond, brW_false, drawW, WS_nil, pairsOf, W_nil, W_cons, effOp2, effOp3, WI_nil, WI_cons, KN_seq, KN_block, KN_back, dynOK, indB, farB, freshB, freshK, freshK1, heapy, asB, effOp, effPure, effPick, effNew, effAlloc, effStore, effCall, giveUp, hasAll, skipE, pureV, pickV, storeV, binV, partV, eltV, loadV, faddrV, iaddrV, over, solid, IV.cells, ofC, strip, lkT, lkH, ISt.app, opI, gO, gB, allB, gval, wrapG, dstOK, setD, mentTm, mentHp, IV.ment, IV.mentL, oneI, lendV, lendP, lent, lentP, idsV, idsL, lkHS, flat, clean, callArgs, callFn, allLent, IBlk.shape, Op.operands, Call.operands, List.append_toArray, reduceIte, reduceCtorEq, cond_true, cond_false, Bool.or_false, Bool.and_true, Bool.and_eq_true, Bool.not_true, Bool.not_false, Nat.reduceAdd, Nat.reduceLT, Nat.reduceLeDiff, Nat.reduceEqDiff, Nat.reduceBEq, Nat.add_zero, Nat.zero_add, ne_eq, not_false_eq_true, beq_self_eq_true, true_and, and_true, and_false, and_self, implies_true, forall_const, List.map_cons, List.map_nil, List.nil_append, List.cons_append, List.append_nil, List.all_cons, List.all_nil, Option.map_some, Option.bind_some, List.getElem?_cons_zero, List.getElem?_cons_succ, List.getD_cons_zero, List.getD_cons_succ, List.length_cons, List.length_nil, List.take_succ_cons, List.take_zero, List.take_nil, List.drop_succ_cons, List.drop_zero, List.drop_nil, ex_clo, or_self, Bool.false_eq_true, tab3, tab23, tab25, tab31, tab34, hN, pe, Int.toNat_natCast, lk_laws_FnNearestEdge_impl_SquaredDistance, sp_impl_SquaredDistance, eL, eP, g0, g1, g2, g3, o1, o2, o3, d3, d4, d5, hw, Int.toNat_natCast]
              repeat refine And.intro (by omega) ?_
              exact ⟨i + 1, id, ⟨by omega, hno⟩, by simp only []; omega, by simp [SLe, SLe0, convTm, convHp, conv, conv0, lkT, lkH, clean]⟩
      · exfalso
        have hie : i = L.length := by simp at h; omega
        subst hie
        obtain ⟨k, k1, k2⟩ := hnear
        exact hj k k1 k2
def sp_laws_FnNearestEdge : PSpec := ⟨fun xs => match xs with | [.sl 1 bes] => isBy bes ∧ ((fun (b : List Int) => ∀ x ∈ b, 0 ≤ x ∧ x < 256) (toIs bes)) | _ => False, fun xs => match xs with | [.sl _ bes] => (fun (b : List Int) => .bool true) (toIs bes) | _ => .junk, false⟩
theorem gk_laws_FnNearestEdge : ∀ args, sp_laws_FnNearestEdge.pre args → ICall Try.prog 3 args (sp_laws_FnNearestEdge.val args) := by
  intro args h
  unfold sp_laws_FnNearestEdge at h ⊢; simp only at h ⊢; split at h
  · obtain ⟨h0, h1⟩ := h
    obtain ⟨l0, rfl⟩ := isBy_ex h0
    simp only [toBy_enc] at *
    exact c_laws_FnNearestEdge _ h1
  · exact h.elim
theorem en_laws_FnNearestEdge : Enters Try.prog 3 := enters_of Try.func3 (by kernel_rfl) rfl

end Go.Proofs.Yteaanfpkakaaoaa
