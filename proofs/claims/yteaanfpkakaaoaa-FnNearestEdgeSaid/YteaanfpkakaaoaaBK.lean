/- Contracts: points on one line (program). -/
import Derived.Test.YteaanfpkakaaoaaB4
import Derived.Test.YteaanfpkakaaoaaB8
set_option linter.unusedVariables false
set_option linter.unusedSimpArgs false
set_option maxHeartbeats 1600000
set_option maxRecDepth 100000
namespace Go.Proofs.Yteaanfpkakaaoaa
open Go Go.Ideal Go.Pl Go.Sort

/-- The turn from the first of some points over the last one. -/
def offL (m : List Pt) (p : Pt) : Bool := turn (pAt m 0) (pAt m (m.length - 1)) p != 0
def g_impl_collinear_1 : List (Nat × PSpec) := [(49, sp_impl_turn)]
theorem gok_impl_collinear_1 : GOK Try.prog g_impl_collinear_1 := gok_cons gk_impl_turn en_impl_turn (gok0)
theorem lk_impl_collinear_1_impl_turn : lkG g_impl_collinear_1 49 = sp_impl_turn := rfl
def h_impl_collinear_1 : List (Nat × HSpec) := []
theorem hok_impl_collinear_1 : HOK Try.prog h_impl_collinear_1 := hok0
theorem c_impl_collinear_1 (p : Pt) (m : List Pt) (hp : Sm p) (hm : SmL m) (h0 : 0 < m.length) (hsz : m.length ≤ 1000000) : HCall Try.prog 79 [.agg [.num .i64 p.1, .num .i64 p.2], .ptr 1000 0] (sm ([(1000, .box 23 [.sl 2 (encPs m)])])) (.bool (offL m p)) (sm ([(1000, .box 23 [.sl 2 (encPs m)])])) := by
  refine hcall_V (G := g_impl_collinear_1) (H := []) [(1, [(0, 10), (1, 10), (3, 10), (4, 10), (5, 10), (6, 10), (7, 10)])] tabOK mixed gok_impl_collinear_1 hok_impl_collinear_1 Try.func79 rfl Try.ntmps79 Try.results79 rfl (by kernel_rfl) fun F hN hlen => ?_
  simp only [sm]
  have el := len_encPs m
  have w1 : IntKind.i64.wrap ((m.length : Int) - 1) = ((m.length - 1 : Nat) : Int) := by rw [wr (by omega) (by omega)]; omega
  have g0 := getD_encPs h0
  have g0' : (encPs m).getD (Int.toNat 0) .junk = .agg [.num .i64 (pAt m 0).1, .num .i64 (pAt m 0).2] := g0
  have g1 := getD_encPs (l := m) (i := m.length - 1) (by omega)
  have s0 := hm.at 0
  have s1 := hm.at (m.length - 1)
  have hv : offL m p = (turn (pAt m 0) (pAt m (m.length - 1)) p != 0) := rfl
  simp only [V_seq, V_ret, V_region, V_draw, drawW, WS_nil, pairsOf, W_nil, W_cons, effOp2, effOp3, WI_nil, WI_cons, KN_seq, KXr_nil, QE, dynOK, indB, farB, freshB, freshK, freshK1, heapy, effOp, effPure, effNew, effBox, effCall, giveUp, hasAll, skipE, pureV, binV, partV, eltV, loadV, iaddrV, lenV, solid, IV.cells, ofC, strip, lkT, lkH, ISt.app, opI, gO, gB, allB, gval, wrapG, dstOK, setD, mentTm, mentHp, IV.ment, IV.mentL, oneI, lendV, lendP, lent, lentP, idsV, idsL, lkHS, flat, clean, callArgs, callFn, allLent, enumT, conv, conv0, Op.operands, Call.operands, List.append_toArray, reduceIte, reduceCtorEq, cond_true, cond_false, Bool.or_false, Bool.and_true, Bool.and_eq_true, Bool.not_true, Bool.not_false, Nat.reduceAdd, Nat.reduceLT, Nat.reduceLeDiff, Nat.reduceEqDiff, Nat.reduceBEq, Nat.zero_add, ne_eq, not_false_eq_true, true_and, and_true, and_false, and_self, false_implies, implies_true, forall_const, List.map_cons, List.map_nil, List.nil_append, List.cons_append, List.append_nil, List.all_cons, List.all_nil, List.getD_cons_zero, List.getD_cons_succ, List.length_cons, List.length_nil, List.take_succ_cons, List.take_zero, List.take_nil, List.drop_zero, ex_clo, or_self, tab23, tab34, hN, pe, Int.toNat_natCast, FinH, resA, resV, SLe, SLe0, convTm, convHp, convB, lk_impl_collinear_1_impl_turn, sp_impl_turn, el, w1, g0', g1, s0, s1, hp, hv]
  exact ⟨⟨by omega, by omega⟩, ⟨by omega, by omega⟩, id, by simp [convL, conv, conv0]⟩
def hs_impl_collinear_1 : HSpec := ⟨[false, false], fun xs hp => match xs, hp with | [.agg [.num .i64 p1, .num .i64 p2], .ptr 1000 0], [(1000, .box ty [.sl 2 es])] => (isPs es) ∧ (ty = 23) ∧ ((fun (p : Pt) (m : List Pt) => Sm p) (p1, p2) (toPs es)) ∧ ((fun (p : Pt) (m : List Pt) => SmL m) (p1, p2) (toPs es)) ∧ ((fun (p : Pt) (m : List Pt) => 0 < m.length) (p1, p2) (toPs es)) ∧ ((fun (p : Pt) (m : List Pt) => m.length ≤ 1000000) (p1, p2) (toPs es)) | _, _ => False, fun xs hp => match xs, hp with | [.agg [.num .i64 p1, .num .i64 p2], .ptr 1000 0], [(1000, .box ty [.sl 2 es])] => (fun (p : Pt) (m : List Pt) => (.bool (offL m p) : IV)) (p1, p2) (toPs es) | _, _ => .junk, fun xs hp => match xs, hp with | [.agg [.num .i64 p1, .num .i64 p2], .ptr 1000 0], [(1000, .box ty [.sl 2 es])] => (fun (p : Pt) (m : List Pt) => ([(1000, .box 23 [.sl 2 (encPs m)])] : List (Nat × IBlk))) (p1, p2) (toPs es) | _, _ => []⟩
theorem hk_impl_collinear_1 : ∀ args hp, hs_impl_collinear_1.pre args hp → HCall Try.prog 79 args (sm hp) (hs_impl_collinear_1.val args hp) (sm (hs_impl_collinear_1.hval args hp)) := by
  intro args hp h
  unfold hs_impl_collinear_1 at h ⊢; simp only at h ⊢; split at h
  · obtain ⟨h1, rfl, h2, h3, h4, h5⟩ := h; obtain ⟨l, rfl⟩ := isP_ex h1; rw [toPs_enc] at *; exact c_impl_collinear_1 (_, _) l h2 h3 h4 h5
  · exact h.elim
theorem en_impl_collinear_1 : Enters Try.prog 79 := enters_of Try.func79 (by kernel_rfl) rfl

def g_slices_IndexFunc_impl_Point_impl_Point_col : List (Nat × PSpec) := []
theorem gok_slices_IndexFunc_impl_Point_impl_Point_col : GOK Try.prog g_slices_IndexFunc_impl_Point_impl_Point_col := gok0
def h_slices_IndexFunc_impl_Point_impl_Point_col : List (Nat × HSpec) := [(79, hs_impl_collinear_1)]
theorem hok_slices_IndexFunc_impl_Point_impl_Point_col : HOK Try.prog h_slices_IndexFunc_impl_Point_impl_Point_col := hok_cons hk_impl_collinear_1 en_impl_collinear_1 (hok0)
theorem lh_slices_IndexFunc_impl_Point_impl_Point_col_impl_collinear_1 : lkHS h_slices_IndexFunc_impl_Point_impl_Point_col 79 = some hs_impl_collinear_1 := rfl
theorem c_slices_IndexFunc_impl_Point_impl_Point_col (m : List Pt) (hm : SmL m) (hsz : m.length ≤ 1000000) : HCall Try.prog 83 [.sl 2 (encPs m), .clo 79 [.ptr 1000 0]] (sm ([(1000, .box 23 [.sl 2 (encPs m)])])) (.num .i64 (idxF (offL m) m 0)) (sm ([(1000, .box 23 [.sl 2 (encPs m)])])) := by
  refine hcall_V (G := g_slices_IndexFunc_impl_Point_impl_Point_col) (H := h_slices_IndexFunc_impl_Point_impl_Point_col) [] tabOK mixed gok_slices_IndexFunc_impl_Point_impl_Point_col hok_slices_IndexFunc_impl_Point_impl_Point_col Try.func83 rfl Try.ntmps83 Try.results83 rfl (by kernel_rfl) fun F hN hlen => ?_
  simp only [sm]
  have el := len_encPs m
  simp only [V_seq, V_block, V_region, W_nil, W_cons, effOp2, KN_seq, effOp, effPure, pureV, lenV, ofC, strip, lkT, ISt.app, opI, gO, gB, allB, gval, wrapG, dstOK, setD, enumT, Op.operands, Call.operands, List.append_toArray, reduceIte, reduceCtorEq, Nat.reduceLT, Nat.reduceEqDiff, Nat.zero_add, ne_eq, not_false_eq_true, true_and, and_self, implies_true, List.nil_append, List.cons_append, tab23, hN, el]
  refine V_loop (α := Nat) ⟨tabOK, mixed, gok_slices_IndexFunc_impl_Point_impl_Point_col, hok_slices_IndexFunc_impl_Point_impl_Point_col⟩ (by kernel_rfl) (fun i => i ≤ m.length ∧ idxF (offL m) m 0 = idxF (offL m) (m.drop i) i)
    (fun i => ⟨[(8, .num .i64 i), (7, .num .i64 m.length), (0, .sl 2 (encPs m)), (1, .clo 79 [.ptr 1000 0])], [(1000, some (.box 23 [.sl 2 (encPs m)]))]⟩) (fun i => m.length - i) 0 id (by simp) (by simp [SLe, SLe0, convTm, convHp, convB, conv, conv0, convL, lkT, lkH, clean]) ?_
  rintro i ⟨hi2, hj⟩
  simp only [V_seq, V_region, V_cond, W_nil, W_cons, effOp2, KN_seq, asB, effOp, effPure, pureV, binV, strip, lkT, ISt.app, opI, gO, gB, allB, gval, wrapG, dstOK, setD, Op.operands, reduceIte, reduceCtorEq, Nat.reduceLT, Nat.reduceEqDiff, true_and, and_self, implies_true, List.nil_append, List.cons_append, hN]
  refine brW_some (fun h => ?_) (fun h => ?_)
  · have hi' : i < m.length := by simpa using h
    have h0 : 0 < m.length := by omega
    have g0 := getD_encPs hi'
    have hw := wr_succ hi' (by rw [maxLen_eq]; omega)
    have hst := idxF_step (p := offL m) (d := (0, 0)) hi'
    have hb := hm.at i
    have hpt : m.getD i (0, 0) = pAt m i := rfl
    rw [hpt] at hst
    generalize pAt m i = z at *
    simp only [V_seq, V_skip, V_block, V_region, V_cond, W_nil, W_cons, effOp2, KN_seq, asB, effOp, effPure, Option.isSome_some, skipE, pureV, partV, eltV, loadV, iaddrV, strip, lkT, lkH, ISt.app, opI, gO, gB, allB, gval, wrapG, dstOK, setD, mentTm, mentHp, IV.ment, IV.mentL, idsV, idsL, clean, callArgs, callFn, enumT, conv, conv0, convL, IBlk.shape, Op.operands, reduceIte, reduceCtorEq, cond_true, cond_false, Bool.or_false, Bool.or_true, Bool.and_true, Nat.reduceAdd, Nat.reduceSub, Nat.reduceMul, Nat.reduceLT, Nat.reduceLeDiff, Nat.reduceEqDiff, Nat.zero_add, ne_eq, not_false_eq_true, beq_self_eq_true, true_and, and_true, and_false, and_self, implies_true, forall_const, List.map_cons, List.map_nil, List.nil_append, List.cons_append, List.append_nil, List.all_nil, Option.map_some, List.getD_cons_zero, List.length_cons, List.length_nil, List.take_succ_cons, List.take_nil, List.drop_zero, ex_clo, Bool.true_eq_false, Bool.false_eq_true, tab23, tab34, hN, pe, Int.toNat_natCast, isPs_enc, toPs_enc, SLe0, convTm, convHp, convB, sm, effH, mkHC0, mkHC1, lendM, lentM, lentI, allHere, addIds, idsB, flatIds, reach, posn, renV, renL, renB, renH, numB, subHp, fwd, bk, bwd, nones, keyOK, noSl, noSlL, flatBs, List.contains, List.elem, Option.isSome_some, List.nodup_nil, List.nodup_cons, List.not_mem_nil, or_false, Option.getD_some, lh_slices_IndexFunc_impl_Point_impl_Point_col_impl_collinear_1, hs_impl_collinear_1, el, g0, hb, hm, h0, hsz]
    refine ⟨⟨by omega, by omega⟩, brW_some (fun h => ?_) (fun h => ?_)⟩
    · rw [if_pos h, ← hj] at hst
      simp only [V_seq, V_ret, V_region, W_nil, W_cons, effOp2, KN_seq, KXr_nil, KXr_seq, KXr_block, KXr_back, QE, effOp, effPure, pureV, strip, lkT, lkH, ISt.app, opI, gO, gB, allB, gval, wrapG, dstOK, setD, clean, conv, conv0, Op.operands, reduceIte, reduceCtorEq, Nat.reduceLT, Nat.reduceEqDiff, not_false_eq_true, true_and, and_true, and_self, false_implies, implies_true, List.map_cons, List.map_nil, List.nil_append, List.cons_append, hN, FinH, resA, resV, SLe, SLe0, convTm, convHp, convB, List.nodup_nil, List.nodup_cons, List.not_mem_nil, hst]
      exact ⟨id, by simp [convL, conv, conv0]⟩
    · rw [if_neg (by rw [h]; decide), ← hj] at hst
      simp only [V_skip, V_region, W_nil, W_cons, effOp2, KN_seq, KN_block, KN_back, effOp, effPure, pureV, binV, ofC, strip, lkT, ISt.app, opI, gO, gB, allB, gval, wrapG, dstOK, setD, Op.operands, reduceIte, reduceCtorEq, Nat.reduceLT, Nat.reduceEqDiff, true_and, and_self, implies_true, List.nil_append, List.cons_append, hN, hw]
      exact ⟨i + 1, id, ⟨by omega, hst⟩, by simp only []; omega, by simp [SLe, SLe0, convTm, convHp, convB, conv, conv0, convL, lkT, lkH, clean]⟩
  · have hie : i = m.length := by simp at h; omega
    subst hie
    rw [List.drop_length] at hj
    simp only [V_seq, V_ret, V_exit, V_region, W_nil, W_cons, effOp2, KN_seq, KXr_nil, KXe_nil, KXe_seq, KXe_block, KXe_back, QE, effOp, effPure, pureV, ofC, strip, lkT, lkH, ISt.app, opI, gO, gB, allB, gval, wrapG, dstOK, setD, clean, conv, conv0, Op.operands, reduceIte, reduceCtorEq, Nat.reduceLT, Nat.reduceEqDiff, not_false_eq_true, true_and, and_true, and_self, false_implies, implies_true, List.map_cons, List.map_nil, List.nil_append, List.cons_append, hN, FinH, resA, resV, SLe, SLe0, convTm, convHp, convB, List.nodup_nil, List.nodup_cons, List.not_mem_nil, hj, idxF]
    exact ⟨id, by simp [convL, conv, conv0]⟩
def hs_slices_IndexFunc_impl_Point_impl_Point_col : HSpec := ⟨[true, false], fun xs hp => match xs, hp with | [.sl 2 ms, .clo 79 [.ptr 1000 0]], [(1000, .box ty [.sl 2 es])] => (isPs es) ∧ (ms = es) ∧ (ty = 23) ∧ ((fun (m : List Pt) => SmL m) (toPs es)) ∧ ((fun (m : List Pt) => m.length ≤ 1000000) (toPs es)) | _, _ => False, fun xs hp => match xs, hp with | [.sl 2 ms, .clo 79 [.ptr 1000 0]], [(1000, .box ty [.sl 2 es])] => (fun (m : List Pt) => (.num .i64 (idxF (offL m) m 0) : IV)) (toPs es) | _, _ => .junk, fun xs hp => match xs, hp with | [.sl 2 ms, .clo 79 [.ptr 1000 0]], [(1000, .box ty [.sl 2 es])] => (fun (m : List Pt) => ([(1000, .box 23 [.sl 2 (encPs m)])] : List (Nat × IBlk))) (toPs es) | _, _ => []⟩
theorem hk_slices_IndexFunc_impl_Point_impl_Point_col : ∀ args hp, hs_slices_IndexFunc_impl_Point_impl_Point_col.pre args hp → HCall Try.prog 83 args (sm hp) (hs_slices_IndexFunc_impl_Point_impl_Point_col.val args hp) (sm (hs_slices_IndexFunc_impl_Point_impl_Point_col.hval args hp)) := by
  intro args hp h
  unfold hs_slices_IndexFunc_impl_Point_impl_Point_col at h ⊢; simp only at h ⊢; split at h
  · obtain ⟨h1, rfl, rfl, h2, h3⟩ := h; obtain ⟨l, rfl⟩ := isP_ex h1; rw [toPs_enc] at *; exact c_slices_IndexFunc_impl_Point_impl_Point_col l h2 h3
  · exact h.elim
theorem en_slices_IndexFunc_impl_Point_impl_Point_col : Enters Try.prog 83 := enters_of Try.func83 (by kernel_rfl) rfl

def g_slices_ContainsFunc_impl_Point_impl_Point_col : List (Nat × PSpec) := []
theorem gok_slices_ContainsFunc_impl_Point_impl_Point_col : GOK Try.prog g_slices_ContainsFunc_impl_Point_impl_Point_col := gok0
def h_slices_ContainsFunc_impl_Point_impl_Point_col : List (Nat × HSpec) := [(83, hs_slices_IndexFunc_impl_Point_impl_Point_col)]
theorem hok_slices_ContainsFunc_impl_Point_impl_Point_col : HOK Try.prog h_slices_ContainsFunc_impl_Point_impl_Point_col := hok_cons hk_slices_IndexFunc_impl_Point_impl_Point_col en_slices_IndexFunc_impl_Point_impl_Point_col (hok0)
theorem lh_slices_ContainsFunc_impl_Point_impl_Point_col_slices_IndexFunc_impl_Point_impl_Point_col : lkHS h_slices_ContainsFunc_impl_Point_impl_Point_col 83 = some hs_slices_IndexFunc_impl_Point_impl_Point_col := rfl
theorem c_slices_ContainsFunc_impl_Point_impl_Point_col (m : List Pt) (hm : SmL m) (hsz : m.length ≤ 1000000) : HCall Try.prog 59 [.sl 2 (encPs m), .clo 79 [.ptr 1000 0]] (sm ([(1000, .box 23 [.sl 2 (encPs m)])])) (.bool (m.any (offL m))) (sm ([(1000, .box 23 [.sl 2 (encPs m)])])) := by
  refine hcall_V (G := g_slices_ContainsFunc_impl_Point_impl_Point_col) (H := h_slices_ContainsFunc_impl_Point_impl_Point_col) [] tabOK mixed gok_slices_ContainsFunc_impl_Point_impl_Point_col hok_slices_ContainsFunc_impl_Point_impl_Point_col Try.func59 rfl Try.ntmps59 Try.results59 rfl (by kernel_rfl) fun F hN hlen => ?_
  simp only [sm]
  simp only [V_seq, V_ret, V_region, W_nil, W_cons, effOp2, KN_seq, KXr_nil, QE, effOp, effPure, Option.isSome_some, skipE, pureV, binV, ofC, strip, lkT, lkH, ISt.app, opI, gO, gB, allB, gval, wrapG, dstOK, setD, mentTm, mentHp, IV.ment, IV.mentL, lendV, lendP, lent, lentP, idsV, idsL, clean, callArgs, callFn, enumT, conv, conv0, convL, IBlk.shape, Op.operands, reduceIte, reduceCtorEq, cond_true, cond_false, Bool.or_false, Bool.or_true, Bool.and_true, Nat.reduceAdd, Nat.reduceSub, Nat.reduceMul, Nat.reduceLT, Nat.reduceLeDiff, Nat.reduceEqDiff, Nat.zero_add, not_false_eq_true, beq_self_eq_true, true_and, and_true, and_false, and_self, false_implies, implies_true, List.map_cons, List.map_nil, List.nil_append, List.cons_append, List.append_nil, List.all_nil, Option.map_some, List.getD_cons_zero, ex_clo, Bool.true_eq_false, Bool.false_eq_true, hN, isPs_enc, toPs_enc, FinH, resA, resV, SLe, SLe0, convTm, convHp, convB, sm, effH, mkHC0, mkHC1, lendM, lentM, lentI, allHere, addIds, idsB, flatIds, reach, posn, renV, renL, renB, renH, numB, subHp, fwd, bk, bwd, nones, keyOK, noSl, noSlL, flatBs, List.contains, List.elem, Option.isSome_some, List.nodup_nil, List.nodup_cons, List.not_mem_nil, or_false, Option.getD_some, lh_slices_ContainsFunc_impl_Point_impl_Point_col_slices_IndexFunc_impl_Point_impl_Point_col, hs_slices_IndexFunc_impl_Point_impl_Point_col, hm, hsz, idxF_sign]
  exact ⟨id, by simp [convL, conv, conv0]⟩
def hs_slices_ContainsFunc_impl_Point_impl_Point_col : HSpec := ⟨[true, false], fun xs hp => match xs, hp with | [.sl 2 ms, .clo 79 [.ptr 1000 0]], [(1000, .box ty [.sl 2 es])] => (isPs es) ∧ (ms = es) ∧ (ty = 23) ∧ ((fun (m : List Pt) => SmL m) (toPs es)) ∧ ((fun (m : List Pt) => m.length ≤ 1000000) (toPs es)) | _, _ => False, fun xs hp => match xs, hp with | [.sl 2 ms, .clo 79 [.ptr 1000 0]], [(1000, .box ty [.sl 2 es])] => (fun (m : List Pt) => (.bool (m.any (offL m)) : IV)) (toPs es) | _, _ => .junk, fun xs hp => match xs, hp with | [.sl 2 ms, .clo 79 [.ptr 1000 0]], [(1000, .box ty [.sl 2 es])] => (fun (m : List Pt) => ([(1000, .box 23 [.sl 2 (encPs m)])] : List (Nat × IBlk))) (toPs es) | _, _ => []⟩
theorem hk_slices_ContainsFunc_impl_Point_impl_Point_col : ∀ args hp, hs_slices_ContainsFunc_impl_Point_impl_Point_col.pre args hp → HCall Try.prog 59 args (sm hp) (hs_slices_ContainsFunc_impl_Point_impl_Point_col.val args hp) (sm (hs_slices_ContainsFunc_impl_Point_impl_Point_col.hval args hp)) := by
  intro args hp h
  unfold hs_slices_ContainsFunc_impl_Point_impl_Point_col at h ⊢; simp only at h ⊢; split at h
  · obtain ⟨h1, rfl, rfl, h2, h3⟩ := h; obtain ⟨l, rfl⟩ := isP_ex h1; rw [toPs_enc] at *; exact c_slices_ContainsFunc_impl_Point_impl_Point_col l h2 h3
  · exact h.elim
theorem en_slices_ContainsFunc_impl_Point_impl_Point_col : Enters Try.prog 59 := enters_of Try.func59 (by kernel_rfl) rfl

/-- Are points on one line? -/
def collB (l : List Pt) : Bool := !(insP l).any (offL (insP l))
def g_impl_collinear : List (Nat × PSpec) := [(47, sp_impl_sorted_v)]
theorem gok_impl_collinear : GOK Try.prog g_impl_collinear := gok_cons gk_impl_sorted_v en_impl_sorted_v (gok0)
theorem lk_impl_collinear_impl_sorted_v : lkG g_impl_collinear 47 = sp_impl_sorted_v := rfl
def h_impl_collinear : List (Nat × HSpec) := [(59, hs_slices_ContainsFunc_impl_Point_impl_Point_col)]
theorem hok_impl_collinear : HOK Try.prog h_impl_collinear := hok_cons hk_slices_ContainsFunc_impl_Point_impl_Point_col en_slices_ContainsFunc_impl_Point_impl_Point_col (hok0)
theorem lh_impl_collinear_impl_sorted_v : lkHS h_impl_collinear 47 = none := rfl
theorem lh_impl_collinear_slices_ContainsFunc_impl_Point_impl_Point_col : lkHS h_impl_collinear 59 = some hs_slices_ContainsFunc_impl_Point_impl_Point_col := rfl
theorem c_impl_collinear (l : List Pt) (hm : SmL l) (hsz : l.length ≤ 1000000) : ICall Try.prog 48 [.sl 2 (encPs l)] (.bool (collB l)) := by
  refine icall_V (G := g_impl_collinear) (H := h_impl_collinear) [] tabOK mixed gok_impl_collinear hok_impl_collinear Try.func48 rfl Try.ntmps48 Try.results48 rfl (by kernel_rfl) fun F hN hlen => ?_
  have hv : collB l = !(insP l).any (offL (insP l)) := rfl
  have hmi : SmL (insP l) := fun p hp => hm p (mem_insP.1 hp)
  have hli := insP_len l
  have hz : (insP l).length ≤ 1000000 := by omega
  simp only [V_seq, V_ret, V_region, W_nil, W_cons, effOp2, KN_seq, KXr_nil, QE, effOp, effPure, effNew, effAlloc, effStore, effCall, giveUp, hasAll, Option.isSome_some, skipE, pureV, storeV, partV, loadV, over, solid, IV.cells, ofC, strip, lkT, lkH, ISt.app, opI, gO, gB, allB, gval, wrapG, dstOK, setD, mentTm, mentHp, IV.ment, IV.mentL, oneI, lendV, lendP, lent, lentP, idsV, idsL, flat, clean, callArgs, callFn, allLent, enumT, Gives, Ideal.Fin, conv, conv0, convL, IBlk.shape, Op.operands, List.append_toArray, reduceIte, reduceCtorEq, cond_true, cond_false, Bool.or_false, Bool.or_true, Bool.and_true, Bool.not_true, Nat.reduceAdd, Nat.reduceSub, Nat.reduceMul, Nat.reduceLT, Nat.reduceLeDiff, Nat.reduceEqDiff, Nat.zero_add, not_false_eq_true, beq_self_eq_true, and_false, and_self, implies_true, List.map_cons, List.map_nil, List.nil_append, List.cons_append, List.append_nil, List.all_cons, List.all_nil, Option.map_some, List.getD_cons_zero, List.length_cons, List.length_nil, List.take_succ_cons, List.take_zero, List.take_nil, List.drop_succ_cons, List.drop_zero, List.drop_nil, ex_clo, or_true, Bool.true_eq_false, Bool.false_eq_true, tab23, hN, isPs_enc, toPs_enc, SLe0, convTm, convHp, convB, sm, effH, mkHC0, mkHC1, lendM, lentM, lentI, allHere, addIds, idsB, flatIds, reach, posn, renV, renL, renB, renH, numB, subHp, fwd, bk, bwd, nones, keyOK, noSl, noSlL, flatBs, List.contains, List.elem, Option.isSome_some, List.nodup_nil, List.nodup_cons, List.not_mem_nil, or_false, Option.getD_some, lk_impl_collinear_impl_sorted_v, sp_impl_sorted_v, lh_impl_collinear_impl_sorted_v, lh_impl_collinear_slices_ContainsFunc_impl_Point_impl_Point_col, hs_slices_ContainsFunc_impl_Point_impl_Point_col, hsz, hv, hmi, hz]
def sp_impl_collinear : PSpec := ⟨fun xs => match xs with | [.sl 2 les] => isPs les ∧ ((fun (l : List Pt) => SmL l) (toPs les)) ∧ ((fun (l : List Pt) => l.length ≤ 1000000) (toPs les)) | _ => False, fun xs => match xs with | [.sl _ les] => (fun (l : List Pt) => .bool (collB l)) (toPs les) | _ => .junk, false⟩
theorem gk_impl_collinear : ∀ args, sp_impl_collinear.pre args → ICall Try.prog 48 args (sp_impl_collinear.val args) := by
  intro args h
  unfold sp_impl_collinear at h ⊢; simp only at h ⊢; split at h
  · obtain ⟨h0, h1, h2⟩ := h
    obtain ⟨l0, rfl⟩ := isP_ex h0
    simp only [toPs_enc] at *
    exact c_impl_collinear _ h1 h2
  · exact h.elim
theorem en_impl_collinear : Enters Try.prog 48 := enters_of Try.func48 (by kernel_rfl) rfl


end Go.Proofs.Yteaanfpkakaaoaa
