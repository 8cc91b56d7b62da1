/- Contracts: Delaunay triangles, the program's side; the exact law on them. -/
import Derived.Test.YtbbmeabfmjkldaaB25
import Derived.Test.YtbbmeabfmjkldaaBY
set_option linter.unusedVariables false
set_option linter.unusedSimpArgs false
set_option maxHeartbeats 1600000
set_option maxRecDepth 100000
namespace Go.Proofs.Ytbbmeabfmjkldaa
open Go Go.Ideal Go.Pl Go.Sort

theorem sgn_one {x : Int} (h : 0 < x) : sgnI x = 1 := by unfold sgnI; rw [if_neg (by omega), if_pos h]
def g_impl_IsDelaunay_1 : List (Nat × PSpec) := [(37, sp_impl_inCircle)]
theorem gok_impl_IsDelaunay_1 : GOK Try.prog g_impl_IsDelaunay_1 := gok_cons gk_impl_inCircle en_impl_inCircle (gok0)
theorem lk_impl_IsDelaunay_1_impl_inCircle : lkG g_impl_IsDelaunay_1 37 = sp_impl_inCircle := rfl
def h_impl_IsDelaunay_1 : List (Nat × HSpec) := []
theorem hok_impl_IsDelaunay_1 : HOK Try.prog h_impl_IsDelaunay_1 := hok0
theorem c_impl_IsDelaunay_1 (q : Pt) (l : List Pt) (t : Tr) (hi : idxOK l.length t = true) (hk : okPs l = true) (hq : Vp q) (ht : 0 < turn (triA l t) (triB l t) (triC l t)) : HCall Try.prog 36 [.agg [.num .i64 q.1, .num .i64 q.2], .ptr 1000 0, .ptr 1001 0] (sm ([(1000, .box 23 [.sl 2 (encPs l)]), (1001, .box 32 [.num .i64 t.1, .num .i64 t.2.1, .num .i64 t.2.2])])) (.bool (circS l t q)) (sm ([(1000, .box 23 [.sl 2 (encPs l)]), (1001, .box 32 [.num .i64 t.1, .num .i64 t.2.1, .num .i64 t.2.2])])) := by
  refine hcall_V (G := g_impl_IsDelaunay_1) (H := []) [(1, [(0, 16), (1, 16), (2, 16), (3, 16), (5, 16), (6, 16), (7, 16), (8, 16), (10, 16), (11, 16), (12, 16), (13, 16)])] tabOK mixed gok_impl_IsDelaunay_1 hok_impl_IsDelaunay_1 Try.func36 rfl Try.ntmps36 Try.results36 rfl (by kernel_rfl) fun F hN hlen => ?_
  simp only [sm]
  have hsg : sgnI (turn (triA l t) (triB l t) (triC l t)) = 1 := sgn_one ht
  obtain ⟨⟨a0, a1⟩, ⟨b0, b1⟩, ⟨c0, c1⟩⟩ := idx_facts hi
  obtain ⟨t1, t2, t3⟩ := t
  simp only [] at a0 a1 b0 b1 c0 c1
  obtain ⟨i, rfl⟩ := nat_of a0
  obtain ⟨j, rfl⟩ := nat_of b0
  obtain ⟨k, rfl⟩ := nat_of c0
  have el := len_encPs l
  have g1 := getD_encPs (l := l) (i := i) (by omega)
  have g2 := getD_encPs (l := l) (i := j) (by omega)
  have g3 := getD_encPs (l := l) (i := k) (by omega)
  have s1 := okPs_vp hk (i := i) (by omega)
  have s2 := okPs_vp hk (i := j) (by omega)
  have s3 := okPs_vp hk (i := k) (by omega)
  have e1 : triA l ((i : Int), (j : Int), (k : Int)) = pAt l i := rfl
  have e2 : triB l ((i : Int), (j : Int), (k : Int)) = pAt l j := rfl
  have e3 : triC l ((i : Int), (j : Int), (k : Int)) = pAt l k := rfl
  rw [e1, e2, e3] at hsg
  have m1 : sgnI (inC (pAt l i) (pAt l j) (pAt l k) q) * 1 = sgnI (inC (pAt l i) (pAt l j) (pAt l k) q) := Int.mul_one _
  have hv : circS l ((i : Int), (j : Int), (k : Int)) q = decide (0 < sgnI (inC (pAt l i) (pAt l j) (pAt l k) q)) := rfl
  simp only [V_seq, V_ret, V_region, V_draw, drawW, WS_nil, pairsOf, W_nil, W_cons, effOp2, effOp3, WI_nil, WI_cons, KN_seq, KXr_nil, QE, dynOK, indB, farB, freshB, freshK, freshK1, heapy, effOp, effPure, effNew, effBox, effCall, giveUp, hasAll, skipE, pureV, binV, partV, eltV, loadV, faddrV, iaddrV, solid, IV.cells, ofC, strip, lkT, lkH, ISt.app, opI, gO, gB, allB, gval, wrapG, dstOK, setD, mentTm, mentHp, IV.ment, IV.mentL, oneI, lendV, lendP, lent, lentP, idsV, idsL, lkHS, flat, clean, callArgs, callFn, allLent, enumT, conv, conv0, IBlk.shape, Op.operands, Call.operands, List.append_toArray, reduceIte, reduceCtorEq, cond_true, cond_false, Bool.or_false, Bool.and_true, Bool.and_eq_true, Bool.not_true, Bool.not_false, Nat.reduceAdd, Nat.reduceLT, Nat.reduceLeDiff, Nat.reduceEqDiff, Nat.reduceBEq, Nat.add_zero, Nat.zero_add, ne_eq, not_false_eq_true, true_and, and_true, and_false, and_self, false_implies, implies_true, forall_const, List.map_cons, List.map_nil, List.nil_append, List.cons_append, List.append_nil, List.all_cons, List.all_nil, Option.map_some, List.getD_cons_zero, List.getD_cons_succ, List.length_cons, List.length_nil, List.take_succ_cons, List.take_zero, List.take_nil, List.drop_succ_cons, List.drop_zero, ex_clo, or_self, tab3, tab23, tab30, tab32, hN, pe, Int.toNat_natCast, FinH, resA, resV, SLe, SLe0, convTm, convHp, convB, lk_impl_IsDelaunay_1_impl_inCircle, sp_impl_inCircle, el, g1, g2, g3, s1, s2, s3, hq, hsg, m1, hv]
  exact ⟨⟨by omega, by omega⟩, ⟨by omega, by omega⟩, ⟨by omega, by omega⟩, id, by simp [convL, conv, conv0, clean]⟩
def hs_impl_IsDelaunay_1 : HSpec := ⟨[false, false, false], fun xs hp => match xs, hp with | [.agg [.num .i64 q1, .num .i64 q2], .ptr 1000 0, .ptr 1001 0], [(1000, .box ty [.sl 2 es]), (1001, .box ty2 [.num .i64 t1, .num .i64 t2, .num .i64 t3])] => (isPs es) ∧ (ty = 23) ∧ (ty2 = 32) ∧ ((fun (q : Pt) (l : List Pt) (t : Tr) => idxOK l.length t = true) (q1, q2) (toPs es) (t1, t2, t3)) ∧ ((fun (q : Pt) (l : List Pt) (t : Tr) => okPs l = true) (q1, q2) (toPs es) (t1, t2, t3)) ∧ ((fun (q : Pt) (l : List Pt) (t : Tr) => Vp q) (q1, q2) (toPs es) (t1, t2, t3)) ∧ ((fun (q : Pt) (l : List Pt) (t : Tr) => 0 < turn (triA l t) (triB l t) (triC l t)) (q1, q2) (toPs es) (t1, t2, t3)) | _, _ => False, fun xs hp => match xs, hp with | [.agg [.num .i64 q1, .num .i64 q2], .ptr 1000 0, .ptr 1001 0], [(1000, .box ty [.sl 2 es]), (1001, .box ty2 [.num .i64 t1, .num .i64 t2, .num .i64 t3])] => (fun (q : Pt) (l : List Pt) (t : Tr) => (.bool (circS l t q) : IV)) (q1, q2) (toPs es) (t1, t2, t3) | _, _ => .junk, fun xs hp => match xs, hp with | [.agg [.num .i64 q1, .num .i64 q2], .ptr 1000 0, .ptr 1001 0], [(1000, .box ty [.sl 2 es]), (1001, .box ty2 [.num .i64 t1, .num .i64 t2, .num .i64 t3])] => (fun (q : Pt) (l : List Pt) (t : Tr) => ([(1000, .box 23 [.sl 2 (encPs l)]), (1001, .box 32 [.num .i64 t.1, .num .i64 t.2.1, .num .i64 t.2.2])] : List (Nat × IBlk))) (q1, q2) (toPs es) (t1, t2, t3) | _, _ => []⟩
theorem hk_impl_IsDelaunay_1 : ∀ args hp, hs_impl_IsDelaunay_1.pre args hp → HCall Try.prog 36 args (sm hp) (hs_impl_IsDelaunay_1.val args hp) (sm (hs_impl_IsDelaunay_1.hval args hp)) := by
  intro args hp h
  unfold hs_impl_IsDelaunay_1 at h ⊢; simp only at h ⊢; split at h
  · obtain ⟨h1, rfl, rfl, h2, h3, h4, h5⟩ := h; obtain ⟨l, rfl⟩ := isP_ex h1; rw [toPs_enc] at *; exact c_impl_IsDelaunay_1 (_, _) l (_, _, _) h2 h3 h4 h5
  · exact h.elim
theorem en_impl_IsDelaunay_1 : Enters Try.prog 36 := enters_of Try.func36 (by kernel_rfl) rfl

def g_slices_IndexFunc_impl_Point_impl_Point_del : List (Nat × PSpec) := []
theorem gok_slices_IndexFunc_impl_Point_impl_Point_del : GOK Try.prog g_slices_IndexFunc_impl_Point_impl_Point_del := gok0
def h_slices_IndexFunc_impl_Point_impl_Point_del : List (Nat × HSpec) := [(36, hs_impl_IsDelaunay_1)]
theorem hok_slices_IndexFunc_impl_Point_impl_Point_del : HOK Try.prog h_slices_IndexFunc_impl_Point_impl_Point_del := hok_cons hk_impl_IsDelaunay_1 en_impl_IsDelaunay_1 (hok0)
theorem lh_slices_IndexFunc_impl_Point_impl_Point_del_impl_IsDelaunay_1 : lkHS h_slices_IndexFunc_impl_Point_impl_Point_del 36 = some hs_impl_IsDelaunay_1 := rfl
theorem c_slices_IndexFunc_impl_Point_impl_Point_del (m : List Pt) (l : List Pt) (t : Tr) (hi : idxOK l.length t = true) (hk : okPs l = true) (hq : ∀ q ∈ m, Vp q) (ht : 0 < turn (triA l t) (triB l t) (triC l t)) (hsz : m.length ≤ 1000000) : HCall Try.prog 61 [.sl 2 (encPs m), .clo 36 [.ptr 1000 0, .ptr 1001 0]] (sm ([(1000, .box 23 [.sl 2 (encPs l)]), (1001, .box 32 [.num .i64 t.1, .num .i64 t.2.1, .num .i64 t.2.2])])) (.num .i64 (idxF (circS l t) m 0)) (sm ([(1000, .box 23 [.sl 2 (encPs l)]), (1001, .box 32 [.num .i64 t.1, .num .i64 t.2.1, .num .i64 t.2.2])])) := by
  refine hcall_V (G := g_slices_IndexFunc_impl_Point_impl_Point_del) (H := h_slices_IndexFunc_impl_Point_impl_Point_del) [] tabOK mixed gok_slices_IndexFunc_impl_Point_impl_Point_del hok_slices_IndexFunc_impl_Point_impl_Point_del Try.func61 rfl Try.ntmps61 Try.results61 rfl (by kernel_rfl) fun F hN hlen => ?_
  simp only [sm]
  have el := len_encPs m
  simp only [V_seq, V_block, V_region, W_nil, W_cons, effOp2, KN_seq, effOp, effPure, pureV, lenV, ofC, strip, lkT, ISt.app, opI, gO, gB, allB, gval, wrapG, dstOK, setD, enumT, Op.operands, Call.operands, List.append_toArray, reduceIte, reduceCtorEq, Nat.reduceLT, Nat.reduceEqDiff, Nat.zero_add, ne_eq, not_false_eq_true, true_and, and_self, implies_true, List.nil_append, List.cons_append, tab23, hN, el]
  refine V_loop (α := Nat) ⟨tabOK, mixed, gok_slices_IndexFunc_impl_Point_impl_Point_del, hok_slices_IndexFunc_impl_Point_impl_Point_del⟩ (by kernel_rfl) (fun i => i ≤ m.length ∧ idxF (circS l t) m 0 = idxF (circS l t) (m.drop i) i)
    (fun i => ⟨[(8, .num .i64 i), (7, .num .i64 m.length), (0, .sl 2 (encPs m)), (1, .clo 36 [.ptr 1000 0, .ptr 1001 0])], [(1000, some (.box 23 [.sl 2 (encPs l)])), (1001, some (.box 32 [.num .i64 t.1, .num .i64 t.2.1, .num .i64 t.2.2]))]⟩) (fun i => m.length - i) 0 id (by simp) (by simp [SLe, SLe0, convTm, convHp, convB, conv, conv0, convL, lkT, lkH, clean]) ?_
  rintro i ⟨hi2, hj⟩
  simp only [V_seq, V_region, V_cond, W_nil, W_cons, effOp2, KN_seq, asB, effOp, effPure, pureV, binV, strip, lkT, ISt.app, opI, gO, gB, allB, gval, wrapG, dstOK, setD, Op.operands, reduceIte, reduceCtorEq, Nat.reduceLT, Nat.reduceEqDiff, true_and, and_self, implies_true, List.nil_append, List.cons_append, hN]
  refine brW_some (fun h => ?_) (fun h => ?_)
  · have hi' : i < m.length := by simpa using h
    have g0 := getD_encPs hi'
    have hw := wr_succ hi' (by rw [maxLen_eq]; omega)
    have hst := idxF_step (p := circS l t) (d := (0, 0)) hi'
    have hb : Vp (pAt m i) := hq _ (by rw [pAt, List.getD, List.getElem?_eq_getElem hi']; exact List.getElem_mem hi')
    have hpt : m.getD i (0, 0) = pAt m i := rfl
    rw [hpt] at hst
    generalize pAt m i = x at *
    simp only [V_seq, V_skip, V_block, V_region, V_cond, W_nil, W_cons, effOp2, KN_seq, asB, effOp, effPure, Option.isSome_some, skipE, pureV, partV, eltV, loadV, iaddrV, strip, lkT, lkH, ISt.app, opI, gO, gB, allB, gval, wrapG, dstOK, setD, mentTm, mentHp, IV.ment, IV.mentL, idsV, idsL, clean, callArgs, callFn, enumT, conv, conv0, convL, IBlk.shape, Op.operands, reduceIte, reduceCtorEq, cond_true, cond_false, Bool.or_false, Bool.or_true, Bool.and_true, Nat.reduceAdd, Nat.reduceSub, Nat.reduceMul, Nat.reduceLT, Nat.reduceLeDiff, Nat.reduceEqDiff, Nat.reduceBEq, Nat.zero_add, ne_eq, not_false_eq_true, beq_self_eq_true, true_and, and_true, and_false, and_self, implies_true, forall_const, List.map_cons, List.map_nil, List.nil_append, List.cons_append, List.append_nil, List.all_nil, Option.map_some, List.getD_cons_zero, List.getD_cons_succ, List.length_cons, List.length_nil, List.take_succ_cons, List.take_nil, List.drop_zero, ex_clo, or_self, Bool.true_eq_false, Bool.false_eq_true, tab23, tab30, hN, pe, Int.toNat_natCast, isPs_enc, toPs_enc, SLe0, convTm, convHp, convB, sm, effH, mkHC0, mkHC1, lendM, lentM, lentI, allHere, addIds, idsB, flatIds, reach, posn, renV, renL, renB, renH, numB, subHp, fwd, bk, bwd, nones, keyOK, noSl, noSlL, flatBs, List.contains, List.elem, Option.isSome_some, List.nodup_nil, List.nodup_cons, List.not_mem_nil, List.mem_cons, or_false, Option.getD_some, lh_slices_IndexFunc_impl_Point_impl_Point_del_impl_IsDelaunay_1, hs_impl_IsDelaunay_1, el, g0, hb, hi, hk, ht]
    refine ⟨⟨by omega, by omega⟩, brW_some (fun h => ?_) (fun h => ?_)⟩
    · rw [if_pos h, ← hj] at hst
      simp only [V_seq, V_ret, V_region, W_nil, W_cons, effOp2, KN_seq, KXr_nil, KXr_seq, KXr_block, KXr_back, QE, effOp, effPure, pureV, strip, lkT, lkH, ISt.app, opI, gO, gB, allB, gval, wrapG, dstOK, setD, clean, conv, conv0, Op.operands, reduceIte, reduceCtorEq, Nat.reduceLT, Nat.reduceEqDiff, not_false_eq_true, true_and, and_true, and_self, false_implies, implies_true, List.map_cons, List.map_nil, List.nil_append, List.cons_append, hN, FinH, resA, resV, SLe, SLe0, convTm, convHp, convB, List.nodup_nil, List.nodup_cons, List.not_mem_nil, List.mem_cons, or_false, hst]
      exact ⟨id, by simp [convL, conv, conv0, clean]⟩
    · rw [if_neg (by rw [h]; decide), ← hj] at hst
      simp only [V_skip, V_region, W_nil, W_cons, effOp2, KN_seq, KN_block, KN_back, effOp, effPure, pureV, binV, ofC, strip, lkT, ISt.app, opI, gO, gB, allB, gval, wrapG, dstOK, setD, Op.operands, reduceIte, reduceCtorEq, Nat.reduceLT, Nat.reduceEqDiff, true_and, and_self, implies_true, List.nil_append, List.cons_append, hN, hw]
      exact ⟨i + 1, id, ⟨by omega, hst⟩, by simp only []; omega, by simp [SLe, SLe0, convTm, convHp, convB, conv, conv0, convL, lkT, lkH, clean]⟩
  · have hie : i = m.length := by simp at h; omega
    subst hie
    rw [List.drop_length] at hj
    simp only [V_seq, V_ret, V_exit, V_region, W_nil, W_cons, effOp2, KN_seq, KXr_nil, KXe_nil, KXe_seq, KXe_block, KXe_back, QE, effOp, effPure, pureV, ofC, strip, lkT, lkH, ISt.app, opI, gO, gB, allB, gval, wrapG, dstOK, setD, clean, conv, conv0, Op.operands, reduceIte, reduceCtorEq, Nat.reduceLT, Nat.reduceEqDiff, not_false_eq_true, true_and, and_true, and_self, false_implies, implies_true, List.map_cons, List.map_nil, List.nil_append, List.cons_append, hN, FinH, resA, resV, SLe, SLe0, convTm, convHp, convB, List.nodup_nil, List.nodup_cons, List.not_mem_nil, List.mem_cons, or_false, hj, idxF]
    exact ⟨id, by simp [convL, conv, conv0, clean]⟩
def hs_slices_IndexFunc_impl_Point_impl_Point_del : HSpec := ⟨[true, false], fun xs hp => match xs, hp with | [.sl 2 ms, .clo 36 [.ptr 1000 0, .ptr 1001 0]], [(1000, .box ty [.sl 2 es]), (1001, .box ty2 [.num .i64 t1, .num .i64 t2, .num .i64 t3])] => (isPs ms) ∧ (isPs es) ∧ (ty = 23) ∧ (ty2 = 32) ∧ ((fun (m : List Pt) (l : List Pt) (t : Tr) => idxOK l.length t = true) (toPs ms) (toPs es) (t1, t2, t3)) ∧ ((fun (m : List Pt) (l : List Pt) (t : Tr) => okPs l = true) (toPs ms) (toPs es) (t1, t2, t3)) ∧ ((fun (m : List Pt) (l : List Pt) (t : Tr) => ∀ q ∈ m, Vp q) (toPs ms) (toPs es) (t1, t2, t3)) ∧ ((fun (m : List Pt) (l : List Pt) (t : Tr) => 0 < turn (triA l t) (triB l t) (triC l t)) (toPs ms) (toPs es) (t1, t2, t3)) ∧ ((fun (m : List Pt) (l : List Pt) (t : Tr) => m.length ≤ 1000000) (toPs ms) (toPs es) (t1, t2, t3)) | _, _ => False, fun xs hp => match xs, hp with | [.sl 2 ms, .clo 36 [.ptr 1000 0, .ptr 1001 0]], [(1000, .box ty [.sl 2 es]), (1001, .box ty2 [.num .i64 t1, .num .i64 t2, .num .i64 t3])] => (fun (m : List Pt) (l : List Pt) (t : Tr) => (.num .i64 (idxF (circS l t) m 0) : IV)) (toPs ms) (toPs es) (t1, t2, t3) | _, _ => .junk, fun xs hp => match xs, hp with | [.sl 2 ms, .clo 36 [.ptr 1000 0, .ptr 1001 0]], [(1000, .box ty [.sl 2 es]), (1001, .box ty2 [.num .i64 t1, .num .i64 t2, .num .i64 t3])] => (fun (m : List Pt) (l : List Pt) (t : Tr) => ([(1000, .box 23 [.sl 2 (encPs l)]), (1001, .box 32 [.num .i64 t.1, .num .i64 t.2.1, .num .i64 t.2.2])] : List (Nat × IBlk))) (toPs ms) (toPs es) (t1, t2, t3) | _, _ => []⟩
theorem hk_slices_IndexFunc_impl_Point_impl_Point_del : ∀ args hp, hs_slices_IndexFunc_impl_Point_impl_Point_del.pre args hp → HCall Try.prog 61 args (sm hp) (hs_slices_IndexFunc_impl_Point_impl_Point_del.val args hp) (sm (hs_slices_IndexFunc_impl_Point_impl_Point_del.hval args hp)) := by
  intro args hp h
  unfold hs_slices_IndexFunc_impl_Point_impl_Point_del at h ⊢; simp only at h ⊢; split at h
  · obtain ⟨h0, h1, rfl, rfl, h2, h3, h4, h5, h6⟩ := h; obtain ⟨m, rfl⟩ := isP_ex h0; obtain ⟨l, rfl⟩ := isP_ex h1; rw [toPs_enc, toPs_enc] at *; exact c_slices_IndexFunc_impl_Point_impl_Point_del m l (_, _, _) h2 h3 h4 h5 h6
  · exact h.elim
theorem en_slices_IndexFunc_impl_Point_impl_Point_del : Enters Try.prog 61 := enters_of Try.func61 (by kernel_rfl) rfl

def g_slices_ContainsFunc_impl_Point_impl_Point_del : List (Nat × PSpec) := []
theorem gok_slices_ContainsFunc_impl_Point_impl_Point_del : GOK Try.prog g_slices_ContainsFunc_impl_Point_impl_Point_del := gok0
def h_slices_ContainsFunc_impl_Point_impl_Point_del : List (Nat × HSpec) := [(61, hs_slices_IndexFunc_impl_Point_impl_Point_del)]
theorem hok_slices_ContainsFunc_impl_Point_impl_Point_del : HOK Try.prog h_slices_ContainsFunc_impl_Point_impl_Point_del := hok_cons hk_slices_IndexFunc_impl_Point_impl_Point_del en_slices_IndexFunc_impl_Point_impl_Point_del (hok0)
theorem lh_slices_ContainsFunc_impl_Point_impl_Point_del_slices_IndexFunc_impl_Point_impl_Point_del : lkHS h_slices_ContainsFunc_impl_Point_impl_Point_del 61 = some hs_slices_IndexFunc_impl_Point_impl_Point_del := rfl
theorem c_slices_ContainsFunc_impl_Point_impl_Point_del (m : List Pt) (l : List Pt) (t : Tr) (hi : idxOK l.length t = true) (hk : okPs l = true) (hq : ∀ q ∈ m, Vp q) (ht : 0 < turn (triA l t) (triB l t) (triC l t)) (hsz : m.length ≤ 1000000) : HCall Try.prog 35 [.sl 2 (encPs m), .clo 36 [.ptr 1000 0, .ptr 1001 0]] (sm ([(1000, .box 23 [.sl 2 (encPs l)]), (1001, .box 32 [.num .i64 t.1, .num .i64 t.2.1, .num .i64 t.2.2])])) (.bool (m.any (circS l t))) (sm ([(1000, .box 23 [.sl 2 (encPs l)]), (1001, .box 32 [.num .i64 t.1, .num .i64 t.2.1, .num .i64 t.2.2])])) := by
  refine hcall_V (G := g_slices_ContainsFunc_impl_Point_impl_Point_del) (H := h_slices_ContainsFunc_impl_Point_impl_Point_del) [] tabOK mixed gok_slices_ContainsFunc_impl_Point_impl_Point_del hok_slices_ContainsFunc_impl_Point_impl_Point_del Try.func35 rfl Try.ntmps35 Try.results35 rfl (by kernel_rfl) fun F hN hlen => ?_
  simp only [sm]
  simp only [V_seq, V_ret, V_region, W_nil, W_cons, effOp2, KN_seq, KXr_nil, QE, effOp, effPure, Option.isSome_some, skipE, pureV, binV, ofC, strip, lkT, lkH, ISt.app, opI, gO, gB, allB, gval, wrapG, dstOK, setD, mentTm, mentHp, IV.ment, IV.mentL, lendV, lendP, lent, lentP, idsV, idsL, clean, callArgs, callFn, enumT, conv, conv0, convL, IBlk.shape, Op.operands, reduceIte, reduceCtorEq, cond_true, cond_false, Bool.or_false, Bool.or_true, Bool.and_true, Nat.reduceAdd, Nat.reduceSub, Nat.reduceMul, Nat.reduceLT, Nat.reduceLeDiff, Nat.reduceEqDiff, Nat.reduceBEq, Nat.zero_add, not_false_eq_true, beq_self_eq_true, true_and, and_true, and_false, and_self, false_implies, implies_true, List.map_cons, List.map_nil, List.nil_append, List.cons_append, List.append_nil, List.all_nil, Option.map_some, List.getD_cons_zero, List.getD_cons_succ, ex_clo, or_self, Bool.true_eq_false, Bool.false_eq_true, hN, pe, isPs_enc, toPs_enc, FinH, resA, resV, SLe, SLe0, convTm, convHp, convB, sm, effH, mkHC0, mkHC1, lendM, lentM, lentI, allHere, addIds, idsB, flatIds, reach, posn, renV, renL, renB, renH, numB, subHp, fwd, bk, bwd, nones, keyOK, noSl, noSlL, flatBs, List.contains, List.elem, Option.isSome_some, List.nodup_nil, List.nodup_cons, List.not_mem_nil, List.mem_cons, or_false, Option.getD_some, lh_slices_ContainsFunc_impl_Point_impl_Point_del_slices_IndexFunc_impl_Point_impl_Point_del, hs_slices_IndexFunc_impl_Point_impl_Point_del, hi, hk, ht, hsz, idxF_sign]
  exact ⟨hq, id, by simp [convL, conv, conv0, clean]⟩
def hs_slices_ContainsFunc_impl_Point_impl_Point_del : HSpec := ⟨[true, false], fun xs hp => match xs, hp with | [.sl 2 ms, .clo 36 [.ptr 1000 0, .ptr 1001 0]], [(1000, .box ty [.sl 2 es]), (1001, .box ty2 [.num .i64 t1, .num .i64 t2, .num .i64 t3])] => (isPs ms) ∧ (isPs es) ∧ (ty = 23) ∧ (ty2 = 32) ∧ ((fun (m : List Pt) (l : List Pt) (t : Tr) => idxOK l.length t = true) (toPs ms) (toPs es) (t1, t2, t3)) ∧ ((fun (m : List Pt) (l : List Pt) (t : Tr) => okPs l = true) (toPs ms) (toPs es) (t1, t2, t3)) ∧ ((fun (m : List Pt) (l : List Pt) (t : Tr) => ∀ q ∈ m, Vp q) (toPs ms) (toPs es) (t1, t2, t3)) ∧ ((fun (m : List Pt) (l : List Pt) (t : Tr) => 0 < turn (triA l t) (triB l t) (triC l t)) (toPs ms) (toPs es) (t1, t2, t3)) ∧ ((fun (m : List Pt) (l : List Pt) (t : Tr) => m.length ≤ 1000000) (toPs ms) (toPs es) (t1, t2, t3)) | _, _ => False, fun xs hp => match xs, hp with | [.sl 2 ms, .clo 36 [.ptr 1000 0, .ptr 1001 0]], [(1000, .box ty [.sl 2 es]), (1001, .box ty2 [.num .i64 t1, .num .i64 t2, .num .i64 t3])] => (fun (m : List Pt) (l : List Pt) (t : Tr) => (.bool (m.any (circS l t)) : IV)) (toPs ms) (toPs es) (t1, t2, t3) | _, _ => .junk, fun xs hp => match xs, hp with | [.sl 2 ms, .clo 36 [.ptr 1000 0, .ptr 1001 0]], [(1000, .box ty [.sl 2 es]), (1001, .box ty2 [.num .i64 t1, .num .i64 t2, .num .i64 t3])] => (fun (m : List Pt) (l : List Pt) (t : Tr) => ([(1000, .box 23 [.sl 2 (encPs l)]), (1001, .box 32 [.num .i64 t.1, .num .i64 t.2.1, .num .i64 t.2.2])] : List (Nat × IBlk))) (toPs ms) (toPs es) (t1, t2, t3) | _, _ => []⟩
theorem hk_slices_ContainsFunc_impl_Point_impl_Point_del : ∀ args hp, hs_slices_ContainsFunc_impl_Point_impl_Point_del.pre args hp → HCall Try.prog 35 args (sm hp) (hs_slices_ContainsFunc_impl_Point_impl_Point_del.val args hp) (sm (hs_slices_ContainsFunc_impl_Point_impl_Point_del.hval args hp)) := by
  intro args hp h
  unfold hs_slices_ContainsFunc_impl_Point_impl_Point_del at h ⊢; simp only at h ⊢; split at h
  · obtain ⟨h0, h1, rfl, rfl, h2, h3, h4, h5, h6⟩ := h; obtain ⟨m, rfl⟩ := isP_ex h0; obtain ⟨l, rfl⟩ := isP_ex h1; rw [toPs_enc, toPs_enc] at *; exact c_slices_ContainsFunc_impl_Point_impl_Point_del m l (_, _, _) h2 h3 h4 h5 h6
  · exact h.elim
theorem en_slices_ContainsFunc_impl_Point_impl_Point_del : Enters Try.prog 35 := enters_of Try.func35 (by kernel_rfl) rfl


theorem delT_no {l : List Pt} {ts : List Tr} {i : Nat} (hi : i < ts.length) (h : delT l (tAt ts i) = false) : delB l ts = false := by
  unfold delB; rw [all_no (d := (0, 0, 0)) hi h, Bool.and_false]
def g_impl_IsDelaunay : List (Nat × PSpec) := [(32, sp_impl_ordered), (33, sp_impl_Triangle_inIndex), (34, sp_impl_Triangle_turn)]
theorem gok_impl_IsDelaunay : GOK Try.prog g_impl_IsDelaunay := gok_cons gk_impl_ordered en_impl_ordered (gok_cons gk_impl_Triangle_inIndex en_impl_Triangle_inIndex (gok_cons gk_impl_Triangle_turn en_impl_Triangle_turn (gok0)))
theorem lk_impl_IsDelaunay_impl_ordered : lkG g_impl_IsDelaunay 32 = sp_impl_ordered := rfl
theorem lk_impl_IsDelaunay_impl_Triangle_inIndex : lkG g_impl_IsDelaunay 33 = sp_impl_Triangle_inIndex := rfl
theorem lk_impl_IsDelaunay_impl_Triangle_turn : lkG g_impl_IsDelaunay 34 = sp_impl_Triangle_turn := rfl
def h_impl_IsDelaunay : List (Nat × HSpec) := [(35, hs_slices_ContainsFunc_impl_Point_impl_Point_del)]
theorem hok_impl_IsDelaunay : HOK Try.prog h_impl_IsDelaunay := hok_cons hk_slices_ContainsFunc_impl_Point_impl_Point_del en_slices_ContainsFunc_impl_Point_impl_Point_del (hok0)
theorem lh_impl_IsDelaunay_impl_ordered : lkHS h_impl_IsDelaunay 32 = none := rfl
theorem lh_impl_IsDelaunay_impl_Triangle_inIndex : lkHS h_impl_IsDelaunay 33 = none := rfl
theorem lh_impl_IsDelaunay_impl_Triangle_turn : lkHS h_impl_IsDelaunay 34 = none := rfl
theorem lh_impl_IsDelaunay_slices_ContainsFunc_impl_Point_impl_Point_del : lkHS h_impl_IsDelaunay 35 = some hs_slices_ContainsFunc_impl_Point_impl_Point_del := rfl
theorem c_impl_IsDelaunay (l : List Pt) (ts : List Tr)  : ICall Try.prog 8 [.sl 2 (encPs l), .sl 3 (encTs ts)] (.bool (delB l ts)) := by
  refine icall_V (G := g_impl_IsDelaunay) (H := h_impl_IsDelaunay) [] tabOK mixed gok_impl_IsDelaunay hok_impl_IsDelaunay Try.func8 rfl Try.ntmps8 Try.results8 rfl (by kernel_rfl) fun F hN hlen => ?_
  have el := len_encPs l
  have et := len_encTs ts
  have hv : delB l ts = (siteB l && decide (ts.length ≤ 40) && ts.all (delT l)) := rfl
  cases h1 : siteB l with
  | false =>
    rw [h1] at hv
    simp only [V_seq, V_ret, V_region, V_cond, brW_true, W_nil, W_cons, effOp2, KN_seq, KXr_nil, KXr_seq, QE, asB, effOp, effPure, effPick, effNew, effBox, effCall, giveUp, hasAll, skipE, pureV, pickV, binV, partV, loadV, lenV, solid, IV.cells, ofC, strip, lkT, lkH, ISt.app, opI, gO, gB, allB, gval, wrapG, dstOK, setD, mentTm, mentHp, IV.ment, oneI, lendV, lendP, lent, lentP, idsV, idsL, flat, clean, callArgs, callFn, allLent, enumT, Gives, Ideal.Fin, conv, conv0, Op.operands, Call.operands, List.append_toArray, reduceIte, reduceCtorEq, cond_true, Bool.or_false, Bool.and_true, Bool.false_and, Bool.not_true, Bool.not_false, Nat.reduceLT, Nat.reduceLeDiff, Nat.reduceEqDiff, Nat.zero_add, ne_eq, not_false_eq_true, and_true, and_self, false_implies, implies_true, List.map_cons, List.map_nil, List.nil_append, List.cons_append, List.append_nil, List.all_cons, List.all_nil, Option.bind_some, List.getElem?_cons_zero, List.getElem?_cons_succ, List.getD_cons_zero, List.length_cons, List.length_nil, List.take_succ_cons, List.take_nil, List.drop_zero, ex_clo, btf, or_self, Bool.true_eq_false, Bool.false_eq_true, tab23, tab24, hN, isPs_enc, toPs_enc, lk_impl_IsDelaunay_impl_ordered, sp_impl_ordered, lh_impl_IsDelaunay_impl_ordered, h1, hv]
  | true =>
    have hk := site_vp h1
    have hn20 := okPs_len hk
    have hm := okPs_sm hk
    rw [h1, Bool.true_and] at hv
    cases h2 : decide ((40 : Int) < (ts.length : Int)) with
    | true =>
      have h3 : decide (ts.length ≤ 40) = false := by simp at h2 ⊢; omega
      rw [h3, Bool.false_and] at hv
      simp only [V_seq, V_ret, V_region, V_cond, brW_true, W_nil, W_cons, effOp2, KN_seq, KXr_nil, KXr_seq, QE, asB, effOp, effPure, effPick, effNew, effBox, effCall, giveUp, hasAll, skipE, pureV, pickV, binV, partV, loadV, lenV, solid, IV.cells, ofC, strip, lkT, lkH, ISt.app, opI, gO, gB, allB, gval, wrapG, dstOK, setD, mentTm, mentHp, IV.ment, oneI, lendV, lendP, lent, lentP, idsV, idsL, flat, clean, callArgs, callFn, allLent, enumT, Gives, Ideal.Fin, conv, conv0, Op.operands, Call.operands, List.append_toArray, reduceIte, reduceCtorEq, cond_true, cond_false, Bool.or_false, Bool.and_true, Bool.not_true, Nat.reduceLT, Nat.reduceLeDiff, Nat.reduceEqDiff, Nat.zero_add, ne_eq, not_false_eq_true, beq_self_eq_true, and_self, implies_true, List.map_cons, List.map_nil, List.nil_append, List.cons_append, List.append_nil, List.all_cons, List.all_nil, Option.bind_some, List.getElem?_cons_zero, List.getElem?_cons_succ, List.getD_cons_zero, List.length_cons, List.length_nil, List.take_succ_cons, List.take_nil, List.drop_zero, ex_clo, or_self, Bool.false_eq_true, tab23, tab24, hN, isPs_enc, toPs_enc, lk_impl_IsDelaunay_impl_ordered, sp_impl_ordered, lh_impl_IsDelaunay_impl_ordered, h1, et, h2, hv]
    | false =>
      have h40 : ts.length ≤ 40 := by simp at h2; omega
      have h3 : decide (ts.length ≤ 40) = true := by simpa using h40
      rw [h3, Bool.true_and] at hv
      simp only [V_seq, V_skip, V_block, V_region, V_cond, brW_false, W_nil, W_cons, effOp2, KN_seq, asB, effOp, effPure, effPick, effNew, effBox, effCall, giveUp, hasAll, skipE, pureV, pickV, binV, partV, loadV, lenV, solid, IV.cells, ofC, strip, lkT, lkH, ISt.app, opI, gO, gB, allB, gval, wrapG, dstOK, setD, mentTm, mentHp, IV.ment, oneI, lendV, lendP, lent, lentP, idsV, idsL, flat, clean, callArgs, callFn, allLent, enumT, Op.operands, Call.operands, List.append_toArray, reduceIte, reduceCtorEq, cond_true, cond_false, Bool.or_false, Bool.and_true, Bool.not_true, Nat.reduceLT, Nat.reduceLeDiff, Nat.reduceEqDiff, Nat.zero_add, ne_eq, not_false_eq_true, beq_self_eq_true, true_and, and_self, implies_true, List.map_cons, List.map_nil, List.nil_append, List.cons_append, List.append_nil, List.all_cons, List.all_nil, Option.bind_some, List.getElem?_cons_zero, List.getElem?_cons_succ, List.getD_cons_zero, List.length_cons, List.length_nil, List.take_succ_cons, List.take_nil, List.drop_zero, ex_clo, or_self, Bool.false_eq_true, tab23, tab24, hN, isPs_enc, toPs_enc, lk_impl_IsDelaunay_impl_ordered, sp_impl_ordered, lh_impl_IsDelaunay_impl_ordered, h1, et, h2]
      refine V_loop (α := Nat) ⟨tabOK, mixed, gok_impl_IsDelaunay, hok_impl_IsDelaunay⟩ (by kernel_rfl) (fun i => i ≤ ts.length ∧ ∀ j, j < i → delT l (tAt ts j) = true) (fun i => ⟨[(17, .num .i64 i), (16, .num .i64 ts.length), (15, .sl 3 (encTs ts)), (2, .ptr 2 0)], [(2, some (.box 23 [.sl 2 (encPs l)]))]⟩) (fun i => ts.length - i) 0 id ⟨Nat.zero_le _, fun j h => absurd h (Nat.not_lt_zero j)⟩ (by simp [SLe, SLe0, convTm, convHp, convB, conv, conv0, convL, lkT, lkH, clean]) ?_
      rintro i ⟨hi, hj⟩
      simp only [V_seq, V_region, V_cond, W_nil, W_cons, effOp2, KN_seq, asB, effOp, effPure, pureV, binV, strip, lkT, ISt.app, opI, gO, gB, allB, gval, wrapG, dstOK, setD, Op.operands, reduceIte, Nat.reduceLT, Nat.reduceEqDiff, true_and, and_self, implies_true, List.nil_append, List.cons_append, hN]
      refine brW_some (fun h => ?_) (fun h => ?_)
      · have hi' : i < ts.length := by simpa using h
        have hw := wr_succ hi' (by rw [maxLen_eq]; omega)
        have g0 := getD_encTs hi'
        have hall : delT l (tAt ts i) = false → delB l ts = false := delT_no hi'
        have hstep := fun h => lt_stepD (P := fun j => delT l (tAt ts j) = true) hj h
        generalize tAt ts i = t at *
        have hdt : delT l t = (idxOK l.length t && !(decide (turn (triA l t) (triB l t) (triC l t) ≤ 0)) && !(l.any (circS l t))) := rfl
        have z1 : (0 : Int) ≤ (l.length : Int) ∧ (l.length : Int) ≤ 9223372036854775807 := by omega
        have z2 : l.length ≤ 1000000 := by omega
        have hvq : ∀ q ∈ l, Vp q := fun q hq => by
          obtain ⟨c, hc, rfl⟩ := mem_pA hq
          exact okPs_vp hk hc
        cases c1 : idxOK l.length t with
        | false =>
          have hn := hall (by rw [hdt, c1]; rfl)
          simp only [V_seq, V_skip, V_ret, V_block, V_region, V_cond, brW_true, W_nil, W_cons, effOp2, KN_seq, KXr_nil, KXr_seq, KXr_block, KXr_back, QE, asB, effOp, effPure, effPick, effNew, effAlloc, effStore, effCall, giveUp, hasAll, skipE, pureV, pickV, storeV, binV, partV, eltV, loadV, iaddrV, lenV, over, solid, IV.cells, ofC, strip, lkT, lkH, ISt.app, opI, gO, gB, allB, gval, wrapG, dstOK, setD, mentTm, mentHp, IV.ment, IV.mentL, oneI, lendV, lendP, lent, lentP, idsV, idsL, flat, clean, callArgs, callFn, allLent, Gives, Ideal.Fin, conv, conv0, Op.operands, Call.operands, List.append_toArray, reduceIte, reduceCtorEq, cond_true, Bool.or_false, Bool.or_true, Bool.and_true, Bool.not_true, Bool.not_false, Nat.reduceAdd, Nat.reduceLT, Nat.reduceLeDiff, Nat.reduceEqDiff, Nat.reduceBEq, Nat.zero_add, ne_eq, not_false_eq_true, true_and, and_true, false_and, and_false, and_self, false_implies, implies_true, forall_const, List.map_cons, List.map_nil, List.nil_append, List.cons_append, List.append_nil, List.all_cons, List.all_nil, Option.bind_some, List.getElem?_cons_zero, List.getElem?_cons_succ, List.getD_cons_zero, List.length_cons, List.length_nil, List.take_succ_cons, List.take_zero, List.take_nil, List.drop_succ_cons, List.drop_zero, List.drop_nil, ex_clo, btf, or_self, Bool.true_eq_false, Bool.false_eq_true, tab23, tab24, tab32, hN, pe, Int.toNat_natCast, isPs_enc, toPs_enc, lk_impl_IsDelaunay_impl_Triangle_inIndex, lk_impl_IsDelaunay_impl_Triangle_turn, sp_impl_Triangle_inIndex, sp_impl_Triangle_turn, lh_impl_IsDelaunay_impl_Triangle_inIndex, lh_impl_IsDelaunay_impl_Triangle_turn, el, et, g0, z1, c1, hn]
          omega
        | true =>
          cases c2 : decide (turn (triA l t) (triB l t) (triC l t) ≤ 0) with
          | true =>
            have hn := hall (by rw [hdt, c1, c2]; rfl)
            simp only [V_seq, V_skip, V_ret, V_block, V_region, V_cond, brW_true, W_nil, W_cons, effOp2, KN_seq, KXr_nil, KXr_seq, KXr_block, KXr_back, QE, asB, effOp, effPure, effPick, effNew, effAlloc, effStore, effCall, giveUp, hasAll, skipE, pureV, pickV, storeV, binV, partV, eltV, loadV, iaddrV, lenV, over, solid, IV.cells, ofC, strip, lkT, lkH, ISt.app, opI, gO, gB, allB, gval, wrapG, dstOK, setD, mentTm, mentHp, IV.ment, IV.mentL, oneI, lendV, lendP, lent, lentP, idsV, idsL, flat, clean, callArgs, callFn, allLent, Gives, Ideal.Fin, conv, conv0, Op.operands, Call.operands, List.append_toArray, reduceIte, reduceCtorEq, cond_true, cond_false, Bool.or_false, Bool.and_true, Bool.not_true, Nat.reduceAdd, Nat.reduceLT, Nat.reduceLeDiff, Nat.reduceEqDiff, Nat.reduceBEq, Nat.zero_add, ne_eq, not_false_eq_true, beq_self_eq_true, true_and, and_true, and_false, and_self, implies_true, forall_const, List.map_cons, List.map_nil, List.nil_append, List.cons_append, List.append_nil, List.all_cons, List.all_nil, Option.bind_some, List.getElem?_cons_zero, List.getElem?_cons_succ, List.getD_cons_zero, List.length_cons, List.length_nil, List.take_succ_cons, List.take_zero, List.take_nil, List.drop_succ_cons, List.drop_zero, List.drop_nil, ex_clo, or_self, Bool.false_eq_true, tab23, tab24, tab32, hN, pe, Int.toNat_natCast, isPs_enc, toPs_enc, lk_impl_IsDelaunay_impl_Triangle_inIndex, lk_impl_IsDelaunay_impl_Triangle_turn, sp_impl_Triangle_inIndex, sp_impl_Triangle_turn, lh_impl_IsDelaunay_impl_Triangle_inIndex, lh_impl_IsDelaunay_impl_Triangle_turn, el, et, g0, z1, z2, hm, c1, c2, hn]
            omega
          | false =>
            have ht : 0 < turn (triA l t) (triB l t) (triC l t) := by have := of_decide_eq_false c2; omega
            cases c3 : l.any (circS l t) with
            | true =>
              have hn := hall (by rw [hdt, c1, c2, c3]; rfl)
              simp only [V_seq, V_skip, V_ret, V_block, V_region, V_cond, brW_true, brW_false, W_nil, W_cons, effOp2, KN_seq, KXr_nil, KXr_seq, KXr_block, KXr_back, QE, asB, effOp, effPure, effPick, effNew, effAlloc, effStore, effCall, giveUp, hasAll, Option.isSome_some, skipE, pureV, pickV, storeV, binV, partV, eltV, loadV, iaddrV, lenV, over, solid, IV.cells, ofC, strip, lkT, lkH, ISt.app, opI, gO, gB, allB, gval, wrapG, dstOK, setD, mentTm, mentHp, IV.ment, IV.mentL, oneI, lendV, lendP, lent, lentP, idsV, idsL, flat, clean, callArgs, callFn, allLent, enumT, Gives, Ideal.Fin, conv, conv0, convL, IBlk.shape, Op.operands, Call.operands, List.append_toArray, reduceIte, reduceCtorEq, cond_true, cond_false, Bool.or_false, Bool.or_true, Bool.and_true, Bool.not_true, Nat.reduceAdd, Nat.reduceSub, Nat.reduceMul, Nat.reduceLT, Nat.reduceLeDiff, Nat.reduceEqDiff, Nat.reduceBEq, Nat.zero_add, ne_eq, not_false_eq_true, beq_self_eq_true, true_and, and_true, and_false, and_self, implies_true, forall_const, List.map_cons, List.map_nil, List.nil_append, List.cons_append, List.append_nil, List.all_cons, List.all_nil, Option.map_some, Option.bind_some, List.getElem?_cons_zero, List.getElem?_cons_succ, List.getD_cons_zero, List.getD_cons_succ, List.length_cons, List.length_nil, List.take_succ_cons, List.take_zero, List.take_nil, List.drop_succ_cons, List.drop_zero, List.drop_nil, ex_clo, or_self, Bool.true_eq_false, Bool.false_eq_true, tab23, tab24, tab32, hN, pe, Int.toNat_natCast, isPs_enc, toPs_enc, SLe0, convTm, convHp, convB, sm, effH, mkHC0, mkHC1, lendM, lentM, lentI, allHere, addIds, idsB, flatIds, reach, posn, renV, renL, renB, renH, numB, subHp, fwd, bk, bwd, nones, keyOK, noSl, noSlL, flatBs, List.contains, List.elem, Option.isSome_some, List.nodup_nil, List.nodup_cons, List.not_mem_nil, List.mem_cons, or_false, Option.getD_some, lk_impl_IsDelaunay_impl_Triangle_inIndex, lk_impl_IsDelaunay_impl_Triangle_turn, sp_impl_Triangle_inIndex, sp_impl_Triangle_turn, lh_impl_IsDelaunay_impl_Triangle_inIndex, lh_impl_IsDelaunay_impl_Triangle_turn, lh_impl_IsDelaunay_slices_ContainsFunc_impl_Point_impl_Point_del, hs_slices_ContainsFunc_impl_Point_impl_Point_del, el, et, g0, z1, z2, hm, hk, ht, c1, c2, c3, hn]
              exact ⟨⟨by omega, by omega⟩, hvq⟩
            | false =>
              have hst := hstep (by rw [hdt, c1, c2, c3]; rfl)
              simp only [V_seq, V_skip, V_block, V_region, V_cond, brW_false, W_nil, W_cons, effOp2, KN_seq, KN_block, KN_back, asB, effOp, effPure, effPick, effNew, effAlloc, effStore, effCall, giveUp, hasAll, Option.isSome_some, skipE, pureV, pickV, storeV, binV, partV, eltV, loadV, iaddrV, lenV, over, solid, IV.cells, ofC, strip, lkT, lkH, ISt.app, opI, gO, gB, allB, gval, wrapG, dstOK, setD, mentTm, mentHp, IV.ment, IV.mentL, oneI, lendV, lendP, lent, lentP, idsV, idsL, flat, clean, callArgs, callFn, allLent, enumT, conv, conv0, convL, IBlk.shape, Op.operands, Call.operands, List.append_toArray, reduceIte, reduceCtorEq, cond_true, cond_false, Bool.or_false, Bool.or_true, Bool.and_true, Bool.not_true, Nat.reduceAdd, Nat.reduceSub, Nat.reduceMul, Nat.reduceLT, Nat.reduceLeDiff, Nat.reduceEqDiff, Nat.reduceBEq, Nat.zero_add, ne_eq, not_false_eq_true, beq_self_eq_true, true_and, and_true, and_false, and_self, implies_true, forall_const, List.map_cons, List.map_nil, List.nil_append, List.cons_append, List.append_nil, List.all_cons, List.all_nil, Option.map_some, Option.bind_some, List.getElem?_cons_zero, List.getElem?_cons_succ, List.getD_cons_zero, List.getD_cons_succ, List.length_cons, List.length_nil, List.take_succ_cons, List.take_zero, List.take_nil, List.drop_succ_cons, List.drop_zero, List.drop_nil, ex_clo, or_self, Bool.true_eq_false, Bool.false_eq_true, tab23, tab24, tab32, hN, pe, Int.toNat_natCast, isPs_enc, toPs_enc, SLe0, convTm, convHp, convB, sm, effH, mkHC0, mkHC1, lendM, lentM, lentI, allHere, addIds, idsB, flatIds, reach, posn, renV, renL, renB, renH, numB, subHp, fwd, bk, bwd, nones, keyOK, noSl, noSlL, flatBs, List.contains, List.elem, Option.isSome_some, List.nodup_nil, List.nodup_cons, List.not_mem_nil, List.mem_cons, or_false, Option.getD_some, lk_impl_IsDelaunay_impl_Triangle_inIndex, lk_impl_IsDelaunay_impl_Triangle_turn, sp_impl_Triangle_inIndex, sp_impl_Triangle_turn, lh_impl_IsDelaunay_impl_Triangle_inIndex, lh_impl_IsDelaunay_impl_Triangle_turn, lh_impl_IsDelaunay_slices_ContainsFunc_impl_Point_impl_Point_del, hs_slices_ContainsFunc_impl_Point_impl_Point_del, el, et, g0, z1, z2, hm, hk, ht, c1, c2, c3, hw]
              exact ⟨⟨by omega, by omega⟩, hvq, i + 1, id, ⟨by omega, hst⟩, by simp only []; omega, by simp [SLe, SLe0, convTm, convHp, convB, conv, conv0, convL, lkT, lkH, clean]⟩
      · have hie : i = ts.length := by simp at h; omega
        subst hie
        have ha := all_yes (p := delT l) (d := (0, 0, 0)) hj
        rw [ha] at hv
        simp only [V_seq, V_ret, V_exit, V_region, W_nil, W_cons, effOp2, KN_seq, KXr_nil, KXe_nil, KXe_seq, KXe_block, KXe_back, QE, effOp, effPure, pureV, ofC, strip, lkT, lkH, ISt.app, opI, gO, gB, allB, gval, wrapG, dstOK, setD, clean, Gives, Ideal.Fin, conv, conv0, Op.operands, reduceIte, Nat.reduceLT, Nat.reduceEqDiff, and_self, implies_true, List.nil_append, List.cons_append, hN, hv]
def sp_impl_IsDelaunay : PSpec := ⟨fun xs => match xs with | [.sl 2 les, .sl 3 tses] => isPs les ∧ isTs tses | _ => False, fun xs => match xs with | [.sl _ les, .sl _ tses] => (fun (l : List Pt) (ts : List Tr) => .bool (delB l ts)) (toPs les) (toTs tses) | _ => .junk, false⟩
theorem gk_impl_IsDelaunay : ∀ args, sp_impl_IsDelaunay.pre args → ICall Try.prog 8 args (sp_impl_IsDelaunay.val args) := by
  intro args h
  unfold sp_impl_IsDelaunay at h ⊢; simp only at h ⊢; split at h
  · obtain ⟨h0, h1⟩ := h
    obtain ⟨l0, rfl⟩ := isP_ex h0
    obtain ⟨l1, rfl⟩ := isT_ex h1
    simp only [toPs_enc, toTs_enc] at *
    exact c_impl_IsDelaunay _ _ 
  · exact h.elim
theorem en_impl_IsDelaunay : Enters Try.prog 8 := enters_of Try.func8 (by kernel_rfl) rfl


end Go.Proofs.Ytbbmeabfmjkldaa
