/- Contracts: redundant half-planes, empty regions; the exact laws on them. -/
import Derived.Test.YtjlcbomigbolcaaB32
set_option linter.unusedVariables false
set_option linter.unusedSimpArgs false
set_option maxHeartbeats 1600000
set_option maxRecDepth 100000
namespace Go.Proofs.Ytjlcbomigbolcaa
open Go Go.Ideal Go.Pl Go.Sort

theorem has_sq {p : Qd} {b1 b2 : Int} (hr : redR p.1.2 p.2.2 = (b1, b2)) (h : Tr) : hasH (p.1.1 * b2) (p.2.1 * b1) (b1 * p.2.2) h = decide (sideQ h p ≤ 0) := by
  rw [side_eq, hr, hasH, Bool.eq_iff_iff, decide_eq_true_iff, decide_eq_true_iff]
  simp only []
  rw [← Int.mul_assoc h.2.2 b1]
  omega
def g_impl_IsRedundant_1 : List (Nat × PSpec) := [(79, sp_impl_divisor), (73, sp_impl_HalfPlane_has)]
theorem gok_impl_IsRedundant_1 : GOK Try.prog g_impl_IsRedundant_1 := gok_cons gk_impl_divisor en_impl_divisor (gok_cons gk_impl_HalfPlane_has en_impl_HalfPlane_has (gok0))
theorem lk_impl_IsRedundant_1_impl_divisor : lkG g_impl_IsRedundant_1 79 = sp_impl_divisor := rfl
theorem lk_impl_IsRedundant_1_impl_HalfPlane_has : lkG g_impl_IsRedundant_1 73 = sp_impl_HalfPlane_has := rfl
def h_impl_IsRedundant_1 : List (Nat × HSpec) := []
theorem hok_impl_IsRedundant_1 : HOK Try.prog h_impl_IsRedundant_1 := hok0
theorem c_impl_IsRedundant_1 (p : Qd) (l : List Tr) (k : Nat) (hq : sqQ p) (hk : k < l.length) (hs : smH (tAt l k)) : HCall Try.prog 78 [.agg [.num .i64 p.1.1, .num .i64 p.1.2, .num .i64 p.2.1, .num .i64 p.2.2], .ptr 1000 0, .ptr 1001 0] (sm ([(1000, .box 23 [.sl 3 (encTs l)]), (1001, .box 3 [.num .i64 k])])) (.bool (!decide (sideQ (tAt l k) p ≤ 0))) (sm ([(1000, .box 23 [.sl 3 (encTs l)]), (1001, .box 3 [.num .i64 k])])) := by
  refine hcall_V (G := g_impl_IsRedundant_1) (H := []) [(1, [(0, 9), (1, 9), (2, 9), (3, 9), (4, 9), (6, 9), (7, 9), (9, 11), (9, 12), (9, 13), (9, 14)]), (2, [(0, 23), (1, 23), (2, 23), (4, 23), (5, 23), (6, 23), (7, 23), (8, 23), (9, 23), (10, 23), (11, 23), (13, 23), (14, 23), (15, 23), (16, 23), (17, 23), (18, 23), (19, 23), (20, 23)])] tabOK mixed gok_impl_IsRedundant_1 hok_impl_IsRedundant_1 Try.func78 rfl Try.ntmps78 Try.results78 rfl (by kernel_rfl) fun F hN hlen => ?_
  simp only [sm]
  obtain ⟨b1, b2, hr, h1, h2, he, h3, h4, h5, h6, h7, t1, t2⟩ := sq_facts hq
  obtain ⟨k1, k2, k3, k4, _⟩ := hq
  obtain ⟨hg, _⟩ := red_gcd (n := p.1.2) (d := p.2.2) (by omega)
  have hg0 : (Int.gcd p.1.2 p.2.2 : Int) ≠ 0 := by omega
  have e1 : p.1.2.tdiv (Int.gcd p.1.2 p.2.2) = b1 := congrArg Prod.fst hr
  have z1 : -9223372036854775807 ≤ p.1.2 ∧ p.1.2 ≤ 9223372036854775807 := by omega
  have z2 : -9223372036854775807 ≤ p.2.2 ∧ p.2.2 ≤ 9223372036854775807 := by omega
  have hm := Int.mul_pos h1 k2
  have w1 : IntKind.i64.wrap b1 = b1 := wr (by omega) (by omega)
  have w2 : IntKind.i64.wrap (b1 * p.2.2) = b1 * p.2.2 := wr (by omega) (by omega)
  have w3 : IntKind.i64.wrap b2 = b2 := wr (by omega) (by omega)
  have w4 : IntKind.i64.wrap (p.1.1 * b2) = p.1.1 * b2 := wr (by omega) (by omega)
  have w5 : IntKind.i64.wrap (p.2.1 * b1) = p.2.1 * b1 := wr (by omega) (by omega)
  have q1 : p.1.2 ≠ 0 := by omega
  have q2 : p.2.2 ≠ 0 := by omega
  have q3 : -20000000 ≤ b1 * p.2.2 ∧ b1 * p.2.2 ≤ 20000000 := by omega
  have hv := has_sq hr (tAt l k)
  have el := len_encTs l
  have g0 := getD_encTs hk
  obtain ⟨h, hh⟩ : ∃ h, tAt l k = h := ⟨_, rfl⟩
  rw [hh] at g0 hv hs
  simp only [V_seq, V_ret, V_region, V_draw, drawW, WS_nil, pairsOf, W_nil, W_cons, effOp2, WI_nil, WI_cons, KN_seq, KXr_nil, QE, dynOK, indB, farB, freshB, heapy, effOp, effPure, effNew, effBox, effCall, giveUp, hasAll, skipE, pureV, binV, partV, eltV, loadV, faddrV, iaddrV, solid, IV.cells, ofC, strip, lkT, lkH, ISt.app, opI, gO, gB, allB, gval, wrapG, dstOK, setD, mentTm, mentHp, IV.ment, IV.mentL, oneI, lendV, lendP, lent, lentP, idsV, idsL, lkHS, flat, clean, callArgs, callFn, allLent, enumT, conv, conv0, IBlk.shape, Op.operands, Call.operands, List.append_toArray, reduceIte, reduceCtorEq, cond_true, cond_false, Bool.or_false, Bool.and_true, Bool.and_eq_true, Bool.not_true, Bool.not_false, Nat.reduceAdd, Nat.reduceLT, Nat.reduceLeDiff, Nat.reduceEqDiff, Nat.reduceBEq, Nat.add_zero, Nat.zero_add, ne_eq, not_false_eq_true, true_and, and_true, and_false, and_self, false_implies, implies_true, forall_const, List.map_cons, List.map_nil, List.nil_append, List.cons_append, List.append_nil, List.all_cons, List.all_nil, Option.map_some, List.getD_cons_zero, List.getD_cons_succ, List.length_cons, List.length_nil, List.take_succ_cons, List.take_zero, List.take_nil, List.drop_succ_cons, List.drop_zero, ex_clo, or_self, tab3, tab23, tab37, tab39, tab92, hN, pe, Int.toNat_natCast, FinH, resA, resV, SLe, SLe0, convTm, convHp, convB, lk_impl_IsRedundant_1_impl_divisor, lk_impl_IsRedundant_1_impl_HalfPlane_has, sp_impl_divisor, sp_impl_HalfPlane_has, z1, z2, hg0, e1, w1, w2, w3, w4, w5, t1, t2, q1, q2, q3, h6, h7, hv, el, g0, hs, hh]
  exact ⟨⟨by omega, by omega⟩, id, by simp [convL, conv, conv0, clean]⟩
def hs_impl_IsRedundant_1 : HSpec := ⟨[false, false, false], fun xs hp => match xs, hp with | [.agg [.num .i64 p1, .num .i64 p2, .num .i64 p3, .num .i64 p4], .ptr 1000 0, .ptr 1001 0], [(1000, .box ty [.sl 3 es]), (1001, .box ty2 [.num .i64 kk])] => (isTs es) ∧ (ty = 23) ∧ (ty2 = 3) ∧ (kk = (kk.toNat : Int)) ∧ ((fun (p : Qd) (l : List Tr) (k : Nat) => sqQ p) ((p1, p2), (p3, p4)) (toTs es) kk.toNat) ∧ ((fun (p : Qd) (l : List Tr) (k : Nat) => k < l.length) ((p1, p2), (p3, p4)) (toTs es) kk.toNat) ∧ ((fun (p : Qd) (l : List Tr) (k : Nat) => smH (tAt l k)) ((p1, p2), (p3, p4)) (toTs es) kk.toNat) | _, _ => False, fun xs hp => match xs, hp with | [.agg [.num .i64 p1, .num .i64 p2, .num .i64 p3, .num .i64 p4], .ptr 1000 0, .ptr 1001 0], [(1000, .box ty [.sl 3 es]), (1001, .box ty2 [.num .i64 kk])] => (fun (p : Qd) (l : List Tr) (k : Nat) => (.bool (!decide (sideQ (tAt l k) p ≤ 0)) : IV)) ((p1, p2), (p3, p4)) (toTs es) kk.toNat | _, _ => .junk, fun xs hp => match xs, hp with | [.agg [.num .i64 p1, .num .i64 p2, .num .i64 p3, .num .i64 p4], .ptr 1000 0, .ptr 1001 0], [(1000, .box ty [.sl 3 es]), (1001, .box ty2 [.num .i64 kk])] => (fun (p : Qd) (l : List Tr) (k : Nat) => ([(1000, .box 23 [.sl 3 (encTs l)]), (1001, .box 3 [.num .i64 k])] : List (Nat × IBlk))) ((p1, p2), (p3, p4)) (toTs es) kk.toNat | _, _ => []⟩
theorem hk_impl_IsRedundant_1 : ∀ args hp, hs_impl_IsRedundant_1.pre args hp → HCall Try.prog 78 args (sm hp) (hs_impl_IsRedundant_1.val args hp) (sm (hs_impl_IsRedundant_1.hval args hp)) := by
  intro args hp h
  unfold hs_impl_IsRedundant_1 at h ⊢; simp only at h ⊢; split at h
  · obtain ⟨h1, rfl, rfl, h0, h2, h3, h4⟩ := h; obtain ⟨l, rfl⟩ := isT_ex h1; rw [toTs_enc] at *; rw [h0]; exact c_impl_IsRedundant_1 ((_, _), (_, _)) l _ h2 (by simpa using h3) (by simpa using h4)
  · exact h.elim
theorem en_impl_IsRedundant_1 : Enters Try.prog 78 := enters_of Try.func78 (by kernel_rfl) rfl

def g_slices_IndexFunc_impl_RatPoint_impl_RatPoint_red : List (Nat × PSpec) := []
theorem gok_slices_IndexFunc_impl_RatPoint_impl_RatPoint_red : GOK Try.prog g_slices_IndexFunc_impl_RatPoint_impl_RatPoint_red := gok0
def h_slices_IndexFunc_impl_RatPoint_impl_RatPoint_red : List (Nat × HSpec) := [(78, hs_impl_IsRedundant_1)]
theorem hok_slices_IndexFunc_impl_RatPoint_impl_RatPoint_red : HOK Try.prog h_slices_IndexFunc_impl_RatPoint_impl_RatPoint_red := hok_cons hk_impl_IsRedundant_1 en_impl_IsRedundant_1 (hok0)
theorem lh_slices_IndexFunc_impl_RatPoint_impl_RatPoint_red_impl_IsRedundant_1 : lkHS h_slices_IndexFunc_impl_RatPoint_impl_RatPoint_red 78 = some hs_impl_IsRedundant_1 := rfl
theorem c_slices_IndexFunc_impl_RatPoint_impl_RatPoint_red (m : List Qd) (l : List Tr) (k : Nat) (hq : ∀ p ∈ m, sqQ p) (hk : k < l.length) (hs : smH (tAt l k)) (hsz : m.length ≤ 1000000) : HCall Try.prog 154 [.sl 4 (encQs m), .clo 78 [.ptr 1000 0, .ptr 1001 0]] (sm ([(1000, .box 23 [.sl 3 (encTs l)]), (1001, .box 3 [.num .i64 k])])) (.num .i64 (idxF (fun p => !decide (sideQ (tAt l k) p ≤ 0)) m 0)) (sm ([(1000, .box 23 [.sl 3 (encTs l)]), (1001, .box 3 [.num .i64 k])])) := by
  refine hcall_V (G := g_slices_IndexFunc_impl_RatPoint_impl_RatPoint_red) (H := h_slices_IndexFunc_impl_RatPoint_impl_RatPoint_red) [] tabOK mixed gok_slices_IndexFunc_impl_RatPoint_impl_RatPoint_red hok_slices_IndexFunc_impl_RatPoint_impl_RatPoint_red Try.func154 rfl Try.ntmps154 Try.results154 rfl (by kernel_rfl) fun F hN hlen => ?_
  simp only [sm]
  have el := len_encQs m
  simp only [V_seq, V_block, V_region, W_nil, W_cons, effOp2, KN_seq, effOp, effPure, pureV, lenV, ofC, strip, lkT, ISt.app, opI, gO, gB, allB, gval, wrapG, dstOK, setD, enumT, Op.operands, Call.operands, List.append_toArray, reduceIte, reduceCtorEq, Nat.reduceLT, Nat.reduceEqDiff, Nat.zero_add, ne_eq, not_false_eq_true, true_and, and_self, implies_true, List.nil_append, List.cons_append, tab25, hN, el]
  refine V_loop (α := Nat) ⟨tabOK, mixed, gok_slices_IndexFunc_impl_RatPoint_impl_RatPoint_red, hok_slices_IndexFunc_impl_RatPoint_impl_RatPoint_red⟩ (by kernel_rfl) (fun i => i ≤ m.length ∧ idxF (fun p => !decide (sideQ (tAt l k) p ≤ 0)) m 0 = idxF (fun p => !decide (sideQ (tAt l k) p ≤ 0)) (m.drop i) i)
    (fun i => ⟨[(8, .num .i64 i), (7, .num .i64 m.length), (0, .sl 4 (encQs m)), (1, .clo 78 [.ptr 1000 0, .ptr 1001 0])], [(1000, some (.box 23 [.sl 3 (encTs l)])), (1001, some (.box 3 [.num .i64 k]))]⟩) (fun i => m.length - i) 0 id (by simp) (by simp [SLe, SLe0, convTm, convHp, convB, conv, conv0, convL, lkT, lkH, clean]) ?_
  rintro i ⟨hi2, hj⟩
  simp only [V_seq, V_region, V_cond, W_nil, W_cons, effOp2, KN_seq, asB, effOp, effPure, pureV, binV, strip, lkT, ISt.app, opI, gO, gB, allB, gval, wrapG, dstOK, setD, Op.operands, reduceIte, reduceCtorEq, Nat.reduceLT, Nat.reduceEqDiff, true_and, and_self, implies_true, List.nil_append, List.cons_append, hN]
  refine brW_some (fun h => ?_) (fun h => ?_)
  · have hi' : i < m.length := by simpa using h
    have g0 := getD_encQs hi'
    have hw := wr_succ hi' (by rw [maxLen_eq]; omega)
    have hst := idxF_step (p := fun p => !decide (sideQ (tAt l k) p ≤ 0)) (d := ((0, 0), (0, 0))) hi'
    have hb : sqQ (qAt m i) := hq _ (by rw [qAt, List.getD, List.getElem?_eq_getElem hi']; exact List.getElem_mem hi')
    have hpt : m.getD i ((0, 0), (0, 0)) = qAt m i := rfl
    rw [hpt] at hst
    generalize qAt m i = z at *
    simp only [V_seq, V_skip, V_block, V_region, V_cond, W_nil, W_cons, effOp2, KN_seq, asB, effOp, effPure, Option.isSome_some, skipE, pureV, partV, eltV, loadV, iaddrV, strip, lkT, lkH, ISt.app, opI, gO, gB, allB, gval, wrapG, dstOK, setD, mentTm, mentHp, IV.ment, IV.mentL, idsV, idsL, clean, callArgs, callFn, enumT, conv, conv0, convL, IBlk.shape, Op.operands, reduceIte, reduceCtorEq, cond_true, cond_false, Bool.or_false, Bool.or_true, Bool.and_true, Nat.reduceAdd, Nat.reduceSub, Nat.reduceMul, Nat.reduceLT, Nat.reduceLeDiff, Nat.reduceEqDiff, Nat.reduceBEq, Nat.zero_add, ne_eq, not_false_eq_true, beq_self_eq_true, true_and, and_true, and_false, and_self, implies_true, forall_const, List.map_cons, List.map_nil, List.nil_append, List.cons_append, List.append_nil, List.all_nil, Option.map_some, List.getD_cons_zero, List.getD_cons_succ, List.length_cons, List.length_nil, List.take_succ_cons, List.take_nil, List.drop_zero, ex_clo, or_self, Bool.true_eq_false, Bool.false_eq_true, tab25, tab39, hN, pe, Int.toNat_natCast, isTs_enc, toTs_enc, SLe0, convTm, convHp, convB, sm, effH, mkHC0, mkHC1, lendM, lentM, lentI, allHere, addIds, idsB, flatIds, reach, posn, renV, renL, renB, renH, numB, subHp, fwd, bk, bwd, nones, keyOK, noSl, noSlL, flatBs, List.contains, List.elem, Option.isSome_some, List.nodup_nil, List.nodup_cons, List.not_mem_nil, List.mem_cons, or_false, Option.getD_some, lh_slices_IndexFunc_impl_RatPoint_impl_RatPoint_red_impl_IsRedundant_1, hs_impl_IsRedundant_1, el, g0, hb, hk, hs]
    refine ⟨⟨by omega, by omega⟩, brW_some (fun h => ?_) (fun h => ?_)⟩
    · rw [if_pos h, ← hj] at hst
      simp only [V_seq, V_ret, V_region, W_nil, W_cons, effOp2, KN_seq, KXr_nil, KXr_seq, KXr_block, KXr_back, QE, effOp, effPure, pureV, strip, lkT, lkH, ISt.app, opI, gO, gB, allB, gval, wrapG, dstOK, setD, clean, conv, conv0, Op.operands, reduceIte, reduceCtorEq, Nat.reduceLT, Nat.reduceEqDiff, not_false_eq_true, true_and, and_true, and_self, false_implies, implies_true, List.map_cons, List.map_nil, List.nil_append, List.cons_append, hN, FinH, resA, resV, SLe, SLe0, convTm, convHp, convB, List.nodup_nil, List.nodup_cons, List.not_mem_nil, List.mem_cons, or_false, hst]
      exact ⟨id, by simp [convL, conv, conv0, clean]⟩
    · rw [if_neg (by rw [h]; decide), ← hj] at hst
      simp only [V_skip, V_region, W_nil, W_cons, effOp2, KN_seq, KN_block, KN_back, effOp, effPure, pureV, binV, ofC, strip, lkT, ISt.app, opI, gO, gB, allB, gval, wrapG, dstOK, setD, Op.operands, reduceIte, reduceCtorEq, Nat.reduceLT, Nat.reduceEqDiff, true_and, and_self, implies_true, List.nil_append, List.cons_append, hN, hw]
      exact ⟨i + 1, id, ⟨by omega, hst⟩, by simp only []; omega, by simp [SLe, SLe0, convTm, convHp, convB, conv, conv0, convL, lkT, lkH, clean]⟩
  · have hie : i = m.length := by simp at h; omega
    subst hie
    rw [List.drop_length] at hj
    simp only [V_seq, V_ret, V_exit, V_region, W_nil, W_cons, effOp2, KN_seq, KXr_nil, KXe_nil, KXe_seq, KXe_block, KXe_back, QE, effOp, effPure, pureV, ofC, strip, lkT, lkH, ISt.app, opI, gO, gB, allB, gval, wrapG, dstOK, setD, clean, conv, conv0, Op.operands, reduceIte, reduceCtorEq, Nat.reduceLT, Nat.reduceEqDiff, not_false_eq_true, true_and, and_true, and_self, false_implies, implies_true, List.map_cons, List.map_nil, List.nil_append, List.cons_append, hN, FinH, resA, resV, SLe, SLe0, convTm, convHp, convB, List.nodup_nil, List.nodup_cons, List.not_mem_nil, List.mem_cons, or_false, hj, idxF]
    exact ⟨id, by simp [convL, conv, conv0, clean]⟩
def hs_slices_IndexFunc_impl_RatPoint_impl_RatPoint_red : HSpec := ⟨[true, false], fun xs hp => match xs, hp with | [.sl 4 ms, .clo 78 [.ptr 1000 0, .ptr 1001 0]], [(1000, .box ty [.sl 3 es]), (1001, .box ty2 [.num .i64 kk])] => (isQs ms) ∧ (isTs es) ∧ (ty = 23) ∧ (ty2 = 3) ∧ (kk = (kk.toNat : Int)) ∧ ((fun (m : List Qd) (l : List Tr) (k : Nat) => ∀ p ∈ m, sqQ p) (toQs ms) (toTs es) kk.toNat) ∧ ((fun (m : List Qd) (l : List Tr) (k : Nat) => k < l.length) (toQs ms) (toTs es) kk.toNat) ∧ ((fun (m : List Qd) (l : List Tr) (k : Nat) => smH (tAt l k)) (toQs ms) (toTs es) kk.toNat) ∧ ((fun (m : List Qd) (l : List Tr) (k : Nat) => m.length ≤ 1000000) (toQs ms) (toTs es) kk.toNat) | _, _ => False, fun xs hp => match xs, hp with | [.sl 4 ms, .clo 78 [.ptr 1000 0, .ptr 1001 0]], [(1000, .box ty [.sl 3 es]), (1001, .box ty2 [.num .i64 kk])] => (fun (m : List Qd) (l : List Tr) (k : Nat) => (.num .i64 (idxF (fun p => !decide (sideQ (tAt l k) p ≤ 0)) m 0) : IV)) (toQs ms) (toTs es) kk.toNat | _, _ => .junk, fun xs hp => match xs, hp with | [.sl 4 ms, .clo 78 [.ptr 1000 0, .ptr 1001 0]], [(1000, .box ty [.sl 3 es]), (1001, .box ty2 [.num .i64 kk])] => (fun (m : List Qd) (l : List Tr) (k : Nat) => ([(1000, .box 23 [.sl 3 (encTs l)]), (1001, .box 3 [.num .i64 k])] : List (Nat × IBlk))) (toQs ms) (toTs es) kk.toNat | _, _ => []⟩
theorem hk_slices_IndexFunc_impl_RatPoint_impl_RatPoint_red : ∀ args hp, hs_slices_IndexFunc_impl_RatPoint_impl_RatPoint_red.pre args hp → HCall Try.prog 154 args (sm hp) (hs_slices_IndexFunc_impl_RatPoint_impl_RatPoint_red.val args hp) (sm (hs_slices_IndexFunc_impl_RatPoint_impl_RatPoint_red.hval args hp)) := by
  intro args hp h
  unfold hs_slices_IndexFunc_impl_RatPoint_impl_RatPoint_red at h ⊢; simp only at h ⊢; split at h
  · obtain ⟨h0, h1, rfl, rfl, h5, h2, h3, h4, h6⟩ := h; obtain ⟨m, rfl⟩ := isQ_ex h0; obtain ⟨l, rfl⟩ := isT_ex h1; rw [toQs_enc, toTs_enc] at *; rw [h5]; exact c_slices_IndexFunc_impl_RatPoint_impl_RatPoint_red m l _ h2 (by simpa using h3) (by simpa using h4) h6
  · exact h.elim
theorem en_slices_IndexFunc_impl_RatPoint_impl_RatPoint_red : Enters Try.prog 154 := enters_of Try.func154 (by kernel_rfl) rfl

def g_slices_ContainsFunc_impl_RatPoint_impl_RatPoint_red : List (Nat × PSpec) := []
theorem gok_slices_ContainsFunc_impl_RatPoint_impl_RatPoint_red : GOK Try.prog g_slices_ContainsFunc_impl_RatPoint_impl_RatPoint_red := gok0
def h_slices_ContainsFunc_impl_RatPoint_impl_RatPoint_red : List (Nat × HSpec) := [(154, hs_slices_IndexFunc_impl_RatPoint_impl_RatPoint_red)]
theorem hok_slices_ContainsFunc_impl_RatPoint_impl_RatPoint_red : HOK Try.prog h_slices_ContainsFunc_impl_RatPoint_impl_RatPoint_red := hok_cons hk_slices_IndexFunc_impl_RatPoint_impl_RatPoint_red en_slices_IndexFunc_impl_RatPoint_impl_RatPoint_red (hok0)
theorem lh_slices_ContainsFunc_impl_RatPoint_impl_RatPoint_red_slices_IndexFunc_impl_RatPoint_impl_RatPoint_red : lkHS h_slices_ContainsFunc_impl_RatPoint_impl_RatPoint_red 154 = some hs_slices_IndexFunc_impl_RatPoint_impl_RatPoint_red := rfl
theorem c_slices_ContainsFunc_impl_RatPoint_impl_RatPoint_red (m : List Qd) (l : List Tr) (k : Nat) (hq : ∀ p ∈ m, sqQ p) (hk : k < l.length) (hs : smH (tAt l k)) (hsz : m.length ≤ 1000000) : HCall Try.prog 77 [.sl 4 (encQs m), .clo 78 [.ptr 1000 0, .ptr 1001 0]] (sm ([(1000, .box 23 [.sl 3 (encTs l)]), (1001, .box 3 [.num .i64 k])])) (.bool (m.any (fun p => !decide (sideQ (tAt l k) p ≤ 0)))) (sm ([(1000, .box 23 [.sl 3 (encTs l)]), (1001, .box 3 [.num .i64 k])])) := by
  refine hcall_V (G := g_slices_ContainsFunc_impl_RatPoint_impl_RatPoint_red) (H := h_slices_ContainsFunc_impl_RatPoint_impl_RatPoint_red) [] tabOK mixed gok_slices_ContainsFunc_impl_RatPoint_impl_RatPoint_red hok_slices_ContainsFunc_impl_RatPoint_impl_RatPoint_red Try.func77 rfl Try.ntmps77 Try.results77 rfl (by kernel_rfl) fun F hN hlen => ?_
  simp only [sm]
  simp only [V_seq, V_ret, V_region, W_nil, W_cons, effOp2, KN_seq, KXr_nil, QE, effOp, effPure, Option.isSome_some, skipE, pureV, binV, ofC, strip, lkT, lkH, ISt.app, opI, gO, gB, allB, gval, wrapG, dstOK, setD, mentTm, mentHp, IV.ment, IV.mentL, lendV, lendP, lent, lentP, idsV, idsL, clean, callArgs, callFn, enumT, conv, conv0, convL, IBlk.shape, Op.operands, reduceIte, reduceCtorEq, cond_true, cond_false, Bool.or_false, Bool.or_true, Bool.and_true, Nat.reduceAdd, Nat.reduceSub, Nat.reduceMul, Nat.reduceLT, Nat.reduceLeDiff, Nat.reduceEqDiff, Nat.reduceBEq, Nat.zero_add, not_false_eq_true, beq_self_eq_true, true_and, and_true, and_false, and_self, false_implies, implies_true, List.map_cons, List.map_nil, List.nil_append, List.cons_append, List.append_nil, List.all_nil, Option.map_some, List.getD_cons_zero, List.getD_cons_succ, ex_clo, or_self, Bool.true_eq_false, Bool.false_eq_true, hN, Int.toNat_natCast, isTs_enc, toTs_enc, isQs_enc, toQs_enc, FinH, resA, resV, SLe, SLe0, convTm, convHp, convB, sm, effH, mkHC0, mkHC1, lendM, lentM, lentI, allHere, addIds, idsB, flatIds, reach, posn, renV, renL, renB, renH, numB, subHp, fwd, bk, bwd, nones, keyOK, noSl, noSlL, flatBs, List.contains, List.elem, Option.isSome_some, List.nodup_nil, List.nodup_cons, List.not_mem_nil, List.mem_cons, or_false, Option.getD_some, lh_slices_ContainsFunc_impl_RatPoint_impl_RatPoint_red_slices_IndexFunc_impl_RatPoint_impl_RatPoint_red, hs_slices_IndexFunc_impl_RatPoint_impl_RatPoint_red, hk, hs, hsz, idxF_sign]
  exact ⟨hq, id, by simp [convL, conv, conv0, clean]⟩
def hs_slices_ContainsFunc_impl_RatPoint_impl_RatPoint_red : HSpec := ⟨[true, false], fun xs hp => match xs, hp with | [.sl 4 ms, .clo 78 [.ptr 1000 0, .ptr 1001 0]], [(1000, .box ty [.sl 3 es]), (1001, .box ty2 [.num .i64 kk])] => (isQs ms) ∧ (isTs es) ∧ (ty = 23) ∧ (ty2 = 3) ∧ (kk = (kk.toNat : Int)) ∧ ((fun (m : List Qd) (l : List Tr) (k : Nat) => ∀ p ∈ m, sqQ p) (toQs ms) (toTs es) kk.toNat) ∧ ((fun (m : List Qd) (l : List Tr) (k : Nat) => k < l.length) (toQs ms) (toTs es) kk.toNat) ∧ ((fun (m : List Qd) (l : List Tr) (k : Nat) => smH (tAt l k)) (toQs ms) (toTs es) kk.toNat) ∧ ((fun (m : List Qd) (l : List Tr) (k : Nat) => m.length ≤ 1000000) (toQs ms) (toTs es) kk.toNat) | _, _ => False, fun xs hp => match xs, hp with | [.sl 4 ms, .clo 78 [.ptr 1000 0, .ptr 1001 0]], [(1000, .box ty [.sl 3 es]), (1001, .box ty2 [.num .i64 kk])] => (fun (m : List Qd) (l : List Tr) (k : Nat) => (.bool (m.any (fun p => !decide (sideQ (tAt l k) p ≤ 0))) : IV)) (toQs ms) (toTs es) kk.toNat | _, _ => .junk, fun xs hp => match xs, hp with | [.sl 4 ms, .clo 78 [.ptr 1000 0, .ptr 1001 0]], [(1000, .box ty [.sl 3 es]), (1001, .box ty2 [.num .i64 kk])] => (fun (m : List Qd) (l : List Tr) (k : Nat) => ([(1000, .box 23 [.sl 3 (encTs l)]), (1001, .box 3 [.num .i64 k])] : List (Nat × IBlk))) (toQs ms) (toTs es) kk.toNat | _, _ => []⟩
theorem hk_slices_ContainsFunc_impl_RatPoint_impl_RatPoint_red : ∀ args hp, hs_slices_ContainsFunc_impl_RatPoint_impl_RatPoint_red.pre args hp → HCall Try.prog 77 args (sm hp) (hs_slices_ContainsFunc_impl_RatPoint_impl_RatPoint_red.val args hp) (sm (hs_slices_ContainsFunc_impl_RatPoint_impl_RatPoint_red.hval args hp)) := by
  intro args hp h
  unfold hs_slices_ContainsFunc_impl_RatPoint_impl_RatPoint_red at h ⊢; simp only at h ⊢; split at h
  · obtain ⟨h0, h1, rfl, rfl, h5, h2, h3, h4, h6⟩ := h; obtain ⟨m, rfl⟩ := isQ_ex h0; obtain ⟨l, rfl⟩ := isT_ex h1; rw [toQs_enc, toTs_enc] at *; rw [h5]; exact c_slices_ContainsFunc_impl_RatPoint_impl_RatPoint_red m l _ h2 (by simpa using h3) (by simpa using h4) h6
  · exact h.elim
theorem en_slices_ContainsFunc_impl_RatPoint_impl_RatPoint_red : Enters Try.prog 77 := enters_of Try.func77 (by kernel_rfl) rfl


/-- Is the region of the others in a half-plane? -/
def redB (l : List Tr) (k : Int) : Bool := okHs l && (inR k 0 ((l.length : Int) - 1) && (cornP (l.take k.toNat ++ l.drop (k.toNat + 1))).all fun p => decide (sideQ (tAt l k.toNat) p ≤ 0))
theorem oth_sm {l : List Tr} (h : ∀ k ∈ l, smH k) (a b : Nat) : ∀ k ∈ l.take a ++ l.drop b, smH k := by
  intro k hk
  rcases List.mem_append.1 hk with h1 | h1
  · exact h k (List.mem_of_mem_take h1)
  · exact h k (List.mem_of_mem_drop h1)
def g_e_red_a : List (Nat × PSpec) := [(19, sp_impl_ValidHalves), (75, sp_impl_within), (76, sp_slices_Concat_impl_HalfPlane_impl_HalfPlane_zero), (65, sp_impl_corners_v)]
theorem gok_e_red_a : GOK Try.prog g_e_red_a := gok_cons gk_impl_ValidHalves en_impl_ValidHalves (gok_cons gk_impl_within en_impl_within (gok_cons gk_slices_Concat_impl_HalfPlane_impl_HalfPlane_zero en_slices_Concat_impl_HalfPlane_impl_HalfPlane_zero (gok_consO gk_impl_corners_v en_impl_corners_v (gok0))))
theorem lk_e_red_a_impl_ValidHalves : lkG g_e_red_a 19 = sp_impl_ValidHalves := rfl
theorem lk_e_red_a_impl_within : lkG g_e_red_a 75 = sp_impl_within := rfl
theorem lk_e_red_a_slices_Concat_impl_HalfPlane_impl_HalfPlane_zero : lkG g_e_red_a 76 = sp_slices_Concat_impl_HalfPlane_impl_HalfPlane_zero := rfl
theorem lk_e_red_a_impl_corners_v : lkG g_e_red_a 65 = sp_impl_corners_v := rfl
def h_e_red_a : List (Nat × HSpec) := [(77, hs_slices_ContainsFunc_impl_RatPoint_impl_RatPoint_red)]
theorem hok_e_red_a : HOK Try.prog h_e_red_a := hok_cons hk_slices_ContainsFunc_impl_RatPoint_impl_RatPoint_red en_slices_ContainsFunc_impl_RatPoint_impl_RatPoint_red (hok0)
theorem lh_e_red_a_impl_ValidHalves : lkHS h_e_red_a 19 = none := rfl
theorem lh_e_red_a_impl_within : lkHS h_e_red_a 75 = none := rfl
theorem lh_e_red_a_slices_Concat_impl_HalfPlane_impl_HalfPlane_zero : lkHS h_e_red_a 76 = none := rfl
theorem lh_e_red_a_impl_corners_v : lkHS h_e_red_a 65 = none := rfl
theorem lh_e_red_a_slices_ContainsFunc_impl_RatPoint_impl_RatPoint_red : lkHS h_e_red_a 77 = some hs_slices_ContainsFunc_impl_RatPoint_impl_RatPoint_red := rfl
def g_e_red_b : List (Nat × PSpec) := [(19, sp_impl_ValidHalves), (75, sp_impl_within), (76, sp_slices_Concat_impl_HalfPlane_impl_HalfPlane_two), (65, sp_impl_corners_v)]
theorem gok_e_red_b : GOK Try.prog g_e_red_b := gok_cons gk_impl_ValidHalves en_impl_ValidHalves (gok_cons gk_impl_within en_impl_within (gok_consO gk_slices_Concat_impl_HalfPlane_impl_HalfPlane_two en_slices_Concat_impl_HalfPlane_impl_HalfPlane_two (gok_consO gk_impl_corners_v en_impl_corners_v (gok0))))
theorem lk_e_red_b_impl_ValidHalves : lkG g_e_red_b 19 = sp_impl_ValidHalves := rfl
theorem lk_e_red_b_impl_within : lkG g_e_red_b 75 = sp_impl_within := rfl
theorem lk_e_red_b_slices_Concat_impl_HalfPlane_impl_HalfPlane_two : lkG g_e_red_b 76 = sp_slices_Concat_impl_HalfPlane_impl_HalfPlane_two := rfl
theorem lk_e_red_b_impl_corners_v : lkG g_e_red_b 65 = sp_impl_corners_v := rfl
def h_e_red_b : List (Nat × HSpec) := [(77, hs_slices_ContainsFunc_impl_RatPoint_impl_RatPoint_red)]
theorem hok_e_red_b : HOK Try.prog h_e_red_b := hok_cons hk_slices_ContainsFunc_impl_RatPoint_impl_RatPoint_red en_slices_ContainsFunc_impl_RatPoint_impl_RatPoint_red (hok0)
theorem lh_e_red_b_impl_ValidHalves : lkHS h_e_red_b 19 = none := rfl
theorem lh_e_red_b_impl_within : lkHS h_e_red_b 75 = none := rfl
theorem lh_e_red_b_slices_Concat_impl_HalfPlane_impl_HalfPlane_two : lkHS h_e_red_b 76 = none := rfl
theorem lh_e_red_b_impl_corners_v : lkHS h_e_red_b 65 = none := rfl
theorem lh_e_red_b_slices_ContainsFunc_impl_RatPoint_impl_RatPoint_red : lkHS h_e_red_b 77 = some hs_slices_ContainsFunc_impl_RatPoint_impl_RatPoint_red := rfl
theorem inR_nat {k : Int} {n : Nat} (h : inR k 0 ((n : Int) - 1) = true) : ∃ i : Nat, k = i ∧ i < n := by
  simp only [inR, Bool.and_eq_true, decide_eq_true_eq] at h
  exact ⟨k.toNat, by omega, by omega⟩
def g_impl_IsRedundant : List (Nat × PSpec) := [(19, sp_impl_ValidHalves), (75, sp_impl_within)]
theorem gok_impl_IsRedundant : GOK Try.prog g_impl_IsRedundant := gok_cons gk_impl_ValidHalves en_impl_ValidHalves (gok_cons gk_impl_within en_impl_within (gok0))
theorem lk_impl_IsRedundant_impl_ValidHalves : lkG g_impl_IsRedundant 19 = sp_impl_ValidHalves := rfl
theorem lk_impl_IsRedundant_impl_within : lkG g_impl_IsRedundant 75 = sp_impl_within := rfl
def h_impl_IsRedundant : List (Nat × HSpec) := []
theorem hok_impl_IsRedundant : HOK Try.prog h_impl_IsRedundant := hok0
theorem c_impl_IsRedundant (l : List Tr) (k : Int)  : ICall Try.prog 22 [.sl 3 (encTs l), .num .i64 k] (.bool (redB l k)) := by
  have hv : redB l k = (okHs l && (inR k 0 ((l.length : Int) - 1) && (cornP (l.take k.toNat ++ l.drop (k.toNat + 1))).all fun p => decide (sideQ (tAt l k.toNat) p ≤ 0))) := rfl
  have el := len_encTs l
  cases h1 : okHs l with
  | false =>
    rw [h1, Bool.false_and] at hv
    refine icall_V (G := g_e_red_b) (H := h_e_red_b) [(3, [(0, 7), (1, 7), (3, 7), (4, 7), (5, 7), (0, 8), (1, 8), (2, 8), (3, 8), (4, 8), (5, 8), (6, 8)])] tabOK mixed gok_e_red_b hok_e_red_b Try.func22 rfl Try.ntmps22 Try.results22 rfl (by kernel_rfl) fun F hN hlen => ?_
    have hl := hlen 0 3 _ rfl
    rw [el, maxLen_eq] at hl
    simp only [V_seq, V_ret, V_region, V_cond, brW_true, W_nil, W_cons, effOp2, KN_seq, KXr_nil, KXr_seq, QE, asB, effOp, effPure, effPick, effNew, effBox, effCall, giveUp, hasAll, skipE, pureV, pickV, binV, partV, loadV, lenV, solid, IV.cells, ofC, strip, lkT, lkH, ISt.app, opI, gO, gB, allB, gval, wrapG, dstOK, setD, mentTm, mentHp, IV.ment, IV.mentL, oneI, lendV, lendP, lent, lentP, idsV, idsL, flat, clean, callArgs, callFn, allLent, enumT, Gives, Ideal.Fin, conv, conv0, Op.operands, Call.operands, List.append_toArray, reduceIte, reduceCtorEq, cond_true, Bool.or_false, Bool.or_true, Bool.and_true, Bool.not_true, Bool.not_false, Nat.reduceLT, Nat.reduceLeDiff, Nat.reduceEqDiff, Nat.reduceBEq, Nat.zero_add, ne_eq, not_false_eq_true, and_true, and_false, and_self, false_implies, implies_true, List.map_cons, List.map_nil, List.nil_append, List.cons_append, List.append_nil, List.all_cons, List.all_nil, Option.bind_some, List.getElem?_cons_zero, List.getElem?_cons_succ, List.getD_cons_zero, List.length_cons, List.length_nil, List.take_succ_cons, List.take_nil, List.drop_zero, ex_clo, btf, or_self, Bool.true_eq_false, Bool.false_eq_true, tab3, tab23, hN, isTs_enc, toTs_enc, lk_e_red_b_impl_ValidHalves, lk_e_red_b_impl_within, sp_impl_ValidHalves, sp_impl_within, lh_e_red_b_impl_ValidHalves, lh_e_red_b_impl_within, h1, hv, el]
  | true =>
    have hlen8 := okHs_len h1
    have hsm := okHs_sm h1
    rw [h1, Bool.true_and] at hv
    have w0 : IntKind.i64.wrap ((l.length : Int) - 1) = (l.length : Int) - 1 := wr (by omega) (by omega)
    cases h2 : inR k 0 ((l.length : Int) - 1) with
    | false =>
      rw [h2, Bool.false_and] at hv
      refine icall_V (G := g_e_red_b) (H := h_e_red_b) [(3, [(0, 7), (1, 7), (3, 7), (4, 7), (5, 7), (0, 8), (1, 8), (2, 8), (3, 8), (4, 8), (5, 8), (6, 8)])] tabOK mixed gok_e_red_b hok_e_red_b Try.func22 rfl Try.ntmps22 Try.results22 rfl (by kernel_rfl) fun F hN hlen => ?_
      simp only [V_seq, V_ret, V_region, V_cond, brW_true, W_nil, W_cons, effOp2, KN_seq, KXr_nil, KXr_seq, QE, asB, effOp, effPure, effPick, effNew, effBox, effCall, giveUp, hasAll, skipE, pureV, pickV, binV, partV, loadV, lenV, solid, IV.cells, ofC, strip, lkT, lkH, ISt.app, opI, gO, gB, allB, gval, wrapG, dstOK, setD, mentTm, mentHp, IV.ment, IV.mentL, oneI, lendV, lendP, lent, lentP, idsV, idsL, flat, clean, callArgs, callFn, allLent, enumT, Gives, Ideal.Fin, conv, conv0, Op.operands, Call.operands, List.append_toArray, reduceIte, reduceCtorEq, cond_true, cond_false, Bool.or_false, Bool.and_true, Bool.not_true, Bool.not_false, Nat.reduceLT, Nat.reduceLeDiff, Nat.reduceEqDiff, Nat.reduceBEq, Nat.zero_add, ne_eq, not_false_eq_true, beq_self_eq_true, and_self, implies_true, List.map_cons, List.map_nil, List.nil_append, List.cons_append, List.append_nil, List.all_cons, List.all_nil, Option.bind_some, List.getElem?_cons_zero, List.getElem?_cons_succ, List.getD_cons_zero, List.length_cons, List.length_nil, List.take_succ_cons, List.take_nil, List.drop_zero, ex_clo, or_self, Bool.false_eq_true, tab3, tab23, hN, isTs_enc, toTs_enc, lk_e_red_b_impl_ValidHalves, lk_e_red_b_impl_within, sp_impl_ValidHalves, sp_impl_within, lh_e_red_b_impl_ValidHalves, lh_e_red_b_impl_within, h1, h2, hv, el, w0]
    | true =>
      rw [h2, Bool.true_and] at hv
      obtain ⟨i, rfl, hi⟩ := inR_nat h2
      rw [Int.toNat_natCast] at hv
      have hos := oth_sm hsm i (i + 1)
      have hol : (l.take i ++ l.drop (i + 1)).length = l.length - 1 := by rw [List.length_append, List.length_take, List.length_drop]; omega
      have hol2 : (l.take i ++ l.drop (i + 1)).length ≤ 100 := by omega
      have hsi : smH (tAt l i) := hsm _ (by rw [tAt, List.getD, List.getElem?_eq_getElem hi]; exact List.getElem_mem hi)
      have hcl := cornP_len hol2
      have hcl2 : (cornP (l.take i ++ l.drop (i + 1))).length ≤ 1000000 := by omega
      have hcs := corn_sqs hos
      have hw : IntKind.i64.wrap ((i : Int) + 1) = ((i + 1 : Nat) : Int) := by rw [wr (by omega) (by omega)]; omega
      have l1 : (encTs (l.take i)).length = i := by rw [len_encTs, List.length_take]; omega
      have l2 : (l.take i).length = i := by rw [List.length_take]; omega
      have l3 : (l.drop (i + 1)).length = l.length - (i + 1) := List.length_drop
      have han := any_not_all (cornP (l.take i ++ l.drop (i + 1))) (fun p => decide (sideQ (tAt l i) p ≤ 0))
      rcases Nat.lt_or_ge 1 l.length with hc | hc
      · have z1 : 0 < i + (l.length - (i + 1)) := by omega
        have z2 : i + (l.length - (i + 1)) ≤ 1000000 := by omega
        refine icall_V (G := g_e_red_b) (H := h_e_red_b) [(3, [(0, 7), (1, 7), (3, 7), (4, 7), (5, 7), (0, 8), (1, 8), (2, 8), (3, 8), (4, 8), (5, 8), (6, 8)])] tabOK mixed gok_e_red_b hok_e_red_b Try.func22 rfl Try.ntmps22 Try.results22 rfl (by kernel_rfl) fun F hN hlen => ?_
        simp only [V_seq, V_skip, V_ret, V_region, V_draw, V_cond, brW_false, drawW, WS_nil, pairsOf, W_nil, W_cons, effOp2, WI_nil, WI_cons, KN_seq, KXr_nil, QE, dynOK, indB, farB, seeB, see, isStore, freshB, heapy, asB, effOp, effPure, effPick, effNew, effBox, effBuildSlice, effFrz, frz, tmpsOf, effCall, giveUp, hasAll, Option.isSome_some, skipE, pureV, pickV, binV, partV, loadV, sliceV, lenV, solid, IV.cells, ofC, strip, lkT, lkH, ISt.app, opI, gO, gB, allB, gval, wrapG, dstOK, setD, mentTm, mentHp, IV.ment, IV.mentL, partsL, eltsI, eltI, oneI, noId', lendV, lendP, lent, lentP, idsV, idsL, flat, clean, callArgs, callFn, allLent, enumT, Gives, Ideal.Fin, conv, conv0, convL, IBlk.shape, Op.operands, Call.operands, List.append_toArray, Array.append_empty, Option.toArray_none, Option.toArray_some, reduceIte, reduceCtorEq, cond_true, cond_false, Bool.or_false, Bool.or_true, Bool.and_true, Bool.and_false, Bool.and_eq_true, Bool.not_true, Bool.not_false, Nat.reduceAdd, Nat.reduceSub, Nat.reduceMul, Nat.reduceLT, Nat.reduceLeDiff, Nat.reduceEqDiff, Nat.reduceBEq, Nat.zero_add, ne_eq, not_false_eq_true, beq_self_eq_true, true_and, and_true, and_false, and_self, implies_true, forall_const, List.map_cons, List.map_nil, List.nil_append, List.cons_append, List.append_nil, List.all_cons, List.all_nil, Option.map_some, Option.map_none, Option.bind_some, List.getElem?_cons_zero, List.getElem?_cons_succ, List.getD_cons_zero, List.getD_cons_succ, List.length_cons, List.length_nil, List.take_succ_cons, List.take_zero, List.take_nil, List.drop_zero, ex_clo, or_self, Bool.true_eq_false, Bool.false_eq_true, tab3, tab23, tab92, tab164, hN, Int.toNat_natCast, isTs_enc, toTs_enc, isQs_enc, toQs_enc, SLe0, convTm, convHp, convB, sm, effH, mkHC0, mkHC1, lendM, lentM, lentI, allHere, addIds, idsB, flatIds, reach, posn, renV, renL, renB, renH, numB, subHp, fwd, bk, bwd, nones, keyOK, noSl, noSlL, flatBs, List.contains, List.elem, Option.isSome_some, List.nodup_nil, List.nodup_cons, List.not_mem_nil, List.mem_cons, or_false, Option.getD_some, lk_e_red_b_impl_ValidHalves, lk_e_red_b_impl_within, lk_e_red_b_slices_Concat_impl_HalfPlane_impl_HalfPlane_two, lk_e_red_b_impl_corners_v, sp_impl_ValidHalves, sp_impl_within, sp_slices_Concat_impl_HalfPlane_impl_HalfPlane_two, sp_impl_corners_v, lh_e_red_b_impl_ValidHalves, lh_e_red_b_impl_within, lh_e_red_b_slices_Concat_impl_HalfPlane_impl_HalfPlane_two, lh_e_red_b_impl_corners_v, lh_e_red_b_slices_ContainsFunc_impl_RatPoint_impl_RatPoint_red, hs_slices_ContainsFunc_impl_RatPoint_impl_RatPoint_red, h1, h2, hv, el, w0, hw, encTs_take, encTs_drop, l2, l3, z1, z2, hol2, hi, hsi, hcl2, han]
        exact ⟨⟨by omega, by omega⟩, ⟨by omega, by omega⟩, hos, hcs, by rw [Bool.not_not]⟩
      · have hi0 : i = 0 := by omega
        subst hi0
        have e1 : l.take 0 = [] := rfl
        have e2 : l.drop (0 + 1) = [] := List.drop_eq_nil_of_le (by omega)
        have e0 : encTs [] = [] := rfl
        have e12 : l.take 0 ++ l.drop (0 + 1) = [] := by rw [e1, e2]; rfl
        rw [e12] at hv hos hol2 hcl2 hcs han
        refine icall_V (G := g_e_red_a) (H := h_e_red_a) [(3, [(0, 7), (1, 7), (3, 7), (4, 7), (5, 7), (0, 8), (1, 8), (2, 8), (3, 8), (4, 8), (5, 8), (6, 8)])] tabOK mixed gok_e_red_a hok_e_red_a Try.func22 rfl Try.ntmps22 Try.results22 rfl (by kernel_rfl) fun F hN hlen => ?_
        simp only [V_seq, V_skip, V_ret, V_region, V_draw, V_cond, brW_false, drawW, WS_nil, pairsOf, W_nil, W_cons, effOp2, WI_nil, WI_cons, KN_seq, KXr_nil, QE, dynOK, indB, farB, seeB, see, isStore, freshB, heapy, asB, effOp, effPure, effPick, effNew, effBox, effBuildSlice, effFrz, frz, tmpsOf, effCall, giveUp, hasAll, Option.isSome_some, skipE, pureV, pickV, binV, partV, loadV, sliceV, lenV, solid, IV.cells, ofC, strip, lkT, lkH, ISt.app, opI, gO, gB, allB, gval, wrapG, dstOK, setD, mentTm, mentHp, IV.ment, IV.mentL, partsL, eltsI, eltI, oneI, noId', lendV, lendP, lent, lentP, idsV, idsL, flat, clean, callArgs, callFn, allLent, enumT, Gives, Ideal.Fin, conv, conv0, convL, IBlk.shape, Op.operands, Call.operands, List.append_toArray, Array.append_empty, Option.toArray_none, Option.toArray_some, reduceIte, reduceCtorEq, cond_true, cond_false, Bool.or_false, Bool.or_true, Bool.and_true, Bool.and_false, Bool.and_eq_true, Bool.not_true, Bool.not_false, Nat.reduceAdd, Nat.reduceSub, Nat.reduceMul, Nat.reduceLT, Nat.reduceLeDiff, Nat.reduceEqDiff, Nat.reduceBEq, Nat.zero_add, ne_eq, not_false_eq_true, beq_self_eq_true, true_and, and_true, and_false, and_self, false_implies, implies_true, forall_const, List.map_cons, List.map_nil, List.nil_append, List.cons_append, List.append_nil, List.all_cons, List.all_nil, Option.map_some, Option.map_none, Option.bind_some, List.getElem?_cons_zero, List.getElem?_cons_succ, List.getD_cons_zero, List.getD_cons_succ, List.length_cons, List.length_nil, List.take_succ_cons, List.take_zero, List.take_nil, List.drop_zero, ex_clo, or_true, or_self, Bool.true_eq_false, Bool.false_eq_true, tab3, tab23, tab92, tab164, hN, Int.toNat_natCast, isTs_enc, toTs_enc, isQs_enc, toQs_enc, isTs_nil, toTs_nil, SLe0, convTm, convHp, convB, sm, effH, mkHC0, mkHC1, lendM, lentM, lentI, allHere, addIds, idsB, flatIds, reach, posn, renV, renL, renB, renH, numB, subHp, fwd, bk, bwd, nones, keyOK, noSl, noSlL, flatBs, List.contains, List.elem, Option.isSome_some, List.nodup_nil, List.nodup_cons, List.not_mem_nil, List.mem_cons, or_false, Option.getD_some, lk_e_red_a_impl_ValidHalves, lk_e_red_a_impl_within, lk_e_red_a_slices_Concat_impl_HalfPlane_impl_HalfPlane_zero, lk_e_red_a_impl_corners_v, sp_impl_ValidHalves, sp_impl_within, sp_slices_Concat_impl_HalfPlane_impl_HalfPlane_zero, sp_impl_corners_v, lh_e_red_a_impl_ValidHalves, lh_e_red_a_impl_within, lh_e_red_a_slices_Concat_impl_HalfPlane_impl_HalfPlane_zero, lh_e_red_a_impl_corners_v, lh_e_red_a_slices_ContainsFunc_impl_RatPoint_impl_RatPoint_red, hs_slices_ContainsFunc_impl_RatPoint_impl_RatPoint_red, h1, h2, hv, el, w0, hw, encTs_drop, e2, e0, hi, hsi, hcl2, han]
        exact ⟨⟨by omega, by omega⟩, ⟨by omega, by omega⟩, hcs, by rw [Bool.not_not]⟩
def sp_impl_IsRedundant : PSpec := ⟨fun xs => match xs with | [.sl 3 les, .num .i64 k] => isTs les | _ => False, fun xs => match xs with | [.sl _ les, .num _ k] => (fun (l : List Tr) (k : Int) => .bool (redB l k)) (toTs les) k | _ => .junk, false⟩
theorem gk_impl_IsRedundant : ∀ args, sp_impl_IsRedundant.pre args → ICall Try.prog 22 args (sp_impl_IsRedundant.val args) := by
  intro args h
  unfold sp_impl_IsRedundant at h ⊢; simp only at h ⊢; split at h
  · have h0 := h
    obtain ⟨l0, rfl⟩ := isT_ex h0
    simp only [toTs_enc] at *
    exact c_impl_IsRedundant _ _ 
  · exact h.elim
theorem en_impl_IsRedundant : Enters Try.prog 22 := enters_of Try.func22 (by kernel_rfl) rfl


def g_spec_IsRedundant : List (Nat × PSpec) := [(66, sp_spec_validHalves), (80, sp_spec_inRange), (67, sp_spec_corners), (81, sp_spec_inside)]
theorem gok_spec_IsRedundant : GOK Try.prog g_spec_IsRedundant := gok_cons gk_spec_validHalves en_spec_validHalves (gok_cons gk_spec_inRange en_spec_inRange (gok_cons gk_spec_corners en_spec_corners (gok_cons gk_spec_inside en_spec_inside (gok0))))
theorem lk_spec_IsRedundant_spec_validHalves : lkG g_spec_IsRedundant 66 = sp_spec_validHalves := rfl
theorem lk_spec_IsRedundant_spec_inRange : lkG g_spec_IsRedundant 80 = sp_spec_inRange := rfl
theorem lk_spec_IsRedundant_spec_corners : lkG g_spec_IsRedundant 67 = sp_spec_corners := rfl
theorem lk_spec_IsRedundant_spec_inside : lkG g_spec_IsRedundant 81 = sp_spec_inside := rfl
def h_spec_IsRedundant : List (Nat × HSpec) := []
theorem hok_spec_IsRedundant : HOK Try.prog h_spec_IsRedundant := hok0
theorem c_spec_IsRedundant (l : List Tr) (k : Int)  : ICall Try.prog 23 [.sl 3 (encTs l), .num .i64 k] (.bool (redB l k)) := by
  refine icall_V (G := g_spec_IsRedundant) (H := []) [(3, [(0, 1), (0, 2), (0, 3), (1, 4), (2, 4), (0, 5), (4, 5), (0, 6), (4, 6), (0, 7), (4, 7), (0, 8), (4, 8), (0, 9), (1, 9), (2, 9), (3, 9), (5, 9), (6, 9), (7, 9)]), (8, [(0, 9), (1, 9), (2, 9), (3, 9), (5, 9), (6, 9), (7, 9)])] tabOK mixed gok_spec_IsRedundant hok_spec_IsRedundant Try.func23 rfl Try.ntmps23 Try.results23 rfl (by kernel_rfl) fun F hN hlen => ?_
  have hv : redB l k = (okHs l && (inR k 0 ((l.length : Int) - 1) && (cornP (l.take k.toNat ++ l.drop (k.toNat + 1))).all fun p => decide (sideQ (tAt l k.toNat) p ≤ 0))) := rfl
  have el := len_encTs l
  cases h1 : okHs l with
  | false =>
    rw [h1, Bool.false_and] at hv
    have hl := hlen 0 3 _ rfl
    rw [el, maxLen_eq] at hl
    simp only [V_seq, V_ret, V_region, V_cond, brW_true, W_nil, W_cons, effOp2, KN_seq, KXr_nil, KXr_seq, QE, asB, effOp, effPure, effPick, effCall, giveUp, hasAll, pureV, pickV, binV, lenV, ofC, strip, lkT, lkH, ISt.app, opI, gO, gB, allB, gval, wrapG, dstOK, setD, lendV, lendP, lent, lentP, idsV, idsL, lkHS, flat, clean, callArgs, callFn, allLent, enumT, Gives, Ideal.Fin, conv, conv0, Op.operands, Call.operands, List.append_toArray, reduceIte, reduceCtorEq, cond_true, Bool.or_false, Bool.or_true, Bool.not_true, Bool.not_false, Nat.reduceLT, Nat.reduceEqDiff, Nat.zero_add, ne_eq, not_false_eq_true, and_true, and_false, and_self, false_implies, implies_true, List.map_cons, List.map_nil, List.nil_append, List.cons_append, List.append_nil, Option.bind_some, List.getElem?_cons_zero, List.getElem?_cons_succ, ex_clo, btf, or_self, Bool.true_eq_false, Bool.false_eq_true, tab23, hN, isTs_enc, toTs_enc, lk_spec_IsRedundant_spec_validHalves, lk_spec_IsRedundant_spec_inRange, sp_spec_validHalves, sp_spec_inRange, h1, hv, el]
  | true =>
    have hlen8 := okHs_len h1
    have hsm := okHs_sm h1
    rw [h1, Bool.true_and] at hv
    have w0 : IntKind.i64.wrap ((l.length : Int) - 1) = (l.length : Int) - 1 := wr (by omega) (by omega)
    cases h2 : inR k 0 ((l.length : Int) - 1) with
    | false =>
      rw [h2, Bool.false_and] at hv
      simp only [V_seq, V_ret, V_region, V_cond, brW_true, W_nil, W_cons, effOp2, KN_seq, KXr_nil, KXr_seq, QE, asB, effOp, effPure, effPick, effCall, giveUp, hasAll, pureV, pickV, binV, lenV, ofC, strip, lkT, lkH, ISt.app, opI, gO, gB, allB, gval, wrapG, dstOK, setD, lendV, lendP, lent, lentP, idsV, idsL, lkHS, flat, clean, callArgs, callFn, allLent, enumT, Gives, Ideal.Fin, conv, conv0, Op.operands, Call.operands, List.append_toArray, reduceIte, reduceCtorEq, cond_true, cond_false, Bool.or_false, Bool.not_true, Bool.not_false, Nat.reduceLT, Nat.reduceEqDiff, Nat.zero_add, ne_eq, not_false_eq_true, beq_self_eq_true, and_self, implies_true, List.map_cons, List.map_nil, List.nil_append, List.cons_append, List.append_nil, Option.bind_some, List.getElem?_cons_zero, List.getElem?_cons_succ, ex_clo, or_self, Bool.false_eq_true, tab23, hN, isTs_enc, toTs_enc, lk_spec_IsRedundant_spec_validHalves, lk_spec_IsRedundant_spec_inRange, sp_spec_validHalves, sp_spec_inRange, h1, h2, hv, el, w0]
    | true =>
      rw [h2, Bool.true_and] at hv
      obtain ⟨i, rfl, hi⟩ := inR_nat h2
      rw [Int.toNat_natCast] at hv
      have hos := oth_sm hsm i (i + 1)
      have hol2 : (l.take i ++ l.drop (i + 1)).length ≤ 100 := by rw [List.length_append, List.length_take, List.length_drop]; omega
      have hsi : smH (tAt l i) := hsm _ (by rw [tAt, List.getD, List.getElem?_eq_getElem hi]; exact List.getElem_mem hi)
      have hcl := cornP_len hol2
      have hcs := corn_sqs hos
      have hw : IntKind.i64.wrap ((i : Int) + 1) = ((i + 1 : Nat) : Int) := by rw [wr (by omega) (by omega)]; omega
      have l1 : (encTs (l.take i)).length = i := by rw [len_encTs, List.length_take]; omega
      have l3 : (encTs (l.drop (i + 1))).length = l.length - (i + 1) := by rw [len_encTs]; exact List.length_drop
      have tt : List.take i (l.take i) = l.take i := by rw [List.take_take, Nat.min_self]
      have ea : encTs (l.take i) ++ encTs (l.drop (i + 1)) = encTs (l.take i ++ l.drop (i + 1)) := encTs_app _ _
      obtain ⟨O, hO⟩ : ∃ O, l.take i ++ l.drop (i + 1) = O := ⟨_, rfl⟩
      have hOl : (encTs O).length = i + (l.length - (i + 1)) := by rw [← hO, len_encTs, List.length_append, List.length_take, List.length_drop]; omega
      rw [hO] at ea hos hol2 hcl hcs hv
      have tk : (encTs O).take (i + (l.length - (i + 1))) = encTs O := List.take_of_length_le (by omega)
      obtain ⟨c, hc⟩ : ∃ c, cornP O = c := ⟨_, rfl⟩
      rw [hc] at hv hcl hcs
      have ec := len_encQs c
      simp only [V_seq, V_skip, V_block, V_region, V_draw, V_cond, brW_false, drawW, WS_nil, pairsOf, W_nil, W_cons, effOp2, WI_nil, WI_cons, KN_seq, dynOK, indB, farB, seeB, see, isStore, freshB, heapy, asB, effOp, effPure, effPick, effNew, effBuildSlice, effFrz, frz, tmpsOf, effAppend, effZeros, effCall, giveUp, hasAll, Option.isSome_some, skipE, pureV, pickV, srcV, refId, binV, sliceV, lenV, ofC, strip, lkT, lkH, ISt.app, opI, gO, gB, allB, gval, wrapG, dstOK, setD, mentTm, mentHp, IV.ment, IV.mentL, partsL, eltsI, lendV, lendP, lent, lentP, idsV, idsL, lkHS, flat, clean, callArgs, callFn, allLent, enumT, Op.operands, Call.operands, List.append_toArray, Array.append_empty, Option.toArray_none, Option.toArray_some, reduceIte, reduceCtorEq, cond_true, cond_false, Bool.or_false, Bool.or_true, Bool.and_true, Bool.and_false, Bool.and_eq_true, Bool.not_true, Bool.not_false, Nat.reduceMul, Nat.reduceLT, Nat.reduceLeDiff, Nat.reduceEqDiff, Nat.reduceBEq, Nat.zero_add, ne_eq, not_false_eq_true, beq_self_eq_true, true_and, and_true, and_self, implies_true, forall_const, List.map_cons, List.map_nil, List.nil_append, List.cons_append, List.append_nil, List.all_cons, List.all_nil, Option.map_some, Option.map_none, Option.bind_some, List.getElem?_cons_zero, List.getElem?_cons_succ, List.getD_cons_zero, List.getD_cons_succ, List.length_nil, List.take_zero, List.take_nil, List.drop_zero, ex_clo, or_true, or_self, Bool.false_eq_true, tab23, tab92, hN, Int.toNat_natCast, isTs_enc, toTs_enc, lk_spec_IsRedundant_spec_validHalves, lk_spec_IsRedundant_spec_inRange, lk_spec_IsRedundant_spec_corners, sp_spec_validHalves, sp_spec_inRange, sp_spec_corners, h1, h2, el, w0, hw, encTs_take, encTs_drop, tt, l1, l3, ea, hOl, tk, hol2, hc]
      refine ⟨⟨by omega, by omega⟩, by omega, ⟨by omega, by omega⟩, ⟨Nat.le_refl _, by omega⟩, ⟨Nat.le_refl _, hos⟩, ?_⟩
      obtain ⟨hh, hhe⟩ : ∃ h, tAt l i = h := ⟨_, rfl⟩
      have hsl : (l.take (i + 1)).drop i = [hh] := by
        rw [take_succ_g (d := (0, 0, 0)) hi, List.drop_append_of_le_length (by rw [List.length_take]; omega), List.drop_eq_nil_of_le (by rw [List.length_take]; omega), ← hhe]; rfl
      rw [hhe] at hv hsi
      have hsm1 : ∀ k ∈ [hh], smH k := by simpa using hsi
      have z1 : [hh].length ≤ 1000000 := by simp
      refine V_loop (α := Nat) ⟨tabOK, mixed, gok_spec_IsRedundant, hok_spec_IsRedundant⟩ (by kernel_rfl) (fun j => j ≤ c.length ∧ (c.all fun p => decide (sideQ hh p ≤ 0)) = ((c.drop j).all fun p => decide (sideQ hh p ≤ 0))) (fun j => ⟨[(7, .num .i64 j), (6, .sl 4 (encQs c)), (1, .num .i64 i), (0, .sl 3 (encTs l))], []⟩) (fun j => c.length - j) 0 id ⟨Nat.zero_le _, rfl⟩ (by simp [SLe, SLe0, convTm, convHp, conv, conv0, lkT, lkH, clean]) ?_
      rintro j ⟨hj, hjj⟩
      simp only [V_seq, V_region, V_cond, W_nil, W_cons, effOp2, KN_seq, asB, effOp, effPure, pureV, binV, lenV, strip, lkT, ISt.app, opI, gO, gB, allB, gval, wrapG, dstOK, setD, Op.operands, Call.operands, List.append_toArray, reduceIte, reduceCtorEq, Nat.reduceLT, Nat.reduceEqDiff, ne_eq, not_false_eq_true, true_and, and_self, implies_true, List.nil_append, List.cons_append, List.append_nil, tab25, hN, ec]
      refine brW_some (fun h => ?_) (fun h => ?_)
      · have hj' : j < c.length := by simpa using h
        have g0 := getD_encQs hj'
        have hw2 := wr_succ hj' (by rw [maxLen_eq]; omega)
        have hst := all_step (p := fun p => decide (sideQ hh p ≤ 0)) (d := ((0, 0), (0, 0))) hj'
        have hpj : sqQ (qAt c j) := hcs _ (by rw [qAt, List.getD, List.getElem?_eq_getElem hj']; exact List.getElem_mem hj')
        have hpt : c.getD j ((0, 0), (0, 0)) = qAt c j := rfl
        rw [hpt] at hst
        obtain ⟨p, hp⟩ : ∃ p, qAt c j = p := ⟨_, rfl⟩
        rw [hp] at hst g0 hpj
        have hin : insH [hh] p = decide (sideQ hh p ≤ 0) := by simp [insH]
        cases hb : decide (sideQ hh p ≤ 0) with
        | true =>
          rw [hb, Bool.true_and] at hst
          rw [hb] at hin
          simp only [V_seq, V_skip, V_block, V_region, V_draw, V_cond, brW_false, drawW, WS_nil, pairsOf, W_nil, W_cons, effOp2, WI_nil, WI_cons, KN_seq, KN_block, KN_back, dynOK, indB, farB, freshB, heapy, asB, effOp, effPure, effCall, giveUp, hasAll, pureV, binV, partV, eltV, loadV, iaddrV, sliceV, ofC, strip, lkT, lkH, ISt.app, opI, gO, gB, allB, gval, wrapG, dstOK, setD, mentTm, mentHp, IV.ment, lendV, lendP, lent, lentP, idsV, idsL, lkHS, flat, clean, callArgs, callFn, allLent, Op.operands, Call.operands, List.append_toArray, Array.append_empty, Option.toArray_none, Option.toArray_some, reduceIte, reduceCtorEq, cond_true, cond_false, Bool.or_false, Bool.and_true, Bool.and_eq_true, Bool.not_true, Bool.not_false, Nat.reduceAdd, Nat.reduceLT, Nat.reduceLeDiff, Nat.reduceEqDiff, Nat.reduceBEq, Nat.zero_add, ne_eq, not_false_eq_true, true_and, and_true, and_false, and_self, implies_true, forall_const, List.map_cons, List.map_nil, List.nil_append, List.cons_append, List.append_nil, Option.map_some, Option.map_none, List.getD_cons_zero, List.getD_cons_succ, List.length_cons, List.length_nil, List.take_succ_cons, List.take_zero, List.take_nil, List.drop_zero, ex_clo, or_self, tab23, tab25, tab39, tab92, hN, pe, Int.toNat_natCast, isTs_enc, toTs_enc, lk_spec_IsRedundant_spec_inside, sp_spec_inside, el, ec, g0, hw, hw2, encTs_take, encTs_drop, hsl, hpj, hin]
          exact ⟨⟨by omega, by omega, by omega⟩, ⟨by omega, by omega⟩, hsm1, j + 1, id, ⟨by omega, hjj.trans hst⟩, by simp only []; omega, by simp [SLe, SLe0, convTm, convHp, conv, conv0, lkT, lkH, clean]⟩
        | false =>
          rw [hb, Bool.false_and] at hst
          rw [hb] at hin
          have hf := hjj.trans hst
          rw [hf] at hv
          simp only [V_seq, V_skip, V_ret, V_block, V_region, V_draw, V_cond, brW_true, drawW, WS_nil, pairsOf, W_nil, W_cons, effOp2, WI_nil, WI_cons, KN_seq, KXr_nil, KXr_seq, KXr_block, KXr_back, QE, dynOK, indB, farB, freshB, heapy, asB, effOp, effPure, effCall, giveUp, hasAll, pureV, binV, partV, eltV, loadV, iaddrV, sliceV, ofC, strip, lkT, lkH, ISt.app, opI, gO, gB, allB, gval, wrapG, dstOK, setD, mentTm, mentHp, IV.ment, lendV, lendP, lent, lentP, idsV, idsL, lkHS, flat, clean, callArgs, callFn, allLent, Gives, Ideal.Fin, conv, conv0, Op.operands, Call.operands, List.append_toArray, Array.append_empty, Option.toArray_none, Option.toArray_some, reduceIte, reduceCtorEq, cond_true, cond_false, Bool.or_false, Bool.and_true, Bool.and_eq_true, Bool.not_true, Bool.not_false, Nat.reduceAdd, Nat.reduceLT, Nat.reduceLeDiff, Nat.reduceEqDiff, Nat.reduceBEq, Nat.zero_add, ne_eq, not_false_eq_true, true_and, and_true, and_false, and_self, implies_true, forall_const, List.map_cons, List.map_nil, List.nil_append, List.cons_append, List.append_nil, Option.map_some, Option.map_none, List.getD_cons_zero, List.getD_cons_succ, List.length_cons, List.length_nil, List.take_succ_cons, List.take_zero, List.take_nil, List.drop_zero, ex_clo, or_self, tab23, tab25, tab39, tab92, hN, pe, Int.toNat_natCast, isTs_enc, toTs_enc, lk_spec_IsRedundant_spec_inside, sp_spec_inside, el, ec, g0, hw, encTs_take, encTs_drop, hsl, hpj, hin, hv]
          exact ⟨⟨by omega, by omega, by omega⟩, ⟨by omega, by omega⟩, hsm1⟩
      · have hje : j = c.length := by simp at h; omega
        subst hje
        rw [List.drop_length] at hjj
        rw [hjj] at hv
        simp only [V_seq, V_ret, V_exit, V_region, W_nil, W_cons, effOp2, KN_seq, KXr_nil, KXe_nil, KXe_seq, KXe_block, KXe_back, QE, effOp, effPure, pureV, ofC, strip, lkT, lkH, ISt.app, opI, gO, gB, allB, gval, wrapG, dstOK, setD, clean, Gives, Ideal.Fin, conv, conv0, Op.operands, reduceIte, reduceCtorEq, Nat.reduceLT, Nat.reduceEqDiff, and_self, implies_true, List.nil_append, List.cons_append, List.append_nil, List.all_nil, hN, hv, List.all_nil]
def sp_spec_IsRedundant : PSpec := ⟨fun xs => match xs with | [.sl 3 les, .num .i64 k] => isTs les | _ => False, fun xs => match xs with | [.sl _ les, .num _ k] => (fun (l : List Tr) (k : Int) => .bool (redB l k)) (toTs les) k | _ => .junk, false⟩
theorem gk_spec_IsRedundant : ∀ args, sp_spec_IsRedundant.pre args → ICall Try.prog 23 args (sp_spec_IsRedundant.val args) := by
  intro args h
  unfold sp_spec_IsRedundant at h ⊢; simp only at h ⊢; split at h
  · have h0 := h
    obtain ⟨l0, rfl⟩ := isT_ex h0
    simp only [toTs_enc] at *
    exact c_spec_IsRedundant _ _ 
  · exact h.elim
theorem en_spec_IsRedundant : Enters Try.prog 23 := enters_of Try.func23 (by kernel_rfl) rfl



/-! empty regions -/
abbrev iAt9 (l : List Int) (i : Nat) : Int := l.getD i 0
def g_impl_CheckEmpty_1 : List (Nat × PSpec) := [(75, sp_impl_within)]
theorem gok_impl_CheckEmpty_1 : GOK Try.prog g_impl_CheckEmpty_1 := gok_cons gk_impl_within en_impl_within (gok0)
theorem lk_impl_CheckEmpty_1_impl_within : lkG g_impl_CheckEmpty_1 75 = sp_impl_within := rfl
def h_impl_CheckEmpty_1 : List (Nat × HSpec) := []
theorem hok_impl_CheckEmpty_1 : HOK Try.prog h_impl_CheckEmpty_1 := hok0
theorem c_impl_CheckEmpty_1 (k : Int) (l : List Tr) (hz : l.length ≤ 1000000) : HCall Try.prog 100 [.num .i64 k, .ptr 1000 0] (sm ([(1000, .box 23 [.sl 3 (encTs l)])])) (.bool (!inR k 0 ((l.length : Int) - 1))) (sm ([(1000, .box 23 [.sl 3 (encTs l)])])) := by
  refine hcall_V (G := g_impl_CheckEmpty_1) (H := []) [] tabOK mixed gok_impl_CheckEmpty_1 hok_impl_CheckEmpty_1 Try.func100 rfl Try.ntmps100 Try.results100 rfl (by kernel_rfl) fun F hN hlen => ?_
  simp only [sm]
  have el := len_encTs l
  have w0 : IntKind.i64.wrap ((l.length : Int) - 1) = (l.length : Int) - 1 := wr (by omega) (by omega)
  simp only [V_seq, V_ret, V_region, W_nil, W_cons, effOp2, KN_seq, KXr_nil, QE, effOp, effPure, effCall, giveUp, hasAll, pureV, binV, partV, loadV, lenV, ofC, strip, lkT, lkH, ISt.app, opI, gO, gB, allB, gval, wrapG, dstOK, setD, lendV, lendP, lent, lentP, idsV, idsL, lkHS, flat, clean, callArgs, callFn, allLent, enumT, conv, conv0, Op.operands, Call.operands, List.append_toArray, reduceIte, reduceCtorEq, cond_true, Bool.or_false, Bool.not_true, Nat.reduceLT, Nat.reduceLeDiff, Nat.reduceEqDiff, Nat.zero_add, ne_eq, not_false_eq_true, true_and, and_true, and_self, false_implies, implies_true, List.map_cons, List.map_nil, List.nil_append, List.cons_append, List.append_nil, List.getD_cons_zero, List.length_cons, List.length_nil, List.take_succ_cons, List.take_nil, List.drop_zero, ex_clo, or_self, tab23, hN, FinH, resA, resV, SLe, SLe0, convTm, convHp, convB, lk_impl_CheckEmpty_1_impl_within, sp_impl_within, el, w0]
  exact ⟨id, by simp [convL, conv, conv0]⟩
def hs_impl_CheckEmpty_1 : HSpec := ⟨[false, false], fun xs hp => match xs, hp with | [.num .i64 k, .ptr 1000 0], [(1000, .box ty [.sl 3 es])] => (isTs es) ∧ (ty = 23) ∧ ((fun (k : Int) (l : List Tr) => l.length ≤ 1000000) k (toTs es)) | _, _ => False, fun xs hp => match xs, hp with | [.num .i64 k, .ptr 1000 0], [(1000, .box ty [.sl 3 es])] => (fun (k : Int) (l : List Tr) => (.bool (!inR k 0 ((l.length : Int) - 1)) : IV)) k (toTs es) | _, _ => .junk, fun xs hp => match xs, hp with | [.num .i64 k, .ptr 1000 0], [(1000, .box ty [.sl 3 es])] => (fun (k : Int) (l : List Tr) => ([(1000, .box 23 [.sl 3 (encTs l)])] : List (Nat × IBlk))) k (toTs es) | _, _ => []⟩
theorem hk_impl_CheckEmpty_1 : ∀ args hp, hs_impl_CheckEmpty_1.pre args hp → HCall Try.prog 100 args (sm hp) (hs_impl_CheckEmpty_1.val args hp) (sm (hs_impl_CheckEmpty_1.hval args hp)) := by
  intro args hp h
  unfold hs_impl_CheckEmpty_1 at h ⊢; simp only at h ⊢; split at h
  · obtain ⟨h1, rfl, h2⟩ := h; obtain ⟨l, rfl⟩ := isT_ex h1; rw [toTs_enc] at *; exact c_impl_CheckEmpty_1 _ l h2
  · exact h.elim
theorem en_impl_CheckEmpty_1 : Enters Try.prog 100 := enters_of Try.func100 (by kernel_rfl) rfl

def g_slices_IndexFunc_int_int_chk : List (Nat × PSpec) := []
theorem gok_slices_IndexFunc_int_int_chk : GOK Try.prog g_slices_IndexFunc_int_int_chk := gok0
def h_slices_IndexFunc_int_int_chk : List (Nat × HSpec) := [(100, hs_impl_CheckEmpty_1)]
theorem hok_slices_IndexFunc_int_int_chk : HOK Try.prog h_slices_IndexFunc_int_int_chk := hok_cons hk_impl_CheckEmpty_1 en_impl_CheckEmpty_1 (hok0)
theorem lh_slices_IndexFunc_int_int_chk_impl_CheckEmpty_1 : lkHS h_slices_IndexFunc_int_int_chk 100 = some hs_impl_CheckEmpty_1 := rfl
theorem c_slices_IndexFunc_int_int_chk (w : List Int) (l : List Tr) (hz : l.length ≤ 1000000) (hsz : w.length ≤ 1000000) : HCall Try.prog 174 [.sl 1 (encI w), .clo 100 [.ptr 1000 0]] (sm ([(1000, .box 23 [.sl 3 (encTs l)])])) (.num .i64 (idxF (fun k => !inR k 0 ((l.length : Int) - 1)) w 0)) (sm ([(1000, .box 23 [.sl 3 (encTs l)])])) := by
  refine hcall_V (G := g_slices_IndexFunc_int_int_chk) (H := h_slices_IndexFunc_int_int_chk) [] tabOK mixed gok_slices_IndexFunc_int_int_chk hok_slices_IndexFunc_int_int_chk Try.func174 rfl Try.ntmps174 Try.results174 rfl (by kernel_rfl) fun F hN hlen => ?_
  simp only [sm]
  have el := len_encI w
  simp only [V_seq, V_block, V_region, W_nil, W_cons, effOp2, KN_seq, effOp, effPure, pureV, lenV, ofC, strip, lkT, ISt.app, opI, gO, gB, allB, gval, wrapG, dstOK, setD, enumT, Op.operands, Call.operands, List.append_toArray, reduceIte, reduceCtorEq, Nat.reduceLT, Nat.reduceEqDiff, Nat.zero_add, ne_eq, not_false_eq_true, true_and, and_self, implies_true, List.nil_append, List.cons_append, tab50, hN, el]
  refine V_loop (α := Nat) ⟨tabOK, mixed, gok_slices_IndexFunc_int_int_chk, hok_slices_IndexFunc_int_int_chk⟩ (by kernel_rfl) (fun i => i ≤ w.length ∧ idxF (fun k => !inR k 0 ((l.length : Int) - 1)) w 0 = idxF (fun k => !inR k 0 ((l.length : Int) - 1)) (w.drop i) i)
    (fun i => ⟨[(8, .num .i64 i), (7, .num .i64 w.length), (0, .sl 1 (encI w)), (1, .clo 100 [.ptr 1000 0])], [(1000, some (.box 23 [.sl 3 (encTs l)]))]⟩) (fun i => w.length - i) 0 id (by simp) (by simp [SLe, SLe0, convTm, convHp, convB, conv, conv0, convL, lkT, lkH, clean]) ?_
  rintro i ⟨hi2, hj⟩
  simp only [V_seq, V_region, V_cond, W_nil, W_cons, effOp2, KN_seq, asB, effOp, effPure, pureV, binV, strip, lkT, ISt.app, opI, gO, gB, allB, gval, wrapG, dstOK, setD, Op.operands, reduceIte, reduceCtorEq, Nat.reduceLT, Nat.reduceEqDiff, true_and, and_self, implies_true, List.nil_append, List.cons_append, hN]
  refine brW_some (fun h => ?_) (fun h => ?_)
  · have hi' : i < w.length := by simpa using h
    have g0 := getD_encI hi'
    have hw := wr_succ hi' (by rw [maxLen_eq]; omega)
    have hst := idxF_step (p := fun k => !inR k 0 ((l.length : Int) - 1)) (d := 0) hi'
    generalize w.getD i 0 = z at *
    simp only [V_seq, V_skip, V_block, V_region, V_cond, W_nil, W_cons, effOp2, KN_seq, asB, effOp, effPure, Option.isSome_some, skipE, pureV, eltV, loadV, iaddrV, strip, lkT, lkH, ISt.app, opI, gO, gB, allB, gval, wrapG, dstOK, setD, mentTm, mentHp, IV.ment, IV.mentL, idsV, idsL, clean, callArgs, callFn, enumT, conv, conv0, convL, IBlk.shape, Op.operands, reduceIte, reduceCtorEq, cond_true, cond_false, Bool.or_false, Bool.or_true, Bool.and_true, Nat.reduceAdd, Nat.reduceSub, Nat.reduceMul, Nat.reduceLT, Nat.reduceLeDiff, Nat.reduceEqDiff, Nat.zero_add, ne_eq, not_false_eq_true, beq_self_eq_true, true_and, and_true, and_false, and_self, implies_true, forall_const, List.map_cons, List.map_nil, List.nil_append, List.cons_append, List.append_nil, List.all_nil, Option.map_some, List.getD_cons_zero, ex_clo, Bool.true_eq_false, Bool.false_eq_true, tab3, tab50, hN, Int.toNat_natCast, isTs_enc, toTs_enc, SLe0, convTm, convHp, convB, sm, effH, mkHC0, mkHC1, lendM, lentM, lentI, allHere, addIds, idsB, flatIds, reach, posn, renV, renL, renB, renH, numB, subHp, fwd, bk, bwd, nones, keyOK, noSl, noSlL, flatBs, List.contains, List.elem, Option.isSome_some, List.nodup_nil, List.nodup_cons, List.not_mem_nil, or_false, Option.getD_some, lh_slices_IndexFunc_int_int_chk_impl_CheckEmpty_1, hs_impl_CheckEmpty_1, el, g0, hz]
    refine ⟨⟨by omega, by omega⟩, brW_some (fun h => ?_) (fun h => ?_)⟩
    · rw [if_pos h, ← hj] at hst
      simp only [V_seq, V_ret, V_region, W_nil, W_cons, effOp2, KN_seq, KXr_nil, KXr_seq, KXr_block, KXr_back, QE, effOp, effPure, pureV, strip, lkT, lkH, ISt.app, opI, gO, gB, allB, gval, wrapG, dstOK, setD, clean, conv, conv0, Op.operands, reduceIte, reduceCtorEq, Nat.reduceLT, Nat.reduceEqDiff, not_false_eq_true, true_and, and_true, and_self, false_implies, implies_true, List.map_cons, List.map_nil, List.nil_append, List.cons_append, hN, FinH, resA, resV, SLe, SLe0, convTm, convHp, convB, List.nodup_nil, List.nodup_cons, List.not_mem_nil, hst]
      exact ⟨id, by simp [convL, conv, conv0]⟩
    · rw [if_neg (by rw [h]; decide), ← hj] at hst
      simp only [V_skip, V_region, W_nil, W_cons, effOp2, KN_seq, KN_block, KN_back, effOp, effPure, pureV, binV, ofC, strip, lkT, ISt.app, opI, gO, gB, allB, gval, wrapG, dstOK, setD, Op.operands, reduceIte, reduceCtorEq, Nat.reduceLT, Nat.reduceEqDiff, true_and, and_self, implies_true, List.nil_append, List.cons_append, hN, hw]
      exact ⟨i + 1, id, ⟨by omega, hst⟩, by simp only []; omega, by simp [SLe, SLe0, convTm, convHp, convB, conv, conv0, convL, lkT, lkH, clean]⟩
  · have hie : i = w.length := by simp at h; omega
    subst hie
    rw [List.drop_length] at hj
    simp only [V_seq, V_ret, V_exit, V_region, W_nil, W_cons, effOp2, KN_seq, KXr_nil, KXe_nil, KXe_seq, KXe_block, KXe_back, QE, effOp, effPure, pureV, ofC, strip, lkT, lkH, ISt.app, opI, gO, gB, allB, gval, wrapG, dstOK, setD, clean, conv, conv0, Op.operands, reduceIte, reduceCtorEq, Nat.reduceLT, Nat.reduceEqDiff, not_false_eq_true, true_and, and_true, and_self, false_implies, implies_true, List.map_cons, List.map_nil, List.nil_append, List.cons_append, hN, FinH, resA, resV, SLe, SLe0, convTm, convHp, convB, List.nodup_nil, List.nodup_cons, List.not_mem_nil, hj, idxF]
    exact ⟨id, by simp [convL, conv, conv0]⟩
def hs_slices_IndexFunc_int_int_chk : HSpec := ⟨[true, false], fun xs hp => match xs, hp with | [.sl 1 ws, .clo 100 [.ptr 1000 0]], [(1000, .box ty [.sl 3 es])] => (isIs ws) ∧ (isTs es) ∧ (ty = 23) ∧ ((fun (w : List Int) (l : List Tr) => l.length ≤ 1000000) (toIs ws) (toTs es)) ∧ ((fun (w : List Int) (l : List Tr) => w.length ≤ 1000000) (toIs ws) (toTs es)) | _, _ => False, fun xs hp => match xs, hp with | [.sl 1 ws, .clo 100 [.ptr 1000 0]], [(1000, .box ty [.sl 3 es])] => (fun (w : List Int) (l : List Tr) => (.num .i64 (idxF (fun k => !inR k 0 ((l.length : Int) - 1)) w 0) : IV)) (toIs ws) (toTs es) | _, _ => .junk, fun xs hp => match xs, hp with | [.sl 1 ws, .clo 100 [.ptr 1000 0]], [(1000, .box ty [.sl 3 es])] => (fun (w : List Int) (l : List Tr) => ([(1000, .box 23 [.sl 3 (encTs l)])] : List (Nat × IBlk))) (toIs ws) (toTs es) | _, _ => []⟩
theorem hk_slices_IndexFunc_int_int_chk : ∀ args hp, hs_slices_IndexFunc_int_int_chk.pre args hp → HCall Try.prog 174 args (sm hp) (hs_slices_IndexFunc_int_int_chk.val args hp) (sm (hs_slices_IndexFunc_int_int_chk.hval args hp)) := by
  intro args hp h
  unfold hs_slices_IndexFunc_int_int_chk at h ⊢; simp only at h ⊢; split at h
  · obtain ⟨h0, h1, rfl, h2, h3⟩ := h; obtain ⟨w, rfl⟩ := isI_ex h0; obtain ⟨l, rfl⟩ := isT_ex h1; rw [toIs_enc, toTs_enc] at *; exact c_slices_IndexFunc_int_int_chk w l h2 h3
  · exact h.elim
theorem en_slices_IndexFunc_int_int_chk : Enters Try.prog 174 := enters_of Try.func174 (by kernel_rfl) rfl

def g_slices_ContainsFunc_int_int_chk : List (Nat × PSpec) := []
theorem gok_slices_ContainsFunc_int_int_chk : GOK Try.prog g_slices_ContainsFunc_int_int_chk := gok0
def h_slices_ContainsFunc_int_int_chk : List (Nat × HSpec) := [(174, hs_slices_IndexFunc_int_int_chk)]
theorem hok_slices_ContainsFunc_int_int_chk : HOK Try.prog h_slices_ContainsFunc_int_int_chk := hok_cons hk_slices_IndexFunc_int_int_chk en_slices_IndexFunc_int_int_chk (hok0)
theorem lh_slices_ContainsFunc_int_int_chk_slices_IndexFunc_int_int_chk : lkHS h_slices_ContainsFunc_int_int_chk 174 = some hs_slices_IndexFunc_int_int_chk := rfl
theorem c_slices_ContainsFunc_int_int_chk (w : List Int) (l : List Tr) (hz : l.length ≤ 1000000) (hsz : w.length ≤ 1000000) : HCall Try.prog 99 [.sl 1 (encI w), .clo 100 [.ptr 1000 0]] (sm ([(1000, .box 23 [.sl 3 (encTs l)])])) (.bool (w.any (fun k => !inR k 0 ((l.length : Int) - 1)))) (sm ([(1000, .box 23 [.sl 3 (encTs l)])])) := by
  refine hcall_V (G := g_slices_ContainsFunc_int_int_chk) (H := h_slices_ContainsFunc_int_int_chk) [] tabOK mixed gok_slices_ContainsFunc_int_int_chk hok_slices_ContainsFunc_int_int_chk Try.func99 rfl Try.ntmps99 Try.results99 rfl (by kernel_rfl) fun F hN hlen => ?_
  simp only [sm]
  simp only [V_seq, V_ret, V_region, W_nil, W_cons, effOp2, KN_seq, KXr_nil, QE, effOp, effPure, Option.isSome_some, skipE, pureV, binV, ofC, strip, lkT, lkH, ISt.app, opI, gO, gB, allB, gval, wrapG, dstOK, setD, mentTm, mentHp, IV.ment, IV.mentL, lendV, lendP, lent, lentP, idsV, idsL, clean, callArgs, callFn, enumT, conv, conv0, convL, IBlk.shape, Op.operands, reduceIte, reduceCtorEq, cond_true, cond_false, Bool.or_false, Bool.or_true, Bool.and_true, Nat.reduceAdd, Nat.reduceSub, Nat.reduceMul, Nat.reduceLT, Nat.reduceLeDiff, Nat.reduceEqDiff, Nat.zero_add, not_false_eq_true, beq_self_eq_true, true_and, and_true, and_false, and_self, false_implies, implies_true, List.map_cons, List.map_nil, List.nil_append, List.cons_append, List.append_nil, List.all_nil, Option.map_some, List.getD_cons_zero, ex_clo, Bool.true_eq_false, Bool.false_eq_true, hN, isTs_enc, toTs_enc, isIs_enc, toIs_enc, FinH, resA, resV, SLe, SLe0, convTm, convHp, convB, sm, effH, mkHC0, mkHC1, lendM, lentM, lentI, allHere, addIds, idsB, flatIds, reach, posn, renV, renL, renB, renH, numB, subHp, fwd, bk, bwd, nones, keyOK, noSl, noSlL, flatBs, List.contains, List.elem, Option.isSome_some, List.nodup_nil, List.nodup_cons, List.not_mem_nil, or_false, Option.getD_some, lh_slices_ContainsFunc_int_int_chk_slices_IndexFunc_int_int_chk, hs_slices_IndexFunc_int_int_chk, hz, hsz, idxF_sign]
  exact ⟨id, by simp [convL, conv, conv0]⟩
def hs_slices_ContainsFunc_int_int_chk : HSpec := ⟨[true, false], fun xs hp => match xs, hp with | [.sl 1 ws, .clo 100 [.ptr 1000 0]], [(1000, .box ty [.sl 3 es])] => (isIs ws) ∧ (isTs es) ∧ (ty = 23) ∧ ((fun (w : List Int) (l : List Tr) => l.length ≤ 1000000) (toIs ws) (toTs es)) ∧ ((fun (w : List Int) (l : List Tr) => w.length ≤ 1000000) (toIs ws) (toTs es)) | _, _ => False, fun xs hp => match xs, hp with | [.sl 1 ws, .clo 100 [.ptr 1000 0]], [(1000, .box ty [.sl 3 es])] => (fun (w : List Int) (l : List Tr) => (.bool (w.any (fun k => !inR k 0 ((l.length : Int) - 1))) : IV)) (toIs ws) (toTs es) | _, _ => .junk, fun xs hp => match xs, hp with | [.sl 1 ws, .clo 100 [.ptr 1000 0]], [(1000, .box ty [.sl 3 es])] => (fun (w : List Int) (l : List Tr) => ([(1000, .box 23 [.sl 3 (encTs l)])] : List (Nat × IBlk))) (toIs ws) (toTs es) | _, _ => []⟩
theorem hk_slices_ContainsFunc_int_int_chk : ∀ args hp, hs_slices_ContainsFunc_int_int_chk.pre args hp → HCall Try.prog 99 args (sm hp) (hs_slices_ContainsFunc_int_int_chk.val args hp) (sm (hs_slices_ContainsFunc_int_int_chk.hval args hp)) := by
  intro args hp h
  unfold hs_slices_ContainsFunc_int_int_chk at h ⊢; simp only at h ⊢; split at h
  · obtain ⟨h0, h1, rfl, h2, h3⟩ := h; obtain ⟨w, rfl⟩ := isI_ex h0; obtain ⟨l, rfl⟩ := isT_ex h1; rw [toIs_enc, toTs_enc] at *; exact c_slices_ContainsFunc_int_int_chk w l h2 h3
  · exact h.elim
theorem en_slices_ContainsFunc_int_int_chk : Enters Try.prog 99 := enters_of Try.func99 (by kernel_rfl) rfl

def selL (l : List Tr) (w : List Int) : List Tr := w.map fun k => tAt l k.toNat
theorem selL_len (l : List Tr) (w : List Int) : (selL l w).length = w.length := by simp [selL]
theorem selL_step {l : List Tr} {w : List Int} {i : Nat} (h : i < w.length) : selL l (w.take (i + 1)) = selL l (w.take i) ++ [tAt l (w.getD i 0).toNat] := by
  rw [take_succ_g (d := 0) h]; simp [selL]
theorem selL_sm {l : List Tr} {w : List Int} (hs : ∀ k ∈ l, smH k) (hw : ∀ x ∈ w, 0 ≤ x ∧ x < (l.length : Int)) : ∀ k ∈ selL l w, smH k := by
  intro k hk
  simp only [selL, List.mem_map] at hk
  obtain ⟨x, hx, rfl⟩ := hk
  have := hw x hx
  refine hs _ ?_
  rw [tAt, List.getD, List.getElem?_eq_getElem (by omega)]; exact List.getElem_mem (by omega)
theorem len_zero_empty {α : Type} (l : List α) : ((l.length : Int) == 0) = l.isEmpty := by cases l <;> simp <;> omega
def g_impl_empty : List (Nat × PSpec) := [(65, sp_impl_corners_v)]
theorem gok_impl_empty : GOK Try.prog g_impl_empty := gok_consO gk_impl_corners_v en_impl_corners_v (gok0)
theorem lk_impl_empty_impl_corners_v : lkG g_impl_empty 65 = sp_impl_corners_v := rfl
def h_impl_empty : List (Nat × HSpec) := []
theorem hok_impl_empty : HOK Try.prog h_impl_empty := hok0
theorem c_impl_empty (l : List Tr) (w : List Int) (hs : ∀ k ∈ l, smH k) (hw : ∀ x ∈ w, 0 ≤ x ∧ x < (l.length : Int)) (hsz : w.length ≤ 3) : ICall Try.prog 101 [.sl 3 (encTs l), .sl 1 (encI w)] (.bool (cornP (selL l w)).isEmpty) := by
  refine icall_V (G := g_impl_empty) (H := []) [] tabOK mixed gok_impl_empty hok_impl_empty Try.func101 rfl Try.ntmps101 Try.results101 rfl (by kernel_rfl) fun F hN hlen => ?_
  have el := len_encTs l
  have ew := len_encI w
  simp only [V_seq, V_block, V_region, W_nil, W_cons, effOp2, KN_seq, effOp, effPure, effNew, effMake, skipE, pureV, lenV, ofC, strip, lkT, ISt.app, opI, gO, gB, allB, gval, wrapG, dstOK, setD, mentTm, mentHp, IV.ment, zeroElt, noId', enumT, Op.operands, Call.operands, List.append_toArray, reduceIte, reduceCtorEq, cond_true, Bool.or_false, Bool.and_true, Nat.reduceLT, Nat.reduceLeDiff, Nat.reduceEqDiff, Nat.zero_add, ne_eq, not_false_eq_true, true_and, and_true, and_self, implies_true, List.nil_append, List.cons_append, List.append_nil, List.all_cons, List.all_nil, tab23, tab50, tab92, hN, ew]
  refine ⟨⟨by omega, by omega, by omega, by omega⟩, ?_⟩
  refine V_loop (α := Nat) ⟨tabOK, mixed, gok_impl_empty, hok_impl_empty⟩ (by kernel_rfl) (fun i => i ≤ w.length) (fun i => ⟨[(13, .num .i64 i), (12, .num .i64 w.length), (11, .sl 1 (encI w)), (5, .ref 10 0 i true), (0, .sl 3 (encTs l))], [(10, some (.arr 3 92 (encTs (selL l (w.take i)))))]⟩) (fun i => w.length - i) 0 id (Nat.zero_le _) (by simp [SLe, SLe0, convTm, convHp, convB, conv, conv0, lkT, lkH, clean, selL, encTs]) ?_
  intro i hi
  have eo : (encTs (selL l (w.take i))).length = i := by rw [len_encTs, selL_len, List.length_take]; omega
  have hx : ∃ k ty es, IBlk.arr 3 92 (encTs (selL l (w.take i))) = IBlk.arr k ty es := ⟨_, _, _, rfl⟩
  simp only [V_seq, V_region, V_cond, W_nil, W_cons, effOp2, KN_seq, asB, effOp, effPure, pureV, binV, strip, lkT, ISt.app, opI, gO, gB, allB, gval, wrapG, dstOK, setD, Op.operands, reduceIte, reduceCtorEq, Nat.reduceLT, Nat.reduceEqDiff, true_and, and_self, implies_true, List.nil_append, List.cons_append, hN]
  refine brW_some (fun h => ?_) (fun h => ?_)
  · have hi' : i < w.length := by simpa using h
    have hwi := wr_succ hi' (by rw [maxLen_eq]; omega)
    have g0 := getD_encI hi'
    have hb := hw (w.getD i 0) (by rw [List.getD, List.getElem?_eq_getElem hi']; exact List.getElem_mem hi')
    have hst := selL_step (l := l) hi'
    obtain ⟨x, hxx⟩ : ∃ x, w.getD i 0 = x := ⟨_, rfl⟩
    rw [hxx] at g0 hb hst
    obtain ⟨k, rfl⟩ : ∃ k : Nat, x = k := ⟨x.toNat, by omega⟩
    rw [Int.toNat_natCast] at hst
    have g1 := getD_encTs (l := l) (i := k) (by omega)
    obtain ⟨q, hq⟩ : ∃ q, tAt l k = q := ⟨_, rfl⟩
    rw [hq] at g1 hst
    have hen : encTs (selL l (w.take (i + 1))) = (encTs (selL l (w.take i))).take i ++ [IV.agg [.num .i64 q.1, .num .i64 q.2.1, .num .i64 q.2.2]] := by
      have ht : (encTs (selL l (w.take i))).take i = encTs (selL l (w.take i)) := List.take_of_length_le (by omega)
      rw [hst, ← encTs_app, ht]; rfl
    simp only [V_seq, V_skip, V_block, V_region, W_nil, W_cons, effOp2, KN_seq, KN_block, KN_back, effOp, effPure, effNew, effBuildSlice, effFrz, frz, tmpsOf, effAppend, effZeros, skipE, pureV, srcV, refId, binV, partV, eltV, loadV, iaddrV, ofC, strip, lkT, lkH, ISt.app, opI, gO, gB, allB, gval, wrapG, dstOK, setD, mentTm, mentHp, IV.ment, IV.mentL, partsL, eltsI, eltI, oneI, noId', Op.operands, reduceIte, reduceCtorEq, cond_true, Bool.or_false, Bool.and_true, Nat.reduceAdd, Nat.reduceMul, Nat.reduceLT, Nat.reduceLeDiff, Nat.reduceEqDiff, Nat.reduceBEq, Nat.zero_add, ne_eq, not_false_eq_true, true_and, and_true, and_false, and_self, implies_true, forall_const, List.nil_append, List.cons_append, List.append_nil, List.all_cons, List.all_nil, Option.some.injEq, List.getD_cons_zero, List.length_cons, List.length_nil, List.take_succ_cons, List.take_nil, List.drop_zero, tab3, tab23, tab50, tab92, hN, Int.toNat_natCast, el, ew, hwi, g0, g1, eo]
    repeat refine And.intro (by first | omega | (simp; done) | (simp; omega)) ?_
    refine ⟨i + 1, fun x => if x = 10 then 23 else x, by simp only []; omega, by simp only []; omega, ?_⟩
    simp only [hen]
    simp [SLe, SLe0, convTm, convHp, convB, conv, conv0, lkT, lkH, clean]
    exact ⟨(List.take_of_length_le (by rw [List.length_append, List.length_take, eo]; simp)).symm, fun id a1 a2 a3 => by omega⟩
  · have hie : i = w.length := by simp at h; omega
    subst hie
    rw [List.take_length] at eo hx ⊢
    have hss := selL_sm hs hw
    have hsl : (selL l w).length ≤ 100 := by rw [selL_len]; omega
    have tk : (encTs (selL l w)).take w.length = encTs (selL l w) := List.take_of_length_le (by omega)
    have ec := len_encQs (cornP (selL l w))
    simp only [V_seq, V_ret, V_exit, V_region, W_nil, W_cons, effOp2, KN_seq, KXr_nil, KXe_nil, KXe_seq, KXe_block, KXe_back, QE, effOp, effPure, effCall, giveUp, hasAll, Option.isSome_some, pureV, binV, lenV, ofC, strip, lkT, lkH, ISt.app, opI, gO, gB, allB, gval, wrapG, dstOK, setD, lendV, lendP, lent, lentP, idsV, idsL, lkHS, flat, clean, callArgs, callFn, allLent, Gives, Ideal.Fin, conv, conv0, Op.operands, Call.operands, List.append_toArray, reduceIte, reduceCtorEq, cond_true, Bool.or_false, Bool.or_true, Bool.not_true, Nat.reduceLT, Nat.reduceEqDiff, Nat.zero_add, ne_eq, not_false_eq_true, true_and, and_true, and_self, implies_true, forall_const, List.map_cons, List.map_nil, List.nil_append, List.cons_append, List.append_nil, List.drop_zero, ex_clo, or_self, tab25, hN, isTs_enc, toTs_enc, lk_impl_empty_impl_corners_v, sp_impl_corners_v, eo, hsl, tk, ec, len_zero_empty]
    exact ⟨Nat.le_refl _, hss⟩
def sp_impl_empty : PSpec := ⟨fun xs => match xs with | [.sl 3 les, .sl 1 wes] => isTs les ∧ isIs wes ∧ ((fun (l : List Tr) (w : List Int) => ∀ k ∈ l, smH k) (toTs les) (toIs wes)) ∧ ((fun (l : List Tr) (w : List Int) => ∀ x ∈ w, 0 ≤ x ∧ x < (l.length : Int)) (toTs les) (toIs wes)) ∧ ((fun (l : List Tr) (w : List Int) => w.length ≤ 3) (toTs les) (toIs wes)) | _ => False, fun xs => match xs with | [.sl _ les, .sl _ wes] => (fun (l : List Tr) (w : List Int) => .bool (cornP (selL l w)).isEmpty) (toTs les) (toIs wes) | _ => .junk, false⟩
theorem gk_impl_empty : ∀ args, sp_impl_empty.pre args → ICall Try.prog 101 args (sp_impl_empty.val args) := by
  intro args h
  unfold sp_impl_empty at h ⊢; simp only at h ⊢; split at h
  · obtain ⟨h0, h1, h2, h3, h4⟩ := h
    obtain ⟨l0, rfl⟩ := isT_ex h0
    obtain ⟨l1, rfl⟩ := isI_ex h1
    simp only [toTs_enc, toIs_enc] at *
    exact c_impl_empty _ _ h2 h3 h4
  · exact h.elim
theorem en_impl_empty : Enters Try.prog 101 := enters_of Try.func101 (by kernel_rfl) rfl

def g_spec_selected : List (Nat × PSpec) := []
theorem gok_spec_selected : GOK Try.prog g_spec_selected := gok0
def h_spec_selected : List (Nat × HSpec) := []
theorem hok_spec_selected : HOK Try.prog h_spec_selected := hok0
theorem c_spec_selected (l : List Tr) (w : List Int) (hw : ∀ x ∈ w, 0 ≤ x ∧ x < (l.length : Int)) (hsz : w.length ≤ 3) : ICall Try.prog 102 [.sl 3 (encTs l), .sl 1 (encI w)] (.sl 3 (encTs (selL l w))) := by
  refine icall_V (G := g_spec_selected) (H := []) [] tabOK mixed gok_spec_selected hok_spec_selected Try.func102 rfl Try.ntmps102 Try.results102 rfl (by kernel_rfl) fun F hN hlen => ?_
  have el := len_encTs l
  have ew := len_encI w
  simp only [V_seq, V_block, V_region, W_nil, W_cons, effOp2, KN_seq, effOp, effPure, effNew, effBuildSlice, effFrz, frz, tmpsOf, skipE, pureV, ofC, strip, lkT, ISt.app, opI, gO, gB, allB, gval, wrapG, dstOK, setD, mentTm, mentHp, IV.ment, partsL, eltsI, enumT, Op.operands, reduceIte, reduceCtorEq, cond_true, Bool.or_false, Nat.reduceMul, Nat.reduceLT, Nat.reduceLeDiff, Nat.reduceEqDiff, Nat.zero_add, ne_eq, not_false_eq_true, true_and, and_self, implies_true, List.nil_append, List.cons_append, List.append_nil, List.length_nil, tab23, tab92, hN]
  refine V_loop (α := Nat) ⟨tabOK, mixed, gok_spec_selected, hok_spec_selected⟩ (by kernel_rfl) (fun i => i ≤ w.length) (fun i => ⟨[(6, .num .i64 i), (5, .ref 7 0 i true), (0, .sl 3 (encTs l)), (1, .sl 1 (encI w))], [(7, some (.arr 3 92 (encTs (selL l (w.take i)))))]⟩) (fun i => w.length - i) 0 id (Nat.zero_le _) (by simp [SLe, SLe0, convTm, convHp, convB, conv, conv0, lkT, lkH, clean, selL, encTs]) ?_
  intro i hi
  have eo : (encTs (selL l (w.take i))).length = i := by rw [len_encTs, selL_len, List.length_take]; omega
  have hx : ∃ k ty es, IBlk.arr 3 92 (encTs (selL l (w.take i))) = IBlk.arr k ty es := ⟨_, _, _, rfl⟩
  simp only [V_seq, V_region, V_cond, W_nil, W_cons, effOp2, KN_seq, asB, effOp, effPure, pureV, binV, lenV, strip, lkT, ISt.app, opI, gO, gB, allB, gval, wrapG, dstOK, setD, Op.operands, Call.operands, List.append_toArray, reduceIte, reduceCtorEq, Nat.reduceLT, Nat.reduceEqDiff, ne_eq, not_false_eq_true, true_and, and_self, implies_true, List.nil_append, List.cons_append, tab50, hN, ew]
  refine brW_some (fun h => ?_) (fun h => ?_)
  · have hi' : i < w.length := by simpa using h
    have hwi := wr_succ hi' (by rw [maxLen_eq]; omega)
    have g0 := getD_encI hi'
    have hb := hw (w.getD i 0) (by rw [List.getD, List.getElem?_eq_getElem hi']; exact List.getElem_mem hi')
    have hst := selL_step (l := l) hi'
    obtain ⟨x, hxx⟩ : ∃ x, w.getD i 0 = x := ⟨_, rfl⟩
    rw [hxx] at g0 hb hst
    obtain ⟨k, rfl⟩ : ∃ k : Nat, x = k := ⟨x.toNat, by omega⟩
    rw [Int.toNat_natCast] at hst
    have g1 := getD_encTs (l := l) (i := k) (by omega)
    obtain ⟨q, hq⟩ : ∃ q, tAt l k = q := ⟨_, rfl⟩
    rw [hq] at g1 hst
    have hen : encTs (selL l (w.take (i + 1))) = (encTs (selL l (w.take i))).take i ++ [IV.agg [.num .i64 q.1, .num .i64 q.2.1, .num .i64 q.2.2]] := by
      have ht : (encTs (selL l (w.take i))).take i = encTs (selL l (w.take i)) := List.take_of_length_le (by omega)
      rw [hst, ← encTs_app, ht]; rfl
    simp only [V_seq, V_skip, V_block, V_region, W_nil, W_cons, effOp2, KN_seq, KN_block, KN_back, effOp, effPure, effNew, effBuildSlice, effFrz, frz, tmpsOf, effAppend, effZeros, skipE, pureV, srcV, refId, binV, partV, eltV, loadV, iaddrV, ofC, strip, lkT, lkH, ISt.app, opI, gO, gB, allB, gval, wrapG, dstOK, setD, mentTm, mentHp, IV.ment, IV.mentL, partsL, eltsI, eltI, oneI, noId', Op.operands, reduceIte, reduceCtorEq, cond_true, Bool.or_false, Bool.and_true, Nat.reduceAdd, Nat.reduceMul, Nat.reduceLT, Nat.reduceLeDiff, Nat.reduceEqDiff, Nat.reduceBEq, Nat.zero_add, ne_eq, not_false_eq_true, true_and, and_true, and_false, and_self, implies_true, forall_const, List.nil_append, List.cons_append, List.append_nil, List.all_cons, List.all_nil, Option.some.injEq, List.getD_cons_zero, List.length_cons, List.length_nil, List.take_succ_cons, List.take_nil, List.drop_zero, tab3, tab23, tab50, tab92, hN, Int.toNat_natCast, el, ew, hwi, g0, g1, eo]
    repeat refine And.intro (by first | omega | (simp; done) | (simp; omega)) ?_
    refine ⟨i + 1, fun x => if x = 7 then 23 else x, by simp only []; omega, by simp only []; omega, ?_⟩
    simp only [hen]
    simp [SLe, SLe0, convTm, convHp, convB, conv, conv0, lkT, lkH, clean]
    exact ⟨(List.take_of_length_le (by rw [List.length_append, List.length_take, eo]; simp)).symm, fun id a1 a2 a3 => by omega⟩
  · have hie : i = w.length := by simp at h; omega
    subst hie
    rw [List.take_length] at eo hx ⊢
    simp only [V_seq, V_ret, V_exit, V_region, W_nil, W_cons, effOp2, KN_seq, KXr_nil, KXe_nil, KXe_seq, KXe_block, KXe_back, QE, effOp, effPure, pureV, strip, lkT, lkH, ISt.app, opI, gO, gB, allB, gval, wrapG, dstOK, setD, Gives, Ideal.Fin, conv, conv0, Op.operands, reduceIte, reduceCtorEq, Nat.reduceLT, Nat.reduceEqDiff, Nat.zero_add, ne_eq, true_and, and_self, implies_true, List.nil_append, List.cons_append, Option.some.injEq, List.drop_zero, hN]
    exact ⟨_, _, rfl, by omega, (List.take_of_length_le (by omega)).symm, by simp⟩
def sp_spec_selected : PSpec := ⟨fun xs => match xs with | [.sl 3 les, .sl 1 wes] => isTs les ∧ isIs wes ∧ ((fun (l : List Tr) (w : List Int) => ∀ x ∈ w, 0 ≤ x ∧ x < (l.length : Int)) (toTs les) (toIs wes)) ∧ ((fun (l : List Tr) (w : List Int) => w.length ≤ 3) (toTs les) (toIs wes)) | _ => False, fun xs => match xs with | [.sl _ les, .sl _ wes] => (fun (l : List Tr) (w : List Int) => .sl 3 (encTs (selL l w))) (toTs les) (toIs wes) | _ => .junk, false⟩
theorem gk_spec_selected : ∀ args, sp_spec_selected.pre args → ICall Try.prog 102 args (sp_spec_selected.val args) := by
  intro args h
  unfold sp_spec_selected at h ⊢; simp only at h ⊢; split at h
  · obtain ⟨h0, h1, h2, h3⟩ := h
    obtain ⟨l0, rfl⟩ := isT_ex h0
    obtain ⟨l1, rfl⟩ := isI_ex h1
    simp only [toTs_enc, toIs_enc] at *
    exact c_spec_selected _ _ h2 h3
  · exact h.elim
theorem en_spec_selected : Enters Try.prog 102 := enters_of Try.func102 (by kernel_rfl) rfl


/-- Is the region of at most three half-planes empty? -/
def ckB (l : List Tr) (w : List Int) : Bool := okHs l && (decide (w.length ≤ 3) && ((w.all fun k => inR k 0 ((l.length : Int) - 1)) && (cornP (selL l w)).isEmpty))
theorem ck_in {l : List Tr} {w : List Int} (h : (w.all fun k => inR k 0 ((l.length : Int) - 1)) = true) : ∀ x ∈ w, 0 ≤ x ∧ x < (l.length : Int) := by
  intro x hx
  have := List.all_eq_true.1 h x hx
  simp only [inR, Bool.and_eq_true, decide_eq_true_eq] at this
  omega
def g_impl_CheckEmpty : List (Nat × PSpec) := [(19, sp_impl_ValidHalves), (101, sp_impl_empty)]
theorem gok_impl_CheckEmpty : GOK Try.prog g_impl_CheckEmpty := gok_cons gk_impl_ValidHalves en_impl_ValidHalves (gok_cons gk_impl_empty en_impl_empty (gok0))
theorem lk_impl_CheckEmpty_impl_ValidHalves : lkG g_impl_CheckEmpty 19 = sp_impl_ValidHalves := rfl
theorem lk_impl_CheckEmpty_impl_empty : lkG g_impl_CheckEmpty 101 = sp_impl_empty := rfl
def h_impl_CheckEmpty : List (Nat × HSpec) := [(99, hs_slices_ContainsFunc_int_int_chk)]
theorem hok_impl_CheckEmpty : HOK Try.prog h_impl_CheckEmpty := hok_cons hk_slices_ContainsFunc_int_int_chk en_slices_ContainsFunc_int_int_chk (hok0)
theorem lh_impl_CheckEmpty_impl_ValidHalves : lkHS h_impl_CheckEmpty 19 = none := rfl
theorem lh_impl_CheckEmpty_impl_empty : lkHS h_impl_CheckEmpty 101 = none := rfl
theorem lh_impl_CheckEmpty_slices_ContainsFunc_int_int_chk : lkHS h_impl_CheckEmpty 99 = some hs_slices_ContainsFunc_int_int_chk := rfl
theorem c_impl_CheckEmpty (l : List Tr) (w : List Int)  : ICall Try.prog 31 [.sl 3 (encTs l), .sl 1 (encI w)] (.bool (ckB l w)) := by
  refine icall_V (G := g_impl_CheckEmpty) (H := h_impl_CheckEmpty) [] tabOK mixed gok_impl_CheckEmpty hok_impl_CheckEmpty Try.func31 rfl Try.ntmps31 Try.results31 rfl (by kernel_rfl) fun F hN hlen => ?_
  have hv : ckB l w = (okHs l && (decide (w.length ≤ 3) && ((w.all fun k => inR k 0 ((l.length : Int) - 1)) && (cornP (selL l w)).isEmpty))) := rfl
  have el := len_encTs l
  have ew := len_encI w
  cases h1 : okHs l with
  | false =>
    rw [h1, Bool.false_and] at hv
    simp only [V_seq, V_ret, V_region, V_cond, brW_true, W_nil, W_cons, effOp2, KN_seq, KXr_nil, KXr_seq, QE, asB, effOp, effPure, effPick, effNew, effBox, effCall, giveUp, hasAll, skipE, pureV, pickV, binV, partV, loadV, lenV, solid, IV.cells, ofC, strip, lkT, lkH, ISt.app, opI, gO, gB, allB, gval, wrapG, dstOK, setD, mentTm, mentHp, IV.ment, oneI, lendV, lendP, lent, lentP, idsV, idsL, flat, clean, callArgs, callFn, allLent, enumT, Gives, Ideal.Fin, conv, conv0, Op.operands, Call.operands, List.append_toArray, reduceIte, reduceCtorEq, cond_true, Bool.or_false, Bool.and_true, Bool.not_true, Bool.not_false, Nat.reduceLT, Nat.reduceLeDiff, Nat.reduceEqDiff, Nat.zero_add, ne_eq, not_false_eq_true, and_true, and_self, false_implies, implies_true, List.map_cons, List.map_nil, List.nil_append, List.cons_append, List.append_nil, List.all_cons, List.all_nil, Option.bind_some, List.getElem?_cons_zero, List.getElem?_cons_succ, List.getD_cons_zero, List.length_cons, List.length_nil, List.take_succ_cons, List.take_nil, List.drop_zero, ex_clo, btf, or_self, Bool.true_eq_false, Bool.false_eq_true, tab23, tab50, hN, isTs_enc, toTs_enc, lk_impl_CheckEmpty_impl_ValidHalves, sp_impl_ValidHalves, lh_impl_CheckEmpty_impl_ValidHalves, h1, ew, hv]
  | true =>
    have hlen8 := okHs_len h1
    have hsm := okHs_sm h1
    rw [h1, Bool.true_and] at hv
    cases h2 : decide ((3 : Int) < (w.length : Int)) with
    | true =>
      have h3 : decide (w.length ≤ 3) = false := by simp at h2 ⊢; omega
      rw [h3, Bool.false_and] at hv
      simp only [V_seq, V_ret, V_region, V_cond, brW_true, W_nil, W_cons, effOp2, KN_seq, KXr_nil, KXr_seq, QE, asB, effOp, effPure, effPick, effNew, effBox, effCall, giveUp, hasAll, skipE, pureV, pickV, binV, partV, loadV, lenV, solid, IV.cells, ofC, strip, lkT, lkH, ISt.app, opI, gO, gB, allB, gval, wrapG, dstOK, setD, mentTm, mentHp, IV.ment, oneI, lendV, lendP, lent, lentP, idsV, idsL, flat, clean, callArgs, callFn, allLent, enumT, Gives, Ideal.Fin, conv, conv0, Op.operands, Call.operands, List.append_toArray, reduceIte, reduceCtorEq, cond_true, cond_false, Bool.or_false, Bool.and_true, Bool.not_true, Nat.reduceLT, Nat.reduceLeDiff, Nat.reduceEqDiff, Nat.zero_add, ne_eq, not_false_eq_true, beq_self_eq_true, and_self, implies_true, List.map_cons, List.map_nil, List.nil_append, List.cons_append, List.append_nil, List.all_cons, List.all_nil, Option.bind_some, List.getElem?_cons_zero, List.getElem?_cons_succ, List.getD_cons_zero, List.length_cons, List.length_nil, List.take_succ_cons, List.take_nil, List.drop_zero, ex_clo, or_self, Bool.false_eq_true, tab23, tab50, hN, isTs_enc, toTs_enc, lk_impl_CheckEmpty_impl_ValidHalves, sp_impl_ValidHalves, lh_impl_CheckEmpty_impl_ValidHalves, h1, ew, h2, hv]
    | false =>
      have hw3 : w.length ≤ 3 := by simp at h2; omega
      have h3 : decide (w.length ≤ 3) = true := by simpa using hw3
      rw [h3, Bool.true_and] at hv
      have z1 : l.length ≤ 1000000 := by omega
      have z2 : w.length ≤ 1000000 := by omega
      have han := any_not_all w (fun k => inR k 0 ((l.length : Int) - 1))
      cases h4 : (w.all fun k => inR k 0 ((l.length : Int) - 1)) with
      | false =>
        rw [h4] at han
        rw [h4, Bool.false_and] at hv
        simp only [V_seq, V_skip, V_ret, V_region, V_cond, brW_true, brW_false, W_nil, W_cons, effOp2, KN_seq, KXr_nil, KXr_seq, QE, asB, effOp, effPure, effPick, effNew, effBox, effCall, giveUp, hasAll, Option.isSome_some, skipE, pureV, pickV, binV, partV, loadV, lenV, solid, IV.cells, ofC, strip, lkT, lkH, ISt.app, opI, gO, gB, allB, gval, wrapG, dstOK, setD, mentTm, mentHp, IV.ment, IV.mentL, oneI, lendV, lendP, lent, lentP, idsV, idsL, flat, clean, callArgs, callFn, allLent, enumT, Gives, Ideal.Fin, conv, conv0, convL, IBlk.shape, Op.operands, Call.operands, List.append_toArray, reduceIte, reduceCtorEq, cond_true, cond_false, Bool.or_false, Bool.or_true, Bool.and_true, Bool.not_true, Bool.not_false, Nat.reduceAdd, Nat.reduceSub, Nat.reduceMul, Nat.reduceLT, Nat.reduceLeDiff, Nat.reduceEqDiff, Nat.zero_add, ne_eq, not_false_eq_true, beq_self_eq_true, and_false, and_self, implies_true, List.map_cons, List.map_nil, List.nil_append, List.cons_append, List.append_nil, List.all_cons, List.all_nil, Option.map_some, Option.bind_some, List.getElem?_cons_zero, List.getElem?_cons_succ, List.getD_cons_zero, List.length_cons, List.length_nil, List.take_succ_cons, List.take_nil, List.drop_zero, ex_clo, or_self, Bool.true_eq_false, Bool.false_eq_true, tab23, tab50, hN, isTs_enc, toTs_enc, isIs_enc, toIs_enc, SLe0, convTm, convHp, convB, sm, effH, mkHC0, mkHC1, lendM, lentM, lentI, allHere, addIds, idsB, flatIds, reach, posn, renV, renL, renB, renH, numB, subHp, fwd, bk, bwd, nones, keyOK, noSl, noSlL, flatBs, List.contains, List.elem, Option.isSome_some, List.nodup_nil, List.nodup_cons, List.not_mem_nil, or_false, Option.getD_some, lk_impl_CheckEmpty_impl_ValidHalves, sp_impl_ValidHalves, lh_impl_CheckEmpty_impl_ValidHalves, lh_impl_CheckEmpty_slices_ContainsFunc_int_int_chk, hs_slices_ContainsFunc_int_int_chk, h1, ew, h2, z1, z2, han, hv]
      | true =>
        rw [h4] at han
        rw [h4, Bool.true_and] at hv
        have hin := ck_in h4
        simp only [V_seq, V_skip, V_ret, V_region, V_cond, brW_false, W_nil, W_cons, effOp2, KN_seq, KXr_nil, QE, asB, effOp, effPure, effPick, effNew, effBox, effCall, giveUp, hasAll, Option.isSome_some, skipE, pureV, pickV, binV, partV, loadV, lenV, solid, IV.cells, ofC, strip, lkT, lkH, ISt.app, opI, gO, gB, allB, gval, wrapG, dstOK, setD, mentTm, mentHp, IV.ment, IV.mentL, oneI, lendV, lendP, lent, lentP, idsV, idsL, flat, clean, callArgs, callFn, allLent, enumT, Gives, Ideal.Fin, conv, conv0, convL, IBlk.shape, Op.operands, Call.operands, List.append_toArray, reduceIte, reduceCtorEq, cond_true, cond_false, Bool.or_false, Bool.or_true, Bool.and_true, Bool.not_true, Nat.reduceAdd, Nat.reduceSub, Nat.reduceMul, Nat.reduceLT, Nat.reduceLeDiff, Nat.reduceEqDiff, Nat.zero_add, ne_eq, not_false_eq_true, beq_self_eq_true, true_and, and_true, and_false, and_self, implies_true, forall_const, List.map_cons, List.map_nil, List.nil_append, List.cons_append, List.append_nil, List.all_cons, List.all_nil, Option.map_some, Option.bind_some, List.getElem?_cons_zero, List.getElem?_cons_succ, List.getD_cons_zero, List.length_cons, List.length_nil, List.take_succ_cons, List.take_nil, List.drop_zero, ex_clo, or_self, Bool.true_eq_false, Bool.false_eq_true, tab23, tab50, hN, isTs_enc, toTs_enc, isIs_enc, toIs_enc, SLe0, convTm, convHp, convB, sm, effH, mkHC0, mkHC1, lendM, lentM, lentI, allHere, addIds, idsB, flatIds, reach, posn, renV, renL, renB, renH, numB, subHp, fwd, bk, bwd, nones, keyOK, noSl, noSlL, flatBs, List.contains, List.elem, Option.isSome_some, List.nodup_nil, List.nodup_cons, List.not_mem_nil, or_false, Option.getD_some, lk_impl_CheckEmpty_impl_ValidHalves, lk_impl_CheckEmpty_impl_empty, sp_impl_ValidHalves, sp_impl_empty, lh_impl_CheckEmpty_impl_ValidHalves, lh_impl_CheckEmpty_impl_empty, lh_impl_CheckEmpty_slices_ContainsFunc_int_int_chk, hs_slices_ContainsFunc_int_int_chk, h1, ew, h2, z1, z2, han, hv, hw3]
        exact ⟨hsm, hin⟩
def sp_impl_CheckEmpty : PSpec := ⟨fun xs => match xs with | [.sl 3 les, .sl 1 wes] => isTs les ∧ isIs wes | _ => False, fun xs => match xs with | [.sl _ les, .sl _ wes] => (fun (l : List Tr) (w : List Int) => .bool (ckB l w)) (toTs les) (toIs wes) | _ => .junk, false⟩
theorem gk_impl_CheckEmpty : ∀ args, sp_impl_CheckEmpty.pre args → ICall Try.prog 31 args (sp_impl_CheckEmpty.val args) := by
  intro args h
  unfold sp_impl_CheckEmpty at h ⊢; simp only at h ⊢; split at h
  · obtain ⟨h0, h1⟩ := h
    obtain ⟨l0, rfl⟩ := isT_ex h0
    obtain ⟨l1, rfl⟩ := isI_ex h1
    simp only [toTs_enc, toIs_enc] at *
    exact c_impl_CheckEmpty _ _ 
  · exact h.elim
theorem en_impl_CheckEmpty : Enters Try.prog 31 := enters_of Try.func31 (by kernel_rfl) rfl

def g_spec_CheckEmpty : List (Nat × PSpec) := [(66, sp_spec_validHalves), (80, sp_spec_inRange), (102, sp_spec_selected), (67, sp_spec_corners)]
theorem gok_spec_CheckEmpty : GOK Try.prog g_spec_CheckEmpty := gok_cons gk_spec_validHalves en_spec_validHalves (gok_cons gk_spec_inRange en_spec_inRange (gok_cons gk_spec_selected en_spec_selected (gok_cons gk_spec_corners en_spec_corners (gok0))))
theorem lk_spec_CheckEmpty_spec_validHalves : lkG g_spec_CheckEmpty 66 = sp_spec_validHalves := rfl
theorem lk_spec_CheckEmpty_spec_inRange : lkG g_spec_CheckEmpty 80 = sp_spec_inRange := rfl
theorem lk_spec_CheckEmpty_spec_selected : lkG g_spec_CheckEmpty 102 = sp_spec_selected := rfl
theorem lk_spec_CheckEmpty_spec_corners : lkG g_spec_CheckEmpty 67 = sp_spec_corners := rfl
def h_spec_CheckEmpty : List (Nat × HSpec) := []
theorem hok_spec_CheckEmpty : HOK Try.prog h_spec_CheckEmpty := hok0
theorem c_spec_CheckEmpty (l : List Tr) (w : List Int)  : ICall Try.prog 32 [.sl 3 (encTs l), .sl 1 (encI w)] (.bool (ckB l w)) := by
  refine icall_V (G := g_spec_CheckEmpty) (H := []) [] tabOK mixed gok_spec_CheckEmpty hok_spec_CheckEmpty Try.func32 rfl Try.ntmps32 Try.results32 rfl (by kernel_rfl) fun F hN hlen => ?_
  have hv : ckB l w = (okHs l && (decide (w.length ≤ 3) && ((w.all fun k => inR k 0 ((l.length : Int) - 1)) && (cornP (selL l w)).isEmpty))) := rfl
  have el := len_encTs l
  have ew := len_encI w
  cases h1 : okHs l with
  | false =>
    rw [h1, Bool.false_and] at hv
    simp only [V_seq, V_ret, V_region, V_cond, brW_true, W_nil, W_cons, effOp2, KN_seq, KXr_nil, KXr_seq, QE, asB, effOp, effPure, effPick, effCall, giveUp, hasAll, pureV, pickV, binV, lenV, ofC, strip, lkT, lkH, ISt.app, opI, gO, gB, allB, gval, wrapG, dstOK, setD, lendV, lendP, lent, lentP, idsV, idsL, lkHS, flat, clean, callArgs, callFn, allLent, enumT, Gives, Ideal.Fin, conv, conv0, Op.operands, Call.operands, List.append_toArray, reduceIte, reduceCtorEq, cond_true, Bool.or_false, Bool.not_true, Bool.not_false, Nat.reduceLT, Nat.reduceEqDiff, Nat.zero_add, ne_eq, not_false_eq_true, and_true, and_self, false_implies, implies_true, List.map_cons, List.map_nil, List.nil_append, List.cons_append, List.append_nil, Option.bind_some, List.getElem?_cons_zero, List.getElem?_cons_succ, ex_clo, btf, or_self, Bool.true_eq_false, Bool.false_eq_true, tab50, hN, isTs_enc, toTs_enc, lk_spec_CheckEmpty_spec_validHalves, sp_spec_validHalves, h1, ew, hv]
  | true =>
    have hlen8 := okHs_len h1
    have hsm := okHs_sm h1
    rw [h1, Bool.true_and] at hv
    cases h2 : decide ((3 : Int) < (w.length : Int)) with
    | true =>
      have h3 : decide (w.length ≤ 3) = false := by simp at h2 ⊢; omega
      rw [h3, Bool.false_and] at hv
      simp only [V_seq, V_ret, V_region, V_cond, brW_true, W_nil, W_cons, effOp2, KN_seq, KXr_nil, KXr_seq, QE, asB, effOp, effPure, effPick, effCall, giveUp, hasAll, pureV, pickV, binV, lenV, ofC, strip, lkT, lkH, ISt.app, opI, gO, gB, allB, gval, wrapG, dstOK, setD, lendV, lendP, lent, lentP, idsV, idsL, lkHS, flat, clean, callArgs, callFn, allLent, enumT, Gives, Ideal.Fin, conv, conv0, Op.operands, Call.operands, List.append_toArray, reduceIte, reduceCtorEq, cond_true, cond_false, Bool.or_false, Bool.not_true, Nat.reduceLT, Nat.reduceEqDiff, Nat.zero_add, ne_eq, not_false_eq_true, beq_self_eq_true, and_self, implies_true, List.map_cons, List.map_nil, List.nil_append, List.cons_append, List.append_nil, Option.bind_some, List.getElem?_cons_zero, List.getElem?_cons_succ, ex_clo, or_self, Bool.false_eq_true, tab50, hN, isTs_enc, toTs_enc, lk_spec_CheckEmpty_spec_validHalves, sp_spec_validHalves, h1, ew, h2, hv]
    | false =>
      have hw3 : w.length ≤ 3 := by simp at h2; omega
      have h3 : decide (w.length ≤ 3) = true := by simpa using hw3
      rw [h3, Bool.true_and] at hv
      have w0 : IntKind.i64.wrap ((l.length : Int) - 1) = (l.length : Int) - 1 := wr (by omega) (by omega)
      simp only [V_seq, V_skip, V_block, V_region, V_cond, brW_false, W_nil, W_cons, effOp2, KN_seq, asB, effOp, effPure, effPick, effCall, giveUp, hasAll, pureV, pickV, binV, lenV, ofC, strip, lkT, lkH, ISt.app, opI, gO, gB, allB, gval, wrapG, dstOK, setD, lendV, lendP, lent, lentP, idsV, idsL, lkHS, flat, clean, callArgs, callFn, allLent, enumT, Op.operands, Call.operands, List.append_toArray, reduceIte, reduceCtorEq, cond_true, cond_false, Bool.or_false, Bool.not_true, Nat.reduceLT, Nat.reduceEqDiff, Nat.zero_add, ne_eq, not_false_eq_true, beq_self_eq_true, true_and, and_self, implies_true, List.map_cons, List.map_nil, List.nil_append, List.cons_append, List.append_nil, Option.bind_some, List.getElem?_cons_zero, List.getElem?_cons_succ, ex_clo, or_self, Bool.false_eq_true, tab50, hN, isTs_enc, toTs_enc, lk_spec_CheckEmpty_spec_validHalves, sp_spec_validHalves, h1, ew, h2]
      refine V_loop (α := Nat) ⟨tabOK, mixed, gok_spec_CheckEmpty, hok_spec_CheckEmpty⟩ (by kernel_rfl) (fun i => i ≤ w.length ∧ (w.all fun k => inR k 0 ((l.length : Int) - 1)) = ((w.drop i).all fun k => inR k 0 ((l.length : Int) - 1))) (fun i => ⟨[(5, .num .i64 i), (0, .sl 3 (encTs l)), (1, .sl 1 (encI w))], []⟩) (fun i => w.length - i) 0 id ⟨Nat.zero_le _, rfl⟩ (by simp [SLe, SLe0, convTm, convHp, conv, conv0, lkT, lkH, clean]) ?_
      rintro i ⟨hi, hj⟩
      simp only [V_seq, V_region, V_cond, W_nil, W_cons, effOp2, KN_seq, asB, effOp, effPure, pureV, binV, lenV, strip, lkT, ISt.app, opI, gO, gB, allB, gval, wrapG, dstOK, setD, Op.operands, Call.operands, List.append_toArray, reduceIte, reduceCtorEq, Nat.reduceLT, Nat.reduceEqDiff, ne_eq, not_false_eq_true, true_and, and_self, implies_true, List.nil_append, List.cons_append, List.append_nil, tab50, hN, ew]
      refine brW_some (fun h => ?_) (fun h => ?_)
      · have hi' : i < w.length := by simpa using h
        have hwi := wr_succ hi' (by rw [maxLen_eq]; omega)
        have g0 := getD_encI hi'
        have hst := all_step (p := fun k => inR k 0 ((l.length : Int) - 1)) (d := 0) hi'
        obtain ⟨x, hxx⟩ : ∃ x, w.getD i 0 = x := ⟨_, rfl⟩
        rw [hxx] at g0 hst
        cases hb : inR x 0 ((l.length : Int) - 1) with
        | true =>
          rw [hb, Bool.true_and] at hst
          simp only [V_seq, V_skip, V_block, V_region, V_cond, brW_false, W_nil, W_cons, effOp2, KN_seq, KN_block, KN_back, asB, effOp, effPure, effCall, giveUp, hasAll, pureV, binV, eltV, loadV, iaddrV, lenV, ofC, strip, lkT, lkH, ISt.app, opI, gO, gB, allB, gval, wrapG, dstOK, setD, lendV, lendP, lent, lentP, idsV, idsL, lkHS, flat, clean, callArgs, callFn, allLent, Op.operands, Call.operands, List.append_toArray, reduceIte, reduceCtorEq, cond_true, Bool.or_false, Bool.not_true, Nat.reduceLT, Nat.reduceEqDiff, ne_eq, not_false_eq_true, true_and, and_true, and_self, implies_true, forall_const, List.map_cons, List.map_nil, List.nil_append, List.cons_append, List.append_nil, ex_clo, or_self, tab3, tab23, tab50, hN, Int.toNat_natCast, lk_spec_CheckEmpty_spec_inRange, sp_spec_inRange, el, ew, g0, w0, hwi, hb]
          exact ⟨⟨by omega, by omega⟩, i + 1, id, ⟨by omega, hj.trans hst⟩, by simp only []; omega, by simp [SLe, SLe0, convTm, convHp, conv, conv0, lkT, lkH, clean]⟩
        | false =>
          rw [hb, Bool.false_and] at hst
          rw [hj.trans hst, Bool.false_and] at hv
          simp only [V_seq, V_skip, V_ret, V_block, V_region, V_cond, brW_true, W_nil, W_cons, effOp2, KN_seq, KXr_nil, KXr_seq, KXr_block, KXr_back, QE, asB, effOp, effPure, effCall, giveUp, hasAll, pureV, binV, eltV, loadV, iaddrV, lenV, ofC, strip, lkT, lkH, ISt.app, opI, gO, gB, allB, gval, wrapG, dstOK, setD, lendV, lendP, lent, lentP, idsV, idsL, lkHS, flat, clean, callArgs, callFn, allLent, Gives, Ideal.Fin, conv, conv0, Op.operands, Call.operands, List.append_toArray, reduceIte, reduceCtorEq, cond_true, Bool.or_false, Bool.not_true, Bool.not_false, Nat.reduceLT, Nat.reduceEqDiff, ne_eq, not_false_eq_true, true_and, and_true, and_self, implies_true, forall_const, List.map_cons, List.map_nil, List.nil_append, List.cons_append, List.append_nil, ex_clo, or_self, tab3, tab23, tab50, hN, Int.toNat_natCast, lk_spec_CheckEmpty_spec_inRange, sp_spec_inRange, el, ew, g0, w0, hb, hv]
          omega
      · have hie : i = w.length := by simp at h; omega
        subst hie
        rw [List.drop_length, List.all_nil] at hj
        rw [hj, Bool.true_and] at hv
        have hin := ck_in hj
        have hss := selL_sm hsm hin
        have hsl : (selL l w).length ≤ 100 := by rw [selL_len]; omega
        have ec := len_encQs (cornP (selL l w))
        simp only [V_seq, V_ret, V_exit, V_region, W_nil, W_cons, effOp2, KN_seq, KXr_nil, KXe_nil, KXe_seq, KXe_block, KXe_back, QE, effOp, effPure, effCall, giveUp, hasAll, pureV, binV, lenV, ofC, strip, lkT, lkH, ISt.app, opI, gO, gB, allB, gval, wrapG, dstOK, setD, lendV, lendP, lent, lentP, idsV, idsL, lkHS, flat, clean, callArgs, callFn, allLent, Gives, Ideal.Fin, conv, conv0, Op.operands, Call.operands, List.append_toArray, reduceIte, reduceCtorEq, cond_false, Bool.or_false, Bool.not_true, Nat.reduceLT, Nat.reduceEqDiff, ne_eq, not_false_eq_true, true_and, and_true, and_self, implies_true, forall_const, List.map_cons, List.map_nil, List.nil_append, List.cons_append, List.append_nil, ex_clo, or_true, Bool.false_eq_true, tab25, hN, isTs_enc, toTs_enc, isIs_enc, toIs_enc, lk_spec_CheckEmpty_spec_selected, lk_spec_CheckEmpty_spec_corners, sp_spec_selected, sp_spec_corners, hw3, hsl, ec, len_zero_empty, hv]
        exact ⟨hin, hss⟩
def sp_spec_CheckEmpty : PSpec := ⟨fun xs => match xs with | [.sl 3 les, .sl 1 wes] => isTs les ∧ isIs wes | _ => False, fun xs => match xs with | [.sl _ les, .sl _ wes] => (fun (l : List Tr) (w : List Int) => .bool (ckB l w)) (toTs les) (toIs wes) | _ => .junk, false⟩
theorem gk_spec_CheckEmpty : ∀ args, sp_spec_CheckEmpty.pre args → ICall Try.prog 32 args (sp_spec_CheckEmpty.val args) := by
  intro args h
  unfold sp_spec_CheckEmpty at h ⊢; simp only at h ⊢; split at h
  · obtain ⟨h0, h1⟩ := h
    obtain ⟨l0, rfl⟩ := isT_ex h0
    obtain ⟨l1, rfl⟩ := isI_ex h1
    simp only [toTs_enc, toIs_enc] at *
    exact c_spec_CheckEmpty _ _ 
  · exact h.elim
theorem en_spec_CheckEmpty : Enters Try.prog 32 := enters_of Try.func32 (by kernel_rfl) rfl

def g_laws_eqIntS : List (Nat × PSpec) := []
theorem gok_laws_eqIntS : GOK Try.prog g_laws_eqIntS := gok0
def h_laws_eqIntS : List (Nat × HSpec) := []
theorem hok_laws_eqIntS : HOK Try.prog h_laws_eqIntS := hok0
theorem c_laws_eqIntS (a : List Int) (b : List Int)  : ICall Try.prog 37 [.sl 1 (encI a), .sl 1 (encI b)] (.bool (a == b)) := by
  refine icall_V (G := g_laws_eqIntS) (H := []) [] tabOK mixed gok_laws_eqIntS hok_laws_eqIntS Try.func37 rfl Try.ntmps37 Try.results37 rfl (by kernel_rfl) fun F hN hlen => ?_
  have la := hlen 0 1 _ rfl
  have lb := hlen 1 1 _ rfl
  have ea := len_encI a
  have eb := len_encI b
  rw [ea] at la
  rw [eb] at lb
  simp only [V_seq, V_region, V_cond, W_nil, W_cons, effOp2, KN_seq, asB, effOp, effPure, pureV, binV, lenV, ofC, strip, lkT, ISt.app, opI, gO, gB, allB, gval, wrapG, dstOK, setD, enumT, Op.operands, Call.operands, List.append_toArray, reduceIte, reduceCtorEq, Nat.reduceLT, Nat.reduceEqDiff, Nat.zero_add, ne_eq, not_false_eq_true, true_and, and_self, implies_true, List.nil_append, List.cons_append, List.append_nil, tab50, hN, ea, eb]
  refine brW_some (fun h => ?_) (fun h => ?_)
  · simp only [V_seq, V_ret, V_region, W_nil, W_cons, effOp2, KN_seq, KXr_nil, KXr_seq, QE, effOp, effPure, pureV, ofC, strip, lkT, lkH, ISt.app, opI, gO, gB, allB, gval, wrapG, dstOK, setD, clean, Gives, Ideal.Fin, conv, conv0, Op.operands, reduceIte, reduceCtorEq, Nat.reduceLT, Nat.reduceEqDiff, true_and, and_true, and_self, implies_true, List.nil_append, List.cons_append, List.append_nil, hN]
    have : a ≠ b := by rintro rfl; simp at h
    simp [this]
  · simp only [V_seq, V_skip, V_block, V_region, W_nil, W_cons, effOp2, KN_seq, effOp, effPure, pureV, ofC, strip, ISt.app, opI, gO, gB, allB, gval, wrapG, dstOK, setD, Op.operands, Nat.reduceLT, true_and, and_self, implies_true, List.nil_append, List.cons_append, List.append_nil, hN]
    have hab : a.length = b.length := by simp at h; omega
    refine V_loop (α := Nat) ⟨tabOK, mixed, gok_laws_eqIntS, hok_laws_eqIntS⟩ (by kernel_rfl) (fun i => i ≤ a.length ∧ ∀ j, j < i → a.getD j 0 = b.getD j 0) (fun i => ⟨[(5, .num .i64 i), (0, .sl 1 (encI a)), (1, .sl 1 (encI b))], []⟩) (fun i => a.length - i) 0 id (by simp) (by simp [SLe, SLe0, convTm, convHp, conv, conv0, lkT, lkH, clean]) ?_
    rintro i ⟨hi, hj⟩
    simp only [V_seq, V_region, V_cond, W_nil, W_cons, effOp2, KN_seq, asB, effOp, effPure, pureV, binV, lenV, strip, lkT, ISt.app, opI, gO, gB, allB, gval, wrapG, dstOK, setD, Op.operands, Call.operands, List.append_toArray, reduceIte, reduceCtorEq, Nat.reduceLT, Nat.reduceEqDiff, ne_eq, not_false_eq_true, true_and, and_self, implies_true, List.nil_append, List.cons_append, List.append_nil, tab50, hN, ea]
    refine brW_some (fun h => ?_) (fun h => ?_)
    · have hi' : i < a.length := by simpa using h
      have g1 := getD_encI hi'
      have g2 := getD_encI (hab ▸ hi' : i < b.length)
      have hw := wr_succ hi' la
      simp only [V_seq, V_skip, V_block, V_draw, V_cond, drawW, pairsOf, WD_nil, WD_cons, KN_seq, asB, effOp, effPure, pureV, binV, eltV, loadV, iaddrV, strip, lkT, ISt.app, opI, gO, gB, allB, gval, wrapG, dstOK, setD, Op.operands, reduceIte, reduceCtorEq, Nat.reduceLT, Nat.reduceEqDiff, ne_eq, not_false_eq_true, true_and, and_true, and_self, implies_true, forall_const, List.nil_append, List.cons_append, List.append_nil, tab3, tab50, hN, Int.toNat_natCast, ea, eb, Int.toNat_natCast, g1, g2]
      repeat refine And.intro (by omega) ?_
      refine brW_some (fun h => ?_) (fun h => ?_)
      · simp only [V_seq, V_ret, V_region, W_nil, W_cons, effOp2, KN_seq, KXr_nil, KXr_seq, KXr_block, KXr_back, QE, effOp, effPure, pureV, ofC, strip, lkT, lkH, ISt.app, opI, gO, gB, allB, gval, wrapG, dstOK, setD, clean, Gives, Ideal.Fin, conv, conv0, Op.operands, reduceIte, reduceCtorEq, Nat.reduceLT, Nat.reduceEqDiff, true_and, and_true, and_self, implies_true, List.nil_append, List.cons_append, List.append_nil, hN]
        have : a ≠ b := by rintro rfl; simp at h
        simp [this]
      · simp only [V_skip, V_region, W_nil, W_cons, effOp2, KN_seq, KN_block, KN_back, effOp, effPure, pureV, binV, ofC, strip, lkT, ISt.app, opI, gO, gB, allB, gval, wrapG, dstOK, setD, Op.operands, reduceIte, reduceCtorEq, Nat.reduceLT, Nat.reduceEqDiff, true_and, and_self, implies_true, List.nil_append, List.cons_append, List.append_nil, hN, hw]
        refine ⟨i + 1, id, ⟨by omega, ?_⟩, by simp only []; omega, by simp [SLe, SLe0, convTm, convHp, conv, conv0, lkT, lkH, clean]⟩
        intro j hj'
        rcases Nat.lt_succ_iff_lt_or_eq.1 hj' with h' | rfl
        · exact hj j h'
        · simpa using h
    · simp only [V_seq, V_ret, V_exit, V_region, W_nil, W_cons, effOp2, KN_seq, KXr_nil, KXe_nil, KXe_seq, KXe_block, KXe_back, QE, effOp, effPure, pureV, ofC, strip, lkT, lkH, ISt.app, opI, gO, gB, allB, gval, wrapG, dstOK, setD, clean, Gives, Ideal.Fin, conv, conv0, Op.operands, reduceIte, reduceCtorEq, Nat.reduceLT, Nat.reduceEqDiff, true_and, and_true, and_self, implies_true, List.nil_append, List.cons_append, List.append_nil, hN]
      have hie : i = a.length := by simp at h; omega
      have : a = b := eq_of_getD hab (fun j h' => hj j (by omega))
      simp [this]
def sp_laws_eqIntS : PSpec := ⟨fun xs => match xs with | [.sl 1 aes, .sl 1 bes] => isIs aes ∧ isIs bes | _ => False, fun xs => match xs with | [.sl _ aes, .sl _ bes] => (fun (a : List Int) (b : List Int) => .bool (a == b)) (toIs aes) (toIs bes) | _ => .junk, false⟩
theorem gk_laws_eqIntS : ∀ args, sp_laws_eqIntS.pre args → ICall Try.prog 37 args (sp_laws_eqIntS.val args) := by
  intro args h
  unfold sp_laws_eqIntS at h ⊢; simp only at h ⊢; split at h
  · obtain ⟨h0, h1⟩ := h
    obtain ⟨l0, rfl⟩ := isI_ex h0
    obtain ⟨l1, rfl⟩ := isI_ex h1
    simp only [toIs_enc] at *
    exact c_laws_eqIntS _ _ 
  · exact h.elim
theorem en_laws_eqIntS : Enters Try.prog 37 := enters_of Try.func37 (by kernel_rfl) rfl

end Go.Proofs.Ytjlcbomigbolcaa
