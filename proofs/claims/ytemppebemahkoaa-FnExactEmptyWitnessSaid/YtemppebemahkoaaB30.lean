/- Contracts: the corners of a region of half-planes, the program's side. -/
import Derived.Test.YtemppebemahkoaaB29
import Derived.Test.YtemppebemahkoaaPl17
set_option linter.unusedVariables false
set_option linter.unusedSimpArgs false
set_option maxHeartbeats 1600000
set_option maxRecDepth 100000
namespace Go.Proofs.Ytemppebemahkoaa
open Go Go.Ideal Go.Pl Go.Sort

def boxI (n : Int) : IBlk := .box 3 [.num .i64 n]
def g_impl_corners_1 : List (Nat × PSpec) := [(164, sp_impl_HalfPlane_has)]
theorem gok_impl_corners_1 : GOK Try.prog g_impl_corners_1 := gok_cons gk_impl_HalfPlane_has en_impl_HalfPlane_has (gok0)
theorem lk_impl_corners_1_impl_HalfPlane_has : lkG g_impl_corners_1 164 = sp_impl_HalfPlane_has := rfl
def h_impl_corners_1 : List (Nat × HSpec) := []
theorem hok_impl_corners_1 : HOK Try.prog h_impl_corners_1 := hok0
theorem c_impl_corners_1 (k : Tr) (x : Int) (y : Int) (d : Int) (hk : smH k) (hx : -20000000000 ≤ x ∧ x ≤ 20000000000) (hy : -20000000000 ≤ y ∧ y ≤ 20000000000) (hd : -20000000 ≤ d ∧ d ≤ 20000000) : HCall Try.prog 163 [.agg [.num .i64 k.1, .num .i64 k.2.1, .num .i64 k.2.2], .ptr 1000 0, .ptr 1001 0, .ptr 1002 0] (sm ([(1000, .box 3 [.num .i64 x]), (1001, .box 3 [.num .i64 y]), (1002, .box 3 [.num .i64 d])])) (.bool (!hasH x y d k)) (sm ([(1000, .box 3 [.num .i64 x]), (1001, .box 3 [.num .i64 y]), (1002, .box 3 [.num .i64 d])])) := by
  refine hcall_V (G := g_impl_corners_1) (H := []) [] tabOK mixed gok_impl_corners_1 hok_impl_corners_1 Try.func163 rfl Try.ntmps163 Try.results163 rfl (by kernel_rfl) fun F hN hlen => ?_
  simp only [sm]
  simp only [V_seq, V_ret, V_region, W_nil, W_cons, effOp2, KN_seq, KXr_nil, QE, effOp, effPure, effNew, effBox, effCall, giveUp, hasAll, skipE, pureV, partV, loadV, solid, IV.cells, ofC, strip, lkT, lkH, ISt.app, opI, gO, gB, allB, gval, wrapG, dstOK, setD, mentTm, mentHp, IV.ment, IV.mentL, oneI, lendV, lendP, lent, lentP, idsV, idsL, lkHS, flat, clean, callArgs, callFn, allLent, enumT, conv, conv0, Op.operands, reduceIte, reduceCtorEq, cond_true, Bool.or_false, Bool.and_true, Bool.not_true, Nat.reduceAdd, Nat.reduceLT, Nat.reduceLeDiff, Nat.reduceEqDiff, Nat.reduceBEq, Nat.zero_add, true_and, and_true, and_false, and_self, false_implies, implies_true, List.map_cons, List.map_nil, List.nil_append, List.cons_append, List.append_nil, List.all_cons, List.all_nil, List.getD_cons_zero, List.length_cons, List.length_nil, List.take_succ_cons, List.take_nil, List.drop_zero, ex_clo, or_self, tab3, tab98, hN, pe, FinH, resA, resV, SLe, SLe0, convTm, convHp, convB, lk_impl_corners_1_impl_HalfPlane_has, sp_impl_HalfPlane_has, hk, hx, hy, hd]
  exact ⟨id, by simp [convL, conv, conv0, clean]⟩
def hs_impl_corners_1 : HSpec := ⟨[false, false, false, false], fun xs hp => match xs, hp with | [.agg [.num .i64 k1, .num .i64 k2, .num .i64 k3], .ptr 1000 0, .ptr 1001 0, .ptr 1002 0], [(1000, .box ty [.num .i64 x]), (1001, .box ty2 [.num .i64 y]), (1002, .box ty3 [.num .i64 d])] => (ty = 3) ∧ (ty2 = 3) ∧ (ty3 = 3) ∧ ((fun (k : Tr) (x : Int) (y : Int) (d : Int) => smH k) (k1, k2, k3) x y d) ∧ ((fun (k : Tr) (x : Int) (y : Int) (d : Int) => -20000000000 ≤ x ∧ x ≤ 20000000000) (k1, k2, k3) x y d) ∧ ((fun (k : Tr) (x : Int) (y : Int) (d : Int) => -20000000000 ≤ y ∧ y ≤ 20000000000) (k1, k2, k3) x y d) ∧ ((fun (k : Tr) (x : Int) (y : Int) (d : Int) => -20000000 ≤ d ∧ d ≤ 20000000) (k1, k2, k3) x y d) | _, _ => False, fun xs hp => match xs, hp with | [.agg [.num .i64 k1, .num .i64 k2, .num .i64 k3], .ptr 1000 0, .ptr 1001 0, .ptr 1002 0], [(1000, .box ty [.num .i64 x]), (1001, .box ty2 [.num .i64 y]), (1002, .box ty3 [.num .i64 d])] => (fun (k : Tr) (x : Int) (y : Int) (d : Int) => (.bool (!hasH x y d k) : IV)) (k1, k2, k3) x y d | _, _ => .junk, fun xs hp => match xs, hp with | [.agg [.num .i64 k1, .num .i64 k2, .num .i64 k3], .ptr 1000 0, .ptr 1001 0, .ptr 1002 0], [(1000, .box ty [.num .i64 x]), (1001, .box ty2 [.num .i64 y]), (1002, .box ty3 [.num .i64 d])] => (fun (k : Tr) (x : Int) (y : Int) (d : Int) => ([(1000, .box 3 [.num .i64 x]), (1001, .box 3 [.num .i64 y]), (1002, .box 3 [.num .i64 d])] : List (Nat × IBlk))) (k1, k2, k3) x y d | _, _ => []⟩
theorem hk_impl_corners_1 : ∀ args hp, hs_impl_corners_1.pre args hp → HCall Try.prog 163 args (sm hp) (hs_impl_corners_1.val args hp) (sm (hs_impl_corners_1.hval args hp)) := by
  intro args hp h
  unfold hs_impl_corners_1 at h ⊢; simp only at h ⊢; split at h
  · obtain ⟨rfl, rfl, rfl, h2, h3, h4, h5⟩ := h; exact c_impl_corners_1 (_, _, _) _ _ _ h2 h3 h4 h5
  · exact h.elim
theorem en_impl_corners_1 : Enters Try.prog 163 := enters_of Try.func163 (by kernel_rfl) rfl

def g_slices_IndexFunc_impl_HalfPlane_impl_HalfPlane_cor : List (Nat × PSpec) := []
theorem gok_slices_IndexFunc_impl_HalfPlane_impl_HalfPlane_cor : GOK Try.prog g_slices_IndexFunc_impl_HalfPlane_impl_HalfPlane_cor := gok0
def h_slices_IndexFunc_impl_HalfPlane_impl_HalfPlane_cor : List (Nat × HSpec) := [(163, hs_impl_corners_1)]
theorem hok_slices_IndexFunc_impl_HalfPlane_impl_HalfPlane_cor : HOK Try.prog h_slices_IndexFunc_impl_HalfPlane_impl_HalfPlane_cor := hok_cons hk_impl_corners_1 en_impl_corners_1 (hok0)
theorem lh_slices_IndexFunc_impl_HalfPlane_impl_HalfPlane_cor_impl_corners_1 : lkHS h_slices_IndexFunc_impl_HalfPlane_impl_HalfPlane_cor 163 = some hs_impl_corners_1 := rfl
theorem c_slices_IndexFunc_impl_HalfPlane_impl_HalfPlane_cor (m : List Tr) (x : Int) (y : Int) (d : Int) (hk : ∀ k ∈ m, smH k) (hx : -20000000000 ≤ x ∧ x ≤ 20000000000) (hy : -20000000000 ≤ y ∧ y ≤ 20000000000) (hd : -20000000 ≤ d ∧ d ≤ 20000000) (hsz : m.length ≤ 1000000) : HCall Try.prog 167 [.sl 3 (encTs m), .clo 163 [.ptr 1000 0, .ptr 1001 0, .ptr 1002 0]] (sm ([(1000, .box 3 [.num .i64 x]), (1001, .box 3 [.num .i64 y]), (1002, .box 3 [.num .i64 d])])) (.num .i64 (idxF (fun k => !hasH x y d k) m 0)) (sm ([(1000, .box 3 [.num .i64 x]), (1001, .box 3 [.num .i64 y]), (1002, .box 3 [.num .i64 d])])) := by
  refine hcall_V (G := g_slices_IndexFunc_impl_HalfPlane_impl_HalfPlane_cor) (H := h_slices_IndexFunc_impl_HalfPlane_impl_HalfPlane_cor) [] tabOK mixed gok_slices_IndexFunc_impl_HalfPlane_impl_HalfPlane_cor hok_slices_IndexFunc_impl_HalfPlane_impl_HalfPlane_cor Try.func167 rfl Try.ntmps167 Try.results167 rfl (by kernel_rfl) fun F hN hlen => ?_
  simp only [sm]
  have el := len_encTs m
  simp only [V_seq, V_block, V_region, W_nil, W_cons, effOp2, KN_seq, effOp, effPure, pureV, lenV, ofC, strip, lkT, ISt.app, opI, gO, gB, allB, gval, wrapG, dstOK, setD, enumT, Op.operands, Call.operands, List.append_toArray, reduceIte, reduceCtorEq, Nat.reduceLT, Nat.reduceEqDiff, Nat.zero_add, ne_eq, not_false_eq_true, true_and, and_self, implies_true, List.nil_append, List.cons_append, tab43, hN, el]
  refine V_loop (α := Nat) ⟨tabOK, mixed, gok_slices_IndexFunc_impl_HalfPlane_impl_HalfPlane_cor, hok_slices_IndexFunc_impl_HalfPlane_impl_HalfPlane_cor⟩ (by kernel_rfl) (fun i => i ≤ m.length ∧ idxF (fun k => !hasH x y d k) m 0 = idxF (fun k => !hasH x y d k) (m.drop i) i)
    (fun i => ⟨[(8, .num .i64 i), (7, .num .i64 m.length), (0, .sl 3 (encTs m)), (1, .clo 163 [.ptr 1000 0, .ptr 1001 0, .ptr 1002 0])], [(1000, some (.box 3 [.num .i64 x])), (1001, some (.box 3 [.num .i64 y])), (1002, some (.box 3 [.num .i64 d]))]⟩) (fun i => m.length - i) 0 id (by simp) (by simp [SLe, SLe0, convTm, convHp, convB, conv, conv0, convL, lkT, lkH, clean]) ?_
  rintro i ⟨hi2, hj⟩
  simp only [V_seq, V_region, V_cond, W_nil, W_cons, effOp2, KN_seq, asB, effOp, effPure, pureV, binV, strip, lkT, ISt.app, opI, gO, gB, allB, gval, wrapG, dstOK, setD, Op.operands, reduceIte, reduceCtorEq, Nat.reduceLT, Nat.reduceEqDiff, true_and, and_self, implies_true, List.nil_append, List.cons_append, hN]
  refine brW_some (fun h => ?_) (fun h => ?_)
  · have hi' : i < m.length := by simpa using h
    have g0 := getD_encTs hi'
    have hw := wr_succ hi' (by rw [maxLen_eq]; omega)
    have hst := idxF_step (p := fun k => !hasH x y d k) (d := (0, 0, 0)) hi'
    have hb : smH (tAt m i) := hk _ (by rw [tAt, List.getD, List.getElem?_eq_getElem hi']; exact List.getElem_mem hi')
    have hpt : m.getD i (0, 0, 0) = tAt m i := rfl
    rw [hpt] at hst
    generalize tAt m i = z at *
    simp only [V_seq, V_skip, V_block, V_region, V_cond, W_nil, W_cons, effOp2, KN_seq, asB, effOp, effPure, Option.isSome_some, skipE, pureV, partV, eltV, loadV, iaddrV, strip, lkT, lkH, ISt.app, opI, gO, gB, allB, gval, wrapG, dstOK, setD, mentTm, mentHp, IV.ment, IV.mentL, idsV, idsL, clean, callArgs, callFn, enumT, conv, conv0, convL, IBlk.shape, Op.operands, reduceIte, reduceCtorEq, cond_true, cond_false, Bool.or_false, Bool.or_true, Bool.and_true, Nat.reduceAdd, Nat.reduceSub, Nat.reduceMul, Nat.reduceLT, Nat.reduceLeDiff, Nat.reduceEqDiff, Nat.reduceBEq, Nat.zero_add, ne_eq, not_false_eq_true, beq_self_eq_true, true_and, and_true, and_false, and_self, implies_true, forall_const, List.map_cons, List.map_nil, List.nil_append, List.cons_append, List.append_nil, List.all_nil, Option.map_some, List.getD_cons_zero, List.getD_cons_succ, List.length_cons, List.length_nil, List.take_succ_cons, List.take_nil, List.drop_zero, ex_clo, or_self, Bool.true_eq_false, tab43, tab98, hN, pe, Int.toNat_natCast, SLe0, convTm, convHp, convB, sm, effH, mkHC0, mkHC1, lendM, lentM, lentI, allHere, addIds, idsB, flatIds, reach, posn, renV, renL, renB, renH, numB, subHp, fwd, bk, bwd, nones, keyOK, noSl, noSlL, flatBs, List.contains, List.elem, Option.isSome_some, List.nodup_nil, List.nodup_cons, List.not_mem_nil, List.mem_cons, Option.getD_some, lh_slices_IndexFunc_impl_HalfPlane_impl_HalfPlane_cor_impl_corners_1, hs_impl_corners_1, el, g0, hb, hx, hy, hd]
    refine ⟨⟨by omega, by omega⟩, brW_some (fun h => ?_) (fun h => ?_)⟩
    · rw [if_pos h, ← hj] at hst
      simp only [V_seq, V_ret, V_region, W_nil, W_cons, effOp2, KN_seq, KXr_nil, KXr_seq, KXr_block, KXr_back, QE, effOp, effPure, pureV, strip, lkT, lkH, ISt.app, opI, gO, gB, allB, gval, wrapG, dstOK, setD, clean, conv, conv0, Op.operands, reduceIte, reduceCtorEq, Nat.reduceLT, Nat.reduceEqDiff, not_false_eq_true, true_and, and_true, and_self, false_implies, implies_true, List.map_cons, List.map_nil, List.nil_append, List.cons_append, hN, FinH, resA, resV, SLe, SLe0, convTm, convHp, convB, List.nodup_nil, List.nodup_cons, List.not_mem_nil, List.mem_cons, or_false, hst]
      exact ⟨id, by simp [convL, conv, conv0, clean]⟩
    · rw [if_neg (by rw [h]; decide), ← hj] at hst
      simp only [V_skip, V_region, W_nil, W_cons, effOp2, KN_seq, KN_block, KN_back, effOp, effPure, pureV, binV, ofC, strip, lkT, ISt.app, opI, gO, gB, allB, gval, wrapG, dstOK, setD, Op.operands, reduceIte, reduceCtorEq, Nat.reduceLT, Nat.reduceEqDiff, true_and, and_self, implies_true, List.nil_append, List.cons_append, hN, hw]
      exact ⟨i + 1, id, ⟨by omega, hst⟩, by simp only []; omega, by simp [SLe, SLe0, convTm, convHp, convB, conv, conv0, convL, lkT, lkH, clean]⟩
  · have hie : i = m.length := by simp at h; omega
    subst hie
    rw [List.drop_length] at hj
    simp only [V_seq, V_ret, V_exit, V_region, W_nil, W_cons, effOp2, KN_seq, KXr_nil, KXe_nil, KXe_seq, KXe_block, KXe_back, QE, effOp, effPure, pureV, ofC, strip, lkT, lkH, ISt.app, opI, gO, gB, allB, gval, wrapG, dstOK, setD, clean, conv, conv0, Op.operands, reduceIte, reduceCtorEq, Nat.reduceLT, Nat.reduceEqDiff, not_false_eq_true, true_and, and_true, and_self, false_implies, implies_true, List.map_cons, List.map_nil, List.nil_append, List.cons_append, hN, FinH, resA, resV, SLe, SLe0, convTm, convHp, convB, List.nodup_nil, List.nodup_cons, List.not_mem_nil, List.mem_cons, or_false, hj, idxF]
    exact ⟨id, by simp [convL, conv, conv0, clean]⟩
def hs_slices_IndexFunc_impl_HalfPlane_impl_HalfPlane_cor : HSpec := ⟨[true, false], fun xs hp => match xs, hp with | [.sl 3 ms, .clo 163 [.ptr 1000 0, .ptr 1001 0, .ptr 1002 0]], [(1000, .box ty [.num .i64 x]), (1001, .box ty2 [.num .i64 y]), (1002, .box ty3 [.num .i64 d])] => (isTs ms) ∧ (ty = 3) ∧ (ty2 = 3) ∧ (ty3 = 3) ∧ ((fun (m : List Tr) (x : Int) (y : Int) (d : Int) => ∀ k ∈ m, smH k) (toTs ms) x y d) ∧ ((fun (m : List Tr) (x : Int) (y : Int) (d : Int) => -20000000000 ≤ x ∧ x ≤ 20000000000) (toTs ms) x y d) ∧ ((fun (m : List Tr) (x : Int) (y : Int) (d : Int) => -20000000000 ≤ y ∧ y ≤ 20000000000) (toTs ms) x y d) ∧ ((fun (m : List Tr) (x : Int) (y : Int) (d : Int) => -20000000 ≤ d ∧ d ≤ 20000000) (toTs ms) x y d) ∧ ((fun (m : List Tr) (x : Int) (y : Int) (d : Int) => m.length ≤ 1000000) (toTs ms) x y d) | _, _ => False, fun xs hp => match xs, hp with | [.sl 3 ms, .clo 163 [.ptr 1000 0, .ptr 1001 0, .ptr 1002 0]], [(1000, .box ty [.num .i64 x]), (1001, .box ty2 [.num .i64 y]), (1002, .box ty3 [.num .i64 d])] => (fun (m : List Tr) (x : Int) (y : Int) (d : Int) => (.num .i64 (idxF (fun k => !hasH x y d k) m 0) : IV)) (toTs ms) x y d | _, _ => .junk, fun xs hp => match xs, hp with | [.sl 3 ms, .clo 163 [.ptr 1000 0, .ptr 1001 0, .ptr 1002 0]], [(1000, .box ty [.num .i64 x]), (1001, .box ty2 [.num .i64 y]), (1002, .box ty3 [.num .i64 d])] => (fun (m : List Tr) (x : Int) (y : Int) (d : Int) => ([(1000, .box 3 [.num .i64 x]), (1001, .box 3 [.num .i64 y]), (1002, .box 3 [.num .i64 d])] : List (Nat × IBlk))) (toTs ms) x y d | _, _ => []⟩
theorem hk_slices_IndexFunc_impl_HalfPlane_impl_HalfPlane_cor : ∀ args hp, hs_slices_IndexFunc_impl_HalfPlane_impl_HalfPlane_cor.pre args hp → HCall Try.prog 167 args (sm hp) (hs_slices_IndexFunc_impl_HalfPlane_impl_HalfPlane_cor.val args hp) (sm (hs_slices_IndexFunc_impl_HalfPlane_impl_HalfPlane_cor.hval args hp)) := by
  intro args hp h
  unfold hs_slices_IndexFunc_impl_HalfPlane_impl_HalfPlane_cor at h ⊢; simp only at h ⊢; split at h
  · obtain ⟨h0, rfl, rfl, rfl, h2, h3, h4, h5, h6⟩ := h; obtain ⟨m, rfl⟩ := isT_ex h0; rw [toTs_enc] at *; exact c_slices_IndexFunc_impl_HalfPlane_impl_HalfPlane_cor m _ _ _ h2 h3 h4 h5 h6
  · exact h.elim
theorem en_slices_IndexFunc_impl_HalfPlane_impl_HalfPlane_cor : Enters Try.prog 167 := enters_of Try.func167 (by kernel_rfl) rfl

def g_slices_ContainsFunc_impl_HalfPlane_impl_HalfPlane_cor : List (Nat × PSpec) := []
theorem gok_slices_ContainsFunc_impl_HalfPlane_impl_HalfPlane_cor : GOK Try.prog g_slices_ContainsFunc_impl_HalfPlane_impl_HalfPlane_cor := gok0
def h_slices_ContainsFunc_impl_HalfPlane_impl_HalfPlane_cor : List (Nat × HSpec) := [(167, hs_slices_IndexFunc_impl_HalfPlane_impl_HalfPlane_cor)]
theorem hok_slices_ContainsFunc_impl_HalfPlane_impl_HalfPlane_cor : HOK Try.prog h_slices_ContainsFunc_impl_HalfPlane_impl_HalfPlane_cor := hok_cons hk_slices_IndexFunc_impl_HalfPlane_impl_HalfPlane_cor en_slices_IndexFunc_impl_HalfPlane_impl_HalfPlane_cor (hok0)
theorem lh_slices_ContainsFunc_impl_HalfPlane_impl_HalfPlane_cor_slices_IndexFunc_impl_HalfPlane_impl_HalfPlane_cor : lkHS h_slices_ContainsFunc_impl_HalfPlane_impl_HalfPlane_cor 167 = some hs_slices_IndexFunc_impl_HalfPlane_impl_HalfPlane_cor := rfl
theorem c_slices_ContainsFunc_impl_HalfPlane_impl_HalfPlane_cor (m : List Tr) (x : Int) (y : Int) (d : Int) (hk : ∀ k ∈ m, smH k) (hx : -20000000000 ≤ x ∧ x ≤ 20000000000) (hy : -20000000000 ≤ y ∧ y ≤ 20000000000) (hd : -20000000 ≤ d ∧ d ≤ 20000000) (hsz : m.length ≤ 1000000) : HCall Try.prog 96 [.sl 3 (encTs m), .clo 163 [.ptr 1000 0, .ptr 1001 0, .ptr 1002 0]] (sm ([(1000, .box 3 [.num .i64 x]), (1001, .box 3 [.num .i64 y]), (1002, .box 3 [.num .i64 d])])) (.bool (m.any (fun k => !hasH x y d k))) (sm ([(1000, .box 3 [.num .i64 x]), (1001, .box 3 [.num .i64 y]), (1002, .box 3 [.num .i64 d])])) := by
  refine hcall_V (G := g_slices_ContainsFunc_impl_HalfPlane_impl_HalfPlane_cor) (H := h_slices_ContainsFunc_impl_HalfPlane_impl_HalfPlane_cor) [] tabOK mixed gok_slices_ContainsFunc_impl_HalfPlane_impl_HalfPlane_cor hok_slices_ContainsFunc_impl_HalfPlane_impl_HalfPlane_cor Try.func96 rfl Try.ntmps96 Try.results96 rfl (by kernel_rfl) fun F hN hlen => ?_
  simp only [sm]
  simp only [V_seq, V_ret, V_region, W_nil, W_cons, effOp2, KN_seq, KXr_nil, QE, effOp, effPure, Option.isSome_some, skipE, pureV, binV, ofC, strip, lkT, lkH, ISt.app, opI, gO, gB, allB, gval, wrapG, dstOK, setD, mentTm, mentHp, IV.ment, IV.mentL, lendV, lendP, lent, lentP, idsV, idsL, clean, callArgs, callFn, enumT, conv, conv0, convL, IBlk.shape, Op.operands, reduceIte, reduceCtorEq, cond_true, cond_false, Bool.or_false, Bool.or_true, Bool.and_true, Nat.reduceAdd, Nat.reduceSub, Nat.reduceMul, Nat.reduceLT, Nat.reduceLeDiff, Nat.reduceEqDiff, Nat.reduceBEq, Nat.zero_add, not_false_eq_true, beq_self_eq_true, true_and, and_true, and_false, and_self, false_implies, implies_true, List.map_cons, List.map_nil, List.nil_append, List.cons_append, List.append_nil, List.all_nil, Option.map_some, List.getD_cons_zero, List.getD_cons_succ, ex_clo, or_self, Bool.true_eq_false, hN, isTs_enc, toTs_enc, FinH, resA, resV, SLe, SLe0, convTm, convHp, convB, sm, effH, mkHC0, mkHC1, lendM, lentM, lentI, allHere, addIds, idsB, flatIds, reach, posn, renV, renL, renB, renH, numB, subHp, fwd, bk, bwd, nones, keyOK, noSl, noSlL, flatBs, List.contains, List.elem, Option.isSome_some, List.nodup_nil, List.nodup_cons, List.not_mem_nil, List.mem_cons, or_false, Option.getD_some, lh_slices_ContainsFunc_impl_HalfPlane_impl_HalfPlane_cor_slices_IndexFunc_impl_HalfPlane_impl_HalfPlane_cor, hs_slices_IndexFunc_impl_HalfPlane_impl_HalfPlane_cor, hx, hy, hd, hsz, idxF_sign]
  exact ⟨hk, id, by simp [convL, conv, conv0, clean]⟩
def hs_slices_ContainsFunc_impl_HalfPlane_impl_HalfPlane_cor : HSpec := ⟨[true, false], fun xs hp => match xs, hp with | [.sl 3 ms, .clo 163 [.ptr 1000 0, .ptr 1001 0, .ptr 1002 0]], [(1000, .box ty [.num .i64 x]), (1001, .box ty2 [.num .i64 y]), (1002, .box ty3 [.num .i64 d])] => (isTs ms) ∧ (ty = 3) ∧ (ty2 = 3) ∧ (ty3 = 3) ∧ ((fun (m : List Tr) (x : Int) (y : Int) (d : Int) => ∀ k ∈ m, smH k) (toTs ms) x y d) ∧ ((fun (m : List Tr) (x : Int) (y : Int) (d : Int) => -20000000000 ≤ x ∧ x ≤ 20000000000) (toTs ms) x y d) ∧ ((fun (m : List Tr) (x : Int) (y : Int) (d : Int) => -20000000000 ≤ y ∧ y ≤ 20000000000) (toTs ms) x y d) ∧ ((fun (m : List Tr) (x : Int) (y : Int) (d : Int) => -20000000 ≤ d ∧ d ≤ 20000000) (toTs ms) x y d) ∧ ((fun (m : List Tr) (x : Int) (y : Int) (d : Int) => m.length ≤ 1000000) (toTs ms) x y d) | _, _ => False, fun xs hp => match xs, hp with | [.sl 3 ms, .clo 163 [.ptr 1000 0, .ptr 1001 0, .ptr 1002 0]], [(1000, .box ty [.num .i64 x]), (1001, .box ty2 [.num .i64 y]), (1002, .box ty3 [.num .i64 d])] => (fun (m : List Tr) (x : Int) (y : Int) (d : Int) => (.bool (m.any (fun k => !hasH x y d k)) : IV)) (toTs ms) x y d | _, _ => .junk, fun xs hp => match xs, hp with | [.sl 3 ms, .clo 163 [.ptr 1000 0, .ptr 1001 0, .ptr 1002 0]], [(1000, .box ty [.num .i64 x]), (1001, .box ty2 [.num .i64 y]), (1002, .box ty3 [.num .i64 d])] => (fun (m : List Tr) (x : Int) (y : Int) (d : Int) => ([(1000, .box 3 [.num .i64 x]), (1001, .box 3 [.num .i64 y]), (1002, .box 3 [.num .i64 d])] : List (Nat × IBlk))) (toTs ms) x y d | _, _ => []⟩
theorem hk_slices_ContainsFunc_impl_HalfPlane_impl_HalfPlane_cor : ∀ args hp, hs_slices_ContainsFunc_impl_HalfPlane_impl_HalfPlane_cor.pre args hp → HCall Try.prog 96 args (sm hp) (hs_slices_ContainsFunc_impl_HalfPlane_impl_HalfPlane_cor.val args hp) (sm (hs_slices_ContainsFunc_impl_HalfPlane_impl_HalfPlane_cor.hval args hp)) := by
  intro args hp h
  unfold hs_slices_ContainsFunc_impl_HalfPlane_impl_HalfPlane_cor at h ⊢; simp only at h ⊢; split at h
  · obtain ⟨h0, rfl, rfl, rfl, h2, h3, h4, h5, h6⟩ := h; obtain ⟨m, rfl⟩ := isT_ex h0; rw [toTs_enc] at *; exact c_slices_ContainsFunc_impl_HalfPlane_impl_HalfPlane_cor m _ _ _ h2 h3 h4 h5 h6
  · exact h.elim
theorem en_slices_ContainsFunc_impl_HalfPlane_impl_HalfPlane_cor : Enters Try.prog 96 := enters_of Try.func96 (by kernel_rfl) rfl


theorem frame_sm {l : List Tr} (hs : ∀ k ∈ l, smH k) : ∀ k ∈ l ++ boxL, smH k := by
  intro k hk
  rcases List.mem_append.1 hk with h | h
  · exact hs k h
  · simp only [boxL, List.mem_cons, List.not_mem_nil, or_false] at h
    rcases h with rfl | rfl | rfl | rfl <;> (unfold smH; simp only []; omega)
theorem frame_at {l : List Tr} (hs : ∀ k ∈ l, smH k) (i : Nat) : smH (hAt (l ++ boxL) i) := by
  rcases Nat.lt_or_ge i (l ++ boxL).length with h | h
  · refine frame_sm hs _ ?_
    rw [hAt, List.getD, List.getElem?_eq_getElem h]; exact List.getElem_mem h
  · have : hAt (l ++ boxL) i = (0, 0, 0) := by rw [hAt, List.getD, List.getElem?_eq_none h]; rfl
    rw [this]; unfold smH; simp only []; omega
theorem any_not_all {α : Type} (l : List α) (p : α → Bool) : (l.any fun k => !p k) = !(l.all p) := by
  rw [List.all_eq_not_any_not, Bool.not_not]
theorem row_step (all : List Tr) (i k : Nat) : rawRow all i (k + 1) = rawRow all i k ++ candL all (hAt all i) (hAt all k) := rfl
theorem raw_step (all : List Tr) (i : Nat) : rawAll all (i + 1) = rawAll all i ++ rawRow all i i := rfl
theorem cand_den {all : List Tr} {g h : Tr} (hd : denH g h = 0) : candL all g h = [] := by unfold candL; simp only []; rw [if_pos hd]
theorem cand_no {all : List Tr} {g h : Tr} {s : Bool} (hs : decide (denH g h < 0) = s) (ha : all.all (hasH (sgT s (xH g h)) (sgT s (yH g h)) (sgT s (denH g h))) = false) : candL all g h = [] := by
  unfold candL; simp only [hs, ha]; simp
theorem cand_yes {all : List Tr} {g h : Tr} {s : Bool} (hd : denH g h ≠ 0) (hs : decide (denH g h < 0) = s) (ha : all.all (hasH (sgT s (xH g h)) (sgT s (yH g h)) (sgT s (denH g h))) = true) :
    candL all g h = [(redR (sgT s (xH g h)) (sgT s (denH g h)), redR (sgT s (yH g h)) (sgT s (denH g h)))] := by
  unfold candL; simp only [hs, ha]; rw [if_neg hd]; simp

def g_impl_corners_h : List (Nat × PSpec) := [(162, sp_impl_frame), (110, sp_impl_reduced)]
theorem gok_impl_corners_h : GOK Try.prog g_impl_corners_h := gok_cons gk_impl_frame en_impl_frame (gok_cons gk_impl_reduced en_impl_reduced (gok0))
theorem lk_impl_corners_h_impl_frame : lkG g_impl_corners_h 162 = sp_impl_frame := rfl
theorem lk_impl_corners_h_impl_reduced : lkG g_impl_corners_h 110 = sp_impl_reduced := rfl
def h_impl_corners_h : List (Nat × HSpec) := [(96, hs_slices_ContainsFunc_impl_HalfPlane_impl_HalfPlane_cor), (140, hs_slices_SortFunc_impl_RatPoint_impl_RatPoint), (143, hs_slices_Compact_impl_RatPoint_impl_RatPoint), (142, hs_slices_Clip_impl_RatPoint_impl_RatPoint)]
theorem hok_impl_corners_h : HOK Try.prog h_impl_corners_h := hok_cons hk_slices_ContainsFunc_impl_HalfPlane_impl_HalfPlane_cor en_slices_ContainsFunc_impl_HalfPlane_impl_HalfPlane_cor (hok_cons hk_slices_SortFunc_impl_RatPoint_impl_RatPoint en_slices_SortFunc_impl_RatPoint_impl_RatPoint (hok_cons hk_slices_Compact_impl_RatPoint_impl_RatPoint en_slices_Compact_impl_RatPoint_impl_RatPoint (hok_cons hk_slices_Clip_impl_RatPoint_impl_RatPoint en_slices_Clip_impl_RatPoint_impl_RatPoint (hok0))))
theorem lh_impl_corners_h_impl_frame : lkHS h_impl_corners_h 162 = none := rfl
theorem lh_impl_corners_h_impl_reduced : lkHS h_impl_corners_h 110 = none := rfl
theorem lh_impl_corners_h_slices_ContainsFunc_impl_HalfPlane_impl_HalfPlane_cor : lkHS h_impl_corners_h 96 = some hs_slices_ContainsFunc_impl_HalfPlane_impl_HalfPlane_cor := rfl
theorem lh_impl_corners_h_slices_SortFunc_impl_RatPoint_impl_RatPoint : lkHS h_impl_corners_h 140 = some hs_slices_SortFunc_impl_RatPoint_impl_RatPoint := rfl
theorem lh_impl_corners_h_slices_Compact_impl_RatPoint_impl_RatPoint : lkHS h_impl_corners_h 143 = some hs_slices_Compact_impl_RatPoint_impl_RatPoint := rfl
theorem lh_impl_corners_h_slices_Clip_impl_RatPoint_impl_RatPoint : lkHS h_impl_corners_h 142 = some hs_slices_Clip_impl_RatPoint_impl_RatPoint := rfl
theorem c_impl_corners_h (l : List Tr) (hs : ∀ k ∈ l, smH k) (hsz : l.length ≤ 100) : HCall Try.prog 94 [.sl 3 (encTs l)] (sm ([])) (.ref 0 0 (cornP l).length false) (sm ([(0, .arr 4 60 (encQs (cornP l)))])) := by
  refine hcall_V (G := g_impl_corners_h) (H := h_impl_corners_h) [(10, [(0, 22), (1, 22), (2, 22), (3, 22), (4, 22), (5, 22), (6, 22), (7, 22), (8, 22), (9, 22), (10, 22), (11, 22), (12, 22), (13, 22), (14, 22), (15, 22), (16, 22), (17, 22), (18, 22), (19, 22), (20, 22), (21, 22), (0, 23), (1, 23), (2, 23), (3, 23), (4, 23), (5, 23), (6, 23), (7, 23), (8, 23), (9, 23), (10, 23), (11, 23), (12, 23), (13, 23), (14, 23), (15, 23), (16, 23), (17, 23), (18, 23), (19, 23), (20, 23), (21, 23), (22, 23), (11, 24), (12, 24), (13, 24), (14, 24), (15, 24), (16, 24), (17, 24), (18, 24), (19, 24), (20, 24), (21, 24)]), (12, [(2, 6), (3, 6), (4, 6), (5, 6), (4, 7), (5, 7)]), (14, [(0, 3), (3, 4), (3, 5), (0, 6), (1, 6), (2, 6), (0, 8), (1, 8), (2, 8), (3, 8), (4, 8), (5, 8), (6, 8), (1, 9), (2, 9), (3, 9), (4, 9), (5, 9), (7, 9)])] tabOK mixed gok_impl_corners_h hok_impl_corners_h Try.func94 rfl Try.ntmps94 Try.results94 rfl (by kernel_rfl) fun F hN hlen => ?_
  simp only [sm]
  have hs2 := frame_sm hs
  have hs3 := frame_at hs
  have hcp : cornP l = compFQ (sortQ (rawAll (l ++ boxL) (l ++ boxL).length)) := by
    rw [compFQ_eq, comp_sortQ (raw_good hs3 _)]; rfl
  have hal : (l ++ boxL).length ≤ 104 := by simp [boxL]; omega
  have z0 : l.length ≤ 100000 := by omega
  have hrg := raw_good hs3
  obtain ⟨all, hall⟩ : ∃ all, l ++ boxL = all := ⟨_, rfl⟩
  rw [hall] at hcp hs2 hs3 hal hrg
  have el := len_encTs all
  simp only [V_seq, V_block, V_region, W_nil, W_cons, effOp2, KN_seq, effOp, effPure, effNew, effBuildSlice, effFrz, frz, tmpsOf, effCall, giveUp, hasAll, skipE, pureV, lenV, ofC, strip, lkT, lkH, ISt.app, opI, gO, gB, allB, gval, wrapG, dstOK, setD, mentTm, mentHp, IV.ment, partsL, eltsI, lendV, lendP, lent, lentP, idsV, idsL, flat, clean, callArgs, callFn, allLent, enumT, Op.operands, Call.operands, List.append_toArray, reduceIte, reduceCtorEq, cond_true, cond_false, Bool.or_false, Bool.not_true, Nat.reduceMul, Nat.reduceLT, Nat.reduceLeDiff, Nat.reduceEqDiff, ne_eq, not_false_eq_true, true_and, and_self, implies_true, List.map_cons, List.map_nil, List.nil_append, List.cons_append, List.append_nil, List.length_nil, ex_clo, or_true, Bool.false_eq_true, tab43, tab51, tab60, hN, isTs_enc, toTs_enc, lk_impl_corners_h_impl_frame, sp_impl_frame, lh_impl_corners_h_impl_frame, z0, hall, el]
  refine V_loop (α := Nat) ⟨tabOK, mixed, gok_impl_corners_h, hok_impl_corners_h⟩ (by kernel_rfl) (fun i => i ≤ all.length) (fun i => ⟨[(17, .num .i64 i), (16, .num .i64 all.length), (15, .sl 3 (encTs all)), (3, .sl 3 (encTs all)), (4, .ref 14 0 (rawAll all i).length true)], [(14, some (.arr 4 60 (encQs (rawAll all i))))]⟩) (fun i => all.length - i) 0 id (Nat.zero_le _) (by simp [SLe, SLe0, convTm, convHp, convB, conv, conv0, lkT, lkH, clean, rawAll, encQs]) ?_
  intro i hi
  have er := len_encQs (rawAll all i)
  have hrl := raw_len all i
  have hx : ∃ k ty es, IBlk.arr 4 60 (encQs (rawAll all i)) = IBlk.arr k ty es := ⟨_, _, _, rfl⟩
  simp only [V_seq, V_region, V_cond, W_nil, W_cons, effOp2, KN_seq, asB, effOp, effPure, pureV, binV, strip, lkT, ISt.app, opI, gO, gB, allB, gval, wrapG, dstOK, setD, Op.operands, reduceIte, Nat.reduceLT, Nat.reduceEqDiff, true_and, and_self, implies_true, List.nil_append, List.cons_append, hN]
  refine brW_some (fun h => ?_) (fun h => ?_)
  · have hi' : i < all.length := by simpa using h
    have g0 := getD_encTs hi'
    have hw := wr_succ hi' (by rw [maxLen_eq]; omega)
    have hgs : smH (tAt all i) := hs3 i
    have et : (encTs (all.take i)).length = i := by rw [len_encTs, List.length_take]; omega
    have hrs := raw_step all i
    obtain ⟨g, hg⟩ : ∃ g, tAt all i = g := ⟨_, rfl⟩
    have hg2 : hAt all i = g := hg
    rw [hg] at g0 hgs
    simp only [V_seq, V_skip, V_block, V_region, W_nil, W_cons, effOp2, KN_seq, effOp, effPure, effNew, effAlloc, effStore, skipE, pureV, storeV, partV, eltV, loadV, iaddrV, sliceV, lenV, over, solid, IV.cells, ofC, strip, lkT, lkH, ISt.app, opI, gO, gB, allB, gval, wrapG, dstOK, setD, mentTm, mentHp, IV.ment, IV.mentL, oneI, Op.operands, Call.operands, List.append_toArray, Array.append_empty, Option.toArray_none, Option.toArray_some, reduceIte, reduceCtorEq, cond_true, Bool.or_false, Bool.and_true, Nat.reduceAdd, Nat.reduceLT, Nat.reduceLeDiff, Nat.reduceEqDiff, Nat.reduceBEq, Nat.zero_add, ne_eq, not_false_eq_true, true_and, and_true, and_false, and_self, implies_true, forall_const, List.nil_append, List.cons_append, List.append_nil, List.all_cons, List.all_nil, Option.map_some, Option.map_none, List.getD_cons_zero, List.length_cons, List.length_nil, List.take_succ_cons, List.take_zero, List.take_nil, List.drop_succ_cons, List.drop_zero, List.drop_nil, tab43, tab98, hN, Int.toNat_natCast, el, g0, encTs_take, et]
    refine ⟨⟨by omega, by omega⟩, ⟨by omega, by omega⟩, ?_⟩
    refine V_loop (α := Nat) ⟨tabOK, mixed, gok_impl_corners_h, hok_impl_corners_h⟩ (by kernel_rfl) (fun k => k ≤ i) (fun k => ⟨[(26, .num .i64 k), (25, .num .i64 i), (24, .sl 3 (encTs (all.take i))), (6, .ptr 6 0), (17, .num .i64 i), (16, .num .i64 all.length), (15, .sl 3 (encTs all)), (3, .sl 3 (encTs all)), (4, .ref 14 0 (rawAll all i ++ rawRow all i k).length true)], [(6, some (.box 98 [.num .i64 g.1, .num .i64 g.2.1, .num .i64 g.2.2])), (14, some (.arr 4 60 (encQs (rawAll all i ++ rawRow all i k))))]⟩) (fun k => i - k) 0 id (Nat.zero_le _) (by simp [SLe, SLe0, convTm, convHp, convB, conv, conv0, convL, lkT, lkH, clean, rawRow, encQs]; exact (List.take_of_length_le (by simp)).symm) ?_
    intro k hk
    have er2 := len_encQs (rawAll all i ++ rawRow all i k)
    have hrl2 := row_len all i k
    have hal2 : (rawAll all i ++ rawRow all i k).length ≤ 20000 := by
      have : i * i ≤ 104 * 104 := Nat.mul_le_mul (by omega) (by omega)
      rw [List.length_append]; omega
    have hx : ∃ kk ty es, IBlk.arr 4 60 (encQs (rawAll all i ++ rawRow all i k)) = IBlk.arr kk ty es := ⟨_, _, _, rfl⟩
    have hst : rawAll all i ++ rawRow all i (k + 1) = (rawAll all i ++ rawRow all i k) ++ candL all g (hAt all k) := by rw [row_step, hg2, List.append_assoc]
    obtain ⟨out, hout⟩ : ∃ out, rawAll all i ++ rawRow all i k = out := ⟨_, rfl⟩
    rw [hout] at er2 hal2 hx hst ⊢
    simp only [V_seq, V_region, V_cond, W_nil, W_cons, effOp2, KN_seq, asB, effOp, effPure, pureV, binV, strip, lkT, ISt.app, opI, gO, gB, allB, gval, wrapG, dstOK, setD, Op.operands, reduceIte, Nat.reduceLT, Nat.reduceEqDiff, true_and, and_self, implies_true, List.nil_append, List.cons_append, hN]
    refine brW_some (fun h => ?_) (fun h => ?_)
    · have hk' : k < i := by simpa using h
      have g1 := getD_encTs (l := all.take i) (i := k) (by rw [List.length_take]; omega)
      have hw2 := wr_succ hk' (by rw [maxLen_eq]; omega)
      have e1 : tAt (all.take i) k = hAt all k := by simp [hk']
      rw [e1] at g1
      have hhs := hs3 k
      obtain ⟨h0, hh0⟩ : ∃ h0, hAt all k = h0 := ⟨_, rfl⟩
      rw [hh0] at g1 hst hhs
      have b1 := den_bd hgs hhs
      have b2 := x_bd hgs hhs
      have b3 := y_bd hgs hhs
      have m1 := mulB hgs.1 hhs.2.1
      have m2 := mulB hhs.1 hgs.2.1
      have m3 := mulB hgs.2.2 hhs.2.1
      have m4 := mulB hhs.2.2 hgs.2.1
      have m5 := mulB hgs.1 hhs.2.2
      have m6 := mulB hhs.1 hgs.2.2
      have v1 : IntKind.i64.wrap (g.1 * h0.2.1) = g.1 * h0.2.1 := wr (by omega) (by omega)
      have v2 : IntKind.i64.wrap (h0.1 * g.2.1) = h0.1 * g.2.1 := wr (by omega) (by omega)
      have v3 : IntKind.i64.wrap (g.2.2 * h0.2.1) = g.2.2 * h0.2.1 := wr (by omega) (by omega)
      have v4 : IntKind.i64.wrap (h0.2.2 * g.2.1) = h0.2.2 * g.2.1 := wr (by omega) (by omega)
      have v5 : IntKind.i64.wrap (g.1 * h0.2.2) = g.1 * h0.2.2 := wr (by omega) (by omega)
      have v6 : IntKind.i64.wrap (h0.1 * g.2.2) = h0.1 * g.2.2 := wr (by omega) (by omega)
      have f1 : IntKind.i64.wrap (g.1 * h0.2.1 - h0.1 * g.2.1) = denH g h0 := wr (by unfold denH at b1; omega) (by unfold denH at b1; omega)
      have f2 : IntKind.i64.wrap (g.2.2 * h0.2.1 - h0.2.2 * g.2.1) = xH g h0 := wr (by unfold xH at b2; omega) (by unfold xH at b2; omega)
      have f3 : IntKind.i64.wrap (g.1 * h0.2.2 - h0.1 * g.2.2) = yH g h0 := wr (by unfold yH at b3; omega) (by unfold yH at b3; omega)
      have n1 : IntKind.i64.wrap (-denH g h0) = -denH g h0 := wr (by omega) (by omega)
      have n2 : IntKind.i64.wrap (-xH g h0) = -xH g h0 := wr (by omega) (by omega)
      have n3 : IntKind.i64.wrap (-yH g h0) = -yH g h0 := wr (by omega) (by omega)
      have cd := cand_den (all := all) (g := g) (h := h0)
      have cn := fun s => cand_no (all := all) (g := g) (h := h0) (s := s)
      have cy := fun s => cand_yes (all := all) (g := g) (h := h0) (s := s)
      obtain ⟨D, hD⟩ : ∃ D, denH g h0 = D := ⟨_, rfl⟩
      obtain ⟨X, hX⟩ : ∃ X, xH g h0 = X := ⟨_, rfl⟩
      obtain ⟨Y, hY⟩ : ∃ Y, yH g h0 = Y := ⟨_, rfl⟩
      rw [hD] at b1 f1 n1 cd
      rw [hX] at b2 f2 n2
      rw [hY] at b3 f3 n3
      simp only [hD, hX, hY] at cn cy
      have hzz : all.length ≤ 1000000 := by omega
      cases hsg : decide (D < 0) with
      | true =>
        have hD0 : D < 0 := of_decide_eq_true hsg
        have dz : (-D == 0) = false := by simp; omega
        have p1 : -20000000 ≤ -D ∧ -D ≤ 20000000 := by omega
        have p2 : -20000000000 ≤ -X ∧ -X ≤ 20000000000 := by omega
        have p3 : -20000000000 ≤ -Y ∧ -Y ≤ 20000000000 := by omega
        have p4 : -D ≠ 0 := by omega
        have r1 := rat_pos (n := -X) (d := -D) (by omega)
        have r2 := rat_pos (n := -Y) (d := -D) (by omega)
        have cn := cn true hsg
        have cy := cy true (by omega) hsg
        have s1 : sgT true X = -X := rfl
        have s2 : sgT true Y = -Y := rfl
        have s3 : sgT true D = -D := rfl
        rw [s1, s2, s3] at cn cy
        cases ha : all.all (hasH (-X) (-Y) (-D)) with
        | false =>
          rw [cn ha, List.append_nil] at hst
          have hany : (all.any fun k => !hasH (-X) (-Y) (-D) k) = true := by rw [any_not_all, ha]; rfl
          simp only [V_seq, V_skip, V_ret, V_exit, V_block, V_region, V_draw, V_cond, brW_true, drawW, WS_nil, WS_cons, pairsOf, W_nil, W_cons, effOp2, effOp3, WI_nil, WI_cons, KN_seq, KN_block, KN_back, KXr_nil, KXe_nil, KXe_seq, KXe_block, KXe_back, QE, dynOK, indB, farB, seeB, see, isStore, freshB, freshK, freshK1, ownId, heapy, asB, effOp, effPure, effPick, effNew, effAlloc, effStore, Option.isSome_some, skipE, pureV, pickV, storeV, binV, partV, eltV, loadV, faddrV, iaddrV, over, solid, IV.cells, ofC, strip, lkT, lkH, ISt.app, opI, gO, gB, allB, gval, wrapG, dstOK, setD, mentTm, mentHp, IV.ment, IV.mentL, oneI, lendV, lendP, lent, lentP, idsV, idsL, clean, callArgs, callFn, enumT, conv, conv0, convL, IBlk.shape, Op.operands, List.append_toArray, reduceIte, reduceCtorEq, cond_true, cond_false, Bool.or_false, Bool.or_true, Bool.and_true, Bool.and_false, Bool.and_eq_true, Bool.not_false, Nat.reduceAdd, Nat.reduceSub, Nat.reduceMul, Nat.reduceLT, Nat.reduceLeDiff, Nat.reduceEqDiff, Nat.reduceBEq, Nat.add_zero, Nat.zero_add, ne_eq, not_false_eq_true, beq_self_eq_true, true_and, and_true, and_false, and_self, false_implies, implies_true, forall_const, List.map_cons, List.map_nil, List.nil_append, List.cons_append, List.append_nil, List.all_cons, List.all_nil, Option.map_some, Option.bind_some, List.getElem?_cons_zero, List.getElem?_cons_succ, List.getD_cons_zero, List.getD_cons_succ, List.length_cons, List.length_nil, List.take_succ_cons, List.take_zero, List.take_nil, List.drop_succ_cons, List.drop_zero, List.drop_nil, ex_clo, true_or, or_self, Bool.true_eq_false, Bool.false_eq_true, tab3, tab43, tab98, hN, Int.toNat_natCast, isTs_enc, toTs_enc, isQs_enc, toQs_enc, FinH, resA, resV, SLe, SLe0, convTm, convHp, convB, sm, effH, mkHC0, mkHC1, lendM, lentM, lentI, allHere, addIds, idsB, flatIds, reach, posn, renV, renL, renB, renH, numB, subHp, fwd, bk, bwd, nones, keyOK, noSl, noSlL, flatBs, List.contains, List.elem, Option.isSome_some, List.nodup_nil, List.nodup_cons, List.not_mem_nil, List.mem_cons, Option.getD_some, lh_impl_corners_h_slices_ContainsFunc_impl_HalfPlane_impl_HalfPlane_cor, lh_impl_corners_h_slices_SortFunc_impl_RatPoint_impl_RatPoint, lh_impl_corners_h_slices_Compact_impl_RatPoint_impl_RatPoint, lh_impl_corners_h_slices_Clip_impl_RatPoint_impl_RatPoint, hs_slices_ContainsFunc_impl_HalfPlane_impl_HalfPlane_cor, hs_slices_SortFunc_impl_RatPoint_impl_RatPoint, hs_slices_Compact_impl_RatPoint_impl_RatPoint, hs_slices_Clip_impl_RatPoint_impl_RatPoint, et, g1, hw2, v1, v2, v3, v4, v5, v6, f1, f2, f3, n1, n2, n3, hsg, dz, p1, p2, p3, hzz, hany]
          refine ⟨⟨by omega, by omega⟩, hs2, k + 1, id, by simp only []; omega, by simp only []; omega, ?_⟩
          simp only [hst]
          exact by simp [SLe, SLe0, convTm, convHp, convB, conv, conv0, convL, lkT, lkH, clean]
        | true =>
          rw [cy ha] at hst
          have hany : (all.any fun k => !hasH (-X) (-Y) (-D) k) = false := by rw [any_not_all, ha]; rfl
          simp only [V_seq, V_skip, V_block, V_region, V_draw, V_cond, brW_true, brW_false, drawW, WS_nil, WS_cons, pairsOf, W_nil, W_cons, effOp2, effOp3, WI_nil, WI_cons, KN_seq, KN_block, KN_back, dynOK, indB, farB, seeB, see, isStore, freshB, freshK, freshK1, ownId, heapy, asB, effOp, effPure, effPick, effNew, effAlloc, effBuildSlice, effFrz, frz, tmpsOf, effStore, effAppend, effZeros, effCall, giveUp, hasAll, Option.isSome_some, skipE, pureV, pickV, storeV, srcV, refId, binV, partV, eltV, loadV, faddrV, iaddrV, over, solid, buildL, IV.cells, ofC, strip, lkT, lkH, ISt.app, opI, gO, gB, allB, gval, wrapG, dstOK, setD, mentTm, mentHp, IV.ment, IV.mentL, partsL, eltsI, eltI, oneI, noId', lendV, lendP, lent, lentP, idsV, idsL, flat, flatL, clean, cleanL, callArgs, callFn, allLent, enumT, conv, conv0, convL, IBlk.shape, Op.operands, Call.operands, List.append_toArray, reduceIte, reduceCtorEq, cond_true, cond_false, Bool.or_false, Bool.or_true, Bool.and_true, Bool.and_false, Bool.and_eq_true, Bool.not_true, Bool.not_false, Nat.reduceAdd, Nat.reduceSub, Nat.reduceMul, Nat.reduceLT, Nat.reduceLeDiff, Nat.reduceEqDiff, Nat.reduceBEq, Nat.add_zero, Nat.zero_add, ne_eq, not_false_eq_true, beq_self_eq_true, true_and, and_true, and_false, and_self, implies_true, forall_const, List.map_cons, List.map_nil, List.nil_append, List.cons_append, List.append_nil, List.all_cons, List.all_nil, Option.some.injEq, Option.map_some, Option.bind_some, List.getElem?_cons_zero, List.getElem?_cons_succ, List.getD_cons_zero, List.getD_cons_succ, List.length_cons, List.length_nil, List.take_succ_cons, List.take_zero, List.take_nil, List.drop_succ_cons, List.drop_zero, List.drop_nil, ex_clo, or_self, Bool.true_eq_false, Bool.false_eq_true, tab3, tab43, tab51, tab60, tab98, hN, Int.toNat_natCast, encP, isTs_enc, toTs_enc, SLe0, convTm, convHp, convB, sm, effH, mkHC0, mkHC1, lendM, lentM, lentI, allHere, addIds, idsB, flatIds, reach, posn, renV, renL, renB, renH, numB, subHp, fwd, bk, bwd, nones, keyOK, noSl, noSlL, flatBs, List.contains, List.elem, Option.isSome_some, List.nodup_nil, List.nodup_cons, List.not_mem_nil, List.mem_cons, Option.getD_some, lk_impl_corners_h_impl_reduced, sp_impl_reduced, lh_impl_corners_h_impl_reduced, lh_impl_corners_h_slices_ContainsFunc_impl_HalfPlane_impl_HalfPlane_cor, hs_slices_ContainsFunc_impl_HalfPlane_impl_HalfPlane_cor, et, g1, hw2, v1, v2, v3, v4, v5, v6, f1, f2, f3, n1, n2, n3, hsg, dz, p1, p2, p3, p4, r1, r2, hzz, hany, er2]
          refine ⟨⟨by omega, by omega⟩, hs2, ⟨by omega, by omega⟩, k + 1, fun x => if x = 14 then 87 else x, by simp only []; omega, by simp only []; omega, ?_⟩
          have hen : encQs (out ++ [(redR (-X) (-D), redR (-Y) (-D))]) = (encQs out).take out.length ++ [IV.agg [.num .i64 (redR (-X) (-D)).1, .num .i64 (redR (-X) (-D)).2, .num .i64 (redR (-Y) (-D)).1, .num .i64 (redR (-Y) (-D)).2]] := by
            rw [← encQs_app, List.take_of_length_le (Nat.le_of_eq er2)]; rfl
          simp only [hst, hen, List.length_append]
          simp [SLe, SLe0, convTm, convHp, convB, conv, conv0, convL, lkT, lkH, clean]
          exact ⟨(List.take_of_length_le (by rw [List.length_append, List.length_take]; exact Nat.le_refl _)).symm, fun id a1 a2 a3 => by omega⟩
      | false =>
        have hD0 : 0 ≤ D := by have := of_decide_eq_false hsg; omega
        have p1 : -20000000 ≤ D ∧ D ≤ 20000000 := by omega
        have p2 : -20000000000 ≤ X ∧ X ≤ 20000000000 := by omega
        have p3 : -20000000000 ≤ Y ∧ Y ≤ 20000000000 := by omega
        cases dz : (D == 0) with
        | true =>
          have hz : D = 0 := by simpa using dz
          rw [cd hz, List.append_nil] at hst
          simp only [V_seq, V_skip, V_ret, V_exit, V_block, V_region, V_draw, V_cond, brW_true, brW_false, drawW, WS_nil, pairsOf, W_nil, W_cons, effOp2, effOp3, WI_nil, WI_cons, KN_seq, KN_block, KN_back, KXr_nil, KXe_nil, KXe_seq, KXe_block, KXe_back, QE, dynOK, indB, farB, seeB, see, isStore, freshB, freshK, freshK1, ownId, heapy, asB, effOp, effPure, effPick, effNew, effAlloc, effStore, Option.isSome_some, skipE, pureV, pickV, storeV, binV, partV, eltV, loadV, faddrV, iaddrV, over, solid, IV.cells, ofC, strip, lkT, lkH, ISt.app, opI, gO, gB, allB, gval, wrapG, dstOK, setD, mentTm, mentHp, IV.ment, IV.mentL, oneI, lendV, lendP, lent, lentP, idsV, idsL, clean, callArgs, callFn, enumT, conv, conv0, convL, IBlk.shape, Op.operands, List.append_toArray, reduceIte, reduceCtorEq, cond_true, cond_false, Bool.or_false, Bool.or_true, Bool.and_true, Bool.and_false, Bool.and_eq_true, Bool.not_false, Nat.reduceAdd, Nat.reduceSub, Nat.reduceMul, Nat.reduceLT, Nat.reduceLeDiff, Nat.reduceEqDiff, Nat.reduceBEq, Nat.add_zero, Nat.zero_add, ne_eq, not_false_eq_true, beq_self_eq_true, true_and, and_true, false_and, and_false, and_self, false_implies, implies_true, forall_const, List.map_cons, List.map_nil, List.nil_append, List.cons_append, List.append_nil, List.all_cons, List.all_nil, Option.map_some, Option.bind_some, List.getElem?_cons_zero, List.getElem?_cons_succ, List.getD_cons_zero, List.getD_cons_succ, List.length_cons, List.length_nil, List.take_succ_cons, List.take_zero, List.take_nil, List.drop_succ_cons, List.drop_zero, List.drop_nil, ex_clo, btf, true_or, or_self, Bool.true_eq_false, Bool.false_eq_true, tab3, tab43, tab98, hN, Int.toNat_natCast, isTs_enc, toTs_enc, isQs_enc, toQs_enc, FinH, resA, resV, SLe, SLe0, convTm, convHp, convB, sm, effH, mkHC0, mkHC1, lendM, lentM, lentI, allHere, addIds, idsB, flatIds, reach, posn, renV, renL, renB, renH, numB, subHp, fwd, bk, bwd, nones, keyOK, noSl, noSlL, flatBs, List.contains, List.elem, Option.isSome_some, List.nodup_nil, List.nodup_cons, List.not_mem_nil, List.mem_cons, Option.getD_some, lh_impl_corners_h_slices_ContainsFunc_impl_HalfPlane_impl_HalfPlane_cor, lh_impl_corners_h_slices_SortFunc_impl_RatPoint_impl_RatPoint, lh_impl_corners_h_slices_Compact_impl_RatPoint_impl_RatPoint, lh_impl_corners_h_slices_Clip_impl_RatPoint_impl_RatPoint, hs_slices_ContainsFunc_impl_HalfPlane_impl_HalfPlane_cor, hs_slices_SortFunc_impl_RatPoint_impl_RatPoint, hs_slices_Compact_impl_RatPoint_impl_RatPoint, hs_slices_Clip_impl_RatPoint_impl_RatPoint, et, g1, hw2, v1, v2, v3, v4, v5, v6, f1, f2, f3, hsg, dz]
          refine ⟨⟨by omega, by omega⟩, k + 1, id, by simp only []; omega, by simp only []; omega, ?_⟩
          simp only [hst]
          exact by simp [SLe, SLe0, convTm, convHp, convB, conv, conv0, convL, lkT, lkH, clean]
        | false =>
          have p4 : D ≠ 0 := by simpa using dz
          have r1 := rat_pos (n := X) (d := D) (by omega)
          have r2 := rat_pos (n := Y) (d := D) (by omega)
          have cn := cn false hsg
          have cy := cy false p4 hsg
          have s1 : sgT false X = X := rfl
          have s2 : sgT false Y = Y := rfl
          have s3 : sgT false D = D := rfl
          rw [s1, s2, s3] at cn cy
          cases ha : all.all (hasH X Y D) with
          | false =>
            rw [cn ha, List.append_nil] at hst
            have hany : (all.any fun k => !hasH X Y D k) = true := by rw [any_not_all, ha]; rfl
            simp only [V_seq, V_skip, V_ret, V_exit, V_block, V_region, V_draw, V_cond, brW_true, brW_false, drawW, WS_nil, pairsOf, W_nil, W_cons, effOp2, effOp3, WI_nil, WI_cons, KN_seq, KN_block, KN_back, KXr_nil, KXe_nil, KXe_seq, KXe_block, KXe_back, QE, dynOK, indB, farB, seeB, see, isStore, freshB, freshK, freshK1, ownId, heapy, asB, effOp, effPure, effPick, effNew, effAlloc, effStore, Option.isSome_some, skipE, pureV, pickV, storeV, binV, partV, eltV, loadV, faddrV, iaddrV, over, solid, IV.cells, ofC, strip, lkT, lkH, ISt.app, opI, gO, gB, allB, gval, wrapG, dstOK, setD, mentTm, mentHp, IV.ment, IV.mentL, oneI, lendV, lendP, lent, lentP, idsV, idsL, clean, callArgs, callFn, enumT, conv, conv0, convL, IBlk.shape, Op.operands, List.append_toArray, reduceIte, reduceCtorEq, cond_true, cond_false, Bool.or_false, Bool.or_true, Bool.and_true, Bool.and_false, Bool.and_eq_true, Bool.not_false, Nat.reduceAdd, Nat.reduceSub, Nat.reduceMul, Nat.reduceLT, Nat.reduceLeDiff, Nat.reduceEqDiff, Nat.reduceBEq, Nat.add_zero, Nat.zero_add, ne_eq, not_false_eq_true, beq_self_eq_true, true_and, and_true, and_false, and_self, false_implies, implies_true, forall_const, List.map_cons, List.map_nil, List.nil_append, List.cons_append, List.append_nil, List.all_cons, List.all_nil, Option.map_some, Option.bind_some, List.getElem?_cons_zero, List.getElem?_cons_succ, List.getD_cons_zero, List.getD_cons_succ, List.length_cons, List.length_nil, List.take_succ_cons, List.take_zero, List.take_nil, List.drop_succ_cons, List.drop_zero, List.drop_nil, ex_clo, true_or, or_self, Bool.true_eq_false, Bool.false_eq_true, tab3, tab43, tab98, hN, Int.toNat_natCast, isTs_enc, toTs_enc, isQs_enc, toQs_enc, FinH, resA, resV, SLe, SLe0, convTm, convHp, convB, sm, effH, mkHC0, mkHC1, lendM, lentM, lentI, allHere, addIds, idsB, flatIds, reach, posn, renV, renL, renB, renH, numB, subHp, fwd, bk, bwd, nones, keyOK, noSl, noSlL, flatBs, List.contains, List.elem, Option.isSome_some, List.nodup_nil, List.nodup_cons, List.not_mem_nil, List.mem_cons, Option.getD_some, lh_impl_corners_h_slices_ContainsFunc_impl_HalfPlane_impl_HalfPlane_cor, lh_impl_corners_h_slices_SortFunc_impl_RatPoint_impl_RatPoint, lh_impl_corners_h_slices_Compact_impl_RatPoint_impl_RatPoint, lh_impl_corners_h_slices_Clip_impl_RatPoint_impl_RatPoint, hs_slices_ContainsFunc_impl_HalfPlane_impl_HalfPlane_cor, hs_slices_SortFunc_impl_RatPoint_impl_RatPoint, hs_slices_Compact_impl_RatPoint_impl_RatPoint, hs_slices_Clip_impl_RatPoint_impl_RatPoint, et, g1, hw2, v1, v2, v3, v4, v5, v6, f1, f2, f3, hsg, dz, p1, p2, p3, hzz, hany]
            refine ⟨⟨by omega, by omega⟩, hs2, k + 1, id, by simp only []; omega, by simp only []; omega, ?_⟩
            simp only [hst]
            exact by simp [SLe, SLe0, convTm, convHp, convB, conv, conv0, convL, lkT, lkH, clean]
          | true =>
            rw [cy ha] at hst
            have hany : (all.any fun k => !hasH X Y D k) = false := by rw [any_not_all, ha]; rfl
            simp only [V_seq, V_skip, V_block, V_region, V_draw, V_cond, brW_false, drawW, WS_nil, pairsOf, W_nil, W_cons, effOp2, effOp3, WI_nil, WI_cons, KN_seq, KN_block, KN_back, dynOK, indB, farB, seeB, see, isStore, freshB, freshK, freshK1, ownId, heapy, asB, effOp, effPure, effPick, effNew, effAlloc, effBuildSlice, effFrz, frz, tmpsOf, effStore, effAppend, effZeros, effCall, giveUp, hasAll, Option.isSome_some, skipE, pureV, pickV, storeV, srcV, refId, binV, partV, eltV, loadV, faddrV, iaddrV, over, solid, buildL, IV.cells, ofC, strip, lkT, lkH, ISt.app, opI, gO, gB, allB, gval, wrapG, dstOK, setD, mentTm, mentHp, IV.ment, IV.mentL, partsL, eltsI, eltI, oneI, noId', lendV, lendP, lent, lentP, idsV, idsL, flat, flatL, clean, cleanL, callArgs, callFn, allLent, enumT, conv, conv0, convL, IBlk.shape, Op.operands, Call.operands, List.append_toArray, reduceIte, reduceCtorEq, cond_true, cond_false, Bool.or_false, Bool.or_true, Bool.and_true, Bool.and_false, Bool.and_eq_true, Bool.not_true, Bool.not_false, Nat.reduceAdd, Nat.reduceSub, Nat.reduceMul, Nat.reduceLT, Nat.reduceLeDiff, Nat.reduceEqDiff, Nat.reduceBEq, Nat.add_zero, Nat.zero_add, ne_eq, not_false_eq_true, beq_self_eq_true, true_and, and_true, and_false, and_self, implies_true, forall_const, List.map_cons, List.map_nil, List.nil_append, List.cons_append, List.append_nil, List.all_cons, List.all_nil, Option.some.injEq, Option.map_some, Option.bind_some, List.getElem?_cons_zero, List.getElem?_cons_succ, List.getD_cons_zero, List.getD_cons_succ, List.length_cons, List.length_nil, List.take_succ_cons, List.take_zero, List.take_nil, List.drop_succ_cons, List.drop_zero, List.drop_nil, ex_clo, or_self, Bool.true_eq_false, Bool.false_eq_true, tab3, tab43, tab51, tab60, tab98, hN, Int.toNat_natCast, encP, isTs_enc, toTs_enc, SLe0, convTm, convHp, convB, sm, effH, mkHC0, mkHC1, lendM, lentM, lentI, allHere, addIds, idsB, flatIds, reach, posn, renV, renL, renB, renH, numB, subHp, fwd, bk, bwd, nones, keyOK, noSl, noSlL, flatBs, List.contains, List.elem, Option.isSome_some, List.nodup_nil, List.nodup_cons, List.not_mem_nil, List.mem_cons, Option.getD_some, lk_impl_corners_h_impl_reduced, sp_impl_reduced, lh_impl_corners_h_impl_reduced, lh_impl_corners_h_slices_ContainsFunc_impl_HalfPlane_impl_HalfPlane_cor, hs_slices_ContainsFunc_impl_HalfPlane_impl_HalfPlane_cor, et, g1, hw2, v1, v2, v3, v4, v5, v6, f1, f2, f3, hsg, dz, p1, p2, p3, p4, r1, r2, hzz, hany, er2]
            refine ⟨⟨by omega, by omega⟩, hs2, ⟨by omega, by omega⟩, k + 1, fun x => if x = 14 then 87 else x, by simp only []; omega, by simp only []; omega, ?_⟩
            have hen : encQs (out ++ [(redR X D, redR Y D)]) = (encQs out).take out.length ++ [IV.agg [.num .i64 (redR X D).1, .num .i64 (redR X D).2, .num .i64 (redR Y D).1, .num .i64 (redR Y D).2]] := by
              rw [← encQs_app, List.take_of_length_le (Nat.le_of_eq er2)]; rfl
            simp only [hst, hen, List.length_append]
            simp [SLe, SLe0, convTm, convHp, convB, conv, conv0, convL, lkT, lkH, clean]
            exact ⟨(List.take_of_length_le (by rw [List.length_append, List.length_take]; exact Nat.le_refl _)).symm, fun id a1 a2 a3 => by omega⟩
    · have hke : k = i := by simp at h; omega
      subst hke
      rw [← hout, ← hrs]
      simp only [V_seq, V_ret, V_exit, V_region, W_nil, W_cons, effOp2, KN_seq, KN_block, KN_back, KXr_nil, KXe_nil, KXe_seq, KXe_block, KXe_back, QE, effOp, effPure, Option.isSome_some, skipE, pureV, binV, ofC, strip, lkT, lkH, ISt.app, opI, gO, gB, allB, gval, wrapG, dstOK, setD, mentTm, mentHp, IV.ment, IV.mentL, idsV, idsL, callArgs, callFn, enumT, conv, conv0, convL, IBlk.shape, Op.operands, reduceIte, reduceCtorEq, cond_true, cond_false, Bool.or_false, Bool.or_true, Bool.and_true, Nat.reduceAdd, Nat.reduceSub, Nat.reduceMul, Nat.reduceLT, Nat.reduceLeDiff, Nat.reduceEqDiff, Nat.reduceBEq, Nat.zero_add, not_false_eq_true, beq_self_eq_true, true_and, and_true, and_false, and_self, false_implies, implies_true, List.map_cons, List.map_nil, List.nil_append, List.cons_append, List.append_nil, List.all_nil, Option.map_some, List.getD_cons_zero, ex_clo, true_or, Bool.true_eq_false, Bool.false_eq_true, hN, isQs_enc, toQs_enc, FinH, resA, resV, SLe, SLe0, convTm, convHp, convB, sm, effH, mkHC0, mkHC1, lendM, lentM, lentI, allHere, addIds, idsB, flatIds, reach, posn, renV, renL, renB, renH, numB, subHp, fwd, bk, bwd, nones, keyOK, noSl, noSlL, flatBs, List.contains, List.elem, Option.isSome_some, List.nodup_nil, List.nodup_cons, List.not_mem_nil, Option.getD_some, lh_impl_corners_h_slices_SortFunc_impl_RatPoint_impl_RatPoint, lh_impl_corners_h_slices_Compact_impl_RatPoint_impl_RatPoint, lh_impl_corners_h_slices_Clip_impl_RatPoint_impl_RatPoint, hs_slices_SortFunc_impl_RatPoint_impl_RatPoint, hs_slices_Compact_impl_RatPoint_impl_RatPoint, hs_slices_Clip_impl_RatPoint_impl_RatPoint, hw]
      exact ⟨k + 1, id, by simp only []; omega, by simp only []; omega, by simp [SLe, SLe0, convTm, convHp, convB, conv, conv0, lkT, lkH, clean]⟩
  · have hie : i = all.length := by simp at h; omega
    subst hie
    have hg := hrg all.length
    have hsl := sortQ_len hg
    have z1 : (rawAll all all.length).length ≤ 1000000 := by
      have : all.length * all.length ≤ 104 * 104 := Nat.mul_le_mul (by omega) (by omega)
      omega
    have es : (encQs (sortQ (rawAll all all.length))).length = (rawAll all all.length).length := by rw [len_encQs, hsl]
    have z2 : (sortQ (rawAll all all.length)).length ≤ 1000000 := by omega
    have ec := len_encQs (cornP l)
    simp only [V_seq, V_ret, V_exit, V_region, W_nil, W_cons, effOp2, KN_seq, KXr_nil, KXe_nil, KXe_seq, KXe_block, KXe_back, QE, effOp, effPure, Option.isSome_some, skipE, pureV, strip, lkT, lkH, ISt.app, opI, gO, gB, allB, gval, wrapG, dstOK, setD, mentTm, mentHp, IV.ment, IV.mentL, idsV, idsL, callArgs, callFn, enumT, conv, conv0, convL, IBlk.shape, Op.operands, reduceIte, reduceCtorEq, cond_true, cond_false, Bool.or_false, Bool.or_true, Bool.and_true, Nat.reduceAdd, Nat.reduceSub, Nat.reduceMul, Nat.reduceLT, Nat.reduceLeDiff, Nat.reduceEqDiff, Nat.zero_add, not_false_eq_true, beq_self_eq_true, true_and, and_true, and_false, and_self, false_implies, implies_true, List.map_cons, List.map_nil, List.nil_append, List.cons_append, List.append_nil, List.all_nil, Option.map_some, List.getD_cons_zero, ex_clo, true_or, Bool.true_eq_false, Bool.false_eq_true, hN, isQs_enc, toQs_enc, FinH, resA, resV, SLe, SLe0, convTm, convHp, convB, sm, effH, mkHC0, mkHC1, lendM, lentM, lentI, allHere, addIds, idsB, flatIds, reach, posn, renV, renL, renB, renH, numB, subHp, fwd, bk, bwd, nones, keyOK, noSl, noSlL, flatBs, List.contains, List.elem, Option.isSome_some, List.nodup_nil, List.nodup_cons, List.not_mem_nil, Option.getD_some, lh_impl_corners_h_slices_SortFunc_impl_RatPoint_impl_RatPoint, lh_impl_corners_h_slices_Compact_impl_RatPoint_impl_RatPoint, lh_impl_corners_h_slices_Clip_impl_RatPoint_impl_RatPoint, hs_slices_SortFunc_impl_RatPoint_impl_RatPoint, hs_slices_Compact_impl_RatPoint_impl_RatPoint, hs_slices_Clip_impl_RatPoint_impl_RatPoint, er, z1, es, z2, ← hcp, ec]
    have t1 : encQs (rawAll all all.length) = (encQs (rawAll all all.length)).take (rawAll all all.length).length := (List.take_of_length_le (by omega)).symm
    have t2 : encQs (sortQ (rawAll all all.length)) = (encQs (sortQ (rawAll all all.length))).take (rawAll all all.length).length := (List.take_of_length_le (by omega)).symm
    have t3 : encQs (cornP l) = (encQs (cornP l)).take (cornP l).length := (List.take_of_length_le (by omega)).symm
    exact ⟨⟨t1, hg, t2⟩, ⟨t2, t3⟩, ⟨t3, Nat.le_refl _, t3⟩, fun x => if x = 0 then 14 else x, by simp; omega⟩
def hs_impl_corners_h : HSpec := ⟨[true], fun xs hp => match xs, hp with | [.sl 3 es], [] => (isTs es) ∧ ((fun (l : List Tr) => ∀ k ∈ l, smH k) (toTs es)) ∧ ((fun (l : List Tr) => l.length ≤ 100) (toTs es)) | _, _ => False, fun xs hp => match xs, hp with | [.sl 3 es], [] => (fun (l : List Tr) => (.ref 0 0 (cornP l).length false : IV)) (toTs es) | _, _ => .junk, fun xs hp => match xs, hp with | [.sl 3 es], [] => (fun (l : List Tr) => ([(0, .arr 4 60 (encQs (cornP l)))] : List (Nat × IBlk))) (toTs es) | _, _ => []⟩
theorem hk_impl_corners_h : ∀ args hp, hs_impl_corners_h.pre args hp → HCall Try.prog 94 args (sm hp) (hs_impl_corners_h.val args hp) (sm (hs_impl_corners_h.hval args hp)) := by
  intro args hp h
  unfold hs_impl_corners_h at h ⊢; simp only at h ⊢; split at h
  · obtain ⟨h1, h2, h3⟩ := h; obtain ⟨l, rfl⟩ := isT_ex h1; rw [toTs_enc] at *; exact c_impl_corners_h l h2 h3
  · exact h.elim
theorem en_impl_corners_h : Enters Try.prog 94 := enters_of Try.func94 (by kernel_rfl) rfl

end Go.Proofs.Ytemppebemahkoaa
