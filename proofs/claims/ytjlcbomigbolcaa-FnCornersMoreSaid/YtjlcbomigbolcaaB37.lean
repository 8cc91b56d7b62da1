/- Contracts: points in regions; the laws on corners and on more half-planes: the walks. -/
import Derived.Test.YtjlcbomigbolcaaB34
import Derived.Test.YtjlcbomigbolcaaPl19
set_option linter.unusedVariables false
set_option linter.unusedSimpArgs false
set_option maxHeartbeats 1600000
set_option maxRecDepth 100000
namespace Go.Proofs.Ytjlcbomigbolcaa
open Go Go.Ideal Go.Pl Go.Sort

theorem okP_in9 {p : Pt} (h : okP p = true) : (-1000 ≤ p.1 ∧ p.1 ≤ 1000) ∧ (-1000 ≤ p.2 ∧ p.2 ≤ 1000) := by
  simp only [okP, inR, Bool.and_eq_true, decide_eq_true_eq] at h; exact h
def g_impl_InRegion_1 : List (Nat × PSpec) := [(73, sp_impl_HalfPlane_has)]
theorem gok_impl_InRegion_1 : GOK Try.prog g_impl_InRegion_1 := gok_cons gk_impl_HalfPlane_has en_impl_HalfPlane_has (gok0)
theorem lk_impl_InRegion_1_impl_HalfPlane_has : lkG g_impl_InRegion_1 73 = sp_impl_HalfPlane_has := rfl
def h_impl_InRegion_1 : List (Nat × HSpec) := []
theorem hok_impl_InRegion_1 : HOK Try.prog h_impl_InRegion_1 := hok0
theorem c_impl_InRegion_1 (h : Tr) (p : Pt) (hs : smH h) (hx : -1000 ≤ p.1 ∧ p.1 ≤ 1000) (hy : -1000 ≤ p.2 ∧ p.2 ≤ 1000) : HCall Try.prog 72 [.agg [.num .i64 h.1, .num .i64 h.2.1, .num .i64 h.2.2], .ptr 1000 0] (sm ([(1000, .box 30 [.num .i64 p.1, .num .i64 p.2])])) (.bool (!hasH p.1 p.2 1 h)) (sm ([(1000, .box 30 [.num .i64 p.1, .num .i64 p.2])])) := by
  refine hcall_V (G := g_impl_InRegion_1) (H := []) [] tabOK mixed gok_impl_InRegion_1 hok_impl_InRegion_1 Try.func72 rfl Try.ntmps72 Try.results72 rfl (by kernel_rfl) fun F hN hlen => ?_
  simp only [sm]
  have z1 : -20000000000 ≤ p.1 ∧ p.1 ≤ 20000000000 := by omega
  have z2 : -20000000000 ≤ p.2 ∧ p.2 ≤ 20000000000 := by omega
  have z3 : -20000000 ≤ (1 : Int) ∧ (1 : Int) ≤ 20000000 := by omega
  simp only [V_seq, V_ret, V_region, W_nil, W_cons, effOp2, KN_seq, KXr_nil, QE, effOp, effPure, effNew, effBox, effCall, giveUp, hasAll, skipE, pureV, partV, loadV, faddrV, solid, IV.cells, ofC, strip, lkT, lkH, ISt.app, opI, gO, gB, allB, gval, wrapG, dstOK, setD, mentTm, mentHp, IV.ment, IV.mentL, oneI, lendV, lendP, lent, lentP, idsV, idsL, lkHS, flat, clean, callArgs, callFn, allLent, enumT, conv, conv0, IBlk.shape, Op.operands, reduceIte, reduceCtorEq, cond_true, Bool.or_false, Bool.and_true, Bool.not_true, Nat.reduceAdd, Nat.reduceLT, Nat.reduceLeDiff, Nat.reduceEqDiff, Nat.reduceBEq, Nat.add_zero, Nat.zero_add, true_and, and_true, and_false, and_self, false_implies, implies_true, List.map_cons, List.map_nil, List.nil_append, List.cons_append, List.append_nil, List.all_cons, List.all_nil, Option.map_some, List.getD_cons_zero, List.getD_cons_succ, List.length_cons, List.length_nil, List.take_succ_cons, List.take_zero, List.take_nil, List.drop_succ_cons, List.drop_zero, ex_clo, or_self, tab3, tab30, tab92, hN, pe, FinH, resA, resV, SLe, SLe0, convTm, convHp, convB, lk_impl_InRegion_1_impl_HalfPlane_has, sp_impl_HalfPlane_has, hs, z1, z2, z3]
  exact ⟨id, by simp [convL, conv, conv0, clean]⟩
def hs_impl_InRegion_1 : HSpec := ⟨[false, false], fun xs hp => match xs, hp with | [.agg [.num .i64 h1, .num .i64 h2, .num .i64 h3], .ptr 1000 0], [(1000, .box ty [.num .i64 p1, .num .i64 p2])] => (ty = 30) ∧ ((fun (h : Tr) (p : Pt) => smH h) (h1, h2, h3) (p1, p2)) ∧ ((fun (h : Tr) (p : Pt) => -1000 ≤ p.1 ∧ p.1 ≤ 1000) (h1, h2, h3) (p1, p2)) ∧ ((fun (h : Tr) (p : Pt) => -1000 ≤ p.2 ∧ p.2 ≤ 1000) (h1, h2, h3) (p1, p2)) | _, _ => False, fun xs hp => match xs, hp with | [.agg [.num .i64 h1, .num .i64 h2, .num .i64 h3], .ptr 1000 0], [(1000, .box ty [.num .i64 p1, .num .i64 p2])] => (fun (h : Tr) (p : Pt) => (.bool (!hasH p.1 p.2 1 h) : IV)) (h1, h2, h3) (p1, p2) | _, _ => .junk, fun xs hp => match xs, hp with | [.agg [.num .i64 h1, .num .i64 h2, .num .i64 h3], .ptr 1000 0], [(1000, .box ty [.num .i64 p1, .num .i64 p2])] => (fun (h : Tr) (p : Pt) => ([(1000, .box 30 [.num .i64 p.1, .num .i64 p.2])] : List (Nat × IBlk))) (h1, h2, h3) (p1, p2) | _, _ => []⟩
theorem hk_impl_InRegion_1 : ∀ args hp, hs_impl_InRegion_1.pre args hp → HCall Try.prog 72 args (sm hp) (hs_impl_InRegion_1.val args hp) (sm (hs_impl_InRegion_1.hval args hp)) := by
  intro args hp h
  unfold hs_impl_InRegion_1 at h ⊢; simp only at h ⊢; split at h
  · obtain ⟨rfl, h4, h5, h6⟩ := h; exact c_impl_InRegion_1 (_, _, _) (_, _) h4 h5 h6
  · exact h.elim
theorem en_impl_InRegion_1 : Enters Try.prog 72 := enters_of Try.func72 (by kernel_rfl) rfl

def g_slices_IndexFunc_impl_HalfPlane_impl_HalfPlane_inr : List (Nat × PSpec) := []
theorem gok_slices_IndexFunc_impl_HalfPlane_impl_HalfPlane_inr : GOK Try.prog g_slices_IndexFunc_impl_HalfPlane_impl_HalfPlane_inr := gok0
def h_slices_IndexFunc_impl_HalfPlane_impl_HalfPlane_inr : List (Nat × HSpec) := [(72, hs_impl_InRegion_1)]
theorem hok_slices_IndexFunc_impl_HalfPlane_impl_HalfPlane_inr : HOK Try.prog h_slices_IndexFunc_impl_HalfPlane_impl_HalfPlane_inr := hok_cons hk_impl_InRegion_1 en_impl_InRegion_1 (hok0)
theorem lh_slices_IndexFunc_impl_HalfPlane_impl_HalfPlane_inr_impl_InRegion_1 : lkHS h_slices_IndexFunc_impl_HalfPlane_impl_HalfPlane_inr 72 = some hs_impl_InRegion_1 := rfl
theorem c_slices_IndexFunc_impl_HalfPlane_impl_HalfPlane_inr (m : List Tr) (p : Pt) (hs : ∀ k ∈ m, smH k) (hx : -1000 ≤ p.1 ∧ p.1 ≤ 1000) (hy : -1000 ≤ p.2 ∧ p.2 ≤ 1000) (hsz : m.length ≤ 1000000) : HCall Try.prog 152 [.sl 3 (encTs m), .clo 72 [.ptr 1000 0]] (sm ([(1000, .box 30 [.num .i64 p.1, .num .i64 p.2])])) (.num .i64 (idxF (fun k => !hasH p.1 p.2 1 k) m 0)) (sm ([(1000, .box 30 [.num .i64 p.1, .num .i64 p.2])])) := by
  refine hcall_V (G := g_slices_IndexFunc_impl_HalfPlane_impl_HalfPlane_inr) (H := h_slices_IndexFunc_impl_HalfPlane_impl_HalfPlane_inr) [] tabOK mixed gok_slices_IndexFunc_impl_HalfPlane_impl_HalfPlane_inr hok_slices_IndexFunc_impl_HalfPlane_impl_HalfPlane_inr Try.func152 rfl Try.ntmps152 Try.results152 rfl (by kernel_rfl) fun F hN hlen => ?_
  simp only [sm]
  have el := len_encTs m
  simp only [V_seq, V_block, V_region, W_nil, W_cons, effOp2, KN_seq, effOp, effPure, pureV, lenV, ofC, strip, lkT, ISt.app, opI, gO, gB, allB, gval, wrapG, dstOK, setD, enumT, Op.operands, Call.operands, List.append_toArray, reduceIte, reduceCtorEq, Nat.reduceLT, Nat.reduceEqDiff, Nat.zero_add, ne_eq, not_false_eq_true, true_and, and_self, implies_true, List.nil_append, List.cons_append, tab23, hN, el]
  refine V_loop (α := Nat) ⟨tabOK, mixed, gok_slices_IndexFunc_impl_HalfPlane_impl_HalfPlane_inr, hok_slices_IndexFunc_impl_HalfPlane_impl_HalfPlane_inr⟩ (by kernel_rfl) (fun i => i ≤ m.length ∧ idxF (fun k => !hasH p.1 p.2 1 k) m 0 = idxF (fun k => !hasH p.1 p.2 1 k) (m.drop i) i)
    (fun i => ⟨[(8, .num .i64 i), (7, .num .i64 m.length), (0, .sl 3 (encTs m)), (1, .clo 72 [.ptr 1000 0])], [(1000, some (.box 30 [.num .i64 p.1, .num .i64 p.2]))]⟩) (fun i => m.length - i) 0 id (by simp) (by simp [SLe, SLe0, convTm, convHp, convB, conv, conv0, convL, lkT, lkH, clean]) ?_
  rintro i ⟨hi2, hj⟩
  simp only [V_seq, V_region, V_cond, W_nil, W_cons, effOp2, KN_seq, asB, effOp, effPure, pureV, binV, strip, lkT, ISt.app, opI, gO, gB, allB, gval, wrapG, dstOK, setD, Op.operands, reduceIte, reduceCtorEq, Nat.reduceLT, Nat.reduceEqDiff, true_and, and_self, implies_true, List.nil_append, List.cons_append, hN]
  refine brW_some (fun h => ?_) (fun h => ?_)
  · have hi' : i < m.length := by simpa using h
    have g0 := getD_encTs hi'
    have hw := wr_succ hi' (by rw [maxLen_eq]; omega)
    have hst := idxF_step (p := fun k => !hasH p.1 p.2 1 k) (d := (0, 0, 0)) hi'
    have hb : smH (tAt m i) := hs _ (by rw [tAt, List.getD, List.getElem?_eq_getElem hi']; exact List.getElem_mem hi')
    have hpt : m.getD i (0, 0, 0) = tAt m i := rfl
    rw [hpt] at hst
    generalize tAt m i = z at *
    simp only [V_seq, V_skip, V_block, V_region, V_cond, W_nil, W_cons, effOp2, KN_seq, asB, effOp, effPure, Option.isSome_some, skipE, pureV, partV, eltV, loadV, iaddrV, strip, lkT, lkH, ISt.app, opI, gO, gB, allB, gval, wrapG, dstOK, setD, mentTm, mentHp, IV.ment, IV.mentL, idsV, idsL, clean, callArgs, callFn, enumT, conv, conv0, convL, IBlk.shape, Op.operands, reduceIte, reduceCtorEq, cond_true, cond_false, Bool.or_false, Bool.or_true, Bool.and_true, Nat.reduceAdd, Nat.reduceSub, Nat.reduceMul, Nat.reduceLT, Nat.reduceLeDiff, Nat.reduceEqDiff, Nat.zero_add, ne_eq, not_false_eq_true, beq_self_eq_true, true_and, and_true, and_false, and_self, implies_true, forall_const, List.map_cons, List.map_nil, List.nil_append, List.cons_append, List.append_nil, List.all_nil, Option.map_some, List.getD_cons_zero, List.length_cons, List.length_nil, List.take_succ_cons, List.take_nil, List.drop_zero, ex_clo, or_self, Bool.true_eq_false, tab23, tab92, hN, pe, Int.toNat_natCast, SLe0, convTm, convHp, convB, sm, effH, mkHC0, mkHC1, lendM, lentM, lentI, allHere, addIds, idsB, flatIds, reach, posn, renV, renL, renB, renH, numB, subHp, fwd, bk, bwd, nones, keyOK, noSl, noSlL, flatBs, List.contains, List.elem, Option.isSome_some, List.nodup_nil, List.nodup_cons, List.not_mem_nil, Option.getD_some, lh_slices_IndexFunc_impl_HalfPlane_impl_HalfPlane_inr_impl_InRegion_1, hs_impl_InRegion_1, el, g0, hb, hx, hy]
    refine ⟨⟨by omega, by omega⟩, brW_some (fun h => ?_) (fun h => ?_)⟩
    · rw [if_pos h, ← hj] at hst
      simp only [V_seq, V_ret, V_region, W_nil, W_cons, effOp2, KN_seq, KXr_nil, KXr_seq, KXr_block, KXr_back, QE, effOp, effPure, pureV, strip, lkT, lkH, ISt.app, opI, gO, gB, allB, gval, wrapG, dstOK, setD, clean, conv, conv0, Op.operands, reduceIte, reduceCtorEq, Nat.reduceLT, Nat.reduceEqDiff, not_false_eq_true, true_and, and_true, and_self, false_implies, implies_true, List.map_cons, List.map_nil, List.nil_append, List.cons_append, hN, FinH, resA, resV, SLe, SLe0, convTm, convHp, convB, List.nodup_nil, List.nodup_cons, List.not_mem_nil, hst]
      exact ⟨id, by simp [convL, conv, conv0, clean]⟩
    · rw [if_neg (by rw [h]; decide), ← hj] at hst
      simp only [V_skip, V_region, W_nil, W_cons, effOp2, KN_seq, KN_block, KN_back, effOp, effPure, pureV, binV, ofC, strip, lkT, ISt.app, opI, gO, gB, allB, gval, wrapG, dstOK, setD, Op.operands, reduceIte, reduceCtorEq, Nat.reduceLT, Nat.reduceEqDiff, true_and, and_self, implies_true, List.nil_append, List.cons_append, hN, hw]
      exact ⟨i + 1, id, ⟨by omega, hst⟩, by simp only []; omega, by simp [SLe, SLe0, convTm, convHp, convB, conv, conv0, convL, lkT, lkH, clean]⟩
  · have hie : i = m.length := by simp at h; omega
    subst hie
    rw [List.drop_length] at hj
    simp only [V_seq, V_ret, V_exit, V_region, W_nil, W_cons, effOp2, KN_seq, KXr_nil, KXe_nil, KXe_seq, KXe_block, KXe_back, QE, effOp, effPure, pureV, ofC, strip, lkT, lkH, ISt.app, opI, gO, gB, allB, gval, wrapG, dstOK, setD, clean, conv, conv0, Op.operands, reduceIte, reduceCtorEq, Nat.reduceLT, Nat.reduceEqDiff, not_false_eq_true, true_and, and_true, and_self, false_implies, implies_true, List.map_cons, List.map_nil, List.nil_append, List.cons_append, hN, FinH, resA, resV, SLe, SLe0, convTm, convHp, convB, List.nodup_nil, List.nodup_cons, List.not_mem_nil, hj, idxF]
    exact ⟨id, by simp [convL, conv, conv0, clean]⟩
def hs_slices_IndexFunc_impl_HalfPlane_impl_HalfPlane_inr : HSpec := ⟨[true, false], fun xs hp => match xs, hp with | [.sl 3 ms, .clo 72 [.ptr 1000 0]], [(1000, .box ty [.num .i64 p1, .num .i64 p2])] => (isTs ms) ∧ (ty = 30) ∧ ((fun (m : List Tr) (p : Pt) => ∀ k ∈ m, smH k) (toTs ms) (p1, p2)) ∧ ((fun (m : List Tr) (p : Pt) => -1000 ≤ p.1 ∧ p.1 ≤ 1000) (toTs ms) (p1, p2)) ∧ ((fun (m : List Tr) (p : Pt) => -1000 ≤ p.2 ∧ p.2 ≤ 1000) (toTs ms) (p1, p2)) ∧ ((fun (m : List Tr) (p : Pt) => m.length ≤ 1000000) (toTs ms) (p1, p2)) | _, _ => False, fun xs hp => match xs, hp with | [.sl 3 ms, .clo 72 [.ptr 1000 0]], [(1000, .box ty [.num .i64 p1, .num .i64 p2])] => (fun (m : List Tr) (p : Pt) => (.num .i64 (idxF (fun k => !hasH p.1 p.2 1 k) m 0) : IV)) (toTs ms) (p1, p2) | _, _ => .junk, fun xs hp => match xs, hp with | [.sl 3 ms, .clo 72 [.ptr 1000 0]], [(1000, .box ty [.num .i64 p1, .num .i64 p2])] => (fun (m : List Tr) (p : Pt) => ([(1000, .box 30 [.num .i64 p.1, .num .i64 p.2])] : List (Nat × IBlk))) (toTs ms) (p1, p2) | _, _ => []⟩
theorem hk_slices_IndexFunc_impl_HalfPlane_impl_HalfPlane_inr : ∀ args hp, hs_slices_IndexFunc_impl_HalfPlane_impl_HalfPlane_inr.pre args hp → HCall Try.prog 152 args (sm hp) (hs_slices_IndexFunc_impl_HalfPlane_impl_HalfPlane_inr.val args hp) (sm (hs_slices_IndexFunc_impl_HalfPlane_impl_HalfPlane_inr.hval args hp)) := by
  intro args hp h
  unfold hs_slices_IndexFunc_impl_HalfPlane_impl_HalfPlane_inr at h ⊢; simp only at h ⊢; split at h
  · obtain ⟨h0, rfl, h4, h5, h6, h7⟩ := h; obtain ⟨m, rfl⟩ := isT_ex h0; rw [toTs_enc] at *; exact c_slices_IndexFunc_impl_HalfPlane_impl_HalfPlane_inr m (_, _) h4 h5 h6 h7
  · exact h.elim
theorem en_slices_IndexFunc_impl_HalfPlane_impl_HalfPlane_inr : Enters Try.prog 152 := enters_of Try.func152 (by kernel_rfl) rfl

def g_slices_ContainsFunc_impl_HalfPlane_impl_HalfPlane_inr : List (Nat × PSpec) := []
theorem gok_slices_ContainsFunc_impl_HalfPlane_impl_HalfPlane_inr : GOK Try.prog g_slices_ContainsFunc_impl_HalfPlane_impl_HalfPlane_inr := gok0
def h_slices_ContainsFunc_impl_HalfPlane_impl_HalfPlane_inr : List (Nat × HSpec) := [(152, hs_slices_IndexFunc_impl_HalfPlane_impl_HalfPlane_inr)]
theorem hok_slices_ContainsFunc_impl_HalfPlane_impl_HalfPlane_inr : HOK Try.prog h_slices_ContainsFunc_impl_HalfPlane_impl_HalfPlane_inr := hok_cons hk_slices_IndexFunc_impl_HalfPlane_impl_HalfPlane_inr en_slices_IndexFunc_impl_HalfPlane_impl_HalfPlane_inr (hok0)
theorem lh_slices_ContainsFunc_impl_HalfPlane_impl_HalfPlane_inr_slices_IndexFunc_impl_HalfPlane_impl_HalfPlane_inr : lkHS h_slices_ContainsFunc_impl_HalfPlane_impl_HalfPlane_inr 152 = some hs_slices_IndexFunc_impl_HalfPlane_impl_HalfPlane_inr := rfl
theorem c_slices_ContainsFunc_impl_HalfPlane_impl_HalfPlane_inr (m : List Tr) (p : Pt) (hs : ∀ k ∈ m, smH k) (hx : -1000 ≤ p.1 ∧ p.1 ≤ 1000) (hy : -1000 ≤ p.2 ∧ p.2 ≤ 1000) (hsz : m.length ≤ 1000000) : HCall Try.prog 68 [.sl 3 (encTs m), .clo 72 [.ptr 1000 0]] (sm ([(1000, .box 30 [.num .i64 p.1, .num .i64 p.2])])) (.bool (m.any fun k => !hasH p.1 p.2 1 k)) (sm ([(1000, .box 30 [.num .i64 p.1, .num .i64 p.2])])) := by
  refine hcall_V (G := g_slices_ContainsFunc_impl_HalfPlane_impl_HalfPlane_inr) (H := h_slices_ContainsFunc_impl_HalfPlane_impl_HalfPlane_inr) [] tabOK mixed gok_slices_ContainsFunc_impl_HalfPlane_impl_HalfPlane_inr hok_slices_ContainsFunc_impl_HalfPlane_impl_HalfPlane_inr Try.func68 rfl Try.ntmps68 Try.results68 rfl (by kernel_rfl) fun F hN hlen => ?_
  simp only [sm]
  simp only [V_seq, V_ret, V_region, W_nil, W_cons, effOp2, KN_seq, KXr_nil, QE, effOp, effPure, Option.isSome_some, skipE, pureV, binV, ofC, strip, lkT, lkH, ISt.app, opI, gO, gB, allB, gval, wrapG, dstOK, setD, mentTm, mentHp, IV.ment, IV.mentL, lendV, lendP, lent, lentP, idsV, idsL, clean, callArgs, callFn, enumT, conv, conv0, convL, IBlk.shape, Op.operands, reduceIte, reduceCtorEq, cond_true, cond_false, Bool.or_false, Bool.or_true, Bool.and_true, Nat.reduceAdd, Nat.reduceSub, Nat.reduceMul, Nat.reduceLT, Nat.reduceLeDiff, Nat.reduceEqDiff, Nat.zero_add, not_false_eq_true, beq_self_eq_true, true_and, and_true, and_false, and_self, false_implies, implies_true, List.map_cons, List.map_nil, List.nil_append, List.cons_append, List.append_nil, List.all_nil, Option.map_some, List.getD_cons_zero, ex_clo, or_self, Bool.true_eq_false, hN, isTs_enc, toTs_enc, FinH, resA, resV, SLe, SLe0, convTm, convHp, convB, sm, effH, mkHC0, mkHC1, lendM, lentM, lentI, allHere, addIds, idsB, flatIds, reach, posn, renV, renL, renB, renH, numB, subHp, fwd, bk, bwd, nones, keyOK, noSl, noSlL, flatBs, List.contains, List.elem, Option.isSome_some, List.nodup_nil, List.nodup_cons, List.not_mem_nil, Option.getD_some, lh_slices_ContainsFunc_impl_HalfPlane_impl_HalfPlane_inr_slices_IndexFunc_impl_HalfPlane_impl_HalfPlane_inr, hs_slices_IndexFunc_impl_HalfPlane_impl_HalfPlane_inr, hx, hy, hsz, idxF_sign]
  exact ⟨hs, id, by simp [convL, conv, conv0, clean]⟩
def hs_slices_ContainsFunc_impl_HalfPlane_impl_HalfPlane_inr : HSpec := ⟨[true, false], fun xs hp => match xs, hp with | [.sl 3 ms, .clo 72 [.ptr 1000 0]], [(1000, .box ty [.num .i64 p1, .num .i64 p2])] => (isTs ms) ∧ (ty = 30) ∧ ((fun (m : List Tr) (p : Pt) => ∀ k ∈ m, smH k) (toTs ms) (p1, p2)) ∧ ((fun (m : List Tr) (p : Pt) => -1000 ≤ p.1 ∧ p.1 ≤ 1000) (toTs ms) (p1, p2)) ∧ ((fun (m : List Tr) (p : Pt) => -1000 ≤ p.2 ∧ p.2 ≤ 1000) (toTs ms) (p1, p2)) ∧ ((fun (m : List Tr) (p : Pt) => m.length ≤ 1000000) (toTs ms) (p1, p2)) | _, _ => False, fun xs hp => match xs, hp with | [.sl 3 ms, .clo 72 [.ptr 1000 0]], [(1000, .box ty [.num .i64 p1, .num .i64 p2])] => (fun (m : List Tr) (p : Pt) => (.bool (m.any fun k => !hasH p.1 p.2 1 k) : IV)) (toTs ms) (p1, p2) | _, _ => .junk, fun xs hp => match xs, hp with | [.sl 3 ms, .clo 72 [.ptr 1000 0]], [(1000, .box ty [.num .i64 p1, .num .i64 p2])] => (fun (m : List Tr) (p : Pt) => ([(1000, .box 30 [.num .i64 p.1, .num .i64 p.2])] : List (Nat × IBlk))) (toTs ms) (p1, p2) | _, _ => []⟩
theorem hk_slices_ContainsFunc_impl_HalfPlane_impl_HalfPlane_inr : ∀ args hp, hs_slices_ContainsFunc_impl_HalfPlane_impl_HalfPlane_inr.pre args hp → HCall Try.prog 68 args (sm hp) (hs_slices_ContainsFunc_impl_HalfPlane_impl_HalfPlane_inr.val args hp) (sm (hs_slices_ContainsFunc_impl_HalfPlane_impl_HalfPlane_inr.hval args hp)) := by
  intro args hp h
  unfold hs_slices_ContainsFunc_impl_HalfPlane_impl_HalfPlane_inr at h ⊢; simp only at h ⊢; split at h
  · obtain ⟨h0, rfl, h4, h5, h6, h7⟩ := h; obtain ⟨m, rfl⟩ := isT_ex h0; rw [toTs_enc] at *; exact c_slices_ContainsFunc_impl_HalfPlane_impl_HalfPlane_inr m (_, _) h4 h5 h6 h7
  · exact h.elim
theorem en_slices_ContainsFunc_impl_HalfPlane_impl_HalfPlane_inr : Enters Try.prog 68 := enters_of Try.func68 (by kernel_rfl) rfl

/-- Is a point in a region? -/
def inRegB (l : List Tr) (p : Pt) : Bool := okHs l && (okP p && l.all (hasH p.1 p.2 1))
def g_impl_InRegion : List (Nat × PSpec) := [(19, sp_impl_ValidHalves), (71, sp_impl_Point_valid)]
theorem gok_impl_InRegion : GOK Try.prog g_impl_InRegion := gok_cons gk_impl_ValidHalves en_impl_ValidHalves (gok_cons gk_impl_Point_valid en_impl_Point_valid (gok0))
theorem lk_impl_InRegion_impl_ValidHalves : lkG g_impl_InRegion 19 = sp_impl_ValidHalves := rfl
theorem lk_impl_InRegion_impl_Point_valid : lkG g_impl_InRegion 71 = sp_impl_Point_valid := rfl
def h_impl_InRegion : List (Nat × HSpec) := [(68, hs_slices_ContainsFunc_impl_HalfPlane_impl_HalfPlane_inr)]
theorem hok_impl_InRegion : HOK Try.prog h_impl_InRegion := hok_cons hk_slices_ContainsFunc_impl_HalfPlane_impl_HalfPlane_inr en_slices_ContainsFunc_impl_HalfPlane_impl_HalfPlane_inr (hok0)
theorem lh_impl_InRegion_impl_ValidHalves : lkHS h_impl_InRegion 19 = none := rfl
theorem lh_impl_InRegion_impl_Point_valid : lkHS h_impl_InRegion 71 = none := rfl
theorem lh_impl_InRegion_slices_ContainsFunc_impl_HalfPlane_impl_HalfPlane_inr : lkHS h_impl_InRegion 68 = some hs_slices_ContainsFunc_impl_HalfPlane_impl_HalfPlane_inr := rfl
theorem c_impl_InRegion (l : List Tr) (p : Pt)  : ICall Try.prog 20 [.sl 3 (encTs l), encP p] (.bool (inRegB l p)) := by
  refine icall_V (G := g_impl_InRegion) (H := h_impl_InRegion) [] tabOK mixed gok_impl_InRegion hok_impl_InRegion Try.func20 rfl Try.ntmps20 Try.results20 rfl (by kernel_rfl) fun F hN hlen => ?_
  have hv : inRegB l p = (okHs l && (okP p && l.all (hasH p.1 p.2 1))) := rfl
  cases h1 : okHs l with
  | false =>
    rw [h1, Bool.false_and] at hv
    simp only [V_seq, V_ret, V_region, W_nil, W_cons, effOp2, KN_seq, KXr_nil, QE, effOp, effPure, effPick, effNew, effBox, effCall, giveUp, hasAll, Option.isSome_some, skipE, pureV, pickV, partV, loadV, solid, IV.cells, ofC, strip, lkT, lkH, ISt.app, opI, gO, gB, allB, gval, wrapG, dstOK, setD, mentTm, mentHp, IV.ment, IV.mentL, oneI, lendV, lendP, lent, lentP, idsV, idsL, flat, clean, callArgs, callFn, allLent, enumT, Gives, Ideal.Fin, conv, conv0, convL, IBlk.shape, Op.operands, List.append_toArray, reduceIte, reduceCtorEq, cond_true, cond_false, Bool.or_false, Bool.or_true, Bool.and_true, Bool.not_true, Bool.not_false, Nat.reduceAdd, Nat.reduceSub, Nat.reduceMul, Nat.reduceLT, Nat.reduceLeDiff, Nat.reduceEqDiff, Nat.zero_add, not_false_eq_true, beq_self_eq_true, true_and, and_true, false_and, and_false, and_self, false_implies, implies_true, List.map_cons, List.map_nil, List.nil_append, List.cons_append, List.append_nil, List.all_cons, List.all_nil, Option.map_some, Option.bind_some, List.getElem?_cons_zero, List.getElem?_cons_succ, List.getD_cons_zero, List.length_cons, List.length_nil, List.take_succ_cons, List.take_nil, List.drop_zero, ex_clo, bft, or_self, Bool.true_eq_false, Bool.false_eq_true, tab30, hN, pe, encP, isTs_enc, toTs_enc, SLe0, convTm, convHp, convB, sm, effH, mkHC0, mkHC1, lendM, lentM, lentI, allHere, addIds, idsB, flatIds, reach, posn, renV, renL, renB, renH, numB, subHp, fwd, bk, bwd, nones, keyOK, noSl, noSlL, flatBs, List.contains, List.elem, Option.isSome_some, List.nodup_nil, List.nodup_cons, List.not_mem_nil, Option.getD_some, lk_impl_InRegion_impl_ValidHalves, lk_impl_InRegion_impl_Point_valid, sp_impl_ValidHalves, sp_impl_Point_valid, lh_impl_InRegion_impl_ValidHalves, lh_impl_InRegion_impl_Point_valid, lh_impl_InRegion_slices_ContainsFunc_impl_HalfPlane_impl_HalfPlane_inr, hs_slices_ContainsFunc_impl_HalfPlane_impl_HalfPlane_inr, h1, hv]
  | true =>
    have hs := okHs_sm h1
    have hz : l.length ≤ 1000000 := by have := okHs_len h1; omega
    cases h2 : okP p with
    | false =>
      rw [h1, h2] at hv
      simp only [V_seq, V_ret, V_region, W_nil, W_cons, effOp2, KN_seq, KXr_nil, QE, effOp, effPure, effPick, effNew, effBox, effCall, giveUp, hasAll, Option.isSome_some, skipE, pureV, pickV, partV, loadV, solid, IV.cells, ofC, strip, lkT, lkH, ISt.app, opI, gO, gB, allB, gval, wrapG, dstOK, setD, mentTm, mentHp, IV.ment, IV.mentL, oneI, lendV, lendP, lent, lentP, idsV, idsL, flat, clean, callArgs, callFn, allLent, enumT, Gives, Ideal.Fin, conv, conv0, convL, IBlk.shape, Op.operands, List.append_toArray, reduceIte, reduceCtorEq, cond_true, cond_false, Bool.or_false, Bool.or_true, Bool.and_true, Bool.and_false, Bool.false_and, Bool.not_true, Nat.reduceAdd, Nat.reduceSub, Nat.reduceMul, Nat.reduceLT, Nat.reduceLeDiff, Nat.reduceEqDiff, Nat.zero_add, not_false_eq_true, beq_self_eq_true, true_and, and_true, false_and, and_false, and_self, false_implies, implies_true, List.map_cons, List.map_nil, List.nil_append, List.cons_append, List.append_nil, List.all_cons, List.all_nil, Option.map_some, Option.bind_some, List.getElem?_cons_zero, List.getElem?_cons_succ, List.getD_cons_zero, List.length_cons, List.length_nil, List.take_succ_cons, List.take_nil, List.drop_zero, ex_clo, bft, or_self, Bool.true_eq_false, Bool.false_eq_true, tab30, hN, pe, encP, isTs_enc, toTs_enc, SLe0, convTm, convHp, convB, sm, effH, mkHC0, mkHC1, lendM, lentM, lentI, allHere, addIds, idsB, flatIds, reach, posn, renV, renL, renB, renH, numB, subHp, fwd, bk, bwd, nones, keyOK, noSl, noSlL, flatBs, List.contains, List.elem, Option.isSome_some, List.nodup_nil, List.nodup_cons, List.not_mem_nil, Option.getD_some, lk_impl_InRegion_impl_ValidHalves, lk_impl_InRegion_impl_Point_valid, sp_impl_ValidHalves, sp_impl_Point_valid, lh_impl_InRegion_impl_ValidHalves, lh_impl_InRegion_impl_Point_valid, lh_impl_InRegion_slices_ContainsFunc_impl_HalfPlane_impl_HalfPlane_inr, hs_slices_ContainsFunc_impl_HalfPlane_impl_HalfPlane_inr, h1, h2, hv]
    | true =>
      obtain ⟨hx, hy⟩ := okP_in9 h2
      rw [h1, h2, List.all_eq_not_any_not] at hv
      simp only [V_seq, V_ret, V_region, W_nil, W_cons, effOp2, KN_seq, KXr_nil, QE, effOp, effPure, effPick, effNew, effBox, effCall, giveUp, hasAll, Option.isSome_some, skipE, pureV, pickV, partV, loadV, solid, IV.cells, ofC, strip, lkT, lkH, ISt.app, opI, gO, gB, allB, gval, wrapG, dstOK, setD, mentTm, mentHp, IV.ment, IV.mentL, oneI, lendV, lendP, lent, lentP, idsV, idsL, flat, clean, callArgs, callFn, allLent, enumT, Gives, Ideal.Fin, conv, conv0, convL, IBlk.shape, Op.operands, List.append_toArray, reduceIte, reduceCtorEq, cond_true, cond_false, Bool.or_false, Bool.or_true, Bool.and_true, Bool.not_true, Nat.reduceAdd, Nat.reduceSub, Nat.reduceMul, Nat.reduceLT, Nat.reduceLeDiff, Nat.reduceEqDiff, Nat.zero_add, not_false_eq_true, beq_self_eq_true, true_and, and_true, and_false, and_self, implies_true, List.map_cons, List.map_nil, List.nil_append, List.cons_append, List.append_nil, List.all_cons, List.all_nil, Option.map_some, Option.bind_some, List.getElem?_cons_zero, List.getElem?_cons_succ, List.getD_cons_zero, List.length_cons, List.length_nil, List.take_succ_cons, List.take_nil, List.drop_zero, ex_clo, or_self, Bool.true_eq_false, tab30, hN, pe, encP, isTs_enc, toTs_enc, SLe0, convTm, convHp, convB, sm, effH, mkHC0, mkHC1, lendM, lentM, lentI, allHere, addIds, idsB, flatIds, reach, posn, renV, renL, renB, renH, numB, subHp, fwd, bk, bwd, nones, keyOK, noSl, noSlL, flatBs, List.contains, List.elem, Option.isSome_some, List.nodup_nil, List.nodup_cons, List.not_mem_nil, Option.getD_some, lk_impl_InRegion_impl_ValidHalves, lk_impl_InRegion_impl_Point_valid, sp_impl_ValidHalves, sp_impl_Point_valid, lh_impl_InRegion_impl_ValidHalves, lh_impl_InRegion_impl_Point_valid, lh_impl_InRegion_slices_ContainsFunc_impl_HalfPlane_impl_HalfPlane_inr, hs_slices_ContainsFunc_impl_HalfPlane_impl_HalfPlane_inr, h1, h2, hx, hy, hz]
      exact ⟨hs, by rw [hv]; rfl⟩
def sp_impl_InRegion : PSpec := ⟨fun xs => match xs with | [.sl 3 les, .agg [.num .i64 p1, .num .i64 p2]] => isTs les | _ => False, fun xs => match xs with | [.sl _ les, .agg [.num _ p1, .num _ p2]] => (fun (l : List Tr) (p : Pt) => .bool (inRegB l p)) (toTs les) (p1, p2) | _ => .junk, false⟩
theorem gk_impl_InRegion : ∀ args, sp_impl_InRegion.pre args → ICall Try.prog 20 args (sp_impl_InRegion.val args) := by
  intro args h
  unfold sp_impl_InRegion at h ⊢; simp only at h ⊢; split at h
  · have h0 := h
    obtain ⟨l0, rfl⟩ := isT_ex h0
    simp only [toTs_enc] at *
    exact c_impl_InRegion _ (_, _) 
  · exact h.elim
theorem en_impl_InRegion : Enters Try.prog 20 := enters_of Try.func20 (by kernel_rfl) rfl

def g_spec_DrawCorners : List (Nat × PSpec) := []
theorem gok_spec_DrawCorners : GOK Try.prog g_spec_DrawCorners := gok0
def h_spec_DrawCorners : List (Nat × HSpec) := [(64, hs_spec_newReader), (63, hs_spec_anyHalves)]
theorem hok_spec_DrawCorners : HOK Try.prog h_spec_DrawCorners := hok_cons hk_spec_newReader en_spec_newReader (hok_cons hk_spec_anyHalves en_spec_anyHalves (hok0))
theorem lh_spec_DrawCorners_spec_newReader : lkHS h_spec_DrawCorners 64 = some hs_spec_newReader := rfl
theorem lh_spec_DrawCorners_spec_anyHalves : lkHS h_spec_DrawCorners 63 = some hs_spec_anyHalves := rfl
theorem c_spec_DrawCorners (b : List Int) (hb : ∀ x ∈ b, 0 ≤ x ∧ x < 256) (hsz : b.length ≤ 1048576) : ICall Try.prog 15 [.sl 1 (encBy b)] (.sl 3 (encTs (drawHs b))) := by
  refine icall_V (G := g_spec_DrawCorners) (H := h_spec_DrawCorners) [] tabOK mixed gok_spec_DrawCorners hok_spec_DrawCorners Try.func15 rfl Try.ntmps15 Try.results15 rfl (by kernel_rfl) fun F hN hlen => ?_
  have hbt := bytes_take hb
  have hd : (aHalves (b.take 2000) 0).1 = drawHs b := rfl
  simp only [V_seq, V_ret, V_region, W_nil, W_cons, effOp2, KN_seq, KXr_nil, QE, effOp, effPure, Option.isSome_some, skipE, pureV, ofC, strip, lkT, lkH, ISt.app, opI, gO, gB, allB, gval, wrapG, dstOK, setD, mentTm, mentHp, IV.ment, IV.mentL, lendV, lendP, lent, lentP, idsV, idsL, clean, callArgs, callFn, enumT, Gives, Ideal.Fin, conv, conv0, convL, IBlk.shape, Op.operands, reduceIte, reduceCtorEq, cond_true, cond_false, Bool.or_false, Bool.and_true, Bool.and_false, Bool.not_false, Nat.reduceAdd, Nat.reduceSub, Nat.reduceMul, Nat.reduceLT, Nat.reduceLeDiff, Nat.reduceEqDiff, Nat.reduceBEq, Nat.add_zero, Nat.zero_add, ne_eq, not_false_eq_true, beq_self_eq_true, true_and, and_true, and_false, and_self, false_implies, implies_true, List.map_cons, List.map_nil, List.nil_append, List.cons_append, List.append_nil, List.all_nil, Option.some.injEq, Option.map_some, Option.map_none, List.getD_cons_zero, List.drop_zero, ex_clo, or_self, Bool.true_eq_false, Bool.false_eq_true, hN, Int.toNat_natCast, isBy_enc, toBy_enc, SLe0, convTm, convHp, convB, sm, effH, mkHC0, mkHC1, lendM, lentM, lentI, allHere, addIds, idsB, flatIds, reach, posn, renV, renL, renB, renH, numB, subHp, fwd, bk, bwd, nones, keyOK, noSl, noSlL, flatBs, List.contains, List.elem, Option.isSome_some, Option.isSome_none, List.nodup_nil, List.nodup_cons, List.not_mem_nil, List.mem_cons, or_false, Option.getD_some, lh_spec_DrawCorners_spec_newReader, lh_spec_DrawCorners_spec_anyHalves, hs_spec_newReader, hs_spec_anyHalves, rdr, hsz, hbt, hd]
  exact ⟨List.take_length.symm, _, _, rfl, by rw [len_encTs]; exact Nat.le_refl _, (take_encTs _).symm⟩
def sp_spec_DrawCorners : PSpec := ⟨fun xs => match xs with | [.sl 1 bes] => isBy bes ∧ ((fun (b : List Int) => ∀ x ∈ b, 0 ≤ x ∧ x < 256) (toIs bes)) ∧ ((fun (b : List Int) => b.length ≤ 1048576) (toIs bes)) | _ => False, fun xs => match xs with | [.sl _ bes] => (fun (b : List Int) => .sl 3 (encTs (drawHs b))) (toIs bes) | _ => .junk, false⟩
theorem gk_spec_DrawCorners : ∀ args, sp_spec_DrawCorners.pre args → ICall Try.prog 15 args (sp_spec_DrawCorners.val args) := by
  intro args h
  unfold sp_spec_DrawCorners at h ⊢; simp only at h ⊢; split at h
  · obtain ⟨h0, h1, h2⟩ := h
    obtain ⟨l0, rfl⟩ := isBy_ex h0
    simp only [toBy_enc] at *
    exact c_spec_DrawCorners _ h1 h2
  · exact h.elim
theorem en_spec_DrawCorners : Enters Try.prog 15 := enters_of Try.func15 (by kernel_rfl) rfl

def g_laws_equalRatPoints : List (Nat × PSpec) := []
theorem gok_laws_equalRatPoints : GOK Try.prog g_laws_equalRatPoints := gok0
def h_laws_equalRatPoints : List (Nat × HSpec) := []
theorem hok_laws_equalRatPoints : HOK Try.prog h_laws_equalRatPoints := hok0
theorem c_laws_equalRatPoints (a : List Qd) (b : List Qd)  : ICall Try.prog 17 [.sl 4 (encQs a), .sl 4 (encQs b)] (.bool (a == b)) := by
  refine icall_V (G := g_laws_equalRatPoints) (H := []) [] tabOK mixed gok_laws_equalRatPoints hok_laws_equalRatPoints Try.func17 rfl Try.ntmps17 Try.results17 rfl (by kernel_rfl) fun F hN hlen => ?_
  have la := hlen 0 4 _ rfl
  have lb := hlen 1 4 _ rfl
  have ea := len_encQs a
  have eb := len_encQs b
  rw [ea] at la
  rw [eb] at lb
  simp only [V_seq, V_region, V_cond, W_nil, W_cons, effOp2, KN_seq, asB, effOp, effPure, pureV, binV, lenV, ofC, strip, lkT, ISt.app, opI, gO, gB, allB, gval, wrapG, dstOK, setD, enumT, Op.operands, Call.operands, List.append_toArray, reduceIte, reduceCtorEq, Nat.reduceLT, Nat.reduceEqDiff, Nat.zero_add, ne_eq, not_false_eq_true, true_and, and_self, implies_true, List.nil_append, List.cons_append, List.append_nil, tab25, hN, ea, eb]
  refine brW_some (fun h => ?_) (fun h => ?_)
  · simp only [V_seq, V_ret, V_region, W_nil, W_cons, effOp2, KN_seq, KXr_nil, KXr_seq, QE, effOp, effPure, pureV, ofC, strip, lkT, lkH, ISt.app, opI, gO, gB, allB, gval, wrapG, dstOK, setD, clean, Gives, Ideal.Fin, conv, conv0, Op.operands, reduceIte, reduceCtorEq, Nat.reduceLT, Nat.reduceEqDiff, true_and, and_true, and_self, implies_true, List.nil_append, List.cons_append, List.append_nil, hN]
    have : a ≠ b := by rintro rfl; simp at h
    simp [this]
  · simp only [V_seq, V_skip, V_block, V_region, W_nil, W_cons, effOp2, KN_seq, effOp, effPure, pureV, ofC, strip, ISt.app, opI, gO, gB, allB, gval, wrapG, dstOK, setD, Op.operands, Nat.reduceLT, true_and, and_self, implies_true, List.nil_append, List.cons_append, List.append_nil, hN]
    have hab : a.length = b.length := by simp at h; omega
    refine V_loop (α := Nat) ⟨tabOK, mixed, gok_laws_equalRatPoints, hok_laws_equalRatPoints⟩ (by kernel_rfl) (fun i => i ≤ a.length ∧ ∀ j, j < i → qAt a j = qAt b j) (fun i => ⟨[(5, .num .i64 i), (0, .sl 4 (encQs a)), (1, .sl 4 (encQs b))], []⟩) (fun i => a.length - i) 0 id (by simp) (by simp [SLe, SLe0, convTm, convHp, conv, conv0, lkT, lkH, clean]) ?_
    rintro i ⟨hi, hj⟩
    simp only [V_seq, V_region, V_cond, W_nil, W_cons, effOp2, KN_seq, asB, effOp, effPure, pureV, binV, lenV, strip, lkT, ISt.app, opI, gO, gB, allB, gval, wrapG, dstOK, setD, Op.operands, Call.operands, List.append_toArray, reduceIte, reduceCtorEq, Nat.reduceLT, Nat.reduceEqDiff, ne_eq, not_false_eq_true, true_and, and_self, implies_true, List.nil_append, List.cons_append, List.append_nil, tab25, hN, ea]
    refine brW_some (fun h => ?_) (fun h => ?_)
    · have hi' : i < a.length := by simpa using h
      have g1 := getD_encQs hi'
      have g2 := getD_encQs (hab ▸ hi' : i < b.length)
      have hw := wr_succ hi' la
      simp only [V_seq, V_skip, V_block, V_draw, V_cond, drawW, pairsOf, WD_nil, WD_cons, KN_seq, asB, effOp, effPure, pureV, binV, partV, eltV, loadV, iaddrV, strip, lkT, ISt.app, opI, gO, gB, allB, gval, wrapG, dstOK, setD, eqL, numsOnly, Op.operands, reduceIte, reduceCtorEq, Bool.and_true, Nat.reduceAdd, Nat.reduceLT, Nat.reduceLeDiff, Nat.reduceEqDiff, Nat.zero_add, ne_eq, not_false_eq_true, true_and, and_true, and_false, and_self, implies_true, forall_const, List.nil_append, List.cons_append, List.append_nil, List.getD_cons_zero, List.length_cons, List.length_nil, List.take_succ_cons, List.take_nil, List.drop_zero, tab25, tab39, hN, Int.toNat_natCast, ea, eb, Int.toNat_natCast, g1, g2, eqQ]
      repeat refine And.intro (by omega) ?_
      refine brW_some (fun h => ?_) (fun h => ?_)
      · simp only [V_seq, V_ret, V_region, W_nil, W_cons, effOp2, KN_seq, KXr_nil, KXr_seq, KXr_block, KXr_back, QE, effOp, effPure, pureV, ofC, strip, lkT, lkH, ISt.app, opI, gO, gB, allB, gval, wrapG, dstOK, setD, clean, Gives, Ideal.Fin, conv, conv0, Op.operands, reduceIte, reduceCtorEq, Nat.reduceLT, Nat.reduceEqDiff, true_and, and_true, and_self, implies_true, List.nil_append, List.cons_append, List.append_nil, hN]
        have : a ≠ b := by rintro rfl; simp at h
        simp [this]
      · simp only [V_skip, V_region, W_nil, W_cons, effOp2, KN_seq, KN_block, KN_back, effOp, effPure, pureV, binV, ofC, strip, lkT, ISt.app, opI, gO, gB, allB, gval, wrapG, dstOK, setD, Op.operands, reduceIte, reduceCtorEq, Nat.reduceLT, Nat.reduceEqDiff, true_and, and_self, implies_true, List.nil_append, List.cons_append, List.append_nil, hN, hw]
        refine ⟨i + 1, id, ⟨by omega, ?_⟩, by simp only []; omega, by simp [SLe, SLe0, convTm, convHp, conv, conv0, lkT, lkH, clean]⟩
        intro j hj'
        rcases Nat.lt_succ_iff_lt_or_eq.1 hj' with h' | rfl
        · exact hj j h'
        · simpa using h
    · simp only [V_seq, V_ret, V_exit, V_region, W_nil, W_cons, effOp2, KN_seq, KXr_nil, KXe_nil, KXe_seq, KXe_block, KXe_back, QE, effOp, effPure, pureV, ofC, strip, lkT, lkH, ISt.app, opI, gO, gB, allB, gval, wrapG, dstOK, setD, clean, Gives, Ideal.Fin, conv, conv0, Op.operands, reduceIte, reduceCtorEq, Nat.reduceLT, Nat.reduceEqDiff, true_and, and_true, and_self, implies_true, List.nil_append, List.cons_append, List.append_nil, hN]
      have hie : i = a.length := by simp at h; omega
      have : a = b := eq_of_getD hab (fun j h' => hj j (by omega))
      simp [this]
def sp_laws_equalRatPoints : PSpec := ⟨fun xs => match xs with | [.sl 4 aes, .sl 4 bes] => isQs aes ∧ isQs bes | _ => False, fun xs => match xs with | [.sl _ aes, .sl _ bes] => (fun (a : List Qd) (b : List Qd) => .bool (a == b)) (toQs aes) (toQs bes) | _ => .junk, false⟩
theorem gk_laws_equalRatPoints : ∀ args, sp_laws_equalRatPoints.pre args → ICall Try.prog 17 args (sp_laws_equalRatPoints.val args) := by
  intro args h
  unfold sp_laws_equalRatPoints at h ⊢; simp only at h ⊢; split at h
  · obtain ⟨h0, h1⟩ := h
    obtain ⟨l0, rfl⟩ := isQ_ex h0
    obtain ⟨l1, rfl⟩ := isQ_ex h1
    simp only [toQs_enc] at *
    exact c_laws_equalRatPoints _ _ 
  · exact h.elim
theorem en_laws_equalRatPoints : Enters Try.prog 17 := enters_of Try.func17 (by kernel_rfl) rfl

theorem has_sub {l m : List Tr} (hs : ∀ k ∈ m, k ∈ l) {x y d : Int} (h : l.all (hasH x y d) = true) : m.all (hasH x y d) = true := by
  rw [List.all_eq_true] at h ⊢
  exact fun k hk => h k (hs k hk)
theorem okHs_sub {l m : List Tr} (hs : ∀ k ∈ m, k ∈ l) (hl : m.length ≤ l.length) (h : okHs l = true) : okHs m = true := by
  simp only [okHs, Bool.and_eq_true, List.all_eq_true, decide_eq_true_eq] at h ⊢
  exact ⟨fun k hk => h.1 k (hs k hk), by omega⟩
def g_laws_FnCornersMore : List (Nat × PSpec) := [(15, sp_spec_DrawCorners), (16, sp_impl_Corners), (18, sp_spec_Corners), (17, sp_laws_equalRatPoints), (19, sp_impl_ValidHalves), (20, sp_impl_InRegion)]
theorem gok_laws_FnCornersMore : GOK Try.prog g_laws_FnCornersMore := gok_cons gk_spec_DrawCorners en_spec_DrawCorners (gok_cons gk_impl_Corners en_impl_Corners (gok_cons gk_spec_Corners en_spec_Corners (gok_cons gk_laws_equalRatPoints en_laws_equalRatPoints (gok_cons gk_impl_ValidHalves en_impl_ValidHalves (gok_cons gk_impl_InRegion en_impl_InRegion (gok0))))))
theorem lk_laws_FnCornersMore_spec_DrawCorners : lkG g_laws_FnCornersMore 15 = sp_spec_DrawCorners := rfl
theorem lk_laws_FnCornersMore_impl_Corners : lkG g_laws_FnCornersMore 16 = sp_impl_Corners := rfl
theorem lk_laws_FnCornersMore_spec_Corners : lkG g_laws_FnCornersMore 18 = sp_spec_Corners := rfl
theorem lk_laws_FnCornersMore_laws_equalRatPoints : lkG g_laws_FnCornersMore 17 = sp_laws_equalRatPoints := rfl
theorem lk_laws_FnCornersMore_impl_ValidHalves : lkG g_laws_FnCornersMore 19 = sp_impl_ValidHalves := rfl
theorem lk_laws_FnCornersMore_impl_InRegion : lkG g_laws_FnCornersMore 20 = sp_impl_InRegion := rfl
def h_laws_FnCornersMore : List (Nat × HSpec) := []
theorem hok_laws_FnCornersMore : HOK Try.prog h_laws_FnCornersMore := hok0
theorem c_laws_FnCornersMore (b : List Int) (c : List Int) (hb : ∀ x ∈ b, 0 ≤ x ∧ x < 256) (hc : ∀ x ∈ c, 0 ≤ x ∧ x < 256) : ICall Try.prog 3 [.sl 1 (encBy b), .sl 1 (encBy c)] (.bool true) := by
  refine icall_V (G := g_laws_FnCornersMore) (H := []) [] tabOK mixed gok_laws_FnCornersMore hok_laws_FnCornersMore Try.func3 rfl Try.ntmps3 Try.results3 rfl (by kernel_rfl) fun F hN hlen => ?_
  have eb := len_encBy b
  have ec := len_encBy c
  have hself : ∀ x : List Qd, (x == x) = true := fun x => by simp
  cases d1 : decide (1048576 < (b.length : Int)) with
  | true =>
    simp only [V_seq, V_ret, V_region, V_cond, brW_true, W_nil, W_cons, effOp2, KN_seq, KXr_nil, KXr_seq, QE, asB, effOp, effPure, effPick, pureV, pickV, binV, lenV, ofC, strip, lkT, lkH, ISt.app, opI, gO, gB, allB, gval, wrapG, dstOK, setD, clean, enumT, Gives, Ideal.Fin, conv, conv0, Op.operands, Call.operands, List.append_toArray, reduceIte, reduceCtorEq, cond_true, Nat.reduceLT, Nat.reduceEqDiff, Nat.zero_add, ne_eq, not_false_eq_true, and_true, and_self, false_implies, implies_true, List.nil_append, List.cons_append, List.append_nil, Option.bind_some, List.getElem?_cons_zero, List.getElem?_cons_succ, btf, Bool.true_eq_false, Bool.false_eq_true, tab22, hN, eb, d1]
  | false =>
    cases d2 : decide (1048576 < (c.length : Int)) with
    | true => simp only [V_seq, V_ret, V_region, V_cond, brW_true, W_nil, W_cons, effOp2, KN_seq, KXr_nil, KXr_seq, QE, asB, effOp, effPure, effPick, pureV, pickV, binV, lenV, ofC, strip, lkT, lkH, ISt.app, opI, gO, gB, allB, gval, wrapG, dstOK, setD, clean, enumT, Gives, Ideal.Fin, conv, conv0, Op.operands, Call.operands, List.append_toArray, reduceIte, reduceCtorEq, cond_false, Nat.reduceLT, Nat.reduceEqDiff, Nat.zero_add, ne_eq, not_false_eq_true, beq_self_eq_true, and_self, implies_true, List.nil_append, List.cons_append, List.append_nil, Option.bind_some, List.getElem?_cons_zero, List.getElem?_cons_succ, Bool.false_eq_true, tab22, hN, eb, ec, d1, d2]
    | false =>
      have hsz : b.length ≤ 1048576 := by simp at d1; omega
      have hsc : c.length ≤ 1048576 := by simp at d2; omega
      obtain ⟨l, hl⟩ : ∃ l, drawHs b = l := ⟨_, rfl⟩
      cases hk : okHs l with
      | false =>
        have hcv : cornV l = [] := by rw [cornV, hk]; rfl
        simp only [V_seq, V_skip, V_ret, V_region, V_cond, brW_true, brW_false, W_nil, W_cons, effOp2, KN_seq, KXr_nil, KXr_seq, QE, asB, effOp, effPure, effPick, effCall, giveUp, hasAll, pureV, pickV, binV, lenV, ofC, strip, lkT, lkH, ISt.app, opI, gO, gB, allB, gval, wrapG, dstOK, setD, lendV, lendP, lent, lentP, idsV, idsL, lkHS, flat, clean, callArgs, callFn, allLent, enumT, Gives, Ideal.Fin, conv, conv0, Op.operands, Call.operands, List.append_toArray, reduceIte, reduceCtorEq, cond_true, cond_false, Bool.or_false, Bool.not_true, Bool.not_false, Nat.reduceLT, Nat.reduceEqDiff, Nat.zero_add, ne_eq, not_false_eq_true, beq_self_eq_true, true_and, and_true, and_self, implies_true, forall_const, List.map_cons, List.map_nil, List.nil_append, List.cons_append, List.append_nil, Option.bind_some, List.getElem?_cons_zero, List.getElem?_cons_succ, ex_clo, or_true, or_self, Bool.false_eq_true, tab22, hN, isTs_enc, toTs_enc, isQs_enc, toQs_enc, isBy_enc, toBy_enc, lk_laws_FnCornersMore_spec_DrawCorners, lk_laws_FnCornersMore_impl_Corners, lk_laws_FnCornersMore_spec_Corners, lk_laws_FnCornersMore_laws_equalRatPoints, lk_laws_FnCornersMore_impl_ValidHalves, sp_spec_DrawCorners, sp_impl_Corners, sp_spec_Corners, sp_laws_equalRatPoints, sp_impl_ValidHalves, eb, ec, d1, d2, hsz, hl, hk, hcv]
        exact hb
      | true =>
        have hl8 := okHs_len hk
        have el := len_encTs l
        obtain ⟨k, hk0⟩ : ∃ k, c.length % (l.length + 1) = k := ⟨_, rfl⟩
        have hkl : k ≤ l.length := by have := Nat.mod_lt c.length (show 0 < l.length + 1 by omega); omega
        have w1 : IntKind.i64.wrap ((l.length : Int) + 1) = ((l.length + 1 : Nat) : Int) := by rw [wr (by omega) (by omega)]; omega
        have d3 : (((l.length + 1 : Nat) : Int) == 0) = false := by simp; omega
        have t1 : (c.length : Int).tmod ((l.length + 1 : Nat) : Int) = (k : Int) := by rw [Int.tmod_eq_emod_of_nonneg (by omega), ← hk0]; simp
        have t2 : (c.length : Int).tmod 30 = ((c.length % 30 : Nat) : Int) := by rw [Int.tmod_eq_emod_of_nonneg (by omega)]; simp
        have t3 : (c.length : Int).tdiv 2 = ((c.length / 2 : Nat) : Int) := by rw [Int.tdiv_eq_ediv_of_nonneg (by omega)]; simp
        have t4 : ((c.length / 2 : Nat) : Int).tmod 30 = ((c.length / 2 % 30 : Nat) : Int) := by rw [Int.tmod_eq_emod_of_nonneg (by omega)]; simp
        obtain ⟨x, hx⟩ : ∃ x : Int, ((c.length % 30 : Nat) : Int) - 15 = x := ⟨_, rfl⟩
        obtain ⟨y, hy⟩ : ∃ y : Int, ((c.length / 2 % 30 : Nat) : Int) - 15 = y := ⟨_, rfl⟩
        have w2 : IntKind.i64.wrap (((c.length % 30 : Nat) : Int) - 15) = x := by rw [← hx]; exact wr (by omega) (by omega)
        have w3 : IntKind.i64.wrap ((c.length / 2 : Nat) : Int) = ((c.length / 2 : Nat) : Int) := wr (by omega) (by omega)
        have w4 : IntKind.i64.wrap (((c.length / 2 % 30 : Nat) : Int) - 15) = y := by rw [← hy]; exact wr (by omega) (by omega)
        have hsub : ∀ z ∈ l.take k, z ∈ l := fun z hz => List.mem_of_mem_take hz
        have o2 : okHs (l.take k) = true := okHs_sub hsub (by simp; omega) hk
        have lt : (l.take k).length = k := by rw [List.length_take]; omega
        obtain ⟨m, hm⟩ : ∃ m, l.take k = m := ⟨_, rfl⟩
        rw [hm] at hsub o2
        have hcv : cornV l = cornP l := by rw [cornV, hk]; rfl
        have hcv2 : cornV m = cornP m := by rw [cornV, o2]; rfl
        have e1 := len_encQs (cornV l)
        have e2 := len_encQs (cornV m)
        have hreg : inRegB l (x, y) = true → inRegB m (x, y) = true := by
          unfold inRegB
          simp only [Bool.and_eq_true]
          rintro ⟨_, h2, h3⟩
          exact ⟨o2, h2, has_sub hsub h3⟩
        have hfin : decide ((0 : Int) < ((cornV m).length : Int)) = false → (((cornV l).length : Int) == 0) = true := by
          intro h
          have h0 : cornP m = [] := by
            rw [← hcv2]; refine List.length_eq_zero_iff.1 ?_
            have := of_decide_eq_false h; omega
          rw [hcv, corn_sub hsub h0]; rfl
        have key : ∀ A B C D : Bool, (A = false → B = true) → (C = true → D = true) → ((bif (bif A then true else B) then (bif !C then true else D) else false) = true) := by
          intro A B C D h1 h2
          cases A <;> cases B <;> cases C <;> cases D <;> simp_all
        cases q1 : decide ((0 : Int) < ((cornV m).length : Int)) with
        | true =>
          cases q3 : inRegB l (x, y) with
          | false =>
            simp only [V_seq, V_skip, V_ret, V_region, V_cond, brW_false, W_nil, W_cons, effOp2, KN_seq, KXr_nil, QE, asB, effOp, effPure, effPick, effNew, effAlloc, effStore, effCall, giveUp, hasAll, skipE, pureV, pickV, storeV, binV, partV, loadV, sliceV, lenV, over, solid, buildL, IV.cells, ofC, strip, lkT, lkH, ISt.app, opI, gO, gB, allB, gval, wrapG, dstOK, setD, mentTm, mentHp, IV.ment, IV.mentL, oneI, lendV, lendP, lent, lentP, idsV, idsL, lkHS, flat, clean, callArgs, callFn, allLent, enumT, Gives, Ideal.Fin, conv, conv0, Op.operands, Call.operands, List.append_toArray, Array.append_empty, Option.toArray_none, Option.toArray_some, reduceIte, reduceCtorEq, cond_true, cond_false, Bool.or_false, Bool.or_true, Bool.and_true, Bool.and_false, Bool.not_true, Bool.not_false, Nat.reduceAdd, Nat.reduceLT, Nat.reduceLeDiff, Nat.reduceEqDiff, Nat.zero_add, ne_eq, not_false_eq_true, beq_self_eq_true, true_and, and_true, and_false, and_self, false_implies, implies_true, forall_const, List.map_cons, List.map_nil, List.nil_append, List.cons_append, List.append_nil, List.all_cons, List.all_nil, Option.map_some, Option.map_none, Option.bind_some, List.getElem?_cons_zero, List.getElem?_cons_succ, List.getD_cons_zero, List.getD_cons_succ, List.length_cons, List.length_nil, List.take_succ_cons, List.take_zero, List.take_nil, List.drop_succ_cons, List.drop_zero, List.drop_nil, ex_clo, btf, or_true, or_self, Bool.true_eq_false, Bool.false_eq_true, tab22, tab23, tab25, tab30, tab92, hN, Int.toNat_natCast, isTs_enc, toTs_enc, isQs_enc, toQs_enc, isBy_enc, toBy_enc, lk_laws_FnCornersMore_spec_DrawCorners, lk_laws_FnCornersMore_impl_Corners, lk_laws_FnCornersMore_spec_Corners, lk_laws_FnCornersMore_laws_equalRatPoints, lk_laws_FnCornersMore_impl_ValidHalves, lk_laws_FnCornersMore_impl_InRegion, sp_spec_DrawCorners, sp_impl_Corners, sp_spec_Corners, sp_laws_equalRatPoints, sp_impl_ValidHalves, sp_impl_InRegion, eb, ec, d1, d2, hsz, hl, hk, el, w1, w2, w3, w4, t1, t2, t3, t4, encTs_take, hm, e1, e2, q1, q3]
            first | exact hb | exact ⟨hb, ⟨by omega, by omega⟩⟩ | skip
          | true =>
            have q4 := hreg q3
            simp only [V_seq, V_skip, V_ret, V_region, V_cond, brW_false, W_nil, W_cons, effOp2, KN_seq, KXr_nil, QE, asB, effOp, effPure, effPick, effNew, effAlloc, effStore, effCall, giveUp, hasAll, skipE, pureV, pickV, storeV, binV, partV, loadV, sliceV, lenV, over, solid, buildL, IV.cells, ofC, strip, lkT, lkH, ISt.app, opI, gO, gB, allB, gval, wrapG, dstOK, setD, mentTm, mentHp, IV.ment, IV.mentL, oneI, lendV, lendP, lent, lentP, idsV, idsL, lkHS, flat, clean, callArgs, callFn, allLent, enumT, Gives, Ideal.Fin, conv, conv0, Op.operands, Call.operands, List.append_toArray, Array.append_empty, Option.toArray_none, Option.toArray_some, reduceIte, reduceCtorEq, cond_true, cond_false, Bool.or_false, Bool.and_true, Bool.not_true, Nat.reduceAdd, Nat.reduceLT, Nat.reduceLeDiff, Nat.reduceEqDiff, Nat.zero_add, ne_eq, not_false_eq_true, beq_self_eq_true, true_and, and_true, and_false, and_self, false_implies, implies_true, forall_const, List.map_cons, List.map_nil, List.nil_append, List.cons_append, List.append_nil, List.all_cons, List.all_nil, Option.map_some, Option.map_none, Option.bind_some, List.getElem?_cons_zero, List.getElem?_cons_succ, List.getD_cons_zero, List.getD_cons_succ, List.length_cons, List.length_nil, List.take_succ_cons, List.take_zero, List.take_nil, List.drop_succ_cons, List.drop_zero, List.drop_nil, ex_clo, btf, or_true, or_self, Bool.true_eq_false, Bool.false_eq_true, tab22, tab23, tab25, tab30, tab92, hN, Int.toNat_natCast, isTs_enc, toTs_enc, isQs_enc, toQs_enc, isBy_enc, toBy_enc, lk_laws_FnCornersMore_spec_DrawCorners, lk_laws_FnCornersMore_impl_Corners, lk_laws_FnCornersMore_spec_Corners, lk_laws_FnCornersMore_laws_equalRatPoints, lk_laws_FnCornersMore_impl_ValidHalves, lk_laws_FnCornersMore_impl_InRegion, sp_spec_DrawCorners, sp_impl_Corners, sp_spec_Corners, sp_laws_equalRatPoints, sp_impl_ValidHalves, sp_impl_InRegion, eb, ec, d1, d2, hsz, hl, hk, el, w1, w2, w3, w4, t1, t2, t3, t4, encTs_take, hm, e1, e2, q1, q3, q4]
            first | exact hb | exact ⟨hb, ⟨by omega, by omega⟩⟩ | skip
        | false =>
          have q2 := hfin q1
          cases q3 : inRegB l (x, y) with
          | false =>
            simp only [V_seq, V_skip, V_ret, V_region, V_cond, brW_false, W_nil, W_cons, effOp2, KN_seq, KXr_nil, QE, asB, effOp, effPure, effPick, effNew, effAlloc, effStore, effCall, giveUp, hasAll, skipE, pureV, pickV, storeV, binV, partV, loadV, sliceV, lenV, over, solid, buildL, IV.cells, ofC, strip, lkT, lkH, ISt.app, opI, gO, gB, allB, gval, wrapG, dstOK, setD, mentTm, mentHp, IV.ment, IV.mentL, oneI, lendV, lendP, lent, lentP, idsV, idsL, lkHS, flat, clean, callArgs, callFn, allLent, enumT, Gives, Ideal.Fin, conv, conv0, Op.operands, Call.operands, List.append_toArray, Array.append_empty, Option.toArray_none, Option.toArray_some, reduceIte, reduceCtorEq, cond_true, cond_false, Bool.or_false, Bool.or_true, Bool.and_true, Bool.and_false, Bool.not_true, Bool.not_false, Nat.reduceAdd, Nat.reduceLT, Nat.reduceLeDiff, Nat.reduceEqDiff, Nat.zero_add, ne_eq, not_false_eq_true, beq_self_eq_true, true_and, and_true, and_false, and_self, false_implies, implies_true, forall_const, List.map_cons, List.map_nil, List.nil_append, List.cons_append, List.append_nil, List.all_cons, List.all_nil, Option.map_some, Option.map_none, Option.bind_some, List.getElem?_cons_zero, List.getElem?_cons_succ, List.getD_cons_zero, List.getD_cons_succ, List.length_cons, List.length_nil, List.take_succ_cons, List.take_zero, List.take_nil, List.drop_succ_cons, List.drop_zero, List.drop_nil, ex_clo, btf, or_true, or_self, Bool.true_eq_false, Bool.false_eq_true, tab22, tab23, tab25, tab30, tab92, hN, Int.toNat_natCast, isTs_enc, toTs_enc, isQs_enc, toQs_enc, isBy_enc, toBy_enc, lk_laws_FnCornersMore_spec_DrawCorners, lk_laws_FnCornersMore_impl_Corners, lk_laws_FnCornersMore_spec_Corners, lk_laws_FnCornersMore_laws_equalRatPoints, lk_laws_FnCornersMore_impl_ValidHalves, lk_laws_FnCornersMore_impl_InRegion, sp_spec_DrawCorners, sp_impl_Corners, sp_spec_Corners, sp_laws_equalRatPoints, sp_impl_ValidHalves, sp_impl_InRegion, eb, ec, d1, d2, hsz, hl, hk, el, w1, w2, w3, w4, t1, t2, t3, t4, encTs_take, hm, e1, e2, q1, q2, q3]
            first | exact hb | exact ⟨hb, ⟨by omega, by omega⟩⟩ | skip
          | true =>
            have q4 := hreg q3
            simp only [V_seq, V_skip, V_ret, V_region, V_cond, brW_false, W_nil, W_cons, effOp2, KN_seq, KXr_nil, QE, asB, effOp, effPure, effPick, effNew, effAlloc, effStore, effCall, giveUp, hasAll, skipE, pureV, pickV, storeV, binV, partV, loadV, sliceV, lenV, over, solid, buildL, IV.cells, ofC, strip, lkT, lkH, ISt.app, opI, gO, gB, allB, gval, wrapG, dstOK, setD, mentTm, mentHp, IV.ment, IV.mentL, oneI, lendV, lendP, lent, lentP, idsV, idsL, lkHS, flat, clean, callArgs, callFn, allLent, enumT, Gives, Ideal.Fin, conv, conv0, Op.operands, Call.operands, List.append_toArray, Array.append_empty, Option.toArray_none, Option.toArray_some, reduceIte, reduceCtorEq, cond_true, cond_false, Bool.or_false, Bool.and_true, Bool.not_true, Nat.reduceAdd, Nat.reduceLT, Nat.reduceLeDiff, Nat.reduceEqDiff, Nat.zero_add, ne_eq, not_false_eq_true, beq_self_eq_true, true_and, and_true, and_false, and_self, implies_true, forall_const, List.map_cons, List.map_nil, List.nil_append, List.cons_append, List.append_nil, List.all_cons, List.all_nil, Option.map_some, Option.map_none, Option.bind_some, List.getElem?_cons_zero, List.getElem?_cons_succ, List.getD_cons_zero, List.getD_cons_succ, List.length_cons, List.length_nil, List.take_succ_cons, List.take_zero, List.take_nil, List.drop_succ_cons, List.drop_zero, List.drop_nil, ex_clo, or_true, or_self, Bool.true_eq_false, Bool.false_eq_true, tab22, tab23, tab25, tab30, tab92, hN, Int.toNat_natCast, isTs_enc, toTs_enc, isQs_enc, toQs_enc, isBy_enc, toBy_enc, lk_laws_FnCornersMore_spec_DrawCorners, lk_laws_FnCornersMore_impl_Corners, lk_laws_FnCornersMore_spec_Corners, lk_laws_FnCornersMore_laws_equalRatPoints, lk_laws_FnCornersMore_impl_ValidHalves, lk_laws_FnCornersMore_impl_InRegion, sp_spec_DrawCorners, sp_impl_Corners, sp_spec_Corners, sp_laws_equalRatPoints, sp_impl_ValidHalves, sp_impl_InRegion, eb, ec, d1, d2, hsz, hl, hk, el, w1, w2, w3, w4, t1, t2, t3, t4, encTs_take, hm, e1, e2, q1, q2, q3, q4]
            first | exact hb | exact ⟨hb, ⟨by omega, by omega⟩⟩ | skip
def sp_laws_FnCornersMore : PSpec := ⟨fun xs => match xs with | [.sl 1 bes, .sl 1 ces] => isBy bes ∧ isBy ces ∧ ((fun (b : List Int) (c : List Int) => ∀ x ∈ b, 0 ≤ x ∧ x < 256) (toIs bes) (toIs ces)) ∧ ((fun (b : List Int) (c : List Int) => ∀ x ∈ c, 0 ≤ x ∧ x < 256) (toIs bes) (toIs ces)) | _ => False, fun xs => match xs with | [.sl _ bes, .sl _ ces] => (fun (b : List Int) (c : List Int) => .bool true) (toIs bes) (toIs ces) | _ => .junk, false⟩
theorem gk_laws_FnCornersMore : ∀ args, sp_laws_FnCornersMore.pre args → ICall Try.prog 3 args (sp_laws_FnCornersMore.val args) := by
  intro args h
  unfold sp_laws_FnCornersMore at h ⊢; simp only at h ⊢; split at h
  · obtain ⟨h0, h1, h2, h3⟩ := h
    obtain ⟨l0, rfl⟩ := isBy_ex h0
    obtain ⟨l1, rfl⟩ := isBy_ex h1
    simp only [toBy_enc] at *
    exact c_laws_FnCornersMore _ _ h2 h3
  · exact h.elim
theorem en_laws_FnCornersMore : Enters Try.prog 3 := enters_of Try.func3 (by kernel_rfl) rfl

theorem corner_reg {l : List Tr} (hk : okHs l = true) {q : Qd} (hq : q ∈ cornP l) (h1 : q.1.2 = 1) (h2 : q.2.2 = 1) : inRegB l (q.1.1, q.2.1) = true := by
  have hq' : ((q.1.1, (1 : Int)), (q.2.1, (1 : Int))) ∈ cornP l := by
    have e : ((q.1.1, (1 : Int)), (q.2.1, (1 : Int))) = q := Prod.ext (Prod.ext rfl h1.symm) (Prod.ext rfl h2.symm)
    rw [e]; exact hq
  have hw := corner_whole hq'
  rw [List.all_append, Bool.and_eq_true] at hw
  obtain ⟨hb1, hb2⟩ := has_box hw.2
  have ho : okP (q.1.1, q.2.1) = true := by simp only [okP, inR, Bool.and_eq_true, decide_eq_true_eq]; exact ⟨hb1, hb2⟩
  rw [inRegB, hk, ho, hw.1]; rfl
theorem reg_high {l : List Tr} {x y : Int} (h : inRegB l (x, y) = true) : 0 < (cornV l).length ∧ y * (highV l).2.2 ≤ (highV l).2.1 := by
  unfold inRegB at h
  simp only [Bool.and_eq_true] at h
  obtain ⟨hk, ho, ha⟩ := h
  obtain ⟨hx, hy⟩ := okP_in9 ho
  have hcv : cornV l = cornP l := by rw [cornV, hk]; rfl
  have := below_high (corn_good (okHs_sm hk)) hx hy ha
  unfold highV
  rw [hcv]; exact this
def g_laws_FnCorners : List (Nat × PSpec) := [(15, sp_spec_DrawCorners), (16, sp_impl_Corners), (18, sp_spec_Corners), (17, sp_laws_equalRatPoints), (19, sp_impl_ValidHalves), (20, sp_impl_InRegion), (24, sp_impl_Highest)]
theorem gok_laws_FnCorners : GOK Try.prog g_laws_FnCorners := gok_cons gk_spec_DrawCorners en_spec_DrawCorners (gok_cons gk_impl_Corners en_impl_Corners (gok_cons gk_spec_Corners en_spec_Corners (gok_cons gk_laws_equalRatPoints en_laws_equalRatPoints (gok_cons gk_impl_ValidHalves en_impl_ValidHalves (gok_cons gk_impl_InRegion en_impl_InRegion (gok_cons gk_impl_Highest en_impl_Highest (gok0)))))))
theorem lk_laws_FnCorners_spec_DrawCorners : lkG g_laws_FnCorners 15 = sp_spec_DrawCorners := rfl
theorem lk_laws_FnCorners_impl_Corners : lkG g_laws_FnCorners 16 = sp_impl_Corners := rfl
theorem lk_laws_FnCorners_spec_Corners : lkG g_laws_FnCorners 18 = sp_spec_Corners := rfl
theorem lk_laws_FnCorners_laws_equalRatPoints : lkG g_laws_FnCorners 17 = sp_laws_equalRatPoints := rfl
theorem lk_laws_FnCorners_impl_ValidHalves : lkG g_laws_FnCorners 19 = sp_impl_ValidHalves := rfl
theorem lk_laws_FnCorners_impl_InRegion : lkG g_laws_FnCorners 20 = sp_impl_InRegion := rfl
theorem lk_laws_FnCorners_impl_Highest : lkG g_laws_FnCorners 24 = sp_impl_Highest := rfl
def h_laws_FnCorners : List (Nat × HSpec) := []
theorem hok_laws_FnCorners : HOK Try.prog h_laws_FnCorners := hok0
theorem c_laws_FnCorners (b : List Int) (c : List Int) (hb : ∀ x ∈ b, 0 ≤ x ∧ x < 256) (hc : ∀ x ∈ c, 0 ≤ x ∧ x < 256) : ICall Try.prog 5 [.sl 1 (encBy b), .sl 1 (encBy c)] (.bool true) := by
  refine icall_V (G := g_laws_FnCorners) (H := []) [(10, [(0, 31), (1, 31), (2, 31), (3, 31), (4, 31), (5, 31), (6, 31), (7, 31), (8, 31), (9, 31), (10, 31), (11, 31), (12, 31), (13, 31), (14, 31), (15, 31), (18, 31), (19, 31), (20, 31), (21, 31), (22, 31), (23, 31), (24, 31), (25, 31), (26, 31), (27, 31), (28, 31), (29, 31), (31, 33)])] tabOK mixed gok_laws_FnCorners hok_laws_FnCorners Try.func5 rfl Try.ntmps5 Try.results5 rfl (by kernel_rfl) fun F hN hlen => ?_
  have eb := len_encBy b
  have ec := len_encBy c
  have hself : ∀ x : List Qd, (x == x) = true := fun x => by simp
  cases d1 : decide (1048576 < (b.length : Int)) with
  | true =>
    simp only [V_seq, V_ret, V_region, V_cond, brW_true, W_nil, W_cons, effOp2, KN_seq, KXr_nil, KXr_seq, QE, asB, effOp, effPure, effPick, pureV, pickV, binV, lenV, ofC, strip, lkT, lkH, ISt.app, opI, gO, gB, allB, gval, wrapG, dstOK, setD, clean, enumT, Gives, Ideal.Fin, conv, conv0, Op.operands, Call.operands, List.append_toArray, reduceIte, reduceCtorEq, cond_true, Nat.reduceLT, Nat.reduceEqDiff, Nat.zero_add, ne_eq, not_false_eq_true, and_true, and_self, false_implies, implies_true, List.nil_append, List.cons_append, List.append_nil, Option.bind_some, List.getElem?_cons_zero, List.getElem?_cons_succ, btf, Bool.true_eq_false, Bool.false_eq_true, tab22, hN, eb, d1]
  | false =>
    cases d2 : decide (1048576 < (c.length : Int)) with
    | true => simp only [V_seq, V_ret, V_region, V_cond, brW_true, W_nil, W_cons, effOp2, KN_seq, KXr_nil, KXr_seq, QE, asB, effOp, effPure, effPick, pureV, pickV, binV, lenV, ofC, strip, lkT, lkH, ISt.app, opI, gO, gB, allB, gval, wrapG, dstOK, setD, clean, enumT, Gives, Ideal.Fin, conv, conv0, Op.operands, Call.operands, List.append_toArray, reduceIte, reduceCtorEq, cond_false, Nat.reduceLT, Nat.reduceEqDiff, Nat.zero_add, ne_eq, not_false_eq_true, beq_self_eq_true, and_self, implies_true, List.nil_append, List.cons_append, List.append_nil, Option.bind_some, List.getElem?_cons_zero, List.getElem?_cons_succ, Bool.false_eq_true, tab22, hN, eb, ec, d1, d2]
    | false =>
      have hsz : b.length ≤ 1048576 := by simp at d1; omega
      have hsc : c.length ≤ 1048576 := by simp at d2; omega
      obtain ⟨l, hl⟩ : ∃ l, drawHs b = l := ⟨_, rfl⟩
      cases hk : okHs l with
      | false =>
        have hcv : cornV l = [] := by rw [cornV, hk]; rfl
        simp only [V_seq, V_skip, V_ret, V_region, V_cond, brW_true, brW_false, W_nil, W_cons, effOp2, KN_seq, KXr_nil, KXr_seq, QE, asB, effOp, effPure, effPick, effCall, giveUp, hasAll, pureV, pickV, binV, lenV, ofC, strip, lkT, lkH, ISt.app, opI, gO, gB, allB, gval, wrapG, dstOK, setD, lendV, lendP, lent, lentP, idsV, idsL, lkHS, flat, clean, callArgs, callFn, allLent, enumT, Gives, Ideal.Fin, conv, conv0, Op.operands, Call.operands, List.append_toArray, reduceIte, reduceCtorEq, cond_true, cond_false, Bool.or_false, Bool.not_true, Bool.not_false, Nat.reduceLT, Nat.reduceEqDiff, Nat.zero_add, ne_eq, not_false_eq_true, beq_self_eq_true, true_and, and_true, and_self, implies_true, forall_const, List.map_cons, List.map_nil, List.nil_append, List.cons_append, List.append_nil, Option.bind_some, List.getElem?_cons_zero, List.getElem?_cons_succ, ex_clo, or_true, or_self, Bool.false_eq_true, tab22, hN, isTs_enc, toTs_enc, isQs_enc, toQs_enc, isBy_enc, toBy_enc, lk_laws_FnCorners_spec_DrawCorners, lk_laws_FnCorners_impl_Corners, lk_laws_FnCorners_spec_Corners, lk_laws_FnCorners_laws_equalRatPoints, lk_laws_FnCorners_impl_ValidHalves, sp_spec_DrawCorners, sp_impl_Corners, sp_spec_Corners, sp_laws_equalRatPoints, sp_impl_ValidHalves, eb, ec, d1, d2, hsz, hl, hk, hcv]
        exact hb
      | true =>
        have hl8 := okHs_len hk
        have el := len_encTs l
        have t2 : (c.length : Int).tmod 40 = ((c.length % 40 : Nat) : Int) := by rw [Int.tmod_eq_emod_of_nonneg (by omega)]; simp
        have t3 : (c.length : Int).tdiv 3 = ((c.length / 3 : Nat) : Int) := by rw [Int.tdiv_eq_ediv_of_nonneg (by omega)]; simp
        have t4 : ((c.length / 3 : Nat) : Int).tmod 40 = ((c.length / 3 % 40 : Nat) : Int) := by rw [Int.tmod_eq_emod_of_nonneg (by omega)]; simp
        obtain ⟨x, hx⟩ : ∃ x : Int, ((c.length % 40 : Nat) : Int) - 20 = x := ⟨_, rfl⟩
        obtain ⟨y, hy⟩ : ∃ y : Int, ((c.length / 3 % 40 : Nat) : Int) - 20 = y := ⟨_, rfl⟩
        have w2 : IntKind.i64.wrap (((c.length % 40 : Nat) : Int) - 20) = x := by rw [← hx]; exact wr (by omega) (by omega)
        have w3 : IntKind.i64.wrap ((c.length / 3 : Nat) : Int) = ((c.length / 3 : Nat) : Int) := wr (by omega) (by omega)
        have w4 : IntKind.i64.wrap (((c.length / 3 % 40 : Nat) : Int) - 20) = y := by rw [← hy]; exact wr (by omega) (by omega)
        have hyb : -20 ≤ y ∧ y ≤ 20 := by omega
        have hcv : cornV l = cornP l := by rw [cornV, hk]; rfl
        have hg := cornV_good l
        have hz := cornV_len l
        have hreg : ∀ q ∈ cornV l, q.1.2 = 1 → q.2.2 = 1 → inRegB l (q.1.1, q.2.1) = true := fun q hq h1 h2 => corner_reg hk (by rw [← hcv]; exact hq) h1 h2
        have hhi := @reg_high l x y
        have hh0 : 0 < (cornV l).length → goodQ (highV l) := fun h0 => by
          have := (hi_all hg (cornV l).length h0 (Nat.le_refl _)).1
          exact hg _ this
        obtain ⟨C, hC⟩ : ∃ C, cornV l = C := ⟨_, rfl⟩
        obtain ⟨H, hH⟩ : ∃ H, highV l = H := ⟨_, rfl⟩
        rw [hC] at hg hz hreg hhi hh0
        rw [hH] at hhi hh0
        have e1 := len_encQs C
        simp only [V_seq, V_skip, V_block, V_region, V_cond, brW_false, W_nil, W_cons, effOp2, KN_seq, asB, effOp, effPure, effPick, effCall, giveUp, hasAll, pureV, pickV, binV, lenV, ofC, strip, lkT, lkH, ISt.app, opI, gO, gB, allB, gval, wrapG, dstOK, setD, lendV, lendP, lent, lentP, idsV, idsL, lkHS, flat, clean, callArgs, callFn, allLent, enumT, Op.operands, Call.operands, List.append_toArray, reduceIte, reduceCtorEq, cond_true, cond_false, Bool.or_false, Bool.not_true, Nat.reduceLT, Nat.reduceEqDiff, Nat.zero_add, ne_eq, not_false_eq_true, beq_self_eq_true, true_and, and_true, and_self, implies_true, forall_const, List.map_cons, List.map_nil, List.nil_append, List.cons_append, List.append_nil, Option.bind_some, List.getElem?_cons_zero, List.getElem?_cons_succ, ex_clo, or_true, or_self, Bool.false_eq_true, tab22, hN, isTs_enc, toTs_enc, isQs_enc, toQs_enc, isBy_enc, toBy_enc, lk_laws_FnCorners_spec_DrawCorners, lk_laws_FnCorners_impl_Corners, lk_laws_FnCorners_spec_Corners, lk_laws_FnCorners_laws_equalRatPoints, lk_laws_FnCorners_impl_ValidHalves, sp_spec_DrawCorners, sp_impl_Corners, sp_spec_Corners, sp_laws_equalRatPoints, sp_impl_ValidHalves, eb, ec, d1, d2, hsz, hl, hk, hC]
        refine ⟨hb, ?_⟩
        refine V_loop (α := Nat) ⟨tabOK, mixed, gok_laws_FnCorners, hok_laws_FnCorners⟩ (by kernel_rfl) (fun i => i ≤ C.length) (fun i => ⟨[(7, .num .i64 i), (6, .sl 4 (encQs C)), (5, .sl 3 (encTs l)), (1, .sl 1 (encBy c))], []⟩) (fun i => C.length - i) 0 id (Nat.zero_le _) (by simp [SLe, SLe0, convTm, convHp, conv, conv0, lkT, lkH, clean]) ?_
        intro i hi
        simp only [V_seq, V_region, V_cond, W_nil, W_cons, effOp2, KN_seq, asB, effOp, effPure, pureV, binV, lenV, strip, lkT, ISt.app, opI, gO, gB, allB, gval, wrapG, dstOK, setD, Op.operands, Call.operands, List.append_toArray, reduceIte, reduceCtorEq, Nat.reduceLT, Nat.reduceEqDiff, ne_eq, not_false_eq_true, true_and, and_self, implies_true, List.nil_append, List.cons_append, List.append_nil, tab25, hN, e1]
        refine brW_some (fun h => ?_) (fun h => ?_)
        · have hi' : i < C.length := by simpa using h
          have g0 := getD_encQs hi'
          have hw := wr_succ hi' (by rw [maxLen_eq]; omega)
          have hq := hreg (qAt C i) (by rw [qAt, List.getD, List.getElem?_eq_getElem hi']; exact List.getElem_mem hi')
          generalize qAt C i = q at *
          cases q1 : (q.1.2 == 1) with
          | false =>
            simp only [V_seq, V_skip, V_block, V_region, V_draw, V_cond, brW_false, drawW, WS_nil, pairsOf, W_nil, W_cons, effOp2, WI_nil, WI_cons, KN_seq, KN_block, KN_back, dynOK, indB, farB, freshB, heapy, asB, effOp, effPure, effPick, effCall, giveUp, hasAll, pureV, pickV, binV, partV, eltV, loadV, faddrV, iaddrV, over, solid, buildL, IV.cells, ofC, strip, lkT, lkH, ISt.app, opI, gO, gB, allB, gval, wrapG, dstOK, setD, mentTm, mentHp, IV.ment, lendV, lendP, lent, lentP, idsV, idsL, lkHS, flat, clean, callArgs, callFn, allLent, Op.operands, Call.operands, List.append_toArray, reduceIte, reduceCtorEq, cond_true, cond_false, Bool.or_false, Bool.or_true, Bool.and_true, Bool.and_eq_true, Bool.not_false, Nat.reduceAdd, Nat.reduceLT, Nat.reduceLeDiff, Nat.reduceEqDiff, Nat.reduceBEq, Nat.add_zero, Nat.zero_add, ne_eq, not_false_eq_true, true_and, and_true, false_and, and_false, and_self, false_implies, implies_true, forall_const, List.map_cons, List.map_nil, List.nil_append, List.cons_append, List.append_nil, Option.bind_some, List.getElem?_cons_zero, List.getElem?_cons_succ, List.getD_cons_zero, List.getD_cons_succ, List.length_cons, List.length_nil, List.take_succ_cons, List.take_zero, List.take_nil, List.drop_succ_cons, List.drop_zero, List.drop_nil, ex_clo, bft, or_self, Bool.false_eq_true, tab3, tab25, tab30, tab37, tab39, hN, Int.toNat_natCast, isTs_enc, toTs_enc, lk_laws_FnCorners_impl_InRegion, sp_impl_InRegion, e1, g0, hw, q1]
            repeat refine And.intro (by first | omega | (simp; done) | (simp; omega)) ?_
            exact ⟨i + 1, id, by simp only []; omega, by simp only []; omega, by simp [SLe, SLe0, convTm, convHp, conv, conv0, lkT, lkH, clean]⟩
          | true =>
            cases q2 : (q.2.2 == 1) with
            | false =>
              simp only [V_seq, V_skip, V_block, V_region, V_draw, V_cond, brW_false, drawW, WS_nil, pairsOf, W_nil, W_cons, effOp2, WI_nil, WI_cons, KN_seq, KN_block, KN_back, dynOK, indB, farB, freshB, heapy, asB, effOp, effPure, effPick, effCall, giveUp, hasAll, pureV, pickV, binV, partV, eltV, loadV, faddrV, iaddrV, over, solid, buildL, IV.cells, ofC, strip, lkT, lkH, ISt.app, opI, gO, gB, allB, gval, wrapG, dstOK, setD, mentTm, mentHp, IV.ment, lendV, lendP, lent, lentP, idsV, idsL, lkHS, flat, clean, callArgs, callFn, allLent, Op.operands, Call.operands, List.append_toArray, reduceIte, reduceCtorEq, cond_true, cond_false, Bool.or_false, Bool.or_true, Bool.and_true, Bool.and_eq_true, Bool.not_false, Nat.reduceAdd, Nat.reduceLT, Nat.reduceLeDiff, Nat.reduceEqDiff, Nat.reduceBEq, Nat.add_zero, Nat.zero_add, ne_eq, not_false_eq_true, beq_self_eq_true, true_and, and_true, false_and, and_false, and_self, false_implies, implies_true, forall_const, List.map_cons, List.map_nil, List.nil_append, List.cons_append, List.append_nil, Option.bind_some, List.getElem?_cons_zero, List.getElem?_cons_succ, List.getD_cons_zero, List.getD_cons_succ, List.length_cons, List.length_nil, List.take_succ_cons, List.take_zero, List.take_nil, List.drop_succ_cons, List.drop_zero, List.drop_nil, ex_clo, bft, or_self, Bool.true_eq_false, Bool.false_eq_true, tab3, tab25, tab30, tab37, tab39, hN, Int.toNat_natCast, isTs_enc, toTs_enc, lk_laws_FnCorners_impl_InRegion, sp_impl_InRegion, e1, g0, hw, q1, q2]
              repeat refine And.intro (by first | omega | (simp; done) | (simp; omega)) ?_
              exact ⟨i + 1, id, by simp only []; omega, by simp only []; omega, by simp [SLe, SLe0, convTm, convHp, conv, conv0, lkT, lkH, clean]⟩
            | true =>
              have q3 := hq (by simpa using q1) (by simpa using q2)
              simp only [V_seq, V_skip, V_block, V_region, V_draw, V_cond, brW_false, drawW, WS_nil, pairsOf, W_nil, W_cons, effOp2, WI_nil, WI_cons, KN_seq, KN_block, KN_back, dynOK, indB, farB, freshB, heapy, asB, effOp, effPure, effPick, effCall, giveUp, hasAll, pureV, pickV, binV, partV, eltV, loadV, faddrV, iaddrV, over, solid, buildL, IV.cells, ofC, strip, lkT, lkH, ISt.app, opI, gO, gB, allB, gval, wrapG, dstOK, setD, mentTm, mentHp, IV.ment, lendV, lendP, lent, lentP, idsV, idsL, lkHS, flat, clean, callArgs, callFn, allLent, Op.operands, Call.operands, List.append_toArray, reduceIte, reduceCtorEq, cond_true, cond_false, Bool.or_false, Bool.and_true, Bool.and_eq_true, Bool.not_true, Bool.not_false, Nat.reduceAdd, Nat.reduceLT, Nat.reduceLeDiff, Nat.reduceEqDiff, Nat.reduceBEq, Nat.add_zero, Nat.zero_add, ne_eq, not_false_eq_true, beq_self_eq_true, true_and, and_true, and_false, and_self, implies_true, forall_const, List.map_cons, List.map_nil, List.nil_append, List.cons_append, List.append_nil, Option.bind_some, List.getElem?_cons_zero, List.getElem?_cons_succ, List.getD_cons_zero, List.getD_cons_succ, List.length_cons, List.length_nil, List.take_succ_cons, List.take_zero, List.take_nil, List.drop_succ_cons, List.drop_zero, List.drop_nil, ex_clo, or_self, Bool.true_eq_false, tab3, tab25, tab30, tab37, tab39, hN, Int.toNat_natCast, isTs_enc, toTs_enc, lk_laws_FnCorners_impl_InRegion, sp_impl_InRegion, e1, g0, hw, q1, q2, q3]
              repeat refine And.intro (by first | omega | (simp; done) | (simp; omega)) ?_
              exact ⟨i + 1, id, by simp only []; omega, by simp only []; omega, by simp [SLe, SLe0, convTm, convHp, conv, conv0, lkT, lkH, clean]⟩
        · have hie : i = C.length := by simp at h; omega
          subst hie
          cases q3 : inRegB l (x, y) with
          | false =>
            simp only [V_seq, V_ret, V_exit, V_region, W_nil, W_cons, effOp2, KN_seq, KXr_nil, KXe_nil, KXe_seq, KXe_block, KXe_back, QE, effOp, effPure, effPick, effNew, effAlloc, effStore, effCall, giveUp, hasAll, skipE, pureV, pickV, storeV, binV, partV, loadV, faddrV, lenV, over, solid, buildL, IV.cells, ofC, strip, lkT, lkH, ISt.app, opI, gO, gB, allB, gval, wrapG, dstOK, setD, mentTm, mentHp, IV.ment, IV.mentL, oneI, lendV, lendP, lent, lentP, idsV, idsL, lkHS, flat, flatL, clean, cleanL, callArgs, callFn, allLent, Gives, Ideal.Fin, conv, conv0, IBlk.shape, Op.operands, Call.operands, List.append_toArray, reduceIte, reduceCtorEq, cond_true, Bool.or_false, Bool.and_true, Bool.false_and, Bool.not_true, Bool.not_false, Nat.reduceAdd, Nat.reduceLT, Nat.reduceLeDiff, Nat.reduceEqDiff, Nat.reduceBEq, Nat.add_zero, Nat.zero_add, ne_eq, not_false_eq_true, true_and, and_true, false_and, and_false, and_self, false_implies, implies_true, forall_const, List.map_cons, List.map_nil, List.nil_append, List.cons_append, List.append_nil, List.all_cons, List.all_nil, Option.map_some, Option.bind_some, List.getElem?_cons_zero, List.getElem?_cons_succ, List.getD_cons_zero, List.getD_cons_succ, List.length_cons, List.length_nil, List.take_succ_cons, List.take_zero, List.take_nil, List.drop_succ_cons, List.drop_zero, List.drop_nil, ex_clo, btf, or_self, Bool.true_eq_false, Bool.false_eq_true, tab3, tab22, tab30, tab37, tab39, hN, encQ, isTs_enc, toTs_enc, lk_laws_FnCorners_impl_InRegion, lk_laws_FnCorners_impl_Highest, sp_impl_InRegion, sp_impl_Highest, ec, w2, w3, w4, t2, t3, t4, hC, hH, q3]
            omega
          | true =>
            obtain ⟨k1, k2⟩ := hhi q3
            have hgd := (hh0 k1).2
            obtain ⟨g1, g2, _, _, _⟩ := hgd
            have m1 := mulB (A := 20) (B := 20000000) (x := y) (y := H.2.2) (by omega) (by omega)
            have w5 : IntKind.i64.wrap (y * H.2.2) = y * H.2.2 := wr (by omega) (by omega)
            have d5 : decide (y * H.2.2 ≤ H.2.1) = true := by simpa using k2
            have d6 : posB C.length = true := posB_pos k1
            simp only [V_seq, V_ret, V_exit, V_region, W_nil, W_cons, effOp2, KN_seq, KXr_nil, KXe_nil, KXe_seq, KXe_block, KXe_back, QE, effOp, effPure, effPick, effNew, effAlloc, effStore, effCall, giveUp, hasAll, skipE, pureV, pickV, storeV, binV, partV, loadV, faddrV, lenV, over, solid, buildL, IV.cells, ofC, strip, lkT, lkH, ISt.app, opI, gO, gB, allB, gval, wrapG, dstOK, setD, mentTm, mentHp, IV.ment, IV.mentL, oneI, lendV, lendP, lent, lentP, idsV, idsL, lkHS, flat, flatL, clean, cleanL, callArgs, callFn, allLent, Gives, Ideal.Fin, conv, conv0, IBlk.shape, Op.operands, Call.operands, List.append_toArray, reduceIte, reduceCtorEq, cond_true, cond_false, Bool.or_false, Bool.and_true, Bool.not_true, Nat.reduceAdd, Nat.reduceLT, Nat.reduceLeDiff, Nat.reduceEqDiff, Nat.reduceBEq, Nat.add_zero, Nat.zero_add, ne_eq, not_false_eq_true, beq_self_eq_true, true_and, and_true, and_false, and_self, implies_true, forall_const, List.map_cons, List.map_nil, List.nil_append, List.cons_append, List.append_nil, List.all_cons, List.all_nil, Option.map_some, Option.bind_some, List.getElem?_cons_zero, List.getElem?_cons_succ, List.getD_cons_zero, List.getD_cons_succ, List.length_cons, List.length_nil, List.take_succ_cons, List.take_zero, List.take_nil, List.drop_succ_cons, List.drop_zero, List.drop_nil, ex_clo, or_self, Bool.true_eq_false, Bool.false_eq_true, tab3, tab22, tab30, tab37, tab39, hN, encQ, isTs_enc, toTs_enc, lk_laws_FnCorners_impl_InRegion, lk_laws_FnCorners_impl_Highest, sp_impl_InRegion, sp_impl_Highest, ec, w2, w3, w4, t2, t3, t4, hC, hH, q3, w5, d5, d6]
            omega
def sp_laws_FnCorners : PSpec := ⟨fun xs => match xs with | [.sl 1 bes, .sl 1 ces] => isBy bes ∧ isBy ces ∧ ((fun (b : List Int) (c : List Int) => ∀ x ∈ b, 0 ≤ x ∧ x < 256) (toIs bes) (toIs ces)) ∧ ((fun (b : List Int) (c : List Int) => ∀ x ∈ c, 0 ≤ x ∧ x < 256) (toIs bes) (toIs ces)) | _ => False, fun xs => match xs with | [.sl _ bes, .sl _ ces] => (fun (b : List Int) (c : List Int) => .bool true) (toIs bes) (toIs ces) | _ => .junk, false⟩
theorem gk_laws_FnCorners : ∀ args, sp_laws_FnCorners.pre args → ICall Try.prog 5 args (sp_laws_FnCorners.val args) := by
  intro args h
  unfold sp_laws_FnCorners at h ⊢; simp only at h ⊢; split at h
  · obtain ⟨h0, h1, h2, h3⟩ := h
    obtain ⟨l0, rfl⟩ := isBy_ex h0
    obtain ⟨l1, rfl⟩ := isBy_ex h1
    simp only [toBy_enc] at *
    exact c_laws_FnCorners _ _ h2 h3
  · exact h.elim
theorem en_laws_FnCorners : Enters Try.prog 5 := enters_of Try.func5 (by kernel_rfl) rfl

end Go.Proofs.Ytjlcbomigbolcaa
