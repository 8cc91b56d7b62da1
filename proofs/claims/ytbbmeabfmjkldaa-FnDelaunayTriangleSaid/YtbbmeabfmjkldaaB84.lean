/- The triangles of points (program), the result as own memory; the exact law on them. -/
import Derived.Test.YtbbmeabfmjkldaaB49
import Derived.Test.YtbbmeabfmjkldaaB82
import Derived.Test.YtbbmeabfmjkldaaB83
set_option linter.unusedVariables false
set_option linter.unusedSimpArgs false
set_option maxHeartbeats 16000000
set_option maxRecDepth 100000
namespace Go.Proofs.Ytbbmeabfmjkldaa
open Go Go.Ideal Go.Pl Go.Sort

def g_impl_Delaunay_h : List (Nat × PSpec) := [(32, sp_impl_ordered)]
theorem gok_impl_Delaunay_h : GOK Try.prog g_impl_Delaunay_h := gok_cons gk_impl_ordered en_impl_ordered (gok0)
theorem lk_impl_Delaunay_h_impl_ordered : lkG g_impl_Delaunay_h 32 = sp_impl_ordered := rfl
def h_impl_Delaunay_h : List (Nat × HSpec) := [(47, hs_impl_sweep), (48, hs_impl_flip)]
theorem hok_impl_Delaunay_h : HOK Try.prog h_impl_Delaunay_h := hok_cons hk_impl_sweep en_impl_sweep (hok_cons hk_impl_flip en_impl_flip (hok0))
theorem lh_impl_Delaunay_h_impl_ordered : lkHS h_impl_Delaunay_h 32 = none := rfl
theorem lh_impl_Delaunay_h_impl_sweep : lkHS h_impl_Delaunay_h 47 = some hs_impl_sweep := rfl
theorem lh_impl_Delaunay_h_impl_flip : lkHS h_impl_Delaunay_h 48 = some hs_impl_flip := rfl
theorem c_impl_Delaunay_h (l : List Pt) (hs : siteB l = true) : HCall Try.prog 15 [.sl 2 (encPs l)] (sm ([])) (.ref 0 0 (delV l).length false) (sm ([(0, .arr 3 32 (encTs (delV l)))])) := by
  refine hcall_V (G := g_impl_Delaunay_h) (H := h_impl_Delaunay_h) [] tabOK mixed gok_impl_Delaunay_h hok_impl_Delaunay_h Try.func15 rfl Try.ntmps15 Try.results15 rfl (by kernel_rfl) fun F hN hlen => ?_
  simp only [sm]
  have hk : okPs l = true := (site_facts hs).1
  have hg0 := sweep_good hs
  have hz0 := sweep_len hs
  have hv0 := (delV_good hs).1
  obtain ⟨L0, hL0⟩ : ∃ L0, sweepP l = L0 := ⟨_, rfl⟩
  rw [hL0] at hg0 hz0 hv0
  have t0 := take_encTs L0
  simp only [V_seq, V_skip, V_block, V_region, V_cond, brW_false, W_nil, W_cons, effOp2, KN_seq, asB, effOp, effPure, effCall, giveUp, hasAll, Option.isSome_some, skipE, pureV, ofC, strip, lkT, lkH, ISt.app, opI, gO, gB, allB, gval, wrapG, dstOK, setD, mentTm, mentHp, IV.ment, lendV, lendP, lent, lentP, idsV, idsL, flat, clean, callArgs, callFn, allLent, enumT, conv, conv0, IBlk.shape, Op.operands, reduceIte, reduceCtorEq, cond_true, cond_false, Bool.or_false, Bool.and_true, Bool.not_true, Bool.not_false, Nat.reduceAdd, Nat.reduceSub, Nat.reduceMul, Nat.reduceLT, Nat.reduceLeDiff, Nat.reduceEqDiff, Nat.add_zero, not_false_eq_true, true_and, and_true, and_false, and_self, false_implies, implies_true, List.map_cons, List.map_nil, List.nil_append, List.cons_append, List.append_nil, List.all_nil, Option.map_none, ex_clo, true_or, or_self, Bool.false_eq_true, hN, isPs_enc, toPs_enc, SLe0, convTm, convHp, convB, sm, effH, mkHC0, mkHC1, lendM, lentM, lentI, allHere, addIds, flatIds, reach, posn, renV, renL, renB, renH, numB, subHp, fwd, bk, bwd, nones, keyOK, noSl, flatBs, List.contains, List.elem, Option.isSome_some, List.nodup_nil, List.nodup_cons, List.not_mem_nil, Option.getD_some, lk_impl_Delaunay_h_impl_ordered, sp_impl_ordered, lh_impl_Delaunay_h_impl_ordered, lh_impl_Delaunay_h_impl_sweep, hs_impl_sweep, hs, hL0]
  refine ⟨List.take_length.symm, ?_⟩
  refine V_loop (α := List Tr) ⟨tabOK, mixed, gok_impl_Delaunay_h, hok_impl_Delaunay_h⟩ (by kernel_rfl) (fun L => goodL l L ∧ L.length = L0.length ∧ delP l L = delP l L0) (fun L => ⟨[(0, .sl 2 (encPs l)), (3, .ref 2128 0 L.length false)], [(2128, some (.arr 3 32 (encTs L)))]⟩) (fun L => (potL l L).toNat) L0 id ⟨hg0, rfl, rfl⟩ (by simp [SLe, SLe0, convTm, convHp, convB, conv, conv0, lkT, lkH]) ?_
  rintro L ⟨hg, hlen2, hd⟩
  have hz : L.length ≤ 1000000 := by omega
  have eL := len_encTs L
  cases hF : flipF l L with
  | none =>
    have v1 : (none : Option (List Tr)).isSome = false := rfl
    have v2 : (none : Option (List Tr)).getD L = L := rfl
    have hv2 : delV l = L := by rw [hv0, ← hd]; exact delP_none hF
    have tL := take_encTs L
    simp only [V_seq, V_ret, V_exit, V_region, V_cond, brW_false, W_nil, W_cons, effOp2, KN_seq, KXr_nil, KXe_nil, KXe_seq, KXe_block, KXe_back, QE, asB, effOp, effPure, Option.isSome_some, skipE, pureV, strip, lkT, lkH, ISt.app, opI, gO, gB, allB, gval, wrapG, dstOK, setD, mentTm, mentHp, IV.ment, lendV, lendP, lent, lentP, idsV, idsL, clean, callArgs, callFn, enumT, conv, conv0, IBlk.shape, Op.operands, reduceIte, reduceCtorEq, cond_true, cond_false, Bool.or_false, Bool.or_true, Bool.and_true, Nat.reduceAdd, Nat.reduceSub, Nat.reduceMul, Nat.reduceLT, Nat.reduceLeDiff, Nat.reduceEqDiff, Nat.zero_add, not_false_eq_true, beq_self_eq_true, true_and, and_true, and_false, and_self, false_implies, implies_true, List.map_cons, List.map_nil, List.nil_append, List.cons_append, List.append_nil, List.all_nil, Option.map_some, List.getD_cons_zero, ex_clo, true_or, Bool.true_eq_false, Bool.false_eq_true, hN, isPs_enc, toPs_enc, isTs_enc, toTs_enc, FinH, resA, resV, SLe, SLe0, convTm, convHp, convB, sm, effH, mkHC0, mkHC1, lendM, lentM, lentI, allHere, addIds, idsB, flatIds, reach, posn, renV, renL, renB, renH, numB, subHp, fwd, bk, bwd, nones, keyOK, noSl, flatBs, List.contains, List.elem, Option.isSome_some, List.nodup_nil, List.nodup_cons, List.not_mem_nil, Option.getD_some, lh_impl_Delaunay_h_impl_flip, hs_impl_flip, hk, hg, hz, eL, hF, v1, v2, hv2]
    exact ⟨tL.symm, fun x => if x = 0 then 2128 else x, by simp; omega⟩
  | some L' =>
    obtain ⟨k1, k2, k3⟩ := flipF_good hg hF
    have v1 : (some L').isSome = true := rfl
    have v2 : (some L').getD L = L' := rfl
    have hp0 := potL_nonneg k1
    simp only [V_seq, V_skip, V_ret, V_exit, V_block, V_region, V_cond, brW_true, W_nil, W_cons, effOp2, KN_seq, KN_back, KXr_nil, KXe_nil, KXe_seq, KXe_block, KXe_back, QE, asB, effOp, effPure, Option.isSome_some, skipE, pureV, strip, lkT, lkH, ISt.app, opI, gO, gB, allB, gval, wrapG, dstOK, setD, mentTm, mentHp, IV.ment, lendV, lendP, lent, lentP, idsV, idsL, clean, callArgs, callFn, enumT, conv, conv0, IBlk.shape, Op.operands, reduceIte, reduceCtorEq, cond_true, cond_false, Bool.or_false, Bool.or_true, Bool.and_true, Nat.reduceAdd, Nat.reduceSub, Nat.reduceMul, Nat.reduceLT, Nat.reduceLeDiff, Nat.reduceEqDiff, Nat.zero_add, not_false_eq_true, beq_self_eq_true, true_and, and_true, and_false, and_self, false_implies, implies_true, List.map_cons, List.map_nil, List.nil_append, List.cons_append, List.append_nil, List.all_nil, Option.map_some, List.getD_cons_zero, ex_clo, true_or, Bool.true_eq_false, Bool.false_eq_true, hN, isPs_enc, toPs_enc, isTs_enc, toTs_enc, FinH, resA, resV, SLe, SLe0, convTm, convHp, convB, sm, effH, mkHC0, mkHC1, lendM, lentM, lentI, allHere, addIds, idsB, flatIds, reach, posn, renV, renL, renB, renH, numB, subHp, fwd, bk, bwd, nones, keyOK, noSl, flatBs, List.contains, List.elem, Option.isSome_some, List.nodup_nil, List.nodup_cons, List.not_mem_nil, Option.getD_some, lh_impl_Delaunay_h_impl_flip, hs_impl_flip, hk, hg, hz, eL, hF, v1, v2]
    refine ⟨⟨(take_encTs L).symm, List.take_length.symm⟩, L', id, ⟨k1, by omega, by rw [← delP_some hg hF]; exact hd⟩, by simp only []; omega, ?_⟩
    simp only [k2]
    exact by simp [SLe, SLe0, convTm, convHp, convB, conv, conv0, lkT, lkH]
def hs_impl_Delaunay_h : HSpec := ⟨[true], fun xs hp => match xs, hp with | [.sl 2 es], [] => (isPs es) ∧ ((fun (l : List Pt) => siteB l = true) (toPs es)) | _, _ => False, fun xs hp => match xs, hp with | [.sl 2 es], [] => (fun (l : List Pt) => (.ref 0 0 (delV l).length false : IV)) (toPs es) | _, _ => .junk, fun xs hp => match xs, hp with | [.sl 2 es], [] => (fun (l : List Pt) => ([(0, .arr 3 32 (encTs (delV l)))] : List (Nat × IBlk))) (toPs es) | _, _ => []⟩
theorem hk_impl_Delaunay_h : ∀ args hp, hs_impl_Delaunay_h.pre args hp → HCall Try.prog 15 args (sm hp) (hs_impl_Delaunay_h.val args hp) (sm (hs_impl_Delaunay_h.hval args hp)) := by
  intro args hp h
  unfold hs_impl_Delaunay_h at h ⊢; simp only at h ⊢; split at h
  · obtain ⟨h1, h2⟩ := h; obtain ⟨l, rfl⟩ := isP_ex h1; rw [toPs_enc] at *; exact c_impl_Delaunay_h l h2
  · exact h.elim
theorem en_impl_Delaunay_h : Enters Try.prog 15 := enters_of Try.func15 (by kernel_rfl) rfl

def g_impl_Delaunay_e0 : List (Nat × PSpec) := [(32, sp_impl_ordered)]
theorem gok_impl_Delaunay_e0 : GOK Try.prog g_impl_Delaunay_e0 := gok_cons gk_impl_ordered en_impl_ordered (gok0)
theorem lk_impl_Delaunay_e0_impl_ordered : lkG g_impl_Delaunay_e0 32 = sp_impl_ordered := rfl
def h_impl_Delaunay_e0 : List (Nat × HSpec) := [(47, hs_impl_sweep), (48, hs_impl_flip)]
theorem hok_impl_Delaunay_e0 : HOK Try.prog h_impl_Delaunay_e0 := hok_cons hk_impl_sweep en_impl_sweep (hok_cons hk_impl_flip en_impl_flip (hok0))
theorem lh_impl_Delaunay_e0_impl_ordered : lkHS h_impl_Delaunay_e0 32 = none := rfl
theorem lh_impl_Delaunay_e0_impl_sweep : lkHS h_impl_Delaunay_e0 47 = some hs_impl_sweep := rfl
theorem lh_impl_Delaunay_e0_impl_flip : lkHS h_impl_Delaunay_e0 48 = some hs_impl_flip := rfl
theorem c_impl_Delaunay_e0 (l : List Pt) (hk : siteB l = false) : ICall Try.prog 15 [.sl 2 (encPs l)] (.sl 3 []) := by
  refine icall_V (G := g_impl_Delaunay_e0) (H := h_impl_Delaunay_e0) [] tabOK mixed gok_impl_Delaunay_e0 hok_impl_Delaunay_e0 Try.func15 rfl Try.ntmps15 Try.results15 rfl (by kernel_rfl) fun F hN hlen => ?_
  simp only [V_seq, V_ret, V_region, V_cond, brW_true, W_nil, W_cons, effOp2, KN_seq, KXr_nil, KXr_seq, QE, asB, effOp, effPure, effCall, giveUp, hasAll, pureV, ofC, strip, lkT, lkH, ISt.app, opI, gO, gB, allB, gval, wrapG, dstOK, setD, lendV, lendP, lent, lentP, idsV, idsL, flat, clean, callArgs, callFn, allLent, enumT, Gives, Ideal.Fin, conv, conv0, Op.operands, reduceIte, reduceCtorEq, cond_true, Bool.or_false, Bool.not_true, Bool.not_false, Nat.reduceLT, Nat.reduceEqDiff, and_self, implies_true, List.map_cons, List.map_nil, List.nil_append, List.cons_append, List.append_nil, ex_clo, or_self, hN, isPs_enc, toPs_enc, lk_impl_Delaunay_e0_impl_ordered, sp_impl_ordered, lh_impl_Delaunay_e0_impl_ordered, hk]
def sp_impl_Delaunay_e0 : PSpec := ⟨fun xs => match xs with | [.sl 2 les] => isPs les ∧ ((fun (l : List Pt) => siteB l = false) (toPs les)) | _ => False, fun xs => match xs with | [.sl _ les] => (fun (l : List Pt) => .sl 3 []) (toPs les) | _ => .junk, false⟩
theorem gk_impl_Delaunay_e0 : ∀ args, sp_impl_Delaunay_e0.pre args → ICall Try.prog 15 args (sp_impl_Delaunay_e0.val args) := by
  intro args h
  unfold sp_impl_Delaunay_e0 at h ⊢; simp only at h ⊢; split at h
  · obtain ⟨h0, h1⟩ := h
    obtain ⟨l0, rfl⟩ := isP_ex h0
    simp only [toPs_enc] at *
    exact c_impl_Delaunay_e0 _ h1
  · exact h.elim
theorem en_impl_Delaunay_e0 : Enters Try.prog 15 := enters_of Try.func15 (by kernel_rfl) rfl

def g_impl_Delaunay_e : List (Nat × PSpec) := [(32, sp_impl_ordered)]
theorem gok_impl_Delaunay_e : GOK Try.prog g_impl_Delaunay_e := gok_cons gk_impl_ordered en_impl_ordered (gok0)
theorem lk_impl_Delaunay_e_impl_ordered : lkG g_impl_Delaunay_e 32 = sp_impl_ordered := rfl
def h_impl_Delaunay_e : List (Nat × HSpec) := [(47, hs_impl_sweep), (48, hs_impl_flip)]
theorem hok_impl_Delaunay_e : HOK Try.prog h_impl_Delaunay_e := hok_cons hk_impl_sweep en_impl_sweep (hok_cons hk_impl_flip en_impl_flip (hok0))
theorem lh_impl_Delaunay_e_impl_ordered : lkHS h_impl_Delaunay_e 32 = none := rfl
theorem lh_impl_Delaunay_e_impl_sweep : lkHS h_impl_Delaunay_e 47 = some hs_impl_sweep := rfl
theorem lh_impl_Delaunay_e_impl_flip : lkHS h_impl_Delaunay_e 48 = some hs_impl_flip := rfl
theorem c_impl_Delaunay_e (l : List Pt) (hk : siteB l = false) : ICallF Try.prog 15 [.sl 2 (encPs l)] (.sl 3 []) := by
  exact icallF_nil (c_impl_Delaunay_e0 l hk)
def sp_impl_Delaunay_e : PSpec := ⟨fun xs => match xs with | [.sl 2 les] => isPs les ∧ ((fun (l : List Pt) => siteB l = false) (toPs les)) | _ => False, fun xs => match xs with | [.sl _ les] => (fun (l : List Pt) => .sl 3 []) (toPs les) | _ => .junk, true⟩
theorem gk_impl_Delaunay_e : ∀ args, sp_impl_Delaunay_e.pre args → ICallF Try.prog 15 args (sp_impl_Delaunay_e.val args) ∧ ∀ id, (sp_impl_Delaunay_e.val args).ment id = false := by
  intro args h
  unfold sp_impl_Delaunay_e at h ⊢; simp only at h ⊢; split at h
  · obtain ⟨h0, h1⟩ := h
    obtain ⟨l0, rfl⟩ := isP_ex h0
    simp only [toPs_enc] at *
    exact ⟨c_impl_Delaunay_e _ h1, fun id => rfl⟩
  · exact h.elim
theorem en_impl_Delaunay_e : Enters Try.prog 15 := enters_of Try.func15 (by kernel_rfl) rfl

def g_e_exde_a : List (Nat × PSpec) := [(19, sp_laws_szPointS), (18, sp_spec_Delaunay), (15, sp_impl_Delaunay_e), (22, sp_laws_eqPointS), (21, sp_laws_eqTriangleS), (25, sp_laws_heldTriangleS)]
theorem gok_e_exde_a : GOK Try.prog g_e_exde_a := gok_cons gk_laws_szPointS en_laws_szPointS (gok_cons gk_spec_Delaunay en_spec_Delaunay (gok_consO gk_impl_Delaunay_e en_impl_Delaunay_e (gok_cons gk_laws_eqPointS en_laws_eqPointS (gok_cons gk_laws_eqTriangleS en_laws_eqTriangleS (gok_cons gk_laws_heldTriangleS en_laws_heldTriangleS (gok0))))))
theorem lk_e_exde_a_laws_szPointS : lkG g_e_exde_a 19 = sp_laws_szPointS := rfl
theorem lk_e_exde_a_spec_Delaunay : lkG g_e_exde_a 18 = sp_spec_Delaunay := rfl
theorem lk_e_exde_a_impl_Delaunay_e : lkG g_e_exde_a 15 = sp_impl_Delaunay_e := rfl
theorem lk_e_exde_a_laws_eqPointS : lkG g_e_exde_a 22 = sp_laws_eqPointS := rfl
theorem lk_e_exde_a_laws_eqTriangleS : lkG g_e_exde_a 21 = sp_laws_eqTriangleS := rfl
theorem lk_e_exde_a_laws_heldTriangleS : lkG g_e_exde_a 25 = sp_laws_heldTriangleS := rfl
def h_e_exde_a : List (Nat × HSpec) := [(20, hs_laws_toPointS), (23, hs_laws_markPointS), (24, hs_laws_markTriangleS_or)]
theorem hok_e_exde_a : HOK Try.prog h_e_exde_a := hok_cons hk_laws_toPointS en_laws_toPointS (hok_cons hk_laws_markPointS en_laws_markPointS (hok_cons hk_laws_markTriangleS_or en_laws_markTriangleS_or (hok0)))
theorem lh_e_exde_a_laws_szPointS : lkHS h_e_exde_a 19 = none := rfl
theorem lh_e_exde_a_spec_Delaunay : lkHS h_e_exde_a 18 = none := rfl
theorem lh_e_exde_a_impl_Delaunay_e : lkHS h_e_exde_a 15 = none := rfl
theorem lh_e_exde_a_laws_eqPointS : lkHS h_e_exde_a 22 = none := rfl
theorem lh_e_exde_a_laws_eqTriangleS : lkHS h_e_exde_a 21 = none := rfl
theorem lh_e_exde_a_laws_heldTriangleS : lkHS h_e_exde_a 25 = none := rfl
theorem lh_e_exde_a_laws_toPointS : lkHS h_e_exde_a 20 = some hs_laws_toPointS := rfl
theorem lh_e_exde_a_laws_markPointS : lkHS h_e_exde_a 23 = some hs_laws_markPointS := rfl
theorem lh_e_exde_a_laws_markTriangleS_or : lkHS h_e_exde_a 24 = some hs_laws_markTriangleS_or := rfl
def g_e_exde_b : List (Nat × PSpec) := [(19, sp_laws_szPointS), (18, sp_spec_Delaunay), (22, sp_laws_eqPointS), (21, sp_laws_eqTriangleS), (25, sp_laws_heldTriangleS)]
theorem gok_e_exde_b : GOK Try.prog g_e_exde_b := gok_cons gk_laws_szPointS en_laws_szPointS (gok_cons gk_spec_Delaunay en_spec_Delaunay (gok_cons gk_laws_eqPointS en_laws_eqPointS (gok_cons gk_laws_eqTriangleS en_laws_eqTriangleS (gok_cons gk_laws_heldTriangleS en_laws_heldTriangleS (gok0)))))
theorem lk_e_exde_b_laws_szPointS : lkG g_e_exde_b 19 = sp_laws_szPointS := rfl
theorem lk_e_exde_b_spec_Delaunay : lkG g_e_exde_b 18 = sp_spec_Delaunay := rfl
theorem lk_e_exde_b_laws_eqPointS : lkG g_e_exde_b 22 = sp_laws_eqPointS := rfl
theorem lk_e_exde_b_laws_eqTriangleS : lkG g_e_exde_b 21 = sp_laws_eqTriangleS := rfl
theorem lk_e_exde_b_laws_heldTriangleS : lkG g_e_exde_b 25 = sp_laws_heldTriangleS := rfl
def h_e_exde_b : List (Nat × HSpec) := [(20, hs_laws_toPointS), (15, hs_impl_Delaunay_h), (23, hs_laws_markPointS), (24, hs_laws_markTriangleS)]
theorem hok_e_exde_b : HOK Try.prog h_e_exde_b := hok_cons hk_laws_toPointS en_laws_toPointS (hok_cons hk_impl_Delaunay_h en_impl_Delaunay_h (hok_cons hk_laws_markPointS en_laws_markPointS (hok_cons hk_laws_markTriangleS en_laws_markTriangleS (hok0))))
theorem lh_e_exde_b_laws_szPointS : lkHS h_e_exde_b 19 = none := rfl
theorem lh_e_exde_b_spec_Delaunay : lkHS h_e_exde_b 18 = none := rfl
theorem lh_e_exde_b_laws_eqPointS : lkHS h_e_exde_b 22 = none := rfl
theorem lh_e_exde_b_laws_eqTriangleS : lkHS h_e_exde_b 21 = none := rfl
theorem lh_e_exde_b_laws_heldTriangleS : lkHS h_e_exde_b 25 = none := rfl
theorem lh_e_exde_b_laws_toPointS : lkHS h_e_exde_b 20 = some hs_laws_toPointS := rfl
theorem lh_e_exde_b_impl_Delaunay_h : lkHS h_e_exde_b 15 = some hs_impl_Delaunay_h := rfl
theorem lh_e_exde_b_laws_markPointS : lkHS h_e_exde_b 23 = some hs_laws_markPointS := rfl
theorem lh_e_exde_b_laws_markTriangleS : lkHS h_e_exde_b 24 = some hs_laws_markTriangleS := rfl
def g_laws_FnExactDelaunay : List (Nat × PSpec) := [(19, sp_laws_szPointS), (18, sp_spec_Delaunay), (21, sp_laws_eqTriangleS), (22, sp_laws_eqPointS), (25, sp_laws_heldTriangleS)]
theorem gok_laws_FnExactDelaunay : GOK Try.prog g_laws_FnExactDelaunay := gok_cons gk_laws_szPointS en_laws_szPointS (gok_cons gk_spec_Delaunay en_spec_Delaunay (gok_cons gk_laws_eqTriangleS en_laws_eqTriangleS (gok_cons gk_laws_eqPointS en_laws_eqPointS (gok_cons gk_laws_heldTriangleS en_laws_heldTriangleS (gok0)))))
theorem lk_laws_FnExactDelaunay_laws_szPointS : lkG g_laws_FnExactDelaunay 19 = sp_laws_szPointS := rfl
theorem lk_laws_FnExactDelaunay_spec_Delaunay : lkG g_laws_FnExactDelaunay 18 = sp_spec_Delaunay := rfl
theorem lk_laws_FnExactDelaunay_laws_eqTriangleS : lkG g_laws_FnExactDelaunay 21 = sp_laws_eqTriangleS := rfl
theorem lk_laws_FnExactDelaunay_laws_eqPointS : lkG g_laws_FnExactDelaunay 22 = sp_laws_eqPointS := rfl
theorem lk_laws_FnExactDelaunay_laws_heldTriangleS : lkG g_laws_FnExactDelaunay 25 = sp_laws_heldTriangleS := rfl
def h_laws_FnExactDelaunay : List (Nat × HSpec) := [(20, hs_laws_toPointS), (23, hs_laws_markPointS), (24, hs_laws_markTriangleS)]
theorem hok_laws_FnExactDelaunay : HOK Try.prog h_laws_FnExactDelaunay := hok_cons hk_laws_toPointS en_laws_toPointS (hok_cons hk_laws_markPointS en_laws_markPointS (hok_cons hk_laws_markTriangleS en_laws_markTriangleS (hok0)))
theorem lh_laws_FnExactDelaunay_laws_szPointS : lkHS h_laws_FnExactDelaunay 19 = none := rfl
theorem lh_laws_FnExactDelaunay_spec_Delaunay : lkHS h_laws_FnExactDelaunay 18 = none := rfl
theorem lh_laws_FnExactDelaunay_laws_eqTriangleS : lkHS h_laws_FnExactDelaunay 21 = none := rfl
theorem lh_laws_FnExactDelaunay_laws_eqPointS : lkHS h_laws_FnExactDelaunay 22 = none := rfl
theorem lh_laws_FnExactDelaunay_laws_heldTriangleS : lkHS h_laws_FnExactDelaunay 25 = none := rfl
theorem lh_laws_FnExactDelaunay_laws_toPointS : lkHS h_laws_FnExactDelaunay 20 = some hs_laws_toPointS := rfl
theorem lh_laws_FnExactDelaunay_laws_markPointS : lkHS h_laws_FnExactDelaunay 23 = some hs_laws_markPointS := rfl
theorem lh_laws_FnExactDelaunay_laws_markTriangleS : lkHS h_laws_FnExactDelaunay 24 = some hs_laws_markTriangleS := rfl
theorem c_laws_FnExactDelaunay (l : List Pt)  : ICall Try.prog 5 [.sl 2 (encPs l)] (.bool true) := by
  have hs : ∀ x : List Pt, (x == x) = true := fun x => by simp
  have hs2 : ∀ x : List Tr, (x == x) = true := fun x => by simp
  have hn : ∀ x : Int, (x != x) = false := fun x => by simp
  cases hc : siteB l with
  | true =>
    refine icall_V (G := g_e_exde_b) (H := h_e_exde_b) [] tabOK mixed gok_e_exde_b hok_e_exde_b Try.func5 rfl Try.ntmps5 Try.results5 rfl (by kernel_rfl) fun F hN hlen => ?_
    have el := len_encPs l
    have hl := okPs_len (site_facts hc).1
    have hh : (delV l).length ≤ 1000000 := by rw [(delV_good hc).2.2]; exact sweep_len hc
    obtain ⟨E, hE⟩ : ∃ E, delV l = E := ⟨_, rfl⟩
    rw [hE] at hh
    have c : l.length ≤ 1048576 := by omega
    have c2 : l.length ≤ 2000000 := by omega
    have c3 : E.length ≤ 2000000 := by omega
    have hv : szPointV l 1048576 = 1048576 - (l.length : Int) := if_neg (by omega)
    have d1 : decide (1048576 - (l.length : Int) < 0) = false := by simp only [decide_eq_false_iff_not]; omega
    have d2 : decide (1 + 2 * (l.length : Int) < 0) = false := by simp only [decide_eq_false_iff_not]; omega
    have d3 : decide (1 + 3 * (E.length : Int) < 0) = false := by simp only [decide_eq_false_iff_not]; omega
    have eh := len_encTs E
    have em1 := len_encPs (marksP l.length 1)
    have em2 := len_encTs (marksR E.length 1)
    rw [marksP_len] at em1
    rw [marksR_len] at em2
    have ml := marksP_len l.length 1
    have ml2 := marksR_len E.length 1
    have hd := heldR_marks E.length 1
    have tk : (encTs (marksR E.length 1)).take E.length = encTs (marksR E.length 1) := List.take_of_length_le (by omega)
    have tk3 : (encTs E).take E.length = encTs E := List.take_of_length_le (by omega)
    have tk1 : (encPs (marksP l.length 1)).take l.length = encPs (marksP l.length 1) := List.take_of_length_le (by omega)
    simp only [V_seq, V_skip, V_ret, V_region, V_cond, brW_false, W_nil, W_cons, effOp2, KN_seq, KXr_nil, QE, asB, effOp, effPure, effPick, effCall, giveUp, hasAll, Option.isSome_some, skipE, pureV, pickV, binV, ofC, strip, lkT, lkH, ISt.app, opI, gO, gB, allB, gval, wrapG, dstOK, setD, mentTm, mentHp, IV.ment, lendV, lendP, lent, lentP, idsV, idsL, flat, clean, callArgs, callFn, allLent, enumT, Gives, Ideal.Fin, conv, conv0, IBlk.shape, Op.operands, reduceIte, reduceCtorEq, cond_true, cond_false, Bool.or_false, Bool.or_true, Bool.and_true, Bool.not_true, Bool.not_false, Nat.reduceAdd, Nat.reduceSub, Nat.reduceMul, Nat.reduceLT, Nat.reduceLeDiff, Nat.reduceEqDiff, Nat.reduceBEq, Nat.add_zero, Nat.zero_add, not_false_eq_true, beq_self_eq_true, true_and, and_true, and_false, and_self, false_implies, implies_true, forall_const, List.map_cons, List.map_nil, List.nil_append, List.cons_append, List.append_nil, List.all_cons, List.all_nil, Option.map_some, Option.map_none, Option.bind_some, List.getElem?_cons_zero, List.getElem?_cons_succ, List.getD_cons_zero, List.drop_zero, ex_clo, or_true, or_self, Bool.true_eq_false, Bool.false_eq_true, hN, isPs_enc, toPs_enc, isTs_enc, toTs_enc, SLe0, convTm, convHp, convB, sm, effH, mkHC0, mkHC1, lendM, lentM, lentI, allHere, addIds, idsB, flatIds, reach, posn, renV, renL, renB, renH, numB, subHp, fwd, bk, bwd, nones, keyOK, noSl, flatBs, List.contains, List.elem, Option.isSome_some, List.nodup_nil, List.nodup_cons, List.not_mem_nil, Option.getD_some, lk_e_exde_b_laws_szPointS, lk_e_exde_b_spec_Delaunay, lk_e_exde_b_laws_eqPointS, lk_e_exde_b_laws_eqTriangleS, lk_e_exde_b_laws_heldTriangleS, sp_laws_szPointS, sp_spec_Delaunay, sp_laws_eqPointS, sp_laws_eqTriangleS, sp_laws_heldTriangleS, lh_e_exde_b_laws_szPointS, lh_e_exde_b_spec_Delaunay, lh_e_exde_b_laws_eqPointS, lh_e_exde_b_laws_eqTriangleS, lh_e_exde_b_laws_heldTriangleS, lh_e_exde_b_laws_toPointS, lh_e_exde_b_impl_Delaunay_h, lh_e_exde_b_laws_markPointS, lh_e_exde_b_laws_markTriangleS, hs_laws_toPointS, hs_impl_Delaunay_h, hs_laws_markPointS, hs_laws_markTriangleS, el, hv, d1, d2, d3, c, c2, c3, hc, hE, take_encPs, hn, eh, em1, em2, ml2, hd, tk, tk1, tk3, noSl_encTs, noSl_encPs]
    omega
  | false =>
    have hcv : delV l = [] := by rw [delV, hc]; rfl
    have e0n : encTs [] = [] := rfl
    refine icall_V (G := g_e_exde_a) (H := h_e_exde_a) [] tabOK mixed gok_e_exde_a hok_e_exde_a Try.func5 rfl Try.ntmps5 Try.results5 rfl (by kernel_rfl) fun F hN hlen => ?_
    have hl := hlen 0 2 _ rfl
    have el := len_encPs l
    rw [el] at hl
    by_cases c : l.length ≤ 1048576
    · have hv : szPointV l 1048576 = 1048576 - (l.length : Int) := if_neg (by omega)
      have c2 : l.length ≤ 2000000 := by omega
      have d1 : decide (1048576 - (l.length : Int) < 0) = false := by simp only [decide_eq_false_iff_not]; omega
      have d2 : decide (1 + 2 * (l.length : Int) < 0) = false := by simp only [decide_eq_false_iff_not]; omega
      have d3 : decide ((1 : Int) < 0) = false := by decide
      have em1 := len_encPs (marksP l.length 1)
      rw [marksP_len] at em1
      have ml := marksP_len l.length 1
      have hd : heldR [] 1 = 1 := rfl
      have tk1 : (encPs (marksP l.length 1)).take l.length = encPs (marksP l.length 1) := List.take_of_length_le (by omega)
      simp only [V_seq, V_skip, V_ret, V_region, V_cond, brW_false, W_nil, W_cons, effOp2, KN_seq, KXr_nil, QE, asB, effOp, effPure, effPick, effCall, giveUp, hasAll, Option.isSome_some, skipE, pureV, pickV, binV, ofC, strip, lkT, lkH, ISt.app, opI, gO, gB, allB, gval, wrapG, dstOK, setD, mentTm, mentHp, IV.ment, lendV, lendP, lent, lentP, idsV, idsL, flat, clean, callArgs, callFn, allLent, enumT, Gives, Ideal.Fin, conv, conv0, IBlk.shape, Op.operands, reduceIte, reduceCtorEq, cond_true, cond_false, Bool.or_false, Bool.or_true, Bool.and_true, Bool.not_true, Bool.not_false, Nat.reduceAdd, Nat.reduceSub, Nat.reduceMul, Nat.reduceLT, Nat.reduceLeDiff, Nat.reduceEqDiff, Nat.reduceBEq, Nat.add_zero, Nat.zero_add, not_false_eq_true, beq_self_eq_true, true_and, and_true, and_false, and_self, implies_true, forall_const, List.map_cons, List.map_nil, List.nil_append, List.cons_append, List.append_nil, List.all_nil, Option.map_some, Option.map_none, Option.bind_some, List.getElem?_cons_zero, List.getElem?_cons_succ, List.getD_cons_zero, List.length_nil, List.drop_zero, ex_clo, true_or, or_true, or_self, Bool.true_eq_false, Bool.false_eq_true, hN, isPs_enc, toPs_enc, isTs_nil, toTs_nil, SLe0, convTm, convHp, convB, sm, effH, mkHC0, mkHC1, lendM, lentM, lentI, allHere, addIds, idsB, flatIds, reach, posn, renV, renL, renB, renH, numB, subHp, fwd, bk, bwd, nones, keyOK, noSl, flatBs, List.contains, List.elem, Option.isSome_some, List.nodup_nil, List.nodup_cons, List.not_mem_nil, Option.getD_some, lk_e_exde_a_laws_szPointS, lk_e_exde_a_spec_Delaunay, lk_e_exde_a_impl_Delaunay_e, lk_e_exde_a_laws_eqPointS, lk_e_exde_a_laws_eqTriangleS, lk_e_exde_a_laws_heldTriangleS, sp_laws_szPointS, sp_spec_Delaunay, sp_impl_Delaunay_e, sp_laws_eqPointS, sp_laws_eqTriangleS, sp_laws_heldTriangleS, lh_e_exde_a_laws_szPointS, lh_e_exde_a_spec_Delaunay, lh_e_exde_a_impl_Delaunay_e, lh_e_exde_a_laws_eqPointS, lh_e_exde_a_laws_eqTriangleS, lh_e_exde_a_laws_heldTriangleS, lh_e_exde_a_laws_toPointS, lh_e_exde_a_laws_markPointS, lh_e_exde_a_laws_markTriangleS_or, hs_laws_toPointS, hs_laws_markPointS, hs_laws_markTriangleS_or, el, hv, d1, d2, d3, c, c2, take_encPs, hn, em1, hd, hc, hcv, e0n, tk1, hs_or, sel_sl, hs_laws_markTriangleS, hs_laws_markTriangleS_n]
      omega
    · have hv : szPointV l 1048576 = -1 := if_pos (by omega)
      have d1 : decide ((-1 : Int) < 0) = true := by decide
      simp only [V_seq, V_ret, V_region, V_cond, brW_true, W_nil, W_cons, effOp2, KN_seq, KXr_nil, KXr_seq, QE, asB, effOp, effPure, effCall, giveUp, hasAll, pureV, binV, ofC, strip, lkT, lkH, ISt.app, opI, gO, gB, allB, gval, wrapG, dstOK, setD, lendV, lendP, lent, lentP, idsV, idsL, flat, clean, callArgs, callFn, allLent, enumT, Gives, Ideal.Fin, conv, conv0, Op.operands, reduceIte, reduceCtorEq, cond_true, Bool.or_false, Bool.not_true, Nat.reduceLT, Nat.reduceEqDiff, true_and, and_true, and_self, implies_true, forall_const, List.map_cons, List.map_nil, List.nil_append, List.cons_append, List.append_nil, ex_clo, or_self, hN, isPs_enc, toPs_enc, lk_e_exde_a_laws_szPointS, sp_laws_szPointS, lh_e_exde_a_laws_szPointS, hv, d1]
      exact ⟨by omega, by omega⟩
def sp_laws_FnExactDelaunay : PSpec := ⟨fun xs => match xs with | [.sl 2 les] => isPs les | _ => False, fun xs => match xs with | [.sl _ les] => (fun (l : List Pt) => .bool true) (toPs les) | _ => .junk, false⟩
theorem gk_laws_FnExactDelaunay : ∀ args, sp_laws_FnExactDelaunay.pre args → ICall Try.prog 5 args (sp_laws_FnExactDelaunay.val args) := by
  intro args h
  unfold sp_laws_FnExactDelaunay at h ⊢; simp only at h ⊢; split at h
  · have h0 := h
    obtain ⟨l0, rfl⟩ := isP_ex h0
    simp only [toPs_enc] at *
    exact c_laws_FnExactDelaunay _ 
  · exact h.elim
theorem en_laws_FnExactDelaunay : Enters Try.prog 5 := enters_of Try.func5 (by kernel_rfl) rfl

end Go.Proofs.Ytbbmeabfmjkldaa
