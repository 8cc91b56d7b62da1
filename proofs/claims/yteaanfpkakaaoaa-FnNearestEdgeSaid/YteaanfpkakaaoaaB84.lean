/- The triangles of points (program), the result as own memory; the exact law on them. -/
import Derived.Test.YteaanfpkakaaoaaB49
import Derived.Test.YteaanfpkakaaoaaB82
import Derived.Test.YteaanfpkakaaoaaB83
set_option linter.unusedVariables false
set_option linter.unusedSimpArgs false
set_option maxHeartbeats 16000000
set_option maxRecDepth 100000
namespace Go.Proofs.Yteaanfpkakaaoaa
open Go Go.Ideal Go.Pl Go.Sort

def g_impl_Delaunay_h : List (Nat × PSpec) := [(22, sp_impl_ordered)]
theorem gok_impl_Delaunay_h : GOK Try.prog g_impl_Delaunay_h := gok_cons gk_impl_ordered en_impl_ordered (gok0)
theorem lk_impl_Delaunay_h_impl_ordered : lkG g_impl_Delaunay_h 22 = sp_impl_ordered := rfl
def h_impl_Delaunay_h : List (Nat × HSpec) := [(23, hs_impl_sweep), (24, hs_impl_flip)]
theorem hok_impl_Delaunay_h : HOK Try.prog h_impl_Delaunay_h := hok_cons hk_impl_sweep en_impl_sweep (hok_cons hk_impl_flip en_impl_flip (hok0))
theorem lh_impl_Delaunay_h_impl_ordered : lkHS h_impl_Delaunay_h 22 = none := rfl
theorem lh_impl_Delaunay_h_impl_sweep : lkHS h_impl_Delaunay_h 23 = some hs_impl_sweep := rfl
theorem lh_impl_Delaunay_h_impl_flip : lkHS h_impl_Delaunay_h 24 = some hs_impl_flip := rfl
theorem c_impl_Delaunay_h (l : List Pt) (hs : siteB l = true) : HCall Try.prog 6 [.sl 2 (encPs l)] (sm ([])) (.ref 0 0 (delV l).length false) (sm ([(0, .arr 3 31 (encTs (delV l)))])) := by
  refine hcall_V (G := g_impl_Delaunay_h) (H := h_impl_Delaunay_h) [] tabOK mixed gok_impl_Delaunay_h hok_impl_Delaunay_h Try.func6 rfl Try.ntmps6 Try.results6 rfl (by kernel_rfl) fun F hN hlen => ?_
  simp only [sm]
  have hk : okPs l = true := (site_facts hs).1
  have hg0 := sweep_good hs
  have hz0 := sweep_len hs
  have hv0 := (delV_good hs).1
  obtain ⟨L0, hL0⟩ : ∃ L0, sweepP l = L0 := ⟨_, rfl⟩
  rw [hL0] at hg0 hz0 hv0
  have t0 := take_encTs L0
  simp only [V_seq, V_skip, V_block, V_region, V_cond, brW_false, W_nil, W_cons, effOp2, KN_seq, asB, effOp, effPure, effCall, giveUp, hasAll, Option.isSome_some, skipE, pureV, ofC, strip, lkT, lkH, ISt.app, opI, gO, gB, allB, gval, wrapG, dstOK, setD, mentTm, mentHp, IV.ment, lendV, lendP, lent, lentP, idsV, idsL, flat, clean, callArgs, callFn, allLent, enumT, conv, conv0, IBlk.shape, Op.operands, reduceIte, reduceCtorEq, cond_true, cond_false, Bool.or_false, Bool.and_true, Bool.not_true, Bool.not_false, Nat.reduceAdd, Nat.reduceSub, Nat.reduceMul, Nat.reduceLT, Nat.reduceLeDiff, Nat.reduceEqDiff, Nat.add_zero, not_false_eq_true, true_and, and_true, and_false, and_self, false_implies, implies_true, List.map_cons, List.map_nil, List.nil_append, List.cons_append, List.append_nil, List.all_nil, Option.map_none, ex_clo, true_or, or_self, Bool.false_eq_true, hN, isPs_enc, toPs_enc, SLe0, convTm, convHp, convB, sm, effH, mkHC0, mkHC1, lendM, lentM, lentI, allHere, addIds, flatIds, reach, posn, renV, renL, renB, renH, numB, subHp, fwd, bk, bwd, nones, keyOK, noSl, flatBs, List.contains, List.elem, Option.isSome_some, List.nodup_nil, List.nodup_cons, List.not_mem_nil, Option.getD_some, lk_impl_Delaunay_h_impl_ordered, sp_impl_ordered, lh_impl_Delaunay_h_impl_ordered, lh_impl_Delaunay_h_impl_sweep, hs_impl_sweep, hs, hL0]
  refine ⟨List.take_length.symm, ?_⟩
  refine V_loop (α := List Tr) ⟨tabOK, mixed, gok_impl_Delaunay_h, hok_impl_Delaunay_h⟩ (by kernel_rfl) (fun L => goodL l L ∧ L.length = L0.length ∧ delP l L = delP l L0) (fun L => ⟨[(0, .sl 2 (encPs l)), (3, .ref 2128 0 L.length false)], [(2128, some (.arr 3 31 (encTs L)))]⟩) (fun L => (potL l L).toNat) L0 id ⟨hg0, rfl, rfl⟩ (by simp [SLe, SLe0, convTm, convHp, convB, conv, conv0, lkT, lkH]) ?_
  rintro L ⟨hg, hlen2, hd⟩
  have hz : L.length ≤ 1000000 := by omega
  have eL := len_encTs L
  cases hF : flipF l L with
  | none =>
    have v1 : (none : Option (List Tr)).isSome = false := rfl
    have v2 : (none : Option (List Tr)).getD L = L := rfl
    have hv2 : delV l = L := by rw [hv0, ← hd]; exact delP_none hF
    have tL := take_encTs L
    simp only [V_seq, V_ret, V_exit, V_region, V_cond, brW_false, W_nil, W_cons, effOp2, KN_seq, KXr_nil, KXe_nil, KXe_seq, KXe_block, KXe_back, QE, asB, effOp, effPure, Option.isSome_some, skipE, pureV, strip, lkT, lkH, ISt.app, opI, gO, gB, allB, gval, wrapG, dstOK, setD, mentTm, mentHp, IV.ment, lendV, lendP, lent, lentP, idsV, idsL, clean, callArgs, callFn, enumT, conv, conv0, IBlk.shape, Op.operands, reduceIte, reduceCtorEq, cond_true, cond_false, Bool.or_false, Bool.or_true, Bool.and_true, Nat.reduceAdd, Nat.reduceSub, Nat.reduceMul, Nat.reduceLT, Nat.reduceLeDiff, Nat.reduceEqDiff, Nat.zero_add, not_false_eq_true, beq_self_eq_true, true_and, and_true, and_false, and_self, false_implies, implies_true, List.map_cons, List.map_nil, List.nil_append, List.cons_append, List.append_nil, List.all_nil, Option.map_some, List.getD_cons_zero, ex_clo, true_or, Bool.true_eq_false, Bool.false_eq_true, hN, isPs_enc, toPs_enc, isTs_enc, toTs_enc, FinH, resA, resV, SLe, SLe0, convTm, convHp, convB, sm, effH, mkHC0, mkHC1, lendM, lentM, lentI, allHere, addIds, idsB, flatIds, reach, posn, renV, renL, renB, renH, numB, subHp, fwd, bk, bwd, nones, keyOK, noSl, flatBs, List.contains, List.elem, Option.isSome_some, List.nodup_nil, List.nodup_cons, List.not_mem_nil, Option.getD_some, lh_impl_Delaunay_h_impl_flip, hs_impl_flip, hk, hg, hz, eL, hF, v1, v2, hv2]
    exact ⟨tL.symm, fun x => if x = 0 then 2128 else x, by simp; omega⟩
  | some L' =>
    obtain ⟨k1, k2, k3⟩ := flipF_good hg hF
    have v1 : (some L').isSome = true := rfl
    have v2 : (some L').getD L = L' := rfl
    have hp0 := potL_nonneg k1
    simp only [V_seq, V_skip, V_ret, V_exit, V_block, V_region, V_cond, brW_true, W_nil, W_cons, effOp2, KN_seq, KN_back, KXr_nil, KXe_nil, KXe_seq, KXe_block, KXe_back, QE, asB, effOp, effPure, Option.isSome_some, skipE, pureV, strip, lkT, lkH, ISt.app, opI, gO, gB, allB, gval, wrapG, dstOK, setD, mentTm, mentHp, IV.ment, lendV, lendP, lent, lentP, idsV, idsL, clean, callArgs, callFn, enumT, conv, conv0, IBlk.shape, Op.operands, reduceIte, reduceCtorEq, cond_true, cond_false, Bool.or_false, Bool.or_true, Bool.and_true, Nat.reduceAdd, Nat.reduceSub, Nat.reduceMul, Nat.reduceLT, Nat.reduceLeDiff, Nat.reduceEqDiff, Nat.zero_add, not_false_eq_true, beq_self_eq_true, true_and, and_true, and_false, and_self, false_implies, implies_true, List.map_cons, List.map_nil, List.nil_append, List.cons_append, List.append_nil, List.all_nil, Option.map_some, List.getD_cons_zero, ex_clo, true_or, Bool.true_eq_false, Bool.false_eq_true, hN, isPs_enc, toPs_enc, isTs_enc, toTs_enc, FinH, resA, resV, SLe, SLe0, convTm, convHp, convB, sm, effH, mkHC0, mkHC1, lendM, lentM, lentI, allHere, addIds, idsB, flatIds, reach, posn, renV, renL, renB, renH, numB, subHp, fwd, bk, bwd, nones, keyOK, noSl, flatBs, List.contains, List.elem, Option.isSome_some, List.nodup_nil, List.nodup_cons, List.not_mem_nil, Option.getD_some, lh_impl_Delaunay_h_impl_flip, hs_impl_flip, hk, hg, hz, eL, hF, v1, v2]
    refine ⟨⟨(take_encTs L).symm, List.take_length.symm⟩, L', id, ⟨k1, by omega, by rw [← delP_some hg hF]; exact hd⟩, by simp only []; omega, ?_⟩
    simp only [k2]
    exact by simp [SLe, SLe0, convTm, convHp, convB, conv, conv0, lkT, lkH]
def hs_impl_Delaunay_h : HSpec := ⟨[true], fun xs hp => match xs, hp with | [.sl 2 es], [] => (isPs es) ∧ ((fun (l : List Pt) => siteB l = true) (toPs es)) | _, _ => False, fun xs hp => match xs, hp with | [.sl 2 es], [] => (fun (l : List Pt) => (.ref 0 0 (delV l).length false : IV)) (toPs es) | _, _ => .junk, fun xs hp => match xs, hp with | [.sl 2 es], [] => (fun (l : List Pt) => ([(0, .arr 3 31 (encTs (delV l)))] : List (Nat × IBlk))) (toPs es) | _, _ => []⟩
theorem hk_impl_Delaunay_h : ∀ args hp, hs_impl_Delaunay_h.pre args hp → HCall Try.prog 6 args (sm hp) (hs_impl_Delaunay_h.val args hp) (sm (hs_impl_Delaunay_h.hval args hp)) := by
  intro args hp h
  unfold hs_impl_Delaunay_h at h ⊢; simp only at h ⊢; split at h
  · obtain ⟨h1, h2⟩ := h; obtain ⟨l, rfl⟩ := isP_ex h1; rw [toPs_enc] at *; exact c_impl_Delaunay_h l h2
  · exact h.elim
theorem en_impl_Delaunay_h : Enters Try.prog 6 := enters_of Try.func6 (by kernel_rfl) rfl

def g_impl_Delaunay_e0 : List (Nat × PSpec) := [(22, sp_impl_ordered)]
theorem gok_impl_Delaunay_e0 : GOK Try.prog g_impl_Delaunay_e0 := gok_cons gk_impl_ordered en_impl_ordered (gok0)
theorem lk_impl_Delaunay_e0_impl_ordered : lkG g_impl_Delaunay_e0 22 = sp_impl_ordered := rfl
def h_impl_Delaunay_e0 : List (Nat × HSpec) := [(23, hs_impl_sweep), (24, hs_impl_flip)]
theorem hok_impl_Delaunay_e0 : HOK Try.prog h_impl_Delaunay_e0 := hok_cons hk_impl_sweep en_impl_sweep (hok_cons hk_impl_flip en_impl_flip (hok0))
theorem lh_impl_Delaunay_e0_impl_ordered : lkHS h_impl_Delaunay_e0 22 = none := rfl
theorem lh_impl_Delaunay_e0_impl_sweep : lkHS h_impl_Delaunay_e0 23 = some hs_impl_sweep := rfl
theorem lh_impl_Delaunay_e0_impl_flip : lkHS h_impl_Delaunay_e0 24 = some hs_impl_flip := rfl
theorem c_impl_Delaunay_e0 (l : List Pt) (hk : siteB l = false) : ICall Try.prog 6 [.sl 2 (encPs l)] (.sl 3 []) := by
  refine icall_V (G := g_impl_Delaunay_e0) (H := h_impl_Delaunay_e0) [] tabOK mixed gok_impl_Delaunay_e0 hok_impl_Delaunay_e0 Try.func6 rfl Try.ntmps6 Try.results6 rfl (by kernel_rfl) fun F hN hlen => ?_
  simp only [V_seq, V_ret, V_region, V_cond, brW_true, W_nil, W_cons, effOp2, KN_seq, KXr_nil, KXr_seq, QE, asB, effOp, effPure, effCall, giveUp, hasAll, pureV, ofC, strip, lkT, lkH, ISt.app, opI, gO, gB, allB, gval, wrapG, dstOK, setD, lendV, lendP, lent, lentP, idsV, idsL, flat, clean, callArgs, callFn, allLent, enumT, Gives, Ideal.Fin, conv, conv0, Op.operands, reduceIte, reduceCtorEq, cond_true, Bool.or_false, Bool.not_true, Bool.not_false, Nat.reduceLT, Nat.reduceEqDiff, and_self, implies_true, List.map_cons, List.map_nil, List.nil_append, List.cons_append, List.append_nil, ex_clo, or_self, hN, isPs_enc, toPs_enc, lk_impl_Delaunay_e0_impl_ordered, sp_impl_ordered, lh_impl_Delaunay_e0_impl_ordered, hk]
def sp_impl_Delaunay_e0 : PSpec := ⟨fun xs => match xs with | [.sl 2 les] => isPs les ∧ ((fun (l : List Pt) => siteB l = false) (toPs les)) | _ => False, fun xs => match xs with | [.sl _ les] => (fun (l : List Pt) => .sl 3 []) (toPs les) | _ => .junk, false⟩
theorem gk_impl_Delaunay_e0 : ∀ args, sp_impl_Delaunay_e0.pre args → ICall Try.prog 6 args (sp_impl_Delaunay_e0.val args) := by
  intro args h
  unfold sp_impl_Delaunay_e0 at h ⊢; simp only at h ⊢; split at h
  · obtain ⟨h0, h1⟩ := h
    obtain ⟨l0, rfl⟩ := isP_ex h0
    simp only [toPs_enc] at *
    exact c_impl_Delaunay_e0 _ h1
  · exact h.elim
theorem en_impl_Delaunay_e0 : Enters Try.prog 6 := enters_of Try.func6 (by kernel_rfl) rfl

def g_impl_Delaunay_e : List (Nat × PSpec) := [(22, sp_impl_ordered)]
theorem gok_impl_Delaunay_e : GOK Try.prog g_impl_Delaunay_e := gok_cons gk_impl_ordered en_impl_ordered (gok0)
theorem lk_impl_Delaunay_e_impl_ordered : lkG g_impl_Delaunay_e 22 = sp_impl_ordered := rfl
def h_impl_Delaunay_e : List (Nat × HSpec) := [(23, hs_impl_sweep), (24, hs_impl_flip)]
theorem hok_impl_Delaunay_e : HOK Try.prog h_impl_Delaunay_e := hok_cons hk_impl_sweep en_impl_sweep (hok_cons hk_impl_flip en_impl_flip (hok0))
theorem lh_impl_Delaunay_e_impl_ordered : lkHS h_impl_Delaunay_e 22 = none := rfl
theorem lh_impl_Delaunay_e_impl_sweep : lkHS h_impl_Delaunay_e 23 = some hs_impl_sweep := rfl
theorem lh_impl_Delaunay_e_impl_flip : lkHS h_impl_Delaunay_e 24 = some hs_impl_flip := rfl
theorem c_impl_Delaunay_e (l : List Pt) (hk : siteB l = false) : ICallF Try.prog 6 [.sl 2 (encPs l)] (.sl 3 []) := by
  exact icallF_nil (c_impl_Delaunay_e0 l hk)
def sp_impl_Delaunay_e : PSpec := ⟨fun xs => match xs with | [.sl 2 les] => isPs les ∧ ((fun (l : List Pt) => siteB l = false) (toPs les)) | _ => False, fun xs => match xs with | [.sl _ les] => (fun (l : List Pt) => .sl 3 []) (toPs les) | _ => .junk, true⟩
theorem gk_impl_Delaunay_e : ∀ args, sp_impl_Delaunay_e.pre args → ICallF Try.prog 6 args (sp_impl_Delaunay_e.val args) ∧ ∀ id, (sp_impl_Delaunay_e.val args).ment id = false := by
  intro args h
  unfold sp_impl_Delaunay_e at h ⊢; simp only at h ⊢; split at h
  · obtain ⟨h0, h1⟩ := h
    obtain ⟨l0, rfl⟩ := isP_ex h0
    simp only [toPs_enc] at *
    exact ⟨c_impl_Delaunay_e _ h1, fun id => rfl⟩
  · exact h.elim
theorem en_impl_Delaunay_e : Enters Try.prog 6 := enters_of Try.func6 (by kernel_rfl) rfl

def g_e_exde_a : List (Nat × PSpec) := [(11, sp_laws_szPointS), (8, sp_spec_Delaunay), (6, sp_impl_Delaunay_e), (16, sp_laws_eqPointS)]
theorem gok_e_exde_a : GOK Try.prog g_e_exde_a := gok_cons gk_laws_szPointS en_laws_szPointS (gok_cons gk_spec_Delaunay en_spec_Delaunay (gok_consO gk_impl_Delaunay_e en_impl_Delaunay_e (gok_cons gk_laws_eqPointS en_laws_eqPointS (gok0))))
theorem lk_e_exde_a_laws_szPointS : lkG g_e_exde_a 11 = sp_laws_szPointS := rfl
theorem lk_e_exde_a_spec_Delaunay : lkG g_e_exde_a 8 = sp_spec_Delaunay := rfl
theorem lk_e_exde_a_impl_Delaunay_e : lkG g_e_exde_a 6 = sp_impl_Delaunay_e := rfl
theorem lk_e_exde_a_laws_eqPointS : lkG g_e_exde_a 16 = sp_laws_eqPointS := rfl
def h_e_exde_a : List (Nat × HSpec) := [(13, hs_laws_toPointS), (17, hs_laws_markPointS)]
theorem hok_e_exde_a : HOK Try.prog h_e_exde_a := hok_cons hk_laws_toPointS en_laws_toPointS (hok_cons hk_laws_markPointS en_laws_markPointS (hok0))
theorem lh_e_exde_a_laws_szPointS : lkHS h_e_exde_a 11 = none := rfl
theorem lh_e_exde_a_spec_Delaunay : lkHS h_e_exde_a 8 = none := rfl
theorem lh_e_exde_a_impl_Delaunay_e : lkHS h_e_exde_a 6 = none := rfl
theorem lh_e_exde_a_laws_eqPointS : lkHS h_e_exde_a 16 = none := rfl
theorem lh_e_exde_a_laws_toPointS : lkHS h_e_exde_a 13 = some hs_laws_toPointS := rfl
theorem lh_e_exde_a_laws_markPointS : lkHS h_e_exde_a 17 = some hs_laws_markPointS := rfl
def g_e_exde_b : List (Nat × PSpec) := [(11, sp_laws_szPointS), (8, sp_spec_Delaunay), (16, sp_laws_eqPointS)]
theorem gok_e_exde_b : GOK Try.prog g_e_exde_b := gok_cons gk_laws_szPointS en_laws_szPointS (gok_cons gk_spec_Delaunay en_spec_Delaunay (gok_cons gk_laws_eqPointS en_laws_eqPointS (gok0)))
theorem lk_e_exde_b_laws_szPointS : lkG g_e_exde_b 11 = sp_laws_szPointS := rfl
theorem lk_e_exde_b_spec_Delaunay : lkG g_e_exde_b 8 = sp_spec_Delaunay := rfl
theorem lk_e_exde_b_laws_eqPointS : lkG g_e_exde_b 16 = sp_laws_eqPointS := rfl
def h_e_exde_b : List (Nat × HSpec) := [(13, hs_laws_toPointS), (6, hs_impl_Delaunay_h), (17, hs_laws_markPointS)]
theorem hok_e_exde_b : HOK Try.prog h_e_exde_b := hok_cons hk_laws_toPointS en_laws_toPointS (hok_cons hk_impl_Delaunay_h en_impl_Delaunay_h (hok_cons hk_laws_markPointS en_laws_markPointS (hok0)))
theorem lh_e_exde_b_laws_szPointS : lkHS h_e_exde_b 11 = none := rfl
theorem lh_e_exde_b_spec_Delaunay : lkHS h_e_exde_b 8 = none := rfl
theorem lh_e_exde_b_laws_eqPointS : lkHS h_e_exde_b 16 = none := rfl
theorem lh_e_exde_b_laws_toPointS : lkHS h_e_exde_b 13 = some hs_laws_toPointS := rfl
theorem lh_e_exde_b_impl_Delaunay_h : lkHS h_e_exde_b 6 = some hs_impl_Delaunay_h := rfl
theorem lh_e_exde_b_laws_markPointS : lkHS h_e_exde_b 17 = some hs_laws_markPointS := rfl
end Go.Proofs.Yteaanfpkakaaoaa
