/- The exact law on certificates of hulls: the program's side and the law. -/
import Derived.Test.YtlcndghaendieaaB97
set_option linter.unusedVariables false
set_option linter.unusedSimpArgs false
set_option maxHeartbeats 16000000
set_option maxRecDepth 100000
namespace Go.Proofs.Ytlcndghaendieaa
open Go Go.Ideal Go.Pl Go.Sort

theorem any_three {f : Int → Bool} {w : List Int} (h : w.length = 3) : w.any f = (f (iAt w 0) || (f (iAt w 1) || f (iAt w 2))) := by
  match w, h with
  | [x, y, z], _ => simp [List.any_cons]
theorem or_no {a b c d : Bool} (h : true = (!a || (!b || !c))) : (a && (b && (c && d))) = false := by
  cases a <;> cases b <;> cases c <;> simp at h ⊢
theorem or_yes {a b c : Bool} (h : false = (!a || (!b || !c))) : (a = true ∧ b = true) ∧ c = true := by
  cases a <;> cases b <;> cases c <;> simp at h ⊢
def g_impl_CheckHull : List (Nat × PSpec) := [(62, sp_impl_listOk), (63, sp_impl_shaped), (70, sp_impl_inTriangle)]
theorem gok_impl_CheckHull : GOK Try.prog g_impl_CheckHull := gok_cons gk_impl_listOk en_impl_listOk (gok_cons gk_impl_shaped en_impl_shaped (gok_cons gk_impl_inTriangle en_impl_inTriangle (gok0)))
theorem lk_impl_CheckHull_impl_listOk : lkG g_impl_CheckHull 62 = sp_impl_listOk := rfl
theorem lk_impl_CheckHull_impl_shaped : lkG g_impl_CheckHull 63 = sp_impl_shaped := rfl
theorem lk_impl_CheckHull_impl_inTriangle : lkG g_impl_CheckHull 70 = sp_impl_inTriangle := rfl
def h_impl_CheckHull : List (Nat × HSpec) := [(64, hs_slices_ContainsFunc_impl_Point_impl_Point_ck), (67, hs_slices_ContainsFunc_int_int_ck)]
theorem hok_impl_CheckHull : HOK Try.prog h_impl_CheckHull := hok_cons hk_slices_ContainsFunc_impl_Point_impl_Point_ck en_slices_ContainsFunc_impl_Point_impl_Point_ck (hok_cons hk_slices_ContainsFunc_int_int_ck en_slices_ContainsFunc_int_int_ck (hok0))
theorem lh_impl_CheckHull_impl_listOk : lkHS h_impl_CheckHull 62 = none := rfl
theorem lh_impl_CheckHull_impl_shaped : lkHS h_impl_CheckHull 63 = none := rfl
theorem lh_impl_CheckHull_impl_inTriangle : lkHS h_impl_CheckHull 70 = none := rfl
theorem lh_impl_CheckHull_slices_ContainsFunc_impl_Point_impl_Point_ck : lkHS h_impl_CheckHull 64 = some hs_slices_ContainsFunc_impl_Point_impl_Point_ck := rfl
theorem lh_impl_CheckHull_slices_ContainsFunc_int_int_ck : lkHS h_impl_CheckHull 67 = some hs_slices_ContainsFunc_int_int_ck := rfl
theorem c_impl_CheckHull (L : List Pt) (H : List Pt) (W : List (List Int))  : ICall Try.prog 27 [.sl 2 (encPs L), .sl 2 (encPs H), .sl 1 (encLI W)] (.bool (ckH L H W)) := by
  refine icall_V (G := g_impl_CheckHull) (H := h_impl_CheckHull) [(10, [(0, 22), (1, 22), (2, 22), (3, 22), (4, 22), (6, 22), (7, 22), (8, 22), (9, 22), (10, 22), (12, 22), (13, 22), (14, 22), (15, 22), (16, 22), (18, 22), (19, 22), (20, 22)])] tabOK mixed gok_impl_CheckHull hok_impl_CheckHull Try.func27 rfl Try.ntmps27 Try.results27 rfl (by kernel_rfl) fun F hN hlen => ?_
  have eL := len_encPs L
  have eH := len_encPs H
  have eW := len_encLI W
  have hlW := hlen 2 1 _ rfl
  rw [eW, maxLen_eq] at hlW
  have hv : ckH L H W = ((okPs L && (okPs H && (!decide (L.length = 0) && (decide (W.length = L.length) && shpS H)))) && (memB L H && wsB L H W)) := rfl
  have e0 : ((L.length : Int) == 0) = decide (L.length = 0) := by rw [Bool.eq_iff_iff]; simp
  cases c1 : okPs L with
  | false =>
    rw [c1] at hv
    simp only [V_seq, V_ret, V_region, V_cond, brW_true, W_nil, W_cons, effOp2, KN_seq, KXr_nil, KXr_seq, QE, asB, effOp, effPure, effPick, effNew, effBox, effCall, giveUp, hasAll, skipE, pureV, pickV, binV, partV, loadV, lenV, solid, IV.cells, ofC, strip, lkT, lkH, ISt.app, opI, gO, gB, allB, gval, wrapG, dstOK, setD, mentTm, mentHp, IV.ment, IV.mentL, oneI, lendV, lendP, lent, lentP, idsV, idsL, flat, clean, callArgs, callFn, allLent, enumT, Gives, Ideal.Fin, conv, conv0, Op.operands, Call.operands, List.append_toArray, reduceIte, reduceCtorEq, cond_true, Bool.or_false, Bool.or_true, Bool.and_true, Bool.false_and, Bool.not_true, Bool.not_false, Nat.reduceAdd, Nat.reduceLT, Nat.reduceLeDiff, Nat.reduceEqDiff, Nat.reduceBEq, Nat.zero_add, ne_eq, not_false_eq_true, true_and, and_true, false_and, and_false, and_self, false_implies, implies_true, List.map_cons, List.map_nil, List.nil_append, List.cons_append, List.append_nil, List.all_cons, List.all_nil, Option.bind_some, List.getElem?_cons_zero, List.getElem?_cons_succ, List.getD_cons_zero, List.length_cons, List.length_nil, List.take_succ_cons, List.take_nil, List.drop_zero, ex_clo, btf, or_self, Bool.true_eq_false, Bool.false_eq_true, tab23, tab45, hN, isPs_enc, toPs_enc, lk_impl_CheckHull_impl_listOk, lk_impl_CheckHull_impl_shaped, sp_impl_listOk, sp_impl_shaped, lh_impl_CheckHull_impl_listOk, lh_impl_CheckHull_impl_shaped, eL, eW, c1, hv]
  | true =>
    have mL := okPs_sm c1
    have zL := okPs_len c1
    have zL' : L.length ≤ 1000000 := by omega
    cases c3 : decide (L.length = 0) with
    | true =>
      rw [c1, c3, Bool.not_true, Bool.false_and, Bool.and_false, Bool.and_false] at hv
      simp only [V_seq, V_ret, V_region, V_cond, brW_true, W_nil, W_cons, effOp2, KN_seq, KXr_nil, KXr_seq, QE, asB, effOp, effPure, effPick, effNew, effBox, effCall, giveUp, hasAll, skipE, pureV, pickV, binV, partV, loadV, lenV, solid, IV.cells, ofC, strip, lkT, lkH, ISt.app, opI, gO, gB, allB, gval, wrapG, dstOK, setD, mentTm, mentHp, IV.ment, IV.mentL, oneI, lendV, lendP, lent, lentP, idsV, idsL, flat, clean, callArgs, callFn, allLent, enumT, Gives, Ideal.Fin, conv, conv0, Op.operands, Call.operands, List.append_toArray, reduceIte, reduceCtorEq, cond_true, cond_false, Bool.or_false, Bool.or_true, Bool.and_true, Bool.false_and, Bool.not_true, Bool.not_false, Nat.reduceAdd, Nat.reduceLT, Nat.reduceLeDiff, Nat.reduceEqDiff, Nat.reduceBEq, Nat.zero_add, ne_eq, not_false_eq_true, beq_self_eq_true, true_and, and_true, false_and, and_false, and_self, false_implies, implies_true, List.map_cons, List.map_nil, List.nil_append, List.cons_append, List.append_nil, List.all_cons, List.all_nil, Option.bind_some, List.getElem?_cons_zero, List.getElem?_cons_succ, List.getD_cons_zero, List.length_cons, List.length_nil, List.take_succ_cons, List.take_nil, List.drop_zero, ex_clo, btf, or_self, Bool.true_eq_false, Bool.false_eq_true, tab23, tab45, hN, isPs_enc, toPs_enc, lk_impl_CheckHull_impl_listOk, lk_impl_CheckHull_impl_shaped, sp_impl_listOk, sp_impl_shaped, lh_impl_CheckHull_impl_listOk, lh_impl_CheckHull_impl_shaped, eL, eW, c1, e0, c3, hv]
    | false =>
      cases c2 : okPs H with
      | false =>
        rw [c1, c2] at hv
        simp only [V_seq, V_ret, V_region, V_cond, brW_true, W_nil, W_cons, effOp2, KN_seq, KXr_nil, KXr_seq, QE, asB, effOp, effPure, effPick, effNew, effBox, effCall, giveUp, hasAll, skipE, pureV, pickV, binV, partV, loadV, lenV, solid, IV.cells, ofC, strip, lkT, lkH, ISt.app, opI, gO, gB, allB, gval, wrapG, dstOK, setD, mentTm, mentHp, IV.ment, IV.mentL, oneI, lendV, lendP, lent, lentP, idsV, idsL, flat, clean, callArgs, callFn, allLent, enumT, Gives, Ideal.Fin, conv, conv0, Op.operands, Call.operands, List.append_toArray, reduceIte, reduceCtorEq, cond_true, cond_false, Bool.or_false, Bool.or_true, Bool.and_true, Bool.and_false, Bool.true_and, Bool.false_and, Bool.not_true, Bool.not_false, Nat.reduceAdd, Nat.reduceLT, Nat.reduceLeDiff, Nat.reduceEqDiff, Nat.reduceBEq, Nat.zero_add, ne_eq, not_false_eq_true, beq_self_eq_true, true_and, and_true, false_and, and_false, and_self, false_implies, implies_true, List.map_cons, List.map_nil, List.nil_append, List.cons_append, List.append_nil, List.all_cons, List.all_nil, Option.bind_some, List.getElem?_cons_zero, List.getElem?_cons_succ, List.getD_cons_zero, List.length_cons, List.length_nil, List.take_succ_cons, List.take_nil, List.drop_zero, ex_clo, btf, or_self, Bool.true_eq_false, Bool.false_eq_true, tab23, tab45, hN, isPs_enc, toPs_enc, lk_impl_CheckHull_impl_listOk, lk_impl_CheckHull_impl_shaped, sp_impl_listOk, sp_impl_shaped, lh_impl_CheckHull_impl_listOk, lh_impl_CheckHull_impl_shaped, eL, eW, c1, c2, e0, c3, hv]
      | true =>
        have mH := okPs_sm c2
        have zH := okPs_len c2
        have zH' : H.length ≤ 1000000 := by omega
        have hsh := shp_same c2
        cases c5 : shpS H with
        | false =>
          rw [c5] at hsh
          rw [c5, Bool.and_false, Bool.and_false, Bool.and_false, Bool.and_false] at hv
          simp only [V_seq, V_ret, V_region, V_cond, brW_true, W_nil, W_cons, effOp2, KN_seq, KXr_nil, KXr_seq, QE, asB, effOp, effPure, effPick, effNew, effBox, effCall, giveUp, hasAll, skipE, pureV, pickV, binV, partV, loadV, lenV, solid, IV.cells, ofC, strip, lkT, lkH, ISt.app, opI, gO, gB, allB, gval, wrapG, dstOK, setD, mentTm, mentHp, IV.ment, IV.mentL, oneI, lendV, lendP, lent, lentP, idsV, idsL, flat, clean, callArgs, callFn, allLent, enumT, Gives, Ideal.Fin, conv, conv0, Op.operands, Call.operands, List.append_toArray, reduceIte, reduceCtorEq, cond_true, cond_false, Bool.or_false, Bool.and_true, Bool.false_and, Bool.not_true, Bool.not_false, Nat.reduceAdd, Nat.reduceLT, Nat.reduceLeDiff, Nat.reduceEqDiff, Nat.reduceBEq, Nat.zero_add, ne_eq, not_false_eq_true, beq_self_eq_true, and_true, and_self, false_implies, implies_true, List.map_cons, List.map_nil, List.nil_append, List.cons_append, List.append_nil, List.all_cons, List.all_nil, Option.bind_some, List.getElem?_cons_zero, List.getElem?_cons_succ, List.getD_cons_zero, List.length_cons, List.length_nil, List.take_succ_cons, List.take_nil, List.drop_zero, ex_clo, btf, or_self, Bool.true_eq_false, Bool.false_eq_true, tab23, tab45, hN, isPs_enc, toPs_enc, lk_impl_CheckHull_impl_listOk, lk_impl_CheckHull_impl_shaped, sp_impl_listOk, sp_impl_shaped, lh_impl_CheckHull_impl_listOk, lh_impl_CheckHull_impl_shaped, eL, eW, c1, c2, e0, c3, mH, zH', hsh, hv]
        | true =>
          rw [c5] at hsh
          cases c4 : decide (W.length = L.length) with
          | false =>
            rw [c1, c2, c3, c4] at hv
            simp only [V_seq, V_ret, V_region, V_cond, brW_true, W_nil, W_cons, effOp2, KN_seq, KXr_nil, KXr_seq, QE, asB, effOp, effPure, effPick, effNew, effBox, effCall, giveUp, hasAll, skipE, pureV, pickV, binV, partV, loadV, lenV, solid, IV.cells, ofC, strip, lkT, lkH, ISt.app, opI, gO, gB, allB, gval, wrapG, dstOK, setD, mentTm, mentHp, IV.ment, IV.mentL, oneI, lendV, lendP, lent, lentP, idsV, idsL, flat, clean, callArgs, callFn, allLent, enumT, Gives, Ideal.Fin, conv, conv0, Op.operands, Call.operands, List.append_toArray, reduceIte, reduceCtorEq, cond_true, cond_false, Bool.or_false, Bool.and_true, Bool.and_false, Bool.false_and, Bool.not_true, Bool.not_false, Nat.reduceAdd, Nat.reduceLT, Nat.reduceLeDiff, Nat.reduceEqDiff, Nat.reduceBEq, Nat.zero_add, ne_eq, not_false_eq_true, beq_self_eq_true, and_self, implies_true, List.map_cons, List.map_nil, List.nil_append, List.cons_append, List.append_nil, List.all_cons, List.all_nil, Option.bind_some, List.getElem?_cons_zero, List.getElem?_cons_succ, List.getD_cons_zero, List.length_cons, List.length_nil, List.take_succ_cons, List.take_nil, List.drop_zero, ex_clo, or_self, Bool.false_eq_true, tab23, tab45, hN, isPs_enc, toPs_enc, lk_impl_CheckHull_impl_listOk, lk_impl_CheckHull_impl_shaped, sp_impl_listOk, sp_impl_shaped, lh_impl_CheckHull_impl_listOk, lh_impl_CheckHull_impl_shaped, eL, eW, c1, c2, e0, c3, neb, c4, mH, zH', hsh, hv]
          | true =>
            rw [c1, c2, c3, c4, c5] at hv
            simp only [Bool.true_and, Bool.not_false] at hv
            have hWL := of_decide_eq_true c4
            cases c6 : H.any (outL L) with
            | true =>
              have hm : memB L H = false := by rw [memB, c6]; rfl
              rw [hm, Bool.false_and] at hv
              simp only [V_seq, V_skip, V_ret, V_region, V_cond, brW_true, brW_false, W_nil, W_cons, effOp2, KN_seq, KXr_nil, KXr_seq, QE, asB, effOp, effPure, effPick, effNew, effBox, effCall, giveUp, hasAll, Option.isSome_some, skipE, pureV, pickV, binV, partV, loadV, lenV, solid, IV.cells, ofC, strip, lkT, lkH, ISt.app, opI, gO, gB, allB, gval, wrapG, dstOK, setD, mentTm, mentHp, IV.ment, IV.mentL, oneI, lendV, lendP, lent, lentP, idsV, idsL, flat, clean, callArgs, callFn, allLent, enumT, Gives, Ideal.Fin, conv, conv0, convL, IBlk.shape, Op.operands, Call.operands, List.append_toArray, reduceIte, reduceCtorEq, cond_true, cond_false, Bool.or_false, Bool.or_true, Bool.and_true, Bool.not_true, Nat.reduceAdd, Nat.reduceSub, Nat.reduceMul, Nat.reduceLT, Nat.reduceLeDiff, Nat.reduceEqDiff, Nat.reduceBEq, Nat.zero_add, ne_eq, not_false_eq_true, beq_self_eq_true, and_false, and_self, implies_true, List.map_cons, List.map_nil, List.nil_append, List.cons_append, List.append_nil, List.all_cons, List.all_nil, Option.map_some, Option.bind_some, List.getElem?_cons_zero, List.getElem?_cons_succ, List.getD_cons_zero, List.length_cons, List.length_nil, List.take_succ_cons, List.take_nil, List.drop_zero, ex_clo, or_self, Bool.true_eq_false, Bool.false_eq_true, tab23, tab45, hN, isPs_enc, toPs_enc, SLe0, convTm, convHp, convB, sm, effH, mkHC0, mkHC1, lendM, lentM, lentI, allHere, addIds, idsB, flatIds, reach, posn, renV, renL, renB, renH, numB, subHp, fwd, bk, bwd, nones, keyOK, noSl, noSlL, flatBs, List.contains, List.elem, Option.isSome_some, List.nodup_nil, List.nodup_cons, List.not_mem_nil, or_false, Option.getD_some, lk_impl_CheckHull_impl_listOk, lk_impl_CheckHull_impl_shaped, sp_impl_listOk, sp_impl_shaped, lh_impl_CheckHull_impl_listOk, lh_impl_CheckHull_impl_shaped, lh_impl_CheckHull_slices_ContainsFunc_impl_Point_impl_Point_ck, hs_slices_ContainsFunc_impl_Point_impl_Point_ck, eL, eW, c1, c2, e0, c3, neb, c4, mH, zH', zL', hsh, c6, hv]
              try omega
            | false =>
              have hm : memB L H = true := by rw [memB, c6]; rfl
              rw [hm, Bool.true_and] at hv
              simp only [V_seq, V_skip, V_block, V_region, V_cond, brW_false, W_nil, W_cons, effOp2, KN_seq, asB, effOp, effPure, effPick, effNew, effBox, effCall, giveUp, hasAll, Option.isSome_some, skipE, pureV, pickV, binV, partV, loadV, lenV, solid, IV.cells, ofC, strip, lkT, lkH, ISt.app, opI, gO, gB, allB, gval, wrapG, dstOK, setD, mentTm, mentHp, IV.ment, IV.mentL, oneI, lendV, lendP, lent, lentP, idsV, idsL, flat, clean, callArgs, callFn, allLent, enumT, conv, conv0, convL, IBlk.shape, Op.operands, Call.operands, List.append_toArray, reduceIte, reduceCtorEq, cond_true, cond_false, Bool.or_false, Bool.or_true, Bool.and_true, Bool.not_true, Nat.reduceAdd, Nat.reduceSub, Nat.reduceMul, Nat.reduceLT, Nat.reduceLeDiff, Nat.reduceEqDiff, Nat.reduceBEq, Nat.zero_add, ne_eq, not_false_eq_true, beq_self_eq_true, true_and, and_false, and_self, implies_true, List.map_cons, List.map_nil, List.nil_append, List.cons_append, List.append_nil, List.all_cons, List.all_nil, Option.map_some, Option.bind_some, List.getElem?_cons_zero, List.getElem?_cons_succ, List.getD_cons_zero, List.length_cons, List.length_nil, List.take_succ_cons, List.take_nil, List.drop_zero, ex_clo, or_self, Bool.true_eq_false, Bool.false_eq_true, tab23, tab45, hN, isPs_enc, toPs_enc, SLe0, convTm, convHp, convB, sm, effH, mkHC0, mkHC1, lendM, lentM, lentI, allHere, addIds, idsB, flatIds, reach, posn, renV, renL, renB, renH, numB, subHp, fwd, bk, bwd, nones, keyOK, noSl, noSlL, flatBs, List.contains, List.elem, Option.isSome_some, List.nodup_nil, List.nodup_cons, List.not_mem_nil, or_false, Option.getD_some, lk_impl_CheckHull_impl_listOk, lk_impl_CheckHull_impl_shaped, sp_impl_listOk, sp_impl_shaped, lh_impl_CheckHull_impl_listOk, lh_impl_CheckHull_impl_shaped, lh_impl_CheckHull_slices_ContainsFunc_impl_Point_impl_Point_ck, hs_slices_ContainsFunc_impl_Point_impl_Point_ck, eL, eW, c1, c2, e0, c3, neb, c4, mH, zH', zL', hsh, c6]
              refine V_loop (α := Nat) ⟨tabOK, mixed, gok_impl_CheckHull, hok_impl_CheckHull⟩ (by kernel_rfl) (fun i => i ≤ W.length ∧ ∀ a, a < i → wT H (wAt W a) (pAt L a) = true) (fun i => ⟨[(39, .num .i64 i), (38, .num .i64 W.length), (37, .sl 1 (encLI W)), (4, .ptr 4 0), (3, .ptr 3 0)], [(3, some (.box 23 [.sl 2 (encPs L)])), (4, some (.box 23 [.sl 2 (encPs H)]))]⟩) (fun i => W.length - i) 0 id ⟨Nat.zero_le _, fun a h => absurd h (Nat.not_lt_zero a)⟩ (by simp [SLe, SLe0, convTm, convHp, convB, conv, conv0, convL, lkT, lkH, clean]) ?_
              rintro i ⟨hi, hI⟩
              simp only [V_seq, V_region, V_cond, W_nil, W_cons, effOp2, KN_seq, asB, effOp, effPure, pureV, binV, strip, lkT, ISt.app, opI, gO, gB, allB, gval, wrapG, dstOK, setD, Op.operands, reduceIte, Nat.reduceLT, Nat.reduceEqDiff, true_and, and_self, implies_true, List.nil_append, List.cons_append, hN]
              refine brW_some (fun h => ?_) (fun h => ?_)
              · have hi' : i < W.length := by simpa using h
                have g0 := getD_encLI hi'
                have gl := getD_encPs (l := L) (i := i) (by omega)
                have hw := wr_succ hi' (by rw [maxLen_eq]; omega)
                have hT : wT H (wAt W i) (pAt L i) = (decide ((wAt W i).length = 3) && (inR (iAt (wAt W i) 0) 0 ((H.length : Int) - 1) && (inR (iAt (wAt W i) 1) 0 ((H.length : Int) - 1) && (inR (iAt (wAt W i) 2) 0 ((H.length : Int) - 1) && inTri (pAt H (iAt (wAt W i) 0).toNat) (pAt H (iAt (wAt W i) 1).toNat) (pAt H (iAt (wAt W i) 2).toNat) (pAt L i))))) := rfl
                have hno := fun hf => ws_no (L := L) (H := H) hi' hf
                have hyes := fun hf => lt_step (P := fun a => wT H (wAt W a) (pAt L a) = true) hI hf
                have sq := mL.at i
                obtain ⟨w, hw0⟩ : ∃ w, wAt W i = w := ⟨_, rfl⟩
                obtain ⟨q, hq0⟩ : ∃ q, pAt L i = q := ⟨_, rfl⟩
                rw [hw0, hq0] at hT hno hyes
                rw [hw0] at g0
                rw [hq0] at gl sq
                have ew := len_encI w
                have n3 : ((w.length : Int) != 3) = !decide (w.length = 3) := by rw [Bool.eq_iff_iff]; simp; omega
                have t0 : Int.toNat 0 = 0 := rfl
                have t1 : Int.toNat 1 = 1 := rfl
                have t2 : Int.toNat 2 = 2 := rfl
                cases x0 : decide (w.length = 3) with
                | false =>
                  rw [x0] at hT
                  have hf := hno (by rw [hT]; rfl)
                  rw [hf] at hv
                  simp only [V_seq, V_skip, V_ret, V_block, V_region, V_cond, brW_true, W_nil, W_cons, effOp2, KN_seq, KXr_nil, KXr_seq, KXr_block, KXr_back, QE, asB, effOp, effPure, effPick, Option.isSome_some, skipE, pureV, pickV, binV, eltV, loadV, iaddrV, lenV, ofC, strip, lkT, lkH, ISt.app, opI, gO, gB, allB, gval, wrapG, dstOK, setD, mentTm, mentHp, IV.ment, IV.mentL, lendV, lendP, lent, lentP, idsV, idsL, clean, callArgs, callFn, enumT, Gives, Ideal.Fin, conv, conv0, convL, IBlk.shape, Op.operands, Call.operands, List.append_toArray, reduceIte, reduceCtorEq, cond_true, cond_false, Bool.or_false, Bool.or_true, Bool.and_true, Bool.not_false, Nat.reduceAdd, Nat.reduceSub, Nat.reduceMul, Nat.reduceLT, Nat.reduceLeDiff, Nat.reduceEqDiff, Nat.reduceBEq, Nat.zero_add, ne_eq, not_false_eq_true, beq_self_eq_true, true_and, and_true, false_and, and_false, and_self, implies_true, forall_const, List.map_cons, List.map_nil, List.nil_append, List.cons_append, List.append_nil, List.all_nil, Option.map_some, Option.bind_some, List.getElem?_cons_zero, List.getElem?_cons_succ, List.getD_cons_zero, ex_clo, btf, Bool.true_eq_false, Bool.false_eq_true, tab45, tab72, hN, Int.toNat_natCast, isPs_enc, toPs_enc, isIs_enc, toIs_enc, SLe0, convTm, convHp, convB, sm, effH, mkHC0, mkHC1, lendM, lentM, lentI, allHere, addIds, idsB, flatIds, reach, posn, renV, renL, renB, renH, numB, subHp, fwd, bk, bwd, nones, keyOK, noSl, noSlL, flatBs, List.contains, List.elem, Option.isSome_some, List.nodup_nil, List.nodup_cons, List.not_mem_nil, or_false, Option.getD_some, lh_impl_CheckHull_slices_ContainsFunc_int_int_ck, hs_slices_ContainsFunc_int_int_ck, eW, ew, n3, g0, x0, hv]
                  try omega
                | true =>
                  have q0 := of_decide_eq_true x0
                  have hz3 : w.length ≤ 2000000 := by omega
                  have j0 : (encI w).getD 0 .junk = .num .i64 (iAt w 0) := getD_encI (by omega)
                  have j1 : (encI w).getD 1 .junk = .num .i64 (iAt w 1) := getD_encI (by omega)
                  have j2 : (encI w).getD 2 .junk = .num .i64 (iAt w 2) := getD_encI (by omega)
                  have ha := any_three (f := outI H) q0
                  have hT' := hT
                  rw [x0, Bool.true_and] at hT'
                  generalize iAt w 0 = x at *
                  generalize iAt w 1 = y at *
                  generalize iAt w 2 = z at *
                  cases x1 : w.any (outI H) with
                  | true =>
                    have hf := hno (by
                      rw [x1] at ha
                      rw [hT']
                      exact or_no ha)
                    rw [hf] at hv
                    simp only [V_seq, V_skip, V_ret, V_block, V_region, V_cond, brW_true, W_nil, W_cons, effOp2, KN_seq, KXr_nil, KXr_seq, KXr_block, KXr_back, QE, asB, effOp, effPure, effPick, Option.isSome_some, skipE, pureV, pickV, binV, eltV, loadV, iaddrV, lenV, ofC, strip, lkT, lkH, ISt.app, opI, gO, gB, allB, gval, wrapG, dstOK, setD, mentTm, mentHp, IV.ment, IV.mentL, lendV, lendP, lent, lentP, idsV, idsL, clean, callArgs, callFn, enumT, Gives, Ideal.Fin, conv, conv0, convL, IBlk.shape, Op.operands, Call.operands, List.append_toArray, reduceIte, reduceCtorEq, cond_true, cond_false, Bool.or_false, Bool.or_true, Bool.and_true, Bool.not_true, Nat.reduceAdd, Nat.reduceSub, Nat.reduceMul, Nat.reduceLT, Nat.reduceLeDiff, Nat.reduceEqDiff, Nat.reduceBEq, Nat.zero_add, ne_eq, not_false_eq_true, beq_self_eq_true, true_and, and_true, and_false, and_self, implies_true, forall_const, List.map_cons, List.map_nil, List.nil_append, List.cons_append, List.append_nil, List.all_nil, Option.map_some, Option.bind_some, List.getElem?_cons_zero, List.getElem?_cons_succ, List.getD_cons_zero, ex_clo, Bool.true_eq_false, Bool.false_eq_true, tab45, tab72, hN, Int.toNat_natCast, isPs_enc, toPs_enc, isIs_enc, toIs_enc, SLe0, convTm, convHp, convB, sm, effH, mkHC0, mkHC1, lendM, lentM, lentI, allHere, addIds, idsB, flatIds, reach, posn, renV, renL, renB, renH, numB, subHp, fwd, bk, bwd, nones, keyOK, noSl, noSlL, flatBs, List.contains, List.elem, Option.isSome_some, List.nodup_nil, List.nodup_cons, List.not_mem_nil, or_false, Option.getD_some, lh_impl_CheckHull_slices_ContainsFunc_int_int_ck, hs_slices_ContainsFunc_int_int_ck, eW, ew, n3, g0, x0, zH', hz3, x1, hv]
                    try omega
                  | false =>
                    rw [x1] at ha
                    have hin : (inR x 0 ((H.length : Int) - 1) = true ∧ inR y 0 ((H.length : Int) - 1) = true) ∧ inR z 0 ((H.length : Int) - 1) = true := or_yes ha
                    obtain ⟨⟨x5, x6⟩, x7⟩ := hin
                    rw [x5, x6, x7, Bool.true_and, Bool.true_and, Bool.true_and] at hT'
                    have hr : ∀ {u : Int}, inR u 0 ((H.length : Int) - 1) = true → 0 ≤ u ∧ u < (H.length : Int) := fun hu => by
                      simp only [inR, Bool.and_eq_true, decide_eq_true_eq] at hu; omega
                    have bx := hr x5
                    have by_ := hr x6
                    have bz := hr x7
                    have yx := getD_encPs (l := H) (i := x.toNat) (by omega)
                    have yy := getD_encPs (l := H) (i := y.toNat) (by omega)
                    have yz := getD_encPs (l := H) (i := z.toNat) (by omega)
                    have sx := mH.at x.toNat
                    have sy := mH.at y.toNat
                    have sz := mH.at z.toNat
                    cases x4 : inTri (pAt H x.toNat) (pAt H y.toNat) (pAt H z.toNat) q with
                    | false =>
                      have hf := hno (by rw [hT', x4])
                      rw [hf] at hv
                      simp only [V_seq, V_skip, V_ret, V_block, V_region, V_draw, V_cond, brW_true, brW_false, drawW, WS_nil, pairsOf, W_nil, W_cons, effOp2, effOp3, WI_nil, WI_cons, KN_seq, KXr_nil, KXr_seq, KXr_block, KXr_back, QE, dynOK, indB, farB, freshB, freshK, freshK1, heapy, asB, effOp, effPure, effPick, effCall, giveUp, hasAll, Option.isSome_some, skipE, pureV, pickV, binV, partV, eltV, loadV, iaddrV, lenV, ofC, strip, lkT, lkH, ISt.app, opI, gO, gB, allB, gval, wrapG, dstOK, setD, mentTm, mentHp, IV.ment, IV.mentL, lendV, lendP, lent, lentP, idsV, idsL, flat, clean, callArgs, callFn, allLent, enumT, Gives, Ideal.Fin, conv, conv0, convL, IBlk.shape, Op.operands, Call.operands, List.append_toArray, reduceIte, reduceCtorEq, cond_true, cond_false, Bool.or_false, Bool.or_true, Bool.and_true, Bool.and_eq_true, Bool.not_true, Bool.not_false, Nat.reduceAdd, Nat.reduceSub, Nat.reduceMul, Nat.reduceLT, Nat.reduceLeDiff, Nat.reduceEqDiff, Nat.reduceBEq, Nat.zero_add, ne_eq, not_false_eq_true, beq_self_eq_true, true_and, and_true, and_false, and_self, implies_true, forall_const, List.map_cons, List.map_nil, List.nil_append, List.cons_append, List.append_nil, List.all_nil, Option.map_some, Option.bind_some, List.getElem?_cons_zero, List.getElem?_cons_succ, List.getD_cons_zero, List.getD_cons_succ, List.length_cons, List.length_nil, List.take_succ_cons, List.take_zero, List.take_nil, List.drop_zero, ex_clo, or_self, Bool.true_eq_false, Bool.false_eq_true, tab3, tab23, tab28, tab45, tab72, hN, pe, Int.toNat_natCast, isPs_enc, toPs_enc, isIs_enc, toIs_enc, SLe0, convTm, convHp, convB, sm, effH, mkHC0, mkHC1, lendM, lentM, lentI, allHere, addIds, idsB, flatIds, reach, posn, renV, renL, renB, renH, numB, subHp, fwd, bk, bwd, nones, keyOK, noSl, noSlL, flatBs, List.contains, List.elem, Option.isSome_some, List.nodup_nil, List.nodup_cons, List.not_mem_nil, or_false, Option.getD_some, lk_impl_CheckHull_impl_inTriangle, sp_impl_inTriangle, lh_impl_CheckHull_impl_inTriangle, lh_impl_CheckHull_slices_ContainsFunc_int_int_ck, hs_slices_ContainsFunc_int_int_ck, eW, eL, eH, ew, n3, g0, gl, x0, zH', hz3, x1, t0, t1, t2, j0, j1, j2, yx, yy, yz, sx, sy, sz, sq, x4, hv]
                      try omega
                    | true =>
                      have hst := hyes (by rw [hT', x4])
                      simp only [V_seq, V_skip, V_block, V_region, V_draw, V_cond, brW_false, drawW, WS_nil, pairsOf, W_nil, W_cons, effOp2, effOp3, WI_nil, WI_cons, KN_seq, KN_block, KN_back, dynOK, indB, farB, freshB, freshK, freshK1, heapy, asB, effOp, effPure, effPick, effCall, giveUp, hasAll, Option.isSome_some, skipE, pureV, pickV, binV, partV, eltV, loadV, iaddrV, lenV, ofC, strip, lkT, lkH, ISt.app, opI, gO, gB, allB, gval, wrapG, dstOK, setD, mentTm, mentHp, IV.ment, IV.mentL, lendV, lendP, lent, lentP, idsV, idsL, flat, clean, callArgs, callFn, allLent, enumT, conv, conv0, convL, IBlk.shape, Op.operands, Call.operands, List.append_toArray, reduceIte, reduceCtorEq, cond_true, cond_false, Bool.or_false, Bool.or_true, Bool.and_true, Bool.and_eq_true, Bool.not_true, Bool.not_false, Nat.reduceAdd, Nat.reduceSub, Nat.reduceMul, Nat.reduceLT, Nat.reduceLeDiff, Nat.reduceEqDiff, Nat.reduceBEq, Nat.zero_add, ne_eq, not_false_eq_true, beq_self_eq_true, true_and, and_true, and_false, and_self, implies_true, forall_const, List.map_cons, List.map_nil, List.nil_append, List.cons_append, List.append_nil, List.all_nil, Option.map_some, Option.bind_some, List.getElem?_cons_zero, List.getElem?_cons_succ, List.getD_cons_zero, List.getD_cons_succ, List.length_cons, List.length_nil, List.take_succ_cons, List.take_zero, List.take_nil, List.drop_zero, ex_clo, or_self, Bool.true_eq_false, Bool.false_eq_true, tab3, tab23, tab28, tab45, tab72, hN, pe, Int.toNat_natCast, isPs_enc, toPs_enc, isIs_enc, toIs_enc, SLe0, convTm, convHp, convB, sm, effH, mkHC0, mkHC1, lendM, lentM, lentI, allHere, addIds, idsB, flatIds, reach, posn, renV, renL, renB, renH, numB, subHp, fwd, bk, bwd, nones, keyOK, noSl, noSlL, flatBs, List.contains, List.elem, Option.isSome_some, List.nodup_nil, List.nodup_cons, List.not_mem_nil, or_false, Option.getD_some, lk_impl_CheckHull_impl_inTriangle, sp_impl_inTriangle, lh_impl_CheckHull_impl_inTriangle, lh_impl_CheckHull_slices_ContainsFunc_int_int_ck, hs_slices_ContainsFunc_int_int_ck, eW, eL, eH, ew, n3, g0, gl, x0, zH', hz3, x1, t0, t1, t2, j0, j1, j2, yx, yy, yz, sx, sy, sz, sq, x4, hw]
                      repeat refine And.intro (by first | omega | (simp; done) | (simp; omega)) ?_
                      exact ⟨i + 1, id, ⟨by omega, hst⟩, by simp only []; omega, by simp [SLe, SLe0, convTm, convHp, convB, conv, conv0, convL, lkT, lkH, clean]⟩
              · have hie : i = W.length := by simp at h; omega
                subst hie
                have hf : wsB L H W = true := all_yes hI
                rw [hf] at hv
                simp only [V_seq, V_ret, V_exit, V_region, W_nil, W_cons, effOp2, KN_seq, KXr_nil, KXe_nil, KXe_seq, KXe_block, KXe_back, QE, effOp, effPure, pureV, ofC, strip, lkT, lkH, ISt.app, opI, gO, gB, allB, gval, wrapG, dstOK, setD, clean, Gives, Ideal.Fin, conv, conv0, Op.operands, reduceIte, Nat.reduceLT, Nat.reduceEqDiff, and_self, implies_true, List.nil_append, List.cons_append, hN, hv]
def sp_impl_CheckHull : PSpec := ⟨fun xs => match xs with | [.sl 2 Les, .sl 2 Hes, .sl 1 Wes] => isPs Les ∧ isPs Hes ∧ isLI Wes | _ => False, fun xs => match xs with | [.sl _ Les, .sl _ Hes, .sl _ Wes] => (fun (L : List Pt) (H : List Pt) (W : List (List Int)) => .bool (ckH L H W)) (toPs Les) (toPs Hes) (toLI Wes) | _ => .junk, false⟩
theorem gk_impl_CheckHull : ∀ args, sp_impl_CheckHull.pre args → ICall Try.prog 27 args (sp_impl_CheckHull.val args) := by
  intro args h
  unfold sp_impl_CheckHull at h ⊢; simp only at h ⊢; split at h
  · obtain ⟨h0, h1, h2⟩ := h
    obtain ⟨l0, rfl⟩ := isP_ex h0
    obtain ⟨l1, rfl⟩ := isP_ex h1
    obtain ⟨l2, rfl⟩ := isLI_ex h2
    simp only [toPs_enc, toLI_enc] at *
    exact c_impl_CheckHull _ _ _ 
  · exact h.elim
theorem en_impl_CheckHull : Enters Try.prog 27 := enters_of Try.func27 (by kernel_rfl) rfl

def g_laws_toPointS_v : List (Nat × PSpec) := [(52, sp_laws_toPoint)]
theorem gok_laws_toPointS_v : GOK Try.prog g_laws_toPointS_v := gok_cons gk_laws_toPoint en_laws_toPoint (gok0)
theorem lk_laws_toPointS_v_laws_toPoint : lkG g_laws_toPointS_v 52 = sp_laws_toPoint := rfl
def h_laws_toPointS_v : List (Nat × HSpec) := []
theorem hok_laws_toPointS_v : HOK Try.prog h_laws_toPointS_v := hok0
theorem c_laws_toPointS_v (l : List Pt) (hsz : l.length ≤ 1048576) : ICallF Try.prog 21 [.sl 2 (encPs l)] (.sl 2 (encPs l)) := by
  exact icallF_ref (c_laws_toPointS l hsz) (len_encPs _).symm (noSl_encPs _)
def sp_laws_toPointS_v : PSpec := ⟨fun xs => match xs with | [.sl 2 les] => isPs les ∧ ((fun (l : List Pt) => l.length ≤ 1048576) (toPs les)) | _ => False, fun xs => match xs with | [.sl _ les] => (fun (l : List Pt) => .sl 2 (encPs l)) (toPs les) | _ => .junk, true⟩
theorem gk_laws_toPointS_v : ∀ args, sp_laws_toPointS_v.pre args → ICallF Try.prog 21 args (sp_laws_toPointS_v.val args) ∧ ∀ id, (sp_laws_toPointS_v.val args).ment id = false := by
  intro args h
  unfold sp_laws_toPointS_v at h ⊢; simp only at h ⊢; split at h
  · obtain ⟨h0, h1⟩ := h
    obtain ⟨l0, rfl⟩ := isP_ex h0
    simp only [toPs_enc] at *
    exact ⟨c_laws_toPointS_v _ h1, fun id => rfl⟩
  · exact h.elim
theorem en_laws_toPointS_v : Enters Try.prog 21 := enters_of Try.func21 (by kernel_rfl) rfl

def g_laws_FnExactCheckHull : List (Nat × PSpec) := [(19, sp_laws_szPointS), (24, sp_laws_szIntSS), (21, sp_laws_toPointS_v), (26, sp_laws_toIntSS_v), (25, sp_spec_CheckHull), (27, sp_impl_CheckHull), (23, sp_laws_eqPointS), (28, sp_laws_eqIntSS)]
theorem gok_laws_FnExactCheckHull : GOK Try.prog g_laws_FnExactCheckHull := gok_cons gk_laws_szPointS en_laws_szPointS (gok_cons gk_laws_szIntSS en_laws_szIntSS (gok_consO gk_laws_toPointS_v en_laws_toPointS_v (gok_cons gk_laws_toIntSS_v en_laws_toIntSS_v (gok_cons gk_spec_CheckHull en_spec_CheckHull (gok_cons gk_impl_CheckHull en_impl_CheckHull (gok_cons gk_laws_eqPointS en_laws_eqPointS (gok_cons gk_laws_eqIntSS en_laws_eqIntSS (gok0))))))))
theorem lk_laws_FnExactCheckHull_laws_szPointS : lkG g_laws_FnExactCheckHull 19 = sp_laws_szPointS := rfl
theorem lk_laws_FnExactCheckHull_laws_szIntSS : lkG g_laws_FnExactCheckHull 24 = sp_laws_szIntSS := rfl
theorem lk_laws_FnExactCheckHull_laws_toPointS_v : lkG g_laws_FnExactCheckHull 21 = sp_laws_toPointS_v := rfl
theorem lk_laws_FnExactCheckHull_laws_toIntSS_v : lkG g_laws_FnExactCheckHull 26 = sp_laws_toIntSS_v := rfl
theorem lk_laws_FnExactCheckHull_spec_CheckHull : lkG g_laws_FnExactCheckHull 25 = sp_spec_CheckHull := rfl
theorem lk_laws_FnExactCheckHull_impl_CheckHull : lkG g_laws_FnExactCheckHull 27 = sp_impl_CheckHull := rfl
theorem lk_laws_FnExactCheckHull_laws_eqPointS : lkG g_laws_FnExactCheckHull 23 = sp_laws_eqPointS := rfl
theorem lk_laws_FnExactCheckHull_laws_eqIntSS : lkG g_laws_FnExactCheckHull 28 = sp_laws_eqIntSS := rfl
def h_laws_FnExactCheckHull : List (Nat × HSpec) := []
theorem hok_laws_FnExactCheckHull : HOK Try.prog h_laws_FnExactCheckHull := hok0
theorem c_laws_FnExactCheckHull (L : List Pt) (H : List Pt) (W : List (List Int))  : ICall Try.prog 6 [.sl 2 (encPs L), .sl 2 (encPs H), .sl 1 (encLI W)] (.bool true) := by
  refine icall_V (G := g_laws_FnExactCheckHull) (H := []) [] tabOK mixed gok_laws_FnExactCheckHull hok_laws_FnExactCheckHull Try.func6 rfl Try.ntmps6 Try.results6 rfl (by kernel_rfl) fun F hN hlen => ?_
  have hlL := hlen 0 2 _ rfl
  have hlH := hlen 1 2 _ rfl
  have hlW := hlen 2 1 _ rfl
  have eL := len_encPs L
  have eH := len_encPs H
  have eW := len_encLI W
  rw [eL] at hlL
  rw [eH] at hlH
  rw [eW] at hlW
  have d9 : decide ((-1 : Int) < 0) = true := by decide
  have u1 : (0 : Int) ≤ 1048576 := by decide
  have u2 : (1048576 : Int) ≤ 1048576 := by decide
  by_cases cL : L.length ≤ 1048576
  · have hv1 : szPointV L 1048576 = 1048576 - (L.length : Int) := if_neg (by omega)
    have d1 : decide (1048576 - (L.length : Int) < 0) = false := by simp only [decide_eq_false_iff_not]; omega
    have p1 : 0 ≤ 1048576 - (L.length : Int) := by omega
    have p2 : 1048576 - (L.length : Int) ≤ 1048576 := by omega
    by_cases cH : (H.length : Int) ≤ 1048576 - (L.length : Int)
    · have hv2 : szPointV H (1048576 - (L.length : Int)) = 1048576 - (L.length : Int) - (H.length : Int) := if_neg (by omega)
      have d2 : decide (1048576 - (L.length : Int) - (H.length : Int) < 0) = false := by simp only [decide_eq_false_iff_not]; omega
      have p3 : 0 ≤ 1048576 - (L.length : Int) - (H.length : Int) := by omega
      have p4 : 1048576 - (L.length : Int) - (H.length : Int) ≤ 1048576 := by omega
      have cH' : H.length ≤ 1048576 := by omega
      cases d3 : decide (szLI W (1048576 - (L.length : Int) - (H.length : Int)) < 0) with
      | true =>
        simp only [V_seq, V_skip, V_ret, V_region, V_cond, brW_true, brW_false, W_nil, W_cons, effOp2, KN_seq, KXr_nil, KXr_seq, QE, asB, effOp, effPure, effCall, giveUp, hasAll, pureV, binV, ofC, strip, lkT, lkH, ISt.app, opI, gO, gB, allB, gval, wrapG, dstOK, setD, lendV, lendP, lent, lentP, idsV, idsL, lkHS, flat, clean, callArgs, callFn, allLent, enumT, Gives, Ideal.Fin, conv, conv0, Op.operands, reduceIte, reduceCtorEq, cond_true, Bool.or_false, Bool.not_true, Nat.reduceAdd, Nat.reduceLT, Nat.reduceEqDiff, Nat.zero_add, and_self, implies_true, List.map_cons, List.map_nil, List.nil_append, List.cons_append, List.append_nil, ex_clo, or_self, hN, isPs_enc, toPs_enc, lk_laws_FnExactCheckHull_laws_szPointS, lk_laws_FnExactCheckHull_laws_szIntSS, sp_laws_szPointS, sp_laws_szIntSS, hv1, d1, hv2, d2, d3, p1, p2, p3, p4, u1, u2, isLI_enc, toLI_enc]
        try omega
      | false =>
        have hge : 0 ≤ szLI W (1048576 - (L.length : Int) - (H.length : Int)) := by simpa using d3
        have hW : (W.length : Int) ≤ 1048576 - (L.length : Int) - (H.length : Int) := by
          apply Classical.byContradiction
          intro hc
          have : szLI W (1048576 - (L.length : Int) - (H.length : Int)) = -1 := if_pos (by omega)
          omega
        have hs : szLI W (1048576 - (L.length : Int) - (H.length : Int)) = szLN W (1048576 - (L.length : Int) - (H.length : Int) - (W.length : Int)) := if_neg (by omega)
        rw [hs] at hge
        have hall := szLN_all hge (by omega)
        have cW : W.length ≤ 1048576 := by omega
        have cw : ∀ w ∈ W, w.length ≤ 1048576 := fun w hw => by have := hall w hw; omega
        have hb : ∀ x : Bool, (x != x) = false := fun x => by simp
        have hp : ∀ x : List Pt, (x == x) = true := fun x => by simp
        have hq : ∀ x : List (List Int), (x == x) = true := fun x => by simp
        simp only [V_seq, V_skip, V_ret, V_region, V_cond, brW_false, W_nil, W_cons, effOp2, KN_seq, KXr_nil, QE, asB, effOp, effPure, effCall, giveUp, hasAll, pureV, binV, ofC, strip, lkT, lkH, ISt.app, opI, gO, gB, allB, gval, wrapG, dstOK, setD, lendV, lendP, lent, lentP, idsV, idsL, lkHS, flat, clean, callArgs, callFn, allLent, enumT, Gives, Ideal.Fin, conv, conv0, Op.operands, reduceIte, reduceCtorEq, cond_true, cond_false, Bool.or_false, Bool.or_true, Bool.not_true, Nat.reduceAdd, Nat.reduceLT, Nat.reduceEqDiff, Nat.zero_add, beq_self_eq_true, true_and, and_true, and_self, implies_true, forall_const, List.map_cons, List.map_nil, List.nil_append, List.cons_append, List.append_nil, ex_clo, or_true, or_self, Bool.false_eq_true, tab4, hN, isPs_enc, toPs_enc, lk_laws_FnExactCheckHull_laws_szPointS, lk_laws_FnExactCheckHull_laws_szIntSS, lk_laws_FnExactCheckHull_laws_toPointS_v, lk_laws_FnExactCheckHull_laws_toIntSS_v, lk_laws_FnExactCheckHull_spec_CheckHull, lk_laws_FnExactCheckHull_impl_CheckHull, lk_laws_FnExactCheckHull_laws_eqPointS, lk_laws_FnExactCheckHull_laws_eqIntSS, sp_laws_szPointS, sp_laws_szIntSS, sp_laws_toPointS_v, sp_laws_toIntSS_v, sp_spec_CheckHull, sp_impl_CheckHull, sp_laws_eqPointS, sp_laws_eqIntSS, hv1, d1, hv2, d2, d3, p1, p2, p3, p4, u1, u2, cL, cH', cW, isLI_enc, toLI_enc]
        try omega
    · have hv2 : szPointV H (1048576 - (L.length : Int)) = -1 := if_pos (by omega)
      simp only [V_seq, V_skip, V_ret, V_region, V_cond, brW_true, brW_false, W_nil, W_cons, effOp2, KN_seq, KXr_nil, KXr_seq, QE, asB, effOp, effPure, effCall, giveUp, hasAll, pureV, binV, ofC, strip, lkT, lkH, ISt.app, opI, gO, gB, allB, gval, wrapG, dstOK, setD, lendV, lendP, lent, lentP, idsV, idsL, lkHS, flat, clean, callArgs, callFn, allLent, enumT, Gives, Ideal.Fin, conv, conv0, Op.operands, reduceIte, reduceCtorEq, cond_true, Bool.or_false, Bool.not_true, Nat.reduceAdd, Nat.reduceLT, Nat.reduceEqDiff, Nat.zero_add, and_self, implies_true, List.map_cons, List.map_nil, List.nil_append, List.cons_append, List.append_nil, ex_clo, or_self, hN, isPs_enc, toPs_enc, lk_laws_FnExactCheckHull_laws_szPointS, sp_laws_szPointS, hv1, d1, hv2, d9, p1, p2, u1, u2]
      try omega
  · have hv1 : szPointV L 1048576 = -1 := if_pos (by omega)
    simp only [V_seq, V_ret, V_region, V_cond, brW_true, W_nil, W_cons, effOp2, KN_seq, KXr_nil, KXr_seq, QE, asB, effOp, effPure, effCall, giveUp, hasAll, pureV, binV, ofC, strip, lkT, lkH, ISt.app, opI, gO, gB, allB, gval, wrapG, dstOK, setD, lendV, lendP, lent, lentP, idsV, idsL, lkHS, flat, clean, callArgs, callFn, allLent, enumT, Gives, Ideal.Fin, conv, conv0, Op.operands, reduceIte, reduceCtorEq, cond_true, Bool.or_false, Bool.not_true, Nat.reduceAdd, Nat.reduceLT, Nat.reduceEqDiff, Nat.zero_add, and_self, implies_true, List.map_cons, List.map_nil, List.nil_append, List.cons_append, List.append_nil, ex_clo, or_self, hN, isPs_enc, toPs_enc, lk_laws_FnExactCheckHull_laws_szPointS, sp_laws_szPointS, hv1, d9, u1, u2]
    try omega
def sp_laws_FnExactCheckHull : PSpec := ⟨fun xs => match xs with | [.sl 2 Les, .sl 2 Hes, .sl 1 Wes] => isPs Les ∧ isPs Hes ∧ isLI Wes | _ => False, fun xs => match xs with | [.sl _ Les, .sl _ Hes, .sl _ Wes] => (fun (L : List Pt) (H : List Pt) (W : List (List Int)) => .bool true) (toPs Les) (toPs Hes) (toLI Wes) | _ => .junk, false⟩
theorem gk_laws_FnExactCheckHull : ∀ args, sp_laws_FnExactCheckHull.pre args → ICall Try.prog 6 args (sp_laws_FnExactCheckHull.val args) := by
  intro args h
  unfold sp_laws_FnExactCheckHull at h ⊢; simp only at h ⊢; split at h
  · obtain ⟨h0, h1, h2⟩ := h
    obtain ⟨l0, rfl⟩ := isP_ex h0
    obtain ⟨l1, rfl⟩ := isP_ex h1
    obtain ⟨l2, rfl⟩ := isLI_ex h2
    simp only [toPs_enc] at *
    exact c_laws_FnExactCheckHull _ _ _ 
  · exact h.elim
theorem en_laws_FnExactCheckHull : Enters Try.prog 6 := enters_of Try.func6 (by kernel_rfl) rfl

end Go.Proofs.Ytlcndghaendieaa
