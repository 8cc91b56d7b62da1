/- The laws on k-d trees. -/
import Derived.Test.YtemppebemahkoaaB56
import Derived.Test.YtemppebemahkoaaBE
import Derived.Test.YtemppebemahkoaaBF
set_option linter.unusedVariables false
set_option linter.unusedSimpArgs false
set_option maxHeartbeats 16000000
set_option maxRecDepth 100000
namespace Go.Proofs.Ytemppebemahkoaa
open Go Go.Ideal Go.Pl Go.Sort

def g_spec_KdOrder : List (Nat × PSpec) := [(76, sp_spec_validPoints)]
theorem gok_spec_KdOrder : GOK Try.prog g_spec_KdOrder := gok_cons gk_spec_validPoints en_spec_validPoints (gok0)
theorem lk_spec_KdOrder_spec_validPoints : lkG g_spec_KdOrder 76 = sp_spec_validPoints := rfl
def h_spec_KdOrder : List (Nat × HSpec) := [(77, hs_spec_kdOrder)]
theorem hok_spec_KdOrder : HOK Try.prog h_spec_KdOrder := hok_cons hk_spec_kdOrder en_spec_kdOrder (hok0)
theorem lh_spec_KdOrder_spec_validPoints : lkHS h_spec_KdOrder 76 = none := rfl
theorem lh_spec_KdOrder_spec_kdOrder : lkHS h_spec_KdOrder 77 = some hs_spec_kdOrder := rfl
theorem c_spec_KdOrder (l : List Pt)  : ICall Try.prog 18 [.sl 2 (encPs l)] (.sl 1 (encN (kdV l))) := by
  refine icall_V (G := g_spec_KdOrder) (H := h_spec_KdOrder) [] tabOK mixed gok_spec_KdOrder hok_spec_KdOrder Try.func18 rfl Try.ntmps18 Try.results18 rfl (by kernel_rfl) fun F hN hlen => ?_
  have hlm := hlen 0 2 _ rfl
  have el := len_encPs l
  cases hk : okPs l with
  | false =>
    have hv : kdV l = [] := by rw [kdV, hk]; rfl
    simp only [V_seq, V_ret, V_region, V_cond, brW_true, W_nil, W_cons, effOp2, KN_seq, KXr_nil, KXr_seq, QE, asB, effOp, effPure, effNew, effBuildSlice, effFrz, frz, tmpsOf, effCall, giveUp, hasAll, skipE, pureV, ofC, strip, lkT, lkH, ISt.app, opI, gO, gB, allB, gval, wrapG, dstOK, setD, mentTm, mentHp, IV.ment, partsL, eltsI, lendV, lendP, lent, lentP, idsV, idsL, flat, clean, callArgs, callFn, allLent, enumT, Gives, Ideal.Fin, conv, conv0, Op.operands, reduceIte, reduceCtorEq, cond_true, Bool.or_false, Bool.not_true, Bool.not_false, Nat.reduceMul, Nat.reduceLT, Nat.reduceLeDiff, Nat.reduceEqDiff, ne_eq, not_false_eq_true, and_self, implies_true, List.map_cons, List.map_nil, List.nil_append, List.cons_append, List.append_nil, List.length_nil, ex_clo, or_self, tab3, tab25, hN, isPs_enc, toPs_enc, lk_spec_KdOrder_spec_validPoints, sp_spec_validPoints, lh_spec_KdOrder_spec_validPoints, hk, hv, encN_nil]
  | true =>
    have hl := okPs_len hk
    have hv : kdV l = kdAll l := by rw [kdV, hk]; rfl
    have T : ∀ (M : List Nat) (k : Nat), M.length = k → encN M = (encN M).take k := fun M k h => (List.take_of_length_le (by rw [len_encN]; omega)).symm
    have hfin : [] ++ kdP l (axB 0) (List.range l.length) = kdAll l := rfl
    simp only [V_seq, V_skip, V_block, V_region, V_cond, brW_false, W_nil, W_cons, effOp2, KN_seq, asB, effOp, effPure, effNew, effBuildSlice, effFrz, frz, tmpsOf, effCall, giveUp, hasAll, skipE, pureV, ofC, strip, lkT, lkH, ISt.app, opI, gO, gB, allB, gval, wrapG, dstOK, setD, mentTm, mentHp, IV.ment, partsL, eltsI, lendV, lendP, lent, lentP, idsV, idsL, flat, clean, callArgs, callFn, allLent, enumT, Op.operands, reduceIte, reduceCtorEq, cond_true, Bool.or_false, Bool.not_true, Nat.reduceMul, Nat.reduceLT, Nat.reduceLeDiff, Nat.reduceEqDiff, ne_eq, not_false_eq_true, true_and, and_self, implies_true, List.map_cons, List.map_nil, List.nil_append, List.cons_append, List.append_nil, List.length_nil, ex_clo, or_self, tab3, tab25, hN, isPs_enc, toPs_enc, lk_spec_KdOrder_spec_validPoints, sp_spec_validPoints, lh_spec_KdOrder_spec_validPoints, hk]
    refine V_loop (α := Nat) ⟨tabOK, mixed, gok_spec_KdOrder, hok_spec_KdOrder⟩ (by kernel_rfl) (fun i => i ≤ l.length) (fun i => ⟨[(4, .num .i64 i), (3, .ref 5 0 i true), (0, .sl 2 (encPs l))], [(5, some (.arr 1 3 (encN (List.range i))))]⟩) (fun i => l.length - i) 0 id (Nat.zero_le _) (by simp [SLe, SLe0, convTm, convHp, convB, conv, conv0, lkT, lkH, clean, encN_nil]) ?_
    intro i hi
    have er : (encN (List.range i)).length = i := by rw [len_encN, List.length_range]
    have tr : (encN (List.range i)).take i = encN (List.range i) := List.take_of_length_le (by omega)
    have hx : ∃ k ty es, IBlk.arr 1 3 (encN (List.range i)) = IBlk.arr k ty es := ⟨_, _, _, rfl⟩
    simp only [V_seq, V_region, V_cond, W_nil, W_cons, effOp2, KN_seq, asB, effOp, effPure, pureV, binV, lenV, strip, lkT, ISt.app, opI, gO, gB, allB, gval, wrapG, dstOK, setD, Op.operands, Call.operands, List.append_toArray, reduceIte, reduceCtorEq, Nat.reduceLT, Nat.reduceEqDiff, ne_eq, not_false_eq_true, true_and, and_self, implies_true, List.nil_append, List.cons_append, tab23, hN, el]
    refine brW_some (fun h => ?_) (fun h => ?_)
    · have hi' : i < l.length := by simpa using h
      have hw := wr_succ hi' (by rw [maxLen_eq]; omega)
      have hs : encN (List.range (i + 1)) = encN (List.range i) ++ [.num .i64 ((i : Nat) : Int)] := by rw [List.range_succ, ← encN_app]; rfl
      simp only [V_seq, V_skip, V_block, V_region, W_nil, W_cons, effOp2, KN_seq, KN_block, KN_back, effOp, effPure, effNew, effBuildSlice, effFrz, frz, tmpsOf, effAppend, effZeros, skipE, pureV, srcV, refId, binV, ofC, strip, lkT, lkH, ISt.app, opI, gO, gB, allB, gval, wrapG, dstOK, setD, mentTm, mentHp, IV.ment, partsL, eltsI, eltI, noId', Op.operands, reduceIte, reduceCtorEq, cond_true, Bool.or_false, Nat.reduceMul, Nat.reduceLT, Nat.reduceLeDiff, Nat.reduceEqDiff, Nat.reduceBEq, Nat.zero_add, ne_eq, not_false_eq_true, true_and, and_true, and_self, implies_true, List.nil_append, List.cons_append, List.append_nil, Option.some.injEq, List.length_cons, List.length_nil, List.take_succ_cons, List.take_nil, List.drop_zero, tab3, tab25, hN, er, tr, hw]
      repeat refine And.intro (by first | omega | (simp; done) | (simp; omega)) ?_
      refine ⟨i + 1, fun x => if x = 5 then 18 else x, by simp only []; omega, by simp only []; omega, ?_⟩
      simp only [hs]
      simp [SLe, SLe0, convTm, convHp, convB, conv, conv0, lkT, lkH, clean]
      exact ⟨(List.take_of_length_le (by rw [List.length_append]; exact Nat.le_refl _)).symm, fun id h1 _ => by omega⟩
    · have hie : i = l.length := by simp at h; omega
      subst hie
      have e0 : encN [] = [] := rfl
      have ln := List.length_range (n := l.length)
      have tn : toNs ([] : List IV) = [] := rfl
      have i0 : isNs ([] : List IV) := of_eq_true (isNs_enc [])
      simp only [V_seq, V_ret, V_exit, V_region, W_nil, W_cons, effOp2, KN_seq, KXr_nil, KXe_nil, KXe_seq, KXe_block, KXe_back, QE, effOp, effPure, effNew, effBuildSlice, effFrz, frz, tmpsOf, Option.isSome_some, skipE, pureV, ofC, strip, lkT, lkH, ISt.app, opI, gO, gB, allB, gval, wrapG, dstOK, setD, mentTm, mentHp, IV.ment, partsL, eltsI, lendV, lendP, lent, lentP, idsV, idsL, clean, callArgs, callFn, enumT, Gives, Ideal.Fin, conv, conv0, IBlk.shape, Op.operands, reduceIte, reduceCtorEq, cond_true, cond_false, Bool.or_false, Bool.and_true, Bool.not_false, Nat.reduceAdd, Nat.reduceSub, Nat.reduceMul, Nat.reduceLT, Nat.reduceLeDiff, Nat.reduceEqDiff, Nat.reduceBEq, Nat.add_zero, Nat.zero_add, ne_eq, not_false_eq_true, true_and, and_true, and_false, and_self, false_implies, implies_true, List.map_cons, List.map_nil, List.nil_append, List.cons_append, List.append_nil, List.all_cons, List.all_nil, Option.some.injEq, Option.map_none, List.getD_cons_zero, List.length_nil, List.take_nil, List.drop_zero, ex_clo, true_or, Bool.false_eq_true, tab3, tab25, hN, isPs_enc, toPs_enc, SLe0, convTm, convHp, convB, sm, effH, mkHC0, mkHC1, lendM, lentM, lentI, allHere, addIds, idsB, flatIds, reach, posn, renV, renL, renB, renH, numB, subHp, fwd, bk, bwd, nones, keyOK, noSl, flatBs, List.contains, List.elem, Option.isSome_some, Option.isSome_none, List.nodup_nil, List.nodup_cons, List.not_mem_nil, Option.getD_some, lh_spec_KdOrder_spec_kdOrder, hs_spec_kdOrder, er, tr, hv, isNs_enc, toNs_enc]
      simp only [tn, ln, hfin, List.length_nil, Nat.zero_add]
      exact ⟨⟨Nat.le_refl _, ⟨i0, fun x hx => List.mem_range.1 hx, hl, by omega⟩, List.take_length.symm, .inr (noSl_encN _)⟩, _, _, rfl, by rw [len_encN (kdAll l), kdAll_len]; exact Nat.le_refl _, (List.take_of_length_le (by rw [len_encN (kdAll l), kdAll_len]; exact Nat.le_refl _)).symm⟩
def sp_spec_KdOrder : PSpec := ⟨fun xs => match xs with | [.sl 2 les] => isPs les | _ => False, fun xs => match xs with | [.sl _ les] => (fun (l : List Pt) => .sl 1 (encN (kdV l))) (toPs les) | _ => .junk, false⟩
theorem gk_spec_KdOrder : ∀ args, sp_spec_KdOrder.pre args → ICall Try.prog 18 args (sp_spec_KdOrder.val args) := by
  intro args h
  unfold sp_spec_KdOrder at h ⊢; simp only at h ⊢; split at h
  · have h0 := h
    obtain ⟨l0, rfl⟩ := isP_ex h0
    simp only [toPs_enc] at *
    exact c_spec_KdOrder _ 
  · exact h.elim
theorem en_spec_KdOrder : Enters Try.prog 18 := enters_of Try.func18 (by kernel_rfl) rfl

def g_e_exkd_a : List (Nat × PSpec) := [(20, sp_laws_szPointS), (18, sp_spec_KdOrder), (16, sp_impl_KdOrder_e), (23, sp_laws_eqPointS), (22, sp_laws_eqIntS), (26, sp_laws_heldIntS)]
theorem gok_e_exkd_a : GOK Try.prog g_e_exkd_a := gok_cons gk_laws_szPointS en_laws_szPointS (gok_cons gk_spec_KdOrder en_spec_KdOrder (gok_consO gk_impl_KdOrder_e en_impl_KdOrder_e (gok_cons gk_laws_eqPointS en_laws_eqPointS (gok_cons gk_laws_eqIntS en_laws_eqIntS (gok_cons gk_laws_heldIntS en_laws_heldIntS (gok0))))))
theorem lk_e_exkd_a_laws_szPointS : lkG g_e_exkd_a 20 = sp_laws_szPointS := rfl
theorem lk_e_exkd_a_spec_KdOrder : lkG g_e_exkd_a 18 = sp_spec_KdOrder := rfl
theorem lk_e_exkd_a_impl_KdOrder_e : lkG g_e_exkd_a 16 = sp_impl_KdOrder_e := rfl
theorem lk_e_exkd_a_laws_eqPointS : lkG g_e_exkd_a 23 = sp_laws_eqPointS := rfl
theorem lk_e_exkd_a_laws_eqIntS : lkG g_e_exkd_a 22 = sp_laws_eqIntS := rfl
theorem lk_e_exkd_a_laws_heldIntS : lkG g_e_exkd_a 26 = sp_laws_heldIntS := rfl
def h_e_exkd_a : List (Nat × HSpec) := [(21, hs_laws_toPointS), (24, hs_laws_markPointS), (25, hs_laws_markIntS_or)]
theorem hok_e_exkd_a : HOK Try.prog h_e_exkd_a := hok_cons hk_laws_toPointS en_laws_toPointS (hok_cons hk_laws_markPointS en_laws_markPointS (hok_cons hk_laws_markIntS_or en_laws_markIntS_or (hok0)))
theorem lh_e_exkd_a_laws_szPointS : lkHS h_e_exkd_a 20 = none := rfl
theorem lh_e_exkd_a_spec_KdOrder : lkHS h_e_exkd_a 18 = none := rfl
theorem lh_e_exkd_a_impl_KdOrder_e : lkHS h_e_exkd_a 16 = none := rfl
theorem lh_e_exkd_a_laws_eqPointS : lkHS h_e_exkd_a 23 = none := rfl
theorem lh_e_exkd_a_laws_eqIntS : lkHS h_e_exkd_a 22 = none := rfl
theorem lh_e_exkd_a_laws_heldIntS : lkHS h_e_exkd_a 26 = none := rfl
theorem lh_e_exkd_a_laws_toPointS : lkHS h_e_exkd_a 21 = some hs_laws_toPointS := rfl
theorem lh_e_exkd_a_laws_markPointS : lkHS h_e_exkd_a 24 = some hs_laws_markPointS := rfl
theorem lh_e_exkd_a_laws_markIntS_or : lkHS h_e_exkd_a 25 = some hs_laws_markIntS_or := rfl
def g_e_exkd_b : List (Nat × PSpec) := [(20, sp_laws_szPointS), (18, sp_spec_KdOrder), (23, sp_laws_eqPointS), (22, sp_laws_eqIntS), (26, sp_laws_heldIntS)]
theorem gok_e_exkd_b : GOK Try.prog g_e_exkd_b := gok_cons gk_laws_szPointS en_laws_szPointS (gok_cons gk_spec_KdOrder en_spec_KdOrder (gok_cons gk_laws_eqPointS en_laws_eqPointS (gok_cons gk_laws_eqIntS en_laws_eqIntS (gok_cons gk_laws_heldIntS en_laws_heldIntS (gok0)))))
theorem lk_e_exkd_b_laws_szPointS : lkG g_e_exkd_b 20 = sp_laws_szPointS := rfl
theorem lk_e_exkd_b_spec_KdOrder : lkG g_e_exkd_b 18 = sp_spec_KdOrder := rfl
theorem lk_e_exkd_b_laws_eqPointS : lkG g_e_exkd_b 23 = sp_laws_eqPointS := rfl
theorem lk_e_exkd_b_laws_eqIntS : lkG g_e_exkd_b 22 = sp_laws_eqIntS := rfl
theorem lk_e_exkd_b_laws_heldIntS : lkG g_e_exkd_b 26 = sp_laws_heldIntS := rfl
def h_e_exkd_b : List (Nat × HSpec) := [(21, hs_laws_toPointS), (16, hs_impl_KdOrder_h), (24, hs_laws_markPointS), (25, hs_laws_markIntS)]
theorem hok_e_exkd_b : HOK Try.prog h_e_exkd_b := hok_cons hk_laws_toPointS en_laws_toPointS (hok_cons hk_impl_KdOrder_h en_impl_KdOrder_h (hok_cons hk_laws_markPointS en_laws_markPointS (hok_cons hk_laws_markIntS en_laws_markIntS (hok0))))
theorem lh_e_exkd_b_laws_szPointS : lkHS h_e_exkd_b 20 = none := rfl
theorem lh_e_exkd_b_spec_KdOrder : lkHS h_e_exkd_b 18 = none := rfl
theorem lh_e_exkd_b_laws_eqPointS : lkHS h_e_exkd_b 23 = none := rfl
theorem lh_e_exkd_b_laws_eqIntS : lkHS h_e_exkd_b 22 = none := rfl
theorem lh_e_exkd_b_laws_heldIntS : lkHS h_e_exkd_b 26 = none := rfl
theorem lh_e_exkd_b_laws_toPointS : lkHS h_e_exkd_b 21 = some hs_laws_toPointS := rfl
theorem lh_e_exkd_b_impl_KdOrder_h : lkHS h_e_exkd_b 16 = some hs_impl_KdOrder_h := rfl
theorem lh_e_exkd_b_laws_markPointS : lkHS h_e_exkd_b 24 = some hs_laws_markPointS := rfl
theorem lh_e_exkd_b_laws_markIntS : lkHS h_e_exkd_b 25 = some hs_laws_markIntS := rfl
def g_laws_FnExactKdOrder : List (Nat × PSpec) := [(20, sp_laws_szPointS), (18, sp_spec_KdOrder), (16, sp_impl_KdOrder), (22, sp_laws_eqIntS), (23, sp_laws_eqPointS), (26, sp_laws_heldIntS)]
theorem gok_laws_FnExactKdOrder : GOK Try.prog g_laws_FnExactKdOrder := gok_cons gk_laws_szPointS en_laws_szPointS (gok_cons gk_spec_KdOrder en_spec_KdOrder (gok_cons gk_impl_KdOrder en_impl_KdOrder (gok_cons gk_laws_eqIntS en_laws_eqIntS (gok_cons gk_laws_eqPointS en_laws_eqPointS (gok_cons gk_laws_heldIntS en_laws_heldIntS (gok0))))))
theorem lk_laws_FnExactKdOrder_laws_szPointS : lkG g_laws_FnExactKdOrder 20 = sp_laws_szPointS := rfl
theorem lk_laws_FnExactKdOrder_spec_KdOrder : lkG g_laws_FnExactKdOrder 18 = sp_spec_KdOrder := rfl
theorem lk_laws_FnExactKdOrder_impl_KdOrder : lkG g_laws_FnExactKdOrder 16 = sp_impl_KdOrder := rfl
theorem lk_laws_FnExactKdOrder_laws_eqIntS : lkG g_laws_FnExactKdOrder 22 = sp_laws_eqIntS := rfl
theorem lk_laws_FnExactKdOrder_laws_eqPointS : lkG g_laws_FnExactKdOrder 23 = sp_laws_eqPointS := rfl
theorem lk_laws_FnExactKdOrder_laws_heldIntS : lkG g_laws_FnExactKdOrder 26 = sp_laws_heldIntS := rfl
def h_laws_FnExactKdOrder : List (Nat × HSpec) := [(21, hs_laws_toPointS), (24, hs_laws_markPointS), (25, hs_laws_markIntS)]
theorem hok_laws_FnExactKdOrder : HOK Try.prog h_laws_FnExactKdOrder := hok_cons hk_laws_toPointS en_laws_toPointS (hok_cons hk_laws_markPointS en_laws_markPointS (hok_cons hk_laws_markIntS en_laws_markIntS (hok0)))
theorem lh_laws_FnExactKdOrder_laws_szPointS : lkHS h_laws_FnExactKdOrder 20 = none := rfl
theorem lh_laws_FnExactKdOrder_spec_KdOrder : lkHS h_laws_FnExactKdOrder 18 = none := rfl
theorem lh_laws_FnExactKdOrder_impl_KdOrder : lkHS h_laws_FnExactKdOrder 16 = none := rfl
theorem lh_laws_FnExactKdOrder_laws_eqIntS : lkHS h_laws_FnExactKdOrder 22 = none := rfl
theorem lh_laws_FnExactKdOrder_laws_eqPointS : lkHS h_laws_FnExactKdOrder 23 = none := rfl
theorem lh_laws_FnExactKdOrder_laws_heldIntS : lkHS h_laws_FnExactKdOrder 26 = none := rfl
theorem lh_laws_FnExactKdOrder_laws_toPointS : lkHS h_laws_FnExactKdOrder 21 = some hs_laws_toPointS := rfl
theorem lh_laws_FnExactKdOrder_laws_markPointS : lkHS h_laws_FnExactKdOrder 24 = some hs_laws_markPointS := rfl
theorem lh_laws_FnExactKdOrder_laws_markIntS : lkHS h_laws_FnExactKdOrder 25 = some hs_laws_markIntS := rfl
theorem c_laws_FnExactKdOrder (l : List Pt)  : ICall Try.prog 4 [.sl 2 (encPs l)] (.bool true) := by
  have hs : ∀ x : List Pt, (x == x) = true := fun x => by simp
  have hs2 : ∀ x : List Int, (x == x) = true := fun x => by simp
  have hn : ∀ x : Int, (x != x) = false := fun x => by simp
  cases hc : okPs l with
  | true =>
    have hcv : kdV l = kdAll l := by rw [kdV, hc]; rfl
    refine icall_V (G := g_e_exkd_b) (H := h_e_exkd_b) [] tabOK mixed gok_e_exkd_b hok_e_exkd_b Try.func4 rfl Try.ntmps4 Try.results4 rfl (by kernel_rfl) fun F hN hlen => ?_
    have el := len_encPs l
    have hl := okPs_len hc
    have hh := Nat.le_of_eq (kdAll_len l)
    obtain ⟨E, hE⟩ : ∃ E, (kdAll l).map (fun n => ((n : Nat) : Int)) = E := ⟨_, rfl⟩
    have hEe : encN (kdAll l) = encI E := by rw [encN, hE]
    have hEl : (kdAll l).length = E.length := by rw [← hE, List.length_map]
    have hEL : E.length = l.length := by rw [← hEl, kdAll_len]
    have c : l.length ≤ 1048576 := by omega
    have c2 : l.length ≤ 2000000 := by omega
    have hv : szPointV l 1048576 = 1048576 - (l.length : Int) := if_neg (by omega)
    have d1 : decide (1048576 - (l.length : Int) < 0) = false := by simp only [decide_eq_false_iff_not]; omega
    have d2 : decide (1 + 2 * (l.length : Int) < 0) = false := by simp only [decide_eq_false_iff_not]; omega
    have d3 : decide (1 + (l.length : Int) < 0) = false := by simp only [decide_eq_false_iff_not]; omega
    have eh := len_encI E
    rw [hEL] at eh
    have em1 := len_encPs (marksP l.length 1)
    have em2 := len_encI (marksI l.length 1)
    rw [marksP_len] at em1
    rw [marksI_len] at em2
    have ml := marksP_len l.length 1
    have ml2 := marksI_len l.length 1
    have hd := heldI_marks l.length 1
    have tk : (encI (marksI l.length 1)).take l.length = encI (marksI l.length 1) := List.take_of_length_le (by omega)
    have tk3 : (encI E).take l.length = encI E := List.take_of_length_le (by omega)
    have tk1 : (encPs (marksP l.length 1)).take l.length = encPs (marksP l.length 1) := List.take_of_length_le (by omega)
    simp only [V_seq, V_skip, V_ret, V_region, V_cond, brW_false, W_nil, W_cons, effOp2, KN_seq, KXr_nil, QE, asB, effOp, effPure, effPick, effCall, giveUp, hasAll, Option.isSome_some, skipE, pureV, pickV, binV, ofC, strip, lkT, lkH, ISt.app, opI, gO, gB, allB, gval, wrapG, dstOK, setD, mentTm, mentHp, IV.ment, lendV, lendP, lent, lentP, idsV, idsL, flat, clean, callArgs, callFn, allLent, enumT, Gives, Ideal.Fin, conv, conv0, IBlk.shape, Op.operands, reduceIte, reduceCtorEq, cond_true, cond_false, Bool.or_false, Bool.or_true, Bool.and_true, Bool.not_true, Bool.not_false, Nat.reduceAdd, Nat.reduceSub, Nat.reduceMul, Nat.reduceLT, Nat.reduceLeDiff, Nat.reduceEqDiff, Nat.reduceBEq, Nat.add_zero, Nat.zero_add, not_false_eq_true, beq_self_eq_true, true_and, and_true, and_false, and_self, implies_true, forall_const, List.map_cons, List.map_nil, List.nil_append, List.cons_append, List.append_nil, List.all_cons, List.all_nil, Option.map_some, Option.map_none, Option.bind_some, List.getElem?_cons_zero, List.getElem?_cons_succ, List.getD_cons_zero, List.drop_zero, ex_clo, or_true, or_self, Bool.true_eq_false, Bool.false_eq_true, hN, isPs_enc, toPs_enc, isIs_enc, toIs_enc, SLe0, convTm, convHp, convB, sm, effH, mkHC0, mkHC1, lendM, lentM, lentI, allHere, addIds, idsB, flatIds, reach, posn, renV, renL, renB, renH, numB, subHp, fwd, bk, bwd, nones, keyOK, noSl, flatBs, List.contains, List.elem, Option.isSome_some, List.nodup_nil, List.nodup_cons, List.not_mem_nil, Option.getD_some, lk_e_exkd_b_laws_szPointS, lk_e_exkd_b_spec_KdOrder, lk_e_exkd_b_laws_eqPointS, lk_e_exkd_b_laws_eqIntS, lk_e_exkd_b_laws_heldIntS, sp_laws_szPointS, sp_spec_KdOrder, sp_laws_eqPointS, sp_laws_eqIntS, sp_laws_heldIntS, lh_e_exkd_b_laws_szPointS, lh_e_exkd_b_spec_KdOrder, lh_e_exkd_b_laws_eqPointS, lh_e_exkd_b_laws_eqIntS, lh_e_exkd_b_laws_heldIntS, lh_e_exkd_b_laws_toPointS, lh_e_exkd_b_impl_KdOrder_h, lh_e_exkd_b_laws_markPointS, lh_e_exkd_b_laws_markIntS, hs_laws_toPointS, hs_impl_KdOrder_h, hs_laws_markPointS, hs_laws_markIntS, el, hv, d1, d2, d3, c, c2, hc, hcv, hEe, hEL, take_encPs, hn, eh, em1, em2, ml2, hd, tk, tk1, tk3, noSl_encI, noSl_encPs]
    omega
  | false =>
    have hcv : kdV l = [] := by rw [kdV, hc]; rfl
    refine icall_V (G := g_e_exkd_a) (H := h_e_exkd_a) [] tabOK mixed gok_e_exkd_a hok_e_exkd_a Try.func4 rfl Try.ntmps4 Try.results4 rfl (by kernel_rfl) fun F hN hlen => ?_
    have hl := hlen 0 2 _ rfl
    have el := len_encPs l
    rw [el] at hl
    by_cases c : l.length ≤ 1048576
    · have hv : szPointV l 1048576 = 1048576 - (l.length : Int) := if_neg (by omega)
      have c2 : l.length ≤ 2000000 := by omega
      have d1 : decide (1048576 - (l.length : Int) < 0) = false := by simp only [decide_eq_false_iff_not]; omega
      have d2 : decide (1 + 2 * (l.length : Int) < 0) = false := by simp only [decide_eq_false_iff_not]; omega
      have d3 : decide ((1 : Int) < 0) = false := by decide
      have em1 := len_encPs (marksP l.length 1)
      rw [marksP_len] at em1
      have ml := marksP_len l.length 1
      have hd : heldI [] 1 = 1 := rfl
      have tk1 : (encPs (marksP l.length 1)).take l.length = encPs (marksP l.length 1) := List.take_of_length_le (by omega)
      simp only [V_seq, V_skip, V_ret, V_region, V_cond, brW_false, W_nil, W_cons, effOp2, KN_seq, KXr_nil, QE, asB, effOp, effPure, effPick, effCall, giveUp, hasAll, Option.isSome_some, skipE, pureV, pickV, binV, ofC, strip, lkT, lkH, ISt.app, opI, gO, gB, allB, gval, wrapG, dstOK, setD, mentTm, mentHp, IV.ment, lendV, lendP, lent, lentP, idsV, idsL, flat, clean, callArgs, callFn, allLent, enumT, Gives, Ideal.Fin, conv, conv0, IBlk.shape, Op.operands, reduceIte, reduceCtorEq, cond_true, cond_false, Bool.or_false, Bool.or_true, Bool.and_true, Bool.not_true, Bool.not_false, Nat.reduceAdd, Nat.reduceSub, Nat.reduceMul, Nat.reduceLT, Nat.reduceLeDiff, Nat.reduceEqDiff, Nat.reduceBEq, Nat.add_zero, Nat.zero_add, not_false_eq_true, beq_self_eq_true, true_and, and_true, and_false, and_self, implies_true, forall_const, List.map_cons, List.map_nil, List.nil_append, List.cons_append, List.append_nil, List.all_nil, Option.map_some, Option.map_none, Option.bind_some, List.getElem?_cons_zero, List.getElem?_cons_succ, List.getD_cons_zero, List.length_nil, List.drop_zero, ex_clo, true_or, or_true, or_self, Bool.true_eq_false, Bool.false_eq_true, hN, isPs_enc, toPs_enc, isIs_nil, toIs_nil, SLe0, convTm, convHp, convB, sm, effH, mkHC0, mkHC1, lendM, lentM, lentI, allHere, addIds, idsB, flatIds, reach, posn, renV, renL, renB, renH, numB, subHp, fwd, bk, bwd, nones, keyOK, noSl, flatBs, List.contains, List.elem, Option.isSome_some, List.nodup_nil, List.nodup_cons, List.not_mem_nil, Option.getD_some, lk_e_exkd_a_laws_szPointS, lk_e_exkd_a_spec_KdOrder, lk_e_exkd_a_impl_KdOrder_e, lk_e_exkd_a_laws_eqPointS, lk_e_exkd_a_laws_eqIntS, lk_e_exkd_a_laws_heldIntS, sp_laws_szPointS, sp_spec_KdOrder, sp_impl_KdOrder_e, sp_laws_eqPointS, sp_laws_eqIntS, sp_laws_heldIntS, lh_e_exkd_a_laws_szPointS, lh_e_exkd_a_spec_KdOrder, lh_e_exkd_a_impl_KdOrder_e, lh_e_exkd_a_laws_eqPointS, lh_e_exkd_a_laws_eqIntS, lh_e_exkd_a_laws_heldIntS, lh_e_exkd_a_laws_toPointS, lh_e_exkd_a_laws_markPointS, lh_e_exkd_a_laws_markIntS_or, hs_laws_toPointS, hs_laws_markPointS, hs_laws_markIntS_or, el, hv, d1, d2, d3, c, c2, take_encPs, hn, em1, hd, hc, hcv, encN_nil, tk1, hs_or, sel_sl, hs_laws_markIntS, hs_laws_markIntS_n]
      omega
    · have hv : szPointV l 1048576 = -1 := if_pos (by omega)
      have d1 : decide ((-1 : Int) < 0) = true := by decide
      simp only [V_seq, V_ret, V_region, V_cond, brW_true, W_nil, W_cons, effOp2, KN_seq, KXr_nil, KXr_seq, QE, asB, effOp, effPure, effCall, giveUp, hasAll, pureV, binV, ofC, strip, lkT, lkH, ISt.app, opI, gO, gB, allB, gval, wrapG, dstOK, setD, lendV, lendP, lent, lentP, idsV, idsL, flat, clean, callArgs, callFn, allLent, enumT, Gives, Ideal.Fin, conv, conv0, Op.operands, reduceIte, reduceCtorEq, cond_true, Bool.or_false, Bool.not_true, Nat.reduceLT, Nat.reduceEqDiff, true_and, and_true, and_self, implies_true, forall_const, List.map_cons, List.map_nil, List.nil_append, List.cons_append, List.append_nil, ex_clo, or_self, hN, isPs_enc, toPs_enc, lk_e_exkd_a_laws_szPointS, sp_laws_szPointS, lh_e_exkd_a_laws_szPointS, hv, d1]
      exact ⟨by omega, by omega⟩
def sp_laws_FnExactKdOrder : PSpec := ⟨fun xs => match xs with | [.sl 2 les] => isPs les | _ => False, fun xs => match xs with | [.sl _ les] => (fun (l : List Pt) => .bool true) (toPs les) | _ => .junk, false⟩
theorem gk_laws_FnExactKdOrder : ∀ args, sp_laws_FnExactKdOrder.pre args → ICall Try.prog 4 args (sp_laws_FnExactKdOrder.val args) := by
  intro args h
  unfold sp_laws_FnExactKdOrder at h ⊢; simp only at h ⊢; split at h
  · have h0 := h
    obtain ⟨l0, rfl⟩ := isP_ex h0
    simp only [toPs_enc] at *
    exact c_laws_FnExactKdOrder _ 
  · exact h.elim
theorem en_laws_FnExactKdOrder : Enters Try.prog 4 := enters_of Try.func4 (by kernel_rfl) rfl

def g_spec_DrawKdOrder : List (Nat × PSpec) := []
theorem gok_spec_DrawKdOrder : GOK Try.prog g_spec_DrawKdOrder := gok0
def h_spec_DrawKdOrder : List (Nat × HSpec) := [(65, hs_spec_newReader), (64, hs_spec_anyPoints)]
theorem hok_spec_DrawKdOrder : HOK Try.prog h_spec_DrawKdOrder := hok_cons hk_spec_newReader en_spec_newReader (hok_cons hk_spec_anyPoints en_spec_anyPoints (hok0))
theorem lh_spec_DrawKdOrder_spec_newReader : lkHS h_spec_DrawKdOrder 65 = some hs_spec_newReader := rfl
theorem lh_spec_DrawKdOrder_spec_anyPoints : lkHS h_spec_DrawKdOrder 64 = some hs_spec_anyPoints := rfl
theorem c_spec_DrawKdOrder (b : List Int) (hb : ∀ x ∈ b, 0 ≤ x ∧ x < 256) (hsz : b.length ≤ 1048576) : ICall Try.prog 15 [.sl 1 (encBy b)] (.sl 2 (encPs (drawPts b 10))) := by
  refine icall_V (G := g_spec_DrawKdOrder) (H := h_spec_DrawKdOrder) [] tabOK mixed gok_spec_DrawKdOrder hok_spec_DrawKdOrder Try.func15 rfl Try.ntmps15 Try.results15 rfl (by kernel_rfl) fun F hN hlen => ?_
  have hbt := bytes_take hb
  have hl := drawPts_len hb (show (0 : Int) ≤ 10 by omega) (by omega)
  have hd : (aPoints (b.take 2000) 0 10).1 = drawPts b 10 := rfl
  simp only [V_seq, V_ret, V_region, W_nil, W_cons, effOp2, KN_seq, KXr_nil, QE, effOp, effPure, Option.isSome_some, skipE, pureV, ofC, strip, lkT, lkH, ISt.app, opI, gO, gB, allB, gval, wrapG, dstOK, setD, mentTm, mentHp, IV.ment, IV.mentL, lendV, lendP, lent, lentP, idsV, idsL, clean, callArgs, callFn, enumT, Gives, Ideal.Fin, conv, conv0, convL, IBlk.shape, Op.operands, reduceIte, reduceCtorEq, cond_true, cond_false, Bool.or_false, Bool.and_true, Bool.and_false, Bool.not_false, Nat.reduceAdd, Nat.reduceSub, Nat.reduceMul, Nat.reduceLT, Nat.reduceLeDiff, Nat.reduceEqDiff, Nat.reduceBEq, Nat.add_zero, Nat.zero_add, ne_eq, not_false_eq_true, beq_self_eq_true, true_and, and_true, and_false, and_self, false_implies, implies_true, List.map_cons, List.map_nil, List.nil_append, List.cons_append, List.append_nil, List.all_nil, Option.some.injEq, Option.map_some, Option.map_none, List.getD_cons_zero, List.drop_zero, ex_clo, or_self, Bool.true_eq_false, Bool.false_eq_true, hN, Int.toNat_natCast, isBy_enc, toBy_enc, SLe0, convTm, convHp, convB, sm, effH, mkHC0, mkHC1, lendM, lentM, lentI, allHere, addIds, idsB, flatIds, reach, posn, renV, renL, renB, renH, numB, subHp, fwd, bk, bwd, nones, keyOK, noSl, noSlL, flatBs, List.contains, List.elem, Option.isSome_some, Option.isSome_none, List.nodup_nil, List.nodup_cons, List.not_mem_nil, List.mem_cons, or_false, Option.getD_some, lh_spec_DrawKdOrder_spec_newReader, lh_spec_DrawKdOrder_spec_anyPoints, hs_spec_newReader, hs_spec_anyPoints, rdr, hsz, hbt, hd]
  exact ⟨⟨⟨by omega, by omega⟩, take_eq_of rfl⟩, _, _, rfl, by rw [len_encPs]; exact Nat.le_refl _, (take_encPs _).symm⟩
def sp_spec_DrawKdOrder : PSpec := ⟨fun xs => match xs with | [.sl 1 bes] => isBy bes ∧ ((fun (b : List Int) => ∀ x ∈ b, 0 ≤ x ∧ x < 256) (toIs bes)) ∧ ((fun (b : List Int) => b.length ≤ 1048576) (toIs bes)) | _ => False, fun xs => match xs with | [.sl _ bes] => (fun (b : List Int) => .sl 2 (encPs (drawPts b 10))) (toIs bes) | _ => .junk, false⟩
theorem gk_spec_DrawKdOrder : ∀ args, sp_spec_DrawKdOrder.pre args → ICall Try.prog 15 args (sp_spec_DrawKdOrder.val args) := by
  intro args h
  unfold sp_spec_DrawKdOrder at h ⊢; simp only at h ⊢; split at h
  · obtain ⟨h0, h1, h2⟩ := h
    obtain ⟨l0, rfl⟩ := isBy_ex h0
    simp only [toBy_enc] at *
    exact c_spec_DrawKdOrder _ h1 h2
  · exact h.elim
theorem en_spec_DrawKdOrder : Enters Try.prog 15 := enters_of Try.func15 (by kernel_rfl) rfl

theorem cnt_range (p : Nat → Bool) (i : Nat) : (List.range (i + 1)).countP p = (List.range i).countP p + if p i then 1 else 0 := by
  rw [List.range_succ, List.countP_append]
  congr 1
  simp [List.countP_cons]
def g_laws_FnKdOrder : List (Nat × PSpec) := [(15, sp_spec_DrawKdOrder), (16, sp_impl_KdOrder), (18, sp_spec_KdOrder), (17, sp_laws_equalInts), (19, sp_laws_isIn)]
theorem gok_laws_FnKdOrder : GOK Try.prog g_laws_FnKdOrder := gok_cons gk_spec_DrawKdOrder en_spec_DrawKdOrder (gok_cons gk_impl_KdOrder en_impl_KdOrder (gok_cons gk_spec_KdOrder en_spec_KdOrder (gok_cons gk_laws_equalInts en_laws_equalInts (gok_cons gk_laws_isIn en_laws_isIn (gok0)))))
theorem lk_laws_FnKdOrder_spec_DrawKdOrder : lkG g_laws_FnKdOrder 15 = sp_spec_DrawKdOrder := rfl
theorem lk_laws_FnKdOrder_impl_KdOrder : lkG g_laws_FnKdOrder 16 = sp_impl_KdOrder := rfl
theorem lk_laws_FnKdOrder_spec_KdOrder : lkG g_laws_FnKdOrder 18 = sp_spec_KdOrder := rfl
theorem lk_laws_FnKdOrder_laws_equalInts : lkG g_laws_FnKdOrder 17 = sp_laws_equalInts := rfl
theorem lk_laws_FnKdOrder_laws_isIn : lkG g_laws_FnKdOrder 19 = sp_laws_isIn := rfl
def h_laws_FnKdOrder : List (Nat × HSpec) := []
theorem hok_laws_FnKdOrder : HOK Try.prog h_laws_FnKdOrder := hok0
theorem c_laws_FnKdOrder (b : List Int) (hb : ∀ x ∈ b, 0 ≤ x ∧ x < 256) : ICall Try.prog 3 [.sl 1 (encBy b)] (.bool true) := by
  refine icall_V (G := g_laws_FnKdOrder) (H := []) [] tabOK mixed gok_laws_FnKdOrder hok_laws_FnKdOrder Try.func3 rfl Try.ntmps3 Try.results3 rfl (by kernel_rfl) fun F hN hlen => ?_
  have el := len_encBy b
  have hs2 : ∀ x : List Int, (x == x) = true := fun x => by simp
  simp only [V_seq, V_region, V_cond, W_nil, W_cons, effOp2, KN_seq, asB, effOp, effPure, pureV, binV, lenV, ofC, strip, lkT, ISt.app, opI, gO, gB, allB, gval, wrapG, dstOK, setD, enumT, Op.operands, Call.operands, List.append_toArray, reduceIte, reduceCtorEq, Nat.reduceLT, Nat.reduceEqDiff, ne_eq, not_false_eq_true, true_and, and_self, implies_true, List.nil_append, List.cons_append, List.append_nil, tab22, hN, el]
  refine brW_some (fun h => ?_) (fun h => ?_)
  · simp only [V_seq, V_ret, V_region, W_nil, W_cons, effOp2, KN_seq, KXr_nil, KXr_seq, QE, effOp, effPure, pureV, ofC, strip, lkT, lkH, ISt.app, opI, gO, gB, allB, gval, wrapG, dstOK, setD, clean, Gives, Ideal.Fin, conv, conv0, Op.operands, reduceIte, reduceCtorEq, Nat.reduceLT, Nat.reduceEqDiff, and_self, implies_true, List.nil_append, List.cons_append, List.append_nil, hN]
  · have hsz : b.length ≤ 1048576 := by simp at h; omega
    obtain ⟨l, hl⟩ : ∃ l, drawPts b 10 = l := ⟨_, rfl⟩
    have elp := len_encPs l
    cases hk : okPs l with
    | false =>
      have hcv : kdV l = [] := by rw [kdV, hk]; rfl
      have e0 : encN [] = encI [] := rfl
      have d1 : (((0 : Nat) : Int) == 0) = true := rfl
      have z0 : (encI []).length = 0 := rfl
      simp only [V_seq, V_skip, V_ret, V_region, V_cond, brW_true, W_nil, W_cons, effOp2, KN_seq, KXr_nil, KXr_seq, QE, asB, effOp, effPure, effPick, effCall, giveUp, hasAll, pureV, pickV, binV, lenV, ofC, strip, lkT, lkH, ISt.app, opI, gO, gB, allB, gval, wrapG, dstOK, setD, lendV, lendP, lent, lentP, idsV, idsL, lkHS, flat, clean, callArgs, callFn, allLent, Gives, Ideal.Fin, conv, conv0, Op.operands, Call.operands, List.append_toArray, reduceIte, reduceCtorEq, cond_true, cond_false, Bool.or_false, Bool.not_true, Nat.reduceLT, Nat.reduceEqDiff, ne_eq, not_false_eq_true, beq_self_eq_true, true_and, and_true, and_self, implies_true, forall_const, List.map_cons, List.map_nil, List.nil_append, List.cons_append, List.append_nil, Option.bind_some, List.getElem?_cons_zero, List.getElem?_cons_succ, ex_clo, or_true, or_self, Bool.false_eq_true, tab25, hN, isPs_enc, toPs_enc, isIs_enc, toIs_enc, isBy_enc, toBy_enc, lk_laws_FnKdOrder_spec_DrawKdOrder, lk_laws_FnKdOrder_impl_KdOrder, lk_laws_FnKdOrder_spec_KdOrder, lk_laws_FnKdOrder_laws_equalInts, sp_spec_DrawKdOrder, sp_impl_KdOrder, sp_spec_KdOrder, sp_laws_equalInts, hsz, hl, hcv, e0, z0, d1]
      exact hb
    | true =>
      have hlen := okPs_len hk
      have hcv : kdV l = kdAll l := by rw [kdV, hk]; rfl
      obtain ⟨E, hE⟩ : ∃ E, (kdAll l).map (fun n => ((n : Nat) : Int)) = E := ⟨_, rfl⟩
      have hEe : encN (kdAll l) = encI E := by rw [encN, hE]
      have hEl : E.length = l.length := by rw [← hE, List.length_map, kdAll_len]
      have eE := len_encI E
      rw [hEl] at eE
      cases h0 : (((l.length : Nat) : Int) == 0) with
      | true =>
        simp only [V_seq, V_skip, V_ret, V_region, V_cond, brW_true, W_nil, W_cons, effOp2, KN_seq, KXr_nil, KXr_seq, QE, asB, effOp, effPure, effPick, effCall, giveUp, hasAll, pureV, pickV, binV, lenV, ofC, strip, lkT, lkH, ISt.app, opI, gO, gB, allB, gval, wrapG, dstOK, setD, lendV, lendP, lent, lentP, idsV, idsL, lkHS, flat, clean, callArgs, callFn, allLent, Gives, Ideal.Fin, conv, conv0, Op.operands, Call.operands, List.append_toArray, reduceIte, reduceCtorEq, cond_true, cond_false, Bool.or_false, Bool.not_true, Nat.reduceLT, Nat.reduceEqDiff, ne_eq, not_false_eq_true, beq_self_eq_true, true_and, and_true, and_self, implies_true, forall_const, List.map_cons, List.map_nil, List.nil_append, List.cons_append, List.append_nil, Option.bind_some, List.getElem?_cons_zero, List.getElem?_cons_succ, ex_clo, or_true, or_self, Bool.false_eq_true, tab25, hN, isPs_enc, toPs_enc, isIs_enc, toIs_enc, isBy_enc, toBy_enc, lk_laws_FnKdOrder_spec_DrawKdOrder, lk_laws_FnKdOrder_impl_KdOrder, lk_laws_FnKdOrder_spec_KdOrder, lk_laws_FnKdOrder_laws_equalInts, sp_spec_DrawKdOrder, sp_impl_KdOrder, sp_spec_KdOrder, sp_laws_equalInts, hsz, hl, hcv, hEe, eE, h0]
        exact hb
      | false =>
        have hpos : 0 < l.length := by
          rw [beq_eq_false_iff_ne] at h0; omega
        have hmem : ∀ i, i < l.length → E.contains ((i : Nat) : Int) = true := by
          intro i hi
          rw [List.contains_iff_mem, ← hE]
          exact List.mem_map.2 ⟨i, kdAll_mem.2 hi, rfl⟩
        have hE0 : E.getD 0 0 = (((kdAll l).getD 0 0 : Nat) : Int) := by
          rw [← hE]; simp [List.getD, kdAll_len, hpos]
        obtain ⟨r, hr⟩ : ∃ r, (kdAll l).getD 0 0 = r := ⟨_, rfl⟩
        rw [hr] at hE0
        have hrl : r < l.length := kdAll_mem.1 (by rw [← hr]; simp [List.getD, kdAll_len, hpos])
        have gE := getD_encI (l := E) (i := 0) (by omega)
        rw [hE0] at gE
        have gr := getD_encPs hrl
        obtain ⟨q, hq⟩ : ∃ q, pAt l r = q := ⟨_, rfl⟩
        rw [hq] at gr
        have hroot : kdRoot l = q := by rw [kdRoot, hr]; exact hq
        obtain ⟨k1, k2⟩ := kd_halves hpos
        rw [hroot] at k1 k2
        simp only [V_seq, V_skip, V_block, V_region, V_cond, brW_false, W_nil, W_cons, effOp2, KN_seq, asB, effOp, effPure, effPick, effCall, giveUp, hasAll, pureV, pickV, binV, lenV, ofC, strip, lkT, lkH, ISt.app, opI, gO, gB, allB, gval, wrapG, dstOK, setD, lendV, lendP, lent, lentP, idsV, idsL, lkHS, flat, clean, callArgs, callFn, allLent, Op.operands, Call.operands, List.append_toArray, reduceIte, reduceCtorEq, cond_true, cond_false, Bool.or_false, Bool.not_true, Nat.reduceLT, Nat.reduceEqDiff, ne_eq, not_false_eq_true, beq_self_eq_true, true_and, and_true, and_self, implies_true, forall_const, List.map_cons, List.map_nil, List.nil_append, List.cons_append, List.append_nil, Option.bind_some, List.getElem?_cons_zero, List.getElem?_cons_succ, ex_clo, or_true, or_self, Bool.false_eq_true, tab25, hN, isPs_enc, toPs_enc, isIs_enc, toIs_enc, isBy_enc, toBy_enc, lk_laws_FnKdOrder_spec_DrawKdOrder, lk_laws_FnKdOrder_impl_KdOrder, lk_laws_FnKdOrder_spec_KdOrder, lk_laws_FnKdOrder_laws_equalInts, sp_spec_DrawKdOrder, sp_impl_KdOrder, sp_spec_KdOrder, sp_laws_equalInts, hsz, hl, hcv, hEe, eE, h0]
        refine ⟨hb, ?_⟩
        refine V_loop (α := Nat) ⟨tabOK, mixed, gok_laws_FnKdOrder, hok_laws_FnKdOrder⟩ (by kernel_rfl) (fun i => i ≤ l.length) (fun i => ⟨[(5, .num .i64 i), (4, .sl 1 (encI E)), (3, .sl 2 (encPs l))], []⟩) (fun i => l.length - i) 0 id (Nat.zero_le _) (by simp [SLe, SLe0, convTm, convHp, conv, conv0, lkT, lkH, clean]) ?_
        intro i hi
        simp only [V_seq, V_region, V_cond, W_nil, W_cons, effOp2, KN_seq, asB, effOp, effPure, pureV, binV, lenV, strip, lkT, ISt.app, opI, gO, gB, allB, gval, wrapG, dstOK, setD, Op.operands, Call.operands, List.append_toArray, reduceIte, reduceCtorEq, Nat.reduceLT, Nat.reduceEqDiff, ne_eq, not_false_eq_true, true_and, and_self, implies_true, List.nil_append, List.cons_append, List.append_nil, tab23, hN, elp]
        refine brW_some (fun h2 => ?_) (fun h2 => ?_)
        · have hi' : i < l.length := by simpa using h2
          have hw := wr_succ hi' (by rw [maxLen_eq]; omega)
          have hm := hmem i hi'
          simp only [V_seq, V_skip, V_block, V_region, V_cond, brW_false, W_nil, W_cons, effOp2, KN_seq, KN_block, KN_back, asB, effOp, effPure, effCall, giveUp, hasAll, pureV, binV, ofC, strip, lkT, lkH, ISt.app, opI, gO, gB, allB, gval, wrapG, dstOK, setD, lendV, lendP, lent, lentP, idsV, idsL, lkHS, flat, clean, callArgs, callFn, allLent, Op.operands, reduceIte, cond_true, Bool.or_false, Bool.not_true, Nat.reduceLT, Nat.reduceEqDiff, true_and, and_self, implies_true, List.map_cons, List.map_nil, List.nil_append, List.cons_append, List.append_nil, ex_clo, or_self, hN, isIs_enc, toIs_enc, lk_laws_FnKdOrder_laws_isIn, sp_laws_isIn, hm, hw]
          exact ⟨i + 1, id, by simp only []; omega, by simp only []; omega, by simp [SLe, SLe0, convTm, convHp, conv, conv0, lkT, lkH, clean]⟩
        · have z0 : Int.toNat 0 = 0 := rfl
          simp only [V_seq, V_exit, V_block, V_region, W_nil, W_cons, effOp2, KN_seq, KXe_nil, KXe_seq, KXe_block, KXe_back, QE, effOp, effPure, effNew, effAlloc, effStore, skipE, pureV, storeV, partV, eltV, loadV, iaddrV, over, solid, IV.cells, ofC, strip, lkT, lkH, ISt.app, opI, gO, gB, allB, gval, wrapG, dstOK, setD, mentTm, mentHp, IV.ment, IV.mentL, oneI, Ideal.Fin, Op.operands, reduceIte, reduceCtorEq, cond_true, Bool.or_false, Bool.and_true, Nat.reduceAdd, Nat.reduceLT, Nat.reduceLeDiff, Nat.reduceEqDiff, Nat.zero_add, ne_eq, not_false_eq_true, true_and, and_true, and_false, and_self, implies_true, forall_const, List.nil_append, List.cons_append, List.append_nil, List.all_cons, List.all_nil, List.getD_cons_zero, List.length_cons, List.length_nil, List.take_succ_cons, List.take_zero, List.take_nil, List.drop_succ_cons, List.drop_zero, List.drop_nil, tab3, tab23, tab25, tab30, hN, Int.toNat_natCast, eE, elp, gE, gr, z0, Int.toNat_natCast]
          repeat refine And.intro (by first | omega | (simp; done) | (simp; omega)) ?_
          refine V_loop (α := Nat) ⟨tabOK, mixed, gok_laws_FnKdOrder, hok_laws_FnKdOrder⟩ (by kernel_rfl) (fun i => i ≤ l.length) (fun i => ⟨[(9, .num .i64 i), (8, .num .i64 (((List.range i).countP (fun i => ltP q (pA l i)) : Nat) : Int)), (7, .num .i64 (((List.range i).countP (fun i => ltP (pA l i) q) : Nat) : Int)), (6, .ptr 6 0), (4, .sl 1 (encI E)), (3, .sl 2 (encPs l))], [(6, some (.box 30 [.num .i64 q.1, .num .i64 q.2]))]⟩) (fun i => l.length - i) 0 id (Nat.zero_le _) (by simp [SLe, SLe0, convTm, convHp, convB, conv, conv0, convL, lkT, lkH, clean]) ?_
          intro i hi
          have s1 := cnt_range (fun i => ltP q (pA l i)) i
          have s2 := cnt_range (fun i => ltP (pA l i) q) i
          have b1 : (List.range i).countP (fun i => ltP q (pA l i)) ≤ i := by have := List.countP_le_length (l := List.range i) (p := fun i => ltP q (pA l i)); rwa [List.length_range] at this
          have b2 : (List.range i).countP (fun i => ltP (pA l i) q) ≤ i := by have := List.countP_le_length (l := List.range i) (p := fun i => ltP (pA l i) q); rwa [List.length_range] at this
          have f1 : i = l.length → (List.range i).countP (fun i => ltP q (pA l i)) ≤ l.length / 2 := fun e => by rw [e]; exact k2
          have f2 : i = l.length → (List.range i).countP (fun i => ltP (pA l i) q) ≤ l.length / 2 := fun e => by rw [e]; exact k1
          obtain ⟨H, hH⟩ : ∃ H, (List.range i).countP (fun i => ltP q (pA l i)) = H := ⟨_, rfl⟩
          obtain ⟨L, hL⟩ : ∃ L, (List.range i).countP (fun i => ltP (pA l i) q) = L := ⟨_, rfl⟩
          rw [hH] at s1 b1 f1
          rw [hL] at s2 b2 f2
          simp only [hH, hL]
          simp only [V_seq, V_region, V_cond, W_nil, W_cons, effOp2, KN_seq, asB, effOp, effPure, pureV, binV, lenV, strip, lkT, ISt.app, opI, gO, gB, allB, gval, wrapG, dstOK, setD, Op.operands, Call.operands, List.append_toArray, reduceIte, reduceCtorEq, Nat.reduceLT, Nat.reduceEqDiff, ne_eq, not_false_eq_true, true_and, and_self, implies_true, List.nil_append, List.cons_append, tab23, hN, elp]
          refine brW_some (fun h3 => ?_) (fun h3 => ?_)
          · have hi' : i < l.length := by simpa using h3
            have hw := wr_succ hi' (by rw [maxLen_eq]; omega)
            have g := getD_encPs hi'
            have wH : IntKind.i64.wrap ((H : Int) + 1) = ((H + 1 : Nat) : Int) := by rw [wr (by omega) (by omega)]; omega
            have wL : IntKind.i64.wrap ((L : Int) + 1) = ((L + 1 : Nat) : Int) := by rw [wr (by omega) (by omega)]; omega
            obtain ⟨p, hp⟩ : ∃ p, pAt l i = p := ⟨_, rfl⟩
            have hp2 : pA l i = p := hp
            rw [hp] at g
            simp only [hp2] at s1 s2
            have done : ∀ (H' L' : Nat), ltP q p = decide (H' = H + 1) → ltP p q = decide (L' = L + 1) → (H' = H ∨ H' = H + 1) → (L' = L ∨ L' = L + 1) → (List.range (i + 1)).countP (fun i => ltP q (pA l i)) = H' ∧ (List.range (i + 1)).countP (fun i => ltP (pA l i) q) = L' := by
              intro H' L' e1 e2 e3 e4
              rw [s1, s2, e1, e2]
              constructor
              · rcases e3 with rfl | rfl <;> simp
              · rcases e4 with rfl | rfl <;> simp
            rcases Int.lt_trichotomy p.1 q.1 with c | c | c
            · have a1 : decide (p.1 < q.1) = true := decide_eq_true c
              have a2 : decide (q.1 < p.1) = false := decide_eq_false (by omega)
              have a3 : (p.1 == q.1) = false := by rw [beq_eq_false_iff_ne]; omega
              obtain ⟨t1, t2⟩ := done H (L + 1) (by simp [ltP, a2] <;> omega) (by simp [ltP, a1]) (.inl rfl) (.inr rfl)
              simp only [V_seq, V_skip, V_block, V_region, V_draw, V_cond, brW_true, brW_false, drawW, pairsOf, W_nil, W_cons, WD_nil, WD_cons, effOp2, effOp3, KN_seq, KN_block, KN_back, asB, effOp, effPure, effPick, pureV, pickV, binV, partV, eltV, loadV, faddrV, iaddrV, ofC, strip, lkT, lkH, ISt.app, opI, gO, gB, allB, gval, wrapG, dstOK, setD, IBlk.shape, Op.operands, reduceIte, reduceCtorEq, cond_true, cond_false, Bool.and_false, Nat.reduceAdd, Nat.reduceLT, Nat.reduceLeDiff, Nat.reduceEqDiff, Nat.add_zero, Nat.zero_add, ne_eq, not_false_eq_true, beq_self_eq_true, true_and, and_true, false_and, and_false, and_self, false_implies, implies_true, forall_const, List.nil_append, List.cons_append, Option.map_some, Option.bind_some, List.getElem?_cons_zero, List.getElem?_cons_succ, List.getD_cons_zero, List.getD_cons_succ, List.length_cons, List.length_nil, List.take_succ_cons, List.take_zero, List.take_nil, List.drop_succ_cons, List.drop_zero, bft, btf, Bool.true_eq_false, Bool.false_eq_true, tab3, tab23, tab30, hN, Int.toNat_natCast, elp, g, hw, wL, a1, a2, a3, Int.toNat_natCast]
              repeat refine And.intro (by first | omega | (simp; done) | (simp; omega)) ?_
              exact ⟨i + 1, id, by simp only []; omega, by simp only []; omega, by simp only [t1, t2]; exact by simp [SLe, SLe0, convTm, convHp, convB, conv, conv0, convL, lkT, lkH, clean]⟩
            · have a1 : decide (p.1 < q.1) = false := decide_eq_false (by omega)
              have a2 : decide (q.1 < p.1) = false := decide_eq_false (by omega)
              have a3 : (p.1 == q.1) = true := by simpa using c
              rcases Int.lt_trichotomy p.2 q.2 with d | d | d
              · have b3 : decide (p.2 < q.2) = true := decide_eq_true d
                have b4 : decide (q.2 < p.2) = false := decide_eq_false (by omega)
                obtain ⟨t1, t2⟩ := done H (L + 1) (by simp [ltP, a2, b4] <;> omega) (by simp [ltP, c, d]) (.inl rfl) (.inr rfl)
                simp only [V_seq, V_skip, V_block, V_region, V_draw, V_cond, brW_true, brW_false, drawW, pairsOf, W_nil, W_cons, WD_nil, WD_cons, effOp2, effOp3, KN_seq, KN_block, KN_back, asB, effOp, effPure, effPick, pureV, pickV, binV, partV, eltV, loadV, faddrV, iaddrV, ofC, strip, lkT, lkH, ISt.app, opI, gO, gB, allB, gval, wrapG, dstOK, setD, IBlk.shape, Op.operands, reduceIte, reduceCtorEq, cond_true, cond_false, Bool.and_true, Nat.reduceAdd, Nat.reduceLT, Nat.reduceLeDiff, Nat.reduceEqDiff, Nat.add_zero, Nat.zero_add, ne_eq, not_false_eq_true, beq_self_eq_true, true_and, and_true, and_false, and_self, implies_true, forall_const, List.nil_append, List.cons_append, Option.map_some, Option.bind_some, List.getElem?_cons_zero, List.getElem?_cons_succ, List.getD_cons_zero, List.getD_cons_succ, List.length_cons, List.length_nil, List.take_succ_cons, List.take_zero, List.take_nil, List.drop_succ_cons, List.drop_zero, Bool.true_eq_false, Bool.false_eq_true, tab3, tab23, tab30, hN, Int.toNat_natCast, elp, g, hw, wL, a1, a2, a3, b3, b4, Int.toNat_natCast]
                repeat refine And.intro (by first | omega | (simp; done) | (simp; omega)) ?_
                exact ⟨i + 1, id, by simp only []; omega, by simp only []; omega, by simp only [t1, t2]; exact by simp [SLe, SLe0, convTm, convHp, convB, conv, conv0, convL, lkT, lkH, clean]⟩
              · have b3 : decide (p.2 < q.2) = false := decide_eq_false (by omega)
                have b4 : decide (q.2 < p.2) = false := decide_eq_false (by omega)
                obtain ⟨t1, t2⟩ := done H L (by simp [ltP, a2, b4] <;> omega) (by simp [ltP, a1, b3] <;> omega) (.inl rfl) (.inl rfl)
                simp only [V_seq, V_skip, V_block, V_region, V_draw, V_cond, brW_false, drawW, pairsOf, W_nil, W_cons, WD_nil, WD_cons, effOp2, effOp3, KN_seq, KN_block, KN_back, asB, effOp, effPure, effPick, pureV, pickV, binV, partV, eltV, loadV, faddrV, iaddrV, ofC, strip, lkT, lkH, ISt.app, opI, gO, gB, allB, gval, wrapG, dstOK, setD, IBlk.shape, Op.operands, reduceIte, reduceCtorEq, cond_true, cond_false, Bool.and_true, Nat.reduceAdd, Nat.reduceLT, Nat.reduceLeDiff, Nat.reduceEqDiff, Nat.add_zero, Nat.zero_add, ne_eq, not_false_eq_true, beq_self_eq_true, true_and, and_true, and_false, and_self, implies_true, forall_const, List.nil_append, List.cons_append, Option.map_some, Option.bind_some, List.getElem?_cons_zero, List.getElem?_cons_succ, List.getD_cons_zero, List.getD_cons_succ, List.length_cons, List.length_nil, List.take_succ_cons, List.take_zero, List.take_nil, List.drop_succ_cons, List.drop_zero, Bool.true_eq_false, Bool.false_eq_true, tab3, tab23, tab30, hN, Int.toNat_natCast, elp, g, hw, a1, a2, a3, b3, b4, Int.toNat_natCast]
                repeat refine And.intro (by first | omega | (simp; done) | (simp; omega)) ?_
                exact ⟨i + 1, id, by simp only []; omega, by simp only []; omega, by simp only [t1, t2]; exact by simp [SLe, SLe0, convTm, convHp, convB, conv, conv0, convL, lkT, lkH, clean]⟩
              · have b3 : decide (p.2 < q.2) = false := decide_eq_false (by omega)
                have b4 : decide (q.2 < p.2) = true := decide_eq_true d
                obtain ⟨t1, t2⟩ := done (H + 1) L (by simp [ltP, c, d]) (by simp [ltP, a1, b3] <;> omega) (.inr rfl) (.inl rfl)
                simp only [V_seq, V_skip, V_block, V_region, V_draw, V_cond, brW_true, brW_false, drawW, pairsOf, W_nil, W_cons, WD_nil, WD_cons, effOp2, effOp3, KN_seq, KN_block, KN_back, asB, effOp, effPure, effPick, pureV, pickV, binV, partV, eltV, loadV, faddrV, iaddrV, ofC, strip, lkT, lkH, ISt.app, opI, gO, gB, allB, gval, wrapG, dstOK, setD, IBlk.shape, Op.operands, reduceIte, reduceCtorEq, cond_true, cond_false, Bool.and_true, Nat.reduceAdd, Nat.reduceLT, Nat.reduceLeDiff, Nat.reduceEqDiff, Nat.add_zero, Nat.zero_add, ne_eq, not_false_eq_true, beq_self_eq_true, true_and, and_true, and_false, and_self, implies_true, forall_const, List.nil_append, List.cons_append, Option.map_some, Option.bind_some, List.getElem?_cons_zero, List.getElem?_cons_succ, List.getD_cons_zero, List.getD_cons_succ, List.length_cons, List.length_nil, List.take_succ_cons, List.take_zero, List.take_nil, List.drop_succ_cons, List.drop_zero, Bool.true_eq_false, Bool.false_eq_true, tab3, tab23, tab30, hN, Int.toNat_natCast, elp, g, hw, wH, a1, a2, a3, b3, b4, Int.toNat_natCast]
                repeat refine And.intro (by first | omega | (simp; done) | (simp; omega)) ?_
                exact ⟨i + 1, id, by simp only []; omega, by simp only []; omega, by simp only [t1, t2]; exact by simp [SLe, SLe0, convTm, convHp, convB, conv, conv0, convL, lkT, lkH, clean]⟩
            · have a1 : decide (p.1 < q.1) = false := decide_eq_false (by omega)
              have a2 : decide (q.1 < p.1) = true := decide_eq_true c
              have a3 : (p.1 == q.1) = false := by rw [beq_eq_false_iff_ne]; omega
              obtain ⟨t1, t2⟩ := done (H + 1) L (by simp [ltP, a2]) (by simp [ltP, a1] <;> omega) (.inr rfl) (.inl rfl)
              simp only [V_seq, V_skip, V_block, V_region, V_draw, V_cond, brW_true, brW_false, drawW, pairsOf, W_nil, W_cons, WD_nil, WD_cons, effOp2, effOp3, KN_seq, KN_block, KN_back, asB, effOp, effPure, effPick, pureV, pickV, binV, partV, eltV, loadV, faddrV, iaddrV, ofC, strip, lkT, lkH, ISt.app, opI, gO, gB, allB, gval, wrapG, dstOK, setD, IBlk.shape, Op.operands, reduceIte, reduceCtorEq, cond_true, cond_false, Bool.and_false, Nat.reduceAdd, Nat.reduceLT, Nat.reduceLeDiff, Nat.reduceEqDiff, Nat.add_zero, Nat.zero_add, ne_eq, not_false_eq_true, beq_self_eq_true, true_and, and_true, false_and, and_false, and_self, false_implies, implies_true, forall_const, List.nil_append, List.cons_append, Option.map_some, Option.bind_some, List.getElem?_cons_zero, List.getElem?_cons_succ, List.getD_cons_zero, List.getD_cons_succ, List.length_cons, List.length_nil, List.take_succ_cons, List.take_zero, List.take_nil, List.drop_succ_cons, List.drop_zero, bft, btf, Bool.true_eq_false, Bool.false_eq_true, tab3, tab23, tab30, hN, Int.toNat_natCast, elp, g, hw, wH, a1, a2, a3, Int.toNat_natCast]
              repeat refine And.intro (by first | omega | (simp; done) | (simp; omega)) ?_
              exact ⟨i + 1, id, by simp only []; omega, by simp only []; omega, by simp only [t1, t2]; exact by simp [SLe, SLe0, convTm, convHp, convB, conv, conv0, convL, lkT, lkH, clean]⟩
          · have hie : i = l.length := by simp at h3; omega
            have g1 := f1 hie
            have g2 := f2 hie
            have hq2 : IntKind.i64.wrap (((l.length : Nat) : Int).tdiv 2) = ((l.length / 2 : Nat) : Int) := kd_quo _ (by omega)
            have d1 : decide (((L : Nat) : Int) ≤ ((l.length / 2 : Nat) : Int)) = true := decide_eq_true (by omega)
            have d2 : decide (((H : Nat) : Int) ≤ ((l.length / 2 : Nat) : Int)) = true := decide_eq_true (by omega)
            have d3 : (((l.length : Nat) : Int) == ((l.length : Nat) : Int)) = true := by simp
            simp only [V_seq, V_ret, V_exit, V_region, W_nil, W_cons, effOp2, KN_seq, KXr_nil, KXe_nil, KXe_seq, KXe_block, KXe_back, QE, effOp, effPure, effPick, pureV, pickV, binV, lenV, ofC, strip, lkT, lkH, ISt.app, opI, gO, gB, allB, gval, wrapG, dstOK, setD, clean, Gives, Ideal.Fin, conv, conv0, Op.operands, Call.operands, List.append_toArray, reduceIte, reduceCtorEq, cond_true, Nat.reduceLT, Nat.reduceEqDiff, ne_eq, not_false_eq_true, beq_self_eq_true, true_and, and_true, and_self, implies_true, forall_const, List.nil_append, List.cons_append, Option.bind_some, List.getElem?_cons_zero, List.getElem?_cons_succ, Bool.true_eq_false, tab23, tab25, hN, eE, elp, hq2, d1, d2]
            omega
def sp_laws_FnKdOrder : PSpec := ⟨fun xs => match xs with | [.sl 1 bes] => isBy bes ∧ ((fun (b : List Int) => ∀ x ∈ b, 0 ≤ x ∧ x < 256) (toIs bes)) | _ => False, fun xs => match xs with | [.sl _ bes] => (fun (b : List Int) => .bool true) (toIs bes) | _ => .junk, false⟩
theorem gk_laws_FnKdOrder : ∀ args, sp_laws_FnKdOrder.pre args → ICall Try.prog 3 args (sp_laws_FnKdOrder.val args) := by
  intro args h
  unfold sp_laws_FnKdOrder at h ⊢; simp only at h ⊢; split at h
  · obtain ⟨h0, h1⟩ := h
    obtain ⟨l0, rfl⟩ := isBy_ex h0
    simp only [toBy_enc] at *
    exact c_laws_FnKdOrder _ h1
  · exact h.elim
theorem en_laws_FnKdOrder : Enters Try.prog 3 := enters_of Try.func3 (by kernel_rfl) rfl

end Go.Proofs.Ytemppebemahkoaa
