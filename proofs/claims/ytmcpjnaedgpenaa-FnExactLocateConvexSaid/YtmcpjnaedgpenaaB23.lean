/- The exact laws on where a point lies: the walks. -/
import Derived.Test.YtmcpjnaedgpenaaB21
import Derived.Test.YtmcpjnaedgpenaaBX
set_option linter.unusedVariables false
set_option linter.unusedSimpArgs false
namespace Go.Proofs.Ytmcpjnaedgpenaa
open Go Go.Ideal Go.Pl Go.Sort

def g_laws_toPointS_v : List (Nat × PSpec) := [(42, sp_laws_toPoint)]
theorem gok_laws_toPointS_v : GOK Try.prog g_laws_toPointS_v := gok_cons gk_laws_toPoint en_laws_toPoint (gok0)
theorem lk_laws_toPointS_v_laws_toPoint : lkG g_laws_toPointS_v 42 = sp_laws_toPoint := rfl
def h_laws_toPointS_v : List (Nat × HSpec) := []
theorem hok_laws_toPointS_v : HOK Try.prog h_laws_toPointS_v := hok0
theorem c_laws_toPointS_v (l : List Pt) (hsz : l.length ≤ 1048576) : ICallF Try.prog 23 [.sl 2 (encPs l)] (.sl 2 (encPs l)) := by
  exact icallF_ref (c_laws_toPointS l hsz) (len_encPs _).symm (noSl_encPs _)
def sp_laws_toPointS_v : PSpec := ⟨fun xs => match xs with | [.sl 2 les] => isPs les ∧ ((fun (l : List Pt) => l.length ≤ 1048576) (toPs les)) | _ => False, fun xs => match xs with | [.sl _ les] => (fun (l : List Pt) => .sl 2 (encPs l)) (toPs les) | _ => .junk, true⟩
theorem gk_laws_toPointS_v : ∀ args, sp_laws_toPointS_v.pre args → ICallF Try.prog 23 args (sp_laws_toPointS_v.val args) ∧ ∀ id, (sp_laws_toPointS_v.val args).ment id = false := by
  intro args h
  unfold sp_laws_toPointS_v at h ⊢; simp only at h ⊢; split at h
  · obtain ⟨h0, h1⟩ := h
    obtain ⟨l0, rfl⟩ := isP_ex h0
    simp only [toPs_enc] at *
    exact ⟨c_laws_toPointS_v _ h1, fun id => rfl⟩
  · exact h.elim
theorem en_laws_toPointS_v : Enters Try.prog 23 := enters_of Try.func23 (by kernel_rfl) rfl

def g_laws_FnExactLocate : List (Nat × PSpec) := [(20, sp_laws_szPointS), (23, sp_laws_toPointS_v), (42, sp_laws_toPoint), (44, sp_spec_Locate), (45, sp_impl_Locate), (26, sp_laws_eqPointS)]
theorem gok_laws_FnExactLocate : GOK Try.prog g_laws_FnExactLocate := gok_cons gk_laws_szPointS en_laws_szPointS (gok_consO gk_laws_toPointS_v en_laws_toPointS_v (gok_cons gk_laws_toPoint en_laws_toPoint (gok_cons gk_spec_Locate en_spec_Locate (gok_cons gk_impl_Locate en_impl_Locate (gok_cons gk_laws_eqPointS en_laws_eqPointS (gok0))))))
theorem lk_laws_FnExactLocate_laws_szPointS : lkG g_laws_FnExactLocate 20 = sp_laws_szPointS := rfl
theorem lk_laws_FnExactLocate_laws_toPointS_v : lkG g_laws_FnExactLocate 23 = sp_laws_toPointS_v := rfl
theorem lk_laws_FnExactLocate_laws_toPoint : lkG g_laws_FnExactLocate 42 = sp_laws_toPoint := rfl
theorem lk_laws_FnExactLocate_spec_Locate : lkG g_laws_FnExactLocate 44 = sp_spec_Locate := rfl
theorem lk_laws_FnExactLocate_impl_Locate : lkG g_laws_FnExactLocate 45 = sp_impl_Locate := rfl
theorem lk_laws_FnExactLocate_laws_eqPointS : lkG g_laws_FnExactLocate 26 = sp_laws_eqPointS := rfl
def h_laws_FnExactLocate : List (Nat × HSpec) := []
theorem hok_laws_FnExactLocate : HOK Try.prog h_laws_FnExactLocate := hok0
theorem c_laws_FnExactLocate (l : List Pt) (q : Pt)  : ICall Try.prog 10 [.sl 2 (encPs l), encP q] (.bool true) := by
  refine icall_V (G := g_laws_FnExactLocate) (H := []) [(5, [(1, 2), (0, 3), (0, 4), (2, 4)])] tabOK mixed gok_laws_FnExactLocate hok_laws_FnExactLocate Try.func10 rfl Try.ntmps10 Try.results10 rfl (by kernel_rfl) fun F hN hlen => ?_
  have hl := hlen 0 2 _ rfl
  have el := len_encPs l
  rw [el] at hl
  by_cases c : l.length ≤ 1048576
  · have hv : szPointV l 1048576 = 1048576 - (l.length : Int) := if_neg (by omega)
    have d1 : decide (1048576 - (l.length : Int) < 0) = false := by simp only [decide_eq_false_iff_not]; omega
    have hs : ∀ x : List Pt, (x == x) = true := fun x => by simp
    have hn : ∀ x : Int, (x != x) = false := fun x => by simp
    have hb : ∀ x : Bool, (x != x) = false := fun x => by simp
    simp only [V_seq, V_skip, V_ret, V_region, V_draw, V_cond, brW_false, drawW, WS_nil, WS_cons, pairsOf, W_nil, W_cons, effOp2, WI_nil, WI_cons, KN_seq, KXr_nil, QE, dynOK, indB, farB, freshB, heapy, asB, effOp, effPure, effNew, effBox, effCall, giveUp, hasAll, skipE, pureV, binV, partV, loadV, solid, IV.cells, ofC, strip, lkT, lkH, ISt.app, opI, gO, gB, allB, gval, wrapG, dstOK, setD, mentTm, mentHp, IV.ment, IV.mentL, oneI, lendV, lendP, lent, lentP, idsV, idsL, lkHS, flat, flatL, clean, cleanL, callArgs, callFn, allLent, enumT, Gives, Ideal.Fin, conv, conv0, Op.operands, Call.operands, List.append_toArray, reduceIte, reduceCtorEq, cond_true, cond_false, Bool.or_false, Bool.or_true, Bool.and_true, Bool.true_and, Bool.and_eq_true, Bool.not_true, Bool.not_false, Nat.reduceAdd, Nat.reduceLT, Nat.reduceLeDiff, Nat.reduceEqDiff, Nat.reduceBEq, Nat.zero_add, beq_self_eq_true, true_and, and_true, and_false, and_self, implies_true, forall_const, List.map_cons, List.map_nil, List.nil_append, List.cons_append, List.append_nil, List.all_cons, List.all_nil, List.getD_cons_zero, List.getD_cons_succ, List.length_cons, List.length_nil, List.take_succ_cons, List.take_zero, List.take_nil, List.drop_succ_cons, List.drop_zero, ex_clo, or_self, tab47, hN, pe, encP, isPs_enc, toPs_enc, lk_laws_FnExactLocate_laws_szPointS, lk_laws_FnExactLocate_laws_toPointS_v, lk_laws_FnExactLocate_laws_toPoint, lk_laws_FnExactLocate_spec_Locate, lk_laws_FnExactLocate_impl_Locate, lk_laws_FnExactLocate_laws_eqPointS, sp_laws_szPointS, sp_laws_toPointS_v, sp_laws_toPoint, sp_spec_Locate, sp_impl_Locate, sp_laws_eqPointS, hv, d1, c, hn]
    exact ⟨by omega, by omega⟩
  · have hv : szPointV l 1048576 = -1 := if_pos (by omega)
    have d1 : decide ((-1 : Int) < 0) = true := by decide
    simp only [V_seq, V_ret, V_region, V_cond, brW_true, W_nil, W_cons, effOp2, KN_seq, KXr_nil, KXr_seq, QE, asB, effOp, effPure, effNew, effBox, effCall, giveUp, hasAll, skipE, pureV, binV, solid, IV.cells, ofC, strip, lkT, lkH, ISt.app, opI, gO, gB, allB, gval, wrapG, dstOK, setD, mentTm, mentHp, IV.ment, IV.mentL, oneI, lendV, lendP, lent, lentP, idsV, idsL, lkHS, flat, clean, callArgs, callFn, allLent, enumT, Gives, Ideal.Fin, conv, conv0, Op.operands, reduceIte, reduceCtorEq, cond_true, Bool.or_false, Bool.and_true, Bool.not_true, Nat.reduceLT, Nat.reduceEqDiff, Nat.zero_add, true_and, and_true, and_self, implies_true, forall_const, List.map_cons, List.map_nil, List.nil_append, List.cons_append, List.append_nil, List.all_cons, List.all_nil, ex_clo, or_self, hN, encP, isPs_enc, toPs_enc, lk_laws_FnExactLocate_laws_szPointS, sp_laws_szPointS, hv, d1]
    exact ⟨by omega, by omega⟩
def sp_laws_FnExactLocate : PSpec := ⟨fun xs => match xs with | [.sl 2 les, .agg [.num .i64 q1, .num .i64 q2]] => isPs les | _ => False, fun xs => match xs with | [.sl _ les, .agg [.num _ q1, .num _ q2]] => (fun (l : List Pt) (q : Pt) => .bool true) (toPs les) (q1, q2) | _ => .junk, false⟩
theorem gk_laws_FnExactLocate : ∀ args, sp_laws_FnExactLocate.pre args → ICall Try.prog 10 args (sp_laws_FnExactLocate.val args) := by
  intro args h
  unfold sp_laws_FnExactLocate at h ⊢; simp only at h ⊢; split at h
  · have h0 := h
    obtain ⟨l0, rfl⟩ := isP_ex h0
    simp only [toPs_enc] at *
    exact c_laws_FnExactLocate _ (_, _) 
  · exact h.elim
theorem en_laws_FnExactLocate : Enters Try.prog 10 := enters_of Try.func10 (by kernel_rfl) rfl

def g_laws_FnExactLocateConvex : List (Nat × PSpec) := [(20, sp_laws_szPointS), (23, sp_laws_toPointS_v), (42, sp_laws_toPoint), (41, sp_spec_LocateConvex), (43, sp_impl_LocateConvex), (26, sp_laws_eqPointS)]
theorem gok_laws_FnExactLocateConvex : GOK Try.prog g_laws_FnExactLocateConvex := gok_cons gk_laws_szPointS en_laws_szPointS (gok_consO gk_laws_toPointS_v en_laws_toPointS_v (gok_cons gk_laws_toPoint en_laws_toPoint (gok_cons gk_spec_LocateConvex en_spec_LocateConvex (gok_cons gk_impl_LocateConvex en_impl_LocateConvex (gok_cons gk_laws_eqPointS en_laws_eqPointS (gok0))))))
theorem lk_laws_FnExactLocateConvex_laws_szPointS : lkG g_laws_FnExactLocateConvex 20 = sp_laws_szPointS := rfl
theorem lk_laws_FnExactLocateConvex_laws_toPointS_v : lkG g_laws_FnExactLocateConvex 23 = sp_laws_toPointS_v := rfl
theorem lk_laws_FnExactLocateConvex_laws_toPoint : lkG g_laws_FnExactLocateConvex 42 = sp_laws_toPoint := rfl
theorem lk_laws_FnExactLocateConvex_spec_LocateConvex : lkG g_laws_FnExactLocateConvex 41 = sp_spec_LocateConvex := rfl
theorem lk_laws_FnExactLocateConvex_impl_LocateConvex : lkG g_laws_FnExactLocateConvex 43 = sp_impl_LocateConvex := rfl
theorem lk_laws_FnExactLocateConvex_laws_eqPointS : lkG g_laws_FnExactLocateConvex 26 = sp_laws_eqPointS := rfl
def h_laws_FnExactLocateConvex : List (Nat × HSpec) := []
theorem hok_laws_FnExactLocateConvex : HOK Try.prog h_laws_FnExactLocateConvex := hok0
theorem c_laws_FnExactLocateConvex (l : List Pt) (q : Pt)  : ICall Try.prog 9 [.sl 2 (encPs l), encP q] (.bool true) := by
  refine icall_V (G := g_laws_FnExactLocateConvex) (H := []) [(5, [(1, 2), (0, 3), (0, 4), (2, 4)])] tabOK mixed gok_laws_FnExactLocateConvex hok_laws_FnExactLocateConvex Try.func9 rfl Try.ntmps9 Try.results9 rfl (by kernel_rfl) fun F hN hlen => ?_
  have hl := hlen 0 2 _ rfl
  have el := len_encPs l
  rw [el] at hl
  by_cases c : l.length ≤ 1048576
  · have hv : szPointV l 1048576 = 1048576 - (l.length : Int) := if_neg (by omega)
    have d1 : decide (1048576 - (l.length : Int) < 0) = false := by simp only [decide_eq_false_iff_not]; omega
    have hs : ∀ x : List Pt, (x == x) = true := fun x => by simp
    have hn : ∀ x : Int, (x != x) = false := fun x => by simp
    have hb : ∀ x : Bool, (x != x) = false := fun x => by simp
    simp only [V_seq, V_skip, V_ret, V_region, V_draw, V_cond, brW_false, drawW, WS_nil, WS_cons, pairsOf, W_nil, W_cons, effOp2, WI_nil, WI_cons, KN_seq, KXr_nil, QE, dynOK, indB, farB, freshB, heapy, asB, effOp, effPure, effNew, effBox, effCall, giveUp, hasAll, skipE, pureV, binV, partV, loadV, solid, IV.cells, ofC, strip, lkT, lkH, ISt.app, opI, gO, gB, allB, gval, wrapG, dstOK, setD, mentTm, mentHp, IV.ment, IV.mentL, oneI, lendV, lendP, lent, lentP, idsV, idsL, lkHS, flat, flatL, clean, cleanL, callArgs, callFn, allLent, enumT, Gives, Ideal.Fin, conv, conv0, Op.operands, Call.operands, List.append_toArray, reduceIte, reduceCtorEq, cond_true, cond_false, Bool.or_false, Bool.or_true, Bool.and_true, Bool.true_and, Bool.and_eq_true, Bool.not_true, Bool.not_false, Nat.reduceAdd, Nat.reduceLT, Nat.reduceLeDiff, Nat.reduceEqDiff, Nat.reduceBEq, Nat.zero_add, beq_self_eq_true, true_and, and_true, and_false, and_self, implies_true, forall_const, List.map_cons, List.map_nil, List.nil_append, List.cons_append, List.append_nil, List.all_cons, List.all_nil, List.getD_cons_zero, List.getD_cons_succ, List.length_cons, List.length_nil, List.take_succ_cons, List.take_zero, List.take_nil, List.drop_succ_cons, List.drop_zero, ex_clo, or_self, tab47, hN, pe, encP, isPs_enc, toPs_enc, lk_laws_FnExactLocateConvex_laws_szPointS, lk_laws_FnExactLocateConvex_laws_toPointS_v, lk_laws_FnExactLocateConvex_laws_toPoint, lk_laws_FnExactLocateConvex_spec_LocateConvex, lk_laws_FnExactLocateConvex_impl_LocateConvex, lk_laws_FnExactLocateConvex_laws_eqPointS, sp_laws_szPointS, sp_laws_toPointS_v, sp_laws_toPoint, sp_spec_LocateConvex, sp_impl_LocateConvex, sp_laws_eqPointS, hv, d1, c, hn]
    exact ⟨by omega, by omega⟩
  · have hv : szPointV l 1048576 = -1 := if_pos (by omega)
    have d1 : decide ((-1 : Int) < 0) = true := by decide
    simp only [V_seq, V_ret, V_region, V_cond, brW_true, W_nil, W_cons, effOp2, KN_seq, KXr_nil, KXr_seq, QE, asB, effOp, effPure, effNew, effBox, effCall, giveUp, hasAll, skipE, pureV, binV, solid, IV.cells, ofC, strip, lkT, lkH, ISt.app, opI, gO, gB, allB, gval, wrapG, dstOK, setD, mentTm, mentHp, IV.ment, IV.mentL, oneI, lendV, lendP, lent, lentP, idsV, idsL, lkHS, flat, clean, callArgs, callFn, allLent, enumT, Gives, Ideal.Fin, conv, conv0, Op.operands, reduceIte, reduceCtorEq, cond_true, Bool.or_false, Bool.and_true, Bool.not_true, Nat.reduceLT, Nat.reduceEqDiff, Nat.zero_add, true_and, and_true, and_self, implies_true, forall_const, List.map_cons, List.map_nil, List.nil_append, List.cons_append, List.append_nil, List.all_cons, List.all_nil, ex_clo, or_self, hN, encP, isPs_enc, toPs_enc, lk_laws_FnExactLocateConvex_laws_szPointS, sp_laws_szPointS, hv, d1]
    exact ⟨by omega, by omega⟩
def sp_laws_FnExactLocateConvex : PSpec := ⟨fun xs => match xs with | [.sl 2 les, .agg [.num .i64 q1, .num .i64 q2]] => isPs les | _ => False, fun xs => match xs with | [.sl _ les, .agg [.num _ q1, .num _ q2]] => (fun (l : List Pt) (q : Pt) => .bool true) (toPs les) (q1, q2) | _ => .junk, false⟩
theorem gk_laws_FnExactLocateConvex : ∀ args, sp_laws_FnExactLocateConvex.pre args → ICall Try.prog 9 args (sp_laws_FnExactLocateConvex.val args) := by
  intro args h
  unfold sp_laws_FnExactLocateConvex at h ⊢; simp only at h ⊢; split at h
  · have h0 := h
    obtain ⟨l0, rfl⟩ := isP_ex h0
    simp only [toPs_enc] at *
    exact c_laws_FnExactLocateConvex _ (_, _) 
  · exact h.elim
theorem en_laws_FnExactLocateConvex : Enters Try.prog 9 := enters_of Try.func9 (by kernel_rfl) rfl


end Go.Proofs.Ytmcpjnaedgpenaa
