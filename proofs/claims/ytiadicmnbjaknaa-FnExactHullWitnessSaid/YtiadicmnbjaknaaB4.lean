/- Contracts: the program's sorted lists; lists backwards. -/
import Derived.Test.YtiadicmnbjaknaaB3
set_option linter.unusedVariables false
set_option linter.unusedSimpArgs false
namespace Go.Proofs.Ytiadicmnbjaknaa
open Go Go.Ideal Go.Pl Go.Sort

def g_slices_SortFunc_impl_Point_impl_Point_nil : List (Nat × PSpec) := []
theorem gok_slices_SortFunc_impl_Point_impl_Point_nil : GOK Try.prog g_slices_SortFunc_impl_Point_impl_Point_nil := gok0
def h_slices_SortFunc_impl_Point_impl_Point_nil : List (Nat × HSpec) := []
theorem hok_slices_SortFunc_impl_Point_impl_Point_nil : HOK Try.prog h_slices_SortFunc_impl_Point_impl_Point_nil := hok0
theorem c_slices_SortFunc_impl_Point_impl_Point_nil   : ICall Try.prog 45 [.sl 2 [], .clo 46 []] (.tup []) := by
  exact icall_sort_none sort_point _ 2
def sp_slices_SortFunc_impl_Point_impl_Point_nil : PSpec := ⟨fun xs => match xs with | [.sl 2 [], .clo 46 []] => True | _ => False, fun xs => match xs with | [.sl 2 [], .clo 46 []] => (.tup []) | _ => .junk, false⟩
theorem gk_slices_SortFunc_impl_Point_impl_Point_nil : ∀ args, sp_slices_SortFunc_impl_Point_impl_Point_nil.pre args → ICall Try.prog 45 args (sp_slices_SortFunc_impl_Point_impl_Point_nil.val args) := by
  intro args h
  unfold sp_slices_SortFunc_impl_Point_impl_Point_nil at h ⊢; simp only at h ⊢; split at h
  · exact c_slices_SortFunc_impl_Point_impl_Point_nil 
  · exact h.elim
theorem en_slices_SortFunc_impl_Point_impl_Point_nil : Enters Try.prog 45 := enters_of Try.func45 (by kernel_rfl) rfl

def g_slices_Compact_impl_Point_impl_Point_nil : List (Nat × PSpec) := []
theorem gok_slices_Compact_impl_Point_impl_Point_nil : GOK Try.prog g_slices_Compact_impl_Point_impl_Point_nil := gok0
def h_slices_Compact_impl_Point_impl_Point_nil : List (Nat × HSpec) := []
theorem hok_slices_Compact_impl_Point_impl_Point_nil : HOK Try.prog h_slices_Compact_impl_Point_impl_Point_nil := hok0
theorem c_slices_Compact_impl_Point_impl_Point_nil   : ICall Try.prog 47 [.sl 2 []] (.sl 2 []) := by
  refine icall_V (G := g_slices_Compact_impl_Point_impl_Point_nil) (H := []) [] tabOK mixed gok_slices_Compact_impl_Point_impl_Point_nil hok_slices_Compact_impl_Point_impl_Point_nil Try.func47 rfl Try.ntmps47 Try.results47 rfl (by kernel_rfl) fun F hN hlen => ?_
  have d0 : decide (((0 : Nat) : Int) < 2) = true := rfl
  simp only [V_seq, V_ret, V_region, V_cond, brW_true, W_nil, W_cons, effOp2, KN_seq, KXr_nil, KXr_seq, QE, asB, effOp, effPure, pureV, binV, lenV, ofC, strip, lkT, lkH, ISt.app, opI, gO, gB, allB, gval, wrapG, dstOK, setD, enumT, Gives, Ideal.Fin, conv, conv0, Op.operands, Call.operands, List.append_toArray, reduceIte, reduceCtorEq, Nat.reduceLT, Nat.reduceEqDiff, ne_eq, not_false_eq_true, and_self, implies_true, List.nil_append, List.cons_append, List.append_nil, List.length_nil, tab26, hN, d0]
def sp_slices_Compact_impl_Point_impl_Point_nil : PSpec := ⟨fun xs => match xs with | [.sl 2 []] => True | _ => False, fun xs => match xs with | [.sl 2 []] => (.sl 2 []) | _ => .junk, false⟩
theorem gk_slices_Compact_impl_Point_impl_Point_nil : ∀ args, sp_slices_Compact_impl_Point_impl_Point_nil.pre args → ICall Try.prog 47 args (sp_slices_Compact_impl_Point_impl_Point_nil.val args) := by
  intro args h
  unfold sp_slices_Compact_impl_Point_impl_Point_nil at h ⊢; simp only at h ⊢; split at h
  · exact c_slices_Compact_impl_Point_impl_Point_nil 
  · exact h.elim
theorem en_slices_Compact_impl_Point_impl_Point_nil : Enters Try.prog 47 := enters_of Try.func47 (by kernel_rfl) rfl

def g_slices_Clip_impl_Point_impl_Point_nil : List (Nat × PSpec) := []
theorem gok_slices_Clip_impl_Point_impl_Point_nil : GOK Try.prog g_slices_Clip_impl_Point_impl_Point_nil := gok0
def h_slices_Clip_impl_Point_impl_Point_nil : List (Nat × HSpec) := []
theorem hok_slices_Clip_impl_Point_impl_Point_nil : HOK Try.prog h_slices_Clip_impl_Point_impl_Point_nil := hok0
theorem c_slices_Clip_impl_Point_impl_Point_nil   : ICall Try.prog 33 [.sl 2 []] (.sl 2 []) := by
  refine icall_V (G := g_slices_Clip_impl_Point_impl_Point_nil) (H := []) [] tabOK mixed gok_slices_Clip_impl_Point_impl_Point_nil hok_slices_Clip_impl_Point_impl_Point_nil Try.func33 rfl Try.ntmps33 Try.results33 rfl (by kernel_rfl) fun F hN hlen => ?_
  simp only [V_seq, V_ret, V_region, W_nil, W_cons, effOp2, KN_seq, KXr_nil, QE, effOp, effPure, pureV, sliceV, lenV, ofC, strip, lkT, lkH, ISt.app, opI, gO, gB, allB, gval, wrapG, dstOK, setD, enumT, Gives, Ideal.Fin, conv, conv0, Op.operands, Call.operands, List.append_toArray, Array.append_empty, Option.toArray_none, Option.toArray_some, reduceIte, reduceCtorEq, Nat.reduceLT, Nat.reduceEqDiff, ne_eq, not_false_eq_true, true_and, and_true, and_self, implies_true, forall_const, List.nil_append, List.cons_append, List.append_nil, Option.map_some, Option.map_none, List.length_nil, List.take_nil, tab26, tab38, hN, Int.toNat_natCast]
  simp
def sp_slices_Clip_impl_Point_impl_Point_nil : PSpec := ⟨fun xs => match xs with | [.sl 2 []] => True | _ => False, fun xs => match xs with | [.sl 2 []] => (.sl 2 []) | _ => .junk, false⟩
theorem gk_slices_Clip_impl_Point_impl_Point_nil : ∀ args, sp_slices_Clip_impl_Point_impl_Point_nil.pre args → ICall Try.prog 33 args (sp_slices_Clip_impl_Point_impl_Point_nil.val args) := by
  intro args h
  unfold sp_slices_Clip_impl_Point_impl_Point_nil at h ⊢; simp only at h ⊢; split at h
  · exact c_slices_Clip_impl_Point_impl_Point_nil 
  · exact h.elim
theorem en_slices_Clip_impl_Point_impl_Point_nil : Enters Try.prog 33 := enters_of Try.func33 (by kernel_rfl) rfl


def g_e_sorted_nil : List (Nat × PSpec) := [(45, sp_slices_SortFunc_impl_Point_impl_Point_nil), (47, sp_slices_Compact_impl_Point_impl_Point_nil), (33, sp_slices_Clip_impl_Point_impl_Point_nil)]
theorem gok_e_sorted_nil : GOK Try.prog g_e_sorted_nil := gok_cons gk_slices_SortFunc_impl_Point_impl_Point_nil en_slices_SortFunc_impl_Point_impl_Point_nil (gok_cons gk_slices_Compact_impl_Point_impl_Point_nil en_slices_Compact_impl_Point_impl_Point_nil (gok_cons gk_slices_Clip_impl_Point_impl_Point_nil en_slices_Clip_impl_Point_impl_Point_nil (gok0)))
theorem lk_e_sorted_nil_slices_SortFunc_impl_Point_impl_Point_nil : lkG g_e_sorted_nil 45 = sp_slices_SortFunc_impl_Point_impl_Point_nil := rfl
theorem lk_e_sorted_nil_slices_Compact_impl_Point_impl_Point_nil : lkG g_e_sorted_nil 47 = sp_slices_Compact_impl_Point_impl_Point_nil := rfl
theorem lk_e_sorted_nil_slices_Clip_impl_Point_impl_Point_nil : lkG g_e_sorted_nil 33 = sp_slices_Clip_impl_Point_impl_Point_nil := rfl
def h_e_sorted_nil : List (Nat × HSpec) := [(44, hs_slices_Clone_impl_Point_impl_Point)]
theorem hok_e_sorted_nil : HOK Try.prog h_e_sorted_nil := hok_cons hk_slices_Clone_impl_Point_impl_Point en_slices_Clone_impl_Point_impl_Point (hok0)
theorem lh_e_sorted_nil_slices_SortFunc_impl_Point_impl_Point_nil : lkHS h_e_sorted_nil 45 = none := rfl
theorem lh_e_sorted_nil_slices_Compact_impl_Point_impl_Point_nil : lkHS h_e_sorted_nil 47 = none := rfl
theorem lh_e_sorted_nil_slices_Clip_impl_Point_impl_Point_nil : lkHS h_e_sorted_nil 33 = none := rfl
theorem lh_e_sorted_nil_slices_Clone_impl_Point_impl_Point : lkHS h_e_sorted_nil 44 = some hs_slices_Clone_impl_Point_impl_Point := rfl
def g_e_sorted : List (Nat × PSpec) := []
theorem gok_e_sorted : GOK Try.prog g_e_sorted := gok0
def h_e_sorted : List (Nat × HSpec) := [(44, hs_slices_Clone_impl_Point_impl_Point), (45, hs_slices_SortFunc_impl_Point_impl_Point), (47, hs_slices_Compact_impl_Point_impl_Point), (33, hs_slices_Clip_impl_Point_impl_Point)]
theorem hok_e_sorted : HOK Try.prog h_e_sorted := hok_cons hk_slices_Clone_impl_Point_impl_Point en_slices_Clone_impl_Point_impl_Point (hok_cons hk_slices_SortFunc_impl_Point_impl_Point en_slices_SortFunc_impl_Point_impl_Point (hok_cons hk_slices_Compact_impl_Point_impl_Point en_slices_Compact_impl_Point_impl_Point (hok_cons hk_slices_Clip_impl_Point_impl_Point en_slices_Clip_impl_Point_impl_Point (hok0))))
theorem lh_e_sorted_slices_Clone_impl_Point_impl_Point : lkHS h_e_sorted 44 = some hs_slices_Clone_impl_Point_impl_Point := rfl
theorem lh_e_sorted_slices_SortFunc_impl_Point_impl_Point : lkHS h_e_sorted 45 = some hs_slices_SortFunc_impl_Point_impl_Point := rfl
theorem lh_e_sorted_slices_Compact_impl_Point_impl_Point : lkHS h_e_sorted 47 = some hs_slices_Compact_impl_Point_impl_Point := rfl
theorem lh_e_sorted_slices_Clip_impl_Point_impl_Point : lkHS h_e_sorted 33 = some hs_slices_Clip_impl_Point_impl_Point := rfl

def g_impl_sorted : List (Nat × PSpec) := []
theorem gok_impl_sorted : GOK Try.prog g_impl_sorted := gok0
def h_impl_sorted : List (Nat × HSpec) := []
theorem hok_impl_sorted : HOK Try.prog h_impl_sorted := hok0
theorem c_impl_sorted (l : List Pt) (hsz : l.length ≤ 1000000) : HCall Try.prog 30 [.sl 2 (encPs l)] (sm ([])) (bif l.isEmpty then .sl 2 [] else .ref 0 0 (insP l).length false) (sm (bif l.isEmpty then [] else [(0, .arr 2 38 (encPs (insP l)))])) := by
  cases hne : l.isEmpty with
  | true =>
    obtain rfl := List.isEmpty_iff.1 hne
    refine hcall_V (G := g_e_sorted_nil) (H := h_e_sorted_nil) [] tabOK mixed gok_e_sorted_nil hok_e_sorted_nil Try.func30 rfl Try.ntmps30 Try.results30 rfl (by kernel_rfl) fun F hN hlen => ?_
    simp only [sm, cond_true, encPs_nil]
    simp only [V_seq, V_ret, V_region, W_nil, W_cons, effOp2, KN_seq, KXr_nil, QE, effOp, effPure, effCall, giveUp, hasAll, skipE, pureV, ofC, strip, lkT, lkH, ISt.app, opI, gO, gB, allB, gval, wrapG, dstOK, setD, lendV, lendP, lent, lentP, lentPs, idsV, idsL, flat, flatL, clean, cleanL, callArgs, callFn, allLent, enumT, conv, conv0, Op.operands, reduceIte, reduceCtorEq, cond_true, cond_false, Bool.or_false, Bool.not_true, Bool.not_false, Nat.reduceAdd, Nat.reduceMul, Nat.reduceLT, Nat.reduceLeDiff, Nat.reduceEqDiff, true_and, and_true, and_self, implies_true, List.map_cons, List.map_nil, List.nil_append, List.cons_append, List.append_nil, List.all_nil, List.length_nil, ex_clo, or_true, or_self, Bool.false_eq_true, hN, isPs_nil, toPs_nil, FinH, resA, resV, SLe, SLe0, convTm, convHp, sm, effH, mkHC0, mkHC1, lendM, lentM, lentI, allHere, addIds, flatIds, reach, posn, renV, renL, renH, numB, subHp, fwd, bwd, nones, keyOK, noSl, flatBs, List.contains, List.elem, List.isEmpty_nil, List.nodup_nil, or_false, Option.getD_some, lk_e_sorted_nil_slices_SortFunc_impl_Point_impl_Point_nil, lk_e_sorted_nil_slices_Compact_impl_Point_impl_Point_nil, lk_e_sorted_nil_slices_Clip_impl_Point_impl_Point_nil, sp_slices_SortFunc_impl_Point_impl_Point_nil, sp_slices_Compact_impl_Point_impl_Point_nil, sp_slices_Clip_impl_Point_impl_Point_nil, lh_e_sorted_nil_slices_SortFunc_impl_Point_impl_Point_nil, lh_e_sorted_nil_slices_Compact_impl_Point_impl_Point_nil, lh_e_sorted_nil_slices_Clip_impl_Point_impl_Point_nil, lh_e_sorted_nil_slices_Clone_impl_Point_impl_Point, hs_slices_Clone_impl_Point_impl_Point]
    exact ⟨id, fun _ _ _ => rfl⟩
  | false =>
    refine hcall_V (G := g_e_sorted) (H := h_e_sorted) [] tabOK mixed gok_e_sorted hok_e_sorted Try.func30 rfl Try.ntmps30 Try.results30 rfl (by kernel_rfl) fun F hN hlen => ?_
    simp only [sm, cond_false]
    have e1 : List.take 0 l ++ ((List.drop 0 l).take l.length).mergeSort leP ++ List.drop (0 + l.length) l = l.mergeSort leP := by simp
    have e2 := insP_len l
    have e3 : (l.mergeSort leP).length = l.length := by simp
    have e4 : (encPs (l.mergeSort leP)).take l.length = encPs (l.mergeSort leP) := List.take_of_length_le (by rw [len_encPs]; omega)
    simp only [V_seq, V_ret, V_region, W_nil, W_cons, effOp2, KN_seq, KXr_nil, QE, effOp, effPure, Option.isSome_some, skipE, pureV, ofC, strip, lkT, lkH, ISt.app, opI, gO, gB, allB, gval, wrapG, dstOK, setD, mentTm, mentHp, IV.ment, IV.mentL, lendV, lendP, lent, lentP, idsV, idsL, callArgs, callFn, enumT, conv, conv0, convL, IBlk.shape, Op.operands, reduceIte, reduceCtorEq, cond_true, cond_false, Bool.or_false, Bool.or_true, Bool.and_true, Bool.not_false, Nat.reduceAdd, Nat.reduceSub, Nat.reduceMul, Nat.reduceLT, Nat.reduceLeDiff, Nat.reduceEqDiff, Nat.add_zero, Nat.zero_add, not_false_eq_true, beq_self_eq_true, true_and, and_true, and_false, and_self, false_implies, implies_true, List.map_cons, List.map_nil, List.nil_append, List.cons_append, List.append_nil, List.all_nil, Option.map_some, Option.map_none, List.getD_cons_zero, List.take_zero, List.drop_zero, ex_clo, true_or, Bool.true_eq_false, Bool.false_eq_true, hN, isPs_enc, toPs_enc, FinH, resA, resV, SLe, SLe0, convTm, convHp, convB, sm, effH, mkHC0, mkHC1, lendM, lentM, lentI, allHere, addIds, idsB, flatIds, reach, posn, renV, renL, renB, renH, numB, subHp, fwd, bk, bwd, nones, keyOK, noSl, noSlL, flatBs, List.contains, List.elem, Option.isSome_some, List.nodup_nil, List.nodup_cons, List.not_mem_nil, Option.getD_some, lh_e_sorted_slices_Clone_impl_Point_impl_Point, lh_e_sorted_slices_SortFunc_impl_Point_impl_Point, lh_e_sorted_slices_Compact_impl_Point_impl_Point, lh_e_sorted_slices_Clip_impl_Point_impl_Point, hs_slices_Clone_impl_Point_impl_Point, hs_slices_SortFunc_impl_Point_impl_Point, hs_slices_Compact_impl_Point_impl_Point, hs_slices_Clip_impl_Point_impl_Point, hne, List.take_length, List.drop_length, List.take_zero, List.drop_zero, compact_sort, hsz, Nat.le_refl, len_encPs, e3, e4, take_encPs]
    refine ⟨fun i => if i = 0 then 2080 else i, ?_⟩
    simp [len_encPs, take_encPs]
    intro i h1 h2 h3
    omega
def hs_impl_sorted : HSpec := ⟨[true], fun xs hp => match xs, hp with | [.sl 2 es], [] => (isPs es) ∧ ((fun (l : List Pt) => l.length ≤ 1000000) (toPs es)) | _, _ => False, fun xs hp => match xs, hp with | [.sl 2 es], [] => (fun (l : List Pt) => (bif l.isEmpty then .sl 2 [] else .ref 0 0 (insP l).length false : IV)) (toPs es) | _, _ => .junk, fun xs hp => match xs, hp with | [.sl 2 es], [] => (fun (l : List Pt) => (bif l.isEmpty then [] else [(0, .arr 2 38 (encPs (insP l)))] : List (Nat × IBlk))) (toPs es) | _, _ => []⟩
theorem hk_impl_sorted : ∀ args hp, hs_impl_sorted.pre args hp → HCall Try.prog 30 args (sm hp) (hs_impl_sorted.val args hp) (sm (hs_impl_sorted.hval args hp)) := by
  intro args hp h
  unfold hs_impl_sorted at h ⊢; simp only at h ⊢; split at h
  · obtain ⟨h1, h2⟩ := h; obtain ⟨l, rfl⟩ := isP_ex h1; rw [toPs_enc] at *; exact c_impl_sorted l h2
  · exact h.elim
theorem en_impl_sorted : Enters Try.prog 30 := enters_of Try.func30 (by kernel_rfl) rfl


def g_impl_sorted_v : List (Nat × PSpec) := []
theorem gok_impl_sorted_v : GOK Try.prog g_impl_sorted_v := gok0
def h_impl_sorted_v : List (Nat × HSpec) := [(44, hs_slices_Clone_impl_Point_impl_Point), (45, hs_slices_SortFunc_impl_Point_impl_Point), (47, hs_slices_Compact_impl_Point_impl_Point), (33, hs_slices_Clip_impl_Point_impl_Point)]
theorem hok_impl_sorted_v : HOK Try.prog h_impl_sorted_v := hok_cons hk_slices_Clone_impl_Point_impl_Point en_slices_Clone_impl_Point_impl_Point (hok_cons hk_slices_SortFunc_impl_Point_impl_Point en_slices_SortFunc_impl_Point_impl_Point (hok_cons hk_slices_Compact_impl_Point_impl_Point en_slices_Compact_impl_Point_impl_Point (hok_cons hk_slices_Clip_impl_Point_impl_Point en_slices_Clip_impl_Point_impl_Point (hok0))))
theorem lh_impl_sorted_v_slices_Clone_impl_Point_impl_Point : lkHS h_impl_sorted_v 44 = some hs_slices_Clone_impl_Point_impl_Point := rfl
theorem lh_impl_sorted_v_slices_SortFunc_impl_Point_impl_Point : lkHS h_impl_sorted_v 45 = some hs_slices_SortFunc_impl_Point_impl_Point := rfl
theorem lh_impl_sorted_v_slices_Compact_impl_Point_impl_Point : lkHS h_impl_sorted_v 47 = some hs_slices_Compact_impl_Point_impl_Point := rfl
theorem lh_impl_sorted_v_slices_Clip_impl_Point_impl_Point : lkHS h_impl_sorted_v 33 = some hs_slices_Clip_impl_Point_impl_Point := rfl
theorem c_impl_sorted_v (l : List Pt) (hsz : l.length ≤ 1000000) : ICall Try.prog 30 [.sl 2 (encPs l)] (.sl 2 (encPs (insP l))) := by
  have h := c_impl_sorted l hsz
  cases hne : l.isEmpty with
  | true =>
    obtain rfl := List.isEmpty_iff.1 hne
    exact icall_of_hcall id h (by simp [sm, SLe0, convTm, convHp, conv, conv0, lkT, insP, encPs]) rfl
  | false =>
    refine icall_of_hcall (fun i => i + 1) h ?_ rfl
    simp only [sm, hne, cond_false]
    exact ⟨⟨⟨_, _, rfl, by rw [len_encPs]; omega, by rw [List.drop_zero, take_encPs], by simp [lkH]⟩, trivial⟩, trivial, List.nodup_nil⟩
def sp_impl_sorted_v : PSpec := ⟨fun xs => match xs with | [.sl 2 les] => isPs les ∧ ((fun (l : List Pt) => l.length ≤ 1000000) (toPs les)) | _ => False, fun xs => match xs with | [.sl _ les] => (fun (l : List Pt) => .sl 2 (encPs (insP l))) (toPs les) | _ => .junk, false⟩
theorem gk_impl_sorted_v : ∀ args, sp_impl_sorted_v.pre args → ICall Try.prog 30 args (sp_impl_sorted_v.val args) := by
  intro args h
  unfold sp_impl_sorted_v at h ⊢; simp only at h ⊢; split at h
  · obtain ⟨h0, h1⟩ := h
    obtain ⟨l0, rfl⟩ := isP_ex h0
    try simp only [toPs_enc] at *
    exact c_impl_sorted_v _ h1
  · exact h.elim
theorem en_impl_sorted_v : Enters Try.prog 30 := enters_of Try.func30 (by kernel_rfl) rfl



end Go.Proofs.Ytiadicmnbjaknaa