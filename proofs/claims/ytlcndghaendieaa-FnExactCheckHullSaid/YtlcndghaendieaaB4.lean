/- Contracts: the program's sorted lists; lists backwards. -/
import Derived.Test.YtlcndghaendieaaB3
set_option linter.unusedVariables false
set_option linter.unusedSimpArgs false
namespace Go.Proofs.Ytlcndghaendieaa
open Go Go.Ideal Go.Pl Go.Sort

def g_slices_SortFunc_impl_Point_impl_Point_nil : List (Nat × PSpec) := []
theorem gok_slices_SortFunc_impl_Point_impl_Point_nil : GOK Try.prog g_slices_SortFunc_impl_Point_impl_Point_nil := gok0
def h_slices_SortFunc_impl_Point_impl_Point_nil : List (Nat × HSpec) := []
theorem hok_slices_SortFunc_impl_Point_impl_Point_nil : HOK Try.prog h_slices_SortFunc_impl_Point_impl_Point_nil := hok0
theorem c_slices_SortFunc_impl_Point_impl_Point_nil   : ICall Try.prog 124 [.sl 2 [], .clo 109 []] (.tup []) := by
  exact icall_sort_none sort_point _ 2
def sp_slices_SortFunc_impl_Point_impl_Point_nil : PSpec := ⟨fun xs => match xs with | [.sl 2 [], .clo 109 []] => True | _ => False, fun xs => match xs with | [.sl 2 [], .clo 109 []] => (.tup []) | _ => .junk, false⟩
theorem gk_slices_SortFunc_impl_Point_impl_Point_nil : ∀ args, sp_slices_SortFunc_impl_Point_impl_Point_nil.pre args → ICall Try.prog 124 args (sp_slices_SortFunc_impl_Point_impl_Point_nil.val args) := by
  intro args h
  unfold sp_slices_SortFunc_impl_Point_impl_Point_nil at h ⊢; simp only at h ⊢; split at h
  · exact c_slices_SortFunc_impl_Point_impl_Point_nil 
  · exact h.elim
theorem en_slices_SortFunc_impl_Point_impl_Point_nil : Enters Try.prog 124 := enters_of Try.func124 (by kernel_rfl) rfl

def g_slices_Compact_impl_Point_impl_Point_nil : List (Nat × PSpec) := []
theorem gok_slices_Compact_impl_Point_impl_Point_nil : GOK Try.prog g_slices_Compact_impl_Point_impl_Point_nil := gok0
def h_slices_Compact_impl_Point_impl_Point_nil : List (Nat × HSpec) := []
theorem hok_slices_Compact_impl_Point_impl_Point_nil : HOK Try.prog h_slices_Compact_impl_Point_impl_Point_nil := hok0
theorem c_slices_Compact_impl_Point_impl_Point_nil   : ICall Try.prog 125 [.sl 2 []] (.sl 2 []) := by
  refine icall_V (G := g_slices_Compact_impl_Point_impl_Point_nil) (H := []) [] tabOK mixed gok_slices_Compact_impl_Point_impl_Point_nil hok_slices_Compact_impl_Point_impl_Point_nil Try.func125 rfl Try.ntmps125 Try.results125 rfl (by kernel_rfl) fun F hN hlen => ?_
  have d0 : decide (((0 : Nat) : Int) < 2) = true := rfl
  simp only [V_seq, V_ret, V_region, V_cond, brW_true, W_nil, W_cons, effOp2, KN_seq, KXr_nil, KXr_seq, QE, asB, effOp, effPure, pureV, binV, lenV, ofC, strip, lkT, lkH, ISt.app, opI, gO, gB, allB, gval, wrapG, dstOK, setD, enumT, Gives, Ideal.Fin, conv, conv0, Op.operands, Call.operands, List.append_toArray, reduceIte, reduceCtorEq, Nat.reduceLT, Nat.reduceEqDiff, ne_eq, not_false_eq_true, and_self, implies_true, List.nil_append, List.cons_append, List.append_nil, List.length_nil, tab23, hN, d0]
def sp_slices_Compact_impl_Point_impl_Point_nil : PSpec := ⟨fun xs => match xs with | [.sl 2 []] => True | _ => False, fun xs => match xs with | [.sl 2 []] => (.sl 2 []) | _ => .junk, false⟩
theorem gk_slices_Compact_impl_Point_impl_Point_nil : ∀ args, sp_slices_Compact_impl_Point_impl_Point_nil.pre args → ICall Try.prog 125 args (sp_slices_Compact_impl_Point_impl_Point_nil.val args) := by
  intro args h
  unfold sp_slices_Compact_impl_Point_impl_Point_nil at h ⊢; simp only at h ⊢; split at h
  · exact c_slices_Compact_impl_Point_impl_Point_nil 
  · exact h.elim
theorem en_slices_Compact_impl_Point_impl_Point_nil : Enters Try.prog 125 := enters_of Try.func125 (by kernel_rfl) rfl

def g_slices_Clip_impl_Point_impl_Point_nil : List (Nat × PSpec) := []
theorem gok_slices_Clip_impl_Point_impl_Point_nil : GOK Try.prog g_slices_Clip_impl_Point_impl_Point_nil := gok0
def h_slices_Clip_impl_Point_impl_Point_nil : List (Nat × HSpec) := []
theorem hok_slices_Clip_impl_Point_impl_Point_nil : HOK Try.prog h_slices_Clip_impl_Point_impl_Point_nil := hok0
theorem c_slices_Clip_impl_Point_impl_Point_nil   : ICall Try.prog 119 [.sl 2 []] (.sl 2 []) := by
  refine icall_V (G := g_slices_Clip_impl_Point_impl_Point_nil) (H := []) [] tabOK mixed gok_slices_Clip_impl_Point_impl_Point_nil hok_slices_Clip_impl_Point_impl_Point_nil Try.func119 rfl Try.ntmps119 Try.results119 rfl (by kernel_rfl) fun F hN hlen => ?_
  simp only [V_seq, V_ret, V_region, W_nil, W_cons, effOp2, KN_seq, KXr_nil, QE, effOp, effPure, pureV, sliceV, lenV, ofC, strip, lkT, lkH, ISt.app, opI, gO, gB, allB, gval, wrapG, dstOK, setD, enumT, Gives, Ideal.Fin, conv, conv0, Op.operands, Call.operands, List.append_toArray, Array.append_empty, Option.toArray_none, Option.toArray_some, reduceIte, reduceCtorEq, Nat.reduceLT, Nat.reduceEqDiff, ne_eq, not_false_eq_true, true_and, and_true, and_self, implies_true, forall_const, List.nil_append, List.cons_append, List.append_nil, Option.map_some, Option.map_none, List.length_nil, List.take_nil, tab23, tab28, hN, Int.toNat_natCast]
  simp
def sp_slices_Clip_impl_Point_impl_Point_nil : PSpec := ⟨fun xs => match xs with | [.sl 2 []] => True | _ => False, fun xs => match xs with | [.sl 2 []] => (.sl 2 []) | _ => .junk, false⟩
theorem gk_slices_Clip_impl_Point_impl_Point_nil : ∀ args, sp_slices_Clip_impl_Point_impl_Point_nil.pre args → ICall Try.prog 119 args (sp_slices_Clip_impl_Point_impl_Point_nil.val args) := by
  intro args h
  unfold sp_slices_Clip_impl_Point_impl_Point_nil at h ⊢; simp only at h ⊢; split at h
  · exact c_slices_Clip_impl_Point_impl_Point_nil 
  · exact h.elim
theorem en_slices_Clip_impl_Point_impl_Point_nil : Enters Try.prog 119 := enters_of Try.func119 (by kernel_rfl) rfl


def g_e_sorted_nil : List (Nat × PSpec) := [(124, sp_slices_SortFunc_impl_Point_impl_Point_nil), (125, sp_slices_Compact_impl_Point_impl_Point_nil), (119, sp_slices_Clip_impl_Point_impl_Point_nil)]
theorem gok_e_sorted_nil : GOK Try.prog g_e_sorted_nil := gok_cons gk_slices_SortFunc_impl_Point_impl_Point_nil en_slices_SortFunc_impl_Point_impl_Point_nil (gok_cons gk_slices_Compact_impl_Point_impl_Point_nil en_slices_Compact_impl_Point_impl_Point_nil (gok_cons gk_slices_Clip_impl_Point_impl_Point_nil en_slices_Clip_impl_Point_impl_Point_nil (gok0)))
theorem lk_e_sorted_nil_slices_SortFunc_impl_Point_impl_Point_nil : lkG g_e_sorted_nil 124 = sp_slices_SortFunc_impl_Point_impl_Point_nil := rfl
theorem lk_e_sorted_nil_slices_Compact_impl_Point_impl_Point_nil : lkG g_e_sorted_nil 125 = sp_slices_Compact_impl_Point_impl_Point_nil := rfl
theorem lk_e_sorted_nil_slices_Clip_impl_Point_impl_Point_nil : lkG g_e_sorted_nil 119 = sp_slices_Clip_impl_Point_impl_Point_nil := rfl
def h_e_sorted_nil : List (Nat × HSpec) := [(123, hs_slices_Clone_impl_Point_impl_Point)]
theorem hok_e_sorted_nil : HOK Try.prog h_e_sorted_nil := hok_cons hk_slices_Clone_impl_Point_impl_Point en_slices_Clone_impl_Point_impl_Point (hok0)
theorem lh_e_sorted_nil_slices_SortFunc_impl_Point_impl_Point_nil : lkHS h_e_sorted_nil 124 = none := rfl
theorem lh_e_sorted_nil_slices_Compact_impl_Point_impl_Point_nil : lkHS h_e_sorted_nil 125 = none := rfl
theorem lh_e_sorted_nil_slices_Clip_impl_Point_impl_Point_nil : lkHS h_e_sorted_nil 119 = none := rfl
theorem lh_e_sorted_nil_slices_Clone_impl_Point_impl_Point : lkHS h_e_sorted_nil 123 = some hs_slices_Clone_impl_Point_impl_Point := rfl
def g_e_sorted : List (Nat × PSpec) := []
theorem gok_e_sorted : GOK Try.prog g_e_sorted := gok0
def h_e_sorted : List (Nat × HSpec) := [(123, hs_slices_Clone_impl_Point_impl_Point), (124, hs_slices_SortFunc_impl_Point_impl_Point), (125, hs_slices_Compact_impl_Point_impl_Point), (119, hs_slices_Clip_impl_Point_impl_Point)]
theorem hok_e_sorted : HOK Try.prog h_e_sorted := hok_cons hk_slices_Clone_impl_Point_impl_Point en_slices_Clone_impl_Point_impl_Point (hok_cons hk_slices_SortFunc_impl_Point_impl_Point en_slices_SortFunc_impl_Point_impl_Point (hok_cons hk_slices_Compact_impl_Point_impl_Point en_slices_Compact_impl_Point_impl_Point (hok_cons hk_slices_Clip_impl_Point_impl_Point en_slices_Clip_impl_Point_impl_Point (hok0))))
theorem lh_e_sorted_slices_Clone_impl_Point_impl_Point : lkHS h_e_sorted 123 = some hs_slices_Clone_impl_Point_impl_Point := rfl
theorem lh_e_sorted_slices_SortFunc_impl_Point_impl_Point : lkHS h_e_sorted 124 = some hs_slices_SortFunc_impl_Point_impl_Point := rfl
theorem lh_e_sorted_slices_Compact_impl_Point_impl_Point : lkHS h_e_sorted 125 = some hs_slices_Compact_impl_Point_impl_Point := rfl
theorem lh_e_sorted_slices_Clip_impl_Point_impl_Point : lkHS h_e_sorted 119 = some hs_slices_Clip_impl_Point_impl_Point := rfl

def g_impl_sorted : List (Nat × PSpec) := []
theorem gok_impl_sorted : GOK Try.prog g_impl_sorted := gok0
def h_impl_sorted : List (Nat × HSpec) := []
theorem hok_impl_sorted : HOK Try.prog h_impl_sorted := hok0
theorem c_impl_sorted (l : List Pt) (hsz : l.length ≤ 1000000) : HCall Try.prog 82 [.sl 2 (encPs l)] (sm ([])) (bif l.isEmpty then .sl 2 [] else .ref 0 0 (insP l).length false) (sm (bif l.isEmpty then [] else [(0, .arr 2 28 (encPs (insP l)))])) := by
  cases hne : l.isEmpty with
  | true =>
    obtain rfl := List.isEmpty_iff.1 hne
    refine hcall_V (G := g_e_sorted_nil) (H := h_e_sorted_nil) [] tabOK mixed gok_e_sorted_nil hok_e_sorted_nil Try.func82 rfl Try.ntmps82 Try.results82 rfl (by kernel_rfl) fun F hN hlen => ?_
    simp only [sm, cond_true, encPs_nil]
    simp only [V_seq, V_ret, V_region, W_nil, W_cons, effOp2, KN_seq, KXr_nil, QE, effOp, effPure, effCall, giveUp, hasAll, skipE, pureV, ofC, strip, lkT, lkH, ISt.app, opI, gO, gB, allB, gval, wrapG, dstOK, setD, lendV, lendP, lent, lentP, lentPs, idsV, idsL, flat, flatL, clean, cleanL, callArgs, callFn, allLent, enumT, conv, conv0, Op.operands, reduceIte, reduceCtorEq, cond_true, cond_false, Bool.or_false, Bool.not_true, Bool.not_false, Nat.reduceAdd, Nat.reduceMul, Nat.reduceLT, Nat.reduceLeDiff, Nat.reduceEqDiff, true_and, and_true, and_self, implies_true, List.map_cons, List.map_nil, List.nil_append, List.cons_append, List.append_nil, List.all_nil, List.length_nil, ex_clo, or_true, or_self, Bool.false_eq_true, hN, isPs_nil, toPs_nil, FinH, resA, resV, SLe, SLe0, convTm, convHp, sm, effH, mkHC0, mkHC1, lendM, lentM, lentI, allHere, addIds, flatIds, reach, posn, renV, renL, renH, numB, subHp, fwd, bwd, nones, keyOK, noSl, flatBs, List.contains, List.elem, List.isEmpty_nil, List.nodup_nil, or_false, Option.getD_some, lk_e_sorted_nil_slices_SortFunc_impl_Point_impl_Point_nil, lk_e_sorted_nil_slices_Compact_impl_Point_impl_Point_nil, lk_e_sorted_nil_slices_Clip_impl_Point_impl_Point_nil, sp_slices_SortFunc_impl_Point_impl_Point_nil, sp_slices_Compact_impl_Point_impl_Point_nil, sp_slices_Clip_impl_Point_impl_Point_nil, lh_e_sorted_nil_slices_SortFunc_impl_Point_impl_Point_nil, lh_e_sorted_nil_slices_Compact_impl_Point_impl_Point_nil, lh_e_sorted_nil_slices_Clip_impl_Point_impl_Point_nil, lh_e_sorted_nil_slices_Clone_impl_Point_impl_Point, hs_slices_Clone_impl_Point_impl_Point]
    exact ⟨id, fun _ _ _ => rfl⟩
  | false =>
    refine hcall_V (G := g_e_sorted) (H := h_e_sorted) [] tabOK mixed gok_e_sorted hok_e_sorted Try.func82 rfl Try.ntmps82 Try.results82 rfl (by kernel_rfl) fun F hN hlen => ?_
    simp only [sm, cond_false]
    have e1 : List.take 0 l ++ ((List.drop 0 l).take l.length).mergeSort leP ++ List.drop (0 + l.length) l = l.mergeSort leP := by simp
    have e2 := insP_len l
    have e3 : (l.mergeSort leP).length = l.length := by simp
    have e4 : (encPs (l.mergeSort leP)).take l.length = encPs (l.mergeSort leP) := List.take_of_length_le (by rw [len_encPs]; omega)
    simp only [V_seq, V_ret, V_region, W_nil, W_cons, effOp2, KN_seq, KXr_nil, QE, effOp, effPure, Option.isSome_some, skipE, pureV, ofC, strip, lkT, lkH, ISt.app, opI, gO, gB, allB, gval, wrapG, dstOK, setD, mentTm, mentHp, IV.ment, IV.mentL, lendV, lendP, lent, lentP, idsV, idsL, callArgs, callFn, enumT, conv, conv0, convL, IBlk.shape, Op.operands, reduceIte, reduceCtorEq, cond_true, cond_false, Bool.or_false, Bool.or_true, Bool.and_true, Bool.not_false, Nat.reduceAdd, Nat.reduceSub, Nat.reduceMul, Nat.reduceLT, Nat.reduceLeDiff, Nat.reduceEqDiff, Nat.add_zero, Nat.zero_add, not_false_eq_true, beq_self_eq_true, true_and, and_true, and_false, and_self, false_implies, implies_true, List.map_cons, List.map_nil, List.nil_append, List.cons_append, List.append_nil, List.all_nil, Option.map_some, Option.map_none, List.getD_cons_zero, List.take_zero, List.drop_zero, ex_clo, true_or, Bool.true_eq_false, Bool.false_eq_true, hN, isPs_enc, toPs_enc, FinH, resA, resV, SLe, SLe0, convTm, convHp, convB, sm, effH, mkHC0, mkHC1, lendM, lentM, lentI, allHere, addIds, idsB, flatIds, reach, posn, renV, renL, renB, renH, numB, subHp, fwd, bk, bwd, nones, keyOK, noSl, noSlL, flatBs, List.contains, List.elem, Option.isSome_some, List.nodup_nil, List.nodup_cons, List.not_mem_nil, Option.getD_some, lh_e_sorted_slices_Clone_impl_Point_impl_Point, lh_e_sorted_slices_SortFunc_impl_Point_impl_Point, lh_e_sorted_slices_Compact_impl_Point_impl_Point, lh_e_sorted_slices_Clip_impl_Point_impl_Point, hs_slices_Clone_impl_Point_impl_Point, hs_slices_SortFunc_impl_Point_impl_Point, hs_slices_Compact_impl_Point_impl_Point, hs_slices_Clip_impl_Point_impl_Point, hne, List.take_length, List.drop_length, List.take_zero, List.drop_zero, compact_sort, hsz, Nat.le_refl, len_encPs, e3, e4, take_encPs]
    refine ⟨fun i => if i = 0 then 2080 else i, ?_⟩
    simp [len_encPs, take_encPs]
    intro i h1 h2 h3
    omega
def hs_impl_sorted : HSpec := ⟨[true], fun xs hp => match xs, hp with | [.sl 2 es], [] => (isPs es) ∧ ((fun (l : List Pt) => l.length ≤ 1000000) (toPs es)) | _, _ => False, fun xs hp => match xs, hp with | [.sl 2 es], [] => (fun (l : List Pt) => (bif l.isEmpty then .sl 2 [] else .ref 0 0 (insP l).length false : IV)) (toPs es) | _, _ => .junk, fun xs hp => match xs, hp with | [.sl 2 es], [] => (fun (l : List Pt) => (bif l.isEmpty then [] else [(0, .arr 2 28 (encPs (insP l)))] : List (Nat × IBlk))) (toPs es) | _, _ => []⟩
theorem hk_impl_sorted : ∀ args hp, hs_impl_sorted.pre args hp → HCall Try.prog 82 args (sm hp) (hs_impl_sorted.val args hp) (sm (hs_impl_sorted.hval args hp)) := by
  intro args hp h
  unfold hs_impl_sorted at h ⊢; simp only at h ⊢; split at h
  · obtain ⟨h1, h2⟩ := h; obtain ⟨l, rfl⟩ := isP_ex h1; rw [toPs_enc] at *; exact c_impl_sorted l h2
  · exact h.elim
theorem en_impl_sorted : Enters Try.prog 82 := enters_of Try.func82 (by kernel_rfl) rfl


def g_impl_sorted_v : List (Nat × PSpec) := []
theorem gok_impl_sorted_v : GOK Try.prog g_impl_sorted_v := gok0
def h_impl_sorted_v : List (Nat × HSpec) := [(123, hs_slices_Clone_impl_Point_impl_Point), (124, hs_slices_SortFunc_impl_Point_impl_Point), (125, hs_slices_Compact_impl_Point_impl_Point), (119, hs_slices_Clip_impl_Point_impl_Point)]
theorem hok_impl_sorted_v : HOK Try.prog h_impl_sorted_v := hok_cons hk_slices_Clone_impl_Point_impl_Point en_slices_Clone_impl_Point_impl_Point (hok_cons hk_slices_SortFunc_impl_Point_impl_Point en_slices_SortFunc_impl_Point_impl_Point (hok_cons hk_slices_Compact_impl_Point_impl_Point en_slices_Compact_impl_Point_impl_Point (hok_cons hk_slices_Clip_impl_Point_impl_Point en_slices_Clip_impl_Point_impl_Point (hok0))))
theorem lh_impl_sorted_v_slices_Clone_impl_Point_impl_Point : lkHS h_impl_sorted_v 123 = some hs_slices_Clone_impl_Point_impl_Point := rfl
theorem lh_impl_sorted_v_slices_SortFunc_impl_Point_impl_Point : lkHS h_impl_sorted_v 124 = some hs_slices_SortFunc_impl_Point_impl_Point := rfl
theorem lh_impl_sorted_v_slices_Compact_impl_Point_impl_Point : lkHS h_impl_sorted_v 125 = some hs_slices_Compact_impl_Point_impl_Point := rfl
theorem lh_impl_sorted_v_slices_Clip_impl_Point_impl_Point : lkHS h_impl_sorted_v 119 = some hs_slices_Clip_impl_Point_impl_Point := rfl
theorem c_impl_sorted_v (l : List Pt) (hsz : l.length ≤ 1000000) : ICall Try.prog 82 [.sl 2 (encPs l)] (.sl 2 (encPs (insP l))) := by
  have h := c_impl_sorted l hsz
  cases hne : l.isEmpty with
  | true =>
    obtain rfl := List.isEmpty_iff.1 hne
    exact icall_of_hcall id h (by simp [sm, SLe0, convTm, convHp, conv, conv0, lkT, insP, encPs]) rfl
  | false =>
    refine icall_of_hcall (fun i => i + 1) h ?_ rfl
    simp only [sm, hne, cond_false]
    exact ⟨⟨⟨_, _, rfl, by rw [len_encPs]; omega, by rw [List.drop_zero, take_encPs], by simp [lkH]⟩, trivial⟩, trivial, List.nodup_nil⟩
def sp_impl_sorted_v : PSpec := ⟨fun xs => match xs with | [.sl 2 les] => isPs les ∧ ((fun (l : List Pt) => l.length ≤ 1000000) (toPs les)) | _ => False, fun xs => match xs with | [.sl _ les] => (fun (l : List Pt) => .sl 2 (encPs (insP l))) (toPs les) | _ => .junk, false⟩
theorem gk_impl_sorted_v : ∀ args, sp_impl_sorted_v.pre args → ICall Try.prog 82 args (sp_impl_sorted_v.val args) := by
  intro args h
  unfold sp_impl_sorted_v at h ⊢; simp only at h ⊢; split at h
  · obtain ⟨h0, h1⟩ := h
    obtain ⟨l0, rfl⟩ := isP_ex h0
    simp only [toPs_enc] at *
    exact c_impl_sorted_v _ h1
  · exact h.elim
theorem en_impl_sorted_v : Enters Try.prog 82 := enters_of Try.func82 (by kernel_rfl) rfl


def g_laws_backwards : List (Nat × PSpec) := []
theorem gok_laws_backwards : GOK Try.prog g_laws_backwards := gok0
def h_laws_backwards : List (Nat × HSpec) := []
theorem hok_laws_backwards : HOK Try.prog h_laws_backwards := hok0
theorem c_laws_backwards (l : List Pt) (hsz : l.length ≤ 1000000) : ICall Try.prog 16 [.sl 2 (encPs l)] (.sl 2 (encPs l.reverse)) := by
  refine icall_V (G := g_laws_backwards) (H := []) [] tabOK mixed gok_laws_backwards hok_laws_backwards Try.func16 rfl Try.ntmps16 Try.results16 rfl (by kernel_rfl) fun F hN hlen => ?_
  have el := len_encPs l
  have hl : l.length ≤ maxLen := by rw [maxLen_eq]; omega
  have hw0 : IntKind.i64.wrap ((l.length : Int) - 1) = (l.length : Int) - 1 := wr (by omega) (by omega)
  simp only [V_seq, V_block, V_region, W_nil, W_cons, effOp2, KN_seq, effOp, effPure, effNew, effBuildSlice, effFrz, frz, tmpsOf, skipE, pureV, binV, lenV, ofC, strip, lkT, ISt.app, opI, gO, gB, allB, gval, wrapG, dstOK, setD, mentTm, mentHp, IV.ment, partsL, eltsI, enumT, Op.operands, Call.operands, List.append_toArray, reduceIte, reduceCtorEq, cond_true, Bool.or_false, Nat.reduceMul, Nat.reduceLT, Nat.reduceLeDiff, Nat.reduceEqDiff, ne_eq, not_false_eq_true, true_and, and_self, implies_true, List.nil_append, List.cons_append, List.append_nil, List.length_nil, tab23, tab28, hN, el, hw0]
  refine V_loop (α := Nat) ⟨tabOK, mixed, gok_laws_backwards, hok_laws_backwards⟩ (by kernel_rfl) (fun i => i ≤ l.length) (fun i => ⟨[(4, .num .i64 ((i : Int) - 1)), (3, .ref 5 0 (l.length - i) true), (0, .sl 2 (encPs l))], [(5, some (.arr 2 28 (encPs (l.drop i).reverse)))]⟩) (fun i => i) l.length id (Nat.le_refl _) (by simp [SLe, SLe0, convTm, convHp, convB, conv, conv0, lkT, lkH, clean, encPs]) ?_
  intro i hi
  simp only [V_seq, V_region, V_cond, W_nil, W_cons, effOp2, KN_seq, asB, effOp, effPure, pureV, binV, ofC, strip, lkT, ISt.app, opI, gO, gB, allB, gval, wrapG, dstOK, setD, Op.operands, reduceIte, reduceCtorEq, Nat.reduceLT, Nat.reduceEqDiff, true_and, and_self, implies_true, List.nil_append, List.cons_append, hN]
  refine brW_some (fun h => ?_) (fun h => ?_)
  · obtain ⟨j, rfl⟩ : ∃ j, i = j + 1 := ⟨i - 1, by simp at h; omega⟩
    have hj : j < l.length := by omega
    have g1 := getD_encPs hj
    have e1 : ((j + 1 : Nat) : Int) - 1 = (j : Int) := by omega
    have hw : IntKind.i64.wrap ((j : Int) - 1) = (j : Int) - 1 := wr (by omega) (by omega)
    have e2 : (encPs (l.drop (j + 1)).reverse).length = l.length - (j + 1) := by simp [encPs]
    simp only [V_seq, V_skip, V_block, V_region, W_nil, W_cons, effOp2, KN_seq, KN_block, KN_back, effOp, effPure, effNew, effBuildSlice, effFrz, frz, tmpsOf, effAppend, effZeros, skipE, pureV, srcV, refId, binV, partV, eltV, loadV, iaddrV, ofC, strip, lkT, lkH, ISt.app, opI, gO, gB, allB, gval, wrapG, dstOK, setD, mentTm, mentHp, IV.ment, IV.mentL, partsL, eltsI, eltI, oneI, noId', Op.operands, reduceIte, reduceCtorEq, cond_true, Bool.or_false, Bool.and_true, Nat.reduceAdd, Nat.reduceMul, Nat.reduceLT, Nat.reduceLeDiff, Nat.reduceEqDiff, Nat.reduceBEq, Nat.zero_add, ne_eq, not_false_eq_true, true_and, and_true, and_false, and_self, implies_true, forall_const, List.nil_append, List.cons_append, List.append_nil, List.all_cons, List.all_nil, Option.some.injEq, List.getD_cons_zero, List.length_cons, List.length_nil, List.take_succ_cons, List.take_nil, List.drop_zero, tab23, tab28, hN, Int.toNat_natCast, el, Int.toNat_natCast, e1, g1, hw, e2]
    refine ⟨⟨by omega, by omega⟩, ⟨by omega, by omega⟩, j, fun q => if q = 5 then 19 else q, by simp only []; omega, by simp only []; omega, ?_⟩
    have e3 : l.length - j = l.length - (j + 1) + 1 := by omega
    have e4 : encPs (l.drop j).reverse = (encPs (l.drop (j + 1)).reverse).take (l.length - (j + 1)) ++ encPs [pAt l j] := by
      rw [drop_eq_g (d := (0, 0)) hj, List.reverse_cons, ← encPs_app, List.take_of_length_le (by rw [e2]; exact Nat.le_refl _)]
    simp [SLe, SLe0, convTm, convHp, convB, conv, conv0, lkT, lkH, clean, e3]
    exact ⟨take_eq_of e4, fun i h1 h2 h3 => by omega⟩
  · have hi0 : i = 0 := by simp at h; omega
    subst hi0
    simp only [V_seq, V_ret, V_exit, V_region, W_nil, W_cons, effOp2, KN_seq, KXr_nil, KXe_nil, KXe_seq, KXe_block, KXe_back, QE, effOp, effPure, pureV, strip, lkT, lkH, ISt.app, opI, gO, gB, allB, gval, wrapG, dstOK, setD, Gives, Ideal.Fin, conv, conv0, Op.operands, reduceIte, reduceCtorEq, Nat.reduceLT, Nat.reduceEqDiff, Nat.zero_add, ne_eq, true_and, and_self, implies_true, List.nil_append, List.cons_append, Option.some.injEq, List.drop_zero, hN]
    exact ⟨_, _, rfl, by simp [encPs], take_eq_of' rfl (by simp [encPs]), by simp⟩
def sp_laws_backwards : PSpec := ⟨fun xs => match xs with | [.sl 2 les] => isPs les ∧ ((fun (l : List Pt) => l.length ≤ 1000000) (toPs les)) | _ => False, fun xs => match xs with | [.sl _ les] => (fun (l : List Pt) => .sl 2 (encPs l.reverse)) (toPs les) | _ => .junk, false⟩
theorem gk_laws_backwards : ∀ args, sp_laws_backwards.pre args → ICall Try.prog 16 args (sp_laws_backwards.val args) := by
  intro args h
  unfold sp_laws_backwards at h ⊢; simp only at h ⊢; split at h
  · obtain ⟨h0, h1⟩ := h
    obtain ⟨l0, rfl⟩ := isP_ex h0
    simp only [toPs_enc] at *
    exact c_laws_backwards _ h1
  · exact h.elim
theorem en_laws_backwards : Enters Try.prog 16 := enters_of Try.func16 (by kernel_rfl) rfl


end Go.Proofs.Ytlcndghaendieaa