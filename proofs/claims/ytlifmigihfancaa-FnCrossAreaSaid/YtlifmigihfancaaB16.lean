/- Contracts: the hull as a list of one's own; the exact law on hulls. -/
import Derived.Test.YtlifmigihfancaaB15
import Derived.Test.YtlifmigihfancaaBU
set_option linter.unusedVariables false
set_option linter.unusedSimpArgs false
set_option maxHeartbeats 1600000
set_option maxRecDepth 100000
namespace Go.Proofs.Ytlifmigihfancaa
open Go Go.Ideal Go.Pl Go.Sort

def g_slices_Concat_impl_Point_impl_Point_twoH : List (Nat × PSpec) := []
theorem gok_slices_Concat_impl_Point_impl_Point_twoH : GOK Try.prog g_slices_Concat_impl_Point_impl_Point_twoH := gok0
def h_slices_Concat_impl_Point_impl_Point_twoH : List (Nat × HSpec) := []
theorem hok_slices_Concat_impl_Point_impl_Point_twoH : HOK Try.prog h_slices_Concat_impl_Point_impl_Point_twoH := hok0
theorem c_slices_Concat_impl_Point_impl_Point_twoH (a : List Pt) (b : List Pt) (h0 : 0 < a.length + b.length) (hsz : a.length + b.length ≤ 1000000) : HCall Try.prog 164 [.sl 1 [.sl 2 (encPs a), .sl 2 (encPs b)]] (sm ([])) (.ref 0 0 (a.length + b.length) true) (sm ([(0, .arr 2 30 (encPs (a ++ b)))])) := by
  have h := concat_call [a, b] (by simpa [lensL] using h0) (by simpa [lensL] using hsz) (by simp)
  simpa [encLs, lensL, sm] using h
def hs_slices_Concat_impl_Point_impl_Point_twoH : HSpec := ⟨[true], fun xs hp => match xs, hp with | [.sl 1 [.sl 2 aes, .sl 2 bes]], [] => (isPs aes) ∧ (isPs bes) ∧ ((fun (a : List Pt) (b : List Pt) => 0 < a.length + b.length) (toPs aes) (toPs bes)) ∧ ((fun (a : List Pt) (b : List Pt) => a.length + b.length ≤ 1000000) (toPs aes) (toPs bes)) | _, _ => False, fun xs hp => match xs, hp with | [.sl 1 [.sl 2 aes, .sl 2 bes]], [] => (fun (a : List Pt) (b : List Pt) => (.ref 0 0 (a.length + b.length) true : IV)) (toPs aes) (toPs bes) | _, _ => .junk, fun xs hp => match xs, hp with | [.sl 1 [.sl 2 aes, .sl 2 bes]], [] => (fun (a : List Pt) (b : List Pt) => ([(0, .arr 2 30 (encPs (a ++ b)))] : List (Nat × IBlk))) (toPs aes) (toPs bes) | _, _ => []⟩
theorem hk_slices_Concat_impl_Point_impl_Point_twoH : ∀ args hp, hs_slices_Concat_impl_Point_impl_Point_twoH.pre args hp → HCall Try.prog 164 args (sm hp) (hs_slices_Concat_impl_Point_impl_Point_twoH.val args hp) (sm (hs_slices_Concat_impl_Point_impl_Point_twoH.hval args hp)) := by
  intro args hp h
  unfold hs_slices_Concat_impl_Point_impl_Point_twoH at h ⊢; simp only at h ⊢; split at h
  · obtain ⟨h1, h2, h3, h4⟩ := h; obtain ⟨a, rfl⟩ := isP_ex h1; obtain ⟨b, rfl⟩ := isP_ex h2; rw [toPs_enc, toPs_enc] at *; exact c_slices_Concat_impl_Point_impl_Point_twoH a b h3 h4
  · exact h.elim
theorem en_slices_Concat_impl_Point_impl_Point_twoH : Enters Try.prog 164 := enters_of Try.func164 (by kernel_rfl) rfl


def g_impl_hull_h : List (Nat × PSpec) := [(161, sp_impl_half_v)]
theorem gok_impl_hull_h : GOK Try.prog g_impl_hull_h := gok_consO gk_impl_half_v en_impl_half_v (gok0)
theorem lk_impl_hull_h_impl_half_v : lkG g_impl_hull_h 161 = sp_impl_half_v := rfl
def h_impl_hull_h : List (Nat × HSpec) := [(110, hs_impl_sorted), (162, hs_slices_Reverse_impl_Point_impl_Point), (164, hs_slices_Concat_impl_Point_impl_Point_twoH), (163, hs_slices_Clip_impl_Point_impl_Point)]
theorem hok_impl_hull_h : HOK Try.prog h_impl_hull_h := hok_cons hk_impl_sorted en_impl_sorted (hok_cons hk_slices_Reverse_impl_Point_impl_Point en_slices_Reverse_impl_Point_impl_Point (hok_cons hk_slices_Concat_impl_Point_impl_Point_twoH en_slices_Concat_impl_Point_impl_Point_twoH (hok_cons hk_slices_Clip_impl_Point_impl_Point en_slices_Clip_impl_Point_impl_Point (hok0))))
theorem lh_impl_hull_h_impl_half_v : lkHS h_impl_hull_h 161 = none := rfl
theorem lh_impl_hull_h_impl_sorted : lkHS h_impl_hull_h 110 = some hs_impl_sorted := rfl
theorem lh_impl_hull_h_slices_Reverse_impl_Point_impl_Point : lkHS h_impl_hull_h 162 = some hs_slices_Reverse_impl_Point_impl_Point := rfl
theorem lh_impl_hull_h_slices_Concat_impl_Point_impl_Point_twoH : lkHS h_impl_hull_h 164 = some hs_slices_Concat_impl_Point_impl_Point_twoH := rfl
theorem lh_impl_hull_h_slices_Clip_impl_Point_impl_Point : lkHS h_impl_hull_h 163 = some hs_slices_Clip_impl_Point_impl_Point := rfl
theorem c_impl_hull_h (l : List Pt) (hm : SmL l) (hsz : l.length ≤ 400000) (h0 : 0 < l.length) : HCall Try.prog 94 [.sl 2 (encPs l)] (sm ([])) (.ref 0 0 (hullP l).length false) (sm ([(0, .arr 2 30 (encPs (hullP l)))])) := by
  refine hcall_V (G := g_impl_hull_h) (H := h_impl_hull_h) [(7, [(10, 10)])] tabOK mixed gok_impl_hull_h hok_impl_hull_h Try.func94 rfl Try.ntmps94 Try.results94 rfl (by kernel_rfl) fun F hN hlen => ?_
  simp only [sm]
  have hne : l.isEmpty = false := by cases l with | nil => simp at h0 | cons x l => rfl
  have hmi : SmL (insP l) := SmL.ins hm
  have hmr : SmL (insP l).reverse := SmL.rev hmi
  have hle := insP_len l
  have hli : (insP l).length ≤ 1000000 := by omega
  have e1 := len_encPs (insP l)
  have hx : ∃ k ty es, IBlk.arr 2 30 (encPs (insP l)) = IBlk.arr k ty es := ⟨_, _, _, rfl⟩
  have hsz2 : l.length ≤ 1000000 := by omega
  simp only [V_seq, V_region, V_cond, W_nil, W_cons, effOp2, KN_seq, asB, effOp, effPure, Option.isSome_some, skipE, pureV, binV, lenV, ofC, strip, lkT, lkH, ISt.app, opI, gO, gB, allB, gval, wrapG, dstOK, setD, mentTm, mentHp, IV.ment, lendV, lendP, lent, lentP, idsV, idsL, callArgs, callFn, enumT, conv, conv0, IBlk.shape, Op.operands, Call.operands, List.append_toArray, reduceIte, reduceCtorEq, cond_true, cond_false, Bool.or_false, Bool.and_true, Bool.not_false, Nat.reduceAdd, Nat.reduceSub, Nat.reduceMul, Nat.reduceLT, Nat.reduceLeDiff, Nat.reduceEqDiff, Nat.add_zero, ne_eq, not_false_eq_true, true_and, and_false, and_self, false_implies, implies_true, List.map_cons, List.map_nil, List.nil_append, List.cons_append, List.append_nil, List.all_nil, Option.map_none, ex_clo, true_or, Bool.false_eq_true, tab23, hN, isPs_enc, toPs_enc, SLe0, convTm, convHp, convB, sm, effH, mkHC0, mkHC1, lendM, lentM, lentI, allHere, addIds, flatIds, reach, posn, renV, renL, renB, renH, numB, subHp, fwd, bk, bwd, nones, keyOK, noSl, flatBs, List.contains, List.elem, Option.isSome_some, List.nodup_nil, List.nodup_cons, List.not_mem_nil, Option.getD_some, lh_impl_hull_h_impl_sorted, hs_impl_sorted, hne, cond_false, hsz2, e1, take_encPs]
  refine brW_some (fun h => ?_) (fun h => ?_)
  · have h2 : (insP l).length < 2 := by simp at h; omega
    have hh : hullP l = insP l := by rw [hullP, hullA, if_pos h2]
    simp only [V_seq, V_ret, V_region, W_nil, W_cons, effOp2, KN_seq, KXr_nil, KXr_seq, QE, effOp, effPure, Option.isSome_some, pureV, strip, lkT, lkH, ISt.app, opI, gO, gB, allB, gval, wrapG, dstOK, setD, conv, conv0, Op.operands, reduceIte, reduceCtorEq, Nat.reduceLT, Nat.reduceEqDiff, not_false_eq_true, true_and, and_true, and_self, false_implies, implies_true, List.map_cons, List.map_nil, List.nil_append, List.cons_append, Bool.false_eq_true, hN, FinH, resA, resV, SLe, SLe0, convTm, convHp, convB, Option.isSome_some, List.nodup_nil, List.nodup_cons, List.not_mem_nil, hh]
    exact ⟨fun x => if x = 0 then 2112 else x, by simp; omega⟩
  · have h2 : ¬ (insP l).length < 2 := by simp at h; omega
    have e2 := len_encPs (chainP (insP l))
    have e3 := len_encPs (chainP (insP l).reverse)
    have e4 := len_encPs (insP l).reverse
    have e5 : (insP l).reverse.length = (insP l).length := List.length_reverse
    have hp1 := chainP_pos (l := insP l) (by omega)
    have hp2 := chainP_pos (l := (insP l).reverse) (by omega)
    have hl1 := chainP_len (insP l)
    have hl2 := chainP_len (insP l).reverse
    have w1 : IntKind.i64.wrap (((chainP (insP l)).length : Int) - 1) = (((chainP (insP l)).length - 1 : Nat) : Int) := by rw [wr (by omega) (by omega)]; omega
    have w2 : IntKind.i64.wrap (((chainP (insP l).reverse).length : Int) - 1) = (((chainP (insP l).reverse).length - 1 : Nat) : Int) := by rw [wr (by omega) (by omega)]; omega
    have tr : (encPs (insP l).reverse).take (insP l).length = encPs (insP l).reverse := List.take_of_length_le (by rw [e4, e5]; exact Nat.le_refl _)
    have c1 := chainP_two (l := insP l) (by omega)
    have c2 := chainP_two (l := (insP l).reverse) (by omega)
    have hv : hullP l = List.take ((chainP (insP l)).length - 1) (chainP (insP l)) ++ List.take ((chainP (insP l).reverse).length - 1) (chainP (insP l).reverse) := by
      rw [hullP, hullA, if_neg h2, List.dropLast_eq_take, List.dropLast_eq_take]
      rfl
    have f1 : (List.take ((chainP (insP l)).length - 1) (chainP (insP l))).length = (chainP (insP l)).length - 1 := by rw [List.length_take]; omega
    have f2 : (List.take ((chainP (insP l).reverse).length - 1) (chainP (insP l).reverse)).length = (chainP (insP l).reverse).length - 1 := by rw [List.length_take]; omega
    have f3 : 0 < (chainP (insP l)).length - 1 + ((chainP (insP l).reverse).length - 1) := by omega
    have f4 : (chainP (insP l)).length - 1 + ((chainP (insP l).reverse).length - 1) ≤ 1000000 := by omega
    have hvl : (hullP l).length = (chainP (insP l)).length - 1 + ((chainP (insP l).reverse).length - 1) := by rw [hv, List.length_append, f1, f2]
    rw [← hvl] at f3 f4
    have f5 : (chainP (insP l)).length - 1 + ((chainP (insP l).reverse).length - 1) = (hullP l).length := hvl.symm
    have hh := len_encPs (hullP l)
    simp only [V_seq, V_skip, V_ret, V_region, V_draw, drawW, WS_nil, WS_cons, pairsOf, W_nil, W_cons, effOp2, effOp3, WI_nil, WI_cons, KN_seq, KXr_nil, QE, dynOK, indB, farB, seeB, see, isStore, freshB, heapy, effOp, effPure, effNew, effBuildSlice, effFrz, frz, tmpsOf, effCall, giveUp, hasAll, Option.isSome_some, skipE, badE, pureV, binV, sliceV, lenV, ofC, strip, lkT, lkH, ISt.app, opI, gO, gB, allB, gval, wrapG, dstOK, setD, mentTm, mentHp, IV.ment, IV.mentL, partsL, eltsI, eltI, noId', lendV, lendP, lent, lentP, idsV, idsL, flat, clean, callArgs, callFn, allLent, enumT, conv, conv0, convL, IBlk.shape, Op.operands, Call.operands, List.append_toArray, Array.append_empty, Option.toArray_none, Option.toArray_some, reduceIte, reduceCtorEq, cond_true, cond_false, Bool.or_false, Bool.or_true, Bool.and_true, Bool.and_false, Bool.not_true, Bool.not_false, Nat.reduceAdd, Nat.reduceSub, Nat.reduceMul, Nat.reduceLT, Nat.reduceLeDiff, Nat.reduceEqDiff, Nat.reduceBEq, Nat.add_zero, Nat.zero_add, ne_eq, not_false_eq_true, beq_self_eq_true, true_and, and_true, false_and, and_false, and_self, false_implies, implies_true, forall_const, List.map_cons, List.map_nil, List.nil_append, List.cons_append, List.append_nil, List.all_cons, List.all_nil, Option.map_some, Option.map_none, List.getD_cons_zero, List.getD_cons_succ, List.length_cons, List.length_nil, List.take_succ_cons, List.take_zero, List.take_nil, List.drop_succ_cons, List.drop_zero, ex_clo, or_true, or_self, Bool.true_eq_false, Bool.false_eq_true, tab23, tab30, tab199, hN, Int.toNat_natCast, isPs_enc, toPs_enc, FinH, resA, resV, SLe, SLe0, convTm, convHp, convB, sm, effH, effHs, mkHC0, mkHC1, lendM, lentM, lentI, allHere, addIds, idsB, flatIds, reach, posn, renV, renL, renB, renH, numB, subHp, fwd, bk, bwd, nones, keyOK, noSl, noSlL, flatBs, List.contains, List.elem, Option.isSome_some, List.nodup_nil, List.nodup_cons, List.not_mem_nil, Option.getD_some, lk_impl_hull_h_impl_half_v, sp_impl_half_v, lh_impl_hull_h_impl_half_v, lh_impl_hull_h_slices_Reverse_impl_Point_impl_Point, lh_impl_hull_h_slices_Concat_impl_Point_impl_Point_twoH, lh_impl_hull_h_slices_Clip_impl_Point_impl_Point, hs_slices_Reverse_impl_Point_impl_Point, hs_slices_Concat_impl_Point_impl_Point_twoH, hs_slices_Clip_impl_Point_impl_Point, hmi, hmr, hli, e1, e2, e3, e4, e5, tr, encPs_take, List.take_length, w1, w2, noSl_encPs, Nat.le_refl, f1, f2, f3, f4, ← hv, f5, hh]
    exact ⟨⟨by omega, by omega⟩, ⟨by omega, by omega⟩, fun x => if x = 0 then 2464 else x, by simp; omega⟩
def hs_impl_hull_h : HSpec := ⟨[true], fun xs hp => match xs, hp with | [.sl 2 es], [] => (isPs es) ∧ ((fun (l : List Pt) => SmL l) (toPs es)) ∧ ((fun (l : List Pt) => l.length ≤ 400000) (toPs es)) ∧ ((fun (l : List Pt) => 0 < l.length) (toPs es)) | _, _ => False, fun xs hp => match xs, hp with | [.sl 2 es], [] => (fun (l : List Pt) => (.ref 0 0 (hullP l).length false : IV)) (toPs es) | _, _ => .junk, fun xs hp => match xs, hp with | [.sl 2 es], [] => (fun (l : List Pt) => ([(0, .arr 2 30 (encPs (hullP l)))] : List (Nat × IBlk))) (toPs es) | _, _ => []⟩
theorem hk_impl_hull_h : ∀ args hp, hs_impl_hull_h.pre args hp → HCall Try.prog 94 args (sm hp) (hs_impl_hull_h.val args hp) (sm (hs_impl_hull_h.hval args hp)) := by
  intro args hp h
  unfold hs_impl_hull_h at h ⊢; simp only at h ⊢; split at h
  · obtain ⟨h1, h2, h3, h4⟩ := h; obtain ⟨l, rfl⟩ := isP_ex h1; rw [toPs_enc] at *; exact c_impl_hull_h l h2 h3 h4
  · exact h.elim
theorem en_impl_hull_h : Enters Try.prog 94 := enters_of Try.func94 (by kernel_rfl) rfl


def g_impl_Hull_h : List (Nat × PSpec) := [(66, sp_impl_listOk)]
theorem gok_impl_Hull_h : GOK Try.prog g_impl_Hull_h := gok_cons gk_impl_listOk en_impl_listOk (gok0)
theorem lk_impl_Hull_h_impl_listOk : lkG g_impl_Hull_h 66 = sp_impl_listOk := rfl
def h_impl_Hull_h : List (Nat × HSpec) := [(94, hs_impl_hull_h)]
theorem hok_impl_Hull_h : HOK Try.prog h_impl_Hull_h := hok_cons hk_impl_hull_h en_impl_hull_h (hok0)
theorem lh_impl_Hull_h_impl_listOk : lkHS h_impl_Hull_h 66 = none := rfl
theorem lh_impl_Hull_h_impl_hull_h : lkHS h_impl_Hull_h 94 = some hs_impl_hull_h := rfl
theorem c_impl_Hull_h (l : List Pt) (hk : okPs l = true) (h0 : 0 < l.length) : HCall Try.prog 36 [.sl 2 (encPs l)] (sm ([])) (.ref 0 0 (hullP l).length false) (sm ([(0, .arr 2 30 (encPs (hullP l)))])) := by
  refine hcall_V (G := g_impl_Hull_h) (H := h_impl_Hull_h) [] tabOK mixed gok_impl_Hull_h hok_impl_Hull_h Try.func36 rfl Try.ntmps36 Try.results36 rfl (by kernel_rfl) fun F hN hlen => ?_
  simp only [sm]
  have hl : l.length ≤ 400000 := by have := okPs_len hk; omega
  have hm := okPs_sm hk
  have e1 := len_encPs (hullP l)
  simp only [V_seq, V_skip, V_ret, V_region, V_cond, brW_false, W_nil, W_cons, effOp2, KN_seq, KXr_nil, QE, asB, effOp, effPure, effCall, giveUp, hasAll, Option.isSome_some, skipE, pureV, ofC, strip, lkT, lkH, ISt.app, opI, gO, gB, allB, gval, wrapG, dstOK, setD, mentTm, mentHp, IV.ment, lendV, lendP, lent, lentP, idsV, idsL, flat, clean, callArgs, callFn, allLent, enumT, conv, conv0, IBlk.shape, Op.operands, reduceIte, reduceCtorEq, cond_true, cond_false, Bool.or_false, Bool.and_true, Bool.not_true, Bool.not_false, Nat.reduceAdd, Nat.reduceSub, Nat.reduceMul, Nat.reduceLT, Nat.reduceLeDiff, Nat.reduceEqDiff, Nat.add_zero, not_false_eq_true, true_and, and_true, and_false, and_self, false_implies, implies_true, List.map_cons, List.map_nil, List.nil_append, List.cons_append, List.append_nil, List.all_nil, Option.map_none, ex_clo, true_or, or_self, Bool.false_eq_true, hN, isPs_enc, toPs_enc, FinH, resA, resV, SLe, SLe0, convTm, convHp, convB, sm, effH, mkHC0, mkHC1, lendM, lentM, lentI, allHere, addIds, flatIds, reach, posn, renV, renL, renB, renH, numB, subHp, fwd, bk, bwd, nones, keyOK, noSl, flatBs, List.contains, List.elem, Option.isSome_some, List.nodup_nil, List.nodup_cons, List.not_mem_nil, Option.getD_some, lk_impl_Hull_h_impl_listOk, sp_impl_listOk, lh_impl_Hull_h_impl_listOk, lh_impl_Hull_h_impl_hull_h, hs_impl_hull_h, hk, hl, hm, h0, e1]
  exact ⟨(take_encPs _).symm, fun x => if x = 0 then 2112 else x, by simp; omega⟩
def hs_impl_Hull_h : HSpec := ⟨[true], fun xs hp => match xs, hp with | [.sl 2 es], [] => (isPs es) ∧ ((fun (l : List Pt) => okPs l = true) (toPs es)) ∧ ((fun (l : List Pt) => 0 < l.length) (toPs es)) | _, _ => False, fun xs hp => match xs, hp with | [.sl 2 es], [] => (fun (l : List Pt) => (.ref 0 0 (hullP l).length false : IV)) (toPs es) | _, _ => .junk, fun xs hp => match xs, hp with | [.sl 2 es], [] => (fun (l : List Pt) => ([(0, .arr 2 30 (encPs (hullP l)))] : List (Nat × IBlk))) (toPs es) | _, _ => []⟩
theorem hk_impl_Hull_h : ∀ args hp, hs_impl_Hull_h.pre args hp → HCall Try.prog 36 args (sm hp) (hs_impl_Hull_h.val args hp) (sm (hs_impl_Hull_h.hval args hp)) := by
  intro args hp h
  unfold hs_impl_Hull_h at h ⊢; simp only at h ⊢; split at h
  · obtain ⟨h1, h2, h3⟩ := h; obtain ⟨l, rfl⟩ := isP_ex h1; rw [toPs_enc] at *; exact c_impl_Hull_h l h2 h3
  · exact h.elim
theorem en_impl_Hull_h : Enters Try.prog 36 := enters_of Try.func36 (by kernel_rfl) rfl


theorem hull_none {l : List Pt} (hc : ¬ (okPs l = true ∧ 0 < l.length)) : (if okPs l = true then hullP l else []) = [] := by
  by_cases hk : okPs l = true
  · have : l = [] := by
      rcases Nat.eq_zero_or_pos l.length with h | h
      · exact List.length_eq_zero_iff.1 h
      · exact absurd ⟨hk, h⟩ hc
    subst this; rw [if_pos hk]; exact hullP_nil.2 rfl
  · rw [if_neg hk]
def g_impl_Hull_e : List (Nat × PSpec) := [(66, sp_impl_listOk), (94, sp_impl_hull)]
theorem gok_impl_Hull_e : GOK Try.prog g_impl_Hull_e := gok_cons gk_impl_listOk en_impl_listOk (gok_cons gk_impl_hull en_impl_hull (gok0))
theorem lk_impl_Hull_e_impl_listOk : lkG g_impl_Hull_e 66 = sp_impl_listOk := rfl
theorem lk_impl_Hull_e_impl_hull : lkG g_impl_Hull_e 94 = sp_impl_hull := rfl
def h_impl_Hull_e : List (Nat × HSpec) := []
theorem hok_impl_Hull_e : HOK Try.prog h_impl_Hull_e := hok0
theorem c_impl_Hull_e (l : List Pt) (hc : ¬ (okPs l = true ∧ 0 < l.length)) : ICallF Try.prog 36 [.sl 2 (encPs l)] (.sl 2 []) := by
  have h := c_impl_Hull l
  rw [hull_none hc] at h
  exact icallF_nil h
def sp_impl_Hull_e : PSpec := ⟨fun xs => match xs with | [.sl 2 les] => isPs les ∧ ((fun (l : List Pt) => ¬ (okPs l = true ∧ 0 < l.length)) (toPs les)) | _ => False, fun xs => match xs with | [.sl _ les] => (fun (l : List Pt) => .sl 2 []) (toPs les) | _ => .junk, true⟩
theorem gk_impl_Hull_e : ∀ args, sp_impl_Hull_e.pre args → ICallF Try.prog 36 args (sp_impl_Hull_e.val args) ∧ ∀ id, (sp_impl_Hull_e.val args).ment id = false := by
  intro args h
  unfold sp_impl_Hull_e at h ⊢; simp only at h ⊢; split at h
  · obtain ⟨h0, h1⟩ := h
    obtain ⟨l0, rfl⟩ := isP_ex h0
    simp only [toPs_enc] at *
    exact ⟨c_impl_Hull_e _ h1, fun id => rfl⟩
  · exact h.elim
theorem en_impl_Hull_e : Enters Try.prog 36 := enters_of Try.func36 (by kernel_rfl) rfl


def g_laws_markPointS_n : List (Nat × PSpec) := []
theorem gok_laws_markPointS_n : GOK Try.prog g_laws_markPointS_n := gok0
def h_laws_markPointS_n : List (Nat × HSpec) := []
theorem hok_laws_markPointS_n : HOK Try.prog h_laws_markPointS_n := hok0
theorem c_laws_markPointS_n (k : Int)  : HCall Try.prog 28 [.sl 2 [], .num .i64 k] (sm ([])) (.num .i64 k) (sm ([])) := by
  refine hcall_V (G := g_laws_markPointS_n) (H := []) [] tabOK mixed gok_laws_markPointS_n hok_laws_markPointS_n Try.func28 rfl Try.ntmps28 Try.results28 rfl (by kernel_rfl) fun F hN hlen => ?_
  simp only [sm]
  have d1 : decide (((0 : Nat) : Int) < ((0 : Nat) : Int)) = false := rfl
  simp only [V_seq, V_block, V_region, W_nil, W_cons, effOp2, KN_seq, effOp, effPure, pureV, ofC, strip, ISt.app, opI, gO, gB, allB, gval, wrapG, dstOK, setD, enumT, Op.operands, Nat.reduceLT, Nat.zero_add, true_and, and_self, implies_true, List.nil_append, List.cons_append, List.append_nil, hN]
  refine V_loop (α := Nat) ⟨tabOK, mixed, gok_laws_markPointS_n, hok_laws_markPointS_n⟩ (by kernel_rfl) (fun i => i = 0) (fun i => ⟨[(5, .num .i64 i), (0, .sl 2 []), (1, .num .i64 k)], []⟩) (fun i => 0) 0 id rfl (by simp [SLe, SLe0, convTm, convHp, conv, conv0, lkT, lkH, clean]) ?_
  rintro i rfl
  simp only [V_seq, V_ret, V_exit, V_region, V_cond, brW_false, W_nil, W_cons, effOp2, KN_seq, KXr_nil, KXe_nil, KXe_seq, KXe_block, KXe_back, QE, asB, effOp, effPure, pureV, binV, lenV, strip, lkT, lkH, ISt.app, opI, gO, gB, allB, gval, wrapG, dstOK, setD, clean, conv, conv0, Op.operands, Call.operands, List.append_toArray, reduceIte, reduceCtorEq, Nat.reduceLT, Nat.reduceEqDiff, ne_eq, not_false_eq_true, true_and, and_self, implies_true, List.map_nil, List.nil_append, List.cons_append, List.append_nil, List.length_nil, tab23, hN, FinH, resA, resV, SLe, SLe0, convTm, convHp, d1]
  exact ⟨id, List.nodup_nil, fun _ _ _ => rfl⟩
def hs_laws_markPointS_n : HSpec := ⟨[false, false], fun xs hp => match xs, hp with | [.sl 2 [], .num .i64 k], [] => True | _, _ => False, fun xs hp => match xs, hp with | [.sl 2 [], .num .i64 k], [] => (fun (k : Int) => (.num .i64 k : IV)) k | _, _ => .junk, fun xs hp => match xs, hp with | [.sl 2 [], .num .i64 k], [] => (fun (k : Int) => ([] : List (Nat × IBlk))) k | _, _ => []⟩
theorem hk_laws_markPointS_n : ∀ args hp, hs_laws_markPointS_n.pre args hp → HCall Try.prog 28 args (sm hp) (hs_laws_markPointS_n.val args hp) (sm (hs_laws_markPointS_n.hval args hp)) := by
  intro args hp h
  unfold hs_laws_markPointS_n at h ⊢; simp only at h ⊢; split at h
  · exact c_laws_markPointS_n _
  · exact h.elim
theorem en_laws_markPointS_n : Enters Try.prog 28 := enters_of Try.func28 (by kernel_rfl) rfl

def hs_laws_markPointS_or : HSpec := hs_or hs_laws_markPointS_n hs_laws_markPointS sel_sl
theorem hk_laws_markPointS_or : ∀ args hp, hs_laws_markPointS_or.pre args hp → HCall Try.prog 28 args (sm hp) (hs_laws_markPointS_or.val args hp) (sm (hs_laws_markPointS_or.hval args hp)) := hk_or hk_laws_markPointS_n hk_laws_markPointS
theorem en_laws_markPointS_or : Enters Try.prog 28 := en_laws_markPointS

def g_e_exhull_a : List (Nat × PSpec) := [(24, sp_laws_szPointS), (36, sp_impl_Hull_e), (27, sp_laws_eqPointS)]
theorem gok_e_exhull_a : GOK Try.prog g_e_exhull_a := gok_cons gk_laws_szPointS en_laws_szPointS (gok_consO gk_impl_Hull_e en_impl_Hull_e (gok_cons gk_laws_eqPointS en_laws_eqPointS (gok0)))
theorem lk_e_exhull_a_laws_szPointS : lkG g_e_exhull_a 24 = sp_laws_szPointS := rfl
theorem lk_e_exhull_a_impl_Hull_e : lkG g_e_exhull_a 36 = sp_impl_Hull_e := rfl
theorem lk_e_exhull_a_laws_eqPointS : lkG g_e_exhull_a 27 = sp_laws_eqPointS := rfl
def h_e_exhull_a : List (Nat × HSpec) := [(25, hs_laws_toPointS), (28, hs_laws_markPointS_or)]
theorem hok_e_exhull_a : HOK Try.prog h_e_exhull_a := hok_cons hk_laws_toPointS en_laws_toPointS (hok_cons hk_laws_markPointS_or en_laws_markPointS_or (hok0))
theorem lh_e_exhull_a_laws_szPointS : lkHS h_e_exhull_a 24 = none := rfl
theorem lh_e_exhull_a_impl_Hull_e : lkHS h_e_exhull_a 36 = none := rfl
theorem lh_e_exhull_a_laws_eqPointS : lkHS h_e_exhull_a 27 = none := rfl
theorem lh_e_exhull_a_laws_toPointS : lkHS h_e_exhull_a 25 = some hs_laws_toPointS := rfl
theorem lh_e_exhull_a_laws_markPointS_or : lkHS h_e_exhull_a 28 = some hs_laws_markPointS_or := rfl
def g_e_exhull_b : List (Nat × PSpec) := [(24, sp_laws_szPointS), (27, sp_laws_eqPointS)]
theorem gok_e_exhull_b : GOK Try.prog g_e_exhull_b := gok_cons gk_laws_szPointS en_laws_szPointS (gok_cons gk_laws_eqPointS en_laws_eqPointS (gok0))
theorem lk_e_exhull_b_laws_szPointS : lkG g_e_exhull_b 24 = sp_laws_szPointS := rfl
theorem lk_e_exhull_b_laws_eqPointS : lkG g_e_exhull_b 27 = sp_laws_eqPointS := rfl
def h_e_exhull_b : List (Nat × HSpec) := [(25, hs_laws_toPointS), (36, hs_impl_Hull_h), (28, hs_laws_markPointS)]
theorem hok_e_exhull_b : HOK Try.prog h_e_exhull_b := hok_cons hk_laws_toPointS en_laws_toPointS (hok_cons hk_impl_Hull_h en_impl_Hull_h (hok_cons hk_laws_markPointS en_laws_markPointS (hok0)))
theorem lh_e_exhull_b_laws_szPointS : lkHS h_e_exhull_b 24 = none := rfl
theorem lh_e_exhull_b_laws_eqPointS : lkHS h_e_exhull_b 27 = none := rfl
theorem lh_e_exhull_b_laws_toPointS : lkHS h_e_exhull_b 25 = some hs_laws_toPointS := rfl
theorem lh_e_exhull_b_impl_Hull_h : lkHS h_e_exhull_b 36 = some hs_impl_Hull_h := rfl
theorem lh_e_exhull_b_laws_markPointS : lkHS h_e_exhull_b 28 = some hs_laws_markPointS := rfl

end Go.Proofs.Ytlifmigihfancaa
