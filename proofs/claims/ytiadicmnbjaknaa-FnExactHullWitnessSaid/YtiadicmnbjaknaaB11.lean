/- Contracts: hulls. -/
import Derived.Test.YtiadicmnbjaknaaB10
import Derived.Test.YtiadicmnbjaknaaCc
import Derived.Test.YtiadicmnbjaknaaBU
set_option linter.unusedVariables false
set_option linter.unusedSimpArgs false
namespace Go.Proofs.Ytiadicmnbjaknaa
open Go Go.Ideal Go.Pl Go.Sort

def g_slices_Concat_impl_Point_impl_Point_two : List (Nat × PSpec) := []
theorem gok_slices_Concat_impl_Point_impl_Point_two : GOK Try.prog g_slices_Concat_impl_Point_impl_Point_two := gok0
def h_slices_Concat_impl_Point_impl_Point_two : List (Nat × HSpec) := [(49, hs_slices_Grow_impl_Point_impl_Point)]
theorem hok_slices_Concat_impl_Point_impl_Point_two : HOK Try.prog h_slices_Concat_impl_Point_impl_Point_two := hok_cons hk_slices_Grow_impl_Point_impl_Point en_slices_Grow_impl_Point_impl_Point (hok0)
theorem lh_slices_Concat_impl_Point_impl_Point_two_slices_Grow_impl_Point_impl_Point : lkHS h_slices_Concat_impl_Point_impl_Point_two 49 = some hs_slices_Grow_impl_Point_impl_Point := rfl
theorem c_slices_Concat_impl_Point_impl_Point_two (a : List Pt) (b : List Pt) (h0 : 0 < a.length + b.length) (hsz : a.length + b.length ≤ 1000000) : ICallF Try.prog 34 [.sl 1 [.sl 2 (encPs a), .sl 2 (encPs b)]] (.sl 2 (encPs (a ++ b))) := by
  have h := concat_call [a, b] (by simpa [lensL] using h0) (by simpa [lensL] using hsz) (by simp)
  refine icallF_ref (by simpa [encLs] using h) ?_ (noSl_encPs _)
  rw [len_encPs]; simp [lensL]
def sp_slices_Concat_impl_Point_impl_Point_two : PSpec := ⟨fun xs => match xs with | [.sl 1 [.sl 2 aes, .sl 2 bes]] => isPs aes ∧ isPs bes ∧ ((fun (a : List Pt) (b : List Pt) => 0 < a.length + b.length) (toPs aes) (toPs bes)) ∧ ((fun (a : List Pt) (b : List Pt) => a.length + b.length ≤ 1000000) (toPs aes) (toPs bes)) | _ => False, fun xs => match xs with | [.sl 1 [.sl 2 aes, .sl 2 bes]] => (fun (a : List Pt) (b : List Pt) => .sl 2 (encPs (a ++ b))) (toPs aes) (toPs bes) | _ => .junk, true⟩
theorem gk_slices_Concat_impl_Point_impl_Point_two : ∀ args, sp_slices_Concat_impl_Point_impl_Point_two.pre args → ICallF Try.prog 34 args (sp_slices_Concat_impl_Point_impl_Point_two.val args) ∧ ∀ id, (sp_slices_Concat_impl_Point_impl_Point_two.val args).ment id = false := by
  intro args h
  unfold sp_slices_Concat_impl_Point_impl_Point_two at h ⊢; simp only at h ⊢; split at h
  · obtain ⟨h0, h1, h2, h3⟩ := h
    obtain ⟨l0, rfl⟩ := isP_ex h0
    obtain ⟨l1, rfl⟩ := isP_ex h1
    try simp only [toPs_enc] at *
    exact ⟨c_slices_Concat_impl_Point_impl_Point_two _ _ h2 h3, fun id => rfl⟩
  · exact h.elim
theorem en_slices_Concat_impl_Point_impl_Point_two : Enters Try.prog 34 := enters_of Try.func34 (by kernel_rfl) rfl


def g_slices_Clip_impl_Point_impl_Point_sl : List (Nat × PSpec) := []
theorem gok_slices_Clip_impl_Point_impl_Point_sl : GOK Try.prog g_slices_Clip_impl_Point_impl_Point_sl := gok0
def h_slices_Clip_impl_Point_impl_Point_sl : List (Nat × HSpec) := []
theorem hok_slices_Clip_impl_Point_impl_Point_sl : HOK Try.prog h_slices_Clip_impl_Point_impl_Point_sl := hok0
theorem c_slices_Clip_impl_Point_impl_Point_sl (l : List Pt)  : ICall Try.prog 33 [.sl 2 (encPs l)] (.sl 2 (encPs l)) := by
  refine icall_V (G := g_slices_Clip_impl_Point_impl_Point_sl) (H := []) [] tabOK mixed gok_slices_Clip_impl_Point_impl_Point_sl hok_slices_Clip_impl_Point_impl_Point_sl Try.func33 rfl Try.ntmps33 Try.results33 rfl (by kernel_rfl) fun F hN hlen => ?_
  simp only [V_seq, V_ret, V_region, W_nil, W_cons, effOp2, KN_seq, KXr_nil, QE, effOp, effPure, pureV, sliceV, lenV, ofC, strip, lkT, lkH, ISt.app, opI, gO, gB, allB, gval, wrapG, dstOK, setD, enumT, Gives, Ideal.Fin, conv, conv0, Op.operands, Call.operands, List.append_toArray, Array.append_empty, Option.toArray_none, Option.toArray_some, reduceIte, reduceCtorEq, Nat.reduceLT, Nat.reduceEqDiff, ne_eq, not_false_eq_true, true_and, and_true, and_self, implies_true, forall_const, List.nil_append, List.cons_append, List.append_nil, Option.map_some, Option.map_none, tab26, tab38, hN, Int.toNat_natCast, len_encPs]
  exact ⟨⟨by omega, by omega⟩, take_encPs l⟩
def sp_slices_Clip_impl_Point_impl_Point_sl : PSpec := ⟨fun xs => match xs with | [.sl 2 les] => isPs les | _ => False, fun xs => match xs with | [.sl _ les] => (fun (l : List Pt) => .sl 2 (encPs l)) (toPs les) | _ => .junk, false⟩
theorem gk_slices_Clip_impl_Point_impl_Point_sl : ∀ args, sp_slices_Clip_impl_Point_impl_Point_sl.pre args → ICall Try.prog 33 args (sp_slices_Clip_impl_Point_impl_Point_sl.val args) := by
  intro args h
  unfold sp_slices_Clip_impl_Point_impl_Point_sl at h ⊢; simp only at h ⊢; split at h
  · have h0 := h
    obtain ⟨l0, rfl⟩ := isP_ex h0
    try simp only [toPs_enc] at *
    exact c_slices_Clip_impl_Point_impl_Point_sl _ 
  · exact h.elim
theorem en_slices_Clip_impl_Point_impl_Point_sl : Enters Try.prog 33 := enters_of Try.func33 (by kernel_rfl) rfl


theorem popP_ne {st : List Pt} {p : Pt} (h : st ≠ []) : popP st p ≠ [] := by
  induction st with
  | nil => exact absurd rfl h
  | cons b r ih =>
    cases r with
    | nil => simp [popP]
    | cons a r =>
      rw [popP]
      split
      · exact ih (by simp)
      · simp
theorem fold_two : ∀ (l st : List Pt), st ≠ [] → 2 ≤ st.length ∨ l ≠ [] → 2 ≤ (l.foldl stepP st).length
  | [], st, _, h => by simpa using h
  | p :: l, st, h, _ => by
    rw [List.foldl_cons]
    have h1 := List.length_pos_iff.2 (popP_ne (p := p) h)
    exact fold_two l (stepP st p) (by simp [stepP]) (.inl (by simp only [stepP, List.length_cons]; omega))
theorem chainP_two {l : List Pt} (h : 2 ≤ l.length) : 2 ≤ (chainP l).length := by
  match l, h with
  | a :: b :: r, _ =>
    rw [chainP, List.length_reverse, chainR, List.foldl_cons]
    exact fold_two (b :: r) _ (by simp [stepP]) (.inr (by simp))
theorem chainP_pos {l : List Pt} (h : 0 < l.length) : 0 < (chainP l).length := by
  have := chainP_ne (l := l) (by intro e; subst e; simp at h)
  exact List.length_pos_iff.2 this
theorem SmL.ins {l : List Pt} (h : SmL l) : SmL (insP l) := fun p hp => h p (mem_insP.1 hp)
theorem SmL.rev {l : List Pt} (h : SmL l) : SmL l.reverse := fun p hp => h p (List.mem_reverse.1 hp)
theorem highP_len (l : List Pt) : (highP l).length ≤ l.length := by have := chainP_len l.reverse; simpa [highP] using this

def g_impl_half_v : List (Nat × PSpec) := [(48, sp_impl_turn)]
theorem gok_impl_half_v : GOK Try.prog g_impl_half_v := gok_cons gk_impl_turn en_impl_turn (gok0)
theorem lk_impl_half_v_impl_turn : lkG g_impl_half_v 48 = sp_impl_turn := rfl
def h_impl_half_v : List (Nat × HSpec) := []
theorem hok_impl_half_v : HOK Try.prog h_impl_half_v := hok0
theorem c_impl_half_v (l : List Pt) (hm : SmL l) (hsz : l.length ≤ 1000000) : ICallF Try.prog 31 [.sl 2 (encPs l)] (.sl 2 (encPs (chainP l))) := by
  exact icallF_ref (c_impl_half l hm hsz) (len_encPs _).symm (noSl_encPs _)
def sp_impl_half_v : PSpec := ⟨fun xs => match xs with | [.sl 2 les] => isPs les ∧ ((fun (l : List Pt) => SmL l) (toPs les)) ∧ ((fun (l : List Pt) => l.length ≤ 1000000) (toPs les)) | _ => False, fun xs => match xs with | [.sl _ les] => (fun (l : List Pt) => .sl 2 (encPs (chainP l))) (toPs les) | _ => .junk, true⟩
theorem gk_impl_half_v : ∀ args, sp_impl_half_v.pre args → ICallF Try.prog 31 args (sp_impl_half_v.val args) ∧ ∀ id, (sp_impl_half_v.val args).ment id = false := by
  intro args h
  unfold sp_impl_half_v at h ⊢; simp only at h ⊢; split at h
  · obtain ⟨h0, h1, h2⟩ := h
    obtain ⟨l0, rfl⟩ := isP_ex h0
    try simp only [toPs_enc] at *
    exact ⟨c_impl_half_v _ h1 h2, fun id => rfl⟩
  · exact h.elim
theorem en_impl_half_v : Enters Try.prog 31 := enters_of Try.func31 (by kernel_rfl) rfl


def g_impl_hull : List (Nat × PSpec) := [(31, sp_impl_half_v), (34, sp_slices_Concat_impl_Point_impl_Point_two), (33, sp_slices_Clip_impl_Point_impl_Point_sl)]
theorem gok_impl_hull : GOK Try.prog g_impl_hull := gok_consO gk_impl_half_v en_impl_half_v (gok_consO gk_slices_Concat_impl_Point_impl_Point_two en_slices_Concat_impl_Point_impl_Point_two (gok_cons gk_slices_Clip_impl_Point_impl_Point_sl en_slices_Clip_impl_Point_impl_Point_sl (gok0)))
theorem lk_impl_hull_impl_half_v : lkG g_impl_hull 31 = sp_impl_half_v := rfl
theorem lk_impl_hull_slices_Concat_impl_Point_impl_Point_two : lkG g_impl_hull 34 = sp_slices_Concat_impl_Point_impl_Point_two := rfl
theorem lk_impl_hull_slices_Clip_impl_Point_impl_Point_sl : lkG g_impl_hull 33 = sp_slices_Clip_impl_Point_impl_Point_sl := rfl
def h_impl_hull : List (Nat × HSpec) := [(30, hs_impl_sorted), (32, hs_slices_Reverse_impl_Point_impl_Point)]
theorem hok_impl_hull : HOK Try.prog h_impl_hull := hok_cons hk_impl_sorted en_impl_sorted (hok_cons hk_slices_Reverse_impl_Point_impl_Point en_slices_Reverse_impl_Point_impl_Point (hok0))
theorem lh_impl_hull_impl_half_v : lkHS h_impl_hull 31 = none := rfl
theorem lh_impl_hull_slices_Concat_impl_Point_impl_Point_two : lkHS h_impl_hull 34 = none := rfl
theorem lh_impl_hull_slices_Clip_impl_Point_impl_Point_sl : lkHS h_impl_hull 33 = none := rfl
theorem lh_impl_hull_impl_sorted : lkHS h_impl_hull 30 = some hs_impl_sorted := rfl
theorem lh_impl_hull_slices_Reverse_impl_Point_impl_Point : lkHS h_impl_hull 32 = some hs_slices_Reverse_impl_Point_impl_Point := rfl
theorem c_impl_hull (l : List Pt) (hm : SmL l) (hsz : l.length ≤ 400000) : ICall Try.prog 18 [.sl 2 (encPs l)] (.sl 2 (encPs (hullP l))) := by
  refine icall_V (G := g_impl_hull) (H := h_impl_hull) [(7, [(0, 10), (1, 10), (2, 10), (3, 10), (5, 10), (6, 10), (7, 10), (8, 10), (0, 11), (1, 11), (2, 11), (3, 11), (4, 11), (5, 11), (6, 11), (7, 11), (8, 11), (9, 11), (0, 12), (1, 12), (2, 12), (3, 12), (4, 12), (5, 12), (6, 12), (7, 12), (8, 12), (9, 12), (10, 12)])] tabOK mixed gok_impl_hull hok_impl_hull Try.func18 rfl Try.ntmps18 Try.results18 rfl (by kernel_rfl) fun F hN hlen => ?_
  cases hne : l.isEmpty with
  | true =>
    obtain rfl := List.isEmpty_iff.1 hne
    simp only [V_seq, V_region, V_cond, W_nil, W_cons, effOp2, KN_seq, asB, effOp, effPure, skipE, pureV, binV, lenV, ofC, strip, lkT, lkH, ISt.app, opI, gO, gB, allB, gval, wrapG, dstOK, setD, lendV, lendP, lent, lentP, idsV, idsL, callArgs, callFn, enumT, conv, conv0, Op.operands, Call.operands, List.append_toArray, reduceIte, reduceCtorEq, cond_true, cond_false, Bool.not_false, Nat.reduceAdd, Nat.reduceMul, Nat.reduceLT, Nat.reduceLeDiff, Nat.reduceEqDiff, ne_eq, not_false_eq_true, true_and, and_true, and_self, implies_true, List.map_cons, List.map_nil, List.nil_append, List.cons_append, List.append_nil, List.all_nil, List.length_nil, ex_clo, Bool.false_eq_true, tab26, hN, isPs_enc, toPs_enc, SLe0, convTm, convHp, sm, effH, mkHC0, mkHC1, lendM, lentM, lentI, allHere, addIds, flatIds, reach, posn, renV, renL, renH, numB, subHp, fwd, bwd, nones, keyOK, noSl, flatBs, List.contains, List.elem, List.isEmpty_nil, List.nodup_nil, or_false, Option.getD_some, lh_impl_hull_impl_sorted, hs_impl_sorted, cond_true]
    refine brW_some (fun h => ?_) (fun h => ?_)
    · simp only [V_seq, V_ret, V_region, W_nil, W_cons, effOp2, KN_seq, KXr_nil, KXr_seq, QE, effOp, effPure, pureV, strip, lkT, lkH, ISt.app, opI, gO, gB, allB, gval, wrapG, dstOK, setD, Gives, Ideal.Fin, conv, conv0, Op.operands, reduceIte, reduceCtorEq, Nat.reduceLT, Nat.reduceEqDiff, true_and, and_self, implies_true, List.nil_append, List.cons_append, List.append_nil, hN]
      rfl
    · simp at h
  | false =>
    have hmi : SmL (insP l) := SmL.ins hm
    have hmr : SmL (insP l).reverse := SmL.rev hmi
    have hle := insP_len l
    have hli : (insP l).length ≤ 1000000 := by omega
    have e1 := len_encPs (insP l)
    have hx : ∃ k ty es, IBlk.arr 2 38 (encPs (insP l)) = IBlk.arr k ty es := ⟨_, _, _, rfl⟩
    have hsz2 : l.length ≤ 1000000 := by omega
    simp only [V_seq, V_region, V_cond, W_nil, W_cons, effOp2, KN_seq, asB, effOp, effPure, Option.isSome_some, skipE, pureV, binV, lenV, ofC, strip, lkT, lkH, ISt.app, opI, gO, gB, allB, gval, wrapG, dstOK, setD, mentTm, mentHp, IV.ment, lendV, lendP, lent, lentP, idsV, idsL, callArgs, callFn, enumT, conv, conv0, IBlk.shape, Op.operands, Call.operands, List.append_toArray, reduceIte, reduceCtorEq, cond_true, cond_false, Bool.or_false, Bool.and_true, Bool.not_false, Nat.reduceAdd, Nat.reduceSub, Nat.reduceMul, Nat.reduceLT, Nat.reduceLeDiff, Nat.reduceEqDiff, Nat.add_zero, ne_eq, not_false_eq_true, true_and, and_false, and_self, false_implies, implies_true, List.map_cons, List.map_nil, List.nil_append, List.cons_append, List.append_nil, List.all_nil, Option.map_none, ex_clo, true_or, Bool.false_eq_true, tab26, hN, isPs_enc, toPs_enc, SLe0, convTm, convHp, convB, sm, effH, mkHC0, mkHC1, lendM, lentM, lentI, allHere, addIds, flatIds, reach, posn, renV, renL, renB, renH, numB, subHp, fwd, bk, bwd, nones, keyOK, noSl, flatBs, List.contains, List.elem, Option.isSome_some, List.nodup_nil, List.nodup_cons, List.not_mem_nil, Option.getD_some, lh_impl_hull_impl_sorted, hs_impl_sorted, hne, cond_false, hsz2, e1, take_encPs]
    refine brW_some (fun h => ?_) (fun h => ?_)
    · have h2 : (insP l).length < 2 := by simp at h; omega
      simp only [V_seq, V_ret, V_region, W_nil, W_cons, effOp2, KN_seq, KXr_nil, KXr_seq, QE, effOp, effPure, pureV, strip, lkT, lkH, ISt.app, opI, gO, gB, allB, gval, wrapG, dstOK, setD, Gives, Ideal.Fin, conv, conv0, Op.operands, reduceIte, reduceCtorEq, Nat.reduceLT, Nat.reduceEqDiff, Nat.zero_add, ne_eq, true_and, and_true, and_self, false_implies, implies_true, List.nil_append, List.cons_append, Option.some.injEq, List.drop_zero, Bool.false_eq_true, hN, Option.isSome_none]
      refine ⟨_, _, rfl, by rw [e1]; exact Nat.le_refl _, ?_⟩
      rw [take_encPs, hullP, hullA, if_pos h2]
    · have h2 : ¬ (insP l).length < 2 := by simp at h; omega
      have e2 := len_encPs (chainP (insP l))
      have e3 := len_encPs (chainP (insP l).reverse)
      have e4 := len_encPs (insP l).reverse
      have e5 : (insP l).reverse.length = (insP l).length := List.length_reverse
      have hp1 := chainP_pos (l := insP l) (by omega)
      have hp2 := chainP_pos (l := (insP l).reverse) (by omega)
      have hl1 := chainP_len (insP l)
      have hl2 := chainP_len (insP l).reverse
      have w1 : IntKind.i64.wrap (((chainP (insP l)).length : Int) - 1) = (((chainP (insP l)).length - 1 : Nat) : Int) := by rw [wr (by omega) (by omega)]; omega
      have w2 : IntKind.i64.wrap (((chainP (insP l).reverse).length : Int) - 1) = (((chainP (insP l).reverse).length - 1 : Nat) : Int) := by rw [wr (by omega) (by omega)]; omega
      have tr : (encPs (insP l).reverse).take (insP l).length = encPs (insP l).reverse := List.take_of_length_le (by rw [e4, e5]; exact Nat.le_refl _)
      simp only [V_seq, V_skip, V_ret, V_region, V_draw, drawW, WS_nil, pairsOf, W_nil, W_cons, effOp2, effOp3, WI_nil, WI_cons, KN_seq, KXr_nil, QE, dynOK, indB, farB, seeB, see, isStore, freshB, freshK, freshK1, ownId, heapy, effOp, effPure, effNew, effBuildSlice, effFrz, frz, tmpsOf, effCall, giveUp, hasAll, Option.isSome_some, skipE, pureV, binV, sliceV, lenV, ofC, strip, lkT, lkH, ISt.app, opI, gO, gB, allB, gval, wrapG, dstOK, setD, mentTm, mentHp, IV.ment, IV.mentL, partsL, eltsI, eltI, noId', lendV, lendP, lent, lentP, idsV, idsL, flat, clean, callArgs, callFn, allLent, enumT, Gives, Ideal.Fin, conv, conv0, convL, IBlk.shape, Op.operands, Call.operands, List.append_toArray, Array.append_empty, Option.toArray_none, Option.toArray_some, reduceIte, reduceCtorEq, cond_true, cond_false, Bool.or_false, Bool.or_true, Bool.and_true, Bool.and_false, Bool.and_eq_true, Bool.not_true, Bool.not_false, Nat.reduceAdd, Nat.reduceSub, Nat.reduceMul, Nat.reduceLT, Nat.reduceLeDiff, Nat.reduceEqDiff, Nat.reduceBEq, Nat.zero_add, ne_eq, not_false_eq_true, beq_self_eq_true, true_and, and_true, and_false, and_self, false_implies, implies_true, forall_const, List.map_cons, List.map_nil, List.nil_append, List.cons_append, List.append_nil, List.all_nil, Option.map_some, Option.map_none, List.getD_cons_zero, List.getD_cons_succ, List.length_cons, List.length_nil, List.take_succ_cons, List.take_zero, List.take_nil, List.drop_zero, ex_clo, or_true, or_self, Bool.true_eq_false, Bool.false_eq_true, tab26, tab38, tab61, hN, Int.toNat_natCast, isPs_enc, toPs_enc, SLe0, convTm, convHp, convB, sm, effH, mkHC0, mkHC1, lendM, lentM, lentI, allHere, addIds, idsB, flatIds, reach, posn, renV, renL, renB, renH, numB, subHp, fwd, bk, bwd, nones, keyOK, noSl, noSlL, flatBs, List.contains, List.elem, Option.isSome_some, List.nodup_nil, List.nodup_cons, List.not_mem_nil, Option.getD_some, lk_impl_hull_impl_half_v, lk_impl_hull_slices_Concat_impl_Point_impl_Point_two, lk_impl_hull_slices_Clip_impl_Point_impl_Point_sl, sp_impl_half_v, sp_slices_Concat_impl_Point_impl_Point_two, sp_slices_Clip_impl_Point_impl_Point_sl, lh_impl_hull_impl_half_v, lh_impl_hull_slices_Concat_impl_Point_impl_Point_two, lh_impl_hull_slices_Clip_impl_Point_impl_Point_sl, lh_impl_hull_slices_Reverse_impl_Point_impl_Point, hs_slices_Reverse_impl_Point_impl_Point, hmi, hmr, hli, e1, e2, e3, e4, e5, tr, encPs_take, List.take_length, w1, w2, noSl_encPs, Nat.le_refl]
      have c1 := chainP_two (l := insP l) (by omega)
      have c2 := chainP_two (l := (insP l).reverse) (by omega)
      refine ⟨⟨by omega, by omega⟩, ⟨by omega, by omega⟩, ⟨by simp only [List.length_take]; omega, by simp only [List.length_take]; omega⟩, ?_⟩
      rw [hullP, hullA, if_neg h2, List.dropLast_eq_take, List.dropLast_eq_take]
      rfl
def sp_impl_hull : PSpec := ⟨fun xs => match xs with | [.sl 2 les] => isPs les ∧ ((fun (l : List Pt) => SmL l) (toPs les)) ∧ ((fun (l : List Pt) => l.length ≤ 400000) (toPs les)) | _ => False, fun xs => match xs with | [.sl _ les] => (fun (l : List Pt) => .sl 2 (encPs (hullP l))) (toPs les) | _ => .junk, false⟩
theorem gk_impl_hull : ∀ args, sp_impl_hull.pre args → ICall Try.prog 18 args (sp_impl_hull.val args) := by
  intro args h
  unfold sp_impl_hull at h ⊢; simp only at h ⊢; split at h
  · obtain ⟨h0, h1, h2⟩ := h
    obtain ⟨l0, rfl⟩ := isP_ex h0
    try simp only [toPs_enc] at *
    exact c_impl_hull _ h1 h2
  · exact h.elim
theorem en_impl_hull : Enters Try.prog 18 := enters_of Try.func18 (by kernel_rfl) rfl



theorem hullA_two {l : List Pt} (h : l.length = 2) : hullA l = l := by
  match l, h with
  | [a, b], _ => rfl

def g_spec_hull : List (Nat × PSpec) := [(25, sp_spec_sorted), (27, sp_spec_reversed)]
theorem gok_spec_hull : GOK Try.prog g_spec_hull := gok_cons gk_spec_sorted en_spec_sorted (gok_cons gk_spec_reversed en_spec_reversed (gok0))
theorem lk_spec_hull_spec_sorted : lkG g_spec_hull 25 = sp_spec_sorted := rfl
theorem lk_spec_hull_spec_reversed : lkG g_spec_hull 27 = sp_spec_reversed := rfl
def h_spec_hull : List (Nat × HSpec) := [(26, hs_spec_chain)]
theorem hok_spec_hull : HOK Try.prog h_spec_hull := hok_cons hk_spec_chain en_spec_chain (hok0)
theorem lh_spec_hull_spec_sorted : lkHS h_spec_hull 25 = none := rfl
theorem lh_spec_hull_spec_reversed : lkHS h_spec_hull 27 = none := rfl
theorem lh_spec_hull_spec_chain : lkHS h_spec_hull 26 = some hs_spec_chain := rfl
theorem c_spec_hull (l : List Pt) (hm : SmL l) (hsz : l.length ≤ 1000) : ICall Try.prog 14 [.sl 2 (encPs l)] (.sl 2 (encPs (hullP l))) := by
  refine icall_V (G := g_spec_hull) (H := h_spec_hull) [(6, [(0, 10), (1, 10), (2, 10), (3, 10), (5, 10), (6, 10), (7, 10), (8, 10)])] tabOK mixed gok_spec_hull hok_spec_hull Try.func14 rfl Try.ntmps14 Try.results14 rfl (by kernel_rfl) fun F hN hlen => ?_
  have hmi : SmL (insP l) := SmL.ins hm
  have hmr : SmL (insP l).reverse := SmL.rev hmi
  have hle := insP_len l
  have hli : (insP l).length ≤ 1000000 := by omega
  have e1 := len_encPs (insP l)
  simp only [V_seq, V_region, V_cond, W_nil, W_cons, effOp2, KN_seq, asB, effOp, effPure, effCall, giveUp, hasAll, pureV, binV, lenV, ofC, strip, lkT, lkH, ISt.app, opI, gO, gB, allB, gval, wrapG, dstOK, setD, lendV, lendP, lent, lentP, idsV, idsL, flat, clean, callArgs, callFn, allLent, enumT, Op.operands, Call.operands, List.append_toArray, reduceIte, reduceCtorEq, cond_false, Bool.or_false, Bool.not_true, Nat.reduceLT, Nat.reduceEqDiff, ne_eq, not_false_eq_true, true_and, and_self, implies_true, List.map_cons, List.map_nil, List.nil_append, List.cons_append, List.append_nil, ex_clo, or_true, Bool.false_eq_true, tab26, hN, isPs_enc, toPs_enc, lk_spec_hull_spec_sorted, sp_spec_sorted, lh_spec_hull_spec_sorted, hsz, e1]
  refine brW_some (fun h => ?_) (fun h => ?_)
  · have h2 : (insP l).length < 3 := by simp at h; omega
    simp only [V_seq, V_ret, V_region, W_nil, W_cons, effOp2, KN_seq, KXr_nil, KXr_seq, QE, effOp, effPure, pureV, strip, lkT, lkH, ISt.app, opI, gO, gB, allB, gval, wrapG, dstOK, setD, Gives, Ideal.Fin, conv, conv0, Op.operands, reduceIte, reduceCtorEq, Nat.reduceLT, Nat.reduceEqDiff, true_and, and_self, implies_true, List.nil_append, List.cons_append, List.append_nil, hN]
    by_cases h3 : (insP l).length = 2
    · rw [hullP, hullA_two h3]
    · rw [hullP, hullA, if_pos (by omega)]
  · have h2 : ¬ (insP l).length < 3 := by simp at h; omega
    have e2 := len_encPs (chainP (insP l))
    have e3 := len_encPs (chainP (insP l).reverse)
    have e4 := len_encPs (insP l).reverse
    have e5 : (insP l).reverse.length = (insP l).length := List.length_reverse
    have hp1 := chainP_pos (l := insP l) (by omega)
    have hp2 := chainP_pos (l := (insP l).reverse) (by omega)
    have hl1 := chainP_len (insP l)
    have hl2 := chainP_len (insP l).reverse
    have w1 : IntKind.i64.wrap (((chainP (insP l)).length : Int) - 1) = (((chainP (insP l)).length - 1 : Nat) : Int) := by rw [wr (by omega) (by omega)]; omega
    have w2 : IntKind.i64.wrap (((chainP (insP l).reverse).length : Int) - 1) = (((chainP (insP l).reverse).length - 1 : Nat) : Int) := by rw [wr (by omega) (by omega)]; omega
    simp only [V_seq, V_skip, V_ret, V_region, V_draw, drawW, WS_nil, pairsOf, W_nil, W_cons, effOp2, effOp3, WI_nil, WI_cons, KN_seq, KXr_nil, QE, dynOK, indB, farB, seeB, see, isStore, freshB, freshK, freshK1, heapy, effOp, effPure, effAppend, effZeros, effCall, giveUp, hasAll, Option.isSome_some, skipE, pureV, srcV, refId, binV, sliceV, lenV, ofC, strip, lkT, lkH, ISt.app, opI, gO, gB, allB, gval, wrapG, dstOK, setD, mentTm, mentHp, IV.ment, IV.mentL, lendV, lendP, lent, lentP, idsV, idsL, flat, clean, callArgs, callFn, allLent, enumT, Gives, Ideal.Fin, conv, conv0, IBlk.shape, Op.operands, Call.operands, List.append_toArray, Array.append_empty, Option.toArray_none, Option.toArray_some, reduceIte, reduceCtorEq, cond_true, cond_false, Bool.or_false, Bool.or_true, Bool.and_true, Bool.and_false, Bool.and_eq_true, Bool.not_true, Bool.not_false, Nat.reduceAdd, Nat.reduceSub, Nat.reduceMul, Nat.reduceLT, Nat.reduceLeDiff, Nat.reduceEqDiff, Nat.reduceBEq, Nat.add_zero, Nat.zero_add, ne_eq, not_false_eq_true, beq_self_eq_true, true_and, and_true, and_false, and_self, false_implies, implies_true, forall_const, List.map_cons, List.map_nil, List.nil_append, List.cons_append, List.append_nil, List.all_nil, Option.some.injEq, Option.map_some, Option.map_none, List.getD_cons_zero, List.getD_cons_succ, List.take_zero, List.drop_zero, ex_clo, or_true, or_self, Bool.false_eq_true, tab26, tab38, hN, Int.toNat_natCast, isPs_enc, toPs_enc, SLe0, convTm, convHp, convB, sm, effH, mkHC0, mkHC1, lendM, lentM, lentI, allHere, addIds, flatIds, reach, posn, renV, renL, renB, renH, numB, subHp, fwd, bk, bwd, nones, keyOK, noSl, flatBs, List.contains, List.elem, Option.isSome_some, Option.isSome_none, List.nodup_nil, List.nodup_cons, List.not_mem_nil, Option.getD_some, lk_spec_hull_spec_reversed, sp_spec_reversed, lh_spec_hull_spec_reversed, lh_spec_hull_spec_chain, hs_spec_chain, hmi, hmr, hli, e2, e3, e5, List.take_length, encPs_take, w1, w2, noSl_encPs]
    have c1 := chainP_two (l := insP l) (by omega)
    have c2 := chainP_two (l := (insP l).reverse) (by omega)
    have e6 : (encPs (List.take ((chainP (insP l).reverse).length - 1) (chainP (insP l).reverse))).length = (chainP (insP l).reverse).length - 1 := by rw [len_encPs, List.length_take]; omega
    have e7 : (encPs (List.take ((chainP (insP l)).length - 1) (chainP (insP l)))).length = (chainP (insP l)).length - 1 := by rw [len_encPs, List.length_take]; omega
    have hv : encPs (hullP l) = encPs (List.take ((chainP (insP l)).length - 1) (chainP (insP l))) ++ encPs (List.take ((chainP (insP l).reverse).length - 1) (chainP (insP l).reverse)) := by
      rw [hullP, hullA, if_neg (by omega), List.dropLast_eq_take, List.dropLast_eq_take, ← encPs_app]
      rfl
    refine ⟨⟨by omega, by omega⟩, ⟨by omega, by omega⟩, ⟨by omega, by omega, by omega⟩, _, _, rfl, ?_, ?_⟩
    · rw [List.length_append, e6, e7]; exact Nat.le_refl _
    · exact hv.trans (List.take_of_length_le (by rw [List.length_append, e6, e7]; exact Nat.le_refl _)).symm
def sp_spec_hull : PSpec := ⟨fun xs => match xs with | [.sl 2 les] => isPs les ∧ ((fun (l : List Pt) => SmL l) (toPs les)) ∧ ((fun (l : List Pt) => l.length ≤ 1000) (toPs les)) | _ => False, fun xs => match xs with | [.sl _ les] => (fun (l : List Pt) => .sl 2 (encPs (hullP l))) (toPs les) | _ => .junk, false⟩
theorem gk_spec_hull : ∀ args, sp_spec_hull.pre args → ICall Try.prog 14 args (sp_spec_hull.val args) := by
  intro args h
  unfold sp_spec_hull at h ⊢; simp only at h ⊢; split at h
  · obtain ⟨h0, h1, h2⟩ := h
    obtain ⟨l0, rfl⟩ := isP_ex h0
    try simp only [toPs_enc] at *
    exact c_spec_hull _ h1 h2
  · exact h.elim
theorem en_spec_hull : Enters Try.prog 14 := enters_of Try.func14 (by kernel_rfl) rfl



end Go.Proofs.Ytiadicmnbjaknaa
