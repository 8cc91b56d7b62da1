/- Contracts: lists of points: valid, equal, in order. -/
import Derived.Test.YtiadicmnbjaknaaB1
set_option linter.unusedVariables false
set_option linter.unusedSimpArgs false
namespace Go.Proofs.Ytiadicmnbjaknaa
open Go Go.Ideal Go.Pl

def okPs (l : List Pt) : Bool := l.all okP && decide (l.length ≤ 20)
theorem all_step {α : Type} {p : α → Bool} {d : α} {l : List α} {i : Nat} (hi : i < l.length) : (l.drop i).all p = (p (l.getD i d) && (l.drop (i + 1)).all p) := by
  rw [List.drop_eq_getElem_cons hi, List.all_cons]
  simp [List.getD, hi]
theorem any_step {α : Type} {p : α → Bool} {d : α} {l : List α} {i : Nat} (hi : i < l.length) : (l.drop i).any p = (p (l.getD i d) || (l.drop (i + 1)).any p) := by
  rw [List.drop_eq_getElem_cons hi, List.any_cons]
  simp [List.getD, hi]
/-- The first place at which p holds, or -1. -/
def idxF {α : Type} (p : α → Bool) : List α → Nat → Int
  | [], _ => -1
  | x :: l, i => if p x then i else idxF p l (i + 1)
theorem idxF_step {α : Type} {p : α → Bool} {d : α} {l : List α} {i : Nat} (hi : i < l.length) : idxF p (l.drop i) i = if p (l.getD i d) then (i : Int) else idxF p (l.drop (i + 1)) (i + 1) := by
  rw [List.drop_eq_getElem_cons hi, idxF]
  simp [List.getD, hi]
theorem idxF_sign {α : Type} {p : α → Bool} : ∀ {l : List α} {i : Nat}, decide (0 ≤ idxF p l i) = l.any p
  | [], i => by simp [idxF]
  | x :: l, i => by
    simp only [idxF, List.any_cons]
    by_cases h : p x = true
    · simp [h]
    · simp only [Bool.not_eq_true] at h
      simpa [h] using idxF_sign (l := l) (i := i + 1)

def g_spec_validPoints : List (Nat × PSpec) := [(24, sp_spec_validPoint)]
theorem gok_spec_validPoints : GOK Try.prog g_spec_validPoints := gok_cons gk_spec_validPoint en_spec_validPoint (gok0)
theorem lk_spec_validPoints_spec_validPoint : lkG g_spec_validPoints 24 = sp_spec_validPoint := rfl
def h_spec_validPoints : List (Nat × HSpec) := []
theorem hok_spec_validPoints : HOK Try.prog h_spec_validPoints := hok0
theorem c_spec_validPoints (l : List Pt)  : ICall Try.prog 13 [.sl 2 (encPs l)] (.bool (okPs l)) := by
  refine icall_V (G := g_spec_validPoints) (H := []) [] tabOK mixed gok_spec_validPoints hok_spec_validPoints Try.func13 rfl Try.ntmps13 Try.results13 rfl (by kernel_rfl) fun F hN hlen => ?_
  have hl := hlen 0 2 _ rfl
  have el := len_encPs l
  rw [el] at hl
  simp only [V_seq, V_block, V_region, W_nil, W_cons, effOp2, KN_seq, effOp, effPure, pureV, ofC, strip, ISt.app, opI, gO, gB, allB, gval, wrapG, dstOK, setD, enumT, Op.operands, Nat.reduceLT, true_and, and_self, implies_true, List.nil_append, List.cons_append, List.append_nil, hN]
  refine V_loop (α := Nat) ⟨tabOK, mixed, gok_spec_validPoints.toF F, hok_spec_validPoints⟩ (by kernel_rfl) (fun i => i ≤ l.length ∧ l.all okP = (l.drop i).all okP) (fun i => ⟨[(3, .num .i64 i), (0, .sl 2 (encPs l))], []⟩) (fun i => l.length - i) 0 id (by simp) (by simp [SLe, SLe0, convTm, convHp, conv, conv0, lkT, lkH, clean]) ?_
  rintro i ⟨hi, hj⟩
  simp only [V_seq, V_region, V_cond, W_nil, W_cons, effOp2, KN_seq, asB, effOp, effPure, pureV, binV, lenV, strip, lkT, ISt.app, opI, gO, gB, allB, gval, wrapG, dstOK, setD, Op.operands, Call.operands, List.append_toArray, reduceIte, reduceCtorEq, Nat.reduceLT, Nat.reduceEqDiff, ne_eq, not_false_eq_true, true_and, and_self, implies_true, List.nil_append, List.cons_append, List.append_nil, tab26, hN, el]
  refine brW_some (fun h => ?_) (fun h => ?_)
  · have hi' : i < l.length := by simpa using h
    have g1 := getD_encPs hi'
    have hw := wr_succ hi' hl
    have hst := all_step (p := okP) (d := (0, 0)) hi'
    simp only [V_seq, V_skip, V_block, V_region, V_cond, W_nil, W_cons, effOp2, KN_seq, asB, effOp, effPure, effCall, giveUp, hasAll, pureV, partV, eltV, loadV, iaddrV, strip, lkT, lkH, ISt.app, opI, gO, gB, allB, gval, wrapG, dstOK, setD, lendV, lendP, lent, lentP, idsV, idsL, lkHS, flat, clean, callArgs, callFn, allLent, Op.operands, reduceIte, reduceCtorEq, cond_true, Bool.or_false, Bool.not_true, Nat.reduceAdd, Nat.reduceLT, Nat.reduceLeDiff, Nat.reduceEqDiff, Nat.zero_add, ne_eq, not_false_eq_true, true_and, and_true, and_false, and_self, implies_true, forall_const, List.map_cons, List.map_nil, List.nil_append, List.cons_append, List.append_nil, List.getD_cons_zero, List.length_cons, List.length_nil, List.take_succ_cons, List.take_nil, List.drop_zero, ex_clo, or_self, tab26, tab38, hN, pe, Int.toNat_natCast, lk_spec_validPoints_spec_validPoint, sp_spec_validPoint, el, Int.toNat_natCast, g1]
    repeat refine And.intro (by omega) ?_
    refine brW_some (fun h => ?_) (fun h => ?_)
    · simp only [V_seq, V_ret, V_region, W_nil, W_cons, effOp2, KN_seq, KXr_nil, KXr_seq, KXr_block, KXr_back, QE, effOp, effPure, pureV, ofC, strip, lkT, lkH, ISt.app, opI, gO, gB, allB, gval, wrapG, dstOK, setD, clean, Gives, Ideal.Fin, conv, conv0, Op.operands, reduceIte, reduceCtorEq, Nat.reduceLT, Nat.reduceEqDiff, true_and, and_true, and_self, implies_true, List.nil_append, List.cons_append, List.append_nil, hN]
      have hq : okP (pAt l i) = false := by simpa using h
      have : l.all okP = false := by rw [hj, hst, hq]; rfl
      simp only [okPs, this, Bool.false_and]
    · simp only [V_skip, V_region, W_nil, W_cons, effOp2, KN_seq, KN_block, KN_back, effOp, effPure, pureV, binV, ofC, strip, lkT, ISt.app, opI, gO, gB, allB, gval, wrapG, dstOK, setD, Op.operands, reduceIte, reduceCtorEq, Nat.reduceLT, Nat.reduceEqDiff, true_and, and_self, implies_true, List.nil_append, List.cons_append, List.append_nil, hN, hw]
      have hq : okP (pAt l i) = true := by simpa using h
      exact ⟨i + 1, id, ⟨by omega, by rw [hj, hst, hq]; rfl⟩, by simp only []; omega, by simp [SLe, SLe0, convTm, convHp, conv, conv0, lkT, lkH, clean]⟩
  · simp only [V_seq, V_ret, V_exit, V_region, W_nil, W_cons, effOp2, KN_seq, KXr_nil, KXe_nil, KXe_seq, KXe_block, KXe_back, QE, effOp, effPure, pureV, binV, lenV, ofC, strip, lkT, lkH, ISt.app, opI, gO, gB, allB, gval, wrapG, dstOK, setD, clean, Gives, Ideal.Fin, conv, conv0, Op.operands, Call.operands, List.append_toArray, reduceIte, reduceCtorEq, Nat.reduceLT, Nat.reduceEqDiff, ne_eq, not_false_eq_true, true_and, and_true, and_self, implies_true, List.nil_append, List.cons_append, List.append_nil, tab26, hN, el]
    have hie : i = l.length := by simp at h; omega
    subst hie
    have : l.all okP = true := by rw [hj]; simp
    simp only [okPs, this, Bool.true_and]
    simp
    omega
def sp_spec_validPoints : PSpec := ⟨fun xs => match xs with | [.sl 2 les] => isPs les | _ => False, fun xs => match xs with | [.sl _ les] => (fun (l : List Pt) => .bool (okPs l)) (toPs les) | _ => .junk, false⟩
theorem gk_spec_validPoints : ∀ args, sp_spec_validPoints.pre args → ICall Try.prog 13 args (sp_spec_validPoints.val args) := by
  intro args h
  unfold sp_spec_validPoints at h ⊢; simp only at h ⊢; split at h
  · have h0 := h
    obtain ⟨l0, rfl⟩ := isP_ex h0
    try simp only [toPs_enc] at *
    exact c_spec_validPoints _ 
  · exact h.elim
theorem en_spec_validPoints : Enters Try.prog 13 := enters_of Try.func13 (by kernel_rfl) rfl


def g_impl_allValid_1 : List (Nat × PSpec) := [(43, sp_impl_Point_valid)]
theorem gok_impl_allValid_1 : GOK Try.prog g_impl_allValid_1 := gok_cons gk_impl_Point_valid en_impl_Point_valid (gok0)
theorem lk_impl_allValid_1_impl_Point_valid : lkG g_impl_allValid_1 43 = sp_impl_Point_valid := rfl
def h_impl_allValid_1 : List (Nat × HSpec) := []
theorem hok_impl_allValid_1 : HOK Try.prog h_impl_allValid_1 := hok0
theorem c_impl_allValid_1 (p : Pt)  : ICall Try.prog 42 [encP p] (.bool (!okP p)) := by
  refine icall_V (G := g_impl_allValid_1) (H := []) [] tabOK mixed gok_impl_allValid_1 hok_impl_allValid_1 Try.func42 rfl Try.ntmps42 Try.results42 rfl (by kernel_rfl) fun F hN hlen => ?_
  simp only [V_seq, V_ret, V_region, W_nil, W_cons, effOp2, KN_seq, KXr_nil, QE, effOp, effPure, effNew, effBox, effCall, giveUp, hasAll, skipE, pureV, partV, loadV, solid, IV.cells, ofC, strip, lkT, lkH, ISt.app, opI, gO, gB, allB, gval, wrapG, dstOK, setD, mentTm, mentHp, IV.ment, IV.mentL, oneI, lendV, lendP, lent, lentP, idsV, idsL, lkHS, flat, clean, callArgs, callFn, allLent, enumT, Gives, Ideal.Fin, conv, conv0, Op.operands, reduceIte, reduceCtorEq, cond_true, Bool.or_false, Bool.and_true, Bool.not_true, Nat.reduceAdd, Nat.reduceLT, Nat.reduceLeDiff, Nat.reduceEqDiff, Nat.zero_add, and_false, and_self, implies_true, List.map_cons, List.map_nil, List.nil_append, List.cons_append, List.append_nil, List.all_cons, List.all_nil, List.getD_cons_zero, List.length_cons, List.length_nil, List.take_succ_cons, List.take_nil, List.drop_zero, ex_clo, or_self, tab38, hN, pe, encP, lk_impl_allValid_1_impl_Point_valid, sp_impl_Point_valid]
def sp_impl_allValid_1 : PSpec := ⟨fun xs => match xs with | [.agg [.num .i64 p1, .num .i64 p2]] => True | _ => False, fun xs => match xs with | [.agg [.num _ p1, .num _ p2]] => (fun (p : Pt) => .bool (!okP p)) (p1, p2) | _ => .junk, false⟩
theorem gk_impl_allValid_1 : ∀ args, sp_impl_allValid_1.pre args → ICall Try.prog 42 args (sp_impl_allValid_1.val args) := by
  intro args h
  unfold sp_impl_allValid_1 at h ⊢; simp only at h ⊢; split at h
  · exact c_impl_allValid_1 (_, _)
  · exact h.elim
theorem en_impl_allValid_1 : Enters Try.prog 42 := enters_of Try.func42 (by kernel_rfl) rfl

def g_slices_IndexFunc_impl_Point_impl_Point_allValid_1 : List (Nat × PSpec) := [(42, sp_impl_allValid_1)]
theorem gok_slices_IndexFunc_impl_Point_impl_Point_allValid_1 : GOK Try.prog g_slices_IndexFunc_impl_Point_impl_Point_allValid_1 := gok_cons gk_impl_allValid_1 en_impl_allValid_1 (gok0)
theorem lk_slices_IndexFunc_impl_Point_impl_Point_allValid_1_impl_allValid_1 : lkG g_slices_IndexFunc_impl_Point_impl_Point_allValid_1 42 = sp_impl_allValid_1 := rfl
def h_slices_IndexFunc_impl_Point_impl_Point_allValid_1 : List (Nat × HSpec) := []
theorem hok_slices_IndexFunc_impl_Point_impl_Point_allValid_1 : HOK Try.prog h_slices_IndexFunc_impl_Point_impl_Point_allValid_1 := hok0
theorem c_slices_IndexFunc_impl_Point_impl_Point_allValid_1 (l : List Pt)  : ICall Try.prog 54 [.sl 2 (encPs l), .clo 42 []] (.num .i64 (idxF (fun p => !okP p) l 0)) := by
  refine icall_V (G := g_slices_IndexFunc_impl_Point_impl_Point_allValid_1) (H := []) [] tabOK mixed gok_slices_IndexFunc_impl_Point_impl_Point_allValid_1 hok_slices_IndexFunc_impl_Point_impl_Point_allValid_1 Try.func54 rfl Try.ntmps54 Try.results54 rfl (by kernel_rfl) fun F hN hlen => ?_
  have hl := hlen 0 2 _ rfl
  have el := len_encPs l
  rw [el] at hl
  simp only [V_seq, V_block, V_region, W_nil, W_cons, effOp2, KN_seq, effOp, effPure, pureV, lenV, ofC, strip, lkT, ISt.app, opI, gO, gB, allB, gval, wrapG, dstOK, setD, enumT, Op.operands, Call.operands, List.append_toArray, reduceIte, reduceCtorEq, Nat.reduceLT, Nat.reduceEqDiff, Nat.zero_add, ne_eq, not_false_eq_true, true_and, and_self, implies_true, List.nil_append, List.cons_append, List.append_nil, tab26, hN, el]
  refine V_loop (α := Nat) ⟨tabOK, mixed, gok_slices_IndexFunc_impl_Point_impl_Point_allValid_1.toF F, hok_slices_IndexFunc_impl_Point_impl_Point_allValid_1⟩ (by kernel_rfl) (fun i => i ≤ l.length ∧ idxF (fun p => !okP p) l 0 = idxF (fun p => !okP p) (l.drop i) i)
    (fun i => ⟨[(8, .num .i64 i), (7, .num .i64 l.length), (0, .sl 2 (encPs l)), (1, .clo 42 [])], []⟩) (fun i => l.length - i) 0 id (by simp) (by simp [SLe, SLe0, convTm, convHp, conv, conv0, convL, lkT, lkH, clean]) ?_
  rintro i ⟨hi, hj⟩
  simp only [V_seq, V_region, V_cond, W_nil, W_cons, effOp2, KN_seq, asB, effOp, effPure, pureV, binV, strip, lkT, ISt.app, opI, gO, gB, allB, gval, wrapG, dstOK, setD, Op.operands, reduceIte, reduceCtorEq, Nat.reduceLT, Nat.reduceEqDiff, true_and, and_self, implies_true, List.nil_append, List.cons_append, List.append_nil, hN]
  refine brW_some (fun h => ?_) (fun h => ?_)
  · have hi' : i < l.length := by simpa using h
    have g1 := getD_encPs hi'
    have hw := wr_succ hi' hl
    have hst := idxF_step (p := fun p => !okP p) (d := (0, 0)) hi'
    simp only [V_seq, V_skip, V_block, V_region, V_cond, W_nil, W_cons, effOp2, KN_seq, asB, effOp, effPure, effCall, giveUp, hasAll, pureV, partV, eltV, loadV, iaddrV, strip, lkT, lkH, ISt.app, opI, gO, gB, allB, gval, wrapG, dstOK, setD, lendV, lendP, lent, lentP, idsV, idsL, lkHS, flat, clean, callArgs, callFn, allLent, Op.operands, reduceIte, reduceCtorEq, cond_true, Bool.or_false, Bool.not_true, Nat.reduceAdd, Nat.reduceLT, Nat.reduceLeDiff, Nat.reduceEqDiff, Nat.zero_add, ne_eq, not_false_eq_true, true_and, and_true, and_false, and_self, implies_true, forall_const, List.map_cons, List.map_nil, List.nil_append, List.cons_append, List.append_nil, List.getD_cons_zero, List.length_cons, List.length_nil, List.take_succ_cons, List.take_nil, List.drop_zero, ex_clo, or_self, tab26, tab38, hN, pe, Int.toNat_natCast, lk_slices_IndexFunc_impl_Point_impl_Point_allValid_1_impl_allValid_1, sp_impl_allValid_1, el, Int.toNat_natCast, g1]
    
    repeat refine And.intro (by omega) ?_
    refine brW_some (fun h => ?_) (fun h => ?_)
    · simp only [V_seq, V_ret, V_region, W_nil, W_cons, effOp2, KN_seq, KXr_nil, KXr_seq, KXr_block, KXr_back, QE, effOp, effPure, pureV, strip, lkT, lkH, ISt.app, opI, gO, gB, allB, gval, wrapG, dstOK, setD, clean, Gives, Ideal.Fin, conv, conv0, Op.operands, reduceIte, reduceCtorEq, Nat.reduceLT, Nat.reduceEqDiff, true_and, and_true, and_self, implies_true, List.nil_append, List.cons_append, List.append_nil, hN]
      have hq : (fun p => !okP p) (pAt l i) = true := by simpa using h
      rw [hj, hst]
      exact congrArg _ (if_pos hq).symm
    · simp only [V_skip, V_region, W_nil, W_cons, effOp2, KN_seq, KN_block, KN_back, effOp, effPure, pureV, binV, ofC, strip, lkT, ISt.app, opI, gO, gB, allB, gval, wrapG, dstOK, setD, Op.operands, reduceIte, reduceCtorEq, Nat.reduceLT, Nat.reduceEqDiff, true_and, and_self, implies_true, List.nil_append, List.cons_append, List.append_nil, hN, hw]
      have hq : (fun p => !okP p) (pAt l i) = false := by simpa using h
      exact ⟨i + 1, id, ⟨by omega, hj.trans (hst.trans (if_neg (ne_true_of_eq_false hq)))⟩, by simp only []; omega, by simp [SLe, SLe0, convTm, convHp, conv, conv0, convL, lkT, lkH, clean]⟩
  · simp only [V_seq, V_ret, V_exit, V_region, W_nil, W_cons, effOp2, KN_seq, KXr_nil, KXe_nil, KXe_seq, KXe_block, KXe_back, QE, effOp, effPure, pureV, ofC, strip, lkT, lkH, ISt.app, opI, gO, gB, allB, gval, wrapG, dstOK, setD, clean, Gives, Ideal.Fin, conv, conv0, Op.operands, reduceIte, reduceCtorEq, Nat.reduceLT, Nat.reduceEqDiff, true_and, and_true, and_self, implies_true, List.nil_append, List.cons_append, List.append_nil, hN]
    have hie : i = l.length := by simp at h; omega
    subst hie
    rw [hj]
    simp [idxF]
def sp_slices_IndexFunc_impl_Point_impl_Point_allValid_1 : PSpec := ⟨fun xs => match xs with | [.sl 2 les, .clo 42 []] => isPs les | _ => False, fun xs => match xs with | [.sl _ les, .clo 42 []] => (fun (l : List Pt) => .num .i64 (idxF (fun p => !okP p) l 0)) (toPs les) | _ => .junk, false⟩
theorem gk_slices_IndexFunc_impl_Point_impl_Point_allValid_1 : ∀ args, sp_slices_IndexFunc_impl_Point_impl_Point_allValid_1.pre args → ICall Try.prog 54 args (sp_slices_IndexFunc_impl_Point_impl_Point_allValid_1.val args) := by
  intro args h
  unfold sp_slices_IndexFunc_impl_Point_impl_Point_allValid_1 at h ⊢; simp only at h ⊢; split at h
  · have h0 := h
    obtain ⟨l0, rfl⟩ := isP_ex h0
    try simp only [toPs_enc] at *
    exact c_slices_IndexFunc_impl_Point_impl_Point_allValid_1 _ 
  · exact h.elim
theorem en_slices_IndexFunc_impl_Point_impl_Point_allValid_1 : Enters Try.prog 54 := enters_of Try.func54 (by kernel_rfl) rfl

def g_slices_ContainsFunc_impl_Point_impl_Point_allValid_1 : List (Nat × PSpec) := [(54, sp_slices_IndexFunc_impl_Point_impl_Point_allValid_1)]
theorem gok_slices_ContainsFunc_impl_Point_impl_Point_allValid_1 : GOK Try.prog g_slices_ContainsFunc_impl_Point_impl_Point_allValid_1 := gok_cons gk_slices_IndexFunc_impl_Point_impl_Point_allValid_1 en_slices_IndexFunc_impl_Point_impl_Point_allValid_1 (gok0)
theorem lk_slices_ContainsFunc_impl_Point_impl_Point_allValid_1_slices_IndexFunc_impl_Point_impl_Point_allValid_1 : lkG g_slices_ContainsFunc_impl_Point_impl_Point_allValid_1 54 = sp_slices_IndexFunc_impl_Point_impl_Point_allValid_1 := rfl
def h_slices_ContainsFunc_impl_Point_impl_Point_allValid_1 : List (Nat × HSpec) := []
theorem hok_slices_ContainsFunc_impl_Point_impl_Point_allValid_1 : HOK Try.prog h_slices_ContainsFunc_impl_Point_impl_Point_allValid_1 := hok0
theorem c_slices_ContainsFunc_impl_Point_impl_Point_allValid_1 (l : List Pt)  : ICall Try.prog 41 [.sl 2 (encPs l), .clo 42 []] (.bool (l.any (fun p => !okP p))) := by
  refine icall_V (G := g_slices_ContainsFunc_impl_Point_impl_Point_allValid_1) (H := []) [] tabOK mixed gok_slices_ContainsFunc_impl_Point_impl_Point_allValid_1 hok_slices_ContainsFunc_impl_Point_impl_Point_allValid_1 Try.func41 rfl Try.ntmps41 Try.results41 rfl (by kernel_rfl) fun F hN hlen => ?_
  simp only [V_seq, V_ret, V_region, W_nil, W_cons, effOp2, KN_seq, KXr_nil, QE, effOp, effPure, effCall, giveUp, hasAll, pureV, binV, ofC, strip, lkT, lkH, ISt.app, opI, gO, gB, allB, gval, wrapG, dstOK, setD, lendV, lendP, lent, lentP, lentPs, idsV, idsL, lkHS, flat, clean, callArgs, callFn, allLent, enumT, Gives, Ideal.Fin, conv, conv0, Op.operands, reduceIte, reduceCtorEq, cond_true, Bool.or_false, Bool.not_true, Nat.reduceLT, Nat.reduceEqDiff, Nat.zero_add, and_self, implies_true, List.map_cons, List.map_nil, List.nil_append, List.cons_append, List.append_nil, ex_clo, or_self, hN, isPs_enc, toPs_enc, lk_slices_ContainsFunc_impl_Point_impl_Point_allValid_1_slices_IndexFunc_impl_Point_impl_Point_allValid_1, sp_slices_IndexFunc_impl_Point_impl_Point_allValid_1, idxF_sign]
  
def sp_slices_ContainsFunc_impl_Point_impl_Point_allValid_1 : PSpec := ⟨fun xs => match xs with | [.sl 2 les, .clo 42 []] => isPs les | _ => False, fun xs => match xs with | [.sl _ les, .clo 42 []] => (fun (l : List Pt) => .bool (l.any (fun p => !okP p))) (toPs les) | _ => .junk, false⟩
theorem gk_slices_ContainsFunc_impl_Point_impl_Point_allValid_1 : ∀ args, sp_slices_ContainsFunc_impl_Point_impl_Point_allValid_1.pre args → ICall Try.prog 41 args (sp_slices_ContainsFunc_impl_Point_impl_Point_allValid_1.val args) := by
  intro args h
  unfold sp_slices_ContainsFunc_impl_Point_impl_Point_allValid_1 at h ⊢; simp only at h ⊢; split at h
  · have h0 := h
    obtain ⟨l0, rfl⟩ := isP_ex h0
    try simp only [toPs_enc] at *
    exact c_slices_ContainsFunc_impl_Point_impl_Point_allValid_1 _ 
  · exact h.elim
theorem en_slices_ContainsFunc_impl_Point_impl_Point_allValid_1 : Enters Try.prog 41 := enters_of Try.func41 (by kernel_rfl) rfl

def g_impl_allValid : List (Nat × PSpec) := [(41, sp_slices_ContainsFunc_impl_Point_impl_Point_allValid_1)]
theorem gok_impl_allValid : GOK Try.prog g_impl_allValid := gok_cons gk_slices_ContainsFunc_impl_Point_impl_Point_allValid_1 en_slices_ContainsFunc_impl_Point_impl_Point_allValid_1 (gok0)
theorem lk_impl_allValid_slices_ContainsFunc_impl_Point_impl_Point_allValid_1 : lkG g_impl_allValid 41 = sp_slices_ContainsFunc_impl_Point_impl_Point_allValid_1 := rfl
def h_impl_allValid : List (Nat × HSpec) := []
theorem hok_impl_allValid : HOK Try.prog h_impl_allValid := hok0
theorem c_impl_allValid (l : List Pt)  : ICall Try.prog 29 [.sl 2 (encPs l)] (.bool (l.all okP)) := by
  refine icall_V (G := g_impl_allValid) (H := []) [] tabOK mixed gok_impl_allValid hok_impl_allValid Try.func29 rfl Try.ntmps29 Try.results29 rfl (by kernel_rfl) fun F hN hlen => ?_
  simp only [V_seq, V_ret, V_region, W_nil, W_cons, effOp2, KN_seq, KXr_nil, QE, effOp, effPure, effCall, giveUp, hasAll, pureV, ofC, strip, lkT, lkH, ISt.app, opI, gO, gB, allB, gval, wrapG, dstOK, setD, lendV, lendP, lent, lentP, lentPs, idsV, idsL, lkHS, flat, clean, callArgs, callFn, allLent, enumT, Gives, Ideal.Fin, conv, conv0, Op.operands, reduceIte, reduceCtorEq, cond_true, Bool.or_false, Bool.not_true, Nat.reduceLT, Nat.reduceEqDiff, true_and, and_true, and_self, implies_true, List.map_cons, List.map_nil, List.nil_append, List.cons_append, List.append_nil, ex_clo, or_self, hN, isPs_enc, toPs_enc, lk_impl_allValid_slices_ContainsFunc_impl_Point_impl_Point_allValid_1, sp_slices_ContainsFunc_impl_Point_impl_Point_allValid_1]
  rw [IV.bool.injEq, List.all_eq_not_any_not]
def sp_impl_allValid : PSpec := ⟨fun xs => match xs with | [.sl 2 les] => isPs les | _ => False, fun xs => match xs with | [.sl _ les] => (fun (l : List Pt) => .bool (l.all okP)) (toPs les) | _ => .junk, false⟩
theorem gk_impl_allValid : ∀ args, sp_impl_allValid.pre args → ICall Try.prog 29 args (sp_impl_allValid.val args) := by
  intro args h
  unfold sp_impl_allValid at h ⊢; simp only at h ⊢; split at h
  · have h0 := h
    obtain ⟨l0, rfl⟩ := isP_ex h0
    try simp only [toPs_enc] at *
    exact c_impl_allValid _ 
  · exact h.elim
theorem en_impl_allValid : Enters Try.prog 29 := enters_of Try.func29 (by kernel_rfl) rfl

def g_impl_listOk : List (Nat × PSpec) := [(29, sp_impl_allValid)]
theorem gok_impl_listOk : GOK Try.prog g_impl_listOk := gok_cons gk_impl_allValid en_impl_allValid (gok0)
theorem lk_impl_listOk_impl_allValid : lkG g_impl_listOk 29 = sp_impl_allValid := rfl
def h_impl_listOk : List (Nat × HSpec) := []
theorem hok_impl_listOk : HOK Try.prog h_impl_listOk := hok0
theorem c_impl_listOk (l : List Pt)  : ICall Try.prog 17 [.sl 2 (encPs l)] (.bool (okPs l)) := by
  refine icall_V (G := g_impl_listOk) (H := []) [] tabOK mixed gok_impl_listOk hok_impl_listOk Try.func17 rfl Try.ntmps17 Try.results17 rfl (by kernel_rfl) fun F hN hlen => ?_
  have hd : decide ((l.length : Int) ≤ 20) = decide (l.length ≤ 20) := by simp; omega
  simp only [V_seq, V_ret, V_region, W_nil, W_cons, effOp2, KN_seq, KXr_nil, QE, effOp, effPure, effPick, effCall, giveUp, hasAll, pureV, pickV, binV, lenV, ofC, strip, lkT, lkH, ISt.app, opI, gO, gB, allB, gval, wrapG, dstOK, setD, lendV, lendP, lent, lentP, idsV, idsL, lkHS, flat, clean, callArgs, callFn, allLent, enumT, Gives, Ideal.Fin, conv, conv0, Op.operands, Call.operands, List.append_toArray, reduceIte, reduceCtorEq, cond_true, Bool.or_false, Bool.true_or, Nat.reduceLT, Nat.reduceEqDiff, ne_eq, not_false_eq_true, true_and, and_true, and_self, implies_true, forall_const, List.map_cons, List.map_nil, List.nil_append, List.cons_append, List.append_nil, Option.bind_some, List.getElem?_cons_zero, List.getElem?_cons_succ, ex_clo, or_self, tab26, hN, isPs_enc, toPs_enc, lk_impl_listOk_impl_allValid, sp_impl_allValid, len_encPs, hd, okPs]
  cases decide (l.length ≤ 20) <;> simp
def sp_impl_listOk : PSpec := ⟨fun xs => match xs with | [.sl 2 les] => isPs les | _ => False, fun xs => match xs with | [.sl _ les] => (fun (l : List Pt) => .bool (okPs l)) (toPs les) | _ => .junk, false⟩
theorem gk_impl_listOk : ∀ args, sp_impl_listOk.pre args → ICall Try.prog 17 args (sp_impl_listOk.val args) := by
  intro args h
  unfold sp_impl_listOk at h ⊢; simp only at h ⊢; split at h
  · have h0 := h
    obtain ⟨l0, rfl⟩ := isP_ex h0
    try simp only [toPs_enc] at *
    exact c_impl_listOk _ 
  · exact h.elim
theorem en_impl_listOk : Enters Try.prog 17 := enters_of Try.func17 (by kernel_rfl) rfl




theorem addP_past {p : Pt} {l : List Pt} {k : Nat} (hk : k < l.length) (h : addP l p = l.take k ++ addP (l.drop k) p) (hl : ltP (pAt l k) p = true) : addP l p = l.take (k + 1) ++ addP (l.drop (k + 1)) p := by
  rw [h, drop_eq_g (d := (0, 0)) hk]
  simp only [addP, hl, if_true]
  rw [take_succ_g (d := (0, 0)) hk, List.append_assoc]
  rfl
theorem addP_stop {p : Pt} {l : List Pt} {k : Nat} (hk : k < l.length) (h : addP l p = l.take k ++ addP (l.drop k) p) (hl : ltP (pAt l k) p = false) :
    addP l p = if pAt l k == p then l else l.take k ++ p :: l.drop k := by
  rw [h, drop_eq_g (d := (0, 0)) hk]
  simp only [addP, hl, Bool.false_eq_true, if_false]
  by_cases hq : (pAt l k == p) = true
  · rw [if_pos hq, if_pos hq, ← drop_eq_g (d := (0, 0)) hk, List.take_append_drop]
  · rw [if_neg hq, if_neg hq]

def g_spec_addPoint : List (Nat × PSpec) := [(52, sp_spec_pointLess)]
theorem gok_spec_addPoint : GOK Try.prog g_spec_addPoint := gok_cons gk_spec_pointLess en_spec_pointLess (gok0)
theorem lk_spec_addPoint_spec_pointLess : lkG g_spec_addPoint 52 = sp_spec_pointLess := rfl
def h_spec_addPoint : List (Nat × HSpec) := []
theorem hok_spec_addPoint : HOK Try.prog h_spec_addPoint := hok0
theorem c_spec_addPoint (l : List Pt) (p : Pt) (hsz : l.length ≤ 1000) : ICall Try.prog 37 [.sl 2 (encPs l), encP p] (.sl 2 (encPs (addP l p))) := by
  refine icall_V (G := g_spec_addPoint) (H := []) [(2, [(0, 10), (1, 10), (2, 10), (3, 10), (5, 10), (6, 10), (7, 10)])] tabOK mixed gok_spec_addPoint hok_spec_addPoint Try.func37 rfl Try.ntmps37 Try.results37 rfl (by kernel_rfl) fun F hN hlen => ?_
  have el := len_encPs l
  have hl : l.length ≤ maxLen := by rw [maxLen_eq]; omega
  simp only [V_seq, V_block, V_region, W_nil, W_cons, effOp2, KN_seq, effOp, effPure, effNew, effBox, skipE, pureV, solid, IV.cells, ofC, strip, lkT, ISt.app, opI, gO, gB, allB, gval, wrapG, dstOK, setD, mentTm, mentHp, IV.ment, IV.mentL, oneI, enumT, Op.operands, reduceIte, reduceCtorEq, cond_true, Bool.or_false, Bool.and_true, Nat.reduceLT, Nat.zero_add, true_and, and_self, implies_true, List.nil_append, List.cons_append, List.append_nil, List.all_cons, List.all_nil, hN, encP]
  refine V_loop (α := Nat) ⟨tabOK, mixed, gok_spec_addPoint.toF F, hok_spec_addPoint⟩ (by kernel_rfl) (fun i => i ≤ l.length ∧ addP l p = l.take i ++ addP (l.drop i) p) (fun i => ⟨[(5, .num .i64 i), (3, .ptr 3 0), (0, .sl 2 (encPs l))], [(3, some (.box 38 [.num .i64 p.1, .num .i64 p.2]))]⟩) (fun i => l.length - i) 0 id (by simp) (by simp [SLe, SLe0, convTm, convHp, convB, conv, conv0, convL, lkT, lkH, clean]) ?_
  rintro i ⟨hi, hj⟩
  have lt : (encPs (l.take i)).length = i := by simp [encPs]; omega
  have ld : (encPs (l.drop i)).length = l.length - i := by simp [encPs]
  rcases Nat.lt_or_ge i l.length with hi' | hge
  · have g1 := getD_encPs hi'
    have hw := wr_succ hi' hl
    have hd : decide ((i : Int) < (l.length : Int)) = true := by simpa using hi'
    simp only [V_seq, V_draw, V_cond, drawW, WS_nil, pairsOf, W_nil, W_cons, effOp2, effOp3, WI_nil, WI_cons, KN_seq, dynOK, indB, farB, freshB, freshK, freshK1, heapy, asB, effOp, effPure, effPick, effCall, giveUp, hasAll, pureV, pickV, binV, partV, eltV, loadV, iaddrV, lenV, ofC, strip, lkT, lkH, ISt.app, opI, gO, gB, allB, gval, wrapG, dstOK, setD, mentTm, mentHp, IV.ment, lendV, lendP, lent, lentP, idsV, idsL, lkHS, flat, clean, callArgs, callFn, allLent, Op.operands, Call.operands, List.append_toArray, reduceIte, reduceCtorEq, cond_true, cond_false, Bool.or_false, Bool.and_true, Bool.and_eq_true, Bool.not_true, Bool.not_false, Nat.reduceAdd, Nat.reduceLT, Nat.reduceLeDiff, Nat.reduceEqDiff, Nat.reduceBEq, Nat.zero_add, ne_eq, not_false_eq_true, beq_self_eq_true, true_and, and_true, and_false, and_self, implies_true, forall_const, List.map_cons, List.map_nil, List.nil_append, List.cons_append, List.append_nil, Option.bind_some, List.getElem?_cons_zero, List.getElem?_cons_succ, List.getD_cons_zero, List.getD_cons_succ, List.length_cons, List.length_nil, List.take_succ_cons, List.take_zero, List.take_nil, List.drop_zero, ex_clo, or_self, Bool.true_eq_false, tab26, tab38, hN, pe, Int.toNat_natCast, lk_spec_addPoint_spec_pointLess, sp_spec_pointLess, el, Int.toNat_natCast, g1, hd]
    repeat refine And.intro (by omega) ?_
    refine brW_some (fun h => ?_) (fun h => ?_)
    · simp only [V_skip, V_block, V_region, W_nil, W_cons, effOp2, KN_seq, KN_block, KN_back, effOp, effPure, pureV, binV, ofC, strip, lkT, ISt.app, opI, gO, gB, allB, gval, wrapG, dstOK, setD, Op.operands, reduceIte, reduceCtorEq, Nat.reduceLT, Nat.reduceEqDiff, true_and, and_self, implies_true, List.nil_append, List.cons_append, hN, hw]
      exact ⟨i + 1, id, ⟨by omega, addP_past hi' hj h⟩, by simp only []; omega, by simp [SLe, SLe0, convTm, convHp, convB, conv, conv0, convL, lkT, lkH, clean]⟩
    · simp only [V_seq, V_exit, V_draw, V_cond, drawW, pairsOf, WD_nil, WD_cons, effOp3, KN_seq, KXe_nil, KXe_seq, KXe_block, KXe_back, QE, asB, effOp, effPure, effPick, pureV, pickV, binV, partV, eltV, loadV, iaddrV, lenV, ofC, strip, lkT, lkH, ISt.app, opI, gO, gB, allB, gval, wrapG, dstOK, setD, Ideal.Fin, eqL, numsOnly, Op.operands, Call.operands, List.append_toArray, reduceIte, reduceCtorEq, cond_true, Bool.and_true, Nat.reduceAdd, Nat.reduceLT, Nat.reduceLeDiff, Nat.reduceEqDiff, Nat.zero_add, ne_eq, not_false_eq_true, beq_self_eq_true, true_and, and_true, and_false, and_self, implies_true, forall_const, List.nil_append, List.cons_append, Option.bind_some, List.getElem?_cons_zero, List.getElem?_cons_succ, List.getD_cons_zero, List.length_cons, List.length_nil, List.take_succ_cons, List.take_nil, List.drop_zero, Bool.true_eq_false, tab26, tab38, hN, Int.toNat_natCast, el, Int.toNat_natCast, g1, hd, eqP]
      have hst := addP_stop hi' hj h
      repeat refine And.intro (by omega) ?_
      refine brW_some (fun h => ?_) (fun h => ?_)
      · simp only [V_seq, V_ret, V_region, W_nil, W_cons, effOp2, KN_seq, KXr_nil, KXr_seq, QE, effOp, effPure, pureV, strip, lkT, lkH, ISt.app, opI, gO, gB, allB, gval, wrapG, dstOK, setD, Gives, Ideal.Fin, conv, conv0, Op.operands, reduceIte, reduceCtorEq, Nat.reduceLT, Nat.reduceEqDiff, true_and, and_self, implies_true, List.nil_append, List.cons_append, hN]
        rw [hst, if_pos h]
      · have hfin : addP l p = l.take i ++ p :: l.drop i := by rw [hst, h]; rfl
        simp only [V_seq, V_skip, V_ret, V_region, W_nil, W_cons, effOp2, KN_seq, KXr_nil, QE, effOp, effPure, effNew, effBuildSlice, effFrz, frz, tmpsOf, effAppend, effZeros, skipE, pureV, srcV, refId, partV, loadV, sliceV, strip, lkT, lkH, ISt.app, opI, gO, gB, allB, gval, wrapG, dstOK, setD, mentTm, mentHp, IV.ment, IV.mentL, partsL, eltsI, eltI, oneI, noId', Gives, Ideal.Fin, conv, conv0, Op.operands, List.append_toArray, Array.append_empty, Option.toArray_none, Option.toArray_some, reduceIte, reduceCtorEq, cond_true, Bool.or_false, Bool.and_true, Nat.reduceAdd, Nat.reduceMul, Nat.reduceLT, Nat.reduceLeDiff, Nat.reduceEqDiff, Nat.reduceBEq, Nat.zero_add, ne_eq, not_false_eq_true, true_and, and_true, and_false, and_self, implies_true, forall_const, List.nil_append, List.cons_append, List.append_nil, List.all_cons, List.all_nil, Option.some.injEq, Option.map_some, Option.map_none, List.getD_cons_zero, List.length_cons, List.length_nil, List.take_succ_cons, List.take_nil, List.drop_zero, tab26, tab38, hN, Int.toNat_natCast, el, Int.toNat_natCast, encPs_take, encPs_drop, lt, ld]
        refine ⟨⟨by omega, by omega⟩, by omega, ⟨by omega, by omega⟩, ⟨by omega, by omega⟩, ⟨by simp [encPs]; omega, by omega⟩, _, _, rfl, by simp [encPs]; omega, ?_, by simp⟩
        rw [encPs_one p, encPs_app, encPs_take, encPs_app, List.take_take, Nat.min_self, List.take_of_length_le (l := l.take i ++ [p]) (by simp; omega), List.take_of_length_le (by simp [encPs]; omega), hfin]
        simp
  · have hie : i = l.length := by omega
    have g1 : (encPs l).getD i .junk = .junk := by simp [List.getD, encPs, hge]
    have hd : decide ((i : Int) < (l.length : Int)) = false := by simp; omega
    have hfin : addP l p = l.take i ++ p :: l.drop i := by rw [hj]; simp [hie, addP]
    simp only [V_seq, V_skip, V_ret, V_exit, V_region, V_draw, V_cond, brW_false, drawW, WS_nil, pairsOf, W_nil, W_cons, WD_nil, WD_cons, effOp2, effOp3, WI_nil, WI_cons, KN_seq, KXr_nil, KXe_nil, KXe_seq, KXe_block, KXe_back, QE, dynOK, indB, farB, freshB, freshK, freshK1, heapy, asB, effOp, effPure, effPick, effNew, effBuildSlice, effFrz, frz, tmpsOf, effAppend, effZeros, effCall, giveUp, hasAll, skipE, pureV, pickV, srcV, refId, binV, partV, eltV, loadV, iaddrV, sliceV, lenV, ofC, strip, lkT, lkH, ISt.app, opI, gO, gB, allB, gval, wrapG, dstOK, setD, mentTm, mentHp, IV.ment, IV.mentL, partsL, eltsI, eltI, oneI, noId', lendV, lendP, lent, lentP, idsV, idsL, lkHS, flat, clean, callArgs, callFn, allLent, Gives, Ideal.Fin, conv, conv0, Op.operands, Call.operands, List.append_toArray, Array.append_empty, Option.toArray_none, Option.toArray_some, reduceIte, reduceCtorEq, cond_true, cond_false, Bool.or_false, Bool.or_true, Bool.and_true, Bool.and_eq_true, Bool.not_false, Nat.reduceAdd, Nat.reduceMul, Nat.reduceLT, Nat.reduceLeDiff, Nat.reduceEqDiff, Nat.reduceBEq, Nat.zero_add, ne_eq, not_false_eq_true, true_and, and_true, false_and, and_false, and_self, false_implies, implies_true, forall_const, List.map_cons, List.map_nil, List.nil_append, List.cons_append, List.append_nil, List.all_cons, List.all_nil, Option.some.injEq, Option.map_some, Option.map_none, Option.bind_some, List.getElem?_cons_zero, List.getElem?_cons_succ, List.getD_cons_zero, List.getD_cons_succ, List.length_cons, List.length_nil, List.take_succ_cons, List.take_zero, List.take_nil, List.drop_zero, ex_clo, bft, or_true, Bool.false_eq_true, tab26, tab38, hN, Int.toNat_natCast, lk_spec_addPoint_spec_pointLess, sp_spec_pointLess, el, Int.toNat_natCast, g1, hd, encPs_take, encPs_drop, lt, ld]
    refine ⟨⟨by omega, by omega⟩, by omega, ⟨by omega, by omega⟩, ⟨by omega, by omega⟩, ⟨by simp [encPs]; omega, by omega⟩, _, _, rfl, by simp [encPs]; omega, ?_, by simp⟩
    rw [encPs_one p, encPs_app, encPs_take, encPs_app, List.take_take, Nat.min_self, List.take_of_length_le (l := l.take i ++ [p]) (by simp; omega), List.take_of_length_le (by simp [encPs]; omega), hfin]
    simp
def sp_spec_addPoint : PSpec := ⟨fun xs => match xs with | [.sl 2 les, .agg [.num .i64 p1, .num .i64 p2]] => isPs les ∧ ((fun (l : List Pt) (p : Pt) => l.length ≤ 1000) (toPs les) (p1, p2)) | _ => False, fun xs => match xs with | [.sl _ les, .agg [.num _ p1, .num _ p2]] => (fun (l : List Pt) (p : Pt) => .sl 2 (encPs (addP l p))) (toPs les) (p1, p2) | _ => .junk, false⟩
theorem gk_spec_addPoint : ∀ args, sp_spec_addPoint.pre args → ICall Try.prog 37 args (sp_spec_addPoint.val args) := by
  intro args h
  unfold sp_spec_addPoint at h ⊢; simp only at h ⊢; split at h
  · obtain ⟨h0, h1⟩ := h
    obtain ⟨l0, rfl⟩ := isP_ex h0
    try simp only [toPs_enc] at *
    exact c_spec_addPoint _ (_, _) h1
  · exact h.elim
theorem en_spec_addPoint : Enters Try.prog 37 := enters_of Try.func37 (by kernel_rfl) rfl


theorem ins_step {l : List Pt} {i : Nat} (hi : i < l.length) : insP (l.take (i + 1)) = addP (insP (l.take i)) (pAt l i) := by
  rw [insP, insP, take_succ_g (d := (0, 0)) hi, List.foldl_append]
  rfl
def g_spec_sorted : List (Nat × PSpec) := [(37, sp_spec_addPoint)]
theorem gok_spec_sorted : GOK Try.prog g_spec_sorted := gok_cons gk_spec_addPoint en_spec_addPoint (gok0)
theorem lk_spec_sorted_spec_addPoint : lkG g_spec_sorted 37 = sp_spec_addPoint := rfl
def h_spec_sorted : List (Nat × HSpec) := []
theorem hok_spec_sorted : HOK Try.prog h_spec_sorted := hok0
theorem c_spec_sorted (l : List Pt) (hsz : l.length ≤ 1000) : ICall Try.prog 25 [.sl 2 (encPs l)] (.sl 2 (encPs (insP l))) := by
  refine icall_V (G := g_spec_sorted) (H := []) [] tabOK mixed gok_spec_sorted hok_spec_sorted Try.func25 rfl Try.ntmps25 Try.results25 rfl (by kernel_rfl) fun F hN hlen => ?_
  have el := len_encPs l
  have hl : l.length ≤ maxLen := by rw [maxLen_eq]; omega
  simp only [V_seq, V_block, V_region, W_nil, W_cons, effOp2, KN_seq, effOp, effPure, effNew, effBuildSlice, effFrz, frz, tmpsOf, skipE, pureV, ofC, strip, lkT, ISt.app, opI, gO, gB, allB, gval, wrapG, dstOK, setD, mentTm, mentHp, IV.ment, partsL, eltsI, enumT, Op.operands, reduceIte, reduceCtorEq, cond_true, Bool.or_false, Nat.reduceMul, Nat.reduceLT, Nat.reduceLeDiff, Nat.reduceEqDiff, ne_eq, not_false_eq_true, true_and, and_self, implies_true, List.nil_append, List.cons_append, List.append_nil, List.length_nil, tab26, tab38, hN]
  refine V_loop (α := Nat) ⟨tabOK, mixed, gok_spec_sorted.toF F, hok_spec_sorted⟩ (by kernel_rfl) (fun i => i ≤ l.length) (fun i => ⟨[(4, .num .i64 i), (3, .sl 2 (encPs (insP (l.take i)))), (0, .sl 2 (encPs l))], []⟩) (fun i => l.length - i) 0 id (by simp) (by simp [SLe, SLe0, convTm, convHp, conv, conv0, lkT, lkH, clean, insP, encPs]) ?_
  intro i hi
  simp only [V_seq, V_region, V_cond, W_nil, W_cons, effOp2, KN_seq, asB, effOp, effPure, pureV, binV, lenV, strip, lkT, ISt.app, opI, gO, gB, allB, gval, wrapG, dstOK, setD, Op.operands, Call.operands, List.append_toArray, reduceIte, reduceCtorEq, Nat.reduceLT, Nat.reduceEqDiff, ne_eq, not_false_eq_true, true_and, and_self, implies_true, List.nil_append, List.cons_append, List.append_nil, tab26, hN, el]
  refine brW_some (fun h => ?_) (fun h => ?_)
  · have hi' : i < l.length := by simpa using h
    have g1 := getD_encPs hi'
    have hw := wr_succ hi' hl
    have hil : (insP (l.take i)).length ≤ 1000 := by
      have := insP_len (l.take i)
      simp only [List.length_take] at this
      omega
    simp only [V_seq, V_skip, V_block, V_region, W_nil, W_cons, effOp2, KN_seq, KN_block, KN_back, effOp, effPure, effCall, giveUp, hasAll, pureV, binV, partV, eltV, loadV, iaddrV, ofC, strip, lkT, lkH, ISt.app, opI, gO, gB, allB, gval, wrapG, dstOK, setD, lendV, lendP, lent, lentP, idsV, idsL, lkHS, flat, clean, callArgs, callFn, allLent, Op.operands, reduceIte, reduceCtorEq, cond_false, Bool.or_false, Bool.not_true, Nat.reduceAdd, Nat.reduceLT, Nat.reduceLeDiff, Nat.reduceEqDiff, Nat.zero_add, ne_eq, not_false_eq_true, true_and, and_true, and_false, and_self, implies_true, forall_const, List.map_cons, List.map_nil, List.nil_append, List.cons_append, List.append_nil, List.getD_cons_zero, List.length_cons, List.length_nil, List.take_succ_cons, List.take_nil, List.drop_zero, ex_clo, or_true, Bool.false_eq_true, tab26, tab38, hN, pe, Int.toNat_natCast, isPs_enc, toPs_enc, lk_spec_sorted_spec_addPoint, sp_spec_addPoint, el, Int.toNat_natCast, g1, hw, hil]
    repeat refine And.intro (by omega) ?_
    exact ⟨i + 1, id, by omega, by simp only []; omega, by simp only []; rw [ins_step hi']; simp [SLe, SLe0, convTm, convHp, conv, conv0, lkT, clean]⟩
  · simp only [V_seq, V_ret, V_exit, V_region, W_nil, W_cons, effOp2, KN_seq, KXr_nil, KXe_nil, KXe_seq, KXe_block, KXe_back, QE, effOp, effPure, pureV, strip, lkT, lkH, ISt.app, opI, gO, gB, allB, gval, wrapG, dstOK, setD, Gives, Ideal.Fin, conv, conv0, Op.operands, reduceIte, reduceCtorEq, Nat.reduceLT, Nat.reduceEqDiff, true_and, and_self, implies_true, List.nil_append, List.cons_append, List.append_nil, hN]
    have hie : i = l.length := by simp at h; omega
    subst hie
    simp
def sp_spec_sorted : PSpec := ⟨fun xs => match xs with | [.sl 2 les] => isPs les ∧ ((fun (l : List Pt) => l.length ≤ 1000) (toPs les)) | _ => False, fun xs => match xs with | [.sl _ les] => (fun (l : List Pt) => .sl 2 (encPs (insP l))) (toPs les) | _ => .junk, false⟩
theorem gk_spec_sorted : ∀ args, sp_spec_sorted.pre args → ICall Try.prog 25 args (sp_spec_sorted.val args) := by
  intro args h
  unfold sp_spec_sorted at h ⊢; simp only at h ⊢; split at h
  · obtain ⟨h0, h1⟩ := h
    obtain ⟨l0, rfl⟩ := isP_ex h0
    try simp only [toPs_enc] at *
    exact c_spec_sorted _ h1
  · exact h.elim
theorem en_spec_sorted : Enters Try.prog 25 := enters_of Try.func25 (by kernel_rfl) rfl


/-- What SortPoints gives. -/
def sortP (l : List Pt) : List Pt := if okPs l then insP l else []
theorem okPs_len {l : List Pt} (h : okPs l = true) : l.length ≤ 20 := by
  simp only [okPs, Bool.and_eq_true, decide_eq_true_eq] at h
  exact h.2

def g_cmp_isNaN_int : List (Nat × PSpec) := []
theorem gok_cmp_isNaN_int : GOK Try.prog g_cmp_isNaN_int := gok0
def h_cmp_isNaN_int : List (Nat × HSpec) := []
theorem hok_cmp_isNaN_int : HOK Try.prog h_cmp_isNaN_int := hok0
theorem c_cmp_isNaN_int (x : Int)  : ICall Try.prog 73 [.num .i64 x] (.bool false) := by
  refine icall_V (G := g_cmp_isNaN_int) (H := []) [] tabOK mixed gok_cmp_isNaN_int hok_cmp_isNaN_int Try.func73 rfl Try.ntmps73 Try.results73 rfl (by kernel_rfl) fun F hN hlen => ?_
  simp only [V_seq, V_ret, V_region, W_nil, W_cons, effOp2, KN_seq, KXr_nil, QE, effOp, effPure, pureV, binV, ofC, strip, lkT, lkH, ISt.app, opI, gO, gB, allB, gval, wrapG, dstOK, setD, clean, enumT, Gives, Ideal.Fin, conv, conv0, Op.operands, reduceIte, reduceCtorEq, Nat.reduceLT, Nat.reduceEqDiff, true_and, and_true, and_self, implies_true, List.nil_append, List.cons_append, List.append_nil, hN]
  simp
def sp_cmp_isNaN_int : PSpec := ⟨fun xs => match xs with | [.num .i64 x] => True | _ => False, fun xs => match xs with | [.num _ x] => (fun (x : Int) => .bool false) x | _ => .junk, false⟩
theorem gk_cmp_isNaN_int : ∀ args, sp_cmp_isNaN_int.pre args → ICall Try.prog 73 args (sp_cmp_isNaN_int.val args) := by
  intro args h
  unfold sp_cmp_isNaN_int at h ⊢; simp only at h ⊢; split at h
  · exact c_cmp_isNaN_int _
  · exact h.elim
theorem en_cmp_isNaN_int : Enters Try.prog 73 := enters_of Try.func73 (by kernel_rfl) rfl

def g_cmp_Compare_int : List (Nat × PSpec) := [(73, sp_cmp_isNaN_int)]
theorem gok_cmp_Compare_int : GOK Try.prog g_cmp_Compare_int := gok_cons gk_cmp_isNaN_int en_cmp_isNaN_int (gok0)
theorem lk_cmp_Compare_int_cmp_isNaN_int : lkG g_cmp_Compare_int 73 = sp_cmp_isNaN_int := rfl
def h_cmp_Compare_int : List (Nat × HSpec) := []
theorem hok_cmp_Compare_int : HOK Try.prog h_cmp_Compare_int := hok0
theorem c_cmp_Compare_int (a : Int) (b : Int)  : ICall Try.prog 59 [.num .i64 a, .num .i64 b] (.num .i64 (cmpI a b)) := by
  refine icall_V (G := g_cmp_Compare_int) (H := []) [] tabOK mixed gok_cmp_Compare_int hok_cmp_Compare_int Try.func59 rfl Try.ntmps59 Try.results59 rfl (by kernel_rfl) fun F hN hlen => ?_
  simp only [V_seq, V_skip, V_region, V_cond, brW_false, W_nil, W_cons, effOp2, KN_seq, asB, effOp, effPure, effCall, giveUp, hasAll, pureV, binV, ofC, strip, lkT, lkH, ISt.app, opI, gO, gB, allB, gval, wrapG, dstOK, setD, lendV, lendP, lent, lentP, idsV, idsL, lkHS, flat, clean, callArgs, callFn, allLent, enumT, Op.operands, reduceIte, reduceCtorEq, cond_true, Bool.or_false, Bool.not_true, Nat.reduceLT, Nat.reduceEqDiff, Nat.zero_add, true_and, and_self, implies_true, List.map_cons, List.map_nil, List.nil_append, List.cons_append, List.append_nil, ex_clo, or_self, hN, lk_cmp_Compare_int_cmp_isNaN_int, sp_cmp_isNaN_int]
  refine brW_some (fun h => ?_) (fun h => ?_)
  · simp only [V_seq, V_ret, V_region, W_nil, W_cons, effOp2, KN_seq, KXr_nil, KXr_seq, QE, effOp, effPure, pureV, ofC, strip, lkT, lkH, ISt.app, opI, gO, gB, allB, gval, wrapG, dstOK, setD, clean, Gives, Ideal.Fin, conv, conv0, Op.operands, reduceIte, reduceCtorEq, Nat.reduceLT, Nat.reduceEqDiff, true_and, and_true, and_self, implies_true, List.nil_append, List.cons_append, List.append_nil, hN]
    have : a < b := by simpa using h
    simp [cmpI, this]
  · simp only [V_seq, V_skip, V_region, V_cond, W_nil, W_cons, effOp2, KN_seq, asB, effOp, effPure, pureV, binV, strip, lkT, ISt.app, opI, gO, gB, allB, gval, wrapG, dstOK, setD, Op.operands, reduceIte, reduceCtorEq, Nat.reduceLT, Nat.reduceEqDiff, true_and, and_self, implies_true, List.nil_append, List.cons_append, List.append_nil, hN]
    have h1 : ¬ a < b := by simpa using h
    refine brW_some (fun h => ?_) (fun h => ?_)
    · simp only [V_seq, V_ret, V_region, W_nil, W_cons, effOp2, KN_seq, KXr_nil, KXr_seq, QE, effOp, effPure, pureV, ofC, strip, lkT, lkH, ISt.app, opI, gO, gB, allB, gval, wrapG, dstOK, setD, clean, Gives, Ideal.Fin, conv, conv0, Op.operands, reduceIte, reduceCtorEq, Nat.reduceLT, Nat.reduceEqDiff, true_and, and_true, and_self, implies_true, List.nil_append, List.cons_append, List.append_nil, hN]
      have : b < a := by simpa using h
      simp [cmpI, this, h1]
    · simp only [V_seq, V_skip, V_ret, V_region, W_nil, W_cons, effOp2, KN_seq, KXr_nil, QE, effOp, effPure, pureV, ofC, strip, lkT, lkH, ISt.app, opI, gO, gB, allB, gval, wrapG, dstOK, setD, clean, Gives, Ideal.Fin, conv, conv0, Op.operands, reduceIte, reduceCtorEq, Nat.reduceLT, Nat.reduceEqDiff, true_and, and_true, and_self, implies_true, List.nil_append, List.cons_append, List.append_nil, hN]
      have : ¬ b < a := by simpa using h
      simp [cmpI, this, h1]
def sp_cmp_Compare_int : PSpec := ⟨fun xs => match xs with | [.num .i64 a, .num .i64 b] => True | _ => False, fun xs => match xs with | [.num _ a, .num _ b] => (fun (a : Int) (b : Int) => .num .i64 (cmpI a b)) a b | _ => .junk, false⟩
theorem gk_cmp_Compare_int : ∀ args, sp_cmp_Compare_int.pre args → ICall Try.prog 59 args (sp_cmp_Compare_int.val args) := by
  intro args h
  unfold sp_cmp_Compare_int at h ⊢; simp only at h ⊢; split at h
  · exact c_cmp_Compare_int _ _
  · exact h.elim
theorem en_cmp_Compare_int : Enters Try.prog 59 := enters_of Try.func59 (by kernel_rfl) rfl

theorem orI_step {l : List Int} {i : Nat} (hi : i < l.length) : orI (l.drop i) = if l.getD i 0 = 0 then orI (l.drop (i + 1)) else l.getD i 0 := by
  rw [drop_eq_g (d := 0) hi]
  simp [orI]
def g_cmp_Or_int : List (Nat × PSpec) := []
theorem gok_cmp_Or_int : GOK Try.prog g_cmp_Or_int := gok0
def h_cmp_Or_int : List (Nat × HSpec) := []
theorem hok_cmp_Or_int : HOK Try.prog h_cmp_Or_int := hok0
theorem c_cmp_Or_int (l : List Int)  : ICall Try.prog 58 [.sl 1 (encI l)] (.num .i64 (orI l)) := by
  refine icall_V (G := g_cmp_Or_int) (H := []) [] tabOK mixed gok_cmp_Or_int hok_cmp_Or_int Try.func58 rfl Try.ntmps58 Try.results58 rfl (by kernel_rfl) fun F hN hlen => ?_
  have hl := hlen 0 1 _ rfl
  have el := len_encI l
  rw [el] at hl
  simp only [V_seq, V_block, V_region, W_nil, W_cons, effOp2, KN_seq, effOp, effPure, pureV, lenV, ofC, strip, lkT, ISt.app, opI, gO, gB, allB, gval, wrapG, dstOK, setD, enumT, Op.operands, Call.operands, List.append_toArray, reduceIte, reduceCtorEq, Nat.reduceLT, Nat.reduceEqDiff, ne_eq, not_false_eq_true, true_and, and_self, implies_true, List.nil_append, List.cons_append, List.append_nil, tab35, hN, el]
  refine V_loop (α := Nat) ⟨tabOK, mixed, gok_cmp_Or_int.toF F, hok_cmp_Or_int⟩ (by kernel_rfl) (fun i => i ≤ l.length ∧ orI l = orI (l.drop i)) (fun i => ⟨[(8, .num .i64 i), (7, .num .i64 l.length), (6, .sl 1 (encI l)), (3, .num .i64 0)], []⟩) (fun i => l.length - i) 0 id (by simp) (by simp [SLe, SLe0, convTm, convHp, conv, conv0, lkT, lkH, clean]) ?_
  rintro i ⟨hi, hj⟩
  simp only [V_seq, V_region, V_cond, W_nil, W_cons, effOp2, KN_seq, asB, effOp, effPure, pureV, binV, strip, lkT, ISt.app, opI, gO, gB, allB, gval, wrapG, dstOK, setD, Op.operands, reduceIte, Nat.reduceLT, Nat.reduceEqDiff, true_and, and_self, implies_true, List.nil_append, List.cons_append, List.append_nil, hN]
  refine brW_some (fun h => ?_) (fun h => ?_)
  · have hi' : i < l.length := by simpa using h
    have g1 := getD_encI hi'
    have hw := wr_succ hi' hl
    have hst := orI_step hi'
    simp only [V_seq, V_skip, V_block, V_region, V_cond, W_nil, W_cons, effOp2, KN_seq, asB, effOp, effPure, pureV, binV, eltV, loadV, iaddrV, strip, lkT, ISt.app, opI, gO, gB, allB, gval, wrapG, dstOK, setD, Op.operands, reduceIte, reduceCtorEq, Nat.reduceLT, Nat.reduceEqDiff, ne_eq, not_false_eq_true, true_and, and_true, and_self, implies_true, forall_const, List.nil_append, List.cons_append, List.append_nil, tab3, tab35, hN, Int.toNat_natCast, el, Int.toNat_natCast, g1]
    repeat refine And.intro (by omega) ?_
    refine brW_some (fun h => ?_) (fun h => ?_)
    · simp only [V_seq, V_ret, V_region, W_nil, W_cons, effOp2, KN_seq, KXr_nil, KXr_seq, KXr_block, KXr_back, QE, effOp, effPure, pureV, strip, lkT, lkH, ISt.app, opI, gO, gB, allB, gval, wrapG, dstOK, setD, clean, Gives, Ideal.Fin, conv, conv0, Op.operands, reduceIte, Nat.reduceLT, Nat.reduceEqDiff, true_and, and_true, and_self, implies_true, List.nil_append, List.cons_append, List.append_nil, hN]
      have hq : l.getD i 0 ≠ 0 := by simpa using h
      rw [hj, hst, if_neg hq]
    · simp only [V_skip, V_region, W_nil, W_cons, effOp2, KN_seq, KN_block, KN_back, effOp, effPure, pureV, binV, ofC, strip, lkT, ISt.app, opI, gO, gB, allB, gval, wrapG, dstOK, setD, Op.operands, reduceIte, Nat.reduceLT, Nat.reduceEqDiff, true_and, and_self, implies_true, List.nil_append, List.cons_append, List.append_nil, hN, hw]
      have hq : l.getD i 0 = 0 := by simpa using h
      exact ⟨i + 1, id, ⟨by omega, by rw [hj, hst, if_pos hq]⟩, by simp only []; omega, by simp [SLe, SLe0, convTm, convHp, conv, conv0, lkT, lkH, clean]⟩
  · simp only [V_seq, V_ret, V_exit, V_region, W_nil, W_cons, effOp2, KN_seq, KXr_nil, KXe_nil, KXe_seq, KXe_block, KXe_back, QE, effOp, effPure, pureV, strip, lkT, lkH, ISt.app, opI, gO, gB, allB, gval, wrapG, dstOK, setD, clean, Gives, Ideal.Fin, conv, conv0, Op.operands, reduceIte, Nat.reduceLT, Nat.reduceEqDiff, true_and, and_true, and_self, implies_true, List.nil_append, List.cons_append, List.append_nil, hN]
    have hie : i = l.length := by simp at h; omega
    subst hie
    rw [hj]
    simp [orI]
def sp_cmp_Or_int : PSpec := ⟨fun xs => match xs with | [.sl 1 les] => isIs les | _ => False, fun xs => match xs with | [.sl _ les] => (fun (l : List Int) => .num .i64 (orI l)) (toIs les) | _ => .junk, false⟩
theorem gk_cmp_Or_int : ∀ args, sp_cmp_Or_int.pre args → ICall Try.prog 58 args (sp_cmp_Or_int.val args) := by
  intro args h
  unfold sp_cmp_Or_int at h ⊢; simp only at h ⊢; split at h
  · have h0 := h
    obtain ⟨l0, rfl⟩ := isI_ex h0
    try simp only [toIs_enc] at *
    exact c_cmp_Or_int _ 
  · exact h.elim
theorem en_cmp_Or_int : Enters Try.prog 58 := enters_of Try.func58 (by kernel_rfl) rfl

def g_impl_Point_compare : List (Nat × PSpec) := [(59, sp_cmp_Compare_int), (58, sp_cmp_Or_int)]
theorem gok_impl_Point_compare : GOK Try.prog g_impl_Point_compare := gok_cons gk_cmp_Compare_int en_cmp_Compare_int (gok_cons gk_cmp_Or_int en_cmp_Or_int (gok0))
theorem lk_impl_Point_compare_cmp_Compare_int : lkG g_impl_Point_compare 59 = sp_cmp_Compare_int := rfl
theorem lk_impl_Point_compare_cmp_Or_int : lkG g_impl_Point_compare 58 = sp_cmp_Or_int := rfl
def h_impl_Point_compare : List (Nat × HSpec) := []
theorem hok_impl_Point_compare : HOK Try.prog h_impl_Point_compare := hok0
theorem c_impl_Point_compare (p : Pt) (q : Pt)  : ICall Try.prog 46 [encP p, encP q] (.num .i64 (cmpP p q)) := by
  refine icall_V (G := g_impl_Point_compare) (H := []) [(1, [(0, 4), (2, 4), (4, 5), (4, 6), (4, 7), (4, 8), (0, 9), (1, 9), (2, 9), (3, 9), (5, 9), (7, 9), (0, 10), (1, 10), (2, 10), (3, 10), (5, 10), (6, 10), (7, 10), (8, 10), (0, 11), (1, 11), (2, 11), (3, 11), (4, 11), (5, 11), (6, 11), (7, 11), (8, 11)])] tabOK mixed gok_impl_Point_compare hok_impl_Point_compare Try.func46 rfl Try.ntmps46 Try.results46 rfl (by kernel_rfl) fun F hN hlen => ?_
  simp only [V_seq, V_ret, V_region, V_draw, drawW, WS_nil, pairsOf, W_nil, W_cons, effOp2, effOp3, WI_nil, WI_cons, KN_seq, KXr_nil, QE, dynOK, indB, farB, seeB, see, isStore, freshB, freshK, freshK1, heapy, effOp, effPure, effNew, effBox, effBuildSlice, effFrz, frz, tmpsOf, effCall, giveUp, hasAll, Option.isSome_some, skipE, pureV, partV, loadV, faddrV, solid, IV.cells, ofC, strip, lkT, lkH, ISt.app, opI, gO, gB, allB, gval, wrapG, dstOK, setD, mentTm, mentHp, IV.ment, IV.mentL, partsL, eltsI, eltI, oneI, noId', lendV, lendP, lent, lentP, idsV, idsL, lkHS, flat, clean, callArgs, callFn, allLent, enumT, Gives, Ideal.Fin, conv, conv0, IBlk.shape, Op.operands, Call.operands, List.append_toArray, reduceIte, reduceCtorEq, cond_true, cond_false, Bool.or_false, Bool.or_true, Bool.and_true, Bool.and_false, Bool.and_eq_true, Bool.not_true, Bool.not_false, Nat.reduceAdd, Nat.reduceMul, Nat.reduceLT, Nat.reduceLeDiff, Nat.reduceEqDiff, Nat.reduceBEq, Nat.add_zero, Nat.zero_add, ne_eq, not_false_eq_true, beq_self_eq_true, and_true, and_self, implies_true, List.map_cons, List.map_nil, List.nil_append, List.cons_append, List.append_nil, List.all_cons, List.all_nil, Option.map_some, List.getD_cons_zero, List.getD_cons_succ, List.length_cons, List.length_nil, List.take_succ_cons, List.take_zero, List.take_nil, List.drop_succ_cons, List.drop_zero, ex_clo, or_self, tab3, tab35, tab38, hN, encP, isIs_nil, toIs_nil, isIs_cons, toIs_cons, lk_impl_Point_compare_cmp_Compare_int, lk_impl_Point_compare_cmp_Or_int, sp_cmp_Compare_int, sp_cmp_Or_int, cmpP]
def sp_impl_Point_compare : PSpec := ⟨fun xs => match xs with | [.agg [.num .i64 p1, .num .i64 p2], .agg [.num .i64 q1, .num .i64 q2]] => True | _ => False, fun xs => match xs with | [.agg [.num _ p1, .num _ p2], .agg [.num _ q1, .num _ q2]] => (fun (p : Pt) (q : Pt) => .num .i64 (cmpP p q)) (p1, p2) (q1, q2) | _ => .junk, false⟩
theorem gk_impl_Point_compare : ∀ args, sp_impl_Point_compare.pre args → ICall Try.prog 46 args (sp_impl_Point_compare.val args) := by
  intro args h
  unfold sp_impl_Point_compare at h ⊢; simp only at h ⊢; split at h
  · exact c_impl_Point_compare (_, _) (_, _)
  · exact h.elim
theorem en_impl_Point_compare : Enters Try.prog 46 := enters_of Try.func46 (by kernel_rfl) rfl


end Go.Proofs.Ytiadicmnbjaknaa
