/- Contracts: the shape of a hull; points of a list; indices of a list. -/
import Derived.Test.YtlcndghaendieaaB94
import Derived.Test.YtlcndghaendieaaBLi
set_option linter.unusedVariables false
set_option linter.unusedSimpArgs false
set_option maxHeartbeats 16000000
set_option maxRecDepth 100000
namespace Go.Proofs.Ytlcndghaendieaa
open Go Go.Ideal Go.Pl Go.Sort

theorem eqb {a b : Nat} : (((a : Nat) : Int) == ((b : Nat) : Int)) = decide (a = b) := by
  rw [Bool.eq_iff_iff]; simp; omega
theorem neb {a b : Nat} : (((a : Nat) : Int) != ((b : Nat) : Int)) = !decide (a = b) := by
  rw [bne, eqb]
theorem all_no {n m : Nat} {f : Nat → Bool} (hm : m < n) (h : f m = false) : (List.range n).all f = false := by
  cases ha : (List.range n).all f with
  | false => rfl
  | true =>
    rw [List.all_eq_true] at ha
    rw [ha m (List.mem_range.2 hm)] at h; cases h
theorem all_yes {n : Nat} {f : Nat → Bool} (h : ∀ m, m < n → f m = true) : (List.range n).all f = true := by
  rw [List.all_eq_true]; exact fun m hm => h m (List.mem_range.1 hm)

/-! points of a list -/
def g_slices_Index_impl_Point_impl_Point : List (Nat × PSpec) := []
theorem gok_slices_Index_impl_Point_impl_Point : GOK Try.prog g_slices_Index_impl_Point_impl_Point := gok0
def h_slices_Index_impl_Point_impl_Point : List (Nat × HSpec) := []
theorem hok_slices_Index_impl_Point_impl_Point : HOK Try.prog h_slices_Index_impl_Point_impl_Point := hok0
theorem c_slices_Index_impl_Point_impl_Point (l : List Pt) (p : Pt)  : ICall Try.prog 112 [.sl 2 (encPs l), encP p] (.num .i64 (idxF (fun x => p == x) l 0)) := by
  refine icall_V (G := g_slices_Index_impl_Point_impl_Point) (H := []) [] tabOK mixed gok_slices_Index_impl_Point_impl_Point hok_slices_Index_impl_Point_impl_Point Try.func112 rfl Try.ntmps112 Try.results112 rfl (by kernel_rfl) fun F hN hlen => ?_
  have hl := hlen 0 2 _ rfl
  have el := len_encPs l
  rw [el] at hl
  simp only [V_seq, V_block, V_region, W_nil, W_cons, effOp2, KN_seq, effOp, effPure, effNew, effBox, skipE, pureV, lenV, solid, IV.cells, ofC, strip, lkT, ISt.app, opI, gO, gB, allB, gval, wrapG, dstOK, setD, mentTm, mentHp, IV.ment, IV.mentL, oneI, enumT, Op.operands, Call.operands, List.append_toArray, reduceIte, reduceCtorEq, cond_true, Bool.or_false, Bool.and_true, Nat.reduceLT, Nat.reduceEqDiff, Nat.zero_add, ne_eq, not_false_eq_true, true_and, and_self, implies_true, List.nil_append, List.cons_append, List.append_nil, List.all_cons, List.all_nil, tab23, hN, encP, el]
  refine V_loop (α := Nat) ⟨tabOK, mixed, gok_slices_Index_impl_Point_impl_Point, hok_slices_Index_impl_Point_impl_Point⟩ (by kernel_rfl) (fun i => i ≤ l.length ∧ idxF (fun x => p == x) l 0 = idxF (fun x => p == x) (l.drop i) i)
    (fun i => ⟨[(8, .num .i64 i), (7, .num .i64 l.length), (3, .ptr 3 0), (0, .sl 2 (encPs l))], [(3, some (.box 28 [.num .i64 p.1, .num .i64 p.2]))]⟩) (fun i => l.length - i) 0 id (by simp) (by simp [SLe, SLe0, convTm, convHp, convB, conv, conv0, convL, lkT, lkH, clean]) ?_
  rintro i ⟨hi, hj⟩
  simp only [V_seq, V_region, V_cond, W_nil, W_cons, effOp2, KN_seq, asB, effOp, effPure, pureV, binV, strip, lkT, ISt.app, opI, gO, gB, allB, gval, wrapG, dstOK, setD, Op.operands, reduceIte, reduceCtorEq, Nat.reduceLT, Nat.reduceEqDiff, true_and, and_self, implies_true, List.nil_append, List.cons_append, hN]
  refine brW_some (fun h => ?_) (fun h => ?_)
  · have hi' : i < l.length := by simpa using h
    have g1 := getD_encPs hi'
    have hw := wr_succ hi' hl
    have hst := idxF_step (p := fun x => p == x) (d := (0, 0)) hi'
    simp only [V_seq, V_skip, V_block, V_region, V_draw, V_cond, drawW, pairsOf, W_nil, W_cons, WD_nil, WD_cons, effOp2, effOp3, KN_seq, asB, effOp, effPure, pureV, binV, partV, eltV, loadV, iaddrV, strip, lkT, lkH, ISt.app, opI, gO, gB, allB, gval, wrapG, dstOK, setD, eqL, numsOnly, Op.operands, reduceIte, reduceCtorEq, Bool.and_true, Nat.reduceAdd, Nat.reduceLT, Nat.reduceLeDiff, Nat.reduceEqDiff, Nat.zero_add, ne_eq, not_false_eq_true, true_and, and_true, and_false, and_self, implies_true, forall_const, List.nil_append, List.cons_append, List.getD_cons_zero, List.length_cons, List.length_nil, List.take_succ_cons, List.take_nil, List.drop_zero, tab23, tab28, hN, Int.toNat_natCast, el, Int.toNat_natCast, g1, eqP]
    repeat refine And.intro (by first | omega | (simp; done) | (simp; omega)) ?_
    refine brW_some (fun h => ?_) (fun h => ?_)
    · simp only [V_seq, V_ret, V_region, W_nil, W_cons, effOp2, KN_seq, KXr_nil, KXr_seq, KXr_block, KXr_back, QE, effOp, effPure, pureV, strip, lkT, lkH, ISt.app, opI, gO, gB, allB, gval, wrapG, dstOK, setD, clean, Gives, Ideal.Fin, conv, conv0, Op.operands, reduceIte, reduceCtorEq, Nat.reduceLT, Nat.reduceEqDiff, true_and, and_true, and_self, implies_true, List.nil_append, List.cons_append, hN]
      rw [hj, hst]
      exact congrArg _ (if_pos h).symm
    · simp only [V_skip, V_region, W_nil, W_cons, effOp2, KN_seq, KN_block, KN_back, effOp, effPure, pureV, binV, ofC, strip, lkT, ISt.app, opI, gO, gB, allB, gval, wrapG, dstOK, setD, Op.operands, reduceIte, reduceCtorEq, Nat.reduceLT, Nat.reduceEqDiff, true_and, and_self, implies_true, List.nil_append, List.cons_append, hN, hw]
      exact ⟨i + 1, id, ⟨by omega, hj.trans (hst.trans (if_neg (ne_true_of_eq_false h)))⟩, by simp only []; omega, by simp [SLe, SLe0, convTm, convHp, convB, conv, conv0, convL, lkT, lkH, clean]⟩
  · simp only [V_seq, V_ret, V_exit, V_region, W_nil, W_cons, effOp2, KN_seq, KXr_nil, KXe_nil, KXe_seq, KXe_block, KXe_back, QE, effOp, effPure, pureV, ofC, strip, lkT, lkH, ISt.app, opI, gO, gB, allB, gval, wrapG, dstOK, setD, clean, Gives, Ideal.Fin, conv, conv0, Op.operands, reduceIte, reduceCtorEq, Nat.reduceLT, Nat.reduceEqDiff, true_and, and_true, and_self, implies_true, List.nil_append, List.cons_append, hN]
    have hie : i = l.length := by simp at h; omega
    subst hie
    rw [hj]
    simp [idxF]
def sp_slices_Index_impl_Point_impl_Point : PSpec := ⟨fun xs => match xs with | [.sl 2 les, .agg [.num .i64 p1, .num .i64 p2]] => isPs les | _ => False, fun xs => match xs with | [.sl _ les, .agg [.num _ p1, .num _ p2]] => (fun (l : List Pt) (p : Pt) => .num .i64 (idxF (fun x => p == x) l 0)) (toPs les) (p1, p2) | _ => .junk, false⟩
theorem gk_slices_Index_impl_Point_impl_Point : ∀ args, sp_slices_Index_impl_Point_impl_Point.pre args → ICall Try.prog 112 args (sp_slices_Index_impl_Point_impl_Point.val args) := by
  intro args h
  unfold sp_slices_Index_impl_Point_impl_Point at h ⊢; simp only at h ⊢; split at h
  · have h0 := h
    obtain ⟨l0, rfl⟩ := isP_ex h0
    simp only [toPs_enc] at *
    exact c_slices_Index_impl_Point_impl_Point _ (_, _) 
  · exact h.elim
theorem en_slices_Index_impl_Point_impl_Point : Enters Try.prog 112 := enters_of Try.func112 (by kernel_rfl) rfl

def g_slices_Contains_impl_Point_impl_Point : List (Nat × PSpec) := [(112, sp_slices_Index_impl_Point_impl_Point)]
theorem gok_slices_Contains_impl_Point_impl_Point : GOK Try.prog g_slices_Contains_impl_Point_impl_Point := gok_cons gk_slices_Index_impl_Point_impl_Point en_slices_Index_impl_Point_impl_Point (gok0)
theorem lk_slices_Contains_impl_Point_impl_Point_slices_Index_impl_Point_impl_Point : lkG g_slices_Contains_impl_Point_impl_Point 112 = sp_slices_Index_impl_Point_impl_Point := rfl
def h_slices_Contains_impl_Point_impl_Point : List (Nat × HSpec) := []
theorem hok_slices_Contains_impl_Point_impl_Point : HOK Try.prog h_slices_Contains_impl_Point_impl_Point := hok0
theorem c_slices_Contains_impl_Point_impl_Point (l : List Pt) (p : Pt)  : ICall Try.prog 66 [.sl 2 (encPs l), encP p] (.bool (l.any (fun x => p == x))) := by
  refine icall_V (G := g_slices_Contains_impl_Point_impl_Point) (H := []) [] tabOK mixed gok_slices_Contains_impl_Point_impl_Point hok_slices_Contains_impl_Point_impl_Point Try.func66 rfl Try.ntmps66 Try.results66 rfl (by kernel_rfl) fun F hN hlen => ?_
  simp only [V_seq, V_ret, V_region, W_nil, W_cons, effOp2, KN_seq, KXr_nil, QE, effOp, effPure, effNew, effBox, effCall, giveUp, hasAll, skipE, pureV, binV, partV, loadV, solid, IV.cells, ofC, strip, lkT, lkH, ISt.app, opI, gO, gB, allB, gval, wrapG, dstOK, setD, mentTm, mentHp, IV.ment, IV.mentL, oneI, lendV, lendP, lent, lentP, idsV, idsL, lkHS, flat, clean, callArgs, callFn, allLent, enumT, Gives, Ideal.Fin, conv, conv0, Op.operands, reduceIte, reduceCtorEq, cond_true, Bool.or_false, Bool.and_true, Bool.not_true, Nat.reduceAdd, Nat.reduceLT, Nat.reduceLeDiff, Nat.reduceEqDiff, Nat.zero_add, and_false, and_self, implies_true, List.map_cons, List.map_nil, List.nil_append, List.cons_append, List.append_nil, List.all_cons, List.all_nil, List.getD_cons_zero, List.length_cons, List.length_nil, List.take_succ_cons, List.take_nil, List.drop_zero, ex_clo, or_self, tab28, hN, pe, encP, isPs_enc, toPs_enc, lk_slices_Contains_impl_Point_impl_Point_slices_Index_impl_Point_impl_Point, sp_slices_Index_impl_Point_impl_Point, idxF_sign]
def sp_slices_Contains_impl_Point_impl_Point : PSpec := ⟨fun xs => match xs with | [.sl 2 les, .agg [.num .i64 p1, .num .i64 p2]] => isPs les | _ => False, fun xs => match xs with | [.sl _ les, .agg [.num _ p1, .num _ p2]] => (fun (l : List Pt) (p : Pt) => .bool (l.any (fun x => p == x))) (toPs les) (p1, p2) | _ => .junk, false⟩
theorem gk_slices_Contains_impl_Point_impl_Point : ∀ args, sp_slices_Contains_impl_Point_impl_Point.pre args → ICall Try.prog 66 args (sp_slices_Contains_impl_Point_impl_Point.val args) := by
  intro args h
  unfold sp_slices_Contains_impl_Point_impl_Point at h ⊢; simp only at h ⊢; split at h
  · have h0 := h
    obtain ⟨l0, rfl⟩ := isP_ex h0
    simp only [toPs_enc] at *
    exact c_slices_Contains_impl_Point_impl_Point _ (_, _) 
  · exact h.elim
theorem en_slices_Contains_impl_Point_impl_Point : Enters Try.prog 66 := enters_of Try.func66 (by kernel_rfl) rfl

theorem any_idx {α : Type} {f : α → Bool} {l : List α} {i : Nat} (d : α) (hi : i < l.length) : (l.drop i).any f = (f (l.getD i d) || (l.drop (i + 1)).any f) := by
  rw [drop_eq_g (d := d) hi, List.any_cons]
def g_spec_has : List (Nat × PSpec) := []
theorem gok_spec_has : GOK Try.prog g_spec_has := gok0
def h_spec_has : List (Nat × HSpec) := []
theorem hok_spec_has : HOK Try.prog h_spec_has := hok0
theorem c_spec_has (l : List Pt) (p : Pt)  : ICall Try.prog 59 [.sl 2 (encPs l), encP p] (.bool (l.any (fun x => p == x))) := by
  refine icall_V (G := g_spec_has) (H := []) [] tabOK mixed gok_spec_has hok_spec_has Try.func59 rfl Try.ntmps59 Try.results59 rfl (by kernel_rfl) fun F hN hlen => ?_
  have hl := hlen 0 2 _ rfl
  have el := len_encPs l
  rw [el] at hl
  simp only [V_seq, V_block, V_region, W_nil, W_cons, effOp2, KN_seq, effOp, effPure, effNew, effBox, skipE, pureV, solid, IV.cells, ofC, strip, lkT, ISt.app, opI, gO, gB, allB, gval, wrapG, dstOK, setD, mentTm, mentHp, IV.ment, IV.mentL, oneI, enumT, Op.operands, reduceIte, reduceCtorEq, cond_true, Bool.or_false, Bool.and_true, Nat.reduceLT, Nat.zero_add, true_and, and_self, implies_true, List.nil_append, List.cons_append, List.append_nil, List.all_cons, List.all_nil, hN, encP]
  refine V_loop (α := Nat) ⟨tabOK, mixed, gok_spec_has, hok_spec_has⟩ (by kernel_rfl) (fun i => i ≤ l.length ∧ l.any (fun x => p == x) = (l.drop i).any (fun x => p == x))
    (fun i => ⟨[(5, .num .i64 i), (3, .ptr 3 0), (0, .sl 2 (encPs l))], [(3, some (.box 28 [.num .i64 p.1, .num .i64 p.2]))]⟩) (fun i => l.length - i) 0 id (by simp) (by simp [SLe, SLe0, convTm, convHp, convB, conv, conv0, convL, lkT, lkH, clean]) ?_
  rintro i ⟨hi, hj⟩
  simp only [V_seq, V_region, V_cond, W_nil, W_cons, effOp2, KN_seq, asB, effOp, effPure, pureV, binV, lenV, strip, lkT, ISt.app, opI, gO, gB, allB, gval, wrapG, dstOK, setD, Op.operands, Call.operands, List.append_toArray, reduceIte, reduceCtorEq, Nat.reduceLT, Nat.reduceEqDiff, ne_eq, not_false_eq_true, true_and, and_self, implies_true, List.nil_append, List.cons_append, tab23, hN, el]
  refine brW_some (fun h => ?_) (fun h => ?_)
  · have hi' : i < l.length := by simpa using h
    have g1 := getD_encPs hi'
    have hw := wr_succ hi' hl
    have hst := any_idx (f := fun x => p == x) (0, 0) hi'
    have hsw : (pAt l i == p) = (p == pAt l i) := by rw [Bool.eq_iff_iff]; simp only [beq_iff_eq]; exact ⟨Eq.symm, Eq.symm⟩
    simp only [V_seq, V_skip, V_block, V_draw, V_cond, drawW, pairsOf, WD_nil, WD_cons, effOp3, KN_seq, asB, effOp, effPure, pureV, binV, partV, eltV, loadV, iaddrV, strip, lkT, lkH, ISt.app, opI, gO, gB, allB, gval, wrapG, dstOK, setD, eqL, numsOnly, Op.operands, reduceIte, reduceCtorEq, Bool.and_true, Nat.reduceAdd, Nat.reduceLT, Nat.reduceLeDiff, Nat.reduceEqDiff, Nat.zero_add, ne_eq, not_false_eq_true, true_and, and_true, and_false, and_self, implies_true, forall_const, List.nil_append, List.cons_append, List.getD_cons_zero, List.length_cons, List.length_nil, List.take_succ_cons, List.take_nil, List.drop_zero, tab23, tab28, hN, Int.toNat_natCast, el, Int.toNat_natCast, g1, eqP, hsw]
    repeat refine And.intro (by first | omega | (simp; done) | (simp; omega)) ?_
    refine brW_some (fun h => ?_) (fun h => ?_)
    · have e : l.any (fun x => p == x) = true := by rw [hj, hst, show (p == l.getD i (0, 0)) = true from h]; rfl
      simp only [V_seq, V_ret, V_region, W_nil, W_cons, effOp2, KN_seq, KXr_nil, KXr_seq, KXr_block, KXr_back, QE, effOp, effPure, pureV, ofC, strip, lkT, lkH, ISt.app, opI, gO, gB, allB, gval, wrapG, dstOK, setD, clean, Gives, Ideal.Fin, conv, conv0, Op.operands, reduceIte, reduceCtorEq, Nat.reduceLT, Nat.reduceEqDiff, and_self, implies_true, List.nil_append, List.cons_append, hN, e]
    · have e : l.any (fun x => p == x) = (l.drop (i + 1)).any (fun x => p == x) := by rw [hj, hst, show (p == l.getD i (0, 0)) = false from h]; rfl
      simp only [V_skip, V_region, W_nil, W_cons, effOp2, KN_seq, KN_block, KN_back, effOp, effPure, pureV, binV, ofC, strip, lkT, ISt.app, opI, gO, gB, allB, gval, wrapG, dstOK, setD, Op.operands, reduceIte, reduceCtorEq, Nat.reduceLT, Nat.reduceEqDiff, true_and, and_self, implies_true, List.nil_append, List.cons_append, hN, hw]
      exact ⟨i + 1, id, ⟨by omega, e⟩, by simp only []; omega, by simp [SLe, SLe0, convTm, convHp, convB, conv, conv0, convL, lkT, lkH, clean]⟩
  · have hie : i = l.length := by simp at h; omega
    subst hie
    have e : l.any (fun x => p == x) = false := by rw [hj, List.drop_length]; rfl
    simp only [V_seq, V_ret, V_exit, V_region, W_nil, W_cons, effOp2, KN_seq, KXr_nil, KXe_nil, KXe_seq, KXe_block, KXe_back, QE, effOp, effPure, pureV, ofC, strip, lkT, lkH, ISt.app, opI, gO, gB, allB, gval, wrapG, dstOK, setD, clean, Gives, Ideal.Fin, conv, conv0, Op.operands, reduceIte, reduceCtorEq, Nat.reduceLT, Nat.reduceEqDiff, and_self, implies_true, List.nil_append, List.cons_append, hN, e]
def sp_spec_has : PSpec := ⟨fun xs => match xs with | [.sl 2 les, .agg [.num .i64 p1, .num .i64 p2]] => isPs les | _ => False, fun xs => match xs with | [.sl _ les, .agg [.num _ p1, .num _ p2]] => (fun (l : List Pt) (p : Pt) => .bool (l.any (fun x => p == x))) (toPs les) (p1, p2) | _ => .junk, false⟩
theorem gk_spec_has : ∀ args, sp_spec_has.pre args → ICall Try.prog 59 args (sp_spec_has.val args) := by
  intro args h
  unfold sp_spec_has at h ⊢; simp only at h ⊢; split at h
  · have h0 := h
    obtain ⟨l0, rfl⟩ := isP_ex h0
    simp only [toPs_enc] at *
    exact c_spec_has _ (_, _) 
  · exact h.elim
theorem en_spec_has : Enters Try.prog 59 := enters_of Try.func59 (by kernel_rfl) rfl

/-- Is a point not in a list? -/
def outL (l : List Pt) (p : Pt) : Bool := !l.any (fun x => p == x)
def g_impl_CheckHull_1 : List (Nat × PSpec) := [(66, sp_slices_Contains_impl_Point_impl_Point)]
theorem gok_impl_CheckHull_1 : GOK Try.prog g_impl_CheckHull_1 := gok_cons gk_slices_Contains_impl_Point_impl_Point en_slices_Contains_impl_Point_impl_Point (gok0)
theorem lk_impl_CheckHull_1_slices_Contains_impl_Point_impl_Point : lkG g_impl_CheckHull_1 66 = sp_slices_Contains_impl_Point_impl_Point := rfl
def h_impl_CheckHull_1 : List (Nat × HSpec) := []
theorem hok_impl_CheckHull_1 : HOK Try.prog h_impl_CheckHull_1 := hok0
theorem c_impl_CheckHull_1 (p : Pt) (l : List Pt) (hz : l.length ≤ 1000000) : HCall Try.prog 65 [.agg [.num .i64 p.1, .num .i64 p.2], .ptr 1000 0] (sm ([(1000, .box 23 [.sl 2 (encPs l)])])) (.bool (outL l p)) (sm ([(1000, .box 23 [.sl 2 (encPs l)])])) := by
  refine hcall_V (G := g_impl_CheckHull_1) (H := []) [] tabOK mixed gok_impl_CheckHull_1 hok_impl_CheckHull_1 Try.func65 rfl Try.ntmps65 Try.results65 rfl (by kernel_rfl) fun F hN hlen => ?_
  simp only [sm]
  have hv : outL l p = !l.any (fun x => p == x) := rfl
  simp only [V_seq, V_ret, V_region, W_nil, W_cons, effOp2, KN_seq, KXr_nil, QE, effOp, effPure, effNew, effBox, effCall, giveUp, hasAll, skipE, pureV, partV, loadV, solid, IV.cells, ofC, strip, lkT, lkH, ISt.app, opI, gO, gB, allB, gval, wrapG, dstOK, setD, mentTm, mentHp, IV.ment, IV.mentL, oneI, lendV, lendP, lent, lentP, idsV, idsL, lkHS, flat, clean, callArgs, callFn, allLent, enumT, conv, conv0, Op.operands, reduceIte, reduceCtorEq, cond_true, Bool.or_false, Bool.and_true, Bool.not_true, Nat.reduceAdd, Nat.reduceLT, Nat.reduceLeDiff, Nat.reduceEqDiff, Nat.reduceBEq, Nat.zero_add, true_and, and_true, and_false, and_self, false_implies, implies_true, List.map_cons, List.map_nil, List.nil_append, List.cons_append, List.append_nil, List.all_cons, List.all_nil, List.getD_cons_zero, List.length_cons, List.length_nil, List.take_succ_cons, List.take_nil, List.drop_zero, ex_clo, or_self, tab23, tab28, hN, pe, isPs_enc, toPs_enc, FinH, resA, resV, SLe, SLe0, convTm, convHp, convB, lk_impl_CheckHull_1_slices_Contains_impl_Point_impl_Point, sp_slices_Contains_impl_Point_impl_Point, hv]
  exact ⟨id, by simp [convL, conv, conv0]⟩
def hs_impl_CheckHull_1 : HSpec := ⟨[false, false], fun xs hp => match xs, hp with | [.agg [.num .i64 p1, .num .i64 p2], .ptr 1000 0], [(1000, .box ty [.sl 2 es])] => (isPs es) ∧ (ty = 23) ∧ ((fun (p : Pt) (l : List Pt) => l.length ≤ 1000000) (p1, p2) (toPs es)) | _, _ => False, fun xs hp => match xs, hp with | [.agg [.num .i64 p1, .num .i64 p2], .ptr 1000 0], [(1000, .box ty [.sl 2 es])] => (fun (p : Pt) (l : List Pt) => (.bool (outL l p) : IV)) (p1, p2) (toPs es) | _, _ => .junk, fun xs hp => match xs, hp with | [.agg [.num .i64 p1, .num .i64 p2], .ptr 1000 0], [(1000, .box ty [.sl 2 es])] => (fun (p : Pt) (l : List Pt) => ([(1000, .box 23 [.sl 2 (encPs l)])] : List (Nat × IBlk))) (p1, p2) (toPs es) | _, _ => []⟩
theorem hk_impl_CheckHull_1 : ∀ args hp, hs_impl_CheckHull_1.pre args hp → HCall Try.prog 65 args (sm hp) (hs_impl_CheckHull_1.val args hp) (sm (hs_impl_CheckHull_1.hval args hp)) := by
  intro args hp h
  unfold hs_impl_CheckHull_1 at h ⊢; simp only at h ⊢; split at h
  · obtain ⟨h1, rfl, h2⟩ := h; obtain ⟨l, rfl⟩ := isP_ex h1; rw [toPs_enc] at *; exact c_impl_CheckHull_1 (_, _) l h2
  · exact h.elim
theorem en_impl_CheckHull_1 : Enters Try.prog 65 := enters_of Try.func65 (by kernel_rfl) rfl

def g_slices_IndexFunc_impl_Point_impl_Point_ck : List (Nat × PSpec) := []
theorem gok_slices_IndexFunc_impl_Point_impl_Point_ck : GOK Try.prog g_slices_IndexFunc_impl_Point_impl_Point_ck := gok0
def h_slices_IndexFunc_impl_Point_impl_Point_ck : List (Nat × HSpec) := [(65, hs_impl_CheckHull_1)]
theorem hok_slices_IndexFunc_impl_Point_impl_Point_ck : HOK Try.prog h_slices_IndexFunc_impl_Point_impl_Point_ck := hok_cons hk_impl_CheckHull_1 en_impl_CheckHull_1 (hok0)
theorem lh_slices_IndexFunc_impl_Point_impl_Point_ck_impl_CheckHull_1 : lkHS h_slices_IndexFunc_impl_Point_impl_Point_ck 65 = some hs_impl_CheckHull_1 := rfl
theorem c_slices_IndexFunc_impl_Point_impl_Point_ck (m : List Pt) (l : List Pt) (hz : l.length ≤ 1000000) (hsz : m.length ≤ 1000000) : HCall Try.prog 111 [.sl 2 (encPs m), .clo 65 [.ptr 1000 0]] (sm ([(1000, .box 23 [.sl 2 (encPs l)])])) (.num .i64 (idxF (outL l) m 0)) (sm ([(1000, .box 23 [.sl 2 (encPs l)])])) := by
  refine hcall_V (G := g_slices_IndexFunc_impl_Point_impl_Point_ck) (H := h_slices_IndexFunc_impl_Point_impl_Point_ck) [] tabOK mixed gok_slices_IndexFunc_impl_Point_impl_Point_ck hok_slices_IndexFunc_impl_Point_impl_Point_ck Try.func111 rfl Try.ntmps111 Try.results111 rfl (by kernel_rfl) fun F hN hlen => ?_
  simp only [sm]
  have el := len_encPs m
  simp only [V_seq, V_block, V_region, W_nil, W_cons, effOp2, KN_seq, effOp, effPure, pureV, lenV, ofC, strip, lkT, ISt.app, opI, gO, gB, allB, gval, wrapG, dstOK, setD, enumT, Op.operands, Call.operands, List.append_toArray, reduceIte, reduceCtorEq, Nat.reduceLT, Nat.reduceEqDiff, Nat.zero_add, ne_eq, not_false_eq_true, true_and, and_self, implies_true, List.nil_append, List.cons_append, tab23, hN, el]
  refine V_loop (α := Nat) ⟨tabOK, mixed, gok_slices_IndexFunc_impl_Point_impl_Point_ck, hok_slices_IndexFunc_impl_Point_impl_Point_ck⟩ (by kernel_rfl) (fun i => i ≤ m.length ∧ idxF (outL l) m 0 = idxF (outL l) (m.drop i) i)
    (fun i => ⟨[(8, .num .i64 i), (7, .num .i64 m.length), (0, .sl 2 (encPs m)), (1, .clo 65 [.ptr 1000 0])], [(1000, some (.box 23 [.sl 2 (encPs l)]))]⟩) (fun i => m.length - i) 0 id (by simp) (by simp [SLe, SLe0, convTm, convHp, convB, conv, conv0, convL, lkT, lkH, clean]) ?_
  rintro i ⟨hi2, hj⟩
  simp only [V_seq, V_region, V_cond, W_nil, W_cons, effOp2, KN_seq, asB, effOp, effPure, pureV, binV, strip, lkT, ISt.app, opI, gO, gB, allB, gval, wrapG, dstOK, setD, Op.operands, reduceIte, reduceCtorEq, Nat.reduceLT, Nat.reduceEqDiff, true_and, and_self, implies_true, List.nil_append, List.cons_append, hN]
  refine brW_some (fun h => ?_) (fun h => ?_)
  · have hi' : i < m.length := by simpa using h
    have g0 := getD_encPs hi'
    have hw := wr_succ hi' (by rw [maxLen_eq]; omega)
    have hst := idxF_step (p := outL l) (d := (0, 0)) hi'
    have hpt : m.getD i (0, 0) = pAt m i := rfl
    rw [hpt] at hst
    generalize pAt m i = z at *
    simp only [V_seq, V_skip, V_block, V_region, V_cond, W_nil, W_cons, effOp2, KN_seq, asB, effOp, effPure, Option.isSome_some, skipE, pureV, partV, eltV, loadV, iaddrV, strip, lkT, lkH, ISt.app, opI, gO, gB, allB, gval, wrapG, dstOK, setD, mentTm, mentHp, IV.ment, IV.mentL, idsV, idsL, clean, callArgs, callFn, enumT, conv, conv0, convL, IBlk.shape, Op.operands, reduceIte, reduceCtorEq, cond_true, cond_false, Bool.or_false, Bool.or_true, Bool.and_true, Nat.reduceAdd, Nat.reduceSub, Nat.reduceMul, Nat.reduceLT, Nat.reduceLeDiff, Nat.reduceEqDiff, Nat.zero_add, ne_eq, not_false_eq_true, beq_self_eq_true, true_and, and_true, and_false, and_self, implies_true, forall_const, List.map_cons, List.map_nil, List.nil_append, List.cons_append, List.append_nil, List.all_nil, Option.map_some, List.getD_cons_zero, List.length_cons, List.length_nil, List.take_succ_cons, List.take_nil, List.drop_zero, ex_clo, Bool.true_eq_false, Bool.false_eq_true, tab23, tab28, hN, pe, Int.toNat_natCast, isPs_enc, toPs_enc, SLe0, convTm, convHp, convB, sm, effH, mkHC0, mkHC1, lendM, lentM, lentI, allHere, addIds, idsB, flatIds, reach, posn, renV, renL, renB, renH, numB, subHp, fwd, bk, bwd, nones, keyOK, noSl, noSlL, flatBs, List.contains, List.elem, Option.isSome_some, List.nodup_nil, List.nodup_cons, List.not_mem_nil, or_false, Option.getD_some, lh_slices_IndexFunc_impl_Point_impl_Point_ck_impl_CheckHull_1, hs_impl_CheckHull_1, el, g0, hz]
    refine ⟨⟨by omega, by omega⟩, brW_some (fun h => ?_) (fun h => ?_)⟩
    · rw [if_pos h, ← hj] at hst
      simp only [V_seq, V_ret, V_region, W_nil, W_cons, effOp2, KN_seq, KXr_nil, KXr_seq, KXr_block, KXr_back, QE, effOp, effPure, pureV, strip, lkT, lkH, ISt.app, opI, gO, gB, allB, gval, wrapG, dstOK, setD, clean, conv, conv0, Op.operands, reduceIte, reduceCtorEq, Nat.reduceLT, Nat.reduceEqDiff, not_false_eq_true, true_and, and_true, and_self, false_implies, implies_true, List.map_cons, List.map_nil, List.nil_append, List.cons_append, hN, FinH, resA, resV, SLe, SLe0, convTm, convHp, convB, List.nodup_nil, List.nodup_cons, List.not_mem_nil, hst]
      exact ⟨id, by simp [convL, conv, conv0]⟩
    · rw [if_neg (by rw [h]; decide), ← hj] at hst
      simp only [V_skip, V_region, W_nil, W_cons, effOp2, KN_seq, KN_block, KN_back, effOp, effPure, pureV, binV, ofC, strip, lkT, ISt.app, opI, gO, gB, allB, gval, wrapG, dstOK, setD, Op.operands, reduceIte, reduceCtorEq, Nat.reduceLT, Nat.reduceEqDiff, true_and, and_self, implies_true, List.nil_append, List.cons_append, hN, hw]
      exact ⟨i + 1, id, ⟨by omega, hst⟩, by simp only []; omega, by simp [SLe, SLe0, convTm, convHp, convB, conv, conv0, convL, lkT, lkH, clean]⟩
  · have hie : i = m.length := by simp at h; omega
    subst hie
    rw [List.drop_length] at hj
    simp only [V_seq, V_ret, V_exit, V_region, W_nil, W_cons, effOp2, KN_seq, KXr_nil, KXe_nil, KXe_seq, KXe_block, KXe_back, QE, effOp, effPure, pureV, ofC, strip, lkT, lkH, ISt.app, opI, gO, gB, allB, gval, wrapG, dstOK, setD, clean, conv, conv0, Op.operands, reduceIte, reduceCtorEq, Nat.reduceLT, Nat.reduceEqDiff, not_false_eq_true, true_and, and_true, and_self, false_implies, implies_true, List.map_cons, List.map_nil, List.nil_append, List.cons_append, hN, FinH, resA, resV, SLe, SLe0, convTm, convHp, convB, List.nodup_nil, List.nodup_cons, List.not_mem_nil, hj, idxF]
    exact ⟨id, by simp [convL, conv, conv0]⟩
def hs_slices_IndexFunc_impl_Point_impl_Point_ck : HSpec := ⟨[true, false], fun xs hp => match xs, hp with | [.sl 2 ms, .clo 65 [.ptr 1000 0]], [(1000, .box ty [.sl 2 es])] => (isPs ms) ∧ (isPs es) ∧ (ty = 23) ∧ ((fun (m : List Pt) (l : List Pt) => l.length ≤ 1000000) (toPs ms) (toPs es)) ∧ ((fun (m : List Pt) (l : List Pt) => m.length ≤ 1000000) (toPs ms) (toPs es)) | _, _ => False, fun xs hp => match xs, hp with | [.sl 2 ms, .clo 65 [.ptr 1000 0]], [(1000, .box ty [.sl 2 es])] => (fun (m : List Pt) (l : List Pt) => (.num .i64 (idxF (outL l) m 0) : IV)) (toPs ms) (toPs es) | _, _ => .junk, fun xs hp => match xs, hp with | [.sl 2 ms, .clo 65 [.ptr 1000 0]], [(1000, .box ty [.sl 2 es])] => (fun (m : List Pt) (l : List Pt) => ([(1000, .box 23 [.sl 2 (encPs l)])] : List (Nat × IBlk))) (toPs ms) (toPs es) | _, _ => []⟩
theorem hk_slices_IndexFunc_impl_Point_impl_Point_ck : ∀ args hp, hs_slices_IndexFunc_impl_Point_impl_Point_ck.pre args hp → HCall Try.prog 111 args (sm hp) (hs_slices_IndexFunc_impl_Point_impl_Point_ck.val args hp) (sm (hs_slices_IndexFunc_impl_Point_impl_Point_ck.hval args hp)) := by
  intro args hp h
  unfold hs_slices_IndexFunc_impl_Point_impl_Point_ck at h ⊢; simp only at h ⊢; split at h
  · obtain ⟨h0, h1, rfl, h2, h3⟩ := h; obtain ⟨m, rfl⟩ := isP_ex h0; obtain ⟨l, rfl⟩ := isP_ex h1; rw [toPs_enc, toPs_enc] at *; exact c_slices_IndexFunc_impl_Point_impl_Point_ck m l h2 h3
  · exact h.elim
theorem en_slices_IndexFunc_impl_Point_impl_Point_ck : Enters Try.prog 111 := enters_of Try.func111 (by kernel_rfl) rfl

def g_slices_ContainsFunc_impl_Point_impl_Point_ck : List (Nat × PSpec) := []
theorem gok_slices_ContainsFunc_impl_Point_impl_Point_ck : GOK Try.prog g_slices_ContainsFunc_impl_Point_impl_Point_ck := gok0
def h_slices_ContainsFunc_impl_Point_impl_Point_ck : List (Nat × HSpec) := [(111, hs_slices_IndexFunc_impl_Point_impl_Point_ck)]
theorem hok_slices_ContainsFunc_impl_Point_impl_Point_ck : HOK Try.prog h_slices_ContainsFunc_impl_Point_impl_Point_ck := hok_cons hk_slices_IndexFunc_impl_Point_impl_Point_ck en_slices_IndexFunc_impl_Point_impl_Point_ck (hok0)
theorem lh_slices_ContainsFunc_impl_Point_impl_Point_ck_slices_IndexFunc_impl_Point_impl_Point_ck : lkHS h_slices_ContainsFunc_impl_Point_impl_Point_ck 111 = some hs_slices_IndexFunc_impl_Point_impl_Point_ck := rfl
theorem c_slices_ContainsFunc_impl_Point_impl_Point_ck (m : List Pt) (l : List Pt) (hz : l.length ≤ 1000000) (hsz : m.length ≤ 1000000) : HCall Try.prog 64 [.sl 2 (encPs m), .clo 65 [.ptr 1000 0]] (sm ([(1000, .box 23 [.sl 2 (encPs l)])])) (.bool (m.any (outL l))) (sm ([(1000, .box 23 [.sl 2 (encPs l)])])) := by
  refine hcall_V (G := g_slices_ContainsFunc_impl_Point_impl_Point_ck) (H := h_slices_ContainsFunc_impl_Point_impl_Point_ck) [] tabOK mixed gok_slices_ContainsFunc_impl_Point_impl_Point_ck hok_slices_ContainsFunc_impl_Point_impl_Point_ck Try.func64 rfl Try.ntmps64 Try.results64 rfl (by kernel_rfl) fun F hN hlen => ?_
  simp only [sm]
  simp only [V_seq, V_ret, V_region, W_nil, W_cons, effOp2, KN_seq, KXr_nil, QE, effOp, effPure, Option.isSome_some, skipE, pureV, binV, ofC, strip, lkT, lkH, ISt.app, opI, gO, gB, allB, gval, wrapG, dstOK, setD, mentTm, mentHp, IV.ment, IV.mentL, lendV, lendP, lent, lentP, idsV, idsL, clean, callArgs, callFn, enumT, conv, conv0, convL, IBlk.shape, Op.operands, reduceIte, reduceCtorEq, cond_true, cond_false, Bool.or_false, Bool.or_true, Bool.and_true, Nat.reduceAdd, Nat.reduceSub, Nat.reduceMul, Nat.reduceLT, Nat.reduceLeDiff, Nat.reduceEqDiff, Nat.zero_add, not_false_eq_true, beq_self_eq_true, true_and, and_true, and_false, and_self, false_implies, implies_true, List.map_cons, List.map_nil, List.nil_append, List.cons_append, List.append_nil, List.all_nil, Option.map_some, List.getD_cons_zero, ex_clo, Bool.true_eq_false, Bool.false_eq_true, hN, isPs_enc, toPs_enc, FinH, resA, resV, SLe, SLe0, convTm, convHp, convB, sm, effH, mkHC0, mkHC1, lendM, lentM, lentI, allHere, addIds, idsB, flatIds, reach, posn, renV, renL, renB, renH, numB, subHp, fwd, bk, bwd, nones, keyOK, noSl, noSlL, flatBs, List.contains, List.elem, Option.isSome_some, List.nodup_nil, List.nodup_cons, List.not_mem_nil, or_false, Option.getD_some, lh_slices_ContainsFunc_impl_Point_impl_Point_ck_slices_IndexFunc_impl_Point_impl_Point_ck, hs_slices_IndexFunc_impl_Point_impl_Point_ck, hz, hsz, idxF_sign]
  exact ⟨id, by simp [convL, conv, conv0]⟩
def hs_slices_ContainsFunc_impl_Point_impl_Point_ck : HSpec := ⟨[true, false], fun xs hp => match xs, hp with | [.sl 2 ms, .clo 65 [.ptr 1000 0]], [(1000, .box ty [.sl 2 es])] => (isPs ms) ∧ (isPs es) ∧ (ty = 23) ∧ ((fun (m : List Pt) (l : List Pt) => l.length ≤ 1000000) (toPs ms) (toPs es)) ∧ ((fun (m : List Pt) (l : List Pt) => m.length ≤ 1000000) (toPs ms) (toPs es)) | _, _ => False, fun xs hp => match xs, hp with | [.sl 2 ms, .clo 65 [.ptr 1000 0]], [(1000, .box ty [.sl 2 es])] => (fun (m : List Pt) (l : List Pt) => (.bool (m.any (outL l)) : IV)) (toPs ms) (toPs es) | _, _ => .junk, fun xs hp => match xs, hp with | [.sl 2 ms, .clo 65 [.ptr 1000 0]], [(1000, .box ty [.sl 2 es])] => (fun (m : List Pt) (l : List Pt) => ([(1000, .box 23 [.sl 2 (encPs l)])] : List (Nat × IBlk))) (toPs ms) (toPs es) | _, _ => []⟩
theorem hk_slices_ContainsFunc_impl_Point_impl_Point_ck : ∀ args hp, hs_slices_ContainsFunc_impl_Point_impl_Point_ck.pre args hp → HCall Try.prog 64 args (sm hp) (hs_slices_ContainsFunc_impl_Point_impl_Point_ck.val args hp) (sm (hs_slices_ContainsFunc_impl_Point_impl_Point_ck.hval args hp)) := by
  intro args hp h
  unfold hs_slices_ContainsFunc_impl_Point_impl_Point_ck at h ⊢; simp only at h ⊢; split at h
  · obtain ⟨h0, h1, rfl, h2, h3⟩ := h; obtain ⟨m, rfl⟩ := isP_ex h0; obtain ⟨l, rfl⟩ := isP_ex h1; rw [toPs_enc, toPs_enc] at *; exact c_slices_ContainsFunc_impl_Point_impl_Point_ck m l h2 h3
  · exact h.elim
theorem en_slices_ContainsFunc_impl_Point_impl_Point_ck : Enters Try.prog 64 := enters_of Try.func64 (by kernel_rfl) rfl


/-! indices of a list -/
def outI (l : List Pt) (k : Int) : Bool := !inR k 0 ((l.length : Int) - 1)
def g_impl_CheckHull_2 : List (Nat × PSpec) := [(69, sp_impl_within)]
theorem gok_impl_CheckHull_2 : GOK Try.prog g_impl_CheckHull_2 := gok_cons gk_impl_within en_impl_within (gok0)
theorem lk_impl_CheckHull_2_impl_within : lkG g_impl_CheckHull_2 69 = sp_impl_within := rfl
def h_impl_CheckHull_2 : List (Nat × HSpec) := []
theorem hok_impl_CheckHull_2 : HOK Try.prog h_impl_CheckHull_2 := hok0
theorem c_impl_CheckHull_2 (k : Int) (l : List Pt) (hz : l.length ≤ 1000000) : HCall Try.prog 68 [.num .i64 k, .ptr 1000 0] (sm ([(1000, .box 23 [.sl 2 (encPs l)])])) (.bool (outI l k)) (sm ([(1000, .box 23 [.sl 2 (encPs l)])])) := by
  refine hcall_V (G := g_impl_CheckHull_2) (H := []) [] tabOK mixed gok_impl_CheckHull_2 hok_impl_CheckHull_2 Try.func68 rfl Try.ntmps68 Try.results68 rfl (by kernel_rfl) fun F hN hlen => ?_
  simp only [sm]
  have el := len_encPs l
  have w0 : IntKind.i64.wrap ((l.length : Int) - 1) = (l.length : Int) - 1 := wr (by omega) (by omega)
  have hv : outI l k = !inR k 0 ((l.length : Int) - 1) := rfl
  simp only [V_seq, V_ret, V_region, W_nil, W_cons, effOp2, KN_seq, KXr_nil, QE, effOp, effPure, effCall, giveUp, hasAll, pureV, binV, partV, loadV, lenV, ofC, strip, lkT, lkH, ISt.app, opI, gO, gB, allB, gval, wrapG, dstOK, setD, lendV, lendP, lent, lentP, idsV, idsL, lkHS, flat, clean, callArgs, callFn, allLent, enumT, conv, conv0, Op.operands, Call.operands, List.append_toArray, reduceIte, reduceCtorEq, cond_true, Bool.or_false, Bool.not_true, Nat.reduceLT, Nat.reduceLeDiff, Nat.reduceEqDiff, Nat.zero_add, ne_eq, not_false_eq_true, true_and, and_true, and_self, false_implies, implies_true, List.map_cons, List.map_nil, List.nil_append, List.cons_append, List.append_nil, List.getD_cons_zero, List.length_cons, List.length_nil, List.take_succ_cons, List.take_nil, List.drop_zero, ex_clo, or_self, tab23, hN, FinH, resA, resV, SLe, SLe0, convTm, convHp, convB, lk_impl_CheckHull_2_impl_within, sp_impl_within, el, w0, hv]
  exact ⟨id, by simp [convL, conv, conv0]⟩
def hs_impl_CheckHull_2 : HSpec := ⟨[false, false], fun xs hp => match xs, hp with | [.num .i64 k, .ptr 1000 0], [(1000, .box ty [.sl 2 es])] => (isPs es) ∧ (ty = 23) ∧ ((fun (k : Int) (l : List Pt) => l.length ≤ 1000000) k (toPs es)) | _, _ => False, fun xs hp => match xs, hp with | [.num .i64 k, .ptr 1000 0], [(1000, .box ty [.sl 2 es])] => (fun (k : Int) (l : List Pt) => (.bool (outI l k) : IV)) k (toPs es) | _, _ => .junk, fun xs hp => match xs, hp with | [.num .i64 k, .ptr 1000 0], [(1000, .box ty [.sl 2 es])] => (fun (k : Int) (l : List Pt) => ([(1000, .box 23 [.sl 2 (encPs l)])] : List (Nat × IBlk))) k (toPs es) | _, _ => []⟩
theorem hk_impl_CheckHull_2 : ∀ args hp, hs_impl_CheckHull_2.pre args hp → HCall Try.prog 68 args (sm hp) (hs_impl_CheckHull_2.val args hp) (sm (hs_impl_CheckHull_2.hval args hp)) := by
  intro args hp h
  unfold hs_impl_CheckHull_2 at h ⊢; simp only at h ⊢; split at h
  · obtain ⟨h1, rfl, h2⟩ := h; obtain ⟨l, rfl⟩ := isP_ex h1; rw [toPs_enc] at *; exact c_impl_CheckHull_2 _ l h2
  · exact h.elim
theorem en_impl_CheckHull_2 : Enters Try.prog 68 := enters_of Try.func68 (by kernel_rfl) rfl

def g_slices_IndexFunc_int_int_ck : List (Nat × PSpec) := []
theorem gok_slices_IndexFunc_int_int_ck : GOK Try.prog g_slices_IndexFunc_int_int_ck := gok0
def h_slices_IndexFunc_int_int_ck : List (Nat × HSpec) := [(68, hs_impl_CheckHull_2)]
theorem hok_slices_IndexFunc_int_int_ck : HOK Try.prog h_slices_IndexFunc_int_int_ck := hok_cons hk_impl_CheckHull_2 en_impl_CheckHull_2 (hok0)
theorem lh_slices_IndexFunc_int_int_ck_impl_CheckHull_2 : lkHS h_slices_IndexFunc_int_int_ck 68 = some hs_impl_CheckHull_2 := rfl
theorem c_slices_IndexFunc_int_int_ck (w : List Int) (l : List Pt) (hz : l.length ≤ 1000000) (hsz : w.length ≤ 2000000) : HCall Try.prog 113 [.sl 1 (encI w), .clo 68 [.ptr 1000 0]] (sm ([(1000, .box 23 [.sl 2 (encPs l)])])) (.num .i64 (idxF (outI l) w 0)) (sm ([(1000, .box 23 [.sl 2 (encPs l)])])) := by
  refine hcall_V (G := g_slices_IndexFunc_int_int_ck) (H := h_slices_IndexFunc_int_int_ck) [] tabOK mixed gok_slices_IndexFunc_int_int_ck hok_slices_IndexFunc_int_int_ck Try.func113 rfl Try.ntmps113 Try.results113 rfl (by kernel_rfl) fun F hN hlen => ?_
  simp only [sm]
  have el := len_encI w
  simp only [V_seq, V_block, V_region, W_nil, W_cons, effOp2, KN_seq, effOp, effPure, pureV, lenV, ofC, strip, lkT, ISt.app, opI, gO, gB, allB, gval, wrapG, dstOK, setD, enumT, Op.operands, Call.operands, List.append_toArray, reduceIte, reduceCtorEq, Nat.reduceLT, Nat.reduceEqDiff, Nat.zero_add, ne_eq, not_false_eq_true, true_and, and_self, implies_true, List.nil_append, List.cons_append, tab72, hN, el]
  refine V_loop (α := Nat) ⟨tabOK, mixed, gok_slices_IndexFunc_int_int_ck, hok_slices_IndexFunc_int_int_ck⟩ (by kernel_rfl) (fun i => i ≤ w.length ∧ idxF (outI l) w 0 = idxF (outI l) (w.drop i) i)
    (fun i => ⟨[(8, .num .i64 i), (7, .num .i64 w.length), (0, .sl 1 (encI w)), (1, .clo 68 [.ptr 1000 0])], [(1000, some (.box 23 [.sl 2 (encPs l)]))]⟩) (fun i => w.length - i) 0 id (by simp) (by simp [SLe, SLe0, convTm, convHp, convB, conv, conv0, convL, lkT, lkH, clean]) ?_
  rintro i ⟨hi2, hj⟩
  simp only [V_seq, V_region, V_cond, W_nil, W_cons, effOp2, KN_seq, asB, effOp, effPure, pureV, binV, strip, lkT, ISt.app, opI, gO, gB, allB, gval, wrapG, dstOK, setD, Op.operands, reduceIte, reduceCtorEq, Nat.reduceLT, Nat.reduceEqDiff, true_and, and_self, implies_true, List.nil_append, List.cons_append, hN]
  refine brW_some (fun h => ?_) (fun h => ?_)
  · have hi' : i < w.length := by simpa using h
    have g0 := getD_encI hi'
    have hw := wr_succ hi' (by rw [maxLen_eq]; omega)
    have hst := idxF_step (p := outI l) (d := 0) hi'
    generalize w.getD i 0 = z at *
    simp only [V_seq, V_skip, V_block, V_region, V_cond, W_nil, W_cons, effOp2, KN_seq, asB, effOp, effPure, Option.isSome_some, skipE, pureV, eltV, loadV, iaddrV, strip, lkT, lkH, ISt.app, opI, gO, gB, allB, gval, wrapG, dstOK, setD, mentTm, mentHp, IV.ment, IV.mentL, idsV, idsL, clean, callArgs, callFn, enumT, conv, conv0, convL, IBlk.shape, Op.operands, reduceIte, reduceCtorEq, cond_true, cond_false, Bool.or_false, Bool.or_true, Bool.and_true, Nat.reduceAdd, Nat.reduceSub, Nat.reduceMul, Nat.reduceLT, Nat.reduceLeDiff, Nat.reduceEqDiff, Nat.zero_add, ne_eq, not_false_eq_true, beq_self_eq_true, true_and, and_true, and_false, and_self, implies_true, forall_const, List.map_cons, List.map_nil, List.nil_append, List.cons_append, List.append_nil, List.all_nil, Option.map_some, List.getD_cons_zero, ex_clo, Bool.true_eq_false, Bool.false_eq_true, tab3, tab72, hN, Int.toNat_natCast, isPs_enc, toPs_enc, SLe0, convTm, convHp, convB, sm, effH, mkHC0, mkHC1, lendM, lentM, lentI, allHere, addIds, idsB, flatIds, reach, posn, renV, renL, renB, renH, numB, subHp, fwd, bk, bwd, nones, keyOK, noSl, noSlL, flatBs, List.contains, List.elem, Option.isSome_some, List.nodup_nil, List.nodup_cons, List.not_mem_nil, or_false, Option.getD_some, lh_slices_IndexFunc_int_int_ck_impl_CheckHull_2, hs_impl_CheckHull_2, el, g0, hz]
    refine ⟨⟨by omega, by omega⟩, brW_some (fun h => ?_) (fun h => ?_)⟩
    · rw [if_pos h, ← hj] at hst
      simp only [V_seq, V_ret, V_region, W_nil, W_cons, effOp2, KN_seq, KXr_nil, KXr_seq, KXr_block, KXr_back, QE, effOp, effPure, pureV, strip, lkT, lkH, ISt.app, opI, gO, gB, allB, gval, wrapG, dstOK, setD, clean, conv, conv0, Op.operands, reduceIte, reduceCtorEq, Nat.reduceLT, Nat.reduceEqDiff, not_false_eq_true, true_and, and_true, and_self, false_implies, implies_true, List.map_cons, List.map_nil, List.nil_append, List.cons_append, hN, FinH, resA, resV, SLe, SLe0, convTm, convHp, convB, List.nodup_nil, List.nodup_cons, List.not_mem_nil, hst]
      exact ⟨id, by simp [convL, conv, conv0]⟩
    · rw [if_neg (by rw [h]; decide), ← hj] at hst
      simp only [V_skip, V_region, W_nil, W_cons, effOp2, KN_seq, KN_block, KN_back, effOp, effPure, pureV, binV, ofC, strip, lkT, ISt.app, opI, gO, gB, allB, gval, wrapG, dstOK, setD, Op.operands, reduceIte, reduceCtorEq, Nat.reduceLT, Nat.reduceEqDiff, true_and, and_self, implies_true, List.nil_append, List.cons_append, hN, hw]
      exact ⟨i + 1, id, ⟨by omega, hst⟩, by simp only []; omega, by simp [SLe, SLe0, convTm, convHp, convB, conv, conv0, convL, lkT, lkH, clean]⟩
  · have hie : i = w.length := by simp at h; omega
    subst hie
    rw [List.drop_length] at hj
    simp only [V_seq, V_ret, V_exit, V_region, W_nil, W_cons, effOp2, KN_seq, KXr_nil, KXe_nil, KXe_seq, KXe_block, KXe_back, QE, effOp, effPure, pureV, ofC, strip, lkT, lkH, ISt.app, opI, gO, gB, allB, gval, wrapG, dstOK, setD, clean, conv, conv0, Op.operands, reduceIte, reduceCtorEq, Nat.reduceLT, Nat.reduceEqDiff, not_false_eq_true, true_and, and_true, and_self, false_implies, implies_true, List.map_cons, List.map_nil, List.nil_append, List.cons_append, hN, FinH, resA, resV, SLe, SLe0, convTm, convHp, convB, List.nodup_nil, List.nodup_cons, List.not_mem_nil, hj, idxF]
    exact ⟨id, by simp [convL, conv, conv0]⟩
def hs_slices_IndexFunc_int_int_ck : HSpec := ⟨[true, false], fun xs hp => match xs, hp with | [.sl 1 ws, .clo 68 [.ptr 1000 0]], [(1000, .box ty [.sl 2 es])] => (isIs ws) ∧ (isPs es) ∧ (ty = 23) ∧ ((fun (w : List Int) (l : List Pt) => l.length ≤ 1000000) (toIs ws) (toPs es)) ∧ ((fun (w : List Int) (l : List Pt) => w.length ≤ 2000000) (toIs ws) (toPs es)) | _, _ => False, fun xs hp => match xs, hp with | [.sl 1 ws, .clo 68 [.ptr 1000 0]], [(1000, .box ty [.sl 2 es])] => (fun (w : List Int) (l : List Pt) => (.num .i64 (idxF (outI l) w 0) : IV)) (toIs ws) (toPs es) | _, _ => .junk, fun xs hp => match xs, hp with | [.sl 1 ws, .clo 68 [.ptr 1000 0]], [(1000, .box ty [.sl 2 es])] => (fun (w : List Int) (l : List Pt) => ([(1000, .box 23 [.sl 2 (encPs l)])] : List (Nat × IBlk))) (toIs ws) (toPs es) | _, _ => []⟩
theorem hk_slices_IndexFunc_int_int_ck : ∀ args hp, hs_slices_IndexFunc_int_int_ck.pre args hp → HCall Try.prog 113 args (sm hp) (hs_slices_IndexFunc_int_int_ck.val args hp) (sm (hs_slices_IndexFunc_int_int_ck.hval args hp)) := by
  intro args hp h
  unfold hs_slices_IndexFunc_int_int_ck at h ⊢; simp only at h ⊢; split at h
  · obtain ⟨h0, h1, rfl, h2, h3⟩ := h; obtain ⟨w, rfl⟩ := isI_ex h0; obtain ⟨l, rfl⟩ := isP_ex h1; rw [toIs_enc, toPs_enc] at *; exact c_slices_IndexFunc_int_int_ck w l h2 h3
  · exact h.elim
theorem en_slices_IndexFunc_int_int_ck : Enters Try.prog 113 := enters_of Try.func113 (by kernel_rfl) rfl

def g_slices_ContainsFunc_int_int_ck : List (Nat × PSpec) := []
theorem gok_slices_ContainsFunc_int_int_ck : GOK Try.prog g_slices_ContainsFunc_int_int_ck := gok0
def h_slices_ContainsFunc_int_int_ck : List (Nat × HSpec) := [(113, hs_slices_IndexFunc_int_int_ck)]
theorem hok_slices_ContainsFunc_int_int_ck : HOK Try.prog h_slices_ContainsFunc_int_int_ck := hok_cons hk_slices_IndexFunc_int_int_ck en_slices_IndexFunc_int_int_ck (hok0)
theorem lh_slices_ContainsFunc_int_int_ck_slices_IndexFunc_int_int_ck : lkHS h_slices_ContainsFunc_int_int_ck 113 = some hs_slices_IndexFunc_int_int_ck := rfl
theorem c_slices_ContainsFunc_int_int_ck (w : List Int) (l : List Pt) (hz : l.length ≤ 1000000) (hsz : w.length ≤ 2000000) : HCall Try.prog 67 [.sl 1 (encI w), .clo 68 [.ptr 1000 0]] (sm ([(1000, .box 23 [.sl 2 (encPs l)])])) (.bool (w.any (outI l))) (sm ([(1000, .box 23 [.sl 2 (encPs l)])])) := by
  refine hcall_V (G := g_slices_ContainsFunc_int_int_ck) (H := h_slices_ContainsFunc_int_int_ck) [] tabOK mixed gok_slices_ContainsFunc_int_int_ck hok_slices_ContainsFunc_int_int_ck Try.func67 rfl Try.ntmps67 Try.results67 rfl (by kernel_rfl) fun F hN hlen => ?_
  simp only [sm]
  simp only [V_seq, V_ret, V_region, W_nil, W_cons, effOp2, KN_seq, KXr_nil, QE, effOp, effPure, Option.isSome_some, skipE, pureV, binV, ofC, strip, lkT, lkH, ISt.app, opI, gO, gB, allB, gval, wrapG, dstOK, setD, mentTm, mentHp, IV.ment, IV.mentL, lendV, lendP, lent, lentP, idsV, idsL, clean, callArgs, callFn, enumT, conv, conv0, convL, IBlk.shape, Op.operands, reduceIte, reduceCtorEq, cond_true, cond_false, Bool.or_false, Bool.or_true, Bool.and_true, Nat.reduceAdd, Nat.reduceSub, Nat.reduceMul, Nat.reduceLT, Nat.reduceLeDiff, Nat.reduceEqDiff, Nat.zero_add, not_false_eq_true, beq_self_eq_true, true_and, and_true, and_false, and_self, false_implies, implies_true, List.map_cons, List.map_nil, List.nil_append, List.cons_append, List.append_nil, List.all_nil, Option.map_some, List.getD_cons_zero, ex_clo, Bool.true_eq_false, Bool.false_eq_true, hN, isPs_enc, toPs_enc, isIs_enc, toIs_enc, FinH, resA, resV, SLe, SLe0, convTm, convHp, convB, sm, effH, mkHC0, mkHC1, lendM, lentM, lentI, allHere, addIds, idsB, flatIds, reach, posn, renV, renL, renB, renH, numB, subHp, fwd, bk, bwd, nones, keyOK, noSl, noSlL, flatBs, List.contains, List.elem, Option.isSome_some, List.nodup_nil, List.nodup_cons, List.not_mem_nil, or_false, Option.getD_some, lh_slices_ContainsFunc_int_int_ck_slices_IndexFunc_int_int_ck, hs_slices_IndexFunc_int_int_ck, hz, hsz, idxF_sign]
  exact ⟨id, by simp [convL, conv, conv0]⟩
def hs_slices_ContainsFunc_int_int_ck : HSpec := ⟨[true, false], fun xs hp => match xs, hp with | [.sl 1 ws, .clo 68 [.ptr 1000 0]], [(1000, .box ty [.sl 2 es])] => (isIs ws) ∧ (isPs es) ∧ (ty = 23) ∧ ((fun (w : List Int) (l : List Pt) => l.length ≤ 1000000) (toIs ws) (toPs es)) ∧ ((fun (w : List Int) (l : List Pt) => w.length ≤ 2000000) (toIs ws) (toPs es)) | _, _ => False, fun xs hp => match xs, hp with | [.sl 1 ws, .clo 68 [.ptr 1000 0]], [(1000, .box ty [.sl 2 es])] => (fun (w : List Int) (l : List Pt) => (.bool (w.any (outI l)) : IV)) (toIs ws) (toPs es) | _, _ => .junk, fun xs hp => match xs, hp with | [.sl 1 ws, .clo 68 [.ptr 1000 0]], [(1000, .box ty [.sl 2 es])] => (fun (w : List Int) (l : List Pt) => ([(1000, .box 23 [.sl 2 (encPs l)])] : List (Nat × IBlk))) (toIs ws) (toPs es) | _, _ => []⟩
theorem hk_slices_ContainsFunc_int_int_ck : ∀ args hp, hs_slices_ContainsFunc_int_int_ck.pre args hp → HCall Try.prog 67 args (sm hp) (hs_slices_ContainsFunc_int_int_ck.val args hp) (sm (hs_slices_ContainsFunc_int_int_ck.hval args hp)) := by
  intro args hp h
  unfold hs_slices_ContainsFunc_int_int_ck at h ⊢; simp only at h ⊢; split at h
  · obtain ⟨h0, h1, rfl, h2, h3⟩ := h; obtain ⟨w, rfl⟩ := isI_ex h0; obtain ⟨l, rfl⟩ := isP_ex h1; rw [toIs_enc, toPs_enc] at *; exact c_slices_ContainsFunc_int_int_ck w l h2 h3
  · exact h.elim
theorem en_slices_ContainsFunc_int_int_ck : Enters Try.prog 67 := enters_of Try.func67 (by kernel_rfl) rfl

end Go.Proofs.Ytlcndghaendieaa
