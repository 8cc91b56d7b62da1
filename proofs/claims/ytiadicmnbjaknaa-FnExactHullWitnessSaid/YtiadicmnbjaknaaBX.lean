/- Contracts: what the exact laws do with lists of points: sizes, copies, equality, marks. -/
import Derived.Test.YtiadicmnbjaknaaB2
import Derived.Test.YtiadicmnbjaknaaBW
import Derived.Test.YtiadicmnbjaknaaCc
set_option linter.unusedVariables false
set_option linter.unusedSimpArgs false
namespace Go.Proofs.Ytiadicmnbjaknaa
open Go Go.Ideal Go.Pl

def g_laws_toPoint : List (Nat × PSpec) := []
theorem gok_laws_toPoint : GOK Try.prog g_laws_toPoint := gok0
def h_laws_toPoint : List (Nat × HSpec) := []
theorem hok_laws_toPoint : HOK Try.prog h_laws_toPoint := hok0
theorem c_laws_toPoint (p : Pt)  : ICall Try.prog 16 [encP p] (encP p) := by
  refine icall_of_hcall (v := encP p) (hp' := []) id ?_ (by simp [SLe0, convTm, convHp, conv, convL, conv0, lkT, clean, encP]) (by simp [idsV, idsL, encP])
  refine hcall_V (G := g_laws_toPoint) (H := []) [] tabOK mixed gok_laws_toPoint hok_laws_toPoint Try.func16 rfl Try.ntmps16 Try.results16 rfl (by kernel_rfl) fun F hN hlen => ?_
  simp only [V_seq, V_ret, V_region, W_nil, W_cons, effOp2, KN_seq, KXr_nil, QE, effOp, effPure, effNew, effAlloc, effBox, effStore, skipE, pureV, storeV, partV, loadV, faddrV, over, solid, IV.cells, strip, lkT, lkH, ISt.app, opI, gO, gB, allB, gval, wrapG, dstOK, setD, mentTm, mentHp, IV.ment, IV.mentL, oneI, clean, enumT, conv, conv0, convL, IBlk.shape, Op.operands, reduceIte, reduceCtorEq, cond_true, Bool.or_false, Bool.and_true, Nat.reduceAdd, Nat.reduceLT, Nat.reduceLeDiff, Nat.reduceEqDiff, Nat.reduceBEq, Nat.add_zero, Nat.zero_add, true_and, and_false, and_self, implies_true, List.map_nil, List.nil_append, List.cons_append, List.append_nil, List.all_cons, List.all_nil, Option.map_some, List.getD_cons_zero, List.getD_cons_succ, List.length_cons, List.length_nil, List.take_succ_cons, List.take_zero, List.take_nil, List.drop_succ_cons, List.drop_zero, List.drop_nil, tab3, tab38, tab40, hN, encP, FinH, resA, resV, SLe, SLe0, convTm, convHp]
  exact ⟨id, List.nodup_nil, fun _ _ _ => rfl⟩
def sp_laws_toPoint : PSpec := ⟨fun xs => match xs with | [.agg [.num .i64 p1, .num .i64 p2]] => True | _ => False, fun xs => match xs with | [.agg [.num _ p1, .num _ p2]] => (fun (p : Pt) => encP p) (p1, p2) | _ => .junk, false⟩
theorem gk_laws_toPoint : ∀ args, sp_laws_toPoint.pre args → ICall Try.prog 16 args (sp_laws_toPoint.val args) := by
  intro args h
  unfold sp_laws_toPoint at h ⊢; simp only at h ⊢; split at h
  · exact c_laws_toPoint (_, _)
  · exact h.elim
theorem en_laws_toPoint : Enters Try.prog 16 := enters_of Try.func16 (by kernel_rfl) rfl

def szPointV (l : List Pt) (left : Int) : Int := if left < (l.length : Int) then -1 else left - (l.length : Int)
def g_laws_szPointS : List (Nat × PSpec) := []
theorem gok_laws_szPointS : GOK Try.prog g_laws_szPointS := gok0
def h_laws_szPointS : List (Nat × HSpec) := []
theorem hok_laws_szPointS : HOK Try.prog h_laws_szPointS := hok0
theorem c_laws_szPointS (l : List Pt) (left : Int) (h0 : 0 ≤ left) (h1 : left ≤ 1048576) : ICall Try.prog 4 [.sl 2 (encPs l), .num .i64 left] (.num .i64 (szPointV l left)) := by
  refine icall_V (G := g_laws_szPointS) (H := []) [] tabOK mixed gok_laws_szPointS hok_laws_szPointS Try.func4 rfl Try.ntmps4 Try.results4 rfl (by kernel_rfl) fun F hN hlen => ?_
  have hl := hlen 0 2 _ rfl
  have el := len_encPs l
  rw [el, maxLen_eq] at hl
  have w1 : IntKind.i64.wrap (left - (l.length : Int)) = left - (l.length : Int) := wr (by omega) (by omega)
  by_cases c : left < (l.length : Int)
  · have d1 : decide (left - (l.length : Int) < 0) = true := by simp only [decide_eq_true_eq]; omega
    have hv : szPointV l left = -1 := if_pos c
    simp only [V_seq, V_ret, V_region, V_cond, brW_true, W_nil, W_cons, effOp2, KN_seq, KXr_nil, KXr_seq, QE, asB, effOp, effPure, pureV, binV, lenV, ofC, strip, lkT, lkH, ISt.app, opI, gO, gB, allB, gval, wrapG, dstOK, setD, clean, enumT, Gives, Ideal.Fin, conv, conv0, Op.operands, Call.operands, List.append_toArray, reduceIte, reduceCtorEq, Nat.reduceLT, Nat.reduceEqDiff, Nat.zero_add, ne_eq, not_false_eq_true, and_self, implies_true, List.nil_append, List.cons_append, List.append_nil, tab22, hN, el, w1, d1, hv]
  · have d1 : decide (left - (l.length : Int) < 0) = false := by simp only [decide_eq_false_iff_not]; omega
    have hv : szPointV l left = left - (l.length : Int) := if_neg c
    simp only [V_seq, V_skip, V_ret, V_region, V_cond, brW_false, W_nil, W_cons, effOp2, KN_seq, KXr_nil, QE, asB, effOp, effPure, pureV, binV, lenV, ofC, strip, lkT, lkH, ISt.app, opI, gO, gB, allB, gval, wrapG, dstOK, setD, clean, enumT, Gives, Ideal.Fin, conv, conv0, Op.operands, Call.operands, List.append_toArray, reduceIte, reduceCtorEq, Nat.reduceLT, Nat.reduceEqDiff, Nat.zero_add, ne_eq, not_false_eq_true, and_self, implies_true, List.nil_append, List.cons_append, List.append_nil, tab22, hN, el, w1, d1, hv]
def sp_laws_szPointS : PSpec := ⟨fun xs => match xs with | [.sl 2 les, .num .i64 left] => isPs les ∧ ((fun (l : List Pt) (left : Int) => 0 ≤ left) (toPs les) left) ∧ ((fun (l : List Pt) (left : Int) => left ≤ 1048576) (toPs les) left) | _ => False, fun xs => match xs with | [.sl _ les, .num _ left] => (fun (l : List Pt) (left : Int) => .num .i64 (szPointV l left)) (toPs les) left | _ => .junk, false⟩
theorem gk_laws_szPointS : ∀ args, sp_laws_szPointS.pre args → ICall Try.prog 4 args (sp_laws_szPointS.val args) := by
  intro args h
  unfold sp_laws_szPointS at h ⊢; simp only at h ⊢; split at h
  · obtain ⟨h0, h1, h2⟩ := h
    obtain ⟨l0, rfl⟩ := isP_ex h0
    try simp only [toPs_enc] at *
    exact c_laws_szPointS _ _ h1 h2
  · exact h.elim
theorem en_laws_szPointS : Enters Try.prog 4 := enters_of Try.func4 (by kernel_rfl) rfl

def g_laws_toPointS : List (Nat × PSpec) := [(16, sp_laws_toPoint)]
theorem gok_laws_toPointS : GOK Try.prog g_laws_toPointS := gok_cons gk_laws_toPoint en_laws_toPoint (gok0)
theorem lk_laws_toPointS_laws_toPoint : lkG g_laws_toPointS 16 = sp_laws_toPoint := rfl
def h_laws_toPointS : List (Nat × HSpec) := []
theorem hok_laws_toPointS : HOK Try.prog h_laws_toPointS := hok0
theorem c_laws_toPointS (l : List Pt) (hsz : l.length ≤ 1048576) : HCall Try.prog 6 [.sl 2 (encPs l)] (sm ([])) (.ref 0 0 l.length true) (sm ([(0, .arr 2 38 (encPs l))])) := by
  refine hcall_V (G := g_laws_toPointS) (H := []) [] tabOK mixed gok_laws_toPointS hok_laws_toPointS Try.func6 rfl Try.ntmps6 Try.results6 rfl (by kernel_rfl) fun F hN hlen => ?_
  simp only [sm]
  have el := len_encPs l
  simp only [V_seq, V_block, V_region, W_nil, W_cons, effOp2, KN_seq, effOp, effPure, effNew, effMake, skipE, pureV, lenV, ofC, strip, lkT, ISt.app, opI, gO, gB, allB, gval, wrapG, dstOK, setD, mentTm, mentHp, IV.ment, zeroElt, noId', enumT, Op.operands, Call.operands, List.append_toArray, reduceIte, reduceCtorEq, cond_true, Bool.or_false, Bool.and_true, Nat.reduceLT, Nat.reduceLeDiff, Nat.reduceEqDiff, ne_eq, not_false_eq_true, true_and, and_true, and_self, implies_true, List.nil_append, List.cons_append, List.append_nil, List.all_cons, List.all_nil, tab22, tab26, tab38, hN, Int.toNat_natCast, el]
  refine ⟨by omega, ?_⟩
  refine V_loop (α := Nat) ⟨tabOK, mixed, gok_laws_toPointS.toF F, hok_laws_toPointS⟩ (by kernel_rfl) (fun i => i ≤ l.length) (fun i => ⟨[(4, .num .i64 i), (3, .ref 7 0 l.length true), (0, .sl 2 (encPs l))], [(7, some (.arr 2 38 (encPs (l.take i ++ List.replicate (l.length - i) (0, 0)))))]⟩) (fun i => l.length - i) 0 id (Nat.zero_le _) (by simp [SLe, SLe0, convTm, convHp, convB, conv, conv0, lkT, lkH, clean, encPs, encP]) ?_
  intro i hi
  have hx : ∃ k ty es, IBlk.arr 2 38 (encPs (l.take i ++ List.replicate (l.length - i) (0, 0))) = IBlk.arr k ty es := ⟨_, _, _, rfl⟩
  have ex : (encPs (l.take i ++ List.replicate (l.length - i) (0, 0))).length = l.length := by rw [len_encPs, List.length_append, List.length_take, List.length_replicate]; omega
  simp only [V_seq, V_region, V_cond, W_nil, W_cons, effOp2, KN_seq, asB, effOp, effPure, pureV, binV, lenV, strip, lkT, ISt.app, opI, gO, gB, allB, gval, wrapG, dstOK, setD, Op.operands, Call.operands, List.append_toArray, reduceIte, reduceCtorEq, Nat.reduceLT, Nat.reduceEqDiff, ne_eq, not_false_eq_true, true_and, and_self, implies_true, List.nil_append, List.cons_append, tab22, hN, el]
  refine brW_some (fun h => ?_) (fun h => ?_)
  · have hi' : i < l.length := by simpa using h
    have g0 := getD_encPs hi'
    have hw := wr_succ hi' (by rw [maxLen_eq]; omega)
    have hset : (l.take i ++ List.replicate (l.length - i) (0, 0)).set i (pAt l i) = l.take (i + 1) ++ List.replicate (l.length - (i + 1)) (0, 0) := by
      rw [List.set_append_right _ _ (by rw [List.length_take]; omega), List.length_take, Nat.min_eq_left (Nat.le_of_lt hi'), Nat.sub_self, show l.length - i = (l.length - (i + 1)) + 1 by omega, List.replicate_succ, List.set_cons_zero, take_succ_g (d := (0, 0)) hi', List.append_assoc]
      rfl
    have hes := encPs_set (l.take i ++ List.replicate (l.length - i) (0, 0)) i (pAt l i)
    rw [hset] at hes
    simp only [V_seq, V_skip, V_block, V_region, W_nil, W_cons, effOp2, KN_seq, KN_block, KN_back, effOp, effPure, effStore, effCall, giveUp, hasAll, pureV, storeV, binV, partV, eltV, loadV, iaddrV, over, solid, IV.cells, ofC, strip, lkT, lkH, ISt.app, opI, gO, gB, allB, gval, wrapG, dstOK, setD, eltI, oneI, noId', lendV, lendP, lent, lentP, idsV, idsL, lkHS, flat, flatL, clean, cleanL, callArgs, callFn, allLent, Op.operands, reduceIte, reduceCtorEq, cond_true, Bool.or_false, Bool.and_true, Bool.true_and, Bool.not_true, Nat.reduceAdd, Nat.reduceLT, Nat.reduceLeDiff, Nat.reduceEqDiff, Nat.zero_add, ne_eq, not_false_eq_true, true_and, and_true, and_false, and_self, implies_true, forall_const, List.map_cons, List.map_nil, List.nil_append, List.cons_append, List.append_nil, List.all_cons, List.all_nil, List.getD_cons_zero, List.length_cons, List.length_nil, List.take_succ_cons, List.take_zero, List.take_nil, List.drop_zero, ex_clo, or_self, tab22, tab26, tab38, tab40, hN, Int.toNat_natCast, encP, lk_laws_toPointS_laws_toPoint, sp_laws_toPoint, el, g0, hw, ex, hes]
    repeat refine And.intro (by first | omega | (simp; done) | (simp; omega)) ?_
    exact ⟨i + 1, id, by simp only []; omega, by simp only []; omega, by simp [SLe, SLe0, convTm, convHp, convB, conv, conv0, lkT, lkH, clean]⟩
  · have hie : i = l.length := by simp at h; omega
    subst hie
    have hf : l.take l.length ++ List.replicate (l.length - l.length) (0, 0) = l := by simp
    rw [hf] at hx ex ⊢
    simp only [V_seq, V_ret, V_exit, V_region, W_nil, W_cons, effOp2, KN_seq, KXr_nil, KXe_nil, KXe_seq, KXe_block, KXe_back, QE, effOp, effPure, Option.isSome_some, pureV, strip, lkT, lkH, ISt.app, opI, gO, gB, allB, gval, wrapG, dstOK, setD, conv, conv0, Op.operands, reduceIte, reduceCtorEq, Nat.reduceLT, Nat.reduceEqDiff, true_and, and_true, and_self, implies_true, List.map_cons, List.map_nil, List.nil_append, List.cons_append, hN, FinH, resA, resV, SLe, SLe0, convTm, convHp, convB]
    exact ⟨fun x => if x = 0 then 7 else x, by simp; omega⟩
def hs_laws_toPointS : HSpec := ⟨[true], fun xs hp => match xs, hp with | [.sl 2 es], [] => (isPs es) ∧ ((fun (l : List Pt) => l.length ≤ 1048576) (toPs es)) | _, _ => False, fun xs hp => match xs, hp with | [.sl 2 es], [] => (fun (l : List Pt) => (.ref 0 0 l.length true : IV)) (toPs es) | _, _ => .junk, fun xs hp => match xs, hp with | [.sl 2 es], [] => (fun (l : List Pt) => ([(0, .arr 2 38 (encPs l))] : List (Nat × IBlk))) (toPs es) | _, _ => []⟩
theorem hk_laws_toPointS : ∀ args hp, hs_laws_toPointS.pre args hp → HCall Try.prog 6 args (sm hp) (hs_laws_toPointS.val args hp) (sm (hs_laws_toPointS.hval args hp)) := by
  intro args hp h
  unfold hs_laws_toPointS at h ⊢; simp only at h ⊢; split at h
  · obtain ⟨h1, h2⟩ := h; obtain ⟨l, rfl⟩ := isP_ex h1; rw [toPs_enc] at *; exact c_laws_toPointS l h2
  · exact h.elim
theorem en_laws_toPointS : Enters Try.prog 6 := enters_of Try.func6 (by kernel_rfl) rfl

def g_laws_eqPoint : List (Nat × PSpec) := []
theorem gok_laws_eqPoint : GOK Try.prog g_laws_eqPoint := gok0
def h_laws_eqPoint : List (Nat × HSpec) := []
theorem hok_laws_eqPoint : HOK Try.prog h_laws_eqPoint := hok0
theorem c_laws_eqPoint (p : Pt) (q : Pt)  : ICall Try.prog 21 [encP p, encP q] (.bool (p == q)) := by
  refine icall_V (G := g_laws_eqPoint) (H := []) [] tabOK mixed gok_laws_eqPoint hok_laws_eqPoint Try.func21 rfl Try.ntmps21 Try.results21 rfl (by kernel_rfl) fun F hN hlen => ?_
  obtain ⟨p1, p2⟩ := p
  obtain ⟨q1, q2⟩ := q
  by_cases c1 : p1 = q1
  · by_cases c2 : p2 = q2
    · have d1 : (p1 != q1) = false := by simpa using c1
      have d2 : (p2 != q2) = false := by simpa using c2
      simp only [V_seq, V_skip, V_ret, V_region, V_cond, brW_false, W_nil, W_cons, effOp2, KN_seq, KXr_nil, QE, asB, effOp, effPure, effNew, effBox, skipE, pureV, binV, partV, loadV, faddrV, solid, IV.cells, ofC, strip, lkT, lkH, ISt.app, opI, gO, gB, allB, gval, wrapG, dstOK, setD, mentTm, mentHp, IV.ment, IV.mentL, oneI, clean, enumT, Gives, Ideal.Fin, conv, conv0, IBlk.shape, Op.operands, reduceIte, reduceCtorEq, cond_true, Bool.or_false, Bool.and_true, Nat.reduceAdd, Nat.reduceLT, Nat.reduceLeDiff, Nat.reduceEqDiff, Nat.reduceBEq, Nat.add_zero, Nat.zero_add, true_and, and_true, and_self, implies_true, List.nil_append, List.cons_append, List.append_nil, List.all_cons, List.all_nil, Option.map_some, List.getD_cons_zero, List.getD_cons_succ, List.length_cons, List.length_nil, List.take_succ_cons, List.take_zero, List.take_nil, List.drop_succ_cons, List.drop_zero, tab3, tab38, hN, encP, d1, d2]
      simp [c1, c2]
    · have d1 : (p1 != q1) = false := by simpa using c1
      have d2 : (p2 != q2) = true := by simpa using c2
      simp only [V_seq, V_skip, V_ret, V_region, V_cond, brW_true, brW_false, W_nil, W_cons, effOp2, KN_seq, KXr_nil, KXr_seq, QE, asB, effOp, effPure, effNew, effBox, skipE, pureV, binV, partV, loadV, faddrV, solid, IV.cells, ofC, strip, lkT, lkH, ISt.app, opI, gO, gB, allB, gval, wrapG, dstOK, setD, mentTm, mentHp, IV.ment, IV.mentL, oneI, clean, enumT, Gives, Ideal.Fin, conv, conv0, IBlk.shape, Op.operands, reduceIte, reduceCtorEq, cond_true, Bool.or_false, Bool.and_true, Nat.reduceAdd, Nat.reduceLT, Nat.reduceLeDiff, Nat.reduceEqDiff, Nat.reduceBEq, Nat.add_zero, Nat.zero_add, true_and, and_true, and_self, implies_true, List.nil_append, List.cons_append, List.append_nil, List.all_cons, List.all_nil, Option.map_some, List.getD_cons_zero, List.getD_cons_succ, List.length_cons, List.length_nil, List.take_succ_cons, List.take_zero, List.take_nil, List.drop_succ_cons, List.drop_zero, tab3, tab38, hN, encP, d1, d2]
      simp [c2]
  · have d1 : (p1 != q1) = true := by simpa using c1
    simp only [V_seq, V_ret, V_region, V_cond, brW_true, W_nil, W_cons, effOp2, KN_seq, KXr_nil, KXr_seq, QE, asB, effOp, effPure, effNew, effBox, skipE, pureV, binV, partV, loadV, faddrV, solid, IV.cells, ofC, strip, lkT, lkH, ISt.app, opI, gO, gB, allB, gval, wrapG, dstOK, setD, mentTm, mentHp, IV.ment, IV.mentL, oneI, clean, enumT, Gives, Ideal.Fin, conv, conv0, IBlk.shape, Op.operands, reduceIte, reduceCtorEq, cond_true, Bool.or_false, Bool.and_true, Nat.reduceAdd, Nat.reduceLT, Nat.reduceLeDiff, Nat.reduceEqDiff, Nat.reduceBEq, Nat.add_zero, Nat.zero_add, true_and, and_true, and_self, implies_true, List.nil_append, List.cons_append, List.append_nil, List.all_cons, List.all_nil, Option.map_some, List.getD_cons_zero, List.length_cons, List.length_nil, List.take_succ_cons, List.take_zero, List.drop_zero, tab3, tab38, hN, encP, d1]
    simp [c1]
def sp_laws_eqPoint : PSpec := ⟨fun xs => match xs with | [.agg [.num .i64 p1, .num .i64 p2], .agg [.num .i64 q1, .num .i64 q2]] => True | _ => False, fun xs => match xs with | [.agg [.num _ p1, .num _ p2], .agg [.num _ q1, .num _ q2]] => (fun (p : Pt) (q : Pt) => .bool (p == q)) (p1, p2) (q1, q2) | _ => .junk, false⟩
theorem gk_laws_eqPoint : ∀ args, sp_laws_eqPoint.pre args → ICall Try.prog 21 args (sp_laws_eqPoint.val args) := by
  intro args h
  unfold sp_laws_eqPoint at h ⊢; simp only at h ⊢; split at h
  · exact c_laws_eqPoint (_, _) (_, _)
  · exact h.elim
theorem en_laws_eqPoint : Enters Try.prog 21 := enters_of Try.func21 (by kernel_rfl) rfl

def g_laws_eqPointS : List (Nat × PSpec) := [(21, sp_laws_eqPoint)]
theorem gok_laws_eqPointS : GOK Try.prog g_laws_eqPointS := gok_cons gk_laws_eqPoint en_laws_eqPoint (gok0)
theorem lk_laws_eqPointS_laws_eqPoint : lkG g_laws_eqPointS 21 = sp_laws_eqPoint := rfl
def h_laws_eqPointS : List (Nat × HSpec) := []
theorem hok_laws_eqPointS : HOK Try.prog h_laws_eqPointS := hok0
theorem c_laws_eqPointS (a : List Pt) (b : List Pt)  : ICall Try.prog 9 [.sl 2 (encPs a), .sl 2 (encPs b)] (.bool (a == b)) := by
  refine icall_V (G := g_laws_eqPointS) (H := []) [(6, [(0, 8), (1, 8), (2, 8), (4, 8), (5, 8), (6, 8)])] tabOK mixed gok_laws_eqPointS hok_laws_eqPointS Try.func9 rfl Try.ntmps9 Try.results9 rfl (by kernel_rfl) fun F hN hlen => ?_
  have la := hlen 0 2 _ rfl
  have lb := hlen 1 2 _ rfl
  have ea := len_encPs a
  have eb := len_encPs b
  rw [ea] at la
  rw [eb] at lb
  simp only [V_seq, V_region, V_cond, W_nil, W_cons, effOp2, KN_seq, asB, effOp, effPure, pureV, binV, lenV, ofC, strip, lkT, ISt.app, opI, gO, gB, allB, gval, wrapG, dstOK, setD, enumT, Op.operands, Call.operands, List.append_toArray, reduceIte, reduceCtorEq, Nat.reduceLT, Nat.reduceEqDiff, Nat.zero_add, ne_eq, not_false_eq_true, true_and, and_self, implies_true, List.nil_append, List.cons_append, List.append_nil, tab26, hN, ea, eb]
  refine brW_some (fun h => ?_) (fun h => ?_)
  · simp only [V_seq, V_ret, V_region, W_nil, W_cons, effOp2, KN_seq, KXr_nil, KXr_seq, QE, effOp, effPure, pureV, ofC, strip, lkT, lkH, ISt.app, opI, gO, gB, allB, gval, wrapG, dstOK, setD, clean, Gives, Ideal.Fin, conv, conv0, Op.operands, reduceIte, reduceCtorEq, Nat.reduceLT, Nat.reduceEqDiff, true_and, and_true, and_self, implies_true, List.nil_append, List.cons_append, List.append_nil, hN]
    have : a ≠ b := by rintro rfl; simp at h
    simp [this]
  · simp only [V_seq, V_skip, V_block, V_region, W_nil, W_cons, effOp2, KN_seq, effOp, effPure, pureV, ofC, strip, ISt.app, opI, gO, gB, allB, gval, wrapG, dstOK, setD, Op.operands, Nat.reduceLT, true_and, and_self, implies_true, List.nil_append, List.cons_append, List.append_nil, hN]
    have hab : a.length = b.length := by simp at h; omega
    refine V_loop (α := Nat) ⟨tabOK, mixed, gok_laws_eqPointS.toF F, hok_laws_eqPointS⟩ (by kernel_rfl) (fun i => i ≤ a.length ∧ ∀ j, j < i → pAt a j = pAt b j) (fun i => ⟨[(5, .num .i64 i), (0, .sl 2 (encPs a)), (1, .sl 2 (encPs b))], []⟩) (fun i => a.length - i) 0 id (by simp) (by simp [SLe, SLe0, convTm, convHp, conv, conv0, lkT, lkH, clean]) ?_
    rintro i ⟨hi, hj⟩
    simp only [V_seq, V_region, V_cond, W_nil, W_cons, effOp2, KN_seq, asB, effOp, effPure, pureV, binV, lenV, strip, lkT, ISt.app, opI, gO, gB, allB, gval, wrapG, dstOK, setD, Op.operands, Call.operands, List.append_toArray, reduceIte, reduceCtorEq, Nat.reduceLT, Nat.reduceEqDiff, ne_eq, not_false_eq_true, true_and, and_self, implies_true, List.nil_append, List.cons_append, List.append_nil, tab26, hN, ea]
    refine brW_some (fun h => ?_) (fun h => ?_)
    · have hi' : i < a.length := by simpa using h
      have g1 := getD_encPs hi'
      have g2 := getD_encPs (hab ▸ hi' : i < b.length)
      have hw := wr_succ hi' la
      simp only [V_seq, V_skip, V_block, V_draw, V_cond, drawW, WS_nil, pairsOf, W_nil, W_cons, effOp2, effOp3, WI_nil, WI_cons, KN_seq, dynOK, indB, farB, freshB, freshK, freshK1, heapy, asB, effOp, effPure, effCall, giveUp, hasAll, pureV, partV, eltV, loadV, iaddrV, strip, lkT, lkH, ISt.app, opI, gO, gB, allB, gval, wrapG, dstOK, setD, mentTm, mentHp, IV.ment, lendV, lendP, lent, lentP, idsV, idsL, lkHS, flat, clean, callArgs, callFn, allLent, Op.operands, Call.operands, List.append_toArray, reduceIte, reduceCtorEq, cond_true, cond_false, Bool.or_false, Bool.and_true, Bool.and_eq_true, Bool.not_true, Bool.not_false, Nat.reduceAdd, Nat.reduceLT, Nat.reduceLeDiff, Nat.reduceEqDiff, Nat.reduceBEq, Nat.zero_add, ne_eq, not_false_eq_true, true_and, and_true, and_false, and_self, implies_true, forall_const, List.map_cons, List.map_nil, List.nil_append, List.cons_append, List.append_nil, List.getD_cons_zero, List.getD_cons_succ, List.length_cons, List.length_nil, List.take_succ_cons, List.take_zero, List.take_nil, List.drop_zero, ex_clo, or_self, tab26, tab38, hN, pe, Int.toNat_natCast, lk_laws_eqPointS_laws_eqPoint, sp_laws_eqPoint, ea, eb, Int.toNat_natCast, g1, g2]
      repeat refine And.intro (by omega) ?_
      refine brW_some (fun h => ?_) (fun h => ?_)
      · simp only [V_seq, V_ret, V_region, W_nil, W_cons, effOp2, KN_seq, KXr_nil, KXr_seq, KXr_block, KXr_back, QE, effOp, effPure, pureV, ofC, strip, lkT, lkH, ISt.app, opI, gO, gB, allB, gval, wrapG, dstOK, setD, clean, Gives, Ideal.Fin, conv, conv0, Op.operands, reduceIte, reduceCtorEq, Nat.reduceLT, Nat.reduceEqDiff, true_and, and_true, and_self, implies_true, List.nil_append, List.cons_append, List.append_nil, hN]
        have : a ≠ b := by rintro rfl; simp at h
        simp [this]
      · simp only [V_skip, V_region, W_nil, W_cons, effOp2, KN_seq, KN_block, KN_back, effOp, effPure, pureV, binV, ofC, strip, lkT, ISt.app, opI, gO, gB, allB, gval, wrapG, dstOK, setD, Op.operands, reduceIte, reduceCtorEq, Nat.reduceLT, Nat.reduceEqDiff, true_and, and_self, implies_true, List.nil_append, List.cons_append, List.append_nil, hN, hw]
        refine ⟨i + 1, id, ⟨by omega, ?_⟩, by simp only []; omega, by simp [SLe, SLe0, convTm, convHp, conv, conv0, lkT, lkH, clean]⟩
        intro j hj'
        rcases Nat.lt_succ_iff_lt_or_eq.1 hj' with h' | rfl
        · exact hj j h'
        · simpa using h
    · simp only [V_seq, V_ret, V_exit, V_region, W_nil, W_cons, effOp2, KN_seq, KXr_nil, KXe_nil, KXe_seq, KXe_block, KXe_back, QE, effOp, effPure, pureV, ofC, strip, lkT, lkH, ISt.app, opI, gO, gB, allB, gval, wrapG, dstOK, setD, clean, Gives, Ideal.Fin, conv, conv0, Op.operands, reduceIte, reduceCtorEq, Nat.reduceLT, Nat.reduceEqDiff, true_and, and_true, and_self, implies_true, List.nil_append, List.cons_append, List.append_nil, hN]
      have hie : i = a.length := by simp at h; omega
      have : a = b := eq_of_getD hab (fun j h' => hj j (by omega))
      simp [this]
def sp_laws_eqPointS : PSpec := ⟨fun xs => match xs with | [.sl 2 aes, .sl 2 bes] => isPs aes ∧ isPs bes | _ => False, fun xs => match xs with | [.sl _ aes, .sl _ bes] => (fun (a : List Pt) (b : List Pt) => .bool (a == b)) (toPs aes) (toPs bes) | _ => .junk, false⟩
theorem gk_laws_eqPointS : ∀ args, sp_laws_eqPointS.pre args → ICall Try.prog 9 args (sp_laws_eqPointS.val args) := by
  intro args h
  unfold sp_laws_eqPointS at h ⊢; simp only at h ⊢; split at h
  · obtain ⟨h0, h1⟩ := h
    obtain ⟨l0, rfl⟩ := isP_ex h0
    obtain ⟨l1, rfl⟩ := isP_ex h1
    try simp only [toPs_enc] at *
    exact c_laws_eqPointS _ _ 
  · exact h.elim
theorem en_laws_eqPointS : Enters Try.prog 9 := enters_of Try.func9 (by kernel_rfl) rfl


/-- What a list of points is after it was marked from k on. -/
def marksP : Nat → Int → List Pt
  | 0, _ => []
  | n + 1, k => (k, k + 1) :: marksP n (k + 2)
theorem marksP_len : ∀ n k, (marksP n k).length = n
  | 0, _ => rfl
  | n + 1, k => by simp [marksP, marksP_len n]
theorem marksP_at : ∀ n (k : Int) i, i < n → pAt (marksP n k) i = (k + 2 * i, k + 2 * i + 1)
  | n + 1, k, 0, _ => by simp [marksP]
  | n + 1, k, i + 1, h => by
    have := marksP_at n (k + 2) i (by omega)
    simp only [marksP, pAt, List.getD, List.getElem?_cons_succ] at this ⊢
    rw [this]
    refine Prod.ext ?_ ?_ <;> simp only [] <;> omega

def g_laws_markPointS : List (Nat × PSpec) := []
theorem gok_laws_markPointS : GOK Try.prog g_laws_markPointS := gok0
def h_laws_markPointS : List (Nat × HSpec) := []
theorem hok_laws_markPointS : HOK Try.prog h_laws_markPointS := hok0
theorem c_laws_markPointS (l : List Pt) (k : Int) (full : Bool) (hsz : l.length ≤ 2000000) (h0 : 0 ≤ k) (h1 : k ≤ 2000000) : HCall Try.prog 10 [.ref 1000 0 l.length full, .num .i64 k] (sm ([(1000, .arr 2 38 (encPs l))])) (.num .i64 (k + 2 * (l.length : Int))) (sm ([(1000, .arr 2 38 (encPs (marksP l.length k)))])) := by
  refine hcall_V (G := g_laws_markPointS) (H := []) [] tabOK mixed gok_laws_markPointS hok_laws_markPointS Try.func10 rfl Try.ntmps10 Try.results10 rfl (by kernel_rfl) fun F hN hlen => ?_
  simp only [sm]
  have hx : ∃ k ty es, IBlk.arr 2 38 (encPs l) = IBlk.arr k ty es := ⟨_, _, _, rfl⟩
  simp only [V_seq, V_block, V_region, W_nil, W_cons, effOp2, KN_seq, effOp, effPure, pureV, ofC, strip, ISt.app, opI, gO, gB, allB, gval, wrapG, dstOK, setD, enumT, Op.operands, Nat.reduceLT, Nat.zero_add, true_and, and_self, implies_true, List.nil_append, List.cons_append, hN]
  refine V_loop (α := Nat × List Pt) ⟨tabOK, mixed, gok_laws_markPointS.toF F, hok_laws_markPointS⟩ (by kernel_rfl) (fun b => b.1 ≤ l.length ∧ b.2.length = l.length ∧ ∀ j, j < b.1 → pAt b.2 j = (k + 2 * j, k + 2 * j + 1)) (fun b => ⟨[(5, .num .i64 b.1), (0, .ref 1000 0 l.length full), (1, .num .i64 (k + 2 * (b.1 : Int)))], [(1000, some (.arr 2 38 (encPs b.2)))]⟩) (fun b => l.length - b.1) (0, l) id ⟨by simp, rfl, fun j h => absurd h (Nat.not_lt_zero j)⟩ (by simp [SLe, SLe0, convTm, convHp, convB, conv, conv0, lkT, lkH, clean, List.take_length]) ?_
  rintro ⟨i, m⟩ ⟨hi, hl, hj⟩
  simp only [] at hi hl hj
  have em := len_encPs m
  rw [hl] at em
  have hx : ∃ k ty es, IBlk.arr 2 38 (encPs m) = IBlk.arr k ty es := ⟨_, _, _, rfl⟩
  simp only [V_seq, V_region, V_cond, W_nil, W_cons, effOp2, KN_seq, asB, effOp, effPure, pureV, binV, lenV, strip, lkT, ISt.app, opI, gO, gB, allB, gval, wrapG, dstOK, setD, Op.operands, Call.operands, List.append_toArray, reduceIte, reduceCtorEq, Nat.reduceLT, Nat.reduceEqDiff, ne_eq, not_false_eq_true, true_and, and_self, implies_true, List.nil_append, List.cons_append, tab26, hN]
  refine brW_some (fun h => ?_) (fun h => ?_)
  · have hi' : i < l.length := by simpa using h
    have hw := wr_succ hi' (by rw [maxLen_eq]; omega)
    have g0 := getD_encPs (l := m) (i := i) (by omega)
    have w1 : IntKind.i64.wrap (k + 2 * (i : Int) + 1) = k + 2 * (i : Int) + 1 := wr (by omega) (by omega)
    have w2 : IntKind.i64.wrap (k + 2 * (i : Int) + 1 + 1) = k + 2 * ((i + 1 : Nat) : Int) := by rw [wr (by omega) (by omega)]; omega
    have e1 : (encPs m).set i (.agg [.num .i64 (k + 2 * (i : Int)), .num .i64 (pAt m i).2]) = encPs (m.set i (k + 2 * (i : Int), (pAt m i).2)) := encPs_set m i (_, _)
    obtain ⟨m1, hm1⟩ : ∃ m1, m.set i (k + 2 * (i : Int), (pAt m i).2) = m1 := ⟨_, rfl⟩
    have l1 : m1.length = m.length := by rw [← hm1]; simp
    have a1 : pAt m1 i = (k + 2 * (i : Int), (pAt m i).2) := by rw [← hm1]; simp [show i < m.length by omega]
    have g1 := getD_encPs (l := m1) (i := i) (by omega)
    rw [a1] at g1
    rw [hm1] at e1
    have hx1 : ∃ k ty es, IBlk.arr 2 38 (encPs m1) = IBlk.arr k ty es := ⟨_, _, _, rfl⟩
    have e2 : (encPs m1).set i (.agg [.num .i64 (k + 2 * (i : Int)), .num .i64 (k + 2 * (i : Int) + 1)]) = encPs (m1.set i (k + 2 * (i : Int), k + 2 * (i : Int) + 1)) := encPs_set m1 i (_, _)
    have em1 := len_encPs m1
    rw [l1, hl] at em1
    have ej : ∀ j, j < i + 1 → pAt (m1.set i (k + 2 * (i : Int), k + 2 * (i : Int) + 1)) j = (k + 2 * j, k + 2 * j + 1) := by
      intro j hj'
      by_cases c : i = j
      · subst c; simp [show i < m1.length by omega]
      · have : pAt (m1.set i (k + 2 * (i : Int), k + 2 * (i : Int) + 1)) j = pAt m j := by
          simp only [pAt, List.getD, List.getElem?_set_ne c]
          rw [← hm1, List.getElem?_set_ne c]
        rw [this]; exact hj j (by omega)
    simp only [V_seq, V_skip, V_block, V_region, W_nil, W_cons, effOp2, KN_seq, KN_block, KN_back, effOp, effPure, effStore, pureV, storeV, binV, faddrV, iaddrV, over, solid, IV.cells, ofC, strip, lkT, lkH, ISt.app, opI, gO, gB, allB, gval, wrapG, dstOK, setD, eltI, oneI, noId', Op.operands, reduceIte, reduceCtorEq, cond_true, Bool.and_true, Nat.reduceAdd, Nat.reduceLT, Nat.reduceLeDiff, Nat.reduceEqDiff, Nat.add_zero, Nat.zero_add, ne_eq, not_false_eq_true, true_and, and_true, false_and, and_false, and_self, implies_true, forall_const, List.nil_append, List.cons_append, List.append_nil, List.all_cons, List.all_nil, Option.some.injEq, List.getD_cons_zero, List.getD_cons_succ, List.length_cons, List.length_nil, List.take_succ_cons, List.take_zero, List.drop_succ_cons, List.drop_zero, List.drop_nil, tab3, tab26, tab38, hN, Int.toNat_natCast, hx, hw, em, g0, w1, w2, e1, g1, hx1, e2, em1]
    repeat refine And.intro (by first | omega | (simp; done) | (simp; omega)) ?_
    exact ⟨(i + 1, m1.set i (k + 2 * (i : Int), k + 2 * (i : Int) + 1)), id, ⟨by simp only []; omega, by simp only [List.length_set]; omega, ej⟩, by simp only []; omega, by simp [SLe, SLe0, convTm, convHp, convB, conv, conv0, lkT, lkH, clean, List.take_length]⟩
  · have hie : i = l.length := by simp at h; omega
    subst hie
    have hm : m = marksP l.length k := eq_of_getD (d := (0, 0)) (by rw [hl, marksP_len]) (fun j h' => (hj j (by omega)).trans (marksP_at _ _ _ (by omega)).symm)
    subst hm
    simp only [V_seq, V_ret, V_exit, V_region, W_nil, W_cons, effOp2, KN_seq, KXr_nil, KXe_nil, KXe_seq, KXe_block, KXe_back, QE, effOp, effPure, pureV, strip, lkT, lkH, ISt.app, opI, gO, gB, allB, gval, wrapG, dstOK, setD, clean, conv, conv0, Op.operands, reduceIte, reduceCtorEq, Nat.reduceLT, Nat.reduceEqDiff, true_and, and_true, and_self, implies_true, List.map_cons, List.map_nil, List.nil_append, List.cons_append, hN, FinH, resA, resV, SLe, SLe0, convTm, convHp, convB]
    exact ⟨id, by simp⟩
def hs_laws_markPointS : HSpec := ⟨[false, false], fun xs hp => match xs, hp with | [.ref 1000 0 n full, .num .i64 k], [(1000, .arr 2 ty es)] => (isPs es) ∧ (ty = 38) ∧ (n = es.length) ∧ ((fun (l : List Pt) (k : Int) (full : Bool) => l.length ≤ 2000000) (toPs es) k full) ∧ ((fun (l : List Pt) (k : Int) (full : Bool) => 0 ≤ k) (toPs es) k full) ∧ ((fun (l : List Pt) (k : Int) (full : Bool) => k ≤ 2000000) (toPs es) k full) | _, _ => False, fun xs hp => match xs, hp with | [.ref 1000 0 n full, .num .i64 k], [(1000, .arr 2 ty es)] => (fun (l : List Pt) (k : Int) (full : Bool) => (.num .i64 (k + 2 * (l.length : Int)) : IV)) (toPs es) k full | _, _ => .junk, fun xs hp => match xs, hp with | [.ref 1000 0 n full, .num .i64 k], [(1000, .arr 2 ty es)] => (fun (l : List Pt) (k : Int) (full : Bool) => ([(1000, .arr 2 38 (encPs (marksP l.length k)))] : List (Nat × IBlk))) (toPs es) k full | _, _ => []⟩
theorem hk_laws_markPointS : ∀ args hp, hs_laws_markPointS.pre args hp → HCall Try.prog 10 args (sm hp) (hs_laws_markPointS.val args hp) (sm (hs_laws_markPointS.hval args hp)) := by
  intro args hp h
  unfold hs_laws_markPointS at h ⊢; simp only at h ⊢; split at h
  · obtain ⟨h1, rfl, rfl, h2, h3, h4⟩ := h; obtain ⟨l, rfl⟩ := isP_ex h1; rw [toPs_enc] at *; rw [len_encPs]; exact c_laws_markPointS l _ _ h2 h3 h4
  · exact h.elim
theorem en_laws_markPointS : Enters Try.prog 10 := enters_of Try.func10 (by kernel_rfl) rfl


def heldP : List Pt → Int → Int
  | [], k => k
  | p :: l, k => if p.1 = k ∧ p.2 = k + 1 then heldP l (k + 2) else -1
theorem held_marks : ∀ n k, heldP (marksP n k) k = k + 2 * (n : Int)
  | 0, k => by simp [marksP, heldP]
  | n + 1, k => by
    rw [marksP, heldP, if_pos ⟨rfl, rfl⟩, held_marks n]
    omega
theorem held_step {l : List Pt} {i : Nat} {k : Int} (hi : i < l.length) : heldP (l.drop i) k = if (pAt l i).1 = k ∧ (pAt l i).2 = k + 1 then heldP (l.drop (i + 1)) (k + 2) else -1 := by
  rw [drop_eq_g (d := (0, 0)) hi, heldP]

end Go.Proofs.Ytiadicmnbjaknaa
