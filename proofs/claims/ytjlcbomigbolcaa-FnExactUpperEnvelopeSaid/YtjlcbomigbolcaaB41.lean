/- The laws on upper envelopes: the walks. -/
import Derived.Test.YtjlcbomigbolcaaB40
import Derived.Test.YtjlcbomigbolcaaBX
import Derived.Test.YtjlcbomigbolcaaBO
set_option linter.unusedVariables false
set_option linter.unusedSimpArgs false
set_option maxHeartbeats 1600000
set_option maxRecDepth 100000
namespace Go.Proofs.Ytjlcbomigbolcaa
open Go Go.Ideal Go.Pl Go.Sort

def g_laws_toGraph : List (Nat × PSpec) := []
theorem gok_laws_toGraph : GOK Try.prog g_laws_toGraph := gok0
def h_laws_toGraph : List (Nat × HSpec) := []
theorem hok_laws_toGraph : HOK Try.prog h_laws_toGraph := hok0
theorem c_laws_toGraph (p : Pt)  : ICall Try.prog 105 [encP p] (encP p) := by
  refine icall_of_hcall (v := encP p) (hp' := []) id ?_ (by simp [SLe0, convTm, convHp, conv, convL, conv0, lkT, clean, encP]) (by simp [idsV, idsL, encP])
  refine hcall_V (G := g_laws_toGraph) (H := []) [] tabOK mixed gok_laws_toGraph hok_laws_toGraph Try.func105 rfl Try.ntmps105 Try.results105 rfl (by kernel_rfl) fun F hN hlen => ?_
  simp only [V_seq, V_ret, V_region, W_nil, W_cons, effOp2, KN_seq, KXr_nil, QE, effOp, effPure, effNew, effAlloc, effBox, effStore, skipE, pureV, storeV, partV, loadV, faddrV, over, solid, IV.cells, strip, lkT, lkH, ISt.app, opI, gO, gB, allB, gval, wrapG, dstOK, setD, mentTm, mentHp, IV.ment, IV.mentL, oneI, clean, enumT, conv, conv0, convL, IBlk.shape, Op.operands, reduceIte, reduceCtorEq, cond_true, Bool.or_false, Bool.and_true, Nat.reduceAdd, Nat.reduceLT, Nat.reduceLeDiff, Nat.reduceEqDiff, Nat.reduceBEq, Nat.add_zero, Nat.zero_add, true_and, and_false, and_self, implies_true, List.map_nil, List.nil_append, List.cons_append, List.append_nil, List.all_cons, List.all_nil, Option.map_some, List.getD_cons_zero, List.getD_cons_succ, List.length_cons, List.length_nil, List.take_succ_cons, List.take_zero, List.take_nil, List.drop_succ_cons, List.drop_zero, List.drop_nil, tab3, tab66, tab123, hN, encP, FinH, resA, resV, SLe, SLe0, convTm, convHp]
  exact ⟨id, List.nodup_nil, fun _ _ _ => rfl⟩
def sp_laws_toGraph : PSpec := ⟨fun xs => match xs with | [.agg [.num .i64 p1, .num .i64 p2]] => True | _ => False, fun xs => match xs with | [.agg [.num _ p1, .num _ p2]] => (fun (p : Pt) => encP p) (p1, p2) | _ => .junk, false⟩
theorem gk_laws_toGraph : ∀ args, sp_laws_toGraph.pre args → ICall Try.prog 105 args (sp_laws_toGraph.val args) := by
  intro args h
  unfold sp_laws_toGraph at h ⊢; simp only at h ⊢; split at h
  · exact c_laws_toGraph (_, _)
  · exact h.elim
theorem en_laws_toGraph : Enters Try.prog 105 := enters_of Try.func105 (by kernel_rfl) rfl

def szGraphV (l : List Pt) (left : Int) : Int := if left < (l.length : Int) then -1 else left - (l.length : Int)
def g_laws_szGraphS : List (Nat × PSpec) := []
theorem gok_laws_szGraphS : GOK Try.prog g_laws_szGraphS := gok0
def h_laws_szGraphS : List (Nat × HSpec) := []
theorem hok_laws_szGraphS : HOK Try.prog h_laws_szGraphS := hok0
theorem c_laws_szGraphS (l : List Pt) (left : Int) (h0 : 0 ≤ left) (h1 : left ≤ 1048576) : ICall Try.prog 33 [.sl 2 (encPs l), .num .i64 left] (.num .i64 (szGraphV l left)) := by
  refine icall_V (G := g_laws_szGraphS) (H := []) [] tabOK mixed gok_laws_szGraphS hok_laws_szGraphS Try.func33 rfl Try.ntmps33 Try.results33 rfl (by kernel_rfl) fun F hN hlen => ?_
  have hl := hlen 0 2 _ rfl
  have el := len_encPs l
  rw [el, maxLen_eq] at hl
  have w1 : IntKind.i64.wrap (left - (l.length : Int)) = left - (l.length : Int) := wr (by omega) (by omega)
  by_cases c : left < (l.length : Int)
  · have d1 : decide (left - (l.length : Int) < 0) = true := by simp only [decide_eq_true_eq]; omega
    have hv : szGraphV l left = -1 := if_pos c
    simp only [V_seq, V_ret, V_region, V_cond, brW_true, W_nil, W_cons, effOp2, KN_seq, KXr_nil, KXr_seq, QE, asB, effOp, effPure, pureV, binV, lenV, ofC, strip, lkT, lkH, ISt.app, opI, gO, gB, allB, gval, wrapG, dstOK, setD, clean, enumT, Gives, Ideal.Fin, conv, conv0, Op.operands, Call.operands, List.append_toArray, reduceIte, reduceCtorEq, Nat.reduceLT, Nat.reduceEqDiff, Nat.zero_add, ne_eq, not_false_eq_true, and_self, implies_true, List.nil_append, List.cons_append, List.append_nil, tab54, hN, el, w1, d1, hv]
  · have d1 : decide (left - (l.length : Int) < 0) = false := by simp only [decide_eq_false_iff_not]; omega
    have hv : szGraphV l left = left - (l.length : Int) := if_neg c
    simp only [V_seq, V_skip, V_ret, V_region, V_cond, brW_false, W_nil, W_cons, effOp2, KN_seq, KXr_nil, QE, asB, effOp, effPure, pureV, binV, lenV, ofC, strip, lkT, lkH, ISt.app, opI, gO, gB, allB, gval, wrapG, dstOK, setD, clean, enumT, Gives, Ideal.Fin, conv, conv0, Op.operands, Call.operands, List.append_toArray, reduceIte, reduceCtorEq, Nat.reduceLT, Nat.reduceEqDiff, Nat.zero_add, ne_eq, not_false_eq_true, and_self, implies_true, List.nil_append, List.cons_append, List.append_nil, tab54, hN, el, w1, d1, hv]
def sp_laws_szGraphS : PSpec := ⟨fun xs => match xs with | [.sl 2 les, .num .i64 left] => isPs les ∧ ((fun (l : List Pt) (left : Int) => 0 ≤ left) (toPs les) left) ∧ ((fun (l : List Pt) (left : Int) => left ≤ 1048576) (toPs les) left) | _ => False, fun xs => match xs with | [.sl _ les, .num _ left] => (fun (l : List Pt) (left : Int) => .num .i64 (szGraphV l left)) (toPs les) left | _ => .junk, false⟩
theorem gk_laws_szGraphS : ∀ args, sp_laws_szGraphS.pre args → ICall Try.prog 33 args (sp_laws_szGraphS.val args) := by
  intro args h
  unfold sp_laws_szGraphS at h ⊢; simp only at h ⊢; split at h
  · obtain ⟨h0, h1, h2⟩ := h
    obtain ⟨l0, rfl⟩ := isP_ex h0
    simp only [toPs_enc] at *
    exact c_laws_szGraphS _ _ h1 h2
  · exact h.elim
theorem en_laws_szGraphS : Enters Try.prog 33 := enters_of Try.func33 (by kernel_rfl) rfl

def g_laws_toGraphS : List (Nat × PSpec) := [(105, sp_laws_toGraph)]
theorem gok_laws_toGraphS : GOK Try.prog g_laws_toGraphS := gok_cons gk_laws_toGraph en_laws_toGraph (gok0)
theorem lk_laws_toGraphS_laws_toGraph : lkG g_laws_toGraphS 105 = sp_laws_toGraph := rfl
def h_laws_toGraphS : List (Nat × HSpec) := []
theorem hok_laws_toGraphS : HOK Try.prog h_laws_toGraphS := hok0
theorem c_laws_toGraphS (l : List Pt) (hsz : l.length ≤ 1048576) : HCall Try.prog 35 [.sl 2 (encPs l)] (sm ([])) (.ref 0 0 l.length true) (sm ([(0, .arr 2 66 (encPs l))])) := by
  refine hcall_V (G := g_laws_toGraphS) (H := []) [] tabOK mixed gok_laws_toGraphS hok_laws_toGraphS Try.func35 rfl Try.ntmps35 Try.results35 rfl (by kernel_rfl) fun F hN hlen => ?_
  simp only [sm]
  have el := len_encPs l
  simp only [V_seq, V_block, V_region, W_nil, W_cons, effOp2, KN_seq, effOp, effPure, effNew, effMake, skipE, pureV, lenV, ofC, strip, lkT, ISt.app, opI, gO, gB, allB, gval, wrapG, dstOK, setD, mentTm, mentHp, IV.ment, zeroElt, noId', enumT, Op.operands, Call.operands, List.append_toArray, reduceIte, reduceCtorEq, cond_true, Bool.or_false, Bool.and_true, Nat.reduceLT, Nat.reduceLeDiff, Nat.reduceEqDiff, ne_eq, not_false_eq_true, true_and, and_true, and_self, implies_true, List.nil_append, List.cons_append, List.append_nil, List.all_cons, List.all_nil, tab54, tab57, tab66, hN, Int.toNat_natCast, el]
  refine ⟨by omega, ?_⟩
  refine V_loop (α := Nat) ⟨tabOK, mixed, gok_laws_toGraphS, hok_laws_toGraphS⟩ (by kernel_rfl) (fun i => i ≤ l.length) (fun i => ⟨[(4, .num .i64 i), (3, .ref 7 0 l.length true), (0, .sl 2 (encPs l))], [(7, some (.arr 2 66 (encPs (l.take i ++ List.replicate (l.length - i) (0, 0)))))]⟩) (fun i => l.length - i) 0 id (Nat.zero_le _) (by simp [SLe, SLe0, convTm, convHp, convB, conv, conv0, lkT, lkH, clean, encPs, encP]) ?_
  intro i hi
  have hx : ∃ k ty es, IBlk.arr 2 66 (encPs (l.take i ++ List.replicate (l.length - i) (0, 0))) = IBlk.arr k ty es := ⟨_, _, _, rfl⟩
  have ex : (encPs (l.take i ++ List.replicate (l.length - i) (0, 0))).length = l.length := by rw [len_encPs, List.length_append, List.length_take, List.length_replicate]; omega
  simp only [V_seq, V_region, V_cond, W_nil, W_cons, effOp2, KN_seq, asB, effOp, effPure, pureV, binV, lenV, strip, lkT, ISt.app, opI, gO, gB, allB, gval, wrapG, dstOK, setD, Op.operands, Call.operands, List.append_toArray, reduceIte, reduceCtorEq, Nat.reduceLT, Nat.reduceEqDiff, ne_eq, not_false_eq_true, true_and, and_self, implies_true, List.nil_append, List.cons_append, tab54, hN, el]
  refine brW_some (fun h => ?_) (fun h => ?_)
  · have hi' : i < l.length := by simpa using h
    have g0 := getD_encPs hi'
    have hw := wr_succ hi' (by rw [maxLen_eq]; omega)
    have hset : (l.take i ++ List.replicate (l.length - i) (0, 0)).set i (pAt l i) = l.take (i + 1) ++ List.replicate (l.length - (i + 1)) (0, 0) := by
      rw [List.set_append_right _ _ (by rw [List.length_take]; omega), List.length_take, Nat.min_eq_left (Nat.le_of_lt hi'), Nat.sub_self, show l.length - i = (l.length - (i + 1)) + 1 by omega, List.replicate_succ, List.set_cons_zero, take_succ_g (d := (0, 0)) hi', List.append_assoc]
      rfl
    have hes := encPs_set (l.take i ++ List.replicate (l.length - i) (0, 0)) i (pAt l i)
    rw [hset] at hes
    simp only [V_seq, V_skip, V_block, V_region, W_nil, W_cons, effOp2, KN_seq, KN_block, KN_back, effOp, effPure, effStore, effCall, giveUp, hasAll, pureV, storeV, binV, partV, eltV, loadV, iaddrV, over, solid, IV.cells, ofC, strip, lkT, lkH, ISt.app, opI, gO, gB, allB, gval, wrapG, dstOK, setD, eltI, oneI, noId', lendV, lendP, lent, lentP, idsV, idsL, lkHS, flat, flatL, clean, cleanL, callArgs, callFn, allLent, Op.operands, reduceIte, reduceCtorEq, cond_true, Bool.or_false, Bool.and_true, Bool.true_and, Bool.not_true, Nat.reduceAdd, Nat.reduceLT, Nat.reduceLeDiff, Nat.reduceEqDiff, Nat.zero_add, ne_eq, not_false_eq_true, true_and, and_true, and_false, and_self, implies_true, forall_const, List.map_cons, List.map_nil, List.nil_append, List.cons_append, List.append_nil, List.all_cons, List.all_nil, List.getD_cons_zero, List.length_cons, List.length_nil, List.take_succ_cons, List.take_zero, List.take_nil, List.drop_zero, ex_clo, or_self, tab54, tab57, tab66, tab123, hN, Int.toNat_natCast, encP, lk_laws_toGraphS_laws_toGraph, sp_laws_toGraph, el, g0, hw, ex, hes]
    repeat refine And.intro (by first | omega | (simp; done) | (simp; omega)) ?_
    exact ⟨i + 1, id, by simp only []; omega, by simp only []; omega, by simp [SLe, SLe0, convTm, convHp, convB, conv, conv0, lkT, lkH, clean]⟩
  · have hie : i = l.length := by simp at h; omega
    subst hie
    have hf : l.take l.length ++ List.replicate (l.length - l.length) (0, 0) = l := by simp
    rw [hf] at hx ex ⊢
    simp only [V_seq, V_ret, V_exit, V_region, W_nil, W_cons, effOp2, KN_seq, KXr_nil, KXe_nil, KXe_seq, KXe_block, KXe_back, QE, effOp, effPure, Option.isSome_some, pureV, strip, lkT, lkH, ISt.app, opI, gO, gB, allB, gval, wrapG, dstOK, setD, conv, conv0, Op.operands, reduceIte, reduceCtorEq, Nat.reduceLT, Nat.reduceEqDiff, true_and, and_true, and_self, implies_true, List.map_cons, List.map_nil, List.nil_append, List.cons_append, hN, FinH, resA, resV, SLe, SLe0, convTm, convHp, convB]
    exact ⟨fun x => if x = 0 then 7 else x, by simp; omega⟩
def hs_laws_toGraphS : HSpec := ⟨[true], fun xs hp => match xs, hp with | [.sl 2 es], [] => (isPs es) ∧ ((fun (l : List Pt) => l.length ≤ 1048576) (toPs es)) | _, _ => False, fun xs hp => match xs, hp with | [.sl 2 es], [] => (fun (l : List Pt) => (.ref 0 0 l.length true : IV)) (toPs es) | _, _ => .junk, fun xs hp => match xs, hp with | [.sl 2 es], [] => (fun (l : List Pt) => ([(0, .arr 2 66 (encPs l))] : List (Nat × IBlk))) (toPs es) | _, _ => []⟩
theorem hk_laws_toGraphS : ∀ args hp, hs_laws_toGraphS.pre args hp → HCall Try.prog 35 args (sm hp) (hs_laws_toGraphS.val args hp) (sm (hs_laws_toGraphS.hval args hp)) := by
  intro args hp h
  unfold hs_laws_toGraphS at h ⊢; simp only at h ⊢; split at h
  · obtain ⟨h1, h2⟩ := h; obtain ⟨l, rfl⟩ := isP_ex h1; rw [toPs_enc] at *; exact c_laws_toGraphS l h2
  · exact h.elim
theorem en_laws_toGraphS : Enters Try.prog 35 := enters_of Try.func35 (by kernel_rfl) rfl

def g_laws_eqGraph : List (Nat × PSpec) := []
theorem gok_laws_eqGraph : GOK Try.prog g_laws_eqGraph := gok0
def h_laws_eqGraph : List (Nat × HSpec) := []
theorem hok_laws_eqGraph : HOK Try.prog h_laws_eqGraph := hok0
theorem c_laws_eqGraph (p : Pt) (q : Pt)  : ICall Try.prog 112 [encP p, encP q] (.bool (p == q)) := by
  refine icall_V (G := g_laws_eqGraph) (H := []) [] tabOK mixed gok_laws_eqGraph hok_laws_eqGraph Try.func112 rfl Try.ntmps112 Try.results112 rfl (by kernel_rfl) fun F hN hlen => ?_
  obtain ⟨p1, p2⟩ := p
  obtain ⟨q1, q2⟩ := q
  by_cases c1 : p1 = q1
  · by_cases c2 : p2 = q2
    · have d1 : (p1 != q1) = false := by simpa using c1
      have d2 : (p2 != q2) = false := by simpa using c2
      simp only [V_seq, V_skip, V_ret, V_region, V_cond, brW_false, W_nil, W_cons, effOp2, KN_seq, KXr_nil, QE, asB, effOp, effPure, effNew, effBox, skipE, pureV, binV, partV, loadV, faddrV, solid, IV.cells, ofC, strip, lkT, lkH, ISt.app, opI, gO, gB, allB, gval, wrapG, dstOK, setD, mentTm, mentHp, IV.ment, IV.mentL, oneI, clean, enumT, Gives, Ideal.Fin, conv, conv0, IBlk.shape, Op.operands, reduceIte, reduceCtorEq, cond_true, Bool.or_false, Bool.and_true, Nat.reduceAdd, Nat.reduceLT, Nat.reduceLeDiff, Nat.reduceEqDiff, Nat.reduceBEq, Nat.add_zero, Nat.zero_add, true_and, and_true, and_self, implies_true, List.nil_append, List.cons_append, List.append_nil, List.all_cons, List.all_nil, Option.map_some, List.getD_cons_zero, List.getD_cons_succ, List.length_cons, List.length_nil, List.take_succ_cons, List.take_zero, List.take_nil, List.drop_succ_cons, List.drop_zero, tab3, tab66, hN, encP, d1, d2]
      simp [c1, c2]
    · have d1 : (p1 != q1) = false := by simpa using c1
      have d2 : (p2 != q2) = true := by simpa using c2
      simp only [V_seq, V_skip, V_ret, V_region, V_cond, brW_true, brW_false, W_nil, W_cons, effOp2, KN_seq, KXr_nil, KXr_seq, QE, asB, effOp, effPure, effNew, effBox, skipE, pureV, binV, partV, loadV, faddrV, solid, IV.cells, ofC, strip, lkT, lkH, ISt.app, opI, gO, gB, allB, gval, wrapG, dstOK, setD, mentTm, mentHp, IV.ment, IV.mentL, oneI, clean, enumT, Gives, Ideal.Fin, conv, conv0, IBlk.shape, Op.operands, reduceIte, reduceCtorEq, cond_true, Bool.or_false, Bool.and_true, Nat.reduceAdd, Nat.reduceLT, Nat.reduceLeDiff, Nat.reduceEqDiff, Nat.reduceBEq, Nat.add_zero, Nat.zero_add, true_and, and_true, and_self, implies_true, List.nil_append, List.cons_append, List.append_nil, List.all_cons, List.all_nil, Option.map_some, List.getD_cons_zero, List.getD_cons_succ, List.length_cons, List.length_nil, List.take_succ_cons, List.take_zero, List.take_nil, List.drop_succ_cons, List.drop_zero, tab3, tab66, hN, encP, d1, d2]
      simp [c2]
  · have d1 : (p1 != q1) = true := by simpa using c1
    simp only [V_seq, V_ret, V_region, V_cond, brW_true, W_nil, W_cons, effOp2, KN_seq, KXr_nil, KXr_seq, QE, asB, effOp, effPure, effNew, effBox, skipE, pureV, binV, partV, loadV, faddrV, solid, IV.cells, ofC, strip, lkT, lkH, ISt.app, opI, gO, gB, allB, gval, wrapG, dstOK, setD, mentTm, mentHp, IV.ment, IV.mentL, oneI, clean, enumT, Gives, Ideal.Fin, conv, conv0, IBlk.shape, Op.operands, reduceIte, reduceCtorEq, cond_true, Bool.or_false, Bool.and_true, Nat.reduceAdd, Nat.reduceLT, Nat.reduceLeDiff, Nat.reduceEqDiff, Nat.reduceBEq, Nat.add_zero, Nat.zero_add, true_and, and_true, and_self, implies_true, List.nil_append, List.cons_append, List.append_nil, List.all_cons, List.all_nil, Option.map_some, List.getD_cons_zero, List.length_cons, List.length_nil, List.take_succ_cons, List.take_zero, List.drop_zero, tab3, tab66, hN, encP, d1]
    simp [c1]
def sp_laws_eqGraph : PSpec := ⟨fun xs => match xs with | [.agg [.num .i64 p1, .num .i64 p2], .agg [.num .i64 q1, .num .i64 q2]] => True | _ => False, fun xs => match xs with | [.agg [.num _ p1, .num _ p2], .agg [.num _ q1, .num _ q2]] => (fun (p : Pt) (q : Pt) => .bool (p == q)) (p1, p2) (q1, q2) | _ => .junk, false⟩
theorem gk_laws_eqGraph : ∀ args, sp_laws_eqGraph.pre args → ICall Try.prog 112 args (sp_laws_eqGraph.val args) := by
  intro args h
  unfold sp_laws_eqGraph at h ⊢; simp only at h ⊢; split at h
  · exact c_laws_eqGraph (_, _) (_, _)
  · exact h.elim
theorem en_laws_eqGraph : Enters Try.prog 112 := enters_of Try.func112 (by kernel_rfl) rfl

def g_laws_eqGraphS : List (Nat × PSpec) := [(112, sp_laws_eqGraph)]
theorem gok_laws_eqGraphS : GOK Try.prog g_laws_eqGraphS := gok_cons gk_laws_eqGraph en_laws_eqGraph (gok0)
theorem lk_laws_eqGraphS_laws_eqGraph : lkG g_laws_eqGraphS 112 = sp_laws_eqGraph := rfl
def h_laws_eqGraphS : List (Nat × HSpec) := []
theorem hok_laws_eqGraphS : HOK Try.prog h_laws_eqGraphS := hok0
theorem c_laws_eqGraphS (a : List Pt) (b : List Pt)  : ICall Try.prog 38 [.sl 2 (encPs a), .sl 2 (encPs b)] (.bool (a == b)) := by
  refine icall_V (G := g_laws_eqGraphS) (H := []) [(6, [(0, 8), (1, 8), (2, 8), (4, 8), (5, 8), (6, 8)])] tabOK mixed gok_laws_eqGraphS hok_laws_eqGraphS Try.func38 rfl Try.ntmps38 Try.results38 rfl (by kernel_rfl) fun F hN hlen => ?_
  have la := hlen 0 2 _ rfl
  have lb := hlen 1 2 _ rfl
  have ea := len_encPs a
  have eb := len_encPs b
  rw [ea] at la
  rw [eb] at lb
  simp only [V_seq, V_region, V_cond, W_nil, W_cons, effOp2, KN_seq, asB, effOp, effPure, pureV, binV, lenV, ofC, strip, lkT, ISt.app, opI, gO, gB, allB, gval, wrapG, dstOK, setD, enumT, Op.operands, Call.operands, List.append_toArray, reduceIte, reduceCtorEq, Nat.reduceLT, Nat.reduceEqDiff, Nat.zero_add, ne_eq, not_false_eq_true, true_and, and_self, implies_true, List.nil_append, List.cons_append, List.append_nil, tab57, hN, ea, eb]
  refine brW_some (fun h => ?_) (fun h => ?_)
  · simp only [V_seq, V_ret, V_region, W_nil, W_cons, effOp2, KN_seq, KXr_nil, KXr_seq, QE, effOp, effPure, pureV, ofC, strip, lkT, lkH, ISt.app, opI, gO, gB, allB, gval, wrapG, dstOK, setD, clean, Gives, Ideal.Fin, conv, conv0, Op.operands, reduceIte, reduceCtorEq, Nat.reduceLT, Nat.reduceEqDiff, true_and, and_true, and_self, implies_true, List.nil_append, List.cons_append, List.append_nil, hN]
    have : a ≠ b := by rintro rfl; simp at h
    simp [this]
  · simp only [V_seq, V_skip, V_block, V_region, W_nil, W_cons, effOp2, KN_seq, effOp, effPure, pureV, ofC, strip, ISt.app, opI, gO, gB, allB, gval, wrapG, dstOK, setD, Op.operands, Nat.reduceLT, true_and, and_self, implies_true, List.nil_append, List.cons_append, List.append_nil, hN]
    have hab : a.length = b.length := by simp at h; omega
    refine V_loop (α := Nat) ⟨tabOK, mixed, gok_laws_eqGraphS, hok_laws_eqGraphS⟩ (by kernel_rfl) (fun i => i ≤ a.length ∧ ∀ j, j < i → pAt a j = pAt b j) (fun i => ⟨[(5, .num .i64 i), (0, .sl 2 (encPs a)), (1, .sl 2 (encPs b))], []⟩) (fun i => a.length - i) 0 id (by simp) (by simp [SLe, SLe0, convTm, convHp, conv, conv0, lkT, lkH, clean]) ?_
    rintro i ⟨hi, hj⟩
    simp only [V_seq, V_region, V_cond, W_nil, W_cons, effOp2, KN_seq, asB, effOp, effPure, pureV, binV, lenV, strip, lkT, ISt.app, opI, gO, gB, allB, gval, wrapG, dstOK, setD, Op.operands, Call.operands, List.append_toArray, reduceIte, reduceCtorEq, Nat.reduceLT, Nat.reduceEqDiff, ne_eq, not_false_eq_true, true_and, and_self, implies_true, List.nil_append, List.cons_append, List.append_nil, tab57, hN, ea]
    refine brW_some (fun h => ?_) (fun h => ?_)
    · have hi' : i < a.length := by simpa using h
      have g1 := getD_encPs hi'
      have g2 := getD_encPs (hab ▸ hi' : i < b.length)
      have hw := wr_succ hi' la
      simp only [V_seq, V_skip, V_block, V_draw, V_cond, drawW, WS_nil, pairsOf, W_nil, W_cons, effOp2, WI_nil, WI_cons, KN_seq, dynOK, indB, farB, freshB, heapy, asB, effOp, effPure, effCall, giveUp, hasAll, pureV, partV, eltV, loadV, iaddrV, strip, lkT, lkH, ISt.app, opI, gO, gB, allB, gval, wrapG, dstOK, setD, mentTm, mentHp, IV.ment, lendV, lendP, lent, lentP, idsV, idsL, lkHS, flat, clean, callArgs, callFn, allLent, Op.operands, Call.operands, List.append_toArray, reduceIte, reduceCtorEq, cond_true, cond_false, Bool.or_false, Bool.and_true, Bool.and_eq_true, Bool.not_true, Bool.not_false, Nat.reduceAdd, Nat.reduceLT, Nat.reduceLeDiff, Nat.reduceEqDiff, Nat.reduceBEq, Nat.zero_add, ne_eq, not_false_eq_true, true_and, and_true, and_false, and_self, implies_true, forall_const, List.map_cons, List.map_nil, List.nil_append, List.cons_append, List.append_nil, List.getD_cons_zero, List.getD_cons_succ, List.length_cons, List.length_nil, List.take_succ_cons, List.take_zero, List.take_nil, List.drop_zero, ex_clo, or_self, tab57, tab66, hN, pe, Int.toNat_natCast, lk_laws_eqGraphS_laws_eqGraph, sp_laws_eqGraph, ea, eb, Int.toNat_natCast, g1, g2]
      repeat refine And.intro (by omega) ?_
      refine brW_some (fun h => ?_) (fun h => ?_)
      · simp only [V_seq, V_ret, V_region, W_nil, W_cons, effOp2, KN_seq, KXr_nil, KXr_seq, KXr_block, KXr_back, QE, effOp, effPure, pureV, ofC, strip, lkT, lkH, ISt.app, opI, gO, gB, allB, gval, wrapG, dstOK, setD, clean, Gives, Ideal.Fin, conv, conv0, Op.operands, reduceIte, reduceCtorEq, Nat.reduceLT, Nat.reduceEqDiff, true_and, and_true, and_self, implies_true, List.nil_append, List.cons_append, List.append_nil, hN]
        have : a ≠ b := by rintro rfl; simp at h
        simp [this]
      · simp only [V_skip, V_region, W_nil, W_cons, effOp2, KN_seq, KN_block, KN_back, effOp, effPure, pureV, binV, ofC, strip, lkT, ISt.app, opI, gO, gB, allB, gval, wrapG, dstOK, setD, Op.operands, reduceIte, reduceCtorEq, Nat.reduceLT, Nat.reduceEqDiff, true_and, and_self, implies_true, List.nil_append, List.cons_append, List.append_nil, hN, hw]
        refine ⟨i + 1, id, ⟨by omega, ?_⟩, by simp only []; omega, by simp [SLe, SLe0, convTm, convHp, conv, conv0, lkT, lkH, clean]⟩
        intro j hj'
        rcases Nat.lt_succ_iff_lt_or_eq.1 hj' with h' | rfl
        · exact hj j h'
        · simpa using h
    · simp only [V_seq, V_ret, V_exit, V_region, W_nil, W_cons, effOp2, KN_seq, KXr_nil, KXe_nil, KXe_seq, KXe_block, KXe_back, QE, effOp, effPure, pureV, ofC, strip, lkT, lkH, ISt.app, opI, gO, gB, allB, gval, wrapG, dstOK, setD, clean, Gives, Ideal.Fin, conv, conv0, Op.operands, reduceIte, reduceCtorEq, Nat.reduceLT, Nat.reduceEqDiff, true_and, and_true, and_self, implies_true, List.nil_append, List.cons_append, List.append_nil, hN]
      have hie : i = a.length := by simp at h; omega
      have : a = b := eq_of_getD hab (fun j h' => hj j (by omega))
      simp [this]
def sp_laws_eqGraphS : PSpec := ⟨fun xs => match xs with | [.sl 2 aes, .sl 2 bes] => isPs aes ∧ isPs bes | _ => False, fun xs => match xs with | [.sl _ aes, .sl _ bes] => (fun (a : List Pt) (b : List Pt) => .bool (a == b)) (toPs aes) (toPs bes) | _ => .junk, false⟩
theorem gk_laws_eqGraphS : ∀ args, sp_laws_eqGraphS.pre args → ICall Try.prog 38 args (sp_laws_eqGraphS.val args) := by
  intro args h
  unfold sp_laws_eqGraphS at h ⊢; simp only at h ⊢; split at h
  · obtain ⟨h0, h1⟩ := h
    obtain ⟨l0, rfl⟩ := isP_ex h0
    obtain ⟨l1, rfl⟩ := isP_ex h1
    simp only [toPs_enc] at *
    exact c_laws_eqGraphS _ _ 
  · exact h.elim
theorem en_laws_eqGraphS : Enters Try.prog 38 := enters_of Try.func38 (by kernel_rfl) rfl

def g_laws_markGraphS : List (Nat × PSpec) := []
theorem gok_laws_markGraphS : GOK Try.prog g_laws_markGraphS := gok0
def h_laws_markGraphS : List (Nat × HSpec) := []
theorem hok_laws_markGraphS : HOK Try.prog h_laws_markGraphS := hok0
theorem c_laws_markGraphS (l : List Pt) (k : Int) (full : Bool) (hsz : l.length ≤ 2000000) (h0 : 0 ≤ k) (h1 : k ≤ 2000000) : HCall Try.prog 39 [.ref 1000 0 l.length full, .num .i64 k] (sm ([(1000, .arr 2 66 (encPs l))])) (.num .i64 (k + 2 * (l.length : Int))) (sm ([(1000, .arr 2 66 (encPs (marksP l.length k)))])) := by
  refine hcall_V (G := g_laws_markGraphS) (H := []) [] tabOK mixed gok_laws_markGraphS hok_laws_markGraphS Try.func39 rfl Try.ntmps39 Try.results39 rfl (by kernel_rfl) fun F hN hlen => ?_
  simp only [sm]
  have hx : ∃ k ty es, IBlk.arr 2 66 (encPs l) = IBlk.arr k ty es := ⟨_, _, _, rfl⟩
  simp only [V_seq, V_block, V_region, W_nil, W_cons, effOp2, KN_seq, effOp, effPure, pureV, ofC, strip, ISt.app, opI, gO, gB, allB, gval, wrapG, dstOK, setD, enumT, Op.operands, Nat.reduceLT, Nat.zero_add, true_and, and_self, implies_true, List.nil_append, List.cons_append, hN]
  refine V_loop (α := Nat × List Pt) ⟨tabOK, mixed, gok_laws_markGraphS, hok_laws_markGraphS⟩ (by kernel_rfl) (fun b => b.1 ≤ l.length ∧ b.2.length = l.length ∧ ∀ j, j < b.1 → pAt b.2 j = (k + 2 * j, k + 2 * j + 1)) (fun b => ⟨[(5, .num .i64 b.1), (0, .ref 1000 0 l.length full), (1, .num .i64 (k + 2 * (b.1 : Int)))], [(1000, some (.arr 2 66 (encPs b.2)))]⟩) (fun b => l.length - b.1) (0, l) id ⟨by simp, rfl, fun j h => absurd h (Nat.not_lt_zero j)⟩ (by simp [SLe, SLe0, convTm, convHp, convB, conv, conv0, lkT, lkH, clean, List.take_length]) ?_
  rintro ⟨i, m⟩ ⟨hi, hl, hj⟩
  simp only [] at hi hl hj
  have em := len_encPs m
  rw [hl] at em
  have hx : ∃ k ty es, IBlk.arr 2 66 (encPs m) = IBlk.arr k ty es := ⟨_, _, _, rfl⟩
  simp only [V_seq, V_region, V_cond, W_nil, W_cons, effOp2, KN_seq, asB, effOp, effPure, pureV, binV, lenV, strip, lkT, ISt.app, opI, gO, gB, allB, gval, wrapG, dstOK, setD, Op.operands, Call.operands, List.append_toArray, reduceIte, reduceCtorEq, Nat.reduceLT, Nat.reduceEqDiff, ne_eq, not_false_eq_true, true_and, and_self, implies_true, List.nil_append, List.cons_append, tab57, hN]
  refine brW_some (fun h => ?_) (fun h => ?_)
  · have hi' : i < l.length := by simpa using h
    have hw := wr_succ hi' (by rw [maxLen_eq]; omega)
    have g0 := getD_encPs (l := m) (i := i) (by omega)
    have w1 : IntKind.i64.wrap (k + 2 * (i : Int) + 1) = k + 2 * (i : Int) + 1 := wr (by omega) (by omega)
    have w2 : IntKind.i64.wrap (k + 2 * (i : Int) + 1 + 1) = k + 2 * ((i + 1 : Nat) : Int) := by rw [wr (by omega) (by omega)]; omega
    have e1 : (encPs m).set i (.agg [.num .i64 (k + 2 * (i : Int)), .num .i64 (pAt m i).2]) = encPs (m.set i (k + 2 * (i : Int), (pAt m i).2)) := encPs_set m i (_, _)
    obtain ⟨m1, hm1⟩ : ∃ m1, m.set i (k + 2 * (i : Int), (pAt m i).2) = m1 := ⟨_, rfl⟩
    have l1 : m1.length = m.length := by rw [← hm1]; simp
    have a1 : pAt m1 i = (k + 2 * (i : Int), (pAt m i).2) := by rw [← hm1]; simp [show i < m.length by omega]
    have g1 := getD_encPs (l := m1) (i := i) (by omega)
    rw [a1] at g1
    rw [hm1] at e1
    have hx1 : ∃ k ty es, IBlk.arr 2 66 (encPs m1) = IBlk.arr k ty es := ⟨_, _, _, rfl⟩
    have e2 : (encPs m1).set i (.agg [.num .i64 (k + 2 * (i : Int)), .num .i64 (k + 2 * (i : Int) + 1)]) = encPs (m1.set i (k + 2 * (i : Int), k + 2 * (i : Int) + 1)) := encPs_set m1 i (_, _)
    have em1 := len_encPs m1
    rw [l1, hl] at em1
    have ej : ∀ j, j < i + 1 → pAt (m1.set i (k + 2 * (i : Int), k + 2 * (i : Int) + 1)) j = (k + 2 * j, k + 2 * j + 1) := by
      intro j hj'
      by_cases c : i = j
      · subst c; simp [show i < m1.length by omega]
      · have : pAt (m1.set i (k + 2 * (i : Int), k + 2 * (i : Int) + 1)) j = pAt m j := by
          simp only [pAt, List.getD, List.getElem?_set_ne c]
          rw [← hm1, List.getElem?_set_ne c]
        rw [this]; exact hj j (by omega)
    simp only [V_seq, V_skip, V_block, V_region, W_nil, W_cons, effOp2, KN_seq, KN_block, KN_back, effOp, effPure, effStore, pureV, storeV, binV, faddrV, iaddrV, over, solid, IV.cells, ofC, strip, lkT, lkH, ISt.app, opI, gO, gB, allB, gval, wrapG, dstOK, setD, eltI, oneI, noId', Op.operands, reduceIte, reduceCtorEq, cond_true, Bool.and_true, Nat.reduceAdd, Nat.reduceLT, Nat.reduceLeDiff, Nat.reduceEqDiff, Nat.add_zero, Nat.zero_add, ne_eq, not_false_eq_true, true_and, and_true, false_and, and_false, and_self, implies_true, forall_const, List.nil_append, List.cons_append, List.append_nil, List.all_cons, List.all_nil, Option.some.injEq, List.getD_cons_zero, List.getD_cons_succ, List.length_cons, List.length_nil, List.take_succ_cons, List.take_zero, List.drop_succ_cons, List.drop_zero, List.drop_nil, tab3, tab57, tab66, hN, Int.toNat_natCast, hx, hw, em, g0, w1, w2, e1, g1, hx1, e2, em1]
    repeat refine And.intro (by first | omega | (simp; done) | (simp; omega)) ?_
    exact ⟨(i + 1, m1.set i (k + 2 * (i : Int), k + 2 * (i : Int) + 1)), id, ⟨by simp only []; omega, by simp only [List.length_set]; omega, ej⟩, by simp only []; omega, by simp [SLe, SLe0, convTm, convHp, convB, conv, conv0, lkT, lkH, clean, List.take_length]⟩
  · have hie : i = l.length := by simp at h; omega
    subst hie
    have hm : m = marksP l.length k := eq_of_getD (d := (0, 0)) (by rw [hl, marksP_len]) (fun j h' => (hj j (by omega)).trans (marksP_at _ _ _ (by omega)).symm)
    subst hm
    simp only [V_seq, V_ret, V_exit, V_region, W_nil, W_cons, effOp2, KN_seq, KXr_nil, KXe_nil, KXe_seq, KXe_block, KXe_back, QE, effOp, effPure, pureV, strip, lkT, lkH, ISt.app, opI, gO, gB, allB, gval, wrapG, dstOK, setD, clean, conv, conv0, Op.operands, reduceIte, reduceCtorEq, Nat.reduceLT, Nat.reduceEqDiff, true_and, and_true, and_self, implies_true, List.map_cons, List.map_nil, List.nil_append, List.cons_append, hN, FinH, resA, resV, SLe, SLe0, convTm, convHp, convB]
    exact ⟨id, by simp⟩
def hs_laws_markGraphS : HSpec := ⟨[false, false], fun xs hp => match xs, hp with | [.ref 1000 0 n full, .num .i64 k], [(1000, .arr 2 ty es)] => (isPs es) ∧ (ty = 66) ∧ (n = es.length) ∧ ((fun (l : List Pt) (k : Int) (full : Bool) => l.length ≤ 2000000) (toPs es) k full) ∧ ((fun (l : List Pt) (k : Int) (full : Bool) => 0 ≤ k) (toPs es) k full) ∧ ((fun (l : List Pt) (k : Int) (full : Bool) => k ≤ 2000000) (toPs es) k full) | _, _ => False, fun xs hp => match xs, hp with | [.ref 1000 0 n full, .num .i64 k], [(1000, .arr 2 ty es)] => (fun (l : List Pt) (k : Int) (full : Bool) => (.num .i64 (k + 2 * (l.length : Int)) : IV)) (toPs es) k full | _, _ => .junk, fun xs hp => match xs, hp with | [.ref 1000 0 n full, .num .i64 k], [(1000, .arr 2 ty es)] => (fun (l : List Pt) (k : Int) (full : Bool) => ([(1000, .arr 2 66 (encPs (marksP l.length k)))] : List (Nat × IBlk))) (toPs es) k full | _, _ => []⟩
theorem hk_laws_markGraphS : ∀ args hp, hs_laws_markGraphS.pre args hp → HCall Try.prog 39 args (sm hp) (hs_laws_markGraphS.val args hp) (sm (hs_laws_markGraphS.hval args hp)) := by
  intro args hp h
  unfold hs_laws_markGraphS at h ⊢; simp only at h ⊢; split at h
  · obtain ⟨h1, rfl, rfl, h2, h3, h4⟩ := h; obtain ⟨l, rfl⟩ := isP_ex h1; rw [toPs_enc] at *; rw [len_encPs]; exact c_laws_markGraphS l _ _ h2 h3 h4
  · exact h.elim
theorem en_laws_markGraphS : Enters Try.prog 39 := enters_of Try.func39 (by kernel_rfl) rfl

def g_laws_eqIntS : List (Nat × PSpec) := []
theorem gok_laws_eqIntS : GOK Try.prog g_laws_eqIntS := gok0
def h_laws_eqIntS : List (Nat × HSpec) := []
theorem hok_laws_eqIntS : HOK Try.prog h_laws_eqIntS := hok0
theorem c_laws_eqIntS (a : List Int) (b : List Int)  : ICall Try.prog 37 [.sl 1 (encI a), .sl 1 (encI b)] (.bool (a == b)) := by
  refine icall_V (G := g_laws_eqIntS) (H := []) [] tabOK mixed gok_laws_eqIntS hok_laws_eqIntS Try.func37 rfl Try.ntmps37 Try.results37 rfl (by kernel_rfl) fun F hN hlen => ?_
  have la := hlen 0 1 _ rfl
  have lb := hlen 1 1 _ rfl
  have ea := len_encI a
  have eb := len_encI b
  rw [ea] at la
  rw [eb] at lb
  simp only [V_seq, V_region, V_cond, W_nil, W_cons, effOp2, KN_seq, asB, effOp, effPure, pureV, binV, lenV, ofC, strip, lkT, ISt.app, opI, gO, gB, allB, gval, wrapG, dstOK, setD, enumT, Op.operands, Call.operands, List.append_toArray, reduceIte, reduceCtorEq, Nat.reduceLT, Nat.reduceEqDiff, Nat.zero_add, ne_eq, not_false_eq_true, true_and, and_self, implies_true, List.nil_append, List.cons_append, List.append_nil, tab50, hN, ea, eb]
  refine brW_some (fun h => ?_) (fun h => ?_)
  · simp only [V_seq, V_ret, V_region, W_nil, W_cons, effOp2, KN_seq, KXr_nil, KXr_seq, QE, effOp, effPure, pureV, ofC, strip, lkT, lkH, ISt.app, opI, gO, gB, allB, gval, wrapG, dstOK, setD, clean, Gives, Ideal.Fin, conv, conv0, Op.operands, reduceIte, reduceCtorEq, Nat.reduceLT, Nat.reduceEqDiff, true_and, and_true, and_self, implies_true, List.nil_append, List.cons_append, List.append_nil, hN]
    have : a ≠ b := by rintro rfl; simp at h
    simp [this]
  · simp only [V_seq, V_skip, V_block, V_region, W_nil, W_cons, effOp2, KN_seq, effOp, effPure, pureV, ofC, strip, ISt.app, opI, gO, gB, allB, gval, wrapG, dstOK, setD, Op.operands, Nat.reduceLT, true_and, and_self, implies_true, List.nil_append, List.cons_append, List.append_nil, hN]
    have hab : a.length = b.length := by simp at h; omega
    refine V_loop (α := Nat) ⟨tabOK, mixed, gok_laws_eqIntS, hok_laws_eqIntS⟩ (by kernel_rfl) (fun i => i ≤ a.length ∧ ∀ j, j < i → a.getD j 0 = b.getD j 0) (fun i => ⟨[(5, .num .i64 i), (0, .sl 1 (encI a)), (1, .sl 1 (encI b))], []⟩) (fun i => a.length - i) 0 id (by simp) (by simp [SLe, SLe0, convTm, convHp, conv, conv0, lkT, lkH, clean]) ?_
    rintro i ⟨hi, hj⟩
    simp only [V_seq, V_region, V_cond, W_nil, W_cons, effOp2, KN_seq, asB, effOp, effPure, pureV, binV, lenV, strip, lkT, ISt.app, opI, gO, gB, allB, gval, wrapG, dstOK, setD, Op.operands, Call.operands, List.append_toArray, reduceIte, reduceCtorEq, Nat.reduceLT, Nat.reduceEqDiff, ne_eq, not_false_eq_true, true_and, and_self, implies_true, List.nil_append, List.cons_append, List.append_nil, tab50, hN, ea]
    refine brW_some (fun h => ?_) (fun h => ?_)
    · have hi' : i < a.length := by simpa using h
      have g1 := getD_encI hi'
      have g2 := getD_encI (hab ▸ hi' : i < b.length)
      have hw := wr_succ hi' la
      simp only [V_seq, V_skip, V_block, V_draw, V_cond, drawW, pairsOf, WD_nil, WD_cons, KN_seq, asB, effOp, effPure, pureV, binV, eltV, loadV, iaddrV, strip, lkT, ISt.app, opI, gO, gB, allB, gval, wrapG, dstOK, setD, Op.operands, reduceIte, reduceCtorEq, Nat.reduceLT, Nat.reduceEqDiff, ne_eq, not_false_eq_true, true_and, and_true, and_self, implies_true, forall_const, List.nil_append, List.cons_append, List.append_nil, tab3, tab50, hN, Int.toNat_natCast, ea, eb, Int.toNat_natCast, g1, g2]
      repeat refine And.intro (by omega) ?_
      refine brW_some (fun h => ?_) (fun h => ?_)
      · simp only [V_seq, V_ret, V_region, W_nil, W_cons, effOp2, KN_seq, KXr_nil, KXr_seq, KXr_block, KXr_back, QE, effOp, effPure, pureV, ofC, strip, lkT, lkH, ISt.app, opI, gO, gB, allB, gval, wrapG, dstOK, setD, clean, Gives, Ideal.Fin, conv, conv0, Op.operands, reduceIte, reduceCtorEq, Nat.reduceLT, Nat.reduceEqDiff, true_and, and_true, and_self, implies_true, List.nil_append, List.cons_append, List.append_nil, hN]
        have : a ≠ b := by rintro rfl; simp at h
        simp [this]
      · simp only [V_skip, V_region, W_nil, W_cons, effOp2, KN_seq, KN_block, KN_back, effOp, effPure, pureV, binV, ofC, strip, lkT, ISt.app, opI, gO, gB, allB, gval, wrapG, dstOK, setD, Op.operands, reduceIte, reduceCtorEq, Nat.reduceLT, Nat.reduceEqDiff, true_and, and_self, implies_true, List.nil_append, List.cons_append, List.append_nil, hN, hw]
        refine ⟨i + 1, id, ⟨by omega, ?_⟩, by simp only []; omega, by simp [SLe, SLe0, convTm, convHp, conv, conv0, lkT, lkH, clean]⟩
        intro j hj'
        rcases Nat.lt_succ_iff_lt_or_eq.1 hj' with h' | rfl
        · exact hj j h'
        · simpa using h
    · simp only [V_seq, V_ret, V_exit, V_region, W_nil, W_cons, effOp2, KN_seq, KXr_nil, KXe_nil, KXe_seq, KXe_block, KXe_back, QE, effOp, effPure, pureV, ofC, strip, lkT, lkH, ISt.app, opI, gO, gB, allB, gval, wrapG, dstOK, setD, clean, Gives, Ideal.Fin, conv, conv0, Op.operands, reduceIte, reduceCtorEq, Nat.reduceLT, Nat.reduceEqDiff, true_and, and_true, and_self, implies_true, List.nil_append, List.cons_append, List.append_nil, hN]
      have hie : i = a.length := by simp at h; omega
      have : a = b := eq_of_getD hab (fun j h' => hj j (by omega))
      simp [this]
def sp_laws_eqIntS : PSpec := ⟨fun xs => match xs with | [.sl 1 aes, .sl 1 bes] => isIs aes ∧ isIs bes | _ => False, fun xs => match xs with | [.sl _ aes, .sl _ bes] => (fun (a : List Int) (b : List Int) => .bool (a == b)) (toIs aes) (toIs bes) | _ => .junk, false⟩
theorem gk_laws_eqIntS : ∀ args, sp_laws_eqIntS.pre args → ICall Try.prog 37 args (sp_laws_eqIntS.val args) := by
  intro args h
  unfold sp_laws_eqIntS at h ⊢; simp only at h ⊢; split at h
  · obtain ⟨h0, h1⟩ := h
    obtain ⟨l0, rfl⟩ := isI_ex h0
    obtain ⟨l1, rfl⟩ := isI_ex h1
    simp only [toIs_enc] at *
    exact c_laws_eqIntS _ _ 
  · exact h.elim
theorem en_laws_eqIntS : Enters Try.prog 37 := enters_of Try.func37 (by kernel_rfl) rfl

def marksI : Nat → Int → List Int
  | 0, _ => []
  | n + 1, k => k :: marksI n (k + 1)
theorem marksI_len : ∀ n k, (marksI n k).length = n
  | 0, _ => rfl
  | n + 1, k => by simp [marksI, marksI_len n]
theorem marksI_at : ∀ n (k : Int) i, i < n → (marksI n k).getD i 0 = k + i
  | n + 1, k, 0, _ => by simp [marksI]
  | n + 1, k, i + 1, h => by
    have := marksI_at n (k + 1) i (by omega)
    simp only [marksI, List.getD, List.getElem?_cons_succ] at this ⊢
    rw [this]; omega
def g_laws_markIntS : List (Nat × PSpec) := []
theorem gok_laws_markIntS : GOK Try.prog g_laws_markIntS := gok0
def h_laws_markIntS : List (Nat × HSpec) := []
theorem hok_laws_markIntS : HOK Try.prog h_laws_markIntS := hok0
theorem c_laws_markIntS (l : List Int) (k : Int) (full : Bool) (hsz : l.length ≤ 2000000) (h0 : 0 ≤ k) (h1 : k ≤ 2000000) : HCall Try.prog 40 [.ref 1000 0 l.length full, .num .i64 k] (sm ([(1000, .arr 1 3 (encI l))])) (.num .i64 (k + (l.length : Int))) (sm ([(1000, .arr 1 3 (encI (marksI l.length k)))])) := by
  refine hcall_V (G := g_laws_markIntS) (H := []) [] tabOK mixed gok_laws_markIntS hok_laws_markIntS Try.func40 rfl Try.ntmps40 Try.results40 rfl (by kernel_rfl) fun F hN hlen => ?_
  simp only [sm]
  have hx : ∃ k ty es, IBlk.arr 1 3 (encI l) = IBlk.arr k ty es := ⟨_, _, _, rfl⟩
  simp only [V_seq, V_block, V_region, W_nil, W_cons, effOp2, KN_seq, effOp, effPure, pureV, ofC, strip, ISt.app, opI, gO, gB, allB, gval, wrapG, dstOK, setD, enumT, Op.operands, Nat.reduceLT, Nat.zero_add, true_and, and_self, implies_true, List.nil_append, List.cons_append, hN]
  refine V_loop (α := Nat × List Int) ⟨tabOK, mixed, gok_laws_markIntS, hok_laws_markIntS⟩ (by kernel_rfl) (fun b => b.1 ≤ l.length ∧ b.2.length = l.length ∧ ∀ j, j < b.1 → b.2.getD j 0 = k + j) (fun b => ⟨[(5, .num .i64 b.1), (0, .ref 1000 0 l.length full), (1, .num .i64 (k + (b.1 : Int)))], [(1000, some (.arr 1 3 (encI b.2)))]⟩) (fun b => l.length - b.1) (0, l) id ⟨by simp, rfl, fun j h => absurd h (Nat.not_lt_zero j)⟩ (by simp [SLe, SLe0, convTm, convHp, convB, conv, conv0, lkT, lkH, clean, List.take_length]) ?_
  rintro ⟨i, m⟩ ⟨hi, hl, hj⟩
  simp only [] at hi hl hj
  have em := len_encI m
  rw [hl] at em
  have hx : ∃ k ty es, IBlk.arr 1 3 (encI m) = IBlk.arr k ty es := ⟨_, _, _, rfl⟩
  simp only [V_seq, V_region, V_cond, W_nil, W_cons, effOp2, KN_seq, asB, effOp, effPure, pureV, binV, lenV, strip, lkT, ISt.app, opI, gO, gB, allB, gval, wrapG, dstOK, setD, Op.operands, Call.operands, List.append_toArray, reduceIte, reduceCtorEq, Nat.reduceLT, Nat.reduceEqDiff, ne_eq, not_false_eq_true, true_and, and_self, implies_true, List.nil_append, List.cons_append, tab50, hN]
  refine brW_some (fun h => ?_) (fun h => ?_)
  · have hi' : i < l.length := by simpa using h
    have hw := wr_succ hi' (by rw [maxLen_eq]; omega)
    have w1 : IntKind.i64.wrap (k + (i : Int) + 1) = k + ((i + 1 : Nat) : Int) := by rw [wr (by omega) (by omega)]; omega
    have e1 : (encI m).set i (.num .i64 (k + (i : Int))) = encI (m.set i (k + (i : Int))) := encI_set m i _
    have ej : ∀ j, j < i + 1 → (m.set i (k + (i : Int))).getD j 0 = k + j := by
      intro j hj'
      by_cases c : i = j
      · subst c; simp [List.getD, show i < m.length by omega]
      · have := hj j (by omega)
        simp only [List.getD, List.getElem?_set_ne c] at this ⊢; exact this
    simp only [V_seq, V_skip, V_block, V_region, W_nil, W_cons, effOp2, KN_seq, KN_block, KN_back, effOp, effPure, effStore, pureV, storeV, binV, iaddrV, over, solid, IV.cells, ofC, strip, lkT, lkH, ISt.app, opI, gO, gB, allB, gval, wrapG, dstOK, setD, eltI, oneI, noId', Op.operands, reduceIte, reduceCtorEq, cond_true, Bool.true_and, Nat.reduceLT, Nat.reduceLeDiff, Nat.reduceEqDiff, Nat.zero_add, ne_eq, not_false_eq_true, true_and, and_true, false_and, and_false, and_self, implies_true, forall_const, List.nil_append, List.cons_append, List.all_cons, List.length_cons, List.length_nil, List.take_zero, tab3, tab50, hN, Int.toNat_natCast, hw, em, w1, e1]
    repeat refine And.intro (by first | omega | (simp; done) | (simp; omega)) ?_
    exact ⟨(i + 1, m.set i (k + (i : Int))), id, ⟨by simp only []; omega, by simp only [List.length_set]; omega, ej⟩, by simp only []; omega, by simp [SLe, SLe0, convTm, convHp, convB, conv, conv0, lkT, lkH, clean, List.take_length]⟩
  · have hie : i = l.length := by simp at h; omega
    subst hie
    have hm : m = marksI l.length k := eq_of_getD (d := 0) (by rw [hl, marksI_len]) (fun j h' => (hj j (by omega)).trans (marksI_at _ _ _ (by omega)).symm)
    subst hm
    simp only [V_seq, V_ret, V_exit, V_region, W_nil, W_cons, effOp2, KN_seq, KXr_nil, KXe_nil, KXe_seq, KXe_block, KXe_back, QE, effOp, effPure, pureV, strip, lkT, lkH, ISt.app, opI, gO, gB, allB, gval, wrapG, dstOK, setD, clean, conv, conv0, Op.operands, reduceIte, reduceCtorEq, Nat.reduceLT, Nat.reduceEqDiff, true_and, and_true, and_self, implies_true, List.map_cons, List.map_nil, List.nil_append, List.cons_append, hN, FinH, resA, resV, SLe, SLe0, convTm, convHp, convB]
    exact ⟨id, by simp⟩
def hs_laws_markIntS : HSpec := ⟨[false, false], fun xs hp => match xs, hp with | [.ref 1000 0 n full, .num .i64 k], [(1000, .arr 1 ty es)] => (isIs es) ∧ (ty = 3) ∧ (n = es.length) ∧ ((fun (l : List Int) (k : Int) (full : Bool) => l.length ≤ 2000000) (toIs es) k full) ∧ ((fun (l : List Int) (k : Int) (full : Bool) => 0 ≤ k) (toIs es) k full) ∧ ((fun (l : List Int) (k : Int) (full : Bool) => k ≤ 2000000) (toIs es) k full) | _, _ => False, fun xs hp => match xs, hp with | [.ref 1000 0 n full, .num .i64 k], [(1000, .arr 1 ty es)] => (fun (l : List Int) (k : Int) (full : Bool) => (.num .i64 (k + (l.length : Int)) : IV)) (toIs es) k full | _, _ => .junk, fun xs hp => match xs, hp with | [.ref 1000 0 n full, .num .i64 k], [(1000, .arr 1 ty es)] => (fun (l : List Int) (k : Int) (full : Bool) => ([(1000, .arr 1 3 (encI (marksI l.length k)))] : List (Nat × IBlk))) (toIs es) k full | _, _ => []⟩
theorem hk_laws_markIntS : ∀ args hp, hs_laws_markIntS.pre args hp → HCall Try.prog 40 args (sm hp) (hs_laws_markIntS.val args hp) (sm (hs_laws_markIntS.hval args hp)) := by
  intro args hp h
  unfold hs_laws_markIntS at h ⊢; simp only at h ⊢; split at h
  · obtain ⟨h1, rfl, rfl, h2, h3, h4⟩ := h; obtain ⟨l, rfl⟩ := isI_ex h1; rw [toIs_enc] at *; rw [len_encI]; exact c_laws_markIntS l _ _ h2 h3 h4
  · exact h.elim
theorem en_laws_markIntS : Enters Try.prog 40 := enters_of Try.func40 (by kernel_rfl) rfl

def g_laws_markIntS_n : List (Nat × PSpec) := []
theorem gok_laws_markIntS_n : GOK Try.prog g_laws_markIntS_n := gok0
def h_laws_markIntS_n : List (Nat × HSpec) := []
theorem hok_laws_markIntS_n : HOK Try.prog h_laws_markIntS_n := hok0
theorem c_laws_markIntS_n (k : Int)  : HCall Try.prog 40 [.sl 1 [], .num .i64 k] (sm ([])) (.num .i64 k) (sm ([])) := by
  refine hcall_V (G := g_laws_markIntS_n) (H := []) [] tabOK mixed gok_laws_markIntS_n hok_laws_markIntS_n Try.func40 rfl Try.ntmps40 Try.results40 rfl (by kernel_rfl) fun F hN hlen => ?_
  simp only [sm]
  have d1 : decide (((0 : Nat) : Int) < ((0 : Nat) : Int)) = false := rfl
  simp only [V_seq, V_block, V_region, W_nil, W_cons, effOp2, KN_seq, effOp, effPure, pureV, ofC, strip, ISt.app, opI, gO, gB, allB, gval, wrapG, dstOK, setD, enumT, Op.operands, Nat.reduceLT, Nat.zero_add, true_and, and_self, implies_true, List.nil_append, List.cons_append, List.append_nil, hN]
  refine V_loop (α := Nat) ⟨tabOK, mixed, gok_laws_markIntS_n, hok_laws_markIntS_n⟩ (by kernel_rfl) (fun i => i = 0) (fun i => ⟨[(5, .num .i64 i), (0, .sl 1 []), (1, .num .i64 k)], []⟩) (fun i => 0) 0 id rfl (by simp [SLe, SLe0, convTm, convHp, conv, conv0, lkT, lkH, clean]) ?_
  rintro i rfl
  simp only [V_seq, V_ret, V_exit, V_region, V_cond, brW_false, W_nil, W_cons, effOp2, KN_seq, KXr_nil, KXe_nil, KXe_seq, KXe_block, KXe_back, QE, asB, effOp, effPure, pureV, binV, lenV, strip, lkT, lkH, ISt.app, opI, gO, gB, allB, gval, wrapG, dstOK, setD, clean, conv, conv0, Op.operands, Call.operands, List.append_toArray, reduceIte, reduceCtorEq, Nat.reduceLT, Nat.reduceEqDiff, ne_eq, not_false_eq_true, true_and, and_self, implies_true, List.map_nil, List.nil_append, List.cons_append, List.append_nil, List.length_nil, tab50, hN, FinH, resA, resV, SLe, SLe0, convTm, convHp, d1]
  exact ⟨id, List.nodup_nil, fun _ _ _ => rfl⟩
def hs_laws_markIntS_n : HSpec := ⟨[false, false], fun xs hp => match xs, hp with | [.sl 1 [], .num .i64 k], [] => True | _, _ => False, fun xs hp => match xs, hp with | [.sl 1 [], .num .i64 k], [] => (fun (k : Int) => (.num .i64 k : IV)) k | _, _ => .junk, fun xs hp => match xs, hp with | [.sl 1 [], .num .i64 k], [] => (fun (k : Int) => ([] : List (Nat × IBlk))) k | _, _ => []⟩
theorem hk_laws_markIntS_n : ∀ args hp, hs_laws_markIntS_n.pre args hp → HCall Try.prog 40 args (sm hp) (hs_laws_markIntS_n.val args hp) (sm (hs_laws_markIntS_n.hval args hp)) := by
  intro args hp h
  unfold hs_laws_markIntS_n at h ⊢; simp only at h ⊢; split at h
  · exact c_laws_markIntS_n _
  · exact h.elim
theorem en_laws_markIntS_n : Enters Try.prog 40 := enters_of Try.func40 (by kernel_rfl) rfl

def hs_laws_markIntS_or : HSpec := hs_or hs_laws_markIntS_n hs_laws_markIntS sel_sl
theorem hk_laws_markIntS_or : ∀ args hp, hs_laws_markIntS_or.pre args hp → HCall Try.prog 40 args (sm hp) (hs_laws_markIntS_or.val args hp) (sm (hs_laws_markIntS_or.hval args hp)) := hk_or hk_laws_markIntS_n hk_laws_markIntS
theorem en_laws_markIntS_or : Enters Try.prog 40 := en_laws_markIntS
def heldI : List Int → Int → Int
  | [], k => k
  | p :: l, k => if p = k then heldI l (k + 1) else -1
theorem heldI_marks : ∀ n k, heldI (marksI n k) k = k + (n : Int)
  | 0, k => by simp [marksI, heldI]
  | n + 1, k => by
    rw [marksI, heldI, if_pos rfl, heldI_marks n]
    omega
theorem heldI_step {l : List Int} {i : Nat} {k : Int} (hi : i < l.length) : heldI (l.drop i) k = if l.getD i 0 = k then heldI (l.drop (i + 1)) (k + 1) else -1 := by
  rw [drop_eq_g (d := 0) hi, heldI]
def g_laws_heldIntS : List (Nat × PSpec) := []
theorem gok_laws_heldIntS : GOK Try.prog g_laws_heldIntS := gok0
def h_laws_heldIntS : List (Nat × HSpec) := []
theorem hok_laws_heldIntS : HOK Try.prog h_laws_heldIntS := hok0
theorem c_laws_heldIntS (l : List Int) (k : Int) (hsz : l.length ≤ 2000000) (h0 : 0 ≤ k) (h1 : k ≤ 2000000) : ICall Try.prog 41 [.sl 1 (encI l), .num .i64 k] (.num .i64 (heldI l k)) := by
  refine icall_V (G := g_laws_heldIntS) (H := []) [] tabOK mixed gok_laws_heldIntS hok_laws_heldIntS Try.func41 rfl Try.ntmps41 Try.results41 rfl (by kernel_rfl) fun F hN hlen => ?_
  have el := len_encI l
  simp only [V_seq, V_block, V_region, W_nil, W_cons, effOp2, KN_seq, effOp, effPure, pureV, ofC, strip, ISt.app, opI, gO, gB, allB, gval, wrapG, dstOK, setD, enumT, Op.operands, Nat.reduceLT, Nat.zero_add, true_and, and_self, implies_true, List.nil_append, List.cons_append, List.append_nil, hN]
  refine V_loop (α := Nat) ⟨tabOK, mixed, gok_laws_heldIntS, hok_laws_heldIntS⟩ (by kernel_rfl) (fun i => i ≤ l.length ∧ heldI l k = heldI (l.drop i) (k + (i : Int))) (fun i => ⟨[(5, .num .i64 i), (0, .sl 1 (encI l)), (1, .num .i64 (k + (i : Int)))], []⟩) (fun i => l.length - i) 0 id (by simp) (by simp [SLe, SLe0, convTm, convHp, conv, conv0, lkT, lkH, clean]) ?_
  rintro i ⟨hi, hj⟩
  simp only [V_seq, V_region, V_cond, W_nil, W_cons, effOp2, KN_seq, asB, effOp, effPure, pureV, binV, lenV, strip, lkT, ISt.app, opI, gO, gB, allB, gval, wrapG, dstOK, setD, Op.operands, Call.operands, List.append_toArray, reduceIte, reduceCtorEq, Nat.reduceLT, Nat.reduceEqDiff, ne_eq, not_false_eq_true, true_and, and_self, implies_true, List.nil_append, List.cons_append, List.append_nil, tab50, hN, el]
  refine brW_some (fun h => ?_) (fun h => ?_)
  · have hi' : i < l.length := by simpa using h
    have g0 := getD_encI hi'
    have hw := wr_succ hi' (by rw [maxLen_eq]; omega)
    rw [heldI_step hi'] at hj
    have w1 : IntKind.i64.wrap (k + (i : Int) + 1) = k + ((i + 1 : Nat) : Int) := by rw [wr (by omega) (by omega)]; omega
    generalize l.getD i 0 = v at *
    by_cases c1 : v = k + (i : Int)
    · have d1 : (v != k + (i : Int)) = false := by simpa using c1
      rw [if_pos c1] at hj
      simp only [V_seq, V_skip, V_block, V_region, V_cond, brW_false, W_nil, W_cons, effOp2, KN_seq, KN_block, KN_back, asB, effOp, effPure, pureV, binV, eltV, loadV, iaddrV, ofC, strip, lkT, ISt.app, opI, gO, gB, allB, gval, wrapG, dstOK, setD, Op.operands, reduceIte, reduceCtorEq, Nat.reduceLT, Nat.reduceEqDiff, ne_eq, not_false_eq_true, true_and, and_true, and_self, implies_true, forall_const, List.nil_append, List.cons_append, List.append_nil, tab3, tab50, hN, Int.toNat_natCast, el, hw, g0, w1, d1]
      repeat refine And.intro (by first | omega | (simp; done) | (simp; omega)) ?_
      exact ⟨i + 1, id, ⟨by omega, by rw [hj]; congr 1; omega⟩, by simp only []; omega, by simp [SLe, SLe0, convTm, convHp, conv, conv0, lkT, lkH, clean]⟩
    · have d1 : (v != k + (i : Int)) = true := by simpa using c1
      rw [if_neg c1] at hj
      simp only [V_seq, V_skip, V_ret, V_block, V_region, V_cond, brW_true, W_nil, W_cons, effOp2, KN_seq, KXr_nil, KXr_seq, KXr_block, KXr_back, QE, asB, effOp, effPure, pureV, binV, eltV, loadV, iaddrV, ofC, strip, lkT, lkH, ISt.app, opI, gO, gB, allB, gval, wrapG, dstOK, setD, clean, Gives, Ideal.Fin, conv, conv0, Op.operands, reduceIte, reduceCtorEq, Nat.reduceLT, Nat.reduceEqDiff, ne_eq, not_false_eq_true, true_and, and_true, and_self, implies_true, forall_const, List.nil_append, List.cons_append, List.append_nil, tab3, tab50, hN, Int.toNat_natCast, el, g0, d1, hj]
      repeat refine And.intro (by first | omega | (simp; done) | (simp; omega)) ?_
      omega
  · have hie : i = l.length := by simp at h; omega
    subst hie
    have hf : heldI l k = k + (l.length : Int) := by rw [hj]; simp [heldI]
    simp only [V_seq, V_ret, V_exit, V_region, W_nil, W_cons, effOp2, KN_seq, KXr_nil, KXe_nil, KXe_seq, KXe_block, KXe_back, QE, effOp, effPure, pureV, strip, lkT, lkH, ISt.app, opI, gO, gB, allB, gval, wrapG, dstOK, setD, clean, Gives, Ideal.Fin, conv, conv0, Op.operands, reduceIte, reduceCtorEq, Nat.reduceLT, Nat.reduceEqDiff, and_self, implies_true, List.nil_append, List.cons_append, List.append_nil, hN, hf]
def sp_laws_heldIntS : PSpec := ⟨fun xs => match xs with | [.sl 1 les, .num .i64 k] => isIs les ∧ ((fun (l : List Int) (k : Int) => l.length ≤ 2000000) (toIs les) k) ∧ ((fun (l : List Int) (k : Int) => 0 ≤ k) (toIs les) k) ∧ ((fun (l : List Int) (k : Int) => k ≤ 2000000) (toIs les) k) | _ => False, fun xs => match xs with | [.sl _ les, .num _ k] => (fun (l : List Int) (k : Int) => .num .i64 (heldI l k)) (toIs les) k | _ => .junk, false⟩
theorem gk_laws_heldIntS : ∀ args, sp_laws_heldIntS.pre args → ICall Try.prog 41 args (sp_laws_heldIntS.val args) := by
  intro args h
  unfold sp_laws_heldIntS at h ⊢; simp only at h ⊢; split at h
  · obtain ⟨h0, h1, h2, h3⟩ := h
    obtain ⟨l0, rfl⟩ := isI_ex h0
    simp only [toIs_enc] at *
    exact c_laws_heldIntS _ _ h1 h2 h3
  · exact h.elim
theorem en_laws_heldIntS : Enters Try.prog 41 := enters_of Try.func41 (by kernel_rfl) rfl


def g_e_exue_a : List (Nat × PSpec) := [(33, sp_laws_szGraphS), (34, sp_spec_UpperEnvelope), (36, sp_impl_UpperEnvelope_e), (38, sp_laws_eqGraphS), (37, sp_laws_eqIntS), (41, sp_laws_heldIntS)]
theorem gok_e_exue_a : GOK Try.prog g_e_exue_a := gok_cons gk_laws_szGraphS en_laws_szGraphS (gok_cons gk_spec_UpperEnvelope en_spec_UpperEnvelope (gok_consO gk_impl_UpperEnvelope_e en_impl_UpperEnvelope_e (gok_cons gk_laws_eqGraphS en_laws_eqGraphS (gok_cons gk_laws_eqIntS en_laws_eqIntS (gok_cons gk_laws_heldIntS en_laws_heldIntS (gok0))))))
theorem lk_e_exue_a_laws_szGraphS : lkG g_e_exue_a 33 = sp_laws_szGraphS := rfl
theorem lk_e_exue_a_spec_UpperEnvelope : lkG g_e_exue_a 34 = sp_spec_UpperEnvelope := rfl
theorem lk_e_exue_a_impl_UpperEnvelope_e : lkG g_e_exue_a 36 = sp_impl_UpperEnvelope_e := rfl
theorem lk_e_exue_a_laws_eqGraphS : lkG g_e_exue_a 38 = sp_laws_eqGraphS := rfl
theorem lk_e_exue_a_laws_eqIntS : lkG g_e_exue_a 37 = sp_laws_eqIntS := rfl
theorem lk_e_exue_a_laws_heldIntS : lkG g_e_exue_a 41 = sp_laws_heldIntS := rfl
def h_e_exue_a : List (Nat × HSpec) := [(35, hs_laws_toGraphS), (39, hs_laws_markGraphS), (40, hs_laws_markIntS_or)]
theorem hok_e_exue_a : HOK Try.prog h_e_exue_a := hok_cons hk_laws_toGraphS en_laws_toGraphS (hok_cons hk_laws_markGraphS en_laws_markGraphS (hok_cons hk_laws_markIntS_or en_laws_markIntS_or (hok0)))
theorem lh_e_exue_a_laws_szGraphS : lkHS h_e_exue_a 33 = none := rfl
theorem lh_e_exue_a_spec_UpperEnvelope : lkHS h_e_exue_a 34 = none := rfl
theorem lh_e_exue_a_impl_UpperEnvelope_e : lkHS h_e_exue_a 36 = none := rfl
theorem lh_e_exue_a_laws_eqGraphS : lkHS h_e_exue_a 38 = none := rfl
theorem lh_e_exue_a_laws_eqIntS : lkHS h_e_exue_a 37 = none := rfl
theorem lh_e_exue_a_laws_heldIntS : lkHS h_e_exue_a 41 = none := rfl
theorem lh_e_exue_a_laws_toGraphS : lkHS h_e_exue_a 35 = some hs_laws_toGraphS := rfl
theorem lh_e_exue_a_laws_markGraphS : lkHS h_e_exue_a 39 = some hs_laws_markGraphS := rfl
theorem lh_e_exue_a_laws_markIntS_or : lkHS h_e_exue_a 40 = some hs_laws_markIntS_or := rfl
def g_e_exue_b : List (Nat × PSpec) := [(33, sp_laws_szGraphS), (34, sp_spec_UpperEnvelope), (38, sp_laws_eqGraphS), (37, sp_laws_eqIntS), (41, sp_laws_heldIntS)]
theorem gok_e_exue_b : GOK Try.prog g_e_exue_b := gok_cons gk_laws_szGraphS en_laws_szGraphS (gok_cons gk_spec_UpperEnvelope en_spec_UpperEnvelope (gok_cons gk_laws_eqGraphS en_laws_eqGraphS (gok_cons gk_laws_eqIntS en_laws_eqIntS (gok_cons gk_laws_heldIntS en_laws_heldIntS (gok0)))))
theorem lk_e_exue_b_laws_szGraphS : lkG g_e_exue_b 33 = sp_laws_szGraphS := rfl
theorem lk_e_exue_b_spec_UpperEnvelope : lkG g_e_exue_b 34 = sp_spec_UpperEnvelope := rfl
theorem lk_e_exue_b_laws_eqGraphS : lkG g_e_exue_b 38 = sp_laws_eqGraphS := rfl
theorem lk_e_exue_b_laws_eqIntS : lkG g_e_exue_b 37 = sp_laws_eqIntS := rfl
theorem lk_e_exue_b_laws_heldIntS : lkG g_e_exue_b 41 = sp_laws_heldIntS := rfl
def h_e_exue_b : List (Nat × HSpec) := [(35, hs_laws_toGraphS), (36, hs_impl_UpperEnvelope_h), (39, hs_laws_markGraphS), (40, hs_laws_markIntS)]
theorem hok_e_exue_b : HOK Try.prog h_e_exue_b := hok_cons hk_laws_toGraphS en_laws_toGraphS (hok_cons hk_impl_UpperEnvelope_h en_impl_UpperEnvelope_h (hok_cons hk_laws_markGraphS en_laws_markGraphS (hok_cons hk_laws_markIntS en_laws_markIntS (hok0))))
theorem lh_e_exue_b_laws_szGraphS : lkHS h_e_exue_b 33 = none := rfl
theorem lh_e_exue_b_spec_UpperEnvelope : lkHS h_e_exue_b 34 = none := rfl
theorem lh_e_exue_b_laws_eqGraphS : lkHS h_e_exue_b 38 = none := rfl
theorem lh_e_exue_b_laws_eqIntS : lkHS h_e_exue_b 37 = none := rfl
theorem lh_e_exue_b_laws_heldIntS : lkHS h_e_exue_b 41 = none := rfl
theorem lh_e_exue_b_laws_toGraphS : lkHS h_e_exue_b 35 = some hs_laws_toGraphS := rfl
theorem lh_e_exue_b_impl_UpperEnvelope_h : lkHS h_e_exue_b 36 = some hs_impl_UpperEnvelope_h := rfl
theorem lh_e_exue_b_laws_markGraphS : lkHS h_e_exue_b 39 = some hs_laws_markGraphS := rfl
theorem lh_e_exue_b_laws_markIntS : lkHS h_e_exue_b 40 = some hs_laws_markIntS := rfl
theorem noSl_encI : ∀ M : List Int, noSlL (encI M) = true
  | [] => rfl
  | x :: M => noSl_encI M
def g_laws_FnExactUpperEnvelope : List (Nat × PSpec) := [(33, sp_laws_szGraphS), (34, sp_spec_UpperEnvelope), (36, sp_impl_UpperEnvelope), (37, sp_laws_eqIntS), (38, sp_laws_eqGraphS), (41, sp_laws_heldIntS)]
theorem gok_laws_FnExactUpperEnvelope : GOK Try.prog g_laws_FnExactUpperEnvelope := gok_cons gk_laws_szGraphS en_laws_szGraphS (gok_cons gk_spec_UpperEnvelope en_spec_UpperEnvelope (gok_cons gk_impl_UpperEnvelope en_impl_UpperEnvelope (gok_cons gk_laws_eqIntS en_laws_eqIntS (gok_cons gk_laws_eqGraphS en_laws_eqGraphS (gok_cons gk_laws_heldIntS en_laws_heldIntS (gok0))))))
theorem lk_laws_FnExactUpperEnvelope_laws_szGraphS : lkG g_laws_FnExactUpperEnvelope 33 = sp_laws_szGraphS := rfl
theorem lk_laws_FnExactUpperEnvelope_spec_UpperEnvelope : lkG g_laws_FnExactUpperEnvelope 34 = sp_spec_UpperEnvelope := rfl
theorem lk_laws_FnExactUpperEnvelope_impl_UpperEnvelope : lkG g_laws_FnExactUpperEnvelope 36 = sp_impl_UpperEnvelope := rfl
theorem lk_laws_FnExactUpperEnvelope_laws_eqIntS : lkG g_laws_FnExactUpperEnvelope 37 = sp_laws_eqIntS := rfl
theorem lk_laws_FnExactUpperEnvelope_laws_eqGraphS : lkG g_laws_FnExactUpperEnvelope 38 = sp_laws_eqGraphS := rfl
theorem lk_laws_FnExactUpperEnvelope_laws_heldIntS : lkG g_laws_FnExactUpperEnvelope 41 = sp_laws_heldIntS := rfl
def h_laws_FnExactUpperEnvelope : List (Nat × HSpec) := [(35, hs_laws_toGraphS), (39, hs_laws_markGraphS), (40, hs_laws_markIntS)]
theorem hok_laws_FnExactUpperEnvelope : HOK Try.prog h_laws_FnExactUpperEnvelope := hok_cons hk_laws_toGraphS en_laws_toGraphS (hok_cons hk_laws_markGraphS en_laws_markGraphS (hok_cons hk_laws_markIntS en_laws_markIntS (hok0)))
theorem lh_laws_FnExactUpperEnvelope_laws_szGraphS : lkHS h_laws_FnExactUpperEnvelope 33 = none := rfl
theorem lh_laws_FnExactUpperEnvelope_spec_UpperEnvelope : lkHS h_laws_FnExactUpperEnvelope 34 = none := rfl
theorem lh_laws_FnExactUpperEnvelope_impl_UpperEnvelope : lkHS h_laws_FnExactUpperEnvelope 36 = none := rfl
theorem lh_laws_FnExactUpperEnvelope_laws_eqIntS : lkHS h_laws_FnExactUpperEnvelope 37 = none := rfl
theorem lh_laws_FnExactUpperEnvelope_laws_eqGraphS : lkHS h_laws_FnExactUpperEnvelope 38 = none := rfl
theorem lh_laws_FnExactUpperEnvelope_laws_heldIntS : lkHS h_laws_FnExactUpperEnvelope 41 = none := rfl
theorem lh_laws_FnExactUpperEnvelope_laws_toGraphS : lkHS h_laws_FnExactUpperEnvelope 35 = some hs_laws_toGraphS := rfl
theorem lh_laws_FnExactUpperEnvelope_laws_markGraphS : lkHS h_laws_FnExactUpperEnvelope 39 = some hs_laws_markGraphS := rfl
theorem lh_laws_FnExactUpperEnvelope_laws_markIntS : lkHS h_laws_FnExactUpperEnvelope 40 = some hs_laws_markIntS := rfl
theorem c_laws_FnExactUpperEnvelope (l : List Pt)  : ICall Try.prog 8 [.sl 2 (encPs l)] (.bool true) := by
  have hs : ∀ x : List Pt, (x == x) = true := fun x => by simp
  have hs2 : ∀ x : List Int, (x == x) = true := fun x => by simp
  have hn : ∀ x : Int, (x != x) = false := fun x => by simp
  cases hc : okGs l with
  | true =>
    have hcv : envV l = envP l := by rw [envV, hc]; rfl
    refine icall_V (G := g_e_exue_b) (H := h_e_exue_b) [] tabOK mixed gok_e_exue_b hok_e_exue_b Try.func8 rfl Try.ntmps8 Try.results8 rfl (by kernel_rfl) fun F hN hlen => ?_
    have el := len_encPs l
    have hl := (okGs_facts hc).1
    have hh := envP_len l
    obtain ⟨E, hE⟩ : ∃ E, (envP l).map (fun n => ((n : Nat) : Int)) = E := ⟨_, rfl⟩
    have hEe : encN (envP l) = encI E := by rw [encN, hE]
    have hEl : (envP l).length = E.length := by rw [← hE, List.length_map]
    rw [hEl] at hh
    have c : l.length ≤ 1048576 := by omega
    have c2 : l.length ≤ 2000000 := by omega
    have c3 : E.length ≤ 2000000 := by omega
    have hv : szGraphV l 1048576 = 1048576 - (l.length : Int) := if_neg (by omega)
    have d1 : decide (1048576 - (l.length : Int) < 0) = false := by simp only [decide_eq_false_iff_not]; omega
    have d2 : decide (1 + 2 * (l.length : Int) < 0) = false := by simp only [decide_eq_false_iff_not]; omega
    have d3 : decide (1 + (E.length : Int) < 0) = false := by simp only [decide_eq_false_iff_not]; omega
    have eh := len_encI E
    have em1 := len_encPs (marksP l.length 1)
    have em2 := len_encI (marksI E.length 1)
    rw [marksP_len] at em1
    rw [marksI_len] at em2
    have ml := marksP_len l.length 1
    have ml2 := marksI_len E.length 1
    have hd := heldI_marks E.length 1
    have tk : (encI (marksI E.length 1)).take E.length = encI (marksI E.length 1) := List.take_of_length_le (by omega)
    have tk3 : (encI E).take E.length = encI E := List.take_of_length_le (by omega)
    have tk1 : (encPs (marksP l.length 1)).take l.length = encPs (marksP l.length 1) := List.take_of_length_le (by omega)
    simp only [V_seq, V_skip, V_ret, V_region, V_cond, brW_false, W_nil, W_cons, effOp2, KN_seq, KXr_nil, QE, asB, effOp, effPure, effPick, effCall, giveUp, hasAll, Option.isSome_some, skipE, pureV, pickV, binV, ofC, strip, lkT, lkH, ISt.app, opI, gO, gB, allB, gval, wrapG, dstOK, setD, mentTm, mentHp, IV.ment, lendV, lendP, lent, lentP, idsV, idsL, flat, clean, callArgs, callFn, allLent, enumT, Gives, Ideal.Fin, conv, conv0, IBlk.shape, Op.operands, reduceIte, reduceCtorEq, cond_true, cond_false, Bool.or_false, Bool.or_true, Bool.and_true, Bool.not_true, Bool.not_false, Nat.reduceAdd, Nat.reduceSub, Nat.reduceMul, Nat.reduceLT, Nat.reduceLeDiff, Nat.reduceEqDiff, Nat.reduceBEq, Nat.add_zero, Nat.zero_add, not_false_eq_true, beq_self_eq_true, true_and, and_true, and_false, and_self, false_implies, implies_true, forall_const, List.map_cons, List.map_nil, List.nil_append, List.cons_append, List.append_nil, List.all_cons, List.all_nil, Option.map_some, Option.map_none, Option.bind_some, List.getElem?_cons_zero, List.getElem?_cons_succ, List.getD_cons_zero, List.drop_zero, ex_clo, or_true, or_self, Bool.true_eq_false, Bool.false_eq_true, hN, isPs_enc, toPs_enc, isIs_enc, toIs_enc, SLe0, convTm, convHp, convB, sm, effH, mkHC0, mkHC1, lendM, lentM, lentI, allHere, addIds, idsB, flatIds, reach, posn, renV, renL, renB, renH, numB, subHp, fwd, bk, bwd, nones, keyOK, noSl, flatBs, List.contains, List.elem, Option.isSome_some, List.nodup_nil, List.nodup_cons, List.not_mem_nil, Option.getD_some, lk_e_exue_b_laws_szGraphS, lk_e_exue_b_spec_UpperEnvelope, lk_e_exue_b_laws_eqGraphS, lk_e_exue_b_laws_eqIntS, lk_e_exue_b_laws_heldIntS, sp_laws_szGraphS, sp_spec_UpperEnvelope, sp_laws_eqGraphS, sp_laws_eqIntS, sp_laws_heldIntS, lh_e_exue_b_laws_szGraphS, lh_e_exue_b_spec_UpperEnvelope, lh_e_exue_b_laws_eqGraphS, lh_e_exue_b_laws_eqIntS, lh_e_exue_b_laws_heldIntS, lh_e_exue_b_laws_toGraphS, lh_e_exue_b_impl_UpperEnvelope_h, lh_e_exue_b_laws_markGraphS, lh_e_exue_b_laws_markIntS, hs_laws_toGraphS, hs_impl_UpperEnvelope_h, hs_laws_markGraphS, hs_laws_markIntS, el, hv, d1, d2, d3, c, c2, c3, hc, hcv, hEe, hEl, take_encPs, hn, eh, em1, em2, ml2, hd, tk, tk1, tk3, noSl_encI, noSl_encPs]
    omega
  | false =>
    have hcv : envV l = [] := by rw [envV, hc]; rfl
    refine icall_V (G := g_e_exue_a) (H := h_e_exue_a) [] tabOK mixed gok_e_exue_a hok_e_exue_a Try.func8 rfl Try.ntmps8 Try.results8 rfl (by kernel_rfl) fun F hN hlen => ?_
    have hl := hlen 0 2 _ rfl
    have el := len_encPs l
    rw [el] at hl
    by_cases c : l.length ≤ 1048576
    · have hv : szGraphV l 1048576 = 1048576 - (l.length : Int) := if_neg (by omega)
      have c2 : l.length ≤ 2000000 := by omega
      have d1 : decide (1048576 - (l.length : Int) < 0) = false := by simp only [decide_eq_false_iff_not]; omega
      have d2 : decide (1 + 2 * (l.length : Int) < 0) = false := by simp only [decide_eq_false_iff_not]; omega
      have d3 : decide ((1 : Int) < 0) = false := by decide
      have em1 := len_encPs (marksP l.length 1)
      rw [marksP_len] at em1
      have ml := marksP_len l.length 1
      have hd : heldI [] 1 = 1 := rfl
      have tk1 : (encPs (marksP l.length 1)).take l.length = encPs (marksP l.length 1) := List.take_of_length_le (by omega)
      simp only [V_seq, V_skip, V_ret, V_region, V_cond, brW_false, W_nil, W_cons, effOp2, KN_seq, KXr_nil, QE, asB, effOp, effPure, effPick, effCall, giveUp, hasAll, Option.isSome_some, skipE, pureV, pickV, binV, ofC, strip, lkT, lkH, ISt.app, opI, gO, gB, allB, gval, wrapG, dstOK, setD, mentTm, mentHp, IV.ment, lendV, lendP, lent, lentP, idsV, idsL, flat, clean, callArgs, callFn, allLent, enumT, Gives, Ideal.Fin, conv, conv0, IBlk.shape, Op.operands, reduceIte, reduceCtorEq, cond_true, cond_false, Bool.or_false, Bool.or_true, Bool.and_true, Bool.not_true, Bool.not_false, Nat.reduceAdd, Nat.reduceSub, Nat.reduceMul, Nat.reduceLT, Nat.reduceLeDiff, Nat.reduceEqDiff, Nat.reduceBEq, Nat.add_zero, Nat.zero_add, not_false_eq_true, beq_self_eq_true, true_and, and_true, and_false, and_self, implies_true, forall_const, List.map_cons, List.map_nil, List.nil_append, List.cons_append, List.append_nil, List.all_nil, Option.map_some, Option.map_none, Option.bind_some, List.getElem?_cons_zero, List.getElem?_cons_succ, List.getD_cons_zero, List.length_nil, List.drop_zero, ex_clo, true_or, or_true, or_self, Bool.true_eq_false, Bool.false_eq_true, hN, isPs_enc, toPs_enc, isIs_nil, toIs_nil, SLe0, convTm, convHp, convB, sm, effH, mkHC0, mkHC1, lendM, lentM, lentI, allHere, addIds, idsB, flatIds, reach, posn, renV, renL, renB, renH, numB, subHp, fwd, bk, bwd, nones, keyOK, noSl, flatBs, List.contains, List.elem, Option.isSome_some, List.nodup_nil, List.nodup_cons, List.not_mem_nil, Option.getD_some, lk_e_exue_a_laws_szGraphS, lk_e_exue_a_spec_UpperEnvelope, lk_e_exue_a_impl_UpperEnvelope_e, lk_e_exue_a_laws_eqGraphS, lk_e_exue_a_laws_eqIntS, lk_e_exue_a_laws_heldIntS, sp_laws_szGraphS, sp_spec_UpperEnvelope, sp_impl_UpperEnvelope_e, sp_laws_eqGraphS, sp_laws_eqIntS, sp_laws_heldIntS, lh_e_exue_a_laws_szGraphS, lh_e_exue_a_spec_UpperEnvelope, lh_e_exue_a_impl_UpperEnvelope_e, lh_e_exue_a_laws_eqGraphS, lh_e_exue_a_laws_eqIntS, lh_e_exue_a_laws_heldIntS, lh_e_exue_a_laws_toGraphS, lh_e_exue_a_laws_markGraphS, lh_e_exue_a_laws_markIntS_or, hs_laws_toGraphS, hs_laws_markGraphS, hs_laws_markIntS_or, el, hv, d1, d2, d3, c, c2, take_encPs, hn, em1, hd, hc, hcv, encN_nil, tk1, hs_or, sel_sl, hs_laws_markIntS, hs_laws_markIntS_n]
      omega
    · have hv : szGraphV l 1048576 = -1 := if_pos (by omega)
      have d1 : decide ((-1 : Int) < 0) = true := by decide
      simp only [V_seq, V_ret, V_region, V_cond, brW_true, W_nil, W_cons, effOp2, KN_seq, KXr_nil, KXr_seq, QE, asB, effOp, effPure, effCall, giveUp, hasAll, pureV, binV, ofC, strip, lkT, lkH, ISt.app, opI, gO, gB, allB, gval, wrapG, dstOK, setD, lendV, lendP, lent, lentP, idsV, idsL, flat, clean, callArgs, callFn, allLent, enumT, Gives, Ideal.Fin, conv, conv0, Op.operands, reduceIte, reduceCtorEq, cond_true, Bool.or_false, Bool.not_true, Nat.reduceLT, Nat.reduceEqDiff, true_and, and_true, and_self, implies_true, forall_const, List.map_cons, List.map_nil, List.nil_append, List.cons_append, List.append_nil, ex_clo, or_self, hN, isPs_enc, toPs_enc, lk_e_exue_a_laws_szGraphS, sp_laws_szGraphS, lh_e_exue_a_laws_szGraphS, hv, d1]
      exact ⟨by omega, by omega⟩
def sp_laws_FnExactUpperEnvelope : PSpec := ⟨fun xs => match xs with | [.sl 2 les] => isPs les | _ => False, fun xs => match xs with | [.sl _ les] => (fun (l : List Pt) => .bool true) (toPs les) | _ => .junk, false⟩
theorem gk_laws_FnExactUpperEnvelope : ∀ args, sp_laws_FnExactUpperEnvelope.pre args → ICall Try.prog 8 args (sp_laws_FnExactUpperEnvelope.val args) := by
  intro args h
  unfold sp_laws_FnExactUpperEnvelope at h ⊢; simp only at h ⊢; split at h
  · have h0 := h
    obtain ⟨l0, rfl⟩ := isP_ex h0
    simp only [toPs_enc] at *
    exact c_laws_FnExactUpperEnvelope _ 
  · exact h.elim
theorem en_laws_FnExactUpperEnvelope : Enters Try.prog 8 := enters_of Try.func8 (by kernel_rfl) rfl

end Go.Proofs.Ytjlcbomigbolcaa
