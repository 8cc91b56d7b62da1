/- Contracts: what the exact laws do with lists of half-planes, segments, points of fractions. -/
import Derived.Test.YtemppebemahkoaaBY
import Derived.Test.YtemppebemahkoaaBU
set_option linter.unusedVariables false
set_option linter.unusedSimpArgs false
set_option maxRecDepth 100000
namespace Go.Proofs.Ytemppebemahkoaa
open Go Go.Ideal Go.Pl

theorem encQs_setZ (l : List Qd) (m : Nat) (p : Qd) : (encQs l).set m (.agg [.num .i64 p.1.1, .num .i64 p.1.2, .num .i64 p.2.1, .num .i64 p.2.2]) = encQs (l.set m p) := by
  show (l.map encQ).set m (encQ p) = (l.set m p).map encQ
  rw [List.map_set]
def g_laws_toHalfPlane : List (Nat × PSpec) := []
theorem gok_laws_toHalfPlane : GOK Try.prog g_laws_toHalfPlane := gok0
def h_laws_toHalfPlane : List (Nat × HSpec) := []
theorem hok_laws_toHalfPlane : HOK Try.prog h_laws_toHalfPlane := hok0
theorem c_laws_toHalfPlane (p : Tr)  : ICall Try.prog 84 [encT p] (encT p) := by
  refine icall_of_hcall (v := encT p) (hp' := []) id ?_ (by simp [SLe0, convTm, convHp, conv, convL, conv0, lkT, clean, encT]) (by simp [idsV, idsL, encT])
  refine hcall_V (G := g_laws_toHalfPlane) (H := []) [] tabOK mixed gok_laws_toHalfPlane hok_laws_toHalfPlane Try.func84 rfl Try.ntmps84 Try.results84 rfl (by kernel_rfl) fun F hN hlen => ?_
  simp only [V_seq, V_ret, V_region, W_nil, W_cons, effOp2, KN_seq, KXr_nil, QE, effOp, effPure, effNew, effAlloc, effBox, effStore, skipE, pureV, storeV, partV, loadV, faddrV, over, solid, IV.cells, strip, lkT, lkH, ISt.app, opI, gO, gB, allB, gval, wrapG, dstOK, setD, mentTm, mentHp, IV.ment, IV.mentL, oneI, clean, enumT, conv, conv0, convL, IBlk.shape, Op.operands, reduceIte, reduceCtorEq, cond_true, Bool.or_false, Bool.and_true, Nat.reduceAdd, Nat.reduceLT, Nat.reduceLeDiff, Nat.reduceEqDiff, Nat.reduceBEq, Nat.add_zero, Nat.zero_add, true_and, and_false, and_self, implies_true, List.map_nil, List.nil_append, List.cons_append, List.append_nil, List.all_cons, List.all_nil, Option.map_some, List.getD_cons_zero, List.getD_cons_succ, List.length_cons, List.length_nil, List.take_succ_cons, List.take_zero, List.take_nil, List.drop_succ_cons, List.drop_zero, List.drop_nil, tab3, tab98, tab100, hN, encT, FinH, resA, resV, SLe, SLe0, convTm, convHp]
  exact ⟨id, List.nodup_nil, fun _ _ _ => rfl⟩
def sp_laws_toHalfPlane : PSpec := ⟨fun xs => match xs with | [.agg [.num .i64 p1, .num .i64 p2, .num .i64 p3]] => True | _ => False, fun xs => match xs with | [.agg [.num _ p1, .num _ p2, .num _ p3]] => (fun (p : Tr) => encT p) (p1, p2, p3) | _ => .junk, false⟩
theorem gk_laws_toHalfPlane : ∀ args, sp_laws_toHalfPlane.pre args → ICall Try.prog 84 args (sp_laws_toHalfPlane.val args) := by
  intro args h
  unfold sp_laws_toHalfPlane at h ⊢; simp only at h ⊢; split at h
  · exact c_laws_toHalfPlane (_, _, _)
  · exact h.elim
theorem en_laws_toHalfPlane : Enters Try.prog 84 := enters_of Try.func84 (by kernel_rfl) rfl

def szHalfPlaneV (l : List Tr) (left : Int) : Int := if left < (l.length : Int) then -1 else left - (l.length : Int)
def g_laws_szHalfPlaneS : List (Nat × PSpec) := []
theorem gok_laws_szHalfPlaneS : GOK Try.prog g_laws_szHalfPlaneS := gok0
def h_laws_szHalfPlaneS : List (Nat × HSpec) := []
theorem hok_laws_szHalfPlaneS : HOK Try.prog h_laws_szHalfPlaneS := hok0
theorem c_laws_szHalfPlaneS (l : List Tr) (left : Int) (h0 : 0 ≤ left) (h1 : left ≤ 1048576) : ICall Try.prog 27 [.sl 3 (encTs l), .num .i64 left] (.num .i64 (szHalfPlaneV l left)) := by
  refine icall_V (G := g_laws_szHalfPlaneS) (H := []) [] tabOK mixed gok_laws_szHalfPlaneS hok_laws_szHalfPlaneS Try.func27 rfl Try.ntmps27 Try.results27 rfl (by kernel_rfl) fun F hN hlen => ?_
  have hl := hlen 0 3 _ rfl
  have el := len_encTs l
  rw [el, maxLen_eq] at hl
  have w1 : IntKind.i64.wrap (left - (l.length : Int)) = left - (l.length : Int) := wr (by omega) (by omega)
  by_cases c : left < (l.length : Int)
  · have d1 : decide (left - (l.length : Int) < 0) = true := by simp only [decide_eq_true_eq]; omega
    have hv : szHalfPlaneV l left = -1 := if_pos c
    simp only [V_seq, V_ret, V_region, V_cond, brW_true, W_nil, W_cons, effOp2, KN_seq, KXr_nil, KXr_seq, QE, asB, effOp, effPure, pureV, binV, lenV, ofC, strip, lkT, lkH, ISt.app, opI, gO, gB, allB, gval, wrapG, dstOK, setD, clean, enumT, Gives, Ideal.Fin, conv, conv0, Op.operands, Call.operands, List.append_toArray, reduceIte, reduceCtorEq, Nat.reduceLT, Nat.reduceEqDiff, Nat.zero_add, ne_eq, not_false_eq_true, and_self, implies_true, List.nil_append, List.cons_append, List.append_nil, tab39, hN, el, w1, d1, hv]
  · have d1 : decide (left - (l.length : Int) < 0) = false := by simp only [decide_eq_false_iff_not]; omega
    have hv : szHalfPlaneV l left = left - (l.length : Int) := if_neg c
    simp only [V_seq, V_skip, V_ret, V_region, V_cond, brW_false, W_nil, W_cons, effOp2, KN_seq, KXr_nil, QE, asB, effOp, effPure, pureV, binV, lenV, ofC, strip, lkT, lkH, ISt.app, opI, gO, gB, allB, gval, wrapG, dstOK, setD, clean, enumT, Gives, Ideal.Fin, conv, conv0, Op.operands, Call.operands, List.append_toArray, reduceIte, reduceCtorEq, Nat.reduceLT, Nat.reduceEqDiff, Nat.zero_add, ne_eq, not_false_eq_true, and_self, implies_true, List.nil_append, List.cons_append, List.append_nil, tab39, hN, el, w1, d1, hv]
def sp_laws_szHalfPlaneS : PSpec := ⟨fun xs => match xs with | [.sl 3 les, .num .i64 left] => isTs les ∧ ((fun (l : List Tr) (left : Int) => 0 ≤ left) (toTs les) left) ∧ ((fun (l : List Tr) (left : Int) => left ≤ 1048576) (toTs les) left) | _ => False, fun xs => match xs with | [.sl _ les, .num _ left] => (fun (l : List Tr) (left : Int) => .num .i64 (szHalfPlaneV l left)) (toTs les) left | _ => .junk, false⟩
theorem gk_laws_szHalfPlaneS : ∀ args, sp_laws_szHalfPlaneS.pre args → ICall Try.prog 27 args (sp_laws_szHalfPlaneS.val args) := by
  intro args h
  unfold sp_laws_szHalfPlaneS at h ⊢; simp only at h ⊢; split at h
  · obtain ⟨h0, h1, h2⟩ := h
    obtain ⟨l0, rfl⟩ := isT_ex h0
    simp only [toTs_enc] at *
    exact c_laws_szHalfPlaneS _ _ h1 h2
  · exact h.elim
theorem en_laws_szHalfPlaneS : Enters Try.prog 27 := enters_of Try.func27 (by kernel_rfl) rfl

def g_laws_toHalfPlaneS : List (Nat × PSpec) := [(84, sp_laws_toHalfPlane)]
theorem gok_laws_toHalfPlaneS : GOK Try.prog g_laws_toHalfPlaneS := gok_cons gk_laws_toHalfPlane en_laws_toHalfPlane (gok0)
theorem lk_laws_toHalfPlaneS_laws_toHalfPlane : lkG g_laws_toHalfPlaneS 84 = sp_laws_toHalfPlane := rfl
def h_laws_toHalfPlaneS : List (Nat × HSpec) := []
theorem hok_laws_toHalfPlaneS : HOK Try.prog h_laws_toHalfPlaneS := hok0
theorem c_laws_toHalfPlaneS (l : List Tr) (hsz : l.length ≤ 1048576) : HCall Try.prog 29 [.sl 3 (encTs l)] (sm ([])) (.ref 0 0 l.length true) (sm ([(0, .arr 3 98 (encTs l))])) := by
  refine hcall_V (G := g_laws_toHalfPlaneS) (H := []) [] tabOK mixed gok_laws_toHalfPlaneS hok_laws_toHalfPlaneS Try.func29 rfl Try.ntmps29 Try.results29 rfl (by kernel_rfl) fun F hN hlen => ?_
  simp only [sm]
  have el := len_encTs l
  simp only [V_seq, V_block, V_region, W_nil, W_cons, effOp2, KN_seq, effOp, effPure, effNew, effMake, skipE, pureV, lenV, ofC, strip, lkT, ISt.app, opI, gO, gB, allB, gval, wrapG, dstOK, setD, mentTm, mentHp, IV.ment, zeroElt, noId', enumT, Op.operands, Call.operands, List.append_toArray, reduceIte, reduceCtorEq, cond_true, Bool.or_false, Bool.and_true, Nat.reduceLT, Nat.reduceLeDiff, Nat.reduceEqDiff, ne_eq, not_false_eq_true, true_and, and_true, and_self, implies_true, List.nil_append, List.cons_append, List.append_nil, List.all_cons, List.all_nil, tab39, tab43, tab98, hN, Int.toNat_natCast, el]
  refine ⟨by omega, ?_⟩
  refine V_loop (α := Nat) ⟨tabOK, mixed, gok_laws_toHalfPlaneS, hok_laws_toHalfPlaneS⟩ (by kernel_rfl) (fun i => i ≤ l.length) (fun i => ⟨[(4, .num .i64 i), (3, .ref 7 0 l.length true), (0, .sl 3 (encTs l))], [(7, some (.arr 3 98 (encTs (l.take i ++ List.replicate (l.length - i) (0, 0, 0)))))]⟩) (fun i => l.length - i) 0 id (Nat.zero_le _) (by simp [SLe, SLe0, convTm, convHp, convB, conv, conv0, lkT, lkH, clean, encTs, encT]) ?_
  intro i hi
  have hx : ∃ k ty es, IBlk.arr 3 98 (encTs (l.take i ++ List.replicate (l.length - i) (0, 0, 0))) = IBlk.arr k ty es := ⟨_, _, _, rfl⟩
  have ex : (encTs (l.take i ++ List.replicate (l.length - i) (0, 0, 0))).length = l.length := by rw [len_encTs, List.length_append, List.length_take, List.length_replicate]; omega
  simp only [V_seq, V_region, V_cond, W_nil, W_cons, effOp2, KN_seq, asB, effOp, effPure, pureV, binV, lenV, strip, lkT, ISt.app, opI, gO, gB, allB, gval, wrapG, dstOK, setD, Op.operands, Call.operands, List.append_toArray, reduceIte, reduceCtorEq, Nat.reduceLT, Nat.reduceEqDiff, ne_eq, not_false_eq_true, true_and, and_self, implies_true, List.nil_append, List.cons_append, tab39, hN, el]
  refine brW_some (fun h => ?_) (fun h => ?_)
  · have hi' : i < l.length := by simpa using h
    have g0 := getD_encTs hi'
    have hw := wr_succ hi' (by rw [maxLen_eq]; omega)
    have hset : (l.take i ++ List.replicate (l.length - i) (0, 0, 0)).set i (tAt l i) = l.take (i + 1) ++ List.replicate (l.length - (i + 1)) (0, 0, 0) := by
      rw [List.set_append_right _ _ (by rw [List.length_take]; omega), List.length_take, Nat.min_eq_left (Nat.le_of_lt hi'), Nat.sub_self, show l.length - i = (l.length - (i + 1)) + 1 by omega, List.replicate_succ, List.set_cons_zero, take_succ_g (d := (0, 0, 0)) hi', List.append_assoc]
      rfl
    have hes := encTs_set (l.take i ++ List.replicate (l.length - i) (0, 0, 0)) i (tAt l i)
    rw [hset] at hes
    simp only [V_seq, V_skip, V_block, V_region, W_nil, W_cons, effOp2, KN_seq, KN_block, KN_back, effOp, effPure, effStore, effCall, giveUp, hasAll, pureV, storeV, binV, partV, eltV, loadV, iaddrV, over, solid, IV.cells, ofC, strip, lkT, lkH, ISt.app, opI, gO, gB, allB, gval, wrapG, dstOK, setD, eltI, oneI, noId', lendV, lendP, lent, lentP, idsV, idsL, lkHS, flat, flatL, clean, cleanL, callArgs, callFn, allLent, Op.operands, reduceIte, reduceCtorEq, cond_true, Bool.or_false, Bool.and_true, Bool.true_and, Bool.not_true, Nat.reduceAdd, Nat.reduceLT, Nat.reduceLeDiff, Nat.reduceEqDiff, Nat.zero_add, ne_eq, not_false_eq_true, true_and, and_true, and_false, and_self, implies_true, forall_const, List.map_cons, List.map_nil, List.nil_append, List.cons_append, List.append_nil, List.all_cons, List.all_nil, List.getD_cons_zero, List.length_cons, List.length_nil, List.take_succ_cons, List.take_zero, List.take_nil, List.drop_zero, ex_clo, or_self, tab39, tab43, tab98, tab100, hN, Int.toNat_natCast, encT, lk_laws_toHalfPlaneS_laws_toHalfPlane, sp_laws_toHalfPlane, el, g0, hw, ex, hes]
    repeat refine And.intro (by first | omega | (simp; done) | (simp; omega)) ?_
    exact ⟨i + 1, id, by simp only []; omega, by simp only []; omega, by simp [SLe, SLe0, convTm, convHp, convB, conv, conv0, lkT, lkH, clean]⟩
  · have hie : i = l.length := by simp at h; omega
    subst hie
    have hf : l.take l.length ++ List.replicate (l.length - l.length) (0, 0, 0) = l := by simp
    rw [hf] at hx ex ⊢
    simp only [V_seq, V_ret, V_exit, V_region, W_nil, W_cons, effOp2, KN_seq, KXr_nil, KXe_nil, KXe_seq, KXe_block, KXe_back, QE, effOp, effPure, Option.isSome_some, pureV, strip, lkT, lkH, ISt.app, opI, gO, gB, allB, gval, wrapG, dstOK, setD, conv, conv0, Op.operands, reduceIte, reduceCtorEq, Nat.reduceLT, Nat.reduceEqDiff, true_and, and_true, and_self, implies_true, List.map_cons, List.map_nil, List.nil_append, List.cons_append, hN, FinH, resA, resV, SLe, SLe0, convTm, convHp, convB]
    exact ⟨fun x => if x = 0 then 7 else x, by simp; omega⟩
def hs_laws_toHalfPlaneS : HSpec := ⟨[true], fun xs hp => match xs, hp with | [.sl 3 es], [] => (isTs es) ∧ ((fun (l : List Tr) => l.length ≤ 1048576) (toTs es)) | _, _ => False, fun xs hp => match xs, hp with | [.sl 3 es], [] => (fun (l : List Tr) => (.ref 0 0 l.length true : IV)) (toTs es) | _, _ => .junk, fun xs hp => match xs, hp with | [.sl 3 es], [] => (fun (l : List Tr) => ([(0, .arr 3 98 (encTs l))] : List (Nat × IBlk))) (toTs es) | _, _ => []⟩
theorem hk_laws_toHalfPlaneS : ∀ args hp, hs_laws_toHalfPlaneS.pre args hp → HCall Try.prog 29 args (sm hp) (hs_laws_toHalfPlaneS.val args hp) (sm (hs_laws_toHalfPlaneS.hval args hp)) := by
  intro args hp h
  unfold hs_laws_toHalfPlaneS at h ⊢; simp only at h ⊢; split at h
  · obtain ⟨h1, h2⟩ := h; obtain ⟨l, rfl⟩ := isT_ex h1; rw [toTs_enc] at *; exact c_laws_toHalfPlaneS l h2
  · exact h.elim
theorem en_laws_toHalfPlaneS : Enters Try.prog 29 := enters_of Try.func29 (by kernel_rfl) rfl

def g_laws_eqHalfPlane : List (Nat × PSpec) := []
theorem gok_laws_eqHalfPlane : GOK Try.prog g_laws_eqHalfPlane := gok0
def h_laws_eqHalfPlane : List (Nat × HSpec) := []
theorem hok_laws_eqHalfPlane : HOK Try.prog h_laws_eqHalfPlane := hok0
theorem c_laws_eqHalfPlane (p : Tr) (q : Tr)  : ICall Try.prog 88 [encT p, encT q] (.bool (p == q)) := by
  refine icall_V (G := g_laws_eqHalfPlane) (H := []) [] tabOK mixed gok_laws_eqHalfPlane hok_laws_eqHalfPlane Try.func88 rfl Try.ntmps88 Try.results88 rfl (by kernel_rfl) fun F hN hlen => ?_
  obtain ⟨p1, p2, p3⟩ := p
  obtain ⟨q1, q2, q3⟩ := q
  by_cases c1 : p1 = q1
  · have d1 : (p1 != q1) = false := by simpa using c1
    by_cases c2 : p2 = q2
    · have d2 : (p2 != q2) = false := by simpa using c2
      by_cases c3 : p3 = q3
      · have d3 : (p3 != q3) = false := by simpa using c3
        simp only [V_seq, V_skip, V_ret, V_region, V_cond, brW_false, W_nil, W_cons, effOp2, KN_seq, KXr_nil, QE, asB, effOp, effPure, effNew, effBox, skipE, pureV, binV, partV, loadV, faddrV, solid, IV.cells, ofC, strip, lkT, lkH, ISt.app, opI, gO, gB, allB, gval, wrapG, dstOK, setD, mentTm, mentHp, IV.ment, IV.mentL, oneI, clean, enumT, Gives, Ideal.Fin, conv, conv0, IBlk.shape, Op.operands, reduceIte, reduceCtorEq, cond_true, Bool.or_false, Bool.and_true, Nat.reduceAdd, Nat.reduceLT, Nat.reduceLeDiff, Nat.reduceEqDiff, Nat.reduceBEq, Nat.add_zero, Nat.zero_add, true_and, and_true, and_self, implies_true, List.nil_append, List.cons_append, List.append_nil, List.all_cons, List.all_nil, Option.map_some, List.getD_cons_zero, List.getD_cons_succ, List.length_cons, List.length_nil, List.take_succ_cons, List.take_zero, List.take_nil, List.drop_succ_cons, List.drop_zero, tab3, tab98, hN, encT, d1, d2, d3]
        simp [c1, c2, c3]
      · have d3 : (p3 != q3) = true := by simpa using c3
        simp only [V_seq, V_skip, V_ret, V_region, V_cond, brW_true, brW_false, W_nil, W_cons, effOp2, KN_seq, KXr_nil, KXr_seq, QE, asB, effOp, effPure, effNew, effBox, skipE, pureV, binV, partV, loadV, faddrV, solid, IV.cells, ofC, strip, lkT, lkH, ISt.app, opI, gO, gB, allB, gval, wrapG, dstOK, setD, mentTm, mentHp, IV.ment, IV.mentL, oneI, clean, enumT, Gives, Ideal.Fin, conv, conv0, IBlk.shape, Op.operands, reduceIte, reduceCtorEq, cond_true, Bool.or_false, Bool.and_true, Nat.reduceAdd, Nat.reduceLT, Nat.reduceLeDiff, Nat.reduceEqDiff, Nat.reduceBEq, Nat.add_zero, Nat.zero_add, true_and, and_true, and_self, implies_true, List.nil_append, List.cons_append, List.append_nil, List.all_cons, List.all_nil, Option.map_some, List.getD_cons_zero, List.getD_cons_succ, List.length_cons, List.length_nil, List.take_succ_cons, List.take_zero, List.take_nil, List.drop_succ_cons, List.drop_zero, tab3, tab98, hN, encT, d1, d2, d3]
        simp [c3]
    · have d2 : (p2 != q2) = true := by simpa using c2
      simp only [V_seq, V_skip, V_ret, V_region, V_cond, brW_true, brW_false, W_nil, W_cons, effOp2, KN_seq, KXr_nil, KXr_seq, QE, asB, effOp, effPure, effNew, effBox, skipE, pureV, binV, partV, loadV, faddrV, solid, IV.cells, ofC, strip, lkT, lkH, ISt.app, opI, gO, gB, allB, gval, wrapG, dstOK, setD, mentTm, mentHp, IV.ment, IV.mentL, oneI, clean, enumT, Gives, Ideal.Fin, conv, conv0, IBlk.shape, Op.operands, reduceIte, reduceCtorEq, cond_true, Bool.or_false, Bool.and_true, Nat.reduceAdd, Nat.reduceLT, Nat.reduceLeDiff, Nat.reduceEqDiff, Nat.reduceBEq, Nat.add_zero, Nat.zero_add, true_and, and_true, and_self, implies_true, List.nil_append, List.cons_append, List.append_nil, List.all_cons, List.all_nil, Option.map_some, List.getD_cons_zero, List.getD_cons_succ, List.length_cons, List.length_nil, List.take_succ_cons, List.take_zero, List.drop_succ_cons, List.drop_zero, tab3, tab98, hN, encT, d1, d2]
      simp [c2]
  · have d1 : (p1 != q1) = true := by simpa using c1
    simp only [V_seq, V_ret, V_region, V_cond, brW_true, W_nil, W_cons, effOp2, KN_seq, KXr_nil, KXr_seq, QE, asB, effOp, effPure, effNew, effBox, skipE, pureV, binV, partV, loadV, faddrV, solid, IV.cells, ofC, strip, lkT, lkH, ISt.app, opI, gO, gB, allB, gval, wrapG, dstOK, setD, mentTm, mentHp, IV.ment, IV.mentL, oneI, clean, enumT, Gives, Ideal.Fin, conv, conv0, IBlk.shape, Op.operands, reduceIte, reduceCtorEq, cond_true, Bool.or_false, Bool.and_true, Nat.reduceAdd, Nat.reduceLT, Nat.reduceLeDiff, Nat.reduceEqDiff, Nat.reduceBEq, Nat.add_zero, Nat.zero_add, true_and, and_true, and_self, implies_true, List.nil_append, List.cons_append, List.append_nil, List.all_cons, List.all_nil, Option.map_some, List.getD_cons_zero, List.length_cons, List.length_nil, List.take_succ_cons, List.take_zero, List.drop_zero, tab3, tab98, hN, encT, d1]
    simp [c1]
def sp_laws_eqHalfPlane : PSpec := ⟨fun xs => match xs with | [.agg [.num .i64 p1, .num .i64 p2, .num .i64 p3], .agg [.num .i64 q1, .num .i64 q2, .num .i64 q3]] => True | _ => False, fun xs => match xs with | [.agg [.num _ p1, .num _ p2, .num _ p3], .agg [.num _ q1, .num _ q2, .num _ q3]] => (fun (p : Tr) (q : Tr) => .bool (p == q)) (p1, p2, p3) (q1, q2, q3) | _ => .junk, false⟩
theorem gk_laws_eqHalfPlane : ∀ args, sp_laws_eqHalfPlane.pre args → ICall Try.prog 88 args (sp_laws_eqHalfPlane.val args) := by
  intro args h
  unfold sp_laws_eqHalfPlane at h ⊢; simp only at h ⊢; split at h
  · exact c_laws_eqHalfPlane (_, _, _) (_, _, _)
  · exact h.elim
theorem en_laws_eqHalfPlane : Enters Try.prog 88 := enters_of Try.func88 (by kernel_rfl) rfl

def g_laws_eqHalfPlaneS : List (Nat × PSpec) := [(88, sp_laws_eqHalfPlane)]
theorem gok_laws_eqHalfPlaneS : GOK Try.prog g_laws_eqHalfPlaneS := gok_cons gk_laws_eqHalfPlane en_laws_eqHalfPlane (gok0)
theorem lk_laws_eqHalfPlaneS_laws_eqHalfPlane : lkG g_laws_eqHalfPlaneS 88 = sp_laws_eqHalfPlane := rfl
def h_laws_eqHalfPlaneS : List (Nat × HSpec) := []
theorem hok_laws_eqHalfPlaneS : HOK Try.prog h_laws_eqHalfPlaneS := hok0
theorem c_laws_eqHalfPlaneS (a : List Tr) (b : List Tr)  : ICall Try.prog 31 [.sl 3 (encTs a), .sl 3 (encTs b)] (.bool (a == b)) := by
  refine icall_V (G := g_laws_eqHalfPlaneS) (H := []) [(6, [(0, 8), (1, 8), (2, 8), (4, 8), (5, 8), (6, 8)])] tabOK mixed gok_laws_eqHalfPlaneS hok_laws_eqHalfPlaneS Try.func31 rfl Try.ntmps31 Try.results31 rfl (by kernel_rfl) fun F hN hlen => ?_
  have la := hlen 0 3 _ rfl
  have lb := hlen 1 3 _ rfl
  have ea := len_encTs a
  have eb := len_encTs b
  rw [ea] at la
  rw [eb] at lb
  simp only [V_seq, V_region, V_cond, W_nil, W_cons, effOp2, KN_seq, asB, effOp, effPure, pureV, binV, lenV, ofC, strip, lkT, ISt.app, opI, gO, gB, allB, gval, wrapG, dstOK, setD, enumT, Op.operands, Call.operands, List.append_toArray, reduceIte, reduceCtorEq, Nat.reduceLT, Nat.reduceEqDiff, Nat.zero_add, ne_eq, not_false_eq_true, true_and, and_self, implies_true, List.nil_append, List.cons_append, List.append_nil, tab43, hN, ea, eb]
  refine brW_some (fun h => ?_) (fun h => ?_)
  · simp only [V_seq, V_ret, V_region, W_nil, W_cons, effOp2, KN_seq, KXr_nil, KXr_seq, QE, effOp, effPure, pureV, ofC, strip, lkT, lkH, ISt.app, opI, gO, gB, allB, gval, wrapG, dstOK, setD, clean, Gives, Ideal.Fin, conv, conv0, Op.operands, reduceIte, reduceCtorEq, Nat.reduceLT, Nat.reduceEqDiff, true_and, and_true, and_self, implies_true, List.nil_append, List.cons_append, List.append_nil, hN]
    have : a ≠ b := by rintro rfl; simp at h
    simp [this]
  · simp only [V_seq, V_skip, V_block, V_region, W_nil, W_cons, effOp2, KN_seq, effOp, effPure, pureV, ofC, strip, ISt.app, opI, gO, gB, allB, gval, wrapG, dstOK, setD, Op.operands, Nat.reduceLT, true_and, and_self, implies_true, List.nil_append, List.cons_append, List.append_nil, hN]
    have hab : a.length = b.length := by simp at h; omega
    refine V_loop (α := Nat) ⟨tabOK, mixed, gok_laws_eqHalfPlaneS, hok_laws_eqHalfPlaneS⟩ (by kernel_rfl) (fun i => i ≤ a.length ∧ ∀ j, j < i → tAt a j = tAt b j) (fun i => ⟨[(5, .num .i64 i), (0, .sl 3 (encTs a)), (1, .sl 3 (encTs b))], []⟩) (fun i => a.length - i) 0 id (by simp) (by simp [SLe, SLe0, convTm, convHp, conv, conv0, lkT, lkH, clean]) ?_
    rintro i ⟨hi, hj⟩
    simp only [V_seq, V_region, V_cond, W_nil, W_cons, effOp2, KN_seq, asB, effOp, effPure, pureV, binV, lenV, strip, lkT, ISt.app, opI, gO, gB, allB, gval, wrapG, dstOK, setD, Op.operands, Call.operands, List.append_toArray, reduceIte, reduceCtorEq, Nat.reduceLT, Nat.reduceEqDiff, ne_eq, not_false_eq_true, true_and, and_self, implies_true, List.nil_append, List.cons_append, List.append_nil, tab43, hN, ea]
    refine brW_some (fun h => ?_) (fun h => ?_)
    · have hi' : i < a.length := by simpa using h
      have g1 := getD_encTs hi'
      have g2 := getD_encTs (hab ▸ hi' : i < b.length)
      have hw := wr_succ hi' la
      simp only [V_seq, V_skip, V_block, V_draw, V_cond, drawW, WS_nil, pairsOf, W_nil, W_cons, effOp2, effOp3, WI_nil, WI_cons, KN_seq, dynOK, indB, farB, freshB, freshK, freshK1, heapy, asB, effOp, effPure, effCall, giveUp, hasAll, pureV, partV, eltV, loadV, iaddrV, strip, lkT, lkH, ISt.app, opI, gO, gB, allB, gval, wrapG, dstOK, setD, mentTm, mentHp, IV.ment, lendV, lendP, lent, lentP, idsV, idsL, lkHS, flat, clean, callArgs, callFn, allLent, Op.operands, Call.operands, List.append_toArray, reduceIte, reduceCtorEq, cond_true, cond_false, Bool.or_false, Bool.and_true, Bool.and_eq_true, Bool.not_true, Bool.not_false, Nat.reduceAdd, Nat.reduceLT, Nat.reduceLeDiff, Nat.reduceEqDiff, Nat.reduceBEq, Nat.zero_add, ne_eq, not_false_eq_true, true_and, and_true, and_false, and_self, implies_true, forall_const, List.map_cons, List.map_nil, List.nil_append, List.cons_append, List.append_nil, List.getD_cons_zero, List.getD_cons_succ, List.length_cons, List.length_nil, List.take_succ_cons, List.take_zero, List.take_nil, List.drop_zero, ex_clo, or_self, tab43, tab98, hN, pe, Int.toNat_natCast, lk_laws_eqHalfPlaneS_laws_eqHalfPlane, sp_laws_eqHalfPlane, ea, eb, Int.toNat_natCast, g1, g2]
      repeat refine And.intro (by omega) ?_
      refine brW_some (fun h => ?_) (fun h => ?_)
      · simp only [V_seq, V_ret, V_region, W_nil, W_cons, effOp2, KN_seq, KXr_nil, KXr_seq, KXr_block, KXr_back, QE, effOp, effPure, pureV, ofC, strip, lkT, lkH, ISt.app, opI, gO, gB, allB, gval, wrapG, dstOK, setD, clean, Gives, Ideal.Fin, conv, conv0, Op.operands, reduceIte, reduceCtorEq, Nat.reduceLT, Nat.reduceEqDiff, true_and, and_true, and_self, implies_true, List.nil_append, List.cons_append, List.append_nil, hN]
        have : a ≠ b := by rintro rfl; simp at h
        simp [this]
      · simp only [V_skip, V_region, W_nil, W_cons, effOp2, KN_seq, KN_block, KN_back, effOp, effPure, pureV, binV, ofC, strip, lkT, ISt.app, opI, gO, gB, allB, gval, wrapG, dstOK, setD, Op.operands, reduceIte, reduceCtorEq, Nat.reduceLT, Nat.reduceEqDiff, true_and, and_self, implies_true, List.nil_append, List.cons_append, List.append_nil, hN, hw]
        refine ⟨i + 1, id, ⟨by omega, ?_⟩, by simp only []; omega, by simp [SLe, SLe0, convTm, convHp, conv, conv0, lkT, lkH, clean]⟩
        intro j hj'
        rcases Nat.lt_succ_iff_lt_or_eq.1 hj' with h' | rfl
        · exact hj j h'
        · simpa using h
    · simp only [V_seq, V_ret, V_exit, V_region, W_nil, W_cons, effOp2, KN_seq, KXr_nil, KXe_nil, KXe_seq, KXe_block, KXe_back, QE, effOp, effPure, pureV, ofC, strip, lkT, lkH, ISt.app, opI, gO, gB, allB, gval, wrapG, dstOK, setD, clean, Gives, Ideal.Fin, conv, conv0, Op.operands, reduceIte, reduceCtorEq, Nat.reduceLT, Nat.reduceEqDiff, true_and, and_true, and_self, implies_true, List.nil_append, List.cons_append, List.append_nil, hN]
      have hie : i = a.length := by simp at h; omega
      have : a = b := eq_of_getD hab (fun j h' => hj j (by omega))
      simp [this]
def sp_laws_eqHalfPlaneS : PSpec := ⟨fun xs => match xs with | [.sl 3 aes, .sl 3 bes] => isTs aes ∧ isTs bes | _ => False, fun xs => match xs with | [.sl _ aes, .sl _ bes] => (fun (a : List Tr) (b : List Tr) => .bool (a == b)) (toTs aes) (toTs bes) | _ => .junk, false⟩
theorem gk_laws_eqHalfPlaneS : ∀ args, sp_laws_eqHalfPlaneS.pre args → ICall Try.prog 31 args (sp_laws_eqHalfPlaneS.val args) := by
  intro args h
  unfold sp_laws_eqHalfPlaneS at h ⊢; simp only at h ⊢; split at h
  · obtain ⟨h0, h1⟩ := h
    obtain ⟨l0, rfl⟩ := isT_ex h0
    obtain ⟨l1, rfl⟩ := isT_ex h1
    simp only [toTs_enc] at *
    exact c_laws_eqHalfPlaneS _ _ 
  · exact h.elim
theorem en_laws_eqHalfPlaneS : Enters Try.prog 31 := enters_of Try.func31 (by kernel_rfl) rfl

/-- What a list is after it was marked from k on. -/
def marksT : Nat → Int → List Tr
  | 0, _ => []
  | n + 1, k => (k, k + 1, k + 2) :: marksT n (k + 3)
theorem marksT_len : ∀ n k, (marksT n k).length = n
  | 0, _ => rfl
  | n + 1, k => by simp [marksT, marksT_len n]
theorem marksT_at : ∀ n (k : Int) i, i < n → tAt (marksT n k) i = (k + 3 * i, k + 3 * i + 1, k + 3 * i + 2)
  | n + 1, k, 0, _ => by simp [marksT]
  | n + 1, k, i + 1, h => by
    have := marksT_at n (k + 3) i (by omega)
    simp only [marksT, tAt, List.getD, List.getElem?_cons_succ] at this ⊢
    rw [this]
    refine Prod.ext ?_ (Prod.ext ?_ ?_) <;> simp only [] <;> omega
def heldT : List Tr → Int → Int
  | [], k => k
  | p :: l, k => if p.1 = k ∧ p.2.1 = k + 1 ∧ p.2.2 = k + 2 then heldT l (k + 3) else -1
theorem heldT_marks : ∀ n k, heldT (marksT n k) k = k + 3 * (n : Int)
  | 0, k => by simp [marksT, heldT]
  | n + 1, k => by
    rw [marksT, heldT, if_pos ⟨rfl, rfl, rfl⟩, heldT_marks n]
    omega
theorem heldT_step {l : List Tr} {i : Nat} {k : Int} (hi : i < l.length) : heldT (l.drop i) k = if (tAt l i).1 = k ∧ (tAt l i).2.1 = k + 1 ∧ (tAt l i).2.2 = k + 2 then heldT (l.drop (i + 1)) (k + 3) else -1 := by
  rw [drop_eq_g (d := (0, 0, 0)) hi, heldT]

/-- What a list is after it was marked from k on. -/
def marksQ : Nat → Int → List Qd
  | 0, _ => []
  | n + 1, k => ((k, k + 1), (k + 2, k + 3)) :: marksQ n (k + 4)
theorem marksQ_len : ∀ n k, (marksQ n k).length = n
  | 0, _ => rfl
  | n + 1, k => by simp [marksQ, marksQ_len n]
theorem marksQ_at : ∀ n (k : Int) i, i < n → qAt (marksQ n k) i = ((k + 4 * i, k + 4 * i + 1), (k + 4 * i + 2, k + 4 * i + 3))
  | n + 1, k, 0, _ => by simp [marksQ]
  | n + 1, k, i + 1, h => by
    have := marksQ_at n (k + 4) i (by omega)
    simp only [marksQ, qAt, List.getD, List.getElem?_cons_succ] at this ⊢
    rw [this]
    refine Prod.ext (Prod.ext ?_ ?_) (Prod.ext ?_ ?_) <;> simp only [] <;> omega
def heldQ : List Qd → Int → Int
  | [], k => k
  | p :: l, k => if p.1.1 = k ∧ p.1.2 = k + 1 ∧ p.2.1 = k + 2 ∧ p.2.2 = k + 3 then heldQ l (k + 4) else -1
theorem heldQ_marks : ∀ n k, heldQ (marksQ n k) k = k + 4 * (n : Int)
  | 0, k => by simp [marksQ, heldQ]
  | n + 1, k => by
    rw [marksQ, heldQ, if_pos ⟨rfl, rfl, rfl, rfl⟩, heldQ_marks n]
    omega
theorem heldQ_step {l : List Qd} {i : Nat} {k : Int} (hi : i < l.length) : heldQ (l.drop i) k = if (qAt l i).1.1 = k ∧ (qAt l i).1.2 = k + 1 ∧ (qAt l i).2.1 = k + 2 ∧ (qAt l i).2.2 = k + 3 then heldQ (l.drop (i + 1)) (k + 4) else -1 := by
  rw [drop_eq_g (d := ((0, 0), (0, 0))) hi, heldQ]

def g_laws_markHalfPlaneS : List (Nat × PSpec) := []
theorem gok_laws_markHalfPlaneS : GOK Try.prog g_laws_markHalfPlaneS := gok0
def h_laws_markHalfPlaneS : List (Nat × HSpec) := []
theorem hok_laws_markHalfPlaneS : HOK Try.prog h_laws_markHalfPlaneS := hok0
theorem c_laws_markHalfPlaneS (l : List Tr) (k : Int) (full : Bool) (hsz : l.length ≤ 2000000) (h0 : 0 ≤ k) (h1 : k ≤ 2000000) : HCall Try.prog 32 [.ref 1000 0 l.length full, .num .i64 k] (sm ([(1000, .arr 3 98 (encTs l))])) (.num .i64 (k + 3 * (l.length : Int))) (sm ([(1000, .arr 3 98 (encTs (marksT l.length k)))])) := by
  refine hcall_V (G := g_laws_markHalfPlaneS) (H := []) [] tabOK mixed gok_laws_markHalfPlaneS hok_laws_markHalfPlaneS Try.func32 rfl Try.ntmps32 Try.results32 rfl (by kernel_rfl) fun F hN hlen => ?_
  simp only [sm]
  have hx : ∃ k ty es, IBlk.arr 3 98 (encTs l) = IBlk.arr k ty es := ⟨_, _, _, rfl⟩
  simp only [V_seq, V_block, V_region, W_nil, W_cons, effOp2, KN_seq, effOp, effPure, pureV, ofC, strip, ISt.app, opI, gO, gB, allB, gval, wrapG, dstOK, setD, enumT, Op.operands, Nat.reduceLT, Nat.zero_add, true_and, and_self, implies_true, List.nil_append, List.cons_append, hN]
  refine V_loop (α := Nat × List Tr) ⟨tabOK, mixed, gok_laws_markHalfPlaneS, hok_laws_markHalfPlaneS⟩ (by kernel_rfl) (fun b => b.1 ≤ l.length ∧ b.2.length = l.length ∧ ∀ j, j < b.1 → tAt b.2 j = (k + 3 * j, k + 3 * j + 1, k + 3 * j + 2)) (fun b => ⟨[(5, .num .i64 b.1), (0, .ref 1000 0 l.length full), (1, .num .i64 (k + 3 * (b.1 : Int)))], [(1000, some (.arr 3 98 (encTs b.2)))]⟩) (fun b => l.length - b.1) (0, l) id ⟨by simp, rfl, fun j h => absurd h (Nat.not_lt_zero j)⟩ (by simp [SLe, SLe0, convTm, convHp, convB, conv, conv0, lkT, lkH, clean, List.take_length]) ?_
  rintro ⟨i, m⟩ ⟨hi, hl, hj⟩
  simp only [] at hi hl hj
  have em := len_encTs m
  rw [hl] at em
  have hx : ∃ k ty es, IBlk.arr 3 98 (encTs m) = IBlk.arr k ty es := ⟨_, _, _, rfl⟩
  simp only [V_seq, V_region, V_cond, W_nil, W_cons, effOp2, KN_seq, asB, effOp, effPure, pureV, binV, lenV, strip, lkT, ISt.app, opI, gO, gB, allB, gval, wrapG, dstOK, setD, Op.operands, Call.operands, List.append_toArray, reduceIte, reduceCtorEq, Nat.reduceLT, Nat.reduceEqDiff, ne_eq, not_false_eq_true, true_and, and_self, implies_true, List.nil_append, List.cons_append, tab43, hN]
  refine brW_some (fun h => ?_) (fun h => ?_)
  · have hi' : i < l.length := by simpa using h
    have hw := wr_succ hi' (by rw [maxLen_eq]; omega)
    have g0 := getD_encTs (l := m) (i := i) (by omega)
    obtain ⟨K, hK⟩ : ∃ K, k + 3 * (i : Int) = K := ⟨_, rfl⟩
    obtain ⟨v0, hv0⟩ : ∃ v, tAt m i = v := ⟨_, rfl⟩
    rw [hv0] at g0
    have w1 : IntKind.i64.wrap (K + 1) = K + 1 := by rw [wr (by omega) (by omega)]
    have w2 : IntKind.i64.wrap (K + 1 + 1) = K + 2 := by rw [wr (by omega) (by omega)]; omega
    have w3 : IntKind.i64.wrap (K + 2 + 1) = k + 3 * ((i + 1 : Nat) : Int) := by rw [wr (by omega) (by omega)]; omega
    have e1 : (encTs m).set i (.agg [.num .i64 (K), .num .i64 (v0.2.1), .num .i64 (v0.2.2)]) = encTs (m.set i (K, v0.2.1, v0.2.2)) := encTs_set m i (K, v0.2.1, v0.2.2)
    obtain ⟨m1, hm1⟩ : ∃ z, m.set i (K, v0.2.1, v0.2.2) = z := ⟨_, rfl⟩
    have l1 : m1.length = l.length := by rw [← hm1]; simp; omega
    have a1 : tAt m1 i = (K, v0.2.1, v0.2.2) := by rw [← hm1]; simp [show i < m.length by omega]
    have b1 : ∀ j, i ≠ j → tAt m1 j = tAt m j := fun j hne => by rw [← hm1]; simp [List.getElem?_set_ne hne]
    rw [hm1] at e1
    have g1 := getD_encTs (l := m1) (i := i) (by omega)
    rw [a1] at g1
    have hx1 : ∃ k ty es, IBlk.arr 3 98 (encTs m1) = IBlk.arr k ty es := ⟨_, _, _, rfl⟩
    have em1 := len_encTs m1
    rw [l1] at em1
    have e2 : (encTs m1).set i (.agg [.num .i64 (K), .num .i64 (K + 1), .num .i64 (v0.2.2)]) = encTs (m1.set i (K, K + 1, v0.2.2)) := encTs_set m1 i (K, K + 1, v0.2.2)
    obtain ⟨m2, hm2⟩ : ∃ z, m1.set i (K, K + 1, v0.2.2) = z := ⟨_, rfl⟩
    have l2 : m2.length = l.length := by rw [← hm2]; simp; omega
    have a2 : tAt m2 i = (K, K + 1, v0.2.2) := by rw [← hm2]; simp [show i < m1.length by omega]
    have b2 : ∀ j, i ≠ j → tAt m2 j = tAt m1 j := fun j hne => by rw [← hm2]; simp [List.getElem?_set_ne hne]
    rw [hm2] at e2
    have g2 := getD_encTs (l := m2) (i := i) (by omega)
    rw [a2] at g2
    have hx2 : ∃ k ty es, IBlk.arr 3 98 (encTs m2) = IBlk.arr k ty es := ⟨_, _, _, rfl⟩
    have em2 := len_encTs m2
    rw [l2] at em2
    have e3 : (encTs m2).set i (.agg [.num .i64 (K), .num .i64 (K + 1), .num .i64 (K + 2)]) = encTs (m2.set i (K, K + 1, K + 2)) := encTs_set m2 i (K, K + 1, K + 2)
    obtain ⟨m3, hm3⟩ : ∃ z, m2.set i (K, K + 1, K + 2) = z := ⟨_, rfl⟩
    have l3 : m3.length = l.length := by rw [← hm3]; simp; omega
    have a3 : tAt m3 i = (K, K + 1, K + 2) := by rw [← hm3]; simp [show i < m2.length by omega]
    have b3 : ∀ j, i ≠ j → tAt m3 j = tAt m2 j := fun j hne => by rw [← hm3]; simp [List.getElem?_set_ne hne]
    rw [hm3] at e3
    have ej : ∀ j, j < i + 1 → tAt m3 j = (k + 3 * j, k + 3 * j + 1, k + 3 * j + 2) := by
      intro j hj'
      by_cases c : i = j
      · subst c; rw [a3, ← hK]
      · rw [b3 j c, b2 j c, b1 j c]; exact hj j (by omega)
    simp only [V_seq, V_skip, V_block, V_region, W_nil, W_cons, effOp2, KN_seq, KN_block, KN_back, effOp, effPure, effStore, pureV, storeV, binV, faddrV, iaddrV, over, solid, IV.cells, ofC, strip, lkT, lkH, ISt.app, opI, gO, gB, allB, gval, wrapG, dstOK, setD, eltI, oneI, noId', Op.operands, reduceIte, reduceCtorEq, cond_true, Bool.and_true, Nat.reduceAdd, Nat.reduceLT, Nat.reduceLeDiff, Nat.reduceEqDiff, Nat.add_zero, Nat.zero_add, ne_eq, not_false_eq_true, true_and, and_true, false_and, and_false, and_self, implies_true, forall_const, List.nil_append, List.cons_append, List.append_nil, List.all_cons, List.all_nil, Option.some.injEq, List.getD_cons_zero, List.getD_cons_succ, List.length_cons, List.length_nil, List.take_succ_cons, List.take_zero, List.drop_succ_cons, List.drop_zero, List.drop_nil, tab3, tab43, tab98, hN, Int.toNat_natCast, hK, hx, hw, em, g0, w1, w2, w3, e1, g1, hx1, em1, e2, g2, hx2, em2, e3]
    repeat refine And.intro (by first | omega | (simp; done) | (simp; omega)) ?_
    exact ⟨(i + 1, m3), id, ⟨by simp only []; omega, by simp only []; omega, ej⟩, by simp only []; omega, by simp [SLe, SLe0, convTm, convHp, convB, conv, conv0, lkT, lkH, clean, List.take_length]⟩
  · have hie : i = l.length := by simp at h; omega
    subst hie
    have hm : m = marksT l.length k := eq_of_getD (d := (0, 0, 0)) (by rw [hl, marksT_len]) (fun j h' => (hj j (by omega)).trans (marksT_at _ _ _ (by omega)).symm)
    subst hm
    simp only [V_seq, V_ret, V_exit, V_region, W_nil, W_cons, effOp2, KN_seq, KXr_nil, KXe_nil, KXe_seq, KXe_block, KXe_back, QE, effOp, effPure, pureV, strip, lkT, lkH, ISt.app, opI, gO, gB, allB, gval, wrapG, dstOK, setD, clean, conv, conv0, Op.operands, reduceIte, reduceCtorEq, Nat.reduceLT, Nat.reduceEqDiff, true_and, and_true, and_self, implies_true, List.map_cons, List.map_nil, List.nil_append, List.cons_append, hN, FinH, resA, resV, SLe, SLe0, convTm, convHp, convB]
    exact ⟨id, by simp⟩
def hs_laws_markHalfPlaneS : HSpec := ⟨[false, false], fun xs hp => match xs, hp with | [.ref 1000 0 n full, .num .i64 k], [(1000, .arr 3 ty es)] => (isTs es) ∧ (ty = 98) ∧ (n = es.length) ∧ ((fun (l : List Tr) (k : Int) (full : Bool) => l.length ≤ 2000000) (toTs es) k full) ∧ ((fun (l : List Tr) (k : Int) (full : Bool) => 0 ≤ k) (toTs es) k full) ∧ ((fun (l : List Tr) (k : Int) (full : Bool) => k ≤ 2000000) (toTs es) k full) | _, _ => False, fun xs hp => match xs, hp with | [.ref 1000 0 n full, .num .i64 k], [(1000, .arr 3 ty es)] => (fun (l : List Tr) (k : Int) (full : Bool) => (.num .i64 (k + 3 * (l.length : Int)) : IV)) (toTs es) k full | _, _ => .junk, fun xs hp => match xs, hp with | [.ref 1000 0 n full, .num .i64 k], [(1000, .arr 3 ty es)] => (fun (l : List Tr) (k : Int) (full : Bool) => ([(1000, .arr 3 98 (encTs (marksT l.length k)))] : List (Nat × IBlk))) (toTs es) k full | _, _ => []⟩
theorem hk_laws_markHalfPlaneS : ∀ args hp, hs_laws_markHalfPlaneS.pre args hp → HCall Try.prog 32 args (sm hp) (hs_laws_markHalfPlaneS.val args hp) (sm (hs_laws_markHalfPlaneS.hval args hp)) := by
  intro args hp h
  unfold hs_laws_markHalfPlaneS at h ⊢; simp only at h ⊢; split at h
  · obtain ⟨h1, rfl, rfl, h2, h3, h4⟩ := h; obtain ⟨l, rfl⟩ := isT_ex h1; rw [toTs_enc] at *; rw [len_encTs]; exact c_laws_markHalfPlaneS l _ _ h2 h3 h4
  · exact h.elim
theorem en_laws_markHalfPlaneS : Enters Try.prog 32 := enters_of Try.func32 (by kernel_rfl) rfl





end Go.Proofs.Ytemppebemahkoaa
