/- Contracts: what the exact laws do with lists of half-planes, segments, points of fractions. -/
import Derived.Test.YtlgjhojihgmfhaaBY
import Derived.Test.YtlgjhojihgmfhaaBU
set_option linter.unusedVariables false
set_option linter.unusedSimpArgs false
set_option maxRecDepth 100000
namespace Go.Proofs.Ytlgjhojihgmfhaa
open Go Go.Ideal Go.Pl

theorem encQs_setZ (l : List Qd) (m : Nat) (p : Qd) : (encQs l).set m (.agg [.num .i64 p.1.1, .num .i64 p.1.2, .num .i64 p.2.1, .num .i64 p.2.2]) = encQs (l.set m p) := by
  show (l.map encQ).set m (encQ p) = (l.set m p).map encQ
  rw [List.map_set]
def g_laws_toHalfPlane : List (Nat × PSpec) := []
theorem gok_laws_toHalfPlane : GOK Try.prog g_laws_toHalfPlane := gok0
def h_laws_toHalfPlane : List (Nat × HSpec) := []
theorem hok_laws_toHalfPlane : HOK Try.prog h_laws_toHalfPlane := hok0
theorem c_laws_toHalfPlane (p : Tr)  : ICall Try.prog 99 [encT p] (encT p) := by
  refine icall_of_hcall (v := encT p) (hp' := []) id ?_ (by simp [SLe0, convTm, convHp, conv, convL, conv0, lkT, clean, encT]) (by simp [idsV, idsL, encT])
  refine hcall_V (G := g_laws_toHalfPlane) (H := []) [] tabOK mixed gok_laws_toHalfPlane hok_laws_toHalfPlane Try.func99 rfl Try.ntmps99 Try.results99 rfl (by kernel_rfl) fun F hN hlen => ?_
  simp only [V_seq, V_ret, V_region, W_nil, W_cons, effOp2, KN_seq, KXr_nil, QE, effOp, effPure, effNew, effAlloc, effBox, effStore, skipE, pureV, storeV, partV, loadV, faddrV, over, solid, IV.cells, strip, lkT, lkH, ISt.app, opI, gO, gB, allB, gval, wrapG, dstOK, setD, mentTm, mentHp, IV.ment, IV.mentL, oneI, clean, enumT, conv, conv0, convL, IBlk.shape, Op.operands, reduceIte, reduceCtorEq, cond_true, Bool.or_false, Bool.and_true, Nat.reduceAdd, Nat.reduceLT, Nat.reduceLeDiff, Nat.reduceEqDiff, Nat.reduceBEq, Nat.add_zero, Nat.zero_add, true_and, and_false, and_self, implies_true, List.map_nil, List.nil_append, List.cons_append, List.append_nil, List.all_cons, List.all_nil, Option.map_some, List.getD_cons_zero, List.getD_cons_succ, List.length_cons, List.length_nil, List.take_succ_cons, List.take_zero, List.take_nil, List.drop_succ_cons, List.drop_zero, List.drop_nil, tab3, tab106, tab108, hN, encT, FinH, resA, resV, SLe, SLe0, convTm, convHp]
  exact ⟨id, List.nodup_nil, fun _ _ _ => rfl⟩
def sp_laws_toHalfPlane : PSpec := ⟨fun xs => match xs with | [.agg [.num .i64 p1, .num .i64 p2, .num .i64 p3]] => True | _ => False, fun xs => match xs with | [.agg [.num _ p1, .num _ p2, .num _ p3]] => (fun (p : Tr) => encT p) (p1, p2, p3) | _ => .junk, false⟩
theorem gk_laws_toHalfPlane : ∀ args, sp_laws_toHalfPlane.pre args → ICall Try.prog 99 args (sp_laws_toHalfPlane.val args) := by
  intro args h
  unfold sp_laws_toHalfPlane at h ⊢; simp only at h ⊢; split at h
  · exact c_laws_toHalfPlane (_, _, _)
  · exact h.elim
theorem en_laws_toHalfPlane : Enters Try.prog 99 := enters_of Try.func99 (by kernel_rfl) rfl

def szHalfPlaneV (l : List Tr) (left : Int) : Int := if left < (l.length : Int) then -1 else left - (l.length : Int)
def g_laws_szHalfPlaneS : List (Nat × PSpec) := []
theorem gok_laws_szHalfPlaneS : GOK Try.prog g_laws_szHalfPlaneS := gok0
def h_laws_szHalfPlaneS : List (Nat × HSpec) := []
theorem hok_laws_szHalfPlaneS : HOK Try.prog h_laws_szHalfPlaneS := hok0
theorem c_laws_szHalfPlaneS (l : List Tr) (left : Int) (h0 : 0 ≤ left) (h1 : left ≤ 1048576) : ICall Try.prog 31 [.sl 3 (encTs l), .num .i64 left] (.num .i64 (szHalfPlaneV l left)) := by
  refine icall_V (G := g_laws_szHalfPlaneS) (H := []) [] tabOK mixed gok_laws_szHalfPlaneS hok_laws_szHalfPlaneS Try.func31 rfl Try.ntmps31 Try.results31 rfl (by kernel_rfl) fun F hN hlen => ?_
  have hl := hlen 0 3 _ rfl
  have el := len_encTs l
  rw [el, maxLen_eq] at hl
  have w1 : IntKind.i64.wrap (left - (l.length : Int)) = left - (l.length : Int) := wr (by omega) (by omega)
  by_cases c : left < (l.length : Int)
  · have d1 : decide (left - (l.length : Int) < 0) = true := by simp only [decide_eq_true_eq]; omega
    have hv : szHalfPlaneV l left = -1 := if_pos c
    simp only [V_seq, V_ret, V_region, V_cond, brW_true, W_nil, W_cons, effOp2, KN_seq, KXr_nil, KXr_seq, QE, asB, effOp, effPure, pureV, binV, lenV, ofC, strip, lkT, lkH, ISt.app, opI, gO, gB, allB, gval, wrapG, dstOK, setD, clean, enumT, Gives, Ideal.Fin, conv, conv0, Op.operands, Call.operands, List.append_toArray, reduceIte, reduceCtorEq, Nat.reduceLT, Nat.reduceEqDiff, Nat.zero_add, ne_eq, not_false_eq_true, and_self, implies_true, List.nil_append, List.cons_append, List.append_nil, tab44, hN, el, w1, d1, hv]
  · have d1 : decide (left - (l.length : Int) < 0) = false := by simp only [decide_eq_false_iff_not]; omega
    have hv : szHalfPlaneV l left = left - (l.length : Int) := if_neg c
    simp only [V_seq, V_skip, V_ret, V_region, V_cond, brW_false, W_nil, W_cons, effOp2, KN_seq, KXr_nil, QE, asB, effOp, effPure, pureV, binV, lenV, ofC, strip, lkT, lkH, ISt.app, opI, gO, gB, allB, gval, wrapG, dstOK, setD, clean, enumT, Gives, Ideal.Fin, conv, conv0, Op.operands, Call.operands, List.append_toArray, reduceIte, reduceCtorEq, Nat.reduceLT, Nat.reduceEqDiff, Nat.zero_add, ne_eq, not_false_eq_true, and_self, implies_true, List.nil_append, List.cons_append, List.append_nil, tab44, hN, el, w1, d1, hv]
def sp_laws_szHalfPlaneS : PSpec := ⟨fun xs => match xs with | [.sl 3 les, .num .i64 left] => isTs les ∧ ((fun (l : List Tr) (left : Int) => 0 ≤ left) (toTs les) left) ∧ ((fun (l : List Tr) (left : Int) => left ≤ 1048576) (toTs les) left) | _ => False, fun xs => match xs with | [.sl _ les, .num _ left] => (fun (l : List Tr) (left : Int) => .num .i64 (szHalfPlaneV l left)) (toTs les) left | _ => .junk, false⟩
theorem gk_laws_szHalfPlaneS : ∀ args, sp_laws_szHalfPlaneS.pre args → ICall Try.prog 31 args (sp_laws_szHalfPlaneS.val args) := by
  intro args h
  unfold sp_laws_szHalfPlaneS at h ⊢; simp only at h ⊢; split at h
  · obtain ⟨h0, h1, h2⟩ := h
    obtain ⟨l0, rfl⟩ := isT_ex h0
    simp only [toTs_enc] at *
    exact c_laws_szHalfPlaneS _ _ h1 h2
  · exact h.elim
theorem en_laws_szHalfPlaneS : Enters Try.prog 31 := enters_of Try.func31 (by kernel_rfl) rfl

def g_laws_toHalfPlaneS : List (Nat × PSpec) := [(99, sp_laws_toHalfPlane)]
theorem gok_laws_toHalfPlaneS : GOK Try.prog g_laws_toHalfPlaneS := gok_cons gk_laws_toHalfPlane en_laws_toHalfPlane (gok0)
theorem lk_laws_toHalfPlaneS_laws_toHalfPlane : lkG g_laws_toHalfPlaneS 99 = sp_laws_toHalfPlane := rfl
def h_laws_toHalfPlaneS : List (Nat × HSpec) := []
theorem hok_laws_toHalfPlaneS : HOK Try.prog h_laws_toHalfPlaneS := hok0
theorem c_laws_toHalfPlaneS (l : List Tr) (hsz : l.length ≤ 1048576) : HCall Try.prog 33 [.sl 3 (encTs l)] (sm ([])) (.ref 0 0 l.length true) (sm ([(0, .arr 3 106 (encTs l))])) := by
  refine hcall_V (G := g_laws_toHalfPlaneS) (H := []) [] tabOK mixed gok_laws_toHalfPlaneS hok_laws_toHalfPlaneS Try.func33 rfl Try.ntmps33 Try.results33 rfl (by kernel_rfl) fun F hN hlen => ?_
  simp only [sm]
  have el := len_encTs l
  simp only [V_seq, V_block, V_region, W_nil, W_cons, effOp2, KN_seq, effOp, effPure, effNew, effMake, skipE, pureV, lenV, ofC, strip, lkT, ISt.app, opI, gO, gB, allB, gval, wrapG, dstOK, setD, mentTm, mentHp, IV.ment, zeroElt, noId', enumT, Op.operands, Call.operands, List.append_toArray, reduceIte, reduceCtorEq, cond_true, Bool.or_false, Bool.and_true, Nat.reduceLT, Nat.reduceLeDiff, Nat.reduceEqDiff, ne_eq, not_false_eq_true, true_and, and_true, and_self, implies_true, List.nil_append, List.cons_append, List.append_nil, List.all_cons, List.all_nil, tab44, tab47, tab106, hN, Int.toNat_natCast, el]
  refine ⟨by omega, ?_⟩
  refine V_loop (α := Nat) ⟨tabOK, mixed, gok_laws_toHalfPlaneS, hok_laws_toHalfPlaneS⟩ (by kernel_rfl) (fun i => i ≤ l.length) (fun i => ⟨[(4, .num .i64 i), (3, .ref 7 0 l.length true), (0, .sl 3 (encTs l))], [(7, some (.arr 3 106 (encTs (l.take i ++ List.replicate (l.length - i) (0, 0, 0)))))]⟩) (fun i => l.length - i) 0 id (Nat.zero_le _) (by simp [SLe, SLe0, convTm, convHp, convB, conv, conv0, lkT, lkH, clean, encTs, encT]) ?_
  intro i hi
  have hx : ∃ k ty es, IBlk.arr 3 106 (encTs (l.take i ++ List.replicate (l.length - i) (0, 0, 0))) = IBlk.arr k ty es := ⟨_, _, _, rfl⟩
  have ex : (encTs (l.take i ++ List.replicate (l.length - i) (0, 0, 0))).length = l.length := by rw [len_encTs, List.length_append, List.length_take, List.length_replicate]; omega
  simp only [V_seq, V_region, V_cond, W_nil, W_cons, effOp2, KN_seq, asB, effOp, effPure, pureV, binV, lenV, strip, lkT, ISt.app, opI, gO, gB, allB, gval, wrapG, dstOK, setD, Op.operands, Call.operands, List.append_toArray, reduceIte, reduceCtorEq, Nat.reduceLT, Nat.reduceEqDiff, ne_eq, not_false_eq_true, true_and, and_self, implies_true, List.nil_append, List.cons_append, tab44, hN, el]
  refine brW_some (fun h => ?_) (fun h => ?_)
  · have hi' : i < l.length := by simpa using h
    have g0 := getD_encTs hi'
    have hw := wr_succ hi' (by rw [maxLen_eq]; omega)
    have hset : (l.take i ++ List.replicate (l.length - i) (0, 0, 0)).set i (tAt l i) = l.take (i + 1) ++ List.replicate (l.length - (i + 1)) (0, 0, 0) := by
      rw [List.set_append_right _ _ (by rw [List.length_take]; omega), List.length_take, Nat.min_eq_left (Nat.le_of_lt hi'), Nat.sub_self, show l.length - i = (l.length - (i + 1)) + 1 by omega, List.replicate_succ, List.set_cons_zero, take_succ_g (d := (0, 0, 0)) hi', List.append_assoc]
      rfl
    have hes := encTs_set (l.take i ++ List.replicate (l.length - i) (0, 0, 0)) i (tAt l i)
    rw [hset] at hes
    simp only [V_seq, V_skip, V_block, V_region, W_nil, W_cons, effOp2, KN_seq, KN_block, KN_back, effOp, effPure, effStore, effCall, giveUp, hasAll, pureV, storeV, binV, partV, eltV, loadV, iaddrV, over, solid, IV.cells, ofC, strip, lkT, lkH, ISt.app, opI, gO, gB, allB, gval, wrapG, dstOK, setD, eltI, oneI, noId', lendV, lendP, lent, lentP, idsV, idsL, lkHS, flat, flatL, clean, cleanL, callArgs, callFn, allLent, Op.operands, reduceIte, reduceCtorEq, cond_true, Bool.or_false, Bool.and_true, Bool.true_and, Bool.not_true, Nat.reduceAdd, Nat.reduceLT, Nat.reduceLeDiff, Nat.reduceEqDiff, Nat.zero_add, ne_eq, not_false_eq_true, true_and, and_true, and_false, and_self, implies_true, forall_const, List.map_cons, List.map_nil, List.nil_append, List.cons_append, List.append_nil, List.all_cons, List.all_nil, List.getD_cons_zero, List.length_cons, List.length_nil, List.take_succ_cons, List.take_zero, List.take_nil, List.drop_zero, ex_clo, or_self, tab44, tab47, tab106, tab108, hN, Int.toNat_natCast, encT, lk_laws_toHalfPlaneS_laws_toHalfPlane, sp_laws_toHalfPlane, el, g0, hw, ex, hes]
    repeat refine And.intro (by first | omega | (simp; done) | (simp; omega)) ?_
    exact ⟨i + 1, id, by simp only []; omega, by simp only []; omega, by simp [SLe, SLe0, convTm, convHp, convB, conv, conv0, lkT, lkH, clean]⟩
  · have hie : i = l.length := by simp at h; omega
    subst hie
    have hf : l.take l.length ++ List.replicate (l.length - l.length) (0, 0, 0) = l := by simp
    rw [hf] at hx ex ⊢
    simp only [V_seq, V_ret, V_exit, V_region, W_nil, W_cons, effOp2, KN_seq, KXr_nil, KXe_nil, KXe_seq, KXe_block, KXe_back, QE, effOp, effPure, Option.isSome_some, pureV, strip, lkT, lkH, ISt.app, opI, gO, gB, allB, gval, wrapG, dstOK, setD, conv, conv0, Op.operands, reduceIte, reduceCtorEq, Nat.reduceLT, Nat.reduceEqDiff, true_and, and_true, and_self, implies_true, List.map_cons, List.map_nil, List.nil_append, List.cons_append, hN, FinH, resA, resV, SLe, SLe0, convTm, convHp, convB]
    exact ⟨fun x => if x = 0 then 7 else x, by simp; omega⟩
def hs_laws_toHalfPlaneS : HSpec := ⟨[true], fun xs hp => match xs, hp with | [.sl 3 es], [] => (isTs es) ∧ ((fun (l : List Tr) => l.length ≤ 1048576) (toTs es)) | _, _ => False, fun xs hp => match xs, hp with | [.sl 3 es], [] => (fun (l : List Tr) => (.ref 0 0 l.length true : IV)) (toTs es) | _, _ => .junk, fun xs hp => match xs, hp with | [.sl 3 es], [] => (fun (l : List Tr) => ([(0, .arr 3 106 (encTs l))] : List (Nat × IBlk))) (toTs es) | _, _ => []⟩
theorem hk_laws_toHalfPlaneS : ∀ args hp, hs_laws_toHalfPlaneS.pre args hp → HCall Try.prog 33 args (sm hp) (hs_laws_toHalfPlaneS.val args hp) (sm (hs_laws_toHalfPlaneS.hval args hp)) := by
  intro args hp h
  unfold hs_laws_toHalfPlaneS at h ⊢; simp only at h ⊢; split at h
  · obtain ⟨h1, h2⟩ := h; obtain ⟨l, rfl⟩ := isT_ex h1; rw [toTs_enc] at *; exact c_laws_toHalfPlaneS l h2
  · exact h.elim
theorem en_laws_toHalfPlaneS : Enters Try.prog 33 := enters_of Try.func33 (by kernel_rfl) rfl

def g_laws_eqHalfPlane : List (Nat × PSpec) := []
theorem gok_laws_eqHalfPlane : GOK Try.prog g_laws_eqHalfPlane := gok0
def h_laws_eqHalfPlane : List (Nat × HSpec) := []
theorem hok_laws_eqHalfPlane : HOK Try.prog h_laws_eqHalfPlane := hok0
theorem c_laws_eqHalfPlane (p : Tr) (q : Tr)  : ICall Try.prog 108 [encT p, encT q] (.bool (p == q)) := by
  refine icall_V (G := g_laws_eqHalfPlane) (H := []) [] tabOK mixed gok_laws_eqHalfPlane hok_laws_eqHalfPlane Try.func108 rfl Try.ntmps108 Try.results108 rfl (by kernel_rfl) fun F hN hlen => ?_
  obtain ⟨p1, p2, p3⟩ := p
  obtain ⟨q1, q2, q3⟩ := q
  by_cases c1 : p1 = q1
  · have d1 : (p1 != q1) = false := by simpa using c1
    by_cases c2 : p2 = q2
    · have d2 : (p2 != q2) = false := by simpa using c2
      by_cases c3 : p3 = q3
      · have d3 : (p3 != q3) = false := by simpa using c3
        simp only [V_seq, V_skip, V_ret, V_region, V_cond, brW_false, W_nil, W_cons, effOp2, KN_seq, KXr_nil, QE, asB, effOp, effPure, effNew, effBox, skipE, pureV, binV, partV, loadV, faddrV, solid, IV.cells, ofC, strip, lkT, lkH, ISt.app, opI, gO, gB, allB, gval, wrapG, dstOK, setD, mentTm, mentHp, IV.ment, IV.mentL, oneI, clean, enumT, Gives, Ideal.Fin, conv, conv0, IBlk.shape, Op.operands, reduceIte, reduceCtorEq, cond_true, Bool.or_false, Bool.and_true, Nat.reduceAdd, Nat.reduceLT, Nat.reduceLeDiff, Nat.reduceEqDiff, Nat.reduceBEq, Nat.add_zero, Nat.zero_add, true_and, and_true, and_self, implies_true, List.nil_append, List.cons_append, List.append_nil, List.all_cons, List.all_nil, Option.map_some, List.getD_cons_zero, List.getD_cons_succ, List.length_cons, List.length_nil, List.take_succ_cons, List.take_zero, List.take_nil, List.drop_succ_cons, List.drop_zero, tab3, tab106, hN, encT, d1, d2, d3]
        simp [c1, c2, c3]
      · have d3 : (p3 != q3) = true := by simpa using c3
        simp only [V_seq, V_skip, V_ret, V_region, V_cond, brW_true, brW_false, W_nil, W_cons, effOp2, KN_seq, KXr_nil, KXr_seq, QE, asB, effOp, effPure, effNew, effBox, skipE, pureV, binV, partV, loadV, faddrV, solid, IV.cells, ofC, strip, lkT, lkH, ISt.app, opI, gO, gB, allB, gval, wrapG, dstOK, setD, mentTm, mentHp, IV.ment, IV.mentL, oneI, clean, enumT, Gives, Ideal.Fin, conv, conv0, IBlk.shape, Op.operands, reduceIte, reduceCtorEq, cond_true, Bool.or_false, Bool.and_true, Nat.reduceAdd, Nat.reduceLT, Nat.reduceLeDiff, Nat.reduceEqDiff, Nat.reduceBEq, Nat.add_zero, Nat.zero_add, true_and, and_true, and_self, implies_true, List.nil_append, List.cons_append, List.append_nil, List.all_cons, List.all_nil, Option.map_some, List.getD_cons_zero, List.getD_cons_succ, List.length_cons, List.length_nil, List.take_succ_cons, List.take_zero, List.take_nil, List.drop_succ_cons, List.drop_zero, tab3, tab106, hN, encT, d1, d2, d3]
        simp [c3]
    · have d2 : (p2 != q2) = true := by simpa using c2
      simp only [V_seq, V_skip, V_ret, V_region, V_cond, brW_true, brW_false, W_nil, W_cons, effOp2, KN_seq, KXr_nil, KXr_seq, QE, asB, effOp, effPure, effNew, effBox, skipE, pureV, binV, partV, loadV, faddrV, solid, IV.cells, ofC, strip, lkT, lkH, ISt.app, opI, gO, gB, allB, gval, wrapG, dstOK, setD, mentTm, mentHp, IV.ment, IV.mentL, oneI, clean, enumT, Gives, Ideal.Fin, conv, conv0, IBlk.shape, Op.operands, reduceIte, reduceCtorEq, cond_true, Bool.or_false, Bool.and_true, Nat.reduceAdd, Nat.reduceLT, Nat.reduceLeDiff, Nat.reduceEqDiff, Nat.reduceBEq, Nat.add_zero, Nat.zero_add, true_and, and_true, and_self, implies_true, List.nil_append, List.cons_append, List.append_nil, List.all_cons, List.all_nil, Option.map_some, List.getD_cons_zero, List.getD_cons_succ, List.length_cons, List.length_nil, List.take_succ_cons, List.take_zero, List.drop_succ_cons, List.drop_zero, tab3, tab106, hN, encT, d1, d2]
      simp [c2]
  · have d1 : (p1 != q1) = true := by simpa using c1
    simp only [V_seq, V_ret, V_region, V_cond, brW_true, W_nil, W_cons, effOp2, KN_seq, KXr_nil, KXr_seq, QE, asB, effOp, effPure, effNew, effBox, skipE, pureV, binV, partV, loadV, faddrV, solid, IV.cells, ofC, strip, lkT, lkH, ISt.app, opI, gO, gB, allB, gval, wrapG, dstOK, setD, mentTm, mentHp, IV.ment, IV.mentL, oneI, clean, enumT, Gives, Ideal.Fin, conv, conv0, IBlk.shape, Op.operands, reduceIte, reduceCtorEq, cond_true, Bool.or_false, Bool.and_true, Nat.reduceAdd, Nat.reduceLT, Nat.reduceLeDiff, Nat.reduceEqDiff, Nat.reduceBEq, Nat.add_zero, Nat.zero_add, true_and, and_true, and_self, implies_true, List.nil_append, List.cons_append, List.append_nil, List.all_cons, List.all_nil, Option.map_some, List.getD_cons_zero, List.length_cons, List.length_nil, List.take_succ_cons, List.take_zero, List.drop_zero, tab3, tab106, hN, encT, d1]
    simp [c1]
def sp_laws_eqHalfPlane : PSpec := ⟨fun xs => match xs with | [.agg [.num .i64 p1, .num .i64 p2, .num .i64 p3], .agg [.num .i64 q1, .num .i64 q2, .num .i64 q3]] => True | _ => False, fun xs => match xs with | [.agg [.num _ p1, .num _ p2, .num _ p3], .agg [.num _ q1, .num _ q2, .num _ q3]] => (fun (p : Tr) (q : Tr) => .bool (p == q)) (p1, p2, p3) (q1, q2, q3) | _ => .junk, false⟩
theorem gk_laws_eqHalfPlane : ∀ args, sp_laws_eqHalfPlane.pre args → ICall Try.prog 108 args (sp_laws_eqHalfPlane.val args) := by
  intro args h
  unfold sp_laws_eqHalfPlane at h ⊢; simp only at h ⊢; split at h
  · exact c_laws_eqHalfPlane (_, _, _) (_, _, _)
  · exact h.elim
theorem en_laws_eqHalfPlane : Enters Try.prog 108 := enters_of Try.func108 (by kernel_rfl) rfl

def g_laws_eqHalfPlaneS : List (Nat × PSpec) := [(108, sp_laws_eqHalfPlane)]
theorem gok_laws_eqHalfPlaneS : GOK Try.prog g_laws_eqHalfPlaneS := gok_cons gk_laws_eqHalfPlane en_laws_eqHalfPlane (gok0)
theorem lk_laws_eqHalfPlaneS_laws_eqHalfPlane : lkG g_laws_eqHalfPlaneS 108 = sp_laws_eqHalfPlane := rfl
def h_laws_eqHalfPlaneS : List (Nat × HSpec) := []
theorem hok_laws_eqHalfPlaneS : HOK Try.prog h_laws_eqHalfPlaneS := hok0
theorem c_laws_eqHalfPlaneS (a : List Tr) (b : List Tr)  : ICall Try.prog 35 [.sl 3 (encTs a), .sl 3 (encTs b)] (.bool (a == b)) := by
  refine icall_V (G := g_laws_eqHalfPlaneS) (H := []) [(6, [(0, 8), (1, 8), (2, 8), (4, 8), (5, 8), (6, 8)])] tabOK mixed gok_laws_eqHalfPlaneS hok_laws_eqHalfPlaneS Try.func35 rfl Try.ntmps35 Try.results35 rfl (by kernel_rfl) fun F hN hlen => ?_
  have la := hlen 0 3 _ rfl
  have lb := hlen 1 3 _ rfl
  have ea := len_encTs a
  have eb := len_encTs b
  rw [ea] at la
  rw [eb] at lb
  simp only [V_seq, V_region, V_cond, W_nil, W_cons, effOp2, KN_seq, asB, effOp, effPure, pureV, binV, lenV, ofC, strip, lkT, ISt.app, opI, gO, gB, allB, gval, wrapG, dstOK, setD, enumT, Op.operands, Call.operands, List.append_toArray, reduceIte, reduceCtorEq, Nat.reduceLT, Nat.reduceEqDiff, Nat.zero_add, ne_eq, not_false_eq_true, true_and, and_self, implies_true, List.nil_append, List.cons_append, List.append_nil, tab47, hN, ea, eb]
  refine brW_some (fun h => ?_) (fun h => ?_)
  · simp only [V_seq, V_ret, V_region, W_nil, W_cons, effOp2, KN_seq, KXr_nil, KXr_seq, QE, effOp, effPure, pureV, ofC, strip, lkT, lkH, ISt.app, opI, gO, gB, allB, gval, wrapG, dstOK, setD, clean, Gives, Ideal.Fin, conv, conv0, Op.operands, reduceIte, reduceCtorEq, Nat.reduceLT, Nat.reduceEqDiff, true_and, and_true, and_self, implies_true, List.nil_append, List.cons_append, List.append_nil, hN]
    have : a ≠ b := by rintro rfl; simp at h
    simp [this]
  · simp only [V_seq, V_skip, V_block, V_region, W_nil, W_cons, effOp2, KN_seq, effOp, effPure, pureV, ofC, strip, ISt.app, opI, gO, gB, allB, gval, wrapG, dstOK, setD, Op.operands, Nat.reduceLT, true_and, and_self, implies_true, List.nil_append, List.cons_append, List.append_nil, hN]
    have hab : a.length = b.length := by simp at h; omega
    refine V_loop (α := Nat) ⟨tabOK, mixed, gok_laws_eqHalfPlaneS, hok_laws_eqHalfPlaneS⟩ (by kernel_rfl) (fun i => i ≤ a.length ∧ ∀ j, j < i → tAt a j = tAt b j) (fun i => ⟨[(5, .num .i64 i), (0, .sl 3 (encTs a)), (1, .sl 3 (encTs b))], []⟩) (fun i => a.length - i) 0 id (by simp) (by simp [SLe, SLe0, convTm, convHp, conv, conv0, lkT, lkH, clean]) ?_
    rintro i ⟨hi, hj⟩
    simp only [V_seq, V_region, V_cond, W_nil, W_cons, effOp2, KN_seq, asB, effOp, effPure, pureV, binV, lenV, strip, lkT, ISt.app, opI, gO, gB, allB, gval, wrapG, dstOK, setD, Op.operands, Call.operands, List.append_toArray, reduceIte, reduceCtorEq, Nat.reduceLT, Nat.reduceEqDiff, ne_eq, not_false_eq_true, true_and, and_self, implies_true, List.nil_append, List.cons_append, List.append_nil, tab47, hN, ea]
    refine brW_some (fun h => ?_) (fun h => ?_)
    · have hi' : i < a.length := by simpa using h
      have g1 := getD_encTs hi'
      have g2 := getD_encTs (hab ▸ hi' : i < b.length)
      have hw := wr_succ hi' la
      simp only [V_seq, V_skip, V_block, V_draw, V_cond, drawW, WS_nil, pairsOf, W_nil, W_cons, effOp2, WI_nil, WI_cons, KN_seq, dynOK, indB, farB, freshB, heapy, asB, effOp, effPure, effCall, giveUp, hasAll, pureV, partV, eltV, loadV, iaddrV, strip, lkT, lkH, ISt.app, opI, gO, gB, allB, gval, wrapG, dstOK, setD, mentTm, mentHp, IV.ment, lendV, lendP, lent, lentP, idsV, idsL, lkHS, flat, clean, callArgs, callFn, allLent, Op.operands, Call.operands, List.append_toArray, reduceIte, reduceCtorEq, cond_true, cond_false, Bool.or_false, Bool.and_true, Bool.and_eq_true, Bool.not_true, Bool.not_false, Nat.reduceAdd, Nat.reduceLT, Nat.reduceLeDiff, Nat.reduceEqDiff, Nat.reduceBEq, Nat.zero_add, ne_eq, not_false_eq_true, true_and, and_true, and_false, and_self, implies_true, forall_const, List.map_cons, List.map_nil, List.nil_append, List.cons_append, List.append_nil, List.getD_cons_zero, List.getD_cons_succ, List.length_cons, List.length_nil, List.take_succ_cons, List.take_zero, List.take_nil, List.drop_zero, ex_clo, or_self, tab47, tab106, hN, pe, Int.toNat_natCast, lk_laws_eqHalfPlaneS_laws_eqHalfPlane, sp_laws_eqHalfPlane, ea, eb, Int.toNat_natCast, g1, g2]
      repeat refine And.intro (by omega) ?_
      refine brW_some (fun h => ?_) (fun h => ?_)
      · simp only [V_seq, V_ret, V_region, W_nil, W_cons, effOp2, KN_seq, KXr_nil, KXr_seq, KXr_block, KXr_back, QE, effOp, effPure, pureV, ofC, strip, lkT, lkH, ISt.app, opI, gO, gB, allB, gval, wrapG, dstOK, setD, clean, Gives, Ideal.Fin, conv, conv0, Op.operands, reduceIte, reduceCtorEq, Nat.reduceLT, Nat.reduceEqDiff, true_and, and_true, and_self, implies_true, List.nil_append, List.cons_append, List.append_nil, hN]
        have : a ≠ b := by rintro rfl; simp at h
        simp [this]
      · simp only [V_skip, V_region, W_nil, W_cons, effOp2, KN_seq, KN_block, KN_back, effOp, effPure, pureV, binV, ofC, strip, lkT, ISt.app, opI, gO, gB, allB, gval, wrapG, dstOK, setD, Op.operands, reduceIte, reduceCtorEq, Nat.reduceLT, Nat.reduceEqDiff, true_and, and_self, implies_true, List.nil_append, List.cons_append, List.append_nil, hN, hw]
        refine ⟨i + 1, id, ⟨by omega, ?_⟩, by simp only []; omega, by simp [SLe, SLe0, convTm, convHp, conv, conv0, lkT, lkH, clean]⟩
        intro j hj'
        rcases Nat.lt_succ_iff_lt_or_eq.1 hj' with h' | rfl
        · exact hj j h'
        · simpa using h
    · simp only [V_seq, V_ret, V_exit, V_region, W_nil, W_cons, effOp2, KN_seq, KXr_nil, KXe_nil, KXe_seq, KXe_block, KXe_back, QE, effOp, effPure, pureV, ofC, strip, lkT, lkH, ISt.app, opI, gO, gB, allB, gval, wrapG, dstOK, setD, clean, Gives, Ideal.Fin, conv, conv0, Op.operands, reduceIte, reduceCtorEq, Nat.reduceLT, Nat.reduceEqDiff, true_and, and_true, and_self, implies_true, List.nil_append, List.cons_append, List.append_nil, hN]
      have hie : i = a.length := by simp at h; omega
      have : a = b := eq_of_getD hab (fun j h' => hj j (by omega))
      simp [this]
def sp_laws_eqHalfPlaneS : PSpec := ⟨fun xs => match xs with | [.sl 3 aes, .sl 3 bes] => isTs aes ∧ isTs bes | _ => False, fun xs => match xs with | [.sl _ aes, .sl _ bes] => (fun (a : List Tr) (b : List Tr) => .bool (a == b)) (toTs aes) (toTs bes) | _ => .junk, false⟩
theorem gk_laws_eqHalfPlaneS : ∀ args, sp_laws_eqHalfPlaneS.pre args → ICall Try.prog 35 args (sp_laws_eqHalfPlaneS.val args) := by
  intro args h
  unfold sp_laws_eqHalfPlaneS at h ⊢; simp only at h ⊢; split at h
  · obtain ⟨h0, h1⟩ := h
    obtain ⟨l0, rfl⟩ := isT_ex h0
    obtain ⟨l1, rfl⟩ := isT_ex h1
    simp only [toTs_enc] at *
    exact c_laws_eqHalfPlaneS _ _ 
  · exact h.elim
theorem en_laws_eqHalfPlaneS : Enters Try.prog 35 := enters_of Try.func35 (by kernel_rfl) rfl

def g_laws_eqRat : List (Nat × PSpec) := []
theorem gok_laws_eqRat : GOK Try.prog g_laws_eqRat := gok0
def h_laws_eqRat : List (Nat × HSpec) := []
theorem hok_laws_eqRat : HOK Try.prog h_laws_eqRat := hok0
theorem c_laws_eqRat (p : Pt) (q : Pt)  : ICall Try.prog 114 [encP p, encP q] (.bool (p == q)) := by
  refine icall_V (G := g_laws_eqRat) (H := []) [] tabOK mixed gok_laws_eqRat hok_laws_eqRat Try.func114 rfl Try.ntmps114 Try.results114 rfl (by kernel_rfl) fun F hN hlen => ?_
  obtain ⟨p1, p2⟩ := p
  obtain ⟨q1, q2⟩ := q
  by_cases c1 : p1 = q1
  · by_cases c2 : p2 = q2
    · have d1 : (p1 != q1) = false := by simpa using c1
      have d2 : (p2 != q2) = false := by simpa using c2
      simp only [V_seq, V_skip, V_ret, V_region, V_cond, brW_false, W_nil, W_cons, effOp2, KN_seq, KXr_nil, QE, asB, effOp, effPure, effNew, effBox, skipE, pureV, binV, partV, loadV, faddrV, solid, IV.cells, ofC, strip, lkT, lkH, ISt.app, opI, gO, gB, allB, gval, wrapG, dstOK, setD, mentTm, mentHp, IV.ment, IV.mentL, oneI, clean, enumT, Gives, Ideal.Fin, conv, conv0, IBlk.shape, Op.operands, reduceIte, reduceCtorEq, cond_true, Bool.or_false, Bool.and_true, Nat.reduceAdd, Nat.reduceLT, Nat.reduceLeDiff, Nat.reduceEqDiff, Nat.reduceBEq, Nat.add_zero, Nat.zero_add, true_and, and_true, and_self, implies_true, List.nil_append, List.cons_append, List.append_nil, List.all_cons, List.all_nil, Option.map_some, List.getD_cons_zero, List.getD_cons_succ, List.length_cons, List.length_nil, List.take_succ_cons, List.take_zero, List.take_nil, List.drop_succ_cons, List.drop_zero, tab3, tab53, hN, encP, d1, d2]
      simp [c1, c2]
    · have d1 : (p1 != q1) = false := by simpa using c1
      have d2 : (p2 != q2) = true := by simpa using c2
      simp only [V_seq, V_skip, V_ret, V_region, V_cond, brW_true, brW_false, W_nil, W_cons, effOp2, KN_seq, KXr_nil, KXr_seq, QE, asB, effOp, effPure, effNew, effBox, skipE, pureV, binV, partV, loadV, faddrV, solid, IV.cells, ofC, strip, lkT, lkH, ISt.app, opI, gO, gB, allB, gval, wrapG, dstOK, setD, mentTm, mentHp, IV.ment, IV.mentL, oneI, clean, enumT, Gives, Ideal.Fin, conv, conv0, IBlk.shape, Op.operands, reduceIte, reduceCtorEq, cond_true, Bool.or_false, Bool.and_true, Nat.reduceAdd, Nat.reduceLT, Nat.reduceLeDiff, Nat.reduceEqDiff, Nat.reduceBEq, Nat.add_zero, Nat.zero_add, true_and, and_true, and_self, implies_true, List.nil_append, List.cons_append, List.append_nil, List.all_cons, List.all_nil, Option.map_some, List.getD_cons_zero, List.getD_cons_succ, List.length_cons, List.length_nil, List.take_succ_cons, List.take_zero, List.take_nil, List.drop_succ_cons, List.drop_zero, tab3, tab53, hN, encP, d1, d2]
      simp [c2]
  · have d1 : (p1 != q1) = true := by simpa using c1
    simp only [V_seq, V_ret, V_region, V_cond, brW_true, W_nil, W_cons, effOp2, KN_seq, KXr_nil, KXr_seq, QE, asB, effOp, effPure, effNew, effBox, skipE, pureV, binV, partV, loadV, faddrV, solid, IV.cells, ofC, strip, lkT, lkH, ISt.app, opI, gO, gB, allB, gval, wrapG, dstOK, setD, mentTm, mentHp, IV.ment, IV.mentL, oneI, clean, enumT, Gives, Ideal.Fin, conv, conv0, IBlk.shape, Op.operands, reduceIte, reduceCtorEq, cond_true, Bool.or_false, Bool.and_true, Nat.reduceAdd, Nat.reduceLT, Nat.reduceLeDiff, Nat.reduceEqDiff, Nat.reduceBEq, Nat.add_zero, Nat.zero_add, true_and, and_true, and_self, implies_true, List.nil_append, List.cons_append, List.append_nil, List.all_cons, List.all_nil, Option.map_some, List.getD_cons_zero, List.length_cons, List.length_nil, List.take_succ_cons, List.take_zero, List.drop_zero, tab3, tab53, hN, encP, d1]
    simp [c1]
def sp_laws_eqRat : PSpec := ⟨fun xs => match xs with | [.agg [.num .i64 p1, .num .i64 p2], .agg [.num .i64 q1, .num .i64 q2]] => True | _ => False, fun xs => match xs with | [.agg [.num _ p1, .num _ p2], .agg [.num _ q1, .num _ q2]] => (fun (p : Pt) (q : Pt) => .bool (p == q)) (p1, p2) (q1, q2) | _ => .junk, false⟩
theorem gk_laws_eqRat : ∀ args, sp_laws_eqRat.pre args → ICall Try.prog 114 args (sp_laws_eqRat.val args) := by
  intro args h
  unfold sp_laws_eqRat at h ⊢; simp only at h ⊢; split at h
  · exact c_laws_eqRat (_, _) (_, _)
  · exact h.elim
theorem en_laws_eqRat : Enters Try.prog 114 := enters_of Try.func114 (by kernel_rfl) rfl

def g_laws_eqRatPoint : List (Nat × PSpec) := [(114, sp_laws_eqRat)]
theorem gok_laws_eqRatPoint : GOK Try.prog g_laws_eqRatPoint := gok_cons gk_laws_eqRat en_laws_eqRat (gok0)
theorem lk_laws_eqRatPoint_laws_eqRat : lkG g_laws_eqRatPoint 114 = sp_laws_eqRat := rfl
def h_laws_eqRatPoint : List (Nat × HSpec) := []
theorem hok_laws_eqRatPoint : HOK Try.prog h_laws_eqRatPoint := hok0
theorem c_laws_eqRatPoint (p : Qd) (q : Qd)  : ICall Try.prog 41 [encQ p, encQ q] (.bool (p == q)) := by
  refine icall_V (G := g_laws_eqRatPoint) (H := []) [] tabOK mixed gok_laws_eqRatPoint hok_laws_eqRatPoint Try.func41 rfl Try.ntmps41 Try.results41 rfl (by kernel_rfl) fun F hN hlen => ?_
  obtain ⟨p1, p2⟩ := p
  obtain ⟨q1, q2⟩ := q
  cases c1 : (p1 == q1) with
  | false =>
    have hv : ((p1, p2) == (q1, q2)) = false := by show ((p1 == q1) && (p2 == q2)) = false; rw [c1]; rfl
    simp only [V_seq, V_ret, V_region, V_cond, brW_true, W_nil, W_cons, effOp2, KN_seq, KXr_nil, KXr_seq, QE, asB, effOp, effPure, effNew, effBox, effCall, giveUp, hasAll, skipE, pureV, partV, loadV, faddrV, solid, IV.cells, ofC, strip, lkT, lkH, ISt.app, opI, gO, gB, allB, gval, wrapG, dstOK, setD, mentTm, mentHp, IV.ment, IV.mentL, oneI, lendV, lendP, lent, lentP, idsV, idsL, lkHS, flat, clean, callArgs, callFn, allLent, enumT, Gives, Ideal.Fin, conv, conv0, IBlk.shape, Op.operands, reduceIte, reduceCtorEq, cond_true, Bool.or_false, Bool.and_true, Bool.not_true, Bool.not_false, Nat.reduceAdd, Nat.reduceLT, Nat.reduceLeDiff, Nat.reduceEqDiff, Nat.reduceBEq, Nat.add_zero, Nat.zero_add, and_false, and_self, implies_true, List.map_cons, List.map_nil, List.nil_append, List.cons_append, List.append_nil, List.all_cons, List.all_nil, Option.map_some, List.getD_cons_zero, List.length_cons, List.length_nil, List.take_succ_cons, List.take_zero, List.drop_zero, ex_clo, or_self, tab53, tab55, hN, pe, encQ, lk_laws_eqRatPoint_laws_eqRat, sp_laws_eqRat, c1, hv]
  | true =>
    cases c2 : (p2 == q2) with
    | false =>
      have hv : ((p1, p2) == (q1, q2)) = false := by show ((p1 == q1) && (p2 == q2)) = false; rw [c1, c2]; rfl
      simp only [V_seq, V_skip, V_ret, V_region, V_cond, brW_true, brW_false, W_nil, W_cons, effOp2, KN_seq, KXr_nil, KXr_seq, QE, asB, effOp, effPure, effNew, effBox, effCall, giveUp, hasAll, skipE, pureV, partV, loadV, faddrV, solid, IV.cells, ofC, strip, lkT, lkH, ISt.app, opI, gO, gB, allB, gval, wrapG, dstOK, setD, mentTm, mentHp, IV.ment, IV.mentL, oneI, lendV, lendP, lent, lentP, idsV, idsL, lkHS, flat, clean, callArgs, callFn, allLent, enumT, Gives, Ideal.Fin, conv, conv0, IBlk.shape, Op.operands, reduceIte, reduceCtorEq, cond_true, Bool.or_false, Bool.and_true, Bool.not_true, Bool.not_false, Nat.reduceAdd, Nat.reduceLT, Nat.reduceLeDiff, Nat.reduceEqDiff, Nat.reduceBEq, Nat.add_zero, Nat.zero_add, and_false, and_self, implies_true, List.map_cons, List.map_nil, List.nil_append, List.cons_append, List.append_nil, List.all_cons, List.all_nil, Option.map_some, List.getD_cons_zero, List.getD_cons_succ, List.length_cons, List.length_nil, List.take_succ_cons, List.take_zero, List.take_nil, List.drop_succ_cons, List.drop_zero, ex_clo, or_self, tab53, tab55, hN, pe, encQ, lk_laws_eqRatPoint_laws_eqRat, sp_laws_eqRat, c1, c2, hv]
    | true =>
      have hv : ((p1, p2) == (q1, q2)) = true := by show ((p1 == q1) && (p2 == q2)) = true; rw [c1, c2]; rfl
      simp only [V_seq, V_skip, V_ret, V_region, V_cond, brW_false, W_nil, W_cons, effOp2, KN_seq, KXr_nil, QE, asB, effOp, effPure, effNew, effBox, effCall, giveUp, hasAll, skipE, pureV, partV, loadV, faddrV, solid, IV.cells, ofC, strip, lkT, lkH, ISt.app, opI, gO, gB, allB, gval, wrapG, dstOK, setD, mentTm, mentHp, IV.ment, IV.mentL, oneI, lendV, lendP, lent, lentP, idsV, idsL, lkHS, flat, clean, callArgs, callFn, allLent, enumT, Gives, Ideal.Fin, conv, conv0, IBlk.shape, Op.operands, reduceIte, reduceCtorEq, cond_true, Bool.or_false, Bool.and_true, Bool.not_true, Nat.reduceAdd, Nat.reduceLT, Nat.reduceLeDiff, Nat.reduceEqDiff, Nat.reduceBEq, Nat.add_zero, Nat.zero_add, and_false, and_self, implies_true, List.map_cons, List.map_nil, List.nil_append, List.cons_append, List.append_nil, List.all_cons, List.all_nil, Option.map_some, List.getD_cons_zero, List.getD_cons_succ, List.length_cons, List.length_nil, List.take_succ_cons, List.take_zero, List.take_nil, List.drop_succ_cons, List.drop_zero, ex_clo, or_self, tab53, tab55, hN, pe, encQ, lk_laws_eqRatPoint_laws_eqRat, sp_laws_eqRat, c1, c2, hv]
def sp_laws_eqRatPoint : PSpec := ⟨fun xs => match xs with | [.agg [.num .i64 p1, .num .i64 p2, .num .i64 p3, .num .i64 p4], .agg [.num .i64 q1, .num .i64 q2, .num .i64 q3, .num .i64 q4]] => True | _ => False, fun xs => match xs with | [.agg [.num _ p1, .num _ p2, .num _ p3, .num _ p4], .agg [.num _ q1, .num _ q2, .num _ q3, .num _ q4]] => (fun (p : Qd) (q : Qd) => .bool (p == q)) ((p1, p2), (p3, p4)) ((q1, q2), (q3, q4)) | _ => .junk, false⟩
theorem gk_laws_eqRatPoint : ∀ args, sp_laws_eqRatPoint.pre args → ICall Try.prog 41 args (sp_laws_eqRatPoint.val args) := by
  intro args h
  unfold sp_laws_eqRatPoint at h ⊢; simp only at h ⊢; split at h
  · exact c_laws_eqRatPoint ((_, _), (_, _)) ((_, _), (_, _))
  · exact h.elim
theorem en_laws_eqRatPoint : Enters Try.prog 41 := enters_of Try.func41 (by kernel_rfl) rfl

def g_laws_eqRatPointS : List (Nat × PSpec) := [(41, sp_laws_eqRatPoint)]
theorem gok_laws_eqRatPointS : GOK Try.prog g_laws_eqRatPointS := gok_cons gk_laws_eqRatPoint en_laws_eqRatPoint (gok0)
theorem lk_laws_eqRatPointS_laws_eqRatPoint : lkG g_laws_eqRatPointS 41 = sp_laws_eqRatPoint := rfl
def h_laws_eqRatPointS : List (Nat × HSpec) := []
theorem hok_laws_eqRatPointS : HOK Try.prog h_laws_eqRatPointS := hok0
theorem c_laws_eqRatPointS (a : List Qd) (b : List Qd)  : ICall Try.prog 19 [.sl 4 (encQs a), .sl 4 (encQs b)] (.bool (a == b)) := by
  refine icall_V (G := g_laws_eqRatPointS) (H := []) [(6, [(0, 8), (1, 8), (2, 8), (4, 8), (5, 8), (6, 8)])] tabOK mixed gok_laws_eqRatPointS hok_laws_eqRatPointS Try.func19 rfl Try.ntmps19 Try.results19 rfl (by kernel_rfl) fun F hN hlen => ?_
  have la := hlen 0 4 _ rfl
  have lb := hlen 1 4 _ rfl
  have ea := len_encQs a
  have eb := len_encQs b
  rw [ea] at la
  rw [eb] at lb
  simp only [V_seq, V_region, V_cond, W_nil, W_cons, effOp2, KN_seq, asB, effOp, effPure, pureV, binV, lenV, ofC, strip, lkT, ISt.app, opI, gO, gB, allB, gval, wrapG, dstOK, setD, enumT, Op.operands, Call.operands, List.append_toArray, reduceIte, reduceCtorEq, Nat.reduceLT, Nat.reduceEqDiff, Nat.zero_add, ne_eq, not_false_eq_true, true_and, and_self, implies_true, List.nil_append, List.cons_append, List.append_nil, tab24, hN, ea, eb]
  refine brW_some (fun h => ?_) (fun h => ?_)
  · simp only [V_seq, V_ret, V_region, W_nil, W_cons, effOp2, KN_seq, KXr_nil, KXr_seq, QE, effOp, effPure, pureV, ofC, strip, lkT, lkH, ISt.app, opI, gO, gB, allB, gval, wrapG, dstOK, setD, clean, Gives, Ideal.Fin, conv, conv0, Op.operands, reduceIte, reduceCtorEq, Nat.reduceLT, Nat.reduceEqDiff, true_and, and_true, and_self, implies_true, List.nil_append, List.cons_append, List.append_nil, hN]
    have : a ≠ b := by rintro rfl; simp at h
    simp [this]
  · simp only [V_seq, V_skip, V_block, V_region, W_nil, W_cons, effOp2, KN_seq, effOp, effPure, pureV, ofC, strip, ISt.app, opI, gO, gB, allB, gval, wrapG, dstOK, setD, Op.operands, Nat.reduceLT, true_and, and_self, implies_true, List.nil_append, List.cons_append, List.append_nil, hN]
    have hab : a.length = b.length := by simp at h; omega
    refine V_loop (α := Nat) ⟨tabOK, mixed, gok_laws_eqRatPointS, hok_laws_eqRatPointS⟩ (by kernel_rfl) (fun i => i ≤ a.length ∧ ∀ j, j < i → qAt a j = qAt b j) (fun i => ⟨[(5, .num .i64 i), (0, .sl 4 (encQs a)), (1, .sl 4 (encQs b))], []⟩) (fun i => a.length - i) 0 id (by simp) (by simp [SLe, SLe0, convTm, convHp, conv, conv0, lkT, lkH, clean]) ?_
    rintro i ⟨hi, hj⟩
    simp only [V_seq, V_region, V_cond, W_nil, W_cons, effOp2, KN_seq, asB, effOp, effPure, pureV, binV, lenV, strip, lkT, ISt.app, opI, gO, gB, allB, gval, wrapG, dstOK, setD, Op.operands, Call.operands, List.append_toArray, reduceIte, reduceCtorEq, Nat.reduceLT, Nat.reduceEqDiff, ne_eq, not_false_eq_true, true_and, and_self, implies_true, List.nil_append, List.cons_append, List.append_nil, tab24, hN, ea]
    refine brW_some (fun h => ?_) (fun h => ?_)
    · have hi' : i < a.length := by simpa using h
      have g1 := getD_encQs hi'
      have g2 := getD_encQs (hab ▸ hi' : i < b.length)
      have hw := wr_succ hi' la
      simp only [V_seq, V_skip, V_block, V_draw, V_cond, drawW, WS_nil, pairsOf, W_nil, W_cons, effOp2, WI_nil, WI_cons, KN_seq, dynOK, indB, farB, freshB, heapy, asB, effOp, effPure, effCall, giveUp, hasAll, pureV, partV, eltV, loadV, iaddrV, strip, lkT, lkH, ISt.app, opI, gO, gB, allB, gval, wrapG, dstOK, setD, mentTm, mentHp, IV.ment, lendV, lendP, lent, lentP, idsV, idsL, lkHS, flat, clean, callArgs, callFn, allLent, Op.operands, Call.operands, List.append_toArray, reduceIte, reduceCtorEq, cond_true, cond_false, Bool.or_false, Bool.and_true, Bool.and_eq_true, Bool.not_true, Bool.not_false, Nat.reduceAdd, Nat.reduceLT, Nat.reduceLeDiff, Nat.reduceEqDiff, Nat.reduceBEq, Nat.zero_add, ne_eq, not_false_eq_true, true_and, and_true, and_false, and_self, implies_true, forall_const, List.map_cons, List.map_nil, List.nil_append, List.cons_append, List.append_nil, List.getD_cons_zero, List.getD_cons_succ, List.length_cons, List.length_nil, List.take_succ_cons, List.take_zero, List.take_nil, List.drop_zero, ex_clo, or_self, tab24, tab55, hN, pe, Int.toNat_natCast, lk_laws_eqRatPointS_laws_eqRatPoint, sp_laws_eqRatPoint, ea, eb, Int.toNat_natCast, g1, g2]
      repeat refine And.intro (by omega) ?_
      refine brW_some (fun h => ?_) (fun h => ?_)
      · simp only [V_seq, V_ret, V_region, W_nil, W_cons, effOp2, KN_seq, KXr_nil, KXr_seq, KXr_block, KXr_back, QE, effOp, effPure, pureV, ofC, strip, lkT, lkH, ISt.app, opI, gO, gB, allB, gval, wrapG, dstOK, setD, clean, Gives, Ideal.Fin, conv, conv0, Op.operands, reduceIte, reduceCtorEq, Nat.reduceLT, Nat.reduceEqDiff, true_and, and_true, and_self, implies_true, List.nil_append, List.cons_append, List.append_nil, hN]
        have : a ≠ b := by rintro rfl; simp at h
        simp [this]
      · simp only [V_skip, V_region, W_nil, W_cons, effOp2, KN_seq, KN_block, KN_back, effOp, effPure, pureV, binV, ofC, strip, lkT, ISt.app, opI, gO, gB, allB, gval, wrapG, dstOK, setD, Op.operands, reduceIte, reduceCtorEq, Nat.reduceLT, Nat.reduceEqDiff, true_and, and_self, implies_true, List.nil_append, List.cons_append, List.append_nil, hN, hw]
        refine ⟨i + 1, id, ⟨by omega, ?_⟩, by simp only []; omega, by simp [SLe, SLe0, convTm, convHp, conv, conv0, lkT, lkH, clean]⟩
        intro j hj'
        rcases Nat.lt_succ_iff_lt_or_eq.1 hj' with h' | rfl
        · exact hj j h'
        · simpa using h
    · simp only [V_seq, V_ret, V_exit, V_region, W_nil, W_cons, effOp2, KN_seq, KXr_nil, KXe_nil, KXe_seq, KXe_block, KXe_back, QE, effOp, effPure, pureV, ofC, strip, lkT, lkH, ISt.app, opI, gO, gB, allB, gval, wrapG, dstOK, setD, clean, Gives, Ideal.Fin, conv, conv0, Op.operands, reduceIte, reduceCtorEq, Nat.reduceLT, Nat.reduceEqDiff, true_and, and_true, and_self, implies_true, List.nil_append, List.cons_append, List.append_nil, hN]
      have hie : i = a.length := by simp at h; omega
      have : a = b := eq_of_getD hab (fun j h' => hj j (by omega))
      simp [this]
def sp_laws_eqRatPointS : PSpec := ⟨fun xs => match xs with | [.sl 4 aes, .sl 4 bes] => isQs aes ∧ isQs bes | _ => False, fun xs => match xs with | [.sl _ aes, .sl _ bes] => (fun (a : List Qd) (b : List Qd) => .bool (a == b)) (toQs aes) (toQs bes) | _ => .junk, false⟩
theorem gk_laws_eqRatPointS : ∀ args, sp_laws_eqRatPointS.pre args → ICall Try.prog 19 args (sp_laws_eqRatPointS.val args) := by
  intro args h
  unfold sp_laws_eqRatPointS at h ⊢; simp only at h ⊢; split at h
  · obtain ⟨h0, h1⟩ := h
    obtain ⟨l0, rfl⟩ := isQ_ex h0
    obtain ⟨l1, rfl⟩ := isQ_ex h1
    simp only [toQs_enc] at *
    exact c_laws_eqRatPointS _ _ 
  · exact h.elim
theorem en_laws_eqRatPointS : Enters Try.prog 19 := enters_of Try.func19 (by kernel_rfl) rfl

/-- What a list is after it was marked from k on. -/
def marksT : Nat → Int → List Tr
  | 0, _ => []
  | n + 1, k => (k, k + 1, k + 2) :: marksT n (k + 3)
theorem marksT_len : ∀ n k, (marksT n k).length = n
  | 0, _ => rfl
  | n + 1, k => by simp [marksT, marksT_len n]
theorem marksT_at : ∀ n (k : Int) i, i < n → tAt (marksT n k) i = (k + 3 * i, k + 3 * i + 1, k + 3 * i + 2)
  | n + 1, k, 0, _ => by simp [marksT]
  | n + 1, k, i + 1, h => by
    have := marksT_at n (k + 3) i (by omega)
    simp only [marksT, tAt, List.getD, List.getElem?_cons_succ] at this ⊢
    rw [this]
    refine Prod.ext ?_ (Prod.ext ?_ ?_) <;> simp only [] <;> omega
def heldT : List Tr → Int → Int
  | [], k => k
  | p :: l, k => if p.1 = k ∧ p.2.1 = k + 1 ∧ p.2.2 = k + 2 then heldT l (k + 3) else -1
theorem heldT_marks : ∀ n k, heldT (marksT n k) k = k + 3 * (n : Int)
  | 0, k => by simp [marksT, heldT]
  | n + 1, k => by
    rw [marksT, heldT, if_pos ⟨rfl, rfl, rfl⟩, heldT_marks n]
    omega
theorem heldT_step {l : List Tr} {i : Nat} {k : Int} (hi : i < l.length) : heldT (l.drop i) k = if (tAt l i).1 = k ∧ (tAt l i).2.1 = k + 1 ∧ (tAt l i).2.2 = k + 2 then heldT (l.drop (i + 1)) (k + 3) else -1 := by
  rw [drop_eq_g (d := (0, 0, 0)) hi, heldT]

/-- What a list is after it was marked from k on. -/
def marksQ : Nat → Int → List Qd
  | 0, _ => []
  | n + 1, k => ((k, k + 1), (k + 2, k + 3)) :: marksQ n (k + 4)
theorem marksQ_len : ∀ n k, (marksQ n k).length = n
  | 0, _ => rfl
  | n + 1, k => by simp [marksQ, marksQ_len n]
theorem marksQ_at : ∀ n (k : Int) i, i < n → qAt (marksQ n k) i = ((k + 4 * i, k + 4 * i + 1), (k + 4 * i + 2, k + 4 * i + 3))
  | n + 1, k, 0, _ => by simp [marksQ]
  | n + 1, k, i + 1, h => by
    have := marksQ_at n (k + 4) i (by omega)
    simp only [marksQ, qAt, List.getD, List.getElem?_cons_succ] at this ⊢
    rw [this]
    refine Prod.ext (Prod.ext ?_ ?_) (Prod.ext ?_ ?_) <;> simp only [] <;> omega
def heldQ : List Qd → Int → Int
  | [], k => k
  | p :: l, k => if p.1.1 = k ∧ p.1.2 = k + 1 ∧ p.2.1 = k + 2 ∧ p.2.2 = k + 3 then heldQ l (k + 4) else -1
theorem heldQ_marks : ∀ n k, heldQ (marksQ n k) k = k + 4 * (n : Int)
  | 0, k => by simp [marksQ, heldQ]
  | n + 1, k => by
    rw [marksQ, heldQ, if_pos ⟨rfl, rfl, rfl, rfl⟩, heldQ_marks n]
    omega
theorem heldQ_step {l : List Qd} {i : Nat} {k : Int} (hi : i < l.length) : heldQ (l.drop i) k = if (qAt l i).1.1 = k ∧ (qAt l i).1.2 = k + 1 ∧ (qAt l i).2.1 = k + 2 ∧ (qAt l i).2.2 = k + 3 then heldQ (l.drop (i + 1)) (k + 4) else -1 := by
  rw [drop_eq_g (d := ((0, 0), (0, 0))) hi, heldQ]

def g_laws_markHalfPlaneS : List (Nat × PSpec) := []
theorem gok_laws_markHalfPlaneS : GOK Try.prog g_laws_markHalfPlaneS := gok0
def h_laws_markHalfPlaneS : List (Nat × HSpec) := []
theorem hok_laws_markHalfPlaneS : HOK Try.prog h_laws_markHalfPlaneS := hok0
theorem c_laws_markHalfPlaneS (l : List Tr) (k : Int) (full : Bool) (hsz : l.length ≤ 2000000) (h0 : 0 ≤ k) (h1 : k ≤ 2000000) : HCall Try.prog 58 [.ref 1000 0 l.length full, .num .i64 k] (sm ([(1000, .arr 3 106 (encTs l))])) (.num .i64 (k + 3 * (l.length : Int))) (sm ([(1000, .arr 3 106 (encTs (marksT l.length k)))])) := by
  refine hcall_V (G := g_laws_markHalfPlaneS) (H := []) [] tabOK mixed gok_laws_markHalfPlaneS hok_laws_markHalfPlaneS Try.func58 rfl Try.ntmps58 Try.results58 rfl (by kernel_rfl) fun F hN hlen => ?_
  simp only [sm]
  have hx : ∃ k ty es, IBlk.arr 3 106 (encTs l) = IBlk.arr k ty es := ⟨_, _, _, rfl⟩
  simp only [V_seq, V_block, V_region, W_nil, W_cons, effOp2, KN_seq, effOp, effPure, pureV, ofC, strip, ISt.app, opI, gO, gB, allB, gval, wrapG, dstOK, setD, enumT, Op.operands, Nat.reduceLT, Nat.zero_add, true_and, and_self, implies_true, List.nil_append, List.cons_append, hN]
  refine V_loop (α := Nat × List Tr) ⟨tabOK, mixed, gok_laws_markHalfPlaneS, hok_laws_markHalfPlaneS⟩ (by kernel_rfl) (fun b => b.1 ≤ l.length ∧ b.2.length = l.length ∧ ∀ j, j < b.1 → tAt b.2 j = (k + 3 * j, k + 3 * j + 1, k + 3 * j + 2)) (fun b => ⟨[(5, .num .i64 b.1), (0, .ref 1000 0 l.length full), (1, .num .i64 (k + 3 * (b.1 : Int)))], [(1000, some (.arr 3 106 (encTs b.2)))]⟩) (fun b => l.length - b.1) (0, l) id ⟨by simp, rfl, fun j h => absurd h (Nat.not_lt_zero j)⟩ (by simp [SLe, SLe0, convTm, convHp, convB, conv, conv0, lkT, lkH, clean, List.take_length]) ?_
  rintro ⟨i, m⟩ ⟨hi, hl, hj⟩
  simp only [] at hi hl hj
  have em := len_encTs m
  rw [hl] at em
  have hx : ∃ k ty es, IBlk.arr 3 106 (encTs m) = IBlk.arr k ty es := ⟨_, _, _, rfl⟩
  simp only [V_seq, V_region, V_cond, W_nil, W_cons, effOp2, KN_seq, asB, effOp, effPure, pureV, binV, lenV, strip, lkT, ISt.app, opI, gO, gB, allB, gval, wrapG, dstOK, setD, Op.operands, Call.operands, List.append_toArray, reduceIte, reduceCtorEq, Nat.reduceLT, Nat.reduceEqDiff, ne_eq, not_false_eq_true, true_and, and_self, implies_true, List.nil_append, List.cons_append, tab47, hN]
  refine brW_some (fun h => ?_) (fun h => ?_)
  · have hi' : i < l.length := by simpa using h
    have hw := wr_succ hi' (by rw [maxLen_eq]; omega)
    have g0 := getD_encTs (l := m) (i := i) (by omega)
    obtain ⟨K, hK⟩ : ∃ K, k + 3 * (i : Int) = K := ⟨_, rfl⟩
    obtain ⟨v0, hv0⟩ : ∃ v, tAt m i = v := ⟨_, rfl⟩
    rw [hv0] at g0
    have w1 : IntKind.i64.wrap (K + 1) = K + 1 := by rw [wr (by omega) (by omega)]
    have w2 : IntKind.i64.wrap (K + 1 + 1) = K + 2 := by rw [wr (by omega) (by omega)]; omega
    have w3 : IntKind.i64.wrap (K + 2 + 1) = k + 3 * ((i + 1 : Nat) : Int) := by rw [wr (by omega) (by omega)]; omega
    have e1 : (encTs m).set i (.agg [.num .i64 (K), .num .i64 (v0.2.1), .num .i64 (v0.2.2)]) = encTs (m.set i (K, v0.2.1, v0.2.2)) := encTs_set m i (K, v0.2.1, v0.2.2)
    obtain ⟨m1, hm1⟩ : ∃ z, m.set i (K, v0.2.1, v0.2.2) = z := ⟨_, rfl⟩
    have l1 : m1.length = l.length := by rw [← hm1]; simp; omega
    have a1 : tAt m1 i = (K, v0.2.1, v0.2.2) := by rw [← hm1]; simp [show i < m.length by omega]
    have b1 : ∀ j, i ≠ j → tAt m1 j = tAt m j := fun j hne => by rw [← hm1]; simp [List.getElem?_set_ne hne]
    rw [hm1] at e1
    have g1 := getD_encTs (l := m1) (i := i) (by omega)
    rw [a1] at g1
    have hx1 : ∃ k ty es, IBlk.arr 3 106 (encTs m1) = IBlk.arr k ty es := ⟨_, _, _, rfl⟩
    have em1 := len_encTs m1
    rw [l1] at em1
    have e2 : (encTs m1).set i (.agg [.num .i64 (K), .num .i64 (K + 1), .num .i64 (v0.2.2)]) = encTs (m1.set i (K, K + 1, v0.2.2)) := encTs_set m1 i (K, K + 1, v0.2.2)
    obtain ⟨m2, hm2⟩ : ∃ z, m1.set i (K, K + 1, v0.2.2) = z := ⟨_, rfl⟩
    have l2 : m2.length = l.length := by rw [← hm2]; simp; omega
    have a2 : tAt m2 i = (K, K + 1, v0.2.2) := by rw [← hm2]; simp [show i < m1.length by omega]
    have b2 : ∀ j, i ≠ j → tAt m2 j = tAt m1 j := fun j hne => by rw [← hm2]; simp [List.getElem?_set_ne hne]
    rw [hm2] at e2
    have g2 := getD_encTs (l := m2) (i := i) (by omega)
    rw [a2] at g2
    have hx2 : ∃ k ty es, IBlk.arr 3 106 (encTs m2) = IBlk.arr k ty es := ⟨_, _, _, rfl⟩
    have em2 := len_encTs m2
    rw [l2] at em2
    have e3 : (encTs m2).set i (.agg [.num .i64 (K), .num .i64 (K + 1), .num .i64 (K + 2)]) = encTs (m2.set i (K, K + 1, K + 2)) := encTs_set m2 i (K, K + 1, K + 2)
    obtain ⟨m3, hm3⟩ : ∃ z, m2.set i (K, K + 1, K + 2) = z := ⟨_, rfl⟩
    have l3 : m3.length = l.length := by rw [← hm3]; simp; omega
    have a3 : tAt m3 i = (K, K + 1, K + 2) := by rw [← hm3]; simp [show i < m2.length by omega]
    have b3 : ∀ j, i ≠ j → tAt m3 j = tAt m2 j := fun j hne => by rw [← hm3]; simp [List.getElem?_set_ne hne]
    rw [hm3] at e3
    have ej : ∀ j, j < i + 1 → tAt m3 j = (k + 3 * j, k + 3 * j + 1, k + 3 * j + 2) := by
      intro j hj'
      by_cases c : i = j
      · subst c; rw [a3, ← hK]
      · rw [b3 j c, b2 j c, b1 j c]; exact hj j (by omega)
    simp only [V_seq, V_skip, V_block, V_region, W_nil, W_cons, effOp2, KN_seq, KN_block, KN_back, effOp, effPure, effStore, pureV, storeV, binV, faddrV, iaddrV, over, solid, IV.cells, ofC, strip, lkT, lkH, ISt.app, opI, gO, gB, allB, gval, wrapG, dstOK, setD, eltI, oneI, noId', Op.operands, reduceIte, reduceCtorEq, cond_true, Bool.and_true, Nat.reduceAdd, Nat.reduceLT, Nat.reduceLeDiff, Nat.reduceEqDiff, Nat.add_zero, Nat.zero_add, ne_eq, not_false_eq_true, true_and, and_true, false_and, and_false, and_self, implies_true, forall_const, List.nil_append, List.cons_append, List.append_nil, List.all_cons, List.all_nil, Option.some.injEq, List.getD_cons_zero, List.getD_cons_succ, List.length_cons, List.length_nil, List.take_succ_cons, List.take_zero, List.drop_succ_cons, List.drop_zero, List.drop_nil, tab3, tab47, tab106, hN, Int.toNat_natCast, hK, hx, hw, em, g0, w1, w2, w3, e1, g1, hx1, em1, e2, g2, hx2, em2, e3]
    repeat refine And.intro (by first | omega | (simp; done) | (simp; omega)) ?_
    exact ⟨(i + 1, m3), id, ⟨by simp only []; omega, by simp only []; omega, ej⟩, by simp only []; omega, by simp [SLe, SLe0, convTm, convHp, convB, conv, conv0, lkT, lkH, clean, List.take_length]⟩
  · have hie : i = l.length := by simp at h; omega
    subst hie
    have hm : m = marksT l.length k := eq_of_getD (d := (0, 0, 0)) (by rw [hl, marksT_len]) (fun j h' => (hj j (by omega)).trans (marksT_at _ _ _ (by omega)).symm)
    subst hm
    simp only [V_seq, V_ret, V_exit, V_region, W_nil, W_cons, effOp2, KN_seq, KXr_nil, KXe_nil, KXe_seq, KXe_block, KXe_back, QE, effOp, effPure, pureV, strip, lkT, lkH, ISt.app, opI, gO, gB, allB, gval, wrapG, dstOK, setD, clean, conv, conv0, Op.operands, reduceIte, reduceCtorEq, Nat.reduceLT, Nat.reduceEqDiff, true_and, and_true, and_self, implies_true, List.map_cons, List.map_nil, List.nil_append, List.cons_append, hN, FinH, resA, resV, SLe, SLe0, convTm, convHp, convB]
    exact ⟨id, by simp⟩
def hs_laws_markHalfPlaneS : HSpec := ⟨[false, false], fun xs hp => match xs, hp with | [.ref 1000 0 n full, .num .i64 k], [(1000, .arr 3 ty es)] => (isTs es) ∧ (ty = 106) ∧ (n = es.length) ∧ ((fun (l : List Tr) (k : Int) (full : Bool) => l.length ≤ 2000000) (toTs es) k full) ∧ ((fun (l : List Tr) (k : Int) (full : Bool) => 0 ≤ k) (toTs es) k full) ∧ ((fun (l : List Tr) (k : Int) (full : Bool) => k ≤ 2000000) (toTs es) k full) | _, _ => False, fun xs hp => match xs, hp with | [.ref 1000 0 n full, .num .i64 k], [(1000, .arr 3 ty es)] => (fun (l : List Tr) (k : Int) (full : Bool) => (.num .i64 (k + 3 * (l.length : Int)) : IV)) (toTs es) k full | _, _ => .junk, fun xs hp => match xs, hp with | [.ref 1000 0 n full, .num .i64 k], [(1000, .arr 3 ty es)] => (fun (l : List Tr) (k : Int) (full : Bool) => ([(1000, .arr 3 106 (encTs (marksT l.length k)))] : List (Nat × IBlk))) (toTs es) k full | _, _ => []⟩
theorem hk_laws_markHalfPlaneS : ∀ args hp, hs_laws_markHalfPlaneS.pre args hp → HCall Try.prog 58 args (sm hp) (hs_laws_markHalfPlaneS.val args hp) (sm (hs_laws_markHalfPlaneS.hval args hp)) := by
  intro args hp h
  unfold hs_laws_markHalfPlaneS at h ⊢; simp only at h ⊢; split at h
  · obtain ⟨h1, rfl, rfl, h2, h3, h4⟩ := h; obtain ⟨l, rfl⟩ := isT_ex h1; rw [toTs_enc] at *; rw [len_encTs]; exact c_laws_markHalfPlaneS l _ _ h2 h3 h4
  · exact h.elim
theorem en_laws_markHalfPlaneS : Enters Try.prog 58 := enters_of Try.func58 (by kernel_rfl) rfl


def g_laws_markRatPointS : List (Nat × PSpec) := []
theorem gok_laws_markRatPointS : GOK Try.prog g_laws_markRatPointS := gok0
def h_laws_markRatPointS : List (Nat × HSpec) := []
theorem hok_laws_markRatPointS : HOK Try.prog h_laws_markRatPointS := hok0
theorem c_laws_markRatPointS (l : List Qd) (k : Int) (full : Bool) (hsz : l.length ≤ 2000000) (h0 : 0 ≤ k) (h1 : k ≤ 2000000) : HCall Try.prog 22 [.ref 1000 0 l.length full, .num .i64 k] (sm ([(1000, .arr 4 55 (encQs l))])) (.num .i64 (k + 4 * (l.length : Int))) (sm ([(1000, .arr 4 55 (encQs (marksQ l.length k)))])) := by
  refine hcall_V (G := g_laws_markRatPointS) (H := []) [] tabOK mixed gok_laws_markRatPointS hok_laws_markRatPointS Try.func22 rfl Try.ntmps22 Try.results22 rfl (by kernel_rfl) fun F hN hlen => ?_
  simp only [sm]
  have hx : ∃ k ty es, IBlk.arr 4 55 (encQs l) = IBlk.arr k ty es := ⟨_, _, _, rfl⟩
  simp only [V_seq, V_block, V_region, W_nil, W_cons, effOp2, KN_seq, effOp, effPure, pureV, ofC, strip, ISt.app, opI, gO, gB, allB, gval, wrapG, dstOK, setD, enumT, Op.operands, Nat.reduceLT, Nat.zero_add, true_and, and_self, implies_true, List.nil_append, List.cons_append, hN]
  refine V_loop (α := Nat × List Qd) ⟨tabOK, mixed, gok_laws_markRatPointS, hok_laws_markRatPointS⟩ (by kernel_rfl) (fun b => b.1 ≤ l.length ∧ b.2.length = l.length ∧ ∀ j, j < b.1 → qAt b.2 j = ((k + 4 * j, k + 4 * j + 1), (k + 4 * j + 2, k + 4 * j + 3))) (fun b => ⟨[(5, .num .i64 b.1), (0, .ref 1000 0 l.length full), (1, .num .i64 (k + 4 * (b.1 : Int)))], [(1000, some (.arr 4 55 (encQs b.2)))]⟩) (fun b => l.length - b.1) (0, l) id ⟨by simp, rfl, fun j h => absurd h (Nat.not_lt_zero j)⟩ (by simp [SLe, SLe0, convTm, convHp, convB, conv, conv0, lkT, lkH, clean, List.take_length]) ?_
  rintro ⟨i, m⟩ ⟨hi, hl, hj⟩
  simp only [] at hi hl hj
  have em := len_encQs m
  rw [hl] at em
  have hx : ∃ k ty es, IBlk.arr 4 55 (encQs m) = IBlk.arr k ty es := ⟨_, _, _, rfl⟩
  simp only [V_seq, V_region, V_cond, W_nil, W_cons, effOp2, KN_seq, asB, effOp, effPure, pureV, binV, lenV, strip, lkT, ISt.app, opI, gO, gB, allB, gval, wrapG, dstOK, setD, Op.operands, Call.operands, List.append_toArray, reduceIte, reduceCtorEq, Nat.reduceLT, Nat.reduceEqDiff, ne_eq, not_false_eq_true, true_and, and_self, implies_true, List.nil_append, List.cons_append, tab24, hN]
  refine brW_some (fun h => ?_) (fun h => ?_)
  · have hi' : i < l.length := by simpa using h
    have hw := wr_succ hi' (by rw [maxLen_eq]; omega)
    have g0 := getD_encQs (l := m) (i := i) (by omega)
    obtain ⟨K, hK⟩ : ∃ K, k + 4 * (i : Int) = K := ⟨_, rfl⟩
    obtain ⟨v0, hv0⟩ : ∃ v, qAt m i = v := ⟨_, rfl⟩
    rw [hv0] at g0
    have w1 : IntKind.i64.wrap (K + 1) = K + 1 := by rw [wr (by omega) (by omega)]
    have w2 : IntKind.i64.wrap (K + 1 + 1) = K + 2 := by rw [wr (by omega) (by omega)]; omega
    have w3 : IntKind.i64.wrap (K + 2 + 1) = K + 3 := by rw [wr (by omega) (by omega)]; omega
    have w4 : IntKind.i64.wrap (K + 3 + 1) = k + 4 * ((i + 1 : Nat) : Int) := by rw [wr (by omega) (by omega)]; omega
    have e1 : (encQs m).set i (.agg [.num .i64 (K), .num .i64 (v0.1.2), .num .i64 (v0.2.1), .num .i64 (v0.2.2)]) = encQs (m.set i ((K, v0.1.2), (v0.2.1, v0.2.2))) := encQs_setZ m i ((K, v0.1.2), (v0.2.1, v0.2.2))
    obtain ⟨m1, hm1⟩ : ∃ z, m.set i ((K, v0.1.2), (v0.2.1, v0.2.2)) = z := ⟨_, rfl⟩
    have l1 : m1.length = l.length := by rw [← hm1]; simp; omega
    have a1 : qAt m1 i = ((K, v0.1.2), (v0.2.1, v0.2.2)) := by rw [← hm1]; simp [show i < m.length by omega]
    have b1 : ∀ j, i ≠ j → qAt m1 j = qAt m j := fun j hne => by rw [← hm1]; simp [List.getElem?_set_ne hne]
    rw [hm1] at e1
    have g1 := getD_encQs (l := m1) (i := i) (by omega)
    rw [a1] at g1
    have hx1 : ∃ k ty es, IBlk.arr 4 55 (encQs m1) = IBlk.arr k ty es := ⟨_, _, _, rfl⟩
    have em1 := len_encQs m1
    rw [l1] at em1
    have e2 : (encQs m1).set i (.agg [.num .i64 (K), .num .i64 (K + 1), .num .i64 (v0.2.1), .num .i64 (v0.2.2)]) = encQs (m1.set i ((K, K + 1), (v0.2.1, v0.2.2))) := encQs_setZ m1 i ((K, K + 1), (v0.2.1, v0.2.2))
    obtain ⟨m2, hm2⟩ : ∃ z, m1.set i ((K, K + 1), (v0.2.1, v0.2.2)) = z := ⟨_, rfl⟩
    have l2 : m2.length = l.length := by rw [← hm2]; simp; omega
    have a2 : qAt m2 i = ((K, K + 1), (v0.2.1, v0.2.2)) := by rw [← hm2]; simp [show i < m1.length by omega]
    have b2 : ∀ j, i ≠ j → qAt m2 j = qAt m1 j := fun j hne => by rw [← hm2]; simp [List.getElem?_set_ne hne]
    rw [hm2] at e2
    have g2 := getD_encQs (l := m2) (i := i) (by omega)
    rw [a2] at g2
    have hx2 : ∃ k ty es, IBlk.arr 4 55 (encQs m2) = IBlk.arr k ty es := ⟨_, _, _, rfl⟩
    have em2 := len_encQs m2
    rw [l2] at em2
    have e3 : (encQs m2).set i (.agg [.num .i64 (K), .num .i64 (K + 1), .num .i64 (K + 2), .num .i64 (v0.2.2)]) = encQs (m2.set i ((K, K + 1), (K + 2, v0.2.2))) := encQs_setZ m2 i ((K, K + 1), (K + 2, v0.2.2))
    obtain ⟨m3, hm3⟩ : ∃ z, m2.set i ((K, K + 1), (K + 2, v0.2.2)) = z := ⟨_, rfl⟩
    have l3 : m3.length = l.length := by rw [← hm3]; simp; omega
    have a3 : qAt m3 i = ((K, K + 1), (K + 2, v0.2.2)) := by rw [← hm3]; simp [show i < m2.length by omega]
    have b3 : ∀ j, i ≠ j → qAt m3 j = qAt m2 j := fun j hne => by rw [← hm3]; simp [List.getElem?_set_ne hne]
    rw [hm3] at e3
    have g3 := getD_encQs (l := m3) (i := i) (by omega)
    rw [a3] at g3
    have hx3 : ∃ k ty es, IBlk.arr 4 55 (encQs m3) = IBlk.arr k ty es := ⟨_, _, _, rfl⟩
    have em3 := len_encQs m3
    rw [l3] at em3
    have e4 : (encQs m3).set i (.agg [.num .i64 (K), .num .i64 (K + 1), .num .i64 (K + 2), .num .i64 (K + 3)]) = encQs (m3.set i ((K, K + 1), (K + 2, K + 3))) := encQs_setZ m3 i ((K, K + 1), (K + 2, K + 3))
    obtain ⟨m4, hm4⟩ : ∃ z, m3.set i ((K, K + 1), (K + 2, K + 3)) = z := ⟨_, rfl⟩
    have l4 : m4.length = l.length := by rw [← hm4]; simp; omega
    have a4 : qAt m4 i = ((K, K + 1), (K + 2, K + 3)) := by rw [← hm4]; simp [show i < m3.length by omega]
    have b4 : ∀ j, i ≠ j → qAt m4 j = qAt m3 j := fun j hne => by rw [← hm4]; simp [List.getElem?_set_ne hne]
    rw [hm4] at e4
    have ej : ∀ j, j < i + 1 → qAt m4 j = ((k + 4 * j, k + 4 * j + 1), (k + 4 * j + 2, k + 4 * j + 3)) := by
      intro j hj'
      by_cases c : i = j
      · subst c; rw [a4, ← hK]
      · rw [b4 j c, b3 j c, b2 j c, b1 j c]; exact hj j (by omega)
    simp only [V_seq, V_skip, V_block, V_region, W_nil, W_cons, effOp2, KN_seq, KN_block, KN_back, effOp, effPure, effStore, pureV, storeV, binV, faddrV, iaddrV, over, solid, IV.cells, ofC, strip, lkT, lkH, ISt.app, opI, gO, gB, allB, gval, wrapG, dstOK, setD, eltI, oneI, noId', Op.operands, reduceIte, reduceCtorEq, cond_true, Bool.and_true, Nat.reduceAdd, Nat.reduceLT, Nat.reduceLeDiff, Nat.reduceEqDiff, Nat.add_zero, Nat.zero_add, ne_eq, not_false_eq_true, true_and, and_true, false_and, and_false, and_self, implies_true, forall_const, List.nil_append, List.cons_append, List.append_nil, List.all_cons, List.all_nil, Option.some.injEq, List.getD_cons_zero, List.getD_cons_succ, List.length_cons, List.length_nil, List.take_succ_cons, List.take_zero, List.drop_succ_cons, List.drop_zero, List.drop_nil, tab3, tab24, tab53, tab55, hN, Int.toNat_natCast, hK, hx, hw, em, g0, w1, w2, w3, w4, e1, g1, hx1, em1, e2, g2, hx2, em2, e3, g3, hx3, em3, e4]
    repeat refine And.intro (by first | omega | (simp; done) | (simp; omega)) ?_
    exact ⟨(i + 1, m4), id, ⟨by simp only []; omega, by simp only []; omega, ej⟩, by simp only []; omega, by simp [SLe, SLe0, convTm, convHp, convB, conv, conv0, lkT, lkH, clean, List.take_length]⟩
  · have hie : i = l.length := by simp at h; omega
    subst hie
    have hm : m = marksQ l.length k := eq_of_getD (d := ((0, 0), (0, 0))) (by rw [hl, marksQ_len]) (fun j h' => (hj j (by omega)).trans (marksQ_at _ _ _ (by omega)).symm)
    subst hm
    simp only [V_seq, V_ret, V_exit, V_region, W_nil, W_cons, effOp2, KN_seq, KXr_nil, KXe_nil, KXe_seq, KXe_block, KXe_back, QE, effOp, effPure, pureV, strip, lkT, lkH, ISt.app, opI, gO, gB, allB, gval, wrapG, dstOK, setD, clean, conv, conv0, Op.operands, reduceIte, reduceCtorEq, Nat.reduceLT, Nat.reduceEqDiff, true_and, and_true, and_self, implies_true, List.map_cons, List.map_nil, List.nil_append, List.cons_append, hN, FinH, resA, resV, SLe, SLe0, convTm, convHp, convB]
    exact ⟨id, by simp⟩
def hs_laws_markRatPointS : HSpec := ⟨[false, false], fun xs hp => match xs, hp with | [.ref 1000 0 n full, .num .i64 k], [(1000, .arr 4 ty es)] => (isQs es) ∧ (ty = 55) ∧ (n = es.length) ∧ ((fun (l : List Qd) (k : Int) (full : Bool) => l.length ≤ 2000000) (toQs es) k full) ∧ ((fun (l : List Qd) (k : Int) (full : Bool) => 0 ≤ k) (toQs es) k full) ∧ ((fun (l : List Qd) (k : Int) (full : Bool) => k ≤ 2000000) (toQs es) k full) | _, _ => False, fun xs hp => match xs, hp with | [.ref 1000 0 n full, .num .i64 k], [(1000, .arr 4 ty es)] => (fun (l : List Qd) (k : Int) (full : Bool) => (.num .i64 (k + 4 * (l.length : Int)) : IV)) (toQs es) k full | _, _ => .junk, fun xs hp => match xs, hp with | [.ref 1000 0 n full, .num .i64 k], [(1000, .arr 4 ty es)] => (fun (l : List Qd) (k : Int) (full : Bool) => ([(1000, .arr 4 55 (encQs (marksQ l.length k)))] : List (Nat × IBlk))) (toQs es) k full | _, _ => []⟩
theorem hk_laws_markRatPointS : ∀ args hp, hs_laws_markRatPointS.pre args hp → HCall Try.prog 22 args (sm hp) (hs_laws_markRatPointS.val args hp) (sm (hs_laws_markRatPointS.hval args hp)) := by
  intro args hp h
  unfold hs_laws_markRatPointS at h ⊢; simp only at h ⊢; split at h
  · obtain ⟨h1, rfl, rfl, h2, h3, h4⟩ := h; obtain ⟨l, rfl⟩ := isQ_ex h1; rw [toQs_enc] at *; rw [len_encQs]; exact c_laws_markRatPointS l _ _ h2 h3 h4
  · exact h.elim
theorem en_laws_markRatPointS : Enters Try.prog 22 := enters_of Try.func22 (by kernel_rfl) rfl


def g_laws_heldRatPointS : List (Nat × PSpec) := []
theorem gok_laws_heldRatPointS : GOK Try.prog g_laws_heldRatPointS := gok0
def h_laws_heldRatPointS : List (Nat × HSpec) := []
theorem hok_laws_heldRatPointS : HOK Try.prog h_laws_heldRatPointS := hok0
theorem c_laws_heldRatPointS (l : List Qd) (k : Int) (hsz : l.length ≤ 2000000) (h0 : 0 ≤ k) (h1 : k ≤ 2000000) : ICall Try.prog 23 [.sl 4 (encQs l), .num .i64 k] (.num .i64 (heldQ l k)) := by
  refine icall_V (G := g_laws_heldRatPointS) (H := []) [] tabOK mixed gok_laws_heldRatPointS hok_laws_heldRatPointS Try.func23 rfl Try.ntmps23 Try.results23 rfl (by kernel_rfl) fun F hN hlen => ?_
  have el := len_encQs l
  simp only [V_seq, V_block, V_region, W_nil, W_cons, effOp2, KN_seq, effOp, effPure, pureV, ofC, strip, ISt.app, opI, gO, gB, allB, gval, wrapG, dstOK, setD, enumT, Op.operands, Nat.reduceLT, Nat.zero_add, true_and, and_self, implies_true, List.nil_append, List.cons_append, List.append_nil, hN]
  refine V_loop (α := Nat) ⟨tabOK, mixed, gok_laws_heldRatPointS, hok_laws_heldRatPointS⟩ (by kernel_rfl) (fun i => i ≤ l.length ∧ heldQ l k = heldQ (l.drop i) (k + 4 * (i : Int))) (fun i => ⟨[(5, .num .i64 i), (0, .sl 4 (encQs l)), (1, .num .i64 (k + 4 * (i : Int)))], []⟩) (fun i => l.length - i) 0 id (by simp) (by simp [SLe, SLe0, convTm, convHp, conv, conv0, lkT, lkH, clean]) ?_
  rintro i ⟨hi, hj⟩
  simp only [V_seq, V_region, V_cond, W_nil, W_cons, effOp2, KN_seq, asB, effOp, effPure, pureV, binV, lenV, strip, lkT, ISt.app, opI, gO, gB, allB, gval, wrapG, dstOK, setD, Op.operands, Call.operands, List.append_toArray, reduceIte, reduceCtorEq, Nat.reduceLT, Nat.reduceEqDiff, ne_eq, not_false_eq_true, true_and, and_self, implies_true, List.nil_append, List.cons_append, List.append_nil, tab24, hN, el]
  refine brW_some (fun h => ?_) (fun h => ?_)
  · have hi' : i < l.length := by simpa using h
    have g0 := getD_encQs hi'
    have hw := wr_succ hi' (by rw [maxLen_eq]; omega)
    rw [heldQ_step hi'] at hj
    obtain ⟨K, hK⟩ : ∃ K, k + 4 * (i : Int) = K := ⟨_, rfl⟩
    rw [hK] at hj
    obtain ⟨v0, hv0⟩ : ∃ v, qAt l i = v := ⟨_, rfl⟩
    rw [hv0] at g0 hj
    have w1 : IntKind.i64.wrap (K + 1) = K + 1 := by rw [wr (by omega) (by omega)]
    have w2 : IntKind.i64.wrap (K + 1 + 1) = K + 2 := by rw [wr (by omega) (by omega)]; omega
    have w3 : IntKind.i64.wrap (K + 2 + 1) = K + 3 := by rw [wr (by omega) (by omega)]; omega
    have w4 : IntKind.i64.wrap (K + 3 + 1) = k + 4 * ((i + 1 : Nat) : Int) := by rw [wr (by omega) (by omega)]; omega
    by_cases c0 : v0.1.1 = K
    · have d0 : (v0.1.1 != K) = false := by simpa using c0
      by_cases c1 : v0.1.2 = K + 1
      · have d1 : (v0.1.2 != K + 1) = false := by simpa using c1
        by_cases c2 : v0.2.1 = K + 2
        · have d2 : (v0.2.1 != K + 2) = false := by simpa using c2
          by_cases c3 : v0.2.2 = K + 3
          · have d3 : (v0.2.2 != K + 3) = false := by simpa using c3
            rw [if_pos ⟨c0, c1, c2, c3⟩] at hj
            simp only [V_seq, V_skip, V_block, V_region, V_cond, brW_false, W_nil, W_cons, effOp2, KN_seq, KN_block, KN_back, asB, effOp, effPure, pureV, binV, partV, eltV, loadV, faddrV, iaddrV, ofC, strip, lkT, ISt.app, opI, gO, gB, allB, gval, wrapG, dstOK, setD, Op.operands, reduceIte, reduceCtorEq, Nat.reduceAdd, Nat.reduceLT, Nat.reduceLeDiff, Nat.reduceEqDiff, Nat.add_zero, Nat.zero_add, ne_eq, not_false_eq_true, true_and, and_true, and_false, and_self, implies_true, forall_const, List.nil_append, List.cons_append, List.append_nil, List.getD_cons_zero, List.getD_cons_succ, List.length_cons, List.length_nil, List.take_succ_cons, List.take_zero, List.take_nil, List.drop_succ_cons, List.drop_zero, tab3, tab24, tab53, tab55, hN, Int.toNat_natCast, hK, el, hw, g0, w1, w2, w3, w4, d0, d1, d2, d3]
            repeat refine And.intro (by first | omega | (simp; done) | (simp; omega)) ?_
            exact ⟨i + 1, id, ⟨by omega, by rw [hj]; congr 1; omega⟩, by simp only []; omega, by simp [SLe, SLe0, convTm, convHp, conv, conv0, lkT, lkH, clean]⟩
          · have d3 : (v0.2.2 != K + 3) = true := by simpa using c3
            rw [if_neg (fun h => c3 h.2.2.2)] at hj
            simp only [V_seq, V_skip, V_ret, V_block, V_region, V_cond, brW_true, brW_false, W_nil, W_cons, effOp2, KN_seq, KXr_nil, KXr_seq, KXr_block, KXr_back, QE, asB, effOp, effPure, pureV, binV, partV, eltV, loadV, faddrV, iaddrV, ofC, strip, lkT, lkH, ISt.app, opI, gO, gB, allB, gval, wrapG, dstOK, setD, clean, Gives, Ideal.Fin, conv, conv0, Op.operands, reduceIte, reduceCtorEq, Nat.reduceAdd, Nat.reduceLT, Nat.reduceLeDiff, Nat.reduceEqDiff, Nat.add_zero, Nat.zero_add, ne_eq, not_false_eq_true, true_and, and_true, and_false, and_self, implies_true, forall_const, List.nil_append, List.cons_append, List.append_nil, List.getD_cons_zero, List.getD_cons_succ, List.length_cons, List.length_nil, List.take_succ_cons, List.take_zero, List.take_nil, List.drop_succ_cons, List.drop_zero, tab3, tab24, tab53, tab55, hN, Int.toNat_natCast, hK, el, g0, w1, w2, w3, d0, d1, d2, d3, hj]
            repeat refine And.intro (by first | omega | (simp; done) | (simp; omega)) ?_
            omega
        · have d2 : (v0.2.1 != K + 2) = true := by simpa using c2
          rw [if_neg (fun h => c2 h.2.2.1)] at hj
          simp only [V_seq, V_skip, V_ret, V_block, V_region, V_cond, brW_true, brW_false, W_nil, W_cons, effOp2, KN_seq, KXr_nil, KXr_seq, KXr_block, KXr_back, QE, asB, effOp, effPure, pureV, binV, partV, eltV, loadV, faddrV, iaddrV, ofC, strip, lkT, lkH, ISt.app, opI, gO, gB, allB, gval, wrapG, dstOK, setD, clean, Gives, Ideal.Fin, conv, conv0, Op.operands, reduceIte, reduceCtorEq, Nat.reduceAdd, Nat.reduceLT, Nat.reduceLeDiff, Nat.reduceEqDiff, Nat.add_zero, Nat.zero_add, ne_eq, not_false_eq_true, true_and, and_true, and_false, and_self, implies_true, forall_const, List.nil_append, List.cons_append, List.append_nil, List.getD_cons_zero, List.getD_cons_succ, List.length_cons, List.length_nil, List.take_succ_cons, List.take_zero, List.drop_succ_cons, List.drop_zero, tab3, tab24, tab53, tab55, hN, Int.toNat_natCast, hK, el, g0, w1, w2, d0, d1, d2, hj]
          repeat refine And.intro (by first | omega | (simp; done) | (simp; omega)) ?_
          omega
      · have d1 : (v0.1.2 != K + 1) = true := by simpa using c1
        rw [if_neg (fun h => c1 h.2.1)] at hj
        simp only [V_seq, V_skip, V_ret, V_block, V_region, V_cond, brW_true, brW_false, W_nil, W_cons, effOp2, KN_seq, KXr_nil, KXr_seq, KXr_block, KXr_back, QE, asB, effOp, effPure, pureV, binV, partV, eltV, loadV, faddrV, iaddrV, ofC, strip, lkT, lkH, ISt.app, opI, gO, gB, allB, gval, wrapG, dstOK, setD, clean, Gives, Ideal.Fin, conv, conv0, Op.operands, reduceIte, reduceCtorEq, Nat.reduceAdd, Nat.reduceLT, Nat.reduceLeDiff, Nat.reduceEqDiff, Nat.add_zero, Nat.zero_add, ne_eq, not_false_eq_true, true_and, and_true, and_false, and_self, implies_true, forall_const, List.nil_append, List.cons_append, List.append_nil, List.getD_cons_zero, List.getD_cons_succ, List.length_cons, List.length_nil, List.take_succ_cons, List.take_zero, List.drop_succ_cons, List.drop_zero, tab3, tab24, tab53, tab55, hN, Int.toNat_natCast, hK, el, g0, w1, d0, d1, hj]
        repeat refine And.intro (by first | omega | (simp; done) | (simp; omega)) ?_
        omega
    · have d0 : (v0.1.1 != K) = true := by simpa using c0
      rw [if_neg (fun h => c0 h.1)] at hj
      simp only [V_seq, V_skip, V_ret, V_block, V_region, V_cond, brW_true, W_nil, W_cons, effOp2, KN_seq, KXr_nil, KXr_seq, KXr_block, KXr_back, QE, asB, effOp, effPure, pureV, binV, partV, eltV, loadV, faddrV, iaddrV, ofC, strip, lkT, lkH, ISt.app, opI, gO, gB, allB, gval, wrapG, dstOK, setD, clean, Gives, Ideal.Fin, conv, conv0, Op.operands, reduceIte, reduceCtorEq, Nat.reduceAdd, Nat.reduceLT, Nat.reduceLeDiff, Nat.reduceEqDiff, Nat.add_zero, Nat.zero_add, ne_eq, not_false_eq_true, true_and, and_true, and_false, and_self, implies_true, forall_const, List.nil_append, List.cons_append, List.append_nil, List.getD_cons_zero, List.length_cons, List.length_nil, List.take_succ_cons, List.take_zero, List.drop_zero, tab3, tab24, tab53, tab55, hN, Int.toNat_natCast, hK, el, g0, d0, hj]
      repeat refine And.intro (by first | omega | (simp; done) | (simp; omega)) ?_
      omega
  · have hie : i = l.length := by simp at h; omega
    subst hie
    have hf : heldQ l k = k + 4 * (l.length : Int) := by rw [hj]; simp [heldQ]
    simp only [V_seq, V_ret, V_exit, V_region, W_nil, W_cons, effOp2, KN_seq, KXr_nil, KXe_nil, KXe_seq, KXe_block, KXe_back, QE, effOp, effPure, pureV, strip, lkT, lkH, ISt.app, opI, gO, gB, allB, gval, wrapG, dstOK, setD, clean, Gives, Ideal.Fin, conv, conv0, Op.operands, reduceIte, reduceCtorEq, Nat.reduceLT, Nat.reduceEqDiff, and_self, implies_true, List.nil_append, List.cons_append, List.append_nil, hN, hf]
def sp_laws_heldRatPointS : PSpec := ⟨fun xs => match xs with | [.sl 4 les, .num .i64 k] => isQs les ∧ ((fun (l : List Qd) (k : Int) => l.length ≤ 2000000) (toQs les) k) ∧ ((fun (l : List Qd) (k : Int) => 0 ≤ k) (toQs les) k) ∧ ((fun (l : List Qd) (k : Int) => k ≤ 2000000) (toQs les) k) | _ => False, fun xs => match xs with | [.sl _ les, .num _ k] => (fun (l : List Qd) (k : Int) => .num .i64 (heldQ l k)) (toQs les) k | _ => .junk, false⟩
theorem gk_laws_heldRatPointS : ∀ args, sp_laws_heldRatPointS.pre args → ICall Try.prog 23 args (sp_laws_heldRatPointS.val args) := by
  intro args h
  unfold sp_laws_heldRatPointS at h ⊢; simp only at h ⊢; split at h
  · obtain ⟨h0, h1, h2, h3⟩ := h
    obtain ⟨l0, rfl⟩ := isQ_ex h0
    simp only [toQs_enc] at *
    exact c_laws_heldRatPointS _ _ h1 h2 h3
  · exact h.elim
theorem en_laws_heldRatPointS : Enters Try.prog 23 := enters_of Try.func23 (by kernel_rfl) rfl


def g_laws_markRatPointS_n : List (Nat × PSpec) := []
theorem gok_laws_markRatPointS_n : GOK Try.prog g_laws_markRatPointS_n := gok0
def h_laws_markRatPointS_n : List (Nat × HSpec) := []
theorem hok_laws_markRatPointS_n : HOK Try.prog h_laws_markRatPointS_n := hok0
theorem c_laws_markRatPointS_n (k : Int)  : HCall Try.prog 22 [.sl 4 [], .num .i64 k] (sm ([])) (.num .i64 k) (sm ([])) := by
  refine hcall_V (G := g_laws_markRatPointS_n) (H := []) [] tabOK mixed gok_laws_markRatPointS_n hok_laws_markRatPointS_n Try.func22 rfl Try.ntmps22 Try.results22 rfl (by kernel_rfl) fun F hN hlen => ?_
  simp only [sm]
  have d1 : decide (((0 : Nat) : Int) < ((0 : Nat) : Int)) = false := rfl
  simp only [V_seq, V_block, V_region, W_nil, W_cons, effOp2, KN_seq, effOp, effPure, pureV, ofC, strip, ISt.app, opI, gO, gB, allB, gval, wrapG, dstOK, setD, enumT, Op.operands, Nat.reduceLT, Nat.zero_add, true_and, and_self, implies_true, List.nil_append, List.cons_append, List.append_nil, hN]
  refine V_loop (α := Nat) ⟨tabOK, mixed, gok_laws_markRatPointS_n, hok_laws_markRatPointS_n⟩ (by kernel_rfl) (fun i => i = 0) (fun i => ⟨[(5, .num .i64 i), (0, .sl 4 []), (1, .num .i64 k)], []⟩) (fun i => 0) 0 id rfl (by simp [SLe, SLe0, convTm, convHp, conv, conv0, lkT, lkH, clean]) ?_
  rintro i rfl
  simp only [V_seq, V_ret, V_exit, V_region, V_cond, brW_false, W_nil, W_cons, effOp2, KN_seq, KXr_nil, KXe_nil, KXe_seq, KXe_block, KXe_back, QE, asB, effOp, effPure, pureV, binV, lenV, strip, lkT, lkH, ISt.app, opI, gO, gB, allB, gval, wrapG, dstOK, setD, clean, conv, conv0, Op.operands, Call.operands, List.append_toArray, reduceIte, reduceCtorEq, Nat.reduceLT, Nat.reduceEqDiff, ne_eq, not_false_eq_true, true_and, and_self, implies_true, List.map_nil, List.nil_append, List.cons_append, List.append_nil, List.length_nil, tab24, hN, FinH, resA, resV, SLe, SLe0, convTm, convHp, d1]
  exact ⟨id, List.nodup_nil, fun _ _ _ => rfl⟩
def hs_laws_markRatPointS_n : HSpec := ⟨[false, false], fun xs hp => match xs, hp with | [.sl 4 [], .num .i64 k], [] => True | _, _ => False, fun xs hp => match xs, hp with | [.sl 4 [], .num .i64 k], [] => (fun (k : Int) => (.num .i64 k : IV)) k | _, _ => .junk, fun xs hp => match xs, hp with | [.sl 4 [], .num .i64 k], [] => (fun (k : Int) => ([] : List (Nat × IBlk))) k | _, _ => []⟩
theorem hk_laws_markRatPointS_n : ∀ args hp, hs_laws_markRatPointS_n.pre args hp → HCall Try.prog 22 args (sm hp) (hs_laws_markRatPointS_n.val args hp) (sm (hs_laws_markRatPointS_n.hval args hp)) := by
  intro args hp h
  unfold hs_laws_markRatPointS_n at h ⊢; simp only at h ⊢; split at h
  · exact c_laws_markRatPointS_n _
  · exact h.elim
theorem en_laws_markRatPointS_n : Enters Try.prog 22 := enters_of Try.func22 (by kernel_rfl) rfl


def hs_laws_markRatPointS_or : HSpec := hs_or hs_laws_markRatPointS_n hs_laws_markRatPointS sel_sl
theorem hk_laws_markRatPointS_or : ∀ args hp, hs_laws_markRatPointS_or.pre args hp → HCall Try.prog 22 args (sm hp) (hs_laws_markRatPointS_or.val args hp) (sm (hs_laws_markRatPointS_or.hval args hp)) := hk_or hk_laws_markRatPointS_n hk_laws_markRatPointS
theorem en_laws_markRatPointS_or : Enters Try.prog 22 := en_laws_markRatPointS
end Go.Proofs.Ytlgjhojihgmfhaa
