/- Contracts: the witnesses of all points. -/
import Derived.Test.YtiadicmnbjaknaaB101
set_option linter.unusedVariables false
set_option linter.unusedSimpArgs false
set_option maxHeartbeats 16000000
set_option maxRecDepth 100000
namespace Go.Proofs.Ytiadicmnbjaknaa
open Go Go.Ideal Go.Pl Go.Sort

def wits (l : List Pt) : List (List Int) := l.map (witP (hullP l))
def witsV (l : List Pt) : List (List Int) := if okPs l = true then wits l else []
theorem wits_len (l : List Pt) : (wits l).length = l.length := by simp [wits]
theorem wits_at {l : List Pt} {i : Nat} (h : i < l.length) : wAt (wits l) i = witP (hullP l) (pAt l i) := by
  simp [wits, wAt, pAt, List.getD, h]
theorem wits_take {l : List Pt} {i : Nat} (h : i < l.length) : encLI ((wits l).take i) ++ [.sl 1 (encI (witP (hullP l) (pAt l i)))] = encLI ((wits l).take (i + 1)) := by
  have e : (wits l).take (i + 1) = (wits l).take i ++ [wAt (wits l) i] := take_succ_g (d := []) (by rw [wits_len]; exact h)
  rw [e, ← encLI_app, wits_at h]
  rfl

def g_spec_HullWitness : List (Nat × PSpec) := [(13, sp_spec_validPoints), (14, sp_spec_hull), (15, sp_spec_witness)]
theorem gok_spec_HullWitness : GOK Try.prog g_spec_HullWitness := gok_cons gk_spec_validPoints en_spec_validPoints (gok_cons gk_spec_hull en_spec_hull (gok_cons gk_spec_witness en_spec_witness (gok0)))
theorem lk_spec_HullWitness_spec_validPoints : lkG g_spec_HullWitness 13 = sp_spec_validPoints := rfl
theorem lk_spec_HullWitness_spec_hull : lkG g_spec_HullWitness 14 = sp_spec_hull := rfl
theorem lk_spec_HullWitness_spec_witness : lkG g_spec_HullWitness 15 = sp_spec_witness := rfl
def h_spec_HullWitness : List (Nat × HSpec) := []
theorem hok_spec_HullWitness : HOK Try.prog h_spec_HullWitness := hok0
theorem c_spec_HullWitness (l : List Pt)  : ICall Try.prog 5 [.sl 2 (encPs l)] (.sl 1 (encLI (witsV l))) := by
  refine icall_V (G := g_spec_HullWitness) (H := []) [] tabOK mixed gok_spec_HullWitness hok_spec_HullWitness Try.func5 rfl Try.ntmps5 Try.results5 rfl (by kernel_rfl) fun F hN hlen => ?_
  have hl := hlen 0 2 _ rfl
  have el := len_encPs l
  rw [el] at hl
  cases hk : okPs l with
  | false =>
    have hv : witsV l = [] := by rw [witsV, hk]; rfl
    simp only [V_seq, V_ret, V_region, V_cond, brW_true, W_nil, W_cons, effOp2, KN_seq, KXr_nil, KXr_seq, QE, asB, effOp, effPure, effNew, effBuildSlice, effFrz, frz, tmpsOf, effCall, giveUp, hasAll, skipE, pureV, ofC, strip, lkT, lkH, ISt.app, opI, gO, gB, allB, gval, wrapG, dstOK, setD, mentTm, mentHp, IV.ment, partsL, eltsI, lendV, lendP, lent, lentP, idsV, idsL, lkHS, flat, clean, callArgs, callFn, allLent, enumT, Gives, Ideal.Fin, conv, conv0, Op.operands, reduceIte, reduceCtorEq, cond_true, Bool.or_false, Bool.not_true, Bool.not_false, Nat.reduceMul, Nat.reduceLT, Nat.reduceLeDiff, Nat.reduceEqDiff, ne_eq, not_false_eq_true, true_and, and_self, implies_true, List.map_cons, List.map_nil, List.nil_append, List.cons_append, List.append_nil, List.length_nil, ex_clo, or_self, tab24, tab35, hN, isPs_enc, toPs_enc, lk_spec_HullWitness_spec_validPoints, sp_spec_validPoints, hk, hv]
    rfl
  | true =>
    have hv : witsV l = wits l := by rw [witsV, hk]; rfl
    have hz := okPs_len hk
    have hm := okPs_sm hk
    have hz2 : l.length ≤ 1000 := by omega
    have hmh := SmL.hull hm
    simp only [V_seq, V_skip, V_block, V_region, V_cond, brW_false, W_nil, W_cons, effOp2, KN_seq, asB, effOp, effPure, effNew, effBuildSlice, effFrz, frz, tmpsOf, effCall, giveUp, hasAll, skipE, pureV, ofC, strip, lkT, lkH, ISt.app, opI, gO, gB, allB, gval, wrapG, dstOK, setD, mentTm, mentHp, IV.ment, partsL, eltsI, lendV, lendP, lent, lentP, idsV, idsL, lkHS, flat, clean, callArgs, callFn, allLent, enumT, Op.operands, reduceIte, reduceCtorEq, cond_true, cond_false, Bool.or_false, Bool.not_true, Nat.reduceMul, Nat.reduceLT, Nat.reduceLeDiff, Nat.reduceEqDiff, ne_eq, not_false_eq_true, true_and, and_self, implies_true, List.map_cons, List.map_nil, List.nil_append, List.cons_append, List.append_nil, List.length_nil, ex_clo, or_true, or_self, Bool.false_eq_true, tab24, tab35, hN, isPs_enc, toPs_enc, lk_spec_HullWitness_spec_validPoints, lk_spec_HullWitness_spec_hull, sp_spec_validPoints, sp_spec_hull, hk, hm, hz2]
    refine V_loop (α := Nat) ⟨tabOK, mixed, gok_spec_HullWitness.toF F, hok_spec_HullWitness⟩ (by kernel_rfl) (fun i => i ≤ l.length) (fun i => ⟨[(5, .num .i64 i), (3, .ref 6 0 i true), (4, .sl 2 (encPs (hullP l))), (0, .sl 2 (encPs l))], [(6, some (.arr 1 35 (encLI ((wits l).take i))))]⟩) (fun i => l.length - i) 0 id (Nat.zero_le _) (by simp [SLe, SLe0, convTm, convHp, convB, conv, conv0, lkT, lkH, clean, encLI]) ?_
    intro i hi
    have eL : (encLI ((wits l).take i)).length = i := by rw [len_encLI, List.length_take, wits_len]; omega
    have eT : (encLI ((wits l).take i)).take i = encLI ((wits l).take i) := List.take_of_length_le (by omega)
    simp only [V_seq, V_region, V_cond, W_nil, W_cons, effOp2, KN_seq, asB, effOp, effPure, pureV, binV, lenV, strip, lkT, ISt.app, opI, gO, gB, allB, gval, wrapG, dstOK, setD, Op.operands, Call.operands, List.append_toArray, reduceIte, reduceCtorEq, Nat.reduceLT, Nat.reduceEqDiff, ne_eq, not_false_eq_true, true_and, and_self, implies_true, List.nil_append, List.cons_append, tab26, hN, el]
    refine brW_some (fun h => ?_) (fun h => ?_)
    · have hi' : i < l.length := by simpa using h
      have hw := wr_succ hi' hl
      have g0 := getD_encPs hi'
      have s0 := hm.at i
      have hs := wits_take hi'
      obtain ⟨p, hp⟩ : ∃ p, pAt l i = p := ⟨_, rfl⟩
      rw [hp] at g0 s0 hs
      simp only [V_seq, V_skip, V_block, V_region, W_nil, W_cons, effOp2, KN_seq, KN_block, KN_back, effOp, effPure, effNew, effBuildSlice, effFrz, frz, tmpsOf, effAppend, effZeros, effCall, giveUp, hasAll, skipE, pureV, srcV, refId, binV, partV, eltV, loadV, iaddrV, ofC, strip, lkT, lkH, ISt.app, opI, gO, gB, allB, gval, wrapG, dstOK, setD, mentTm, mentHp, IV.ment, IV.mentL, partsL, eltsI, eltI, noId', lendV, lendP, lent, lentP, idsV, idsL, lkHS, flat, clean, callArgs, callFn, allLent, Op.operands, reduceIte, reduceCtorEq, cond_true, cond_false, Bool.or_false, Bool.not_true, Nat.reduceAdd, Nat.reduceMul, Nat.reduceLT, Nat.reduceLeDiff, Nat.reduceEqDiff, Nat.reduceBEq, Nat.zero_add, ne_eq, not_false_eq_true, true_and, and_true, and_false, and_self, implies_true, forall_const, List.map_cons, List.map_nil, List.nil_append, List.cons_append, List.append_nil, Option.some.injEq, List.getD_cons_zero, List.length_cons, List.length_nil, List.take_succ_cons, List.take_nil, List.drop_zero, ex_clo, or_true, Bool.false_eq_true, tab24, tab26, tab35, tab38, hN, pe, Int.toNat_natCast, isPs_enc, toPs_enc, lk_spec_HullWitness_spec_witness, sp_spec_witness, el, g0, s0, hmh, eL, eT, hw, hs]
      repeat refine And.intro (by first | omega | (simp; done) | (simp; omega)) ?_
      refine ⟨i + 1, fun x => if x = 6 then 26 else x, by simp only []; omega, by simp only []; omega, ?_⟩
      simp [SLe, SLe0, convTm, convHp, convB, conv, conv0, lkT, lkH, clean]
      omega
    · have hie : i = l.length := by simp at h; omega
      subst hie
      simp only [V_seq, V_ret, V_exit, V_region, W_nil, W_cons, effOp2, KN_seq, KXr_nil, KXe_nil, KXe_seq, KXe_block, KXe_back, QE, effOp, effPure, pureV, strip, lkT, lkH, ISt.app, opI, gO, gB, allB, gval, wrapG, dstOK, setD, Gives, Ideal.Fin, conv, conv0, Op.operands, reduceIte, reduceCtorEq, Nat.reduceLT, Nat.reduceEqDiff, Nat.zero_add, ne_eq, true_and, and_self, implies_true, List.nil_append, List.cons_append, Option.some.injEq, List.drop_zero, hN]
      exact ⟨_, _, rfl, by omega, by rw [hv, eT, List.take_of_length_le (by rw [wits_len]; exact Nat.le_refl _)], by simp⟩
def sp_spec_HullWitness : PSpec := ⟨fun xs => match xs with | [.sl 2 les] => isPs les | _ => False, fun xs => match xs with | [.sl _ les] => (fun (l : List Pt) => .sl 1 (encLI (witsV l))) (toPs les) | _ => .junk, false⟩
theorem gk_spec_HullWitness : ∀ args, sp_spec_HullWitness.pre args → ICall Try.prog 5 args (sp_spec_HullWitness.val args) := by
  intro args h
  unfold sp_spec_HullWitness at h ⊢; simp only at h ⊢; split at h
  · have h0 := h
    obtain ⟨l0, rfl⟩ := isP_ex h0
    try simp only [toPs_enc] at *
    exact c_spec_HullWitness _ 
  · exact h.elim
theorem en_spec_HullWitness : Enters Try.prog 5 := enters_of Try.func5 (by kernel_rfl) rfl

def g_impl_HullWitness : List (Nat × PSpec) := [(17, sp_impl_listOk), (18, sp_impl_hull), (19, sp_impl_witness_v)]
theorem gok_impl_HullWitness : GOK Try.prog g_impl_HullWitness := gok_cons gk_impl_listOk en_impl_listOk (gok_cons gk_impl_hull en_impl_hull (gok_consO gk_impl_witness_v en_impl_witness_v (gok0)))
theorem lk_impl_HullWitness_impl_listOk : lkG g_impl_HullWitness 17 = sp_impl_listOk := rfl
theorem lk_impl_HullWitness_impl_hull : lkG g_impl_HullWitness 18 = sp_impl_hull := rfl
theorem lk_impl_HullWitness_impl_witness_v : lkG g_impl_HullWitness 19 = sp_impl_witness_v := rfl
def h_impl_HullWitness : List (Nat × HSpec) := []
theorem hok_impl_HullWitness : HOK Try.prog h_impl_HullWitness := hok0
theorem c_impl_HullWitness (l : List Pt)  : ICall Try.prog 7 [.sl 2 (encPs l)] (.sl 1 (encLI (witsV l))) := by
  refine icall_V (G := g_impl_HullWitness) (H := []) [] tabOK mixed gok_impl_HullWitness hok_impl_HullWitness Try.func7 rfl Try.ntmps7 Try.results7 rfl (by kernel_rfl) fun F hN hlen => ?_
  have hl := hlen 0 2 _ rfl
  have el := len_encPs l
  rw [el] at hl
  cases hk : okPs l with
  | false =>
    have hv : witsV l = [] := by rw [witsV, hk]; rfl
    simp only [V_seq, V_ret, V_region, V_cond, brW_true, W_nil, W_cons, effOp2, KN_seq, KXr_nil, KXr_seq, QE, asB, effOp, effPure, effCall, giveUp, hasAll, pureV, ofC, strip, lkT, lkH, ISt.app, opI, gO, gB, allB, gval, wrapG, dstOK, setD, lendV, lendP, lent, lentP, idsV, idsL, lkHS, flat, clean, callArgs, callFn, allLent, enumT, Gives, Ideal.Fin, conv, conv0, Op.operands, reduceIte, reduceCtorEq, cond_true, Bool.or_false, Bool.not_true, Bool.not_false, Nat.reduceLT, Nat.reduceEqDiff, true_and, and_self, implies_true, List.map_cons, List.map_nil, List.nil_append, List.cons_append, List.append_nil, ex_clo, or_self, hN, isPs_enc, toPs_enc, lk_impl_HullWitness_impl_listOk, sp_impl_listOk, hk, hv]
    rfl
  | true =>
    have hv : witsV l = wits l := by rw [witsV, hk]; rfl
    have hz := okPs_len hk
    have hm := okPs_sm hk
    have hz2 : l.length ≤ 400000 := by omega
    have hmh := SmL.hull hm
    simp only [V_seq, V_skip, V_block, V_region, V_cond, brW_false, W_nil, W_cons, effOp2, KN_seq, asB, effOp, effPure, effNew, effMake, effCall, giveUp, hasAll, skipE, pureV, lenV, ofC, strip, lkT, lkH, ISt.app, opI, gO, gB, allB, gval, wrapG, dstOK, setD, mentTm, mentHp, IV.ment, zeroElt, noId', lendV, lendP, lent, lentP, idsV, idsL, lkHS, flat, clean, callArgs, callFn, allLent, enumT, Op.operands, Call.operands, List.append_toArray, reduceIte, reduceCtorEq, cond_true, cond_false, Bool.or_false, Bool.not_true, Nat.reduceLT, Nat.reduceLeDiff, Nat.reduceEqDiff, ne_eq, not_false_eq_true, true_and, and_self, implies_true, List.map_cons, List.map_nil, List.nil_append, List.cons_append, List.append_nil, ex_clo, or_true, or_self, Bool.false_eq_true, tab24, tab26, tab35, hN, isPs_enc, toPs_enc, lk_impl_HullWitness_impl_listOk, lk_impl_HullWitness_impl_hull, sp_impl_listOk, sp_impl_hull, hk, hm, hz2, el]
    repeat refine And.intro (by first | omega | (simp; done) | (simp; omega)) ?_
    refine V_loop (α := Nat) ⟨tabOK, mixed, gok_impl_HullWitness.toF F, hok_impl_HullWitness⟩ (by kernel_rfl) (fun i => i ≤ l.length) (fun i => ⟨[(17, .num .i64 i), (16, .num .i64 l.length), (15, .sl 2 (encPs l)), (4, .ref 14 0 i true), (3, .sl 2 (encPs (hullP l)))], [(14, some (.arr 1 35 (encLI ((wits l).take i))))]⟩) (fun i => l.length - i) 0 id (Nat.zero_le _) (by simp [SLe, SLe0, convTm, convHp, convB, conv, conv0, lkT, lkH, clean, encLI]) ?_
    intro i hi
    have eL : (encLI ((wits l).take i)).length = i := by rw [len_encLI, List.length_take, wits_len]; omega
    have eT : (encLI ((wits l).take i)).take i = encLI ((wits l).take i) := List.take_of_length_le (by omega)
    simp only [V_seq, V_region, V_cond, W_nil, W_cons, effOp2, KN_seq, asB, effOp, effPure, pureV, binV, strip, lkT, ISt.app, opI, gO, gB, allB, gval, wrapG, dstOK, setD, Op.operands, reduceIte, Nat.reduceLT, Nat.reduceEqDiff, true_and, and_self, implies_true, List.nil_append, List.cons_append, hN]
    refine brW_some (fun h => ?_) (fun h => ?_)
    · have hi' : i < l.length := by simpa using h
      have hw := wr_succ hi' hl
      have g0 := getD_encPs hi'
      have s0 := hm.at i
      have hs := wits_take hi'
      obtain ⟨p, hp⟩ : ∃ p, pAt l i = p := ⟨_, rfl⟩
      rw [hp] at g0 s0 hs
      simp only [V_seq, V_skip, V_block, V_region, W_nil, W_cons, effOp2, KN_seq, KN_block, KN_back, effOp, effPure, effNew, effAlloc, effBuildSlice, effFrz, frz, tmpsOf, effStore, effAppend, effZeros, effCall, giveUp, hasAll, skipE, pureV, storeV, srcV, refId, binV, partV, eltV, loadV, iaddrV, over, solid, IV.cells, ofC, strip, lkT, lkH, ISt.app, opI, gO, gB, allB, gval, wrapG, dstOK, setD, mentTm, mentHp, IV.ment, IV.mentL, partsL, eltsI, eltI, oneI, noId', lendV, lendP, lent, lentP, idsV, idsL, lkHS, flat, clean, callArgs, callFn, allLent, Op.operands, reduceIte, reduceCtorEq, cond_true, Bool.or_false, Bool.or_true, Bool.and_true, Bool.not_true, Nat.reduceAdd, Nat.reduceMul, Nat.reduceLT, Nat.reduceLeDiff, Nat.reduceEqDiff, Nat.reduceBEq, Nat.zero_add, ne_eq, not_false_eq_true, true_and, and_true, and_false, and_self, implies_true, forall_const, List.map_cons, List.map_nil, List.nil_append, List.cons_append, List.append_nil, List.all_cons, List.all_nil, Option.some.injEq, List.getD_cons_zero, List.length_cons, List.length_nil, List.take_succ_cons, List.take_zero, List.take_nil, List.drop_succ_cons, List.drop_zero, List.drop_nil, ex_clo, or_self, tab24, tab26, tab35, tab38, hN, pe, Int.toNat_natCast, isPs_enc, toPs_enc, lk_impl_HullWitness_impl_witness_v, sp_impl_witness_v, el, g0, s0, hmh, eL, eT, hw, hs]
      repeat refine And.intro (by first | omega | (simp; done) | (simp; omega)) ?_
      refine ⟨i + 1, fun x => if x = 14 then 26 else x, by simp only []; omega, by simp only []; omega, ?_⟩
      simp [SLe, SLe0, convTm, convHp, convB, conv, conv0, lkT, lkH, clean]
      omega
    · have hie : i = l.length := by simp at h; omega
      subst hie
      simp only [V_seq, V_ret, V_exit, V_region, W_nil, W_cons, effOp2, KN_seq, KXr_nil, KXe_nil, KXe_seq, KXe_block, KXe_back, QE, effOp, effPure, pureV, strip, lkT, lkH, ISt.app, opI, gO, gB, allB, gval, wrapG, dstOK, setD, Gives, Ideal.Fin, conv, conv0, Op.operands, reduceIte, Nat.reduceLT, Nat.reduceEqDiff, Nat.zero_add, ne_eq, true_and, and_self, implies_true, List.nil_append, List.cons_append, Option.some.injEq, List.drop_zero, hN]
      exact ⟨_, _, rfl, by omega, by rw [hv, eT, List.take_of_length_le (by rw [wits_len]; exact Nat.le_refl _)], by simp⟩
def sp_impl_HullWitness : PSpec := ⟨fun xs => match xs with | [.sl 2 les] => isPs les | _ => False, fun xs => match xs with | [.sl _ les] => (fun (l : List Pt) => .sl 1 (encLI (witsV l))) (toPs les) | _ => .junk, false⟩
theorem gk_impl_HullWitness : ∀ args, sp_impl_HullWitness.pre args → ICall Try.prog 7 args (sp_impl_HullWitness.val args) := by
  intro args h
  unfold sp_impl_HullWitness at h ⊢; simp only at h ⊢; split at h
  · have h0 := h
    obtain ⟨l0, rfl⟩ := isP_ex h0
    try simp only [toPs_enc] at *
    exact c_impl_HullWitness _ 
  · exact h.elim
theorem en_impl_HullWitness : Enters Try.prog 7 := enters_of Try.func7 (by kernel_rfl) rfl

end Go.Proofs.Ytiadicmnbjaknaa
