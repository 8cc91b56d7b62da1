/- Sorted points as own memory; drawn points in order: spec.anySites. -/
import Derived.Test.YteaanfpkakaaoaaBO
set_option linter.unusedVariables false
set_option linter.unusedSimpArgs false
set_option maxHeartbeats 1600000
set_option maxRecDepth 100000
namespace Go.Proofs.Yteaanfpkakaaoaa
open Go Go.Ideal Go.Pl Go.Sort

/-- Is a point in the list already? -/
def inA (l : List Pt) (p : Pt) : Bool := (addP l p).length == l.length
def addV (l : List Pt) (p : Pt) (full : Bool) : IV := bif inA l p then .ref 1000 0 l.length full else .ref 0 0 (l.length + 1) true
def addH (l : List Pt) (p : Pt) : List (Nat × IBlk) := bif inA l p then [(1000, .arr 2 34 (encPs l))] else [(0, .arr 2 34 (encPs (addP l p))), (1000, .arr 2 34 (encPs l))]
theorem addP_or (p : Pt) : ∀ l : List Pt, addP l p = l ∨ (addP l p).length = l.length + 1
  | [] => .inr rfl
  | q :: l => by
    rcases addP_or p l with h | h
    · simp only [addP]
      split
      · exact .inl (by rw [h])
      · split
        · exact .inl rfl
        · exact .inr rfl
    · simp only [addP]
      split
      · exact .inr (by rw [List.length_cons, h, List.length_cons])
      · split
        · exact .inl rfl
        · exact .inr rfl
theorem addP_same {l : List Pt} {p : Pt} (h : inA l p = true) : addP l p = l := by
  rcases addP_or p l with e | e
  · exact e
  · rw [inA, beq_iff_eq] at h; omega
theorem addP_more {l : List Pt} {p : Pt} (h : inA l p = false) : (addP l p).length = l.length + 1 := by
  rcases addP_or p l with e | e
  · rw [inA, e] at h; simp at h
  · exact e
def g_spec_addPoint_h : List (Nat × PSpec) := [(53, sp_spec_pointLess)]
theorem gok_spec_addPoint_h : GOK Try.prog g_spec_addPoint_h := gok_cons gk_spec_pointLess en_spec_pointLess (gok0)
theorem lk_spec_addPoint_h_spec_pointLess : lkG g_spec_addPoint_h 53 = sp_spec_pointLess := rfl
def h_spec_addPoint_h : List (Nat × HSpec) := []
theorem hok_spec_addPoint_h : HOK Try.prog h_spec_addPoint_h := hok0
theorem c_spec_addPoint_h (l : List Pt) (full : Bool) (p : Pt) (hsz : l.length ≤ 1000) : HCall Try.prog 73 [.ref 1000 0 l.length full, encP p] (sm ([(1000, .arr 2 34 (encPs l))])) (addV l p full) (sm (addH l p)) := by
  refine hcall_V (G := g_spec_addPoint_h) (H := []) [(2, [(0, 10), (1, 10), (2, 10), (3, 10), (5, 10), (6, 10), (7, 10)])] tabOK mixed gok_spec_addPoint_h hok_spec_addPoint_h Try.func73 rfl Try.ntmps73 Try.results73 rfl (by kernel_rfl) fun F hN hlen => ?_
  simp only [sm]
  have el := len_encPs l
  have hl : l.length ≤ maxLen := by rw [maxLen_eq]; omega
  have hx : ∃ k ty es, IBlk.arr 2 34 (encPs l) = IBlk.arr k ty es := ⟨_, _, _, rfl⟩
  simp only [V_seq, V_block, V_region, W_nil, W_cons, effOp2, KN_seq, effOp, effPure, effNew, effBox, skipE, pureV, solid, IV.cells, ofC, strip, lkT, ISt.app, opI, gO, gB, allB, gval, wrapG, dstOK, setD, mentTm, mentHp, IV.ment, IV.mentL, oneI, enumT, Op.operands, reduceIte, reduceCtorEq, cond_true, Bool.or_false, Bool.and_true, Nat.reduceLT, Nat.reduceBEq, Nat.zero_add, true_and, and_self, implies_true, List.nil_append, List.cons_append, List.all_cons, List.all_nil, hN, encP]
  refine V_loop (α := Nat) ⟨tabOK, mixed, gok_spec_addPoint_h, hok_spec_addPoint_h⟩ (by kernel_rfl) (fun i => i ≤ l.length ∧ addP l p = l.take i ++ addP (l.drop i) p) (fun i => ⟨[(5, .num .i64 i), (3, .ptr 3 0), (0, .ref 1000 0 l.length full)], [(3, some (.box 34 [.num .i64 p.1, .num .i64 p.2])), (1000, some (.arr 2 34 (encPs l)))]⟩) (fun i => l.length - i) 0 id (by simp) (by simp [SLe, SLe0, convTm, convHp, convB, conv, conv0, convL, lkT, lkH, clean]) ?_
  rintro i ⟨hi, hj⟩
  have lt : (encPs (l.take i)).length = i := by simp [encPs]; omega
  have ld : (encPs (l.drop i)).length = l.length - i := by simp [encPs]
  have htk : (encPs (l.drop i)).take (l.length - i) = encPs (l.drop i) := List.take_of_length_le (by omega)
  have htk2 : (encPs (l.take i)).take i = encPs (l.take i) := List.take_of_length_le (by omega)
  rcases Nat.lt_or_ge i l.length with hi' | hge
  · have g1 := getD_encPs hi'
    have hw := wr_succ hi' hl
    have hd : decide ((i : Int) < (l.length : Int)) = true := by simpa using hi'
    simp only [V_seq, V_draw, V_cond, drawW, WS_nil, pairsOf, W_nil, W_cons, effOp2, effOp3, WI_nil, WI_cons, KN_seq, dynOK, indB, farB, freshB, freshK, freshK1, heapy, asB, effOp, effPure, effPick, effCall, giveUp, hasAll, pureV, pickV, binV, partV, eltV, loadV, iaddrV, lenV, ofC, strip, lkT, lkH, ISt.app, opI, gO, gB, allB, gval, wrapG, dstOK, setD, mentTm, mentHp, IV.ment, lendV, lendP, lent, lentP, idsV, idsL, lkHS, flat, clean, callArgs, callFn, allLent, Op.operands, Call.operands, List.append_toArray, reduceIte, reduceCtorEq, cond_true, cond_false, Bool.or_false, Bool.and_true, Bool.and_eq_true, Bool.not_true, Bool.not_false, Nat.reduceAdd, Nat.reduceLT, Nat.reduceLeDiff, Nat.reduceEqDiff, Nat.reduceBEq, Nat.zero_add, ne_eq, not_false_eq_true, beq_self_eq_true, true_and, and_true, and_false, and_self, implies_true, forall_const, List.map_cons, List.map_nil, List.nil_append, List.cons_append, List.append_nil, Option.bind_some, List.getElem?_cons_zero, List.getElem?_cons_succ, List.getD_cons_zero, List.getD_cons_succ, List.length_cons, List.length_nil, List.take_succ_cons, List.take_zero, List.take_nil, List.drop_zero, ex_clo, or_self, Bool.true_eq_false, tab23, tab34, hN, pe, Int.toNat_natCast, lk_spec_addPoint_h_spec_pointLess, sp_spec_pointLess, el, Int.toNat_natCast, Nat.zero_add, g1, hd]
    repeat refine And.intro (by omega) ?_
    refine brW_some (fun h => ?_) (fun h => ?_)
    · simp only [V_skip, V_block, V_region, W_nil, W_cons, effOp2, KN_seq, KN_block, KN_back, effOp, effPure, pureV, binV, ofC, strip, lkT, ISt.app, opI, gO, gB, allB, gval, wrapG, dstOK, setD, Op.operands, reduceIte, reduceCtorEq, Nat.reduceLT, Nat.reduceEqDiff, true_and, and_self, implies_true, List.nil_append, List.cons_append, hN, hw]
      exact ⟨i + 1, id, ⟨by omega, addP_past hi' hj h⟩, by simp only []; omega, by simp [SLe, SLe0, convTm, convHp, convB, conv, conv0, convL, lkT, lkH, clean]⟩
    · simp only [V_seq, V_exit, V_draw, V_cond, drawW, pairsOf, WD_nil, WD_cons, effOp3, KN_seq, KXe_nil, KXe_seq, KXe_block, KXe_back, QE, asB, effOp, effPure, effPick, pureV, pickV, binV, partV, eltV, loadV, iaddrV, lenV, ofC, strip, lkT, lkH, ISt.app, opI, gO, gB, allB, gval, wrapG, dstOK, setD, eqL, numsOnly, Op.operands, Call.operands, List.append_toArray, reduceIte, reduceCtorEq, cond_true, Bool.and_true, Nat.reduceAdd, Nat.reduceLT, Nat.reduceLeDiff, Nat.reduceEqDiff, Nat.zero_add, ne_eq, not_false_eq_true, beq_self_eq_true, true_and, and_true, and_false, and_self, implies_true, forall_const, List.nil_append, List.cons_append, Option.bind_some, List.getElem?_cons_zero, List.getElem?_cons_succ, List.getD_cons_zero, List.length_cons, List.length_nil, List.take_succ_cons, List.take_nil, List.drop_zero, Bool.true_eq_false, tab23, tab34, hN, Int.toNat_natCast, FinH, el, Int.toNat_natCast, Nat.zero_add, g1, hd, eqP]
      have hst := addP_stop hi' hj h
      repeat refine And.intro (by omega) ?_
      refine brW_some (fun h => ?_) (fun h => ?_)
      · have hin : inA l p = true := by rw [inA, hst, if_pos h]; simp
        simp only [V_seq, V_ret, V_region, W_nil, W_cons, effOp2, KN_seq, KXr_nil, KXr_seq, QE, effOp, effPure, Option.isSome_some, pureV, strip, lkT, lkH, ISt.app, opI, gO, gB, allB, gval, wrapG, dstOK, setD, conv, conv0, Op.operands, reduceIte, reduceCtorEq, cond_true, Nat.reduceLT, Nat.reduceEqDiff, true_and, and_true, and_self, implies_true, List.map_cons, List.map_nil, List.nil_append, List.cons_append, hN, FinH, resA, resV, SLe, SLe0, convTm, convHp, convB, sm, addV, addH, hin]
        exact ⟨id, by simp⟩
      · have hfin : addP l p = l.take i ++ p :: l.drop i := by rw [hst, h]; rfl
        have hin : inA l p = false := by rw [inA, hfin, beq_eq_false_iff_ne]; simp; omega
        have hE : encPs (addP l p) = encPs (l.take i) ++ [.agg [.num .i64 p.1, .num .i64 p.2]] ++ encPs (l.drop i) := by rw [hfin, encPs_one p, encPs_app, encPs_app]; simp
        have hEl : (encPs (l.take i) ++ [IV.agg [.num .i64 p.1, .num .i64 p.2]]).length = i + 1 := by rw [List.length_append, lt]; rfl
        have hEt : (encPs (l.take i) ++ [IV.agg [.num .i64 p.1, .num .i64 p.2]]).take (i + 1) = encPs (l.take i) ++ [IV.agg [.num .i64 p.1, .num .i64 p.2]] := List.take_of_length_le (by omega)
        simp only [V_seq, V_skip, V_ret, V_region, W_nil, W_cons, effOp2, KN_seq, KXr_nil, QE, effOp, effPure, effNew, effBuildSlice, effFrz, frz, tmpsOf, effAppend, effZeros, Option.isSome_some, skipE, pureV, srcV, refId, partV, loadV, sliceV, strip, lkT, lkH, ISt.app, opI, gO, gB, allB, gval, wrapG, dstOK, setD, mentTm, mentHp, IV.ment, IV.mentL, partsL, eltsI, eltI, oneI, noId', conv, conv0, Op.operands, List.append_toArray, Array.append_empty, Option.toArray_none, Option.toArray_some, reduceIte, reduceCtorEq, cond_true, cond_false, Bool.or_false, Bool.and_true, Nat.reduceAdd, Nat.reduceMul, Nat.reduceLT, Nat.reduceLeDiff, Nat.reduceEqDiff, Nat.reduceBEq, Nat.zero_add, ne_eq, not_false_eq_true, true_and, and_true, and_false, and_self, implies_true, forall_const, List.map_cons, List.map_nil, List.nil_append, List.cons_append, List.append_nil, List.all_cons, List.all_nil, Option.some.injEq, Option.map_some, Option.map_none, List.getD_cons_zero, List.length_cons, List.length_nil, List.take_succ_cons, List.take_nil, List.drop_zero, tab23, tab34, hN, Int.toNat_natCast, FinH, resA, resV, SLe, SLe0, convTm, convHp, convB, sm, el, Int.toNat_natCast, Nat.zero_add, encPs_take, encPs_drop, lt, ld, htk, htk2, addV, addH, hin, hE, hEl, hEt]
        refine ⟨⟨by omega, by omega⟩, ⟨by omega, by omega⟩, ⟨by omega, by omega⟩, ⟨by omega, by omega⟩, ⟨by omega, by omega, by omega⟩, fun x => if x = 0 then 47 else x, ?_⟩
        simp [convL]
        exact ⟨⟨by omega, (List.take_of_length_le (by rw [List.length_append, List.length_cons]; exact Nat.le_refl _)).symm⟩, fun id h1 _ h3 => by omega⟩
  · have hie : i = l.length := by omega
    have g1 : (encPs l).getD i .junk = .junk := by simp [List.getD, encPs, hge]
    have hd : decide ((i : Int) < (l.length : Int)) = false := by simp; omega
    have hfin : addP l p = l.take i ++ p :: l.drop i := by rw [hj]; simp [hie, addP]
    have hin : inA l p = false := by rw [inA, hfin, beq_eq_false_iff_ne]; simp; omega
    have hE : encPs (addP l p) = encPs (l.take i) ++ [.agg [.num .i64 p.1, .num .i64 p.2]] ++ encPs (l.drop i) := by rw [hfin, encPs_one p, encPs_app, encPs_app]; simp
    have hEl : (encPs (l.take i) ++ [IV.agg [.num .i64 p.1, .num .i64 p.2]]).length = i + 1 := by rw [List.length_append, lt]; rfl
    have hEt : (encPs (l.take i) ++ [IV.agg [.num .i64 p.1, .num .i64 p.2]]).take (i + 1) = encPs (l.take i) ++ [IV.agg [.num .i64 p.1, .num .i64 p.2]] := List.take_of_length_le (by omega)
    simp only [V_seq, V_skip, V_ret, V_exit, V_region, V_draw, V_cond, brW_false, drawW, WS_nil, pairsOf, W_nil, W_cons, WD_nil, WD_cons, effOp2, effOp3, WI_nil, WI_cons, KN_seq, KXr_nil, KXe_nil, KXe_seq, KXe_block, KXe_back, QE, dynOK, indB, farB, freshB, freshK, freshK1, heapy, asB, effOp, effPure, effPick, effNew, effBuildSlice, effFrz, frz, tmpsOf, effAppend, effZeros, effCall, giveUp, hasAll, Option.isSome_some, skipE, pureV, pickV, srcV, refId, binV, partV, eltV, loadV, iaddrV, sliceV, lenV, ofC, strip, lkT, lkH, ISt.app, opI, gO, gB, allB, gval, wrapG, dstOK, setD, mentTm, mentHp, IV.ment, IV.mentL, partsL, eltsI, eltI, oneI, noId', lendV, lendP, lent, lentP, idsV, idsL, lkHS, flat, clean, callArgs, callFn, allLent, conv, conv0, Op.operands, Call.operands, List.append_toArray, Array.append_empty, Option.toArray_none, Option.toArray_some, reduceIte, reduceCtorEq, cond_true, cond_false, Bool.or_false, Bool.or_true, Bool.and_true, Bool.and_eq_true, Bool.not_false, Nat.reduceAdd, Nat.reduceMul, Nat.reduceLT, Nat.reduceLeDiff, Nat.reduceEqDiff, Nat.reduceBEq, Nat.zero_add, ne_eq, not_false_eq_true, true_and, and_true, false_and, and_false, and_self, false_implies, implies_true, forall_const, List.map_cons, List.map_nil, List.nil_append, List.cons_append, List.append_nil, List.all_cons, List.all_nil, Option.some.injEq, Option.map_some, Option.map_none, Option.bind_some, List.getElem?_cons_zero, List.getElem?_cons_succ, List.getD_cons_zero, List.getD_cons_succ, List.length_cons, List.length_nil, List.take_succ_cons, List.take_zero, List.take_nil, List.drop_zero, ex_clo, bft, or_true, Bool.false_eq_true, tab23, tab34, hN, Int.toNat_natCast, FinH, resA, resV, SLe, SLe0, convTm, convHp, convB, sm, lk_spec_addPoint_h_spec_pointLess, sp_spec_pointLess, el, Int.toNat_natCast, Nat.zero_add, g1, hd, encPs_take, encPs_drop, lt, ld, htk, htk2, addV, addH, hin, hE, hEl, hEt]
    refine ⟨⟨by omega, by omega⟩, ⟨by omega, by omega⟩, ⟨by omega, by omega⟩, ⟨by omega, by omega⟩, ⟨by omega, by omega, by omega⟩, fun x => if x = 0 then 47 else x, ?_⟩
    simp [convL]
    exact ⟨⟨by omega, (List.take_of_length_le (by rw [List.length_append, List.length_cons]; exact Nat.le_refl _)).symm⟩, fun id h1 _ h3 => by omega⟩
def hs_spec_addPoint_h : HSpec := ⟨[false, true], fun xs hp => match xs, hp with | [.ref 1000 0 n full, .agg [.num .i64 px, .num .i64 py]], [(1000, .arr 2 ty es)] => (isPs es) ∧ (ty = 34) ∧ (n = es.length) ∧ ((fun (l : List Pt) (full : Bool) (p : Pt) => l.length ≤ 1000) (toPs es) full (px, py)) | _, _ => False, fun xs hp => match xs, hp with | [.ref 1000 0 n full, .agg [.num .i64 px, .num .i64 py]], [(1000, .arr 2 ty es)] => (fun (l : List Pt) (full : Bool) (p : Pt) => (addV l p full : IV)) (toPs es) full (px, py) | _, _ => .junk, fun xs hp => match xs, hp with | [.ref 1000 0 n full, .agg [.num .i64 px, .num .i64 py]], [(1000, .arr 2 ty es)] => (fun (l : List Pt) (full : Bool) (p : Pt) => (addH l p : List (Nat × IBlk))) (toPs es) full (px, py) | _, _ => []⟩
theorem hk_spec_addPoint_h : ∀ args hp, hs_spec_addPoint_h.pre args hp → HCall Try.prog 73 args (sm hp) (hs_spec_addPoint_h.val args hp) (sm (hs_spec_addPoint_h.hval args hp)) := by
  intro args hp h
  unfold hs_spec_addPoint_h at h ⊢; simp only at h ⊢; split at h
  · obtain ⟨h1, rfl, rfl, h2⟩ := h; obtain ⟨l, rfl⟩ := isP_ex h1; rw [toPs_enc] at *; rw [len_encPs]; exact c_spec_addPoint_h l _ (_, _) h2
  · exact h.elim
theorem en_spec_addPoint_h : Enters Try.prog 73 := enters_of Try.func73 (by kernel_rfl) rfl

def g_spec_sorted_h : List (Nat × PSpec) := []
theorem gok_spec_sorted_h : GOK Try.prog g_spec_sorted_h := gok0
def h_spec_sorted_h : List (Nat × HSpec) := [(73, hs_spec_addPoint_h)]
theorem hok_spec_sorted_h : HOK Try.prog h_spec_sorted_h := hok_cons hk_spec_addPoint_h en_spec_addPoint_h (hok0)
theorem lh_spec_sorted_h_spec_addPoint_h : lkHS h_spec_sorted_h 73 = some hs_spec_addPoint_h := rfl
theorem c_spec_sorted_h (l : List Pt) (hsz : l.length ≤ 1000) : HCall Try.prog 43 [.sl 2 (encPs l)] (sm ([])) (.ref 0 0 (insP l).length true) (sm ([(0, .arr 2 34 (encPs (insP l)))])) := by
  refine hcall_V (G := g_spec_sorted_h) (H := h_spec_sorted_h) [] tabOK mixed gok_spec_sorted_h hok_spec_sorted_h Try.func43 rfl Try.ntmps43 Try.results43 rfl (by kernel_rfl) fun F hN hlen => ?_
  simp only [sm]
  have el := len_encPs l
  have hl : l.length ≤ maxLen := by rw [maxLen_eq]; omega
  simp only [V_seq, V_block, V_region, W_nil, W_cons, effOp2, KN_seq, effOp, effPure, effNew, effBuildSlice, effFrz, frz, tmpsOf, skipE, pureV, ofC, strip, lkT, ISt.app, opI, gO, gB, allB, gval, wrapG, dstOK, setD, mentTm, mentHp, IV.ment, partsL, eltsI, enumT, Op.operands, reduceIte, reduceCtorEq, cond_true, Bool.or_false, Nat.reduceMul, Nat.reduceLT, Nat.reduceLeDiff, Nat.reduceEqDiff, ne_eq, not_false_eq_true, true_and, and_self, implies_true, List.nil_append, List.cons_append, List.append_nil, List.length_nil, tab23, tab34, hN]
  refine V_loop (α := Nat) ⟨tabOK, mixed, gok_spec_sorted_h, hok_spec_sorted_h⟩ (by kernel_rfl) (fun i => i ≤ l.length) (fun i => ⟨[(4, .num .i64 i), (3, .ref 5 0 (insP (l.take i)).length true), (0, .sl 2 (encPs l))], [(5, some (.arr 2 34 (encPs (insP (l.take i)))))]⟩) (fun i => l.length - i) 0 id (by simp) (by simp [SLe, SLe0, convTm, convHp, convB, conv, conv0, lkT, lkH, clean, insP, encPs]) ?_
  intro i hi
  simp only [V_seq, V_region, V_cond, W_nil, W_cons, effOp2, KN_seq, asB, effOp, effPure, pureV, binV, lenV, strip, lkT, ISt.app, opI, gO, gB, allB, gval, wrapG, dstOK, setD, Op.operands, Call.operands, List.append_toArray, reduceIte, reduceCtorEq, Nat.reduceLT, Nat.reduceEqDiff, ne_eq, not_false_eq_true, true_and, and_self, implies_true, List.nil_append, List.cons_append, tab23, hN, el]
  refine brW_some (fun h => ?_) (fun h => ?_)
  · have hi' : i < l.length := by simpa using h
    have g1 := getD_encPs hi'
    have hw := wr_succ hi' hl
    have hil : (insP (l.take i)).length ≤ 1000 := by
      have := insP_len (l.take i)
      simp only [List.length_take] at this
      omega
    have hst := ins_step hi'
    obtain ⟨o, ho⟩ : ∃ o, insP (l.take i) = o := ⟨_, rfl⟩
    obtain ⟨q, hq⟩ : ∃ q, pAt l i = q := ⟨_, rfl⟩
    rw [ho] at hil hst
    rw [hq] at g1 hst
    have eo := len_encPs o
    have to := take_encPs o
    simp only [ho]
    cases hin : inA o q with
    | true =>
      have hAo : addP o q = o := addP_same hin
      rw [hAo] at hst
      simp only [V_seq, V_skip, V_block, V_region, W_nil, W_cons, effOp2, KN_seq, KN_block, KN_back, effOp, effPure, Option.isSome_some, skipE, pureV, binV, partV, eltV, loadV, iaddrV, ofC, strip, lkT, lkH, ISt.app, opI, gO, gB, allB, gval, wrapG, dstOK, setD, mentTm, mentHp, IV.ment, IV.mentL, lendV, lendP, lent, lentP, idsV, idsL, clean, callArgs, callFn, enumT, conv, conv0, convL, IBlk.shape, Op.operands, reduceIte, reduceCtorEq, cond_true, cond_false, Bool.or_false, Bool.or_true, Bool.and_true, Nat.reduceAdd, Nat.reduceSub, Nat.reduceMul, Nat.reduceLT, Nat.reduceLeDiff, Nat.reduceEqDiff, Nat.zero_add, ne_eq, not_false_eq_true, beq_self_eq_true, true_and, and_true, and_false, and_self, implies_true, forall_const, List.map_cons, List.map_nil, List.nil_append, List.cons_append, List.append_nil, List.all_nil, Option.map_some, List.getD_cons_zero, List.length_cons, List.length_nil, List.take_succ_cons, List.take_nil, List.drop_zero, ex_clo, true_or, Bool.true_eq_false, tab23, tab34, hN, pe, Int.toNat_natCast, isPs_enc, toPs_enc, SLe0, convTm, convHp, convB, sm, effH, mkHC0, mkHC1, lendM, lentM, lentI, allHere, addIds, idsB, flatIds, reach, posn, renV, renL, renB, renH, numB, subHp, fwd, bk, bwd, nones, keyOK, noSl, flatBs, List.contains, List.elem, Option.isSome_some, List.nodup_nil, List.nodup_cons, List.not_mem_nil, Option.getD_some, lh_spec_sorted_h_spec_addPoint_h, hs_spec_addPoint_h, el, Int.toNat_natCast, g1, hw, hil, eo, to, addV, addH, hin]
      refine ⟨⟨by omega, by omega⟩, i + 1, id, by simp only []; omega, by simp only []; omega, ?_⟩
      simp only [hst]
      exact by simp [SLe, SLe0, convTm, convHp, convB, conv, conv0, lkT, lkH, clean]
    | false =>
      have hAl : (addP o q).length = o.length + 1 := addP_more hin
      simp only [V_seq, V_skip, V_block, V_region, W_nil, W_cons, effOp2, KN_seq, KN_block, KN_back, effOp, effPure, Option.isSome_some, skipE, pureV, binV, partV, eltV, loadV, iaddrV, ofC, strip, lkT, lkH, ISt.app, opI, gO, gB, allB, gval, wrapG, dstOK, setD, mentTm, mentHp, IV.ment, IV.mentL, lendV, lendP, lent, lentP, idsV, idsL, clean, callArgs, callFn, enumT, conv, conv0, convL, IBlk.shape, Op.operands, reduceIte, reduceCtorEq, cond_true, cond_false, Bool.or_false, Bool.or_true, Bool.and_true, Bool.and_eq_true, Nat.reduceAdd, Nat.reduceSub, Nat.reduceMul, Nat.reduceLT, Nat.reduceLeDiff, Nat.reduceEqDiff, Nat.reduceBEq, Nat.add_zero, Nat.zero_add, ne_eq, not_false_eq_true, beq_self_eq_true, true_and, and_true, and_false, and_self, implies_true, forall_const, List.map_cons, List.map_nil, List.nil_append, List.cons_append, List.append_nil, List.all_nil, Option.map_some, Option.map_none, List.getD_cons_zero, List.length_cons, List.length_nil, List.take_succ_cons, List.take_nil, List.drop_zero, ex_clo, true_or, or_self, Bool.true_eq_false, tab23, tab34, hN, pe, Int.toNat_natCast, isPs_enc, toPs_enc, SLe0, convTm, convHp, convB, sm, effH, mkHC0, mkHC1, lendM, lentM, lentI, allHere, addIds, idsB, flatIds, reach, posn, renV, renL, renB, renH, numB, subHp, fwd, bk, bwd, nones, keyOK, noSl, flatBs, List.contains, List.elem, Option.isSome_some, List.nodup_nil, List.nodup_cons, List.not_mem_nil, List.mem_cons, Option.getD_some, lh_spec_sorted_h_spec_addPoint_h, hs_spec_addPoint_h, el, Int.toNat_natCast, g1, hw, hil, eo, to, addV, addH, hin]
      refine ⟨⟨by omega, by omega⟩, List.take_length.symm, i + 1, fun x => if x = 5 then 2272 else x, by simp only []; omega, by simp only []; omega, ?_⟩
      simp only [hst, hAl]
      simp [SLe, SLe0, convTm, convHp, convB, conv, conv0, lkT, lkH, clean]
      intro id h1 _ h3; omega
  · have hie : i = l.length := by simp at h; omega
    subst hie
    rw [List.take_length]
    simp only [V_seq, V_ret, V_exit, V_region, W_nil, W_cons, effOp2, KN_seq, KXr_nil, KXe_nil, KXe_seq, KXe_block, KXe_back, QE, effOp, effPure, Option.isSome_some, pureV, strip, lkT, lkH, ISt.app, opI, gO, gB, allB, gval, wrapG, dstOK, setD, conv, conv0, Op.operands, reduceIte, reduceCtorEq, Nat.reduceLT, Nat.reduceEqDiff, not_false_eq_true, true_and, and_true, and_self, implies_true, List.map_cons, List.map_nil, List.nil_append, List.cons_append, hN, FinH, resA, resV, SLe, SLe0, convTm, convHp, convB, Option.isSome_some, List.nodup_nil, List.nodup_cons, List.not_mem_nil]
    exact ⟨fun x => if x = 0 then 5 else x, by simp; omega⟩
def hs_spec_sorted_h : HSpec := ⟨[true], fun xs hp => match xs, hp with | [.sl 2 es], [] => (isPs es) ∧ ((fun (l : List Pt) => l.length ≤ 1000) (toPs es)) | _, _ => False, fun xs hp => match xs, hp with | [.sl 2 es], [] => (fun (l : List Pt) => (.ref 0 0 (insP l).length true : IV)) (toPs es) | _, _ => .junk, fun xs hp => match xs, hp with | [.sl 2 es], [] => (fun (l : List Pt) => ([(0, .arr 2 34 (encPs (insP l)))] : List (Nat × IBlk))) (toPs es) | _, _ => []⟩
theorem hk_spec_sorted_h : ∀ args hp, hs_spec_sorted_h.pre args hp → HCall Try.prog 43 args (sm hp) (hs_spec_sorted_h.val args hp) (sm (hs_spec_sorted_h.hval args hp)) := by
  intro args hp h
  unfold hs_spec_sorted_h at h ⊢; simp only at h ⊢; split at h
  · obtain ⟨h1, h2⟩ := h; obtain ⟨l, rfl⟩ := isP_ex h1; rw [toPs_enc] at *; exact c_spec_sorted_h l h2
  · exact h.elim
theorem en_spec_sorted_h : Enters Try.prog 43 := enters_of Try.func43 (by kernel_rfl) rfl

end Go.Proofs.Yteaanfpkakaaoaa
