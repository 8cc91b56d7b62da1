/- The law on sorted points: the walk. -/
import Derived.Test.YtodeicbcacggdaaB6
set_option linter.unusedVariables false
set_option linter.unusedSimpArgs false
namespace Go.Proofs.Ytodeicbcacggdaa
open Go Go.Ideal Go.Pl Go.Sort

def g_spec_DrawSortPoints : List (Nat × PSpec) := []
theorem gok_spec_DrawSortPoints : GOK Try.prog g_spec_DrawSortPoints := gok0
def h_spec_DrawSortPoints : List (Nat × HSpec) := [(58, hs_spec_newReader), (57, hs_spec_anyPoints)]
theorem hok_spec_DrawSortPoints : HOK Try.prog h_spec_DrawSortPoints := hok_cons hk_spec_newReader en_spec_newReader (hok_cons hk_spec_anyPoints en_spec_anyPoints (hok0))
theorem lh_spec_DrawSortPoints_spec_newReader : lkHS h_spec_DrawSortPoints 58 = some hs_spec_newReader := rfl
theorem lh_spec_DrawSortPoints_spec_anyPoints : lkHS h_spec_DrawSortPoints 57 = some hs_spec_anyPoints := rfl
theorem c_spec_DrawSortPoints (b : List Int) (hb : ∀ x ∈ b, 0 ≤ x ∧ x < 256) (hsz : b.length ≤ 1048576) : ICall Try.prog 27 [.sl 1 (encBy b)] (.sl 2 (encPs (drawPts b 9))) := by
  refine icall_V (G := g_spec_DrawSortPoints) (H := h_spec_DrawSortPoints) [] tabOK mixed gok_spec_DrawSortPoints hok_spec_DrawSortPoints Try.func27 rfl Try.ntmps27 Try.results27 rfl (by kernel_rfl) fun F hN hlen => ?_
  have hbt := bytes_take hb
  have hl := drawPts_len hb (show (0 : Int) ≤ 9 by omega) (by omega)
  have hd : (aPoints (b.take 2000) 0 9).1 = drawPts b 9 := rfl
  simp only [V_seq, V_ret, V_region, W_nil, W_cons, effOp2, KN_seq, KXr_nil, QE, effOp, effPure, Option.isSome_some, skipE, pureV, ofC, strip, lkT, lkH, ISt.app, opI, gO, gB, allB, gval, wrapG, dstOK, setD, mentTm, mentHp, IV.ment, IV.mentL, lendV, lendP, lent, lentP, idsV, idsL, clean, callArgs, callFn, enumT, Gives, Ideal.Fin, conv, conv0, convL, IBlk.shape, Op.operands, reduceIte, reduceCtorEq, cond_true, cond_false, Bool.or_false, Bool.and_true, Bool.and_false, Bool.not_false, Nat.reduceAdd, Nat.reduceSub, Nat.reduceMul, Nat.reduceLT, Nat.reduceLeDiff, Nat.reduceEqDiff, Nat.reduceBEq, Nat.add_zero, Nat.zero_add, ne_eq, not_false_eq_true, beq_self_eq_true, true_and, and_true, and_false, and_self, false_implies, implies_true, List.map_cons, List.map_nil, List.nil_append, List.cons_append, List.append_nil, List.all_nil, Option.some.injEq, Option.map_some, Option.map_none, List.getD_cons_zero, List.drop_zero, ex_clo, or_self, Bool.true_eq_false, Bool.false_eq_true, hN, Int.toNat_natCast, isBy_enc, toBy_enc, SLe0, convTm, convHp, convB, sm, effH, mkHC0, mkHC1, lendM, lentM, lentI, allHere, addIds, idsB, flatIds, reach, posn, renV, renL, renB, renH, numB, subHp, fwd, bk, bwd, nones, keyOK, noSl, noSlL, flatBs, List.contains, List.elem, Option.isSome_some, Option.isSome_none, List.nodup_nil, List.nodup_cons, List.not_mem_nil, List.mem_cons, or_false, Option.getD_some, lh_spec_DrawSortPoints_spec_newReader, lh_spec_DrawSortPoints_spec_anyPoints, hs_spec_newReader, hs_spec_anyPoints, rdr, hsz, hbt, hd]
  exact ⟨⟨⟨by omega, by omega⟩, take_eq_of rfl⟩, _, _, rfl, by rw [len_encPs]; exact Nat.le_refl _, (take_encPs _).symm⟩
def sp_spec_DrawSortPoints : PSpec := ⟨fun xs => match xs with | [.sl 1 bes] => isBy bes ∧ ((fun (b : List Int) => ∀ x ∈ b, 0 ≤ x ∧ x < 256) (toIs bes)) ∧ ((fun (b : List Int) => b.length ≤ 1048576) (toIs bes)) | _ => False, fun xs => match xs with | [.sl _ bes] => (fun (b : List Int) => .sl 2 (encPs (drawPts b 9))) (toIs bes) | _ => .junk, false⟩
theorem gk_spec_DrawSortPoints : ∀ args, sp_spec_DrawSortPoints.pre args → ICall Try.prog 27 args (sp_spec_DrawSortPoints.val args) := by
  intro args h
  unfold sp_spec_DrawSortPoints at h ⊢; simp only at h ⊢; split at h
  · obtain ⟨h0, h1, h2⟩ := h
    obtain ⟨l0, rfl⟩ := isBy_ex h0
    simp only [toBy_enc] at *
    exact c_spec_DrawSortPoints _ h1 h2
  · exact h.elim
theorem en_spec_DrawSortPoints : Enters Try.prog 27 := enters_of Try.func27 (by kernel_rfl) rfl


theorem drawPts_any (l : List Pt) (p : Pt) : l.any (· == p) = decide (p ∈ l) := by
  rw [Bool.eq_iff_iff]; simp

def g_laws_FnSortPoints : List (Nat × PSpec) := [(27, sp_spec_DrawSortPoints), (28, sp_impl_SortPoints), (30, sp_spec_SortPoints), (29, sp_laws_equalPoints), (31, sp_laws_hasPoint), (32, sp_laws_backwards)]
theorem gok_laws_FnSortPoints : GOK Try.prog g_laws_FnSortPoints := gok_cons gk_spec_DrawSortPoints en_spec_DrawSortPoints (gok_cons gk_impl_SortPoints en_impl_SortPoints (gok_cons gk_spec_SortPoints en_spec_SortPoints (gok_cons gk_laws_equalPoints en_laws_equalPoints (gok_cons gk_laws_hasPoint en_laws_hasPoint (gok_cons gk_laws_backwards en_laws_backwards (gok0))))))
theorem lk_laws_FnSortPoints_spec_DrawSortPoints : lkG g_laws_FnSortPoints 27 = sp_spec_DrawSortPoints := rfl
theorem lk_laws_FnSortPoints_impl_SortPoints : lkG g_laws_FnSortPoints 28 = sp_impl_SortPoints := rfl
theorem lk_laws_FnSortPoints_spec_SortPoints : lkG g_laws_FnSortPoints 30 = sp_spec_SortPoints := rfl
theorem lk_laws_FnSortPoints_laws_equalPoints : lkG g_laws_FnSortPoints 29 = sp_laws_equalPoints := rfl
theorem lk_laws_FnSortPoints_laws_hasPoint : lkG g_laws_FnSortPoints 31 = sp_laws_hasPoint := rfl
theorem lk_laws_FnSortPoints_laws_backwards : lkG g_laws_FnSortPoints 32 = sp_laws_backwards := rfl
def h_laws_FnSortPoints : List (Nat × HSpec) := []
theorem hok_laws_FnSortPoints : HOK Try.prog h_laws_FnSortPoints := hok0
theorem c_laws_FnSortPoints (b : List Int) (hb : ∀ x ∈ b, 0 ≤ x ∧ x < 256) : ICall Try.prog 7 [.sl 1 (encBy b)] (.bool true) := by
  refine icall_V (G := g_laws_FnSortPoints) (H := []) [(15, [(1, 5), (2, 5), (3, 5), (5, 8), (5, 9), (5, 10), (5, 11), (5, 12), (5, 13), (5, 14), (5, 15), (5, 16), (5, 17), (5, 18), (5, 19), (5, 20), (5, 21), (5, 22), (5, 23), (5, 24), (5, 25), (5, 26), (5, 27), (5, 28), (5, 29), (5, 30), (5, 31), (5, 32), (5, 33), (5, 34), (5, 35), (5, 36), (5, 37), (5, 38), (5, 39), (5, 40), (5, 41), (5, 42), (5, 43), (5, 44), (5, 45), (5, 46), (5, 47), (5, 48), (5, 49), (5, 50), (5, 51), (5, 52)])] tabOK mixed gok_laws_FnSortPoints hok_laws_FnSortPoints Try.func7 rfl Try.ntmps7 Try.results7 rfl (by kernel_rfl) fun F hN hlen => ?_
  have el := len_encBy b
  simp only [V_seq, V_region, V_cond, W_nil, W_cons, effOp2, KN_seq, asB, effOp, effPure, pureV, binV, lenV, ofC, strip, lkT, ISt.app, opI, gO, gB, allB, gval, wrapG, dstOK, setD, enumT, Op.operands, Call.operands, List.append_toArray, reduceIte, reduceCtorEq, Nat.reduceLT, Nat.reduceEqDiff, ne_eq, not_false_eq_true, true_and, and_self, implies_true, List.nil_append, List.cons_append, List.append_nil, tab22, hN, el]
  refine brW_some (fun h => ?_) (fun h => ?_)
  · simp only [V_seq, V_ret, V_region, W_nil, W_cons, effOp2, KN_seq, KXr_nil, KXr_seq, QE, effOp, effPure, pureV, ofC, strip, lkT, lkH, ISt.app, opI, gO, gB, allB, gval, wrapG, dstOK, setD, clean, Gives, Ideal.Fin, conv, conv0, Op.operands, reduceIte, reduceCtorEq, Nat.reduceLT, Nat.reduceEqDiff, and_self, implies_true, List.nil_append, List.cons_append, List.append_nil, hN]
  · have hsz : b.length ≤ 1048576 := by simp at h; omega
    have hl := drawPts_len hb (show (0 : Int) ≤ 9 by omega) (by omega)
    obtain ⟨l, hl0⟩ : ∃ l, drawPts b 9 = l := ⟨_, rfl⟩
    obtain ⟨s, hs0⟩ : ∃ s, sortP l = s := ⟨_, rfl⟩
    rw [hl0] at hl
    have e1 := len_encPs l
    have e2 := len_encPs s
    have hself : ∀ x : List Pt, (x == x) = true := fun x => by simp
    simp only [V_seq, V_skip, V_region, V_cond, W_nil, W_cons, effOp2, KN_seq, asB, effOp, effPure, effPick, effCall, giveUp, hasAll, pureV, pickV, binV, lenV, ofC, strip, lkT, lkH, ISt.app, opI, gO, gB, allB, gval, wrapG, dstOK, setD, lendV, lendP, lent, lentP, idsV, idsL, lkHS, flat, clean, callArgs, callFn, allLent, Op.operands, Call.operands, List.append_toArray, reduceIte, reduceCtorEq, cond_true, cond_false, Bool.or_false, Bool.not_true, Nat.reduceLT, Nat.reduceEqDiff, ne_eq, not_false_eq_true, beq_self_eq_true, true_and, and_true, and_self, implies_true, forall_const, List.map_cons, List.map_nil, List.nil_append, List.cons_append, List.append_nil, Option.bind_some, List.getElem?_cons_zero, List.getElem?_cons_succ, ex_clo, or_true, or_self, Bool.false_eq_true, tab23, hN, isPs_enc, toPs_enc, isBy_enc, toBy_enc, lk_laws_FnSortPoints_spec_DrawSortPoints, lk_laws_FnSortPoints_impl_SortPoints, lk_laws_FnSortPoints_spec_SortPoints, lk_laws_FnSortPoints_laws_equalPoints, sp_spec_DrawSortPoints, sp_impl_SortPoints, sp_spec_SortPoints, sp_laws_equalPoints, hsz, hl0, hs0, e2]
    refine ⟨hb, brW_some (fun h => ?_) (fun h => ?_)⟩
    · simp only [V_seq, V_ret, V_region, W_nil, W_cons, effOp2, KN_seq, KXr_nil, KXr_seq, QE, effOp, effPure, effCall, giveUp, hasAll, pureV, strip, lkT, lkH, ISt.app, opI, gO, gB, allB, gval, wrapG, dstOK, setD, lendV, lendP, lent, lentP, idsV, idsL, lkHS, flat, clean, callArgs, callFn, allLent, Gives, Ideal.Fin, conv, conv0, Op.operands, reduceIte, reduceCtorEq, cond_true, cond_false, Bool.or_false, Bool.not_true, Nat.reduceLT, Nat.reduceEqDiff, beq_self_eq_true, and_self, implies_true, List.map_cons, List.map_nil, List.nil_append, List.cons_append, List.append_nil, ex_clo, or_true, or_self, Bool.false_eq_true, hN, isPs_enc, toPs_enc, lk_laws_FnSortPoints_spec_SortPoints, lk_laws_FnSortPoints_laws_equalPoints, sp_spec_SortPoints, sp_laws_equalPoints, hs0]
    · have hne : s.length ≠ 0 := by simpa using h
      have hok : okPs l = true := by
        cases k : okPs l with
        | true => rfl
        | false => rw [← hs0, sortP, k] at hne; simp at hne
      have hs : s = insP l := by rw [← hs0, sortP, if_pos hok]
      have hsl : s.length ≤ l.length := by rw [hs]; exact insP_len l
      simp only [V_seq, V_skip, V_block, V_region, W_nil, W_cons, effOp2, KN_seq, effOp, effPure, pureV, ofC, strip, ISt.app, opI, gO, gB, allB, gval, wrapG, dstOK, setD, Op.operands, Nat.reduceLT, true_and, and_self, implies_true, List.nil_append, List.cons_append, List.append_nil, hN]
      refine V_loop (α := Nat) ⟨tabOK, mixed, gok_laws_FnSortPoints, hok_laws_FnSortPoints⟩ (by kernel_rfl) (fun i => i ≤ l.length) (fun i => ⟨[(5, .num .i64 i), (4, .sl 2 (encPs s)), (3, .sl 2 (encPs l))], []⟩) (fun i => l.length - i) 0 id (Nat.zero_le _) (by simp [SLe, SLe0, convTm, convHp, conv, conv0, lkT, lkH, clean]) ?_
      intro i hi
      simp only [V_seq, V_region, V_cond, W_nil, W_cons, effOp2, KN_seq, asB, effOp, effPure, pureV, binV, lenV, strip, lkT, ISt.app, opI, gO, gB, allB, gval, wrapG, dstOK, setD, Op.operands, Call.operands, List.append_toArray, reduceIte, reduceCtorEq, Nat.reduceLT, Nat.reduceEqDiff, ne_eq, not_false_eq_true, true_and, and_self, implies_true, List.nil_append, List.cons_append, List.append_nil, tab23, hN, e1]
      refine brW_some (fun h => ?_) (fun h => ?_)
      · have hi' : i < l.length := by simpa using h
        have g1 := getD_encPs hi'
        have hw := wr_succ hi' (by rw [maxLen_eq]; omega)
        have hin : s.any (· == pAt l i) = true := by
          rw [drawPts_any, hs]
          simp only [mem_insP, decide_eq_true_eq]
          rw [pAt, List.getD, List.getElem?_eq_getElem hi']
          exact List.getElem_mem hi'
        simp only [V_seq, V_skip, V_block, V_region, V_cond, brW_false, W_nil, W_cons, effOp2, KN_seq, KN_block, KN_back, asB, effOp, effPure, effCall, giveUp, hasAll, pureV, binV, partV, eltV, loadV, iaddrV, ofC, strip, lkT, lkH, ISt.app, opI, gO, gB, allB, gval, wrapG, dstOK, setD, lendV, lendP, lent, lentP, idsV, idsL, lkHS, flat, clean, callArgs, callFn, allLent, Op.operands, reduceIte, reduceCtorEq, cond_true, Bool.or_false, Bool.not_true, Nat.reduceAdd, Nat.reduceLT, Nat.reduceLeDiff, Nat.reduceEqDiff, Nat.zero_add, ne_eq, not_false_eq_true, true_and, and_true, and_false, and_self, implies_true, forall_const, List.map_cons, List.map_nil, List.nil_append, List.cons_append, List.append_nil, List.getD_cons_zero, List.length_cons, List.length_nil, List.take_succ_cons, List.take_nil, List.drop_zero, ex_clo, or_self, tab23, tab30, hN, pe, Int.toNat_natCast, isPs_enc, toPs_enc, lk_laws_FnSortPoints_laws_hasPoint, sp_laws_hasPoint, e1, g1, hw, hin]
        repeat refine And.intro (by first | omega | (simp; done) | (simp; omega)) ?_
        exact ⟨i + 1, id, by simp only []; omega, by simp only []; omega, by simp [SLe, SLe0, convTm, convHp, conv, conv0, lkT, lkH, clean]⟩
      · simp only [V_seq, V_exit, V_block, V_region, W_nil, W_cons, effOp2, KN_seq, KXe_nil, KXe_seq, KXe_block, KXe_back, QE, effOp, effPure, pureV, ofC, strip, ISt.app, opI, gO, gB, allB, gval, wrapG, dstOK, setD, Ideal.Fin, Op.operands, reduceIte, Nat.reduceLT, true_and, and_self, implies_true, List.nil_append, List.cons_append, List.append_nil, hN]
        refine V_loop (α := Nat) ⟨tabOK, mixed, gok_laws_FnSortPoints, hok_laws_FnSortPoints⟩ (by kernel_rfl) (fun i => i ≤ s.length) (fun i => ⟨[(6, .num .i64 i), (4, .sl 2 (encPs s)), (3, .sl 2 (encPs l))], []⟩) (fun i => s.length - i) 0 id (Nat.zero_le _) (by simp [SLe, SLe0, convTm, convHp, conv, conv0, lkT, lkH, clean]) ?_
        intro i hi
        simp only [V_seq, V_region, V_cond, W_nil, W_cons, effOp2, KN_seq, asB, effOp, effPure, pureV, binV, lenV, strip, lkT, ISt.app, opI, gO, gB, allB, gval, wrapG, dstOK, setD, Op.operands, Call.operands, List.append_toArray, reduceIte, reduceCtorEq, Nat.reduceLT, Nat.reduceEqDiff, ne_eq, not_false_eq_true, true_and, and_self, implies_true, List.nil_append, List.cons_append, List.append_nil, tab23, hN, e2]
        refine brW_some (fun h => ?_) (fun h => ?_)
        · have hi' : i < s.length := by simpa using h
          have g1 := getD_encPs hi'
          have hw := wr_succ hi' (by rw [maxLen_eq]; omega)
          have hin : l.any (· == pAt s i) = true := by
            rw [drawPts_any, decide_eq_true_eq, ← mem_insP, ← hs]
            rw [pAt, List.getD, List.getElem?_eq_getElem hi']
            exact List.getElem_mem hi'
          rcases Nat.eq_zero_or_pos i with rfl | hp
          · have d0 : decide ((0 : Int) < (((0 : Nat)) : Int)) = false := rfl
            have hw3 : (IntKind.i64.wrap (((0 : Nat) : Int) - 1)).toNat = 0 := by decide
            simp only [V_seq, V_skip, V_block, V_region, V_draw, V_cond, brW_false, drawW, pairsOf, W_nil, W_cons, effOp2, WI_nil, WI_cons, KN_seq, KN_block, KN_back, dynOK, indB, farB, freshB, heapy, asB, effOp, effPure, effPick, effCall, giveUp, hasAll, pureV, pickV, binV, partV, eltV, loadV, faddrV, iaddrV, ofC, strip, lkT, lkH, ISt.app, opI, gO, gB, allB, gval, wrapG, dstOK, setD, mentTm, mentHp, IV.ment, lendV, lendP, lent, lentP, idsV, idsL, flat, clean, callArgs, callFn, allLent, Op.operands, Call.operands, List.append_toArray, reduceIte, reduceCtorEq, cond_true, cond_false, Bool.or_false, Bool.and_true, Bool.and_false, Bool.false_and, Bool.not_true, Bool.not_false, Nat.reduceAdd, Nat.reduceLT, Nat.reduceLeDiff, Nat.reduceEqDiff, Nat.add_zero, Nat.zero_add, ne_eq, not_false_eq_true, beq_self_eq_true, true_and, and_true, false_and, and_false, and_self, false_implies, implies_true, forall_const, List.map_cons, List.map_nil, List.nil_append, List.cons_append, List.append_nil, Option.bind_some, List.getElem?_cons_zero, List.getElem?_cons_succ, List.getD_cons_zero, List.getD_cons_succ, List.length_cons, List.length_nil, List.take_succ_cons, List.take_zero, List.take_nil, List.drop_succ_cons, List.drop_zero, ex_clo, bft, or_self, Bool.true_eq_false, Bool.false_eq_true, tab3, tab23, tab30, hN, pe, Int.toNat_natCast, isPs_enc, toPs_enc, lk_laws_FnSortPoints_laws_hasPoint, sp_laws_hasPoint, e2, g1, hw, hin, d0, hw3]
            repeat refine And.intro (by first | omega | (simp; done) | (simp; omega)) ?_
            exact ⟨0 + 1, id, by simp only []; omega, by simp only []; omega, by simp [SLe, SLe0, convTm, convHp, conv, conv0, lkT, lkH, clean]⟩
          · have g2 := getD_encPs (show i - 1 < s.length by omega)
            have hw2 : IntKind.i64.wrap ((i : Int) - 1) = ((i - 1 : Nat) : Int) := by rw [wr (by omega) (by omega)]; omega
            have d0 : decide ((0 : Int) < (i : Int)) = true := by simpa using hp
            have hlt : ltP (pAt s (i - 1)) (pAt s i) = true := by
              have ha : Asc s := by rw [hs]; exact asc_insP l
              rw [pAt, pAt, List.getD, List.getD, List.getElem?_eq_getElem hi', List.getElem?_eq_getElem (show i - 1 < s.length by omega)]
              exact List.pairwise_iff_getElem.1 ha (i - 1) i _ _ (by omega)
            rw [ltP_iff] at hlt
            have c1 : decide ((pAt s i).1 < (pAt s (i - 1)).1) = false := by simp only [decide_eq_false_iff_not]; omega
            by_cases ce : (pAt s i).1 = (pAt s (i - 1)).1
            · have c2 : ((pAt s i).1 == (pAt s (i - 1)).1) = true := by simpa using ce
              have c3 : decide ((pAt s i).2 ≤ (pAt s (i - 1)).2) = false := by simp only [decide_eq_false_iff_not]; omega
              simp only [V_seq, V_skip, V_block, V_region, V_draw, V_cond, brW_false, drawW, pairsOf, W_nil, W_cons, effOp2, WI_nil, WI_cons, KN_seq, KN_block, KN_back, dynOK, indB, farB, freshB, heapy, asB, effOp, effPure, effPick, effCall, giveUp, hasAll, pureV, pickV, binV, partV, eltV, loadV, faddrV, iaddrV, ofC, strip, lkT, lkH, ISt.app, opI, gO, gB, allB, gval, wrapG, dstOK, setD, mentTm, mentHp, IV.ment, lendV, lendP, lent, lentP, idsV, idsL, flat, clean, callArgs, callFn, allLent, Op.operands, Call.operands, List.append_toArray, reduceIte, reduceCtorEq, cond_true, cond_false, Bool.or_false, Bool.and_true, Bool.not_true, Bool.not_false, Nat.reduceAdd, Nat.reduceLT, Nat.reduceLeDiff, Nat.reduceEqDiff, Nat.add_zero, Nat.zero_add, ne_eq, not_false_eq_true, beq_self_eq_true, true_and, and_true, and_false, and_self, implies_true, forall_const, List.map_cons, List.map_nil, List.nil_append, List.cons_append, List.append_nil, Option.bind_some, List.getElem?_cons_zero, List.getElem?_cons_succ, List.getD_cons_zero, List.getD_cons_succ, List.length_cons, List.length_nil, List.take_succ_cons, List.take_zero, List.take_nil, List.drop_succ_cons, List.drop_zero, ex_clo, or_self, Bool.true_eq_false, Bool.false_eq_true, tab3, tab23, tab30, hN, pe, Int.toNat_natCast, isPs_enc, toPs_enc, lk_laws_FnSortPoints_laws_hasPoint, sp_laws_hasPoint, e2, g1, hw, hin, g2, hw2, d0, c1, c2, c3]
              repeat refine And.intro (by first | omega | (simp; done) | (simp; omega)) ?_
              exact ⟨i + 1, id, by simp only []; omega, by simp only []; omega, by simp [SLe, SLe0, convTm, convHp, conv, conv0, lkT, lkH, clean]⟩
            · have c2 : ((pAt s i).1 == (pAt s (i - 1)).1) = false := by simpa using ce
              simp only [V_seq, V_skip, V_block, V_region, V_draw, V_cond, brW_false, drawW, pairsOf, W_nil, W_cons, effOp2, WI_nil, WI_cons, KN_seq, KN_block, KN_back, dynOK, indB, farB, freshB, heapy, asB, effOp, effPure, effPick, effCall, giveUp, hasAll, pureV, pickV, binV, partV, eltV, loadV, faddrV, iaddrV, ofC, strip, lkT, lkH, ISt.app, opI, gO, gB, allB, gval, wrapG, dstOK, setD, mentTm, mentHp, IV.ment, lendV, lendP, lent, lentP, idsV, idsL, flat, clean, callArgs, callFn, allLent, Op.operands, Call.operands, List.append_toArray, reduceIte, reduceCtorEq, cond_true, cond_false, Bool.or_false, Bool.and_true, Bool.and_false, Bool.not_true, Bool.not_false, Nat.reduceAdd, Nat.reduceLT, Nat.reduceLeDiff, Nat.reduceEqDiff, Nat.add_zero, Nat.zero_add, ne_eq, not_false_eq_true, beq_self_eq_true, true_and, and_true, false_and, and_false, and_self, false_implies, implies_true, forall_const, List.map_cons, List.map_nil, List.nil_append, List.cons_append, List.append_nil, Option.bind_some, List.getElem?_cons_zero, List.getElem?_cons_succ, List.getD_cons_zero, List.getD_cons_succ, List.length_cons, List.length_nil, List.take_succ_cons, List.take_zero, List.take_nil, List.drop_succ_cons, List.drop_zero, ex_clo, bft, or_self, Bool.true_eq_false, Bool.false_eq_true, tab3, tab23, tab30, hN, pe, Int.toNat_natCast, isPs_enc, toPs_enc, lk_laws_FnSortPoints_laws_hasPoint, sp_laws_hasPoint, e2, g1, hw, hin, g2, hw2, d0, c1, c2]
              repeat refine And.intro (by first | omega | (simp; done) | (simp; omega)) ?_
              exact ⟨i + 1, id, by simp only []; omega, by simp only []; omega, by simp [SLe, SLe0, convTm, convHp, conv, conv0, lkT, lkH, clean]⟩
        · have ho2 : okPs s = true := by
            have h1 := okPs_len hok
            simp only [okPs, Bool.and_eq_true, List.all_eq_true, decide_eq_true_eq] at hok ⊢
            exact ⟨fun x hx => hok.1 x (by rw [hs] at hx; exact mem_insP.1 hx), by omega⟩
          have hor : okPs l.reverse = true := by
            simp only [okPs, Bool.and_eq_true, List.all_eq_true, decide_eq_true_eq, List.length_reverse] at hok ⊢
            exact ⟨fun x hx => hok.1 x (by simpa using hx), hok.2⟩
          have q1 : sortP s = s := by rw [sortP, if_pos ho2]; exact insP_of_asc (by rw [hs]; exact asc_insP l)
          have q2 : sortP l.reverse = s := by rw [sortP, if_pos hor, hs]; exact insP_congr (fun x => by simp)
          have hle : l.length ≤ 1000000 := by omega
          simp only [V_seq, V_ret, V_exit, V_region, W_nil, W_cons, effOp2, KN_seq, KXr_nil, KXe_nil, KXe_seq, KXe_block, KXe_back, QE, effOp, effPure, effPick, effCall, giveUp, hasAll, pureV, pickV, ofC, strip, lkT, lkH, ISt.app, opI, gO, gB, allB, gval, wrapG, dstOK, setD, lendV, lendP, lent, lentP, idsV, idsL, lkHS, flat, clean, callArgs, callFn, allLent, Gives, Ideal.Fin, conv, conv0, Op.operands, reduceIte, cond_true, cond_false, Bool.or_false, Bool.not_true, Nat.reduceLT, Nat.reduceEqDiff, beq_self_eq_true, and_self, implies_true, List.map_cons, List.map_nil, List.nil_append, List.cons_append, List.append_nil, Option.bind_some, List.getElem?_cons_zero, List.getElem?_cons_succ, ex_clo, or_true, or_self, Bool.true_eq_false, Bool.false_eq_true, hN, isPs_enc, toPs_enc, lk_laws_FnSortPoints_impl_SortPoints, lk_laws_FnSortPoints_laws_equalPoints, lk_laws_FnSortPoints_laws_backwards, sp_impl_SortPoints, sp_laws_equalPoints, sp_laws_backwards, q1, q2, hle]
def sp_laws_FnSortPoints : PSpec := ⟨fun xs => match xs with | [.sl 1 bes] => isBy bes ∧ ((fun (b : List Int) => ∀ x ∈ b, 0 ≤ x ∧ x < 256) (toIs bes)) | _ => False, fun xs => match xs with | [.sl _ bes] => (fun (b : List Int) => .bool true) (toIs bes) | _ => .junk, false⟩
theorem gk_laws_FnSortPoints : ∀ args, sp_laws_FnSortPoints.pre args → ICall Try.prog 7 args (sp_laws_FnSortPoints.val args) := by
  intro args h
  unfold sp_laws_FnSortPoints at h ⊢; simp only at h ⊢; split at h
  · obtain ⟨h0, h1⟩ := h
    obtain ⟨l0, rfl⟩ := isBy_ex h0
    simp only [toBy_enc] at *
    exact c_laws_FnSortPoints _ h1
  · exact h.elim
theorem en_laws_FnSortPoints : Enters Try.prog 7 := enters_of Try.func7 (by kernel_rfl) rfl

end Go.Proofs.Ytodeicbcacggdaa
