/- Drawn points in order: spec.anySites. -/
import Derived.Test.YteaanfpkakaaoaaB86
import Derived.Test.YteaanfpkakaaoaaB6
set_option linter.unusedVariables false
set_option linter.unusedSimpArgs false
set_option maxHeartbeats 16000000
set_option maxRecDepth 100000
namespace Go.Proofs.Yteaanfpkakaaoaa
open Go Go.Ideal Go.Pl Go.Sort

/-- Drawn points in order, maybe not good ones; where the reader stands then. -/
def aSites (b : List Int) (p : Nat) : List Pt × Nat :=
  if 1 < (insP (rPoints b p 9)).length then
    if pickI b (p + 2 + 2 * rNum b p 9) 14 = 0 then ((insP (rPoints b p 9)).set 0 (pAt (insP (rPoints b p 9)) 1), p + 2 + 2 * rNum b p 9 + 1)
    else (insP (rPoints b p 9), p + 2 + 2 * rNum b p 9 + 1)
  else (insP (rPoints b p 9), p + 2 + 2 * rNum b p 9)
def g_spec_anySites : List (Nat × PSpec) := []
theorem gok_spec_anySites : GOK Try.prog g_spec_anySites := gok0
def h_spec_anySites : List (Nat × HSpec) := [(44, hs_spec_randomPoints), (43, hs_spec_sorted_h), (45, hs_spec_reader_pick)]
theorem hok_spec_anySites : HOK Try.prog h_spec_anySites := hok_cons hk_spec_randomPoints en_spec_randomPoints (hok_cons hk_spec_sorted_h en_spec_sorted_h (hok_cons hk_spec_reader_pick en_spec_reader_pick (hok0)))
theorem lh_spec_anySites_spec_randomPoints : lkHS h_spec_anySites 44 = some hs_spec_randomPoints := rfl
theorem lh_spec_anySites_spec_sorted_h : lkHS h_spec_anySites 43 = some hs_spec_sorted_h := rfl
theorem lh_spec_anySites_spec_reader_pick : lkHS h_spec_anySites 45 = some hs_spec_reader_pick := rfl
theorem c_spec_anySites (b : List Int) (p : Nat) (hb : BytesOK b) (hp : p ≤ 700000) : HCall Try.prog 20 [.ptr 1000 0] (sm ([(1000, rdr b p)])) (.sl 2 (encPs (aSites b p).1)) (sm ([(1000, rdr b (aSites b p).2)])) := by
  refine hcall_V (G := g_spec_anySites) (H := h_spec_anySites) [] tabOK mixed gok_spec_anySites hok_spec_anySites Try.func20 rfl Try.ntmps20 Try.results20 rfl (by kernel_rfl) fun F hN hlen => ?_
  simp only [sm]
  have hr := rNum_le hb (show p ≤ 900000 by omega) (show (0 : Int) ≤ 9 by omega)
  have hrl : (rPoints b p 9).length = rNum b p 9 := rLoop_len _ _ _ _
  have hA : ∀ S n, insP (rPoints b p 9) = S → rNum b p 9 = n → aSites b p = if 1 < S.length then if pickI b (p + 2 + 2 * n) 14 = 0 then (S.set 0 (pAt S 1), p + 2 + 2 * n + 1) else (S, p + 2 + 2 * n + 1) else (S, p + 2 + 2 * n) := by
    intro S n e1 e2; subst e1 e2; rfl
  have hi := insP_len (rPoints b p 9)
  obtain ⟨R, hR⟩ : ∃ R, rPoints b p 9 = R := ⟨_, rfl⟩
  obtain ⟨n, hn⟩ : ∃ n, rNum b p 9 = n := ⟨_, rfl⟩
  rw [hR] at hA hi hrl
  rw [hn] at hr hrl
  obtain ⟨S, hS⟩ : ∃ S, insP R = S := ⟨_, rfl⟩
  rw [hS] at hi
  have hB := hA S n hS hn
  clear hA
  have q1 : p ≤ 800000 := by omega
  have q2 : R.length ≤ 1000 := by omega
  have q3 : p + 2 + 2 * n ≤ 1000000 := by omega
  have eS := len_encPs S
  have tS := take_encPs S
  have tR := take_encPs R
  have tn0 : Int.toNat 0 = 0 := rfl
  have tn1 : Int.toNat 1 = 1 := rfl
  by_cases c1 : 1 < S.length
  · have d1 : decide ((1 : Int) < (S.length : Int)) = true := decide_eq_true (by omega)
    rw [if_pos c1] at hB
    by_cases c2 : pickI b (p + 2 + 2 * n) 14 = 0
    · have d2 : (pickI b (p + 2 + 2 * n) 14 == 0) = true := by simpa using c2
      rw [if_pos c2] at hB
      have g1 := getD_encPs (l := S) (i := 1) (by omega)
      have hset := encPs_set S 0 (pAt S 1)
      simp only [V_seq, V_ret, V_region, V_cond, brW_true, W_nil, W_cons, effOp2, KN_seq, KXr_nil, QE, asB, effOp, effPure, effPick, effStore, Option.isSome_some, skipE, pureV, pickV, storeV, binV, partV, eltV, loadV, iaddrV, lenV, over, solid, IV.cells, ofC, strip, lkT, lkH, ISt.app, opI, gO, gB, allB, gval, wrapG, dstOK, setD, mentTm, mentHp, IV.ment, IV.mentL, eltI, oneI, noId', lendV, lendP, lent, lentP, idsV, idsL, clean, callArgs, callFn, enumT, conv, conv0, convL, IBlk.shape, Op.operands, Call.operands, List.append_toArray, reduceIte, reduceCtorEq, cond_true, cond_false, Bool.or_false, Bool.or_true, Bool.and_true, Bool.and_false, Bool.true_and, Bool.not_false, Nat.reduceAdd, Nat.reduceSub, Nat.reduceMul, Nat.reduceLT, Nat.reduceLeDiff, Nat.reduceEqDiff, Nat.reduceBEq, Nat.add_zero, Nat.zero_add, ne_eq, not_false_eq_true, beq_self_eq_true, true_and, and_true, and_false, and_self, false_implies, implies_true, forall_const, List.map_cons, List.map_nil, List.nil_append, List.cons_append, List.append_nil, List.all_cons, List.all_nil, Option.some.injEq, Option.map_some, Option.map_none, Option.bind_some, List.getElem?_cons_zero, List.getElem?_cons_succ, List.getD_cons_zero, List.length_cons, List.length_nil, List.take_succ_cons, List.take_zero, List.take_nil, List.drop_zero, ex_clo, or_self, Bool.true_eq_false, Bool.false_eq_true, tab23, tab34, hN, Int.toNat_natCast, isPs_enc, toPs_enc, isBy_enc, toBy_enc, FinH, resA, resV, SLe, SLe0, convTm, convHp, convB, sm, effH, mkHC0, mkHC1, lendM, lentM, lentI, allHere, addIds, idsB, flatIds, reach, posn, renV, renL, renB, renH, numB, subHp, fwd, bk, bwd, nones, keyOK, noSl, noSlL, flatBs, List.contains, List.elem, Option.isSome_some, List.nodup_nil, List.nodup_cons, List.not_mem_nil, List.mem_cons, or_false, Option.getD_some, lh_spec_anySites_spec_randomPoints, lh_spec_anySites_spec_sorted_h, lh_spec_anySites_spec_reader_pick, hs_spec_randomPoints, hs_spec_sorted_h, hs_spec_reader_pick, rdr, hb, hR, hn, hS, q1, q2, q3, eS, tR, d1, d2, g1, hset, tn0, tn1, Nat.zero_add, hB]
      refine ⟨⟨⟨by omega, by omega⟩, List.take_length.symm⟩, ⟨by rw [len_encPs]; exact Nat.le_refl _, (take_encPs S).symm, .inr (noSl_encPs _)⟩, by omega, ⟨by omega, by omega⟩, by omega, ⟨by omega, by omega⟩, by omega, id, ?_⟩
      simp [convL, conv, conv0, clean]
      exact ⟨_, _, ⟨rfl, rfl⟩, by rw [len_encPs, List.length_set]; exact Nat.le_refl _, (List.take_of_length_le (by rw [len_encPs, List.length_set]; exact Nat.le_refl _)).symm⟩
    · have d2 : (pickI b (p + 2 + 2 * n) 14 == 0) = false := by simpa using c2
      rw [if_neg c2] at hB
      simp only [V_seq, V_skip, V_ret, V_region, V_cond, brW_false, W_nil, W_cons, effOp2, KN_seq, KXr_nil, QE, asB, effOp, effPure, effPick, Option.isSome_some, skipE, pureV, pickV, binV, lenV, ofC, strip, lkT, lkH, ISt.app, opI, gO, gB, allB, gval, wrapG, dstOK, setD, mentTm, mentHp, IV.ment, IV.mentL, lendV, lendP, lent, lentP, idsV, idsL, clean, callArgs, callFn, enumT, conv, conv0, convL, IBlk.shape, Op.operands, Call.operands, List.append_toArray, reduceIte, reduceCtorEq, cond_true, cond_false, Bool.or_false, Bool.or_true, Bool.and_true, Bool.and_false, Bool.not_false, Nat.reduceAdd, Nat.reduceSub, Nat.reduceMul, Nat.reduceLT, Nat.reduceLeDiff, Nat.reduceEqDiff, Nat.reduceBEq, Nat.add_zero, Nat.zero_add, ne_eq, not_false_eq_true, beq_self_eq_true, true_and, and_true, and_false, and_self, false_implies, implies_true, List.map_cons, List.map_nil, List.nil_append, List.cons_append, List.append_nil, List.all_cons, List.all_nil, Option.some.injEq, Option.map_some, Option.map_none, Option.bind_some, List.getElem?_cons_zero, List.getElem?_cons_succ, List.getD_cons_zero, List.drop_zero, ex_clo, or_self, Bool.true_eq_false, Bool.false_eq_true, tab23, hN, Int.toNat_natCast, isPs_enc, toPs_enc, isBy_enc, toBy_enc, FinH, resA, resV, SLe, SLe0, convTm, convHp, convB, sm, effH, mkHC0, mkHC1, lendM, lentM, lentI, allHere, addIds, idsB, flatIds, reach, posn, renV, renL, renB, renH, numB, subHp, fwd, bk, bwd, nones, keyOK, noSl, noSlL, flatBs, List.contains, List.elem, Option.isSome_some, List.nodup_nil, List.nodup_cons, List.not_mem_nil, List.mem_cons, or_false, Option.getD_some, lh_spec_anySites_spec_randomPoints, lh_spec_anySites_spec_sorted_h, lh_spec_anySites_spec_reader_pick, hs_spec_randomPoints, hs_spec_sorted_h, hs_spec_reader_pick, rdr, hb, hR, hn, hS, q1, q2, q3, eS, tR, tS, d1, d2, hB]
      refine ⟨⟨⟨by omega, by omega⟩, List.take_length.symm⟩, ⟨by rw [len_encPs]; exact Nat.le_refl _, .inr (noSl_encPs _)⟩, by omega, id, ?_⟩
      simp [convL, conv, conv0, clean]
      exact ⟨_, _, ⟨rfl, rfl⟩, by omega, tS.symm⟩
  · have d1 : decide ((1 : Int) < (S.length : Int)) = false := decide_eq_false (by omega)
    rw [if_neg c1] at hB
    simp only [V_seq, V_skip, V_ret, V_region, V_cond, brW_false, W_nil, W_cons, effOp2, KN_seq, KXr_nil, QE, asB, effOp, effPure, effPick, Option.isSome_some, skipE, pureV, pickV, binV, lenV, ofC, strip, lkT, lkH, ISt.app, opI, gO, gB, allB, gval, wrapG, dstOK, setD, mentTm, mentHp, IV.ment, IV.mentL, lendV, lendP, lent, lentP, idsV, idsL, clean, callArgs, callFn, enumT, conv, conv0, convL, IBlk.shape, Op.operands, Call.operands, List.append_toArray, reduceIte, reduceCtorEq, cond_true, cond_false, Bool.or_false, Bool.or_true, Bool.and_true, Bool.and_false, Bool.not_false, Nat.reduceAdd, Nat.reduceSub, Nat.reduceMul, Nat.reduceLT, Nat.reduceLeDiff, Nat.reduceEqDiff, Nat.reduceBEq, Nat.add_zero, Nat.zero_add, ne_eq, not_false_eq_true, beq_self_eq_true, true_and, and_true, false_and, and_false, and_self, false_implies, implies_true, List.map_cons, List.map_nil, List.nil_append, List.cons_append, List.append_nil, List.all_cons, List.all_nil, Option.some.injEq, Option.map_some, Option.map_none, Option.bind_some, List.getElem?_cons_zero, List.getElem?_cons_succ, List.getD_cons_zero, List.drop_zero, ex_clo, bft, or_self, Bool.true_eq_false, Bool.false_eq_true, tab23, hN, Int.toNat_natCast, isPs_enc, toPs_enc, isBy_enc, toBy_enc, FinH, resA, resV, SLe, SLe0, convTm, convHp, convB, sm, effH, mkHC0, mkHC1, lendM, lentM, lentI, allHere, addIds, idsB, flatIds, reach, posn, renV, renL, renB, renH, numB, subHp, fwd, bk, bwd, nones, keyOK, noSl, noSlL, flatBs, List.contains, List.elem, Option.isSome_some, List.nodup_nil, List.nodup_cons, List.not_mem_nil, List.mem_cons, or_false, Option.getD_some, lh_spec_anySites_spec_randomPoints, lh_spec_anySites_spec_sorted_h, lh_spec_anySites_spec_reader_pick, hs_spec_randomPoints, hs_spec_sorted_h, hs_spec_reader_pick, rdr, hb, hR, hn, hS, q1, q2, q3, eS, tR, tS, d1, hB]
    refine ⟨⟨⟨by omega, by omega⟩, List.take_length.symm⟩, ⟨by rw [len_encPs]; exact Nat.le_refl _, .inr (noSl_encPs _)⟩, id, ?_⟩
    simp [convL, conv, conv0, clean]
    exact ⟨_, _, ⟨rfl, rfl⟩, by omega, tS.symm⟩
def hs_spec_anySites : HSpec := ⟨[false], fun xs hp => match xs, hp with | [.ptr 1000 0], [(1000, .box ty [.sl 1 es, .num .i64 pz])] => (isBy es) ∧ (ty = 65) ∧ (pz = (pz.toNat : Int)) ∧ ((fun (b : List Int) (p : Nat) => BytesOK b) (toIs es) pz.toNat) ∧ ((fun (b : List Int) (p : Nat) => p ≤ 700000) (toIs es) pz.toNat) | _, _ => False, fun xs hp => match xs, hp with | [.ptr 1000 0], [(1000, .box ty [.sl 1 es, .num .i64 pz])] => (fun (b : List Int) (p : Nat) => (.sl 2 (encPs (aSites b p).1) : IV)) (toIs es) pz.toNat | _, _ => .junk, fun xs hp => match xs, hp with | [.ptr 1000 0], [(1000, .box ty [.sl 1 es, .num .i64 pz])] => (fun (b : List Int) (p : Nat) => ([(1000, rdr b (aSites b p).2)] : List (Nat × IBlk))) (toIs es) pz.toNat | _, _ => []⟩
theorem hk_spec_anySites : ∀ args hp, hs_spec_anySites.pre args hp → HCall Try.prog 20 args (sm hp) (hs_spec_anySites.val args hp) (sm (hs_spec_anySites.hval args hp)) := by
  intro args hp h
  unfold hs_spec_anySites at h ⊢; simp only at h ⊢; split at h
  · obtain ⟨h1, rfl, h3, h4, h5⟩ := h; obtain ⟨l, rfl⟩ := isBy_ex h1; rw [toBy_enc] at *; rw [h3]; exact c_spec_anySites l _ h4 (by simpa using h5)
  · exact h.elim
theorem en_spec_anySites : Enters Try.prog 20 := enters_of Try.func20 (by kernel_rfl) rfl

theorem aSites_bd {b : List Int} (hb : BytesOK b) {p : Nat} (hp : p ≤ 700000) : (aSites b p).1.length ≤ 9 ∧ (aSites b p).2 ≤ p + 30 := by
  have hr := rNum_le hb (show p ≤ 900000 by omega) (show (0 : Int) ≤ 9 by omega)
  have hrl : (rPoints b p 9).length = rNum b p 9 := rLoop_len _ _ _ _
  have hi := insP_len (rPoints b p 9)
  unfold aSites
  split
  · split
    · simp only [List.length_set]; omega
    · simp only []; omega
  · simp only []; omega
end Go.Proofs.Yteaanfpkakaaoaa
