/- Contracts: drawn rectangles. -/
import Derived.Test.YtlifmigihfancaaB50
import Derived.Test.YtlifmigihfancaaB6
import Derived.Test.YtlifmigihfancaaBO
set_option linter.unusedVariables false
set_option linter.unusedSimpArgs false
set_option maxHeartbeats 1600000
set_option maxRecDepth 100000
namespace Go.Proofs.Ytlifmigihfancaa
open Go Go.Ideal Go.Pl Go.Sort

def rRect (b : List Int) (p : Nat) : Qd := (rPoint b p, ((rPoint b p).1 + 1 + pickI b (p + 2) 6, (rPoint b p).2 + 1 + pickI b (p + 3) 6))
def g_spec_randomRect : List (Nat × PSpec) := []
theorem gok_spec_randomRect : GOK Try.prog g_spec_randomRect := gok0
def h_spec_randomRect : List (Nat × HSpec) := [(141, hs_spec_randomPoint), (117, hs_spec_reader_pick)]
theorem hok_spec_randomRect : HOK Try.prog h_spec_randomRect := hok_cons hk_spec_randomPoint en_spec_randomPoint (hok_cons hk_spec_reader_pick en_spec_reader_pick (hok0))
theorem lh_spec_randomRect_spec_randomPoint : lkHS h_spec_randomRect 141 = some hs_spec_randomPoint := rfl
theorem lh_spec_randomRect_spec_reader_pick : lkHS h_spec_randomRect 117 = some hs_spec_reader_pick := rfl
theorem c_spec_randomRect (b : List Int) (p : Nat) (hb : BytesOK b) (hp : p ≤ 800000) : HCall Try.prog 147 [.ptr 1000 0] (sm ([(1000, rdr b p)])) (encQ (rRect b p)) (sm ([(1000, rdr b (p + 4))])) := by
  refine hcall_V (G := g_spec_randomRect) (H := h_spec_randomRect) [(2, [(0, 5), (1, 5), (2, 5), (3, 5), (5, 7), (5, 8), (5, 9), (5, 10), (0, 11), (1, 11), (2, 11), (3, 11), (4, 11), (6, 11), (7, 11), (8, 11), (9, 11), (5, 12), (5, 13), (11, 13), (5, 14), (11, 14)])] tabOK mixed gok_spec_randomRect hok_spec_randomRect Try.func147 rfl Try.ntmps147 Try.results147 rfl (by kernel_rfl) fun F hN hlen => ?_
  simp only [sm]
  have hp1 : p ≤ 900000 := by omega
  have hp2 : p + 2 ≤ 1000000 := by omega
  have hp3 : p + 2 + 1 ≤ 1000000 := by omega
  have hr := rPoint_le hb (show p ≤ 1000000 by omega)
  have h1 := pick_nonneg hb (show p + 2 ≤ 1000000000 by omega) 6
  have h2 := pick_nonneg hb (show p + 3 ≤ 1000000000 by omega) 6
  have h3 := h1.2.1 (by omega)
  have h4 := h2.2.1 (by omega)
  have hv : rRect b p = (rPoint b p, ((rPoint b p).1 + 1 + pickI b (p + 2) 6, (rPoint b p).2 + 1 + pickI b (p + 2 + 1) 6)) := rfl
  have h2' : 0 ≤ pickI b (p + 2 + 1) 6 ∧ pickI b (p + 2 + 1) 6 < 6 := ⟨h2.1, h4⟩
  obtain ⟨A, hA⟩ : ∃ A, rPoint b p = A := ⟨_, rfl⟩
  rw [hA] at hr hv
  have w1 : IntKind.i64.wrap (A.1 + 1) = A.1 + 1 := wr (by omega) (by omega)
  have w2 : IntKind.i64.wrap (A.2 + 1) = A.2 + 1 := wr (by omega) (by omega)
  have w3 : IntKind.i64.wrap (A.1 + 1 + pickI b (p + 2) 6) = A.1 + 1 + pickI b (p + 2) 6 := wr (by omega) (by omega)
  have w4 : IntKind.i64.wrap (A.2 + 1 + pickI b (p + 2 + 1) 6) = A.2 + 1 + pickI b (p + 2 + 1) 6 := wr (by omega) (by omega)
  simp only [V_seq, V_ret, V_region, V_draw, drawW, WS_nil, pairsOf, W_nil, W_cons, effOp2, effOp3, WI_nil, WI_cons, KN_seq, KXr_nil, QE, dynOK, indB, farB, seeB, see, isStore, freshB, freshK, freshK1, ownId, heapy, effOp, effPure, effNew, effAlloc, effStore, Option.isSome_some, skipE, badE, pureV, storeV, binV, partV, loadV, faddrV, over, solid, buildL, IV.cells, ofC, strip, lkT, lkH, ISt.app, opI, gO, gB, allB, gval, wrapG, dstOK, setD, mentTm, mentHp, IV.ment, IV.mentL, oneI, idsV, idsL, clean, callArgs, callFn, enumT, conv, conv0, convL, IBlk.shape, Op.operands, Call.operands, List.append_toArray, reduceIte, reduceCtorEq, cond_true, cond_false, Bool.or_false, Bool.or_true, Bool.and_true, Bool.and_false, Bool.and_eq_true, Bool.not_true, Bool.not_false, Nat.reduceAdd, Nat.reduceSub, Nat.reduceMul, Nat.reduceLT, Nat.reduceLeDiff, Nat.reduceEqDiff, Nat.reduceBEq, Nat.add_zero, Nat.zero_add, ne_eq, not_false_eq_true, beq_self_eq_true, true_and, and_true, and_false, and_self, false_implies, implies_true, List.map_cons, List.map_nil, List.nil_append, List.cons_append, List.append_nil, List.all_cons, List.all_nil, Option.map_some, List.getD_cons_zero, List.getD_cons_succ, List.length_cons, List.length_nil, List.take_succ_cons, List.take_zero, List.take_nil, List.drop_succ_cons, List.drop_zero, List.drop_nil, ex_clo, Bool.true_eq_false, Bool.false_eq_true, tab3, tab30, tab37, hN, Int.toNat_natCast, encP, encQ, isBy_enc, toBy_enc, FinH, resA, resV, SLe, SLe0, convTm, convHp, convB, sm, effH, effHs, keysIn, mkHC0, mkHC1, lendM, lentM, lentI, allHere, addIds, idsB, flatIds, reach, posn, renV, renL, renB, renH, numB, subHp, fwd, bk, bwd, nones, keyOK, noSl, noSlL, flatBs, List.contains, List.elem, Option.isSome_some, List.nodup_nil, List.nodup_cons, List.not_mem_nil, or_false, Option.getD_some, lh_spec_randomRect_spec_randomPoint, lh_spec_randomRect_spec_reader_pick, hs_spec_randomPoint, hs_spec_reader_pick, rdr, hb, hp1, hp2, hp3, hA, w1, w2, w3, w4, hv]
  exact ⟨by omega, by omega, id, by simp [convL, conv, conv0, clean]; omega⟩
def hs_spec_randomRect : HSpec := ⟨[false], fun xs hp => match xs, hp with | [.ptr 1000 0], [(1000, .box ty [.sl 1 es, .num .i64 pz])] => (isBy es) ∧ (ty = 140) ∧ (pz = (pz.toNat : Int)) ∧ ((fun (b : List Int) (p : Nat) => BytesOK b) (toIs es) pz.toNat) ∧ ((fun (b : List Int) (p : Nat) => p ≤ 800000) (toIs es) pz.toNat) | _, _ => False, fun xs hp => match xs, hp with | [.ptr 1000 0], [(1000, .box ty [.sl 1 es, .num .i64 pz])] => (fun (b : List Int) (p : Nat) => (encQ (rRect b p) : IV)) (toIs es) pz.toNat | _, _ => .junk, fun xs hp => match xs, hp with | [.ptr 1000 0], [(1000, .box ty [.sl 1 es, .num .i64 pz])] => (fun (b : List Int) (p : Nat) => ([(1000, rdr b (p + 4))] : List (Nat × IBlk))) (toIs es) pz.toNat | _, _ => []⟩
theorem hk_spec_randomRect : ∀ args hp, hs_spec_randomRect.pre args hp → HCall Try.prog 147 args (sm hp) (hs_spec_randomRect.val args hp) (sm (hs_spec_randomRect.hval args hp)) := by
  intro args hp h
  unfold hs_spec_randomRect at h ⊢; simp only at h ⊢; split at h
  · obtain ⟨h1, rfl, h3, h4, h5⟩ := h; obtain ⟨l, rfl⟩ := isBy_ex h1; rw [toBy_enc] at *; rw [h3]; exact c_spec_randomRect l _ h4 (by simpa using h5)
  · exact h.elim
theorem en_spec_randomRect : Enters Try.prog 147 := enters_of Try.func147 (by kernel_rfl) rfl

def badJ (b : List Int) (p : Nat) : Int := [-1001, -1000].getD (pickI b p 2).toNat 0
def aRect (b : List Int) (p : Nat) : Qd × Nat :=
  if pickI b (p + 4) 18 = 0 then (((rRect b p).1, ((rRect b p).1.1, (rRect b p).2.2)), p + 5)
  else if pickI b (p + 4) 18 = 1 then ((((rRect b p).1.1, badJ b (p + 5)), (rRect b p).2), p + 6)
  else (rRect b p, p + 5)
def g_spec_anyRect : List (Nat × PSpec) := []
theorem gok_spec_anyRect : GOK Try.prog g_spec_anyRect := gok0
def h_spec_anyRect : List (Nat × HSpec) := [(147, hs_spec_randomRect), (117, hs_spec_reader_pick), (146, hs_spec_reader_one)]
theorem hok_spec_anyRect : HOK Try.prog h_spec_anyRect := hok_cons hk_spec_randomRect en_spec_randomRect (hok_cons hk_spec_reader_pick en_spec_reader_pick (hok_cons hk_spec_reader_one en_spec_reader_one (hok0)))
theorem lh_spec_anyRect_spec_randomRect : lkHS h_spec_anyRect 147 = some hs_spec_randomRect := rfl
theorem lh_spec_anyRect_spec_reader_pick : lkHS h_spec_anyRect 117 = some hs_spec_reader_pick := rfl
theorem lh_spec_anyRect_spec_reader_one : lkHS h_spec_anyRect 146 = some hs_spec_reader_one := rfl
theorem c_spec_anyRect (b : List Int) (p : Nat) (hb : BytesOK b) (hp : p ≤ 700000) : HCall Try.prog 148 [.ptr 1000 0] (sm ([(1000, rdr b p)])) (encQ (aRect b p).1) (sm ([(1000, rdr b (aRect b p).2)])) := by
  refine hcall_V (G := g_spec_anyRect) (H := h_spec_anyRect) [] tabOK mixed gok_spec_anyRect hok_spec_anyRect Try.func148 rfl Try.ntmps148 Try.results148 rfl (by kernel_rfl) fun F hN hlen => ?_
  simp only [sm]
  have hp1 : p ≤ 800000 := by omega
  have hp2 : p + 4 ≤ 1000000 := by omega
  have hp3 : p + 4 + 1 ≤ 900000 := by omega
  by_cases c0 : pickI b (p + 4) 18 = 0
  · have d1 : (pickI b (p + 4) 18 == 0) = true := by simpa using c0
    have hA : aRect b p = (((rRect b p).1, ((rRect b p).1.1, (rRect b p).2.2)), p + 5) := by rw [aRect, if_pos c0]
    simp only [V_seq, V_ret, V_block, V_region, V_cond, brW_true, W_nil, W_cons, effOp2, KN_seq, KN_block, KXr_nil, QE, asB, effOp, effPure, effNew, effAlloc, effStore, Option.isSome_some, skipE, pureV, storeV, binV, partV, loadV, faddrV, over, solid, IV.cells, ofC, strip, lkT, lkH, ISt.app, opI, gO, gB, allB, gval, wrapG, dstOK, setD, mentTm, mentHp, IV.ment, IV.mentL, oneI, idsV, idsL, clean, callArgs, callFn, enumT, conv, conv0, convL, IBlk.shape, Op.operands, reduceIte, reduceCtorEq, cond_true, cond_false, Bool.or_false, Bool.or_true, Bool.and_true, Nat.reduceAdd, Nat.reduceSub, Nat.reduceMul, Nat.reduceLT, Nat.reduceLeDiff, Nat.reduceEqDiff, Nat.reduceBEq, Nat.add_zero, Nat.zero_add, not_false_eq_true, beq_self_eq_true, true_and, and_true, and_false, and_self, false_implies, implies_true, List.map_cons, List.map_nil, List.nil_append, List.cons_append, List.append_nil, List.all_cons, List.all_nil, Option.map_some, List.getD_cons_zero, List.getD_cons_succ, List.length_cons, List.length_nil, List.take_succ_cons, List.take_zero, List.take_nil, List.drop_succ_cons, List.drop_zero, List.drop_nil, ex_clo, Bool.true_eq_false, Bool.false_eq_true, tab3, tab30, tab37, hN, Int.toNat_natCast, encQ, isBy_enc, toBy_enc, FinH, resA, resV, SLe, SLe0, convTm, convHp, convB, sm, effH, mkHC0, mkHC1, lendM, lentM, lentI, allHere, addIds, idsB, flatIds, reach, posn, renV, renL, renB, renH, numB, subHp, fwd, bk, bwd, nones, keyOK, noSl, noSlL, flatBs, List.contains, List.elem, Option.isSome_some, List.nodup_nil, List.nodup_cons, List.not_mem_nil, or_false, Option.getD_some, lh_spec_anyRect_spec_randomRect, lh_spec_anyRect_spec_reader_pick, hs_spec_randomRect, hs_spec_reader_pick, rdr, hb, hp1, hp2, d1, hA]
    exact ⟨by omega, id, by simp [convL, conv, conv0, clean]; omega⟩
  · have d1 : (pickI b (p + 4) 18 == 0) = false := by simpa using c0
    by_cases c1 : pickI b (p + 4) 18 = 1
    · have d2 : (pickI b (p + 4) 18 == 1) = true := by simpa using c1
      have hA : aRect b p = ((((rRect b p).1.1, badJ b (p + 5)), (rRect b p).2), p + 6) := by rw [aRect, if_neg c0, if_pos c1]
      have hbd : [-1001, -1000].getD (pickI b (p + 4 + 1) 2).toNat 0 = badJ b (p + 5) := rfl
      simp only [V_seq, V_ret, V_block, V_region, V_cond, brW_true, brW_false, W_nil, W_cons, effOp2, KN_seq, KN_block, KXr_nil, QE, asB, effOp, effPure, effNew, effAlloc, effBuildSlice, effFrz, frz, tmpsOf, effStore, Option.isSome_some, skipE, pureV, storeV, binV, partV, loadV, faddrV, over, solid, IV.cells, ofC, strip, lkT, lkH, ISt.app, opI, gO, gB, allB, gval, wrapG, dstOK, setD, mentTm, mentHp, IV.ment, IV.mentL, partsL, eltsI, eltI, oneI, noId', idsV, idsL, clean, callArgs, callFn, enumT, conv, conv0, convL, IBlk.shape, Op.operands, reduceIte, reduceCtorEq, cond_true, cond_false, Bool.or_false, Bool.or_true, Bool.and_true, Bool.false_and, Nat.reduceAdd, Nat.reduceSub, Nat.reduceMul, Nat.reduceLT, Nat.reduceLeDiff, Nat.reduceEqDiff, Nat.reduceBEq, Nat.add_zero, Nat.zero_add, ne_eq, not_false_eq_true, beq_self_eq_true, true_and, and_true, and_false, and_self, false_implies, implies_true, List.map_cons, List.map_nil, List.nil_append, List.cons_append, List.append_nil, List.all_cons, List.all_nil, Option.map_some, List.getD_cons_zero, List.getD_cons_succ, List.length_cons, List.length_nil, List.take_succ_cons, List.take_zero, List.take_nil, List.drop_succ_cons, List.drop_zero, List.drop_nil, ex_clo, or_self, Bool.true_eq_false, Bool.false_eq_true, tab3, tab25, tab30, tab37, hN, Int.toNat_natCast, encQ, isBy_enc, toBy_enc, isIs_nil, toIs_nil, isIs_cons, toIs_cons, FinH, resA, resV, SLe, SLe0, convTm, convHp, convB, sm, effH, mkHC0, mkHC1, lendM, lentM, lentI, allHere, addIds, idsB, flatIds, reach, posn, renV, renL, renB, renH, numB, subHp, fwd, bk, bwd, nones, keyOK, noSl, noSlL, flatBs, List.contains, List.elem, Option.isSome_some, List.nodup_nil, List.nodup_cons, List.not_mem_nil, List.mem_cons, or_false, Option.getD_some, lh_spec_anyRect_spec_randomRect, lh_spec_anyRect_spec_reader_pick, lh_spec_anyRect_spec_reader_one, hs_spec_randomRect, hs_spec_reader_pick, hs_spec_reader_one, rdr, hb, hp1, hp2, hp3, d1, d2, hA]
      exact ⟨by omega, List.take_length.symm, id, by simp [convL, conv, conv0, clean, badJ]; omega⟩
    · have d2 : (pickI b (p + 4) 18 == 1) = false := by simpa using c1
      have hA : aRect b p = (rRect b p, p + 5) := by rw [aRect, if_neg c0, if_neg c1]
      simp only [V_seq, V_skip, V_ret, V_block, V_region, V_cond, brW_false, W_nil, W_cons, effOp2, KN_seq, KN_block, KXr_nil, QE, asB, effOp, effPure, effNew, effAlloc, effStore, Option.isSome_some, skipE, pureV, storeV, binV, partV, loadV, over, solid, IV.cells, ofC, strip, lkT, lkH, ISt.app, opI, gO, gB, allB, gval, wrapG, dstOK, setD, mentTm, mentHp, IV.ment, IV.mentL, oneI, idsV, idsL, clean, callArgs, callFn, enumT, conv, conv0, convL, IBlk.shape, Op.operands, reduceIte, reduceCtorEq, cond_true, cond_false, Bool.or_false, Bool.or_true, Bool.and_true, Nat.reduceAdd, Nat.reduceSub, Nat.reduceMul, Nat.reduceLT, Nat.reduceLeDiff, Nat.reduceEqDiff, Nat.reduceBEq, Nat.zero_add, not_false_eq_true, beq_self_eq_true, true_and, and_true, and_false, and_self, false_implies, implies_true, List.map_cons, List.map_nil, List.nil_append, List.cons_append, List.append_nil, List.all_cons, List.all_nil, Option.map_some, List.getD_cons_zero, List.length_cons, List.length_nil, List.take_succ_cons, List.take_zero, List.take_nil, List.drop_succ_cons, List.drop_zero, List.drop_nil, ex_clo, Bool.true_eq_false, Bool.false_eq_true, tab37, hN, Int.toNat_natCast, encQ, isBy_enc, toBy_enc, FinH, resA, resV, SLe, SLe0, convTm, convHp, convB, sm, effH, mkHC0, mkHC1, lendM, lentM, lentI, allHere, addIds, idsB, flatIds, reach, posn, renV, renL, renB, renH, numB, subHp, fwd, bk, bwd, nones, keyOK, noSl, noSlL, flatBs, List.contains, List.elem, Option.isSome_some, List.nodup_nil, List.nodup_cons, List.not_mem_nil, or_false, Option.getD_some, lh_spec_anyRect_spec_randomRect, lh_spec_anyRect_spec_reader_pick, hs_spec_randomRect, hs_spec_reader_pick, rdr, hb, hp1, hp2, d1, d2, hA]
      exact ⟨by omega, id, by simp [convL, conv, conv0, clean]; omega⟩
def hs_spec_anyRect : HSpec := ⟨[false], fun xs hp => match xs, hp with | [.ptr 1000 0], [(1000, .box ty [.sl 1 es, .num .i64 pz])] => (isBy es) ∧ (ty = 140) ∧ (pz = (pz.toNat : Int)) ∧ ((fun (b : List Int) (p : Nat) => BytesOK b) (toIs es) pz.toNat) ∧ ((fun (b : List Int) (p : Nat) => p ≤ 700000) (toIs es) pz.toNat) | _, _ => False, fun xs hp => match xs, hp with | [.ptr 1000 0], [(1000, .box ty [.sl 1 es, .num .i64 pz])] => (fun (b : List Int) (p : Nat) => (encQ (aRect b p).1 : IV)) (toIs es) pz.toNat | _, _ => .junk, fun xs hp => match xs, hp with | [.ptr 1000 0], [(1000, .box ty [.sl 1 es, .num .i64 pz])] => (fun (b : List Int) (p : Nat) => ([(1000, rdr b (aRect b p).2)] : List (Nat × IBlk))) (toIs es) pz.toNat | _, _ => []⟩
theorem hk_spec_anyRect : ∀ args hp, hs_spec_anyRect.pre args hp → HCall Try.prog 148 args (sm hp) (hs_spec_anyRect.val args hp) (sm (hs_spec_anyRect.hval args hp)) := by
  intro args hp h
  unfold hs_spec_anyRect at h ⊢; simp only at h ⊢; split at h
  · obtain ⟨h1, rfl, h3, h4, h5⟩ := h; obtain ⟨l, rfl⟩ := isBy_ex h1; rw [toBy_enc] at *; rw [h3]; exact c_spec_anyRect l _ h4 (by simpa using h5)
  · exact h.elim
theorem en_spec_anyRect : Enters Try.prog 148 := enters_of Try.func148 (by kernel_rfl) rfl

def rrL (b : List Int) (p n : Nat) : List Qd := (List.range n).map fun i => rRect b (p + 4 * i)
theorem rrL_succ (b : List Int) (p n : Nat) : rrL b p (n + 1) = rrL b p n ++ [rRect b (p + 4 * n)] := by simp [rrL, List.range_succ]
theorem rrL_len (b : List Int) (p n : Nat) : (rrL b p n).length = n := by simp [rrL]
def rcNum (b : List Int) (p : Nat) : Nat := [0, 1, 2, 3, 4, 5, 13].getD (pickI b p 7).toNat 0
def aRects (b : List Int) (p : Nat) : List Qd × Nat :=
  if rcNum b p = 0 then (rrL b (p + 1) (rcNum b p), p + 1 + 4 * rcNum b p)
  else if pickI b (p + 1 + 4 * rcNum b p) 8 = 0 then ((rrL b (p + 1) (rcNum b p)).set 0 (aRect b (p + 1 + 4 * rcNum b p + 1)).1, (aRect b (p + 1 + 4 * rcNum b p + 1)).2)
  else (rrL b (p + 1) (rcNum b p), p + 1 + 4 * rcNum b p + 1)
theorem encQs_setR (l : List Qd) (m : Nat) (p : Qd) : (encQs l).set m (.agg [.num .i64 p.1.1, .num .i64 p.1.2, .num .i64 p.2.1, .num .i64 p.2.2]) = encQs (l.set m p) := by
  show (l.map encQ).set m (encQ p) = (l.set m p).map encQ
  rw [List.map_set]
def g_spec_anyRects : List (Nat × PSpec) := []
theorem gok_spec_anyRects : GOK Try.prog g_spec_anyRects := gok0
def h_spec_anyRects : List (Nat × HSpec) := [(146, hs_spec_reader_one), (147, hs_spec_randomRect), (117, hs_spec_reader_pick), (148, hs_spec_anyRect)]
theorem hok_spec_anyRects : HOK Try.prog h_spec_anyRects := hok_cons hk_spec_reader_one en_spec_reader_one (hok_cons hk_spec_randomRect en_spec_randomRect (hok_cons hk_spec_reader_pick en_spec_reader_pick (hok_cons hk_spec_anyRect en_spec_anyRect (hok0))))
theorem lh_spec_anyRects_spec_reader_one : lkHS h_spec_anyRects 146 = some hs_spec_reader_one := rfl
theorem lh_spec_anyRects_spec_randomRect : lkHS h_spec_anyRects 147 = some hs_spec_randomRect := rfl
theorem lh_spec_anyRects_spec_reader_pick : lkHS h_spec_anyRects 117 = some hs_spec_reader_pick := rfl
theorem lh_spec_anyRects_spec_anyRect : lkHS h_spec_anyRects 148 = some hs_spec_anyRect := rfl
theorem c_spec_anyRects (b : List Int) (p : Nat) (hb : BytesOK b) (hp : p ≤ 600000) : HCall Try.prog 78 [.ptr 1000 0] (sm ([(1000, rdr b p)])) (.ref 0 0 (aRects b p).1.length true) (sm ([(0, .arr 4 37 (encQs (aRects b p).1)), (1000, rdr b (aRects b p).2)])) := by
  refine hcall_V (G := g_spec_anyRects) (H := h_spec_anyRects) [] tabOK mixed gok_spec_anyRects hok_spec_anyRects Try.func78 rfl Try.ntmps78 Try.results78 rfl (by kernel_rfl) fun F hN hlen => ?_
  simp only [sm]
  have h1 := pick_nonneg hb (show p ≤ 1000000000 by omega) 7
  have h2 := h1.2.1 (by omega)
  have q1 : p ≤ 900000 := by omega
  obtain ⟨n, hn⟩ : ∃ n, rcNum b p = n := ⟨_, rfl⟩
  have n13 : n ≤ 13 := by
    rw [← hn, rcNum]
    obtain ⟨k, hk⟩ : ∃ k, (pickI b p 7).toNat = k := ⟨_, rfl⟩
    have hk8 : k < 7 := by omega
    rw [hk]
    match k, hk8 with
    | 0, _ | 1, _ | 2, _ | 3, _ | 4, _ | 5, _ | 6, _ => decide
  have e8 : encI [0, 1, 2, 3, 4, 5, 13] = [.num .i64 0, .num .i64 1, .num .i64 2, .num .i64 3, .num .i64 4, .num .i64 5, .num .i64 13] := rfl
  have hv : ([0, 1, 2, 3, 4, 5, 13] : List Int).getD (pickI b p 7).toNat 0 = ((n : Nat) : Int) := by
    rw [← hn, rcNum]
    obtain ⟨k, hk⟩ : ∃ k, (pickI b p 7).toNat = k := ⟨_, rfl⟩
    have hk8 : k < 7 := by omega
    rw [hk]
    match k, hk8 with
    | 0, _ | 1, _ | 2, _ | 3, _ | 4, _ | 5, _ | 6, _ => rfl
  have hA : aRects b p = (if n = 0 then (rrL b (p + 1) n, p + 1 + 4 * n)
      else if pickI b (p + 1 + 4 * n) 8 = 0 then ((rrL b (p + 1) n).set 0 (aRect b (p + 1 + 4 * n + 1)).1, (aRect b (p + 1 + 4 * n + 1)).2)
      else (rrL b (p + 1) n, p + 1 + 4 * n + 1)) := by unfold aRects; rw [hn]
  have l8 : (([0, 1, 2, 3, 4, 5, 13] : List Int).length : Int) = 7 := rfl
  simp only [V_seq, V_block, V_region, W_nil, W_cons, effOp2, KN_seq, effOp, effPure, effNew, effBuildSlice, effFrz, frz, tmpsOf, Option.isSome_some, skipE, pureV, ofC, strip, lkT, lkH, ISt.app, opI, gO, gB, allB, gval, wrapG, dstOK, setD, mentTm, mentHp, IV.ment, IV.mentL, partsL, eltsI, eltI, noId', idsV, idsL, clean, callArgs, callFn, enumT, conv, conv0, convL, IBlk.shape, Op.operands, reduceIte, reduceCtorEq, cond_true, cond_false, Bool.or_false, Bool.or_true, Bool.and_true, Nat.reduceAdd, Nat.reduceSub, Nat.reduceMul, Nat.reduceLT, Nat.reduceLeDiff, Nat.reduceEqDiff, Nat.reduceBEq, Nat.zero_add, ne_eq, not_false_eq_true, beq_self_eq_true, true_and, and_false, and_self, implies_true, List.map_cons, List.map_nil, List.nil_append, List.cons_append, List.append_nil, List.all_nil, Option.map_some, List.getD_cons_zero, List.getD_cons_succ, List.length_cons, List.length_nil, List.take_succ_cons, List.take_nil, ex_clo, or_self, Bool.true_eq_false, Bool.false_eq_true, tab3, tab25, tab32, tab37, hN, Int.toNat_natCast, isBy_enc, toBy_enc, isIs_nil, toIs_nil, isIs_cons, toIs_cons, SLe0, convTm, convHp, convB, sm, effH, mkHC0, mkHC1, lendM, lentM, lentI, allHere, addIds, idsB, flatIds, reach, posn, renV, renL, renB, renH, numB, subHp, fwd, bk, bwd, nones, keyOK, noSl, noSlL, flatBs, List.contains, List.elem, Option.isSome_some, List.nodup_nil, List.nodup_cons, List.not_mem_nil, List.mem_cons, or_false, Option.getD_some, lh_spec_anyRects_spec_reader_one, hs_spec_reader_one, rdr, hb, q1, e8]
  refine V_loop (α := Nat) ⟨tabOK, mixed, gok_spec_anyRects, hok_spec_anyRects⟩ (by kernel_rfl) (fun i => i ≤ n) (fun i => ⟨[(4, .num .i64 ((n - i : Nat) : Int)), (3, .ref 5 0 i true), (0, .ptr 1000 0)], [(5, some (.arr 4 37 (encQs (rrL b (p + 1) i)))), (1000, some (rdr b (p + 1 + 4 * i)))]⟩) (fun i => n - i) 0 id (Nat.zero_le _) (by simp [SLe, SLe0, convTm, convHp, convB, conv, conv0, convL, lkT, lkH, clean, rrL, encQs, rdr]; exact hv) ?_
  intro i hi
  have hlen1 := rrL_len b (p + 1) i
  have hS := rrL_succ b (p + 1) i
  obtain ⟨q, hq⟩ : ∃ q, p + 1 + 4 * i = q := ⟨_, rfl⟩
  have hAi : i = n → aRects b p = (if i = 0 then (rrL b (p + 1) i, q)
      else if pickI b q 8 = 0 then ((rrL b (p + 1) i).set 0 (aRect b (q + 1)).1, (aRect b (q + 1)).2)
      else (rrL b (p + 1) i, q + 1)) := fun e => by rw [← hq]; subst e; exact hA
  have hq2 : p + 1 + 4 * (i + 1) = q + 4 := by omega
  rw [hq] at hS
  obtain ⟨L, hL⟩ : ∃ L, rrL b (p + 1) i = L := ⟨_, rfl⟩
  rw [hL] at hlen1 hS hAi
  simp only [hL, hq]
  have ln := len_encQs L
  have tl := take_encQs L
  rw [hlen1] at ln tl
  have hx : ∃ k ty es, IBlk.arr 4 37 (encQs L) = IBlk.arr k ty es := ⟨_, _, _, rfl⟩
  have q1000 : q ≤ 1000000 := by omega
  simp only [V_seq, V_region, V_cond, W_nil, W_cons, effOp2, KN_seq, asB, effOp, effPure, pureV, binV, ofC, strip, lkT, ISt.app, opI, gO, gB, allB, gval, wrapG, dstOK, setD, Op.operands, reduceIte, reduceCtorEq, Nat.reduceLT, Nat.reduceEqDiff, true_and, and_self, implies_true, List.nil_append, List.cons_append, hN, rdr]
  refine brW_some (fun h => ?_) (fun h => ?_)
  · have hlt : i < n := by simp at h; omega
    have w2 : IntKind.i64.wrap (((n - i : Nat) : Int) - 1) = ((n - (i + 1) : Nat) : Int) := by rw [wr (by omega) (by omega)]; omega
    have q800 : q ≤ 800000 := by omega
    obtain ⟨R, hR⟩ : ∃ R, rRect b q = R := ⟨_, rfl⟩
    rw [hR] at hS
    have f1 : encQs (rrL b (p + 1) (i + 1)) = (encQs L).take i ++ [IV.agg [.num .i64 R.1.1, .num .i64 R.1.2, .num .i64 R.2.1, .num .i64 R.2.2]] := by
      rw [hS, ← encQs_app, tl]; rfl
    simp only [V_seq, V_skip, V_block, V_region, W_nil, W_cons, effOp2, KN_seq, KN_block, KN_back, effOp, effPure, effNew, effBuildSlice, effFrz, frz, tmpsOf, effAppend, effZeros, Option.isSome_some, skipE, pureV, srcV, refId, binV, ofC, strip, lkT, lkH, ISt.app, opI, gO, gB, allB, gval, wrapG, dstOK, setD, mentTm, mentHp, IV.ment, IV.mentL, partsL, eltsI, eltI, oneI, noId', idsV, idsL, clean, callArgs, callFn, enumT, conv, conv0, convL, IBlk.shape, Op.operands, reduceIte, reduceCtorEq, cond_true, cond_false, Bool.or_false, Bool.or_true, Bool.and_true, Nat.reduceAdd, Nat.reduceSub, Nat.reduceMul, Nat.reduceLT, Nat.reduceLeDiff, Nat.reduceEqDiff, Nat.reduceBEq, Nat.zero_add, ne_eq, not_false_eq_true, beq_self_eq_true, true_and, and_true, and_false, and_self, implies_true, List.map_cons, List.map_nil, List.nil_append, List.cons_append, List.append_nil, List.all_cons, List.all_nil, Option.some.injEq, Option.map_some, List.getD_cons_zero, List.length_cons, List.length_nil, List.take_succ_cons, List.take_nil, List.drop_zero, ex_clo, Bool.true_eq_false, Bool.false_eq_true, tab32, tab37, hN, Int.toNat_natCast, encQ, isBy_enc, toBy_enc, SLe0, convTm, convHp, convB, sm, effH, mkHC0, mkHC1, lendM, lentM, lentI, allHere, addIds, idsB, flatIds, reach, posn, renV, renL, renB, renH, numB, subHp, fwd, bk, bwd, nones, keyOK, noSl, noSlL, flatBs, List.contains, List.elem, Option.isSome_some, List.nodup_nil, List.nodup_cons, List.not_mem_nil, or_false, Option.getD_some, lh_spec_anyRects_spec_randomRect, hs_spec_randomRect, rdr, hb, ln, q800, hR, w2]
    repeat refine And.intro (by first | omega | (simp; done) | (simp; omega)) ?_
    refine ⟨i + 1, fun x => if x = 5 then 17 else x, by simp only []; omega, by simp only []; omega, ?_⟩
    simp only [f1, hq2]
    simp [SLe, SLe0, convTm, convHp, convB, conv, conv0, convL, lkT, lkH, clean]
    exact ⟨(List.take_of_length_le (by rw [List.length_append, List.length_take]; exact Nat.le_refl _)).symm, fun _ _ _ => by omega⟩
  · have hie : i = n := by simp at h; omega
    have hB := hAi hie
    have q700 : q + 1 ≤ 700000 := by omega
    have q0 : Int.toNat 0 = 0 := rfl
    rcases Nat.eq_zero_or_pos i with hz | hz
    · rw [if_pos hz] at hB
      have d1 : decide ((0 : Int) < ((0 : Nat) : Int)) = false := rfl
      subst hz
      simp only [V_seq, V_skip, V_ret, V_exit, V_region, V_cond, brW_false, W_nil, W_cons, effOp2, KN_seq, KXr_nil, KXe_nil, KXe_seq, KXe_block, KXe_back, QE, asB, effOp, effPure, effPick, Option.isSome_some, skipE, pureV, pickV, binV, lenV, ofC, strip, lkT, lkH, ISt.app, opI, gO, gB, allB, gval, wrapG, dstOK, setD, mentTm, mentHp, IV.ment, IV.mentL, idsV, idsL, clean, callArgs, callFn, enumT, conv, conv0, convL, IBlk.shape, Op.operands, Call.operands, List.append_toArray, reduceIte, reduceCtorEq, cond_true, cond_false, Bool.or_false, Bool.or_true, Bool.and_true, Nat.reduceAdd, Nat.reduceSub, Nat.reduceMul, Nat.reduceLT, Nat.reduceLeDiff, Nat.reduceEqDiff, Nat.reduceBEq, Nat.zero_add, ne_eq, not_false_eq_true, beq_self_eq_true, true_and, and_true, false_and, and_false, and_self, false_implies, implies_true, List.map_cons, List.map_nil, List.nil_append, List.cons_append, List.append_nil, List.all_nil, Option.map_some, Option.bind_some, List.getElem?_cons_zero, List.getElem?_cons_succ, List.getD_cons_zero, ex_clo, bft, Bool.true_eq_false, Bool.false_eq_true, tab32, hN, Int.toNat_natCast, isBy_enc, toBy_enc, FinH, resA, resV, SLe, SLe0, convTm, convHp, convB, sm, effH, mkHC0, mkHC1, lendM, lentM, lentI, allHere, addIds, idsB, flatIds, reach, posn, renV, renL, renB, renH, numB, subHp, fwd, bk, bwd, nones, keyOK, noSl, noSlL, flatBs, List.contains, List.elem, Option.isSome_some, List.nodup_nil, List.nodup_cons, List.not_mem_nil, List.mem_cons, or_false, Option.getD_some, lh_spec_anyRects_spec_reader_pick, hs_spec_reader_pick, rdr, hb, d1, hB, hlen1]
      exact ⟨fun x => if x = 0 then 5 else x, by simp [convL, conv, conv0, clean]; omega⟩
    · have d1 : decide ((0 : Int) < ((i : Nat) : Int)) = true := by simpa using hz
      rw [if_neg (by omega)] at hB
      cases c9 : (pickI b q 8 == 0) with
      | true =>
        rw [if_pos (by simpa using c9)] at hB
        have hset := encQs_setR L 0 (aRect b (q + 1)).1
        simp only [V_seq, V_ret, V_exit, V_region, V_cond, brW_true, W_nil, W_cons, effOp2, KN_seq, KXr_nil, KXe_nil, KXe_seq, KXe_block, KXe_back, QE, asB, effOp, effPure, effPick, effStore, Option.isSome_some, skipE, pureV, pickV, storeV, binV, iaddrV, lenV, over, solid, IV.cells, ofC, strip, lkT, lkH, ISt.app, opI, gO, gB, allB, gval, wrapG, dstOK, setD, mentTm, mentHp, IV.ment, IV.mentL, eltI, oneI, noId', idsV, idsL, clean, callArgs, callFn, enumT, conv, conv0, convL, IBlk.shape, Op.operands, Call.operands, List.append_toArray, reduceIte, reduceCtorEq, cond_true, cond_false, Bool.or_false, Bool.or_true, Bool.and_true, Bool.true_and, Nat.reduceAdd, Nat.reduceSub, Nat.reduceMul, Nat.reduceLT, Nat.reduceLeDiff, Nat.reduceEqDiff, Nat.reduceBEq, Nat.add_zero, Nat.zero_add, ne_eq, not_false_eq_true, beq_self_eq_true, true_and, and_true, and_false, and_self, false_implies, implies_true, forall_const, List.map_cons, List.map_nil, List.nil_append, List.cons_append, List.append_nil, List.all_cons, List.all_nil, Option.map_some, Option.bind_some, List.getElem?_cons_zero, List.getElem?_cons_succ, List.getD_cons_zero, List.length_cons, List.length_nil, List.take_zero, ex_clo, Bool.true_eq_false, Bool.false_eq_true, tab32, tab37, hN, Int.toNat_natCast, encQ, isBy_enc, toBy_enc, FinH, resA, resV, SLe, SLe0, convTm, convHp, convB, sm, effH, mkHC0, mkHC1, lendM, lentM, lentI, allHere, addIds, idsB, flatIds, reach, posn, renV, renL, renB, renH, numB, subHp, fwd, bk, bwd, nones, keyOK, noSl, noSlL, flatBs, List.contains, List.elem, Option.isSome_some, List.nodup_nil, List.nodup_cons, List.not_mem_nil, List.mem_cons, or_false, Option.getD_some, lh_spec_anyRects_spec_reader_pick, lh_spec_anyRects_spec_anyRect, hs_spec_reader_pick, hs_spec_anyRect, rdr, hb, ln, d1, q1000, q700, c9, hB, q0, hset]
        refine ⟨by omega, ⟨by omega, by omega⟩, hz, fun x => if x = 0 then 5 else x, ?_⟩
        simp [convL, conv, conv0, clean, hlen1]
        omega
      | false =>
        rw [if_neg (by simpa using c9)] at hB
        simp only [V_seq, V_skip, V_ret, V_exit, V_region, V_cond, brW_false, W_nil, W_cons, effOp2, KN_seq, KXr_nil, KXe_nil, KXe_seq, KXe_block, KXe_back, QE, asB, effOp, effPure, effPick, Option.isSome_some, skipE, pureV, pickV, binV, lenV, ofC, strip, lkT, lkH, ISt.app, opI, gO, gB, allB, gval, wrapG, dstOK, setD, mentTm, mentHp, IV.ment, IV.mentL, idsV, idsL, clean, callArgs, callFn, enumT, conv, conv0, convL, IBlk.shape, Op.operands, Call.operands, List.append_toArray, reduceIte, reduceCtorEq, cond_true, cond_false, Bool.or_false, Bool.or_true, Bool.and_true, Nat.reduceAdd, Nat.reduceSub, Nat.reduceMul, Nat.reduceLT, Nat.reduceLeDiff, Nat.reduceEqDiff, Nat.reduceBEq, Nat.zero_add, ne_eq, not_false_eq_true, beq_self_eq_true, true_and, and_true, and_false, and_self, false_implies, implies_true, List.map_cons, List.map_nil, List.nil_append, List.cons_append, List.append_nil, List.all_nil, Option.map_some, Option.bind_some, List.getElem?_cons_zero, List.getElem?_cons_succ, List.getD_cons_zero, ex_clo, Bool.true_eq_false, Bool.false_eq_true, tab32, hN, Int.toNat_natCast, isBy_enc, toBy_enc, FinH, resA, resV, SLe, SLe0, convTm, convHp, convB, sm, effH, mkHC0, mkHC1, lendM, lentM, lentI, allHere, addIds, idsB, flatIds, reach, posn, renV, renL, renB, renH, numB, subHp, fwd, bk, bwd, nones, keyOK, noSl, noSlL, flatBs, List.contains, List.elem, Option.isSome_some, List.nodup_nil, List.nodup_cons, List.not_mem_nil, List.mem_cons, or_false, Option.getD_some, lh_spec_anyRects_spec_reader_pick, hs_spec_reader_pick, rdr, hb, d1, q1000, c9, hB, hlen1]
        refine ⟨by omega, fun x => if x = 0 then 5 else x, ?_⟩
        simp [convL, conv, conv0, clean]
        omega
def hs_spec_anyRects : HSpec := ⟨[false], fun xs hp => match xs, hp with | [.ptr 1000 0], [(1000, .box ty [.sl 1 es, .num .i64 pz])] => (isBy es) ∧ (ty = 140) ∧ (pz = (pz.toNat : Int)) ∧ ((fun (b : List Int) (p : Nat) => BytesOK b) (toIs es) pz.toNat) ∧ ((fun (b : List Int) (p : Nat) => p ≤ 600000) (toIs es) pz.toNat) | _, _ => False, fun xs hp => match xs, hp with | [.ptr 1000 0], [(1000, .box ty [.sl 1 es, .num .i64 pz])] => (fun (b : List Int) (p : Nat) => (.ref 0 0 (aRects b p).1.length true : IV)) (toIs es) pz.toNat | _, _ => .junk, fun xs hp => match xs, hp with | [.ptr 1000 0], [(1000, .box ty [.sl 1 es, .num .i64 pz])] => (fun (b : List Int) (p : Nat) => ([(0, .arr 4 37 (encQs (aRects b p).1)), (1000, rdr b (aRects b p).2)] : List (Nat × IBlk))) (toIs es) pz.toNat | _, _ => []⟩
theorem hk_spec_anyRects : ∀ args hp, hs_spec_anyRects.pre args hp → HCall Try.prog 78 args (sm hp) (hs_spec_anyRects.val args hp) (sm (hs_spec_anyRects.hval args hp)) := by
  intro args hp h
  unfold hs_spec_anyRects at h ⊢; simp only at h ⊢; split at h
  · obtain ⟨h1, rfl, h3, h4, h5⟩ := h; obtain ⟨l, rfl⟩ := isBy_ex h1; rw [toBy_enc] at *; rw [h3]; exact c_spec_anyRects l _ h4 (by simpa using h5)
  · exact h.elim
theorem en_spec_anyRects : Enters Try.prog 78 := enters_of Try.func78 (by kernel_rfl) rfl

/-- The rectangles that a code draws. -/
def drawRs (b : List Int) : List Qd := (aRects (b.take 2000) 0).1
def g_spec_DrawMaxDepth : List (Nat × PSpec) := []
theorem gok_spec_DrawMaxDepth : GOK Try.prog g_spec_DrawMaxDepth := gok0
def h_spec_DrawMaxDepth : List (Nat × HSpec) := [(65, hs_spec_newReader), (78, hs_spec_anyRects)]
theorem hok_spec_DrawMaxDepth : HOK Try.prog h_spec_DrawMaxDepth := hok_cons hk_spec_newReader en_spec_newReader (hok_cons hk_spec_anyRects en_spec_anyRects (hok0))
theorem lh_spec_DrawMaxDepth_spec_newReader : lkHS h_spec_DrawMaxDepth 65 = some hs_spec_newReader := rfl
theorem lh_spec_DrawMaxDepth_spec_anyRects : lkHS h_spec_DrawMaxDepth 78 = some hs_spec_anyRects := rfl
theorem c_spec_DrawMaxDepth (b : List Int) (hb : ∀ x ∈ b, 0 ≤ x ∧ x < 256) (hsz : b.length ≤ 1048576) : ICall Try.prog 20 [.sl 1 (encBy b)] (.sl 4 (encQs (drawRs b))) := by
  refine icall_V (G := g_spec_DrawMaxDepth) (H := h_spec_DrawMaxDepth) [] tabOK mixed gok_spec_DrawMaxDepth hok_spec_DrawMaxDepth Try.func20 rfl Try.ntmps20 Try.results20 rfl (by kernel_rfl) fun F hN hlen => ?_
  have hbt := bytes_take hb
  have hd : (aRects (b.take 2000) 0).1 = drawRs b := rfl
  simp only [V_seq, V_ret, V_region, W_nil, W_cons, effOp2, KN_seq, KXr_nil, QE, effOp, effPure, Option.isSome_some, skipE, pureV, ofC, strip, lkT, lkH, ISt.app, opI, gO, gB, allB, gval, wrapG, dstOK, setD, mentTm, mentHp, IV.ment, IV.mentL, lendV, lendP, lent, lentP, idsV, idsL, clean, callArgs, callFn, enumT, Gives, Ideal.Fin, conv, conv0, convL, IBlk.shape, Op.operands, reduceIte, reduceCtorEq, cond_true, cond_false, Bool.or_false, Bool.and_true, Bool.and_false, Bool.not_false, Nat.reduceAdd, Nat.reduceSub, Nat.reduceMul, Nat.reduceLT, Nat.reduceLeDiff, Nat.reduceEqDiff, Nat.reduceBEq, Nat.add_zero, Nat.zero_add, ne_eq, not_false_eq_true, beq_self_eq_true, true_and, and_true, and_false, and_self, false_implies, implies_true, List.map_cons, List.map_nil, List.nil_append, List.cons_append, List.append_nil, List.all_nil, Option.some.injEq, Option.map_some, Option.map_none, List.getD_cons_zero, List.drop_zero, ex_clo, or_self, Bool.true_eq_false, Bool.false_eq_true, hN, Int.toNat_natCast, isBy_enc, toBy_enc, SLe0, convTm, convHp, convB, sm, effH, mkHC0, mkHC1, lendM, lentM, lentI, allHere, addIds, idsB, flatIds, reach, posn, renV, renL, renB, renH, numB, subHp, fwd, bk, bwd, nones, keyOK, noSl, noSlL, flatBs, List.contains, List.elem, Option.isSome_some, Option.isSome_none, List.nodup_nil, List.nodup_cons, List.not_mem_nil, List.mem_cons, or_false, Option.getD_some, lh_spec_DrawMaxDepth_spec_newReader, lh_spec_DrawMaxDepth_spec_anyRects, hs_spec_newReader, hs_spec_anyRects, rdr, hsz, hbt, hd]
  exact ⟨List.take_length.symm, _, _, rfl, by rw [len_encQs]; exact Nat.le_refl _, (take_encQs _).symm⟩
def sp_spec_DrawMaxDepth : PSpec := ⟨fun xs => match xs with | [.sl 1 bes] => isBy bes ∧ ((fun (b : List Int) => ∀ x ∈ b, 0 ≤ x ∧ x < 256) (toIs bes)) ∧ ((fun (b : List Int) => b.length ≤ 1048576) (toIs bes)) | _ => False, fun xs => match xs with | [.sl _ bes] => (fun (b : List Int) => .sl 4 (encQs (drawRs b))) (toIs bes) | _ => .junk, false⟩
theorem gk_spec_DrawMaxDepth : ∀ args, sp_spec_DrawMaxDepth.pre args → ICall Try.prog 20 args (sp_spec_DrawMaxDepth.val args) := by
  intro args h
  unfold sp_spec_DrawMaxDepth at h ⊢; simp only at h ⊢; split at h
  · obtain ⟨h0, h1, h2⟩ := h
    obtain ⟨l0, rfl⟩ := isBy_ex h0
    simp only [toBy_enc] at *
    exact c_spec_DrawMaxDepth _ h1 h2
  · exact h.elim
theorem en_spec_DrawMaxDepth : Enters Try.prog 20 := enters_of Try.func20 (by kernel_rfl) rfl

end Go.Proofs.Ytlifmigihfancaa
