/- Contracts: drawn points. -/
import Derived.Test.YtlcndghaendieaaB5
set_option linter.unusedVariables false
set_option linter.unusedSimpArgs false
namespace Go.Proofs.Ytlcndghaendieaa
open Go Go.Ideal Go.Pl Go.Sort

def rPoint (b : List Int) (p : Nat) : Pt := (pickI b p 9 - 2, pickI b (p + 1) 9 - 2)
theorem rPoint_le {b : List Int} (hb : BytesOK b) {p : Nat} (hp : p ≤ 1000000) : -2 ≤ (rPoint b p).1 ∧ (rPoint b p).1 ≤ 6 ∧ -2 ≤ (rPoint b p).2 ∧ (rPoint b p).2 ≤ 6 := by
  have h1 := pick_nonneg hb (show p ≤ 1000000000 by omega) 9
  have h2 := pick_nonneg hb (show p + 1 ≤ 1000000000 by omega) 9
  have := h1.2.1 (by omega)
  have := h2.2.1 (by omega)
  unfold rPoint
  simp only []
  omega
def g_spec_randomPoint : List (Nat × PSpec) := []
theorem gok_spec_randomPoint : GOK Try.prog g_spec_randomPoint := gok0
def h_spec_randomPoint : List (Nat × HSpec) := [(79, hs_spec_reader_pick)]
theorem hok_spec_randomPoint : HOK Try.prog h_spec_randomPoint := hok_cons hk_spec_reader_pick en_spec_reader_pick (hok0)
theorem lh_spec_randomPoint_spec_reader_pick : lkHS h_spec_randomPoint 79 = some hs_spec_reader_pick := rfl
theorem c_spec_randomPoint (b : List Int) (p : Nat) (hb : BytesOK b) (hp : p ≤ 900000) : HCall Try.prog 121 [.ptr 1000 0] (sm ([(1000, rdr b p)])) (encP (rPoint b p)) (sm ([(1000, rdr b (p + 2))])) := by
  refine hcall_V (G := g_spec_randomPoint) (H := h_spec_randomPoint) [] tabOK mixed gok_spec_randomPoint hok_spec_randomPoint Try.func121 rfl Try.ntmps121 Try.results121 rfl (by kernel_rfl) fun F hN hlen => ?_
  simp only [sm]
  have h1 := pick_nonneg hb (show p ≤ 1000000000 by omega) 9
  have h2 := pick_nonneg hb (show p + 1 ≤ 1000000000 by omega) 9
  have h3 := h1.2.1 (by omega)
  have h4 := h2.2.1 (by omega)
  have w1 : IntKind.i64.wrap (pickI b p 9 - 2) = pickI b p 9 - 2 := wr (by omega) (by omega)
  have w2 : IntKind.i64.wrap (pickI b (p + 1) 9 - 2) = pickI b (p + 1) 9 - 2 := wr (by omega) (by omega)
  simp only [V_seq, V_ret, V_region, W_nil, W_cons, effOp2, KN_seq, KXr_nil, QE, effOp, effPure, effNew, effAlloc, effStore, Option.isSome_some, skipE, pureV, storeV, binV, partV, loadV, over, solid, buildL, IV.cells, ofC, strip, lkT, lkH, ISt.app, opI, gO, gB, allB, gval, wrapG, dstOK, setD, mentTm, mentHp, IV.ment, IV.mentL, oneI, idsV, idsL, clean, callArgs, callFn, enumT, conv, conv0, convL, IBlk.shape, Op.operands, reduceIte, reduceCtorEq, cond_true, cond_false, Bool.or_false, Bool.or_true, Bool.and_true, Nat.reduceAdd, Nat.reduceSub, Nat.reduceMul, Nat.reduceLT, Nat.reduceLeDiff, Nat.reduceEqDiff, Nat.reduceBEq, Nat.zero_add, ne_eq, not_false_eq_true, beq_self_eq_true, true_and, and_true, false_and, and_false, and_self, false_implies, implies_true, List.map_cons, List.map_nil, List.nil_append, List.cons_append, List.append_nil, List.all_cons, List.all_nil, Option.map_some, List.getD_cons_zero, List.getD_cons_succ, List.length_cons, List.length_nil, List.take_succ_cons, List.take_zero, List.take_nil, List.drop_succ_cons, List.drop_zero, List.drop_nil, ex_clo, Bool.true_eq_false, Bool.false_eq_true, tab28, hN, Int.toNat_natCast, encP, isBy_enc, toBy_enc, FinH, resA, resV, SLe, SLe0, convTm, convHp, convB, sm, effH, mkHC0, mkHC1, lendM, lentM, lentI, allHere, addIds, idsB, flatIds, reach, posn, renV, renL, renB, renH, numB, subHp, fwd, bk, bwd, nones, keyOK, noSl, noSlL, flatBs, List.contains, List.elem, Option.isSome_some, List.nodup_nil, List.nodup_cons, List.not_mem_nil, or_false, Option.getD_some, lh_spec_randomPoint_spec_reader_pick, hs_spec_reader_pick, rdr, rPoint, hb, w1, w2]
  exact ⟨⟨by omega, by omega⟩, ⟨by omega, by omega⟩, id, by simp [convL, conv, conv0, clean]; omega⟩
def hs_spec_randomPoint : HSpec := ⟨[false], fun xs hp => match xs, hp with | [.ptr 1000 0], [(1000, .box ty [.sl 1 es, .num .i64 pz])] => (isBy es) ∧ (ty = 86) ∧ (pz = (pz.toNat : Int)) ∧ ((fun (b : List Int) (p : Nat) => BytesOK b) (toIs es) pz.toNat) ∧ ((fun (b : List Int) (p : Nat) => p ≤ 900000) (toIs es) pz.toNat) | _, _ => False, fun xs hp => match xs, hp with | [.ptr 1000 0], [(1000, .box ty [.sl 1 es, .num .i64 pz])] => (fun (b : List Int) (p : Nat) => (encP (rPoint b p) : IV)) (toIs es) pz.toNat | _, _ => .junk, fun xs hp => match xs, hp with | [.ptr 1000 0], [(1000, .box ty [.sl 1 es, .num .i64 pz])] => (fun (b : List Int) (p : Nat) => ([(1000, rdr b (p + 2))] : List (Nat × IBlk))) (toIs es) pz.toNat | _, _ => []⟩
theorem hk_spec_randomPoint : ∀ args hp, hs_spec_randomPoint.pre args hp → HCall Try.prog 121 args (sm hp) (hs_spec_randomPoint.val args hp) (sm (hs_spec_randomPoint.hval args hp)) := by
  intro args hp h
  unfold hs_spec_randomPoint at h ⊢; simp only at h ⊢; split at h
  · obtain ⟨h1, rfl, h3, h4, h5⟩ := h; obtain ⟨l, rfl⟩ := isBy_ex h1; rw [toBy_enc] at *; rw [h3]; exact c_spec_randomPoint l _ h4 (by simpa using h5)
  · exact h.elim
theorem en_spec_randomPoint : Enters Try.prog 121 := enters_of Try.func121 (by kernel_rfl) rfl


def rAdj (k : Int) (q : Pt) : Pt := if k = 0 then (q.1, 2 * q.1 + 1) else if k = 1 then (q.1 * 100, q.2 * 37) else q
def rLoop (b : List Int) (k : Int) : Nat → Nat → List Pt
  | 0, _ => []
  | n + 1, p => rAdj k (rPoint b p) :: rLoop b k n (p + 2)
theorem rLoop_len (b : List Int) (k : Int) : ∀ n p, (rLoop b k n p).length = n
  | 0, _ => rfl
  | n + 1, p => by simp [rLoop, rLoop_len b k n]
theorem rLoop_succ (b : List Int) (k : Int) : ∀ n p, rLoop b k (n + 1) p = rLoop b k n p ++ [rAdj k (rPoint b (p + 2 * n))]
  | 0, p => by simp [rLoop]
  | n + 1, p => by
    rw [rLoop, rLoop_succ b k n (p + 2), rLoop]
    simp [show p + 2 + 2 * n = p + 2 * (n + 1) by omega]
def rNum (b : List Int) (p : Nat) (most : Int) : Nat := (pickI b (p + 1) (most + 1)).toNat
def rPoints (b : List Int) (p : Nat) (most : Int) : List Pt := rLoop b (pickI b p 6) (rNum b p most) (p + 2)
theorem rNum_le {b : List Int} (hb : BytesOK b) {p : Nat} (hp : p ≤ 900000) {most : Int} (hm : 0 ≤ most) : (rNum b p most : Int) ≤ most ∧ pickI b (p + 1) (most + 1) = (rNum b p most : Int) := by
  have := pick_nonneg hb (show p + 1 ≤ 1000000000 by omega) (most + 1)
  have := this.2.1 (by omega)
  unfold rNum
  omega

def g_spec_randomPoints : List (Nat × PSpec) := []
theorem gok_spec_randomPoints : GOK Try.prog g_spec_randomPoints := gok0
def h_spec_randomPoints : List (Nat × HSpec) := [(79, hs_spec_reader_pick), (121, hs_spec_randomPoint)]
theorem hok_spec_randomPoints : HOK Try.prog h_spec_randomPoints := hok_cons hk_spec_reader_pick en_spec_reader_pick (hok_cons hk_spec_randomPoint en_spec_randomPoint (hok0))
theorem lh_spec_randomPoints_spec_reader_pick : lkHS h_spec_randomPoints 79 = some hs_spec_reader_pick := rfl
theorem lh_spec_randomPoints_spec_randomPoint : lkHS h_spec_randomPoints 121 = some hs_spec_randomPoint := rfl
theorem c_spec_randomPoints (b : List Int) (p : Nat) (most : Int) (hb : BytesOK b) (hp : p ≤ 800000) (h0 : 0 ≤ most) (h1 : most ≤ 1000) : HCall Try.prog 80 [.ptr 1000 0, .num .i64 most] (sm ([(1000, rdr b p)])) (.ref 0 0 (rPoints b p most).length true) (sm ([(0, .arr 2 28 (encPs (rPoints b p most))), (1000, rdr b (p + 2 + 2 * rNum b p most))])) := by
  refine hcall_V (G := g_spec_randomPoints) (H := h_spec_randomPoints) [] tabOK mixed gok_spec_randomPoints hok_spec_randomPoints Try.func80 rfl Try.ntmps80 Try.results80 rfl (by kernel_rfl) fun F hN hlen => ?_
  simp only [sm]
  obtain ⟨n1, n2⟩ := rNum_le hb (show p ≤ 900000 by omega) h0
  have w1 : IntKind.i64.wrap (most + 1) = most + 1 := wr (by omega) (by omega)
  simp only [V_seq, V_block, V_region, W_nil, W_cons, effOp2, KN_seq, effOp, effPure, effNew, effBuildSlice, effFrz, frz, tmpsOf, Option.isSome_some, skipE, pureV, binV, ofC, strip, lkT, lkH, ISt.app, opI, gO, gB, allB, gval, wrapG, dstOK, setD, mentTm, mentHp, IV.ment, IV.mentL, partsL, eltsI, idsV, idsL, clean, callArgs, callFn, enumT, conv, conv0, convL, IBlk.shape, Op.operands, reduceIte, reduceCtorEq, cond_true, cond_false, Bool.or_false, Bool.or_true, Bool.and_true, Nat.reduceAdd, Nat.reduceSub, Nat.reduceMul, Nat.reduceLT, Nat.reduceLeDiff, Nat.reduceEqDiff, Nat.reduceBEq, Nat.zero_add, ne_eq, not_false_eq_true, beq_self_eq_true, true_and, and_true, and_false, and_self, implies_true, List.map_cons, List.map_nil, List.nil_append, List.cons_append, List.append_nil, List.all_nil, Option.map_some, List.getD_cons_zero, List.length_nil, ex_clo, Bool.true_eq_false, Bool.false_eq_true, tab23, tab28, hN, Int.toNat_natCast, isBy_enc, toBy_enc, SLe0, convTm, convHp, convB, sm, effH, mkHC0, mkHC1, lendM, lentM, lentI, allHere, addIds, idsB, flatIds, reach, posn, renV, renL, renB, renH, numB, subHp, fwd, bk, bwd, nones, keyOK, noSl, noSlL, flatBs, List.contains, List.elem, Option.isSome_some, List.nodup_nil, List.nodup_cons, List.not_mem_nil, or_false, Option.getD_some, lh_spec_randomPoints_spec_reader_pick, hs_spec_reader_pick, rdr, hb, w1, n2]
  refine ⟨⟨by omega, by omega⟩, ⟨by omega, by omega⟩, ?_⟩
  generalize hn : rNum b p most = n at *
  generalize hk : pickI b p 6 = k at *
  refine V_loop (α := Nat) ⟨tabOK, mixed, gok_spec_randomPoints, hok_spec_randomPoints⟩ (by kernel_rfl) (fun i => i ≤ n) (fun i => ⟨[(7, .num .i64 ((n - i : Nat) : Int)), (6, .num .i64 k), (5, .ref 9 0 i true), (0, .ptr 1000 0)], [(9, some (.arr 2 28 (encPs (rLoop b k i (p + 2))))), (1000, some (rdr b (p + 2 + 2 * i)))]⟩) (fun i => n - i) 0 id (Nat.zero_le _)
    (by simp [SLe, SLe0, convTm, convHp, convB, conv, conv0, convL, lkT, lkH, clean, rLoop, encPs]; omega) ?_
  intro i hi
  have ln := len_encPs (rLoop b k i (p + 2))
  rw [rLoop_len] at ln
  simp only [V_seq, V_region, V_cond, W_nil, W_cons, effOp2, KN_seq, asB, effOp, effPure, pureV, binV, ofC, strip, lkT, ISt.app, opI, gO, gB, allB, gval, wrapG, dstOK, setD, Op.operands, reduceIte, reduceCtorEq, Nat.reduceLT, Nat.reduceEqDiff, true_and, and_self, implies_true, List.nil_append, List.cons_append, hN, rdr]
  refine brW_some (fun h => ?_) (fun h => ?_)
  · have hlt : i < n := by simp at h; omega
    have hr := rPoint_le hb (show p + 2 + 2 * i ≤ 1000000 by omega)
    have w2 : IntKind.i64.wrap (((n - i : Nat) : Int) - 1) = ((n - (i + 1) : Nat) : Int) := by rw [wr (by omega) (by omega)]; omega
    have hs := rLoop_succ b k i (p + 2)
    obtain ⟨q, hq⟩ : ∃ q, rPoint b (p + 2 + 2 * i) = q := ⟨_, rfl⟩
    rw [hq] at hs hr
    have hfin : ∀ q' : Pt, q' = rAdj k q → encPs (rLoop b k (i + 1) (p + 2)) = (encPs (rLoop b k i (p + 2))).take i ++ [IV.agg [.num .i64 q'.1, .num .i64 q'.2]] := by
      rintro q' rfl
      rw [hs, ← encPs_app, List.take_of_length_le (by omega)]
      rfl
    by_cases k0 : k = 0
    · have c0 : (k == 0) = true := by simpa using k0
      have c1 : (k == 1) = false := by simp; omega
      have w3 : IntKind.i64.wrap (2 * q.1) = 2 * q.1 := wr (by omega) (by omega)
      have w4 : IntKind.i64.wrap (2 * q.1 + 1) = 2 * q.1 + 1 := wr (by omega) (by omega)
      simp only [V_seq, V_skip, V_block, V_region, V_cond, brW_true, brW_false, W_nil, W_cons, effOp2, KN_seq, KN_block, KN_back, asB, effOp, effPure, effNew, effAlloc, effBuildSlice, effFrz, frz, tmpsOf, effStore, effAppend, effZeros, Option.isSome_some, skipE, pureV, storeV, srcV, refId, binV, partV, loadV, faddrV, over, solid, IV.cells, ofC, strip, lkT, lkH, ISt.app, opI, gO, gB, allB, gval, wrapG, dstOK, setD, mentTm, mentHp, IV.ment, IV.mentL, partsL, eltsI, eltI, oneI, noId', idsV, idsL, clean, callArgs, callFn, enumT, conv, conv0, convL, IBlk.shape, Op.operands, reduceIte, reduceCtorEq, cond_true, cond_false, Bool.or_false, Bool.or_true, Bool.and_true, Nat.reduceAdd, Nat.reduceSub, Nat.reduceMul, Nat.reduceLT, Nat.reduceLeDiff, Nat.reduceEqDiff, Nat.reduceBEq, Nat.add_zero, Nat.zero_add, ne_eq, not_false_eq_true, beq_self_eq_true, true_and, and_true, and_false, and_self, implies_true, List.map_cons, List.map_nil, List.nil_append, List.cons_append, List.append_nil, List.all_cons, List.all_nil, Option.some.injEq, Option.map_some, List.getD_cons_zero, List.getD_cons_succ, List.length_cons, List.length_nil, List.take_succ_cons, List.take_zero, List.take_nil, List.drop_succ_cons, List.drop_zero, List.drop_nil, ex_clo, Bool.true_eq_false, Bool.false_eq_true, tab3, tab23, tab28, hN, Int.toNat_natCast, encP, isBy_enc, toBy_enc, SLe0, convTm, convHp, convB, sm, effH, mkHC0, mkHC1, lendM, lentM, lentI, allHere, addIds, idsB, flatIds, reach, posn, renV, renL, renB, renH, numB, subHp, fwd, bk, bwd, nones, keyOK, noSl, noSlL, flatBs, List.contains, List.elem, Option.isSome_some, List.nodup_nil, List.nodup_cons, List.not_mem_nil, or_false, Option.getD_some, lh_spec_randomPoints_spec_randomPoint, hs_spec_randomPoint, rdr, hb, w2, hq, c0, c1, w3, w4]
      repeat refine And.intro (by omega) ?_
      refine ⟨i + 1, fun x => if x = 9 then 41 else x, by simp only []; omega, by simp only []; omega, ?_⟩
      simp [SLe, SLe0, convTm, convHp, convB, conv, conv0, convL, lkT, lkH, clean]
      exact ⟨⟨take_eq_of (hfin (q.1, 2 * q.1 + 1) (by simp [rAdj, k0])), by omega⟩, fun x h1 h2 h3 => by omega⟩
    · have c0 : (k == 0) = false := by simpa using k0
      by_cases k1 : k = 1
      · have c1 : (k == 1) = true := by simpa using k1
        have w3 : IntKind.i64.wrap (q.1 * 100) = q.1 * 100 := wr (by omega) (by omega)
        have w4 : IntKind.i64.wrap (q.2 * 37) = q.2 * 37 := wr (by omega) (by omega)
        simp only [V_seq, V_skip, V_block, V_region, V_cond, brW_true, brW_false, W_nil, W_cons, effOp2, KN_seq, KN_block, KN_back, asB, effOp, effPure, effNew, effAlloc, effBuildSlice, effFrz, frz, tmpsOf, effStore, effAppend, effZeros, Option.isSome_some, skipE, pureV, storeV, srcV, refId, binV, partV, loadV, faddrV, over, solid, buildL, IV.cells, ofC, strip, lkT, lkH, ISt.app, opI, gO, gB, allB, gval, wrapG, dstOK, setD, mentTm, mentHp, IV.ment, IV.mentL, partsL, eltsI, eltI, oneI, noId', idsV, idsL, clean, callArgs, callFn, enumT, conv, conv0, convL, IBlk.shape, Op.operands, reduceIte, reduceCtorEq, cond_true, cond_false, Bool.or_false, Bool.or_true, Bool.and_true, Nat.reduceAdd, Nat.reduceSub, Nat.reduceMul, Nat.reduceLT, Nat.reduceLeDiff, Nat.reduceEqDiff, Nat.reduceBEq, Nat.add_zero, Nat.zero_add, ne_eq, not_false_eq_true, beq_self_eq_true, true_and, and_true, false_and, and_false, and_self, implies_true, List.map_cons, List.map_nil, List.nil_append, List.cons_append, List.append_nil, List.all_cons, List.all_nil, Option.some.injEq, Option.map_some, List.getD_cons_zero, List.getD_cons_succ, List.length_cons, List.length_nil, List.take_succ_cons, List.take_zero, List.take_nil, List.drop_succ_cons, List.drop_zero, List.drop_nil, ex_clo, Bool.true_eq_false, Bool.false_eq_true, tab3, tab23, tab28, hN, Int.toNat_natCast, encP, isBy_enc, toBy_enc, SLe0, convTm, convHp, convB, sm, effH, mkHC0, mkHC1, lendM, lentM, lentI, allHere, addIds, idsB, flatIds, reach, posn, renV, renL, renB, renH, numB, subHp, fwd, bk, bwd, nones, keyOK, noSl, noSlL, flatBs, List.contains, List.elem, Option.isSome_some, List.nodup_nil, List.nodup_cons, List.not_mem_nil, or_false, Option.getD_some, lh_spec_randomPoints_spec_randomPoint, hs_spec_randomPoint, rdr, hb, w2, hq, c0, c1, w3, w4]
        repeat refine And.intro (by omega) ?_
        refine ⟨i + 1, fun x => if x = 9 then 41 else x, by simp only []; omega, by simp only []; omega, ?_⟩
        simp [SLe, SLe0, convTm, convHp, convB, conv, conv0, convL, lkT, lkH, clean]
        exact ⟨⟨take_eq_of (hfin (q.1 * 100, q.2 * 37) (by simp [rAdj, k1])), by omega⟩, fun x h1 h2 h3 => by omega⟩
      · have c1 : (k == 1) = false := by simpa using k1
        simp only [V_seq, V_skip, V_block, V_region, V_cond, brW_false, W_nil, W_cons, effOp2, KN_seq, KN_block, KN_back, asB, effOp, effPure, effNew, effAlloc, effBuildSlice, effFrz, frz, tmpsOf, effStore, effAppend, effZeros, Option.isSome_some, skipE, pureV, storeV, srcV, refId, binV, partV, loadV, over, solid, IV.cells, ofC, strip, lkT, lkH, ISt.app, opI, gO, gB, allB, gval, wrapG, dstOK, setD, mentTm, mentHp, IV.ment, IV.mentL, partsL, eltsI, eltI, oneI, noId', idsV, idsL, clean, callArgs, callFn, enumT, conv, conv0, convL, IBlk.shape, Op.operands, reduceIte, reduceCtorEq, cond_true, cond_false, Bool.or_false, Bool.or_true, Bool.and_true, Nat.reduceAdd, Nat.reduceSub, Nat.reduceMul, Nat.reduceLT, Nat.reduceLeDiff, Nat.reduceEqDiff, Nat.reduceBEq, Nat.zero_add, ne_eq, not_false_eq_true, beq_self_eq_true, true_and, and_true, and_false, and_self, implies_true, List.map_cons, List.map_nil, List.nil_append, List.cons_append, List.append_nil, List.all_cons, List.all_nil, Option.some.injEq, Option.map_some, List.getD_cons_zero, List.length_cons, List.length_nil, List.take_succ_cons, List.take_zero, List.take_nil, List.drop_succ_cons, List.drop_zero, List.drop_nil, ex_clo, Bool.true_eq_false, Bool.false_eq_true, tab23, tab28, hN, Int.toNat_natCast, encP, isBy_enc, toBy_enc, SLe0, convTm, convHp, convB, sm, effH, mkHC0, mkHC1, lendM, lentM, lentI, allHere, addIds, idsB, flatIds, reach, posn, renV, renL, renB, renH, numB, subHp, fwd, bk, bwd, nones, keyOK, noSl, noSlL, flatBs, List.contains, List.elem, Option.isSome_some, List.nodup_nil, List.nodup_cons, List.not_mem_nil, or_false, Option.getD_some, lh_spec_randomPoints_spec_randomPoint, hs_spec_randomPoint, rdr, hb, w2, hq, c0, c1]
        repeat refine And.intro (by omega) ?_
        refine ⟨i + 1, fun x => if x = 9 then 41 else x, by simp only []; omega, by simp only []; omega, ?_⟩
        simp [SLe, SLe0, convTm, convHp, convB, conv, conv0, convL, lkT, lkH, clean]
        exact ⟨⟨take_eq_of (hfin q (by simp [rAdj, k0, k1])), by omega⟩, fun x h1 h2 h3 => by omega⟩
  · have hie : i = n := by simp at h; omega
    subst hie
    have hR : rPoints b p most = rLoop b k i (p + 2) := by rw [rPoints, hk, hn]
    simp only [V_seq, V_ret, V_exit, V_region, W_nil, W_cons, effOp2, KN_seq, KXr_nil, KXe_nil, KXe_seq, KXe_block, KXe_back, QE, effOp, effPure, Option.isSome_some, pureV, strip, lkT, lkH, ISt.app, opI, gO, gB, allB, gval, wrapG, dstOK, setD, conv, conv0, Op.operands, reduceIte, reduceCtorEq, Nat.reduceLT, Nat.reduceEqDiff, not_false_eq_true, true_and, and_true, and_self, false_implies, implies_true, List.map_cons, List.map_nil, List.nil_append, List.cons_append, hN, FinH, resA, resV, SLe, SLe0, convTm, convHp, convB, Option.isSome_some, List.nodup_nil, List.nodup_cons, List.not_mem_nil, List.mem_cons, or_false, hR, rLoop_len]
    refine ⟨fun x => if x = 0 then 9 else x, ?_⟩
    simp [convL, conv, conv0, clean]
    omega
def hs_spec_randomPoints : HSpec := ⟨[false, false], fun xs hp => match xs, hp with | [.ptr 1000 0, .num .i64 most], [(1000, .box ty [.sl 1 es, .num .i64 pz])] => (isBy es) ∧ (ty = 86) ∧ (pz = (pz.toNat : Int)) ∧ ((fun (b : List Int) (p : Nat) (most : Int) => BytesOK b) (toIs es) pz.toNat most) ∧ ((fun (b : List Int) (p : Nat) (most : Int) => p ≤ 800000) (toIs es) pz.toNat most) ∧ ((fun (b : List Int) (p : Nat) (most : Int) => 0 ≤ most) (toIs es) pz.toNat most) ∧ ((fun (b : List Int) (p : Nat) (most : Int) => most ≤ 1000) (toIs es) pz.toNat most) | _, _ => False, fun xs hp => match xs, hp with | [.ptr 1000 0, .num .i64 most], [(1000, .box ty [.sl 1 es, .num .i64 pz])] => (fun (b : List Int) (p : Nat) (most : Int) => (.ref 0 0 (rPoints b p most).length true : IV)) (toIs es) pz.toNat most | _, _ => .junk, fun xs hp => match xs, hp with | [.ptr 1000 0, .num .i64 most], [(1000, .box ty [.sl 1 es, .num .i64 pz])] => (fun (b : List Int) (p : Nat) (most : Int) => ([(0, .arr 2 28 (encPs (rPoints b p most))), (1000, rdr b (p + 2 + 2 * rNum b p most))] : List (Nat × IBlk))) (toIs es) pz.toNat most | _, _ => []⟩
theorem hk_spec_randomPoints : ∀ args hp, hs_spec_randomPoints.pre args hp → HCall Try.prog 80 args (sm hp) (hs_spec_randomPoints.val args hp) (sm (hs_spec_randomPoints.hval args hp)) := by
  intro args hp h
  unfold hs_spec_randomPoints at h ⊢; simp only at h ⊢; split at h
  · obtain ⟨h1, rfl, h3, h4, h5, h6, h7⟩ := h; obtain ⟨l, rfl⟩ := isBy_ex h1; rw [toBy_enc] at *; rw [h3]; exact c_spec_randomPoints l _ _ h4 (by simpa using h5) h6 h7
  · exact h.elim
theorem en_spec_randomPoints : Enters Try.prog 80 := enters_of Try.func80 (by kernel_rfl) rfl


theorem rAdj_two (q : Pt) : rAdj 2 q = q := by simp [rAdj]
/-- Drawn points that may be invalid; where the reader stands then. -/
def aPoints (b : List Int) (p : Nat) (most : Int) : List Pt × Nat :=
  let L := rPoints b p most
  let p1 := p + 2 + 2 * rNum b p most
  if L.length = 0 then (L, p1)
  else if pickI b p1 20 = 0 then (L.set (pickI b (p1 + 1) L.length).toNat (1001, 0), p1 + 2)
  else if pickI b p1 20 = 1 then (L ++ rLoop b 2 (21 - L.length) (p1 + 1), p1 + 1 + 2 * (21 - L.length))
  else (L, p1 + 1)


/-- The points that a code draws. -/
def drawPts (b : List Int) (most : Int) : List Pt := (aPoints (b.take 2000) 0 most).1
theorem aPoints_len {b : List Int} (hb : BytesOK b) {p : Nat} (hp : p ≤ 700000) {most : Int} (h0 : 0 ≤ most) (h1 : most ≤ 1000) : (aPoints b p most).1.length ≤ 1000 := by
  obtain ⟨n1, n2⟩ := rNum_le hb (show p ≤ 900000 by omega) h0
  have hL : (rPoints b p most).length = rNum b p most := rLoop_len _ _ _ _
  unfold aPoints
  simp only []
  split
  · simp only []; omega
  · split
    · simp only [List.length_set]; omega
    · split
      · simp only [List.length_append, rLoop_len]; omega
      · simp only []; omega
theorem bytes_take {b : List Int} (hb : ∀ x ∈ b, 0 ≤ x ∧ x < 256) : BytesOK (b.take 2000) := by
  refine ⟨by simp; omega, fun i hi => ?_⟩
  have : (b.take 2000).getD i 0 ∈ b.take 2000 := by
    rw [List.getD, List.getElem?_eq_getElem hi]
    exact List.getElem_mem hi
  exact hb _ (List.mem_of_mem_take this)
theorem drawPts_len {b : List Int} (hb : ∀ x ∈ b, 0 ≤ x ∧ x < 256) {most : Int} (h0 : 0 ≤ most) (h1 : most ≤ 1000) : (drawPts b most).length ≤ 1000 := aPoints_len (bytes_take hb) (by omega) h0 h1

end Go.Proofs.Ytlcndghaendieaa