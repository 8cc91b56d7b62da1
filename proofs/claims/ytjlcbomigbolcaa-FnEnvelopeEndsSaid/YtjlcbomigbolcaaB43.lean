/- Contracts: drawn graphs; the laws on upper envelopes: the walks. -/
import Derived.Test.YtjlcbomigbolcaaB40
import Derived.Test.YtjlcbomigbolcaaBO
import Derived.Test.YtjlcbomigbolcaaBX
set_option linter.unusedVariables false
set_option linter.unusedSimpArgs false
set_option maxHeartbeats 1600000
set_option maxRecDepth 100000
namespace Go.Proofs.Ytjlcbomigbolcaa
open Go Go.Ideal Go.Pl Go.Sort

def rGraph (b : List Int) (p : Nat) : Pt := (pickI b p 7 - 3, pickI b (p + 1) 9 - 4)
def g_spec_randomGraph : List (Nat × PSpec) := []
theorem gok_spec_randomGraph : GOK Try.prog g_spec_randomGraph := gok0
def h_spec_randomGraph : List (Nat × HSpec) := [(74, hs_spec_reader_pick)]
theorem hok_spec_randomGraph : HOK Try.prog h_spec_randomGraph := hok_cons hk_spec_reader_pick en_spec_reader_pick (hok0)
theorem lh_spec_randomGraph_spec_reader_pick : lkHS h_spec_randomGraph 74 = some hs_spec_reader_pick := rfl
theorem c_spec_randomGraph (b : List Int) (p : Nat) (hb : BytesOK b) (hp : p ≤ 900000) : HCall Try.prog 181 [.ptr 1000 0] (sm ([(1000, rdr b p)])) (encP (rGraph b p)) (sm ([(1000, rdr b (p + 2))])) := by
  refine hcall_V (G := g_spec_randomGraph) (H := h_spec_randomGraph) [] tabOK mixed gok_spec_randomGraph hok_spec_randomGraph Try.func181 rfl Try.ntmps181 Try.results181 rfl (by kernel_rfl) fun F hN hlen => ?_
  simp only [sm]
  have h1 := pick_nonneg hb (show p ≤ 1000000000 by omega) 7
  have h2 := pick_nonneg hb (show p + 1 ≤ 1000000000 by omega) 9
  have h3 := h1.2.1 (by omega)
  have h4 := h2.2.1 (by omega)
  have w1 : IntKind.i64.wrap (pickI b p 7 - 3) = pickI b p 7 - 3 := wr (by omega) (by omega)
  have w2 : IntKind.i64.wrap (pickI b (p + 1) 9 - 4) = pickI b (p + 1) 9 - 4 := wr (by omega) (by omega)
  simp only [V_seq, V_ret, V_region, W_nil, W_cons, effOp2, KN_seq, KXr_nil, QE, effOp, effPure, effNew, effAlloc, effStore, Option.isSome_some, skipE, pureV, storeV, binV, partV, loadV, over, solid, buildL, IV.cells, ofC, strip, lkT, lkH, ISt.app, opI, gO, gB, allB, gval, wrapG, dstOK, setD, mentTm, mentHp, IV.ment, IV.mentL, oneI, idsV, idsL, clean, callArgs, callFn, enumT, conv, conv0, convL, IBlk.shape, Op.operands, reduceIte, reduceCtorEq, cond_true, cond_false, Bool.or_false, Bool.or_true, Bool.and_true, Nat.reduceAdd, Nat.reduceSub, Nat.reduceMul, Nat.reduceLT, Nat.reduceLeDiff, Nat.reduceEqDiff, Nat.reduceBEq, Nat.zero_add, ne_eq, not_false_eq_true, beq_self_eq_true, true_and, and_true, and_false, and_self, false_implies, implies_true, List.map_cons, List.map_nil, List.nil_append, List.cons_append, List.append_nil, List.all_cons, List.all_nil, Option.map_some, List.getD_cons_zero, List.getD_cons_succ, List.length_cons, List.length_nil, List.take_succ_cons, List.take_zero, List.take_nil, List.drop_succ_cons, List.drop_zero, List.drop_nil, ex_clo, Bool.true_eq_false, Bool.false_eq_true, tab66, hN, Int.toNat_natCast, encP, isBy_enc, toBy_enc, FinH, resA, resV, SLe, SLe0, convTm, convHp, convB, sm, effH, mkHC0, mkHC1, lendM, lentM, lentI, allHere, addIds, idsB, flatIds, reach, posn, renV, renL, renB, renH, numB, subHp, fwd, bk, bwd, nones, keyOK, noSl, noSlL, flatBs, List.contains, List.elem, Option.isSome_some, List.nodup_nil, List.nodup_cons, List.not_mem_nil, or_false, Option.getD_some, lh_spec_randomGraph_spec_reader_pick, hs_spec_reader_pick, rdr, rGraph, hb, w1, w2]
  exact ⟨⟨by omega, by omega⟩, ⟨by omega, by omega⟩, id, by simp [convL, conv, conv0, clean]; omega⟩
def hs_spec_randomGraph : HSpec := ⟨[false], fun xs hp => match xs, hp with | [.ptr 1000 0], [(1000, .box ty [.sl 1 es, .num .i64 pz])] => (isBy es) ∧ (ty = 156) ∧ (pz = (pz.toNat : Int)) ∧ ((fun (b : List Int) (p : Nat) => BytesOK b) (toIs es) pz.toNat) ∧ ((fun (b : List Int) (p : Nat) => p ≤ 900000) (toIs es) pz.toNat) | _, _ => False, fun xs hp => match xs, hp with | [.ptr 1000 0], [(1000, .box ty [.sl 1 es, .num .i64 pz])] => (fun (b : List Int) (p : Nat) => (encP (rGraph b p) : IV)) (toIs es) pz.toNat | _, _ => .junk, fun xs hp => match xs, hp with | [.ptr 1000 0], [(1000, .box ty [.sl 1 es, .num .i64 pz])] => (fun (b : List Int) (p : Nat) => ([(1000, rdr b (p + 2))] : List (Nat × IBlk))) (toIs es) pz.toNat | _, _ => []⟩
theorem hk_spec_randomGraph : ∀ args hp, hs_spec_randomGraph.pre args hp → HCall Try.prog 181 args (sm hp) (hs_spec_randomGraph.val args hp) (sm (hs_spec_randomGraph.hval args hp)) := by
  intro args hp h
  unfold hs_spec_randomGraph at h ⊢; simp only at h ⊢; split at h
  · obtain ⟨h1, rfl, h3, h4, h5⟩ := h; obtain ⟨l, rfl⟩ := isBy_ex h1; rw [toBy_enc] at *; rw [h3]; exact c_spec_randomGraph l _ h4 (by simpa using h5)
  · exact h.elim
theorem en_spec_randomGraph : Enters Try.prog 181 := enters_of Try.func181 (by kernel_rfl) rfl

def badG (b : List Int) (p : Nat) : Int := [1001, -1001, 1000].getD (pickI b p 3).toNat 0
def aGraph (b : List Int) (p : Nat) : Pt × Nat :=
  if pickI b (p + 2) 16 = 0 then ((badG b (p + 3), (rGraph b p).2), p + 4)
  else if pickI b (p + 2) 16 = 1 then (((rGraph b p).1, badG b (p + 3)), p + 4)
  else (rGraph b p, p + 3)
def g_spec_anyGraph : List (Nat × PSpec) := []
theorem gok_spec_anyGraph : GOK Try.prog g_spec_anyGraph := gok0
def h_spec_anyGraph : List (Nat × HSpec) := [(181, hs_spec_randomGraph), (74, hs_spec_reader_pick), (143, hs_spec_reader_one)]
theorem hok_spec_anyGraph : HOK Try.prog h_spec_anyGraph := hok_cons hk_spec_randomGraph en_spec_randomGraph (hok_cons hk_spec_reader_pick en_spec_reader_pick (hok_cons hk_spec_reader_one en_spec_reader_one (hok0)))
theorem lh_spec_anyGraph_spec_randomGraph : lkHS h_spec_anyGraph 181 = some hs_spec_randomGraph := rfl
theorem lh_spec_anyGraph_spec_reader_pick : lkHS h_spec_anyGraph 74 = some hs_spec_reader_pick := rfl
theorem lh_spec_anyGraph_spec_reader_one : lkHS h_spec_anyGraph 143 = some hs_spec_reader_one := rfl
theorem c_spec_anyGraph (b : List Int) (p : Nat) (hb : BytesOK b) (hp : p ≤ 800000) : HCall Try.prog 182 [.ptr 1000 0] (sm ([(1000, rdr b p)])) (encP (aGraph b p).1) (sm ([(1000, rdr b (aGraph b p).2)])) := by
  refine hcall_V (G := g_spec_anyGraph) (H := h_spec_anyGraph) [] tabOK mixed gok_spec_anyGraph hok_spec_anyGraph Try.func182 rfl Try.ntmps182 Try.results182 rfl (by kernel_rfl) fun F hN hlen => ?_
  simp only [sm]
  have hp1 : p ≤ 900000 := by omega
  have hp2 : p + 2 ≤ 1000000 := by omega
  have hp3 : p + 2 + 1 ≤ 900000 := by omega
  by_cases c0 : pickI b (p + 2) 16 = 0
  · have d1 : (pickI b (p + 2) 16 == 0) = true := by simpa using c0
    have hA : aGraph b p = ((badG b (p + 3), (rGraph b p).2), p + 4) := by rw [aGraph, if_pos c0]
    have hbd : [1001, -1001, 1000].getD (pickI b (p + 2 + 1) 3).toNat 0 = badG b (p + 3) := rfl
    simp only [V_seq, V_ret, V_block, V_region, V_cond, brW_true, W_nil, W_cons, effOp2, KN_seq, KN_block, KXr_nil, QE, asB, effOp, effPure, effNew, effAlloc, effBuildSlice, effFrz, frz, tmpsOf, effStore, Option.isSome_some, skipE, pureV, storeV, binV, partV, loadV, faddrV, over, solid, IV.cells, ofC, strip, lkT, lkH, ISt.app, opI, gO, gB, allB, gval, wrapG, dstOK, setD, mentTm, mentHp, IV.ment, IV.mentL, partsL, eltsI, eltI, oneI, noId', idsV, idsL, clean, callArgs, callFn, enumT, conv, conv0, convL, IBlk.shape, Op.operands, reduceIte, reduceCtorEq, cond_true, cond_false, Bool.or_false, Bool.or_true, Bool.and_true, Bool.false_and, Nat.reduceAdd, Nat.reduceSub, Nat.reduceMul, Nat.reduceLT, Nat.reduceLeDiff, Nat.reduceEqDiff, Nat.reduceBEq, Nat.add_zero, Nat.zero_add, ne_eq, not_false_eq_true, beq_self_eq_true, true_and, and_true, and_false, and_self, false_implies, implies_true, List.map_cons, List.map_nil, List.nil_append, List.cons_append, List.append_nil, List.all_cons, List.all_nil, Option.map_some, List.getD_cons_zero, List.getD_cons_succ, List.length_cons, List.length_nil, List.take_succ_cons, List.take_zero, List.take_nil, List.drop_succ_cons, List.drop_zero, List.drop_nil, ex_clo, or_self, Bool.true_eq_false, Bool.false_eq_true, tab3, tab50, tab66, hN, Int.toNat_natCast, encP, isBy_enc, toBy_enc, isIs_nil, toIs_nil, isIs_cons, toIs_cons, FinH, resA, resV, SLe, SLe0, convTm, convHp, convB, sm, effH, mkHC0, mkHC1, lendM, lentM, lentI, allHere, addIds, idsB, flatIds, reach, posn, renV, renL, renB, renH, numB, subHp, fwd, bk, bwd, nones, keyOK, noSl, noSlL, flatBs, List.contains, List.elem, Option.isSome_some, List.nodup_nil, List.nodup_cons, List.not_mem_nil, List.mem_cons, or_false, Option.getD_some, lh_spec_anyGraph_spec_randomGraph, lh_spec_anyGraph_spec_reader_pick, lh_spec_anyGraph_spec_reader_one, hs_spec_randomGraph, hs_spec_reader_pick, hs_spec_reader_one, rdr, hb, hp1, hp2, hp3, d1, hA]
    exact ⟨by omega, List.take_length.symm, id, by simp [convL, conv, conv0, clean, badG]; omega⟩
  · have d1 : (pickI b (p + 2) 16 == 0) = false := by simpa using c0
    by_cases c1 : pickI b (p + 2) 16 = 1
    · have d2 : (pickI b (p + 2) 16 == 1) = true := by simpa using c1
      have hA : aGraph b p = (((rGraph b p).1, badG b (p + 3)), p + 4) := by rw [aGraph, if_neg c0, if_pos c1]
      have hbd : [1001, -1001, 1000].getD (pickI b (p + 2 + 1) 3).toNat 0 = badG b (p + 3) := rfl
      simp only [V_seq, V_ret, V_block, V_region, V_cond, brW_true, brW_false, W_nil, W_cons, effOp2, KN_seq, KN_block, KXr_nil, QE, asB, effOp, effPure, effNew, effAlloc, effBuildSlice, effFrz, frz, tmpsOf, effStore, Option.isSome_some, skipE, pureV, storeV, binV, partV, loadV, faddrV, over, solid, IV.cells, ofC, strip, lkT, lkH, ISt.app, opI, gO, gB, allB, gval, wrapG, dstOK, setD, mentTm, mentHp, IV.ment, IV.mentL, partsL, eltsI, eltI, oneI, noId', idsV, idsL, clean, callArgs, callFn, enumT, conv, conv0, convL, IBlk.shape, Op.operands, reduceIte, reduceCtorEq, cond_true, cond_false, Bool.or_false, Bool.or_true, Bool.and_true, Bool.false_and, Nat.reduceAdd, Nat.reduceSub, Nat.reduceMul, Nat.reduceLT, Nat.reduceLeDiff, Nat.reduceEqDiff, Nat.reduceBEq, Nat.zero_add, ne_eq, not_false_eq_true, beq_self_eq_true, true_and, and_true, and_false, and_self, false_implies, implies_true, List.map_cons, List.map_nil, List.nil_append, List.cons_append, List.append_nil, List.all_cons, List.all_nil, Option.map_some, List.getD_cons_zero, List.getD_cons_succ, List.length_cons, List.length_nil, List.take_succ_cons, List.take_zero, List.take_nil, List.drop_succ_cons, List.drop_zero, List.drop_nil, ex_clo, or_self, Bool.true_eq_false, Bool.false_eq_true, tab3, tab50, tab66, hN, Int.toNat_natCast, encP, isBy_enc, toBy_enc, isIs_nil, toIs_nil, isIs_cons, toIs_cons, FinH, resA, resV, SLe, SLe0, convTm, convHp, convB, sm, effH, mkHC0, mkHC1, lendM, lentM, lentI, allHere, addIds, idsB, flatIds, reach, posn, renV, renL, renB, renH, numB, subHp, fwd, bk, bwd, nones, keyOK, noSl, noSlL, flatBs, List.contains, List.elem, Option.isSome_some, List.nodup_nil, List.nodup_cons, List.not_mem_nil, List.mem_cons, or_false, Option.getD_some, lh_spec_anyGraph_spec_randomGraph, lh_spec_anyGraph_spec_reader_pick, lh_spec_anyGraph_spec_reader_one, hs_spec_randomGraph, hs_spec_reader_pick, hs_spec_reader_one, rdr, hb, hp1, hp2, hp3, d1, d2, hA]
      exact ⟨by omega, List.take_length.symm, id, by simp [convL, conv, conv0, clean, badG]; omega⟩
    · have d2 : (pickI b (p + 2) 16 == 1) = false := by simpa using c1
      have hA : aGraph b p = (rGraph b p, p + 3) := by rw [aGraph, if_neg c0, if_neg c1]
      simp only [V_seq, V_skip, V_ret, V_block, V_region, V_cond, brW_false, W_nil, W_cons, effOp2, KN_seq, KN_block, KXr_nil, QE, asB, effOp, effPure, effNew, effAlloc, effStore, Option.isSome_some, skipE, pureV, storeV, binV, partV, loadV, over, solid, IV.cells, ofC, strip, lkT, lkH, ISt.app, opI, gO, gB, allB, gval, wrapG, dstOK, setD, mentTm, mentHp, IV.ment, IV.mentL, oneI, idsV, idsL, clean, callArgs, callFn, enumT, conv, conv0, convL, IBlk.shape, Op.operands, reduceIte, reduceCtorEq, cond_true, cond_false, Bool.or_false, Bool.or_true, Bool.and_true, Nat.reduceAdd, Nat.reduceSub, Nat.reduceMul, Nat.reduceLT, Nat.reduceLeDiff, Nat.reduceEqDiff, Nat.reduceBEq, Nat.zero_add, not_false_eq_true, beq_self_eq_true, true_and, and_true, and_false, and_self, false_implies, implies_true, List.map_cons, List.map_nil, List.nil_append, List.cons_append, List.append_nil, List.all_cons, List.all_nil, Option.map_some, List.getD_cons_zero, List.length_cons, List.length_nil, List.take_succ_cons, List.take_zero, List.take_nil, List.drop_succ_cons, List.drop_zero, List.drop_nil, ex_clo, Bool.true_eq_false, Bool.false_eq_true, tab66, hN, Int.toNat_natCast, encP, isBy_enc, toBy_enc, FinH, resA, resV, SLe, SLe0, convTm, convHp, convB, sm, effH, mkHC0, mkHC1, lendM, lentM, lentI, allHere, addIds, idsB, flatIds, reach, posn, renV, renL, renB, renH, numB, subHp, fwd, bk, bwd, nones, keyOK, noSl, noSlL, flatBs, List.contains, List.elem, Option.isSome_some, List.nodup_nil, List.nodup_cons, List.not_mem_nil, or_false, Option.getD_some, lh_spec_anyGraph_spec_randomGraph, lh_spec_anyGraph_spec_reader_pick, hs_spec_randomGraph, hs_spec_reader_pick, rdr, hb, hp1, hp2, d1, d2, hA]
      exact ⟨by omega, id, by simp [convL, conv, conv0, clean]; omega⟩
def hs_spec_anyGraph : HSpec := ⟨[false], fun xs hp => match xs, hp with | [.ptr 1000 0], [(1000, .box ty [.sl 1 es, .num .i64 pz])] => (isBy es) ∧ (ty = 156) ∧ (pz = (pz.toNat : Int)) ∧ ((fun (b : List Int) (p : Nat) => BytesOK b) (toIs es) pz.toNat) ∧ ((fun (b : List Int) (p : Nat) => p ≤ 800000) (toIs es) pz.toNat) | _, _ => False, fun xs hp => match xs, hp with | [.ptr 1000 0], [(1000, .box ty [.sl 1 es, .num .i64 pz])] => (fun (b : List Int) (p : Nat) => (encP (aGraph b p).1 : IV)) (toIs es) pz.toNat | _, _ => .junk, fun xs hp => match xs, hp with | [.ptr 1000 0], [(1000, .box ty [.sl 1 es, .num .i64 pz])] => (fun (b : List Int) (p : Nat) => ([(1000, rdr b (aGraph b p).2)] : List (Nat × IBlk))) (toIs es) pz.toNat | _, _ => []⟩
theorem hk_spec_anyGraph : ∀ args hp, hs_spec_anyGraph.pre args hp → HCall Try.prog 182 args (sm hp) (hs_spec_anyGraph.val args hp) (sm (hs_spec_anyGraph.hval args hp)) := by
  intro args hp h
  unfold hs_spec_anyGraph at h ⊢; simp only at h ⊢; split at h
  · obtain ⟨h1, rfl, h3, h4, h5⟩ := h; obtain ⟨l, rfl⟩ := isBy_ex h1; rw [toBy_enc] at *; rw [h3]; exact c_spec_anyGraph l _ h4 (by simpa using h5)
  · exact h.elim
theorem en_spec_anyGraph : Enters Try.prog 182 := enters_of Try.func182 (by kernel_rfl) rfl

def gStep (b : List Int) (x : List Pt × Nat) : List Pt × Nat :=
  if x.1.any (· == rGraph b x.2) = false then (x.1 ++ [rGraph b x.2], x.2 + 2)
  else if pickI b (x.2 + 2) 10 = 0 then (x.1 ++ [rGraph b x.2], x.2 + 3) else (x.1, x.2 + 3)
def gLoop (b : List Int) (p : Nat) : Nat → List Pt × Nat
  | 0 => ([], p)
  | n + 1 => gStep b (gLoop b p n)
theorem gLoop_bd (b : List Int) (p : Nat) : ∀ n, (gLoop b p n).1.length ≤ n ∧ (gLoop b p n).2 ≤ p + 3 * n
  | 0 => by simp [gLoop]
  | n + 1 => by
    have h := gLoop_bd b p n
    rw [gLoop, gStep]
    split
    · simp only [List.length_append, List.length_cons, List.length_nil]; omega
    · split
      · simp only [List.length_append, List.length_cons, List.length_nil]; omega
      · simp only []; omega
def gNum (b : List Int) (p : Nat) : Nat := [0, 1, 2, 3, 4, 5, 6, 9].getD (pickI b p 8).toNat 0
def aGraphs (b : List Int) (p : Nat) : List Pt × Nat :=
  if (gLoop b (p + 1) (gNum b p)).1.length = 0 then gLoop b (p + 1) (gNum b p)
  else if pickI b (gLoop b (p + 1) (gNum b p)).2 14 = 0 then ((gLoop b (p + 1) (gNum b p)).1.set 0 (aGraph b ((gLoop b (p + 1) (gNum b p)).2 + 1)).1, (aGraph b ((gLoop b (p + 1) (gNum b p)).2 + 1)).2)
  else ((gLoop b (p + 1) (gNum b p)).1, (gLoop b (p + 1) (gNum b p)).2 + 1)
def g_spec_anyGraphs : List (Nat × PSpec) := []
theorem gok_spec_anyGraphs : GOK Try.prog g_spec_anyGraphs := gok0
def h_spec_anyGraphs : List (Nat × HSpec) := [(143, hs_spec_reader_one), (181, hs_spec_randomGraph), (74, hs_spec_reader_pick), (182, hs_spec_anyGraph)]
theorem hok_spec_anyGraphs : HOK Try.prog h_spec_anyGraphs := hok_cons hk_spec_reader_one en_spec_reader_one (hok_cons hk_spec_randomGraph en_spec_randomGraph (hok_cons hk_spec_reader_pick en_spec_reader_pick (hok_cons hk_spec_anyGraph en_spec_anyGraph (hok0))))
theorem lh_spec_anyGraphs_spec_reader_one : lkHS h_spec_anyGraphs 143 = some hs_spec_reader_one := rfl
theorem lh_spec_anyGraphs_spec_randomGraph : lkHS h_spec_anyGraphs 181 = some hs_spec_randomGraph := rfl
theorem lh_spec_anyGraphs_spec_reader_pick : lkHS h_spec_anyGraphs 74 = some hs_spec_reader_pick := rfl
theorem lh_spec_anyGraphs_spec_anyGraph : lkHS h_spec_anyGraphs 182 = some hs_spec_anyGraph := rfl
theorem c_spec_anyGraphs (b : List Int) (p : Nat) (hb : BytesOK b) (hp : p ≤ 700000) : HCall Try.prog 113 [.ptr 1000 0] (sm ([(1000, rdr b p)])) (.ref 0 0 (aGraphs b p).1.length true) (sm ([(0, .arr 2 66 (encPs (aGraphs b p).1)), (1000, rdr b (aGraphs b p).2)])) := by
  refine hcall_V (G := g_spec_anyGraphs) (H := h_spec_anyGraphs) [] tabOK mixed gok_spec_anyGraphs hok_spec_anyGraphs Try.func113 rfl Try.ntmps113 Try.results113 rfl (by kernel_rfl) fun F hN hlen => ?_
  simp only [sm]
  have h1 := pick_nonneg hb (show p ≤ 1000000000 by omega) 8
  have h2 := h1.2.1 (by omega)
  have q1 : p ≤ 900000 := by omega
  obtain ⟨n, hn⟩ : ∃ n, gNum b p = n := ⟨_, rfl⟩
  have n9 : n ≤ 9 := by
    rw [← hn, gNum]
    obtain ⟨k, hk⟩ : ∃ k, (pickI b p 8).toNat = k := ⟨_, rfl⟩
    have hk8 : k < 8 := by omega
    rw [hk]
    match k, hk8 with
    | 0, _ | 1, _ | 2, _ | 3, _ | 4, _ | 5, _ | 6, _ | 7, _ => decide
  have e8 : encI [0, 1, 2, 3, 4, 5, 6, 9] = [.num .i64 0, .num .i64 1, .num .i64 2, .num .i64 3, .num .i64 4, .num .i64 5, .num .i64 6, .num .i64 9] := rfl
  have hv : ([0, 1, 2, 3, 4, 5, 6, 9] : List Int).getD (pickI b p 8).toNat 0 = ((n : Nat) : Int) := by
    rw [← hn, gNum]
    obtain ⟨k, hk⟩ : ∃ k, (pickI b p 8).toNat = k := ⟨_, rfl⟩
    have hk8 : k < 8 := by omega
    rw [hk]
    match k, hk8 with
    | 0, _ | 1, _ | 2, _ | 3, _ | 4, _ | 5, _ | 6, _ | 7, _ => rfl
  have hA : aGraphs b p = (if (gLoop b (p + 1) n).1.length = 0 then gLoop b (p + 1) n
      else if pickI b (gLoop b (p + 1) n).2 14 = 0 then ((gLoop b (p + 1) n).1.set 0 (aGraph b ((gLoop b (p + 1) n).2 + 1)).1, (aGraph b ((gLoop b (p + 1) n).2 + 1)).2)
      else ((gLoop b (p + 1) n).1, (gLoop b (p + 1) n).2 + 1)) := by unfold aGraphs; rw [hn]
  have l8 : (([0, 1, 2, 3, 4, 5, 6, 9] : List Int).length : Int) = 8 := rfl
  have hx8 : ∃ k ty es, IBlk.arr 1 3 (encI [0, 1, 2, 3, 4, 5, 6, 9]) = IBlk.arr k ty es := ⟨_, _, _, rfl⟩
  simp only [V_seq, V_block, V_region, W_nil, W_cons, effOp2, KN_seq, effOp, effPure, effNew, effBuildSlice, effFrz, frz, tmpsOf, Option.isSome_some, skipE, pureV, ofC, strip, lkT, lkH, ISt.app, opI, gO, gB, allB, gval, wrapG, dstOK, setD, mentTm, mentHp, IV.ment, IV.mentL, partsL, eltsI, eltI, noId', idsV, idsL, clean, callArgs, callFn, enumT, conv, conv0, convL, IBlk.shape, Op.operands, reduceIte, reduceCtorEq, cond_true, cond_false, Bool.or_false, Bool.or_true, Bool.and_true, Nat.reduceAdd, Nat.reduceSub, Nat.reduceMul, Nat.reduceLT, Nat.reduceLeDiff, Nat.reduceEqDiff, Nat.reduceBEq, Nat.zero_add, ne_eq, not_false_eq_true, beq_self_eq_true, true_and, and_false, and_self, implies_true, List.map_cons, List.map_nil, List.nil_append, List.cons_append, List.append_nil, List.all_nil, Option.map_some, List.getD_cons_zero, List.getD_cons_succ, List.length_cons, List.length_nil, List.take_succ_cons, List.take_nil, ex_clo, or_self, Bool.true_eq_false, Bool.false_eq_true, tab3, tab50, tab57, tab66, hN, Int.toNat_natCast, isBy_enc, toBy_enc, isIs_nil, toIs_nil, isIs_cons, toIs_cons, SLe0, convTm, convHp, convB, sm, effH, mkHC0, mkHC1, lendM, lentM, lentI, allHere, addIds, idsB, flatIds, reach, posn, renV, renL, renB, renH, numB, subHp, fwd, bk, bwd, nones, keyOK, noSl, noSlL, flatBs, List.contains, List.elem, Option.isSome_some, List.nodup_nil, List.nodup_cons, List.not_mem_nil, List.mem_cons, or_false, Option.getD_some, lh_spec_anyGraphs_spec_reader_one, hs_spec_reader_one, rdr, hb, q1, e8]
  refine V_loop (α := Nat) ⟨tabOK, mixed, gok_spec_anyGraphs, hok_spec_anyGraphs⟩ (by kernel_rfl) (fun i => i ≤ n) (fun i => ⟨[(4, .num .i64 ((n - i : Nat) : Int)), (3, .ref 8 0 (gLoop b (p + 1) i).1.length true), (0, .ptr 1000 0)], [(8, some (.arr 2 66 (encPs (gLoop b (p + 1) i).1))), (1000, some (rdr b (gLoop b (p + 1) i).2))]⟩) (fun i => n - i) 0 id (Nat.zero_le _) (by simp [SLe, SLe0, convTm, convHp, convB, conv, conv0, convL, lkT, lkH, clean, gLoop, encPs, rdr]; exact hv) ?_
  intro i hi
  have hbd := gLoop_bd b (p + 1) i
  have hS : gLoop b (p + 1) (i + 1) = gStep b (gLoop b (p + 1) i) := rfl
  unfold gStep at hS
  have hAi : i = n → aGraphs b p = (if (gLoop b (p + 1) i).1.length = 0 then gLoop b (p + 1) i
      else if pickI b (gLoop b (p + 1) i).2 14 = 0 then ((gLoop b (p + 1) i).1.set 0 (aGraph b ((gLoop b (p + 1) i).2 + 1)).1, (aGraph b ((gLoop b (p + 1) i).2 + 1)).2)
      else ((gLoop b (p + 1) i).1, (gLoop b (p + 1) i).2 + 1)) := fun e => by subst e; exact hA
  have hpair : gLoop b (p + 1) i = ((gLoop b (p + 1) i).1, (gLoop b (p + 1) i).2) := rfl
  obtain ⟨L, hL⟩ : ∃ L, (gLoop b (p + 1) i).1 = L := ⟨_, rfl⟩
  obtain ⟨q, hq⟩ : ∃ q, (gLoop b (p + 1) i).2 = q := ⟨_, rfl⟩
  rw [hL, hq] at hbd hS hpair
  rw [hpair] at hAi
  simp only [hL, hq]
  have ln := len_encPs L
  have tl := take_encPs L
  have hx : ∃ k ty es, IBlk.arr 2 66 (encPs L) = IBlk.arr k ty es := ⟨_, _, _, rfl⟩
  have q900 : q ≤ 900000 := by omega
  have q1000 : q ≤ 1000000 := by omega
  simp only [V_seq, V_region, V_cond, W_nil, W_cons, effOp2, KN_seq, asB, effOp, effPure, pureV, binV, ofC, strip, lkT, ISt.app, opI, gO, gB, allB, gval, wrapG, dstOK, setD, Op.operands, reduceIte, reduceCtorEq, Nat.reduceLT, Nat.reduceEqDiff, true_and, and_self, implies_true, List.nil_append, List.cons_append, hN, rdr]
  refine brW_some (fun h => ?_) (fun h => ?_)
  · have hlt : i < n := by simp at h; omega
    have w2 : IntKind.i64.wrap (((n - i : Nat) : Int) - 1) = ((n - (i + 1) : Nat) : Int) := by rw [wr (by omega) (by omega)]; omega
    obtain ⟨g, hg⟩ : ∃ g, rGraph b q = g := ⟨_, rfl⟩
    rw [hg] at hS
    simp only [V_seq, V_skip, V_block, V_region, W_nil, W_cons, effOp2, KN_seq, effOp, effPure, effNew, effAlloc, effStore, Option.isSome_some, skipE, pureV, storeV, over, solid, IV.cells, ofC, strip, lkT, lkH, ISt.app, opI, gO, gB, allB, gval, wrapG, dstOK, setD, mentTm, mentHp, IV.ment, IV.mentL, oneI, idsV, idsL, clean, callArgs, callFn, enumT, conv, conv0, convL, IBlk.shape, Op.operands, reduceIte, reduceCtorEq, cond_true, cond_false, Bool.or_false, Bool.or_true, Bool.and_true, Nat.reduceAdd, Nat.reduceSub, Nat.reduceMul, Nat.reduceLT, Nat.reduceLeDiff, Nat.reduceEqDiff, Nat.reduceBEq, Nat.zero_add, not_false_eq_true, beq_self_eq_true, true_and, and_false, and_self, implies_true, List.map_cons, List.map_nil, List.nil_append, List.cons_append, List.append_nil, List.all_cons, List.all_nil, Option.map_some, List.getD_cons_zero, List.length_cons, List.length_nil, List.take_zero, List.drop_succ_cons, List.drop_nil, ex_clo, Bool.true_eq_false, Bool.false_eq_true, tab66, hN, Int.toNat_natCast, encP, isBy_enc, toBy_enc, SLe0, convTm, convHp, convB, sm, effH, mkHC0, mkHC1, lendM, lentM, lentI, allHere, addIds, idsB, flatIds, reach, posn, renV, renL, renB, renH, numB, subHp, fwd, bk, bwd, nones, keyOK, noSl, noSlL, flatBs, List.contains, List.elem, Option.isSome_some, List.nodup_nil, List.nodup_cons, List.not_mem_nil, or_false, Option.getD_some, lh_spec_anyGraphs_spec_randomGraph, hs_spec_randomGraph, rdr, hb, q900, hg]
    refine V_loop (α := Nat) ⟨tabOK, mixed, gok_spec_anyGraphs, hok_spec_anyGraphs⟩ (by kernel_rfl) (fun j => j ≤ L.length) (fun j => ⟨[(7, .num .i64 j), (6, .bool ((L.take j).any (· == g))), (5, .ptr 5 0), (4, .num .i64 ((n - i : Nat) : Int)), (3, .ref 8 0 L.length true), (0, .ptr 1000 0)], [(5, some (.box 66 [.num .i64 g.1, .num .i64 g.2])), (8, some (.arr 2 66 (encPs L))), (1000, some (rdr b (q + 2)))]⟩) (fun j => L.length - j) 0 id (Nat.zero_le _) (by simp [SLe, SLe0, convTm, convHp, convB, conv, conv0, convL, lkT, lkH, clean, rdr]; try omega) ?_
    intro j hj
    simp only [V_seq, V_region, V_cond, W_nil, W_cons, effOp2, KN_seq, asB, effOp, effPure, pureV, binV, lenV, strip, lkT, ISt.app, opI, gO, gB, allB, gval, wrapG, dstOK, setD, Op.operands, Call.operands, List.append_toArray, reduceIte, reduceCtorEq, Nat.reduceLT, Nat.reduceEqDiff, ne_eq, not_false_eq_true, true_and, and_self, implies_true, List.nil_append, List.cons_append, tab57, hN, rdr]
    refine brW_some (fun h => ?_) (fun h => ?_)
    · have hj' : j < L.length := by simpa using h
      have g0 := getD_encPs hj'
      have hw3 := wr_succ hj' (by rw [maxLen_eq]; omega)
      have hst : (L.take (j + 1)).any (· == g) = ((L.take j).any (· == g) || (pAt L j == g)) := by
        rw [take_succ_g (d := (0, 0)) hj', List.any_append]; simp
      generalize pAt L j = r at *
      cases h7 : (L.take j).any (· == g) with
      | true =>
        rw [h7, Bool.true_or] at hst
        simp only [V_seq, V_skip, V_block, V_region, V_draw, drawW, pairsOf, W_nil, W_cons, WD_nil, WD_cons, effOp2, KN_seq, KN_block, KN_back, effOp, effPure, effPick, pureV, pickV, binV, partV, eltV, loadV, iaddrV, ofC, strip, lkT, lkH, ISt.app, opI, gO, gB, allB, gval, wrapG, dstOK, setD, eqL, numsOnly, Op.operands, reduceIte, reduceCtorEq, cond_true, Bool.and_true, Nat.reduceAdd, Nat.reduceLT, Nat.reduceLeDiff, Nat.reduceEqDiff, Nat.zero_add, ne_eq, not_false_eq_true, true_and, and_true, false_and, and_false, and_self, false_implies, implies_true, List.nil_append, List.cons_append, Option.bind_some, List.getElem?_cons_zero, List.getElem?_cons_succ, List.getD_cons_zero, List.length_cons, List.length_nil, List.take_succ_cons, List.take_nil, List.drop_zero, btf, Bool.true_eq_false, Bool.false_eq_true, tab57, tab66, hN, Int.toNat_natCast, ln, g0, hw3, eqP]
        repeat refine And.intro (by first | omega | (simp; done) | (simp; omega)) ?_
        refine ⟨j + 1, id, by simp only []; omega, by simp only []; omega, ?_⟩
        simp only [hst]
        exact by simp [SLe, SLe0, convTm, convHp, convB, conv, conv0, convL, lkT, lkH, clean]
      | false =>
        rw [h7, Bool.false_or] at hst
        simp only [V_seq, V_skip, V_block, V_region, V_draw, drawW, pairsOf, W_nil, W_cons, WD_nil, WD_cons, effOp2, KN_seq, KN_block, KN_back, effOp, effPure, effPick, pureV, pickV, binV, partV, eltV, loadV, iaddrV, ofC, strip, lkT, lkH, ISt.app, opI, gO, gB, allB, gval, wrapG, dstOK, setD, eqL, numsOnly, Op.operands, reduceIte, reduceCtorEq, cond_false, Bool.and_true, Nat.reduceAdd, Nat.reduceLT, Nat.reduceLeDiff, Nat.reduceEqDiff, Nat.zero_add, ne_eq, not_false_eq_true, beq_self_eq_true, true_and, and_true, and_false, and_self, implies_true, forall_const, List.nil_append, List.cons_append, Option.bind_some, List.getElem?_cons_zero, List.getElem?_cons_succ, List.getD_cons_zero, List.length_cons, List.length_nil, List.take_succ_cons, List.take_nil, List.drop_zero, Bool.false_eq_true, tab57, tab66, hN, Int.toNat_natCast, ln, g0, hw3, eqP]
        repeat refine And.intro (by first | omega | (simp; done) | (simp; omega)) ?_
        refine ⟨j + 1, id, by simp only []; omega, by simp only []; omega, ?_⟩
        simp only [hst]
        exact by simp [SLe, SLe0, convTm, convHp, convB, conv, conv0, convL, lkT, lkH, clean]
    · have hje : j = L.length := by simp at h; omega
      subst hje
      rw [List.take_length]
      have hfin : ∀ r, gLoop b (p + 1) (i + 1) = (L ++ [g], r) → encPs (gLoop b (p + 1) (i + 1)).1 = (encPs L).take L.length ++ [IV.agg [.num .i64 g.1, .num .i64 g.2]] ∧ (gLoop b (p + 1) (i + 1)).1.length = L.length + 1 ∧ (gLoop b (p + 1) (i + 1)).2 = r := fun r hr => by
        rw [hr]
        refine ⟨?_, by simp, rfl⟩
        simp only []
        rw [← encPs_app, tl]; rfl
      have q3 : q + 2 ≤ 1000000 := by omega
      cases h7 : L.any (· == g) with
      | false =>
        rw [if_pos h7] at hS
        obtain ⟨f1, f2, f3⟩ := hfin _ hS
        simp only [V_seq, V_exit, V_region, V_cond, brW_true, W_nil, W_cons, effOp2, KN_seq, KN_block, KN_back, KXe_nil, KXe_seq, KXe_block, KXe_back, QE, asB, effOp, effPure, effPick, effNew, effBuildSlice, effFrz, frz, tmpsOf, effAppend, effZeros, Option.isSome_some, skipE, pureV, pickV, srcV, refId, binV, partV, loadV, lenV, ofC, strip, lkT, lkH, ISt.app, opI, gO, gB, allB, gval, wrapG, dstOK, setD, mentTm, mentHp, IV.ment, IV.mentL, partsL, eltsI, eltI, oneI, noId', idsV, idsL, clean, callArgs, callFn, enumT, conv, conv0, convL, IBlk.shape, Op.operands, Call.operands, List.append_toArray, reduceIte, reduceCtorEq, cond_true, cond_false, Bool.or_false, Bool.or_true, Bool.and_true, Bool.not_false, Nat.reduceAdd, Nat.reduceSub, Nat.reduceMul, Nat.reduceLT, Nat.reduceLeDiff, Nat.reduceEqDiff, Nat.reduceBEq, Nat.zero_add, ne_eq, not_true_eq_false, not_false_eq_true, beq_self_eq_true, true_and, and_true, false_and, and_false, and_self, false_implies, implies_true, forall_const, List.map_cons, List.map_nil, List.nil_append, List.cons_append, List.append_nil, List.all_cons, List.all_nil, Option.some.injEq, Option.map_some, Option.bind_some, List.getElem?_cons_zero, List.getElem?_cons_succ, List.getD_cons_zero, List.length_cons, List.length_nil, List.take_succ_cons, List.take_nil, List.drop_zero, ex_clo, btf, Bool.true_eq_false, Bool.false_eq_true, tab3, tab57, tab66, hN, Int.toNat_natCast, isBy_enc, toBy_enc, FinH, SLe0, convTm, convHp, convB, sm, effH, mkHC0, mkHC1, lendM, lentM, lentI, allHere, addIds, idsB, flatIds, reach, posn, renV, renL, renB, renH, numB, subHp, fwd, bk, bwd, nones, keyOK, noSl, noSlL, flatBs, List.contains, List.elem, Option.isSome_some, List.nodup_nil, List.nodup_cons, List.not_mem_nil, or_false, Option.getD_some, lh_spec_anyGraphs_spec_reader_pick, hs_spec_reader_pick, rdr, hb, ln, w2]
        repeat refine And.intro (by first | omega | (simp; done) | (simp; omega)) ?_
        refine ⟨i + 1, fun x => if x = 8 then 43 else x, by simp only []; omega, by simp only []; omega, ?_⟩
        simp only [f1, f2, f3]
        simp [SLe, SLe0, convTm, convHp, convB, conv, conv0, convL, lkT, lkH, clean]
        exact ⟨(List.take_of_length_le (by rw [List.length_append, List.length_take]; exact Nat.le_refl _)).symm, fun id a b c => by omega⟩
      | true =>
        rw [if_neg (by rw [h7]; decide)] at hS
        cases c9 : (pickI b (q + 2) 10 == 0) with
        | true =>
          rw [if_pos (by simpa using c9)] at hS
          obtain ⟨f1, f2, f3⟩ := hfin _ hS
          simp only [V_seq, V_exit, V_region, V_cond, brW_true, W_nil, W_cons, effOp2, KN_seq, KN_block, KN_back, KXe_nil, KXe_seq, KXe_block, KXe_back, QE, asB, effOp, effPure, effPick, effNew, effBuildSlice, effFrz, frz, tmpsOf, effAppend, effZeros, Option.isSome_some, skipE, pureV, pickV, srcV, refId, binV, partV, loadV, lenV, ofC, strip, lkT, lkH, ISt.app, opI, gO, gB, allB, gval, wrapG, dstOK, setD, mentTm, mentHp, IV.ment, IV.mentL, partsL, eltsI, eltI, oneI, noId', idsV, idsL, clean, callArgs, callFn, enumT, conv, conv0, convL, IBlk.shape, Op.operands, Call.operands, List.append_toArray, reduceIte, reduceCtorEq, cond_true, cond_false, Bool.or_false, Bool.or_true, Bool.and_true, Bool.not_true, Nat.reduceAdd, Nat.reduceSub, Nat.reduceMul, Nat.reduceLT, Nat.reduceLeDiff, Nat.reduceEqDiff, Nat.reduceBEq, Nat.zero_add, ne_eq, not_true_eq_false, not_false_eq_true, beq_self_eq_true, true_and, and_true, false_and, and_false, and_self, implies_true, forall_const, List.map_cons, List.map_nil, List.nil_append, List.cons_append, List.append_nil, List.all_cons, List.all_nil, Option.some.injEq, Option.map_some, Option.bind_some, List.getElem?_cons_zero, List.getElem?_cons_succ, List.getD_cons_zero, List.length_cons, List.length_nil, List.take_succ_cons, List.take_nil, List.drop_zero, ex_clo, Bool.true_eq_false, Bool.false_eq_true, tab3, tab57, tab66, hN, Int.toNat_natCast, isBy_enc, toBy_enc, FinH, SLe0, convTm, convHp, convB, sm, effH, mkHC0, mkHC1, lendM, lentM, lentI, allHere, addIds, idsB, flatIds, reach, posn, renV, renL, renB, renH, numB, subHp, fwd, bk, bwd, nones, keyOK, noSl, noSlL, flatBs, List.contains, List.elem, Option.isSome_some, List.nodup_nil, List.nodup_cons, List.not_mem_nil, or_false, Option.getD_some, lh_spec_anyGraphs_spec_reader_pick, hs_spec_reader_pick, rdr, hb, ln, w2, q3, c9]
          repeat refine And.intro (by first | omega | (simp; done) | (simp; omega)) ?_
          refine ⟨i + 1, fun x => if x = 8 then 43 else x, by simp only []; omega, by simp only []; omega, ?_⟩
          simp only [f1, f2, f3]
          simp [SLe, SLe0, convTm, convHp, convB, conv, conv0, convL, lkT, lkH, clean]
          exact ⟨⟨(List.take_of_length_le (by rw [List.length_append, List.length_take]; exact Nat.le_refl _)).symm, by omega⟩, fun id a b c => by omega⟩
        | false =>
          rw [if_neg (by simpa using c9)] at hS
          simp only [V_seq, V_skip, V_exit, V_region, V_cond, brW_false, W_nil, W_cons, effOp2, KN_seq, KN_block, KN_back, KXe_nil, KXe_seq, KXe_block, KXe_back, QE, asB, effOp, effPure, effPick, Option.isSome_some, skipE, pureV, pickV, binV, lenV, ofC, strip, lkT, lkH, ISt.app, opI, gO, gB, allB, gval, wrapG, dstOK, setD, mentTm, mentHp, IV.ment, IV.mentL, idsV, idsL, clean, callArgs, callFn, enumT, conv, conv0, convL, IBlk.shape, Op.operands, Call.operands, List.append_toArray, reduceIte, reduceCtorEq, cond_true, cond_false, Bool.or_false, Bool.or_true, Bool.and_true, Bool.not_true, Nat.reduceAdd, Nat.reduceSub, Nat.reduceMul, Nat.reduceLT, Nat.reduceLeDiff, Nat.reduceEqDiff, Nat.reduceBEq, Nat.zero_add, ne_eq, not_true_eq_false, not_false_eq_true, beq_self_eq_true, true_and, and_true, false_and, and_false, and_self, implies_true, forall_const, List.map_cons, List.map_nil, List.nil_append, List.cons_append, List.append_nil, List.all_nil, Option.map_some, Option.bind_some, List.getElem?_cons_zero, List.getElem?_cons_succ, List.getD_cons_zero, ex_clo, Bool.true_eq_false, Bool.false_eq_true, tab3, tab57, hN, Int.toNat_natCast, isBy_enc, toBy_enc, FinH, SLe0, convTm, convHp, convB, sm, effH, mkHC0, mkHC1, lendM, lentM, lentI, allHere, addIds, idsB, flatIds, reach, posn, renV, renL, renB, renH, numB, subHp, fwd, bk, bwd, nones, keyOK, noSl, noSlL, flatBs, List.contains, List.elem, Option.isSome_some, List.nodup_nil, List.nodup_cons, List.not_mem_nil, or_false, Option.getD_some, lh_spec_anyGraphs_spec_reader_pick, hs_spec_reader_pick, rdr, hb, w2, q3, c9]
          repeat refine And.intro (by first | omega | (simp; done) | (simp; omega)) ?_
          refine ⟨i + 1, id, by simp only []; omega, by simp only []; omega, ?_⟩
          simp only [hS]
          simp [SLe, SLe0, convTm, convHp, convB, conv, conv0, convL, lkT, lkH, clean]
          omega
  · have hie : i = n := by simp at h; omega
    have hB := hAi hie
    simp only [] at hB
    have q800 : q + 1 ≤ 800000 := by omega
    have q0 : Int.toNat 0 = 0 := rfl
    rcases Nat.eq_zero_or_pos L.length with hz | hz
    · rw [if_pos hz] at hB
      have d1 : decide ((0 : Int) < ((0 : Nat) : Int)) = false := rfl
      simp only [V_seq, V_skip, V_ret, V_exit, V_region, V_cond, brW_false, W_nil, W_cons, effOp2, KN_seq, KXr_nil, KXe_nil, KXe_seq, KXe_block, KXe_back, QE, asB, effOp, effPure, effPick, Option.isSome_some, skipE, pureV, pickV, binV, lenV, ofC, strip, lkT, lkH, ISt.app, opI, gO, gB, allB, gval, wrapG, dstOK, setD, mentTm, mentHp, IV.ment, IV.mentL, idsV, idsL, clean, callArgs, callFn, enumT, conv, conv0, convL, IBlk.shape, Op.operands, Call.operands, List.append_toArray, reduceIte, reduceCtorEq, cond_true, cond_false, Bool.or_false, Bool.or_true, Bool.and_true, Nat.reduceAdd, Nat.reduceSub, Nat.reduceMul, Nat.reduceLT, Nat.reduceLeDiff, Nat.reduceEqDiff, Nat.reduceBEq, Nat.zero_add, ne_eq, not_false_eq_true, beq_self_eq_true, true_and, and_true, false_and, and_false, and_self, false_implies, implies_true, List.map_cons, List.map_nil, List.nil_append, List.cons_append, List.append_nil, List.all_nil, Option.map_some, Option.bind_some, List.getElem?_cons_zero, List.getElem?_cons_succ, List.getD_cons_zero, ex_clo, bft, Bool.true_eq_false, Bool.false_eq_true, tab57, hN, Int.toNat_natCast, isBy_enc, toBy_enc, FinH, resA, resV, SLe, SLe0, convTm, convHp, convB, sm, effH, mkHC0, mkHC1, lendM, lentM, lentI, allHere, addIds, idsB, flatIds, reach, posn, renV, renL, renB, renH, numB, subHp, fwd, bk, bwd, nones, keyOK, noSl, noSlL, flatBs, List.contains, List.elem, Option.isSome_some, List.nodup_nil, List.nodup_cons, List.not_mem_nil, List.mem_cons, or_false, Option.getD_some, lh_spec_anyGraphs_spec_reader_pick, hs_spec_reader_pick, rdr, hb, hz, d1, hB]
      exact ⟨fun x => if x = 0 then 8 else x, by simp [convL, conv, conv0, clean]; omega⟩
    · have d1 : decide ((0 : Int) < ((L.length : Nat) : Int)) = true := by simpa using hz
      rw [if_neg (by omega)] at hB
      cases c9 : (pickI b q 14 == 0) with
      | true =>
        rw [if_pos (by simpa using c9)] at hB
        have hset := encPs_set L 0 (aGraph b (q + 1)).1
        simp only [V_seq, V_ret, V_exit, V_region, V_cond, brW_true, W_nil, W_cons, effOp2, KN_seq, KXr_nil, KXe_nil, KXe_seq, KXe_block, KXe_back, QE, asB, effOp, effPure, effPick, effStore, Option.isSome_some, skipE, pureV, pickV, storeV, binV, iaddrV, lenV, over, solid, IV.cells, ofC, strip, lkT, lkH, ISt.app, opI, gO, gB, allB, gval, wrapG, dstOK, setD, mentTm, mentHp, IV.ment, IV.mentL, eltI, oneI, noId', idsV, idsL, clean, callArgs, callFn, enumT, conv, conv0, convL, IBlk.shape, Op.operands, Call.operands, List.append_toArray, reduceIte, reduceCtorEq, cond_true, cond_false, Bool.or_false, Bool.or_true, Bool.and_true, Bool.true_and, Nat.reduceAdd, Nat.reduceSub, Nat.reduceMul, Nat.reduceLT, Nat.reduceLeDiff, Nat.reduceEqDiff, Nat.reduceBEq, Nat.add_zero, Nat.zero_add, ne_eq, not_false_eq_true, beq_self_eq_true, true_and, and_true, and_false, and_self, false_implies, implies_true, forall_const, List.map_cons, List.map_nil, List.nil_append, List.cons_append, List.append_nil, List.all_cons, List.all_nil, Option.map_some, Option.bind_some, List.getElem?_cons_zero, List.getElem?_cons_succ, List.getD_cons_zero, List.length_cons, List.length_nil, List.take_zero, ex_clo, Bool.true_eq_false, Bool.false_eq_true, tab57, tab66, hN, Int.toNat_natCast, encP, isBy_enc, toBy_enc, FinH, resA, resV, SLe, SLe0, convTm, convHp, convB, sm, effH, mkHC0, mkHC1, lendM, lentM, lentI, allHere, addIds, idsB, flatIds, reach, posn, renV, renL, renB, renH, numB, subHp, fwd, bk, bwd, nones, keyOK, noSl, noSlL, flatBs, List.contains, List.elem, Option.isSome_some, List.nodup_nil, List.nodup_cons, List.not_mem_nil, List.mem_cons, or_false, Option.getD_some, lh_spec_anyGraphs_spec_reader_pick, lh_spec_anyGraphs_spec_anyGraph, hs_spec_reader_pick, hs_spec_anyGraph, rdr, hb, ln, d1, q1000, q800, c9, hB, q0, hset]
        skip
        exact ⟨by omega, ⟨by omega, by omega⟩, hz, fun x => if x = 0 then 8 else x, by simp [convL, conv, conv0, clean]; omega⟩
      | false =>
        rw [if_neg (by simpa using c9)] at hB
        simp only [V_seq, V_skip, V_ret, V_exit, V_region, V_cond, brW_false, W_nil, W_cons, effOp2, KN_seq, KXr_nil, KXe_nil, KXe_seq, KXe_block, KXe_back, QE, asB, effOp, effPure, effPick, Option.isSome_some, skipE, pureV, pickV, binV, lenV, ofC, strip, lkT, lkH, ISt.app, opI, gO, gB, allB, gval, wrapG, dstOK, setD, mentTm, mentHp, IV.ment, IV.mentL, idsV, idsL, clean, callArgs, callFn, enumT, conv, conv0, convL, IBlk.shape, Op.operands, Call.operands, List.append_toArray, reduceIte, reduceCtorEq, cond_true, cond_false, Bool.or_false, Bool.or_true, Bool.and_true, Nat.reduceAdd, Nat.reduceSub, Nat.reduceMul, Nat.reduceLT, Nat.reduceLeDiff, Nat.reduceEqDiff, Nat.reduceBEq, Nat.zero_add, ne_eq, not_false_eq_true, beq_self_eq_true, true_and, and_true, and_false, and_self, false_implies, implies_true, List.map_cons, List.map_nil, List.nil_append, List.cons_append, List.append_nil, List.all_nil, Option.map_some, Option.bind_some, List.getElem?_cons_zero, List.getElem?_cons_succ, List.getD_cons_zero, ex_clo, Bool.true_eq_false, Bool.false_eq_true, tab57, hN, Int.toNat_natCast, isBy_enc, toBy_enc, FinH, resA, resV, SLe, SLe0, convTm, convHp, convB, sm, effH, mkHC0, mkHC1, lendM, lentM, lentI, allHere, addIds, idsB, flatIds, reach, posn, renV, renL, renB, renH, numB, subHp, fwd, bk, bwd, nones, keyOK, noSl, noSlL, flatBs, List.contains, List.elem, Option.isSome_some, List.nodup_nil, List.nodup_cons, List.not_mem_nil, List.mem_cons, or_false, Option.getD_some, lh_spec_anyGraphs_spec_reader_pick, hs_spec_reader_pick, rdr, hb, d1, q1000, c9, hB]
        refine ⟨by omega, fun x => if x = 0 then 8 else x, ?_⟩
        simp [convL, conv, conv0, clean]
        intro id a c d; omega
def hs_spec_anyGraphs : HSpec := ⟨[false], fun xs hp => match xs, hp with | [.ptr 1000 0], [(1000, .box ty [.sl 1 es, .num .i64 pz])] => (isBy es) ∧ (ty = 156) ∧ (pz = (pz.toNat : Int)) ∧ ((fun (b : List Int) (p : Nat) => BytesOK b) (toIs es) pz.toNat) ∧ ((fun (b : List Int) (p : Nat) => p ≤ 700000) (toIs es) pz.toNat) | _, _ => False, fun xs hp => match xs, hp with | [.ptr 1000 0], [(1000, .box ty [.sl 1 es, .num .i64 pz])] => (fun (b : List Int) (p : Nat) => (.ref 0 0 (aGraphs b p).1.length true : IV)) (toIs es) pz.toNat | _, _ => .junk, fun xs hp => match xs, hp with | [.ptr 1000 0], [(1000, .box ty [.sl 1 es, .num .i64 pz])] => (fun (b : List Int) (p : Nat) => ([(0, .arr 2 66 (encPs (aGraphs b p).1)), (1000, rdr b (aGraphs b p).2)] : List (Nat × IBlk))) (toIs es) pz.toNat | _, _ => []⟩
theorem hk_spec_anyGraphs : ∀ args hp, hs_spec_anyGraphs.pre args hp → HCall Try.prog 113 args (sm hp) (hs_spec_anyGraphs.val args hp) (sm (hs_spec_anyGraphs.hval args hp)) := by
  intro args hp h
  unfold hs_spec_anyGraphs at h ⊢; simp only at h ⊢; split at h
  · obtain ⟨h1, rfl, h3, h4, h5⟩ := h; obtain ⟨l, rfl⟩ := isBy_ex h1; rw [toBy_enc] at *; rw [h3]; exact c_spec_anyGraphs l _ h4 (by simpa using h5)
  · exact h.elim
theorem en_spec_anyGraphs : Enters Try.prog 113 := enters_of Try.func113 (by kernel_rfl) rfl

/-- The graphs that a code draws. -/
def drawGs (b : List Int) : List Pt := (aGraphs (b.take 2000) 0).1
def g_spec_DrawUpperEnvelope : List (Nat × PSpec) := []
theorem gok_spec_DrawUpperEnvelope : GOK Try.prog g_spec_DrawUpperEnvelope := gok0
def h_spec_DrawUpperEnvelope : List (Nat × HSpec) := [(64, hs_spec_newReader), (113, hs_spec_anyGraphs)]
theorem hok_spec_DrawUpperEnvelope : HOK Try.prog h_spec_DrawUpperEnvelope := hok_cons hk_spec_newReader en_spec_newReader (hok_cons hk_spec_anyGraphs en_spec_anyGraphs (hok0))
theorem lh_spec_DrawUpperEnvelope_spec_newReader : lkHS h_spec_DrawUpperEnvelope 64 = some hs_spec_newReader := rfl
theorem lh_spec_DrawUpperEnvelope_spec_anyGraphs : lkHS h_spec_DrawUpperEnvelope 113 = some hs_spec_anyGraphs := rfl
theorem c_spec_DrawUpperEnvelope (b : List Int) (hb : ∀ x ∈ b, 0 ≤ x ∧ x < 256) (hsz : b.length ≤ 1048576) : ICall Try.prog 42 [.sl 1 (encBy b)] (.sl 2 (encPs (drawGs b))) := by
  refine icall_V (G := g_spec_DrawUpperEnvelope) (H := h_spec_DrawUpperEnvelope) [] tabOK mixed gok_spec_DrawUpperEnvelope hok_spec_DrawUpperEnvelope Try.func42 rfl Try.ntmps42 Try.results42 rfl (by kernel_rfl) fun F hN hlen => ?_
  have hbt := bytes_take hb
  have hd : (aGraphs (b.take 2000) 0).1 = drawGs b := rfl
  simp only [V_seq, V_ret, V_region, W_nil, W_cons, effOp2, KN_seq, KXr_nil, QE, effOp, effPure, Option.isSome_some, skipE, pureV, ofC, strip, lkT, lkH, ISt.app, opI, gO, gB, allB, gval, wrapG, dstOK, setD, mentTm, mentHp, IV.ment, IV.mentL, lendV, lendP, lent, lentP, idsV, idsL, clean, callArgs, callFn, enumT, Gives, Ideal.Fin, conv, conv0, convL, IBlk.shape, Op.operands, reduceIte, reduceCtorEq, cond_true, cond_false, Bool.or_false, Bool.and_true, Bool.and_false, Bool.not_false, Nat.reduceAdd, Nat.reduceSub, Nat.reduceMul, Nat.reduceLT, Nat.reduceLeDiff, Nat.reduceEqDiff, Nat.reduceBEq, Nat.add_zero, Nat.zero_add, ne_eq, not_false_eq_true, beq_self_eq_true, true_and, and_true, and_false, and_self, false_implies, implies_true, List.map_cons, List.map_nil, List.nil_append, List.cons_append, List.append_nil, List.all_nil, Option.some.injEq, Option.map_some, Option.map_none, List.getD_cons_zero, List.drop_zero, ex_clo, or_self, Bool.true_eq_false, Bool.false_eq_true, hN, Int.toNat_natCast, isBy_enc, toBy_enc, SLe0, convTm, convHp, convB, sm, effH, mkHC0, mkHC1, lendM, lentM, lentI, allHere, addIds, idsB, flatIds, reach, posn, renV, renL, renB, renH, numB, subHp, fwd, bk, bwd, nones, keyOK, noSl, noSlL, flatBs, List.contains, List.elem, Option.isSome_some, Option.isSome_none, List.nodup_nil, List.nodup_cons, List.not_mem_nil, List.mem_cons, or_false, Option.getD_some, lh_spec_DrawUpperEnvelope_spec_newReader, lh_spec_DrawUpperEnvelope_spec_anyGraphs, hs_spec_newReader, hs_spec_anyGraphs, rdr, hsz, hbt, hd]
  exact ⟨List.take_length.symm, _, _, rfl, by rw [len_encPs]; exact Nat.le_refl _, (take_encPs _).symm⟩
def sp_spec_DrawUpperEnvelope : PSpec := ⟨fun xs => match xs with | [.sl 1 bes] => isBy bes ∧ ((fun (b : List Int) => ∀ x ∈ b, 0 ≤ x ∧ x < 256) (toIs bes)) ∧ ((fun (b : List Int) => b.length ≤ 1048576) (toIs bes)) | _ => False, fun xs => match xs with | [.sl _ bes] => (fun (b : List Int) => .sl 2 (encPs (drawGs b))) (toIs bes) | _ => .junk, false⟩
theorem gk_spec_DrawUpperEnvelope : ∀ args, sp_spec_DrawUpperEnvelope.pre args → ICall Try.prog 42 args (sp_spec_DrawUpperEnvelope.val args) := by
  intro args h
  unfold sp_spec_DrawUpperEnvelope at h ⊢; simp only at h ⊢; split at h
  · obtain ⟨h0, h1, h2⟩ := h
    obtain ⟨l0, rfl⟩ := isBy_ex h0
    simp only [toBy_enc] at *
    exact c_spec_DrawUpperEnvelope _ h1 h2
  · exact h.elim
theorem en_spec_DrawUpperEnvelope : Enters Try.prog 42 := enters_of Try.func42 (by kernel_rfl) rfl

def leEB (v g : Pt) : Bool := decide (v.1 < g.1) || (v.1 == g.1 && decide (g.2 ≤ v.2))
theorem leEB_iff {v g : Pt} : leEB v g = true ↔ leE v g := by
  simp only [leEB, leE, Bool.or_eq_true, Bool.and_eq_true, decide_eq_true_eq, beq_iff_eq]
/-- What the envelope is good for. -/
theorem env_facts {l : List Pt} (h : okGs l = true) {q : Pt} (hq : q ∈ l) : (∀ at' : Int, ∃ x ∈ envP l, x < l.length ∧ q.1 * at' - q.2 ≤ (pA l x).1 * at' - (pA l x).2) ∧ (∃ x ∈ envP l, x < l.length ∧ (pA l x).1 ≤ q.1) ∧ ∃ x ∈ envP l, x < l.length ∧ q.1 ≤ (pA l x).1 := by
  obtain ⟨h8, hok, hnd⟩ := okGs_facts h
  have hp := List.pairwise_mergeSort (le := leEB) (fun a b c h1 h2 => by
    rw [leEB_iff] at *; exact leE_trans h1 h2) (fun a b => by
    rcases Bool.eq_false_or_eq_true (leEB a b) with h | h
    · rw [h]; rfl
    · have : leEB b a = true := by
        rw [leEB_iff]
        have : ¬ leE a b := fun q => by rw [← leEB_iff, h] at q; cases q
        unfold leE at *; omega
      rw [this, Bool.or_true]) l
  have hE := env_fold (l.mergeSort leEB) [] [] env_nil (by simpa using List.Pairwise.imp (fun h => leEB_iff.1 h) hp)
  rw [List.nil_append] at hE
  have hm : ∀ v, v ∈ l.mergeSort leEB ↔ v ∈ l := fun v => (List.mergeSort_perm _ _).mem_iff
  have hT : ∀ v, TopIn (l.mergeSort leEB) v ↔ TopIn l v := fun v => by simp only [TopIn, hm]
  have hx : ∀ v ∈ (l.mergeSort leEB).foldl stepE [], ∃ x ∈ envP l, x < l.length ∧ pA l x = v := fun v hv => by
    have ht := (hT v).1 ((env_mem hE v).1 hv)
    obtain ⟨x, hx, rfl⟩ := mem_pA ht.1
    exact ⟨x, by rw [envP, srtN, (List.mergeSort_perm _ _).mem_iff, topN_mem]; exact ⟨hx, (top_iff ht.1).2 ht⟩, hx, rfl⟩
  have hq' := (hm q).2 hq
  refine ⟨fun t => ?_, ?_, ?_⟩
  · obtain ⟨v, hv, hl⟩ := env_sup hE t hq'
    obtain ⟨x, h1, h2, rfl⟩ := hx v hv
    exact ⟨x, h1, h2, hl⟩
  · obtain ⟨v, hv, hl⟩ := (env_low hE hq').1
    obtain ⟨x, h1, h2, rfl⟩ := hx v hv
    exact ⟨x, h1, h2, hl⟩
  · obtain ⟨v, hv, hl⟩ := (env_low hE hq').2
    obtain ⟨x, h1, h2, rfl⟩ := hx v hv
    exact ⟨x, h1, h2, hl⟩
theorem env_asc {l : List Pt} (h : okGs l = true) : (∀ x ∈ envP l, x < l.length) ∧ (envP l).Pairwise fun x y => (pA l x).1 < (pA l y).1 := by
  obtain ⟨h8, hok, hnd⟩ := okGs_facts h
  have hmm : ∀ x, x ∈ envP l → x < l.length ∧ topB l (pA l x) = true := fun x hx => topN_mem.1 ((List.mergeSort_perm _ _).mem_iff.1 hx)
  refine ⟨fun x hx => (hmm x hx).1, ?_⟩
  have hso : (envP l).Pairwise fun x y => keyN l x ≤ keyN l y := by
    have := List.pairwise_mergeSort (le := fun x y => decide (keyN l x ≤ keyN l y)) (fun a b c h1 h2 => by
      have := of_decide_eq_true h1; have := of_decide_eq_true h2; exact decide_eq_true (by omega)) (fun a b => by
      rcases Int.le_total (keyN l a) (keyN l b) with h | h <;> simp [h]) (topN l l.length)
    exact List.Pairwise.imp (fun h => of_decide_eq_true h) this
  have hndE : (envP l).Nodup := by
    rw [envP, srtN, (List.mergeSort_perm _ _).nodup_iff]
    exact List.Pairwise.filter _ List.nodup_range
  refine List.Pairwise.imp_of_mem ?_ (List.Pairwise.and hso hndE)
  intro a b ha hb h
  rcases Int.lt_or_eq_of_le h.1 with q | q
  · exact q
  · exact absurd (top_inj hnd (hmm a ha) (hmm b hb) q) h.2
theorem asc_at {l : List Pt} {E : List Nat} (hp : E.Pairwise fun x y => (pA l x).1 < (pA l y).1) {i j : Nat} (hij : i < j) (hj : j < E.length) : (pA l (nAt E i)).1 < (pA l (nAt E j)).1 := by
  rw [List.pairwise_iff_getElem] at hp
  have e1 : nAt E i = E[i]'(by omega) := by simp [nAt, List.getD, show i < E.length by omega]
  have e2 : nAt E j = E[j] := by simp [nAt, List.getD, hj]
  rw [e1, e2]
  exact hp i j (by omega) hj hij
theorem nat_mem {E : List Nat} {x : Nat} (h : x ∈ E) : ∃ i, i < E.length ∧ nAt E i = x := by
  obtain ⟨i, hi, rfl⟩ := List.mem_iff_getElem.1 h
  exact ⟨i, hi, by simp [nAt, List.getD, hi]⟩
theorem nAt_mem {E : List Nat} {i : Nat} (h : i < E.length) : nAt E i ∈ E := by
  have : nAt E i = E[i] := by simp [nAt, List.getD, h]
  rw [this]; exact List.getElem_mem h
abbrev iAt (l : List Int) (i : Nat) : Int := l.getD i 0
def g_laws_equalInts : List (Nat × PSpec) := []
theorem gok_laws_equalInts : GOK Try.prog g_laws_equalInts := gok0
def h_laws_equalInts : List (Nat × HSpec) := []
theorem hok_laws_equalInts : HOK Try.prog h_laws_equalInts := hok0
theorem c_laws_equalInts (a : List Int) (b : List Int)  : ICall Try.prog 43 [.sl 1 (encI a), .sl 1 (encI b)] (.bool (a == b)) := by
  refine icall_V (G := g_laws_equalInts) (H := []) [] tabOK mixed gok_laws_equalInts hok_laws_equalInts Try.func43 rfl Try.ntmps43 Try.results43 rfl (by kernel_rfl) fun F hN hlen => ?_
  have la := hlen 0 1 _ rfl
  have lb := hlen 1 1 _ rfl
  have ea := len_encI a
  have eb := len_encI b
  rw [ea] at la
  rw [eb] at lb
  simp only [V_seq, V_region, V_cond, W_nil, W_cons, effOp2, KN_seq, asB, effOp, effPure, pureV, binV, lenV, ofC, strip, lkT, ISt.app, opI, gO, gB, allB, gval, wrapG, dstOK, setD, enumT, Op.operands, Call.operands, List.append_toArray, reduceIte, reduceCtorEq, Nat.reduceLT, Nat.reduceEqDiff, Nat.zero_add, ne_eq, not_false_eq_true, true_and, and_self, implies_true, List.nil_append, List.cons_append, List.append_nil, tab50, hN, ea, eb]
  refine brW_some (fun h => ?_) (fun h => ?_)
  · simp only [V_seq, V_ret, V_region, W_nil, W_cons, effOp2, KN_seq, KXr_nil, KXr_seq, QE, effOp, effPure, pureV, ofC, strip, lkT, lkH, ISt.app, opI, gO, gB, allB, gval, wrapG, dstOK, setD, clean, Gives, Ideal.Fin, conv, conv0, Op.operands, reduceIte, reduceCtorEq, Nat.reduceLT, Nat.reduceEqDiff, true_and, and_true, and_self, implies_true, List.nil_append, List.cons_append, List.append_nil, hN]
    have : a ≠ b := by rintro rfl; simp at h
    simp [this]
  · simp only [V_seq, V_skip, V_block, V_region, W_nil, W_cons, effOp2, KN_seq, effOp, effPure, pureV, ofC, strip, ISt.app, opI, gO, gB, allB, gval, wrapG, dstOK, setD, Op.operands, Nat.reduceLT, true_and, and_self, implies_true, List.nil_append, List.cons_append, List.append_nil, hN]
    have hab : a.length = b.length := by simp at h; omega
    refine V_loop (α := Nat) ⟨tabOK, mixed, gok_laws_equalInts, hok_laws_equalInts⟩ (by kernel_rfl) (fun i => i ≤ a.length ∧ ∀ j, j < i → iAt a j = iAt b j) (fun i => ⟨[(5, .num .i64 i), (0, .sl 1 (encI a)), (1, .sl 1 (encI b))], []⟩) (fun i => a.length - i) 0 id (by simp) (by simp [SLe, SLe0, convTm, convHp, conv, conv0, lkT, lkH, clean]) ?_
    rintro i ⟨hi, hj⟩
    simp only [V_seq, V_region, V_cond, W_nil, W_cons, effOp2, KN_seq, asB, effOp, effPure, pureV, binV, lenV, strip, lkT, ISt.app, opI, gO, gB, allB, gval, wrapG, dstOK, setD, Op.operands, Call.operands, List.append_toArray, reduceIte, reduceCtorEq, Nat.reduceLT, Nat.reduceEqDiff, ne_eq, not_false_eq_true, true_and, and_self, implies_true, List.nil_append, List.cons_append, List.append_nil, tab50, hN, ea]
    refine brW_some (fun h => ?_) (fun h => ?_)
    · have hi' : i < a.length := by simpa using h
      have g1 := getD_encI hi'
      have g2 := getD_encI (hab ▸ hi' : i < b.length)
      have hw := wr_succ hi' la
      simp only [V_seq, V_skip, V_block, V_draw, V_cond, drawW, pairsOf, WD_nil, WD_cons, KN_seq, asB, effOp, effPure, pureV, binV, eltV, loadV, iaddrV, strip, lkT, ISt.app, opI, gO, gB, allB, gval, wrapG, dstOK, setD, Op.operands, reduceIte, reduceCtorEq, Nat.reduceLT, Nat.reduceEqDiff, ne_eq, not_false_eq_true, true_and, and_true, and_self, implies_true, forall_const, List.nil_append, List.cons_append, List.append_nil, tab3, tab50, hN, Int.toNat_natCast, ea, eb, Int.toNat_natCast, g1, g2]
      repeat refine And.intro (by omega) ?_
      refine brW_some (fun h => ?_) (fun h => ?_)
      · simp only [V_seq, V_ret, V_region, W_nil, W_cons, effOp2, KN_seq, KXr_nil, KXr_seq, KXr_block, KXr_back, QE, effOp, effPure, pureV, ofC, strip, lkT, lkH, ISt.app, opI, gO, gB, allB, gval, wrapG, dstOK, setD, clean, Gives, Ideal.Fin, conv, conv0, Op.operands, reduceIte, reduceCtorEq, Nat.reduceLT, Nat.reduceEqDiff, true_and, and_true, and_self, implies_true, List.nil_append, List.cons_append, List.append_nil, hN]
        have : a ≠ b := by rintro rfl; simp at h
        simp [this]
      · simp only [V_skip, V_region, W_nil, W_cons, effOp2, KN_seq, KN_block, KN_back, effOp, effPure, pureV, binV, ofC, strip, lkT, ISt.app, opI, gO, gB, allB, gval, wrapG, dstOK, setD, Op.operands, reduceIte, reduceCtorEq, Nat.reduceLT, Nat.reduceEqDiff, true_and, and_self, implies_true, List.nil_append, List.cons_append, List.append_nil, hN, hw]
        refine ⟨i + 1, id, ⟨by omega, ?_⟩, by simp only []; omega, by simp [SLe, SLe0, convTm, convHp, conv, conv0, lkT, lkH, clean]⟩
        intro j hj'
        rcases Nat.lt_succ_iff_lt_or_eq.1 hj' with h' | rfl
        · exact hj j h'
        · simpa using h
    · simp only [V_seq, V_ret, V_exit, V_region, W_nil, W_cons, effOp2, KN_seq, KXr_nil, KXe_nil, KXe_seq, KXe_block, KXe_back, QE, effOp, effPure, pureV, ofC, strip, lkT, lkH, ISt.app, opI, gO, gB, allB, gval, wrapG, dstOK, setD, clean, Gives, Ideal.Fin, conv, conv0, Op.operands, reduceIte, reduceCtorEq, Nat.reduceLT, Nat.reduceEqDiff, true_and, and_true, and_self, implies_true, List.nil_append, List.cons_append, List.append_nil, hN]
      have hie : i = a.length := by simp at h; omega
      have : a = b := eq_of_getD hab (fun j h' => hj j (by omega))
      simp [this]
def sp_laws_equalInts : PSpec := ⟨fun xs => match xs with | [.sl 1 aes, .sl 1 bes] => isIs aes ∧ isIs bes | _ => False, fun xs => match xs with | [.sl _ aes, .sl _ bes] => (fun (a : List Int) (b : List Int) => .bool (a == b)) (toIs aes) (toIs bes) | _ => .junk, false⟩
theorem gk_laws_equalInts : ∀ args, sp_laws_equalInts.pre args → ICall Try.prog 43 args (sp_laws_equalInts.val args) := by
  intro args h
  unfold sp_laws_equalInts at h ⊢; simp only at h ⊢; split at h
  · obtain ⟨h0, h1⟩ := h
    obtain ⟨l0, rfl⟩ := isI_ex h0
    obtain ⟨l1, rfl⟩ := isI_ex h1
    simp only [toIs_enc] at *
    exact c_laws_equalInts _ _ 
  · exact h.elim
theorem en_laws_equalInts : Enters Try.prog 43 := enters_of Try.func43 (by kernel_rfl) rfl

def g_laws_FnEnvelopeEnds : List (Nat × PSpec) := [(42, sp_spec_DrawUpperEnvelope), (36, sp_impl_UpperEnvelope), (34, sp_spec_UpperEnvelope), (43, sp_laws_equalInts)]
theorem gok_laws_FnEnvelopeEnds : GOK Try.prog g_laws_FnEnvelopeEnds := gok_cons gk_spec_DrawUpperEnvelope en_spec_DrawUpperEnvelope (gok_cons gk_impl_UpperEnvelope en_impl_UpperEnvelope (gok_cons gk_spec_UpperEnvelope en_spec_UpperEnvelope (gok_cons gk_laws_equalInts en_laws_equalInts (gok0))))
theorem lk_laws_FnEnvelopeEnds_spec_DrawUpperEnvelope : lkG g_laws_FnEnvelopeEnds 42 = sp_spec_DrawUpperEnvelope := rfl
theorem lk_laws_FnEnvelopeEnds_impl_UpperEnvelope : lkG g_laws_FnEnvelopeEnds 36 = sp_impl_UpperEnvelope := rfl
theorem lk_laws_FnEnvelopeEnds_spec_UpperEnvelope : lkG g_laws_FnEnvelopeEnds 34 = sp_spec_UpperEnvelope := rfl
theorem lk_laws_FnEnvelopeEnds_laws_equalInts : lkG g_laws_FnEnvelopeEnds 43 = sp_laws_equalInts := rfl
def h_laws_FnEnvelopeEnds : List (Nat × HSpec) := []
theorem hok_laws_FnEnvelopeEnds : HOK Try.prog h_laws_FnEnvelopeEnds := hok0
theorem c_laws_FnEnvelopeEnds (b : List Int) (hb : ∀ x ∈ b, 0 ≤ x ∧ x < 256) : ICall Try.prog 10 [.sl 1 (encBy b)] (.bool true) := by
  refine icall_V (G := g_laws_FnEnvelopeEnds) (H := []) [] tabOK mixed gok_laws_FnEnvelopeEnds hok_laws_FnEnvelopeEnds Try.func10 rfl Try.ntmps10 Try.results10 rfl (by kernel_rfl) fun F hN hlen => ?_
  have eb := len_encBy b
  have hself : ∀ x : List Int, (x == x) = true := fun x => by simp
  simp only [V_seq, V_region, V_cond, W_nil, W_cons, effOp2, KN_seq, asB, effOp, effPure, pureV, binV, lenV, ofC, strip, lkT, ISt.app, opI, gO, gB, allB, gval, wrapG, dstOK, setD, enumT, Op.operands, Call.operands, List.append_toArray, reduceIte, reduceCtorEq, Nat.reduceLT, Nat.reduceEqDiff, ne_eq, not_false_eq_true, true_and, and_self, implies_true, List.nil_append, List.cons_append, List.append_nil, tab22, hN, eb]
  refine brW_some (fun h => ?_) (fun h => ?_)
  · simp only [V_seq, V_ret, V_region, W_nil, W_cons, effOp2, KN_seq, KXr_nil, KXr_seq, QE, effOp, effPure, pureV, ofC, strip, lkT, lkH, ISt.app, opI, gO, gB, allB, gval, wrapG, dstOK, setD, clean, Gives, Ideal.Fin, conv, conv0, Op.operands, reduceIte, reduceCtorEq, Nat.reduceLT, Nat.reduceEqDiff, and_self, implies_true, List.nil_append, List.cons_append, List.append_nil, hN]
  · have hsz : b.length ≤ 1048576 := by simp at h; omega
    obtain ⟨l, hl⟩ : ∃ l, drawGs b = l := ⟨_, rfl⟩
    obtain ⟨I, hI⟩ : ∃ I, (envV l).map (fun n => ((n : Nat) : Int)) = I := ⟨_, rfl⟩
    have hEe : encN (envV l) = encI I := by rw [encN, hI]
    have eI := len_encI I
    rcases Nat.eq_zero_or_pos I.length with h0 | h0
    · have hn : I = [] := List.length_eq_zero_iff.1 h0
      subst hn
      have d0 : (((0 : Nat) : Int) == 0) = true := rfl
      simp only [V_seq, V_skip, V_ret, V_region, V_cond, brW_true, W_nil, W_cons, effOp2, KN_seq, KXr_nil, KXr_seq, QE, asB, effOp, effPure, effPick, effCall, giveUp, hasAll, pureV, pickV, binV, lenV, ofC, strip, lkT, lkH, ISt.app, opI, gO, gB, allB, gval, wrapG, dstOK, setD, lendV, lendP, lent, lentP, idsV, idsL, lkHS, flat, clean, callArgs, callFn, allLent, Gives, Ideal.Fin, conv, conv0, Op.operands, Call.operands, List.append_toArray, reduceIte, reduceCtorEq, cond_true, cond_false, Bool.or_false, Bool.not_true, Nat.reduceLT, Nat.reduceEqDiff, ne_eq, not_false_eq_true, beq_self_eq_true, true_and, and_true, and_self, implies_true, forall_const, List.map_cons, List.map_nil, List.nil_append, List.cons_append, List.append_nil, Option.bind_some, List.getElem?_cons_zero, List.getElem?_cons_succ, List.length_nil, ex_clo, or_true, or_self, Bool.false_eq_true, tab50, hN, isPs_enc, toPs_enc, isIs_enc, toIs_enc, isBy_enc, toBy_enc, lk_laws_FnEnvelopeEnds_spec_DrawUpperEnvelope, lk_laws_FnEnvelopeEnds_impl_UpperEnvelope, lk_laws_FnEnvelopeEnds_spec_UpperEnvelope, lk_laws_FnEnvelopeEnds_laws_equalInts, sp_spec_DrawUpperEnvelope, sp_impl_UpperEnvelope, sp_spec_UpperEnvelope, sp_laws_equalInts, hsz, hl, hEe, eI, List.length_nil, d0]
      exact hb
    · have hIl : I.length = (envV l).length := by rw [← hI, List.length_map]
      have hk : okGs l = true := by
        cases hc : okGs l with
        | true => rfl
        | false =>
          have : envV l = [] := by rw [envV, hc]; rfl
          rw [this] at hIl
          rw [hIl] at h0; cases h0
      have hcv : envV l = envP l := by rw [envV, hk]; rfl
      obtain ⟨h8, hok, hnd⟩ := okGs_facts hk
      obtain ⟨hlt, hasc⟩ := env_asc hk
      have hfa := @env_facts l hk
      have hEl8 := envP_len l
      rw [hcv] at hIl hI
      generalize envP l = E at *
      have hat : ∀ j, j < E.length → I.getD j 0 = ((nAt E j : Nat) : Int) := fun j hj => by rw [← hI]; simp [nAt, List.getD, hj]
      have d0 : ((I.length : Int) == 0) = false := by rw [beq_eq_false_iff_ne]; omega
      have el := len_encPs l
      have w1 : IntKind.i64.wrap ((I.length : Int) - 1) = ((I.length - 1 : Nat) : Int) := by
        rw [wr (by omega) (by omega)]; omega
      have x0 := hlt _ (nAt_mem (show 0 < E.length by omega))
      have x1 := hlt _ (nAt_mem (show I.length - 1 < E.length by omega))
      have g0 := getD_encI (l := I) (i := 0) h0
      rw [hat 0 (by omega)] at g0
      have g0' : (encI I).getD (Int.toNat 0) .junk = .num .i64 ((nAt E 0 : Nat) : Int) := g0
      have g1 := getD_encI (l := I) (i := I.length - 1) (by omega)
      rw [hat _ (by omega)] at g1
      have g2 := getD_encPs x0
      have g3 := getD_encPs x1
      have hlo : ∀ i, i < l.length → (pA l (nAt E 0)).1 ≤ (pA l i).1 := fun i hi => by
        obtain ⟨x, hx, _, hle⟩ := (hfa (pA_mem hi)).2.1
        obtain ⟨j, hj, rfl⟩ := nat_mem hx
        rcases Nat.eq_zero_or_pos j with c | c
        · subst c; exact hle
        · have := asc_at hasc c hj; omega
      have hhi : ∀ i, i < l.length → (pA l i).1 ≤ (pA l (nAt E (I.length - 1))).1 := fun i hi => by
        obtain ⟨x, hx, _, hle⟩ := (hfa (pA_mem hi)).2.2
        obtain ⟨j, hj, rfl⟩ := nat_mem hx
        rcases Nat.lt_or_ge j (I.length - 1) with c | c
        · have := asc_at hasc c (by omega); omega
        · rw [show j = I.length - 1 by omega] at hle; exact hle
      have hp1 : pAt l (nAt E 0) = pA l (nAt E 0) := rfl
      have hp2 : pAt l (nAt E (I.length - 1)) = pA l (nAt E (I.length - 1)) := rfl
      rw [hp1] at g2
      rw [hp2] at g3
      obtain ⟨A, hA⟩ : ∃ A, pA l (nAt E 0) = A := ⟨_, rfl⟩
      obtain ⟨Z, hZ⟩ : ∃ Z, pA l (nAt E (I.length - 1)) = Z := ⟨_, rfl⟩
      rw [hA] at g2 hlo
      rw [hZ] at g3 hhi
      obtain ⟨n0, hn0⟩ : ∃ n, nAt E 0 = n := ⟨_, rfl⟩
      obtain ⟨n1, hn1⟩ : ∃ n, nAt E (I.length - 1) = n := ⟨_, rfl⟩
      rw [hn0] at g0 g0' g2 x0
      rw [hn1] at g1 g3 x1
      simp only [V_seq, V_skip, V_block, V_region, V_cond, brW_false, W_nil, W_cons, effOp2, KN_seq, asB, effOp, effPure, effPick, effCall, giveUp, hasAll, pureV, pickV, binV, lenV, ofC, strip, lkT, lkH, ISt.app, opI, gO, gB, allB, gval, wrapG, dstOK, setD, lendV, lendP, lent, lentP, idsV, idsL, lkHS, flat, clean, callArgs, callFn, allLent, Op.operands, Call.operands, List.append_toArray, reduceIte, reduceCtorEq, cond_true, cond_false, Bool.or_false, Bool.not_true, Nat.reduceLT, Nat.reduceEqDiff, ne_eq, not_false_eq_true, beq_self_eq_true, true_and, and_true, and_self, implies_true, forall_const, List.map_cons, List.map_nil, List.nil_append, List.cons_append, List.append_nil, Option.bind_some, List.getElem?_cons_zero, List.getElem?_cons_succ, ex_clo, or_true, or_self, Bool.false_eq_true, tab50, hN, isPs_enc, toPs_enc, isIs_enc, toIs_enc, isBy_enc, toBy_enc, lk_laws_FnEnvelopeEnds_spec_DrawUpperEnvelope, lk_laws_FnEnvelopeEnds_impl_UpperEnvelope, lk_laws_FnEnvelopeEnds_spec_UpperEnvelope, lk_laws_FnEnvelopeEnds_laws_equalInts, sp_spec_DrawUpperEnvelope, sp_impl_UpperEnvelope, sp_spec_UpperEnvelope, sp_laws_equalInts, hsz, hl, hEe, eI, d0]
      refine ⟨hb, ?_⟩
      refine V_loop (α := Nat) ⟨tabOK, mixed, gok_laws_FnEnvelopeEnds, hok_laws_FnEnvelopeEnds⟩ (by kernel_rfl) (fun i => i ≤ l.length) (fun i => ⟨[(5, .num .i64 i), (4, .sl 1 (encI I)), (3, .sl 2 (encPs l))], []⟩) (fun i => l.length - i) 0 id (Nat.zero_le _) (by simp [SLe, SLe0, convTm, convHp, conv, conv0, lkT, lkH, clean]) ?_
      intro i hi
      simp only [V_seq, V_region, V_cond, W_nil, W_cons, effOp2, KN_seq, asB, effOp, effPure, pureV, binV, lenV, strip, lkT, ISt.app, opI, gO, gB, allB, gval, wrapG, dstOK, setD, Op.operands, Call.operands, List.append_toArray, reduceIte, reduceCtorEq, Nat.reduceLT, Nat.reduceEqDiff, ne_eq, not_false_eq_true, true_and, and_self, implies_true, List.nil_append, List.cons_append, List.append_nil, tab57, hN, el]
      refine brW_some (fun h => ?_) (fun h => ?_)
      · have hi' : i < l.length := by simpa using h
        have g4 := getD_encPs hi'
        have hw := wr_succ hi' (by rw [maxLen_eq]; omega)
        have q1 := hlo i hi'
        have q2 := hhi i hi'
        have hp3 : pAt l i = pA l i := rfl
        rw [hp3] at g4
        generalize pA l i = P at *
        have c1 : decide (P.1 < A.1) = false := by simp only [decide_eq_false_iff_not]; omega
        have c2 : decide (Z.1 < P.1) = false := by simp only [decide_eq_false_iff_not]; omega
        simp only [V_seq, V_skip, V_block, V_region, V_draw, V_cond, brW_false, drawW, pairsOf, W_nil, W_cons, WD_nil, WD_cons, effOp2, KN_seq, KN_block, KN_back, asB, effOp, effPure, effPick, pureV, pickV, binV, partV, eltV, loadV, faddrV, iaddrV, lenV, ofC, strip, lkT, ISt.app, opI, gO, gB, allB, gval, wrapG, dstOK, setD, Op.operands, Call.operands, List.append_toArray, reduceIte, reduceCtorEq, cond_false, Nat.reduceAdd, Nat.reduceLT, Nat.reduceLeDiff, Nat.reduceEqDiff, Nat.add_zero, Nat.zero_add, ne_eq, not_false_eq_true, beq_self_eq_true, true_and, and_true, and_false, and_self, implies_true, forall_const, List.nil_append, List.cons_append, List.append_nil, Option.bind_some, List.getElem?_cons_zero, List.getElem?_cons_succ, List.getD_cons_zero, List.length_cons, List.length_nil, List.take_succ_cons, List.take_zero, List.drop_zero, Bool.false_eq_true, tab3, tab50, tab57, tab66, hN, Int.toNat_natCast, el, eI, g0', g1, g2, g3, g4, w1, hw, c1, c2]
        repeat refine And.intro (by first | omega | (simp; done) | (simp; omega)) ?_
        exact ⟨i + 1, id, by simp only []; omega, by simp only []; omega, by simp [SLe, SLe0, convTm, convHp, conv, conv0, lkT, lkH, clean]⟩
      · simp only [V_seq, V_ret, V_exit, V_region, W_nil, W_cons, effOp2, KN_seq, KXr_nil, KXe_nil, KXe_seq, KXe_block, KXe_back, QE, effOp, effPure, pureV, ofC, strip, lkT, lkH, ISt.app, opI, gO, gB, allB, gval, wrapG, dstOK, setD, clean, Gives, Ideal.Fin, conv, conv0, Op.operands, reduceIte, Nat.reduceLT, Nat.reduceEqDiff, and_self, implies_true, List.nil_append, List.cons_append, List.append_nil, hN]
def sp_laws_FnEnvelopeEnds : PSpec := ⟨fun xs => match xs with | [.sl 1 bes] => isBy bes ∧ ((fun (b : List Int) => ∀ x ∈ b, 0 ≤ x ∧ x < 256) (toIs bes)) | _ => False, fun xs => match xs with | [.sl _ bes] => (fun (b : List Int) => .bool true) (toIs bes) | _ => .junk, false⟩
theorem gk_laws_FnEnvelopeEnds : ∀ args, sp_laws_FnEnvelopeEnds.pre args → ICall Try.prog 10 args (sp_laws_FnEnvelopeEnds.val args) := by
  intro args h
  unfold sp_laws_FnEnvelopeEnds at h ⊢; simp only at h ⊢; split at h
  · obtain ⟨h0, h1⟩ := h
    obtain ⟨l0, rfl⟩ := isBy_ex h0
    simp only [toBy_enc] at *
    exact c_laws_FnEnvelopeEnds _ h1
  · exact h.elim
theorem en_laws_FnEnvelopeEnds : Enters Try.prog 10 := enters_of Try.func10 (by kernel_rfl) rfl

/-- The height of a graph at a place; the greatest of the first ones. -/
def hgt (l : List Pt) (E : List Nat) (t : Int) (j : Nat) : Int := (pA l (nAt E j)).1 * t - (pA l (nAt E j)).2
def bestH (l : List Pt) (E : List Nat) (t : Int) : Nat → Int
  | 0 => hgt l E t 0
  | n + 1 => max (bestH l E t n) (hgt l E t (n + 1))
theorem bestH_ge (l : List Pt) (E : List Nat) (t : Int) : ∀ n j, j ≤ n → hgt l E t j ≤ bestH l E t n
  | 0, j, h => by rw [show j = 0 by omega]; exact Int.le_refl _
  | n + 1, j, h => by
    rw [bestH]
    rcases Nat.lt_or_ge j (n + 1) with c | c
    · have := bestH_ge l E t n j (by omega); omega
    · rw [show j = n + 1 by omega]; omega
theorem bestH_bd {l : List Pt} {E : List Nat} {t : Int} (hin : ∀ j, j < E.length → -100000 ≤ hgt l E t j ∧ hgt l E t j ≤ 100000) : ∀ n, n < E.length → -100000 ≤ bestH l E t n ∧ bestH l E t n ≤ 100000
  | 0, h => hin 0 h
  | n + 1, h => by
    have h1 := bestH_bd hin n (by omega)
    have h2 := hin (n + 1) h
    rw [bestH]; omega
def g_laws_FnUpperEnvelope : List (Nat × PSpec) := [(42, sp_spec_DrawUpperEnvelope), (36, sp_impl_UpperEnvelope), (34, sp_spec_UpperEnvelope), (43, sp_laws_equalInts)]
theorem gok_laws_FnUpperEnvelope : GOK Try.prog g_laws_FnUpperEnvelope := gok_cons gk_spec_DrawUpperEnvelope en_spec_DrawUpperEnvelope (gok_cons gk_impl_UpperEnvelope en_impl_UpperEnvelope (gok_cons gk_spec_UpperEnvelope en_spec_UpperEnvelope (gok_cons gk_laws_equalInts en_laws_equalInts (gok0))))
theorem lk_laws_FnUpperEnvelope_spec_DrawUpperEnvelope : lkG g_laws_FnUpperEnvelope 42 = sp_spec_DrawUpperEnvelope := rfl
theorem lk_laws_FnUpperEnvelope_impl_UpperEnvelope : lkG g_laws_FnUpperEnvelope 36 = sp_impl_UpperEnvelope := rfl
theorem lk_laws_FnUpperEnvelope_spec_UpperEnvelope : lkG g_laws_FnUpperEnvelope 34 = sp_spec_UpperEnvelope := rfl
theorem lk_laws_FnUpperEnvelope_laws_equalInts : lkG g_laws_FnUpperEnvelope 43 = sp_laws_equalInts := rfl
def h_laws_FnUpperEnvelope : List (Nat × HSpec) := []
theorem hok_laws_FnUpperEnvelope : HOK Try.prog h_laws_FnUpperEnvelope := hok0
theorem c_laws_FnUpperEnvelope (b : List Int) (c : List Int) (hb : ∀ x ∈ b, 0 ≤ x ∧ x < 256) (hc : ∀ x ∈ c, 0 ≤ x ∧ x < 256) : ICall Try.prog 9 [.sl 1 (encBy b), .sl 1 (encBy c)] (.bool true) := by
  refine icall_V (G := g_laws_FnUpperEnvelope) (H := []) [] tabOK mixed gok_laws_FnUpperEnvelope hok_laws_FnUpperEnvelope Try.func9 rfl Try.ntmps9 Try.results9 rfl (by kernel_rfl) fun F hN hlen => ?_
  have eb := len_encBy b
  have ec := len_encBy c
  have hself : ∀ x : List Int, (x == x) = true := fun x => by simp
  cases d1 : decide (1048576 < (b.length : Int)) with
  | true =>
    simp only [V_seq, V_ret, V_region, V_cond, brW_true, W_nil, W_cons, effOp2, KN_seq, KXr_nil, KXr_seq, QE, asB, effOp, effPure, effPick, pureV, pickV, binV, lenV, ofC, strip, lkT, lkH, ISt.app, opI, gO, gB, allB, gval, wrapG, dstOK, setD, clean, enumT, Gives, Ideal.Fin, conv, conv0, Op.operands, Call.operands, List.append_toArray, reduceIte, reduceCtorEq, cond_true, Nat.reduceLT, Nat.reduceEqDiff, Nat.zero_add, ne_eq, not_false_eq_true, and_true, and_self, false_implies, implies_true, List.nil_append, List.cons_append, List.append_nil, Option.bind_some, List.getElem?_cons_zero, List.getElem?_cons_succ, btf, Bool.true_eq_false, Bool.false_eq_true, tab22, hN, eb, d1]
  | false =>
    cases d2 : decide (1048576 < (c.length : Int)) with
    | true => simp only [V_seq, V_ret, V_region, V_cond, brW_true, W_nil, W_cons, effOp2, KN_seq, KXr_nil, KXr_seq, QE, asB, effOp, effPure, effPick, pureV, pickV, binV, lenV, ofC, strip, lkT, lkH, ISt.app, opI, gO, gB, allB, gval, wrapG, dstOK, setD, clean, enumT, Gives, Ideal.Fin, conv, conv0, Op.operands, Call.operands, List.append_toArray, reduceIte, reduceCtorEq, cond_false, Nat.reduceLT, Nat.reduceEqDiff, Nat.zero_add, ne_eq, not_false_eq_true, beq_self_eq_true, and_self, implies_true, List.nil_append, List.cons_append, List.append_nil, Option.bind_some, List.getElem?_cons_zero, List.getElem?_cons_succ, Bool.false_eq_true, tab22, hN, eb, ec, d1, d2]
    | false =>
      have hsz : b.length ≤ 1048576 := by simp at d1; omega
      have hsc : c.length ≤ 1048576 := by simp at d2; omega
      obtain ⟨l, hl⟩ : ∃ l, drawGs b = l := ⟨_, rfl⟩
      obtain ⟨I, hI⟩ : ∃ I, (envV l).map (fun n => ((n : Nat) : Int)) = I := ⟨_, rfl⟩
      have hEe : encN (envV l) = encI I := by rw [encN, hI]
      have eI := len_encI I
      rcases Nat.eq_zero_or_pos I.length with h0 | h0
      · have hn : I = [] := List.length_eq_zero_iff.1 h0
        subst hn
        have d0 : (((0 : Nat) : Int) == 0) = true := rfl
        simp only [V_seq, V_skip, V_ret, V_region, V_cond, brW_true, brW_false, W_nil, W_cons, effOp2, KN_seq, KXr_nil, KXr_seq, QE, asB, effOp, effPure, effPick, effCall, giveUp, hasAll, pureV, pickV, binV, lenV, ofC, strip, lkT, lkH, ISt.app, opI, gO, gB, allB, gval, wrapG, dstOK, setD, lendV, lendP, lent, lentP, idsV, idsL, lkHS, flat, clean, callArgs, callFn, allLent, enumT, Gives, Ideal.Fin, conv, conv0, Op.operands, Call.operands, List.append_toArray, reduceIte, reduceCtorEq, cond_true, cond_false, Bool.or_false, Bool.not_true, Nat.reduceLT, Nat.reduceEqDiff, Nat.zero_add, ne_eq, not_false_eq_true, beq_self_eq_true, true_and, and_true, and_self, implies_true, forall_const, List.map_cons, List.map_nil, List.nil_append, List.cons_append, List.append_nil, Option.bind_some, List.getElem?_cons_zero, List.getElem?_cons_succ, List.length_nil, ex_clo, or_true, or_self, Bool.false_eq_true, tab22, tab50, hN, isPs_enc, toPs_enc, isIs_enc, toIs_enc, isBy_enc, toBy_enc, lk_laws_FnUpperEnvelope_spec_DrawUpperEnvelope, lk_laws_FnUpperEnvelope_impl_UpperEnvelope, lk_laws_FnUpperEnvelope_spec_UpperEnvelope, lk_laws_FnUpperEnvelope_laws_equalInts, sp_spec_DrawUpperEnvelope, sp_impl_UpperEnvelope, sp_spec_UpperEnvelope, sp_laws_equalInts, eb, ec, d1, d2, hsz, hl, hEe, eI, List.length_nil, d0]
        exact hb
      · have hIl : I.length = (envV l).length := by rw [← hI, List.length_map]
        have hk : okGs l = true := by
          cases hc : okGs l with
          | true => rfl
          | false =>
            have : envV l = [] := by rw [envV, hc]; rfl
            rw [this] at hIl
            rw [hIl] at h0; cases h0
        have hcv : envV l = envP l := by rw [envV, hk]; rfl
        obtain ⟨h8, hok, hnd⟩ := okGs_facts hk
        obtain ⟨hlt, hasc⟩ := env_asc hk
        have hfa := @env_facts l hk
        have hEl8 := envP_len l
        rw [hcv] at hIl hI
        generalize envP l = E at *
        have hat : ∀ j, j < E.length → I.getD j 0 = ((nAt E j : Nat) : Int) := fun j hj => by rw [← hI]; simp [nAt, List.getD, hj]
        have d0 : ((I.length : Int) == 0) = false := by rw [beq_eq_false_iff_ne]; omega
        have el := len_encPs l
        have t2 : (c.length : Int).tmod 60 = ((c.length % 60 : Nat) : Int) := by rw [Int.tmod_eq_emod_of_nonneg (by omega)]; simp
        obtain ⟨t, ht⟩ : ∃ t : Int, ((c.length % 60 : Nat) : Int) - 30 = t := ⟨_, rfl⟩
        have wt : IntKind.i64.wrap (((c.length % 60 : Nat) : Int) - 30) = t := by rw [← ht]; exact wr (by omega) (by omega)
        have htb : -30 ≤ t ∧ t ≤ 30 := by omega
        have hpb : ∀ i, i < l.length → (-30000 ≤ (pA l i).1 * t ∧ (pA l i).1 * t ≤ 30000) ∧ (-1000 ≤ (pA l i).2 ∧ (pA l i).2 ≤ 1000) := fun i hi => by
          have h1 := okP_in1 (hok _ (pA_mem hi))
          unfold in1 at h1
          exact ⟨mulB (A := 1000) (B := 30) h1.1 htb, h1.2⟩
        have hhb : ∀ j, j < E.length → -100000 ≤ hgt l E t j ∧ hgt l E t j ≤ 100000 := fun j hj => by
          have := hpb _ (hlt _ (nAt_mem hj))
          unfold hgt; omega
        have x0 := hlt _ (nAt_mem (show 0 < E.length by omega))
        have g0 := getD_encI (l := I) (i := 0) h0
        rw [hat 0 (by omega)] at g0
        have g0' : (encI I).getD (Int.toNat 0) .junk = .num .i64 ((nAt E 0 : Nat) : Int) := g0
        have g2 := getD_encPs x0
        have hp1 : pAt l (nAt E 0) = pA l (nAt E 0) := rfl
        rw [hp1] at g2
        have w0 : IntKind.i64.wrap ((pA l (nAt E 0)).1 * t) = (pA l (nAt E 0)).1 * t := by have := hpb _ x0; exact wr (by omega) (by omega)
        have w0' : IntKind.i64.wrap ((pA l (nAt E 0)).1 * t - (pA l (nAt E 0)).2) = bestH l E t 0 := by have := hpb _ x0; exact wr (by omega) (by omega)
        simp only [V_seq, V_skip, V_block, V_region, V_draw, V_cond, brW_false, drawW, pairsOf, W_nil, W_cons, WD_nil, WD_cons, effOp2, KN_seq, asB, effOp, effPure, effPick, effCall, giveUp, hasAll, pureV, pickV, binV, partV, eltV, loadV, faddrV, iaddrV, lenV, ofC, strip, lkT, lkH, ISt.app, opI, gO, gB, allB, gval, wrapG, dstOK, setD, lendV, lendP, lent, lentP, idsV, idsL, lkHS, flat, clean, callArgs, callFn, allLent, enumT, Op.operands, Call.operands, List.append_toArray, reduceIte, reduceCtorEq, cond_true, cond_false, Bool.or_false, Bool.not_true, Nat.reduceAdd, Nat.reduceLT, Nat.reduceLeDiff, Nat.reduceEqDiff, Nat.add_zero, Nat.zero_add, ne_eq, not_false_eq_true, beq_self_eq_true, true_and, and_true, and_false, and_self, implies_true, forall_const, List.map_cons, List.map_nil, List.nil_append, List.cons_append, List.append_nil, Option.bind_some, List.getElem?_cons_zero, List.getElem?_cons_succ, List.getD_cons_zero, List.getD_cons_succ, List.length_cons, List.length_nil, List.take_succ_cons, List.take_zero, List.take_nil, List.drop_succ_cons, List.drop_zero, ex_clo, or_true, or_self, Bool.false_eq_true, tab3, tab22, tab50, tab57, tab66, hN, Int.toNat_natCast, isPs_enc, toPs_enc, isIs_enc, toIs_enc, isBy_enc, toBy_enc, lk_laws_FnUpperEnvelope_spec_DrawUpperEnvelope, lk_laws_FnUpperEnvelope_impl_UpperEnvelope, lk_laws_FnUpperEnvelope_spec_UpperEnvelope, lk_laws_FnUpperEnvelope_laws_equalInts, sp_spec_DrawUpperEnvelope, sp_impl_UpperEnvelope, sp_spec_UpperEnvelope, sp_laws_equalInts, eb, ec, d1, d2, hsz, hl, hEe, eI, d0, t2, wt, g0', g2, w0, w0', el]
        refine ⟨hb, ?_⟩
        repeat refine And.intro (by first | omega | (simp; done) | (simp; omega)) ?_
        refine V_loop (α := Nat) ⟨tabOK, mixed, gok_laws_FnUpperEnvelope, hok_laws_FnUpperEnvelope⟩ (by kernel_rfl) (fun i => i < I.length) (fun i => ⟨[(9, .num .i64 ((i + 1 : Nat) : Int)), (8, .num .i64 (bestH l E t i)), (7, .num .i64 t), (6, .sl 1 (encI I)), (5, .sl 2 (encPs l))], []⟩) (fun i => I.length - i) 0 id h0 (by simp [SLe, SLe0, convTm, convHp, conv, conv0, lkT, lkH, clean]) ?_
        intro i hi
        simp only [V_seq, V_region, V_cond, W_nil, W_cons, effOp2, KN_seq, asB, effOp, effPure, pureV, binV, lenV, strip, lkT, ISt.app, opI, gO, gB, allB, gval, wrapG, dstOK, setD, Op.operands, Call.operands, List.append_toArray, reduceIte, reduceCtorEq, Nat.reduceLT, Nat.reduceEqDiff, ne_eq, not_false_eq_true, true_and, and_self, implies_true, List.nil_append, List.cons_append, List.append_nil, tab50, hN, eI]
        refine brW_some (fun h => ?_) (fun h => ?_)
        · have hi' : i + 1 < I.length := by simp at h; omega
          have hw : IntKind.i64.wrap (((i + 1 : Nat) : Int) + 1) = ((i + 1 + 1 : Nat) : Int) := by rw [wr (by omega) (by omega)]; omega
          have w1 : IntKind.i64.wrap (((i + 1 : Nat) : Int) - 1) = ((i : Nat) : Int) := by rw [wr (by omega) (by omega)]; omega
          have x1 := hlt _ (nAt_mem (show i < E.length by omega))
          have x2 := hlt _ (nAt_mem (show i + 1 < E.length by omega))
          have k1 := getD_encI (l := I) (i := i) (by omega)
          rw [hat i (by omega)] at k1
          have k2 := getD_encI (l := I) (i := i + 1) (by omega)
          rw [hat (i + 1) (by omega)] at k2
          have k3 := getD_encPs x1
          have k4 := getD_encPs x2
          have hp3 : pAt l (nAt E i) = pA l (nAt E i) := rfl
          have hp4 : pAt l (nAt E (i + 1)) = pA l (nAt E (i + 1)) := rfl
          rw [hp3] at k3
          rw [hp4] at k4
          have hac := asc_at hasc (show i < i + 1 by omega) (by omega)
          have hbs := hpb _ x2
          have hbb := bestH_bd hhb i (by omega)
          have hst : max (bestH l E t i) ((pA l (nAt E (i + 1))).1 * t - (pA l (nAt E (i + 1))).2) = bestH l E t (i + 1) := rfl
          generalize pA l (nAt E i) = A at *
          generalize pA l (nAt E (i + 1)) = B at *
          generalize nAt E i = n0 at *
          generalize nAt E (i + 1) = n1 at *
          have w2 : IntKind.i64.wrap (B.1 * t) = B.1 * t := wr (by omega) (by omega)
          have w3 : IntKind.i64.wrap (B.1 * t - B.2) = B.1 * t - B.2 := wr (by omega) (by omega)
          have c1 : decide (B.1 ≤ A.1) = false := by simp only [decide_eq_false_iff_not]; omega
          simp only [V_seq, V_skip, V_block, V_region, V_draw, V_cond, brW_false, drawW, pairsOf, W_nil, W_cons, WD_nil, WD_cons, effOp2, KN_seq, KN_block, KN_back, asB, effOp, effPure, pureV, binV, partV, eltV, loadV, faddrV, iaddrV, ofC, strip, lkT, ISt.app, opI, gO, gB, allB, gval, wrapG, dstOK, setD, Op.operands, Call.operands, List.append_toArray, reduceIte, reduceCtorEq, Nat.reduceAdd, Nat.reduceLT, Nat.reduceLeDiff, Nat.reduceEqDiff, Nat.add_zero, Nat.zero_add, ne_eq, not_false_eq_true, true_and, and_true, and_false, and_self, implies_true, forall_const, List.nil_append, List.cons_append, List.append_nil, List.getD_cons_zero, List.getD_cons_succ, List.length_cons, List.length_nil, List.take_succ_cons, List.take_zero, List.take_nil, List.drop_succ_cons, List.drop_zero, tab3, tab50, tab57, tab66, hN, Int.toNat_natCast, el, eI, k1, k2, k3, k4, hw, w1, w2, w3, c1, hst]
          repeat refine And.intro (by first | omega | (simp; done) | (simp; omega)) ?_
          exact ⟨i + 1, id, by simp only []; omega, by simp only []; omega, by simp [SLe, SLe0, convTm, convHp, conv, conv0, lkT, lkH, clean]⟩
        · have hie : i + 1 = I.length := by simp at h; omega
          have hge : ∀ j, j < l.length → (pA l j).1 * t - (pA l j).2 ≤ bestH l E t i := fun j hj => by
            obtain ⟨x, hx, _, hle⟩ := (hfa (pA_mem hj)).1 t
            obtain ⟨k, hk, rfl⟩ := nat_mem hx
            have := bestH_ge l E t i k (by omega)
            unfold hgt at this; omega
          simp only [V_seq, V_exit, V_block, V_region, W_nil, W_cons, effOp2, KN_seq, KXe_nil, KXe_seq, KXe_block, KXe_back, QE, effOp, effPure, pureV, ofC, strip, ISt.app, opI, gO, gB, allB, gval, wrapG, dstOK, setD, Ideal.Fin, Op.operands, reduceIte, Nat.reduceLT, true_and, and_self, implies_true, List.nil_append, List.cons_append, List.append_nil, hN]
          refine V_loop (α := Nat) ⟨tabOK, mixed, gok_laws_FnUpperEnvelope, hok_laws_FnUpperEnvelope⟩ (by kernel_rfl) (fun j => j ≤ l.length) (fun j => ⟨[(10, .num .i64 j), (8, .num .i64 (bestH l E t i)), (7, .num .i64 t), (5, .sl 2 (encPs l))], []⟩) (fun j => l.length - j) 0 id (Nat.zero_le _) (by simp [SLe, SLe0, convTm, convHp, conv, conv0, lkT, lkH, clean]) ?_
          intro j hj
          simp only [V_seq, V_region, V_cond, W_nil, W_cons, effOp2, KN_seq, asB, effOp, effPure, pureV, binV, lenV, strip, lkT, ISt.app, opI, gO, gB, allB, gval, wrapG, dstOK, setD, Op.operands, Call.operands, List.append_toArray, reduceIte, reduceCtorEq, Nat.reduceLT, Nat.reduceEqDiff, ne_eq, not_false_eq_true, true_and, and_self, implies_true, List.nil_append, List.cons_append, List.append_nil, tab57, hN, el]
          refine brW_some (fun h => ?_) (fun h => ?_)
          · have hj' : j < l.length := by simpa using h
            have g4 := getD_encPs hj'
            have hw := wr_succ hj' (by rw [maxLen_eq]; omega)
            have hg := hge j hj'
            have hbs := hpb _ hj'
            have hp3 : pAt l j = pA l j := rfl
            rw [hp3] at g4
            generalize pA l j = P at *
            have w2 : IntKind.i64.wrap (P.1 * t) = P.1 * t := wr (by omega) (by omega)
            have w3 : IntKind.i64.wrap (P.1 * t - P.2) = P.1 * t - P.2 := wr (by omega) (by omega)
            have c1 : decide (bestH l E t i < P.1 * t - P.2) = false := by simp only [decide_eq_false_iff_not]; omega
            simp only [V_seq, V_skip, V_block, V_region, V_draw, V_cond, brW_false, drawW, pairsOf, W_nil, W_cons, WD_nil, WD_cons, effOp2, KN_seq, KN_block, KN_back, asB, effOp, effPure, pureV, binV, partV, eltV, loadV, faddrV, iaddrV, ofC, strip, lkT, ISt.app, opI, gO, gB, allB, gval, wrapG, dstOK, setD, Op.operands, reduceIte, reduceCtorEq, Nat.reduceAdd, Nat.reduceLT, Nat.reduceLeDiff, Nat.reduceEqDiff, Nat.add_zero, Nat.zero_add, ne_eq, not_false_eq_true, true_and, and_true, and_false, and_self, implies_true, forall_const, List.nil_append, List.cons_append, List.append_nil, List.getD_cons_zero, List.getD_cons_succ, List.length_cons, List.length_nil, List.take_succ_cons, List.take_zero, List.take_nil, List.drop_succ_cons, List.drop_zero, tab3, tab57, tab66, hN, Int.toNat_natCast, el, g4, hw, w2, w3, c1]
            repeat refine And.intro (by first | omega | (simp; done) | (simp; omega)) ?_
            exact ⟨j + 1, id, by simp only []; omega, by simp only []; omega, by simp [SLe, SLe0, convTm, convHp, conv, conv0, lkT, lkH, clean]⟩
          · simp only [V_seq, V_ret, V_exit, V_region, W_nil, W_cons, effOp2, KN_seq, KXr_nil, KXe_nil, KXe_seq, KXe_block, KXe_back, QE, effOp, effPure, pureV, ofC, strip, lkT, lkH, ISt.app, opI, gO, gB, allB, gval, wrapG, dstOK, setD, clean, Gives, Ideal.Fin, conv, conv0, Op.operands, reduceIte, Nat.reduceLT, Nat.reduceEqDiff, and_self, implies_true, List.nil_append, List.cons_append, List.append_nil, hN]
def sp_laws_FnUpperEnvelope : PSpec := ⟨fun xs => match xs with | [.sl 1 bes, .sl 1 ces] => isBy bes ∧ isBy ces ∧ ((fun (b : List Int) (c : List Int) => ∀ x ∈ b, 0 ≤ x ∧ x < 256) (toIs bes) (toIs ces)) ∧ ((fun (b : List Int) (c : List Int) => ∀ x ∈ c, 0 ≤ x ∧ x < 256) (toIs bes) (toIs ces)) | _ => False, fun xs => match xs with | [.sl _ bes, .sl _ ces] => (fun (b : List Int) (c : List Int) => .bool true) (toIs bes) (toIs ces) | _ => .junk, false⟩
theorem gk_laws_FnUpperEnvelope : ∀ args, sp_laws_FnUpperEnvelope.pre args → ICall Try.prog 9 args (sp_laws_FnUpperEnvelope.val args) := by
  intro args h
  unfold sp_laws_FnUpperEnvelope at h ⊢; simp only at h ⊢; split at h
  · obtain ⟨h0, h1, h2, h3⟩ := h
    obtain ⟨l0, rfl⟩ := isBy_ex h0
    obtain ⟨l1, rfl⟩ := isBy_ex h1
    simp only [toBy_enc] at *
    exact c_laws_FnUpperEnvelope _ _ h2 h3
  · exact h.elim
theorem en_laws_FnUpperEnvelope : Enters Try.prog 9 := enters_of Try.func9 (by kernel_rfl) rfl

end Go.Proofs.Ytjlcbomigbolcaa
