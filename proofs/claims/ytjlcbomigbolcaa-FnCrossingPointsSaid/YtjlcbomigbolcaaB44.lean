/- Contracts: drawn segments; the law on crossing points: the walk. -/
import Derived.Test.YtjlcbomigbolcaaB35
import Derived.Test.YtjlcbomigbolcaaBO
import Derived.Test.YtjlcbomigbolcaaPl21
set_option linter.unusedVariables false
set_option linter.unusedSimpArgs false
set_option maxHeartbeats 1600000
set_option maxRecDepth 100000
namespace Go.Proofs.Ytjlcbomigbolcaa
open Go Go.Ideal Go.Pl Go.Sort

theorem aPoint_le (b : List Int) (p : Nat) : (aPoint b p).2 ≤ p + 4 := by
  unfold aPoint; split
  · simp
  · split <;> simp
def aSeg (b : List Int) (p : Nat) : Qd × Nat :=
  if ((aPoint b p).1 == rPoint b (aPoint b p).2) = false then (((aPoint b p).1, rPoint b (aPoint b p).2), (aPoint b p).2 + 2)
  else if 0 < pickI b ((aPoint b p).2 + 2) 4 then (((aPoint b p).1, ((rPoint b (aPoint b p).2).1 + 1, (rPoint b (aPoint b p).2).2)), (aPoint b p).2 + 3)
  else (((aPoint b p).1, rPoint b (aPoint b p).2), (aPoint b p).2 + 3)
def g_spec_anySegment : List (Nat × PSpec) := []
theorem gok_spec_anySegment : GOK Try.prog g_spec_anySegment := gok0
def h_spec_anySegment : List (Nat × HSpec) := [(204, hs_spec_anyPoint), (157, hs_spec_randomPoint), (74, hs_spec_reader_pick)]
theorem hok_spec_anySegment : HOK Try.prog h_spec_anySegment := hok_cons hk_spec_anyPoint en_spec_anyPoint (hok_cons hk_spec_randomPoint en_spec_randomPoint (hok_cons hk_spec_reader_pick en_spec_reader_pick (hok0)))
theorem lh_spec_anySegment_spec_anyPoint : lkHS h_spec_anySegment 204 = some hs_spec_anyPoint := rfl
theorem lh_spec_anySegment_spec_randomPoint : lkHS h_spec_anySegment 157 = some hs_spec_randomPoint := rfl
theorem lh_spec_anySegment_spec_reader_pick : lkHS h_spec_anySegment 74 = some hs_spec_reader_pick := rfl
theorem c_spec_anySegment (b : List Int) (p : Nat) (hb : BytesOK b) (hp : p ≤ 700000) : HCall Try.prog 158 [.ptr 1000 0] (sm ([(1000, rdr b p)])) (encQ (aSeg b p).1) (sm ([(1000, rdr b (aSeg b p).2)])) := by
  refine hcall_V (G := g_spec_anySegment) (H := h_spec_anySegment) [] tabOK mixed gok_spec_anySegment hok_spec_anySegment Try.func158 rfl Try.ntmps158 Try.results158 rfl (by kernel_rfl) fun F hN hlen => ?_
  simp only [sm]
  have hp1 : p ≤ 800000 := by omega
  have hv := aPoint_le b p
  have hA : aSeg b p = if ((aPoint b p).1 == rPoint b (aPoint b p).2) = false then (((aPoint b p).1, rPoint b (aPoint b p).2), (aPoint b p).2 + 2)
      else if 0 < pickI b ((aPoint b p).2 + 2) 4 then (((aPoint b p).1, ((rPoint b (aPoint b p).2).1 + 1, (rPoint b (aPoint b p).2).2)), (aPoint b p).2 + 3)
      else (((aPoint b p).1, rPoint b (aPoint b p).2), (aPoint b p).2 + 3) := rfl
  obtain ⟨A, hAA⟩ : ∃ A, (aPoint b p).1 = A := ⟨_, rfl⟩
  obtain ⟨q, hq⟩ : ∃ q, (aPoint b p).2 = q := ⟨_, rfl⟩
  rw [hAA, hq] at hA
  rw [hq] at hv
  have hr := rPoint_le hb (show q ≤ 1000000 by omega)
  obtain ⟨B, hB⟩ : ∃ B, rPoint b q = B := ⟨_, rfl⟩
  rw [hB] at hA hr
  have q1 : q ≤ 900000 := by omega
  have q2 : q + 2 ≤ 1000000 := by omega
  have w1 : IntKind.i64.wrap (B.1 + 1) = B.1 + 1 := wr (by omega) (by omega)
  cases c1 : (A == B) with
  | false =>
    rw [if_pos c1] at hA
    simp only [V_seq, V_skip, V_ret, V_region, V_cond, brW_false, W_nil, W_cons, effOp2, KN_seq, KXr_nil, QE, asB, effOp, effPure, effPick, effNew, effAlloc, effStore, Option.isSome_some, skipE, pureV, pickV, storeV, binV, partV, loadV, faddrV, over, solid, buildL, IV.cells, ofC, strip, lkT, lkH, ISt.app, opI, gO, gB, allB, gval, wrapG, dstOK, setD, mentTm, mentHp, IV.ment, IV.mentL, oneI, idsV, idsL, clean, callArgs, callFn, enumT, conv, conv0, convL, IBlk.shape, eqL, numsOnly, Op.operands, reduceIte, reduceCtorEq, cond_true, cond_false, Bool.or_false, Bool.or_true, Bool.and_true, Nat.reduceAdd, Nat.reduceSub, Nat.reduceMul, Nat.reduceLT, Nat.reduceLeDiff, Nat.reduceEqDiff, Nat.reduceBEq, Nat.add_zero, Nat.zero_add, ne_eq, not_false_eq_true, beq_self_eq_true, true_and, and_true, false_and, and_false, and_self, false_implies, implies_true, List.map_cons, List.map_nil, List.nil_append, List.cons_append, List.append_nil, List.all_cons, List.all_nil, Option.map_some, Option.bind_some, List.getElem?_cons_zero, List.getElem?_cons_succ, List.getD_cons_zero, List.getD_cons_succ, List.length_cons, List.length_nil, List.take_succ_cons, List.take_zero, List.take_nil, List.drop_succ_cons, List.drop_zero, List.drop_nil, ex_clo, bft, Bool.true_eq_false, Bool.false_eq_true, tab30, tab47, hN, Int.toNat_natCast, encP, encQ, isBy_enc, toBy_enc, FinH, resA, resV, SLe, SLe0, convTm, convHp, convB, sm, effH, mkHC0, mkHC1, lendM, lentM, lentI, allHere, addIds, idsB, flatIds, reach, posn, renV, renL, renB, renH, numB, subHp, fwd, bk, bwd, nones, keyOK, noSl, noSlL, flatBs, List.contains, List.elem, Option.isSome_some, List.nodup_nil, List.nodup_cons, List.not_mem_nil, or_false, Option.getD_some, lh_spec_anySegment_spec_anyPoint, lh_spec_anySegment_spec_randomPoint, lh_spec_anySegment_spec_reader_pick, hs_spec_anyPoint, hs_spec_randomPoint, hs_spec_reader_pick, rdr, hb, hp1, hAA, hq, hB, q1, eqP, c1, hA]
    exact ⟨id, by simp [convL, conv, conv0, clean]⟩
  | true =>
    rw [if_neg (by rw [c1]; decide)] at hA
    cases c2 : decide (0 < pickI b (q + 2) 4) with
    | true =>
      rw [if_pos (of_decide_eq_true c2)] at hA
      simp only [V_seq, V_ret, V_region, V_cond, brW_true, W_nil, W_cons, effOp2, KN_seq, KXr_nil, QE, asB, effOp, effPure, effPick, effNew, effAlloc, effStore, Option.isSome_some, skipE, pureV, pickV, storeV, binV, partV, loadV, faddrV, over, solid, buildL, IV.cells, ofC, strip, lkT, lkH, ISt.app, opI, gO, gB, allB, gval, wrapG, dstOK, setD, mentTm, mentHp, IV.ment, IV.mentL, oneI, idsV, idsL, clean, callArgs, callFn, enumT, conv, conv0, convL, IBlk.shape, eqL, numsOnly, Op.operands, reduceIte, reduceCtorEq, cond_true, cond_false, Bool.or_false, Bool.or_true, Bool.and_true, Nat.reduceAdd, Nat.reduceSub, Nat.reduceMul, Nat.reduceLT, Nat.reduceLeDiff, Nat.reduceEqDiff, Nat.reduceBEq, Nat.add_zero, Nat.zero_add, ne_eq, not_false_eq_true, beq_self_eq_true, true_and, and_true, and_false, and_self, false_implies, implies_true, List.map_cons, List.map_nil, List.nil_append, List.cons_append, List.append_nil, List.all_cons, List.all_nil, Option.map_some, Option.bind_some, List.getElem?_cons_zero, List.getElem?_cons_succ, List.getD_cons_zero, List.getD_cons_succ, List.length_cons, List.length_nil, List.take_succ_cons, List.take_zero, List.take_nil, List.drop_succ_cons, List.drop_zero, List.drop_nil, ex_clo, Bool.true_eq_false, Bool.false_eq_true, tab3, tab30, tab47, hN, Int.toNat_natCast, encP, encQ, isBy_enc, toBy_enc, FinH, resA, resV, SLe, SLe0, convTm, convHp, convB, sm, effH, mkHC0, mkHC1, lendM, lentM, lentI, allHere, addIds, idsB, flatIds, reach, posn, renV, renL, renB, renH, numB, subHp, fwd, bk, bwd, nones, keyOK, noSl, noSlL, flatBs, List.contains, List.elem, Option.isSome_some, List.nodup_nil, List.nodup_cons, List.not_mem_nil, or_false, Option.getD_some, lh_spec_anySegment_spec_anyPoint, lh_spec_anySegment_spec_randomPoint, lh_spec_anySegment_spec_reader_pick, hs_spec_anyPoint, hs_spec_randomPoint, hs_spec_reader_pick, rdr, hb, hp1, hAA, hq, hB, q1, q2, eqP, c1, c2, w1, hA]
      exact ⟨by omega, id, by simp [convL, conv, conv0, clean]; omega⟩
    | false =>
      rw [if_neg (of_decide_eq_false c2)] at hA
      simp only [V_seq, V_skip, V_ret, V_region, V_cond, brW_false, W_nil, W_cons, effOp2, KN_seq, KXr_nil, QE, asB, effOp, effPure, effPick, effNew, effAlloc, effStore, Option.isSome_some, skipE, pureV, pickV, storeV, binV, partV, loadV, faddrV, over, solid, buildL, IV.cells, ofC, strip, lkT, lkH, ISt.app, opI, gO, gB, allB, gval, wrapG, dstOK, setD, mentTm, mentHp, IV.ment, IV.mentL, oneI, idsV, idsL, clean, callArgs, callFn, enumT, conv, conv0, convL, IBlk.shape, eqL, numsOnly, Op.operands, reduceIte, reduceCtorEq, cond_true, cond_false, Bool.or_false, Bool.or_true, Bool.and_true, Nat.reduceAdd, Nat.reduceSub, Nat.reduceMul, Nat.reduceLT, Nat.reduceLeDiff, Nat.reduceEqDiff, Nat.reduceBEq, Nat.add_zero, Nat.zero_add, ne_eq, not_false_eq_true, beq_self_eq_true, true_and, and_true, and_false, and_self, false_implies, implies_true, List.map_cons, List.map_nil, List.nil_append, List.cons_append, List.append_nil, List.all_cons, List.all_nil, Option.map_some, Option.bind_some, List.getElem?_cons_zero, List.getElem?_cons_succ, List.getD_cons_zero, List.getD_cons_succ, List.length_cons, List.length_nil, List.take_succ_cons, List.take_zero, List.take_nil, List.drop_succ_cons, List.drop_zero, List.drop_nil, ex_clo, Bool.true_eq_false, Bool.false_eq_true, tab30, tab47, hN, Int.toNat_natCast, encP, encQ, isBy_enc, toBy_enc, FinH, resA, resV, SLe, SLe0, convTm, convHp, convB, sm, effH, mkHC0, mkHC1, lendM, lentM, lentI, allHere, addIds, idsB, flatIds, reach, posn, renV, renL, renB, renH, numB, subHp, fwd, bk, bwd, nones, keyOK, noSl, noSlL, flatBs, List.contains, List.elem, Option.isSome_some, List.nodup_nil, List.nodup_cons, List.not_mem_nil, or_false, Option.getD_some, lh_spec_anySegment_spec_anyPoint, lh_spec_anySegment_spec_randomPoint, lh_spec_anySegment_spec_reader_pick, hs_spec_anyPoint, hs_spec_randomPoint, hs_spec_reader_pick, rdr, hb, hp1, hAA, hq, hB, q1, q2, eqP, c1, c2, hA]
      exact ⟨by omega, id, by simp [convL, conv, conv0, clean]; omega⟩
def hs_spec_anySegment : HSpec := ⟨[false], fun xs hp => match xs, hp with | [.ptr 1000 0], [(1000, .box ty [.sl 1 es, .num .i64 pz])] => (isBy es) ∧ (ty = 156) ∧ (pz = (pz.toNat : Int)) ∧ ((fun (b : List Int) (p : Nat) => BytesOK b) (toIs es) pz.toNat) ∧ ((fun (b : List Int) (p : Nat) => p ≤ 700000) (toIs es) pz.toNat) | _, _ => False, fun xs hp => match xs, hp with | [.ptr 1000 0], [(1000, .box ty [.sl 1 es, .num .i64 pz])] => (fun (b : List Int) (p : Nat) => (encQ (aSeg b p).1 : IV)) (toIs es) pz.toNat | _, _ => .junk, fun xs hp => match xs, hp with | [.ptr 1000 0], [(1000, .box ty [.sl 1 es, .num .i64 pz])] => (fun (b : List Int) (p : Nat) => ([(1000, rdr b (aSeg b p).2)] : List (Nat × IBlk))) (toIs es) pz.toNat | _, _ => []⟩
theorem hk_spec_anySegment : ∀ args hp, hs_spec_anySegment.pre args hp → HCall Try.prog 158 args (sm hp) (hs_spec_anySegment.val args hp) (sm (hs_spec_anySegment.hval args hp)) := by
  intro args hp h
  unfold hs_spec_anySegment at h ⊢; simp only at h ⊢; split at h
  · obtain ⟨h1, rfl, h3, h4, h5⟩ := h; obtain ⟨l, rfl⟩ := isBy_ex h1; rw [toBy_enc] at *; rw [h3]; exact c_spec_anySegment l _ h4 (by simpa using h5)
  · exact h.elim
theorem en_spec_anySegment : Enters Try.prog 158 := enters_of Try.func158 (by kernel_rfl) rfl

def fixS (s : Qd) : Qd := if (s.1 == s.2) = true then (s.1, (s.2.1, s.2.2 + 1)) else s
def sgStep (b : List Int) (x : List Qd × Nat) : List Qd × Nat :=
  if x.1.length = 0 then (x.1 ++ [fixS (rPoint b x.2, rPoint b (x.2 + 2))], x.2 + 4)
  else if pickI b (x.2 + 4) 3 = 0 then (x.1 ++ [fixS ((qAt x.1 (pickI b (x.2 + 5) x.1.length).toNat).2, rPoint b (x.2 + 2))], x.2 + 6)
  else (x.1 ++ [fixS (rPoint b x.2, rPoint b (x.2 + 2))], x.2 + 5)
def sgLoop (b : List Int) (p : Nat) : Nat → List Qd × Nat
  | 0 => ([], p)
  | n + 1 => sgStep b (sgLoop b p n)
theorem sgLoop_bd (b : List Int) (p : Nat) : ∀ n, (sgLoop b p n).1.length = n ∧ (sgLoop b p n).2 ≤ p + 6 * n
  | 0 => by simp [sgLoop]
  | n + 1 => by
    have h := sgLoop_bd b p n
    rw [sgLoop, sgStep]
    split
    · simp only [List.length_append, List.length_cons, List.length_nil]; omega
    · split
      · simp only [List.length_append, List.length_cons, List.length_nil]; omega
      · simp only [List.length_append, List.length_cons, List.length_nil]; omega
def sgNum (b : List Int) (p : Nat) : Nat := [0, 1, 2, 3, 4, 6, 13].getD (pickI b p 7).toNat 0
def aSegs (b : List Int) (p : Nat) : List Qd × Nat :=
  if (sgLoop b (p + 1) (sgNum b p)).1.length = 0 then sgLoop b (p + 1) (sgNum b p)
  else if pickI b (sgLoop b (p + 1) (sgNum b p)).2 12 = 0 then ((sgLoop b (p + 1) (sgNum b p)).1.set 0 (aSeg b ((sgLoop b (p + 1) (sgNum b p)).2 + 1)).1, (aSeg b ((sgLoop b (p + 1) (sgNum b p)).2 + 1)).2)
  else ((sgLoop b (p + 1) (sgNum b p)).1, (sgLoop b (p + 1) (sgNum b p)).2 + 1)
def g_spec_anySegments : List (Nat × PSpec) := []
theorem gok_spec_anySegments : GOK Try.prog g_spec_anySegments := gok0
def h_spec_anySegments : List (Nat × HSpec) := [(143, hs_spec_reader_one), (157, hs_spec_randomPoint), (74, hs_spec_reader_pick), (158, hs_spec_anySegment)]
theorem hok_spec_anySegments : HOK Try.prog h_spec_anySegments := hok_cons hk_spec_reader_one en_spec_reader_one (hok_cons hk_spec_randomPoint en_spec_randomPoint (hok_cons hk_spec_reader_pick en_spec_reader_pick (hok_cons hk_spec_anySegment en_spec_anySegment (hok0))))
theorem lh_spec_anySegments_spec_reader_one : lkHS h_spec_anySegments 143 = some hs_spec_reader_one := rfl
theorem lh_spec_anySegments_spec_randomPoint : lkHS h_spec_anySegments 157 = some hs_spec_randomPoint := rfl
theorem lh_spec_anySegments_spec_reader_pick : lkHS h_spec_anySegments 74 = some hs_spec_reader_pick := rfl
theorem lh_spec_anySegments_spec_anySegment : lkHS h_spec_anySegments 158 = some hs_spec_anySegment := rfl
theorem c_spec_anySegments (b : List Int) (p : Nat) (hb : BytesOK b) (hp : p ≤ 600000) : HCall Try.prog 83 [.ptr 1000 0] (sm ([(1000, rdr b p)])) (.ref 0 0 (aSegs b p).1.length true) (sm ([(0, .arr 4 47 (encQs (aSegs b p).1)), (1000, rdr b (aSegs b p).2)])) := by
  refine hcall_V (G := g_spec_anySegments) (H := h_spec_anySegments) [] tabOK mixed gok_spec_anySegments hok_spec_anySegments Try.func83 rfl Try.ntmps83 Try.results83 rfl (by kernel_rfl) fun F hN hlen => ?_
  simp only [sm]
  have h1 := pick_nonneg hb (show p ≤ 1000000000 by omega) 7
  have h2 := h1.2.1 (by omega)
  have q1 : p ≤ 900000 := by omega
  obtain ⟨n, hn⟩ : ∃ n, sgNum b p = n := ⟨_, rfl⟩
  have n13 : n ≤ 13 := by
    rw [← hn, sgNum]
    obtain ⟨k, hk⟩ : ∃ k, (pickI b p 7).toNat = k := ⟨_, rfl⟩
    have hk8 : k < 7 := by omega
    rw [hk]
    match k, hk8 with
    | 0, _ | 1, _ | 2, _ | 3, _ | 4, _ | 5, _ | 6, _ => decide
  have e8 : encI [0, 1, 2, 3, 4, 6, 13] = [.num .i64 0, .num .i64 1, .num .i64 2, .num .i64 3, .num .i64 4, .num .i64 6, .num .i64 13] := rfl
  have hv : ([0, 1, 2, 3, 4, 6, 13] : List Int).getD (pickI b p 7).toNat 0 = ((n : Nat) : Int) := by
    rw [← hn, sgNum]
    obtain ⟨k, hk⟩ : ∃ k, (pickI b p 7).toNat = k := ⟨_, rfl⟩
    have hk8 : k < 7 := by omega
    rw [hk]
    match k, hk8 with
    | 0, _ | 1, _ | 2, _ | 3, _ | 4, _ | 5, _ | 6, _ => rfl
  have hA : aSegs b p = (if (sgLoop b (p + 1) n).1.length = 0 then sgLoop b (p + 1) n
      else if pickI b (sgLoop b (p + 1) n).2 12 = 0 then ((sgLoop b (p + 1) n).1.set 0 (aSeg b ((sgLoop b (p + 1) n).2 + 1)).1, (aSeg b ((sgLoop b (p + 1) n).2 + 1)).2)
      else ((sgLoop b (p + 1) n).1, (sgLoop b (p + 1) n).2 + 1)) := by unfold aSegs; rw [hn]
  have l8 : (([0, 1, 2, 3, 4, 6, 13] : List Int).length : Int) = 7 := rfl
  simp only [V_seq, V_block, V_region, W_nil, W_cons, effOp2, KN_seq, effOp, effPure, effNew, effBuildSlice, effFrz, frz, tmpsOf, Option.isSome_some, skipE, pureV, ofC, strip, lkT, lkH, ISt.app, opI, gO, gB, allB, gval, wrapG, dstOK, setD, mentTm, mentHp, IV.ment, IV.mentL, partsL, eltsI, eltI, noId', idsV, idsL, clean, callArgs, callFn, enumT, conv, conv0, convL, IBlk.shape, Op.operands, reduceIte, reduceCtorEq, cond_true, cond_false, Bool.or_false, Bool.or_true, Bool.and_true, Nat.reduceAdd, Nat.reduceSub, Nat.reduceMul, Nat.reduceLT, Nat.reduceLeDiff, Nat.reduceEqDiff, Nat.reduceBEq, Nat.zero_add, ne_eq, not_false_eq_true, beq_self_eq_true, true_and, and_false, and_self, implies_true, List.map_cons, List.map_nil, List.nil_append, List.cons_append, List.append_nil, List.all_nil, Option.map_some, List.getD_cons_zero, List.getD_cons_succ, List.length_cons, List.length_nil, List.take_succ_cons, List.take_nil, ex_clo, or_self, Bool.true_eq_false, Bool.false_eq_true, tab3, tab43, tab47, tab50, hN, Int.toNat_natCast, isBy_enc, toBy_enc, isIs_nil, toIs_nil, isIs_cons, toIs_cons, SLe0, convTm, convHp, convB, sm, effH, mkHC0, mkHC1, lendM, lentM, lentI, allHere, addIds, idsB, flatIds, reach, posn, renV, renL, renB, renH, numB, subHp, fwd, bk, bwd, nones, keyOK, noSl, noSlL, flatBs, List.contains, List.elem, Option.isSome_some, List.nodup_nil, List.nodup_cons, List.not_mem_nil, List.mem_cons, or_false, Option.getD_some, lh_spec_anySegments_spec_reader_one, hs_spec_reader_one, rdr, hb, q1, e8]
  refine V_loop (α := Nat) ⟨tabOK, mixed, gok_spec_anySegments, hok_spec_anySegments⟩ (by kernel_rfl) (fun i => i ≤ n) (fun i => ⟨[(4, .num .i64 ((n - i : Nat) : Int)), (3, .ref 6 0 i true), (0, .ptr 1000 0)], [(6, some (.arr 4 47 (encQs (sgLoop b (p + 1) i).1))), (1000, some (rdr b (sgLoop b (p + 1) i).2))]⟩) (fun i => n - i) 0 id (Nat.zero_le _) (by simp [SLe, SLe0, convTm, convHp, convB, conv, conv0, convL, lkT, lkH, clean, sgLoop, encQs, rdr]; exact hv) ?_
  intro i hi
  obtain ⟨hlen1, hbd⟩ := sgLoop_bd b (p + 1) i
  have hS : sgLoop b (p + 1) (i + 1) = sgStep b (sgLoop b (p + 1) i) := rfl
  unfold sgStep at hS
  have hAi : i = n → aSegs b p = (if (sgLoop b (p + 1) i).1.length = 0 then sgLoop b (p + 1) i
      else if pickI b (sgLoop b (p + 1) i).2 12 = 0 then ((sgLoop b (p + 1) i).1.set 0 (aSeg b ((sgLoop b (p + 1) i).2 + 1)).1, (aSeg b ((sgLoop b (p + 1) i).2 + 1)).2)
      else ((sgLoop b (p + 1) i).1, (sgLoop b (p + 1) i).2 + 1)) := fun e => by subst e; exact hA
  have hpair : sgLoop b (p + 1) i = ((sgLoop b (p + 1) i).1, (sgLoop b (p + 1) i).2) := rfl
  obtain ⟨L, hL⟩ : ∃ L, (sgLoop b (p + 1) i).1 = L := ⟨_, rfl⟩
  obtain ⟨q, hq⟩ : ∃ q, (sgLoop b (p + 1) i).2 = q := ⟨_, rfl⟩
  rw [hL, hq] at hS hpair
  rw [hL] at hlen1
  rw [hq] at hbd
  rw [hpair] at hAi
  simp only [hL, hq]
  have ln := len_encQs L
  have tl := take_encQs L
  rw [hlen1] at ln tl hS
  have hx : ∃ k ty es, IBlk.arr 4 47 (encQs L) = IBlk.arr k ty es := ⟨_, _, _, rfl⟩
  have q1000 : q ≤ 1000000 := by omega
  simp only [V_seq, V_region, V_cond, W_nil, W_cons, effOp2, KN_seq, asB, effOp, effPure, pureV, binV, ofC, strip, lkT, ISt.app, opI, gO, gB, allB, gval, wrapG, dstOK, setD, Op.operands, reduceIte, reduceCtorEq, Nat.reduceLT, Nat.reduceEqDiff, true_and, and_self, implies_true, List.nil_append, List.cons_append, hN, rdr]
  refine brW_some (fun h => ?_) (fun h => ?_)
  · have hlt : i < n := by simp at h; omega
    have w2 : IntKind.i64.wrap (((n - i : Nat) : Int) - 1) = ((n - (i + 1) : Nat) : Int) := by rw [wr (by omega) (by omega)]; omega
    have q900 : q ≤ 900000 := by omega
    have q902 : q + 2 ≤ 900000 := by omega
    have q904 : q + 2 + 2 ≤ 1000000 := by omega
    have q905 : q + 2 + 2 + 1 ≤ 1000000 := by omega
    have hr := rPoint_le hb (show q + 2 ≤ 1000000 by omega)
    obtain ⟨A, hA2⟩ : ∃ A, rPoint b q = A := ⟨_, rfl⟩
    obtain ⟨B, hB2⟩ : ∃ B, rPoint b (q + 2) = B := ⟨_, rfl⟩
    rw [hA2, hB2] at hS
    rw [hB2] at hr
    have w3 : IntKind.i64.wrap (B.2 + 1) = B.2 + 1 := wr (by omega) (by omega)
    have hfin : ∀ s r, sgLoop b (p + 1) (i + 1) = (L ++ [s], r) → encQs (sgLoop b (p + 1) (i + 1)).1 = (encQs L).take i ++ [IV.agg [.num .i64 s.1.1, .num .i64 s.1.2, .num .i64 s.2.1, .num .i64 s.2.2]] ∧ (sgLoop b (p + 1) (i + 1)).2 = r := fun s r hr => by
      rw [hr]
      refine ⟨?_, rfl⟩
      simp only []
      rw [← encQs_app, tl]; rfl
    rcases Nat.eq_zero_or_pos i with hz | hz
    · subst hz
      have d1 : decide ((0 : Int) < ((0 : Nat) : Int)) = false := rfl
      rw [if_pos rfl] at hS
      cases c1 : (A == B) with
      | false =>
        have e1 : fixS (A, B) = (A, B) := by unfold fixS; rw [if_neg (by simp only [c1]; decide)]
        rw [e1] at hS
        obtain ⟨f1, f2⟩ := hfin _ _ hS
        simp only [V_seq, V_skip, V_block, V_region, V_cond, brW_false, W_nil, W_cons, effOp2, KN_seq, KN_block, KN_back, asB, effOp, effPure, effPick, effNew, effAlloc, effBuildSlice, effFrz, frz, tmpsOf, effStore, effAppend, effZeros, Option.isSome_some, skipE, pureV, pickV, storeV, srcV, refId, binV, partV, loadV, faddrV, lenV, over, solid, buildL, IV.cells, ofC, strip, lkT, lkH, ISt.app, opI, gO, gB, allB, gval, wrapG, dstOK, setD, mentTm, mentHp, IV.ment, IV.mentL, partsL, eltsI, eltI, oneI, noId', idsV, idsL, clean, callArgs, callFn, enumT, conv, conv0, convL, IBlk.shape, eqL, numsOnly, Op.operands, Call.operands, List.append_toArray, reduceIte, reduceCtorEq, cond_true, cond_false, Bool.or_false, Bool.or_true, Bool.and_true, Nat.reduceAdd, Nat.reduceSub, Nat.reduceMul, Nat.reduceLT, Nat.reduceLeDiff, Nat.reduceEqDiff, Nat.reduceBEq, Nat.add_zero, Nat.zero_add, ne_eq, not_false_eq_true, beq_self_eq_true, true_and, and_true, false_and, and_false, and_self, false_implies, implies_true, List.map_cons, List.map_nil, List.nil_append, List.cons_append, List.append_nil, List.all_cons, List.all_nil, Option.some.injEq, Option.map_some, Option.bind_some, List.getElem?_cons_zero, List.getElem?_cons_succ, List.getD_cons_zero, List.getD_cons_succ, List.length_cons, List.length_nil, List.take_succ_cons, List.take_zero, List.take_nil, List.drop_succ_cons, List.drop_zero, List.drop_nil, ex_clo, bft, Bool.true_eq_false, Bool.false_eq_true, tab30, tab43, tab47, hN, Int.toNat_natCast, encP, isBy_enc, toBy_enc, SLe0, convTm, convHp, convB, sm, effH, mkHC0, mkHC1, lendM, lentM, lentI, allHere, addIds, idsB, flatIds, reach, posn, renV, renL, renB, renH, numB, subHp, fwd, bk, bwd, nones, keyOK, noSl, noSlL, flatBs, List.contains, List.elem, Option.isSome_some, List.nodup_nil, List.nodup_cons, List.not_mem_nil, or_false, Option.getD_some, lh_spec_anySegments_spec_randomPoint, lh_spec_anySegments_spec_reader_pick, hs_spec_randomPoint, hs_spec_reader_pick, rdr, hb, ln, q900, q902, hA2, hB2, d1, eqP, c1, w2]
        repeat refine And.intro (by first | omega | (simp; done) | (simp; omega)) ?_
        refine ⟨0 + 1, fun x => if x = 6 then 50 else x, by simp only []; omega, by simp only []; omega, ?_⟩
        simp only [f1, f2]
        simp [SLe, SLe0, convTm, convHp, convB, conv, conv0, convL, lkT, lkH, clean]
        exact ⟨by omega, fun id a c d => by omega⟩
      | true =>
        have e1 : fixS (A, B) = (A, (B.1, B.2 + 1)) := by unfold fixS; rw [if_pos (by simp only [c1])]
        rw [e1] at hS
        obtain ⟨f1, f2⟩ := hfin _ _ hS
        simp only [V_seq, V_skip, V_block, V_region, V_cond, brW_true, brW_false, W_nil, W_cons, effOp2, KN_seq, KN_block, KN_back, asB, effOp, effPure, effPick, effNew, effAlloc, effBuildSlice, effFrz, frz, tmpsOf, effStore, effAppend, effZeros, Option.isSome_some, skipE, pureV, pickV, storeV, srcV, refId, binV, partV, loadV, faddrV, lenV, over, solid, buildL, IV.cells, ofC, strip, lkT, lkH, ISt.app, opI, gO, gB, allB, gval, wrapG, dstOK, setD, mentTm, mentHp, IV.ment, IV.mentL, partsL, eltsI, eltI, oneI, noId', idsV, idsL, clean, callArgs, callFn, enumT, conv, conv0, convL, IBlk.shape, eqL, numsOnly, Op.operands, Call.operands, List.append_toArray, reduceIte, reduceCtorEq, cond_true, cond_false, Bool.or_false, Bool.or_true, Bool.and_true, Nat.reduceAdd, Nat.reduceSub, Nat.reduceMul, Nat.reduceLT, Nat.reduceLeDiff, Nat.reduceEqDiff, Nat.reduceBEq, Nat.add_zero, Nat.zero_add, ne_eq, not_false_eq_true, beq_self_eq_true, true_and, and_true, false_and, and_false, and_self, false_implies, implies_true, List.map_cons, List.map_nil, List.nil_append, List.cons_append, List.append_nil, List.all_cons, List.all_nil, Option.some.injEq, Option.map_some, Option.bind_some, List.getElem?_cons_zero, List.getElem?_cons_succ, List.getD_cons_zero, List.getD_cons_succ, List.length_cons, List.length_nil, List.take_succ_cons, List.take_zero, List.take_nil, List.drop_succ_cons, List.drop_zero, List.drop_nil, ex_clo, bft, Bool.true_eq_false, Bool.false_eq_true, tab3, tab30, tab43, tab47, hN, Int.toNat_natCast, encP, isBy_enc, toBy_enc, SLe0, convTm, convHp, convB, sm, effH, mkHC0, mkHC1, lendM, lentM, lentI, allHere, addIds, idsB, flatIds, reach, posn, renV, renL, renB, renH, numB, subHp, fwd, bk, bwd, nones, keyOK, noSl, noSlL, flatBs, List.contains, List.elem, Option.isSome_some, List.nodup_nil, List.nodup_cons, List.not_mem_nil, or_false, Option.getD_some, lh_spec_anySegments_spec_randomPoint, lh_spec_anySegments_spec_reader_pick, hs_spec_randomPoint, hs_spec_reader_pick, rdr, hb, ln, q900, q902, hA2, hB2, d1, eqP, c1, w2, w3]
        repeat refine And.intro (by first | omega | (simp; done) | (simp; omega)) ?_
        refine ⟨0 + 1, fun x => if x = 6 then 50 else x, by simp only []; omega, by simp only []; omega, ?_⟩
        simp only [f1, f2]
        simp [SLe, SLe0, convTm, convHp, convB, conv, conv0, convL, lkT, lkH, clean]
        exact ⟨by omega, fun id a c d => by omega⟩
    · have d1 : decide ((0 : Int) < ((i : Nat) : Int)) = true := by simpa using hz
      rw [if_neg (by omega)] at hS
      cases c3 : (pickI b (q + 2 + 2) 3 == 0) with
      | false =>
        rw [if_neg (by simpa using c3)] at hS
        cases c1 : (A == B) with
        | false =>
          have e1 : fixS (A, B) = (A, B) := by unfold fixS; rw [if_neg (by simp only [c1]; decide)]
          rw [e1] at hS
          obtain ⟨f1, f2⟩ := hfin _ _ hS
          simp only [V_seq, V_skip, V_block, V_region, V_cond, brW_false, W_nil, W_cons, effOp2, KN_seq, KN_block, KN_back, asB, effOp, effPure, effPick, effNew, effAlloc, effBuildSlice, effFrz, frz, tmpsOf, effStore, effAppend, effZeros, Option.isSome_some, skipE, pureV, pickV, storeV, srcV, refId, binV, partV, loadV, faddrV, lenV, over, solid, buildL, IV.cells, ofC, strip, lkT, lkH, ISt.app, opI, gO, gB, allB, gval, wrapG, dstOK, setD, mentTm, mentHp, IV.ment, IV.mentL, partsL, eltsI, eltI, oneI, noId', idsV, idsL, clean, callArgs, callFn, enumT, conv, conv0, convL, IBlk.shape, eqL, numsOnly, Op.operands, Call.operands, List.append_toArray, reduceIte, reduceCtorEq, cond_true, cond_false, Bool.or_false, Bool.or_true, Bool.and_true, Nat.reduceAdd, Nat.reduceSub, Nat.reduceMul, Nat.reduceLT, Nat.reduceLeDiff, Nat.reduceEqDiff, Nat.reduceBEq, Nat.add_zero, Nat.zero_add, ne_eq, not_false_eq_true, beq_self_eq_true, true_and, and_true, and_false, and_self, implies_true, List.map_cons, List.map_nil, List.nil_append, List.cons_append, List.append_nil, List.all_cons, List.all_nil, Option.some.injEq, Option.map_some, Option.bind_some, List.getElem?_cons_zero, List.getElem?_cons_succ, List.getD_cons_zero, List.getD_cons_succ, List.length_cons, List.length_nil, List.take_succ_cons, List.take_zero, List.take_nil, List.drop_succ_cons, List.drop_zero, List.drop_nil, ex_clo, Bool.true_eq_false, Bool.false_eq_true, tab30, tab43, tab47, hN, Int.toNat_natCast, encP, isBy_enc, toBy_enc, SLe0, convTm, convHp, convB, sm, effH, mkHC0, mkHC1, lendM, lentM, lentI, allHere, addIds, idsB, flatIds, reach, posn, renV, renL, renB, renH, numB, subHp, fwd, bk, bwd, nones, keyOK, noSl, noSlL, flatBs, List.contains, List.elem, Option.isSome_some, List.nodup_nil, List.nodup_cons, List.not_mem_nil, or_false, Option.getD_some, lh_spec_anySegments_spec_randomPoint, lh_spec_anySegments_spec_reader_pick, hs_spec_randomPoint, hs_spec_reader_pick, rdr, hb, ln, q900, q902, q904, hA2, hB2, d1, c3, eqP, c1, w2]
          repeat refine And.intro (by first | omega | (simp; done) | (simp; omega)) ?_
          refine ⟨i + 1, fun x => if x = 6 then 50 else x, by simp only []; omega, by simp only []; omega, ?_⟩
          simp only [f1, f2]
          simp [SLe, SLe0, convTm, convHp, convB, conv, conv0, convL, lkT, lkH, clean]
          exact ⟨⟨(List.take_of_length_le (by rw [List.length_append, List.length_take]; exact Nat.le_refl _)).symm, by omega⟩, fun id a c d => by omega⟩
        | true =>
          have e1 : fixS (A, B) = (A, (B.1, B.2 + 1)) := by unfold fixS; rw [if_pos (by simp only [c1])]
          rw [e1] at hS
          obtain ⟨f1, f2⟩ := hfin _ _ hS
          simp only [V_seq, V_skip, V_block, V_region, V_cond, brW_true, brW_false, W_nil, W_cons, effOp2, KN_seq, KN_block, KN_back, asB, effOp, effPure, effPick, effNew, effAlloc, effBuildSlice, effFrz, frz, tmpsOf, effStore, effAppend, effZeros, Option.isSome_some, skipE, pureV, pickV, storeV, srcV, refId, binV, partV, loadV, faddrV, lenV, over, solid, buildL, IV.cells, ofC, strip, lkT, lkH, ISt.app, opI, gO, gB, allB, gval, wrapG, dstOK, setD, mentTm, mentHp, IV.ment, IV.mentL, partsL, eltsI, eltI, oneI, noId', idsV, idsL, clean, callArgs, callFn, enumT, conv, conv0, convL, IBlk.shape, eqL, numsOnly, Op.operands, Call.operands, List.append_toArray, reduceIte, reduceCtorEq, cond_true, cond_false, Bool.or_false, Bool.or_true, Bool.and_true, Nat.reduceAdd, Nat.reduceSub, Nat.reduceMul, Nat.reduceLT, Nat.reduceLeDiff, Nat.reduceEqDiff, Nat.reduceBEq, Nat.add_zero, Nat.zero_add, ne_eq, not_false_eq_true, beq_self_eq_true, true_and, and_true, and_false, and_self, implies_true, List.map_cons, List.map_nil, List.nil_append, List.cons_append, List.append_nil, List.all_cons, List.all_nil, Option.some.injEq, Option.map_some, Option.bind_some, List.getElem?_cons_zero, List.getElem?_cons_succ, List.getD_cons_zero, List.getD_cons_succ, List.length_cons, List.length_nil, List.take_succ_cons, List.take_zero, List.take_nil, List.drop_succ_cons, List.drop_zero, List.drop_nil, ex_clo, Bool.true_eq_false, Bool.false_eq_true, tab3, tab30, tab43, tab47, hN, Int.toNat_natCast, encP, isBy_enc, toBy_enc, SLe0, convTm, convHp, convB, sm, effH, mkHC0, mkHC1, lendM, lentM, lentI, allHere, addIds, idsB, flatIds, reach, posn, renV, renL, renB, renH, numB, subHp, fwd, bk, bwd, nones, keyOK, noSl, noSlL, flatBs, List.contains, List.elem, Option.isSome_some, List.nodup_nil, List.nodup_cons, List.not_mem_nil, or_false, Option.getD_some, lh_spec_anySegments_spec_randomPoint, lh_spec_anySegments_spec_reader_pick, hs_spec_randomPoint, hs_spec_reader_pick, rdr, hb, ln, q900, q902, q904, hA2, hB2, d1, c3, eqP, c1, w2, w3]
          repeat refine And.intro (by first | omega | (simp; done) | (simp; omega)) ?_
          refine ⟨i + 1, fun x => if x = 6 then 50 else x, by simp only []; omega, by simp only []; omega, ?_⟩
          simp only [f1, f2]
          simp [SLe, SLe0, convTm, convHp, convB, conv, conv0, convL, lkT, lkH, clean]
          exact ⟨⟨(List.take_of_length_le (by rw [List.length_append, List.length_take]; exact Nat.le_refl _)).symm, by omega⟩, fun id a c d => by omega⟩
      | true =>
        rw [if_pos (by simpa using c3)] at hS
        have hpk := pick_nonneg hb (show q + 5 ≤ 1000000000 by omega) (i : Int)
        have hpl := hpk.2.1 (by omega)
        have z1 : -1000000 ≤ ((i : Nat) : Int) := by omega
        have z2 : ((i : Nat) : Int) ≤ 1000000 := by omega
        obtain ⟨k, hk⟩ : ∃ k : Nat, pickI b (q + 5) (i : Int) = k := ⟨_, (Int.toNat_of_nonneg hpk.1).symm⟩
        have hk' : pickI b (q + 2 + 2 + 1) (i : Int) = ((k : Nat) : Int) := hk
        rw [hk, Int.toNat_natCast] at hS
        have hki : k < L.length := by rw [hlen1]; omega
        have g0 := getD_encQs hki
        obtain ⟨s, hs⟩ : ∃ s, qAt L k = s := ⟨_, rfl⟩
        rw [hs] at g0 hS
        rw [hlen1] at hki
        cases c1 : (s.2 == B) with
        | false =>
          have e1 : fixS (s.2, B) = (s.2, B) := by unfold fixS; rw [if_neg (by simp only [c1]; decide)]
          rw [e1] at hS
          obtain ⟨f1, f2⟩ := hfin _ _ hS
          simp only [V_seq, V_skip, V_block, V_region, V_cond, brW_true, brW_false, W_nil, W_cons, effOp2, KN_seq, KN_block, KN_back, asB, effOp, effPure, effPick, effNew, effAlloc, effBuildSlice, effFrz, frz, tmpsOf, effStore, effAppend, effZeros, Option.isSome_some, skipE, pureV, pickV, storeV, srcV, refId, binV, partV, eltV, loadV, faddrV, iaddrV, lenV, over, solid, buildL, IV.cells, ofC, strip, lkT, lkH, ISt.app, opI, gO, gB, allB, gval, wrapG, dstOK, setD, mentTm, mentHp, IV.ment, IV.mentL, partsL, eltsI, eltI, oneI, noId', idsV, idsL, clean, callArgs, callFn, enumT, conv, conv0, convL, IBlk.shape, eqL, numsOnly, Op.operands, Call.operands, List.append_toArray, reduceIte, reduceCtorEq, cond_true, cond_false, Bool.or_false, Bool.or_true, Bool.and_true, Nat.reduceAdd, Nat.reduceSub, Nat.reduceMul, Nat.reduceLT, Nat.reduceLeDiff, Nat.reduceEqDiff, Nat.reduceBEq, Nat.add_zero, Nat.zero_add, ne_eq, not_false_eq_true, beq_self_eq_true, true_and, and_true, and_false, and_self, implies_true, forall_const, List.map_cons, List.map_nil, List.nil_append, List.cons_append, List.append_nil, List.all_cons, List.all_nil, Option.some.injEq, Option.map_some, Option.bind_some, List.getElem?_cons_zero, List.getElem?_cons_succ, List.getD_cons_zero, List.getD_cons_succ, List.length_cons, List.length_nil, List.take_succ_cons, List.take_zero, List.take_nil, List.drop_succ_cons, List.drop_zero, List.drop_nil, ex_clo, Bool.true_eq_false, Bool.false_eq_true, tab30, tab43, tab47, hN, Int.toNat_natCast, encP, isBy_enc, toBy_enc, SLe0, convTm, convHp, convB, sm, effH, mkHC0, mkHC1, lendM, lentM, lentI, allHere, addIds, idsB, flatIds, reach, posn, renV, renL, renB, renH, numB, subHp, fwd, bk, bwd, nones, keyOK, noSl, noSlL, flatBs, List.contains, List.elem, Option.isSome_some, List.nodup_nil, List.nodup_cons, List.not_mem_nil, or_false, Option.getD_some, lh_spec_anySegments_spec_randomPoint, lh_spec_anySegments_spec_reader_pick, hs_spec_randomPoint, hs_spec_reader_pick, rdr, hb, ln, hx, q900, q902, q904, q905, hA2, hB2, d1, c3, z2, hk', g0, eqP, c1, w2]
          repeat refine And.intro (by first | omega | (simp; done) | (simp; omega)) ?_
          refine ⟨i + 1, fun x => if x = 6 then 50 else x, by simp only []; omega, by simp only []; omega, ?_⟩
          simp only [f1, f2]
          simp [SLe, SLe0, convTm, convHp, convB, conv, conv0, convL, lkT, lkH, clean]
          exact ⟨⟨(List.take_of_length_le (by rw [List.length_append, List.length_take]; exact Nat.le_refl _)).symm, by omega⟩, fun id a c d => by omega⟩
        | true =>
          have e1 : fixS (s.2, B) = (s.2, (B.1, B.2 + 1)) := by unfold fixS; rw [if_pos (by simp only [c1])]
          rw [e1] at hS
          obtain ⟨f1, f2⟩ := hfin _ _ hS
          simp only [V_seq, V_skip, V_block, V_region, V_cond, brW_true, W_nil, W_cons, effOp2, KN_seq, KN_block, KN_back, asB, effOp, effPure, effPick, effNew, effAlloc, effBuildSlice, effFrz, frz, tmpsOf, effStore, effAppend, effZeros, Option.isSome_some, skipE, pureV, pickV, storeV, srcV, refId, binV, partV, eltV, loadV, faddrV, iaddrV, lenV, over, solid, buildL, IV.cells, ofC, strip, lkT, lkH, ISt.app, opI, gO, gB, allB, gval, wrapG, dstOK, setD, mentTm, mentHp, IV.ment, IV.mentL, partsL, eltsI, eltI, oneI, noId', idsV, idsL, clean, callArgs, callFn, enumT, conv, conv0, convL, IBlk.shape, eqL, numsOnly, Op.operands, Call.operands, List.append_toArray, reduceIte, reduceCtorEq, cond_true, cond_false, Bool.or_false, Bool.or_true, Bool.and_true, Nat.reduceAdd, Nat.reduceSub, Nat.reduceMul, Nat.reduceLT, Nat.reduceLeDiff, Nat.reduceEqDiff, Nat.reduceBEq, Nat.add_zero, Nat.zero_add, ne_eq, not_false_eq_true, beq_self_eq_true, true_and, and_true, and_false, and_self, implies_true, forall_const, List.map_cons, List.map_nil, List.nil_append, List.cons_append, List.append_nil, List.all_cons, List.all_nil, Option.some.injEq, Option.map_some, Option.bind_some, List.getElem?_cons_zero, List.getElem?_cons_succ, List.getD_cons_zero, List.getD_cons_succ, List.length_cons, List.length_nil, List.take_succ_cons, List.take_zero, List.take_nil, List.drop_succ_cons, List.drop_zero, List.drop_nil, ex_clo, Bool.true_eq_false, Bool.false_eq_true, tab3, tab30, tab43, tab47, hN, Int.toNat_natCast, encP, isBy_enc, toBy_enc, SLe0, convTm, convHp, convB, sm, effH, mkHC0, mkHC1, lendM, lentM, lentI, allHere, addIds, idsB, flatIds, reach, posn, renV, renL, renB, renH, numB, subHp, fwd, bk, bwd, nones, keyOK, noSl, noSlL, flatBs, List.contains, List.elem, Option.isSome_some, List.nodup_nil, List.nodup_cons, List.not_mem_nil, or_false, Option.getD_some, lh_spec_anySegments_spec_randomPoint, lh_spec_anySegments_spec_reader_pick, hs_spec_randomPoint, hs_spec_reader_pick, rdr, hb, ln, hx, q900, q902, q904, q905, hA2, hB2, d1, c3, z2, hk', g0, eqP, c1, w2, w3]
          repeat refine And.intro (by first | omega | (simp; done) | (simp; omega)) ?_
          refine ⟨i + 1, fun x => if x = 6 then 50 else x, by simp only []; omega, by simp only []; omega, ?_⟩
          simp only [f1, f2]
          simp [SLe, SLe0, convTm, convHp, convB, conv, conv0, convL, lkT, lkH, clean]
          exact ⟨⟨(List.take_of_length_le (by rw [List.length_append, List.length_take]; exact Nat.le_refl _)).symm, by omega⟩, fun id a c d => by omega⟩
  · have hie : i = n := by simp at h; omega
    have hB := hAi hie
    simp only [] at hB
    have q800 : q + 1 ≤ 700000 := by omega
    have q0 : Int.toNat 0 = 0 := rfl
    rw [hlen1] at hB
    rcases Nat.eq_zero_or_pos i with hz | hz
    · rw [if_pos hz] at hB
      have d1 : decide ((0 : Int) < ((0 : Nat) : Int)) = false := rfl
      subst hz
      simp only [V_seq, V_skip, V_ret, V_exit, V_region, V_cond, brW_false, W_nil, W_cons, effOp2, KN_seq, KXr_nil, KXe_nil, KXe_seq, KXe_block, KXe_back, QE, asB, effOp, effPure, effPick, Option.isSome_some, skipE, pureV, pickV, binV, lenV, ofC, strip, lkT, lkH, ISt.app, opI, gO, gB, allB, gval, wrapG, dstOK, setD, mentTm, mentHp, IV.ment, IV.mentL, idsV, idsL, clean, callArgs, callFn, enumT, conv, conv0, convL, IBlk.shape, Op.operands, Call.operands, List.append_toArray, reduceIte, reduceCtorEq, cond_true, cond_false, Bool.or_false, Bool.or_true, Bool.and_true, Nat.reduceAdd, Nat.reduceSub, Nat.reduceMul, Nat.reduceLT, Nat.reduceLeDiff, Nat.reduceEqDiff, Nat.reduceBEq, Nat.zero_add, ne_eq, not_false_eq_true, beq_self_eq_true, true_and, and_true, false_and, and_false, and_self, false_implies, implies_true, List.map_cons, List.map_nil, List.nil_append, List.cons_append, List.append_nil, List.all_nil, Option.map_some, Option.bind_some, List.getElem?_cons_zero, List.getElem?_cons_succ, List.getD_cons_zero, ex_clo, bft, Bool.true_eq_false, Bool.false_eq_true, tab43, hN, Int.toNat_natCast, isBy_enc, toBy_enc, FinH, resA, resV, SLe, SLe0, convTm, convHp, convB, sm, effH, mkHC0, mkHC1, lendM, lentM, lentI, allHere, addIds, idsB, flatIds, reach, posn, renV, renL, renB, renH, numB, subHp, fwd, bk, bwd, nones, keyOK, noSl, noSlL, flatBs, List.contains, List.elem, Option.isSome_some, List.nodup_nil, List.nodup_cons, List.not_mem_nil, List.mem_cons, or_false, Option.getD_some, lh_spec_anySegments_spec_reader_pick, hs_spec_reader_pick, rdr, hb, d1, hB, hlen1]
      exact ⟨fun x => if x = 0 then 6 else x, by simp [convL, conv, conv0, clean]; omega⟩
    · have d1 : decide ((0 : Int) < ((i : Nat) : Int)) = true := by simpa using hz
      rw [if_neg (by omega)] at hB
      cases c9 : (pickI b q 12 == 0) with
      | true =>
        rw [if_pos (by simpa using c9)] at hB
        have hset := encQs_setZ L 0 (aSeg b (q + 1)).1
        simp only [V_seq, V_ret, V_exit, V_region, V_cond, brW_true, W_nil, W_cons, effOp2, KN_seq, KXr_nil, KXe_nil, KXe_seq, KXe_block, KXe_back, QE, asB, effOp, effPure, effPick, effStore, Option.isSome_some, skipE, pureV, pickV, storeV, binV, iaddrV, lenV, over, solid, IV.cells, ofC, strip, lkT, lkH, ISt.app, opI, gO, gB, allB, gval, wrapG, dstOK, setD, mentTm, mentHp, IV.ment, IV.mentL, eltI, oneI, noId', idsV, idsL, clean, callArgs, callFn, enumT, conv, conv0, convL, IBlk.shape, Op.operands, Call.operands, List.append_toArray, reduceIte, reduceCtorEq, cond_true, cond_false, Bool.or_false, Bool.or_true, Bool.and_true, Bool.true_and, Nat.reduceAdd, Nat.reduceSub, Nat.reduceMul, Nat.reduceLT, Nat.reduceLeDiff, Nat.reduceEqDiff, Nat.reduceBEq, Nat.add_zero, Nat.zero_add, ne_eq, not_false_eq_true, beq_self_eq_true, true_and, and_true, and_false, and_self, false_implies, implies_true, forall_const, List.map_cons, List.map_nil, List.nil_append, List.cons_append, List.append_nil, List.all_cons, List.all_nil, Option.map_some, Option.bind_some, List.getElem?_cons_zero, List.getElem?_cons_succ, List.getD_cons_zero, List.length_cons, List.length_nil, List.take_zero, ex_clo, Bool.true_eq_false, Bool.false_eq_true, tab43, tab47, hN, Int.toNat_natCast, encQ, isBy_enc, toBy_enc, FinH, resA, resV, SLe, SLe0, convTm, convHp, convB, sm, effH, mkHC0, mkHC1, lendM, lentM, lentI, allHere, addIds, idsB, flatIds, reach, posn, renV, renL, renB, renH, numB, subHp, fwd, bk, bwd, nones, keyOK, noSl, noSlL, flatBs, List.contains, List.elem, Option.isSome_some, List.nodup_nil, List.nodup_cons, List.not_mem_nil, List.mem_cons, or_false, Option.getD_some, lh_spec_anySegments_spec_reader_pick, lh_spec_anySegments_spec_anySegment, hs_spec_reader_pick, hs_spec_anySegment, rdr, hb, ln, d1, q1000, q800, c9, hB, q0, hset]
        refine ⟨by omega, ⟨by omega, by omega⟩, hz, fun x => if x = 0 then 6 else x, ?_⟩
        simp [convL, conv, conv0, clean, hlen1]
        omega
      | false =>
        rw [if_neg (by simpa using c9)] at hB
        simp only [V_seq, V_skip, V_ret, V_exit, V_region, V_cond, brW_false, W_nil, W_cons, effOp2, KN_seq, KXr_nil, KXe_nil, KXe_seq, KXe_block, KXe_back, QE, asB, effOp, effPure, effPick, Option.isSome_some, skipE, pureV, pickV, binV, lenV, ofC, strip, lkT, lkH, ISt.app, opI, gO, gB, allB, gval, wrapG, dstOK, setD, mentTm, mentHp, IV.ment, IV.mentL, idsV, idsL, clean, callArgs, callFn, enumT, conv, conv0, convL, IBlk.shape, Op.operands, Call.operands, List.append_toArray, reduceIte, reduceCtorEq, cond_true, cond_false, Bool.or_false, Bool.or_true, Bool.and_true, Nat.reduceAdd, Nat.reduceSub, Nat.reduceMul, Nat.reduceLT, Nat.reduceLeDiff, Nat.reduceEqDiff, Nat.reduceBEq, Nat.zero_add, ne_eq, not_false_eq_true, beq_self_eq_true, true_and, and_true, and_false, and_self, false_implies, implies_true, List.map_cons, List.map_nil, List.nil_append, List.cons_append, List.append_nil, List.all_nil, Option.map_some, Option.bind_some, List.getElem?_cons_zero, List.getElem?_cons_succ, List.getD_cons_zero, ex_clo, Bool.true_eq_false, Bool.false_eq_true, tab43, hN, Int.toNat_natCast, isBy_enc, toBy_enc, FinH, resA, resV, SLe, SLe0, convTm, convHp, convB, sm, effH, mkHC0, mkHC1, lendM, lentM, lentI, allHere, addIds, idsB, flatIds, reach, posn, renV, renL, renB, renH, numB, subHp, fwd, bk, bwd, nones, keyOK, noSl, noSlL, flatBs, List.contains, List.elem, Option.isSome_some, List.nodup_nil, List.nodup_cons, List.not_mem_nil, List.mem_cons, or_false, Option.getD_some, lh_spec_anySegments_spec_reader_pick, hs_spec_reader_pick, rdr, hb, d1, q1000, c9, hB, hlen1]
        refine ⟨by omega, fun x => if x = 0 then 6 else x, ?_⟩
        simp [convL, conv, conv0, clean]
        omega
def hs_spec_anySegments : HSpec := ⟨[false], fun xs hp => match xs, hp with | [.ptr 1000 0], [(1000, .box ty [.sl 1 es, .num .i64 pz])] => (isBy es) ∧ (ty = 156) ∧ (pz = (pz.toNat : Int)) ∧ ((fun (b : List Int) (p : Nat) => BytesOK b) (toIs es) pz.toNat) ∧ ((fun (b : List Int) (p : Nat) => p ≤ 600000) (toIs es) pz.toNat) | _, _ => False, fun xs hp => match xs, hp with | [.ptr 1000 0], [(1000, .box ty [.sl 1 es, .num .i64 pz])] => (fun (b : List Int) (p : Nat) => (.ref 0 0 (aSegs b p).1.length true : IV)) (toIs es) pz.toNat | _, _ => .junk, fun xs hp => match xs, hp with | [.ptr 1000 0], [(1000, .box ty [.sl 1 es, .num .i64 pz])] => (fun (b : List Int) (p : Nat) => ([(0, .arr 4 47 (encQs (aSegs b p).1)), (1000, rdr b (aSegs b p).2)] : List (Nat × IBlk))) (toIs es) pz.toNat | _, _ => []⟩
theorem hk_spec_anySegments : ∀ args hp, hs_spec_anySegments.pre args hp → HCall Try.prog 83 args (sm hp) (hs_spec_anySegments.val args hp) (sm (hs_spec_anySegments.hval args hp)) := by
  intro args hp h
  unfold hs_spec_anySegments at h ⊢; simp only at h ⊢; split at h
  · obtain ⟨h1, rfl, h3, h4, h5⟩ := h; obtain ⟨l, rfl⟩ := isBy_ex h1; rw [toBy_enc] at *; rw [h3]; exact c_spec_anySegments l _ h4 (by simpa using h5)
  · exact h.elim
theorem en_spec_anySegments : Enters Try.prog 83 := enters_of Try.func83 (by kernel_rfl) rfl

/-- The segments that a code draws. -/
def drawSs (b : List Int) : List Qd := (aSegs (b.take 2000) 0).1
def g_spec_DrawCrossingPoints : List (Nat × PSpec) := []
theorem gok_spec_DrawCrossingPoints : GOK Try.prog g_spec_DrawCrossingPoints := gok0
def h_spec_DrawCrossingPoints : List (Nat × HSpec) := [(64, hs_spec_newReader), (83, hs_spec_anySegments)]
theorem hok_spec_DrawCrossingPoints : HOK Try.prog h_spec_DrawCrossingPoints := hok_cons hk_spec_newReader en_spec_newReader (hok_cons hk_spec_anySegments en_spec_anySegments (hok0))
theorem lh_spec_DrawCrossingPoints_spec_newReader : lkHS h_spec_DrawCrossingPoints 64 = some hs_spec_newReader := rfl
theorem lh_spec_DrawCrossingPoints_spec_anySegments : lkHS h_spec_DrawCrossingPoints 83 = some hs_spec_anySegments := rfl
theorem c_spec_DrawCrossingPoints (b : List Int) (hb : ∀ x ∈ b, 0 ≤ x ∧ x < 256) (hsz : b.length ≤ 1048576) : ICall Try.prog 25 [.sl 1 (encBy b)] (.sl 4 (encQs (drawSs b))) := by
  refine icall_V (G := g_spec_DrawCrossingPoints) (H := h_spec_DrawCrossingPoints) [] tabOK mixed gok_spec_DrawCrossingPoints hok_spec_DrawCrossingPoints Try.func25 rfl Try.ntmps25 Try.results25 rfl (by kernel_rfl) fun F hN hlen => ?_
  have hbt := bytes_take hb
  have hd : (aSegs (b.take 2000) 0).1 = drawSs b := rfl
  simp only [V_seq, V_ret, V_region, W_nil, W_cons, effOp2, KN_seq, KXr_nil, QE, effOp, effPure, Option.isSome_some, skipE, pureV, ofC, strip, lkT, lkH, ISt.app, opI, gO, gB, allB, gval, wrapG, dstOK, setD, mentTm, mentHp, IV.ment, IV.mentL, lendV, lendP, lent, lentP, idsV, idsL, clean, callArgs, callFn, enumT, Gives, Ideal.Fin, conv, conv0, convL, IBlk.shape, Op.operands, reduceIte, reduceCtorEq, cond_true, cond_false, Bool.or_false, Bool.and_true, Bool.and_false, Bool.not_false, Nat.reduceAdd, Nat.reduceSub, Nat.reduceMul, Nat.reduceLT, Nat.reduceLeDiff, Nat.reduceEqDiff, Nat.reduceBEq, Nat.add_zero, Nat.zero_add, ne_eq, not_false_eq_true, beq_self_eq_true, true_and, and_true, and_false, and_self, false_implies, implies_true, List.map_cons, List.map_nil, List.nil_append, List.cons_append, List.append_nil, List.all_nil, Option.some.injEq, Option.map_some, Option.map_none, List.getD_cons_zero, List.drop_zero, ex_clo, or_self, Bool.true_eq_false, Bool.false_eq_true, hN, Int.toNat_natCast, isBy_enc, toBy_enc, SLe0, convTm, convHp, convB, sm, effH, mkHC0, mkHC1, lendM, lentM, lentI, allHere, addIds, idsB, flatIds, reach, posn, renV, renL, renB, renH, numB, subHp, fwd, bk, bwd, nones, keyOK, noSl, noSlL, flatBs, List.contains, List.elem, Option.isSome_some, Option.isSome_none, List.nodup_nil, List.nodup_cons, List.not_mem_nil, List.mem_cons, or_false, Option.getD_some, lh_spec_DrawCrossingPoints_spec_newReader, lh_spec_DrawCrossingPoints_spec_anySegments, hs_spec_newReader, hs_spec_anySegments, rdr, hsz, hbt, hd]
  exact ⟨List.take_length.symm, _, _, rfl, by rw [len_encQs]; exact Nat.le_refl _, (take_encQs _).symm⟩
def sp_spec_DrawCrossingPoints : PSpec := ⟨fun xs => match xs with | [.sl 1 bes] => isBy bes ∧ ((fun (b : List Int) => ∀ x ∈ b, 0 ≤ x ∧ x < 256) (toIs bes)) ∧ ((fun (b : List Int) => b.length ≤ 1048576) (toIs bes)) | _ => False, fun xs => match xs with | [.sl _ bes] => (fun (b : List Int) => .sl 4 (encQs (drawSs b))) (toIs bes) | _ => .junk, false⟩
theorem gk_spec_DrawCrossingPoints : ∀ args, sp_spec_DrawCrossingPoints.pre args → ICall Try.prog 25 args (sp_spec_DrawCrossingPoints.val args) := by
  intro args h
  unfold sp_spec_DrawCrossingPoints at h ⊢; simp only at h ⊢; split at h
  · obtain ⟨h0, h1, h2⟩ := h
    obtain ⟨l0, rfl⟩ := isBy_ex h0
    simp only [toBy_enc] at *
    exact c_spec_DrawCrossingPoints _ h1 h2
  · exact h.elim
theorem en_spec_DrawCrossingPoints : Enters Try.prog 25 := enters_of Try.func25 (by kernel_rfl) rfl

def g_impl_Relation : List (Nat × PSpec) := [(96, sp_impl_Segment_valid), (86, sp_impl_relation)]
theorem gok_impl_Relation : GOK Try.prog g_impl_Relation := gok_cons gk_impl_Segment_valid en_impl_Segment_valid (gok_cons gk_impl_relation en_impl_relation (gok0))
theorem lk_impl_Relation_impl_Segment_valid : lkG g_impl_Relation 96 = sp_impl_Segment_valid := rfl
theorem lk_impl_Relation_impl_relation : lkG g_impl_Relation 86 = sp_impl_relation := rfl
def h_impl_Relation : List (Nat × HSpec) := []
theorem hok_impl_Relation : HOK Try.prog h_impl_Relation := hok0
theorem c_impl_Relation (s : Qd) (t : Qd) (hs : vSg s = true) (ht : vSg t = true) : ICall Try.prog 28 [encQ s, encQ t] (.num .i64 (relP s t)) := by
  refine icall_V (G := g_impl_Relation) (H := []) [] tabOK mixed gok_impl_Relation hok_impl_Relation Try.func28 rfl Try.ntmps28 Try.results28 rfl (by kernel_rfl) fun F hN hlen => ?_
  obtain ⟨a1, _, _, n1⟩ := vSg_facts hs
  obtain ⟨a2, _, _, n2⟩ := vSg_facts ht
  simp only [V_seq, V_skip, V_ret, V_region, V_cond, brW_false, W_nil, W_cons, effOp2, KN_seq, KXr_nil, QE, asB, effOp, effPure, effPick, effNew, effBox, effCall, giveUp, hasAll, skipE, pureV, pickV, partV, loadV, solid, IV.cells, ofC, strip, lkT, lkH, ISt.app, opI, gO, gB, allB, gval, wrapG, dstOK, setD, mentTm, mentHp, IV.ment, IV.mentL, oneI, lendV, lendP, lent, lentP, idsV, idsL, lkHS, flat, clean, callArgs, callFn, allLent, enumT, Gives, Ideal.Fin, conv, conv0, Op.operands, reduceIte, reduceCtorEq, cond_true, cond_false, Bool.or_false, Bool.and_true, Bool.not_true, Nat.reduceAdd, Nat.reduceLT, Nat.reduceLeDiff, Nat.reduceEqDiff, Nat.reduceBEq, Nat.zero_add, ne_eq, not_false_eq_true, beq_self_eq_true, and_false, and_self, implies_true, List.map_cons, List.map_nil, List.nil_append, List.cons_append, List.append_nil, List.all_cons, List.all_nil, Option.bind_some, List.getElem?_cons_zero, List.getElem?_cons_succ, List.getD_cons_zero, List.length_cons, List.length_nil, List.take_succ_cons, List.take_nil, List.drop_zero, ex_clo, or_self, Bool.false_eq_true, tab47, hN, pe, encQ, lk_impl_Relation_impl_Segment_valid, lk_impl_Relation_impl_relation, sp_impl_Segment_valid, sp_impl_relation, hs, ht, a1, a2, n1, n2]
def sp_impl_Relation : PSpec := ⟨fun xs => match xs with | [.agg [.num .i64 s1, .num .i64 s2, .num .i64 s3, .num .i64 s4], .agg [.num .i64 t1, .num .i64 t2, .num .i64 t3, .num .i64 t4]] => ((fun (s : Qd) (t : Qd) => vSg s = true) ((s1, s2), (s3, s4)) ((t1, t2), (t3, t4))) ∧ ((fun (s : Qd) (t : Qd) => vSg t = true) ((s1, s2), (s3, s4)) ((t1, t2), (t3, t4))) | _ => False, fun xs => match xs with | [.agg [.num _ s1, .num _ s2, .num _ s3, .num _ s4], .agg [.num _ t1, .num _ t2, .num _ t3, .num _ t4]] => (fun (s : Qd) (t : Qd) => .num .i64 (relP s t)) ((s1, s2), (s3, s4)) ((t1, t2), (t3, t4)) | _ => .junk, false⟩
theorem gk_impl_Relation : ∀ args, sp_impl_Relation.pre args → ICall Try.prog 28 args (sp_impl_Relation.val args) := by
  intro args h
  unfold sp_impl_Relation at h ⊢; simp only at h ⊢; split at h
  · obtain ⟨h0, h1⟩ := h
    simp only [toPs_enc] at *
    exact c_impl_Relation ((_, _), (_, _)) ((_, _), (_, _)) h0 h1
  · exact h.elim
theorem en_impl_Relation : Enters Try.prog 28 := enters_of Try.func28 (by kernel_rfl) rfl

def g_impl_MeetPoint : List (Nat × PSpec) := [(28, sp_impl_Relation), (87, sp_impl_meet)]
theorem gok_impl_MeetPoint : GOK Try.prog g_impl_MeetPoint := gok_cons gk_impl_Relation en_impl_Relation (gok_cons gk_impl_meet en_impl_meet (gok0))
theorem lk_impl_MeetPoint_impl_Relation : lkG g_impl_MeetPoint 28 = sp_impl_Relation := rfl
theorem lk_impl_MeetPoint_impl_meet : lkG g_impl_MeetPoint 87 = sp_impl_meet := rfl
def h_impl_MeetPoint : List (Nat × HSpec) := []
theorem hok_impl_MeetPoint : HOK Try.prog h_impl_MeetPoint := hok0
theorem c_impl_MeetPoint (s : Qd) (t : Qd) (hs : vSg s = true) (ht : vSg t = true) (h : relP s t = 2) : ICall Try.prog 29 [encQ s, encQ t] (.tup [encQ (crossQ s t), .bool true]) := by
  refine icall_of_hcall (v := .tup [encQ (crossQ s t), .bool true]) (hp' := []) id ?_ (by simp [SLe0, convTm, convHp, conv, convL, conv0, lkT, clean, encQ]) (by simp [idsV, idsL, encQ])
  refine hcall_V (G := g_impl_MeetPoint) (H := []) [] tabOK mixed gok_impl_MeetPoint hok_impl_MeetPoint Try.func29 rfl Try.ntmps29 Try.results29 rfl (by kernel_rfl) fun F hN hlen => ?_
  have d1 : ((2 : Int) != 1) = true := rfl
  have d2 : ((2 : Int) != 2) = false := rfl
  simp only [V_seq, V_skip, V_ret, V_region, V_cond, brW_false, W_nil, W_cons, effOp2, KN_seq, KXr_nil, QE, asB, effOp, effPure, effPick, effNew, effAlloc, effBox, effStore, effCall, giveUp, hasAll, skipE, pureV, pickV, storeV, binV, partV, loadV, over, solid, IV.cells, ofC, strip, lkT, lkH, ISt.app, opI, gO, gB, allB, gval, wrapG, dstOK, setD, mentTm, mentHp, IV.ment, IV.mentL, oneI, lendV, lendP, lent, lentP, idsV, idsL, lkHS, flat, flatL, clean, cleanL, callArgs, callFn, allLent, enumT, conv, conv0, convL, Op.operands, reduceIte, reduceCtorEq, cond_true, Bool.or_false, Bool.and_true, Bool.not_true, Nat.reduceAdd, Nat.reduceLT, Nat.reduceLeDiff, Nat.reduceEqDiff, Nat.reduceBEq, Nat.zero_add, beq_self_eq_true, true_and, and_false, and_self, implies_true, List.map_cons, List.map_nil, List.nil_append, List.cons_append, List.append_nil, List.all_cons, List.all_nil, Option.bind_some, List.getElem?_cons_zero, List.getElem?_cons_succ, List.getD_cons_zero, List.length_cons, List.length_nil, List.take_succ_cons, List.take_zero, List.take_nil, List.drop_succ_cons, List.drop_zero, List.drop_nil, ex_clo, or_self, Bool.true_eq_false, tab39, tab47, hN, pe, encQ, FinH, resA, resL, resV, SLe, SLe0, convTm, convHp, lk_impl_MeetPoint_impl_Relation, lk_impl_MeetPoint_impl_meet, sp_impl_Relation, sp_impl_meet, hs, ht, h, d1, d2]
  exact ⟨id, List.nodup_nil, fun _ _ _ => rfl⟩
def sp_impl_MeetPoint : PSpec := ⟨fun xs => match xs with | [.agg [.num .i64 s1, .num .i64 s2, .num .i64 s3, .num .i64 s4], .agg [.num .i64 t1, .num .i64 t2, .num .i64 t3, .num .i64 t4]] => ((fun (s : Qd) (t : Qd) => vSg s = true) ((s1, s2), (s3, s4)) ((t1, t2), (t3, t4))) ∧ ((fun (s : Qd) (t : Qd) => vSg t = true) ((s1, s2), (s3, s4)) ((t1, t2), (t3, t4))) ∧ ((fun (s : Qd) (t : Qd) => relP s t = 2) ((s1, s2), (s3, s4)) ((t1, t2), (t3, t4))) | _ => False, fun xs => match xs with | [.agg [.num _ s1, .num _ s2, .num _ s3, .num _ s4], .agg [.num _ t1, .num _ t2, .num _ t3, .num _ t4]] => (fun (s : Qd) (t : Qd) => .tup [encQ (crossQ s t), .bool true]) ((s1, s2), (s3, s4)) ((t1, t2), (t3, t4)) | _ => .junk, false⟩
theorem gk_impl_MeetPoint : ∀ args, sp_impl_MeetPoint.pre args → ICall Try.prog 29 args (sp_impl_MeetPoint.val args) := by
  intro args h
  unfold sp_impl_MeetPoint at h ⊢; simp only at h ⊢; split at h
  · obtain ⟨h0, h1, h2⟩ := h
    simp only [toPs_enc] at *
    exact c_impl_MeetPoint ((_, _), (_, _)) ((_, _), (_, _)) h0 h1 h2
  · exact h.elim
theorem en_impl_MeetPoint : Enters Try.prog 29 := enters_of Try.func29 (by kernel_rfl) rfl

theorem crossQ_comm {s t : Qd} (h : denX s t ≠ 0) : crossQ t s = crossQ s t := by
  unfold crossQ ratQ
  rw [x_neg s t, y_neg s t, den_neg s t, rat_neg h, rat_neg h]
theorem qAt_rev {l : List Qd} {i : Nat} (h : i < l.length) : qAt l.reverse i = qAt l (l.length - 1 - i) := by
  rw [qAt, qAt, List.getD, List.getD, List.getElem?_reverse h]
theorem crs_rev {l : List Qd} (h : okSs l = true) : okSs l.reverse = true ∧ crsP l.reverse = crsP l := by
  have hr : okSs l.reverse = true := by
    simp only [okSs, Bool.and_eq_true, List.all_eq_true, decide_eq_true_eq, List.length_reverse, List.mem_reverse] at h ⊢; exact h
  refine ⟨hr, ?_⟩
  unfold crsP
  have g1 := crs_good hr
  have g2 := crs_good h
  rw [List.length_reverse] at g1 ⊢
  refine foldQ_same g1 g2 fun q => prs_back fun i j h1 h2 => ?_
  unfold crF
  simp only [Int.toNat_natCast]
  rw [qAt_rev (by omega), qAt_rev (by omega)]
  have v1 := okSs_at h (show l.length - 1 - i < l.length by omega)
  have v2 := okSs_at h (show l.length - 1 - j < l.length by omega)
  generalize qAt l (l.length - 1 - i) = s at *
  generalize qAt l (l.length - 1 - j) = t at *
  rw [rel_comm t s]
  cases hc : (relP s t == 2) with
  | false => rfl
  | true =>
    obtain ⟨_, s1, s2, _⟩ := vSg_facts v1
    obtain ⟨_, t1, t2, _⟩ := vSg_facts v2
    have := (cross_nums s1 s2 t1 t2 (by simpa using hc)).1
    rw [if_pos rfl, if_pos rfl, crossQ_comm this]
theorem crs_mem {l : List Qd} {i j : Nat} (h1 : i < j) (h2 : j < l.length) (hr : relP (qAt l i) (qAt l j) = 2) : crossQ (qAt l i) (qAt l j) ∈ crsP l := by
  unfold crsP
  rw [mem_foldQ, prs_flat_mem]
  refine .inl ⟨i, j, h1, h2, ?_⟩
  unfold crF
  simp only [Int.toNat_natCast]
  rw [if_pos (by simpa using hr)]; simp
theorem take_rev_succ {l : List Qd} {k : Nat} (h : k < l.length) : l.reverse.take (k + 1) = l.reverse.take k ++ [qAt l (l.length - 1 - k)] := by
  rw [take_succ_g (d := ((0, 0), (0, 0))) (by simpa using h), ← qAt_rev h]
def g_laws_equalRatPoints : List (Nat × PSpec) := []
theorem gok_laws_equalRatPoints : GOK Try.prog g_laws_equalRatPoints := gok0
def h_laws_equalRatPoints : List (Nat × HSpec) := []
theorem hok_laws_equalRatPoints : HOK Try.prog h_laws_equalRatPoints := hok0
theorem c_laws_equalRatPoints (a : List Qd) (b : List Qd)  : ICall Try.prog 17 [.sl 4 (encQs a), .sl 4 (encQs b)] (.bool (a == b)) := by
  refine icall_V (G := g_laws_equalRatPoints) (H := []) [] tabOK mixed gok_laws_equalRatPoints hok_laws_equalRatPoints Try.func17 rfl Try.ntmps17 Try.results17 rfl (by kernel_rfl) fun F hN hlen => ?_
  have la := hlen 0 4 _ rfl
  have lb := hlen 1 4 _ rfl
  have ea := len_encQs a
  have eb := len_encQs b
  rw [ea] at la
  rw [eb] at lb
  simp only [V_seq, V_region, V_cond, W_nil, W_cons, effOp2, KN_seq, asB, effOp, effPure, pureV, binV, lenV, ofC, strip, lkT, ISt.app, opI, gO, gB, allB, gval, wrapG, dstOK, setD, enumT, Op.operands, Call.operands, List.append_toArray, reduceIte, reduceCtorEq, Nat.reduceLT, Nat.reduceEqDiff, Nat.zero_add, ne_eq, not_false_eq_true, true_and, and_self, implies_true, List.nil_append, List.cons_append, List.append_nil, tab25, hN, ea, eb]
  refine brW_some (fun h => ?_) (fun h => ?_)
  · simp only [V_seq, V_ret, V_region, W_nil, W_cons, effOp2, KN_seq, KXr_nil, KXr_seq, QE, effOp, effPure, pureV, ofC, strip, lkT, lkH, ISt.app, opI, gO, gB, allB, gval, wrapG, dstOK, setD, clean, Gives, Ideal.Fin, conv, conv0, Op.operands, reduceIte, reduceCtorEq, Nat.reduceLT, Nat.reduceEqDiff, true_and, and_true, and_self, implies_true, List.nil_append, List.cons_append, List.append_nil, hN]
    have : a ≠ b := by rintro rfl; simp at h
    simp [this]
  · simp only [V_seq, V_skip, V_block, V_region, W_nil, W_cons, effOp2, KN_seq, effOp, effPure, pureV, ofC, strip, ISt.app, opI, gO, gB, allB, gval, wrapG, dstOK, setD, Op.operands, Nat.reduceLT, true_and, and_self, implies_true, List.nil_append, List.cons_append, List.append_nil, hN]
    have hab : a.length = b.length := by simp at h; omega
    refine V_loop (α := Nat) ⟨tabOK, mixed, gok_laws_equalRatPoints, hok_laws_equalRatPoints⟩ (by kernel_rfl) (fun i => i ≤ a.length ∧ ∀ j, j < i → qAt a j = qAt b j) (fun i => ⟨[(5, .num .i64 i), (0, .sl 4 (encQs a)), (1, .sl 4 (encQs b))], []⟩) (fun i => a.length - i) 0 id (by simp) (by simp [SLe, SLe0, convTm, convHp, conv, conv0, lkT, lkH, clean]) ?_
    rintro i ⟨hi, hj⟩
    simp only [V_seq, V_region, V_cond, W_nil, W_cons, effOp2, KN_seq, asB, effOp, effPure, pureV, binV, lenV, strip, lkT, ISt.app, opI, gO, gB, allB, gval, wrapG, dstOK, setD, Op.operands, Call.operands, List.append_toArray, reduceIte, reduceCtorEq, Nat.reduceLT, Nat.reduceEqDiff, ne_eq, not_false_eq_true, true_and, and_self, implies_true, List.nil_append, List.cons_append, List.append_nil, tab25, hN, ea]
    refine brW_some (fun h => ?_) (fun h => ?_)
    · have hi' : i < a.length := by simpa using h
      have g1 := getD_encQs hi'
      have g2 := getD_encQs (hab ▸ hi' : i < b.length)
      have hw := wr_succ hi' la
      simp only [V_seq, V_skip, V_block, V_draw, V_cond, drawW, pairsOf, WD_nil, WD_cons, KN_seq, asB, effOp, effPure, pureV, binV, partV, eltV, loadV, iaddrV, strip, lkT, ISt.app, opI, gO, gB, allB, gval, wrapG, dstOK, setD, eqL, numsOnly, Op.operands, reduceIte, reduceCtorEq, Bool.and_true, Nat.reduceAdd, Nat.reduceLT, Nat.reduceLeDiff, Nat.reduceEqDiff, Nat.zero_add, ne_eq, not_false_eq_true, true_and, and_true, and_false, and_self, implies_true, forall_const, List.nil_append, List.cons_append, List.append_nil, List.getD_cons_zero, List.length_cons, List.length_nil, List.take_succ_cons, List.take_nil, List.drop_zero, tab25, tab39, hN, Int.toNat_natCast, ea, eb, Int.toNat_natCast, g1, g2, eqQ]
      repeat refine And.intro (by omega) ?_
      refine brW_some (fun h => ?_) (fun h => ?_)
      · simp only [V_seq, V_ret, V_region, W_nil, W_cons, effOp2, KN_seq, KXr_nil, KXr_seq, KXr_block, KXr_back, QE, effOp, effPure, pureV, ofC, strip, lkT, lkH, ISt.app, opI, gO, gB, allB, gval, wrapG, dstOK, setD, clean, Gives, Ideal.Fin, conv, conv0, Op.operands, reduceIte, reduceCtorEq, Nat.reduceLT, Nat.reduceEqDiff, true_and, and_true, and_self, implies_true, List.nil_append, List.cons_append, List.append_nil, hN]
        have : a ≠ b := by rintro rfl; simp at h
        simp [this]
      · simp only [V_skip, V_region, W_nil, W_cons, effOp2, KN_seq, KN_block, KN_back, effOp, effPure, pureV, binV, ofC, strip, lkT, ISt.app, opI, gO, gB, allB, gval, wrapG, dstOK, setD, Op.operands, reduceIte, reduceCtorEq, Nat.reduceLT, Nat.reduceEqDiff, true_and, and_self, implies_true, List.nil_append, List.cons_append, List.append_nil, hN, hw]
        refine ⟨i + 1, id, ⟨by omega, ?_⟩, by simp only []; omega, by simp [SLe, SLe0, convTm, convHp, conv, conv0, lkT, lkH, clean]⟩
        intro j hj'
        rcases Nat.lt_succ_iff_lt_or_eq.1 hj' with h' | rfl
        · exact hj j h'
        · simpa using h
    · simp only [V_seq, V_ret, V_exit, V_region, W_nil, W_cons, effOp2, KN_seq, KXr_nil, KXe_nil, KXe_seq, KXe_block, KXe_back, QE, effOp, effPure, pureV, ofC, strip, lkT, lkH, ISt.app, opI, gO, gB, allB, gval, wrapG, dstOK, setD, clean, Gives, Ideal.Fin, conv, conv0, Op.operands, reduceIte, reduceCtorEq, Nat.reduceLT, Nat.reduceEqDiff, true_and, and_true, and_self, implies_true, List.nil_append, List.cons_append, List.append_nil, hN]
      have hie : i = a.length := by simp at h; omega
      have : a = b := eq_of_getD hab (fun j h' => hj j (by omega))
      simp [this]
def sp_laws_equalRatPoints : PSpec := ⟨fun xs => match xs with | [.sl 4 aes, .sl 4 bes] => isQs aes ∧ isQs bes | _ => False, fun xs => match xs with | [.sl _ aes, .sl _ bes] => (fun (a : List Qd) (b : List Qd) => .bool (a == b)) (toQs aes) (toQs bes) | _ => .junk, false⟩
theorem gk_laws_equalRatPoints : ∀ args, sp_laws_equalRatPoints.pre args → ICall Try.prog 17 args (sp_laws_equalRatPoints.val args) := by
  intro args h
  unfold sp_laws_equalRatPoints at h ⊢; simp only at h ⊢; split at h
  · obtain ⟨h0, h1⟩ := h
    obtain ⟨l0, rfl⟩ := isQ_ex h0
    obtain ⟨l1, rfl⟩ := isQ_ex h1
    simp only [toQs_enc] at *
    exact c_laws_equalRatPoints _ _ 
  · exact h.elim
theorem en_laws_equalRatPoints : Enters Try.prog 17 := enters_of Try.func17 (by kernel_rfl) rfl

def g_impl_CrossingPoints : List (Nat × PSpec) := [(84, sp_impl_segmentsOk), (85, sp_impl_pairs), (86, sp_impl_relation), (87, sp_impl_meet)]
theorem gok_impl_CrossingPoints : GOK Try.prog g_impl_CrossingPoints := gok_cons gk_impl_segmentsOk en_impl_segmentsOk (gok_cons gk_impl_pairs en_impl_pairs (gok_cons gk_impl_relation en_impl_relation (gok_cons gk_impl_meet en_impl_meet (gok0))))
theorem lk_impl_CrossingPoints_impl_segmentsOk : lkG g_impl_CrossingPoints 84 = sp_impl_segmentsOk := rfl
theorem lk_impl_CrossingPoints_impl_pairs : lkG g_impl_CrossingPoints 85 = sp_impl_pairs := rfl
theorem lk_impl_CrossingPoints_impl_relation : lkG g_impl_CrossingPoints 86 = sp_impl_relation := rfl
theorem lk_impl_CrossingPoints_impl_meet : lkG g_impl_CrossingPoints 87 = sp_impl_meet := rfl
def h_impl_CrossingPoints : List (Nat × HSpec) := [(88, hs_slices_SortFunc_impl_RatPoint_impl_RatPoint), (91, hs_slices_Compact_impl_RatPoint_impl_RatPoint), (90, hs_slices_Clip_impl_RatPoint_impl_RatPoint)]
theorem hok_impl_CrossingPoints : HOK Try.prog h_impl_CrossingPoints := hok_cons hk_slices_SortFunc_impl_RatPoint_impl_RatPoint en_slices_SortFunc_impl_RatPoint_impl_RatPoint (hok_cons hk_slices_Compact_impl_RatPoint_impl_RatPoint en_slices_Compact_impl_RatPoint_impl_RatPoint (hok_cons hk_slices_Clip_impl_RatPoint_impl_RatPoint en_slices_Clip_impl_RatPoint_impl_RatPoint (hok0)))
theorem lh_impl_CrossingPoints_impl_segmentsOk : lkHS h_impl_CrossingPoints 84 = none := rfl
theorem lh_impl_CrossingPoints_impl_pairs : lkHS h_impl_CrossingPoints 85 = none := rfl
theorem lh_impl_CrossingPoints_impl_relation : lkHS h_impl_CrossingPoints 86 = none := rfl
theorem lh_impl_CrossingPoints_impl_meet : lkHS h_impl_CrossingPoints 87 = none := rfl
theorem lh_impl_CrossingPoints_slices_SortFunc_impl_RatPoint_impl_RatPoint : lkHS h_impl_CrossingPoints 88 = some hs_slices_SortFunc_impl_RatPoint_impl_RatPoint := rfl
theorem lh_impl_CrossingPoints_slices_Compact_impl_RatPoint_impl_RatPoint : lkHS h_impl_CrossingPoints 91 = some hs_slices_Compact_impl_RatPoint_impl_RatPoint := rfl
theorem lh_impl_CrossingPoints_slices_Clip_impl_RatPoint_impl_RatPoint : lkHS h_impl_CrossingPoints 90 = some hs_slices_Clip_impl_RatPoint_impl_RatPoint := rfl
theorem c_impl_CrossingPoints (l : List Qd)  : ICall Try.prog 26 [.sl 4 (encQs l)] (.sl 4 (encQs (crsV l))) := by
  cases hk : okSs l with
  | true =>
    have e : crsV l = crsP l := by rw [crsV, hk]; rfl
    rw [e]
    exact icall_of_F (icallF_ref' (c_impl_CrossingPoints_h l hk) (len_encQs _).symm (noSl_encQs _)) (fun id => rfl)
  | false =>
    have e : crsV l = [] := by rw [crsV, hk]; rfl
    rw [e]
    exact c_impl_CrossingPoints_e0 l hk
def sp_impl_CrossingPoints : PSpec := ⟨fun xs => match xs with | [.sl 4 les] => isQs les | _ => False, fun xs => match xs with | [.sl _ les] => (fun (l : List Qd) => .sl 4 (encQs (crsV l))) (toQs les) | _ => .junk, false⟩
theorem gk_impl_CrossingPoints : ∀ args, sp_impl_CrossingPoints.pre args → ICall Try.prog 26 args (sp_impl_CrossingPoints.val args) := by
  intro args h
  unfold sp_impl_CrossingPoints at h ⊢; simp only at h ⊢; split at h
  · have h0 := h
    obtain ⟨l0, rfl⟩ := isQ_ex h0
    simp only [toQs_enc] at *
    exact c_impl_CrossingPoints _ 
  · exact h.elim
theorem en_impl_CrossingPoints : Enters Try.prog 26 := enters_of Try.func26 (by kernel_rfl) rfl

def g_laws_FnCrossingPoints : List (Nat × PSpec) := [(25, sp_spec_DrawCrossingPoints), (26, sp_impl_CrossingPoints), (27, sp_spec_CrossingPoints), (17, sp_laws_equalRatPoints), (28, sp_impl_Relation), (29, sp_impl_MeetPoint)]
theorem gok_laws_FnCrossingPoints : GOK Try.prog g_laws_FnCrossingPoints := gok_cons gk_spec_DrawCrossingPoints en_spec_DrawCrossingPoints (gok_cons gk_impl_CrossingPoints en_impl_CrossingPoints (gok_cons gk_spec_CrossingPoints en_spec_CrossingPoints (gok_cons gk_laws_equalRatPoints en_laws_equalRatPoints (gok_cons gk_impl_Relation en_impl_Relation (gok_cons gk_impl_MeetPoint en_impl_MeetPoint (gok0))))))
theorem lk_laws_FnCrossingPoints_spec_DrawCrossingPoints : lkG g_laws_FnCrossingPoints 25 = sp_spec_DrawCrossingPoints := rfl
theorem lk_laws_FnCrossingPoints_impl_CrossingPoints : lkG g_laws_FnCrossingPoints 26 = sp_impl_CrossingPoints := rfl
theorem lk_laws_FnCrossingPoints_spec_CrossingPoints : lkG g_laws_FnCrossingPoints 27 = sp_spec_CrossingPoints := rfl
theorem lk_laws_FnCrossingPoints_laws_equalRatPoints : lkG g_laws_FnCrossingPoints 17 = sp_laws_equalRatPoints := rfl
theorem lk_laws_FnCrossingPoints_impl_Relation : lkG g_laws_FnCrossingPoints 28 = sp_impl_Relation := rfl
theorem lk_laws_FnCrossingPoints_impl_MeetPoint : lkG g_laws_FnCrossingPoints 29 = sp_impl_MeetPoint := rfl
def h_laws_FnCrossingPoints : List (Nat × HSpec) := []
theorem hok_laws_FnCrossingPoints : HOK Try.prog h_laws_FnCrossingPoints := hok0
theorem c_laws_FnCrossingPoints (b : List Int) (hb : ∀ x ∈ b, 0 ≤ x ∧ x < 256) : ICall Try.prog 6 [.sl 1 (encBy b)] (.bool true) := by
  refine icall_V (G := g_laws_FnCrossingPoints) (H := []) [(18, [(0, 8), (1, 8), (2, 8), (4, 8), (5, 8), (6, 8)]), (19, [(0, 8), (1, 8), (2, 8), (4, 8), (5, 8), (6, 8), (8, 10), (8, 11), (0, 12), (1, 12), (2, 12), (3, 12), (4, 12), (5, 12), (6, 12), (7, 12), (8, 12), (9, 12), (10, 12), (11, 12), (11, 13)])] tabOK mixed gok_laws_FnCrossingPoints hok_laws_FnCrossingPoints Try.func6 rfl Try.ntmps6 Try.results6 rfl (by kernel_rfl) fun F hN hlen => ?_
  have eb := len_encBy b
  have hself : ∀ x : List Qd, (x == x) = true := fun x => by simp
  simp only [V_seq, V_region, V_cond, W_nil, W_cons, effOp2, KN_seq, asB, effOp, effPure, pureV, binV, lenV, ofC, strip, lkT, ISt.app, opI, gO, gB, allB, gval, wrapG, dstOK, setD, enumT, Op.operands, Call.operands, List.append_toArray, reduceIte, reduceCtorEq, Nat.reduceLT, Nat.reduceEqDiff, ne_eq, not_false_eq_true, true_and, and_self, implies_true, List.nil_append, List.cons_append, List.append_nil, tab22, hN, eb]
  refine brW_some (fun h => ?_) (fun h => ?_)
  · simp only [V_seq, V_ret, V_region, W_nil, W_cons, effOp2, KN_seq, KXr_nil, KXr_seq, QE, effOp, effPure, pureV, ofC, strip, lkT, lkH, ISt.app, opI, gO, gB, allB, gval, wrapG, dstOK, setD, clean, Gives, Ideal.Fin, conv, conv0, Op.operands, reduceIte, reduceCtorEq, Nat.reduceLT, Nat.reduceEqDiff, and_self, implies_true, List.nil_append, List.cons_append, List.append_nil, hN]
  · have hsz : b.length ≤ 1048576 := by simp at h; omega
    obtain ⟨l, hl⟩ : ∃ l, drawSs b = l := ⟨_, rfl⟩
    rcases Nat.eq_zero_or_pos (crsV l).length with h0 | h0
    · have hn : crsV l = [] := List.length_eq_zero_iff.1 h0
      have d0 : (((0 : Nat) : Int) == 0) = true := rfl
      have e0 := len_encQs ([] : List Qd)
      simp only [V_seq, V_skip, V_ret, V_region, V_cond, brW_true, W_nil, W_cons, effOp2, KN_seq, KXr_nil, KXr_seq, QE, asB, effOp, effPure, effPick, effCall, giveUp, hasAll, pureV, pickV, binV, lenV, ofC, strip, lkT, lkH, ISt.app, opI, gO, gB, allB, gval, wrapG, dstOK, setD, lendV, lendP, lent, lentP, idsV, idsL, lkHS, flat, clean, callArgs, callFn, allLent, Gives, Ideal.Fin, conv, conv0, Op.operands, Call.operands, List.append_toArray, reduceIte, reduceCtorEq, cond_true, cond_false, Bool.or_false, Bool.not_true, Nat.reduceLT, Nat.reduceEqDiff, ne_eq, not_false_eq_true, beq_self_eq_true, true_and, and_true, and_self, implies_true, forall_const, List.map_cons, List.map_nil, List.nil_append, List.cons_append, List.append_nil, Option.bind_some, List.getElem?_cons_zero, List.getElem?_cons_succ, List.length_nil, ex_clo, or_true, or_self, Bool.false_eq_true, tab25, hN, isQs_enc, toQs_enc, isBy_enc, toBy_enc, lk_laws_FnCrossingPoints_spec_DrawCrossingPoints, lk_laws_FnCrossingPoints_impl_CrossingPoints, lk_laws_FnCrossingPoints_spec_CrossingPoints, lk_laws_FnCrossingPoints_laws_equalRatPoints, sp_spec_DrawCrossingPoints, sp_impl_CrossingPoints, sp_spec_CrossingPoints, sp_laws_equalRatPoints, hsz, hl, hn, e0, List.length_nil, d0]
      exact hb
    · have hk : okSs l = true := by
        cases hc : okSs l with
        | true => rfl
        | false =>
          have : crsV l = [] := by rw [crsV, hc]; rfl
          rw [this] at h0; cases h0
      obtain ⟨hkr, hcr⟩ := crs_rev hk
      have hcv : crsV l = crsP l := by rw [crsV, hk]; rfl
      have hcv2 : crsV l.reverse = crsV l := by rw [hcv, ← hcr, crsV, hkr]; rfl
      have h12 := okSs_len hk
      have hmem : ∀ i j, i < j → j < l.length → relP (qAt l i) (qAt l j) = 2 → (crsV l).any (· == crossQ (qAt l i) (qAt l j)) = true := fun i j h1 h2 hr => by
        rw [List.any_eq_true]; exact ⟨_, by rw [hcv]; exact crs_mem h1 h2 hr, by simp⟩
      have hzC : (crsV l).length ≤ 1000 := by
        rw [hcv]
        have h1 := fold_len ((prs l.length l.length).flatMap (crF l)) []
        have h2 := flat_len l (prs l.length l.length)
        have h3 := prs_len l.length l.length
        have h4 : l.length * l.length ≤ 12 * 12 := Nat.mul_le_mul h12 h12
        rw [List.length_nil] at h1
        unfold crsP; omega
      obtain ⟨C, hC⟩ : ∃ C, crsV l = C := ⟨_, rfl⟩
      rw [hC] at h0 hcv2 hmem hzC
      have eC := len_encQs C
      have el := len_encQs l
      have d0 : ((C.length : Int) == 0) = false := by rw [beq_eq_false_iff_ne]; omega
      have w1 : IntKind.i64.wrap ((l.length : Int) - 1) = (l.length : Int) - 1 := wr (by omega) (by omega)
      simp only [V_seq, V_skip, V_block, V_region, V_cond, brW_false, W_nil, W_cons, effOp2, KN_seq, asB, effOp, effPure, effPick, effNew, effBuildSlice, effFrz, frz, tmpsOf, effCall, giveUp, hasAll, skipE, pureV, pickV, binV, lenV, ofC, strip, lkT, lkH, ISt.app, opI, gO, gB, allB, gval, wrapG, dstOK, setD, mentTm, mentHp, IV.ment, partsL, eltsI, lendV, lendP, lent, lentP, idsV, idsL, lkHS, flat, clean, callArgs, callFn, allLent, Op.operands, Call.operands, List.append_toArray, reduceIte, reduceCtorEq, cond_true, cond_false, Bool.or_false, Bool.not_true, Nat.reduceMul, Nat.reduceLT, Nat.reduceLeDiff, Nat.reduceEqDiff, ne_eq, not_false_eq_true, beq_self_eq_true, true_and, and_true, and_self, implies_true, forall_const, List.map_cons, List.map_nil, List.nil_append, List.cons_append, List.append_nil, Option.bind_some, List.getElem?_cons_zero, List.getElem?_cons_succ, List.length_nil, ex_clo, or_true, or_self, Bool.false_eq_true, tab25, tab43, tab47, hN, isQs_enc, toQs_enc, isBy_enc, toBy_enc, lk_laws_FnCrossingPoints_spec_DrawCrossingPoints, lk_laws_FnCrossingPoints_impl_CrossingPoints, lk_laws_FnCrossingPoints_spec_CrossingPoints, lk_laws_FnCrossingPoints_laws_equalRatPoints, sp_spec_DrawCrossingPoints, sp_impl_CrossingPoints, sp_spec_CrossingPoints, sp_laws_equalRatPoints, hsz, hl, hC, eC, el, d0, w1]
      refine ⟨hb, ?_⟩
      refine V_loop (α := Nat) ⟨tabOK, mixed, gok_laws_FnCrossingPoints, hok_laws_FnCrossingPoints⟩ (by kernel_rfl) (fun k => k ≤ l.length) (fun k => ⟨[(6, .num .i64 ((l.length : Int) - 1 - (k : Int))), (5, .ref 34 0 k true), (4, .sl 4 (encQs C)), (3, .sl 4 (encQs l))], [(34, some (.arr 4 47 (encQs (l.reverse.take k))))]⟩) (fun k => l.length - k) 0 id (Nat.zero_le _) (by simp [SLe, SLe0, convTm, convHp, convB, conv, conv0, lkT, lkH, clean, encQs]) ?_
      intro k hk2
      have ek : (encQs (l.reverse.take k)).length = k := by rw [len_encQs, List.length_take, List.length_reverse]; omega
      have hx : ∃ k' ty es, IBlk.arr 4 47 (encQs (l.reverse.take k)) = IBlk.arr k' ty es := ⟨_, _, _, rfl⟩
      simp only [V_seq, V_region, V_cond, W_nil, W_cons, effOp2, KN_seq, asB, effOp, effPure, pureV, binV, ofC, strip, lkT, ISt.app, opI, gO, gB, allB, gval, wrapG, dstOK, setD, Op.operands, reduceIte, Nat.reduceLT, Nat.reduceEqDiff, true_and, and_self, implies_true, List.nil_append, List.cons_append, hN]
      refine brW_some (fun h => ?_) (fun h => ?_)
      · have hk3 : k < l.length := by simp at h; omega
        have hidx : (l.length : Int) - 1 - (k : Int) = ((l.length - 1 - k : Nat) : Int) := by omega
        have w2 : IntKind.i64.wrap (((l.length - 1 - k : Nat) : Int) - 1) = (l.length : Int) - 1 - ((k + 1 : Nat) : Int) := by rw [wr (by omega) (by omega)]; omega
        have g0 := getD_encQs (l := l) (i := l.length - 1 - k) (by omega)
        have hst := take_rev_succ hk3
        have hen : encQs (l.reverse.take (k + 1)) = (encQs (l.reverse.take k)).take k ++ [IV.agg [.num .i64 (qAt l (l.length - 1 - k)).1.1, .num .i64 (qAt l (l.length - 1 - k)).1.2, .num .i64 (qAt l (l.length - 1 - k)).2.1, .num .i64 (qAt l (l.length - 1 - k)).2.2]] := by
          rw [hst, ← encQs_app, show (encQs (l.reverse.take k)).take k = encQs (l.reverse.take k) from List.take_of_length_le (by omega)]; rfl
        simp only [V_seq, V_skip, V_block, V_region, W_nil, W_cons, effOp2, KN_seq, KN_block, KN_back, effOp, effPure, effNew, effBuildSlice, effFrz, frz, tmpsOf, effAppend, effZeros, skipE, pureV, srcV, refId, binV, partV, eltV, loadV, iaddrV, ofC, strip, lkT, lkH, ISt.app, opI, gO, gB, allB, gval, wrapG, dstOK, setD, mentTm, mentHp, IV.ment, IV.mentL, partsL, eltsI, eltI, oneI, noId', Op.operands, reduceIte, reduceCtorEq, cond_true, Bool.or_false, Bool.and_true, Nat.reduceAdd, Nat.reduceMul, Nat.reduceLT, Nat.reduceLeDiff, Nat.reduceEqDiff, Nat.reduceBEq, Nat.zero_add, ne_eq, not_false_eq_true, true_and, and_true, and_false, and_self, implies_true, forall_const, List.nil_append, List.cons_append, List.append_nil, List.all_cons, List.all_nil, Option.some.injEq, List.getD_cons_zero, List.length_cons, List.length_nil, List.take_succ_cons, List.take_nil, List.drop_zero, tab43, tab47, hN, Int.toNat_natCast, hidx, el, ek, g0, w2]
        repeat refine And.intro (by first | omega | (simp; done) | (simp; omega)) ?_
        refine ⟨k + 1, fun x => if x = 34 then 48 else x, by simp only []; omega, by simp only []; omega, ?_⟩
        simp only [hen]
        simp [SLe, SLe0, convTm, convHp, convB, conv, conv0, lkT, lkH, clean, ek]
        exact ⟨(List.take_of_length_le (by rw [List.length_append, List.length_take, ek, Nat.min_self]; exact Nat.le_refl _)).symm, fun id a c d => by omega⟩
      · have hke : k = l.length := by simp at h; omega
        subst hke
        have hrl : l.reverse.take l.length = l.reverse := List.take_of_length_le (by simp)
        rw [hrl] at ek hx ⊢
        have tkr : (encQs l.reverse).take l.length = encQs l.reverse := List.take_of_length_le (by omega)
        simp only [V_seq, V_exit, V_block, V_region, W_nil, W_cons, effOp2, KN_seq, KXe_nil, KXe_seq, KXe_block, KXe_back, QE, effOp, effPure, pureV, ofC, strip, ISt.app, opI, gO, gB, allB, gval, wrapG, dstOK, setD, Ideal.Fin, Op.operands, reduceIte, Nat.reduceLT, true_and, and_self, implies_true, List.nil_append, List.cons_append, hN]
        refine V_loop (α := Nat) ⟨tabOK, mixed, gok_laws_FnCrossingPoints, hok_laws_FnCrossingPoints⟩ (by kernel_rfl) (fun i => i ≤ l.length) (fun i => ⟨[(7, .num .i64 i), (5, .ref 34 0 l.length true), (4, .sl 4 (encQs C)), (3, .sl 4 (encQs l))], [(34, some (.arr 4 47 (encQs l.reverse)))]⟩) (fun i => l.length - i) 0 id (Nat.zero_le _) (by simp [SLe, SLe0, convTm, convHp, convB, conv, conv0, lkT, lkH, clean]) ?_
        intro i hi
        simp only [V_seq, V_region, V_cond, W_nil, W_cons, effOp2, KN_seq, asB, effOp, effPure, pureV, binV, lenV, strip, lkT, ISt.app, opI, gO, gB, allB, gval, wrapG, dstOK, setD, Op.operands, Call.operands, List.append_toArray, reduceIte, reduceCtorEq, Nat.reduceLT, Nat.reduceEqDiff, ne_eq, not_false_eq_true, true_and, and_self, implies_true, List.nil_append, List.cons_append, tab43, hN, el]
        refine brW_some (fun h => ?_) (fun h => ?_)
        · have hi' : i < l.length := by simpa using h
          have hw := wr_succ hi' (by rw [maxLen_eq]; omega)
          have va := okSs_at hk hi'
          have ga := getD_encQs hi'
          simp only [V_seq, V_skip, V_block, V_region, W_nil, W_cons, effOp2, KN_seq, effOp, effPure, pureV, binV, ofC, strip, lkT, ISt.app, opI, gO, gB, allB, gval, wrapG, dstOK, setD, Op.operands, reduceIte, Nat.reduceLT, Nat.reduceEqDiff, true_and, and_self, implies_true, List.nil_append, List.cons_append, hN, hw]
          refine V_loop (α := Nat) ⟨tabOK, mixed, gok_laws_FnCrossingPoints, hok_laws_FnCrossingPoints⟩ (by kernel_rfl) (fun k => i + 1 + k ≤ l.length) (fun k => ⟨[(8, .num .i64 ((i + 1 + k : Nat) : Int)), (7, .num .i64 i), (5, .ref 34 0 l.length true), (4, .sl 4 (encQs C)), (3, .sl 4 (encQs l))], [(34, some (.arr 4 47 (encQs l.reverse)))]⟩) (fun k => l.length - k) 0 id (by omega) (by simp [SLe, SLe0, convTm, convHp, convB, conv, conv0, lkT, lkH, clean]) ?_
          intro k hk4
          simp only [V_seq, V_region, V_cond, W_nil, W_cons, effOp2, KN_seq, asB, effOp, effPure, pureV, binV, lenV, strip, lkT, ISt.app, opI, gO, gB, allB, gval, wrapG, dstOK, setD, Op.operands, Call.operands, List.append_toArray, reduceIte, reduceCtorEq, Nat.reduceLT, Nat.reduceEqDiff, ne_eq, not_false_eq_true, true_and, and_self, implies_true, List.nil_append, List.cons_append, tab43, hN, el]
          refine brW_some (fun h => ?_) (fun h => ?_)
          · have hk' : i + 1 + k < l.length := by simp at h; omega
            have hw2 : IntKind.i64.wrap (((i + 1 + k : Nat) : Int) + 1) = ((i + 1 + (k + 1) : Nat) : Int) := by rw [wr (by omega) (by omega)]; omega
            have vb := okSs_at hk hk'
            have gb := getD_encQs hk'
            have hm := hmem i (i + 1 + k) (by omega) hk'
            obtain ⟨j, hj⟩ : ∃ j, i + 1 + k = j := ⟨_, rfl⟩
            rw [hj] at hk' gb vb hw2 hm ⊢
            obtain ⟨s, hsa⟩ : ∃ s, qAt l i = s := ⟨_, rfl⟩
            obtain ⟨t, htb⟩ : ∃ t, qAt l j = t := ⟨_, rfl⟩
            rw [hsa] at ga va hm
            rw [htb] at gb vb hm
            cases hr : (relP s t != 2) with
            | true =>
              simp only [V_seq, V_skip, V_ret, V_exit, V_block, V_region, V_draw, V_cond, brW_true, drawW, WS_nil, pairsOf, W_nil, W_cons, effOp2, WI_nil, WI_cons, KN_seq, KN_block, KN_back, KXr_nil, KXe_nil, KXe_seq, KXe_block, KXe_back, QE, dynOK, indB, farB, freshB, heapy, asB, effOp, effPure, effCall, giveUp, hasAll, Option.isSome_some, pureV, binV, partV, eltV, loadV, iaddrV, ofC, strip, lkT, lkH, ISt.app, opI, gO, gB, allB, gval, wrapG, dstOK, setD, mentTm, mentHp, IV.ment, lendV, lendP, lent, lentP, idsV, idsL, lkHS, flat, clean, callArgs, callFn, allLent, Gives, Ideal.Fin, conv, conv0, Op.operands, Call.operands, List.append_toArray, reduceIte, reduceCtorEq, cond_true, cond_false, Bool.or_false, Bool.and_true, Bool.and_eq_true, Bool.not_true, Bool.not_false, Nat.reduceAdd, Nat.reduceLT, Nat.reduceLeDiff, Nat.reduceEqDiff, Nat.reduceBEq, Nat.zero_add, ne_eq, not_false_eq_true, true_and, and_true, and_false, and_self, implies_true, forall_const, List.map_cons, List.map_nil, List.nil_append, List.cons_append, List.append_nil, List.getD_cons_zero, List.getD_cons_succ, List.length_cons, List.length_nil, List.take_succ_cons, List.take_zero, List.take_nil, List.drop_zero, ex_clo, or_true, or_self, Bool.false_eq_true, tab43, tab47, hN, pe, Int.toNat_natCast, isQs_enc, toQs_enc, lk_laws_FnCrossingPoints_impl_CrossingPoints, lk_laws_FnCrossingPoints_laws_equalRatPoints, lk_laws_FnCrossingPoints_impl_Relation, sp_impl_CrossingPoints, sp_laws_equalRatPoints, sp_impl_Relation, el, hw2, ga, gb, va, vb, hr]
              repeat refine And.intro (by first | omega | (simp; done) | (simp; omega)) ?_
              exact ⟨k + 1, id, by simp only []; omega, by simp only []; omega, by simp [SLe, SLe0, convTm, convHp, convB, conv, conv0, lkT, lkH, clean]⟩
            | false =>
              have hr2 : relP s t = 2 := by simpa using hr
              have hmm := hm hr2
              obtain ⟨q, hq⟩ : ∃ q, crossQ s t = q := ⟨_, rfl⟩
              rw [hq] at hmm
              have d22 : ((2 : Int) != 2) = false := rfl
              simp only [V_seq, V_skip, V_block, V_region, V_draw, V_cond, brW_false, drawW, WS_nil, pairsOf, W_nil, W_cons, effOp2, WI_nil, WI_cons, KN_seq, dynOK, indB, farB, seeB, see, isStore, freshB, heapy, asB, effOp, effPure, effNew, effAlloc, effStore, effCall, giveUp, hasAll, skipE, pureV, storeV, binV, partV, eltV, loadV, iaddrV, over, solid, IV.cells, ofC, strip, lkT, lkH, ISt.app, opI, gO, gB, allB, gval, wrapG, dstOK, setD, mentTm, mentHp, IV.ment, IV.mentL, oneI, lendV, lendP, lent, lentP, idsV, idsL, lkHS, flat, flatL, clean, cleanL, callArgs, callFn, allLent, Op.operands, Call.operands, List.append_toArray, reduceIte, reduceCtorEq, cond_true, cond_false, Bool.or_false, Bool.or_true, Bool.and_true, Bool.and_false, Bool.and_eq_true, Bool.not_true, Bool.not_false, Nat.reduceAdd, Nat.reduceLT, Nat.reduceLeDiff, Nat.reduceEqDiff, Nat.reduceBEq, Nat.zero_add, ne_eq, not_false_eq_true, beq_self_eq_true, true_and, and_true, and_false, and_self, implies_true, forall_const, List.map_cons, List.map_nil, List.nil_append, List.cons_append, List.append_nil, List.all_cons, List.all_nil, List.getD_cons_zero, List.getD_cons_succ, List.length_cons, List.length_nil, List.take_succ_cons, List.take_zero, List.take_nil, List.drop_succ_cons, List.drop_zero, List.drop_nil, ex_clo, or_self, tab39, tab43, tab47, hN, pe, Int.toNat_natCast, encQ, lk_laws_FnCrossingPoints_impl_Relation, lk_laws_FnCrossingPoints_impl_MeetPoint, sp_impl_Relation, sp_impl_MeetPoint, el, ga, gb, va, vb, d22, hr2, hq]
              repeat refine And.intro (by first | omega | (simp; done) | (simp; omega)) ?_
              refine V_loop (α := Nat) ⟨tabOK, mixed, gok_laws_FnCrossingPoints, hok_laws_FnCrossingPoints⟩ (by kernel_rfl) (fun n => n ≤ C.length) (fun n => ⟨[(12, .num .i64 n), (11, .bool ((C.take n).any (· == q))), (9, .ptr 9 0), (8, .num .i64 j), (7, .num .i64 i), (5, .ref 34 0 l.length true), (4, .sl 4 (encQs C)), (3, .sl 4 (encQs l))], [(9, some (.box 39 [.num .i64 q.1.1, .num .i64 q.1.2, .num .i64 q.2.1, .num .i64 q.2.2])), (34, some (.arr 4 47 (encQs l.reverse)))]⟩) (fun n => C.length - n) 0 id (Nat.zero_le _) (by simp [SLe, SLe0, convTm, convHp, convB, conv, conv0, convL, lkT, lkH, clean]) ?_
              intro n hn
              simp only [V_seq, V_region, V_cond, W_nil, W_cons, effOp2, KN_seq, asB, effOp, effPure, pureV, binV, lenV, strip, lkT, ISt.app, opI, gO, gB, allB, gval, wrapG, dstOK, setD, Op.operands, Call.operands, List.append_toArray, reduceIte, reduceCtorEq, Nat.reduceLT, Nat.reduceEqDiff, ne_eq, not_false_eq_true, true_and, and_self, implies_true, List.nil_append, List.cons_append, tab25, hN, eC]
              refine brW_some (fun h => ?_) (fun h => ?_)
              · have hn' : n < C.length := by simpa using h
                have g1 := getD_encQs hn'
                have hw3 := wr_succ hn' (by rw [maxLen_eq]; omega)
                have hst : (C.take (n + 1)).any (· == q) = ((C.take n).any (· == q) || (qAt C n == q)) := by
                  rw [take_succ_g (d := ((0, 0), (0, 0))) hn', List.any_append]; simp
                generalize qAt C n = r at *
                cases h7 : (C.take n).any (· == q) with
                | true =>
                  rw [h7, Bool.true_or] at hst
                  simp only [V_seq, V_skip, V_block, V_region, V_draw, drawW, pairsOf, W_nil, W_cons, WD_nil, WD_cons, effOp2, KN_seq, KN_block, KN_back, effOp, effPure, effPick, pureV, pickV, binV, partV, eltV, loadV, iaddrV, ofC, strip, lkT, lkH, ISt.app, opI, gO, gB, allB, gval, wrapG, dstOK, setD, eqL, numsOnly, Op.operands, reduceIte, reduceCtorEq, cond_true, Bool.and_true, Nat.reduceAdd, Nat.reduceLT, Nat.reduceLeDiff, Nat.reduceEqDiff, Nat.zero_add, ne_eq, not_false_eq_true, true_and, and_true, false_and, and_false, and_self, false_implies, implies_true, List.nil_append, List.cons_append, Option.bind_some, List.getElem?_cons_zero, List.getElem?_cons_succ, List.getD_cons_zero, List.length_cons, List.length_nil, List.take_succ_cons, List.take_nil, List.drop_zero, btf, Bool.true_eq_false, Bool.false_eq_true, tab25, tab39, hN, Int.toNat_natCast, eC, g1, hw3, eqQ]
                  repeat refine And.intro (by first | omega | (simp; done) | (simp; omega)) ?_
                  refine ⟨n + 1, id, by simp only []; omega, by simp only []; omega, ?_⟩
                  simp only [hst]
                  exact by simp [SLe, SLe0, convTm, convHp, convB, conv, conv0, convL, lkT, lkH, clean]
                | false =>
                  rw [h7, Bool.false_or] at hst
                  simp only [V_seq, V_skip, V_block, V_region, V_draw, drawW, pairsOf, W_nil, W_cons, WD_nil, WD_cons, effOp2, KN_seq, KN_block, KN_back, effOp, effPure, effPick, pureV, pickV, binV, partV, eltV, loadV, iaddrV, ofC, strip, lkT, lkH, ISt.app, opI, gO, gB, allB, gval, wrapG, dstOK, setD, eqL, numsOnly, Op.operands, reduceIte, reduceCtorEq, cond_false, Bool.and_true, Nat.reduceAdd, Nat.reduceLT, Nat.reduceLeDiff, Nat.reduceEqDiff, Nat.zero_add, ne_eq, not_false_eq_true, beq_self_eq_true, true_and, and_true, and_false, and_self, implies_true, forall_const, List.nil_append, List.cons_append, Option.bind_some, List.getElem?_cons_zero, List.getElem?_cons_succ, List.getD_cons_zero, List.length_cons, List.length_nil, List.take_succ_cons, List.take_nil, List.drop_zero, Bool.false_eq_true, tab25, tab39, hN, Int.toNat_natCast, eC, g1, hw3, eqQ]
                  repeat refine And.intro (by first | omega | (simp; done) | (simp; omega)) ?_
                  refine ⟨n + 1, id, by simp only []; omega, by simp only []; omega, ?_⟩
                  simp only [hst]
                  exact by simp [SLe, SLe0, convTm, convHp, convB, conv, conv0, convL, lkT, lkH, clean]
              · have hne : n = C.length := by simp at h; omega
                subst hne
                have hany : (C.take C.length).any (· == q) = true := by rw [List.take_length]; exact hmm
                simp only [V_seq, V_skip, V_ret, V_exit, V_region, V_cond, brW_false, W_nil, W_cons, effOp2, KN_seq, KN_block, KN_back, KXr_nil, KXe_nil, KXe_seq, KXe_block, KXe_back, QE, asB, effOp, effPure, effCall, giveUp, hasAll, Option.isSome_some, pureV, binV, ofC, strip, lkT, lkH, ISt.app, opI, gO, gB, allB, gval, wrapG, dstOK, setD, lendV, lendP, lent, lentP, idsV, idsL, lkHS, flat, clean, callArgs, callFn, allLent, Gives, Ideal.Fin, conv, conv0, Op.operands, reduceIte, cond_true, cond_false, Bool.or_false, Bool.not_true, Nat.reduceLT, Nat.reduceEqDiff, Nat.zero_add, true_and, and_true, and_self, implies_true, forall_const, List.map_cons, List.map_nil, List.nil_append, List.cons_append, List.append_nil, List.drop_zero, ex_clo, or_true, or_self, Bool.false_eq_true, hN, isQs_enc, toQs_enc, lk_laws_FnCrossingPoints_impl_CrossingPoints, lk_laws_FnCrossingPoints_laws_equalRatPoints, sp_impl_CrossingPoints, sp_laws_equalRatPoints, hany, hw2]
                exact ⟨k + 1, id, by simp only []; omega, by simp only []; omega, by simp [SLe, SLe0, convTm, convHp, convB, conv, conv0, lkT, lkH, clean]⟩
          · have hke : i + 1 + k = l.length := by simp at h; omega
            simp only [V_seq, V_ret, V_exit, V_region, W_nil, W_cons, effOp2, KN_seq, KN_block, KN_back, KXr_nil, KXe_nil, KXe_seq, KXe_block, KXe_back, QE, effOp, effPure, effCall, giveUp, hasAll, Option.isSome_some, pureV, binV, ofC, strip, lkT, lkH, ISt.app, opI, gO, gB, allB, gval, wrapG, dstOK, setD, lendV, lendP, lent, lentP, idsV, idsL, lkHS, flat, clean, callArgs, callFn, allLent, Gives, Ideal.Fin, conv, conv0, Op.operands, reduceIte, cond_true, cond_false, Bool.or_false, Bool.not_true, Nat.reduceLT, Nat.reduceEqDiff, Nat.zero_add, true_and, and_true, and_self, implies_true, forall_const, List.map_cons, List.map_nil, List.nil_append, List.cons_append, List.append_nil, List.drop_zero, ex_clo, or_true, or_self, Bool.false_eq_true, hN, isQs_enc, toQs_enc, lk_laws_FnCrossingPoints_impl_CrossingPoints, lk_laws_FnCrossingPoints_laws_equalRatPoints, sp_impl_CrossingPoints, sp_laws_equalRatPoints, hw]
            exact ⟨i + 1, id, by simp only []; omega, by simp only []; omega, by simp [SLe, SLe0, convTm, convHp, convB, conv, conv0, lkT, lkH, clean]⟩
        · have hie : i = l.length := by simp at h; omega
          subst hie
          simp only [V_seq, V_ret, V_exit, V_region, W_nil, W_cons, effOp2, KN_seq, KXr_nil, KXe_nil, KXe_seq, KXe_block, KXe_back, QE, effOp, effPure, effCall, giveUp, hasAll, Option.isSome_some, pureV, strip, lkT, lkH, ISt.app, opI, gO, gB, allB, gval, wrapG, dstOK, setD, lendV, lendP, lent, lentP, idsV, idsL, lkHS, flat, clean, callArgs, callFn, allLent, Gives, Ideal.Fin, conv, conv0, Op.operands, reduceIte, cond_true, cond_false, Bool.or_false, Bool.not_true, Nat.reduceLT, Nat.reduceEqDiff, Nat.zero_add, beq_self_eq_true, true_and, and_true, and_self, implies_true, forall_const, List.map_cons, List.map_nil, List.nil_append, List.cons_append, List.append_nil, List.drop_zero, ex_clo, or_true, or_self, Bool.false_eq_true, hN, isQs_enc, toQs_enc, lk_laws_FnCrossingPoints_impl_CrossingPoints, lk_laws_FnCrossingPoints_laws_equalRatPoints, sp_impl_CrossingPoints, sp_laws_equalRatPoints, ek, tkr, hcv2]
          omega
def sp_laws_FnCrossingPoints : PSpec := ⟨fun xs => match xs with | [.sl 1 bes] => isBy bes ∧ ((fun (b : List Int) => ∀ x ∈ b, 0 ≤ x ∧ x < 256) (toIs bes)) | _ => False, fun xs => match xs with | [.sl _ bes] => (fun (b : List Int) => .bool true) (toIs bes) | _ => .junk, false⟩
theorem gk_laws_FnCrossingPoints : ∀ args, sp_laws_FnCrossingPoints.pre args → ICall Try.prog 6 args (sp_laws_FnCrossingPoints.val args) := by
  intro args h
  unfold sp_laws_FnCrossingPoints at h ⊢; simp only at h ⊢; split at h
  · obtain ⟨h0, h1⟩ := h
    obtain ⟨l0, rfl⟩ := isBy_ex h0
    simp only [toBy_enc] at *
    exact c_laws_FnCrossingPoints _ h1
  · exact h.elim
theorem en_laws_FnCrossingPoints : Enters Try.prog 6 := enters_of Try.func6 (by kernel_rfl) rfl

end Go.Proofs.Ytjlcbomigbolcaa
