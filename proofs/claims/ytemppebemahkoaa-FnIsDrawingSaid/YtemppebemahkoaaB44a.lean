/- Contracts: drawn segments. -/
import Derived.Test.YtemppebemahkoaaB1
import Derived.Test.YtemppebemahkoaaBO
set_option linter.unusedVariables false
set_option linter.unusedSimpArgs false
set_option maxHeartbeats 1600000
set_option maxRecDepth 100000
namespace Go.Proofs.Ytemppebemahkoaa
open Go Go.Ideal Go.Pl Go.Sort

theorem encQs_setD (l : List Qd) (m : Nat) (p : Qd) : (encQs l).set m (.agg [.num .i64 p.1.1, .num .i64 p.1.2, .num .i64 p.2.1, .num .i64 p.2.2]) = encQs (l.set m p) := by
  show (l.map encQ).set m (encQ p) = (l.set m p).map encQ
  rw [List.map_set]
theorem aPoint_le (b : List Int) (p : Nat) : (aPoint b p).2 ≤ p + 4 := by
  unfold aPoint; split
  · simp
  · split <;> simp
def aSeg (b : List Int) (p : Nat) : Qd × Nat :=
  if ((aPoint b p).1 == rPoint b (aPoint b p).2) = false then (((aPoint b p).1, rPoint b (aPoint b p).2), (aPoint b p).2 + 2)
  else if 0 < pickI b ((aPoint b p).2 + 2) 4 then (((aPoint b p).1, ((rPoint b (aPoint b p).2).1 + 1, (rPoint b (aPoint b p).2).2)), (aPoint b p).2 + 3)
  else (((aPoint b p).1, rPoint b (aPoint b p).2), (aPoint b p).2 + 3)
def g_spec_anySegment : List (Nat × PSpec) := []
theorem gok_spec_anySegment : GOK Try.prog g_spec_anySegment := gok0
def h_spec_anySegment : List (Nat × HSpec) := [(115, hs_spec_anyPoint), (148, hs_spec_randomPoint), (89, hs_spec_reader_pick)]
theorem hok_spec_anySegment : HOK Try.prog h_spec_anySegment := hok_cons hk_spec_anyPoint en_spec_anyPoint (hok_cons hk_spec_randomPoint en_spec_randomPoint (hok_cons hk_spec_reader_pick en_spec_reader_pick (hok0)))
theorem lh_spec_anySegment_spec_anyPoint : lkHS h_spec_anySegment 115 = some hs_spec_anyPoint := rfl
theorem lh_spec_anySegment_spec_randomPoint : lkHS h_spec_anySegment 148 = some hs_spec_randomPoint := rfl
theorem lh_spec_anySegment_spec_reader_pick : lkHS h_spec_anySegment 89 = some hs_spec_reader_pick := rfl
theorem c_spec_anySegment (b : List Int) (p : Nat) (hb : BytesOK b) (hp : p ≤ 700000) : HCall Try.prog 190 [.ptr 1000 0] (sm ([(1000, rdr b p)])) (encQ (aSeg b p).1) (sm ([(1000, rdr b (aSeg b p).2)])) := by
  refine hcall_V (G := g_spec_anySegment) (H := h_spec_anySegment) [] tabOK mixed gok_spec_anySegment hok_spec_anySegment Try.func190 rfl Try.ntmps190 Try.results190 rfl (by kernel_rfl) fun F hN hlen => ?_
  simp only [sm]
  have hp1 : p ≤ 800000 := by omega
  have hv := aPoint_le b p
  have hA : aSeg b p = if ((aPoint b p).1 == rPoint b (aPoint b p).2) = false then (((aPoint b p).1, rPoint b (aPoint b p).2), (aPoint b p).2 + 2)
      else if 0 < pickI b ((aPoint b p).2 + 2) 4 then (((aPoint b p).1, ((rPoint b (aPoint b p).2).1 + 1, (rPoint b (aPoint b p).2).2)), (aPoint b p).2 + 3)
      else (((aPoint b p).1, rPoint b (aPoint b p).2), (aPoint b p).2 + 3) := rfl
  obtain ⟨A, hAA⟩ : ∃ A, (aPoint b p).1 = A := ⟨_, rfl⟩
  obtain ⟨q, hq⟩ : ∃ q, (aPoint b p).2 = q := ⟨_, rfl⟩
  rw [hAA, hq] at hA
  rw [hq] at hv
  have hr := rPoint_le hb (show q ≤ 1000000 by omega)
  obtain ⟨B, hB⟩ : ∃ B, rPoint b q = B := ⟨_, rfl⟩
  rw [hB] at hA hr
  have q1 : q ≤ 900000 := by omega
  have q2 : q + 2 ≤ 1000000 := by omega
  have w1 : IntKind.i64.wrap (B.1 + 1) = B.1 + 1 := wr (by omega) (by omega)
  cases c1 : (A == B) with
  | false =>
    rw [if_pos c1] at hA
    simp only [V_seq, V_skip, V_ret, V_region, V_cond, brW_false, W_nil, W_cons, effOp2, KN_seq, KXr_nil, QE, asB, effOp, effPure, effPick, effNew, effAlloc, effStore, Option.isSome_some, skipE, pureV, pickV, storeV, binV, partV, loadV, faddrV, over, solid, buildL, IV.cells, ofC, strip, lkT, lkH, ISt.app, opI, gO, gB, allB, gval, wrapG, dstOK, setD, mentTm, mentHp, IV.ment, IV.mentL, oneI, idsV, idsL, clean, callArgs, callFn, enumT, conv, conv0, convL, IBlk.shape, eqL, numsOnly, Op.operands, reduceIte, reduceCtorEq, cond_true, cond_false, Bool.or_false, Bool.or_true, Bool.and_true, Nat.reduceAdd, Nat.reduceSub, Nat.reduceMul, Nat.reduceLT, Nat.reduceLeDiff, Nat.reduceEqDiff, Nat.reduceBEq, Nat.add_zero, Nat.zero_add, ne_eq, not_false_eq_true, beq_self_eq_true, true_and, and_true, false_and, and_false, and_self, false_implies, implies_true, List.map_cons, List.map_nil, List.nil_append, List.cons_append, List.append_nil, List.all_cons, List.all_nil, Option.map_some, Option.bind_some, List.getElem?_cons_zero, List.getElem?_cons_succ, List.getD_cons_zero, List.getD_cons_succ, List.length_cons, List.length_nil, List.take_succ_cons, List.take_zero, List.take_nil, List.drop_succ_cons, List.drop_zero, List.drop_nil, ex_clo, bft, Bool.true_eq_false, Bool.false_eq_true, tab30, tab68, hN, Int.toNat_natCast, encP, encQ, isBy_enc, toBy_enc, FinH, resA, resV, SLe, SLe0, convTm, convHp, convB, sm, effH, mkHC0, mkHC1, lendM, lentM, lentI, allHere, addIds, idsB, flatIds, reach, posn, renV, renL, renB, renH, numB, subHp, fwd, bk, bwd, nones, keyOK, noSl, noSlL, flatBs, List.contains, List.elem, Option.isSome_some, List.nodup_nil, List.nodup_cons, List.not_mem_nil, or_false, Option.getD_some, lh_spec_anySegment_spec_anyPoint, lh_spec_anySegment_spec_randomPoint, lh_spec_anySegment_spec_reader_pick, hs_spec_anyPoint, hs_spec_randomPoint, hs_spec_reader_pick, rdr, hb, hp1, hAA, hq, hB, q1, eqP, c1, hA]
    exact ⟨id, by simp [convL, conv, conv0, clean]⟩
  | true =>
    rw [if_neg (by rw [c1]; decide)] at hA
    cases c2 : decide (0 < pickI b (q + 2) 4) with
    | true =>
      rw [if_pos (of_decide_eq_true c2)] at hA
      simp only [V_seq, V_ret, V_region, V_cond, brW_true, W_nil, W_cons, effOp2, KN_seq, KXr_nil, QE, asB, effOp, effPure, effPick, effNew, effAlloc, effStore, Option.isSome_some, skipE, pureV, pickV, storeV, binV, partV, loadV, faddrV, over, solid, buildL, IV.cells, ofC, strip, lkT, lkH, ISt.app, opI, gO, gB, allB, gval, wrapG, dstOK, setD, mentTm, mentHp, IV.ment, IV.mentL, oneI, idsV, idsL, clean, callArgs, callFn, enumT, conv, conv0, convL, IBlk.shape, eqL, numsOnly, Op.operands, reduceIte, reduceCtorEq, cond_true, cond_false, Bool.or_false, Bool.or_true, Bool.and_true, Nat.reduceAdd, Nat.reduceSub, Nat.reduceMul, Nat.reduceLT, Nat.reduceLeDiff, Nat.reduceEqDiff, Nat.reduceBEq, Nat.add_zero, Nat.zero_add, ne_eq, not_false_eq_true, beq_self_eq_true, true_and, and_true, and_false, and_self, false_implies, implies_true, List.map_cons, List.map_nil, List.nil_append, List.cons_append, List.append_nil, List.all_cons, List.all_nil, Option.map_some, Option.bind_some, List.getElem?_cons_zero, List.getElem?_cons_succ, List.getD_cons_zero, List.getD_cons_succ, List.length_cons, List.length_nil, List.take_succ_cons, List.take_zero, List.take_nil, List.drop_succ_cons, List.drop_zero, List.drop_nil, ex_clo, Bool.true_eq_false, Bool.false_eq_true, tab3, tab30, tab68, hN, Int.toNat_natCast, encP, encQ, isBy_enc, toBy_enc, FinH, resA, resV, SLe, SLe0, convTm, convHp, convB, sm, effH, mkHC0, mkHC1, lendM, lentM, lentI, allHere, addIds, idsB, flatIds, reach, posn, renV, renL, renB, renH, numB, subHp, fwd, bk, bwd, nones, keyOK, noSl, noSlL, flatBs, List.contains, List.elem, Option.isSome_some, List.nodup_nil, List.nodup_cons, List.not_mem_nil, or_false, Option.getD_some, lh_spec_anySegment_spec_anyPoint, lh_spec_anySegment_spec_randomPoint, lh_spec_anySegment_spec_reader_pick, hs_spec_anyPoint, hs_spec_randomPoint, hs_spec_reader_pick, rdr, hb, hp1, hAA, hq, hB, q1, q2, eqP, c1, c2, w1, hA]
      exact ⟨by omega, id, by simp [convL, conv, conv0, clean]; omega⟩
    | false =>
      rw [if_neg (of_decide_eq_false c2)] at hA
      simp only [V_seq, V_skip, V_ret, V_region, V_cond, brW_false, W_nil, W_cons, effOp2, KN_seq, KXr_nil, QE, asB, effOp, effPure, effPick, effNew, effAlloc, effStore, Option.isSome_some, skipE, pureV, pickV, storeV, binV, partV, loadV, faddrV, over, solid, buildL, IV.cells, ofC, strip, lkT, lkH, ISt.app, opI, gO, gB, allB, gval, wrapG, dstOK, setD, mentTm, mentHp, IV.ment, IV.mentL, oneI, idsV, idsL, clean, callArgs, callFn, enumT, conv, conv0, convL, IBlk.shape, eqL, numsOnly, Op.operands, reduceIte, reduceCtorEq, cond_true, cond_false, Bool.or_false, Bool.or_true, Bool.and_true, Nat.reduceAdd, Nat.reduceSub, Nat.reduceMul, Nat.reduceLT, Nat.reduceLeDiff, Nat.reduceEqDiff, Nat.reduceBEq, Nat.add_zero, Nat.zero_add, ne_eq, not_false_eq_true, beq_self_eq_true, true_and, and_true, and_false, and_self, false_implies, implies_true, List.map_cons, List.map_nil, List.nil_append, List.cons_append, List.append_nil, List.all_cons, List.all_nil, Option.map_some, Option.bind_some, List.getElem?_cons_zero, List.getElem?_cons_succ, List.getD_cons_zero, List.getD_cons_succ, List.length_cons, List.length_nil, List.take_succ_cons, List.take_zero, List.take_nil, List.drop_succ_cons, List.drop_zero, List.drop_nil, ex_clo, Bool.true_eq_false, Bool.false_eq_true, tab30, tab68, hN, Int.toNat_natCast, encP, encQ, isBy_enc, toBy_enc, FinH, resA, resV, SLe, SLe0, convTm, convHp, convB, sm, effH, mkHC0, mkHC1, lendM, lentM, lentI, allHere, addIds, idsB, flatIds, reach, posn, renV, renL, renB, renH, numB, subHp, fwd, bk, bwd, nones, keyOK, noSl, noSlL, flatBs, List.contains, List.elem, Option.isSome_some, List.nodup_nil, List.nodup_cons, List.not_mem_nil, or_false, Option.getD_some, lh_spec_anySegment_spec_anyPoint, lh_spec_anySegment_spec_randomPoint, lh_spec_anySegment_spec_reader_pick, hs_spec_anyPoint, hs_spec_randomPoint, hs_spec_reader_pick, rdr, hb, hp1, hAA, hq, hB, q1, q2, eqP, c1, c2, hA]
      exact ⟨by omega, id, by simp [convL, conv, conv0, clean]; omega⟩
def hs_spec_anySegment : HSpec := ⟨[false], fun xs hp => match xs, hp with | [.ptr 1000 0], [(1000, .box ty [.sl 1 es, .num .i64 pz])] => (isBy es) ∧ (ty = 136) ∧ (pz = (pz.toNat : Int)) ∧ ((fun (b : List Int) (p : Nat) => BytesOK b) (toIs es) pz.toNat) ∧ ((fun (b : List Int) (p : Nat) => p ≤ 700000) (toIs es) pz.toNat) | _, _ => False, fun xs hp => match xs, hp with | [.ptr 1000 0], [(1000, .box ty [.sl 1 es, .num .i64 pz])] => (fun (b : List Int) (p : Nat) => (encQ (aSeg b p).1 : IV)) (toIs es) pz.toNat | _, _ => .junk, fun xs hp => match xs, hp with | [.ptr 1000 0], [(1000, .box ty [.sl 1 es, .num .i64 pz])] => (fun (b : List Int) (p : Nat) => ([(1000, rdr b (aSeg b p).2)] : List (Nat × IBlk))) (toIs es) pz.toNat | _, _ => []⟩
theorem hk_spec_anySegment : ∀ args hp, hs_spec_anySegment.pre args hp → HCall Try.prog 190 args (sm hp) (hs_spec_anySegment.val args hp) (sm (hs_spec_anySegment.hval args hp)) := by
  intro args hp h
  unfold hs_spec_anySegment at h ⊢; simp only at h ⊢; split at h
  · obtain ⟨h1, rfl, h3, h4, h5⟩ := h; obtain ⟨l, rfl⟩ := isBy_ex h1; rw [toBy_enc] at *; rw [h3]; exact c_spec_anySegment l _ h4 (by simpa using h5)
  · exact h.elim
theorem en_spec_anySegment : Enters Try.prog 190 := enters_of Try.func190 (by kernel_rfl) rfl

def fixS (s : Qd) : Qd := if (s.1 == s.2) = true then (s.1, (s.2.1, s.2.2 + 1)) else s
def sgStep (b : List Int) (x : List Qd × Nat) : List Qd × Nat :=
  if x.1.length = 0 then (x.1 ++ [fixS (rPoint b x.2, rPoint b (x.2 + 2))], x.2 + 4)
  else if pickI b (x.2 + 4) 3 = 0 then (x.1 ++ [fixS ((qAt x.1 (pickI b (x.2 + 5) x.1.length).toNat).2, rPoint b (x.2 + 2))], x.2 + 6)
  else (x.1 ++ [fixS (rPoint b x.2, rPoint b (x.2 + 2))], x.2 + 5)
def sgLoop (b : List Int) (p : Nat) : Nat → List Qd × Nat
  | 0 => ([], p)
  | n + 1 => sgStep b (sgLoop b p n)
theorem sgLoop_bd (b : List Int) (p : Nat) : ∀ n, (sgLoop b p n).1.length = n ∧ (sgLoop b p n).2 ≤ p + 6 * n
  | 0 => by simp [sgLoop]
  | n + 1 => by
    have h := sgLoop_bd b p n
    rw [sgLoop, sgStep]
    split
    · simp only [List.length_append, List.length_cons, List.length_nil]; omega
    · split
      · simp only [List.length_append, List.length_cons, List.length_nil]; omega
      · simp only [List.length_append, List.length_cons, List.length_nil]; omega
def sgNum (b : List Int) (p : Nat) : Nat := [0, 1, 2, 3, 4, 6, 13].getD (pickI b p 7).toNat 0
def aSegs (b : List Int) (p : Nat) : List Qd × Nat :=
  if (sgLoop b (p + 1) (sgNum b p)).1.length = 0 then sgLoop b (p + 1) (sgNum b p)
  else if pickI b (sgLoop b (p + 1) (sgNum b p)).2 12 = 0 then ((sgLoop b (p + 1) (sgNum b p)).1.set 0 (aSeg b ((sgLoop b (p + 1) (sgNum b p)).2 + 1)).1, (aSeg b ((sgLoop b (p + 1) (sgNum b p)).2 + 1)).2)
  else ((sgLoop b (p + 1) (sgNum b p)).1, (sgLoop b (p + 1) (sgNum b p)).2 + 1)
def g_spec_anySegments : List (Nat × PSpec) := []
theorem gok_spec_anySegments : GOK Try.prog g_spec_anySegments := gok0
def h_spec_anySegments : List (Nat × HSpec) := [(166, hs_spec_reader_one), (148, hs_spec_randomPoint), (89, hs_spec_reader_pick), (190, hs_spec_anySegment)]
theorem hok_spec_anySegments : HOK Try.prog h_spec_anySegments := hok_cons hk_spec_reader_one en_spec_reader_one (hok_cons hk_spec_randomPoint en_spec_randomPoint (hok_cons hk_spec_reader_pick en_spec_reader_pick (hok_cons hk_spec_anySegment en_spec_anySegment (hok0))))
theorem lh_spec_anySegments_spec_reader_one : lkHS h_spec_anySegments 166 = some hs_spec_reader_one := rfl
theorem lh_spec_anySegments_spec_randomPoint : lkHS h_spec_anySegments 148 = some hs_spec_randomPoint := rfl
theorem lh_spec_anySegments_spec_reader_pick : lkHS h_spec_anySegments 89 = some hs_spec_reader_pick := rfl
theorem lh_spec_anySegments_spec_anySegment : lkHS h_spec_anySegments 190 = some hs_spec_anySegment := rfl
theorem c_spec_anySegments (b : List Int) (p : Nat) (hb : BytesOK b) (hp : p ≤ 600000) : HCall Try.prog 128 [.ptr 1000 0] (sm ([(1000, rdr b p)])) (.ref 0 0 (aSegs b p).1.length true) (sm ([(0, .arr 4 68 (encQs (aSegs b p).1)), (1000, rdr b (aSegs b p).2)])) := by
  refine hcall_V (G := g_spec_anySegments) (H := h_spec_anySegments) [] tabOK mixed gok_spec_anySegments hok_spec_anySegments Try.func128 rfl Try.ntmps128 Try.results128 rfl (by kernel_rfl) fun F hN hlen => ?_
  simp only [sm]
  have h1 := pick_nonneg hb (show p ≤ 1000000000 by omega) 7
  have h2 := h1.2.1 (by omega)
  have q1 : p ≤ 900000 := by omega
  obtain ⟨n, hn⟩ : ∃ n, sgNum b p = n := ⟨_, rfl⟩
  have n13 : n ≤ 13 := by
    rw [← hn, sgNum]
    obtain ⟨k, hk⟩ : ∃ k, (pickI b p 7).toNat = k := ⟨_, rfl⟩
    have hk8 : k < 7 := by omega
    rw [hk]
    match k, hk8 with
    | 0, _ | 1, _ | 2, _ | 3, _ | 4, _ | 5, _ | 6, _ => decide
  have e8 : encI [0, 1, 2, 3, 4, 6, 13] = [.num .i64 0, .num .i64 1, .num .i64 2, .num .i64 3, .num .i64 4, .num .i64 6, .num .i64 13] := rfl
  have hv : ([0, 1, 2, 3, 4, 6, 13] : List Int).getD (pickI b p 7).toNat 0 = ((n : Nat) : Int) := by
    rw [← hn, sgNum]
    obtain ⟨k, hk⟩ : ∃ k, (pickI b p 7).toNat = k := ⟨_, rfl⟩
    have hk8 : k < 7 := by omega
    rw [hk]
    match k, hk8 with
    | 0, _ | 1, _ | 2, _ | 3, _ | 4, _ | 5, _ | 6, _ => rfl
  have hA : aSegs b p = (if (sgLoop b (p + 1) n).1.length = 0 then sgLoop b (p + 1) n
      else if pickI b (sgLoop b (p + 1) n).2 12 = 0 then ((sgLoop b (p + 1) n).1.set 0 (aSeg b ((sgLoop b (p + 1) n).2 + 1)).1, (aSeg b ((sgLoop b (p + 1) n).2 + 1)).2)
      else ((sgLoop b (p + 1) n).1, (sgLoop b (p + 1) n).2 + 1)) := by unfold aSegs; rw [hn]
  have l8 : (([0, 1, 2, 3, 4, 6, 13] : List Int).length : Int) = 7 := rfl
  simp only [V_seq, V_block, V_region, W_nil, W_cons, effOp2, KN_seq, effOp, effPure, effNew, effBuildSlice, effFrz, frz, tmpsOf, Option.isSome_some, skipE, pureV, ofC, strip, lkT, lkH, ISt.app, opI, gO, gB, allB, gval, wrapG, dstOK, setD, mentTm, mentHp, IV.ment, IV.mentL, partsL, eltsI, eltI, noId', idsV, idsL, clean, callArgs, callFn, enumT, conv, conv0, convL, IBlk.shape, Op.operands, reduceIte, reduceCtorEq, cond_true, cond_false, Bool.or_false, Bool.or_true, Bool.and_true, Nat.reduceAdd, Nat.reduceSub, Nat.reduceMul, Nat.reduceLT, Nat.reduceLeDiff, Nat.reduceEqDiff, Nat.reduceBEq, Nat.zero_add, ne_eq, not_false_eq_true, beq_self_eq_true, true_and, and_false, and_self, implies_true, List.map_cons, List.map_nil, List.nil_append, List.cons_append, List.append_nil, List.all_nil, Option.map_some, List.getD_cons_zero, List.getD_cons_succ, List.length_cons, List.length_nil, List.take_succ_cons, List.take_nil, ex_clo, or_self, Bool.true_eq_false, Bool.false_eq_true, tab3, tab25, tab68, tab73, hN, Int.toNat_natCast, isBy_enc, toBy_enc, isIs_nil, toIs_nil, isIs_cons, toIs_cons, SLe0, convTm, convHp, convB, sm, effH, mkHC0, mkHC1, lendM, lentM, lentI, allHere, addIds, idsB, flatIds, reach, posn, renV, renL, renB, renH, numB, subHp, fwd, bk, bwd, nones, keyOK, noSl, noSlL, flatBs, List.contains, List.elem, Option.isSome_some, List.nodup_nil, List.nodup_cons, List.not_mem_nil, List.mem_cons, or_false, Option.getD_some, lh_spec_anySegments_spec_reader_one, hs_spec_reader_one, rdr, hb, q1, e8]
  refine V_loop (α := Nat) ⟨tabOK, mixed, gok_spec_anySegments, hok_spec_anySegments⟩ (by kernel_rfl) (fun i => i ≤ n) (fun i => ⟨[(4, .num .i64 ((n - i : Nat) : Int)), (3, .ref 6 0 i true), (0, .ptr 1000 0)], [(6, some (.arr 4 68 (encQs (sgLoop b (p + 1) i).1))), (1000, some (rdr b (sgLoop b (p + 1) i).2))]⟩) (fun i => n - i) 0 id (Nat.zero_le _) (by simp [SLe, SLe0, convTm, convHp, convB, conv, conv0, convL, lkT, lkH, clean, sgLoop, encQs, rdr]; exact hv) ?_
  intro i hi
  obtain ⟨hlen1, hbd⟩ := sgLoop_bd b (p + 1) i
  have hS : sgLoop b (p + 1) (i + 1) = sgStep b (sgLoop b (p + 1) i) := rfl
  unfold sgStep at hS
  have hAi : i = n → aSegs b p = (if (sgLoop b (p + 1) i).1.length = 0 then sgLoop b (p + 1) i
      else if pickI b (sgLoop b (p + 1) i).2 12 = 0 then ((sgLoop b (p + 1) i).1.set 0 (aSeg b ((sgLoop b (p + 1) i).2 + 1)).1, (aSeg b ((sgLoop b (p + 1) i).2 + 1)).2)
      else ((sgLoop b (p + 1) i).1, (sgLoop b (p + 1) i).2 + 1)) := fun e => by subst e; exact hA
  have hpair : sgLoop b (p + 1) i = ((sgLoop b (p + 1) i).1, (sgLoop b (p + 1) i).2) := rfl
  obtain ⟨L, hL⟩ : ∃ L, (sgLoop b (p + 1) i).1 = L := ⟨_, rfl⟩
  obtain ⟨q, hq⟩ : ∃ q, (sgLoop b (p + 1) i).2 = q := ⟨_, rfl⟩
  rw [hL, hq] at hS hpair
  rw [hL] at hlen1
  rw [hq] at hbd
  rw [hpair] at hAi
  simp only [hL, hq]
  have ln := len_encQs L
  have tl := take_encQs L
  rw [hlen1] at ln tl hS
  have hx : ∃ k ty es, IBlk.arr 4 68 (encQs L) = IBlk.arr k ty es := ⟨_, _, _, rfl⟩
  have q1000 : q ≤ 1000000 := by omega
  simp only [V_seq, V_region, V_cond, W_nil, W_cons, effOp2, KN_seq, asB, effOp, effPure, pureV, binV, ofC, strip, lkT, ISt.app, opI, gO, gB, allB, gval, wrapG, dstOK, setD, Op.operands, reduceIte, reduceCtorEq, Nat.reduceLT, Nat.reduceEqDiff, true_and, and_self, implies_true, List.nil_append, List.cons_append, hN, rdr]
  refine brW_some (fun h => ?_) (fun h => ?_)
  · have hlt : i < n := by simp at h; omega
    have w2 : IntKind.i64.wrap (((n - i : Nat) : Int) - 1) = ((n - (i + 1) : Nat) : Int) := by rw [wr (by omega) (by omega)]; omega
    have q900 : q ≤ 900000 := by omega
    have q902 : q + 2 ≤ 900000 := by omega
    have q904 : q + 2 + 2 ≤ 1000000 := by omega
    have q905 : q + 2 + 2 + 1 ≤ 1000000 := by omega
    have hr := rPoint_le hb (show q + 2 ≤ 1000000 by omega)
    obtain ⟨A, hA2⟩ : ∃ A, rPoint b q = A := ⟨_, rfl⟩
    obtain ⟨B, hB2⟩ : ∃ B, rPoint b (q + 2) = B := ⟨_, rfl⟩
    rw [hA2, hB2] at hS
    rw [hB2] at hr
    have w3 : IntKind.i64.wrap (B.2 + 1) = B.2 + 1 := wr (by omega) (by omega)
    have hfin : ∀ s r, sgLoop b (p + 1) (i + 1) = (L ++ [s], r) → encQs (sgLoop b (p + 1) (i + 1)).1 = (encQs L).take i ++ [IV.agg [.num .i64 s.1.1, .num .i64 s.1.2, .num .i64 s.2.1, .num .i64 s.2.2]] ∧ (sgLoop b (p + 1) (i + 1)).2 = r := fun s r hr => by
      rw [hr]
      refine ⟨?_, rfl⟩
      simp only []
      rw [← encQs_app, tl]; rfl
    rcases Nat.eq_zero_or_pos i with hz | hz
    · subst hz
      have d1 : decide ((0 : Int) < ((0 : Nat) : Int)) = false := rfl
      rw [if_pos rfl] at hS
      cases c1 : (A == B) with
      | false =>
        have e1 : fixS (A, B) = (A, B) := by unfold fixS; rw [if_neg (by simp only [c1]; decide)]
        rw [e1] at hS
        obtain ⟨f1, f2⟩ := hfin _ _ hS
        simp only [V_seq, V_skip, V_block, V_region, V_cond, brW_false, W_nil, W_cons, effOp2, KN_seq, KN_block, KN_back, asB, effOp, effPure, effPick, effNew, effAlloc, effBuildSlice, effFrz, frz, tmpsOf, effStore, effAppend, effZeros, Option.isSome_some, skipE, pureV, pickV, storeV, srcV, refId, binV, partV, loadV, faddrV, lenV, over, solid, buildL, IV.cells, ofC, strip, lkT, lkH, ISt.app, opI, gO, gB, allB, gval, wrapG, dstOK, setD, mentTm, mentHp, IV.ment, IV.mentL, partsL, eltsI, eltI, oneI, noId', idsV, idsL, clean, callArgs, callFn, enumT, conv, conv0, convL, IBlk.shape, eqL, numsOnly, Op.operands, Call.operands, List.append_toArray, reduceIte, reduceCtorEq, cond_true, cond_false, Bool.or_false, Bool.or_true, Bool.and_true, Nat.reduceAdd, Nat.reduceSub, Nat.reduceMul, Nat.reduceLT, Nat.reduceLeDiff, Nat.reduceEqDiff, Nat.reduceBEq, Nat.add_zero, Nat.zero_add, ne_eq, not_false_eq_true, beq_self_eq_true, true_and, and_true, false_and, and_false, and_self, false_implies, implies_true, List.map_cons, List.map_nil, List.nil_append, List.cons_append, List.append_nil, List.all_cons, List.all_nil, Option.some.injEq, Option.map_some, Option.bind_some, List.getElem?_cons_zero, List.getElem?_cons_succ, List.getD_cons_zero, List.getD_cons_succ, List.length_cons, List.length_nil, List.take_succ_cons, List.take_zero, List.take_nil, List.drop_succ_cons, List.drop_zero, List.drop_nil, ex_clo, bft, Bool.true_eq_false, Bool.false_eq_true, tab30, tab68, tab73, hN, Int.toNat_natCast, encP, isBy_enc, toBy_enc, SLe0, convTm, convHp, convB, sm, effH, mkHC0, mkHC1, lendM, lentM, lentI, allHere, addIds, idsB, flatIds, reach, posn, renV, renL, renB, renH, numB, subHp, fwd, bk, bwd, nones, keyOK, noSl, noSlL, flatBs, List.contains, List.elem, Option.isSome_some, List.nodup_nil, List.nodup_cons, List.not_mem_nil, or_false, Option.getD_some, lh_spec_anySegments_spec_randomPoint, lh_spec_anySegments_spec_reader_pick, hs_spec_randomPoint, hs_spec_reader_pick, rdr, hb, ln, q900, q902, hA2, hB2, d1, eqP, c1, w2]
        repeat refine And.intro (by first | omega | (simp; done) | (simp; omega)) ?_
        refine ⟨0 + 1, fun x => if x = 6 then 50 else x, by simp only []; omega, by simp only []; omega, ?_⟩
        simp only [f1, f2]
        simp [SLe, SLe0, convTm, convHp, convB, conv, conv0, convL, lkT, lkH, clean]
        exact ⟨by omega, fun id a c d => by omega⟩
      | true =>
        have e1 : fixS (A, B) = (A, (B.1, B.2 + 1)) := by unfold fixS; rw [if_pos (by simp only [c1])]
        rw [e1] at hS
        obtain ⟨f1, f2⟩ := hfin _ _ hS
        simp only [V_seq, V_skip, V_block, V_region, V_cond, brW_true, brW_false, W_nil, W_cons, effOp2, KN_seq, KN_block, KN_back, asB, effOp, effPure, effPick, effNew, effAlloc, effBuildSlice, effFrz, frz, tmpsOf, effStore, effAppend, effZeros, Option.isSome_some, skipE, pureV, pickV, storeV, srcV, refId, binV, partV, loadV, faddrV, lenV, over, solid, buildL, IV.cells, ofC, strip, lkT, lkH, ISt.app, opI, gO, gB, allB, gval, wrapG, dstOK, setD, mentTm, mentHp, IV.ment, IV.mentL, partsL, eltsI, eltI, oneI, noId', idsV, idsL, clean, callArgs, callFn, enumT, conv, conv0, convL, IBlk.shape, eqL, numsOnly, Op.operands, Call.operands, List.append_toArray, reduceIte, reduceCtorEq, cond_true, cond_false, Bool.or_false, Bool.or_true, Bool.and_true, Nat.reduceAdd, Nat.reduceSub, Nat.reduceMul, Nat.reduceLT, Nat.reduceLeDiff, Nat.reduceEqDiff, Nat.reduceBEq, Nat.add_zero, Nat.zero_add, ne_eq, not_false_eq_true, beq_self_eq_true, true_and, and_true, false_and, and_false, and_self, false_implies, implies_true, List.map_cons, List.map_nil, List.nil_append, List.cons_append, List.append_nil, List.all_cons, List.all_nil, Option.some.injEq, Option.map_some, Option.bind_some, List.getElem?_cons_zero, List.getElem?_cons_succ, List.getD_cons_zero, List.getD_cons_succ, List.length_cons, List.length_nil, List.take_succ_cons, List.take_zero, List.take_nil, List.drop_succ_cons, List.drop_zero, List.drop_nil, ex_clo, bft, Bool.true_eq_false, Bool.false_eq_true, tab3, tab30, tab68, tab73, hN, Int.toNat_natCast, encP, isBy_enc, toBy_enc, SLe0, convTm, convHp, convB, sm, effH, mkHC0, mkHC1, lendM, lentM, lentI, allHere, addIds, idsB, flatIds, reach, posn, renV, renL, renB, renH, numB, subHp, fwd, bk, bwd, nones, keyOK, noSl, noSlL, flatBs, List.contains, List.elem, Option.isSome_some, List.nodup_nil, List.nodup_cons, List.not_mem_nil, or_false, Option.getD_some, lh_spec_anySegments_spec_randomPoint, lh_spec_anySegments_spec_reader_pick, hs_spec_randomPoint, hs_spec_reader_pick, rdr, hb, ln, q900, q902, hA2, hB2, d1, eqP, c1, w2, w3]
        repeat refine And.intro (by first | omega | (simp; done) | (simp; omega)) ?_
        refine ⟨0 + 1, fun x => if x = 6 then 50 else x, by simp only []; omega, by simp only []; omega, ?_⟩
        simp only [f1, f2]
        simp [SLe, SLe0, convTm, convHp, convB, conv, conv0, convL, lkT, lkH, clean]
        exact ⟨by omega, fun id a c d => by omega⟩
    · have d1 : decide ((0 : Int) < ((i : Nat) : Int)) = true := by simpa using hz
      rw [if_neg (by omega)] at hS
      cases c3 : (pickI b (q + 2 + 2) 3 == 0) with
      | false =>
        rw [if_neg (by simpa using c3)] at hS
        cases c1 : (A == B) with
        | false =>
          have e1 : fixS (A, B) = (A, B) := by unfold fixS; rw [if_neg (by simp only [c1]; decide)]
          rw [e1] at hS
          obtain ⟨f1, f2⟩ := hfin _ _ hS
          simp only [V_seq, V_skip, V_block, V_region, V_cond, brW_false, W_nil, W_cons, effOp2, KN_seq, KN_block, KN_back, asB, effOp, effPure, effPick, effNew, effAlloc, effBuildSlice, effFrz, frz, tmpsOf, effStore, effAppend, effZeros, Option.isSome_some, skipE, pureV, pickV, storeV, srcV, refId, binV, partV, loadV, faddrV, lenV, over, solid, buildL, IV.cells, ofC, strip, lkT, lkH, ISt.app, opI, gO, gB, allB, gval, wrapG, dstOK, setD, mentTm, mentHp, IV.ment, IV.mentL, partsL, eltsI, eltI, oneI, noId', idsV, idsL, clean, callArgs, callFn, enumT, conv, conv0, convL, IBlk.shape, eqL, numsOnly, Op.operands, Call.operands, List.append_toArray, reduceIte, reduceCtorEq, cond_true, cond_false, Bool.or_false, Bool.or_true, Bool.and_true, Nat.reduceAdd, Nat.reduceSub, Nat.reduceMul, Nat.reduceLT, Nat.reduceLeDiff, Nat.reduceEqDiff, Nat.reduceBEq, Nat.add_zero, Nat.zero_add, ne_eq, not_false_eq_true, beq_self_eq_true, true_and, and_true, and_false, and_self, implies_true, List.map_cons, List.map_nil, List.nil_append, List.cons_append, List.append_nil, List.all_cons, List.all_nil, Option.some.injEq, Option.map_some, Option.bind_some, List.getElem?_cons_zero, List.getElem?_cons_succ, List.getD_cons_zero, List.getD_cons_succ, List.length_cons, List.length_nil, List.take_succ_cons, List.take_zero, List.take_nil, List.drop_succ_cons, List.drop_zero, List.drop_nil, ex_clo, Bool.true_eq_false, Bool.false_eq_true, tab30, tab68, tab73, hN, Int.toNat_natCast, encP, isBy_enc, toBy_enc, SLe0, convTm, convHp, convB, sm, effH, mkHC0, mkHC1, lendM, lentM, lentI, allHere, addIds, idsB, flatIds, reach, posn, renV, renL, renB, renH, numB, subHp, fwd, bk, bwd, nones, keyOK, noSl, noSlL, flatBs, List.contains, List.elem, Option.isSome_some, List.nodup_nil, List.nodup_cons, List.not_mem_nil, or_false, Option.getD_some, lh_spec_anySegments_spec_randomPoint, lh_spec_anySegments_spec_reader_pick, hs_spec_randomPoint, hs_spec_reader_pick, rdr, hb, ln, q900, q902, q904, hA2, hB2, d1, c3, eqP, c1, w2]
          repeat refine And.intro (by first | omega | (simp; done) | (simp; omega)) ?_
          refine ⟨i + 1, fun x => if x = 6 then 50 else x, by simp only []; omega, by simp only []; omega, ?_⟩
          simp only [f1, f2]
          simp [SLe, SLe0, convTm, convHp, convB, conv, conv0, convL, lkT, lkH, clean]
          exact ⟨⟨(List.take_of_length_le (by rw [List.length_append, List.length_take]; exact Nat.le_refl _)).symm, by omega⟩, fun id a c d => by omega⟩
        | true =>
          have e1 : fixS (A, B) = (A, (B.1, B.2 + 1)) := by unfold fixS; rw [if_pos (by simp only [c1])]
          rw [e1] at hS
          obtain ⟨f1, f2⟩ := hfin _ _ hS
          simp only [V_seq, V_skip, V_block, V_region, V_cond, brW_true, brW_false, W_nil, W_cons, effOp2, KN_seq, KN_block, KN_back, asB, effOp, effPure, effPick, effNew, effAlloc, effBuildSlice, effFrz, frz, tmpsOf, effStore, effAppend, effZeros, Option.isSome_some, skipE, pureV, pickV, storeV, srcV, refId, binV, partV, loadV, faddrV, lenV, over, solid, buildL, IV.cells, ofC, strip, lkT, lkH, ISt.app, opI, gO, gB, allB, gval, wrapG, dstOK, setD, mentTm, mentHp, IV.ment, IV.mentL, partsL, eltsI, eltI, oneI, noId', idsV, idsL, clean, callArgs, callFn, enumT, conv, conv0, convL, IBlk.shape, eqL, numsOnly, Op.operands, Call.operands, List.append_toArray, reduceIte, reduceCtorEq, cond_true, cond_false, Bool.or_false, Bool.or_true, Bool.and_true, Nat.reduceAdd, Nat.reduceSub, Nat.reduceMul, Nat.reduceLT, Nat.reduceLeDiff, Nat.reduceEqDiff, Nat.reduceBEq, Nat.add_zero, Nat.zero_add, ne_eq, not_false_eq_true, beq_self_eq_true, true_and, and_true, and_false, and_self, implies_true, List.map_cons, List.map_nil, List.nil_append, List.cons_append, List.append_nil, List.all_cons, List.all_nil, Option.some.injEq, Option.map_some, Option.bind_some, List.getElem?_cons_zero, List.getElem?_cons_succ, List.getD_cons_zero, List.getD_cons_succ, List.length_cons, List.length_nil, List.take_succ_cons, List.take_zero, List.take_nil, List.drop_succ_cons, List.drop_zero, List.drop_nil, ex_clo, Bool.true_eq_false, Bool.false_eq_true, tab3, tab30, tab68, tab73, hN, Int.toNat_natCast, encP, isBy_enc, toBy_enc, SLe0, convTm, convHp, convB, sm, effH, mkHC0, mkHC1, lendM, lentM, lentI, allHere, addIds, idsB, flatIds, reach, posn, renV, renL, renB, renH, numB, subHp, fwd, bk, bwd, nones, keyOK, noSl, noSlL, flatBs, List.contains, List.elem, Option.isSome_some, List.nodup_nil, List.nodup_cons, List.not_mem_nil, or_false, Option.getD_some, lh_spec_anySegments_spec_randomPoint, lh_spec_anySegments_spec_reader_pick, hs_spec_randomPoint, hs_spec_reader_pick, rdr, hb, ln, q900, q902, q904, hA2, hB2, d1, c3, eqP, c1, w2, w3]
          repeat refine And.intro (by first | omega | (simp; done) | (simp; omega)) ?_
          refine ⟨i + 1, fun x => if x = 6 then 50 else x, by simp only []; omega, by simp only []; omega, ?_⟩
          simp only [f1, f2]
          simp [SLe, SLe0, convTm, convHp, convB, conv, conv0, convL, lkT, lkH, clean]
          exact ⟨⟨(List.take_of_length_le (by rw [List.length_append, List.length_take]; exact Nat.le_refl _)).symm, by omega⟩, fun id a c d => by omega⟩
      | true =>
        rw [if_pos (by simpa using c3)] at hS
        have hpk := pick_nonneg hb (show q + 5 ≤ 1000000000 by omega) (i : Int)
        have hpl := hpk.2.1 (by omega)
        have z1 : -1000000 ≤ ((i : Nat) : Int) := by omega
        have z2 : ((i : Nat) : Int) ≤ 1000000 := by omega
        obtain ⟨k, hk⟩ : ∃ k : Nat, pickI b (q + 5) (i : Int) = k := ⟨_, (Int.toNat_of_nonneg hpk.1).symm⟩
        have hk' : pickI b (q + 2 + 2 + 1) (i : Int) = ((k : Nat) : Int) := hk
        rw [hk, Int.toNat_natCast] at hS
        have hki : k < L.length := by rw [hlen1]; omega
        have g0 := getD_encQs hki
        obtain ⟨s, hs⟩ : ∃ s, qAt L k = s := ⟨_, rfl⟩
        rw [hs] at g0 hS
        rw [hlen1] at hki
        cases c1 : (s.2 == B) with
        | false =>
          have e1 : fixS (s.2, B) = (s.2, B) := by unfold fixS; rw [if_neg (by simp only [c1]; decide)]
          rw [e1] at hS
          obtain ⟨f1, f2⟩ := hfin _ _ hS
          simp only [V_seq, V_skip, V_block, V_region, V_cond, brW_true, brW_false, W_nil, W_cons, effOp2, KN_seq, KN_block, KN_back, asB, effOp, effPure, effPick, effNew, effAlloc, effBuildSlice, effFrz, frz, tmpsOf, effStore, effAppend, effZeros, Option.isSome_some, skipE, pureV, pickV, storeV, srcV, refId, binV, partV, eltV, loadV, faddrV, iaddrV, lenV, over, solid, buildL, IV.cells, ofC, strip, lkT, lkH, ISt.app, opI, gO, gB, allB, gval, wrapG, dstOK, setD, mentTm, mentHp, IV.ment, IV.mentL, partsL, eltsI, eltI, oneI, noId', idsV, idsL, clean, callArgs, callFn, enumT, conv, conv0, convL, IBlk.shape, eqL, numsOnly, Op.operands, Call.operands, List.append_toArray, reduceIte, reduceCtorEq, cond_true, cond_false, Bool.or_false, Bool.or_true, Bool.and_true, Nat.reduceAdd, Nat.reduceSub, Nat.reduceMul, Nat.reduceLT, Nat.reduceLeDiff, Nat.reduceEqDiff, Nat.reduceBEq, Nat.add_zero, Nat.zero_add, ne_eq, not_false_eq_true, beq_self_eq_true, true_and, and_true, and_false, and_self, implies_true, forall_const, List.map_cons, List.map_nil, List.nil_append, List.cons_append, List.append_nil, List.all_cons, List.all_nil, Option.some.injEq, Option.map_some, Option.bind_some, List.getElem?_cons_zero, List.getElem?_cons_succ, List.getD_cons_zero, List.getD_cons_succ, List.length_cons, List.length_nil, List.take_succ_cons, List.take_zero, List.take_nil, List.drop_succ_cons, List.drop_zero, List.drop_nil, ex_clo, Bool.true_eq_false, Bool.false_eq_true, tab30, tab68, tab73, hN, Int.toNat_natCast, encP, isBy_enc, toBy_enc, SLe0, convTm, convHp, convB, sm, effH, mkHC0, mkHC1, lendM, lentM, lentI, allHere, addIds, idsB, flatIds, reach, posn, renV, renL, renB, renH, numB, subHp, fwd, bk, bwd, nones, keyOK, noSl, noSlL, flatBs, List.contains, List.elem, Option.isSome_some, List.nodup_nil, List.nodup_cons, List.not_mem_nil, or_false, Option.getD_some, lh_spec_anySegments_spec_randomPoint, lh_spec_anySegments_spec_reader_pick, hs_spec_randomPoint, hs_spec_reader_pick, rdr, hb, ln, hx, q900, q902, q904, q905, hA2, hB2, d1, c3, z2, hk', g0, eqP, c1, w2]
          repeat refine And.intro (by first | omega | (simp; done) | (simp; omega)) ?_
          refine ⟨i + 1, fun x => if x = 6 then 50 else x, by simp only []; omega, by simp only []; omega, ?_⟩
          simp only [f1, f2]
          simp [SLe, SLe0, convTm, convHp, convB, conv, conv0, convL, lkT, lkH, clean]
          exact ⟨⟨(List.take_of_length_le (by rw [List.length_append, List.length_take]; exact Nat.le_refl _)).symm, by omega⟩, fun id a c d => by omega⟩
        | true =>
          have e1 : fixS (s.2, B) = (s.2, (B.1, B.2 + 1)) := by unfold fixS; rw [if_pos (by simp only [c1])]
          rw [e1] at hS
          obtain ⟨f1, f2⟩ := hfin _ _ hS
          simp only [V_seq, V_skip, V_block, V_region, V_cond, brW_true, W_nil, W_cons, effOp2, KN_seq, KN_block, KN_back, asB, effOp, effPure, effPick, effNew, effAlloc, effBuildSlice, effFrz, frz, tmpsOf, effStore, effAppend, effZeros, Option.isSome_some, skipE, pureV, pickV, storeV, srcV, refId, binV, partV, eltV, loadV, faddrV, iaddrV, lenV, over, solid, buildL, IV.cells, ofC, strip, lkT, lkH, ISt.app, opI, gO, gB, allB, gval, wrapG, dstOK, setD, mentTm, mentHp, IV.ment, IV.mentL, partsL, eltsI, eltI, oneI, noId', idsV, idsL, clean, callArgs, callFn, enumT, conv, conv0, convL, IBlk.shape, eqL, numsOnly, Op.operands, Call.operands, List.append_toArray, reduceIte, reduceCtorEq, cond_true, cond_false, Bool.or_false, Bool.or_true, Bool.and_true, Nat.reduceAdd, Nat.reduceSub, Nat.reduceMul, Nat.reduceLT, Nat.reduceLeDiff, Nat.reduceEqDiff, Nat.reduceBEq, Nat.add_zero, Nat.zero_add, ne_eq, not_false_eq_true, beq_self_eq_true, true_and, and_true, and_false, and_self, implies_true, forall_const, List.map_cons, List.map_nil, List.nil_append, List.cons_append, List.append_nil, List.all_cons, List.all_nil, Option.some.injEq, Option.map_some, Option.bind_some, List.getElem?_cons_zero, List.getElem?_cons_succ, List.getD_cons_zero, List.getD_cons_succ, List.length_cons, List.length_nil, List.take_succ_cons, List.take_zero, List.take_nil, List.drop_succ_cons, List.drop_zero, List.drop_nil, ex_clo, Bool.true_eq_false, Bool.false_eq_true, tab3, tab30, tab68, tab73, hN, Int.toNat_natCast, encP, isBy_enc, toBy_enc, SLe0, convTm, convHp, convB, sm, effH, mkHC0, mkHC1, lendM, lentM, lentI, allHere, addIds, idsB, flatIds, reach, posn, renV, renL, renB, renH, numB, subHp, fwd, bk, bwd, nones, keyOK, noSl, noSlL, flatBs, List.contains, List.elem, Option.isSome_some, List.nodup_nil, List.nodup_cons, List.not_mem_nil, or_false, Option.getD_some, lh_spec_anySegments_spec_randomPoint, lh_spec_anySegments_spec_reader_pick, hs_spec_randomPoint, hs_spec_reader_pick, rdr, hb, ln, hx, q900, q902, q904, q905, hA2, hB2, d1, c3, z2, hk', g0, eqP, c1, w2, w3]
          repeat refine And.intro (by first | omega | (simp; done) | (simp; omega)) ?_
          refine ⟨i + 1, fun x => if x = 6 then 50 else x, by simp only []; omega, by simp only []; omega, ?_⟩
          simp only [f1, f2]
          simp [SLe, SLe0, convTm, convHp, convB, conv, conv0, convL, lkT, lkH, clean]
          exact ⟨⟨(List.take_of_length_le (by rw [List.length_append, List.length_take]; exact Nat.le_refl _)).symm, by omega⟩, fun id a c d => by omega⟩
  · have hie : i = n := by simp at h; omega
    have hB := hAi hie
    simp only [] at hB
    have q800 : q + 1 ≤ 700000 := by omega
    have q0 : Int.toNat 0 = 0 := rfl
    rw [hlen1] at hB
    rcases Nat.eq_zero_or_pos i with hz | hz
    · rw [if_pos hz] at hB
      have d1 : decide ((0 : Int) < ((0 : Nat) : Int)) = false := rfl
      subst hz
      simp only [V_seq, V_skip, V_ret, V_exit, V_region, V_cond, brW_false, W_nil, W_cons, effOp2, KN_seq, KXr_nil, KXe_nil, KXe_seq, KXe_block, KXe_back, QE, asB, effOp, effPure, effPick, Option.isSome_some, skipE, pureV, pickV, binV, lenV, ofC, strip, lkT, lkH, ISt.app, opI, gO, gB, allB, gval, wrapG, dstOK, setD, mentTm, mentHp, IV.ment, IV.mentL, idsV, idsL, clean, callArgs, callFn, enumT, conv, conv0, convL, IBlk.shape, Op.operands, Call.operands, List.append_toArray, reduceIte, reduceCtorEq, cond_true, cond_false, Bool.or_false, Bool.or_true, Bool.and_true, Nat.reduceAdd, Nat.reduceSub, Nat.reduceMul, Nat.reduceLT, Nat.reduceLeDiff, Nat.reduceEqDiff, Nat.reduceBEq, Nat.zero_add, ne_eq, not_false_eq_true, beq_self_eq_true, true_and, and_true, false_and, and_false, and_self, false_implies, implies_true, List.map_cons, List.map_nil, List.nil_append, List.cons_append, List.append_nil, List.all_nil, Option.map_some, Option.bind_some, List.getElem?_cons_zero, List.getElem?_cons_succ, List.getD_cons_zero, ex_clo, bft, Bool.true_eq_false, Bool.false_eq_true, tab73, hN, Int.toNat_natCast, isBy_enc, toBy_enc, FinH, resA, resV, SLe, SLe0, convTm, convHp, convB, sm, effH, mkHC0, mkHC1, lendM, lentM, lentI, allHere, addIds, idsB, flatIds, reach, posn, renV, renL, renB, renH, numB, subHp, fwd, bk, bwd, nones, keyOK, noSl, noSlL, flatBs, List.contains, List.elem, Option.isSome_some, List.nodup_nil, List.nodup_cons, List.not_mem_nil, List.mem_cons, or_false, Option.getD_some, lh_spec_anySegments_spec_reader_pick, hs_spec_reader_pick, rdr, hb, d1, hB, hlen1]
      exact ⟨fun x => if x = 0 then 6 else x, by simp [convL, conv, conv0, clean]; omega⟩
    · have d1 : decide ((0 : Int) < ((i : Nat) : Int)) = true := by simpa using hz
      rw [if_neg (by omega)] at hB
      cases c9 : (pickI b q 12 == 0) with
      | true =>
        rw [if_pos (by simpa using c9)] at hB
        have hset := encQs_setD L 0 (aSeg b (q + 1)).1
        simp only [V_seq, V_ret, V_exit, V_region, V_cond, brW_true, W_nil, W_cons, effOp2, KN_seq, KXr_nil, KXe_nil, KXe_seq, KXe_block, KXe_back, QE, asB, effOp, effPure, effPick, effStore, Option.isSome_some, skipE, pureV, pickV, storeV, binV, iaddrV, lenV, over, solid, IV.cells, ofC, strip, lkT, lkH, ISt.app, opI, gO, gB, allB, gval, wrapG, dstOK, setD, mentTm, mentHp, IV.ment, IV.mentL, eltI, oneI, noId', idsV, idsL, clean, callArgs, callFn, enumT, conv, conv0, convL, IBlk.shape, Op.operands, Call.operands, List.append_toArray, reduceIte, reduceCtorEq, cond_true, cond_false, Bool.or_false, Bool.or_true, Bool.and_true, Bool.true_and, Nat.reduceAdd, Nat.reduceSub, Nat.reduceMul, Nat.reduceLT, Nat.reduceLeDiff, Nat.reduceEqDiff, Nat.reduceBEq, Nat.add_zero, Nat.zero_add, ne_eq, not_false_eq_true, beq_self_eq_true, true_and, and_true, and_false, and_self, false_implies, implies_true, forall_const, List.map_cons, List.map_nil, List.nil_append, List.cons_append, List.append_nil, List.all_cons, List.all_nil, Option.map_some, Option.bind_some, List.getElem?_cons_zero, List.getElem?_cons_succ, List.getD_cons_zero, List.length_cons, List.length_nil, List.take_zero, ex_clo, Bool.true_eq_false, Bool.false_eq_true, tab68, tab73, hN, Int.toNat_natCast, encQ, isBy_enc, toBy_enc, FinH, resA, resV, SLe, SLe0, convTm, convHp, convB, sm, effH, mkHC0, mkHC1, lendM, lentM, lentI, allHere, addIds, idsB, flatIds, reach, posn, renV, renL, renB, renH, numB, subHp, fwd, bk, bwd, nones, keyOK, noSl, noSlL, flatBs, List.contains, List.elem, Option.isSome_some, List.nodup_nil, List.nodup_cons, List.not_mem_nil, List.mem_cons, or_false, Option.getD_some, lh_spec_anySegments_spec_reader_pick, lh_spec_anySegments_spec_anySegment, hs_spec_reader_pick, hs_spec_anySegment, rdr, hb, ln, d1, q1000, q800, c9, hB, q0, hset]
        refine ⟨by omega, ⟨by omega, by omega⟩, hz, fun x => if x = 0 then 6 else x, ?_⟩
        simp [convL, conv, conv0, clean, hlen1]
        omega
      | false =>
        rw [if_neg (by simpa using c9)] at hB
        simp only [V_seq, V_skip, V_ret, V_exit, V_region, V_cond, brW_false, W_nil, W_cons, effOp2, KN_seq, KXr_nil, KXe_nil, KXe_seq, KXe_block, KXe_back, QE, asB, effOp, effPure, effPick, Option.isSome_some, skipE, pureV, pickV, binV, lenV, ofC, strip, lkT, lkH, ISt.app, opI, gO, gB, allB, gval, wrapG, dstOK, setD, mentTm, mentHp, IV.ment, IV.mentL, idsV, idsL, clean, callArgs, callFn, enumT, conv, conv0, convL, IBlk.shape, Op.operands, Call.operands, List.append_toArray, reduceIte, reduceCtorEq, cond_true, cond_false, Bool.or_false, Bool.or_true, Bool.and_true, Nat.reduceAdd, Nat.reduceSub, Nat.reduceMul, Nat.reduceLT, Nat.reduceLeDiff, Nat.reduceEqDiff, Nat.reduceBEq, Nat.zero_add, ne_eq, not_false_eq_true, beq_self_eq_true, true_and, and_true, and_false, and_self, false_implies, implies_true, List.map_cons, List.map_nil, List.nil_append, List.cons_append, List.append_nil, List.all_nil, Option.map_some, Option.bind_some, List.getElem?_cons_zero, List.getElem?_cons_succ, List.getD_cons_zero, ex_clo, Bool.true_eq_false, Bool.false_eq_true, tab73, hN, Int.toNat_natCast, isBy_enc, toBy_enc, FinH, resA, resV, SLe, SLe0, convTm, convHp, convB, sm, effH, mkHC0, mkHC1, lendM, lentM, lentI, allHere, addIds, idsB, flatIds, reach, posn, renV, renL, renB, renH, numB, subHp, fwd, bk, bwd, nones, keyOK, noSl, noSlL, flatBs, List.contains, List.elem, Option.isSome_some, List.nodup_nil, List.nodup_cons, List.not_mem_nil, List.mem_cons, or_false, Option.getD_some, lh_spec_anySegments_spec_reader_pick, hs_spec_reader_pick, rdr, hb, d1, q1000, c9, hB, hlen1]
        refine ⟨by omega, fun x => if x = 0 then 6 else x, ?_⟩
        simp [convL, conv, conv0, clean]
        omega
def hs_spec_anySegments : HSpec := ⟨[false], fun xs hp => match xs, hp with | [.ptr 1000 0], [(1000, .box ty [.sl 1 es, .num .i64 pz])] => (isBy es) ∧ (ty = 136) ∧ (pz = (pz.toNat : Int)) ∧ ((fun (b : List Int) (p : Nat) => BytesOK b) (toIs es) pz.toNat) ∧ ((fun (b : List Int) (p : Nat) => p ≤ 600000) (toIs es) pz.toNat) | _, _ => False, fun xs hp => match xs, hp with | [.ptr 1000 0], [(1000, .box ty [.sl 1 es, .num .i64 pz])] => (fun (b : List Int) (p : Nat) => (.ref 0 0 (aSegs b p).1.length true : IV)) (toIs es) pz.toNat | _, _ => .junk, fun xs hp => match xs, hp with | [.ptr 1000 0], [(1000, .box ty [.sl 1 es, .num .i64 pz])] => (fun (b : List Int) (p : Nat) => ([(0, .arr 4 68 (encQs (aSegs b p).1)), (1000, rdr b (aSegs b p).2)] : List (Nat × IBlk))) (toIs es) pz.toNat | _, _ => []⟩
theorem hk_spec_anySegments : ∀ args hp, hs_spec_anySegments.pre args hp → HCall Try.prog 128 args (sm hp) (hs_spec_anySegments.val args hp) (sm (hs_spec_anySegments.hval args hp)) := by
  intro args hp h
  unfold hs_spec_anySegments at h ⊢; simp only at h ⊢; split at h
  · obtain ⟨h1, rfl, h3, h4, h5⟩ := h; obtain ⟨l, rfl⟩ := isBy_ex h1; rw [toBy_enc] at *; rw [h3]; exact c_spec_anySegments l _ h4 (by simpa using h5)
  · exact h.elim
theorem en_spec_anySegments : Enters Try.prog 128 := enters_of Try.func128 (by kernel_rfl) rfl

/-- The segments that a code draws. -/
def drawSs (b : List Int) : List Qd := (aSegs (b.take 2000) 0).1
end Go.Proofs.Ytemppebemahkoaa
