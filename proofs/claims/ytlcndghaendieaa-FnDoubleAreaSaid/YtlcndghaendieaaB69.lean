/- Drawn polygons: spec.anyPolygon. -/
import Derived.Test.YtlcndghaendieaaB68
import Derived.Test.YtlcndghaendieaaB11
set_option linter.unusedVariables false
set_option linter.unusedSimpArgs false
set_option maxHeartbeats 16000000
set_option maxRecDepth 100000
namespace Go.Proofs.Ytlcndghaendieaa
open Go Go.Ideal Go.Pl Go.Sort

theorem rLoop_smG {b : List Int} (hb : BytesOK b) (k : Int) : ∀ n p, p + 2 * n ≤ 1000000 → SmL (rLoop b k n p)
  | 0, _, _ => fun x hx => by cases hx
  | n + 1, p, h => by
    intro x hx
    rcases List.mem_cons.1 hx with rfl | hx
    · have hr := rPoint_le hb (show p ≤ 1000000 by omega)
      unfold rAdj
      split
      · unfold Sm sm1; simp only []; omega
      · split
        · unfold Sm sm1; simp only []; omega
        · unfold Sm sm1; omega
    · exact rLoop_smG hb k n (p + 2) (by omega) x hx
theorem rPoints_smG {b : List Int} (hb : BytesOK b) {p : Nat} (hp : p ≤ 800000) {most : Int} (h0 : 0 ≤ most) (h1 : most ≤ 1000) : SmL (rPoints b p most) ∧ (rPoints b p most).length = rNum b p most ∧ (rNum b p most : Int) ≤ most := by
  have h := rNum_le hb (show p ≤ 900000 by omega) h0
  exact ⟨rLoop_smG hb _ _ _ (by omega), rLoop_len _ _ _ _, h.1⟩
def midW (x y : Int) : Int := IntKind.i64.wrap ((IntKind.i64.wrap (x + y)).tdiv 2)
/-- A drawn polygon, maybe not a good one; where the reader stands then. -/
def aPoly (b : List Int) (p : Nat) : List Pt × Nat :=
  if pickI b (p + 5) 10 = 0 then (rPoints b (p + 6) 6, p + 6 + 2 + 2 * rNum b (p + 6) 6)
  else if pickI b (p + 5) 10 = 1 then ((sShp b p).set (pickI b (p + 6) (sShp b p).length).toNat (aPoint b (p + 7)).1, (aPoint b (p + 7)).2)
  else if pickI b (p + 5) 10 = 2 then (hullP (rPoints b (p + 6) 9), p + 6 + 2 + 2 * rNum b (p + 6) 9)
  else if pickI b (p + 5) 10 = 3 then ([pAt (sShp b p) 0, (midW (pAt (sShp b p) 0).1 (pAt (sShp b p) 1).1, midW (pAt (sShp b p) 0).2 (pAt (sShp b p) 1).2), pAt (sShp b p) 1] ++ (sShp b p).drop 2, p + 6)
  else (sShp b p, p + 6)
theorem aPoly_len {b : List Int} (hb : BytesOK b) {p : Nat} (hp : p ≤ 700000) : (aPoly b p).1.length ≤ 100 ∧ (aPoly b p).2 ≤ p + 100 := by
  have h1 := sShp_len hb (show p ≤ 1000000 by omega)
  have h2 := rPoints_smG hb (show p + 6 ≤ 800000 by omega) (show (0 : Int) ≤ 6 by omega) (by omega)
  have h3 := rPoints_smG hb (show p + 6 ≤ 800000 by omega) (show (0 : Int) ≤ 9 by omega) (by omega)
  have h4 := hullP_len (rPoints b (p + 6) 9)
  unfold aPoly
  split
  · simp only []; omega
  · split
    · simp only [List.length_set]
      have : (aPoint b (p + 7)).2 ≤ p + 7 + 4 := by
        unfold aPoint; split
        · simp
        · split <;> simp
      omega
    · split
      · simp only []; omega
      · split
        · simp only [List.length_append, List.length_drop, List.length_cons, List.length_nil]; omega
        · simp only []; omega
def g_spec_anyPolygon : List (Nat × PSpec) := [(72, sp_spec_hull)]
theorem gok_spec_anyPolygon : GOK Try.prog g_spec_anyPolygon := gok_cons gk_spec_hull en_spec_hull (gok0)
theorem lk_spec_anyPolygon_spec_hull : lkG g_spec_anyPolygon 72 = sp_spec_hull := rfl
def h_spec_anyPolygon : List (Nat × HSpec) := [(78, hs_spec_someShape), (79, hs_spec_reader_pick), (80, hs_spec_randomPoints), (81, hs_spec_anyPoint)]
theorem hok_spec_anyPolygon : HOK Try.prog h_spec_anyPolygon := hok_cons hk_spec_someShape en_spec_someShape (hok_cons hk_spec_reader_pick en_spec_reader_pick (hok_cons hk_spec_randomPoints en_spec_randomPoints (hok_cons hk_spec_anyPoint en_spec_anyPoint (hok0))))
theorem lh_spec_anyPolygon_spec_hull : lkHS h_spec_anyPolygon 72 = none := rfl
theorem lh_spec_anyPolygon_spec_someShape : lkHS h_spec_anyPolygon 78 = some hs_spec_someShape := rfl
theorem lh_spec_anyPolygon_spec_reader_pick : lkHS h_spec_anyPolygon 79 = some hs_spec_reader_pick := rfl
theorem lh_spec_anyPolygon_spec_randomPoints : lkHS h_spec_anyPolygon 80 = some hs_spec_randomPoints := rfl
theorem lh_spec_anyPolygon_spec_anyPoint : lkHS h_spec_anyPolygon 81 = some hs_spec_anyPoint := rfl
theorem c_spec_anyPolygon (b : List Int) (p : Nat) (hb : BytesOK b) (hp : p ≤ 700000) : HCall Try.prog 34 [.ptr 1000 0] (sm ([(1000, rdr b p)])) (.sl 2 (encPs (aPoly b p).1)) (sm ([(1000, rdr b (aPoly b p).2)])) := by
  refine hcall_V (G := g_spec_anyPolygon) (H := h_spec_anyPolygon) [(12, [(0, 20), (1, 20), (3, 20), (4, 20), (5, 20), (6, 20), (7, 20), (8, 20), (9, 20), (10, 20), (11, 20), (12, 20), (13, 20), (14, 20), (15, 20), (16, 20), (17, 20), (18, 20), (20, 21), (0, 22), (1, 22), (2, 22), (3, 22), (4, 22), (5, 22), (6, 22), (7, 22), (8, 22), (9, 22), (10, 22), (11, 22), (12, 22), (13, 22), (14, 22), (15, 22), (16, 22), (17, 22), (18, 22), (19, 22), (20, 22), (0, 23), (1, 23), (2, 23), (3, 23), (4, 23), (5, 23), (6, 23), (7, 23), (8, 23), (9, 23), (10, 23), (11, 23), (12, 23), (13, 23), (14, 23), (15, 23), (16, 23), (17, 23), (18, 23), (19, 23), (21, 23), (20, 24), (22, 24), (23, 24), (20, 25), (22, 25), (23, 25), (0, 26), (1, 26), (2, 26), (3, 26), (4, 26), (5, 26), (6, 26), (7, 26), (8, 26), (9, 26), (10, 26), (11, 26), (12, 26), (13, 26), (14, 26), (15, 26), (16, 26), (17, 26), (18, 26), (19, 26), (20, 26), (21, 26), (22, 26), (24, 26)])] tabOK mixed gok_spec_anyPolygon hok_spec_anyPolygon Try.func34 rfl Try.ntmps34 Try.results34 rfl (by kernel_rfl) fun F hN hlen => ?_
  simp only [sm]
  have hs := sShp_len hb (show p ≤ 1000000 by omega)
  have pk := pick_nonneg hb (show p + 5 ≤ 1000000000 by omega) 10
  have q1 : p ≤ 800000 := by omega
  have q2 : p + 5 ≤ 1000000 := by omega
  have q3 : p + 5 + 1 ≤ 800000 := by omega
  have hA : ∀ s, sShp b p = s → aPoly b p = if pickI b (p + 5) 10 = 0 then (rPoints b (p + 6) 6, p + 6 + 2 + 2 * rNum b (p + 6) 6)
    else if pickI b (p + 5) 10 = 1 then (s.set (pickI b (p + 6) s.length).toNat (aPoint b (p + 7)).1, (aPoint b (p + 7)).2)
    else if pickI b (p + 5) 10 = 2 then (hullP (rPoints b (p + 6) 9), p + 6 + 2 + 2 * rNum b (p + 6) 9)
    else if pickI b (p + 5) 10 = 3 then ([pAt s 0, (midW (pAt s 0).1 (pAt s 1).1, midW (pAt s 0).2 (pAt s 1).2), pAt s 1] ++ s.drop 2, p + 6)
    else (s, p + 6) := by intro s e; subst e; rfl
  obtain ⟨s, hsS⟩ : ∃ s, sShp b p = s := ⟨_, rfl⟩
  have hB := hA s hsS
  clear hA
  rw [hsS] at hs
  have es := len_encPs s
  have ts := take_encPs s
  by_cases c0 : pickI b (p + 5) 10 = 0
  · have d0 : (pickI b (p + 5) 10 == 0) = true := by simpa using c0
    rw [if_pos c0] at hB
    obtain ⟨a1, a2, a3⟩ := rPoints_smG hb (show p + 6 ≤ 800000 by omega) (show (0 : Int) ≤ 6 by omega) (by omega)
    simp only [V_seq, V_ret, V_block, V_region, V_cond, brW_true, W_nil, W_cons, effOp2, KN_seq, KXr_nil, KXr_seq, KXr_block, QE, asB, effOp, effPure, Option.isSome_some, skipE, pureV, binV, ofC, strip, lkT, lkH, ISt.app, opI, gO, gB, allB, gval, wrapG, dstOK, setD, mentTm, mentHp, IV.ment, IV.mentL, idsV, idsL, clean, callArgs, callFn, enumT, conv, conv0, convL, IBlk.shape, Op.operands, reduceIte, reduceCtorEq, cond_true, cond_false, Bool.or_false, Bool.or_true, Bool.and_true, Bool.and_false, Nat.reduceAdd, Nat.reduceSub, Nat.reduceMul, Nat.reduceLT, Nat.reduceLeDiff, Nat.reduceEqDiff, Nat.reduceBEq, Nat.add_zero, Nat.zero_add, ne_eq, not_false_eq_true, beq_self_eq_true, true_and, and_true, and_false, and_self, false_implies, implies_true, List.map_cons, List.map_nil, List.nil_append, List.cons_append, List.append_nil, List.all_nil, Option.some.injEq, Option.map_some, Option.map_none, List.getD_cons_zero, List.drop_zero, ex_clo, or_self, Bool.true_eq_false, Bool.false_eq_true, hN, Int.toNat_natCast, isBy_enc, toBy_enc, FinH, resA, resV, SLe, SLe0, convTm, convHp, convB, sm, effH, mkHC0, mkHC1, lendM, lentM, lentI, allHere, addIds, idsB, flatIds, reach, posn, renV, renL, renB, renH, numB, subHp, fwd, bk, bwd, nones, keyOK, noSl, noSlL, flatBs, List.contains, List.elem, Option.isSome_some, List.nodup_nil, List.nodup_cons, List.not_mem_nil, List.mem_cons, or_false, Option.getD_some, lh_spec_anyPolygon_spec_someShape, lh_spec_anyPolygon_spec_reader_pick, lh_spec_anyPolygon_spec_randomPoints, hs_spec_someShape, hs_spec_reader_pick, hs_spec_randomPoints, rdr, hb, hsS, es, ts, d0, q1, q2, q3, hB]
    refine ⟨by omega, ⟨⟨by omega, by omega⟩, List.take_length.symm⟩, id, ?_⟩
    simp [convL, conv, conv0, clean]
    exact ⟨⟨_, _, ⟨rfl, rfl⟩, by rw [len_encPs]; exact Nat.le_refl _, (take_encPs _).symm⟩, by omega⟩
  · have d0 : (pickI b (p + 5) 10 == 0) = false := by simpa using c0
    rw [if_neg c0] at hB
    by_cases c1 : pickI b (p + 5) 10 = 1
    · have d1 : (pickI b (p + 5) 10 == 1) = true := by simpa using c1
      rw [if_pos c1] at hB
      have pk2 := pick_nonneg hb (show p + 5 + 1 ≤ 1000000000 by omega) s.length
      have hlt := pk2.2.1 (by omega)
      have q4 : p + 5 + 1 ≤ 1000000 := by omega
      have q5 : (s.length : Int) ≤ 1000000 := by omega
      have q6 : p + 5 + 1 + 1 ≤ 800000 := by omega
      have hset := encPs_set s (pickI b (p + 6) s.length).toNat (aPoint b (p + 7)).1
      simp only [V_seq, V_ret, V_block, V_region, V_cond, brW_true, brW_false, W_nil, W_cons, effOp2, KN_seq, KN_block, KXr_nil, QE, asB, effOp, effPure, effStore, Option.isSome_some, skipE, pureV, storeV, binV, iaddrV, lenV, over, solid, IV.cells, ofC, strip, lkT, lkH, ISt.app, opI, gO, gB, allB, gval, wrapG, dstOK, setD, mentTm, mentHp, IV.ment, IV.mentL, eltI, oneI, noId', idsV, idsL, clean, callArgs, callFn, enumT, conv, conv0, convL, IBlk.shape, Op.operands, Call.operands, List.append_toArray, reduceIte, reduceCtorEq, cond_true, cond_false, Bool.or_false, Bool.or_true, Bool.and_true, Bool.and_false, Bool.true_and, Nat.reduceAdd, Nat.reduceSub, Nat.reduceMul, Nat.reduceLT, Nat.reduceLeDiff, Nat.reduceEqDiff, Nat.reduceBEq, Nat.add_zero, Nat.zero_add, ne_eq, not_false_eq_true, beq_self_eq_true, true_and, and_true, and_false, and_self, false_implies, implies_true, forall_const, List.map_cons, List.map_nil, List.nil_append, List.cons_append, List.append_nil, List.all_cons, List.all_nil, Option.some.injEq, Option.map_some, Option.map_none, List.getD_cons_zero, List.length_cons, List.length_nil, List.take_zero, List.drop_zero, ex_clo, or_self, Bool.true_eq_false, Bool.false_eq_true, tab23, tab28, hN, Int.toNat_natCast, encP, isBy_enc, toBy_enc, FinH, resA, resV, SLe, SLe0, convTm, convHp, convB, sm, effH, mkHC0, mkHC1, lendM, lentM, lentI, allHere, addIds, idsB, flatIds, reach, posn, renV, renL, renB, renH, numB, subHp, fwd, bk, bwd, nones, keyOK, noSl, noSlL, flatBs, List.contains, List.elem, Option.isSome_some, List.nodup_nil, List.nodup_cons, List.not_mem_nil, List.mem_cons, or_false, Option.getD_some, lh_spec_anyPolygon_spec_someShape, lh_spec_anyPolygon_spec_reader_pick, lh_spec_anyPolygon_spec_anyPoint, hs_spec_someShape, hs_spec_reader_pick, hs_spec_anyPoint, rdr, hb, hsS, es, ts, d0, d1, q1, q2, q4, q5, q6, hB]
      refine ⟨by omega, ⟨by omega, by omega⟩, by omega, id, ?_⟩
      simp [convL, conv, conv0, clean]
      exact ⟨_, _, ⟨rfl, rfl⟩, by rw [List.length_set]; omega, by rw [List.take_of_length_le (by rw [List.length_set]; omega)]; exact (encPs_set s _ _).symm⟩
    · have d1 : (pickI b (p + 5) 10 == 1) = false := by simpa using c1
      rw [if_neg c1] at hB
      by_cases c2 : pickI b (p + 5) 10 = 2
      · have d2 : (pickI b (p + 5) 10 == 2) = true := by simpa using c2
        rw [if_pos c2] at hB
        obtain ⟨a1, a2, a3⟩ := rPoints_smG hb (show p + 6 ≤ 800000 by omega) (show (0 : Int) ≤ 9 by omega) (by omega)
        have a4 : (rPoints b (p + 5 + 1) 9).length ≤ 1000 := by rw [show p + 5 + 1 = p + 6 by omega]; omega
        have tr := take_encPs (rPoints b (p + 5 + 1) 9)
        simp only [V_seq, V_ret, V_block, V_region, V_cond, brW_true, brW_false, W_nil, W_cons, effOp2, KN_seq, KXr_nil, KXr_seq, KXr_block, QE, asB, effOp, effPure, effCall, giveUp, hasAll, Option.isSome_some, skipE, pureV, binV, ofC, strip, lkT, lkH, ISt.app, opI, gO, gB, allB, gval, wrapG, dstOK, setD, mentTm, mentHp, IV.ment, IV.mentL, lendV, lendP, lent, lentP, idsV, idsL, flat, clean, callArgs, callFn, allLent, enumT, conv, conv0, convL, IBlk.shape, Op.operands, reduceIte, reduceCtorEq, cond_true, cond_false, Bool.or_false, Bool.or_true, Bool.and_true, Bool.and_false, Bool.not_true, Nat.reduceAdd, Nat.reduceSub, Nat.reduceMul, Nat.reduceLT, Nat.reduceLeDiff, Nat.reduceEqDiff, Nat.reduceBEq, Nat.add_zero, Nat.zero_add, not_false_eq_true, beq_self_eq_true, true_and, and_true, and_false, and_self, false_implies, implies_true, forall_const, List.map_cons, List.map_nil, List.nil_append, List.cons_append, List.append_nil, List.all_nil, Option.map_some, Option.map_none, List.getD_cons_zero, List.drop_zero, ex_clo, or_true, or_self, Bool.true_eq_false, Bool.false_eq_true, hN, Int.toNat_natCast, isPs_enc, toPs_enc, isBy_enc, toBy_enc, FinH, resA, resV, SLe, SLe0, convTm, convHp, convB, sm, effH, mkHC0, mkHC1, lendM, lentM, lentI, allHere, addIds, idsB, flatIds, reach, posn, renV, renL, renB, renH, numB, subHp, fwd, bk, bwd, nones, keyOK, noSl, noSlL, flatBs, List.contains, List.elem, Option.isSome_some, List.nodup_nil, List.nodup_cons, List.not_mem_nil, List.mem_cons, or_false, Option.getD_some, lk_spec_anyPolygon_spec_hull, sp_spec_hull, lh_spec_anyPolygon_spec_hull, lh_spec_anyPolygon_spec_someShape, lh_spec_anyPolygon_spec_reader_pick, lh_spec_anyPolygon_spec_randomPoints, hs_spec_someShape, hs_spec_reader_pick, hs_spec_randomPoints, rdr, hb, hsS, es, ts, d0, d1, d2, q1, q2, q3, a1, a4, tr, hB]
        refine ⟨by omega, ⟨⟨by omega, by omega⟩, List.take_length.symm⟩, by rw [len_encPs]; exact Nat.le_refl _, id, ?_⟩
        simp [convL, conv, conv0, clean]
        omega
      · have d2 : (pickI b (p + 5) 10 == 2) = false := by simpa using c2
        rw [if_neg c2] at hB
        by_cases c3 : pickI b (p + 5) 10 = 3
        · have d3 : (pickI b (p + 5) 10 == 3) = true := by simpa using c3
          rw [if_pos c3] at hB
          obtain ⟨a, c, r, rfl⟩ : ∃ a c r, s = a :: c :: r := by
            rcases s with _ | ⟨a, _ | ⟨c, r⟩⟩
            · simp at hs
            · simp at hs
            · exact ⟨a, c, r, rfl⟩
          have e0 : encPs (a :: c :: r) = .agg [.num .i64 a.1, .num .i64 a.2] :: .agg [.num .i64 c.1, .num .i64 c.2] :: encPs r := rfl
          have er := len_encPs r
          have tr := take_encPs r
          have ln2 : (a :: c :: r).length = r.length + 2 := by simp
          have hd2 : (IV.agg [.num .i64 a.1, .num .i64 a.2] :: .agg [.num .i64 c.1, .num .i64 c.2] :: encPs r).drop 2 = encPs r := rfl
          have ln3 : r.length + 2 - 2 = r.length := by omega
          have tn2 : Int.toNat 2 = 2 := rfl
          have tn0 : Int.toNat 0 = 0 := rfl
          have tn1 : Int.toNat 1 = 1 := rfl
          rw [ln2] at ts es hs
          rw [e0] at ts es
          simp only [V_seq, V_ret, V_block, V_region, V_draw, V_cond, brW_true, brW_false, drawW, WS_nil, pairsOf, W_nil, W_cons, effOp2, effOp3, WI_nil, WI_cons, KN_seq, KXr_nil, KXr_seq, KXr_block, QE, dynOK, indB, farB, seeB, see, isStore, freshB, freshK, freshK1, ownId, heapy, asB, effOp, effPure, effNew, effAlloc, effBuildSlice, effFrz, frz, tmpsOf, effStore, effAppend, effZeros, Option.isSome_some, skipE, pureV, storeV, srcV, refId, binV, partV, eltV, loadV, faddrV, iaddrV, sliceV, over, solid, buildL, IV.cells, ofC, strip, lkT, lkH, ISt.app, opI, gO, gB, allB, gval, wrapG, dstOK, setD, mentTm, mentHp, IV.ment, IV.mentL, partsL, eltsI, eltI, oneI, noId', idsV, idsL, clean, callArgs, callFn, enumT, conv, conv0, convL, IBlk.shape, Op.operands, Call.operands, List.append_toArray, Array.append_empty, Option.toArray_none, Option.toArray_some, reduceIte, reduceCtorEq, cond_true, cond_false, Bool.or_false, Bool.or_true, Bool.and_true, Bool.and_false, Bool.true_and, Bool.and_eq_true, Bool.not_false, Nat.reduceAdd, Nat.reduceSub, Nat.reduceMul, Nat.reduceLT, Nat.reduceLeDiff, Nat.reduceEqDiff, Nat.reduceBEq, Nat.add_zero, Nat.zero_add, ne_eq, not_false_eq_true, beq_self_eq_true, true_and, and_true, false_and, and_false, and_self, false_implies, implies_true, forall_const, List.map_cons, List.map_nil, List.nil_append, List.cons_append, List.append_nil, List.all_cons, List.all_nil, Option.some.injEq, Option.map_some, Option.map_none, List.getD_cons_zero, List.getD_cons_succ, List.length_cons, List.length_nil, List.take_succ_cons, List.take_zero, List.take_nil, List.drop_succ_cons, List.drop_zero, List.drop_nil, ex_clo, or_self, Bool.true_eq_false, Bool.false_eq_true, tab3, tab23, tab28, hN, Int.toNat_natCast, isBy_enc, toBy_enc, FinH, resA, resV, SLe, SLe0, convTm, convHp, convB, sm, effH, mkHC0, mkHC1, lendM, lentM, lentI, allHere, addIds, idsB, flatIds, reach, posn, renV, renL, renB, renH, numB, subHp, fwd, bk, bwd, nones, keyOK, noSl, noSlL, flatBs, List.contains, List.elem, Option.isSome_some, List.nodup_nil, List.nodup_cons, List.not_mem_nil, List.mem_cons, or_false, Option.getD_some, lh_spec_anyPolygon_spec_someShape, lh_spec_anyPolygon_spec_reader_pick, hs_spec_someShape, hs_spec_reader_pick, rdr, hb, hsS, e0, ln2, ts, d0, d1, d2, d3, q1, q2, hd2, ln3, er, tr, tn0, tn1, tn2, List.getD_cons_zero, List.getD_cons_succ]
          refine ⟨by omega, ⟨by omega, by omega⟩, by omega, ⟨by omega, by omega⟩, by omega, ⟨by omega, by omega⟩, ⟨_, _, _, rfl⟩, by omega, by decide, ⟨by omega, by omega⟩, ⟨_, _, _, rfl⟩, by omega, by decide, ⟨by omega, by omega⟩, ⟨by omega, by omega⟩, id, ?_⟩
          simp [convL, conv, conv0, clean, hB, midW]
          exact ⟨⟨_, _, ⟨rfl, rfl⟩, by simp only [List.length_cons, er]; omega, (List.take_of_length_le (by rw [len_encPs]; simp only [List.length_cons]; omega)).symm⟩, by omega⟩
        · have d3 : (pickI b (p + 5) 10 == 3) = false := by simpa using c3
          rw [if_neg c3] at hB
          simp only [V_seq, V_skip, V_ret, V_block, V_region, V_cond, brW_false, W_nil, W_cons, effOp2, KN_seq, KN_block, KXr_nil, QE, asB, effOp, effPure, Option.isSome_some, skipE, pureV, binV, ofC, strip, lkT, lkH, ISt.app, opI, gO, gB, allB, gval, wrapG, dstOK, setD, mentTm, mentHp, IV.ment, IV.mentL, idsV, idsL, clean, callArgs, callFn, enumT, conv, conv0, convL, IBlk.shape, Op.operands, reduceIte, reduceCtorEq, cond_true, cond_false, Bool.or_false, Bool.or_true, Bool.and_true, Bool.and_false, Nat.reduceAdd, Nat.reduceSub, Nat.reduceMul, Nat.reduceLT, Nat.reduceLeDiff, Nat.reduceEqDiff, Nat.reduceBEq, Nat.add_zero, Nat.zero_add, ne_eq, not_false_eq_true, beq_self_eq_true, true_and, and_true, and_false, and_self, false_implies, implies_true, List.map_cons, List.map_nil, List.nil_append, List.cons_append, List.append_nil, List.all_nil, Option.some.injEq, Option.map_some, Option.map_none, List.getD_cons_zero, List.drop_zero, ex_clo, or_self, Bool.true_eq_false, Bool.false_eq_true, hN, Int.toNat_natCast, isBy_enc, toBy_enc, FinH, resA, resV, SLe, SLe0, convTm, convHp, convB, sm, effH, mkHC0, mkHC1, lendM, lentM, lentI, allHere, addIds, idsB, flatIds, reach, posn, renV, renL, renB, renH, numB, subHp, fwd, bk, bwd, nones, keyOK, noSl, noSlL, flatBs, List.contains, List.elem, Option.isSome_some, List.nodup_nil, List.nodup_cons, List.not_mem_nil, List.mem_cons, or_false, Option.getD_some, lh_spec_anyPolygon_spec_someShape, lh_spec_anyPolygon_spec_reader_pick, hs_spec_someShape, hs_spec_reader_pick, rdr, hb, hsS, es, ts, d0, d1, d2, d3, q1, q2, hB]
          refine ⟨by omega, id, ?_⟩
          simp [convL, conv, conv0, clean]
          exact ⟨⟨_, _, ⟨rfl, rfl⟩, by omega, ts.symm⟩, by omega⟩
def hs_spec_anyPolygon : HSpec := ⟨[false], fun xs hp => match xs, hp with | [.ptr 1000 0], [(1000, .box ty [.sl 1 es, .num .i64 pz])] => (isBy es) ∧ (ty = 86) ∧ (pz = (pz.toNat : Int)) ∧ ((fun (b : List Int) (p : Nat) => BytesOK b) (toIs es) pz.toNat) ∧ ((fun (b : List Int) (p : Nat) => p ≤ 700000) (toIs es) pz.toNat) | _, _ => False, fun xs hp => match xs, hp with | [.ptr 1000 0], [(1000, .box ty [.sl 1 es, .num .i64 pz])] => (fun (b : List Int) (p : Nat) => (.sl 2 (encPs (aPoly b p).1) : IV)) (toIs es) pz.toNat | _, _ => .junk, fun xs hp => match xs, hp with | [.ptr 1000 0], [(1000, .box ty [.sl 1 es, .num .i64 pz])] => (fun (b : List Int) (p : Nat) => ([(1000, rdr b (aPoly b p).2)] : List (Nat × IBlk))) (toIs es) pz.toNat | _, _ => []⟩
theorem hk_spec_anyPolygon : ∀ args hp, hs_spec_anyPolygon.pre args hp → HCall Try.prog 34 args (sm hp) (hs_spec_anyPolygon.val args hp) (sm (hs_spec_anyPolygon.hval args hp)) := by
  intro args hp h
  unfold hs_spec_anyPolygon at h ⊢; simp only at h ⊢; split at h
  · obtain ⟨h1, rfl, h3, h4, h5⟩ := h; obtain ⟨l, rfl⟩ := isBy_ex h1; rw [toBy_enc] at *; rw [h3]; exact c_spec_anyPolygon l _ h4 (by simpa using h5)
  · exact h.elim
theorem en_spec_anyPolygon : Enters Try.prog 34 := enters_of Try.func34 (by kernel_rfl) rfl

end Go.Proofs.Ytlcndghaendieaa
