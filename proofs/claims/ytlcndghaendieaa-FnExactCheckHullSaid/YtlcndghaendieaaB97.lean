/- The exact law on certificates of hulls: the walk. -/
import Derived.Test.YtlcndghaendieaaB96
import Derived.Test.YtlcndghaendieaaBT
set_option linter.unusedVariables false
set_option linter.unusedSimpArgs false
set_option maxHeartbeats 16000000
set_option maxRecDepth 100000
namespace Go.Proofs.Ytlcndghaendieaa
open Go Go.Ideal Go.Pl Go.Sort

abbrev iAt (l : List Int) (i : Nat) : Int := l.getD i 0
/-- Do three indices name vertices whose triangle has a point? -/
def wT (H : List Pt) (w : List Int) (q : Pt) : Bool := decide (w.length = 3) && (inR (iAt w 0) 0 ((H.length : Int) - 1) && (inR (iAt w 1) 0 ((H.length : Int) - 1) && (inR (iAt w 2) 0 ((H.length : Int) - 1) && inTri (pAt H (iAt w 0).toNat) (pAt H (iAt w 1).toNat) (pAt H (iAt w 2).toNat) q)))
def wsB (L H : List Pt) (W : List (List Int)) : Bool := (List.range W.length).all fun i => wT H (wAt W i) (pAt L i)
def memB (L H : List Pt) : Bool := !H.any (outL L)
def preB (L H : List Pt) (W : List (List Int)) : Bool := okPs L && (okPs H && (!decide (L.length = 0) && (decide (W.length = L.length) && shpS H)))
/-- Is it a certificate of a hull? -/
def ckH (L H : List Pt) (W : List (List Int)) : Bool := preB L H W && (memB L H && wsB L H W)
theorem ws_no {L H : List Pt} {W : List (List Int)} {i : Nat} (hi : i < W.length) (h : wT H (wAt W i) (pAt L i) = false) : wsB L H W = false := all_no hi h
theorem lenb {a b : Nat} : (((a : Nat) : Int) != ((b : Nat) : Int)) = !decide (a = b) := neb
theorem getD_or (l : List Pt) (k : Nat) : (∃ p : Pt, (encPs l).getD k .junk = .agg [.num .i64 p.1, .num .i64 p.2]) ∨ (encPs l).getD k .junk = .junk := by
  rcases Nat.lt_or_ge k l.length with c | c
  · exact .inl ⟨_, getD_encPs c⟩
  · exact .inr (by rw [List.getD, List.getElem?_eq_none (by rw [len_encPs]; exact c)]; rfl)
def g_spec_CheckHull : List (Nat × PSpec) := [(57, sp_spec_validPoints), (58, sp_spec_checkShape), (59, sp_spec_has), (50, sp_spec_inRange), (60, sp_spec_inTriangle)]
theorem gok_spec_CheckHull : GOK Try.prog g_spec_CheckHull := gok_cons gk_spec_validPoints en_spec_validPoints (gok_cons gk_spec_checkShape en_spec_checkShape (gok_cons gk_spec_has en_spec_has (gok_cons gk_spec_inRange en_spec_inRange (gok_cons gk_spec_inTriangle en_spec_inTriangle (gok0)))))
theorem lk_spec_CheckHull_spec_validPoints : lkG g_spec_CheckHull 57 = sp_spec_validPoints := rfl
theorem lk_spec_CheckHull_spec_checkShape : lkG g_spec_CheckHull 58 = sp_spec_checkShape := rfl
theorem lk_spec_CheckHull_spec_has : lkG g_spec_CheckHull 59 = sp_spec_has := rfl
theorem lk_spec_CheckHull_spec_inRange : lkG g_spec_CheckHull 50 = sp_spec_inRange := rfl
theorem lk_spec_CheckHull_spec_inTriangle : lkG g_spec_CheckHull 60 = sp_spec_inTriangle := rfl
def h_spec_CheckHull : List (Nat × HSpec) := []
theorem hok_spec_CheckHull : HOK Try.prog h_spec_CheckHull := hok0
theorem c_spec_CheckHull (L : List Pt) (H : List Pt) (W : List (List Int))  : ICall Try.prog 25 [.sl 2 (encPs L), .sl 2 (encPs H), .sl 1 (encLI W)] (.bool (ckH L H W)) := by
  refine icall_V (G := g_spec_CheckHull) (H := []) [(12, [(0, 10), (1, 10), (2, 10), (4, 10), (5, 10), (7, 10), (8, 10), (10, 12), (10, 14), (10, 15), (10, 16), (10, 17), (10, 18), (10, 19), (0, 20), (1, 20), (2, 20), (3, 20), (4, 20), (5, 20), (6, 20), (7, 20), (8, 20), (9, 20), (10, 20), (11, 20), (12, 20), (14, 20), (15, 20), (17, 20), (18, 20), (10, 21), (10, 22), (20, 22), (10, 23), (10, 24), (20, 24), (10, 25), (20, 25), (10, 26), (20, 26), (10, 27), (20, 27), (10, 28), (20, 28), (10, 29), (20, 29), (0, 30), (1, 30), (2, 30), (3, 30), (4, 30), (5, 30), (6, 30), (7, 30), (8, 30), (9, 30), (10, 30), (11, 30), (12, 30), (13, 30), (14, 30), (15, 30), (16, 30), (17, 30), (18, 30), (19, 30), (20, 30), (21, 30), (22, 30), (24, 30), (25, 30), (27, 30), (28, 30), (10, 31), (20, 31), (10, 32), (20, 32), (30, 32), (10, 33), (20, 33), (10, 34), (20, 34), (30, 34), (10, 35), (20, 35), (30, 35), (10, 36), (20, 36), (30, 36), (10, 37), (20, 37), (30, 37), (10, 38), (20, 38), (30, 38), (10, 39), (20, 39), (30, 39), (10, 40), (20, 40), (30, 40), (10, 41), (20, 41), (30, 41), (10, 42), (20, 42), (30, 42), (10, 43), (20, 43), (30, 43), (10, 44), (20, 44), (30, 44), (10, 45), (20, 45), (30, 45), (10, 46), (20, 46), (30, 46), (10, 47), (20, 47), (30, 47), (10, 48), (20, 48), (30, 48), (10, 49), (20, 49), (30, 49), (10, 50), (20, 50), (30, 50), (10, 51), (20, 51), (30, 51), (10, 52), (20, 52), (30, 52), (10, 53), (20, 53), (30, 53), (10, 54), (20, 54), (30, 54), (10, 55), (20, 55), (30, 55), (0, 56), (1, 56), (2, 56), (3, 56), (4, 56), (5, 56), (6, 56), (7, 56), (8, 56), (9, 56), (10, 56), (11, 56), (12, 56), (13, 56), (14, 56), (15, 56), (16, 56), (17, 56), (18, 56), (19, 56), (20, 56), (21, 56), (22, 56), (23, 56), (24, 56), (25, 56), (26, 56), (27, 56), (28, 56), (29, 56), (30, 56), (31, 56), (32, 56), (34, 56), (35, 56), (36, 56), (37, 56), (38, 56), (40, 56), (41, 56), (42, 56), (43, 56), (44, 56), (46, 56), (47, 56), (48, 56), (49, 56), (50, 56), (52, 56), (53, 56), (54, 56), (10, 57), (20, 57), (30, 57), (10, 58), (20, 58), (30, 58), (56, 58)])] tabOK mixed gok_spec_CheckHull hok_spec_CheckHull Try.func25 rfl Try.ntmps25 Try.results25 rfl (by kernel_rfl) fun F hN hlen => ?_
  have eL := len_encPs L
  have eH := len_encPs H
  have eW := len_encLI W
  have hv : ckH L H W = ((okPs L && (okPs H && (!decide (L.length = 0) && (decide (W.length = L.length) && shpS H)))) && (memB L H && wsB L H W)) := rfl
  have e0 : ((L.length : Int) == 0) = decide (L.length = 0) := by rw [Bool.eq_iff_iff]; simp
  cases c1 : okPs L with
  | false =>
    rw [c1] at hv
    simp only [V_seq, V_ret, V_region, V_cond, brW_true, W_nil, W_cons, effOp2, KN_seq, KXr_nil, KXr_seq, QE, asB, effOp, effPure, effPick, effCall, giveUp, hasAll, pureV, pickV, binV, lenV, ofC, strip, lkT, lkH, ISt.app, opI, gO, gB, allB, gval, wrapG, dstOK, setD, lendV, lendP, lent, lentP, idsV, idsL, lkHS, flat, clean, callArgs, callFn, allLent, enumT, Gives, Ideal.Fin, conv, conv0, Op.operands, Call.operands, List.append_toArray, reduceIte, reduceCtorEq, cond_true, Bool.or_false, Bool.or_true, Bool.false_and, Bool.not_true, Bool.not_false, Nat.reduceAdd, Nat.reduceLT, Nat.reduceEqDiff, Nat.zero_add, ne_eq, not_false_eq_true, true_and, and_true, false_and, and_false, and_self, false_implies, implies_true, List.map_cons, List.map_nil, List.nil_append, List.cons_append, List.append_nil, Option.bind_some, List.getElem?_cons_zero, List.getElem?_cons_succ, ex_clo, btf, or_self, Bool.true_eq_false, Bool.false_eq_true, tab23, tab45, hN, isPs_enc, toPs_enc, lk_spec_CheckHull_spec_validPoints, lk_spec_CheckHull_spec_checkShape, sp_spec_validPoints, sp_spec_checkShape, eL, eW, c1, hv]
  | true =>
    have mL := okPs_sm c1
    have zL := okPs_len c1
    cases c2 : okPs H with
    | false =>
      rw [c1, c2] at hv
      simp only [V_seq, V_ret, V_region, V_cond, brW_true, W_nil, W_cons, effOp2, KN_seq, KXr_nil, KXr_seq, QE, asB, effOp, effPure, effPick, effCall, giveUp, hasAll, pureV, pickV, binV, lenV, ofC, strip, lkT, lkH, ISt.app, opI, gO, gB, allB, gval, wrapG, dstOK, setD, lendV, lendP, lent, lentP, idsV, idsL, lkHS, flat, clean, callArgs, callFn, allLent, enumT, Gives, Ideal.Fin, conv, conv0, Op.operands, Call.operands, List.append_toArray, reduceIte, reduceCtorEq, cond_true, cond_false, Bool.or_false, Bool.or_true, Bool.and_false, Bool.false_and, Bool.not_true, Bool.not_false, Nat.reduceAdd, Nat.reduceLT, Nat.reduceEqDiff, Nat.zero_add, ne_eq, not_false_eq_true, beq_self_eq_true, true_and, and_true, false_and, and_false, and_self, false_implies, implies_true, List.map_cons, List.map_nil, List.nil_append, List.cons_append, List.append_nil, Option.bind_some, List.getElem?_cons_zero, List.getElem?_cons_succ, ex_clo, btf, or_self, Bool.true_eq_false, Bool.false_eq_true, tab23, tab45, hN, isPs_enc, toPs_enc, lk_spec_CheckHull_spec_validPoints, lk_spec_CheckHull_spec_checkShape, sp_spec_validPoints, sp_spec_checkShape, eL, eW, c1, c2, hv]
    | true =>
      have mH := okPs_sm c2
      have zH := okPs_len c2
      have zH' : H.length ≤ 1000000 := by omega
      cases c3 : decide (L.length = 0) with
      | true =>
        rw [c1, c2, c3] at hv
        simp only [V_seq, V_ret, V_region, V_cond, brW_true, W_nil, W_cons, effOp2, KN_seq, KXr_nil, KXr_seq, QE, asB, effOp, effPure, effPick, effCall, giveUp, hasAll, pureV, pickV, binV, lenV, ofC, strip, lkT, lkH, ISt.app, opI, gO, gB, allB, gval, wrapG, dstOK, setD, lendV, lendP, lent, lentP, idsV, idsL, lkHS, flat, clean, callArgs, callFn, allLent, enumT, Gives, Ideal.Fin, conv, conv0, Op.operands, Call.operands, List.append_toArray, reduceIte, reduceCtorEq, cond_true, cond_false, Bool.or_false, Bool.or_true, Bool.and_false, Bool.false_and, Bool.not_true, Bool.not_false, Nat.reduceAdd, Nat.reduceLT, Nat.reduceEqDiff, Nat.zero_add, ne_eq, not_false_eq_true, beq_self_eq_true, true_and, and_true, false_and, and_false, and_self, false_implies, implies_true, List.map_cons, List.map_nil, List.nil_append, List.cons_append, List.append_nil, Option.bind_some, List.getElem?_cons_zero, List.getElem?_cons_succ, ex_clo, btf, or_self, Bool.true_eq_false, Bool.false_eq_true, tab23, tab45, hN, isPs_enc, toPs_enc, lk_spec_CheckHull_spec_validPoints, lk_spec_CheckHull_spec_checkShape, sp_spec_validPoints, sp_spec_checkShape, eL, eW, c1, c2, e0, c3, hv]
      | false =>
        cases c4 : decide (W.length = L.length) with
        | false =>
          rw [c1, c2, c3, c4] at hv
          simp only [V_seq, V_ret, V_region, V_cond, brW_true, W_nil, W_cons, effOp2, KN_seq, KXr_nil, KXr_seq, QE, asB, effOp, effPure, effPick, effCall, giveUp, hasAll, pureV, pickV, binV, lenV, ofC, strip, lkT, lkH, ISt.app, opI, gO, gB, allB, gval, wrapG, dstOK, setD, lendV, lendP, lent, lentP, idsV, idsL, lkHS, flat, clean, callArgs, callFn, allLent, enumT, Gives, Ideal.Fin, conv, conv0, Op.operands, Call.operands, List.append_toArray, reduceIte, reduceCtorEq, cond_true, cond_false, Bool.or_false, Bool.or_true, Bool.and_false, Bool.false_and, Bool.not_true, Bool.not_false, Nat.reduceAdd, Nat.reduceLT, Nat.reduceEqDiff, Nat.zero_add, ne_eq, not_false_eq_true, beq_self_eq_true, true_and, and_true, false_and, and_false, and_self, false_implies, implies_true, List.map_cons, List.map_nil, List.nil_append, List.cons_append, List.append_nil, Option.bind_some, List.getElem?_cons_zero, List.getElem?_cons_succ, ex_clo, btf, or_self, Bool.true_eq_false, Bool.false_eq_true, tab23, tab45, hN, isPs_enc, toPs_enc, lk_spec_CheckHull_spec_validPoints, lk_spec_CheckHull_spec_checkShape, sp_spec_validPoints, sp_spec_checkShape, eL, eW, c1, c2, e0, c3, neb, c4, hv]
        | true =>
          cases c5 : shpS H with
          | false =>
            rw [c1, c2, c3, c4, c5] at hv
            simp only [V_seq, V_ret, V_region, V_cond, brW_true, W_nil, W_cons, effOp2, KN_seq, KXr_nil, KXr_seq, QE, asB, effOp, effPure, effPick, effCall, giveUp, hasAll, pureV, pickV, binV, lenV, ofC, strip, lkT, lkH, ISt.app, opI, gO, gB, allB, gval, wrapG, dstOK, setD, lendV, lendP, lent, lentP, idsV, idsL, lkHS, flat, clean, callArgs, callFn, allLent, enumT, Gives, Ideal.Fin, conv, conv0, Op.operands, Call.operands, List.append_toArray, reduceIte, reduceCtorEq, cond_true, cond_false, Bool.or_false, Bool.and_false, Bool.false_and, Bool.not_true, Bool.not_false, Nat.reduceAdd, Nat.reduceLT, Nat.reduceEqDiff, Nat.zero_add, ne_eq, not_false_eq_true, beq_self_eq_true, and_self, implies_true, List.map_cons, List.map_nil, List.nil_append, List.cons_append, List.append_nil, Option.bind_some, List.getElem?_cons_zero, List.getElem?_cons_succ, ex_clo, or_self, Bool.false_eq_true, tab23, tab45, hN, isPs_enc, toPs_enc, lk_spec_CheckHull_spec_validPoints, lk_spec_CheckHull_spec_checkShape, sp_spec_validPoints, sp_spec_checkShape, eL, eW, c1, c2, e0, c3, neb, c4, mH, zH', c5, hv]
          | true =>
            rw [c1, c2, c3, c4, c5] at hv
            simp only [Bool.true_and, Bool.not_false] at hv
            have hWL := of_decide_eq_true c4
            simp only [V_seq, V_skip, V_block, V_region, V_cond, brW_false, W_nil, W_cons, effOp2, KN_seq, asB, effOp, effPure, effPick, effCall, giveUp, hasAll, pureV, pickV, binV, lenV, ofC, strip, lkT, lkH, ISt.app, opI, gO, gB, allB, gval, wrapG, dstOK, setD, lendV, lendP, lent, lentP, idsV, idsL, lkHS, flat, clean, callArgs, callFn, allLent, enumT, Op.operands, Call.operands, List.append_toArray, reduceIte, reduceCtorEq, cond_true, cond_false, Bool.or_false, Bool.not_true, Nat.reduceAdd, Nat.reduceLT, Nat.reduceEqDiff, Nat.zero_add, ne_eq, not_false_eq_true, beq_self_eq_true, true_and, and_self, implies_true, List.map_cons, List.map_nil, List.nil_append, List.cons_append, List.append_nil, Option.bind_some, List.getElem?_cons_zero, List.getElem?_cons_succ, ex_clo, or_self, Bool.false_eq_true, tab23, tab45, hN, isPs_enc, toPs_enc, lk_spec_CheckHull_spec_validPoints, lk_spec_CheckHull_spec_checkShape, sp_spec_validPoints, sp_spec_checkShape, eL, eW, c1, c2, e0, c3, neb, c4, mH, zH', c5]
            refine V_loop (α := Nat) ⟨tabOK, mixed, gok_spec_CheckHull, hok_spec_CheckHull⟩ (by kernel_rfl) (fun i => i ≤ H.length ∧ H.any (outL L) = (H.drop i).any (outL L)) (fun i => ⟨[(7, .num .i64 i), (0, .sl 2 (encPs L)), (1, .sl 2 (encPs H)), (2, .sl 1 (encLI W))], []⟩) (fun i => H.length - i) 0 id ⟨Nat.zero_le _, rfl⟩ (by simp [SLe, SLe0, convTm, convHp, conv, conv0, lkT, lkH, clean]) ?_
            rintro i ⟨hi, hI⟩
            simp only [V_seq, V_region, V_cond, W_nil, W_cons, effOp2, KN_seq, asB, effOp, effPure, pureV, binV, lenV, strip, lkT, ISt.app, opI, gO, gB, allB, gval, wrapG, dstOK, setD, Op.operands, Call.operands, List.append_toArray, reduceIte, reduceCtorEq, Nat.reduceLT, Nat.reduceEqDiff, ne_eq, not_false_eq_true, true_and, and_self, implies_true, List.nil_append, List.cons_append, List.append_nil, tab23, hN, eH]
            refine brW_some (fun h => ?_) (fun h => ?_)
            · have hi' : i < H.length := by simpa using h
              have g0 := getD_encPs hi'
              have hw := wr_succ hi' (by rw [maxLen_eq]; omega)
              have hst := any_idx (f := outL L) (0, 0) hi'
              have hpt : H.getD i (0, 0) = pAt H i := rfl
              rw [hpt, ← hI] at hst
              have ho : outL L (pAt H i) = !L.any (fun x => pAt H i == x) := rfl
              cases x1 : L.any (fun x => pAt H i == x) with
              | false =>
                rw [x1] at ho
                have hm : memB L H = false := by rw [memB, hst, ho]; rfl
                rw [hm, Bool.false_and] at hv
                simp only [V_seq, V_skip, V_ret, V_block, V_region, V_cond, brW_true, W_nil, W_cons, effOp2, KN_seq, KXr_nil, KXr_seq, KXr_block, KXr_back, QE, asB, effOp, effPure, effCall, giveUp, hasAll, pureV, partV, eltV, loadV, iaddrV, ofC, strip, lkT, lkH, ISt.app, opI, gO, gB, allB, gval, wrapG, dstOK, setD, lendV, lendP, lent, lentP, idsV, idsL, lkHS, flat, clean, callArgs, callFn, allLent, Gives, Ideal.Fin, conv, conv0, Op.operands, reduceIte, reduceCtorEq, cond_true, Bool.or_false, Bool.not_true, Bool.not_false, Nat.reduceAdd, Nat.reduceLT, Nat.reduceLeDiff, Nat.reduceEqDiff, Nat.zero_add, ne_eq, not_false_eq_true, true_and, and_true, and_false, and_self, implies_true, forall_const, List.map_cons, List.map_nil, List.nil_append, List.cons_append, List.append_nil, List.getD_cons_zero, List.length_cons, List.length_nil, List.take_succ_cons, List.take_nil, List.drop_zero, ex_clo, or_self, tab23, tab28, hN, pe, Int.toNat_natCast, isPs_enc, toPs_enc, lk_spec_CheckHull_spec_has, sp_spec_has, eH, g0, x1, hv]
                try omega
              | true =>
                rw [x1] at ho
                have hn : H.any (outL L) = (H.drop (i + 1)).any (outL L) := by rw [hst, ho]; rfl
                simp only [V_seq, V_skip, V_block, V_region, V_cond, brW_false, W_nil, W_cons, effOp2, KN_seq, KN_block, KN_back, asB, effOp, effPure, effCall, giveUp, hasAll, pureV, binV, partV, eltV, loadV, iaddrV, ofC, strip, lkT, lkH, ISt.app, opI, gO, gB, allB, gval, wrapG, dstOK, setD, lendV, lendP, lent, lentP, idsV, idsL, lkHS, flat, clean, callArgs, callFn, allLent, Op.operands, reduceIte, reduceCtorEq, cond_true, Bool.or_false, Bool.not_true, Nat.reduceAdd, Nat.reduceLT, Nat.reduceLeDiff, Nat.reduceEqDiff, Nat.zero_add, ne_eq, not_false_eq_true, true_and, and_true, and_false, and_self, implies_true, forall_const, List.map_cons, List.map_nil, List.nil_append, List.cons_append, List.append_nil, List.getD_cons_zero, List.length_cons, List.length_nil, List.take_succ_cons, List.take_nil, List.drop_zero, ex_clo, or_self, tab23, tab28, hN, pe, Int.toNat_natCast, isPs_enc, toPs_enc, lk_spec_CheckHull_spec_has, sp_spec_has, eH, g0, x1, hw]
                repeat refine And.intro (by first | omega | (simp; done) | (simp; omega)) ?_
                exact ⟨i + 1, id, ⟨by omega, hn⟩, by simp only []; omega, by simp [SLe, SLe0, convTm, convHp, conv, conv0, lkT, lkH, clean]⟩
            · have hie : i = H.length := by simp at h; omega
              subst hie
              have hm : memB L H = true := by rw [memB, hI, List.drop_length]; rfl
              rw [hm, Bool.true_and] at hv
              simp only [V_seq, V_exit, V_block, V_region, W_nil, W_cons, effOp2, KN_seq, KXe_nil, KXe_seq, KXe_block, KXe_back, QE, effOp, effPure, pureV, ofC, strip, ISt.app, opI, gO, gB, allB, gval, wrapG, dstOK, setD, Ideal.Fin, Op.operands, reduceIte, Nat.reduceLT, true_and, and_self, implies_true, List.nil_append, List.cons_append, List.append_nil, hN]
              refine V_loop (α := Nat) ⟨tabOK, mixed, gok_spec_CheckHull, hok_spec_CheckHull⟩ (by kernel_rfl) (fun i => i ≤ W.length ∧ ∀ a, a < i → wT H (wAt W a) (pAt L a) = true) (fun i => ⟨[(8, .num .i64 i), (0, .sl 2 (encPs L)), (1, .sl 2 (encPs H)), (2, .sl 1 (encLI W))], []⟩) (fun i => W.length - i) 0 id ⟨Nat.zero_le _, fun a h => absurd h (Nat.not_lt_zero a)⟩ (by simp [SLe, SLe0, convTm, convHp, conv, conv0, lkT, lkH, clean]) ?_
              rintro i ⟨hi, hI⟩
              simp only [V_seq, V_region, V_cond, W_nil, W_cons, effOp2, KN_seq, asB, effOp, effPure, pureV, binV, lenV, strip, lkT, ISt.app, opI, gO, gB, allB, gval, wrapG, dstOK, setD, Op.operands, Call.operands, List.append_toArray, reduceIte, reduceCtorEq, Nat.reduceLT, Nat.reduceEqDiff, ne_eq, not_false_eq_true, true_and, and_self, implies_true, List.nil_append, List.cons_append, List.append_nil, tab45, hN, eW]
              refine brW_some (fun h => ?_) (fun h => ?_)
              · have hi' : i < W.length := by simpa using h
                have g0 := getD_encLI hi'
                have gl := getD_encPs (l := L) (i := i) (by omega)
                have hw := wr_succ hi' (by rw [maxLen_eq]; omega)
                have hT : wT H (wAt W i) (pAt L i) = (decide ((wAt W i).length = 3) && (inR (iAt (wAt W i) 0) 0 ((H.length : Int) - 1) && (inR (iAt (wAt W i) 1) 0 ((H.length : Int) - 1) && (inR (iAt (wAt W i) 2) 0 ((H.length : Int) - 1) && inTri (pAt H (iAt (wAt W i) 0).toNat) (pAt H (iAt (wAt W i) 1).toNat) (pAt H (iAt (wAt W i) 2).toNat) (pAt L i))))) := rfl
                have hno := fun hf => ws_no (L := L) (H := H) hi' hf
                have hyes := fun hf => lt_step (P := fun a => wT H (wAt W a) (pAt L a) = true) hI hf
                have sq := mL.at i
                obtain ⟨w, hw0⟩ : ∃ w, wAt W i = w := ⟨_, rfl⟩
                obtain ⟨q, hq0⟩ : ∃ q, pAt L i = q := ⟨_, rfl⟩
                rw [hw0, hq0] at hT hno hyes
                rw [hw0] at g0
                rw [hq0] at gl sq
                have ew := len_encI w
                have n3 : ((w.length : Int) != 3) = !decide (w.length = 3) := by rw [Bool.eq_iff_iff]; simp; omega
                have wH : IntKind.i64.wrap ((H.length : Int) - 1) = (H.length : Int) - 1 := wr (by omega) (by omega)
                have t0 : Int.toNat 0 = 0 := rfl
                have t1 : Int.toNat 1 = 1 := rfl
                have t2 : Int.toNat 2 = 2 := rfl
                cases x0 : decide (w.length = 3) with
                | false =>
                  rw [x0] at hT
                  have hf := hno (by rw [hT]; rfl)
                  rw [hf] at hv
                  have q0 := of_decide_eq_false x0
                  by_cases l0 : w.length = 0
                  · have j0 : (encI w).getD 0 .junk = .junk := by rw [List.getD, List.getElem?_eq_none (by omega)]; rfl
                    have j1 : (encI w).getD 1 .junk = .junk := by rw [List.getD, List.getElem?_eq_none (by omega)]; rfl
                    have j2 : (encI w).getD 2 .junk = .junk := by rw [List.getD, List.getElem?_eq_none (by omega)]; rfl
                    simp only [V_seq, V_skip, V_ret, V_block, V_region, V_draw, V_cond, brW_true, drawW, WS_nil, pairsOf, W_nil, W_cons, effOp2, effOp3, WI_nil, WI_cons, KN_seq, KXr_nil, KXr_seq, KXr_block, KXr_back, QE, dynOK, indB, farB, freshB, freshK, freshK1, heapy, asB, effOp, effPure, effPick, effCall, giveUp, hasAll, pureV, pickV, binV, partV, eltV, loadV, iaddrV, lenV, ofC, strip, lkT, lkH, ISt.app, opI, gO, gB, allB, gval, wrapG, dstOK, setD, mentTm, mentHp, IV.ment, IV.mentL, lendV, lendP, lent, lentP, idsV, idsL, lkHS, flat, clean, callArgs, callFn, allLent, Gives, Ideal.Fin, conv, conv0, Op.operands, Call.operands, List.append_toArray, reduceIte, reduceCtorEq, cond_true, cond_false, Bool.or_false, Bool.or_true, Bool.and_true, Bool.and_eq_true, Bool.not_false, Nat.reduceAdd, Nat.reduceLT, Nat.reduceLeDiff, Nat.reduceEqDiff, Nat.reduceBEq, Nat.zero_add, ne_eq, not_false_eq_true, true_and, and_true, false_and, and_false, and_self, false_implies, implies_true, forall_const, List.map_cons, List.map_nil, List.nil_append, List.cons_append, List.append_nil, Option.bind_some, List.getElem?_cons_zero, List.getElem?_cons_succ, List.getD_cons_zero, List.getD_cons_succ, List.length_cons, List.length_nil, List.take_succ_cons, List.take_zero, List.take_nil, List.drop_zero, ex_clo, btf, or_true, Bool.false_eq_true, tab3, tab23, tab28, tab45, tab72, hN, Int.toNat_natCast, lk_spec_CheckHull_spec_inRange, lk_spec_CheckHull_spec_inTriangle, sp_spec_inRange, sp_spec_inTriangle, eW, eL, eH, n3, wH, g0, gl, ew, x0, t0, t1, t2, j0, j1, j2, hv]
                    try omega
                  · by_cases l1 : w.length = 1
                    · have j0 : (encI w).getD 0 .junk = .num .i64 (iAt w 0) := getD_encI (by omega)
                      have j1 : (encI w).getD 1 .junk = .junk := by rw [List.getD, List.getElem?_eq_none (by omega)]; rfl
                      have j2 : (encI w).getD 2 .junk = .junk := by rw [List.getD, List.getElem?_eq_none (by omega)]; rfl
                      generalize iAt w 0 = x at *
                      rcases getD_or H x.toNat with ⟨px, yx⟩ | yx
                      all_goals
                        simp only [V_seq, V_skip, V_ret, V_block, V_region, V_draw, V_cond, brW_true, drawW, WS_nil, pairsOf, W_nil, W_cons, effOp2, effOp3, WI_nil, WI_cons, KN_seq, KXr_nil, KXr_seq, KXr_block, KXr_back, QE, dynOK, indB, farB, freshB, freshK, freshK1, heapy, asB, effOp, effPure, effPick, effCall, giveUp, hasAll, pureV, pickV, binV, partV, eltV, loadV, iaddrV, lenV, ofC, strip, lkT, lkH, ISt.app, opI, gO, gB, allB, gval, wrapG, dstOK, setD, mentTm, mentHp, IV.ment, IV.mentL, lendV, lendP, lent, lentP, idsV, idsL, lkHS, flat, clean, callArgs, callFn, allLent, Gives, Ideal.Fin, conv, conv0, Op.operands, Call.operands, List.append_toArray, reduceIte, reduceCtorEq, cond_true, cond_false, Bool.or_false, Bool.or_true, Bool.and_true, Bool.and_eq_true, Bool.not_false, Nat.reduceAdd, Nat.reduceLT, Nat.reduceLeDiff, Nat.reduceEqDiff, Nat.reduceBEq, Nat.zero_add, ne_eq, not_false_eq_true, true_and, and_true, false_and, and_false, and_self, false_implies, implies_true, forall_const, List.map_cons, List.map_nil, List.nil_append, List.cons_append, List.append_nil, Option.bind_some, List.getElem?_cons_zero, List.getElem?_cons_succ, List.getD_cons_zero, List.getD_cons_succ, List.length_cons, List.length_nil, List.take_succ_cons, List.take_zero, List.take_nil, List.drop_zero, ex_clo, btf, or_true, or_self, Bool.true_eq_false, Bool.false_eq_true, tab3, tab23, tab28, tab45, tab72, hN, Int.toNat_natCast, lk_spec_CheckHull_spec_inRange, lk_spec_CheckHull_spec_inTriangle, sp_spec_inRange, sp_spec_inTriangle, eW, eL, eH, n3, wH, g0, gl, ew, x0, t0, t1, t2, j0, j1, j2, yx, hv]
                        try omega
                    · by_cases l2 : w.length = 2
                      · have j0 : (encI w).getD 0 .junk = .num .i64 (iAt w 0) := getD_encI (by omega)
                        have j1 : (encI w).getD 1 .junk = .num .i64 (iAt w 1) := getD_encI (by omega)
                        have j2 : (encI w).getD 2 .junk = .junk := by rw [List.getD, List.getElem?_eq_none (by omega)]; rfl
                        generalize iAt w 0 = x at *
                        generalize iAt w 1 = y at *
                        rcases getD_or H x.toNat with ⟨px, yx⟩ | yx <;> rcases getD_or H y.toNat with ⟨py, yy⟩ | yy
                        all_goals
                          simp only [V_seq, V_skip, V_ret, V_block, V_region, V_draw, V_cond, brW_true, drawW, WS_nil, pairsOf, W_nil, W_cons, effOp2, effOp3, WI_nil, WI_cons, KN_seq, KXr_nil, KXr_seq, KXr_block, KXr_back, QE, dynOK, indB, farB, freshB, freshK, freshK1, heapy, asB, effOp, effPure, effPick, effCall, giveUp, hasAll, pureV, pickV, binV, partV, eltV, loadV, iaddrV, lenV, ofC, strip, lkT, lkH, ISt.app, opI, gO, gB, allB, gval, wrapG, dstOK, setD, mentTm, mentHp, IV.ment, IV.mentL, lendV, lendP, lent, lentP, idsV, idsL, lkHS, flat, clean, callArgs, callFn, allLent, Gives, Ideal.Fin, conv, conv0, Op.operands, Call.operands, List.append_toArray, reduceIte, reduceCtorEq, cond_true, cond_false, Bool.or_false, Bool.or_true, Bool.and_true, Bool.and_eq_true, Bool.not_false, Nat.reduceAdd, Nat.reduceLT, Nat.reduceLeDiff, Nat.reduceEqDiff, Nat.reduceBEq, Nat.zero_add, ne_eq, not_false_eq_true, true_and, and_true, false_and, and_false, and_self, false_implies, implies_true, forall_const, List.map_cons, List.map_nil, List.nil_append, List.cons_append, List.append_nil, Option.bind_some, List.getElem?_cons_zero, List.getElem?_cons_succ, List.getD_cons_zero, List.getD_cons_succ, List.length_cons, List.length_nil, List.take_succ_cons, List.take_zero, List.take_nil, List.drop_zero, ex_clo, btf, or_true, or_self, Bool.true_eq_false, Bool.false_eq_true, tab3, tab23, tab28, tab45, tab72, hN, Int.toNat_natCast, lk_spec_CheckHull_spec_inRange, lk_spec_CheckHull_spec_inTriangle, sp_spec_inRange, sp_spec_inTriangle, eW, eL, eH, n3, wH, g0, gl, ew, x0, t0, t1, t2, j0, j1, j2, yx, yy, hv]
                          try omega
                      · have j0 : (encI w).getD 0 .junk = .num .i64 (iAt w 0) := getD_encI (by omega)
                        have j1 : (encI w).getD 1 .junk = .num .i64 (iAt w 1) := getD_encI (by omega)
                        have j2 : (encI w).getD 2 .junk = .num .i64 (iAt w 2) := getD_encI (by omega)
                        generalize iAt w 0 = x at *
                        generalize iAt w 1 = y at *
                        generalize iAt w 2 = z at *
                        rcases getD_or H x.toNat with ⟨px, yx⟩ | yx <;> rcases getD_or H y.toNat with ⟨py, yy⟩ | yy <;> rcases getD_or H z.toNat with ⟨pz, yz⟩ | yz
                        all_goals
                          simp only [V_seq, V_skip, V_ret, V_block, V_region, V_draw, V_cond, brW_true, drawW, WS_nil, pairsOf, W_nil, W_cons, effOp2, effOp3, WI_nil, WI_cons, KN_seq, KXr_nil, KXr_seq, KXr_block, KXr_back, QE, dynOK, indB, farB, freshB, freshK, freshK1, heapy, asB, effOp, effPure, effPick, effCall, giveUp, hasAll, pureV, pickV, binV, partV, eltV, loadV, iaddrV, lenV, ofC, strip, lkT, lkH, ISt.app, opI, gO, gB, allB, gval, wrapG, dstOK, setD, mentTm, mentHp, IV.ment, IV.mentL, lendV, lendP, lent, lentP, idsV, idsL, lkHS, flat, clean, callArgs, callFn, allLent, Gives, Ideal.Fin, conv, conv0, Op.operands, Call.operands, List.append_toArray, reduceIte, reduceCtorEq, cond_true, cond_false, Bool.or_false, Bool.or_true, Bool.and_true, Bool.and_eq_true, Bool.not_false, Nat.reduceAdd, Nat.reduceLT, Nat.reduceLeDiff, Nat.reduceEqDiff, Nat.reduceBEq, Nat.zero_add, ne_eq, not_false_eq_true, true_and, and_true, false_and, and_false, and_self, false_implies, implies_true, forall_const, List.map_cons, List.map_nil, List.nil_append, List.cons_append, List.append_nil, Option.bind_some, List.getElem?_cons_zero, List.getElem?_cons_succ, List.getD_cons_zero, List.getD_cons_succ, List.length_cons, List.length_nil, List.take_succ_cons, List.take_zero, List.take_nil, List.drop_zero, ex_clo, btf, or_true, or_self, Bool.true_eq_false, Bool.false_eq_true, tab3, tab23, tab28, tab45, tab72, hN, pe, Int.toNat_natCast, lk_spec_CheckHull_spec_inRange, lk_spec_CheckHull_spec_inTriangle, sp_spec_inRange, sp_spec_inTriangle, eW, eL, eH, n3, wH, g0, gl, sq, ew, x0, t0, t1, t2, j0, j1, j2, yx, yy, yz, hv]
                          try omega
                | true =>
                  have q0 := of_decide_eq_true x0
                  have j0 : (encI w).getD 0 .junk = .num .i64 (iAt w 0) := getD_encI (by omega)
                  have j1 : (encI w).getD 1 .junk = .num .i64 (iAt w 1) := getD_encI (by omega)
                  have j2 : (encI w).getD 2 .junk = .num .i64 (iAt w 2) := getD_encI (by omega)
                  have hT' := hT
                  rw [x0, Bool.true_and] at hT'
                  generalize iAt w 0 = x at *
                  generalize iAt w 1 = y at *
                  generalize iAt w 2 = z at *
                  have hin : ∀ {u : Int}, inR u 0 ((H.length : Int) - 1) = true → 0 ≤ u ∧ u < (H.length : Int) := fun hu => by
                    simp only [inR, Bool.and_eq_true, decide_eq_true_eq] at hu; omega
                  cases x1 : inR x 0 ((H.length : Int) - 1) with
                  | false =>
                    rw [x1] at hT'
                    have hf := hno (by rw [hT']; rfl)
                    rw [hf] at hv
                    rcases getD_or H x.toNat with ⟨px, yx⟩ | yx <;> rcases getD_or H y.toNat with ⟨py, yy⟩ | yy <;> rcases getD_or H z.toNat with ⟨pz, yz⟩ | yz
                    all_goals
                      simp only [V_seq, V_skip, V_ret, V_block, V_region, V_draw, V_cond, brW_true, drawW, WS_nil, pairsOf, W_nil, W_cons, effOp2, effOp3, WI_nil, WI_cons, KN_seq, KXr_nil, KXr_seq, KXr_block, KXr_back, QE, dynOK, indB, farB, freshB, freshK, freshK1, heapy, asB, effOp, effPure, effPick, effCall, giveUp, hasAll, pureV, pickV, binV, partV, eltV, loadV, iaddrV, lenV, ofC, strip, lkT, lkH, ISt.app, opI, gO, gB, allB, gval, wrapG, dstOK, setD, mentTm, mentHp, IV.ment, IV.mentL, lendV, lendP, lent, lentP, idsV, idsL, lkHS, flat, clean, callArgs, callFn, allLent, Gives, Ideal.Fin, conv, conv0, Op.operands, Call.operands, List.append_toArray, reduceIte, reduceCtorEq, cond_true, cond_false, Bool.or_false, Bool.or_true, Bool.and_true, Bool.and_eq_true, Bool.not_true, Bool.not_false, Nat.reduceAdd, Nat.reduceLT, Nat.reduceLeDiff, Nat.reduceEqDiff, Nat.reduceBEq, Nat.zero_add, ne_eq, not_false_eq_true, beq_self_eq_true, true_and, and_true, false_and, and_false, and_self, false_implies, implies_true, forall_const, List.map_cons, List.map_nil, List.nil_append, List.cons_append, List.append_nil, Option.bind_some, List.getElem?_cons_zero, List.getElem?_cons_succ, List.getD_cons_zero, List.getD_cons_succ, List.length_cons, List.length_nil, List.take_succ_cons, List.take_zero, List.take_nil, List.drop_zero, ex_clo, btf, or_true, or_self, Bool.true_eq_false, Bool.false_eq_true, tab3, tab23, tab28, tab45, tab72, hN, pe, Int.toNat_natCast, lk_spec_CheckHull_spec_inRange, lk_spec_CheckHull_spec_inTriangle, sp_spec_inRange, sp_spec_inTriangle, eW, eL, eH, n3, wH, g0, gl, sq, ew, x0, t0, t1, t2, j0, j1, j2, x1, yx, yy, yz, hv]
                      try omega
                  | true =>
                    have bx := hin x1
                    have yx := getD_encPs (l := H) (i := x.toNat) (by omega)
                    have sx := mH.at x.toNat
                    cases x2 : inR y 0 ((H.length : Int) - 1) with
                    | false =>
                      rw [x1, x2] at hT'
                      have hf := hno (by rw [hT']; rfl)
                      rw [hf] at hv
                      rcases getD_or H y.toNat with ⟨py, yy⟩ | yy <;> rcases getD_or H z.toNat with ⟨pz, yz⟩ | yz
                      all_goals
                        simp only [V_seq, V_skip, V_ret, V_block, V_region, V_draw, V_cond, brW_true, drawW, WS_nil, pairsOf, W_nil, W_cons, effOp2, effOp3, WI_nil, WI_cons, KN_seq, KXr_nil, KXr_seq, KXr_block, KXr_back, QE, dynOK, indB, farB, freshB, freshK, freshK1, heapy, asB, effOp, effPure, effPick, effCall, giveUp, hasAll, pureV, pickV, binV, partV, eltV, loadV, iaddrV, lenV, ofC, strip, lkT, lkH, ISt.app, opI, gO, gB, allB, gval, wrapG, dstOK, setD, mentTm, mentHp, IV.ment, IV.mentL, lendV, lendP, lent, lentP, idsV, idsL, lkHS, flat, clean, callArgs, callFn, allLent, Gives, Ideal.Fin, conv, conv0, Op.operands, Call.operands, List.append_toArray, reduceIte, reduceCtorEq, cond_true, cond_false, Bool.or_false, Bool.or_true, Bool.and_true, Bool.and_eq_true, Bool.not_true, Bool.not_false, Nat.reduceAdd, Nat.reduceLT, Nat.reduceLeDiff, Nat.reduceEqDiff, Nat.reduceBEq, Nat.zero_add, ne_eq, not_false_eq_true, beq_self_eq_true, true_and, and_true, false_and, and_false, and_self, false_implies, implies_true, forall_const, List.map_cons, List.map_nil, List.nil_append, List.cons_append, List.append_nil, Option.bind_some, List.getElem?_cons_zero, List.getElem?_cons_succ, List.getD_cons_zero, List.getD_cons_succ, List.length_cons, List.length_nil, List.take_succ_cons, List.take_zero, List.take_nil, List.drop_zero, ex_clo, btf, or_true, or_self, Bool.true_eq_false, Bool.false_eq_true, tab3, tab23, tab28, tab45, tab72, hN, pe, Int.toNat_natCast, lk_spec_CheckHull_spec_inRange, lk_spec_CheckHull_spec_inTriangle, sp_spec_inRange, sp_spec_inTriangle, eW, eL, eH, n3, wH, g0, gl, sq, ew, x0, t0, t1, t2, j0, j1, j2, x1, x2, yx, yy, yz, sx, hv]
                        try omega
                    | true =>
                      have by_ := hin x2
                      have yy := getD_encPs (l := H) (i := y.toNat) (by omega)
                      have sy := mH.at y.toNat
                      cases x3 : inR z 0 ((H.length : Int) - 1) with
                      | false =>
                        rw [x1, x2, x3] at hT'
                        have hf := hno (by rw [hT']; rfl)
                        rw [hf] at hv
                        rcases getD_or H z.toNat with ⟨pz, yz⟩ | yz
                        all_goals
                          simp only [V_seq, V_skip, V_ret, V_block, V_region, V_draw, V_cond, brW_true, drawW, WS_nil, pairsOf, W_nil, W_cons, effOp2, effOp3, WI_nil, WI_cons, KN_seq, KXr_nil, KXr_seq, KXr_block, KXr_back, QE, dynOK, indB, farB, freshB, freshK, freshK1, heapy, asB, effOp, effPure, effPick, effCall, giveUp, hasAll, pureV, pickV, binV, partV, eltV, loadV, iaddrV, lenV, ofC, strip, lkT, lkH, ISt.app, opI, gO, gB, allB, gval, wrapG, dstOK, setD, mentTm, mentHp, IV.ment, IV.mentL, lendV, lendP, lent, lentP, idsV, idsL, lkHS, flat, clean, callArgs, callFn, allLent, Gives, Ideal.Fin, conv, conv0, Op.operands, Call.operands, List.append_toArray, reduceIte, reduceCtorEq, cond_true, cond_false, Bool.or_false, Bool.or_true, Bool.and_true, Bool.and_eq_true, Bool.not_true, Bool.not_false, Nat.reduceAdd, Nat.reduceLT, Nat.reduceLeDiff, Nat.reduceEqDiff, Nat.reduceBEq, Nat.zero_add, ne_eq, not_false_eq_true, beq_self_eq_true, true_and, and_true, false_and, and_false, and_self, false_implies, implies_true, forall_const, List.map_cons, List.map_nil, List.nil_append, List.cons_append, List.append_nil, Option.bind_some, List.getElem?_cons_zero, List.getElem?_cons_succ, List.getD_cons_zero, List.getD_cons_succ, List.length_cons, List.length_nil, List.take_succ_cons, List.take_zero, List.take_nil, List.drop_zero, ex_clo, btf, or_true, or_self, Bool.true_eq_false, Bool.false_eq_true, tab3, tab23, tab28, tab45, tab72, hN, pe, Int.toNat_natCast, lk_spec_CheckHull_spec_inRange, lk_spec_CheckHull_spec_inTriangle, sp_spec_inRange, sp_spec_inTriangle, eW, eL, eH, n3, wH, g0, gl, sq, ew, x0, t0, t1, t2, j0, j1, j2, x1, x2, x3, yx, yy, yz, sx, sy, hv]
                          try omega
                      | true =>
                        have bz := hin x3
                        have yz := getD_encPs (l := H) (i := z.toNat) (by omega)
                        have sz := mH.at z.toNat
                        rw [x1, x2, x3, Bool.true_and, Bool.true_and, Bool.true_and] at hT'
                        cases x4 : inTri (pAt H x.toNat) (pAt H y.toNat) (pAt H z.toNat) q with
                        | false =>
                          have hf := hno (by rw [hT', x4])
                          rw [hf] at hv
                          simp only [V_seq, V_skip, V_ret, V_block, V_region, V_draw, V_cond, brW_true, drawW, WS_nil, pairsOf, W_nil, W_cons, effOp2, effOp3, WI_nil, WI_cons, KN_seq, KXr_nil, KXr_seq, KXr_block, KXr_back, QE, dynOK, indB, farB, freshB, freshK, freshK1, heapy, asB, effOp, effPure, effPick, effCall, giveUp, hasAll, pureV, pickV, binV, partV, eltV, loadV, iaddrV, lenV, ofC, strip, lkT, lkH, ISt.app, opI, gO, gB, allB, gval, wrapG, dstOK, setD, mentTm, mentHp, IV.ment, IV.mentL, lendV, lendP, lent, lentP, idsV, idsL, lkHS, flat, clean, callArgs, callFn, allLent, Gives, Ideal.Fin, conv, conv0, Op.operands, Call.operands, List.append_toArray, reduceIte, reduceCtorEq, cond_true, cond_false, Bool.or_false, Bool.and_true, Bool.and_eq_true, Bool.not_true, Bool.not_false, Nat.reduceAdd, Nat.reduceLT, Nat.reduceLeDiff, Nat.reduceEqDiff, Nat.reduceBEq, Nat.zero_add, ne_eq, not_false_eq_true, beq_self_eq_true, true_and, and_true, and_false, and_self, implies_true, forall_const, List.map_cons, List.map_nil, List.nil_append, List.cons_append, List.append_nil, Option.bind_some, List.getElem?_cons_zero, List.getElem?_cons_succ, List.getD_cons_zero, List.getD_cons_succ, List.length_cons, List.length_nil, List.take_succ_cons, List.take_zero, List.take_nil, List.drop_zero, ex_clo, or_self, Bool.false_eq_true, tab3, tab23, tab28, tab45, tab72, hN, pe, Int.toNat_natCast, lk_spec_CheckHull_spec_inRange, lk_spec_CheckHull_spec_inTriangle, sp_spec_inRange, sp_spec_inTriangle, eW, eL, eH, n3, wH, g0, gl, sq, ew, x0, t0, t1, t2, j0, j1, j2, x1, x2, x3, x4, yx, yy, yz, sx, sy, sz, hv]
                          try omega
                        | true =>
                          simp only [V_seq, V_skip, V_block, V_region, V_draw, V_cond, brW_false, drawW, WS_nil, pairsOf, W_nil, W_cons, effOp2, effOp3, WI_nil, WI_cons, KN_seq, KN_block, KN_back, dynOK, indB, farB, freshB, freshK, freshK1, heapy, asB, effOp, effPure, effPick, effCall, giveUp, hasAll, pureV, pickV, binV, partV, eltV, loadV, iaddrV, lenV, ofC, strip, lkT, lkH, ISt.app, opI, gO, gB, allB, gval, wrapG, dstOK, setD, mentTm, mentHp, IV.ment, IV.mentL, lendV, lendP, lent, lentP, idsV, idsL, lkHS, flat, clean, callArgs, callFn, allLent, Op.operands, Call.operands, List.append_toArray, reduceIte, reduceCtorEq, cond_true, cond_false, Bool.or_false, Bool.and_true, Bool.and_eq_true, Bool.not_true, Bool.not_false, Nat.reduceAdd, Nat.reduceLT, Nat.reduceLeDiff, Nat.reduceEqDiff, Nat.reduceBEq, Nat.zero_add, ne_eq, not_false_eq_true, beq_self_eq_true, true_and, and_true, and_false, and_self, implies_true, forall_const, List.map_cons, List.map_nil, List.nil_append, List.cons_append, List.append_nil, Option.bind_some, List.getElem?_cons_zero, List.getElem?_cons_succ, List.getD_cons_zero, List.getD_cons_succ, List.length_cons, List.length_nil, List.take_succ_cons, List.take_zero, List.take_nil, List.drop_zero, ex_clo, or_self, Bool.false_eq_true, tab3, tab23, tab28, tab45, tab72, hN, pe, Int.toNat_natCast, lk_spec_CheckHull_spec_inRange, lk_spec_CheckHull_spec_inTriangle, sp_spec_inRange, sp_spec_inTriangle, eW, eL, eH, n3, wH, g0, gl, sq, ew, x0, t0, t1, t2, j0, j1, j2, x1, x2, x3, x4, yx, yy, yz, sx, sy, sz, hw]
                          repeat refine And.intro (by first | omega | (simp; done) | (simp; omega)) ?_
                          exact ⟨i + 1, id, ⟨by omega, hyes (by rw [hT', x4])⟩, by simp only []; omega, by simp [SLe, SLe0, convTm, convHp, conv, conv0, lkT, lkH, clean]⟩
              · have hie : i = W.length := by simp at h; omega
                subst hie
                have hf : wsB L H W = true := all_yes hI
                rw [hf] at hv
                simp only [V_seq, V_ret, V_exit, V_region, W_nil, W_cons, effOp2, KN_seq, KXr_nil, KXe_nil, KXe_seq, KXe_block, KXe_back, QE, effOp, effPure, pureV, ofC, strip, lkT, lkH, ISt.app, opI, gO, gB, allB, gval, wrapG, dstOK, setD, clean, Gives, Ideal.Fin, conv, conv0, Op.operands, reduceIte, reduceCtorEq, Nat.reduceLT, Nat.reduceEqDiff, and_self, implies_true, List.nil_append, List.cons_append, List.append_nil, hN, hv]
def sp_spec_CheckHull : PSpec := ⟨fun xs => match xs with | [.sl 2 Les, .sl 2 Hes, .sl 1 Wes] => isPs Les ∧ isPs Hes ∧ isLI Wes | _ => False, fun xs => match xs with | [.sl _ Les, .sl _ Hes, .sl _ Wes] => (fun (L : List Pt) (H : List Pt) (W : List (List Int)) => .bool (ckH L H W)) (toPs Les) (toPs Hes) (toLI Wes) | _ => .junk, false⟩
theorem gk_spec_CheckHull : ∀ args, sp_spec_CheckHull.pre args → ICall Try.prog 25 args (sp_spec_CheckHull.val args) := by
  intro args h
  unfold sp_spec_CheckHull at h ⊢; simp only at h ⊢; split at h
  · obtain ⟨h0, h1, h2⟩ := h
    obtain ⟨l0, rfl⟩ := isP_ex h0
    obtain ⟨l1, rfl⟩ := isP_ex h1
    obtain ⟨l2, rfl⟩ := isLI_ex h2
    simp only [toPs_enc, toLI_enc] at *
    exact c_spec_CheckHull _ _ _ 
  · exact h.elim
theorem en_spec_CheckHull : Enters Try.prog 25 := enters_of Try.func25 (by kernel_rfl) rfl

end Go.Proofs.Ytlcndghaendieaa
