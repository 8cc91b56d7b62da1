/- Contracts: strictly convex rings, the shape of a hull: the walks. -/
import Derived.Test.YtlcndghaendieaaB95
set_option linter.unusedVariables false
set_option linter.unusedSimpArgs false
set_option maxHeartbeats 16000000
set_option maxRecDepth 100000
namespace Go.Proofs.Ytlcndghaendieaa
open Go Go.Ideal Go.Pl Go.Sort

theorem rg_no {h : List Pt} {i k : Nat} (hi : i < h.length) (hk : k < h.length) (hf : rgT h i k = false) : rgB h = false := by
  cases hr : rgB h with
  | false => rfl
  | true => rw [rg_iff] at hr; rw [hr i hi k hk] at hf; cases hf
def g_spec_isConvexRing : List (Nat × PSpec) := [(107, sp_spec_cross)]
theorem gok_spec_isConvexRing : GOK Try.prog g_spec_isConvexRing := gok_cons gk_spec_cross en_spec_cross (gok0)
theorem lk_spec_isConvexRing_spec_cross : lkG g_spec_isConvexRing 107 = sp_spec_cross := rfl
def h_spec_isConvexRing : List (Nat × HSpec) := []
theorem hok_spec_isConvexRing : HOK Try.prog h_spec_isConvexRing := hok0
theorem c_spec_isConvexRing (l : List Pt) (hm : SmL l) (hsz : l.length ≤ 1000000) : ICall Try.prog 105 [.sl 2 (encPs l)] (.bool (rgB l)) := by
  refine icall_V (G := g_spec_isConvexRing) (H := []) [(9, [(0, 21), (1, 21), (2, 21), (3, 21), (4, 21), (5, 21), (6, 21), (7, 21), (8, 21), (9, 21), (10, 21), (11, 21), (12, 21), (13, 21), (17, 21), (18, 21), (19, 21), (21, 23), (21, 25), (21, 26), (21, 27), (21, 28), (21, 29), (21, 30), (21, 31), (21, 32), (21, 33), (21, 34), (21, 35), (21, 36)])] tabOK mixed gok_spec_isConvexRing hok_spec_isConvexRing Try.func105 rfl Try.ntmps105 Try.results105 rfl (by kernel_rfl) fun F hN hlen => ?_
  have el := len_encPs l
  simp only [V_seq, V_block, V_region, W_nil, W_cons, effOp2, KN_seq, effOp, effPure, pureV, ofC, strip, ISt.app, opI, gO, gB, allB, gval, wrapG, dstOK, setD, enumT, Op.operands, Nat.reduceLT, true_and, and_self, implies_true, List.nil_append, List.cons_append, List.append_nil, hN]
  refine V_loop (α := Nat) ⟨tabOK, mixed, gok_spec_isConvexRing, hok_spec_isConvexRing⟩ (by kernel_rfl) (fun i => i ≤ l.length ∧ ∀ a, a < i → ∀ k, k < l.length → rgT l a k = true) (fun i => ⟨[(3, .num .i64 i), (0, .sl 2 (encPs l))], []⟩) (fun i => l.length - i) 0 id ⟨Nat.zero_le _, fun a h => absurd h (Nat.not_lt_zero a)⟩ (by simp [SLe, SLe0, convTm, convHp, conv, conv0, lkT, lkH, clean]) ?_
  rintro i ⟨hi, hI⟩
  simp only [V_seq, V_region, V_cond, W_nil, W_cons, effOp2, KN_seq, asB, effOp, effPure, pureV, binV, lenV, strip, lkT, ISt.app, opI, gO, gB, allB, gval, wrapG, dstOK, setD, Op.operands, Call.operands, List.append_toArray, reduceIte, reduceCtorEq, Nat.reduceLT, Nat.reduceEqDiff, ne_eq, not_false_eq_true, true_and, and_self, implies_true, List.nil_append, List.cons_append, List.append_nil, tab23, hN, el]
  refine brW_some (fun h => ?_) (fun h => ?_)
  · have hi' : i < l.length := by simpa using h
    have hn : (i + 1) % l.length < l.length := Nat.mod_lt _ (by omega)
    have g0 := getD_encPs hi'
    have g1 := getD_encPs hn
    have hw := wr_succ hi' (by rw [maxLen_eq]; omega)
    have t1 : ((i + 1 : Nat) : Int).tmod (l.length : Int) = (((i + 1) % l.length : Nat) : Int) := by rw [Int.tmod_eq_emod_of_nonneg (by omega)]; simp
    have tk1 : Int.toNat (((i + 1) % l.length : Nat) : Int) = (i + 1) % l.length := Int.toNat_natCast _
    have d5 : ((l.length : Int) == 0) = false := by rw [beq_eq_false_iff_ne]; omega
    have s0 := hm.at i
    have s1 := hm.at ((i + 1) % l.length)
    have hT : ∀ k, rgT l i k = !(((!(pAt l k == pAt l i) && !(pAt l k == pAt l ((i + 1) % l.length))) && decide (turn (pAt l i) (pAt l ((i + 1) % l.length)) (pAt l k) ≤ 0)) || (!decide (k = i) && (pAt l k == pAt l i))) := fun k => rfl
    obtain ⟨a, ha⟩ : ∃ a, pAt l i = a := ⟨_, rfl⟩
    obtain ⟨b, hb⟩ : ∃ b, pAt l ((i + 1) % l.length) = b := ⟨_, rfl⟩
    rw [ha] at g0 s0 hT
    rw [hb] at g1 s1 hT
    simp only [V_seq, V_skip, V_block, V_region, W_nil, W_cons, effOp2, KN_seq, effOp, effPure, effNew, effAlloc, effStore, skipE, pureV, storeV, binV, partV, eltV, loadV, iaddrV, lenV, over, solid, IV.cells, ofC, strip, lkT, lkH, ISt.app, opI, gO, gB, allB, gval, wrapG, dstOK, setD, mentTm, mentHp, IV.ment, IV.mentL, oneI, Op.operands, Call.operands, List.append_toArray, reduceIte, reduceCtorEq, cond_true, Bool.or_false, Bool.and_true, Nat.reduceAdd, Nat.reduceLT, Nat.reduceLeDiff, Nat.reduceEqDiff, Nat.reduceBEq, Nat.zero_add, ne_eq, not_false_eq_true, true_and, and_true, and_false, and_self, implies_true, forall_const, List.nil_append, List.cons_append, List.append_nil, List.all_cons, List.all_nil, List.getD_cons_zero, List.length_cons, List.length_nil, List.take_succ_cons, List.take_zero, List.take_nil, List.drop_succ_cons, List.drop_zero, List.drop_nil, tab23, tab28, hN, Int.toNat_natCast, el, hw, t1, tk1, g0, g1]
    repeat refine And.intro (by omega) ?_
    refine V_loop (α := Nat) ⟨tabOK, mixed, gok_spec_isConvexRing, hok_spec_isConvexRing⟩ (by kernel_rfl) (fun k => k ≤ l.length ∧ ∀ c, c < k → rgT l i c = true) (fun k => ⟨[(6, .num .i64 k), (5, .ptr 5 0), (4, .ptr 4 0), (3, .num .i64 i), (0, .sl 2 (encPs l))], [(4, some (.box 28 [.num .i64 a.1, .num .i64 a.2])), (5, some (.box 28 [.num .i64 b.1, .num .i64 b.2]))]⟩) (fun k => l.length - k) 0 id ⟨Nat.zero_le _, fun c h => absurd h (Nat.not_lt_zero c)⟩ (by simp [SLe, SLe0, convTm, convHp, convB, conv, conv0, convL, lkT, lkH, clean]) ?_
    rintro k ⟨hk, hK⟩
    simp only [V_seq, V_region, V_cond, W_nil, W_cons, effOp2, KN_seq, asB, effOp, effPure, pureV, binV, lenV, strip, lkT, ISt.app, opI, gO, gB, allB, gval, wrapG, dstOK, setD, Op.operands, Call.operands, List.append_toArray, reduceIte, reduceCtorEq, Nat.reduceLT, Nat.reduceEqDiff, ne_eq, not_false_eq_true, true_and, and_self, implies_true, List.nil_append, List.cons_append, tab23, hN, el]
    refine brW_some (fun h => ?_) (fun h => ?_)
    · have hk' : k < l.length := by simpa using h
      have g2 := getD_encPs hk'
      have hw2 := wr_succ hk' (by rw [maxLen_eq]; omega)
      have s2 := hm.at k
      have hTk := hT k
      have hno := fun hf => rg_no hi' hk' hf
      obtain ⟨p, hp⟩ : ∃ p, pAt l k = p := ⟨_, rfl⟩
      rw [hp] at g2 s2 hTk
      cases x4 : decide (k = i) with
      | true =>
        cases x1 : (p == a) with
        | true =>
          rw [x4, x1] at hTk
          simp only [V_seq, V_skip, V_block, V_region, V_draw, V_cond, brW_false, drawW, WS_nil, pairsOf, W_nil, W_cons, effOp2, effOp3, WI_nil, WI_cons, KN_seq, KN_block, KN_back, dynOK, indB, farB, freshB, freshK, freshK1, heapy, asB, effOp, effPure, effPick, effCall, giveUp, hasAll, pureV, pickV, binV, partV, eltV, loadV, iaddrV, ofC, strip, lkT, lkH, ISt.app, opI, gO, gB, allB, gval, wrapG, dstOK, setD, mentTm, mentHp, IV.ment, IV.mentL, lendV, lendP, lent, lentP, idsV, idsL, lkHS, flat, clean, callArgs, callFn, allLent, eqL, numsOnly, Op.operands, Call.operands, List.append_toArray, reduceIte, reduceCtorEq, cond_true, cond_false, Bool.or_false, Bool.or_true, Bool.and_true, Bool.and_false, Bool.and_eq_true, Bool.not_true, Bool.not_false, Nat.reduceAdd, Nat.reduceLT, Nat.reduceLeDiff, Nat.reduceEqDiff, Nat.reduceBEq, Nat.zero_add, ne_eq, not_false_eq_true, beq_self_eq_true, true_and, and_true, false_and, and_false, and_self, false_implies, implies_true, forall_const, List.map_cons, List.map_nil, List.nil_append, List.cons_append, List.append_nil, Option.bind_some, List.getElem?_cons_zero, List.getElem?_cons_succ, List.getD_cons_zero, List.getD_cons_succ, List.length_cons, List.length_nil, List.take_succ_cons, List.take_zero, List.take_nil, List.drop_zero, ex_clo, bft, or_self, Bool.false_eq_true, tab23, tab28, hN, pe, Int.toNat_natCast, lk_spec_isConvexRing_spec_cross, sp_spec_cross, el, g2, s0, s1, s2, eqP, neb, x4, x1, hw2]
          repeat refine And.intro (by first | omega | (simp; done) | (simp; omega)) ?_
          exact ⟨k + 1, id, ⟨by omega, lt_step hK (by rw [hTk]; rfl)⟩, by simp only []; omega, by simp [SLe, SLe0, convTm, convHp, convB, conv, conv0, convL, lkT, lkH, clean]⟩
        | false =>
          cases x2 : (p == b) with
          | true =>
            rw [x4, x1, x2] at hTk
            simp only [V_seq, V_skip, V_block, V_region, V_draw, V_cond, brW_false, drawW, WS_nil, pairsOf, W_nil, W_cons, effOp2, effOp3, WI_nil, WI_cons, KN_seq, KN_block, KN_back, dynOK, indB, farB, freshB, freshK, freshK1, heapy, asB, effOp, effPure, effPick, effCall, giveUp, hasAll, pureV, pickV, binV, partV, eltV, loadV, iaddrV, ofC, strip, lkT, lkH, ISt.app, opI, gO, gB, allB, gval, wrapG, dstOK, setD, mentTm, mentHp, IV.ment, IV.mentL, lendV, lendP, lent, lentP, idsV, idsL, lkHS, flat, clean, callArgs, callFn, allLent, eqL, numsOnly, Op.operands, Call.operands, List.append_toArray, reduceIte, reduceCtorEq, cond_true, cond_false, Bool.or_false, Bool.or_true, Bool.and_true, Bool.and_false, Bool.and_eq_true, Bool.not_true, Bool.not_false, Nat.reduceAdd, Nat.reduceLT, Nat.reduceLeDiff, Nat.reduceEqDiff, Nat.reduceBEq, Nat.zero_add, ne_eq, not_false_eq_true, beq_self_eq_true, true_and, and_true, false_and, and_false, and_self, false_implies, implies_true, forall_const, List.map_cons, List.map_nil, List.nil_append, List.cons_append, List.append_nil, Option.bind_some, List.getElem?_cons_zero, List.getElem?_cons_succ, List.getD_cons_zero, List.getD_cons_succ, List.length_cons, List.length_nil, List.take_succ_cons, List.take_zero, List.take_nil, List.drop_zero, ex_clo, bft, or_self, Bool.true_eq_false, Bool.false_eq_true, tab23, tab28, hN, pe, Int.toNat_natCast, lk_spec_isConvexRing_spec_cross, sp_spec_cross, el, g2, s0, s1, s2, eqP, neb, x4, x1, x2, hw2]
            repeat refine And.intro (by first | omega | (simp; done) | (simp; omega)) ?_
            exact ⟨k + 1, id, ⟨by omega, lt_step hK (by rw [hTk]; rfl)⟩, by simp only []; omega, by simp [SLe, SLe0, convTm, convHp, convB, conv, conv0, convL, lkT, lkH, clean]⟩
          | false =>
            cases x3 : decide (turn a b p ≤ 0) with
            | true =>
              rw [x4, x1, x2, x3] at hTk
              have hf := hno (by rw [hTk]; rfl)
              simp only [V_seq, V_skip, V_ret, V_block, V_region, V_draw, V_cond, brW_true, drawW, WS_nil, pairsOf, W_nil, W_cons, effOp2, effOp3, WI_nil, WI_cons, KN_seq, KXr_nil, KXr_seq, KXr_block, KXr_back, QE, dynOK, indB, farB, freshB, freshK, freshK1, heapy, asB, effOp, effPure, effPick, effCall, giveUp, hasAll, pureV, pickV, binV, partV, eltV, loadV, iaddrV, ofC, strip, lkT, lkH, ISt.app, opI, gO, gB, allB, gval, wrapG, dstOK, setD, mentTm, mentHp, IV.ment, IV.mentL, lendV, lendP, lent, lentP, idsV, idsL, lkHS, flat, clean, callArgs, callFn, allLent, Gives, Ideal.Fin, conv, conv0, eqL, numsOnly, Op.operands, Call.operands, List.append_toArray, reduceIte, reduceCtorEq, cond_true, cond_false, Bool.or_false, Bool.and_true, Bool.and_false, Bool.and_eq_true, Bool.not_true, Bool.not_false, Nat.reduceAdd, Nat.reduceLT, Nat.reduceLeDiff, Nat.reduceEqDiff, Nat.reduceBEq, Nat.zero_add, ne_eq, not_false_eq_true, beq_self_eq_true, true_and, and_true, false_and, and_false, and_self, false_implies, implies_true, forall_const, List.map_cons, List.map_nil, List.nil_append, List.cons_append, List.append_nil, Option.bind_some, List.getElem?_cons_zero, List.getElem?_cons_succ, List.getD_cons_zero, List.getD_cons_succ, List.length_cons, List.length_nil, List.take_succ_cons, List.take_zero, List.take_nil, List.drop_zero, ex_clo, bft, btf, or_self, Bool.true_eq_false, Bool.false_eq_true, tab23, tab28, hN, pe, Int.toNat_natCast, lk_spec_isConvexRing_spec_cross, sp_spec_cross, el, g2, s0, s1, s2, eqP, neb, x4, x1, x2, x3, hf]
              try omega
            | false =>
              rw [x4, x1, x2, x3] at hTk
              simp only [V_seq, V_skip, V_block, V_region, V_draw, V_cond, brW_false, drawW, WS_nil, pairsOf, W_nil, W_cons, effOp2, effOp3, WI_nil, WI_cons, KN_seq, KN_block, KN_back, dynOK, indB, farB, freshB, freshK, freshK1, heapy, asB, effOp, effPure, effPick, effCall, giveUp, hasAll, pureV, pickV, binV, partV, eltV, loadV, iaddrV, ofC, strip, lkT, lkH, ISt.app, opI, gO, gB, allB, gval, wrapG, dstOK, setD, mentTm, mentHp, IV.ment, IV.mentL, lendV, lendP, lent, lentP, idsV, idsL, lkHS, flat, clean, callArgs, callFn, allLent, eqL, numsOnly, Op.operands, Call.operands, List.append_toArray, reduceIte, reduceCtorEq, cond_true, cond_false, Bool.or_false, Bool.and_true, Bool.and_false, Bool.and_eq_true, Bool.not_true, Bool.not_false, Nat.reduceAdd, Nat.reduceLT, Nat.reduceLeDiff, Nat.reduceEqDiff, Nat.reduceBEq, Nat.zero_add, ne_eq, not_false_eq_true, beq_self_eq_true, true_and, and_true, false_and, and_false, and_self, false_implies, implies_true, forall_const, List.map_cons, List.map_nil, List.nil_append, List.cons_append, List.append_nil, Option.bind_some, List.getElem?_cons_zero, List.getElem?_cons_succ, List.getD_cons_zero, List.getD_cons_succ, List.length_cons, List.length_nil, List.take_succ_cons, List.take_zero, List.take_nil, List.drop_zero, ex_clo, bft, or_self, Bool.true_eq_false, Bool.false_eq_true, tab23, tab28, hN, pe, Int.toNat_natCast, lk_spec_isConvexRing_spec_cross, sp_spec_cross, el, g2, s0, s1, s2, eqP, neb, x4, x1, x2, x3, hw2]
              repeat refine And.intro (by first | omega | (simp; done) | (simp; omega)) ?_
              exact ⟨k + 1, id, ⟨by omega, lt_step hK (by rw [hTk]; rfl)⟩, by simp only []; omega, by simp [SLe, SLe0, convTm, convHp, convB, conv, conv0, convL, lkT, lkH, clean]⟩
      | false =>
        cases x1 : (p == a) with
        | true =>
          rw [x4, x1] at hTk
          have hf := hno (by rw [hTk]; rfl)
          simp only [V_seq, V_skip, V_ret, V_block, V_region, V_draw, V_cond, brW_true, drawW, WS_nil, pairsOf, W_nil, W_cons, effOp2, effOp3, WI_nil, WI_cons, KN_seq, KXr_nil, KXr_seq, KXr_block, KXr_back, QE, dynOK, indB, farB, freshB, freshK, freshK1, heapy, asB, effOp, effPure, effPick, effCall, giveUp, hasAll, pureV, pickV, binV, partV, eltV, loadV, iaddrV, ofC, strip, lkT, lkH, ISt.app, opI, gO, gB, allB, gval, wrapG, dstOK, setD, mentTm, mentHp, IV.ment, IV.mentL, lendV, lendP, lent, lentP, idsV, idsL, lkHS, flat, clean, callArgs, callFn, allLent, Gives, Ideal.Fin, conv, conv0, eqL, numsOnly, Op.operands, Call.operands, List.append_toArray, reduceIte, reduceCtorEq, cond_true, cond_false, Bool.or_false, Bool.or_true, Bool.and_true, Bool.and_eq_true, Bool.not_true, Bool.not_false, Nat.reduceAdd, Nat.reduceLT, Nat.reduceLeDiff, Nat.reduceEqDiff, Nat.reduceBEq, Nat.zero_add, ne_eq, not_false_eq_true, beq_self_eq_true, true_and, and_true, false_and, and_false, and_self, false_implies, implies_true, forall_const, List.map_cons, List.map_nil, List.nil_append, List.cons_append, List.append_nil, Option.bind_some, List.getElem?_cons_zero, List.getElem?_cons_succ, List.getD_cons_zero, List.getD_cons_succ, List.length_cons, List.length_nil, List.take_succ_cons, List.take_zero, List.take_nil, List.drop_zero, ex_clo, bft, or_self, Bool.true_eq_false, Bool.false_eq_true, tab23, tab28, hN, pe, Int.toNat_natCast, lk_spec_isConvexRing_spec_cross, sp_spec_cross, el, g2, s0, s1, s2, eqP, neb, x4, x1, hf]
          try omega
        | false =>
          cases x2 : (p == b) with
          | true =>
            rw [x4, x1, x2] at hTk
            simp only [V_seq, V_skip, V_block, V_region, V_draw, V_cond, brW_false, drawW, WS_nil, pairsOf, W_nil, W_cons, effOp2, effOp3, WI_nil, WI_cons, KN_seq, KN_block, KN_back, dynOK, indB, farB, freshB, freshK, freshK1, heapy, asB, effOp, effPure, effPick, effCall, giveUp, hasAll, pureV, pickV, binV, partV, eltV, loadV, iaddrV, ofC, strip, lkT, lkH, ISt.app, opI, gO, gB, allB, gval, wrapG, dstOK, setD, mentTm, mentHp, IV.ment, IV.mentL, lendV, lendP, lent, lentP, idsV, idsL, lkHS, flat, clean, callArgs, callFn, allLent, eqL, numsOnly, Op.operands, Call.operands, List.append_toArray, reduceIte, reduceCtorEq, cond_true, cond_false, Bool.or_false, Bool.or_true, Bool.and_true, Bool.and_eq_true, Bool.not_true, Bool.not_false, Nat.reduceAdd, Nat.reduceLT, Nat.reduceLeDiff, Nat.reduceEqDiff, Nat.reduceBEq, Nat.zero_add, ne_eq, not_false_eq_true, beq_self_eq_true, true_and, and_true, false_and, and_false, and_self, false_implies, implies_true, forall_const, List.map_cons, List.map_nil, List.nil_append, List.cons_append, List.append_nil, Option.bind_some, List.getElem?_cons_zero, List.getElem?_cons_succ, List.getD_cons_zero, List.getD_cons_succ, List.length_cons, List.length_nil, List.take_succ_cons, List.take_zero, List.take_nil, List.drop_zero, ex_clo, bft, or_self, Bool.true_eq_false, Bool.false_eq_true, tab23, tab28, hN, pe, Int.toNat_natCast, lk_spec_isConvexRing_spec_cross, sp_spec_cross, el, g2, s0, s1, s2, eqP, neb, x4, x1, x2, hw2]
            repeat refine And.intro (by first | omega | (simp; done) | (simp; omega)) ?_
            exact ⟨k + 1, id, ⟨by omega, lt_step hK (by rw [hTk]; rfl)⟩, by simp only []; omega, by simp [SLe, SLe0, convTm, convHp, convB, conv, conv0, convL, lkT, lkH, clean]⟩
          | false =>
            cases x3 : decide (turn a b p ≤ 0) with
            | true =>
              rw [x4, x1, x2, x3] at hTk
              have hf := hno (by rw [hTk]; rfl)
              simp only [V_seq, V_skip, V_ret, V_block, V_region, V_draw, V_cond, brW_true, drawW, WS_nil, pairsOf, W_nil, W_cons, effOp2, effOp3, WI_nil, WI_cons, KN_seq, KXr_nil, KXr_seq, KXr_block, KXr_back, QE, dynOK, indB, farB, freshB, freshK, freshK1, heapy, asB, effOp, effPure, effPick, effCall, giveUp, hasAll, pureV, pickV, binV, partV, eltV, loadV, iaddrV, ofC, strip, lkT, lkH, ISt.app, opI, gO, gB, allB, gval, wrapG, dstOK, setD, mentTm, mentHp, IV.ment, IV.mentL, lendV, lendP, lent, lentP, idsV, idsL, lkHS, flat, clean, callArgs, callFn, allLent, Gives, Ideal.Fin, conv, conv0, eqL, numsOnly, Op.operands, Call.operands, List.append_toArray, reduceIte, reduceCtorEq, cond_true, cond_false, Bool.or_false, Bool.and_true, Bool.and_eq_true, Bool.not_true, Bool.not_false, Nat.reduceAdd, Nat.reduceLT, Nat.reduceLeDiff, Nat.reduceEqDiff, Nat.reduceBEq, Nat.zero_add, ne_eq, not_false_eq_true, beq_self_eq_true, true_and, and_true, false_and, and_false, and_self, false_implies, implies_true, forall_const, List.map_cons, List.map_nil, List.nil_append, List.cons_append, List.append_nil, Option.bind_some, List.getElem?_cons_zero, List.getElem?_cons_succ, List.getD_cons_zero, List.getD_cons_succ, List.length_cons, List.length_nil, List.take_succ_cons, List.take_zero, List.take_nil, List.drop_zero, ex_clo, btf, or_self, Bool.true_eq_false, Bool.false_eq_true, tab23, tab28, hN, pe, Int.toNat_natCast, lk_spec_isConvexRing_spec_cross, sp_spec_cross, el, g2, s0, s1, s2, eqP, neb, x4, x1, x2, x3, hf]
              try omega
            | false =>
              rw [x4, x1, x2, x3] at hTk
              simp only [V_seq, V_skip, V_block, V_region, V_draw, V_cond, brW_false, drawW, WS_nil, pairsOf, W_nil, W_cons, effOp2, effOp3, WI_nil, WI_cons, KN_seq, KN_block, KN_back, dynOK, indB, farB, freshB, freshK, freshK1, heapy, asB, effOp, effPure, effPick, effCall, giveUp, hasAll, pureV, pickV, binV, partV, eltV, loadV, iaddrV, ofC, strip, lkT, lkH, ISt.app, opI, gO, gB, allB, gval, wrapG, dstOK, setD, mentTm, mentHp, IV.ment, IV.mentL, lendV, lendP, lent, lentP, idsV, idsL, lkHS, flat, clean, callArgs, callFn, allLent, eqL, numsOnly, Op.operands, Call.operands, List.append_toArray, reduceIte, reduceCtorEq, cond_true, cond_false, Bool.or_false, Bool.and_true, Bool.and_eq_true, Bool.not_true, Bool.not_false, Nat.reduceAdd, Nat.reduceLT, Nat.reduceLeDiff, Nat.reduceEqDiff, Nat.reduceBEq, Nat.zero_add, ne_eq, not_false_eq_true, beq_self_eq_true, true_and, and_true, and_false, and_self, implies_true, forall_const, List.map_cons, List.map_nil, List.nil_append, List.cons_append, List.append_nil, Option.bind_some, List.getElem?_cons_zero, List.getElem?_cons_succ, List.getD_cons_zero, List.getD_cons_succ, List.length_cons, List.length_nil, List.take_succ_cons, List.take_zero, List.take_nil, List.drop_zero, ex_clo, or_self, Bool.true_eq_false, Bool.false_eq_true, tab23, tab28, hN, pe, Int.toNat_natCast, lk_spec_isConvexRing_spec_cross, sp_spec_cross, el, g2, s0, s1, s2, eqP, neb, x4, x1, x2, x3, hw2]
              repeat refine And.intro (by first | omega | (simp; done) | (simp; omega)) ?_
              exact ⟨k + 1, id, ⟨by omega, lt_step hK (by rw [hTk]; rfl)⟩, by simp only []; omega, by simp [SLe, SLe0, convTm, convHp, convB, conv, conv0, convL, lkT, lkH, clean]⟩
    · have hke : k = l.length := by simp at h; omega
      subst hke
      simp only [V_seq, V_ret, V_exit, V_region, W_nil, W_cons, effOp2, KN_seq, KN_block, KN_back, KXr_nil, KXe_nil, KXe_seq, KXe_block, KXe_back, QE, effOp, effPure, pureV, binV, ofC, strip, lkT, lkH, ISt.app, opI, gO, gB, allB, gval, wrapG, dstOK, setD, clean, Gives, Ideal.Fin, conv, conv0, Op.operands, reduceIte, reduceCtorEq, Nat.reduceLT, Nat.reduceEqDiff, true_and, and_true, and_self, implies_true, List.nil_append, List.cons_append, hN, hw]
      exact ⟨i + 1, id, ⟨by omega, lt_step hI hK⟩, by simp only []; omega, by simp [SLe, SLe0, convTm, convHp, conv, conv0, lkT, lkH, clean]⟩
  · have hie : i = l.length := by simp at h; omega
    subst hie
    have hv : rgB l = true := rg_iff.2 hI
    simp only [V_seq, V_ret, V_exit, V_region, W_nil, W_cons, effOp2, KN_seq, KXr_nil, KXe_nil, KXe_seq, KXe_block, KXe_back, QE, effOp, effPure, pureV, ofC, strip, lkT, lkH, ISt.app, opI, gO, gB, allB, gval, wrapG, dstOK, setD, clean, Gives, Ideal.Fin, conv, conv0, Op.operands, reduceIte, reduceCtorEq, Nat.reduceLT, Nat.reduceEqDiff, and_self, implies_true, List.nil_append, List.cons_append, List.append_nil, hN, hv]
def sp_spec_isConvexRing : PSpec := ⟨fun xs => match xs with | [.sl 2 les] => isPs les ∧ ((fun (l : List Pt) => SmL l) (toPs les)) ∧ ((fun (l : List Pt) => l.length ≤ 1000000) (toPs les)) | _ => False, fun xs => match xs with | [.sl _ les] => (fun (l : List Pt) => .bool (rgB l)) (toPs les) | _ => .junk, false⟩
theorem gk_spec_isConvexRing : ∀ args, sp_spec_isConvexRing.pre args → ICall Try.prog 105 args (sp_spec_isConvexRing.val args) := by
  intro args h
  unfold sp_spec_isConvexRing at h ⊢; simp only at h ⊢; split at h
  · obtain ⟨h0, h1, h2⟩ := h
    obtain ⟨l0, rfl⟩ := isP_ex h0
    simp only [toPs_enc] at *
    exact c_spec_isConvexRing _ h1 h2
  · exact h.elim
theorem en_spec_isConvexRing : Enters Try.prog 105 := enters_of Try.func105 (by kernel_rfl) rfl

theorem first_no {h : List Pt} {i : Nat} (hi : i < h.length) (h0 : i ≠ 0) (hf : ltP (pAt h 0) (pAt h i) = false) : firstB h = false :=
  all_no hi (by rw [decide_eq_false h0, hf]; rfl)
theorem first_yes {h : List Pt} (hf : ∀ i, i < h.length → i = 0 ∨ ltP (pAt h 0) (pAt h i) = true) : firstB h = true :=
  all_yes fun i hi => by
    rcases hf i hi with c | c
    · rw [decide_eq_true c]; rfl
    · rw [c, Bool.or_true]
def g_spec_checkShape : List (Nat × PSpec) := [(104, sp_spec_pointLess), (105, sp_spec_isConvexRing)]
theorem gok_spec_checkShape : GOK Try.prog g_spec_checkShape := gok_cons gk_spec_pointLess en_spec_pointLess (gok_cons gk_spec_isConvexRing en_spec_isConvexRing (gok0))
theorem lk_spec_checkShape_spec_pointLess : lkG g_spec_checkShape 104 = sp_spec_pointLess := rfl
theorem lk_spec_checkShape_spec_isConvexRing : lkG g_spec_checkShape 105 = sp_spec_isConvexRing := rfl
def h_spec_checkShape : List (Nat × HSpec) := []
theorem hok_spec_checkShape : HOK Try.prog h_spec_checkShape := hok0
theorem c_spec_checkShape (l : List Pt) (hm : SmL l) (hsz : l.length ≤ 1000000) : ICall Try.prog 58 [.sl 2 (encPs l)] (.bool (shpS l)) := by
  refine icall_V (G := g_spec_checkShape) (H := []) [(2, [(0, 14), (1, 14), (2, 14), (3, 14), (4, 14), (5, 14), (6, 14), (8, 14), (9, 14), (11, 14), (12, 14), (14, 16)]), (8, [(0, 7), (1, 7), (3, 7), (4, 7), (5, 7)])] tabOK mixed gok_spec_checkShape hok_spec_checkShape Try.func58 rfl Try.ntmps58 Try.results58 rfl (by kernel_rfl) fun F hN hlen => ?_
  have el := len_encPs l
  have hv : shpS l = if l.length < 3 then decide (l.length = 1) || (decide (l.length = 2) && ltP (pAt l 0) (pAt l 1)) else rgB l && firstB l := rfl
  have t0 : Int.toNat 0 = 0 := rfl
  have t1 : Int.toNat 1 = 1 := rfl
  have e1 : ((l.length : Int) == 1) = decide (l.length = 1) := by rw [Bool.eq_iff_iff]; simp; omega
  have e2 : ((l.length : Int) == 2) = decide (l.length = 2) := by rw [Bool.eq_iff_iff]; simp; omega
  by_cases c : l.length < 3
  · have d1 : decide ((l.length : Int) < 3) = true := decide_eq_true (by omega)
    rw [if_pos c] at hv
    by_cases z1 : l.length = 1
    · have c1 : decide (l.length = 1) = true := decide_eq_true z1
      have c2 : decide (l.length = 2) = false := decide_eq_false (by omega)
      have g0 := getD_encPs (l := l) (i := 0) (by omega)
      have g1 : (encPs l).getD 1 .junk = .junk := by rw [List.getD, List.getElem?_eq_none (by omega)]; rfl
      rw [c1, Bool.true_or] at hv
      simp only [V_seq, V_ret, V_block, V_region, V_draw, V_cond, brW_true, drawW, WS_nil, pairsOf, W_nil, W_cons, effOp2, effOp3, WI_nil, WI_cons, KN_seq, KXr_nil, KXr_seq, KXr_block, QE, dynOK, indB, farB, freshB, freshK, freshK1, heapy, asB, effOp, effPure, effPick, effCall, giveUp, hasAll, pureV, pickV, binV, partV, eltV, loadV, iaddrV, lenV, ofC, strip, lkT, lkH, ISt.app, opI, gO, gB, allB, gval, wrapG, dstOK, setD, mentTm, mentHp, IV.ment, lendV, lendP, lent, lentP, idsV, idsL, lkHS, flat, clean, callArgs, callFn, allLent, enumT, Gives, Ideal.Fin, conv, conv0, Op.operands, Call.operands, List.append_toArray, reduceIte, reduceCtorEq, cond_true, cond_false, Bool.or_false, Bool.or_true, Bool.and_true, Bool.and_false, Bool.and_eq_true, Bool.not_false, Nat.reduceAdd, Nat.reduceLT, Nat.reduceLeDiff, Nat.reduceEqDiff, Nat.reduceBEq, Nat.zero_add, ne_eq, not_false_eq_true, and_true, false_and, and_false, and_self, false_implies, implies_true, List.map_cons, List.map_nil, List.nil_append, List.cons_append, List.append_nil, Option.bind_some, List.getElem?_cons_zero, List.getElem?_cons_succ, List.getD_cons_zero, List.getD_cons_succ, List.length_cons, List.length_nil, List.take_succ_cons, List.take_zero, List.take_nil, List.drop_zero, ex_clo, bft, btf, or_true, Bool.true_eq_false, Bool.false_eq_true, tab23, tab28, hN, lk_spec_checkShape_spec_pointLess, sp_spec_pointLess, el, d1, e1, e2, c1, c2, g0, g1, hv, t0, t1]
      try omega
    · have c1 : decide (l.length = 1) = false := decide_eq_false z1
      by_cases z2 : l.length = 2
      · have c2 : decide (l.length = 2) = true := decide_eq_true z2
        have g0 := getD_encPs (l := l) (i := 0) (by omega)
        have g1 := getD_encPs (l := l) (i := 1) (by omega)
        rw [c1, c2, Bool.true_and, Bool.false_or] at hv
        simp only [V_seq, V_ret, V_block, V_region, V_draw, V_cond, brW_true, drawW, WS_nil, pairsOf, W_nil, W_cons, effOp2, effOp3, WI_nil, WI_cons, KN_seq, KXr_nil, KXr_seq, KXr_block, QE, dynOK, indB, farB, freshB, freshK, freshK1, heapy, asB, effOp, effPure, effPick, effCall, giveUp, hasAll, pureV, pickV, binV, partV, eltV, loadV, iaddrV, lenV, ofC, strip, lkT, lkH, ISt.app, opI, gO, gB, allB, gval, wrapG, dstOK, setD, mentTm, mentHp, IV.ment, lendV, lendP, lent, lentP, idsV, idsL, lkHS, flat, clean, callArgs, callFn, allLent, enumT, Gives, Ideal.Fin, conv, conv0, Op.operands, Call.operands, List.append_toArray, reduceIte, reduceCtorEq, cond_true, cond_false, Bool.or_false, Bool.and_true, Bool.and_eq_true, Bool.not_true, Bool.not_false, Nat.reduceAdd, Nat.reduceLT, Nat.reduceLeDiff, Nat.reduceEqDiff, Nat.reduceBEq, Nat.zero_add, ne_eq, not_false_eq_true, beq_self_eq_true, true_and, and_true, and_false, and_self, implies_true, forall_const, List.map_cons, List.map_nil, List.nil_append, List.cons_append, List.append_nil, Option.bind_some, List.getElem?_cons_zero, List.getElem?_cons_succ, List.getD_cons_zero, List.getD_cons_succ, List.length_cons, List.length_nil, List.take_succ_cons, List.take_zero, List.take_nil, List.drop_zero, ex_clo, or_self, Bool.true_eq_false, Bool.false_eq_true, tab23, tab28, hN, pe, lk_spec_checkShape_spec_pointLess, sp_spec_pointLess, el, d1, e1, e2, c1, c2, g0, g1, hv, t0, t1]
        try omega
      · have c2 : decide (l.length = 2) = false := decide_eq_false z2
        have g0 : (encPs l).getD 0 .junk = .junk := by rw [List.getD, List.getElem?_eq_none (by omega)]; rfl
        have g1 : (encPs l).getD 1 .junk = .junk := by rw [List.getD, List.getElem?_eq_none (by omega)]; rfl
        rw [c1, c2, Bool.false_and, Bool.or_false] at hv
        simp only [V_seq, V_ret, V_block, V_region, V_draw, V_cond, brW_true, drawW, WS_nil, pairsOf, W_nil, W_cons, effOp2, effOp3, WI_nil, WI_cons, KN_seq, KXr_nil, KXr_seq, KXr_block, QE, dynOK, indB, farB, freshB, freshK, freshK1, heapy, asB, effOp, effPure, effPick, effCall, giveUp, hasAll, pureV, pickV, binV, eltV, loadV, iaddrV, lenV, ofC, strip, lkT, lkH, ISt.app, opI, gO, gB, allB, gval, wrapG, dstOK, setD, mentTm, mentHp, IV.ment, lendV, lendP, lent, lentP, idsV, idsL, lkHS, flat, clean, callArgs, callFn, allLent, enumT, Gives, Ideal.Fin, conv, conv0, Op.operands, Call.operands, List.append_toArray, reduceIte, reduceCtorEq, cond_true, cond_false, Bool.or_false, Bool.or_true, Bool.and_true, Bool.and_false, Bool.and_eq_true, Bool.not_false, Nat.reduceLT, Nat.reduceEqDiff, Nat.reduceBEq, ne_eq, not_false_eq_true, beq_self_eq_true, and_true, false_and, and_false, and_self, false_implies, implies_true, List.map_cons, List.map_nil, List.nil_append, List.cons_append, List.append_nil, Option.bind_some, List.getElem?_cons_zero, List.getElem?_cons_succ, List.getD_cons_zero, List.getD_cons_succ, List.take_zero, List.drop_zero, ex_clo, bft, or_true, Bool.false_eq_true, tab23, tab28, hN, lk_spec_checkShape_spec_pointLess, sp_spec_pointLess, el, d1, e1, e2, c1, c2, g0, g1, hv, t0, t1]
        try omega
  · have d1 : decide ((l.length : Int) < 3) = false := decide_eq_false (by omega)
    rw [if_neg c] at hv
    cases c1 : rgB l with
    | false =>
      rw [c1, Bool.false_and] at hv
      simp only [V_seq, V_ret, V_block, V_region, V_cond, brW_true, brW_false, W_nil, W_cons, effOp2, KN_seq, KXr_nil, KXr_seq, KXr_block, QE, asB, effOp, effPure, effCall, giveUp, hasAll, pureV, binV, lenV, ofC, strip, lkT, lkH, ISt.app, opI, gO, gB, allB, gval, wrapG, dstOK, setD, lendV, lendP, lent, lentP, idsV, idsL, lkHS, flat, clean, callArgs, callFn, allLent, enumT, Gives, Ideal.Fin, conv, conv0, Op.operands, Call.operands, List.append_toArray, reduceIte, reduceCtorEq, cond_true, Bool.or_false, Bool.not_true, Bool.not_false, Nat.reduceLT, Nat.reduceEqDiff, ne_eq, not_false_eq_true, and_self, implies_true, List.map_cons, List.map_nil, List.nil_append, List.cons_append, List.append_nil, ex_clo, or_self, tab23, hN, isPs_enc, toPs_enc, lk_spec_checkShape_spec_isConvexRing, sp_spec_isConvexRing, el, d1, hm, hsz, c1, hv]
    | true =>
      rw [c1, Bool.true_and] at hv
      have g0 := getD_encPs (l := l) (i := 0) (by omega)
      simp only [V_seq, V_skip, V_block, V_region, V_cond, brW_false, W_nil, W_cons, effOp2, KN_seq, KN_block, asB, effOp, effPure, effCall, giveUp, hasAll, pureV, binV, lenV, ofC, strip, lkT, lkH, ISt.app, opI, gO, gB, allB, gval, wrapG, dstOK, setD, lendV, lendP, lent, lentP, idsV, idsL, lkHS, flat, clean, callArgs, callFn, allLent, enumT, Op.operands, Call.operands, List.append_toArray, reduceIte, reduceCtorEq, cond_true, Bool.or_false, Bool.not_true, Nat.reduceLT, Nat.reduceEqDiff, ne_eq, not_false_eq_true, true_and, and_self, implies_true, List.map_cons, List.map_nil, List.nil_append, List.cons_append, List.append_nil, ex_clo, or_self, tab23, hN, isPs_enc, toPs_enc, lk_spec_checkShape_spec_isConvexRing, sp_spec_isConvexRing, el, d1, hm, hsz, c1]
      refine V_loop (α := Nat) ⟨tabOK, mixed, gok_spec_checkShape, hok_spec_checkShape⟩ (by kernel_rfl) (fun i => 1 ≤ i ∧ i ≤ l.length ∧ ∀ a, a < i → a = 0 ∨ ltP (pAt l 0) (pAt l a) = true) (fun i => ⟨[(3, .num .i64 i), (0, .sl 2 (encPs l))], []⟩) (fun i => l.length - i) 1 id ⟨Nat.le_refl _, by omega, fun a h => .inl (by omega)⟩ (by simp [SLe, SLe0, convTm, convHp, conv, conv0, lkT, lkH, clean]) ?_
      rintro i ⟨h1, hi, hI⟩
      simp only [V_seq, V_region, V_cond, W_nil, W_cons, effOp2, KN_seq, asB, effOp, effPure, pureV, binV, lenV, strip, lkT, ISt.app, opI, gO, gB, allB, gval, wrapG, dstOK, setD, Op.operands, Call.operands, List.append_toArray, reduceIte, reduceCtorEq, Nat.reduceLT, Nat.reduceEqDiff, ne_eq, not_false_eq_true, true_and, and_self, implies_true, List.nil_append, List.cons_append, List.append_nil, tab23, hN, el]
      refine brW_some (fun h => ?_) (fun h => ?_)
      · have hi' : i < l.length := by simpa using h
        have g1 := getD_encPs hi'
        have hw := wr_succ hi' (by rw [maxLen_eq]; omega)
        cases x1 : ltP (pAt l 0) (pAt l i) with
        | true =>
          simp only [V_seq, V_skip, V_block, V_region, V_draw, V_cond, brW_false, drawW, WS_nil, pairsOf, W_nil, W_cons, effOp2, effOp3, WI_nil, WI_cons, KN_seq, KN_block, KN_back, dynOK, indB, farB, freshB, freshK, freshK1, heapy, asB, effOp, effPure, effCall, giveUp, hasAll, pureV, binV, partV, eltV, loadV, iaddrV, ofC, strip, lkT, lkH, ISt.app, opI, gO, gB, allB, gval, wrapG, dstOK, setD, mentTm, mentHp, IV.ment, lendV, lendP, lent, lentP, idsV, idsL, lkHS, flat, clean, callArgs, callFn, allLent, Op.operands, Call.operands, List.append_toArray, reduceIte, reduceCtorEq, cond_true, cond_false, Bool.or_false, Bool.and_true, Bool.and_eq_true, Bool.not_true, Bool.not_false, Nat.reduceAdd, Nat.reduceLT, Nat.reduceLeDiff, Nat.reduceEqDiff, Nat.reduceBEq, Nat.zero_add, ne_eq, not_false_eq_true, true_and, and_true, and_false, and_self, implies_true, forall_const, List.map_cons, List.map_nil, List.nil_append, List.cons_append, List.append_nil, List.getD_cons_zero, List.getD_cons_succ, List.length_cons, List.length_nil, List.take_succ_cons, List.take_zero, List.take_nil, List.drop_zero, ex_clo, or_self, tab23, tab28, hN, pe, Int.toNat_natCast, lk_spec_checkShape_spec_pointLess, sp_spec_pointLess, el, t0, g0, g1, x1, hw]
          repeat refine And.intro (by first | omega | (simp; done) | (simp; omega)) ?_
          exact ⟨i + 1, id, ⟨by omega, by omega, fun a ha => (Nat.lt_succ_iff_lt_or_eq.1 ha).elim (hI a) (fun e => .inr (by rw [e]; exact x1))⟩, by simp only []; omega, by simp [SLe, SLe0, convTm, convHp, conv, conv0, lkT, lkH, clean]⟩
        | false =>
          have hf := first_no hi' (by omega) x1
          rw [hf] at hv
          simp only [V_seq, V_skip, V_ret, V_block, V_region, V_draw, V_cond, brW_true, drawW, WS_nil, pairsOf, W_nil, W_cons, effOp2, effOp3, WI_nil, WI_cons, KN_seq, KXr_nil, KXr_seq, KXr_block, KXr_back, QE, dynOK, indB, farB, freshB, freshK, freshK1, heapy, asB, effOp, effPure, effCall, giveUp, hasAll, pureV, partV, eltV, loadV, iaddrV, ofC, strip, lkT, lkH, ISt.app, opI, gO, gB, allB, gval, wrapG, dstOK, setD, mentTm, mentHp, IV.ment, lendV, lendP, lent, lentP, idsV, idsL, lkHS, flat, clean, callArgs, callFn, allLent, Gives, Ideal.Fin, conv, conv0, Op.operands, Call.operands, List.append_toArray, reduceIte, reduceCtorEq, cond_true, cond_false, Bool.or_false, Bool.and_true, Bool.and_eq_true, Bool.not_true, Bool.not_false, Nat.reduceAdd, Nat.reduceLT, Nat.reduceLeDiff, Nat.reduceEqDiff, Nat.reduceBEq, Nat.zero_add, ne_eq, not_false_eq_true, true_and, and_true, and_false, and_self, implies_true, forall_const, List.map_cons, List.map_nil, List.nil_append, List.cons_append, List.append_nil, List.getD_cons_zero, List.getD_cons_succ, List.length_cons, List.length_nil, List.take_succ_cons, List.take_zero, List.take_nil, List.drop_zero, ex_clo, or_self, tab23, tab28, hN, pe, Int.toNat_natCast, lk_spec_checkShape_spec_pointLess, sp_spec_pointLess, el, t0, g0, g1, x1, hv]
          try omega
      · have hie : i = l.length := by simp at h; omega
        subst hie
        have hf := first_yes hI
        rw [hf] at hv
        simp only [V_seq, V_ret, V_exit, V_region, W_nil, W_cons, effOp2, KN_seq, KXr_nil, KXe_nil, KXe_seq, KXe_block, KXe_back, QE, effOp, effPure, pureV, ofC, strip, lkT, lkH, ISt.app, opI, gO, gB, allB, gval, wrapG, dstOK, setD, clean, Gives, Ideal.Fin, conv, conv0, Op.operands, reduceIte, reduceCtorEq, Nat.reduceLT, Nat.reduceEqDiff, and_self, implies_true, List.nil_append, List.cons_append, List.append_nil, hN, hv]
def sp_spec_checkShape : PSpec := ⟨fun xs => match xs with | [.sl 2 les] => isPs les ∧ ((fun (l : List Pt) => SmL l) (toPs les)) ∧ ((fun (l : List Pt) => l.length ≤ 1000000) (toPs les)) | _ => False, fun xs => match xs with | [.sl _ les] => (fun (l : List Pt) => .bool (shpS l)) (toPs les) | _ => .junk, false⟩
theorem gk_spec_checkShape : ∀ args, sp_spec_checkShape.pre args → ICall Try.prog 58 args (sp_spec_checkShape.val args) := by
  intro args h
  unfold sp_spec_checkShape at h ⊢; simp only at h ⊢; split at h
  · obtain ⟨h0, h1, h2⟩ := h
    obtain ⟨l0, rfl⟩ := isP_ex h0
    simp only [toPs_enc] at *
    exact c_spec_checkShape _ h1 h2
  · exact h.elim
theorem en_spec_checkShape : Enters Try.prog 58 := enters_of Try.func58 (by kernel_rfl) rfl

def g_impl_shaped : List (Nat × PSpec) := [(109, sp_impl_Point_compare), (110, sp_impl_convex), (82, sp_impl_sorted_v)]
theorem gok_impl_shaped : GOK Try.prog g_impl_shaped := gok_cons gk_impl_Point_compare en_impl_Point_compare (gok_cons gk_impl_convex en_impl_convex (gok_cons gk_impl_sorted_v en_impl_sorted_v (gok0)))
theorem lk_impl_shaped_impl_Point_compare : lkG g_impl_shaped 109 = sp_impl_Point_compare := rfl
theorem lk_impl_shaped_impl_convex : lkG g_impl_shaped 110 = sp_impl_convex := rfl
theorem lk_impl_shaped_impl_sorted_v : lkG g_impl_shaped 82 = sp_impl_sorted_v := rfl
def h_impl_shaped : List (Nat × HSpec) := []
theorem hok_impl_shaped : HOK Try.prog h_impl_shaped := hok0
theorem c_impl_shaped (l : List Pt) (hm : SmL l) (hsz : l.length ≤ 1000000) : ICall Try.prog 63 [.sl 2 (encPs l)] (.bool (shpI l)) := by
  refine icall_V (G := g_impl_shaped) (H := []) [(7, [(0, 6), (1, 6), (3, 6), (4, 6)]), (8, [(1, 3), (1, 4), (1, 5), (1, 6), (0, 7), (1, 7), (3, 7), (4, 7), (5, 7), (1, 8), (1, 9), (7, 9), (1, 10), (7, 10), (1, 11), (7, 11)])] tabOK mixed gok_impl_shaped hok_impl_shaped Try.func63 rfl Try.ntmps63 Try.results63 rfl (by kernel_rfl) fun F hN hlen => ?_
  have el := len_encPs l
  have hv : shpI l = if l.length = 0 then false else if l.length = 1 then true else if l.length = 2 then decide (cmpP (pAt l 0) (pAt l 1) < 0) else cvxB l && (pAt l 0 == pAt (insP l) 0) := rfl
  have t0 : Int.toNat 0 = 0 := rfl
  have t1 : Int.toNat 1 = 1 := rfl
  by_cases c0 : l.length = 0
  · have d0 : ((l.length : Int) == 0) = true := by simpa using c0
    rw [if_pos c0] at hv
    simp only [V_seq, V_ret, V_block, V_region, V_cond, brW_true, W_nil, W_cons, effOp2, KN_seq, KXr_nil, KXr_seq, KXr_block, QE, asB, effOp, effPure, pureV, binV, lenV, ofC, strip, lkT, lkH, ISt.app, opI, gO, gB, allB, gval, wrapG, dstOK, setD, clean, enumT, Gives, Ideal.Fin, conv, conv0, Op.operands, Call.operands, List.append_toArray, reduceIte, reduceCtorEq, Nat.reduceLT, Nat.reduceEqDiff, ne_eq, not_false_eq_true, and_self, implies_true, List.nil_append, List.cons_append, List.append_nil, tab23, hN, el, d0, hv]
  · have d0 : ((l.length : Int) == 0) = false := by rw [beq_eq_false_iff_ne]; omega
    rw [if_neg c0] at hv
    by_cases c1 : l.length = 1
    · have d1 : ((l.length : Int) == 1) = true := by rw [beq_iff_eq]; omega
      rw [if_pos c1] at hv
      simp only [V_seq, V_ret, V_block, V_region, V_cond, brW_true, brW_false, W_nil, W_cons, effOp2, KN_seq, KXr_nil, KXr_seq, KXr_block, QE, asB, effOp, effPure, pureV, binV, lenV, ofC, strip, lkT, lkH, ISt.app, opI, gO, gB, allB, gval, wrapG, dstOK, setD, clean, enumT, Gives, Ideal.Fin, conv, conv0, Op.operands, Call.operands, List.append_toArray, reduceIte, reduceCtorEq, Nat.reduceLT, Nat.reduceEqDiff, ne_eq, not_false_eq_true, and_self, implies_true, List.nil_append, List.cons_append, List.append_nil, tab23, hN, el, d0, d1, hv]
    · have d1 : ((l.length : Int) == 1) = false := by rw [beq_eq_false_iff_ne]; omega
      rw [if_neg c1] at hv
      have g0 := getD_encPs (l := l) (i := 0) (by omega)
      by_cases c2 : l.length = 2
      · have d2 : ((l.length : Int) == 2) = true := by rw [beq_iff_eq]; omega
        rw [if_pos c2] at hv
        have g1 := getD_encPs (l := l) (i := 1) (by omega)
        simp only [V_seq, V_ret, V_block, V_region, V_draw, V_cond, brW_true, brW_false, drawW, WS_nil, pairsOf, W_nil, W_cons, effOp2, effOp3, WI_nil, WI_cons, KN_seq, KXr_nil, KXr_seq, KXr_block, QE, dynOK, indB, farB, freshB, freshK, freshK1, heapy, asB, effOp, effPure, effCall, giveUp, hasAll, pureV, binV, partV, eltV, loadV, iaddrV, lenV, ofC, strip, lkT, lkH, ISt.app, opI, gO, gB, allB, gval, wrapG, dstOK, setD, mentTm, mentHp, IV.ment, lendV, lendP, lent, lentP, idsV, idsL, lkHS, flat, clean, callArgs, callFn, allLent, enumT, Gives, Ideal.Fin, conv, conv0, Op.operands, Call.operands, List.append_toArray, reduceIte, reduceCtorEq, cond_true, cond_false, Bool.or_false, Bool.and_true, Bool.and_eq_true, Bool.not_true, Bool.not_false, Nat.reduceAdd, Nat.reduceLT, Nat.reduceLeDiff, Nat.reduceEqDiff, Nat.reduceBEq, Nat.zero_add, ne_eq, not_false_eq_true, true_and, and_true, and_false, and_self, implies_true, forall_const, List.map_cons, List.map_nil, List.nil_append, List.cons_append, List.append_nil, List.getD_cons_zero, List.getD_cons_succ, List.length_cons, List.length_nil, List.take_succ_cons, List.take_zero, List.take_nil, List.drop_zero, ex_clo, or_self, tab23, tab28, hN, pe, lk_impl_shaped_impl_Point_compare, sp_impl_Point_compare, el, d0, d1, d2, t0, t1, g0, g1, hv]
        try omega
      · have d2 : ((l.length : Int) == 2) = false := by rw [beq_eq_false_iff_ne]; omega
        rw [if_neg c2] at hv
        have hp : 0 < (insP l).length := by
          rcases Nat.eq_zero_or_pos (insP l).length with c | c
          · have : pAt l 0 ∈ insP l := mem_insP.2 (by rw [pAt, List.getD, List.getElem?_eq_getElem (by omega)]; exact List.getElem_mem _)
            rw [List.length_eq_zero_iff] at c
            rw [c] at this; cases this
          · exact c
        have es := len_encPs (insP l)
        have g1 := getD_encPs (l := insP l) (i := 0) hp
        cases c3 : cvxB l with
        | false =>
          rw [c3, Bool.false_and] at hv
          simp only [V_seq, V_skip, V_ret, V_block, V_region, V_draw, V_cond, brW_false, drawW, WS_nil, WS_cons, pairsOf, W_nil, W_cons, effOp2, effOp3, WI_nil, WI_cons, KN_seq, KN_block, KXr_nil, QE, dynOK, indB, farB, freshB, freshK, freshK1, heapy, asB, effOp, effPure, effPick, effCall, giveUp, hasAll, pureV, pickV, binV, partV, eltV, loadV, iaddrV, lenV, ofC, strip, lkT, lkH, ISt.app, opI, gO, gB, allB, gval, wrapG, dstOK, setD, mentTm, mentHp, IV.ment, IV.mentL, lendV, lendP, lent, lentP, idsV, idsL, lkHS, flat, clean, callArgs, callFn, allLent, enumT, Gives, Ideal.Fin, conv, conv0, eqL, numsOnly, Op.operands, Call.operands, List.append_toArray, reduceIte, reduceCtorEq, cond_true, cond_false, Bool.or_false, Bool.or_true, Bool.and_true, Bool.true_and, Bool.and_eq_true, Bool.not_true, Bool.not_false, Nat.reduceAdd, Nat.reduceLT, Nat.reduceLeDiff, Nat.reduceEqDiff, Nat.reduceBEq, Nat.zero_add, ne_eq, not_false_eq_true, true_and, and_true, false_and, and_false, and_self, false_implies, implies_true, List.map_cons, List.map_nil, List.nil_append, List.cons_append, List.append_nil, Option.bind_some, List.getElem?_cons_zero, List.getElem?_cons_succ, List.getD_cons_zero, List.getD_cons_succ, List.length_cons, List.length_nil, List.take_succ_cons, List.take_zero, List.take_nil, List.drop_succ_cons, List.drop_zero, ex_clo, bft, or_true, or_self, Bool.false_eq_true, tab23, tab28, hN, isPs_enc, toPs_enc, lk_impl_shaped_impl_convex, lk_impl_shaped_impl_sorted_v, sp_impl_convex, sp_impl_sorted_v, el, es, d0, d1, d2, t0, g0, g1, c3, hsz, hv]
          try omega
        | true =>
          rw [c3, Bool.true_and] at hv
          simp only [V_seq, V_skip, V_ret, V_block, V_region, V_draw, V_cond, brW_false, drawW, WS_nil, WS_cons, pairsOf, W_nil, W_cons, effOp2, effOp3, WI_nil, WI_cons, KN_seq, KN_block, KXr_nil, QE, dynOK, indB, farB, freshB, freshK, freshK1, heapy, asB, effOp, effPure, effPick, effCall, giveUp, hasAll, pureV, pickV, binV, partV, eltV, loadV, iaddrV, lenV, ofC, strip, lkT, lkH, ISt.app, opI, gO, gB, allB, gval, wrapG, dstOK, setD, mentTm, mentHp, IV.ment, IV.mentL, lendV, lendP, lent, lentP, idsV, idsL, lkHS, flat, clean, callArgs, callFn, allLent, enumT, Gives, Ideal.Fin, conv, conv0, eqL, numsOnly, Op.operands, Call.operands, List.append_toArray, reduceIte, reduceCtorEq, cond_true, cond_false, Bool.or_false, Bool.and_true, Bool.true_and, Bool.and_eq_true, Bool.not_true, Bool.not_false, Nat.reduceAdd, Nat.reduceLT, Nat.reduceLeDiff, Nat.reduceEqDiff, Nat.reduceBEq, Nat.zero_add, ne_eq, not_false_eq_true, beq_self_eq_true, true_and, and_true, and_false, and_self, implies_true, forall_const, List.map_cons, List.map_nil, List.nil_append, List.cons_append, List.append_nil, Option.bind_some, List.getElem?_cons_zero, List.getElem?_cons_succ, List.getD_cons_zero, List.getD_cons_succ, List.length_cons, List.length_nil, List.take_succ_cons, List.take_zero, List.take_nil, List.drop_succ_cons, List.drop_zero, ex_clo, or_true, or_self, Bool.true_eq_false, Bool.false_eq_true, tab23, tab28, hN, isPs_enc, toPs_enc, lk_impl_shaped_impl_convex, lk_impl_shaped_impl_sorted_v, sp_impl_convex, sp_impl_sorted_v, el, es, d0, d1, d2, t0, g0, g1, c3, hsz, eqP, hv]
          try omega
def sp_impl_shaped : PSpec := ⟨fun xs => match xs with | [.sl 2 les] => isPs les ∧ ((fun (l : List Pt) => SmL l) (toPs les)) ∧ ((fun (l : List Pt) => l.length ≤ 1000000) (toPs les)) | _ => False, fun xs => match xs with | [.sl _ les] => (fun (l : List Pt) => .bool (shpI l)) (toPs les) | _ => .junk, false⟩
theorem gk_impl_shaped : ∀ args, sp_impl_shaped.pre args → ICall Try.prog 63 args (sp_impl_shaped.val args) := by
  intro args h
  unfold sp_impl_shaped at h ⊢; simp only at h ⊢; split at h
  · obtain ⟨h0, h1, h2⟩ := h
    obtain ⟨l0, rfl⟩ := isP_ex h0
    simp only [toPs_enc] at *
    exact c_impl_shaped _ h1 h2
  · exact h.elim
theorem en_impl_shaped : Enters Try.prog 63 := enters_of Try.func63 (by kernel_rfl) rfl

end Go.Proofs.Ytlcndghaendieaa
