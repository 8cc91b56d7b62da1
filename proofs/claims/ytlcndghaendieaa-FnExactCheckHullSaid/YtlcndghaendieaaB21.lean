/- Contracts: where points lie of polygons; convex polygons; lattice points. -/
import Derived.Test.YtlcndghaendieaaB20
import Derived.Test.YtlcndghaendieaaBG
set_option linter.unusedVariables false
set_option linter.unusedSimpArgs false
set_option maxRecDepth 100000
namespace Go.Proofs.Ytlcndghaendieaa
open Go Go.Ideal Go.Pl Go.Sort

/-- Inside or outside, as a number. -/
def sgB (b : Bool) : Int := if b then 1 else -1
theorem sgB_neg (b : Bool) : IntKind.i64.wrap (-(sgB b)) = sgB (!b) := by cases b <;> decide
theorem loc_step {q : Pt} {E : List Qd} {i : Nat} (hi : i < E.length) (b : Bool) : locR q (E.drop i) b = if onS (qAt E i) q then 0 else locR q (E.drop (i + 1)) (b ^^ rayP (qAt E i) q) := by
  have : E.drop i = qAt E i :: E.drop (i + 1) := by
    rw [List.drop_eq_getElem_cons hi]; simp [qAt, List.getD, hi]
  rw [this]; rfl
theorem ray_of {e f : Qd} (q : Pt) (hf : f = if e.2.2 < e.1.2 then (e.2, e.1) else e) : rayP e q = (decide (f.1.2 ≤ q.2) && decide (q.2 < f.2.2) && decide (0 < turn f.1 f.2 q)) := by
  subst hf; rfl
theorem sq_swap {e : Qd} (h : SmQ e) : SmQ (e.2, e.1) := ⟨h.2, h.1⟩
theorem loc_end {q : Pt} {E : List Qd} (b : Bool) : locR q (E.drop E.length) b = sgB b := by rw [List.drop_length]; rfl

def g_impl_locate : List (Nat × PSpec) := [(83, sp_impl_edges_v), (91, sp_impl_Segment_has), (93, sp_impl_turn)]
theorem gok_impl_locate : GOK Try.prog g_impl_locate := gok_consO gk_impl_edges_v en_impl_edges_v (gok_cons gk_impl_Segment_has en_impl_Segment_has (gok_cons gk_impl_turn en_impl_turn (gok0)))
theorem lk_impl_locate_impl_edges_v : lkG g_impl_locate 83 = sp_impl_edges_v := rfl
theorem lk_impl_locate_impl_Segment_has : lkG g_impl_locate 91 = sp_impl_Segment_has := rfl
theorem lk_impl_locate_impl_turn : lkG g_impl_locate 93 = sp_impl_turn := rfl
def h_impl_locate : List (Nat × HSpec) := []
theorem hok_impl_locate : HOK Try.prog h_impl_locate := hok0
theorem c_impl_locate (l : List Pt) (q : Pt) (hm : SmL l) (hq : Sm q) (hsz : l.length ≤ 1000000) : ICall Try.prog 100 [.sl 2 (encPs l), encP q] (.num .i64 (locR q (edgesP l) false)) := by
  refine icall_V (G := g_impl_locate) (H := []) [(7, [(0, 4), (1, 4), (2, 4), (3, 4), (0, 5), (1, 5), (2, 5), (3, 5), (4, 5), (2, 6), (3, 6)])] tabOK mixed gok_impl_locate hok_impl_locate Try.func100 rfl Try.ntmps100 Try.results100 rfl (by kernel_rfl) fun F hN hlen => ?_
  have el := len_encPs l
  have ee : (edgesP l).length = l.length := by rw [edgesP, edgesN_len]
  have eq : (encQs (edgesP l)).length = l.length := by rw [len_encQs, ee]
  simp only [V_seq, V_block, V_region, W_nil, W_cons, effOp2, KN_seq, effOp, effPure, effNew, effBox, effCall, giveUp, hasAll, skipE, pureV, lenV, solid, IV.cells, ofC, strip, lkT, lkH, ISt.app, opI, gO, gB, allB, gval, wrapG, dstOK, setD, mentTm, mentHp, IV.ment, IV.mentL, oneI, lendV, lendP, lent, lentP, idsV, idsL, lkHS, flat, clean, callArgs, callFn, allLent, enumT, Op.operands, Call.operands, List.append_toArray, reduceIte, reduceCtorEq, cond_true, Bool.or_false, Bool.or_true, Bool.and_true, Bool.not_true, Nat.reduceLT, Nat.reduceEqDiff, Nat.zero_add, ne_eq, not_false_eq_true, true_and, and_self, implies_true, List.map_cons, List.map_nil, List.nil_append, List.cons_append, List.append_nil, List.all_cons, List.all_nil, ex_clo, or_self, tab26, hN, encP, isPs_enc, toPs_enc, lk_impl_locate_impl_edges_v, sp_impl_edges_v, eq, hsz]
  refine V_loop (α := Nat × Bool) ⟨tabOK, mixed, gok_impl_locate, hok_impl_locate⟩ (by kernel_rfl) (fun a => a.1 ≤ l.length ∧ locR q (edgesP l) false = locR q ((edgesP l).drop a.1) a.2) (fun a => ⟨[(13, .num .i64 a.1), (12, .num .i64 l.length), (11, .sl 4 (encQs (edgesP l))), (5, .num .i64 (sgB a.2)), (3, .ptr 3 0)], [(3, some (.box 28 [.num .i64 q.1, .num .i64 q.2]))]⟩) (fun a => l.length - a.1) (0, false) id ⟨Nat.zero_le _, rfl⟩ (by simp [SLe, SLe0, convTm, convHp, convB, conv, conv0, convL, lkT, lkH, clean, sgB]) ?_
  rintro ⟨i, b⟩ ⟨hi, hj⟩
  simp only [] at hi hj
  simp only [V_seq, V_region, V_cond, W_nil, W_cons, effOp2, KN_seq, asB, effOp, effPure, pureV, binV, strip, lkT, ISt.app, opI, gO, gB, allB, gval, wrapG, dstOK, setD, Op.operands, reduceIte, Nat.reduceLT, Nat.reduceEqDiff, true_and, and_self, implies_true, List.nil_append, List.cons_append, hN]
  refine brW_some (fun h => ?_) (fun h => ?_)
  · have hi' : i < l.length := by simpa using h
    have g0 := getD_encQs (l := edgesP l) (i := i) (by omega)
    have hst := loc_step (q := q) (E := edgesP l) (i := i) (by omega) b
    rw [edgesP_at hi'] at g0 hst
    have hw := wr_succ hi' (by rw [maxLen_eq]; omega)
    have s0 := hm.edge i
    obtain ⟨e, he⟩ : ∃ e, edgeP l i = e := ⟨_, rfl⟩
    rw [he] at g0 hst s0
    cases c0 : onS e q with
    | true =>
      rw [if_pos c0] at hst
      simp only [V_seq, V_skip, V_ret, V_block, V_region, V_cond, brW_true, W_nil, W_cons, effOp2, KN_seq, KXr_nil, KXr_seq, KXr_block, KXr_back, QE, asB, effOp, effPure, effNew, effAlloc, effStore, effCall, giveUp, hasAll, skipE, pureV, storeV, partV, eltV, loadV, iaddrV, over, solid, IV.cells, ofC, strip, lkT, lkH, ISt.app, opI, gO, gB, allB, gval, wrapG, dstOK, setD, mentTm, mentHp, IV.ment, IV.mentL, oneI, lendV, lendP, lent, lentP, idsV, idsL, lkHS, flat, clean, callArgs, callFn, allLent, Gives, Ideal.Fin, conv, conv0, Op.operands, reduceIte, reduceCtorEq, cond_true, Bool.or_false, Bool.and_true, Bool.not_true, Nat.reduceAdd, Nat.reduceLT, Nat.reduceLeDiff, Nat.reduceEqDiff, Nat.reduceBEq, Nat.zero_add, ne_eq, not_false_eq_true, true_and, and_true, and_false, and_self, implies_true, forall_const, List.map_cons, List.map_nil, List.nil_append, List.cons_append, List.append_nil, List.all_cons, List.all_nil, List.getD_cons_zero, List.length_cons, List.length_nil, List.take_succ_cons, List.take_zero, List.take_nil, List.drop_succ_cons, List.drop_zero, List.drop_nil, ex_clo, or_self, tab26, tab28, tab30, hN, pe, Int.toNat_natCast, lk_impl_locate_impl_Segment_has, sp_impl_Segment_has, eq, g0, s0, hq, c0, hj, hst]
      try omega
    | false =>
      rw [if_neg (by rw [c0]; decide)] at hst
      have go : ∀ b2, b2 = (b ^^ rayP e q) → locR q (edgesP l) false = locR q ((edgesP l).drop (i + 1)) b2 := fun b2 hb => by rw [hj, hst, hb]
      cases d0 : decide (e.2.2 < e.1.2) with
      | true =>
        have hr := ray_of (e := e) (f := (e.2, e.1)) q (by rw [if_pos (of_decide_eq_true d0)])
        simp only [] at hr
        have s1 := s0.2
        have s2 := s0.1
        cases c1 : decide (e.2.2 ≤ q.2) with
        | false =>
          rw [c1, Bool.false_and, Bool.false_and] at hr
          simp only [V_seq, V_skip, V_block, V_region, V_draw, V_cond, brW_true, brW_false, drawW, WS_nil, pairsOf, W_nil, W_cons, effOp2, effOp3, WI_nil, WI_cons, KN_seq, KN_block, KN_back, dynOK, indB, farB, seeB, see, isStore, freshB, freshK, freshK1, ownId, heapy, asB, effOp, effPure, effPick, effNew, effAlloc, effStore, effCall, giveUp, hasAll, skipE, pureV, pickV, storeV, binV, partV, eltV, loadV, faddrV, iaddrV, over, solid, IV.cells, ofC, strip, lkT, lkH, ISt.app, opI, gO, gB, allB, gval, wrapG, dstOK, setD, mentTm, mentHp, IV.ment, IV.mentL, oneI, lendV, lendP, lent, lentP, idsV, idsL, lkHS, flat, clean, callArgs, callFn, allLent, IBlk.shape, Op.operands, reduceIte, reduceCtorEq, cond_true, cond_false, Bool.or_false, Bool.or_true, Bool.and_true, Bool.and_false, Bool.and_eq_true, Bool.not_true, Bool.not_false, Nat.reduceAdd, Nat.reduceMul, Nat.reduceLT, Nat.reduceLeDiff, Nat.reduceEqDiff, Nat.reduceBEq, Nat.add_zero, Nat.zero_add, ne_eq, not_false_eq_true, beq_self_eq_true, true_and, and_true, and_false, and_self, false_implies, implies_true, forall_const, List.map_cons, List.map_nil, List.nil_append, List.cons_append, List.append_nil, List.all_cons, List.all_nil, Option.map_some, Option.bind_some, List.getElem?_cons_zero, List.getElem?_cons_succ, List.getD_cons_zero, List.getD_cons_succ, List.length_cons, List.length_nil, List.take_succ_cons, List.take_zero, List.take_nil, List.drop_succ_cons, List.drop_zero, List.drop_nil, ex_clo, bft, or_self, Bool.false_eq_true, tab3, tab26, tab28, tab30, hN, pe, Int.toNat_natCast, lk_impl_locate_impl_Segment_has, lk_impl_locate_impl_turn, sp_impl_Segment_has, sp_impl_turn, eq, g0, s0, s1, s2, hq, c0, d0, c1, hw]
          repeat refine And.intro (by first | omega | (simp; done) | (simp; omega)) ?_
          exact ⟨(i + 1, b), id, ⟨by simp only []; omega, go b (by rw [hr, Bool.xor_false])⟩, by simp only []; omega, by simp [SLe, SLe0, convTm, convHp, convB, conv, conv0, convL, lkT, lkH, clean]⟩
        | true =>
          cases c2 : decide (q.2 < e.1.2) with
          | false =>
            rw [c2, Bool.and_false, Bool.false_and] at hr
            simp only [V_seq, V_skip, V_block, V_region, V_draw, V_cond, brW_true, brW_false, drawW, WS_nil, pairsOf, W_nil, W_cons, effOp2, effOp3, WI_nil, WI_cons, KN_seq, KN_block, KN_back, dynOK, indB, farB, seeB, see, isStore, freshB, freshK, freshK1, ownId, heapy, asB, effOp, effPure, effPick, effNew, effAlloc, effStore, effCall, giveUp, hasAll, skipE, pureV, pickV, storeV, binV, partV, eltV, loadV, faddrV, iaddrV, over, solid, IV.cells, ofC, strip, lkT, lkH, ISt.app, opI, gO, gB, allB, gval, wrapG, dstOK, setD, mentTm, mentHp, IV.ment, IV.mentL, oneI, lendV, lendP, lent, lentP, idsV, idsL, lkHS, flat, clean, callArgs, callFn, allLent, IBlk.shape, Op.operands, reduceIte, reduceCtorEq, cond_true, cond_false, Bool.or_false, Bool.or_true, Bool.and_true, Bool.and_false, Bool.and_eq_true, Bool.not_true, Bool.not_false, Nat.reduceAdd, Nat.reduceMul, Nat.reduceLT, Nat.reduceLeDiff, Nat.reduceEqDiff, Nat.reduceBEq, Nat.add_zero, Nat.zero_add, ne_eq, not_false_eq_true, beq_self_eq_true, true_and, and_true, and_false, and_self, false_implies, implies_true, forall_const, List.map_cons, List.map_nil, List.nil_append, List.cons_append, List.append_nil, List.all_cons, List.all_nil, Option.map_some, Option.bind_some, List.getElem?_cons_zero, List.getElem?_cons_succ, List.getD_cons_zero, List.getD_cons_succ, List.length_cons, List.length_nil, List.take_succ_cons, List.take_zero, List.take_nil, List.drop_succ_cons, List.drop_zero, List.drop_nil, ex_clo, bft, or_self, Bool.true_eq_false, Bool.false_eq_true, tab3, tab26, tab28, tab30, hN, pe, Int.toNat_natCast, lk_impl_locate_impl_Segment_has, lk_impl_locate_impl_turn, sp_impl_Segment_has, sp_impl_turn, eq, g0, s0, s1, s2, hq, c0, d0, c1, c2, hw]
            repeat refine And.intro (by first | omega | (simp; done) | (simp; omega)) ?_
            exact ⟨(i + 1, b), id, ⟨by simp only []; omega, go b (by rw [hr, Bool.xor_false])⟩, by simp only []; omega, by simp [SLe, SLe0, convTm, convHp, convB, conv, conv0, convL, lkT, lkH, clean]⟩
          | true =>
            cases c3 : decide (0 < turn e.2 e.1 q) with
            | false =>
              rw [c3, Bool.and_false] at hr
              simp only [V_seq, V_skip, V_block, V_region, V_draw, V_cond, brW_true, brW_false, drawW, WS_nil, pairsOf, W_nil, W_cons, effOp2, effOp3, WI_nil, WI_cons, KN_seq, KN_block, KN_back, dynOK, indB, farB, seeB, see, isStore, freshB, freshK, freshK1, ownId, heapy, asB, effOp, effPure, effPick, effNew, effAlloc, effStore, effCall, giveUp, hasAll, skipE, pureV, pickV, storeV, binV, partV, eltV, loadV, faddrV, iaddrV, over, solid, IV.cells, ofC, strip, lkT, lkH, ISt.app, opI, gO, gB, allB, gval, wrapG, dstOK, setD, mentTm, mentHp, IV.ment, IV.mentL, oneI, lendV, lendP, lent, lentP, idsV, idsL, lkHS, flat, clean, callArgs, callFn, allLent, IBlk.shape, Op.operands, reduceIte, reduceCtorEq, cond_true, cond_false, Bool.or_false, Bool.or_true, Bool.and_true, Bool.and_false, Bool.and_eq_true, Bool.not_true, Bool.not_false, Nat.reduceAdd, Nat.reduceMul, Nat.reduceLT, Nat.reduceLeDiff, Nat.reduceEqDiff, Nat.reduceBEq, Nat.add_zero, Nat.zero_add, ne_eq, not_false_eq_true, beq_self_eq_true, true_and, and_true, and_false, and_self, implies_true, forall_const, List.map_cons, List.map_nil, List.nil_append, List.cons_append, List.append_nil, List.all_cons, List.all_nil, Option.map_some, Option.bind_some, List.getElem?_cons_zero, List.getElem?_cons_succ, List.getD_cons_zero, List.getD_cons_succ, List.length_cons, List.length_nil, List.take_succ_cons, List.take_zero, List.take_nil, List.drop_succ_cons, List.drop_zero, List.drop_nil, ex_clo, or_self, Bool.true_eq_false, tab3, tab26, tab28, tab30, hN, pe, Int.toNat_natCast, lk_impl_locate_impl_Segment_has, lk_impl_locate_impl_turn, sp_impl_Segment_has, sp_impl_turn, eq, g0, s0, s1, s2, hq, c0, d0, c1, c2, c3, hw]
              repeat refine And.intro (by first | omega | (simp; done) | (simp; omega)) ?_
              exact ⟨(i + 1, b), id, ⟨by simp only []; omega, go b (by rw [hr, Bool.xor_false])⟩, by simp only []; omega, by simp [SLe, SLe0, convTm, convHp, convB, conv, conv0, convL, lkT, lkH, clean]⟩
            | true =>
              rw [c1, c2, c3] at hr
              simp only [V_seq, V_skip, V_block, V_region, V_draw, V_cond, brW_true, brW_false, drawW, WS_nil, pairsOf, W_nil, W_cons, effOp2, effOp3, WI_nil, WI_cons, KN_seq, KN_block, KN_back, dynOK, indB, farB, seeB, see, isStore, freshB, freshK, freshK1, ownId, heapy, asB, effOp, effPure, effPick, effNew, effAlloc, effStore, effCall, giveUp, hasAll, skipE, pureV, pickV, storeV, binV, partV, eltV, loadV, faddrV, iaddrV, over, solid, IV.cells, ofC, strip, lkT, lkH, ISt.app, opI, gO, gB, allB, gval, wrapG, dstOK, setD, mentTm, mentHp, IV.ment, IV.mentL, oneI, lendV, lendP, lent, lentP, idsV, idsL, lkHS, flat, clean, callArgs, callFn, allLent, IBlk.shape, Op.operands, reduceIte, reduceCtorEq, cond_true, cond_false, Bool.or_false, Bool.or_true, Bool.and_true, Bool.and_false, Bool.and_eq_true, Bool.not_true, Bool.not_false, Nat.reduceAdd, Nat.reduceMul, Nat.reduceLT, Nat.reduceLeDiff, Nat.reduceEqDiff, Nat.reduceBEq, Nat.add_zero, Nat.zero_add, ne_eq, not_false_eq_true, beq_self_eq_true, true_and, and_true, and_false, and_self, implies_true, forall_const, List.map_cons, List.map_nil, List.nil_append, List.cons_append, List.append_nil, List.all_cons, List.all_nil, Option.map_some, Option.bind_some, List.getElem?_cons_zero, List.getElem?_cons_succ, List.getD_cons_zero, List.getD_cons_succ, List.length_cons, List.length_nil, List.take_succ_cons, List.take_zero, List.take_nil, List.drop_succ_cons, List.drop_zero, List.drop_nil, ex_clo, or_self, Bool.true_eq_false, tab3, tab26, tab28, tab30, hN, pe, Int.toNat_natCast, lk_impl_locate_impl_Segment_has, lk_impl_locate_impl_turn, sp_impl_Segment_has, sp_impl_turn, eq, g0, s0, s1, s2, hq, c0, d0, c1, c2, c3, hw, sgB_neg]
              repeat refine And.intro (by first | omega | (simp; done) | (simp; omega)) ?_
              exact ⟨(i + 1, !b), id, ⟨by simp only []; omega, go (!b) (by rw [hr]; simp)⟩, by simp only []; omega, by simp [SLe, SLe0, convTm, convHp, convB, conv, conv0, convL, lkT, lkH, clean]⟩
      | false =>
        have hr := ray_of (e := e) (f := e) q (by rw [if_neg (of_decide_eq_false d0)])
        have s1 := s0.1
        have s2 := s0.2
        cases c1 : decide (e.1.2 ≤ q.2) with
        | false =>
          rw [c1, Bool.false_and, Bool.false_and] at hr
          simp only [V_seq, V_skip, V_block, V_region, V_draw, V_cond, brW_false, drawW, WS_nil, pairsOf, W_nil, W_cons, effOp2, effOp3, WI_nil, WI_cons, KN_seq, KN_block, KN_back, dynOK, indB, farB, seeB, see, isStore, freshB, freshK, freshK1, ownId, heapy, asB, effOp, effPure, effPick, effNew, effAlloc, effStore, effCall, giveUp, hasAll, skipE, pureV, pickV, storeV, binV, partV, eltV, loadV, faddrV, iaddrV, over, solid, IV.cells, ofC, strip, lkT, lkH, ISt.app, opI, gO, gB, allB, gval, wrapG, dstOK, setD, mentTm, mentHp, IV.ment, IV.mentL, oneI, lendV, lendP, lent, lentP, idsV, idsL, lkHS, flat, clean, callArgs, callFn, allLent, IBlk.shape, Op.operands, reduceIte, reduceCtorEq, cond_true, cond_false, Bool.or_false, Bool.or_true, Bool.and_true, Bool.and_false, Bool.and_eq_true, Bool.not_true, Bool.not_false, Nat.reduceAdd, Nat.reduceMul, Nat.reduceLT, Nat.reduceLeDiff, Nat.reduceEqDiff, Nat.reduceBEq, Nat.add_zero, Nat.zero_add, ne_eq, not_false_eq_true, beq_self_eq_true, true_and, and_true, and_false, and_self, false_implies, implies_true, forall_const, List.map_cons, List.map_nil, List.nil_append, List.cons_append, List.append_nil, List.all_cons, List.all_nil, Option.map_some, Option.bind_some, List.getElem?_cons_zero, List.getElem?_cons_succ, List.getD_cons_zero, List.getD_cons_succ, List.length_cons, List.length_nil, List.take_succ_cons, List.take_zero, List.take_nil, List.drop_succ_cons, List.drop_zero, List.drop_nil, ex_clo, bft, or_self, Bool.false_eq_true, tab3, tab26, tab28, tab30, hN, pe, Int.toNat_natCast, lk_impl_locate_impl_Segment_has, lk_impl_locate_impl_turn, sp_impl_Segment_has, sp_impl_turn, eq, g0, s0, s1, s2, hq, c0, d0, c1, hw]
          repeat refine And.intro (by first | omega | (simp; done) | (simp; omega)) ?_
          exact ⟨(i + 1, b), id, ⟨by simp only []; omega, go b (by rw [hr, Bool.xor_false])⟩, by simp only []; omega, by simp [SLe, SLe0, convTm, convHp, convB, conv, conv0, convL, lkT, lkH, clean]⟩
        | true =>
          cases c2 : decide (q.2 < e.2.2) with
          | false =>
            rw [c2, Bool.and_false, Bool.false_and] at hr
            simp only [V_seq, V_skip, V_block, V_region, V_draw, V_cond, brW_false, drawW, WS_nil, pairsOf, W_nil, W_cons, effOp2, effOp3, WI_nil, WI_cons, KN_seq, KN_block, KN_back, dynOK, indB, farB, seeB, see, isStore, freshB, freshK, freshK1, ownId, heapy, asB, effOp, effPure, effPick, effNew, effAlloc, effStore, effCall, giveUp, hasAll, skipE, pureV, pickV, storeV, binV, partV, eltV, loadV, faddrV, iaddrV, over, solid, IV.cells, ofC, strip, lkT, lkH, ISt.app, opI, gO, gB, allB, gval, wrapG, dstOK, setD, mentTm, mentHp, IV.ment, IV.mentL, oneI, lendV, lendP, lent, lentP, idsV, idsL, lkHS, flat, clean, callArgs, callFn, allLent, IBlk.shape, Op.operands, reduceIte, reduceCtorEq, cond_true, cond_false, Bool.or_false, Bool.or_true, Bool.and_true, Bool.and_false, Bool.and_eq_true, Bool.not_true, Bool.not_false, Nat.reduceAdd, Nat.reduceMul, Nat.reduceLT, Nat.reduceLeDiff, Nat.reduceEqDiff, Nat.reduceBEq, Nat.add_zero, Nat.zero_add, ne_eq, not_false_eq_true, beq_self_eq_true, true_and, and_true, and_false, and_self, false_implies, implies_true, forall_const, List.map_cons, List.map_nil, List.nil_append, List.cons_append, List.append_nil, List.all_cons, List.all_nil, Option.map_some, Option.bind_some, List.getElem?_cons_zero, List.getElem?_cons_succ, List.getD_cons_zero, List.getD_cons_succ, List.length_cons, List.length_nil, List.take_succ_cons, List.take_zero, List.take_nil, List.drop_succ_cons, List.drop_zero, List.drop_nil, ex_clo, bft, or_self, Bool.true_eq_false, Bool.false_eq_true, tab3, tab26, tab28, tab30, hN, pe, Int.toNat_natCast, lk_impl_locate_impl_Segment_has, lk_impl_locate_impl_turn, sp_impl_Segment_has, sp_impl_turn, eq, g0, s0, s1, s2, hq, c0, d0, c1, c2, hw]
            repeat refine And.intro (by first | omega | (simp; done) | (simp; omega)) ?_
            exact ⟨(i + 1, b), id, ⟨by simp only []; omega, go b (by rw [hr, Bool.xor_false])⟩, by simp only []; omega, by simp [SLe, SLe0, convTm, convHp, convB, conv, conv0, convL, lkT, lkH, clean]⟩
          | true =>
            cases c3 : decide (0 < turn e.1 e.2 q) with
            | false =>
              rw [c3, Bool.and_false] at hr
              simp only [V_seq, V_skip, V_block, V_region, V_draw, V_cond, brW_false, drawW, WS_nil, pairsOf, W_nil, W_cons, effOp2, effOp3, WI_nil, WI_cons, KN_seq, KN_block, KN_back, dynOK, indB, farB, seeB, see, isStore, freshB, freshK, freshK1, ownId, heapy, asB, effOp, effPure, effPick, effNew, effAlloc, effStore, effCall, giveUp, hasAll, skipE, pureV, pickV, storeV, binV, partV, eltV, loadV, faddrV, iaddrV, over, solid, IV.cells, ofC, strip, lkT, lkH, ISt.app, opI, gO, gB, allB, gval, wrapG, dstOK, setD, mentTm, mentHp, IV.ment, IV.mentL, oneI, lendV, lendP, lent, lentP, idsV, idsL, lkHS, flat, clean, callArgs, callFn, allLent, IBlk.shape, Op.operands, reduceIte, reduceCtorEq, cond_true, cond_false, Bool.or_false, Bool.or_true, Bool.and_true, Bool.and_false, Bool.and_eq_true, Bool.not_true, Bool.not_false, Nat.reduceAdd, Nat.reduceMul, Nat.reduceLT, Nat.reduceLeDiff, Nat.reduceEqDiff, Nat.reduceBEq, Nat.add_zero, Nat.zero_add, ne_eq, not_false_eq_true, beq_self_eq_true, true_and, and_true, and_false, and_self, implies_true, forall_const, List.map_cons, List.map_nil, List.nil_append, List.cons_append, List.append_nil, List.all_cons, List.all_nil, Option.map_some, Option.bind_some, List.getElem?_cons_zero, List.getElem?_cons_succ, List.getD_cons_zero, List.getD_cons_succ, List.length_cons, List.length_nil, List.take_succ_cons, List.take_zero, List.take_nil, List.drop_succ_cons, List.drop_zero, List.drop_nil, ex_clo, or_self, Bool.true_eq_false, tab3, tab26, tab28, tab30, hN, pe, Int.toNat_natCast, lk_impl_locate_impl_Segment_has, lk_impl_locate_impl_turn, sp_impl_Segment_has, sp_impl_turn, eq, g0, s0, s1, s2, hq, c0, d0, c1, c2, c3, hw]
              repeat refine And.intro (by first | omega | (simp; done) | (simp; omega)) ?_
              exact ⟨(i + 1, b), id, ⟨by simp only []; omega, go b (by rw [hr, Bool.xor_false])⟩, by simp only []; omega, by simp [SLe, SLe0, convTm, convHp, convB, conv, conv0, convL, lkT, lkH, clean]⟩
            | true =>
              rw [c1, c2, c3] at hr
              simp only [V_seq, V_skip, V_block, V_region, V_draw, V_cond, brW_true, brW_false, drawW, WS_nil, pairsOf, W_nil, W_cons, effOp2, effOp3, WI_nil, WI_cons, KN_seq, KN_block, KN_back, dynOK, indB, farB, seeB, see, isStore, freshB, freshK, freshK1, ownId, heapy, asB, effOp, effPure, effPick, effNew, effAlloc, effStore, effCall, giveUp, hasAll, skipE, pureV, pickV, storeV, binV, partV, eltV, loadV, faddrV, iaddrV, over, solid, IV.cells, ofC, strip, lkT, lkH, ISt.app, opI, gO, gB, allB, gval, wrapG, dstOK, setD, mentTm, mentHp, IV.ment, IV.mentL, oneI, lendV, lendP, lent, lentP, idsV, idsL, lkHS, flat, clean, callArgs, callFn, allLent, IBlk.shape, Op.operands, reduceIte, reduceCtorEq, cond_true, cond_false, Bool.or_false, Bool.or_true, Bool.and_true, Bool.and_false, Bool.and_eq_true, Bool.not_true, Bool.not_false, Nat.reduceAdd, Nat.reduceMul, Nat.reduceLT, Nat.reduceLeDiff, Nat.reduceEqDiff, Nat.reduceBEq, Nat.add_zero, Nat.zero_add, ne_eq, not_false_eq_true, beq_self_eq_true, true_and, and_true, and_false, and_self, implies_true, forall_const, List.map_cons, List.map_nil, List.nil_append, List.cons_append, List.append_nil, List.all_cons, List.all_nil, Option.map_some, Option.bind_some, List.getElem?_cons_zero, List.getElem?_cons_succ, List.getD_cons_zero, List.getD_cons_succ, List.length_cons, List.length_nil, List.take_succ_cons, List.take_zero, List.take_nil, List.drop_succ_cons, List.drop_zero, List.drop_nil, ex_clo, or_self, Bool.true_eq_false, tab3, tab26, tab28, tab30, hN, pe, Int.toNat_natCast, lk_impl_locate_impl_Segment_has, lk_impl_locate_impl_turn, sp_impl_Segment_has, sp_impl_turn, eq, g0, s0, s1, s2, hq, c0, d0, c1, c2, c3, hw, sgB_neg]
              repeat refine And.intro (by first | omega | (simp; done) | (simp; omega)) ?_
              exact ⟨(i + 1, !b), id, ⟨by simp only []; omega, go (!b) (by rw [hr]; simp)⟩, by simp only []; omega, by simp [SLe, SLe0, convTm, convHp, convB, conv, conv0, convL, lkT, lkH, clean]⟩
  · have hie : i = l.length := by simp at h; omega
    subst hie
    have hf : locR q (edgesP l) false = sgB b := by rw [hj, ← ee, loc_end]
    simp only [V_seq, V_ret, V_exit, V_region, W_nil, W_cons, effOp2, KN_seq, KXr_nil, KXe_nil, KXe_seq, KXe_block, KXe_back, QE, effOp, effPure, pureV, strip, lkT, lkH, ISt.app, opI, gO, gB, allB, gval, wrapG, dstOK, setD, clean, Gives, Ideal.Fin, conv, conv0, Op.operands, reduceIte, Nat.reduceLT, Nat.reduceEqDiff, and_self, implies_true, List.nil_append, List.cons_append, hN, hf]
def sp_impl_locate : PSpec := ⟨fun xs => match xs with | [.sl 2 les, .agg [.num .i64 q1, .num .i64 q2]] => isPs les ∧ ((fun (l : List Pt) (q : Pt) => SmL l) (toPs les) (q1, q2)) ∧ ((fun (l : List Pt) (q : Pt) => Sm q) (toPs les) (q1, q2)) ∧ ((fun (l : List Pt) (q : Pt) => l.length ≤ 1000000) (toPs les) (q1, q2)) | _ => False, fun xs => match xs with | [.sl _ les, .agg [.num _ q1, .num _ q2]] => (fun (l : List Pt) (q : Pt) => .num .i64 (locR q (edgesP l) false)) (toPs les) (q1, q2) | _ => .junk, false⟩
theorem gk_impl_locate : ∀ args, sp_impl_locate.pre args → ICall Try.prog 100 args (sp_impl_locate.val args) := by
  intro args h
  unfold sp_impl_locate at h ⊢; simp only at h ⊢; split at h
  · obtain ⟨h0, h1, h2, h3⟩ := h
    obtain ⟨l0, rfl⟩ := isP_ex h0
    simp only [toPs_enc] at *
    exact c_impl_locate _ (_, _) h1 h2 h3
  · exact h.elim
theorem en_impl_locate : Enters Try.prog 100 := enters_of Try.func100 (by kernel_rfl) rfl



/-- Where a point is of a simple polygon. -/
def locB (l : List Pt) (q : Pt) : Int := bif simpB l && okP q then locR q (edgesP l) false else 2

/-- Is it a convex polygon, counterclockwise? -/
def cvxB (l : List Pt) : Bool := simpB l && leftsP l
def g_impl_convex : List (Nat × PSpec) := [(36, sp_impl_simple), (93, sp_impl_turn)]
theorem gok_impl_convex : GOK Try.prog g_impl_convex := gok_cons gk_impl_simple en_impl_simple (gok_cons gk_impl_turn en_impl_turn (gok0))
theorem lk_impl_convex_impl_simple : lkG g_impl_convex 36 = sp_impl_simple := rfl
theorem lk_impl_convex_impl_turn : lkG g_impl_convex 93 = sp_impl_turn := rfl
def h_impl_convex : List (Nat × HSpec) := []
theorem hok_impl_convex : HOK Try.prog h_impl_convex := hok0
theorem c_impl_convex (l : List Pt)  : ICall Try.prog 110 [.sl 2 (encPs l)] (.bool (cvxB l)) := by
  refine icall_V (G := g_impl_convex) (H := []) [(6, [(0, 20), (1, 20), (2, 20), (4, 20), (5, 20), (6, 20), (7, 20), (8, 20), (9, 20), (10, 20), (12, 20), (13, 20), (14, 20), (15, 20), (16, 20), (17, 20), (18, 20)])] tabOK mixed gok_impl_convex hok_impl_convex Try.func110 rfl Try.ntmps110 Try.results110 rfl (by kernel_rfl) fun F hN hlen => ?_
  have el := len_encPs l
  have hv : cvxB l = (simpB l && leftsP l) := rfl
  cases h1 : simpB l with
  | false =>
    rw [h1] at hv
    simp only [V_seq, V_ret, V_region, V_cond, brW_true, W_nil, W_cons, effOp2, KN_seq, KXr_nil, KXr_seq, QE, asB, effOp, effPure, effCall, giveUp, hasAll, pureV, ofC, strip, lkT, lkH, ISt.app, opI, gO, gB, allB, gval, wrapG, dstOK, setD, lendV, lendP, lent, lentP, idsV, idsL, lkHS, flat, clean, callArgs, callFn, allLent, enumT, Gives, Ideal.Fin, conv, conv0, Op.operands, reduceIte, reduceCtorEq, cond_true, Bool.or_false, Bool.false_and, Bool.not_true, Bool.not_false, Nat.reduceLT, Nat.reduceEqDiff, and_self, implies_true, List.map_cons, List.map_nil, List.nil_append, List.cons_append, List.append_nil, ex_clo, or_self, hN, isPs_enc, toPs_enc, lk_impl_convex_impl_simple, sp_impl_simple, h1, hv]
  | true =>
    obtain ⟨hk, h3, h20, hnd⟩ := ring_facts (simp_ring h1)
    have hm := okPs_sm hk
    rw [h1, Bool.true_and] at hv
    simp only [V_seq, V_skip, V_block, V_region, V_cond, brW_false, W_nil, W_cons, effOp2, KN_seq, asB, effOp, effPure, effCall, giveUp, hasAll, pureV, lenV, ofC, strip, lkT, lkH, ISt.app, opI, gO, gB, allB, gval, wrapG, dstOK, setD, lendV, lendP, lent, lentP, idsV, idsL, lkHS, flat, clean, callArgs, callFn, allLent, enumT, Op.operands, Call.operands, List.append_toArray, reduceIte, reduceCtorEq, cond_true, Bool.or_false, Bool.not_true, Nat.reduceLT, Nat.reduceEqDiff, ne_eq, not_false_eq_true, true_and, and_self, implies_true, List.map_cons, List.map_nil, List.nil_append, List.cons_append, List.append_nil, ex_clo, or_self, tab23, hN, isPs_enc, toPs_enc, lk_impl_convex_impl_simple, sp_impl_simple, el, h1]
    refine V_loop (α := Nat) ⟨tabOK, mixed, gok_impl_convex, hok_impl_convex⟩ (by kernel_rfl) (fun i => i ≤ l.length ∧ ∀ j, j < i → 0 < turnAt l j) (fun i => ⟨[(9, .num .i64 i), (8, .num .i64 l.length), (0, .sl 2 (encPs l))], []⟩) (fun i => l.length - i) 0 id ⟨Nat.zero_le _, fun j h => absurd h (Nat.not_lt_zero j)⟩ (by simp [SLe, SLe0, convTm, convHp, conv, conv0, lkT, lkH, clean]) ?_
    rintro i ⟨hi, hj⟩
    simp only [V_seq, V_region, V_cond, W_nil, W_cons, effOp2, KN_seq, asB, effOp, effPure, pureV, binV, strip, lkT, ISt.app, opI, gO, gB, allB, gval, wrapG, dstOK, setD, Op.operands, reduceIte, reduceCtorEq, Nat.reduceLT, Nat.reduceEqDiff, true_and, and_self, implies_true, List.nil_append, List.cons_append, List.append_nil, hN]
    refine brW_some (fun h => ?_) (fun h => ?_)
    · have hi' : i < l.length := by simpa using h
      have n1 : (i + 1) % l.length < l.length := Nat.mod_lt _ (by omega)
      have n2 : (i + 2) % l.length < l.length := Nat.mod_lt _ (by omega)
      have g0 := getD_encPs hi'
      have g1 := getD_encPs n1
      have g2 := getD_encPs n2
      have hw := wr_succ hi' (by rw [maxLen_eq]; omega)
      have hw2 : IntKind.i64.wrap ((i : Int) + 2) = ((i + 2 : Nat) : Int) := by rw [wr (by omega) (by omega)]; omega
      have t1 : ((i + 1 : Nat) : Int).tmod (l.length : Int) = (((i + 1) % l.length : Nat) : Int) := by rw [Int.tmod_eq_emod_of_nonneg (by omega)]; simp
      have t2 : ((i + 2 : Nat) : Int).tmod (l.length : Int) = (((i + 2) % l.length : Nat) : Int) := by rw [Int.tmod_eq_emod_of_nonneg (by omega)]; simp
      have s1 := hm.at i
      have s2 := hm.at ((i + 1) % l.length)
      have s3 := hm.at ((i + 2) % l.length)
      have ht : turn (pAt l i) (pAt l ((i + 1) % l.length)) (pAt l ((i + 2) % l.length)) = turnAt l i := rfl
      cases c1 : decide (turnAt l i ≤ 0) with
      | true =>
        have hno := lefts_no hi' (of_decide_eq_true c1)
        rw [hno] at hv
        simp only [V_seq, V_skip, V_ret, V_block, V_region, V_draw, V_cond, brW_true, drawW, WS_nil, pairsOf, W_nil, W_cons, effOp2, effOp3, WI_nil, WI_cons, KN_seq, KXr_nil, KXr_seq, KXr_block, KXr_back, QE, dynOK, indB, farB, freshB, freshK, freshK1, heapy, asB, effOp, effPure, effCall, giveUp, hasAll, pureV, binV, partV, eltV, loadV, iaddrV, lenV, ofC, strip, lkT, lkH, ISt.app, opI, gO, gB, allB, gval, wrapG, dstOK, setD, mentTm, mentHp, IV.ment, lendV, lendP, lent, lentP, idsV, idsL, lkHS, flat, clean, callArgs, callFn, allLent, Gives, Ideal.Fin, conv, conv0, Op.operands, Call.operands, List.append_toArray, reduceIte, reduceCtorEq, cond_true, cond_false, Bool.or_false, Bool.and_true, Bool.and_eq_true, Bool.not_true, Bool.not_false, Nat.reduceAdd, Nat.reduceLT, Nat.reduceLeDiff, Nat.reduceEqDiff, Nat.reduceBEq, Nat.zero_add, ne_eq, not_false_eq_true, true_and, and_true, and_false, and_self, implies_true, forall_const, List.map_cons, List.map_nil, List.nil_append, List.cons_append, List.append_nil, List.getD_cons_zero, List.getD_cons_succ, List.length_cons, List.length_nil, List.take_succ_cons, List.take_zero, List.take_nil, List.drop_zero, ex_clo, or_self, tab23, tab28, hN, pe, Int.toNat_natCast, lk_impl_convex_impl_turn, sp_impl_turn, el, g0, g1, g2, hw, hw2, t1, t2, s1, s2, s3, ht, c1, hv]
        repeat refine And.intro (by first | omega | (simp; done) | (simp; omega)) ?_
        try omega
      | false =>
        have hst := lt_step (P := fun j => 0 < turnAt l j) hj (show 0 < turnAt l i by have := of_decide_eq_false c1; omega)
        simp only [V_seq, V_skip, V_block, V_region, V_draw, V_cond, brW_false, drawW, WS_nil, pairsOf, W_nil, W_cons, effOp2, effOp3, WI_nil, WI_cons, KN_seq, KN_block, KN_back, dynOK, indB, farB, freshB, freshK, freshK1, heapy, asB, effOp, effPure, effCall, giveUp, hasAll, pureV, binV, partV, eltV, loadV, iaddrV, lenV, ofC, strip, lkT, lkH, ISt.app, opI, gO, gB, allB, gval, wrapG, dstOK, setD, mentTm, mentHp, IV.ment, lendV, lendP, lent, lentP, idsV, idsL, lkHS, flat, clean, callArgs, callFn, allLent, Op.operands, Call.operands, List.append_toArray, reduceIte, reduceCtorEq, cond_true, cond_false, Bool.or_false, Bool.and_true, Bool.and_eq_true, Bool.not_true, Bool.not_false, Nat.reduceAdd, Nat.reduceLT, Nat.reduceLeDiff, Nat.reduceEqDiff, Nat.reduceBEq, Nat.zero_add, ne_eq, not_false_eq_true, true_and, and_true, and_false, and_self, implies_true, forall_const, List.map_cons, List.map_nil, List.nil_append, List.cons_append, List.append_nil, List.getD_cons_zero, List.getD_cons_succ, List.length_cons, List.length_nil, List.take_succ_cons, List.take_zero, List.take_nil, List.drop_zero, ex_clo, or_self, tab23, tab28, hN, pe, Int.toNat_natCast, lk_impl_convex_impl_turn, sp_impl_turn, el, g0, g1, g2, hw, hw2, t1, t2, s1, s2, s3, ht, c1]
        repeat refine And.intro (by first | omega | (simp; done) | (simp; omega)) ?_
        exact ⟨i + 1, id, ⟨by omega, hst⟩, by simp only []; omega, by simp [SLe, SLe0, convTm, convHp, conv, conv0, lkT, lkH, clean]⟩
    · have hie : i = l.length := by simp at h; omega
      subst hie
      rw [lefts_iff.2 hj] at hv
      simp only [V_seq, V_ret, V_exit, V_region, W_nil, W_cons, effOp2, KN_seq, KXr_nil, KXe_nil, KXe_seq, KXe_block, KXe_back, QE, effOp, effPure, pureV, ofC, strip, lkT, lkH, ISt.app, opI, gO, gB, allB, gval, wrapG, dstOK, setD, clean, Gives, Ideal.Fin, conv, conv0, Op.operands, reduceIte, reduceCtorEq, Nat.reduceLT, Nat.reduceEqDiff, and_self, implies_true, List.nil_append, List.cons_append, List.append_nil, hN, hv]
def sp_impl_convex : PSpec := ⟨fun xs => match xs with | [.sl 2 les] => isPs les | _ => False, fun xs => match xs with | [.sl _ les] => (fun (l : List Pt) => .bool (cvxB l)) (toPs les) | _ => .junk, false⟩
theorem gk_impl_convex : ∀ args, sp_impl_convex.pre args → ICall Try.prog 110 args (sp_impl_convex.val args) := by
  intro args h
  unfold sp_impl_convex at h ⊢; simp only at h ⊢; split at h
  · have h0 := h
    obtain ⟨l0, rfl⟩ := isP_ex h0
    simp only [toPs_enc] at *
    exact c_impl_convex _ 
  · exact h.elim
theorem en_impl_convex : Enters Try.prog 110 := enters_of Try.func110 (by kernel_rfl) rfl


theorem least_bd (l : List Pt) (q : Pt) : ∀ i, -1 ≤ leastN l q i ∧ leastN l q i ≤ 1
  | 0 => by simp [leastN]
  | i + 1 => by
    have h1 := least_bd l q i
    have h2 := sgn_bd (turn (edP l i).1 (edP l i).2 q)
    rw [leastN]; omega
/-- Where a point is of a convex polygon. -/
def lcB (l : List Pt) (q : Pt) : Int := bif cvxB l && okP q then leastN l q l.length else 2

theorem latt_bd {l : List Pt} (hm : SmL l) : ∀ i : Nat, 0 ≤ lattN l i ∧ lattN l i ≤ 200000 * (i : Int)
  | 0 => by simp [lattN]
  | i + 1 => by
    have h1 := latt_bd hm i
    have s1 := hm.at i
    have s2 := hm.at ((i + 1) % l.length)
    have h2 := gcd_bd (A := 200000) (sm_sub s2.1 s1.1) (sm_sub s2.2 s1.2)
    have e : lattN l (i + 1) = lattN l i + ((Int.gcd ((pAt l ((i + 1) % l.length)).1 - (pAt l i).1) ((pAt l ((i + 1) % l.length)).2 - (pAt l i).2) : Nat) : Int) := rfl
    rw [e]; omega


/-- Twice the area of a simple polygon. -/
def dareaP (l : List Pt) : Int := bif simpB l then areaP l else 0
def g_impl_DoubleArea : List (Nat × PSpec) := [(36, sp_impl_simple), (48, sp_impl_area)]
theorem gok_impl_DoubleArea : GOK Try.prog g_impl_DoubleArea := gok_cons gk_impl_simple en_impl_simple (gok_cons gk_impl_area en_impl_area (gok0))
theorem lk_impl_DoubleArea_impl_simple : lkG g_impl_DoubleArea 36 = sp_impl_simple := rfl
theorem lk_impl_DoubleArea_impl_area : lkG g_impl_DoubleArea 48 = sp_impl_area := rfl
def h_impl_DoubleArea : List (Nat × HSpec) := []
theorem hok_impl_DoubleArea : HOK Try.prog h_impl_DoubleArea := hok0
theorem c_impl_DoubleArea (l : List Pt)  : ICall Try.prog 14 [.sl 2 (encPs l)] (.num .i64 (dareaP l)) := by
  refine icall_V (G := g_impl_DoubleArea) (H := []) [] tabOK mixed gok_impl_DoubleArea hok_impl_DoubleArea Try.func14 rfl Try.ntmps14 Try.results14 rfl (by kernel_rfl) fun F hN hlen => ?_
  have hv : dareaP l = bif simpB l then areaP l else 0 := rfl
  cases h1 : simpB l with
  | false =>
    rw [h1, cond_false] at hv
    simp only [V_seq, V_ret, V_region, V_cond, brW_true, W_nil, W_cons, effOp2, KN_seq, KXr_nil, KXr_seq, QE, asB, effOp, effPure, effCall, giveUp, hasAll, pureV, ofC, strip, lkT, lkH, ISt.app, opI, gO, gB, allB, gval, wrapG, dstOK, setD, lendV, lendP, lent, lentP, idsV, idsL, lkHS, flat, clean, callArgs, callFn, allLent, enumT, Gives, Ideal.Fin, conv, conv0, Op.operands, reduceIte, reduceCtorEq, cond_true, Bool.or_false, Bool.not_true, Bool.not_false, Nat.reduceLT, Nat.reduceEqDiff, and_self, implies_true, List.map_cons, List.map_nil, List.nil_append, List.cons_append, List.append_nil, ex_clo, or_self, hN, isPs_enc, toPs_enc, lk_impl_DoubleArea_impl_simple, sp_impl_simple, h1, hv]
  | true =>
    obtain ⟨hk, h3, h20, hnd⟩ := ring_facts (simp_ring h1)
    have hm := okPs_sm hk
    have hz : l.length ≤ 1000000 := by omega
    rw [h1, cond_true] at hv
    simp only [V_seq, V_skip, V_ret, V_region, V_cond, brW_false, W_nil, W_cons, effOp2, KN_seq, KXr_nil, QE, asB, effOp, effPure, effCall, giveUp, hasAll, pureV, ofC, strip, lkT, lkH, ISt.app, opI, gO, gB, allB, gval, wrapG, dstOK, setD, lendV, lendP, lent, lentP, idsV, idsL, lkHS, flat, clean, callArgs, callFn, allLent, enumT, Gives, Ideal.Fin, conv, conv0, Op.operands, reduceIte, reduceCtorEq, cond_true, Bool.or_false, Bool.not_true, Nat.reduceLT, Nat.reduceEqDiff, and_self, implies_true, List.map_cons, List.map_nil, List.nil_append, List.cons_append, List.append_nil, ex_clo, or_self, hN, isPs_enc, toPs_enc, lk_impl_DoubleArea_impl_simple, lk_impl_DoubleArea_impl_area, sp_impl_simple, sp_impl_area, h1, hm, hz, hv]
def sp_impl_DoubleArea : PSpec := ⟨fun xs => match xs with | [.sl 2 les] => isPs les | _ => False, fun xs => match xs with | [.sl _ les] => (fun (l : List Pt) => .num .i64 (dareaP l)) (toPs les) | _ => .junk, false⟩
theorem gk_impl_DoubleArea : ∀ args, sp_impl_DoubleArea.pre args → ICall Try.prog 14 args (sp_impl_DoubleArea.val args) := by
  intro args h
  unfold sp_impl_DoubleArea at h ⊢; simp only at h ⊢; split at h
  · have h0 := h
    obtain ⟨l0, rfl⟩ := isP_ex h0
    simp only [toPs_enc] at *
    exact c_impl_DoubleArea _ 
  · exact h.elim
theorem en_impl_DoubleArea : Enters Try.prog 14 := enters_of Try.func14 (by kernel_rfl) rfl

def g_spec_DoubleArea : List (Nat × PSpec) := [(37, sp_spec_isSimple), (49, sp_spec_doubleArea)]
theorem gok_spec_DoubleArea : GOK Try.prog g_spec_DoubleArea := gok_cons gk_spec_isSimple en_spec_isSimple (gok_cons gk_spec_doubleArea en_spec_doubleArea (gok0))
theorem lk_spec_DoubleArea_spec_isSimple : lkG g_spec_DoubleArea 37 = sp_spec_isSimple := rfl
theorem lk_spec_DoubleArea_spec_doubleArea : lkG g_spec_DoubleArea 49 = sp_spec_doubleArea := rfl
def h_spec_DoubleArea : List (Nat × HSpec) := []
theorem hok_spec_DoubleArea : HOK Try.prog h_spec_DoubleArea := hok0
theorem c_spec_DoubleArea (l : List Pt)  : ICall Try.prog 15 [.sl 2 (encPs l)] (.num .i64 (dareaP l)) := by
  refine icall_V (G := g_spec_DoubleArea) (H := []) [] tabOK mixed gok_spec_DoubleArea hok_spec_DoubleArea Try.func15 rfl Try.ntmps15 Try.results15 rfl (by kernel_rfl) fun F hN hlen => ?_
  have hv : dareaP l = bif simpB l then areaP l else 0 := rfl
  cases h1 : simpB l with
  | false =>
    rw [h1, cond_false] at hv
    simp only [V_seq, V_ret, V_region, V_cond, brW_true, W_nil, W_cons, effOp2, KN_seq, KXr_nil, KXr_seq, QE, asB, effOp, effPure, effCall, giveUp, hasAll, pureV, ofC, strip, lkT, lkH, ISt.app, opI, gO, gB, allB, gval, wrapG, dstOK, setD, lendV, lendP, lent, lentP, idsV, idsL, lkHS, flat, clean, callArgs, callFn, allLent, enumT, Gives, Ideal.Fin, conv, conv0, Op.operands, reduceIte, reduceCtorEq, cond_true, Bool.or_false, Bool.not_true, Bool.not_false, Nat.reduceLT, Nat.reduceEqDiff, and_self, implies_true, List.map_cons, List.map_nil, List.nil_append, List.cons_append, List.append_nil, ex_clo, or_self, hN, isPs_enc, toPs_enc, lk_spec_DoubleArea_spec_isSimple, sp_spec_isSimple, h1, hv]
  | true =>
    obtain ⟨hk, h3, h20, hnd⟩ := ring_facts (simp_ring h1)
    have hm := okPs_sm hk
    have hz : l.length ≤ 1000000 := by omega
    rw [h1, cond_true] at hv
    simp only [V_seq, V_skip, V_ret, V_region, V_cond, brW_false, W_nil, W_cons, effOp2, KN_seq, KXr_nil, QE, asB, effOp, effPure, effCall, giveUp, hasAll, pureV, ofC, strip, lkT, lkH, ISt.app, opI, gO, gB, allB, gval, wrapG, dstOK, setD, lendV, lendP, lent, lentP, idsV, idsL, lkHS, flat, clean, callArgs, callFn, allLent, enumT, Gives, Ideal.Fin, conv, conv0, Op.operands, reduceIte, reduceCtorEq, cond_true, Bool.or_false, Bool.not_true, Nat.reduceLT, Nat.reduceEqDiff, and_self, implies_true, List.map_cons, List.map_nil, List.nil_append, List.cons_append, List.append_nil, ex_clo, or_self, hN, isPs_enc, toPs_enc, lk_spec_DoubleArea_spec_isSimple, lk_spec_DoubleArea_spec_doubleArea, sp_spec_isSimple, sp_spec_doubleArea, h1, hm, hz, hv]
def sp_spec_DoubleArea : PSpec := ⟨fun xs => match xs with | [.sl 2 les] => isPs les | _ => False, fun xs => match xs with | [.sl _ les] => (fun (l : List Pt) => .num .i64 (dareaP l)) (toPs les) | _ => .junk, false⟩
theorem gk_spec_DoubleArea : ∀ args, sp_spec_DoubleArea.pre args → ICall Try.prog 15 args (sp_spec_DoubleArea.val args) := by
  intro args h
  unfold sp_spec_DoubleArea at h ⊢; simp only at h ⊢; split at h
  · have h0 := h
    obtain ⟨l0, rfl⟩ := isP_ex h0
    simp only [toPs_enc] at *
    exact c_spec_DoubleArea _ 
  · exact h.elim
theorem en_spec_DoubleArea : Enters Try.prog 15 := enters_of Try.func15 (by kernel_rfl) rfl

/-- The count of lattice points on the boundary. -/
def bcP (l : List Pt) : Int := bif simpB l then lattP l else -1
/-- The count of lattice points inside. -/
def insideP (l : List Pt) : Int := (absI (areaP l) - lattP l + 2).tdiv 2
def icP (l : List Pt) : Int := bif simpB l then insideP l else -1

end Go.Proofs.Ytlcndghaendieaa
