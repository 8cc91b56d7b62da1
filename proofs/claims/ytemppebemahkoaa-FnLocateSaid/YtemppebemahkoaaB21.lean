/- Contracts: where points lie of polygons; convex polygons; lattice points. -/
import Derived.Test.YtemppebemahkoaaB20
import Derived.Test.YtemppebemahkoaaBG
set_option linter.unusedVariables false
set_option linter.unusedSimpArgs false
set_option maxRecDepth 100000
namespace Go.Proofs.Ytemppebemahkoaa
open Go Go.Ideal Go.Pl Go.Sort

/-- Inside or outside, as a number. -/
def sgB (b : Bool) : Int := if b then 1 else -1
theorem sgB_neg (b : Bool) : IntKind.i64.wrap (-(sgB b)) = sgB (!b) := by cases b <;> decide
theorem loc_step {q : Pt} {E : List Qd} {i : Nat} (hi : i < E.length) (b : Bool) : locR q (E.drop i) b = if onS (qAt E i) q then 0 else locR q (E.drop (i + 1)) (b ^^ rayP (qAt E i) q) := by
  have : E.drop i = qAt E i :: E.drop (i + 1) := by
    rw [List.drop_eq_getElem_cons hi]; simp [qAt, List.getD, hi]
  rw [this]; rfl
theorem ray_of {e f : Qd} (q : Pt) (hf : f = if e.2.2 < e.1.2 then (e.2, e.1) else e) : rayP e q = (decide (f.1.2 ≤ q.2) && decide (q.2 < f.2.2) && decide (0 < turn f.1 f.2 q)) := by
  subst hf; rfl
theorem sq_swap {e : Qd} (h : SmQ e) : SmQ (e.2, e.1) := ⟨h.2, h.1⟩
theorem loc_end {q : Pt} {E : List Qd} (b : Bool) : locR q (E.drop E.length) b = sgB b := by rw [List.drop_length]; rfl

def g_impl_locate : List (Nat × PSpec) := [(184, sp_impl_edges_v), (123, sp_impl_Segment_has), (185, sp_impl_turn)]
theorem gok_impl_locate : GOK Try.prog g_impl_locate := gok_consO gk_impl_edges_v en_impl_edges_v (gok_cons gk_impl_Segment_has en_impl_Segment_has (gok_cons gk_impl_turn en_impl_turn (gok0)))
theorem lk_impl_locate_impl_edges_v : lkG g_impl_locate 184 = sp_impl_edges_v := rfl
theorem lk_impl_locate_impl_Segment_has : lkG g_impl_locate 123 = sp_impl_Segment_has := rfl
theorem lk_impl_locate_impl_turn : lkG g_impl_locate 185 = sp_impl_turn := rfl
def h_impl_locate : List (Nat × HSpec) := []
theorem hok_impl_locate : HOK Try.prog h_impl_locate := hok0
theorem c_impl_locate (l : List Pt) (q : Pt) (hm : SmL l) (hq : Sm q) (hsz : l.length ≤ 1000000) : ICall Try.prog 118 [.sl 2 (encPs l), encP q] (.num .i64 (locR q (edgesP l) false)) := by
  refine icall_V (G := g_impl_locate) (H := []) [(7, [(0, 4), (1, 4), (2, 4), (3, 4), (0, 5), (1, 5), (2, 5), (3, 5), (4, 5), (2, 6), (3, 6)])] tabOK mixed gok_impl_locate hok_impl_locate Try.func118 rfl Try.ntmps118 Try.results118 rfl (by kernel_rfl) fun F hN hlen => ?_
  have el := len_encPs l
  have ee : (edgesP l).length = l.length := by rw [edgesP, edgesN_len]
  have eq : (encQs (edgesP l)).length = l.length := by rw [len_encQs, ee]
  simp only [V_seq, V_block, V_region, W_nil, W_cons, effOp2, KN_seq, effOp, effPure, effNew, effBox, effCall, giveUp, hasAll, skipE, pureV, lenV, solid, IV.cells, ofC, strip, lkT, lkH, ISt.app, opI, gO, gB, allB, gval, wrapG, dstOK, setD, mentTm, mentHp, IV.ment, IV.mentL, oneI, lendV, lendP, lent, lentP, idsV, idsL, lkHS, flat, clean, callArgs, callFn, allLent, enumT, Op.operands, Call.operands, List.append_toArray, reduceIte, reduceCtorEq, cond_true, Bool.or_false, Bool.or_true, Bool.and_true, Bool.not_true, Nat.reduceLT, Nat.reduceEqDiff, Nat.zero_add, ne_eq, not_false_eq_true, true_and, and_self, implies_true, List.map_cons, List.map_nil, List.nil_append, List.cons_append, List.append_nil, List.all_cons, List.all_nil, ex_clo, or_self, tab73, hN, encP, isPs_enc, toPs_enc, lk_impl_locate_impl_edges_v, sp_impl_edges_v, eq, hsz]
  refine V_loop (α := Nat × Bool) ⟨tabOK, mixed, gok_impl_locate, hok_impl_locate⟩ (by kernel_rfl) (fun a => a.1 ≤ l.length ∧ locR q (edgesP l) false = locR q ((edgesP l).drop a.1) a.2) (fun a => ⟨[(13, .num .i64 a.1), (12, .num .i64 l.length), (11, .sl 4 (encQs (edgesP l))), (5, .num .i64 (sgB a.2)), (3, .ptr 3 0)], [(3, some (.box 30 [.num .i64 q.1, .num .i64 q.2]))]⟩) (fun a => l.length - a.1) (0, false) id ⟨Nat.zero_le _, rfl⟩ (by simp [SLe, SLe0, convTm, convHp, convB, conv, conv0, convL, lkT, lkH, clean, sgB]) ?_
  rintro ⟨i, b⟩ ⟨hi, hj⟩
  simp only [] at hi hj
  simp only [V_seq, V_region, V_cond, W_nil, W_cons, effOp2, KN_seq, asB, effOp, effPure, pureV, binV, strip, lkT, ISt.app, opI, gO, gB, allB, gval, wrapG, dstOK, setD, Op.operands, reduceIte, Nat.reduceLT, Nat.reduceEqDiff, true_and, and_self, implies_true, List.nil_append, List.cons_append, hN]
  refine brW_some (fun h => ?_) (fun h => ?_)
  · have hi' : i < l.length := by simpa using h
    have g0 := getD_encQs (l := edgesP l) (i := i) (by omega)
    have hst := loc_step (q := q) (E := edgesP l) (i := i) (by omega) b
    rw [edgesP_at hi'] at g0 hst
    have hw := wr_succ hi' (by rw [maxLen_eq]; omega)
    have s0 := hm.edge i
    obtain ⟨e, he⟩ : ∃ e, edgeP l i = e := ⟨_, rfl⟩
    rw [he] at g0 hst s0
    cases c0 : onS e q with
    | true =>
      rw [if_pos c0] at hst
      simp only [V_seq, V_skip, V_ret, V_block, V_region, V_cond, brW_true, W_nil, W_cons, effOp2, KN_seq, KXr_nil, KXr_seq, KXr_block, KXr_back, QE, asB, effOp, effPure, effNew, effAlloc, effStore, effCall, giveUp, hasAll, skipE, pureV, storeV, partV, eltV, loadV, iaddrV, over, solid, IV.cells, ofC, strip, lkT, lkH, ISt.app, opI, gO, gB, allB, gval, wrapG, dstOK, setD, mentTm, mentHp, IV.ment, IV.mentL, oneI, lendV, lendP, lent, lentP, idsV, idsL, lkHS, flat, clean, callArgs, callFn, allLent, Gives, Ideal.Fin, conv, conv0, Op.operands, reduceIte, reduceCtorEq, cond_true, Bool.or_false, Bool.and_true, Bool.not_true, Nat.reduceAdd, Nat.reduceLT, Nat.reduceLeDiff, Nat.reduceEqDiff, Nat.reduceBEq, Nat.zero_add, ne_eq, not_false_eq_true, true_and, and_true, and_false, and_self, implies_true, forall_const, List.map_cons, List.map_nil, List.nil_append, List.cons_append, List.append_nil, List.all_cons, List.all_nil, List.getD_cons_zero, List.length_cons, List.length_nil, List.take_succ_cons, List.take_zero, List.take_nil, List.drop_succ_cons, List.drop_zero, List.drop_nil, ex_clo, or_self, tab30, tab68, tab73, hN, pe, Int.toNat_natCast, lk_impl_locate_impl_Segment_has, sp_impl_Segment_has, eq, g0, s0, hq, c0, hj, hst]
      try omega
    | false =>
      rw [if_neg (by rw [c0]; decide)] at hst
      have go : ∀ b2, b2 = (b ^^ rayP e q) → locR q (edgesP l) false = locR q ((edgesP l).drop (i + 1)) b2 := fun b2 hb => by rw [hj, hst, hb]
      cases d0 : decide (e.2.2 < e.1.2) with
      | true =>
        have hr := ray_of (e := e) (f := (e.2, e.1)) q (by rw [if_pos (of_decide_eq_true d0)])
        simp only [] at hr
        have s1 := s0.2
        have s2 := s0.1
        cases c1 : decide (e.2.2 ≤ q.2) with
        | false =>
          rw [c1, Bool.false_and, Bool.false_and] at hr
          simp only [V_seq, V_skip, V_block, V_region, V_draw, V_cond, brW_true, brW_false, drawW, WS_nil, pairsOf, W_nil, W_cons, effOp2, effOp3, WI_nil, WI_cons, KN_seq, KN_block, KN_back, dynOK, indB, farB, seeB, see, isStore, freshB, freshK, freshK1, ownId, heapy, asB, effOp, effPure, effPick, effNew, effAlloc, effStore, effCall, giveUp, hasAll, skipE, pureV, pickV, storeV, binV, partV, eltV, loadV, faddrV, iaddrV, over, solid, IV.cells, ofC, strip, lkT, lkH, ISt.app, opI, gO, gB, allB, gval, wrapG, dstOK, setD, mentTm, mentHp, IV.ment, IV.mentL, oneI, lendV, lendP, lent, lentP, idsV, idsL, lkHS, flat, clean, callArgs, callFn, allLent, IBlk.shape, Op.operands, reduceIte, reduceCtorEq, cond_true, cond_false, Bool.or_false, Bool.or_true, Bool.and_true, Bool.and_false, Bool.and_eq_true, Bool.not_true, Bool.not_false, Nat.reduceAdd, Nat.reduceMul, Nat.reduceLT, Nat.reduceLeDiff, Nat.reduceEqDiff, Nat.reduceBEq, Nat.add_zero, Nat.zero_add, ne_eq, not_false_eq_true, beq_self_eq_true, true_and, and_true, and_false, and_self, false_implies, implies_true, forall_const, List.map_cons, List.map_nil, List.nil_append, List.cons_append, List.append_nil, List.all_cons, List.all_nil, Option.map_some, Option.bind_some, List.getElem?_cons_zero, List.getElem?_cons_succ, List.getD_cons_zero, List.getD_cons_succ, List.length_cons, List.length_nil, List.take_succ_cons, List.take_zero, List.take_nil, List.drop_succ_cons, List.drop_zero, List.drop_nil, ex_clo, bft, or_self, Bool.false_eq_true, tab3, tab30, tab68, tab73, hN, pe, Int.toNat_natCast, lk_impl_locate_impl_Segment_has, lk_impl_locate_impl_turn, sp_impl_Segment_has, sp_impl_turn, eq, g0, s0, s1, s2, hq, c0, d0, c1, hw]
          repeat refine And.intro (by first | omega | (simp; done) | (simp; omega)) ?_
          exact ⟨(i + 1, b), id, ⟨by simp only []; omega, go b (by rw [hr, Bool.xor_false])⟩, by simp only []; omega, by simp [SLe, SLe0, convTm, convHp, convB, conv, conv0, convL, lkT, lkH, clean]⟩
        | true =>
          cases c2 : decide (q.2 < e.1.2) with
          | false =>
            rw [c2, Bool.and_false, Bool.false_and] at hr
            simp only [V_seq, V_skip, V_block, V_region, V_draw, V_cond, brW_true, brW_false, drawW, WS_nil, pairsOf, W_nil, W_cons, effOp2, effOp3, WI_nil, WI_cons, KN_seq, KN_block, KN_back, dynOK, indB, farB, seeB, see, isStore, freshB, freshK, freshK1, ownId, heapy, asB, effOp, effPure, effPick, effNew, effAlloc, effStore, effCall, giveUp, hasAll, skipE, pureV, pickV, storeV, binV, partV, eltV, loadV, faddrV, iaddrV, over, solid, IV.cells, ofC, strip, lkT, lkH, ISt.app, opI, gO, gB, allB, gval, wrapG, dstOK, setD, mentTm, mentHp, IV.ment, IV.mentL, oneI, lendV, lendP, lent, lentP, idsV, idsL, lkHS, flat, clean, callArgs, callFn, allLent, IBlk.shape, Op.operands, reduceIte, reduceCtorEq, cond_true, cond_false, Bool.or_false, Bool.or_true, Bool.and_true, Bool.and_false, Bool.and_eq_true, Bool.not_true, Bool.not_false, Nat.reduceAdd, Nat.reduceMul, Nat.reduceLT, Nat.reduceLeDiff, Nat.reduceEqDiff, Nat.reduceBEq, Nat.add_zero, Nat.zero_add, ne_eq, not_false_eq_true, beq_self_eq_true, true_and, and_true, and_false, and_self, false_implies, implies_true, forall_const, List.map_cons, List.map_nil, List.nil_append, List.cons_append, List.append_nil, List.all_cons, List.all_nil, Option.map_some, Option.bind_some, List.getElem?_cons_zero, List.getElem?_cons_succ, List.getD_cons_zero, List.getD_cons_succ, List.length_cons, List.length_nil, List.take_succ_cons, List.take_zero, List.take_nil, List.drop_succ_cons, List.drop_zero, List.drop_nil, ex_clo, bft, or_self, Bool.true_eq_false, Bool.false_eq_true, tab3, tab30, tab68, tab73, hN, pe, Int.toNat_natCast, lk_impl_locate_impl_Segment_has, lk_impl_locate_impl_turn, sp_impl_Segment_has, sp_impl_turn, eq, g0, s0, s1, s2, hq, c0, d0, c1, c2, hw]
            repeat refine And.intro (by first | omega | (simp; done) | (simp; omega)) ?_
            exact ⟨(i + 1, b), id, ⟨by simp only []; omega, go b (by rw [hr, Bool.xor_false])⟩, by simp only []; omega, by simp [SLe, SLe0, convTm, convHp, convB, conv, conv0, convL, lkT, lkH, clean]⟩
          | true =>
            cases c3 : decide (0 < turn e.2 e.1 q) with
            | false =>
              rw [c3, Bool.and_false] at hr
              simp only [V_seq, V_skip, V_block, V_region, V_draw, V_cond, brW_true, brW_false, drawW, WS_nil, pairsOf, W_nil, W_cons, effOp2, effOp3, WI_nil, WI_cons, KN_seq, KN_block, KN_back, dynOK, indB, farB, seeB, see, isStore, freshB, freshK, freshK1, ownId, heapy, asB, effOp, effPure, effPick, effNew, effAlloc, effStore, effCall, giveUp, hasAll, skipE, pureV, pickV, storeV, binV, partV, eltV, loadV, faddrV, iaddrV, over, solid, IV.cells, ofC, strip, lkT, lkH, ISt.app, opI, gO, gB, allB, gval, wrapG, dstOK, setD, mentTm, mentHp, IV.ment, IV.mentL, oneI, lendV, lendP, lent, lentP, idsV, idsL, lkHS, flat, clean, callArgs, callFn, allLent, IBlk.shape, Op.operands, reduceIte, reduceCtorEq, cond_true, cond_false, Bool.or_false, Bool.or_true, Bool.and_true, Bool.and_false, Bool.and_eq_true, Bool.not_true, Bool.not_false, Nat.reduceAdd, Nat.reduceMul, Nat.reduceLT, Nat.reduceLeDiff, Nat.reduceEqDiff, Nat.reduceBEq, Nat.add_zero, Nat.zero_add, ne_eq, not_false_eq_true, beq_self_eq_true, true_and, and_true, and_false, and_self, implies_true, forall_const, List.map_cons, List.map_nil, List.nil_append, List.cons_append, List.append_nil, List.all_cons, List.all_nil, Option.map_some, Option.bind_some, List.getElem?_cons_zero, List.getElem?_cons_succ, List.getD_cons_zero, List.getD_cons_succ, List.length_cons, List.length_nil, List.take_succ_cons, List.take_zero, List.take_nil, List.drop_succ_cons, List.drop_zero, List.drop_nil, ex_clo, or_self, Bool.true_eq_false, tab3, tab30, tab68, tab73, hN, pe, Int.toNat_natCast, lk_impl_locate_impl_Segment_has, lk_impl_locate_impl_turn, sp_impl_Segment_has, sp_impl_turn, eq, g0, s0, s1, s2, hq, c0, d0, c1, c2, c3, hw]
              repeat refine And.intro (by first | omega | (simp; done) | (simp; omega)) ?_
              exact ⟨(i + 1, b), id, ⟨by simp only []; omega, go b (by rw [hr, Bool.xor_false])⟩, by simp only []; omega, by simp [SLe, SLe0, convTm, convHp, convB, conv, conv0, convL, lkT, lkH, clean]⟩
            | true =>
              rw [c1, c2, c3] at hr
              simp only [V_seq, V_skip, V_block, V_region, V_draw, V_cond, brW_true, brW_false, drawW, WS_nil, pairsOf, W_nil, W_cons, effOp2, effOp3, WI_nil, WI_cons, KN_seq, KN_block, KN_back, dynOK, indB, farB, seeB, see, isStore, freshB, freshK, freshK1, ownId, heapy, asB, effOp, effPure, effPick, effNew, effAlloc, effStore, effCall, giveUp, hasAll, skipE, pureV, pickV, storeV, binV, partV, eltV, loadV, faddrV, iaddrV, over, solid, IV.cells, ofC, strip, lkT, lkH, ISt.app, opI, gO, gB, allB, gval, wrapG, dstOK, setD, mentTm, mentHp, IV.ment, IV.mentL, oneI, lendV, lendP, lent, lentP, idsV, idsL, lkHS, flat, clean, callArgs, callFn, allLent, IBlk.shape, Op.operands, reduceIte, reduceCtorEq, cond_true, cond_false, Bool.or_false, Bool.or_true, Bool.and_true, Bool.and_false, Bool.and_eq_true, Bool.not_true, Bool.not_false, Nat.reduceAdd, Nat.reduceMul, Nat.reduceLT, Nat.reduceLeDiff, Nat.reduceEqDiff, Nat.reduceBEq, Nat.add_zero, Nat.zero_add, ne_eq, not_false_eq_true, beq_self_eq_true, true_and, and_true, and_false, and_self, implies_true, forall_const, List.map_cons, List.map_nil, List.nil_append, List.cons_append, List.append_nil, List.all_cons, List.all_nil, Option.map_some, Option.bind_some, List.getElem?_cons_zero, List.getElem?_cons_succ, List.getD_cons_zero, List.getD_cons_succ, List.length_cons, List.length_nil, List.take_succ_cons, List.take_zero, List.take_nil, List.drop_succ_cons, List.drop_zero, List.drop_nil, ex_clo, or_self, Bool.true_eq_false, tab3, tab30, tab68, tab73, hN, pe, Int.toNat_natCast, lk_impl_locate_impl_Segment_has, lk_impl_locate_impl_turn, sp_impl_Segment_has, sp_impl_turn, eq, g0, s0, s1, s2, hq, c0, d0, c1, c2, c3, hw, sgB_neg]
              repeat refine And.intro (by first | omega | (simp; done) | (simp; omega)) ?_
              exact ⟨(i + 1, !b), id, ⟨by simp only []; omega, go (!b) (by rw [hr]; simp)⟩, by simp only []; omega, by simp [SLe, SLe0, convTm, convHp, convB, conv, conv0, convL, lkT, lkH, clean]⟩
      | false =>
        have hr := ray_of (e := e) (f := e) q (by rw [if_neg (of_decide_eq_false d0)])
        have s1 := s0.1
        have s2 := s0.2
        cases c1 : decide (e.1.2 ≤ q.2) with
        | false =>
          rw [c1, Bool.false_and, Bool.false_and] at hr
          simp only [V_seq, V_skip, V_block, V_region, V_draw, V_cond, brW_false, drawW, WS_nil, pairsOf, W_nil, W_cons, effOp2, effOp3, WI_nil, WI_cons, KN_seq, KN_block, KN_back, dynOK, indB, farB, seeB, see, isStore, freshB, freshK, freshK1, ownId, heapy, asB, effOp, effPure, effPick, effNew, effAlloc, effStore, effCall, giveUp, hasAll, skipE, pureV, pickV, storeV, binV, partV, eltV, loadV, faddrV, iaddrV, over, solid, IV.cells, ofC, strip, lkT, lkH, ISt.app, opI, gO, gB, allB, gval, wrapG, dstOK, setD, mentTm, mentHp, IV.ment, IV.mentL, oneI, lendV, lendP, lent, lentP, idsV, idsL, lkHS, flat, clean, callArgs, callFn, allLent, IBlk.shape, Op.operands, reduceIte, reduceCtorEq, cond_true, cond_false, Bool.or_false, Bool.or_true, Bool.and_true, Bool.and_false, Bool.and_eq_true, Bool.not_true, Bool.not_false, Nat.reduceAdd, Nat.reduceMul, Nat.reduceLT, Nat.reduceLeDiff, Nat.reduceEqDiff, Nat.reduceBEq, Nat.add_zero, Nat.zero_add, ne_eq, not_false_eq_true, beq_self_eq_true, true_and, and_true, and_false, and_self, false_implies, implies_true, forall_const, List.map_cons, List.map_nil, List.nil_append, List.cons_append, List.append_nil, List.all_cons, List.all_nil, Option.map_some, Option.bind_some, List.getElem?_cons_zero, List.getElem?_cons_succ, List.getD_cons_zero, List.getD_cons_succ, List.length_cons, List.length_nil, List.take_succ_cons, List.take_zero, List.take_nil, List.drop_succ_cons, List.drop_zero, List.drop_nil, ex_clo, bft, or_self, Bool.false_eq_true, tab3, tab30, tab68, tab73, hN, pe, Int.toNat_natCast, lk_impl_locate_impl_Segment_has, lk_impl_locate_impl_turn, sp_impl_Segment_has, sp_impl_turn, eq, g0, s0, s1, s2, hq, c0, d0, c1, hw]
          repeat refine And.intro (by first | omega | (simp; done) | (simp; omega)) ?_
          exact ⟨(i + 1, b), id, ⟨by simp only []; omega, go b (by rw [hr, Bool.xor_false])⟩, by simp only []; omega, by simp [SLe, SLe0, convTm, convHp, convB, conv, conv0, convL, lkT, lkH, clean]⟩
        | true =>
          cases c2 : decide (q.2 < e.2.2) with
          | false =>
            rw [c2, Bool.and_false, Bool.false_and] at hr
            simp only [V_seq, V_skip, V_block, V_region, V_draw, V_cond, brW_false, drawW, WS_nil, pairsOf, W_nil, W_cons, effOp2, effOp3, WI_nil, WI_cons, KN_seq, KN_block, KN_back, dynOK, indB, farB, seeB, see, isStore, freshB, freshK, freshK1, ownId, heapy, asB, effOp, effPure, effPick, effNew, effAlloc, effStore, effCall, giveUp, hasAll, skipE, pureV, pickV, storeV, binV, partV, eltV, loadV, faddrV, iaddrV, over, solid, IV.cells, ofC, strip, lkT, lkH, ISt.app, opI, gO, gB, allB, gval, wrapG, dstOK, setD, mentTm, mentHp, IV.ment, IV.mentL, oneI, lendV, lendP, lent, lentP, idsV, idsL, lkHS, flat, clean, callArgs, callFn, allLent, IBlk.shape, Op.operands, reduceIte, reduceCtorEq, cond_true, cond_false, Bool.or_false, Bool.or_true, Bool.and_true, Bool.and_false, Bool.and_eq_true, Bool.not_true, Bool.not_false, Nat.reduceAdd, Nat.reduceMul, Nat.reduceLT, Nat.reduceLeDiff, Nat.reduceEqDiff, Nat.reduceBEq, Nat.add_zero, Nat.zero_add, ne_eq, not_false_eq_true, beq_self_eq_true, true_and, and_true, and_false, and_self, false_implies, implies_true, forall_const, List.map_cons, List.map_nil, List.nil_append, List.cons_append, List.append_nil, List.all_cons, List.all_nil, Option.map_some, Option.bind_some, List.getElem?_cons_zero, List.getElem?_cons_succ, List.getD_cons_zero, List.getD_cons_succ, List.length_cons, List.length_nil, List.take_succ_cons, List.take_zero, List.take_nil, List.drop_succ_cons, List.drop_zero, List.drop_nil, ex_clo, bft, or_self, Bool.true_eq_false, Bool.false_eq_true, tab3, tab30, tab68, tab73, hN, pe, Int.toNat_natCast, lk_impl_locate_impl_Segment_has, lk_impl_locate_impl_turn, sp_impl_Segment_has, sp_impl_turn, eq, g0, s0, s1, s2, hq, c0, d0, c1, c2, hw]
            repeat refine And.intro (by first | omega | (simp; done) | (simp; omega)) ?_
            exact ⟨(i + 1, b), id, ⟨by simp only []; omega, go b (by rw [hr, Bool.xor_false])⟩, by simp only []; omega, by simp [SLe, SLe0, convTm, convHp, convB, conv, conv0, convL, lkT, lkH, clean]⟩
          | true =>
            cases c3 : decide (0 < turn e.1 e.2 q) with
            | false =>
              rw [c3, Bool.and_false] at hr
              simp only [V_seq, V_skip, V_block, V_region, V_draw, V_cond, brW_false, drawW, WS_nil, pairsOf, W_nil, W_cons, effOp2, effOp3, WI_nil, WI_cons, KN_seq, KN_block, KN_back, dynOK, indB, farB, seeB, see, isStore, freshB, freshK, freshK1, ownId, heapy, asB, effOp, effPure, effPick, effNew, effAlloc, effStore, effCall, giveUp, hasAll, skipE, pureV, pickV, storeV, binV, partV, eltV, loadV, faddrV, iaddrV, over, solid, IV.cells, ofC, strip, lkT, lkH, ISt.app, opI, gO, gB, allB, gval, wrapG, dstOK, setD, mentTm, mentHp, IV.ment, IV.mentL, oneI, lendV, lendP, lent, lentP, idsV, idsL, lkHS, flat, clean, callArgs, callFn, allLent, IBlk.shape, Op.operands, reduceIte, reduceCtorEq, cond_true, cond_false, Bool.or_false, Bool.or_true, Bool.and_true, Bool.and_false, Bool.and_eq_true, Bool.not_true, Bool.not_false, Nat.reduceAdd, Nat.reduceMul, Nat.reduceLT, Nat.reduceLeDiff, Nat.reduceEqDiff, Nat.reduceBEq, Nat.add_zero, Nat.zero_add, ne_eq, not_false_eq_true, beq_self_eq_true, true_and, and_true, and_false, and_self, implies_true, forall_const, List.map_cons, List.map_nil, List.nil_append, List.cons_append, List.append_nil, List.all_cons, List.all_nil, Option.map_some, Option.bind_some, List.getElem?_cons_zero, List.getElem?_cons_succ, List.getD_cons_zero, List.getD_cons_succ, List.length_cons, List.length_nil, List.take_succ_cons, List.take_zero, List.take_nil, List.drop_succ_cons, List.drop_zero, List.drop_nil, ex_clo, or_self, Bool.true_eq_false, tab3, tab30, tab68, tab73, hN, pe, Int.toNat_natCast, lk_impl_locate_impl_Segment_has, lk_impl_locate_impl_turn, sp_impl_Segment_has, sp_impl_turn, eq, g0, s0, s1, s2, hq, c0, d0, c1, c2, c3, hw]
              repeat refine And.intro (by first | omega | (simp; done) | (simp; omega)) ?_
              exact ⟨(i + 1, b), id, ⟨by simp only []; omega, go b (by rw [hr, Bool.xor_false])⟩, by simp only []; omega, by simp [SLe, SLe0, convTm, convHp, convB, conv, conv0, convL, lkT, lkH, clean]⟩
            | true =>
              rw [c1, c2, c3] at hr
              simp only [V_seq, V_skip, V_block, V_region, V_draw, V_cond, brW_true, brW_false, drawW, WS_nil, pairsOf, W_nil, W_cons, effOp2, effOp3, WI_nil, WI_cons, KN_seq, KN_block, KN_back, dynOK, indB, farB, seeB, see, isStore, freshB, freshK, freshK1, ownId, heapy, asB, effOp, effPure, effPick, effNew, effAlloc, effStore, effCall, giveUp, hasAll, skipE, pureV, pickV, storeV, binV, partV, eltV, loadV, faddrV, iaddrV, over, solid, IV.cells, ofC, strip, lkT, lkH, ISt.app, opI, gO, gB, allB, gval, wrapG, dstOK, setD, mentTm, mentHp, IV.ment, IV.mentL, oneI, lendV, lendP, lent, lentP, idsV, idsL, lkHS, flat, clean, callArgs, callFn, allLent, IBlk.shape, Op.operands, reduceIte, reduceCtorEq, cond_true, cond_false, Bool.or_false, Bool.or_true, Bool.and_true, Bool.and_false, Bool.and_eq_true, Bool.not_true, Bool.not_false, Nat.reduceAdd, Nat.reduceMul, Nat.reduceLT, Nat.reduceLeDiff, Nat.reduceEqDiff, Nat.reduceBEq, Nat.add_zero, Nat.zero_add, ne_eq, not_false_eq_true, beq_self_eq_true, true_and, and_true, and_false, and_self, implies_true, forall_const, List.map_cons, List.map_nil, List.nil_append, List.cons_append, List.append_nil, List.all_cons, List.all_nil, Option.map_some, Option.bind_some, List.getElem?_cons_zero, List.getElem?_cons_succ, List.getD_cons_zero, List.getD_cons_succ, List.length_cons, List.length_nil, List.take_succ_cons, List.take_zero, List.take_nil, List.drop_succ_cons, List.drop_zero, List.drop_nil, ex_clo, or_self, Bool.true_eq_false, tab3, tab30, tab68, tab73, hN, pe, Int.toNat_natCast, lk_impl_locate_impl_Segment_has, lk_impl_locate_impl_turn, sp_impl_Segment_has, sp_impl_turn, eq, g0, s0, s1, s2, hq, c0, d0, c1, c2, c3, hw, sgB_neg]
              repeat refine And.intro (by first | omega | (simp; done) | (simp; omega)) ?_
              exact ⟨(i + 1, !b), id, ⟨by simp only []; omega, go (!b) (by rw [hr]; simp)⟩, by simp only []; omega, by simp [SLe, SLe0, convTm, convHp, convB, conv, conv0, convL, lkT, lkH, clean]⟩
  · have hie : i = l.length := by simp at h; omega
    subst hie
    have hf : locR q (edgesP l) false = sgB b := by rw [hj, ← ee, loc_end]
    simp only [V_seq, V_ret, V_exit, V_region, W_nil, W_cons, effOp2, KN_seq, KXr_nil, KXe_nil, KXe_seq, KXe_block, KXe_back, QE, effOp, effPure, pureV, strip, lkT, lkH, ISt.app, opI, gO, gB, allB, gval, wrapG, dstOK, setD, clean, Gives, Ideal.Fin, conv, conv0, Op.operands, reduceIte, Nat.reduceLT, Nat.reduceEqDiff, and_self, implies_true, List.nil_append, List.cons_append, hN, hf]
def sp_impl_locate : PSpec := ⟨fun xs => match xs with | [.sl 2 les, .agg [.num .i64 q1, .num .i64 q2]] => isPs les ∧ ((fun (l : List Pt) (q : Pt) => SmL l) (toPs les) (q1, q2)) ∧ ((fun (l : List Pt) (q : Pt) => Sm q) (toPs les) (q1, q2)) ∧ ((fun (l : List Pt) (q : Pt) => l.length ≤ 1000000) (toPs les) (q1, q2)) | _ => False, fun xs => match xs with | [.sl _ les, .agg [.num _ q1, .num _ q2]] => (fun (l : List Pt) (q : Pt) => .num .i64 (locR q (edgesP l) false)) (toPs les) (q1, q2) | _ => .junk, false⟩
theorem gk_impl_locate : ∀ args, sp_impl_locate.pre args → ICall Try.prog 118 args (sp_impl_locate.val args) := by
  intro args h
  unfold sp_impl_locate at h ⊢; simp only at h ⊢; split at h
  · obtain ⟨h0, h1, h2, h3⟩ := h
    obtain ⟨l0, rfl⟩ := isP_ex h0
    simp only [toPs_enc] at *
    exact c_impl_locate _ (_, _) h1 h2 h3
  · exact h.elim
theorem en_impl_locate : Enters Try.prog 118 := enters_of Try.func118 (by kernel_rfl) rfl


def g_spec_locate : List (Nat × PSpec) := [(127, sp_spec_edgeOf), (187, sp_spec_onSegment), (171, sp_spec_cross)]
theorem gok_spec_locate : GOK Try.prog g_spec_locate := gok_cons gk_spec_edgeOf en_spec_edgeOf (gok_cons gk_spec_onSegment en_spec_onSegment (gok_cons gk_spec_cross en_spec_cross (gok0)))
theorem lk_spec_locate_spec_edgeOf : lkG g_spec_locate 127 = sp_spec_edgeOf := rfl
theorem lk_spec_locate_spec_onSegment : lkG g_spec_locate 187 = sp_spec_onSegment := rfl
theorem lk_spec_locate_spec_cross : lkG g_spec_locate 171 = sp_spec_cross := rfl
def h_spec_locate : List (Nat × HSpec) := []
theorem hok_spec_locate : HOK Try.prog h_spec_locate := hok0
theorem c_spec_locate (l : List Pt) (q : Pt) (hm : SmL l) (hq : Sm q) (hsz : l.length ≤ 1000000) : ICall Try.prog 121 [.sl 2 (encPs l), encP q] (.num .i64 (locR q (edgesP l) false)) := by
  refine icall_V (G := g_spec_locate) (H := []) [] tabOK mixed gok_spec_locate hok_spec_locate Try.func121 rfl Try.ntmps121 Try.results121 rfl (by kernel_rfl) fun F hN hlen => ?_
  have el := len_encPs l
  have ee : (edgesP l).length = l.length := by rw [edgesP, edgesN_len]
  simp only [V_seq, V_block, V_region, W_nil, W_cons, effOp2, KN_seq, effOp, effPure, effNew, effBox, skipE, pureV, solid, IV.cells, ofC, strip, lkT, ISt.app, opI, gO, gB, allB, gval, wrapG, dstOK, setD, mentTm, mentHp, IV.ment, IV.mentL, oneI, enumT, Op.operands, reduceIte, reduceCtorEq, cond_true, Bool.or_false, Bool.and_true, Nat.reduceLT, Nat.zero_add, true_and, and_self, implies_true, List.nil_append, List.cons_append, List.append_nil, List.all_cons, List.all_nil, hN, encP]
  refine V_loop (α := Nat × Bool) ⟨tabOK, mixed, gok_spec_locate, hok_spec_locate⟩ (by kernel_rfl) (fun a => a.1 ≤ l.length ∧ locR q (edgesP l) false = locR q ((edgesP l).drop a.1) a.2) (fun a => ⟨[(6, .num .i64 a.1), (5, .bool a.2), (3, .ptr 3 0), (0, .sl 2 (encPs l))], [(3, some (.box 30 [.num .i64 q.1, .num .i64 q.2]))]⟩) (fun a => l.length - a.1) (0, false) id ⟨Nat.zero_le _, rfl⟩ (by simp [SLe, SLe0, convTm, convHp, convB, conv, conv0, convL, lkT, lkH, clean]) ?_
  rintro ⟨i, b⟩ ⟨hi, hj⟩
  simp only [] at hi hj
  simp only [V_seq, V_region, V_cond, W_nil, W_cons, effOp2, KN_seq, asB, effOp, effPure, pureV, binV, lenV, strip, lkT, ISt.app, opI, gO, gB, allB, gval, wrapG, dstOK, setD, Op.operands, Call.operands, List.append_toArray, reduceIte, reduceCtorEq, Nat.reduceLT, Nat.reduceEqDiff, ne_eq, not_false_eq_true, true_and, and_self, implies_true, List.nil_append, List.cons_append, tab23, hN, el]
  refine brW_some (fun h => ?_) (fun h => ?_)
  · have hi' : i < l.length := by simpa using h
    have hst := loc_step (q := q) (E := edgesP l) (i := i) (by omega) b
    rw [edgesP_at hi'] at hst
    have hw := wr_succ hi' (by rw [maxLen_eq]; omega)
    have s0 := hm.edge i
    have j1 : (i : Int) < (l.length : Int) := by omega
    have j3 : (0 : Int) ≤ (i : Int) := by omega
    obtain ⟨e, he⟩ : ∃ e, edgeP l i = e := ⟨_, rfl⟩
    rw [he] at hst s0
    cases c0 : onS e q with
    | true =>
      rw [if_pos c0] at hst
      simp only [V_seq, V_skip, V_ret, V_block, V_region, V_cond, brW_true, W_nil, W_cons, effOp2, KN_seq, KXr_nil, KXr_seq, KXr_block, KXr_back, QE, asB, effOp, effPure, effNew, effAlloc, effStore, effCall, giveUp, hasAll, skipE, pureV, storeV, partV, loadV, over, solid, IV.cells, ofC, strip, lkT, lkH, ISt.app, opI, gO, gB, allB, gval, wrapG, dstOK, setD, mentTm, mentHp, IV.ment, IV.mentL, oneI, lendV, lendP, lent, lentP, idsV, idsL, lkHS, flat, flatL, clean, cleanL, callArgs, callFn, allLent, Gives, Ideal.Fin, conv, conv0, Op.operands, reduceIte, reduceCtorEq, cond_true, Bool.or_false, Bool.and_true, Bool.not_true, Nat.reduceAdd, Nat.reduceLT, Nat.reduceLeDiff, Nat.reduceEqDiff, Nat.reduceBEq, Nat.zero_add, and_false, and_self, implies_true, List.map_cons, List.map_nil, List.nil_append, List.cons_append, List.append_nil, List.all_cons, List.all_nil, List.getD_cons_zero, List.length_cons, List.length_nil, List.take_succ_cons, List.take_zero, List.take_nil, List.drop_succ_cons, List.drop_zero, List.drop_nil, ex_clo, or_self, tab30, tab68, hN, pe, Int.toNat_natCast, encQ, isPs_enc, toPs_enc, lk_spec_locate_spec_edgeOf, lk_spec_locate_spec_onSegment, sp_spec_edgeOf, sp_spec_onSegment, he, j1, j3, hsz, s0, hq, c0, hj, hst]
      try omega
    | false =>
      rw [if_neg (by rw [c0]; decide)] at hst
      have go : ∀ b2, b2 = (b ^^ rayP e q) → locR q (edgesP l) false = locR q ((edgesP l).drop (i + 1)) b2 := fun b2 hb => by rw [hj, hst, hb]
      cases d0 : decide (e.2.2 < e.1.2) with
      | true =>
        have hr := ray_of (e := e) (f := (e.2, e.1)) q (by rw [if_pos (of_decide_eq_true d0)])
        simp only [] at hr
        have s1 := s0.2
        have s2 := s0.1
        cases c1 : decide (e.2.2 ≤ q.2) with
        | false =>
          rw [c1, Bool.false_and, Bool.false_and] at hr
          simp only [V_seq, V_skip, V_block, V_region, V_cond, brW_true, brW_false, W_nil, W_cons, effOp2, KN_seq, KN_block, KN_back, asB, effOp, effPure, effPick, effNew, effAlloc, effStore, effCall, giveUp, hasAll, skipE, pureV, pickV, storeV, binV, partV, loadV, faddrV, over, solid, buildL, IV.cells, ofC, strip, lkT, lkH, ISt.app, opI, gO, gB, allB, gval, wrapG, dstOK, setD, mentTm, mentHp, IV.ment, IV.mentL, oneI, lendV, lendP, lent, lentP, idsV, idsL, lkHS, flat, flatL, clean, cleanL, callArgs, callFn, allLent, IBlk.shape, Op.operands, reduceIte, reduceCtorEq, cond_true, cond_false, Bool.or_false, Bool.or_true, Bool.and_true, Bool.not_true, Bool.not_false, Nat.reduceAdd, Nat.reduceLT, Nat.reduceLeDiff, Nat.reduceEqDiff, Nat.reduceBEq, Nat.add_zero, Nat.zero_add, ne_eq, not_false_eq_true, true_and, and_true, and_false, and_self, false_implies, implies_true, List.map_cons, List.map_nil, List.nil_append, List.cons_append, List.append_nil, List.all_cons, List.all_nil, Option.map_some, Option.bind_some, List.getElem?_cons_zero, List.getElem?_cons_succ, List.getD_cons_zero, List.getD_cons_succ, List.length_cons, List.length_nil, List.take_succ_cons, List.take_zero, List.take_nil, List.drop_succ_cons, List.drop_zero, List.drop_nil, ex_clo, bft, or_self, Bool.false_eq_true, tab3, tab30, tab68, hN, pe, Int.toNat_natCast, encQ, isPs_enc, toPs_enc, lk_spec_locate_spec_edgeOf, lk_spec_locate_spec_onSegment, lk_spec_locate_spec_cross, sp_spec_edgeOf, sp_spec_onSegment, sp_spec_cross, he, j1, j3, hsz, s0, s1, s2, hq, c0, d0, c1, hw]
          repeat refine And.intro (by first | omega | (simp; done) | (simp; omega)) ?_
          exact ⟨(i + 1, b), id, ⟨by simp only []; omega, go b (by rw [hr, Bool.xor_false])⟩, by simp only []; omega, by simp [SLe, SLe0, convTm, convHp, convB, conv, conv0, convL, lkT, lkH, clean]⟩
        | true =>
          cases c2 : decide (q.2 < e.1.2) with
          | false =>
            rw [c2, Bool.and_false, Bool.false_and] at hr
            simp only [V_seq, V_skip, V_block, V_region, V_cond, brW_true, brW_false, W_nil, W_cons, effOp2, KN_seq, KN_block, KN_back, asB, effOp, effPure, effPick, effNew, effAlloc, effStore, effCall, giveUp, hasAll, skipE, pureV, pickV, storeV, binV, partV, loadV, faddrV, over, solid, buildL, IV.cells, ofC, strip, lkT, lkH, ISt.app, opI, gO, gB, allB, gval, wrapG, dstOK, setD, mentTm, mentHp, IV.ment, IV.mentL, oneI, lendV, lendP, lent, lentP, idsV, idsL, lkHS, flat, flatL, clean, cleanL, callArgs, callFn, allLent, IBlk.shape, Op.operands, reduceIte, reduceCtorEq, cond_true, cond_false, Bool.or_false, Bool.or_true, Bool.and_true, Bool.not_true, Bool.not_false, Nat.reduceAdd, Nat.reduceLT, Nat.reduceLeDiff, Nat.reduceEqDiff, Nat.reduceBEq, Nat.add_zero, Nat.zero_add, ne_eq, not_false_eq_true, beq_self_eq_true, true_and, and_true, and_false, and_self, false_implies, implies_true, List.map_cons, List.map_nil, List.nil_append, List.cons_append, List.append_nil, List.all_cons, List.all_nil, Option.map_some, Option.bind_some, List.getElem?_cons_zero, List.getElem?_cons_succ, List.getD_cons_zero, List.getD_cons_succ, List.length_cons, List.length_nil, List.take_succ_cons, List.take_zero, List.take_nil, List.drop_succ_cons, List.drop_zero, List.drop_nil, ex_clo, bft, or_self, Bool.true_eq_false, Bool.false_eq_true, tab3, tab30, tab68, hN, pe, Int.toNat_natCast, encQ, isPs_enc, toPs_enc, lk_spec_locate_spec_edgeOf, lk_spec_locate_spec_onSegment, lk_spec_locate_spec_cross, sp_spec_edgeOf, sp_spec_onSegment, sp_spec_cross, he, j1, j3, hsz, s0, s1, s2, hq, c0, d0, c1, c2, hw]
            repeat refine And.intro (by first | omega | (simp; done) | (simp; omega)) ?_
            exact ⟨(i + 1, b), id, ⟨by simp only []; omega, go b (by rw [hr, Bool.xor_false])⟩, by simp only []; omega, by simp [SLe, SLe0, convTm, convHp, convB, conv, conv0, convL, lkT, lkH, clean]⟩
          | true =>
            cases c3 : decide (0 < turn e.2 e.1 q) with
            | false =>
              rw [c3, Bool.and_false] at hr
              simp only [V_seq, V_skip, V_block, V_region, V_cond, brW_true, brW_false, W_nil, W_cons, effOp2, KN_seq, KN_block, KN_back, asB, effOp, effPure, effPick, effNew, effAlloc, effStore, effCall, giveUp, hasAll, skipE, pureV, pickV, storeV, binV, partV, loadV, faddrV, over, solid, buildL, IV.cells, ofC, strip, lkT, lkH, ISt.app, opI, gO, gB, allB, gval, wrapG, dstOK, setD, mentTm, mentHp, IV.ment, IV.mentL, oneI, lendV, lendP, lent, lentP, idsV, idsL, lkHS, flat, flatL, clean, cleanL, callArgs, callFn, allLent, IBlk.shape, Op.operands, reduceIte, reduceCtorEq, cond_true, Bool.or_false, Bool.and_true, Bool.not_true, Nat.reduceAdd, Nat.reduceLT, Nat.reduceLeDiff, Nat.reduceEqDiff, Nat.reduceBEq, Nat.add_zero, Nat.zero_add, ne_eq, not_false_eq_true, beq_self_eq_true, true_and, and_false, and_self, implies_true, List.map_cons, List.map_nil, List.nil_append, List.cons_append, List.append_nil, List.all_cons, List.all_nil, Option.map_some, Option.bind_some, List.getElem?_cons_zero, List.getElem?_cons_succ, List.getD_cons_zero, List.getD_cons_succ, List.length_cons, List.length_nil, List.take_succ_cons, List.take_zero, List.take_nil, List.drop_succ_cons, List.drop_zero, List.drop_nil, ex_clo, or_self, Bool.true_eq_false, tab3, tab30, tab68, hN, pe, Int.toNat_natCast, encQ, isPs_enc, toPs_enc, lk_spec_locate_spec_edgeOf, lk_spec_locate_spec_onSegment, lk_spec_locate_spec_cross, sp_spec_edgeOf, sp_spec_onSegment, sp_spec_cross, he, j1, j3, hsz, s0, s1, s2, hq, c0, d0, c1, c2, c3, hw]
              repeat refine And.intro (by first | omega | (simp; done) | (simp; omega)) ?_
              exact ⟨(i + 1, b), id, ⟨by simp only []; omega, go b (by rw [hr, Bool.xor_false])⟩, by simp only []; omega, by simp [SLe, SLe0, convTm, convHp, convB, conv, conv0, convL, lkT, lkH, clean]⟩
            | true =>
              rw [c1, c2, c3] at hr
              simp only [V_seq, V_skip, V_block, V_region, V_cond, brW_true, brW_false, W_nil, W_cons, effOp2, KN_seq, KN_block, KN_back, asB, effOp, effPure, effPick, effNew, effAlloc, effStore, effCall, giveUp, hasAll, skipE, pureV, pickV, storeV, binV, partV, loadV, faddrV, over, solid, buildL, IV.cells, ofC, strip, lkT, lkH, ISt.app, opI, gO, gB, allB, gval, wrapG, dstOK, setD, mentTm, mentHp, IV.ment, IV.mentL, oneI, lendV, lendP, lent, lentP, idsV, idsL, lkHS, flat, flatL, clean, cleanL, callArgs, callFn, allLent, IBlk.shape, Op.operands, reduceIte, reduceCtorEq, cond_true, Bool.or_false, Bool.and_true, Bool.not_true, Nat.reduceAdd, Nat.reduceLT, Nat.reduceLeDiff, Nat.reduceEqDiff, Nat.reduceBEq, Nat.add_zero, Nat.zero_add, ne_eq, not_false_eq_true, beq_self_eq_true, true_and, and_false, and_self, implies_true, List.map_cons, List.map_nil, List.nil_append, List.cons_append, List.append_nil, List.all_cons, List.all_nil, Option.map_some, Option.bind_some, List.getElem?_cons_zero, List.getElem?_cons_succ, List.getD_cons_zero, List.getD_cons_succ, List.length_cons, List.length_nil, List.take_succ_cons, List.take_zero, List.take_nil, List.drop_succ_cons, List.drop_zero, List.drop_nil, ex_clo, or_self, Bool.true_eq_false, tab3, tab30, tab68, hN, pe, Int.toNat_natCast, encQ, isPs_enc, toPs_enc, lk_spec_locate_spec_edgeOf, lk_spec_locate_spec_onSegment, lk_spec_locate_spec_cross, sp_spec_edgeOf, sp_spec_onSegment, sp_spec_cross, he, j1, j3, hsz, s0, s1, s2, hq, c0, d0, c1, c2, c3, hw]
              repeat refine And.intro (by first | omega | (simp; done) | (simp; omega)) ?_
              exact ⟨(i + 1, !b), id, ⟨by simp only []; omega, go (!b) (by rw [hr]; simp)⟩, by simp only []; omega, by simp [SLe, SLe0, convTm, convHp, convB, conv, conv0, convL, lkT, lkH, clean]⟩
      | false =>
        have hr := ray_of (e := e) (f := e) q (by rw [if_neg (of_decide_eq_false d0)])
        have s1 := s0.1
        have s2 := s0.2
        cases c1 : decide (e.1.2 ≤ q.2) with
        | false =>
          rw [c1, Bool.false_and, Bool.false_and] at hr
          simp only [V_seq, V_skip, V_block, V_region, V_cond, brW_false, W_nil, W_cons, effOp2, KN_seq, KN_block, KN_back, asB, effOp, effPure, effPick, effNew, effAlloc, effStore, effCall, giveUp, hasAll, skipE, pureV, pickV, storeV, binV, partV, loadV, faddrV, over, solid, IV.cells, ofC, strip, lkT, lkH, ISt.app, opI, gO, gB, allB, gval, wrapG, dstOK, setD, mentTm, mentHp, IV.ment, IV.mentL, oneI, lendV, lendP, lent, lentP, idsV, idsL, lkHS, flat, flatL, clean, cleanL, callArgs, callFn, allLent, IBlk.shape, Op.operands, reduceIte, reduceCtorEq, cond_true, cond_false, Bool.or_false, Bool.or_true, Bool.and_true, Bool.not_true, Bool.not_false, Nat.reduceAdd, Nat.reduceLT, Nat.reduceLeDiff, Nat.reduceEqDiff, Nat.reduceBEq, Nat.add_zero, Nat.zero_add, true_and, and_true, and_false, and_self, false_implies, implies_true, List.map_cons, List.map_nil, List.nil_append, List.cons_append, List.append_nil, List.all_cons, List.all_nil, Option.map_some, Option.bind_some, List.getElem?_cons_zero, List.getElem?_cons_succ, List.getD_cons_zero, List.getD_cons_succ, List.length_cons, List.length_nil, List.take_succ_cons, List.take_zero, List.take_nil, List.drop_succ_cons, List.drop_zero, List.drop_nil, ex_clo, bft, or_self, Bool.false_eq_true, tab3, tab30, tab68, hN, pe, Int.toNat_natCast, encQ, isPs_enc, toPs_enc, lk_spec_locate_spec_edgeOf, lk_spec_locate_spec_onSegment, lk_spec_locate_spec_cross, sp_spec_edgeOf, sp_spec_onSegment, sp_spec_cross, he, j1, j3, hsz, s0, s1, s2, hq, c0, d0, c1, hw]
          repeat refine And.intro (by first | omega | (simp; done) | (simp; omega)) ?_
          exact ⟨(i + 1, b), id, ⟨by simp only []; omega, go b (by rw [hr, Bool.xor_false])⟩, by simp only []; omega, by simp [SLe, SLe0, convTm, convHp, convB, conv, conv0, convL, lkT, lkH, clean]⟩
        | true =>
          cases c2 : decide (q.2 < e.2.2) with
          | false =>
            rw [c2, Bool.and_false, Bool.false_and] at hr
            simp only [V_seq, V_skip, V_block, V_region, V_cond, brW_false, W_nil, W_cons, effOp2, KN_seq, KN_block, KN_back, asB, effOp, effPure, effPick, effNew, effAlloc, effStore, effCall, giveUp, hasAll, skipE, pureV, pickV, storeV, binV, partV, loadV, faddrV, over, solid, IV.cells, ofC, strip, lkT, lkH, ISt.app, opI, gO, gB, allB, gval, wrapG, dstOK, setD, mentTm, mentHp, IV.ment, IV.mentL, oneI, lendV, lendP, lent, lentP, idsV, idsL, lkHS, flat, flatL, clean, cleanL, callArgs, callFn, allLent, IBlk.shape, Op.operands, reduceIte, reduceCtorEq, cond_true, cond_false, Bool.or_false, Bool.or_true, Bool.and_true, Bool.not_true, Bool.not_false, Nat.reduceAdd, Nat.reduceLT, Nat.reduceLeDiff, Nat.reduceEqDiff, Nat.reduceBEq, Nat.add_zero, Nat.zero_add, beq_self_eq_true, true_and, and_true, and_false, and_self, false_implies, implies_true, List.map_cons, List.map_nil, List.nil_append, List.cons_append, List.append_nil, List.all_cons, List.all_nil, Option.map_some, Option.bind_some, List.getElem?_cons_zero, List.getElem?_cons_succ, List.getD_cons_zero, List.getD_cons_succ, List.length_cons, List.length_nil, List.take_succ_cons, List.take_zero, List.take_nil, List.drop_succ_cons, List.drop_zero, List.drop_nil, ex_clo, bft, or_self, Bool.true_eq_false, Bool.false_eq_true, tab3, tab30, tab68, hN, pe, Int.toNat_natCast, encQ, isPs_enc, toPs_enc, lk_spec_locate_spec_edgeOf, lk_spec_locate_spec_onSegment, lk_spec_locate_spec_cross, sp_spec_edgeOf, sp_spec_onSegment, sp_spec_cross, he, j1, j3, hsz, s0, s1, s2, hq, c0, d0, c1, c2, hw]
            repeat refine And.intro (by first | omega | (simp; done) | (simp; omega)) ?_
            exact ⟨(i + 1, b), id, ⟨by simp only []; omega, go b (by rw [hr, Bool.xor_false])⟩, by simp only []; omega, by simp [SLe, SLe0, convTm, convHp, convB, conv, conv0, convL, lkT, lkH, clean]⟩
          | true =>
            cases c3 : decide (0 < turn e.1 e.2 q) with
            | false =>
              rw [c3, Bool.and_false] at hr
              simp only [V_seq, V_skip, V_block, V_region, V_cond, brW_false, W_nil, W_cons, effOp2, KN_seq, KN_block, KN_back, asB, effOp, effPure, effPick, effNew, effAlloc, effStore, effCall, giveUp, hasAll, skipE, pureV, pickV, storeV, binV, partV, loadV, faddrV, over, solid, IV.cells, ofC, strip, lkT, lkH, ISt.app, opI, gO, gB, allB, gval, wrapG, dstOK, setD, mentTm, mentHp, IV.ment, IV.mentL, oneI, lendV, lendP, lent, lentP, idsV, idsL, lkHS, flat, flatL, clean, cleanL, callArgs, callFn, allLent, IBlk.shape, Op.operands, reduceIte, reduceCtorEq, cond_true, Bool.or_false, Bool.and_true, Bool.not_true, Nat.reduceAdd, Nat.reduceLT, Nat.reduceLeDiff, Nat.reduceEqDiff, Nat.reduceBEq, Nat.add_zero, Nat.zero_add, beq_self_eq_true, true_and, and_false, and_self, implies_true, List.map_cons, List.map_nil, List.nil_append, List.cons_append, List.append_nil, List.all_cons, List.all_nil, Option.map_some, Option.bind_some, List.getElem?_cons_zero, List.getElem?_cons_succ, List.getD_cons_zero, List.getD_cons_succ, List.length_cons, List.length_nil, List.take_succ_cons, List.take_zero, List.take_nil, List.drop_succ_cons, List.drop_zero, List.drop_nil, ex_clo, or_self, Bool.true_eq_false, tab3, tab30, tab68, hN, pe, Int.toNat_natCast, encQ, isPs_enc, toPs_enc, lk_spec_locate_spec_edgeOf, lk_spec_locate_spec_onSegment, lk_spec_locate_spec_cross, sp_spec_edgeOf, sp_spec_onSegment, sp_spec_cross, he, j1, j3, hsz, s0, s1, s2, hq, c0, d0, c1, c2, c3, hw]
              repeat refine And.intro (by first | omega | (simp; done) | (simp; omega)) ?_
              exact ⟨(i + 1, b), id, ⟨by simp only []; omega, go b (by rw [hr, Bool.xor_false])⟩, by simp only []; omega, by simp [SLe, SLe0, convTm, convHp, convB, conv, conv0, convL, lkT, lkH, clean]⟩
            | true =>
              rw [c1, c2, c3] at hr
              simp only [V_seq, V_skip, V_block, V_region, V_cond, brW_true, brW_false, W_nil, W_cons, effOp2, KN_seq, KN_block, KN_back, asB, effOp, effPure, effPick, effNew, effAlloc, effStore, effCall, giveUp, hasAll, skipE, pureV, pickV, storeV, binV, partV, loadV, faddrV, over, solid, IV.cells, ofC, strip, lkT, lkH, ISt.app, opI, gO, gB, allB, gval, wrapG, dstOK, setD, mentTm, mentHp, IV.ment, IV.mentL, oneI, lendV, lendP, lent, lentP, idsV, idsL, lkHS, flat, flatL, clean, cleanL, callArgs, callFn, allLent, IBlk.shape, Op.operands, reduceIte, reduceCtorEq, cond_true, Bool.or_false, Bool.and_true, Bool.not_true, Nat.reduceAdd, Nat.reduceLT, Nat.reduceLeDiff, Nat.reduceEqDiff, Nat.reduceBEq, Nat.add_zero, Nat.zero_add, beq_self_eq_true, true_and, and_false, and_self, implies_true, List.map_cons, List.map_nil, List.nil_append, List.cons_append, List.append_nil, List.all_cons, List.all_nil, Option.map_some, Option.bind_some, List.getElem?_cons_zero, List.getElem?_cons_succ, List.getD_cons_zero, List.getD_cons_succ, List.length_cons, List.length_nil, List.take_succ_cons, List.take_zero, List.take_nil, List.drop_succ_cons, List.drop_zero, List.drop_nil, ex_clo, or_self, Bool.true_eq_false, tab3, tab30, tab68, hN, pe, Int.toNat_natCast, encQ, isPs_enc, toPs_enc, lk_spec_locate_spec_edgeOf, lk_spec_locate_spec_onSegment, lk_spec_locate_spec_cross, sp_spec_edgeOf, sp_spec_onSegment, sp_spec_cross, he, j1, j3, hsz, s0, s1, s2, hq, c0, d0, c1, c2, c3, hw]
              repeat refine And.intro (by first | omega | (simp; done) | (simp; omega)) ?_
              exact ⟨(i + 1, !b), id, ⟨by simp only []; omega, go (!b) (by rw [hr]; simp)⟩, by simp only []; omega, by simp [SLe, SLe0, convTm, convHp, convB, conv, conv0, convL, lkT, lkH, clean]⟩
  · have hie : i = l.length := by simp at h; omega
    subst hie
    have hf : locR q (edgesP l) false = sgB b := by rw [hj, ← ee, loc_end]
    cases b with
    | true => simp only [V_seq, V_ret, V_exit, V_region, V_cond, brW_true, W_nil, W_cons, effOp2, KN_seq, KXr_nil, KXr_seq, KXe_nil, KXe_seq, KXe_block, KXe_back, QE, asB, effOp, effPure, pureV, ofC, strip, lkT, lkH, ISt.app, opI, gO, gB, allB, gval, wrapG, dstOK, setD, clean, Gives, Ideal.Fin, conv, conv0, Op.operands, reduceIte, reduceCtorEq, Nat.reduceLT, Nat.reduceEqDiff, and_self, implies_true, List.nil_append, List.cons_append, hN, hf, sgB]
    | false => simp only [V_seq, V_skip, V_ret, V_exit, V_region, V_cond, brW_false, W_nil, W_cons, effOp2, KN_seq, KXr_nil, KXe_nil, KXe_seq, KXe_block, KXe_back, QE, asB, effOp, effPure, pureV, ofC, strip, lkT, lkH, ISt.app, opI, gO, gB, allB, gval, wrapG, dstOK, setD, clean, Gives, Ideal.Fin, conv, conv0, Op.operands, reduceIte, reduceCtorEq, Nat.reduceLT, Nat.reduceEqDiff, and_self, implies_true, List.nil_append, List.cons_append, Bool.false_eq_true, hN, hf, sgB]
def sp_spec_locate : PSpec := ⟨fun xs => match xs with | [.sl 2 les, .agg [.num .i64 q1, .num .i64 q2]] => isPs les ∧ ((fun (l : List Pt) (q : Pt) => SmL l) (toPs les) (q1, q2)) ∧ ((fun (l : List Pt) (q : Pt) => Sm q) (toPs les) (q1, q2)) ∧ ((fun (l : List Pt) (q : Pt) => l.length ≤ 1000000) (toPs les) (q1, q2)) | _ => False, fun xs => match xs with | [.sl _ les, .agg [.num _ q1, .num _ q2]] => (fun (l : List Pt) (q : Pt) => .num .i64 (locR q (edgesP l) false)) (toPs les) (q1, q2) | _ => .junk, false⟩
theorem gk_spec_locate : ∀ args, sp_spec_locate.pre args → ICall Try.prog 121 args (sp_spec_locate.val args) := by
  intro args h
  unfold sp_spec_locate at h ⊢; simp only at h ⊢; split at h
  · obtain ⟨h0, h1, h2, h3⟩ := h
    obtain ⟨l0, rfl⟩ := isP_ex h0
    simp only [toPs_enc] at *
    exact c_spec_locate _ (_, _) h1 h2 h3
  · exact h.elim
theorem en_spec_locate : Enters Try.prog 121 := enters_of Try.func121 (by kernel_rfl) rfl


/-- Where a point is of a simple polygon. -/
def locB (l : List Pt) (q : Pt) : Int := bif simpB l && okP q then locR q (edgesP l) false else 2
def g_impl_Locate : List (Nat × PSpec) := [(116, sp_impl_simple), (117, sp_impl_Point_valid), (118, sp_impl_locate)]
theorem gok_impl_Locate : GOK Try.prog g_impl_Locate := gok_cons gk_impl_simple en_impl_simple (gok_cons gk_impl_Point_valid en_impl_Point_valid (gok_cons gk_impl_locate en_impl_locate (gok0)))
theorem lk_impl_Locate_impl_simple : lkG g_impl_Locate 116 = sp_impl_simple := rfl
theorem lk_impl_Locate_impl_Point_valid : lkG g_impl_Locate 117 = sp_impl_Point_valid := rfl
theorem lk_impl_Locate_impl_locate : lkG g_impl_Locate 118 = sp_impl_locate := rfl
def h_impl_Locate : List (Nat × HSpec) := []
theorem hok_impl_Locate : HOK Try.prog h_impl_Locate := hok0
theorem c_impl_Locate (l : List Pt) (q : Pt)  : ICall Try.prog 47 [.sl 2 (encPs l), encP q] (.num .i64 (locB l q)) := by
  refine icall_V (G := g_impl_Locate) (H := []) [] tabOK mixed gok_impl_Locate hok_impl_Locate Try.func47 rfl Try.ntmps47 Try.results47 rfl (by kernel_rfl) fun F hN hlen => ?_
  have hv : locB l q = bif simpB l && okP q then locR q (edgesP l) false else 2 := rfl
  cases h1 : simpB l with
  | false =>
    rw [h1] at hv
    simp only [V_seq, V_ret, V_region, V_cond, brW_true, W_nil, W_cons, effOp2, KN_seq, KXr_nil, KXr_seq, QE, asB, effOp, effPure, effPick, effNew, effBox, effCall, giveUp, hasAll, skipE, pureV, pickV, partV, loadV, solid, IV.cells, ofC, strip, lkT, lkH, ISt.app, opI, gO, gB, allB, gval, wrapG, dstOK, setD, mentTm, mentHp, IV.ment, IV.mentL, oneI, lendV, lendP, lent, lentP, idsV, idsL, lkHS, flat, clean, callArgs, callFn, allLent, enumT, Gives, Ideal.Fin, conv, conv0, Op.operands, reduceIte, reduceCtorEq, cond_true, cond_false, Bool.or_false, Bool.or_true, Bool.and_true, Bool.false_and, Bool.not_true, Bool.not_false, Nat.reduceAdd, Nat.reduceLT, Nat.reduceLeDiff, Nat.reduceEqDiff, Nat.zero_add, and_true, and_false, and_self, false_implies, implies_true, List.map_cons, List.map_nil, List.nil_append, List.cons_append, List.append_nil, List.all_cons, List.all_nil, Option.bind_some, List.getElem?_cons_zero, List.getElem?_cons_succ, List.getD_cons_zero, List.length_cons, List.length_nil, List.take_succ_cons, List.take_nil, List.drop_zero, ex_clo, btf, or_self, Bool.true_eq_false, Bool.false_eq_true, tab30, hN, pe, encP, isPs_enc, toPs_enc, lk_impl_Locate_impl_simple, lk_impl_Locate_impl_Point_valid, sp_impl_simple, sp_impl_Point_valid, h1, hv]
  | true =>
    obtain ⟨hk, h3, h20, hnd⟩ := ring_facts (simp_ring h1)
    have hm := okPs_sm hk
    have hz : l.length ≤ 1000000 := by omega
    rw [h1] at hv
    cases h2 : okP q with
    | false =>
      rw [h2] at hv
      simp only [V_seq, V_ret, V_region, V_cond, brW_true, W_nil, W_cons, effOp2, KN_seq, KXr_nil, KXr_seq, QE, asB, effOp, effPure, effPick, effNew, effBox, effCall, giveUp, hasAll, skipE, pureV, pickV, partV, loadV, solid, IV.cells, ofC, strip, lkT, lkH, ISt.app, opI, gO, gB, allB, gval, wrapG, dstOK, setD, mentTm, mentHp, IV.ment, IV.mentL, oneI, lendV, lendP, lent, lentP, idsV, idsL, lkHS, flat, clean, callArgs, callFn, allLent, enumT, Gives, Ideal.Fin, conv, conv0, Op.operands, reduceIte, reduceCtorEq, cond_true, cond_false, Bool.or_false, Bool.and_true, Bool.and_false, Bool.not_true, Bool.not_false, Nat.reduceAdd, Nat.reduceLT, Nat.reduceLeDiff, Nat.reduceEqDiff, Nat.zero_add, beq_self_eq_true, and_false, and_self, implies_true, List.map_cons, List.map_nil, List.nil_append, List.cons_append, List.append_nil, List.all_cons, List.all_nil, Option.bind_some, List.getElem?_cons_zero, List.getElem?_cons_succ, List.getD_cons_zero, List.length_cons, List.length_nil, List.take_succ_cons, List.take_nil, List.drop_zero, ex_clo, or_self, Bool.false_eq_true, tab30, hN, pe, encP, isPs_enc, toPs_enc, lk_impl_Locate_impl_simple, lk_impl_Locate_impl_Point_valid, sp_impl_simple, sp_impl_Point_valid, h1, h2, hv]
    | true =>
      have hq := okP_sm h2
      rw [h2] at hv
      simp only [V_seq, V_skip, V_ret, V_region, V_cond, brW_false, W_nil, W_cons, effOp2, KN_seq, KXr_nil, QE, asB, effOp, effPure, effPick, effNew, effBox, effCall, giveUp, hasAll, skipE, pureV, pickV, partV, loadV, solid, IV.cells, ofC, strip, lkT, lkH, ISt.app, opI, gO, gB, allB, gval, wrapG, dstOK, setD, mentTm, mentHp, IV.ment, IV.mentL, oneI, lendV, lendP, lent, lentP, idsV, idsL, lkHS, flat, clean, callArgs, callFn, allLent, enumT, Gives, Ideal.Fin, conv, conv0, Op.operands, reduceIte, reduceCtorEq, cond_true, cond_false, Bool.or_false, Bool.and_true, Bool.not_true, Nat.reduceAdd, Nat.reduceLT, Nat.reduceLeDiff, Nat.reduceEqDiff, Nat.zero_add, beq_self_eq_true, and_false, and_self, implies_true, List.map_cons, List.map_nil, List.nil_append, List.cons_append, List.append_nil, List.all_cons, List.all_nil, Option.bind_some, List.getElem?_cons_zero, List.getElem?_cons_succ, List.getD_cons_zero, List.length_cons, List.length_nil, List.take_succ_cons, List.take_nil, List.drop_zero, ex_clo, or_self, Bool.false_eq_true, tab30, hN, pe, encP, isPs_enc, toPs_enc, lk_impl_Locate_impl_simple, lk_impl_Locate_impl_Point_valid, lk_impl_Locate_impl_locate, sp_impl_simple, sp_impl_Point_valid, sp_impl_locate, h1, h2, hm, hz, hq, hv]
def sp_impl_Locate : PSpec := ⟨fun xs => match xs with | [.sl 2 les, .agg [.num .i64 q1, .num .i64 q2]] => isPs les | _ => False, fun xs => match xs with | [.sl _ les, .agg [.num _ q1, .num _ q2]] => (fun (l : List Pt) (q : Pt) => .num .i64 (locB l q)) (toPs les) (q1, q2) | _ => .junk, false⟩
theorem gk_impl_Locate : ∀ args, sp_impl_Locate.pre args → ICall Try.prog 47 args (sp_impl_Locate.val args) := by
  intro args h
  unfold sp_impl_Locate at h ⊢; simp only at h ⊢; split at h
  · have h0 := h
    obtain ⟨l0, rfl⟩ := isP_ex h0
    simp only [toPs_enc] at *
    exact c_impl_Locate _ (_, _) 
  · exact h.elim
theorem en_impl_Locate : Enters Try.prog 47 := enters_of Try.func47 (by kernel_rfl) rfl

def g_spec_Locate : List (Nat × PSpec) := [(119, sp_spec_isSimple), (120, sp_spec_validPoint), (121, sp_spec_locate)]
theorem gok_spec_Locate : GOK Try.prog g_spec_Locate := gok_cons gk_spec_isSimple en_spec_isSimple (gok_cons gk_spec_validPoint en_spec_validPoint (gok_cons gk_spec_locate en_spec_locate (gok0)))
theorem lk_spec_Locate_spec_isSimple : lkG g_spec_Locate 119 = sp_spec_isSimple := rfl
theorem lk_spec_Locate_spec_validPoint : lkG g_spec_Locate 120 = sp_spec_validPoint := rfl
theorem lk_spec_Locate_spec_locate : lkG g_spec_Locate 121 = sp_spec_locate := rfl
def h_spec_Locate : List (Nat × HSpec) := []
theorem hok_spec_Locate : HOK Try.prog h_spec_Locate := hok0
theorem c_spec_Locate (l : List Pt) (q : Pt)  : ICall Try.prog 48 [.sl 2 (encPs l), encP q] (.num .i64 (locB l q)) := by
  refine icall_V (G := g_spec_Locate) (H := []) [] tabOK mixed gok_spec_Locate hok_spec_Locate Try.func48 rfl Try.ntmps48 Try.results48 rfl (by kernel_rfl) fun F hN hlen => ?_
  have hv : locB l q = bif simpB l && okP q then locR q (edgesP l) false else 2 := rfl
  cases h1 : simpB l with
  | false =>
    rw [h1] at hv
    simp only [V_seq, V_ret, V_region, V_cond, brW_true, W_nil, W_cons, effOp2, KN_seq, KXr_nil, KXr_seq, QE, asB, effOp, effPure, effPick, effNew, effBox, effCall, giveUp, hasAll, skipE, pureV, pickV, partV, loadV, solid, IV.cells, ofC, strip, lkT, lkH, ISt.app, opI, gO, gB, allB, gval, wrapG, dstOK, setD, mentTm, mentHp, IV.ment, IV.mentL, oneI, lendV, lendP, lent, lentP, idsV, idsL, lkHS, flat, clean, callArgs, callFn, allLent, enumT, Gives, Ideal.Fin, conv, conv0, Op.operands, reduceIte, reduceCtorEq, cond_true, cond_false, Bool.or_false, Bool.or_true, Bool.and_true, Bool.false_and, Bool.not_true, Bool.not_false, Nat.reduceAdd, Nat.reduceLT, Nat.reduceLeDiff, Nat.reduceEqDiff, Nat.zero_add, and_true, and_false, and_self, false_implies, implies_true, List.map_cons, List.map_nil, List.nil_append, List.cons_append, List.append_nil, List.all_cons, List.all_nil, Option.bind_some, List.getElem?_cons_zero, List.getElem?_cons_succ, List.getD_cons_zero, List.length_cons, List.length_nil, List.take_succ_cons, List.take_nil, List.drop_zero, ex_clo, btf, or_self, Bool.true_eq_false, Bool.false_eq_true, tab30, hN, pe, encP, isPs_enc, toPs_enc, lk_spec_Locate_spec_isSimple, lk_spec_Locate_spec_validPoint, sp_spec_isSimple, sp_spec_validPoint, h1, hv]
  | true =>
    obtain ⟨hk, h3, h20, hnd⟩ := ring_facts (simp_ring h1)
    have hm := okPs_sm hk
    have hz : l.length ≤ 1000000 := by omega
    rw [h1] at hv
    cases h2 : okP q with
    | false =>
      rw [h2] at hv
      simp only [V_seq, V_ret, V_region, V_cond, brW_true, W_nil, W_cons, effOp2, KN_seq, KXr_nil, KXr_seq, QE, asB, effOp, effPure, effPick, effNew, effBox, effCall, giveUp, hasAll, skipE, pureV, pickV, partV, loadV, solid, IV.cells, ofC, strip, lkT, lkH, ISt.app, opI, gO, gB, allB, gval, wrapG, dstOK, setD, mentTm, mentHp, IV.ment, IV.mentL, oneI, lendV, lendP, lent, lentP, idsV, idsL, lkHS, flat, clean, callArgs, callFn, allLent, enumT, Gives, Ideal.Fin, conv, conv0, Op.operands, reduceIte, reduceCtorEq, cond_true, cond_false, Bool.or_false, Bool.and_true, Bool.and_false, Bool.not_true, Bool.not_false, Nat.reduceAdd, Nat.reduceLT, Nat.reduceLeDiff, Nat.reduceEqDiff, Nat.zero_add, beq_self_eq_true, and_false, and_self, implies_true, List.map_cons, List.map_nil, List.nil_append, List.cons_append, List.append_nil, List.all_cons, List.all_nil, Option.bind_some, List.getElem?_cons_zero, List.getElem?_cons_succ, List.getD_cons_zero, List.length_cons, List.length_nil, List.take_succ_cons, List.take_nil, List.drop_zero, ex_clo, or_self, Bool.false_eq_true, tab30, hN, pe, encP, isPs_enc, toPs_enc, lk_spec_Locate_spec_isSimple, lk_spec_Locate_spec_validPoint, sp_spec_isSimple, sp_spec_validPoint, h1, h2, hv]
    | true =>
      have hq := okP_sm h2
      rw [h2] at hv
      simp only [V_seq, V_skip, V_ret, V_region, V_cond, brW_false, W_nil, W_cons, effOp2, KN_seq, KXr_nil, QE, asB, effOp, effPure, effPick, effNew, effBox, effCall, giveUp, hasAll, skipE, pureV, pickV, partV, loadV, solid, IV.cells, ofC, strip, lkT, lkH, ISt.app, opI, gO, gB, allB, gval, wrapG, dstOK, setD, mentTm, mentHp, IV.ment, IV.mentL, oneI, lendV, lendP, lent, lentP, idsV, idsL, lkHS, flat, clean, callArgs, callFn, allLent, enumT, Gives, Ideal.Fin, conv, conv0, Op.operands, reduceIte, reduceCtorEq, cond_true, cond_false, Bool.or_false, Bool.and_true, Bool.not_true, Nat.reduceAdd, Nat.reduceLT, Nat.reduceLeDiff, Nat.reduceEqDiff, Nat.zero_add, beq_self_eq_true, and_false, and_self, implies_true, List.map_cons, List.map_nil, List.nil_append, List.cons_append, List.append_nil, List.all_cons, List.all_nil, Option.bind_some, List.getElem?_cons_zero, List.getElem?_cons_succ, List.getD_cons_zero, List.length_cons, List.length_nil, List.take_succ_cons, List.take_nil, List.drop_zero, ex_clo, or_self, Bool.false_eq_true, tab30, hN, pe, encP, isPs_enc, toPs_enc, lk_spec_Locate_spec_isSimple, lk_spec_Locate_spec_validPoint, lk_spec_Locate_spec_locate, sp_spec_isSimple, sp_spec_validPoint, sp_spec_locate, h1, h2, hm, hz, hq, hv]
def sp_spec_Locate : PSpec := ⟨fun xs => match xs with | [.sl 2 les, .agg [.num .i64 q1, .num .i64 q2]] => isPs les | _ => False, fun xs => match xs with | [.sl _ les, .agg [.num _ q1, .num _ q2]] => (fun (l : List Pt) (q : Pt) => .num .i64 (locB l q)) (toPs les) (q1, q2) | _ => .junk, false⟩
theorem gk_spec_Locate : ∀ args, sp_spec_Locate.pre args → ICall Try.prog 48 args (sp_spec_Locate.val args) := by
  intro args h
  unfold sp_spec_Locate at h ⊢; simp only at h ⊢; split at h
  · have h0 := h
    obtain ⟨l0, rfl⟩ := isP_ex h0
    simp only [toPs_enc] at *
    exact c_spec_Locate _ (_, _) 
  · exact h.elim
theorem en_spec_Locate : Enters Try.prog 48 := enters_of Try.func48 (by kernel_rfl) rfl


/-- Is it a convex polygon, counterclockwise? -/
def cvxB (l : List Pt) : Bool := simpB l && leftsP l

theorem least_bd (l : List Pt) (q : Pt) : ∀ i, -1 ≤ leastN l q i ∧ leastN l q i ≤ 1
  | 0 => by simp [leastN]
  | i + 1 => by
    have h1 := least_bd l q i
    have h2 := sgn_bd (turn (edP l i).1 (edP l i).2 q)
    rw [leastN]; omega
/-- Where a point is of a convex polygon. -/
def lcB (l : List Pt) (q : Pt) : Int := bif cvxB l && okP q then leastN l q l.length else 2

theorem latt_bd {l : List Pt} (hm : SmL l) : ∀ i : Nat, 0 ≤ lattN l i ∧ lattN l i ≤ 200000 * (i : Int)
  | 0 => by simp [lattN]
  | i + 1 => by
    have h1 := latt_bd hm i
    have s1 := hm.at i
    have s2 := hm.at ((i + 1) % l.length)
    have h2 := gcd_bd (A := 200000) (sm_sub s2.1 s1.1) (sm_sub s2.2 s1.2)
    have e : lattN l (i + 1) = lattN l i + ((Int.gcd ((pAt l ((i + 1) % l.length)).1 - (pAt l i).1) ((pAt l ((i + 1) % l.length)).2 - (pAt l i).2) : Nat) : Int) := rfl
    rw [e]; omega

def g_impl_onEdges : List (Nat × PSpec) := [(184, sp_impl_edges_v), (111, sp_impl_Point_minus), (182, sp_impl_divisor)]
theorem gok_impl_onEdges : GOK Try.prog g_impl_onEdges := gok_consO gk_impl_edges_v en_impl_edges_v (gok_cons gk_impl_Point_minus en_impl_Point_minus (gok_cons gk_impl_divisor en_impl_divisor (gok0)))
theorem lk_impl_onEdges_impl_edges_v : lkG g_impl_onEdges 184 = sp_impl_edges_v := rfl
theorem lk_impl_onEdges_impl_Point_minus : lkG g_impl_onEdges 111 = sp_impl_Point_minus := rfl
theorem lk_impl_onEdges_impl_divisor : lkG g_impl_onEdges 182 = sp_impl_divisor := rfl
def h_impl_onEdges : List (Nat × HSpec) := []
theorem hok_impl_onEdges : HOK Try.prog h_impl_onEdges := hok0
theorem c_impl_onEdges (l : List Pt) (hm : SmL l) (hsz : l.length ≤ 1000000) : ICall Try.prog 124 [.sl 2 (encPs l)] (.num .i64 (lattP l)) := by
  refine icall_V (G := g_impl_onEdges) (H := []) [] tabOK mixed gok_impl_onEdges hok_impl_onEdges Try.func124 rfl Try.ntmps124 Try.results124 rfl (by kernel_rfl) fun F hN hlen => ?_
  have el := len_encPs l
  have ee : (edgesP l).length = l.length := by rw [edgesP, edgesN_len]
  have eq : (encQs (edgesP l)).length = l.length := by rw [len_encQs, ee]
  simp only [V_seq, V_block, V_region, W_nil, W_cons, effOp2, KN_seq, effOp, effPure, effCall, giveUp, hasAll, pureV, lenV, ofC, strip, lkT, lkH, ISt.app, opI, gO, gB, allB, gval, wrapG, dstOK, setD, lendV, lendP, lent, lentP, idsV, idsL, lkHS, flat, clean, callArgs, callFn, allLent, enumT, Op.operands, Call.operands, List.append_toArray, reduceIte, reduceCtorEq, cond_true, Bool.or_false, Bool.or_true, Bool.not_true, Nat.reduceLT, Nat.reduceEqDiff, ne_eq, not_false_eq_true, true_and, and_self, implies_true, List.map_cons, List.map_nil, List.nil_append, List.cons_append, List.append_nil, ex_clo, or_self, tab73, hN, isPs_enc, toPs_enc, lk_impl_onEdges_impl_edges_v, sp_impl_edges_v, eq, hsz]
  refine V_loop (α := Nat) ⟨tabOK, mixed, gok_impl_onEdges, hok_impl_onEdges⟩ (by kernel_rfl) (fun i => i ≤ l.length) (fun i => ⟨[(10, .num .i64 i), (9, .num .i64 l.length), (8, .sl 4 (encQs (edgesP l))), (3, .num .i64 (lattN l i))], []⟩) (fun i => l.length - i) 0 id (Nat.zero_le _) (by simp [SLe, SLe0, convTm, convHp, conv, conv0, lkT, lkH, clean, lattN]) ?_
  intro i hi
  simp only [V_seq, V_region, V_cond, W_nil, W_cons, effOp2, KN_seq, asB, effOp, effPure, pureV, binV, strip, lkT, ISt.app, opI, gO, gB, allB, gval, wrapG, dstOK, setD, Op.operands, reduceIte, Nat.reduceLT, Nat.reduceEqDiff, true_and, and_self, implies_true, List.nil_append, List.cons_append, List.append_nil, hN]
  refine brW_some (fun h => ?_) (fun h => ?_)
  · have hi' : i < l.length := by simpa using h
    have g0 := getD_encQs (l := edgesP l) (i := i) (by omega)
    rw [edgesP_at hi'] at g0
    have hw := wr_succ hi' (by rw [maxLen_eq]; omega)
    have s0 := hm.edge i
    have hb := latt_bd hm i
    have hst : lattN l (i + 1) = lattN l i + ((Int.gcd ((edgeP l i).2.1 - (edgeP l i).1.1) ((edgeP l i).2.2 - (edgeP l i).1.2) : Nat) : Int) := rfl
    generalize edgeP l i = e at *
    have m1 := sm_sub s0.2.1 s0.1.1
    have m2 := sm_sub s0.2.2 s0.1.2
    have h2 := gcd_bd (A := 200000) m1 m2
    have w3 : IntKind.i64.wrap (lattN l i + ((Int.gcd (e.2.1 - e.1.1) (e.2.2 - e.1.2) : Nat) : Int)) = lattN l (i + 1) := by rw [hst]; exact wr (by omega) (by omega)
    simp only [V_seq, V_skip, V_block, V_region, W_nil, W_cons, effOp2, KN_seq, KN_block, KN_back, effOp, effPure, effNew, effAlloc, effStore, effCall, giveUp, hasAll, skipE, pureV, storeV, binV, partV, eltV, loadV, faddrV, iaddrV, over, solid, IV.cells, ofC, strip, lkT, lkH, ISt.app, opI, gO, gB, allB, gval, wrapG, dstOK, setD, mentTm, mentHp, IV.ment, IV.mentL, oneI, lendV, lendP, lent, lentP, idsV, idsL, lkHS, flat, flatL, clean, cleanL, callArgs, callFn, allLent, IBlk.shape, Op.operands, reduceIte, reduceCtorEq, cond_true, Bool.or_false, Bool.and_true, Bool.not_true, Nat.reduceAdd, Nat.reduceLT, Nat.reduceLeDiff, Nat.reduceEqDiff, Nat.reduceBEq, Nat.add_zero, Nat.zero_add, ne_eq, not_false_eq_true, true_and, and_true, and_false, and_self, implies_true, forall_const, List.map_cons, List.map_nil, List.nil_append, List.cons_append, List.append_nil, List.all_cons, List.all_nil, Option.map_some, List.getD_cons_zero, List.getD_cons_succ, List.length_cons, List.length_nil, List.take_succ_cons, List.take_zero, List.take_nil, List.drop_succ_cons, List.drop_zero, List.drop_nil, ex_clo, or_self, tab3, tab30, tab68, tab73, hN, Int.toNat_natCast, encP, lk_impl_onEdges_impl_Point_minus, lk_impl_onEdges_impl_divisor, sp_impl_Point_minus, sp_impl_divisor, eq, g0, hw, w3, wayP]
    repeat refine And.intro (by first | omega | (simp; done) | (simp; omega)) ?_
    exact ⟨i + 1, id, by simp only []; omega, by simp only []; omega, by simp [SLe, SLe0, convTm, convHp, conv, conv0, lkT, lkH, clean]⟩
  · have hie : i = l.length := by simp at h; omega
    subst hie
    have hv : lattN l l.length = lattP l := rfl
    simp only [V_seq, V_ret, V_exit, V_region, W_nil, W_cons, effOp2, KN_seq, KXr_nil, KXe_nil, KXe_seq, KXe_block, KXe_back, QE, effOp, effPure, pureV, strip, lkT, lkH, ISt.app, opI, gO, gB, allB, gval, wrapG, dstOK, setD, clean, Gives, Ideal.Fin, conv, conv0, Op.operands, reduceIte, Nat.reduceLT, Nat.reduceEqDiff, and_self, implies_true, List.nil_append, List.cons_append, List.append_nil, hN, hv]
def sp_impl_onEdges : PSpec := ⟨fun xs => match xs with | [.sl 2 les] => isPs les ∧ ((fun (l : List Pt) => SmL l) (toPs les)) ∧ ((fun (l : List Pt) => l.length ≤ 1000000) (toPs les)) | _ => False, fun xs => match xs with | [.sl _ les] => (fun (l : List Pt) => .num .i64 (lattP l)) (toPs les) | _ => .junk, false⟩
theorem gk_impl_onEdges : ∀ args, sp_impl_onEdges.pre args → ICall Try.prog 124 args (sp_impl_onEdges.val args) := by
  intro args h
  unfold sp_impl_onEdges at h ⊢; simp only at h ⊢; split at h
  · obtain ⟨h0, h1, h2⟩ := h
    obtain ⟨l0, rfl⟩ := isP_ex h0
    simp only [toPs_enc] at *
    exact c_impl_onEdges _ h1 h2
  · exact h.elim
theorem en_impl_onEdges : Enters Try.prog 124 := enters_of Try.func124 (by kernel_rfl) rfl

def g_spec_boundaryCount : List (Nat × PSpec) := [(158, sp_spec_abs), (188, sp_spec_gcd)]
theorem gok_spec_boundaryCount : GOK Try.prog g_spec_boundaryCount := gok_cons gk_spec_abs en_spec_abs (gok_cons gk_spec_gcd en_spec_gcd (gok0))
theorem lk_spec_boundaryCount_spec_abs : lkG g_spec_boundaryCount 158 = sp_spec_abs := rfl
theorem lk_spec_boundaryCount_spec_gcd : lkG g_spec_boundaryCount 188 = sp_spec_gcd := rfl
def h_spec_boundaryCount : List (Nat × HSpec) := []
theorem hok_spec_boundaryCount : HOK Try.prog h_spec_boundaryCount := hok0
theorem c_spec_boundaryCount (l : List Pt) (hm : SmL l) (hsz : l.length ≤ 1000000) : ICall Try.prog 125 [.sl 2 (encPs l)] (.num .i64 (lattP l)) := by
  refine icall_V (G := g_spec_boundaryCount) (H := []) [(6, [(0, 9), (1, 9), (2, 9), (3, 9), (4, 9), (5, 9), (6, 9), (7, 9), (9, 10), (9, 11), (9, 12), (9, 13), (9, 14), (9, 15), (9, 16), (9, 17), (0, 18), (1, 18), (2, 18), (3, 18), (4, 18), (5, 18), (6, 18), (7, 18), (8, 18), (10, 18), (11, 18), (12, 18), (13, 18), (14, 18), (15, 18), (16, 18), (0, 19), (1, 19), (2, 19), (3, 19), (4, 19), (5, 19), (6, 19), (7, 19), (8, 19), (10, 19), (11, 19), (12, 19), (13, 19), (14, 19), (15, 19), (16, 19), (17, 19), (9, 20), (18, 20)])] tabOK mixed gok_spec_boundaryCount hok_spec_boundaryCount Try.func125 rfl Try.ntmps125 Try.results125 rfl (by kernel_rfl) fun F hN hlen => ?_
  have el := len_encPs l
  simp only [V_seq, V_block, V_region, W_nil, W_cons, effOp2, KN_seq, effOp, effPure, pureV, ofC, strip, ISt.app, opI, gO, gB, allB, gval, wrapG, dstOK, setD, enumT, Op.operands, Nat.reduceLT, true_and, and_self, implies_true, List.nil_append, List.cons_append, List.append_nil, hN]
  refine V_loop (α := Nat) ⟨tabOK, mixed, gok_spec_boundaryCount, hok_spec_boundaryCount⟩ (by kernel_rfl) (fun i => i ≤ l.length) (fun i => ⟨[(4, .num .i64 i), (3, .num .i64 (lattN l i)), (0, .sl 2 (encPs l))], []⟩) (fun i => l.length - i) 0 id (Nat.zero_le _) (by simp [SLe, SLe0, convTm, convHp, conv, conv0, lkT, lkH, clean, lattN]) ?_
  intro i hi
  simp only [V_seq, V_region, V_cond, W_nil, W_cons, effOp2, KN_seq, asB, effOp, effPure, pureV, binV, lenV, strip, lkT, ISt.app, opI, gO, gB, allB, gval, wrapG, dstOK, setD, Op.operands, Call.operands, List.append_toArray, reduceIte, reduceCtorEq, Nat.reduceLT, Nat.reduceEqDiff, ne_eq, not_false_eq_true, true_and, and_self, implies_true, List.nil_append, List.cons_append, List.append_nil, tab23, hN, el]
  refine brW_some (fun h => ?_) (fun h => ?_)
  · have hi' : i < l.length := by simpa using h
    have hn : (i + 1) % l.length < l.length := Nat.mod_lt _ (by omega)
    have g0 := getD_encPs hi'
    have g1 := getD_encPs hn
    have hw := wr_succ hi' (by rw [maxLen_eq]; omega)
    have t1 : ((i + 1 : Nat) : Int).tmod (l.length : Int) = (((i + 1) % l.length : Nat) : Int) := by rw [Int.tmod_eq_emod_of_nonneg (by omega)]; simp
    have s1 := hm.at i
    have s2 := hm.at ((i + 1) % l.length)
    have hb := latt_bd hm i
    have hst : lattN l (i + 1) = lattN l i + ((Int.gcd ((pAt l ((i + 1) % l.length)).1 - (pAt l i).1) ((pAt l ((i + 1) % l.length)).2 - (pAt l i).2) : Nat) : Int) := rfl
    generalize pAt l ((i + 1) % l.length) = q at *
    generalize pAt l i = p at *
    have m1 := sm_sub s2.1 s1.1
    have m2 := sm_sub s2.2 s1.2
    have h2 := gcd_bd (A := 200000) m1 m2
    have w1 : IntKind.i64.wrap (q.1 - p.1) = q.1 - p.1 := wr (by omega) (by omega)
    have w2 : IntKind.i64.wrap (q.2 - p.2) = q.2 - p.2 := wr (by omega) (by omega)
    have w3 : IntKind.i64.wrap (lattN l i + ((Int.gcd (q.1 - p.1) (q.2 - p.2) : Nat) : Int)) = lattN l (i + 1) := by rw [hst]; exact wr (by omega) (by omega)
    have a1 : 0 ≤ absI (q.1 - p.1) ∧ absI (q.1 - p.1) ≤ 9223372036854775807 := by unfold absI; split <;> omega
    have a2 : 0 ≤ absI (q.2 - p.2) ∧ absI (q.2 - p.2) ≤ 9223372036854775807 := by unfold absI; split <;> omega
    simp only [V_seq, V_skip, V_block, V_region, V_draw, drawW, WS_nil, pairsOf, W_nil, W_cons, effOp2, effOp3, WI_nil, WI_cons, KN_seq, KN_block, KN_back, dynOK, indB, farB, freshB, freshK, freshK1, heapy, effOp, effPure, effNew, effAlloc, effStore, effCall, giveUp, hasAll, skipE, pureV, storeV, binV, partV, eltV, loadV, faddrV, iaddrV, lenV, over, solid, IV.cells, ofC, strip, lkT, lkH, ISt.app, opI, gO, gB, allB, gval, wrapG, dstOK, setD, mentTm, mentHp, IV.ment, IV.mentL, oneI, lendV, lendP, lent, lentP, idsV, idsL, lkHS, flat, clean, callArgs, callFn, allLent, IBlk.shape, Op.operands, Call.operands, List.append_toArray, reduceIte, reduceCtorEq, cond_true, cond_false, Bool.or_false, Bool.and_true, Bool.and_eq_true, Bool.not_true, Bool.not_false, Nat.reduceAdd, Nat.reduceLT, Nat.reduceLeDiff, Nat.reduceEqDiff, Nat.reduceBEq, Nat.add_zero, Nat.zero_add, ne_eq, not_false_eq_true, true_and, and_true, and_false, and_self, implies_true, forall_const, List.map_cons, List.map_nil, List.nil_append, List.cons_append, List.append_nil, List.all_cons, List.all_nil, Option.map_some, List.getD_cons_zero, List.getD_cons_succ, List.length_cons, List.length_nil, List.take_succ_cons, List.take_zero, List.take_nil, List.drop_succ_cons, List.drop_zero, List.drop_nil, ex_clo, or_self, tab3, tab23, tab30, hN, Int.toNat_natCast, lk_spec_boundaryCount_spec_abs, lk_spec_boundaryCount_spec_gcd, sp_spec_abs, sp_spec_gcd, el, g0, g1, hw, t1, w1, w2, w3, a1, a2, abs_gcd]
    repeat refine And.intro (by first | omega | (simp; done) | (simp; omega)) ?_
    exact ⟨i + 1, id, by simp only []; omega, by simp only []; omega, by simp [SLe, SLe0, convTm, convHp, conv, conv0, lkT, lkH, clean]⟩
  · have hie : i = l.length := by simp at h; omega
    subst hie
    have hv : lattN l l.length = lattP l := rfl
    simp only [V_seq, V_ret, V_exit, V_region, W_nil, W_cons, effOp2, KN_seq, KXr_nil, KXe_nil, KXe_seq, KXe_block, KXe_back, QE, effOp, effPure, pureV, strip, lkT, lkH, ISt.app, opI, gO, gB, allB, gval, wrapG, dstOK, setD, clean, Gives, Ideal.Fin, conv, conv0, Op.operands, reduceIte, reduceCtorEq, Nat.reduceLT, Nat.reduceEqDiff, and_self, implies_true, List.nil_append, List.cons_append, List.append_nil, hN, hv]
def sp_spec_boundaryCount : PSpec := ⟨fun xs => match xs with | [.sl 2 les] => isPs les ∧ ((fun (l : List Pt) => SmL l) (toPs les)) ∧ ((fun (l : List Pt) => l.length ≤ 1000000) (toPs les)) | _ => False, fun xs => match xs with | [.sl _ les] => (fun (l : List Pt) => .num .i64 (lattP l)) (toPs les) | _ => .junk, false⟩
theorem gk_spec_boundaryCount : ∀ args, sp_spec_boundaryCount.pre args → ICall Try.prog 125 args (sp_spec_boundaryCount.val args) := by
  intro args h
  unfold sp_spec_boundaryCount at h ⊢; simp only at h ⊢; split at h
  · obtain ⟨h0, h1, h2⟩ := h
    obtain ⟨l0, rfl⟩ := isP_ex h0
    simp only [toPs_enc] at *
    exact c_spec_boundaryCount _ h1 h2
  · exact h.elim
theorem en_spec_boundaryCount : Enters Try.prog 125 := enters_of Try.func125 (by kernel_rfl) rfl


/-- Twice the area of a simple polygon. -/
def dareaP (l : List Pt) : Int := bif simpB l then areaP l else 0
/-- The count of lattice points on the boundary. -/
def bcP (l : List Pt) : Int := bif simpB l then lattP l else -1
def g_impl_BoundaryCount : List (Nat × PSpec) := [(116, sp_impl_simple), (124, sp_impl_onEdges)]
theorem gok_impl_BoundaryCount : GOK Try.prog g_impl_BoundaryCount := gok_cons gk_impl_simple en_impl_simple (gok_cons gk_impl_onEdges en_impl_onEdges (gok0))
theorem lk_impl_BoundaryCount_impl_simple : lkG g_impl_BoundaryCount 116 = sp_impl_simple := rfl
theorem lk_impl_BoundaryCount_impl_onEdges : lkG g_impl_BoundaryCount 124 = sp_impl_onEdges := rfl
def h_impl_BoundaryCount : List (Nat × HSpec) := []
theorem hok_impl_BoundaryCount : HOK Try.prog h_impl_BoundaryCount := hok0
theorem c_impl_BoundaryCount (l : List Pt)  : ICall Try.prog 57 [.sl 2 (encPs l)] (.num .i64 (bcP l)) := by
  refine icall_V (G := g_impl_BoundaryCount) (H := []) [] tabOK mixed gok_impl_BoundaryCount hok_impl_BoundaryCount Try.func57 rfl Try.ntmps57 Try.results57 rfl (by kernel_rfl) fun F hN hlen => ?_
  have hv : bcP l = bif simpB l then lattP l else -1 := rfl
  cases h1 : simpB l with
  | false =>
    rw [h1, cond_false] at hv
    simp only [V_seq, V_ret, V_region, V_cond, brW_true, W_nil, W_cons, effOp2, KN_seq, KXr_nil, KXr_seq, QE, asB, effOp, effPure, effCall, giveUp, hasAll, pureV, ofC, strip, lkT, lkH, ISt.app, opI, gO, gB, allB, gval, wrapG, dstOK, setD, lendV, lendP, lent, lentP, idsV, idsL, lkHS, flat, clean, callArgs, callFn, allLent, enumT, Gives, Ideal.Fin, conv, conv0, Op.operands, reduceIte, reduceCtorEq, cond_true, Bool.or_false, Bool.not_true, Bool.not_false, Nat.reduceLT, Nat.reduceEqDiff, and_self, implies_true, List.map_cons, List.map_nil, List.nil_append, List.cons_append, List.append_nil, ex_clo, or_self, hN, isPs_enc, toPs_enc, lk_impl_BoundaryCount_impl_simple, sp_impl_simple, h1, hv]
  | true =>
    obtain ⟨hk, h3, h20, hnd⟩ := ring_facts (simp_ring h1)
    have hm := okPs_sm hk
    have hz : l.length ≤ 1000000 := by omega
    rw [h1, cond_true] at hv
    simp only [V_seq, V_skip, V_ret, V_region, V_cond, brW_false, W_nil, W_cons, effOp2, KN_seq, KXr_nil, QE, asB, effOp, effPure, effCall, giveUp, hasAll, pureV, ofC, strip, lkT, lkH, ISt.app, opI, gO, gB, allB, gval, wrapG, dstOK, setD, lendV, lendP, lent, lentP, idsV, idsL, lkHS, flat, clean, callArgs, callFn, allLent, enumT, Gives, Ideal.Fin, conv, conv0, Op.operands, reduceIte, reduceCtorEq, cond_true, Bool.or_false, Bool.not_true, Nat.reduceLT, Nat.reduceEqDiff, and_self, implies_true, List.map_cons, List.map_nil, List.nil_append, List.cons_append, List.append_nil, ex_clo, or_self, hN, isPs_enc, toPs_enc, lk_impl_BoundaryCount_impl_simple, lk_impl_BoundaryCount_impl_onEdges, sp_impl_simple, sp_impl_onEdges, h1, hm, hz, hv]
def sp_impl_BoundaryCount : PSpec := ⟨fun xs => match xs with | [.sl 2 les] => isPs les | _ => False, fun xs => match xs with | [.sl _ les] => (fun (l : List Pt) => .num .i64 (bcP l)) (toPs les) | _ => .junk, false⟩
theorem gk_impl_BoundaryCount : ∀ args, sp_impl_BoundaryCount.pre args → ICall Try.prog 57 args (sp_impl_BoundaryCount.val args) := by
  intro args h
  unfold sp_impl_BoundaryCount at h ⊢; simp only at h ⊢; split at h
  · have h0 := h
    obtain ⟨l0, rfl⟩ := isP_ex h0
    simp only [toPs_enc] at *
    exact c_impl_BoundaryCount _ 
  · exact h.elim
theorem en_impl_BoundaryCount : Enters Try.prog 57 := enters_of Try.func57 (by kernel_rfl) rfl

def g_spec_BoundaryCount : List (Nat × PSpec) := [(119, sp_spec_isSimple), (125, sp_spec_boundaryCount)]
theorem gok_spec_BoundaryCount : GOK Try.prog g_spec_BoundaryCount := gok_cons gk_spec_isSimple en_spec_isSimple (gok_cons gk_spec_boundaryCount en_spec_boundaryCount (gok0))
theorem lk_spec_BoundaryCount_spec_isSimple : lkG g_spec_BoundaryCount 119 = sp_spec_isSimple := rfl
theorem lk_spec_BoundaryCount_spec_boundaryCount : lkG g_spec_BoundaryCount 125 = sp_spec_boundaryCount := rfl
def h_spec_BoundaryCount : List (Nat × HSpec) := []
theorem hok_spec_BoundaryCount : HOK Try.prog h_spec_BoundaryCount := hok0
theorem c_spec_BoundaryCount (l : List Pt)  : ICall Try.prog 58 [.sl 2 (encPs l)] (.num .i64 (bcP l)) := by
  refine icall_V (G := g_spec_BoundaryCount) (H := []) [] tabOK mixed gok_spec_BoundaryCount hok_spec_BoundaryCount Try.func58 rfl Try.ntmps58 Try.results58 rfl (by kernel_rfl) fun F hN hlen => ?_
  have hv : bcP l = bif simpB l then lattP l else -1 := rfl
  cases h1 : simpB l with
  | false =>
    rw [h1, cond_false] at hv
    simp only [V_seq, V_ret, V_region, V_cond, brW_true, W_nil, W_cons, effOp2, KN_seq, KXr_nil, KXr_seq, QE, asB, effOp, effPure, effCall, giveUp, hasAll, pureV, ofC, strip, lkT, lkH, ISt.app, opI, gO, gB, allB, gval, wrapG, dstOK, setD, lendV, lendP, lent, lentP, idsV, idsL, lkHS, flat, clean, callArgs, callFn, allLent, enumT, Gives, Ideal.Fin, conv, conv0, Op.operands, reduceIte, reduceCtorEq, cond_true, Bool.or_false, Bool.not_true, Bool.not_false, Nat.reduceLT, Nat.reduceEqDiff, and_self, implies_true, List.map_cons, List.map_nil, List.nil_append, List.cons_append, List.append_nil, ex_clo, or_self, hN, isPs_enc, toPs_enc, lk_spec_BoundaryCount_spec_isSimple, sp_spec_isSimple, h1, hv]
  | true =>
    obtain ⟨hk, h3, h20, hnd⟩ := ring_facts (simp_ring h1)
    have hm := okPs_sm hk
    have hz : l.length ≤ 1000000 := by omega
    rw [h1, cond_true] at hv
    simp only [V_seq, V_skip, V_ret, V_region, V_cond, brW_false, W_nil, W_cons, effOp2, KN_seq, KXr_nil, QE, asB, effOp, effPure, effCall, giveUp, hasAll, pureV, ofC, strip, lkT, lkH, ISt.app, opI, gO, gB, allB, gval, wrapG, dstOK, setD, lendV, lendP, lent, lentP, idsV, idsL, lkHS, flat, clean, callArgs, callFn, allLent, enumT, Gives, Ideal.Fin, conv, conv0, Op.operands, reduceIte, reduceCtorEq, cond_true, Bool.or_false, Bool.not_true, Nat.reduceLT, Nat.reduceEqDiff, and_self, implies_true, List.map_cons, List.map_nil, List.nil_append, List.cons_append, List.append_nil, ex_clo, or_self, hN, isPs_enc, toPs_enc, lk_spec_BoundaryCount_spec_isSimple, lk_spec_BoundaryCount_spec_boundaryCount, sp_spec_isSimple, sp_spec_boundaryCount, h1, hm, hz, hv]
def sp_spec_BoundaryCount : PSpec := ⟨fun xs => match xs with | [.sl 2 les] => isPs les | _ => False, fun xs => match xs with | [.sl _ les] => (fun (l : List Pt) => .num .i64 (bcP l)) (toPs les) | _ => .junk, false⟩
theorem gk_spec_BoundaryCount : ∀ args, sp_spec_BoundaryCount.pre args → ICall Try.prog 58 args (sp_spec_BoundaryCount.val args) := by
  intro args h
  unfold sp_spec_BoundaryCount at h ⊢; simp only at h ⊢; split at h
  · have h0 := h
    obtain ⟨l0, rfl⟩ := isP_ex h0
    simp only [toPs_enc] at *
    exact c_spec_BoundaryCount _ 
  · exact h.elim
theorem en_spec_BoundaryCount : Enters Try.prog 58 := enters_of Try.func58 (by kernel_rfl) rfl

/-- The count of lattice points inside. -/
def insideP (l : List Pt) : Int := (absI (areaP l) - lattP l + 2).tdiv 2
def icP (l : List Pt) : Int := bif simpB l then insideP l else -1

end Go.Proofs.Ytemppebemahkoaa
