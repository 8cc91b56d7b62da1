/- Contracts: where points lie of polygons; convex polygons; lattice points. -/
import Derived.Test.YtmcpjnaedgpenaaB20
set_option linter.unusedVariables false
set_option linter.unusedSimpArgs false
set_option maxRecDepth 100000
namespace Go.Proofs.Ytmcpjnaedgpenaa
open Go Go.Ideal Go.Pl Go.Sort

/-- Inside or outside, as a number. -/
def sgB (b : Bool) : Int := if b then 1 else -1
theorem sgB_neg (b : Bool) : IntKind.i64.wrap (-(sgB b)) = sgB (!b) := by cases b <;> decide
theorem loc_step {q : Pt} {E : List Qd} {i : Nat} (hi : i < E.length) (b : Bool) : locR q (E.drop i) b = if onS (qAt E i) q then 0 else locR q (E.drop (i + 1)) (b ^^ rayP (qAt E i) q) := by
  have : E.drop i = qAt E i :: E.drop (i + 1) := by
    rw [List.drop_eq_getElem_cons hi]; simp [qAt, List.getD, hi]
  rw [this]; rfl
theorem ray_of {e f : Qd} (q : Pt) (hf : f = if e.2.2 < e.1.2 then (e.2, e.1) else e) : rayP e q = (decide (f.1.2 ≤ q.2) && decide (q.2 < f.2.2) && decide (0 < turn f.1 f.2 q)) := by
  subst hf; rfl
theorem sq_swap {e : Qd} (h : SmQ e) : SmQ (e.2, e.1) := ⟨h.2, h.1⟩
theorem loc_end {q : Pt} {E : List Qd} (b : Bool) : locR q (E.drop E.length) b = sgB b := by rw [List.drop_length]; rfl

def g_impl_locate : List (Nat × PSpec) := [(87, sp_impl_edges_v), (135, sp_impl_Segment_has), (89, sp_impl_turn)]
theorem gok_impl_locate : GOK Try.prog g_impl_locate := gok_consO gk_impl_edges_v en_impl_edges_v (gok_cons gk_impl_Segment_has en_impl_Segment_has (gok_cons gk_impl_turn en_impl_turn (gok0)))
theorem lk_impl_locate_impl_edges_v : lkG g_impl_locate 87 = sp_impl_edges_v := rfl
theorem lk_impl_locate_impl_Segment_has : lkG g_impl_locate 135 = sp_impl_Segment_has := rfl
theorem lk_impl_locate_impl_turn : lkG g_impl_locate 89 = sp_impl_turn := rfl
def h_impl_locate : List (Nat × HSpec) := []
theorem hok_impl_locate : HOK Try.prog h_impl_locate := hok0
theorem c_impl_locate (l : List Pt) (q : Pt) (hm : SmL l) (hq : Sm q) (hsz : l.length ≤ 1000000) : ICall Try.prog 91 [.sl 2 (encPs l), encP q] (.num .i64 (locR q (edgesP l) false)) := by
  refine icall_V (G := g_impl_locate) (H := []) [(7, [(0, 4), (1, 4), (2, 4), (3, 4), (0, 5), (1, 5), (2, 5), (3, 5), (4, 5), (2, 6), (3, 6)])] tabOK mixed gok_impl_locate hok_impl_locate Try.func91 rfl Try.ntmps91 Try.results91 rfl (by kernel_rfl) fun F hN hlen => ?_
  have el := len_encPs l
  have ee : (edgesP l).length = l.length := by rw [edgesP, edgesN_len]
  have eq : (encQs (edgesP l)).length = l.length := by rw [len_encQs, ee]
  simp only [V_seq, V_block, V_region, W_nil, W_cons, effOp2, KN_seq, effOp, effPure, effNew, effBox, effCall, giveUp, hasAll, skipE, pureV, lenV, solid, IV.cells, ofC, strip, lkT, lkH, ISt.app, opI, gO, gB, allB, gval, wrapG, dstOK, setD, mentTm, mentHp, IV.ment, IV.mentL, oneI, lendV, lendP, lent, lentP, idsV, idsL, lkHS, flat, clean, callArgs, callFn, allLent, enumT, Op.operands, Call.operands, List.append_toArray, reduceIte, reduceCtorEq, cond_true, Bool.or_false, Bool.or_true, Bool.and_true, Bool.not_true, Nat.reduceLT, Nat.reduceEqDiff, Nat.zero_add, ne_eq, not_false_eq_true, true_and, and_self, implies_true, List.map_cons, List.map_nil, List.nil_append, List.cons_append, List.append_nil, List.all_cons, List.all_nil, ex_clo, or_self, tab73, hN, encP, isPs_enc, toPs_enc, lk_impl_locate_impl_edges_v, sp_impl_edges_v, eq, hsz]
  refine V_loop (α := Nat × Bool) ⟨tabOK, mixed, gok_impl_locate, hok_impl_locate⟩ (by kernel_rfl) (fun a => a.1 ≤ l.length ∧ locR q (edgesP l) false = locR q ((edgesP l).drop a.1) a.2) (fun a => ⟨[(13, .num .i64 a.1), (12, .num .i64 l.length), (11, .sl 4 (encQs (edgesP l))), (5, .num .i64 (sgB a.2)), (3, .ptr 3 0)], [(3, some (.box 30 [.num .i64 q.1, .num .i64 q.2]))]⟩) (fun a => l.length - a.1) (0, false) id ⟨Nat.zero_le _, rfl⟩ (by simp [SLe, SLe0, convTm, convHp, convB, conv, conv0, convL, lkT, lkH, clean, sgB]) ?_
  rintro ⟨i, b⟩ ⟨hi, hj⟩
  simp only [] at hi hj
  simp only [V_seq, V_region, V_cond, W_nil, W_cons, effOp2, KN_seq, asB, effOp, effPure, pureV, binV, strip, lkT, ISt.app, opI, gO, gB, allB, gval, wrapG, dstOK, setD, Op.operands, reduceIte, Nat.reduceLT, Nat.reduceEqDiff, true_and, and_self, implies_true, List.nil_append, List.cons_append, hN]
  refine brW_some (fun h => ?_) (fun h => ?_)
  · have hi' : i < l.length := by simpa using h
    have g0 := getD_encQs (l := edgesP l) (i := i) (by omega)
    have hst := loc_step (q := q) (E := edgesP l) (i := i) (by omega) b
    rw [edgesP_at hi'] at g0 hst
    have hw := wr_succ hi' (by rw [maxLen_eq]; omega)
    have s0 := hm.edge i
    obtain ⟨e, he⟩ : ∃ e, edgeP l i = e := ⟨_, rfl⟩
    rw [he] at g0 hst s0
    cases c0 : onS e q with
    | true =>
      rw [if_pos c0] at hst
      simp only [V_seq, V_skip, V_ret, V_block, V_region, V_cond, brW_true, W_nil, W_cons, effOp2, KN_seq, KXr_nil, KXr_seq, KXr_block, KXr_back, QE, asB, effOp, effPure, effNew, effAlloc, effStore, effCall, giveUp, hasAll, skipE, pureV, storeV, partV, eltV, loadV, iaddrV, over, solid, IV.cells, ofC, strip, lkT, lkH, ISt.app, opI, gO, gB, allB, gval, wrapG, dstOK, setD, mentTm, mentHp, IV.ment, IV.mentL, oneI, lendV, lendP, lent, lentP, idsV, idsL, lkHS, flat, clean, callArgs, callFn, allLent, Gives, Ideal.Fin, conv, conv0, Op.operands, reduceIte, reduceCtorEq, cond_true, Bool.or_false, Bool.and_true, Bool.not_true, Nat.reduceAdd, Nat.reduceLT, Nat.reduceLeDiff, Nat.reduceEqDiff, Nat.reduceBEq, Nat.zero_add, ne_eq, not_false_eq_true, true_and, and_true, and_false, and_self, implies_true, forall_const, List.map_cons, List.map_nil, List.nil_append, List.cons_append, List.append_nil, List.all_cons, List.all_nil, List.getD_cons_zero, List.length_cons, List.length_nil, List.take_succ_cons, List.take_zero, List.take_nil, List.drop_succ_cons, List.drop_zero, List.drop_nil, ex_clo, or_self, tab30, tab73, tab76, hN, pe, Int.toNat_natCast, lk_impl_locate_impl_Segment_has, sp_impl_Segment_has, eq, g0, s0, hq, c0, hj, hst]
      try omega
    | false =>
      rw [if_neg (by rw [c0]; decide)] at hst
      have go : ∀ b2, b2 = (b ^^ rayP e q) → locR q (edgesP l) false = locR q ((edgesP l).drop (i + 1)) b2 := fun b2 hb => by rw [hj, hst, hb]
      cases d0 : decide (e.2.2 < e.1.2) with
      | true =>
        have hr := ray_of (e := e) (f := (e.2, e.1)) q (by rw [if_pos (of_decide_eq_true d0)])
        simp only [] at hr
        have s1 := s0.2
        have s2 := s0.1
        cases c1 : decide (e.2.2 ≤ q.2) with
        | false =>
          rw [c1, Bool.false_and, Bool.false_and] at hr
          simp only [V_seq, V_skip, V_block, V_region, V_draw, V_cond, brW_true, brW_false, drawW, WS_nil, pairsOf, W_nil, W_cons, effOp2, WI_nil, WI_cons, KN_seq, KN_block, KN_back, dynOK, indB, farB, seeB, see, isStore, freshB, heapy, asB, effOp, effPure, effPick, effNew, effAlloc, effStore, effCall, giveUp, hasAll, skipE, pureV, pickV, storeV, binV, partV, eltV, loadV, faddrV, iaddrV, over, solid, IV.cells, ofC, strip, lkT, lkH, ISt.app, opI, gO, gB, allB, gval, wrapG, dstOK, setD, mentTm, mentHp, IV.ment, IV.mentL, oneI, lendV, lendP, lent, lentP, idsV, idsL, lkHS, flat, clean, callArgs, callFn, allLent, IBlk.shape, Op.operands, reduceIte, reduceCtorEq, cond_true, cond_false, Bool.or_false, Bool.or_true, Bool.and_true, Bool.and_false, Bool.and_eq_true, Bool.not_true, Bool.not_false, Nat.reduceAdd, Nat.reduceLT, Nat.reduceLeDiff, Nat.reduceEqDiff, Nat.reduceBEq, Nat.add_zero, Nat.zero_add, ne_eq, not_false_eq_true, beq_self_eq_true, true_and, and_true, and_false, and_self, false_implies, implies_true, forall_const, List.map_cons, List.map_nil, List.nil_append, List.cons_append, List.append_nil, List.all_cons, List.all_nil, Option.map_some, Option.bind_some, List.getElem?_cons_zero, List.getElem?_cons_succ, List.getD_cons_zero, List.getD_cons_succ, List.length_cons, List.length_nil, List.take_succ_cons, List.take_zero, List.take_nil, List.drop_succ_cons, List.drop_zero, List.drop_nil, ex_clo, bft, or_self, Bool.false_eq_true, tab3, tab30, tab73, tab76, hN, pe, Int.toNat_natCast, lk_impl_locate_impl_Segment_has, lk_impl_locate_impl_turn, sp_impl_Segment_has, sp_impl_turn, eq, g0, s0, s1, s2, hq, c0, d0, c1, hw]
          repeat refine And.intro (by first | omega | (simp; done) | (simp; omega)) ?_
          exact ⟨(i + 1, b), id, ⟨by simp only []; omega, go b (by rw [hr, Bool.xor_false])⟩, by simp only []; omega, by simp [SLe, SLe0, convTm, convHp, convB, conv, conv0, convL, lkT, lkH, clean]⟩
        | true =>
          cases c2 : decide (q.2 < e.1.2) with
          | false =>
            rw [c2, Bool.and_false, Bool.false_and] at hr
            simp only [V_seq, V_skip, V_block, V_region, V_draw, V_cond, brW_true, brW_false, drawW, WS_nil, pairsOf, W_nil, W_cons, effOp2, WI_nil, WI_cons, KN_seq, KN_block, KN_back, dynOK, indB, farB, seeB, see, isStore, freshB, heapy, asB, effOp, effPure, effPick, effNew, effAlloc, effStore, effCall, giveUp, hasAll, skipE, pureV, pickV, storeV, binV, partV, eltV, loadV, faddrV, iaddrV, over, solid, IV.cells, ofC, strip, lkT, lkH, ISt.app, opI, gO, gB, allB, gval, wrapG, dstOK, setD, mentTm, mentHp, IV.ment, IV.mentL, oneI, lendV, lendP, lent, lentP, idsV, idsL, lkHS, flat, clean, callArgs, callFn, allLent, IBlk.shape, Op.operands, reduceIte, reduceCtorEq, cond_true, cond_false, Bool.or_false, Bool.or_true, Bool.and_true, Bool.and_false, Bool.and_eq_true, Bool.not_true, Bool.not_false, Nat.reduceAdd, Nat.reduceLT, Nat.reduceLeDiff, Nat.reduceEqDiff, Nat.reduceBEq, Nat.add_zero, Nat.zero_add, ne_eq, not_false_eq_true, beq_self_eq_true, true_and, and_true, and_false, and_self, false_implies, implies_true, forall_const, List.map_cons, List.map_nil, List.nil_append, List.cons_append, List.append_nil, List.all_cons, List.all_nil, Option.map_some, Option.bind_some, List.getElem?_cons_zero, List.getElem?_cons_succ, List.getD_cons_zero, List.getD_cons_succ, List.length_cons, List.length_nil, List.take_succ_cons, List.take_zero, List.take_nil, List.drop_succ_cons, List.drop_zero, List.drop_nil, ex_clo, bft, or_self, Bool.true_eq_false, Bool.false_eq_true, tab3, tab30, tab73, tab76, hN, pe, Int.toNat_natCast, lk_impl_locate_impl_Segment_has, lk_impl_locate_impl_turn, sp_impl_Segment_has, sp_impl_turn, eq, g0, s0, s1, s2, hq, c0, d0, c1, c2, hw]
            repeat refine And.intro (by first | omega | (simp; done) | (simp; omega)) ?_
            exact ⟨(i + 1, b), id, ⟨by simp only []; omega, go b (by rw [hr, Bool.xor_false])⟩, by simp only []; omega, by simp [SLe, SLe0, convTm, convHp, convB, conv, conv0, convL, lkT, lkH, clean]⟩
          | true =>
            cases c3 : decide (0 < turn e.2 e.1 q) with
            | false =>
              rw [c3, Bool.and_false] at hr
              simp only [V_seq, V_skip, V_block, V_region, V_draw, V_cond, brW_true, brW_false, drawW, WS_nil, pairsOf, W_nil, W_cons, effOp2, WI_nil, WI_cons, KN_seq, KN_block, KN_back, dynOK, indB, farB, seeB, see, isStore, freshB, heapy, asB, effOp, effPure, effPick, effNew, effAlloc, effStore, effCall, giveUp, hasAll, skipE, pureV, pickV, storeV, binV, partV, eltV, loadV, faddrV, iaddrV, over, solid, IV.cells, ofC, strip, lkT, lkH, ISt.app, opI, gO, gB, allB, gval, wrapG, dstOK, setD, mentTm, mentHp, IV.ment, IV.mentL, oneI, lendV, lendP, lent, lentP, idsV, idsL, lkHS, flat, clean, callArgs, callFn, allLent, IBlk.shape, Op.operands, reduceIte, reduceCtorEq, cond_true, cond_false, Bool.or_false, Bool.or_true, Bool.and_true, Bool.and_false, Bool.and_eq_true, Bool.not_true, Bool.not_false, Nat.reduceAdd, Nat.reduceLT, Nat.reduceLeDiff, Nat.reduceEqDiff, Nat.reduceBEq, Nat.add_zero, Nat.zero_add, ne_eq, not_false_eq_true, beq_self_eq_true, true_and, and_true, and_false, and_self, implies_true, forall_const, List.map_cons, List.map_nil, List.nil_append, List.cons_append, List.append_nil, List.all_cons, List.all_nil, Option.map_some, Option.bind_some, List.getElem?_cons_zero, List.getElem?_cons_succ, List.getD_cons_zero, List.getD_cons_succ, List.length_cons, List.length_nil, List.take_succ_cons, List.take_zero, List.take_nil, List.drop_succ_cons, List.drop_zero, List.drop_nil, ex_clo, or_self, Bool.true_eq_false, tab3, tab30, tab73, tab76, hN, pe, Int.toNat_natCast, lk_impl_locate_impl_Segment_has, lk_impl_locate_impl_turn, sp_impl_Segment_has, sp_impl_turn, eq, g0, s0, s1, s2, hq, c0, d0, c1, c2, c3, hw]
              repeat refine And.intro (by first | omega | (simp; done) | (simp; omega)) ?_
              exact ⟨(i + 1, b), id, ⟨by simp only []; omega, go b (by rw [hr, Bool.xor_false])⟩, by simp only []; omega, by simp [SLe, SLe0, convTm, convHp, convB, conv, conv0, convL, lkT, lkH, clean]⟩
            | true =>
              rw [c1, c2, c3] at hr
              simp only [V_seq, V_skip, V_block, V_region, V_draw, V_cond, brW_true, brW_false, drawW, WS_nil, pairsOf, W_nil, W_cons, effOp2, WI_nil, WI_cons, KN_seq, KN_block, KN_back, dynOK, indB, farB, seeB, see, isStore, freshB, heapy, asB, effOp, effPure, effPick, effNew, effAlloc, effStore, effCall, giveUp, hasAll, skipE, pureV, pickV, storeV, binV, partV, eltV, loadV, faddrV, iaddrV, over, solid, IV.cells, ofC, strip, lkT, lkH, ISt.app, opI, gO, gB, allB, gval, wrapG, dstOK, setD, mentTm, mentHp, IV.ment, IV.mentL, oneI, lendV, lendP, lent, lentP, idsV, idsL, lkHS, flat, clean, callArgs, callFn, allLent, IBlk.shape, Op.operands, reduceIte, reduceCtorEq, cond_true, cond_false, Bool.or_false, Bool.or_true, Bool.and_true, Bool.and_false, Bool.and_eq_true, Bool.not_true, Bool.not_false, Nat.reduceAdd, Nat.reduceLT, Nat.reduceLeDiff, Nat.reduceEqDiff, Nat.reduceBEq, Nat.add_zero, Nat.zero_add, ne_eq, not_false_eq_true, beq_self_eq_true, true_and, and_true, and_false, and_self, implies_true, forall_const, List.map_cons, List.map_nil, List.nil_append, List.cons_append, List.append_nil, List.all_cons, List.all_nil, Option.map_some, Option.bind_some, List.getElem?_cons_zero, List.getElem?_cons_succ, List.getD_cons_zero, List.getD_cons_succ, List.length_cons, List.length_nil, List.take_succ_cons, List.take_zero, List.take_nil, List.drop_succ_cons, List.drop_zero, List.drop_nil, ex_clo, or_self, Bool.true_eq_false, tab3, tab30, tab73, tab76, hN, pe, Int.toNat_natCast, lk_impl_locate_impl_Segment_has, lk_impl_locate_impl_turn, sp_impl_Segment_has, sp_impl_turn, eq, g0, s0, s1, s2, hq, c0, d0, c1, c2, c3, hw, sgB_neg]
              repeat refine And.intro (by first | omega | (simp; done) | (simp; omega)) ?_
              exact ⟨(i + 1, !b), id, ⟨by simp only []; omega, go (!b) (by rw [hr]; simp)⟩, by simp only []; omega, by simp [SLe, SLe0, convTm, convHp, convB, conv, conv0, convL, lkT, lkH, clean]⟩
      | false =>
        have hr := ray_of (e := e) (f := e) q (by rw [if_neg (of_decide_eq_false d0)])
        have s1 := s0.1
        have s2 := s0.2
        cases c1 : decide (e.1.2 ≤ q.2) with
        | false =>
          rw [c1, Bool.false_and, Bool.false_and] at hr
          simp only [V_seq, V_skip, V_block, V_region, V_draw, V_cond, brW_false, drawW, WS_nil, pairsOf, W_nil, W_cons, effOp2, WI_nil, WI_cons, KN_seq, KN_block, KN_back, dynOK, indB, farB, seeB, see, isStore, freshB, heapy, asB, effOp, effPure, effPick, effNew, effAlloc, effStore, effCall, giveUp, hasAll, skipE, pureV, pickV, storeV, binV, partV, eltV, loadV, faddrV, iaddrV, over, solid, IV.cells, ofC, strip, lkT, lkH, ISt.app, opI, gO, gB, allB, gval, wrapG, dstOK, setD, mentTm, mentHp, IV.ment, IV.mentL, oneI, lendV, lendP, lent, lentP, idsV, idsL, lkHS, flat, clean, callArgs, callFn, allLent, IBlk.shape, Op.operands, reduceIte, reduceCtorEq, cond_true, cond_false, Bool.or_false, Bool.or_true, Bool.and_true, Bool.and_false, Bool.and_eq_true, Bool.not_true, Bool.not_false, Nat.reduceAdd, Nat.reduceLT, Nat.reduceLeDiff, Nat.reduceEqDiff, Nat.reduceBEq, Nat.add_zero, Nat.zero_add, ne_eq, not_false_eq_true, beq_self_eq_true, true_and, and_true, and_false, and_self, false_implies, implies_true, forall_const, List.map_cons, List.map_nil, List.nil_append, List.cons_append, List.append_nil, List.all_cons, List.all_nil, Option.map_some, Option.bind_some, List.getElem?_cons_zero, List.getElem?_cons_succ, List.getD_cons_zero, List.getD_cons_succ, List.length_cons, List.length_nil, List.take_succ_cons, List.take_zero, List.take_nil, List.drop_succ_cons, List.drop_zero, List.drop_nil, ex_clo, bft, or_self, Bool.false_eq_true, tab3, tab30, tab73, tab76, hN, pe, Int.toNat_natCast, lk_impl_locate_impl_Segment_has, lk_impl_locate_impl_turn, sp_impl_Segment_has, sp_impl_turn, eq, g0, s0, s1, s2, hq, c0, d0, c1, hw]
          repeat refine And.intro (by first | omega | (simp; done) | (simp; omega)) ?_
          exact ⟨(i + 1, b), id, ⟨by simp only []; omega, go b (by rw [hr, Bool.xor_false])⟩, by simp only []; omega, by simp [SLe, SLe0, convTm, convHp, convB, conv, conv0, convL, lkT, lkH, clean]⟩
        | true =>
          cases c2 : decide (q.2 < e.2.2) with
          | false =>
            rw [c2, Bool.and_false, Bool.false_and] at hr
            simp only [V_seq, V_skip, V_block, V_region, V_draw, V_cond, brW_false, drawW, WS_nil, pairsOf, W_nil, W_cons, effOp2, WI_nil, WI_cons, KN_seq, KN_block, KN_back, dynOK, indB, farB, seeB, see, isStore, freshB, heapy, asB, effOp, effPure, effPick, effNew, effAlloc, effStore, effCall, giveUp, hasAll, skipE, pureV, pickV, storeV, binV, partV, eltV, loadV, faddrV, iaddrV, over, solid, IV.cells, ofC, strip, lkT, lkH, ISt.app, opI, gO, gB, allB, gval, wrapG, dstOK, setD, mentTm, mentHp, IV.ment, IV.mentL, oneI, lendV, lendP, lent, lentP, idsV, idsL, lkHS, flat, clean, callArgs, callFn, allLent, IBlk.shape, Op.operands, reduceIte, reduceCtorEq, cond_true, cond_false, Bool.or_false, Bool.or_true, Bool.and_true, Bool.and_false, Bool.and_eq_true, Bool.not_true, Bool.not_false, Nat.reduceAdd, Nat.reduceLT, Nat.reduceLeDiff, Nat.reduceEqDiff, Nat.reduceBEq, Nat.add_zero, Nat.zero_add, ne_eq, not_false_eq_true, beq_self_eq_true, true_and, and_true, and_false, and_self, false_implies, implies_true, forall_const, List.map_cons, List.map_nil, List.nil_append, List.cons_append, List.append_nil, List.all_cons, List.all_nil, Option.map_some, Option.bind_some, List.getElem?_cons_zero, List.getElem?_cons_succ, List.getD_cons_zero, List.getD_cons_succ, List.length_cons, List.length_nil, List.take_succ_cons, List.take_zero, List.take_nil, List.drop_succ_cons, List.drop_zero, List.drop_nil, ex_clo, bft, or_self, Bool.true_eq_false, Bool.false_eq_true, tab3, tab30, tab73, tab76, hN, pe, Int.toNat_natCast, lk_impl_locate_impl_Segment_has, lk_impl_locate_impl_turn, sp_impl_Segment_has, sp_impl_turn, eq, g0, s0, s1, s2, hq, c0, d0, c1, c2, hw]
            repeat refine And.intro (by first | omega | (simp; done) | (simp; omega)) ?_
            exact ⟨(i + 1, b), id, ⟨by simp only []; omega, go b (by rw [hr, Bool.xor_false])⟩, by simp only []; omega, by simp [SLe, SLe0, convTm, convHp, convB, conv, conv0, convL, lkT, lkH, clean]⟩
          | true =>
            cases c3 : decide (0 < turn e.1 e.2 q) with
            | false =>
              rw [c3, Bool.and_false] at hr
              simp only [V_seq, V_skip, V_block, V_region, V_draw, V_cond, brW_false, drawW, WS_nil, pairsOf, W_nil, W_cons, effOp2, WI_nil, WI_cons, KN_seq, KN_block, KN_back, dynOK, indB, farB, seeB, see, isStore, freshB, heapy, asB, effOp, effPure, effPick, effNew, effAlloc, effStore, effCall, giveUp, hasAll, skipE, pureV, pickV, storeV, binV, partV, eltV, loadV, faddrV, iaddrV, over, solid, IV.cells, ofC, strip, lkT, lkH, ISt.app, opI, gO, gB, allB, gval, wrapG, dstOK, setD, mentTm, mentHp, IV.ment, IV.mentL, oneI, lendV, lendP, lent, lentP, idsV, idsL, lkHS, flat, clean, callArgs, callFn, allLent, IBlk.shape, Op.operands, reduceIte, reduceCtorEq, cond_true, cond_false, Bool.or_false, Bool.or_true, Bool.and_true, Bool.and_false, Bool.and_eq_true, Bool.not_true, Bool.not_false, Nat.reduceAdd, Nat.reduceLT, Nat.reduceLeDiff, Nat.reduceEqDiff, Nat.reduceBEq, Nat.add_zero, Nat.zero_add, ne_eq, not_false_eq_true, beq_self_eq_true, true_and, and_true, and_false, and_self, implies_true, forall_const, List.map_cons, List.map_nil, List.nil_append, List.cons_append, List.append_nil, List.all_cons, List.all_nil, Option.map_some, Option.bind_some, List.getElem?_cons_zero, List.getElem?_cons_succ, List.getD_cons_zero, List.getD_cons_succ, List.length_cons, List.length_nil, List.take_succ_cons, List.take_zero, List.take_nil, List.drop_succ_cons, List.drop_zero, List.drop_nil, ex_clo, or_self, Bool.true_eq_false, tab3, tab30, tab73, tab76, hN, pe, Int.toNat_natCast, lk_impl_locate_impl_Segment_has, lk_impl_locate_impl_turn, sp_impl_Segment_has, sp_impl_turn, eq, g0, s0, s1, s2, hq, c0, d0, c1, c2, c3, hw]
              repeat refine And.intro (by first | omega | (simp; done) | (simp; omega)) ?_
              exact ⟨(i + 1, b), id, ⟨by simp only []; omega, go b (by rw [hr, Bool.xor_false])⟩, by simp only []; omega, by simp [SLe, SLe0, convTm, convHp, convB, conv, conv0, convL, lkT, lkH, clean]⟩
            | true =>
              rw [c1, c2, c3] at hr
              simp only [V_seq, V_skip, V_block, V_region, V_draw, V_cond, brW_true, brW_false, drawW, WS_nil, pairsOf, W_nil, W_cons, effOp2, WI_nil, WI_cons, KN_seq, KN_block, KN_back, dynOK, indB, farB, seeB, see, isStore, freshB, heapy, asB, effOp, effPure, effPick, effNew, effAlloc, effStore, effCall, giveUp, hasAll, skipE, pureV, pickV, storeV, binV, partV, eltV, loadV, faddrV, iaddrV, over, solid, IV.cells, ofC, strip, lkT, lkH, ISt.app, opI, gO, gB, allB, gval, wrapG, dstOK, setD, mentTm, mentHp, IV.ment, IV.mentL, oneI, lendV, lendP, lent, lentP, idsV, idsL, lkHS, flat, clean, callArgs, callFn, allLent, IBlk.shape, Op.operands, reduceIte, reduceCtorEq, cond_true, cond_false, Bool.or_false, Bool.or_true, Bool.and_true, Bool.and_false, Bool.and_eq_true, Bool.not_true, Bool.not_false, Nat.reduceAdd, Nat.reduceLT, Nat.reduceLeDiff, Nat.reduceEqDiff, Nat.reduceBEq, Nat.add_zero, Nat.zero_add, ne_eq, not_false_eq_true, beq_self_eq_true, true_and, and_true, and_false, and_self, implies_true, forall_const, List.map_cons, List.map_nil, List.nil_append, List.cons_append, List.append_nil, List.all_cons, List.all_nil, Option.map_some, Option.bind_some, List.getElem?_cons_zero, List.getElem?_cons_succ, List.getD_cons_zero, List.getD_cons_succ, List.length_cons, List.length_nil, List.take_succ_cons, List.take_zero, List.take_nil, List.drop_succ_cons, List.drop_zero, List.drop_nil, ex_clo, or_self, Bool.true_eq_false, tab3, tab30, tab73, tab76, hN, pe, Int.toNat_natCast, lk_impl_locate_impl_Segment_has, lk_impl_locate_impl_turn, sp_impl_Segment_has, sp_impl_turn, eq, g0, s0, s1, s2, hq, c0, d0, c1, c2, c3, hw, sgB_neg]
              repeat refine And.intro (by first | omega | (simp; done) | (simp; omega)) ?_
              exact ⟨(i + 1, !b), id, ⟨by simp only []; omega, go (!b) (by rw [hr]; simp)⟩, by simp only []; omega, by simp [SLe, SLe0, convTm, convHp, convB, conv, conv0, convL, lkT, lkH, clean]⟩
  · have hie : i = l.length := by simp at h; omega
    subst hie
    have hf : locR q (edgesP l) false = sgB b := by rw [hj, ← ee, loc_end]
    simp only [V_seq, V_ret, V_exit, V_region, W_nil, W_cons, effOp2, KN_seq, KXr_nil, KXe_nil, KXe_seq, KXe_block, KXe_back, QE, effOp, effPure, pureV, strip, lkT, lkH, ISt.app, opI, gO, gB, allB, gval, wrapG, dstOK, setD, clean, Gives, Ideal.Fin, conv, conv0, Op.operands, reduceIte, Nat.reduceLT, Nat.reduceEqDiff, and_self, implies_true, List.nil_append, List.cons_append, hN, hf]
def sp_impl_locate : PSpec := ⟨fun xs => match xs with | [.sl 2 les, .agg [.num .i64 q1, .num .i64 q2]] => isPs les ∧ ((fun (l : List Pt) (q : Pt) => SmL l) (toPs les) (q1, q2)) ∧ ((fun (l : List Pt) (q : Pt) => Sm q) (toPs les) (q1, q2)) ∧ ((fun (l : List Pt) (q : Pt) => l.length ≤ 1000000) (toPs les) (q1, q2)) | _ => False, fun xs => match xs with | [.sl _ les, .agg [.num _ q1, .num _ q2]] => (fun (l : List Pt) (q : Pt) => .num .i64 (locR q (edgesP l) false)) (toPs les) (q1, q2) | _ => .junk, false⟩
theorem gk_impl_locate : ∀ args, sp_impl_locate.pre args → ICall Try.prog 91 args (sp_impl_locate.val args) := by
  intro args h
  unfold sp_impl_locate at h ⊢; simp only at h ⊢; split at h
  · obtain ⟨h0, h1, h2, h3⟩ := h
    obtain ⟨l0, rfl⟩ := isP_ex h0
    simp only [toPs_enc] at *
    exact c_impl_locate _ (_, _) h1 h2 h3
  · exact h.elim
theorem en_impl_locate : Enters Try.prog 91 := enters_of Try.func91 (by kernel_rfl) rfl


def g_spec_locate : List (Nat × PSpec) := [(124, sp_spec_edgeOf), (134, sp_spec_onSegment), (113, sp_spec_cross)]
theorem gok_spec_locate : GOK Try.prog g_spec_locate := gok_cons gk_spec_edgeOf en_spec_edgeOf (gok_cons gk_spec_onSegment en_spec_onSegment (gok_cons gk_spec_cross en_spec_cross (gok0)))
theorem lk_spec_locate_spec_edgeOf : lkG g_spec_locate 124 = sp_spec_edgeOf := rfl
theorem lk_spec_locate_spec_onSegment : lkG g_spec_locate 134 = sp_spec_onSegment := rfl
theorem lk_spec_locate_spec_cross : lkG g_spec_locate 113 = sp_spec_cross := rfl
def h_spec_locate : List (Nat × HSpec) := []
theorem hok_spec_locate : HOK Try.prog h_spec_locate := hok0
theorem c_spec_locate (l : List Pt) (q : Pt) (hm : SmL l) (hq : Sm q) (hsz : l.length ≤ 1000000) : ICall Try.prog 90 [.sl 2 (encPs l), encP q] (.num .i64 (locR q (edgesP l) false)) := by
  refine icall_V (G := g_spec_locate) (H := []) [] tabOK mixed gok_spec_locate hok_spec_locate Try.func90 rfl Try.ntmps90 Try.results90 rfl (by kernel_rfl) fun F hN hlen => ?_
  have el := len_encPs l
  have ee : (edgesP l).length = l.length := by rw [edgesP, edgesN_len]
  simp only [V_seq, V_block, V_region, W_nil, W_cons, effOp2, KN_seq, effOp, effPure, effNew, effBox, skipE, pureV, solid, IV.cells, ofC, strip, lkT, ISt.app, opI, gO, gB, allB, gval, wrapG, dstOK, setD, mentTm, mentHp, IV.ment, IV.mentL, oneI, enumT, Op.operands, reduceIte, reduceCtorEq, cond_true, Bool.or_false, Bool.and_true, Nat.reduceLT, Nat.zero_add, true_and, and_self, implies_true, List.nil_append, List.cons_append, List.append_nil, List.all_cons, List.all_nil, hN, encP]
  refine V_loop (α := Nat × Bool) ⟨tabOK, mixed, gok_spec_locate, hok_spec_locate⟩ (by kernel_rfl) (fun a => a.1 ≤ l.length ∧ locR q (edgesP l) false = locR q ((edgesP l).drop a.1) a.2) (fun a => ⟨[(6, .num .i64 a.1), (5, .bool a.2), (3, .ptr 3 0), (0, .sl 2 (encPs l))], [(3, some (.box 30 [.num .i64 q.1, .num .i64 q.2]))]⟩) (fun a => l.length - a.1) (0, false) id ⟨Nat.zero_le _, rfl⟩ (by simp [SLe, SLe0, convTm, convHp, convB, conv, conv0, convL, lkT, lkH, clean]) ?_
  rintro ⟨i, b⟩ ⟨hi, hj⟩
  simp only [] at hi hj
  simp only [V_seq, V_region, V_cond, W_nil, W_cons, effOp2, KN_seq, asB, effOp, effPure, pureV, binV, lenV, strip, lkT, ISt.app, opI, gO, gB, allB, gval, wrapG, dstOK, setD, Op.operands, Call.operands, List.append_toArray, reduceIte, reduceCtorEq, Nat.reduceLT, Nat.reduceEqDiff, ne_eq, not_false_eq_true, true_and, and_self, implies_true, List.nil_append, List.cons_append, tab23, hN, el]
  refine brW_some (fun h => ?_) (fun h => ?_)
  · have hi' : i < l.length := by simpa using h
    have hst := loc_step (q := q) (E := edgesP l) (i := i) (by omega) b
    rw [edgesP_at hi'] at hst
    have hw := wr_succ hi' (by rw [maxLen_eq]; omega)
    have s0 := hm.edge i
    have j1 : (i : Int) < (l.length : Int) := by omega
    have j3 : (0 : Int) ≤ (i : Int) := by omega
    obtain ⟨e, he⟩ : ∃ e, edgeP l i = e := ⟨_, rfl⟩
    rw [he] at hst s0
    cases c0 : onS e q with
    | true =>
      rw [if_pos c0] at hst
      simp only [V_seq, V_skip, V_ret, V_block, V_region, V_cond, brW_true, W_nil, W_cons, effOp2, KN_seq, KXr_nil, KXr_seq, KXr_block, KXr_back, QE, asB, effOp, effPure, effNew, effAlloc, effStore, effCall, giveUp, hasAll, skipE, pureV, storeV, partV, loadV, over, solid, IV.cells, ofC, strip, lkT, lkH, ISt.app, opI, gO, gB, allB, gval, wrapG, dstOK, setD, mentTm, mentHp, IV.ment, IV.mentL, oneI, lendV, lendP, lent, lentP, idsV, idsL, lkHS, flat, flatL, clean, cleanL, callArgs, callFn, allLent, Gives, Ideal.Fin, conv, conv0, Op.operands, reduceIte, reduceCtorEq, cond_true, Bool.or_false, Bool.and_true, Bool.not_true, Nat.reduceAdd, Nat.reduceLT, Nat.reduceLeDiff, Nat.reduceEqDiff, Nat.reduceBEq, Nat.zero_add, and_false, and_self, implies_true, List.map_cons, List.map_nil, List.nil_append, List.cons_append, List.append_nil, List.all_cons, List.all_nil, List.getD_cons_zero, List.length_cons, List.length_nil, List.take_succ_cons, List.take_zero, List.take_nil, List.drop_succ_cons, List.drop_zero, List.drop_nil, ex_clo, or_self, tab30, tab76, hN, pe, Int.toNat_natCast, encQ, isPs_enc, toPs_enc, lk_spec_locate_spec_edgeOf, lk_spec_locate_spec_onSegment, sp_spec_edgeOf, sp_spec_onSegment, he, j1, j3, hsz, s0, hq, c0, hj, hst]
      try omega
    | false =>
      rw [if_neg (by rw [c0]; decide)] at hst
      have go : ∀ b2, b2 = (b ^^ rayP e q) → locR q (edgesP l) false = locR q ((edgesP l).drop (i + 1)) b2 := fun b2 hb => by rw [hj, hst, hb]
      cases d0 : decide (e.2.2 < e.1.2) with
      | true =>
        have hr := ray_of (e := e) (f := (e.2, e.1)) q (by rw [if_pos (of_decide_eq_true d0)])
        simp only [] at hr
        have s1 := s0.2
        have s2 := s0.1
        cases c1 : decide (e.2.2 ≤ q.2) with
        | false =>
          rw [c1, Bool.false_and, Bool.false_and] at hr
          simp only [V_seq, V_skip, V_block, V_region, V_cond, brW_true, brW_false, W_nil, W_cons, effOp2, KN_seq, KN_block, KN_back, asB, effOp, effPure, effPick, effNew, effAlloc, effStore, effCall, giveUp, hasAll, skipE, pureV, pickV, storeV, binV, partV, loadV, faddrV, over, solid, buildL, IV.cells, ofC, strip, lkT, lkH, ISt.app, opI, gO, gB, allB, gval, wrapG, dstOK, setD, mentTm, mentHp, IV.ment, IV.mentL, oneI, lendV, lendP, lent, lentP, idsV, idsL, lkHS, flat, flatL, clean, cleanL, callArgs, callFn, allLent, IBlk.shape, Op.operands, reduceIte, reduceCtorEq, cond_true, cond_false, Bool.or_false, Bool.or_true, Bool.and_true, Bool.not_true, Bool.not_false, Nat.reduceAdd, Nat.reduceLT, Nat.reduceLeDiff, Nat.reduceEqDiff, Nat.reduceBEq, Nat.add_zero, Nat.zero_add, ne_eq, not_false_eq_true, true_and, and_true, and_false, and_self, false_implies, implies_true, List.map_cons, List.map_nil, List.nil_append, List.cons_append, List.append_nil, List.all_cons, List.all_nil, Option.map_some, Option.bind_some, List.getElem?_cons_zero, List.getElem?_cons_succ, List.getD_cons_zero, List.getD_cons_succ, List.length_cons, List.length_nil, List.take_succ_cons, List.take_zero, List.take_nil, List.drop_succ_cons, List.drop_zero, List.drop_nil, ex_clo, bft, or_self, Bool.false_eq_true, tab3, tab30, tab76, hN, pe, Int.toNat_natCast, encQ, isPs_enc, toPs_enc, lk_spec_locate_spec_edgeOf, lk_spec_locate_spec_onSegment, lk_spec_locate_spec_cross, sp_spec_edgeOf, sp_spec_onSegment, sp_spec_cross, he, j1, j3, hsz, s0, s1, s2, hq, c0, d0, c1, hw]
          repeat refine And.intro (by first | omega | (simp; done) | (simp; omega)) ?_
          exact ⟨(i + 1, b), id, ⟨by simp only []; omega, go b (by rw [hr, Bool.xor_false])⟩, by simp only []; omega, by simp [SLe, SLe0, convTm, convHp, convB, conv, conv0, convL, lkT, lkH, clean]⟩
        | true =>
          cases c2 : decide (q.2 < e.1.2) with
          | false =>
            rw [c2, Bool.and_false, Bool.false_and] at hr
            simp only [V_seq, V_skip, V_block, V_region, V_cond, brW_true, brW_false, W_nil, W_cons, effOp2, KN_seq, KN_block, KN_back, asB, effOp, effPure, effPick, effNew, effAlloc, effStore, effCall, giveUp, hasAll, skipE, pureV, pickV, storeV, binV, partV, loadV, faddrV, over, solid, buildL, IV.cells, ofC, strip, lkT, lkH, ISt.app, opI, gO, gB, allB, gval, wrapG, dstOK, setD, mentTm, mentHp, IV.ment, IV.mentL, oneI, lendV, lendP, lent, lentP, idsV, idsL, lkHS, flat, flatL, clean, cleanL, callArgs, callFn, allLent, IBlk.shape, Op.operands, reduceIte, reduceCtorEq, cond_true, cond_false, Bool.or_false, Bool.or_true, Bool.and_true, Bool.not_true, Bool.not_false, Nat.reduceAdd, Nat.reduceLT, Nat.reduceLeDiff, Nat.reduceEqDiff, Nat.reduceBEq, Nat.add_zero, Nat.zero_add, ne_eq, not_false_eq_true, beq_self_eq_true, true_and, and_true, and_false, and_self, false_implies, implies_true, List.map_cons, List.map_nil, List.nil_append, List.cons_append, List.append_nil, List.all_cons, List.all_nil, Option.map_some, Option.bind_some, List.getElem?_cons_zero, List.getElem?_cons_succ, List.getD_cons_zero, List.getD_cons_succ, List.length_cons, List.length_nil, List.take_succ_cons, List.take_zero, List.take_nil, List.drop_succ_cons, List.drop_zero, List.drop_nil, ex_clo, bft, or_self, Bool.true_eq_false, Bool.false_eq_true, tab3, tab30, tab76, hN, pe, Int.toNat_natCast, encQ, isPs_enc, toPs_enc, lk_spec_locate_spec_edgeOf, lk_spec_locate_spec_onSegment, lk_spec_locate_spec_cross, sp_spec_edgeOf, sp_spec_onSegment, sp_spec_cross, he, j1, j3, hsz, s0, s1, s2, hq, c0, d0, c1, c2, hw]
            repeat refine And.intro (by first | omega | (simp; done) | (simp; omega)) ?_
            exact ⟨(i + 1, b), id, ⟨by simp only []; omega, go b (by rw [hr, Bool.xor_false])⟩, by simp only []; omega, by simp [SLe, SLe0, convTm, convHp, convB, conv, conv0, convL, lkT, lkH, clean]⟩
          | true =>
            cases c3 : decide (0 < turn e.2 e.1 q) with
            | false =>
              rw [c3, Bool.and_false] at hr
              simp only [V_seq, V_skip, V_block, V_region, V_cond, brW_true, brW_false, W_nil, W_cons, effOp2, KN_seq, KN_block, KN_back, asB, effOp, effPure, effPick, effNew, effAlloc, effStore, effCall, giveUp, hasAll, skipE, pureV, pickV, storeV, binV, partV, loadV, faddrV, over, solid, buildL, IV.cells, ofC, strip, lkT, lkH, ISt.app, opI, gO, gB, allB, gval, wrapG, dstOK, setD, mentTm, mentHp, IV.ment, IV.mentL, oneI, lendV, lendP, lent, lentP, idsV, idsL, lkHS, flat, flatL, clean, cleanL, callArgs, callFn, allLent, IBlk.shape, Op.operands, reduceIte, reduceCtorEq, cond_true, Bool.or_false, Bool.and_true, Bool.not_true, Nat.reduceAdd, Nat.reduceLT, Nat.reduceLeDiff, Nat.reduceEqDiff, Nat.reduceBEq, Nat.add_zero, Nat.zero_add, ne_eq, not_false_eq_true, beq_self_eq_true, true_and, and_false, and_self, implies_true, List.map_cons, List.map_nil, List.nil_append, List.cons_append, List.append_nil, List.all_cons, List.all_nil, Option.map_some, Option.bind_some, List.getElem?_cons_zero, List.getElem?_cons_succ, List.getD_cons_zero, List.getD_cons_succ, List.length_cons, List.length_nil, List.take_succ_cons, List.take_zero, List.take_nil, List.drop_succ_cons, List.drop_zero, List.drop_nil, ex_clo, or_self, Bool.true_eq_false, tab3, tab30, tab76, hN, pe, Int.toNat_natCast, encQ, isPs_enc, toPs_enc, lk_spec_locate_spec_edgeOf, lk_spec_locate_spec_onSegment, lk_spec_locate_spec_cross, sp_spec_edgeOf, sp_spec_onSegment, sp_spec_cross, he, j1, j3, hsz, s0, s1, s2, hq, c0, d0, c1, c2, c3, hw]
              repeat refine And.intro (by first | omega | (simp; done) | (simp; omega)) ?_
              exact ⟨(i + 1, b), id, ⟨by simp only []; omega, go b (by rw [hr, Bool.xor_false])⟩, by simp only []; omega, by simp [SLe, SLe0, convTm, convHp, convB, conv, conv0, convL, lkT, lkH, clean]⟩
            | true =>
              rw [c1, c2, c3] at hr
              simp only [V_seq, V_skip, V_block, V_region, V_cond, brW_true, brW_false, W_nil, W_cons, effOp2, KN_seq, KN_block, KN_back, asB, effOp, effPure, effPick, effNew, effAlloc, effStore, effCall, giveUp, hasAll, skipE, pureV, pickV, storeV, binV, partV, loadV, faddrV, over, solid, buildL, IV.cells, ofC, strip, lkT, lkH, ISt.app, opI, gO, gB, allB, gval, wrapG, dstOK, setD, mentTm, mentHp, IV.ment, IV.mentL, oneI, lendV, lendP, lent, lentP, idsV, idsL, lkHS, flat, flatL, clean, cleanL, callArgs, callFn, allLent, IBlk.shape, Op.operands, reduceIte, reduceCtorEq, cond_true, Bool.or_false, Bool.and_true, Bool.not_true, Nat.reduceAdd, Nat.reduceLT, Nat.reduceLeDiff, Nat.reduceEqDiff, Nat.reduceBEq, Nat.add_zero, Nat.zero_add, ne_eq, not_false_eq_true, beq_self_eq_true, true_and, and_false, and_self, implies_true, List.map_cons, List.map_nil, List.nil_append, List.cons_append, List.append_nil, List.all_cons, List.all_nil, Option.map_some, Option.bind_some, List.getElem?_cons_zero, List.getElem?_cons_succ, List.getD_cons_zero, List.getD_cons_succ, List.length_cons, List.length_nil, List.take_succ_cons, List.take_zero, List.take_nil, List.drop_succ_cons, List.drop_zero, List.drop_nil, ex_clo, or_self, Bool.true_eq_false, tab3, tab30, tab76, hN, pe, Int.toNat_natCast, encQ, isPs_enc, toPs_enc, lk_spec_locate_spec_edgeOf, lk_spec_locate_spec_onSegment, lk_spec_locate_spec_cross, sp_spec_edgeOf, sp_spec_onSegment, sp_spec_cross, he, j1, j3, hsz, s0, s1, s2, hq, c0, d0, c1, c2, c3, hw]
              repeat refine And.intro (by first | omega | (simp; done) | (simp; omega)) ?_
              exact ⟨(i + 1, !b), id, ⟨by simp only []; omega, go (!b) (by rw [hr]; simp)⟩, by simp only []; omega, by simp [SLe, SLe0, convTm, convHp, convB, conv, conv0, convL, lkT, lkH, clean]⟩
      | false =>
        have hr := ray_of (e := e) (f := e) q (by rw [if_neg (of_decide_eq_false d0)])
        have s1 := s0.1
        have s2 := s0.2
        cases c1 : decide (e.1.2 ≤ q.2) with
        | false =>
          rw [c1, Bool.false_and, Bool.false_and] at hr
          simp only [V_seq, V_skip, V_block, V_region, V_cond, brW_false, W_nil, W_cons, effOp2, KN_seq, KN_block, KN_back, asB, effOp, effPure, effPick, effNew, effAlloc, effStore, effCall, giveUp, hasAll, skipE, pureV, pickV, storeV, binV, partV, loadV, faddrV, over, solid, IV.cells, ofC, strip, lkT, lkH, ISt.app, opI, gO, gB, allB, gval, wrapG, dstOK, setD, mentTm, mentHp, IV.ment, IV.mentL, oneI, lendV, lendP, lent, lentP, idsV, idsL, lkHS, flat, flatL, clean, cleanL, callArgs, callFn, allLent, IBlk.shape, Op.operands, reduceIte, reduceCtorEq, cond_true, cond_false, Bool.or_false, Bool.or_true, Bool.and_true, Bool.not_true, Bool.not_false, Nat.reduceAdd, Nat.reduceLT, Nat.reduceLeDiff, Nat.reduceEqDiff, Nat.reduceBEq, Nat.add_zero, Nat.zero_add, true_and, and_true, and_false, and_self, false_implies, implies_true, List.map_cons, List.map_nil, List.nil_append, List.cons_append, List.append_nil, List.all_cons, List.all_nil, Option.map_some, Option.bind_some, List.getElem?_cons_zero, List.getElem?_cons_succ, List.getD_cons_zero, List.getD_cons_succ, List.length_cons, List.length_nil, List.take_succ_cons, List.take_zero, List.take_nil, List.drop_succ_cons, List.drop_zero, List.drop_nil, ex_clo, bft, or_self, Bool.false_eq_true, tab3, tab30, tab76, hN, pe, Int.toNat_natCast, encQ, isPs_enc, toPs_enc, lk_spec_locate_spec_edgeOf, lk_spec_locate_spec_onSegment, lk_spec_locate_spec_cross, sp_spec_edgeOf, sp_spec_onSegment, sp_spec_cross, he, j1, j3, hsz, s0, s1, s2, hq, c0, d0, c1, hw]
          repeat refine And.intro (by first | omega | (simp; done) | (simp; omega)) ?_
          exact ⟨(i + 1, b), id, ⟨by simp only []; omega, go b (by rw [hr, Bool.xor_false])⟩, by simp only []; omega, by simp [SLe, SLe0, convTm, convHp, convB, conv, conv0, convL, lkT, lkH, clean]⟩
        | true =>
          cases c2 : decide (q.2 < e.2.2) with
          | false =>
            rw [c2, Bool.and_false, Bool.false_and] at hr
            simp only [V_seq, V_skip, V_block, V_region, V_cond, brW_false, W_nil, W_cons, effOp2, KN_seq, KN_block, KN_back, asB, effOp, effPure, effPick, effNew, effAlloc, effStore, effCall, giveUp, hasAll, skipE, pureV, pickV, storeV, binV, partV, loadV, faddrV, over, solid, IV.cells, ofC, strip, lkT, lkH, ISt.app, opI, gO, gB, allB, gval, wrapG, dstOK, setD, mentTm, mentHp, IV.ment, IV.mentL, oneI, lendV, lendP, lent, lentP, idsV, idsL, lkHS, flat, flatL, clean, cleanL, callArgs, callFn, allLent, IBlk.shape, Op.operands, reduceIte, reduceCtorEq, cond_true, cond_false, Bool.or_false, Bool.or_true, Bool.and_true, Bool.not_true, Bool.not_false, Nat.reduceAdd, Nat.reduceLT, Nat.reduceLeDiff, Nat.reduceEqDiff, Nat.reduceBEq, Nat.add_zero, Nat.zero_add, beq_self_eq_true, true_and, and_true, and_false, and_self, false_implies, implies_true, List.map_cons, List.map_nil, List.nil_append, List.cons_append, List.append_nil, List.all_cons, List.all_nil, Option.map_some, Option.bind_some, List.getElem?_cons_zero, List.getElem?_cons_succ, List.getD_cons_zero, List.getD_cons_succ, List.length_cons, List.length_nil, List.take_succ_cons, List.take_zero, List.take_nil, List.drop_succ_cons, List.drop_zero, List.drop_nil, ex_clo, bft, or_self, Bool.true_eq_false, Bool.false_eq_true, tab3, tab30, tab76, hN, pe, Int.toNat_natCast, encQ, isPs_enc, toPs_enc, lk_spec_locate_spec_edgeOf, lk_spec_locate_spec_onSegment, lk_spec_locate_spec_cross, sp_spec_edgeOf, sp_spec_onSegment, sp_spec_cross, he, j1, j3, hsz, s0, s1, s2, hq, c0, d0, c1, c2, hw]
            repeat refine And.intro (by first | omega | (simp; done) | (simp; omega)) ?_
            exact ⟨(i + 1, b), id, ⟨by simp only []; omega, go b (by rw [hr, Bool.xor_false])⟩, by simp only []; omega, by simp [SLe, SLe0, convTm, convHp, convB, conv, conv0, convL, lkT, lkH, clean]⟩
          | true =>
            cases c3 : decide (0 < turn e.1 e.2 q) with
            | false =>
              rw [c3, Bool.and_false] at hr
              simp only [V_seq, V_skip, V_block, V_region, V_cond, brW_false, W_nil, W_cons, effOp2, KN_seq, KN_block, KN_back, asB, effOp, effPure, effPick, effNew, effAlloc, effStore, effCall, giveUp, hasAll, skipE, pureV, pickV, storeV, binV, partV, loadV, faddrV, over, solid, IV.cells, ofC, strip, lkT, lkH, ISt.app, opI, gO, gB, allB, gval, wrapG, dstOK, setD, mentTm, mentHp, IV.ment, IV.mentL, oneI, lendV, lendP, lent, lentP, idsV, idsL, lkHS, flat, flatL, clean, cleanL, callArgs, callFn, allLent, IBlk.shape, Op.operands, reduceIte, reduceCtorEq, cond_true, Bool.or_false, Bool.and_true, Bool.not_true, Nat.reduceAdd, Nat.reduceLT, Nat.reduceLeDiff, Nat.reduceEqDiff, Nat.reduceBEq, Nat.add_zero, Nat.zero_add, beq_self_eq_true, true_and, and_false, and_self, implies_true, List.map_cons, List.map_nil, List.nil_append, List.cons_append, List.append_nil, List.all_cons, List.all_nil, Option.map_some, Option.bind_some, List.getElem?_cons_zero, List.getElem?_cons_succ, List.getD_cons_zero, List.getD_cons_succ, List.length_cons, List.length_nil, List.take_succ_cons, List.take_zero, List.take_nil, List.drop_succ_cons, List.drop_zero, List.drop_nil, ex_clo, or_self, Bool.true_eq_false, tab3, tab30, tab76, hN, pe, Int.toNat_natCast, encQ, isPs_enc, toPs_enc, lk_spec_locate_spec_edgeOf, lk_spec_locate_spec_onSegment, lk_spec_locate_spec_cross, sp_spec_edgeOf, sp_spec_onSegment, sp_spec_cross, he, j1, j3, hsz, s0, s1, s2, hq, c0, d0, c1, c2, c3, hw]
              repeat refine And.intro (by first | omega | (simp; done) | (simp; omega)) ?_
              exact ⟨(i + 1, b), id, ⟨by simp only []; omega, go b (by rw [hr, Bool.xor_false])⟩, by simp only []; omega, by simp [SLe, SLe0, convTm, convHp, convB, conv, conv0, convL, lkT, lkH, clean]⟩
            | true =>
              rw [c1, c2, c3] at hr
              simp only [V_seq, V_skip, V_block, V_region, V_cond, brW_true, brW_false, W_nil, W_cons, effOp2, KN_seq, KN_block, KN_back, asB, effOp, effPure, effPick, effNew, effAlloc, effStore, effCall, giveUp, hasAll, skipE, pureV, pickV, storeV, binV, partV, loadV, faddrV, over, solid, IV.cells, ofC, strip, lkT, lkH, ISt.app, opI, gO, gB, allB, gval, wrapG, dstOK, setD, mentTm, mentHp, IV.ment, IV.mentL, oneI, lendV, lendP, lent, lentP, idsV, idsL, lkHS, flat, flatL, clean, cleanL, callArgs, callFn, allLent, IBlk.shape, Op.operands, reduceIte, reduceCtorEq, cond_true, Bool.or_false, Bool.and_true, Bool.not_true, Nat.reduceAdd, Nat.reduceLT, Nat.reduceLeDiff, Nat.reduceEqDiff, Nat.reduceBEq, Nat.add_zero, Nat.zero_add, beq_self_eq_true, true_and, and_false, and_self, implies_true, List.map_cons, List.map_nil, List.nil_append, List.cons_append, List.append_nil, List.all_cons, List.all_nil, Option.map_some, Option.bind_some, List.getElem?_cons_zero, List.getElem?_cons_succ, List.getD_cons_zero, List.getD_cons_succ, List.length_cons, List.length_nil, List.take_succ_cons, List.take_zero, List.take_nil, List.drop_succ_cons, List.drop_zero, List.drop_nil, ex_clo, or_self, Bool.true_eq_false, tab3, tab30, tab76, hN, pe, Int.toNat_natCast, encQ, isPs_enc, toPs_enc, lk_spec_locate_spec_edgeOf, lk_spec_locate_spec_onSegment, lk_spec_locate_spec_cross, sp_spec_edgeOf, sp_spec_onSegment, sp_spec_cross, he, j1, j3, hsz, s0, s1, s2, hq, c0, d0, c1, c2, c3, hw]
              repeat refine And.intro (by first | omega | (simp; done) | (simp; omega)) ?_
              exact ⟨(i + 1, !b), id, ⟨by simp only []; omega, go (!b) (by rw [hr]; simp)⟩, by simp only []; omega, by simp [SLe, SLe0, convTm, convHp, convB, conv, conv0, convL, lkT, lkH, clean]⟩
  · have hie : i = l.length := by simp at h; omega
    subst hie
    have hf : locR q (edgesP l) false = sgB b := by rw [hj, ← ee, loc_end]
    cases b with
    | true => simp only [V_seq, V_ret, V_exit, V_region, V_cond, brW_true, W_nil, W_cons, effOp2, KN_seq, KXr_nil, KXr_seq, KXe_nil, KXe_seq, KXe_block, KXe_back, QE, asB, effOp, effPure, pureV, ofC, strip, lkT, lkH, ISt.app, opI, gO, gB, allB, gval, wrapG, dstOK, setD, clean, Gives, Ideal.Fin, conv, conv0, Op.operands, reduceIte, reduceCtorEq, Nat.reduceLT, Nat.reduceEqDiff, and_self, implies_true, List.nil_append, List.cons_append, hN, hf, sgB]
    | false => simp only [V_seq, V_skip, V_ret, V_exit, V_region, V_cond, brW_false, W_nil, W_cons, effOp2, KN_seq, KXr_nil, KXe_nil, KXe_seq, KXe_block, KXe_back, QE, asB, effOp, effPure, pureV, ofC, strip, lkT, lkH, ISt.app, opI, gO, gB, allB, gval, wrapG, dstOK, setD, clean, Gives, Ideal.Fin, conv, conv0, Op.operands, reduceIte, reduceCtorEq, Nat.reduceLT, Nat.reduceEqDiff, and_self, implies_true, List.nil_append, List.cons_append, Bool.false_eq_true, hN, hf, sgB]
def sp_spec_locate : PSpec := ⟨fun xs => match xs with | [.sl 2 les, .agg [.num .i64 q1, .num .i64 q2]] => isPs les ∧ ((fun (l : List Pt) (q : Pt) => SmL l) (toPs les) (q1, q2)) ∧ ((fun (l : List Pt) (q : Pt) => Sm q) (toPs les) (q1, q2)) ∧ ((fun (l : List Pt) (q : Pt) => l.length ≤ 1000000) (toPs les) (q1, q2)) | _ => False, fun xs => match xs with | [.sl _ les, .agg [.num _ q1, .num _ q2]] => (fun (l : List Pt) (q : Pt) => .num .i64 (locR q (edgesP l) false)) (toPs les) (q1, q2) | _ => .junk, false⟩
theorem gk_spec_locate : ∀ args, sp_spec_locate.pre args → ICall Try.prog 90 args (sp_spec_locate.val args) := by
  intro args h
  unfold sp_spec_locate at h ⊢; simp only at h ⊢; split at h
  · obtain ⟨h0, h1, h2, h3⟩ := h
    obtain ⟨l0, rfl⟩ := isP_ex h0
    simp only [toPs_enc] at *
    exact c_spec_locate _ (_, _) h1 h2 h3
  · exact h.elim
theorem en_spec_locate : Enters Try.prog 90 := enters_of Try.func90 (by kernel_rfl) rfl


/-- Where a point is of a simple polygon. -/
def locB (l : List Pt) (q : Pt) : Int := bif simpB l && okP q then locR q (edgesP l) false else 2
def g_impl_Locate : List (Nat × PSpec) := [(77, sp_impl_simple), (86, sp_impl_Point_valid), (91, sp_impl_locate)]
theorem gok_impl_Locate : GOK Try.prog g_impl_Locate := gok_cons gk_impl_simple en_impl_simple (gok_cons gk_impl_Point_valid en_impl_Point_valid (gok_cons gk_impl_locate en_impl_locate (gok0)))
theorem lk_impl_Locate_impl_simple : lkG g_impl_Locate 77 = sp_impl_simple := rfl
theorem lk_impl_Locate_impl_Point_valid : lkG g_impl_Locate 86 = sp_impl_Point_valid := rfl
theorem lk_impl_Locate_impl_locate : lkG g_impl_Locate 91 = sp_impl_locate := rfl
def h_impl_Locate : List (Nat × HSpec) := []
theorem hok_impl_Locate : HOK Try.prog h_impl_Locate := hok0
theorem c_impl_Locate (l : List Pt) (q : Pt)  : ICall Try.prog 45 [.sl 2 (encPs l), encP q] (.num .i64 (locB l q)) := by
  refine icall_V (G := g_impl_Locate) (H := []) [] tabOK mixed gok_impl_Locate hok_impl_Locate Try.func45 rfl Try.ntmps45 Try.results45 rfl (by kernel_rfl) fun F hN hlen => ?_
  have hv : locB l q = bif simpB l && okP q then locR q (edgesP l) false else 2 := rfl
  cases h1 : simpB l with
  | false =>
    rw [h1] at hv
    simp only [V_seq, V_ret, V_region, V_cond, brW_true, W_nil, W_cons, effOp2, KN_seq, KXr_nil, KXr_seq, QE, asB, effOp, effPure, effPick, effNew, effBox, effCall, giveUp, hasAll, skipE, pureV, pickV, partV, loadV, solid, IV.cells, ofC, strip, lkT, lkH, ISt.app, opI, gO, gB, allB, gval, wrapG, dstOK, setD, mentTm, mentHp, IV.ment, IV.mentL, oneI, lendV, lendP, lent, lentP, idsV, idsL, lkHS, flat, clean, callArgs, callFn, allLent, enumT, Gives, Ideal.Fin, conv, conv0, Op.operands, reduceIte, reduceCtorEq, cond_true, cond_false, Bool.or_false, Bool.or_true, Bool.and_true, Bool.false_and, Bool.not_true, Bool.not_false, Nat.reduceAdd, Nat.reduceLT, Nat.reduceLeDiff, Nat.reduceEqDiff, Nat.zero_add, and_true, and_false, and_self, false_implies, implies_true, List.map_cons, List.map_nil, List.nil_append, List.cons_append, List.append_nil, List.all_cons, List.all_nil, Option.bind_some, List.getElem?_cons_zero, List.getElem?_cons_succ, List.getD_cons_zero, List.length_cons, List.length_nil, List.take_succ_cons, List.take_nil, List.drop_zero, ex_clo, btf, or_self, Bool.true_eq_false, Bool.false_eq_true, tab30, hN, pe, encP, isPs_enc, toPs_enc, lk_impl_Locate_impl_simple, lk_impl_Locate_impl_Point_valid, sp_impl_simple, sp_impl_Point_valid, h1, hv]
  | true =>
    obtain ⟨hk, h3, h20, hnd⟩ := ring_facts (simp_ring h1)
    have hm := okPs_sm hk
    have hz : l.length ≤ 1000000 := by omega
    rw [h1] at hv
    cases h2 : okP q with
    | false =>
      rw [h2] at hv
      simp only [V_seq, V_ret, V_region, V_cond, brW_true, W_nil, W_cons, effOp2, KN_seq, KXr_nil, KXr_seq, QE, asB, effOp, effPure, effPick, effNew, effBox, effCall, giveUp, hasAll, skipE, pureV, pickV, partV, loadV, solid, IV.cells, ofC, strip, lkT, lkH, ISt.app, opI, gO, gB, allB, gval, wrapG, dstOK, setD, mentTm, mentHp, IV.ment, IV.mentL, oneI, lendV, lendP, lent, lentP, idsV, idsL, lkHS, flat, clean, callArgs, callFn, allLent, enumT, Gives, Ideal.Fin, conv, conv0, Op.operands, reduceIte, reduceCtorEq, cond_true, cond_false, Bool.or_false, Bool.and_true, Bool.and_false, Bool.not_true, Bool.not_false, Nat.reduceAdd, Nat.reduceLT, Nat.reduceLeDiff, Nat.reduceEqDiff, Nat.zero_add, beq_self_eq_true, and_false, and_self, implies_true, List.map_cons, List.map_nil, List.nil_append, List.cons_append, List.append_nil, List.all_cons, List.all_nil, Option.bind_some, List.getElem?_cons_zero, List.getElem?_cons_succ, List.getD_cons_zero, List.length_cons, List.length_nil, List.take_succ_cons, List.take_nil, List.drop_zero, ex_clo, or_self, Bool.false_eq_true, tab30, hN, pe, encP, isPs_enc, toPs_enc, lk_impl_Locate_impl_simple, lk_impl_Locate_impl_Point_valid, sp_impl_simple, sp_impl_Point_valid, h1, h2, hv]
    | true =>
      have hq := okP_sm h2
      rw [h2] at hv
      simp only [V_seq, V_skip, V_ret, V_region, V_cond, brW_false, W_nil, W_cons, effOp2, KN_seq, KXr_nil, QE, asB, effOp, effPure, effPick, effNew, effBox, effCall, giveUp, hasAll, skipE, pureV, pickV, partV, loadV, solid, IV.cells, ofC, strip, lkT, lkH, ISt.app, opI, gO, gB, allB, gval, wrapG, dstOK, setD, mentTm, mentHp, IV.ment, IV.mentL, oneI, lendV, lendP, lent, lentP, idsV, idsL, lkHS, flat, clean, callArgs, callFn, allLent, enumT, Gives, Ideal.Fin, conv, conv0, Op.operands, reduceIte, reduceCtorEq, cond_true, cond_false, Bool.or_false, Bool.and_true, Bool.not_true, Nat.reduceAdd, Nat.reduceLT, Nat.reduceLeDiff, Nat.reduceEqDiff, Nat.zero_add, beq_self_eq_true, and_false, and_self, implies_true, List.map_cons, List.map_nil, List.nil_append, List.cons_append, List.append_nil, List.all_cons, List.all_nil, Option.bind_some, List.getElem?_cons_zero, List.getElem?_cons_succ, List.getD_cons_zero, List.length_cons, List.length_nil, List.take_succ_cons, List.take_nil, List.drop_zero, ex_clo, or_self, Bool.false_eq_true, tab30, hN, pe, encP, isPs_enc, toPs_enc, lk_impl_Locate_impl_simple, lk_impl_Locate_impl_Point_valid, lk_impl_Locate_impl_locate, sp_impl_simple, sp_impl_Point_valid, sp_impl_locate, h1, h2, hm, hz, hq, hv]
def sp_impl_Locate : PSpec := ⟨fun xs => match xs with | [.sl 2 les, .agg [.num .i64 q1, .num .i64 q2]] => isPs les | _ => False, fun xs => match xs with | [.sl _ les, .agg [.num _ q1, .num _ q2]] => (fun (l : List Pt) (q : Pt) => .num .i64 (locB l q)) (toPs les) (q1, q2) | _ => .junk, false⟩
theorem gk_impl_Locate : ∀ args, sp_impl_Locate.pre args → ICall Try.prog 45 args (sp_impl_Locate.val args) := by
  intro args h
  unfold sp_impl_Locate at h ⊢; simp only at h ⊢; split at h
  · have h0 := h
    obtain ⟨l0, rfl⟩ := isP_ex h0
    simp only [toPs_enc] at *
    exact c_impl_Locate _ (_, _) 
  · exact h.elim
theorem en_impl_Locate : Enters Try.prog 45 := enters_of Try.func45 (by kernel_rfl) rfl

def g_spec_Locate : List (Nat × PSpec) := [(76, sp_spec_isSimple), (84, sp_spec_validPoint), (90, sp_spec_locate)]
theorem gok_spec_Locate : GOK Try.prog g_spec_Locate := gok_cons gk_spec_isSimple en_spec_isSimple (gok_cons gk_spec_validPoint en_spec_validPoint (gok_cons gk_spec_locate en_spec_locate (gok0)))
theorem lk_spec_Locate_spec_isSimple : lkG g_spec_Locate 76 = sp_spec_isSimple := rfl
theorem lk_spec_Locate_spec_validPoint : lkG g_spec_Locate 84 = sp_spec_validPoint := rfl
theorem lk_spec_Locate_spec_locate : lkG g_spec_Locate 90 = sp_spec_locate := rfl
def h_spec_Locate : List (Nat × HSpec) := []
theorem hok_spec_Locate : HOK Try.prog h_spec_Locate := hok0
theorem c_spec_Locate (l : List Pt) (q : Pt)  : ICall Try.prog 44 [.sl 2 (encPs l), encP q] (.num .i64 (locB l q)) := by
  refine icall_V (G := g_spec_Locate) (H := []) [] tabOK mixed gok_spec_Locate hok_spec_Locate Try.func44 rfl Try.ntmps44 Try.results44 rfl (by kernel_rfl) fun F hN hlen => ?_
  have hv : locB l q = bif simpB l && okP q then locR q (edgesP l) false else 2 := rfl
  cases h1 : simpB l with
  | false =>
    rw [h1] at hv
    simp only [V_seq, V_ret, V_region, V_cond, brW_true, W_nil, W_cons, effOp2, KN_seq, KXr_nil, KXr_seq, QE, asB, effOp, effPure, effPick, effNew, effBox, effCall, giveUp, hasAll, skipE, pureV, pickV, partV, loadV, solid, IV.cells, ofC, strip, lkT, lkH, ISt.app, opI, gO, gB, allB, gval, wrapG, dstOK, setD, mentTm, mentHp, IV.ment, IV.mentL, oneI, lendV, lendP, lent, lentP, idsV, idsL, lkHS, flat, clean, callArgs, callFn, allLent, enumT, Gives, Ideal.Fin, conv, conv0, Op.operands, reduceIte, reduceCtorEq, cond_true, cond_false, Bool.or_false, Bool.or_true, Bool.and_true, Bool.false_and, Bool.not_true, Bool.not_false, Nat.reduceAdd, Nat.reduceLT, Nat.reduceLeDiff, Nat.reduceEqDiff, Nat.zero_add, and_true, and_false, and_self, false_implies, implies_true, List.map_cons, List.map_nil, List.nil_append, List.cons_append, List.append_nil, List.all_cons, List.all_nil, Option.bind_some, List.getElem?_cons_zero, List.getElem?_cons_succ, List.getD_cons_zero, List.length_cons, List.length_nil, List.take_succ_cons, List.take_nil, List.drop_zero, ex_clo, btf, or_self, Bool.true_eq_false, Bool.false_eq_true, tab30, hN, pe, encP, isPs_enc, toPs_enc, lk_spec_Locate_spec_isSimple, lk_spec_Locate_spec_validPoint, sp_spec_isSimple, sp_spec_validPoint, h1, hv]
  | true =>
    obtain ⟨hk, h3, h20, hnd⟩ := ring_facts (simp_ring h1)
    have hm := okPs_sm hk
    have hz : l.length ≤ 1000000 := by omega
    rw [h1] at hv
    cases h2 : okP q with
    | false =>
      rw [h2] at hv
      simp only [V_seq, V_ret, V_region, V_cond, brW_true, W_nil, W_cons, effOp2, KN_seq, KXr_nil, KXr_seq, QE, asB, effOp, effPure, effPick, effNew, effBox, effCall, giveUp, hasAll, skipE, pureV, pickV, partV, loadV, solid, IV.cells, ofC, strip, lkT, lkH, ISt.app, opI, gO, gB, allB, gval, wrapG, dstOK, setD, mentTm, mentHp, IV.ment, IV.mentL, oneI, lendV, lendP, lent, lentP, idsV, idsL, lkHS, flat, clean, callArgs, callFn, allLent, enumT, Gives, Ideal.Fin, conv, conv0, Op.operands, reduceIte, reduceCtorEq, cond_true, cond_false, Bool.or_false, Bool.and_true, Bool.and_false, Bool.not_true, Bool.not_false, Nat.reduceAdd, Nat.reduceLT, Nat.reduceLeDiff, Nat.reduceEqDiff, Nat.zero_add, beq_self_eq_true, and_false, and_self, implies_true, List.map_cons, List.map_nil, List.nil_append, List.cons_append, List.append_nil, List.all_cons, List.all_nil, Option.bind_some, List.getElem?_cons_zero, List.getElem?_cons_succ, List.getD_cons_zero, List.length_cons, List.length_nil, List.take_succ_cons, List.take_nil, List.drop_zero, ex_clo, or_self, Bool.false_eq_true, tab30, hN, pe, encP, isPs_enc, toPs_enc, lk_spec_Locate_spec_isSimple, lk_spec_Locate_spec_validPoint, sp_spec_isSimple, sp_spec_validPoint, h1, h2, hv]
    | true =>
      have hq := okP_sm h2
      rw [h2] at hv
      simp only [V_seq, V_skip, V_ret, V_region, V_cond, brW_false, W_nil, W_cons, effOp2, KN_seq, KXr_nil, QE, asB, effOp, effPure, effPick, effNew, effBox, effCall, giveUp, hasAll, skipE, pureV, pickV, partV, loadV, solid, IV.cells, ofC, strip, lkT, lkH, ISt.app, opI, gO, gB, allB, gval, wrapG, dstOK, setD, mentTm, mentHp, IV.ment, IV.mentL, oneI, lendV, lendP, lent, lentP, idsV, idsL, lkHS, flat, clean, callArgs, callFn, allLent, enumT, Gives, Ideal.Fin, conv, conv0, Op.operands, reduceIte, reduceCtorEq, cond_true, cond_false, Bool.or_false, Bool.and_true, Bool.not_true, Nat.reduceAdd, Nat.reduceLT, Nat.reduceLeDiff, Nat.reduceEqDiff, Nat.zero_add, beq_self_eq_true, and_false, and_self, implies_true, List.map_cons, List.map_nil, List.nil_append, List.cons_append, List.append_nil, List.all_cons, List.all_nil, Option.bind_some, List.getElem?_cons_zero, List.getElem?_cons_succ, List.getD_cons_zero, List.length_cons, List.length_nil, List.take_succ_cons, List.take_nil, List.drop_zero, ex_clo, or_self, Bool.false_eq_true, tab30, hN, pe, encP, isPs_enc, toPs_enc, lk_spec_Locate_spec_isSimple, lk_spec_Locate_spec_validPoint, lk_spec_Locate_spec_locate, sp_spec_isSimple, sp_spec_validPoint, sp_spec_locate, h1, h2, hm, hz, hq, hv]
def sp_spec_Locate : PSpec := ⟨fun xs => match xs with | [.sl 2 les, .agg [.num .i64 q1, .num .i64 q2]] => isPs les | _ => False, fun xs => match xs with | [.sl _ les, .agg [.num _ q1, .num _ q2]] => (fun (l : List Pt) (q : Pt) => .num .i64 (locB l q)) (toPs les) (q1, q2) | _ => .junk, false⟩
theorem gk_spec_Locate : ∀ args, sp_spec_Locate.pre args → ICall Try.prog 44 args (sp_spec_Locate.val args) := by
  intro args h
  unfold sp_spec_Locate at h ⊢; simp only at h ⊢; split at h
  · have h0 := h
    obtain ⟨l0, rfl⟩ := isP_ex h0
    simp only [toPs_enc] at *
    exact c_spec_Locate _ (_, _) 
  · exact h.elim
theorem en_spec_Locate : Enters Try.prog 44 := enters_of Try.func44 (by kernel_rfl) rfl


/-- Is it a convex polygon, counterclockwise? -/
def cvxB (l : List Pt) : Bool := simpB l && leftsP l
def g_impl_convex : List (Nat × PSpec) := [(77, sp_impl_simple), (89, sp_impl_turn)]
theorem gok_impl_convex : GOK Try.prog g_impl_convex := gok_cons gk_impl_simple en_impl_simple (gok_cons gk_impl_turn en_impl_turn (gok0))
theorem lk_impl_convex_impl_simple : lkG g_impl_convex 77 = sp_impl_simple := rfl
theorem lk_impl_convex_impl_turn : lkG g_impl_convex 89 = sp_impl_turn := rfl
def h_impl_convex : List (Nat × HSpec) := []
theorem hok_impl_convex : HOK Try.prog h_impl_convex := hok0
theorem c_impl_convex (l : List Pt)  : ICall Try.prog 81 [.sl 2 (encPs l)] (.bool (cvxB l)) := by
  refine icall_V (G := g_impl_convex) (H := []) [(6, [(0, 20), (1, 20), (2, 20), (4, 20), (5, 20), (6, 20), (7, 20), (8, 20), (9, 20), (10, 20), (12, 20), (13, 20), (14, 20), (15, 20), (16, 20), (17, 20), (18, 20)])] tabOK mixed gok_impl_convex hok_impl_convex Try.func81 rfl Try.ntmps81 Try.results81 rfl (by kernel_rfl) fun F hN hlen => ?_
  have el := len_encPs l
  have hv : cvxB l = (simpB l && leftsP l) := rfl
  cases h1 : simpB l with
  | false =>
    rw [h1] at hv
    simp only [V_seq, V_ret, V_region, V_cond, brW_true, W_nil, W_cons, effOp2, KN_seq, KXr_nil, KXr_seq, QE, asB, effOp, effPure, effCall, giveUp, hasAll, pureV, ofC, strip, lkT, lkH, ISt.app, opI, gO, gB, allB, gval, wrapG, dstOK, setD, lendV, lendP, lent, lentP, idsV, idsL, lkHS, flat, clean, callArgs, callFn, allLent, enumT, Gives, Ideal.Fin, conv, conv0, Op.operands, reduceIte, reduceCtorEq, cond_true, Bool.or_false, Bool.false_and, Bool.not_true, Bool.not_false, Nat.reduceLT, Nat.reduceEqDiff, and_self, implies_true, List.map_cons, List.map_nil, List.nil_append, List.cons_append, List.append_nil, ex_clo, or_self, hN, isPs_enc, toPs_enc, lk_impl_convex_impl_simple, sp_impl_simple, h1, hv]
  | true =>
    obtain ⟨hk, h3, h20, hnd⟩ := ring_facts (simp_ring h1)
    have hm := okPs_sm hk
    rw [h1, Bool.true_and] at hv
    simp only [V_seq, V_skip, V_block, V_region, V_cond, brW_false, W_nil, W_cons, effOp2, KN_seq, asB, effOp, effPure, effCall, giveUp, hasAll, pureV, lenV, ofC, strip, lkT, lkH, ISt.app, opI, gO, gB, allB, gval, wrapG, dstOK, setD, lendV, lendP, lent, lentP, idsV, idsL, lkHS, flat, clean, callArgs, callFn, allLent, enumT, Op.operands, Call.operands, List.append_toArray, reduceIte, reduceCtorEq, cond_true, Bool.or_false, Bool.not_true, Nat.reduceLT, Nat.reduceEqDiff, ne_eq, not_false_eq_true, true_and, and_self, implies_true, List.map_cons, List.map_nil, List.nil_append, List.cons_append, List.append_nil, ex_clo, or_self, tab23, hN, isPs_enc, toPs_enc, lk_impl_convex_impl_simple, sp_impl_simple, el, h1]
    refine V_loop (α := Nat) ⟨tabOK, mixed, gok_impl_convex, hok_impl_convex⟩ (by kernel_rfl) (fun i => i ≤ l.length ∧ ∀ j, j < i → 0 < turnAt l j) (fun i => ⟨[(9, .num .i64 i), (8, .num .i64 l.length), (0, .sl 2 (encPs l))], []⟩) (fun i => l.length - i) 0 id ⟨Nat.zero_le _, fun j h => absurd h (Nat.not_lt_zero j)⟩ (by simp [SLe, SLe0, convTm, convHp, conv, conv0, lkT, lkH, clean]) ?_
    rintro i ⟨hi, hj⟩
    simp only [V_seq, V_region, V_cond, W_nil, W_cons, effOp2, KN_seq, asB, effOp, effPure, pureV, binV, strip, lkT, ISt.app, opI, gO, gB, allB, gval, wrapG, dstOK, setD, Op.operands, reduceIte, reduceCtorEq, Nat.reduceLT, Nat.reduceEqDiff, true_and, and_self, implies_true, List.nil_append, List.cons_append, List.append_nil, hN]
    refine brW_some (fun h => ?_) (fun h => ?_)
    · have hi' : i < l.length := by simpa using h
      have n1 : (i + 1) % l.length < l.length := Nat.mod_lt _ (by omega)
      have n2 : (i + 2) % l.length < l.length := Nat.mod_lt _ (by omega)
      have g0 := getD_encPs hi'
      have g1 := getD_encPs n1
      have g2 := getD_encPs n2
      have hw := wr_succ hi' (by rw [maxLen_eq]; omega)
      have hw2 : IntKind.i64.wrap ((i : Int) + 2) = ((i + 2 : Nat) : Int) := by rw [wr (by omega) (by omega)]; omega
      have t1 : ((i + 1 : Nat) : Int).tmod (l.length : Int) = (((i + 1) % l.length : Nat) : Int) := by rw [Int.tmod_eq_emod_of_nonneg (by omega)]; simp
      have t2 : ((i + 2 : Nat) : Int).tmod (l.length : Int) = (((i + 2) % l.length : Nat) : Int) := by rw [Int.tmod_eq_emod_of_nonneg (by omega)]; simp
      have s1 := hm.at i
      have s2 := hm.at ((i + 1) % l.length)
      have s3 := hm.at ((i + 2) % l.length)
      have ht : turn (pAt l i) (pAt l ((i + 1) % l.length)) (pAt l ((i + 2) % l.length)) = turnAt l i := rfl
      cases c1 : decide (turnAt l i ≤ 0) with
      | true =>
        have hno := lefts_no hi' (of_decide_eq_true c1)
        rw [hno] at hv
        simp only [V_seq, V_skip, V_ret, V_block, V_region, V_draw, V_cond, brW_true, drawW, WS_nil, pairsOf, W_nil, W_cons, effOp2, WI_nil, WI_cons, KN_seq, KXr_nil, KXr_seq, KXr_block, KXr_back, QE, dynOK, indB, farB, freshB, heapy, asB, effOp, effPure, effCall, giveUp, hasAll, pureV, binV, partV, eltV, loadV, iaddrV, lenV, ofC, strip, lkT, lkH, ISt.app, opI, gO, gB, allB, gval, wrapG, dstOK, setD, mentTm, mentHp, IV.ment, lendV, lendP, lent, lentP, idsV, idsL, lkHS, flat, clean, callArgs, callFn, allLent, Gives, Ideal.Fin, conv, conv0, Op.operands, Call.operands, List.append_toArray, reduceIte, reduceCtorEq, cond_true, cond_false, Bool.or_false, Bool.and_true, Bool.and_eq_true, Bool.not_true, Bool.not_false, Nat.reduceAdd, Nat.reduceLT, Nat.reduceLeDiff, Nat.reduceEqDiff, Nat.reduceBEq, Nat.zero_add, ne_eq, not_false_eq_true, true_and, and_true, and_false, and_self, implies_true, forall_const, List.map_cons, List.map_nil, List.nil_append, List.cons_append, List.append_nil, List.getD_cons_zero, List.getD_cons_succ, List.length_cons, List.length_nil, List.take_succ_cons, List.take_zero, List.take_nil, List.drop_zero, ex_clo, or_self, tab23, tab30, hN, pe, Int.toNat_natCast, lk_impl_convex_impl_turn, sp_impl_turn, el, g0, g1, g2, hw, hw2, t1, t2, s1, s2, s3, ht, c1, hv]
        repeat refine And.intro (by first | omega | (simp; done) | (simp; omega)) ?_
        try omega
      | false =>
        have hst := lt_step (P := fun j => 0 < turnAt l j) hj (show 0 < turnAt l i by have := of_decide_eq_false c1; omega)
        simp only [V_seq, V_skip, V_block, V_region, V_draw, V_cond, brW_false, drawW, WS_nil, pairsOf, W_nil, W_cons, effOp2, WI_nil, WI_cons, KN_seq, KN_block, KN_back, dynOK, indB, farB, freshB, heapy, asB, effOp, effPure, effCall, giveUp, hasAll, pureV, binV, partV, eltV, loadV, iaddrV, lenV, ofC, strip, lkT, lkH, ISt.app, opI, gO, gB, allB, gval, wrapG, dstOK, setD, mentTm, mentHp, IV.ment, lendV, lendP, lent, lentP, idsV, idsL, lkHS, flat, clean, callArgs, callFn, allLent, Op.operands, Call.operands, List.append_toArray, reduceIte, reduceCtorEq, cond_true, cond_false, Bool.or_false, Bool.and_true, Bool.and_eq_true, Bool.not_true, Bool.not_false, Nat.reduceAdd, Nat.reduceLT, Nat.reduceLeDiff, Nat.reduceEqDiff, Nat.reduceBEq, Nat.zero_add, ne_eq, not_false_eq_true, true_and, and_true, and_false, and_self, implies_true, forall_const, List.map_cons, List.map_nil, List.nil_append, List.cons_append, List.append_nil, List.getD_cons_zero, List.getD_cons_succ, List.length_cons, List.length_nil, List.take_succ_cons, List.take_zero, List.take_nil, List.drop_zero, ex_clo, or_self, tab23, tab30, hN, pe, Int.toNat_natCast, lk_impl_convex_impl_turn, sp_impl_turn, el, g0, g1, g2, hw, hw2, t1, t2, s1, s2, s3, ht, c1]
        repeat refine And.intro (by first | omega | (simp; done) | (simp; omega)) ?_
        exact ⟨i + 1, id, ⟨by omega, hst⟩, by simp only []; omega, by simp [SLe, SLe0, convTm, convHp, conv, conv0, lkT, lkH, clean]⟩
    · have hie : i = l.length := by simp at h; omega
      subst hie
      rw [lefts_iff.2 hj] at hv
      simp only [V_seq, V_ret, V_exit, V_region, W_nil, W_cons, effOp2, KN_seq, KXr_nil, KXe_nil, KXe_seq, KXe_block, KXe_back, QE, effOp, effPure, pureV, ofC, strip, lkT, lkH, ISt.app, opI, gO, gB, allB, gval, wrapG, dstOK, setD, clean, Gives, Ideal.Fin, conv, conv0, Op.operands, reduceIte, reduceCtorEq, Nat.reduceLT, Nat.reduceEqDiff, and_self, implies_true, List.nil_append, List.cons_append, List.append_nil, hN, hv]
def sp_impl_convex : PSpec := ⟨fun xs => match xs with | [.sl 2 les] => isPs les | _ => False, fun xs => match xs with | [.sl _ les] => (fun (l : List Pt) => .bool (cvxB l)) (toPs les) | _ => .junk, false⟩
theorem gk_impl_convex : ∀ args, sp_impl_convex.pre args → ICall Try.prog 81 args (sp_impl_convex.val args) := by
  intro args h
  unfold sp_impl_convex at h ⊢; simp only at h ⊢; split at h
  · have h0 := h
    obtain ⟨l0, rfl⟩ := isP_ex h0
    simp only [toPs_enc] at *
    exact c_impl_convex _ 
  · exact h.elim
theorem en_impl_convex : Enters Try.prog 81 := enters_of Try.func81 (by kernel_rfl) rfl

def g_spec_isConvex : List (Nat × PSpec) := [(76, sp_spec_isSimple), (113, sp_spec_cross)]
theorem gok_spec_isConvex : GOK Try.prog g_spec_isConvex := gok_cons gk_spec_isSimple en_spec_isSimple (gok_cons gk_spec_cross en_spec_cross (gok0))
theorem lk_spec_isConvex_spec_isSimple : lkG g_spec_isConvex 76 = sp_spec_isSimple := rfl
theorem lk_spec_isConvex_spec_cross : lkG g_spec_isConvex 113 = sp_spec_cross := rfl
def h_spec_isConvex : List (Nat × HSpec) := []
theorem hok_spec_isConvex : HOK Try.prog h_spec_isConvex := hok0
theorem c_spec_isConvex (l : List Pt)  : ICall Try.prog 80 [.sl 2 (encPs l)] (.bool (cvxB l)) := by
  refine icall_V (G := g_spec_isConvex) (H := []) [(6, [(0, 20), (1, 20), (2, 20), (4, 20), (5, 20), (6, 20), (7, 20), (8, 20), (9, 20), (10, 20), (12, 20), (13, 20), (14, 20), (15, 20), (16, 20), (17, 20), (18, 20)])] tabOK mixed gok_spec_isConvex hok_spec_isConvex Try.func80 rfl Try.ntmps80 Try.results80 rfl (by kernel_rfl) fun F hN hlen => ?_
  have el := len_encPs l
  have hv : cvxB l = (simpB l && leftsP l) := rfl
  cases h1 : simpB l with
  | false =>
    rw [h1] at hv
    simp only [V_seq, V_ret, V_region, V_cond, brW_true, W_nil, W_cons, effOp2, KN_seq, KXr_nil, KXr_seq, QE, asB, effOp, effPure, effCall, giveUp, hasAll, pureV, ofC, strip, lkT, lkH, ISt.app, opI, gO, gB, allB, gval, wrapG, dstOK, setD, lendV, lendP, lent, lentP, idsV, idsL, lkHS, flat, clean, callArgs, callFn, allLent, enumT, Gives, Ideal.Fin, conv, conv0, Op.operands, reduceIte, reduceCtorEq, cond_true, Bool.or_false, Bool.false_and, Bool.not_true, Bool.not_false, Nat.reduceLT, Nat.reduceEqDiff, and_self, implies_true, List.map_cons, List.map_nil, List.nil_append, List.cons_append, List.append_nil, ex_clo, or_self, hN, isPs_enc, toPs_enc, lk_spec_isConvex_spec_isSimple, sp_spec_isSimple, h1, hv]
  | true =>
    obtain ⟨hk, h3, h20, hnd⟩ := ring_facts (simp_ring h1)
    have hm := okPs_sm hk
    rw [h1, Bool.true_and] at hv
    simp only [V_seq, V_skip, V_block, V_region, V_cond, brW_false, W_nil, W_cons, effOp2, KN_seq, asB, effOp, effPure, effCall, giveUp, hasAll, pureV, ofC, strip, lkT, lkH, ISt.app, opI, gO, gB, allB, gval, wrapG, dstOK, setD, lendV, lendP, lent, lentP, idsV, idsL, lkHS, flat, clean, callArgs, callFn, allLent, enumT, Op.operands, reduceIte, reduceCtorEq, cond_true, Bool.or_false, Bool.not_true, Nat.reduceLT, Nat.reduceEqDiff, true_and, and_self, implies_true, List.map_cons, List.map_nil, List.nil_append, List.cons_append, List.append_nil, ex_clo, or_self, hN, isPs_enc, toPs_enc, lk_spec_isConvex_spec_isSimple, sp_spec_isSimple, h1]
    refine V_loop (α := Nat) ⟨tabOK, mixed, gok_spec_isConvex, hok_spec_isConvex⟩ (by kernel_rfl) (fun i => i ≤ l.length ∧ ∀ j, j < i → 0 < turnAt l j) (fun i => ⟨[(3, .num .i64 i), (0, .sl 2 (encPs l))], []⟩) (fun i => l.length - i) 0 id ⟨Nat.zero_le _, fun j h => absurd h (Nat.not_lt_zero j)⟩ (by simp [SLe, SLe0, convTm, convHp, conv, conv0, lkT, lkH, clean]) ?_
    rintro i ⟨hi, hj⟩
    simp only [V_seq, V_region, V_cond, W_nil, W_cons, effOp2, KN_seq, asB, effOp, effPure, pureV, binV, lenV, strip, lkT, ISt.app, opI, gO, gB, allB, gval, wrapG, dstOK, setD, Op.operands, Call.operands, List.append_toArray, reduceIte, reduceCtorEq, Nat.reduceLT, Nat.reduceEqDiff, ne_eq, not_false_eq_true, true_and, and_self, implies_true, List.nil_append, List.cons_append, List.append_nil, tab23, hN, el]
    refine brW_some (fun h => ?_) (fun h => ?_)
    · have hi' : i < l.length := by simpa using h
      have n1 : (i + 1) % l.length < l.length := Nat.mod_lt _ (by omega)
      have n2 : (i + 2) % l.length < l.length := Nat.mod_lt _ (by omega)
      have g0 := getD_encPs hi'
      have g1 := getD_encPs n1
      have g2 := getD_encPs n2
      have hw := wr_succ hi' (by rw [maxLen_eq]; omega)
      have hw2 : IntKind.i64.wrap ((i : Int) + 2) = ((i + 2 : Nat) : Int) := by rw [wr (by omega) (by omega)]; omega
      have t1 : ((i + 1 : Nat) : Int).tmod (l.length : Int) = (((i + 1) % l.length : Nat) : Int) := by rw [Int.tmod_eq_emod_of_nonneg (by omega)]; simp
      have t2 : ((i + 2 : Nat) : Int).tmod (l.length : Int) = (((i + 2) % l.length : Nat) : Int) := by rw [Int.tmod_eq_emod_of_nonneg (by omega)]; simp
      have s1 := hm.at i
      have s2 := hm.at ((i + 1) % l.length)
      have s3 := hm.at ((i + 2) % l.length)
      have ht : turn (pAt l i) (pAt l ((i + 1) % l.length)) (pAt l ((i + 2) % l.length)) = turnAt l i := rfl
      cases c1 : decide (turnAt l i ≤ 0) with
      | true =>
        have hno := lefts_no hi' (of_decide_eq_true c1)
        rw [hno] at hv
        simp only [V_seq, V_skip, V_ret, V_block, V_region, V_draw, V_cond, brW_true, drawW, WS_nil, pairsOf, W_nil, W_cons, effOp2, WI_nil, WI_cons, KN_seq, KXr_nil, KXr_seq, KXr_block, KXr_back, QE, dynOK, indB, farB, freshB, heapy, asB, effOp, effPure, effCall, giveUp, hasAll, pureV, binV, partV, eltV, loadV, iaddrV, lenV, ofC, strip, lkT, lkH, ISt.app, opI, gO, gB, allB, gval, wrapG, dstOK, setD, mentTm, mentHp, IV.ment, lendV, lendP, lent, lentP, idsV, idsL, lkHS, flat, clean, callArgs, callFn, allLent, Gives, Ideal.Fin, conv, conv0, Op.operands, Call.operands, List.append_toArray, reduceIte, reduceCtorEq, cond_true, cond_false, Bool.or_false, Bool.and_true, Bool.and_eq_true, Bool.not_true, Bool.not_false, Nat.reduceAdd, Nat.reduceLT, Nat.reduceLeDiff, Nat.reduceEqDiff, Nat.reduceBEq, Nat.zero_add, ne_eq, not_false_eq_true, true_and, and_true, and_false, and_self, implies_true, forall_const, List.map_cons, List.map_nil, List.nil_append, List.cons_append, List.append_nil, List.getD_cons_zero, List.getD_cons_succ, List.length_cons, List.length_nil, List.take_succ_cons, List.take_zero, List.take_nil, List.drop_zero, ex_clo, or_self, tab23, tab30, hN, pe, Int.toNat_natCast, lk_spec_isConvex_spec_cross, sp_spec_cross, el, g0, g1, g2, hw, hw2, t1, t2, s1, s2, s3, ht, c1, hv]
        repeat refine And.intro (by first | omega | (simp; done) | (simp; omega)) ?_
        try omega
      | false =>
        have hst := lt_step (P := fun j => 0 < turnAt l j) hj (show 0 < turnAt l i by have := of_decide_eq_false c1; omega)
        simp only [V_seq, V_skip, V_block, V_region, V_draw, V_cond, brW_false, drawW, WS_nil, pairsOf, W_nil, W_cons, effOp2, WI_nil, WI_cons, KN_seq, KN_block, KN_back, dynOK, indB, farB, freshB, heapy, asB, effOp, effPure, effCall, giveUp, hasAll, pureV, binV, partV, eltV, loadV, iaddrV, lenV, ofC, strip, lkT, lkH, ISt.app, opI, gO, gB, allB, gval, wrapG, dstOK, setD, mentTm, mentHp, IV.ment, lendV, lendP, lent, lentP, idsV, idsL, lkHS, flat, clean, callArgs, callFn, allLent, Op.operands, Call.operands, List.append_toArray, reduceIte, reduceCtorEq, cond_true, cond_false, Bool.or_false, Bool.and_true, Bool.and_eq_true, Bool.not_true, Bool.not_false, Nat.reduceAdd, Nat.reduceLT, Nat.reduceLeDiff, Nat.reduceEqDiff, Nat.reduceBEq, Nat.zero_add, ne_eq, not_false_eq_true, true_and, and_true, and_false, and_self, implies_true, forall_const, List.map_cons, List.map_nil, List.nil_append, List.cons_append, List.append_nil, List.getD_cons_zero, List.getD_cons_succ, List.length_cons, List.length_nil, List.take_succ_cons, List.take_zero, List.take_nil, List.drop_zero, ex_clo, or_self, tab23, tab30, hN, pe, Int.toNat_natCast, lk_spec_isConvex_spec_cross, sp_spec_cross, el, g0, g1, g2, hw, hw2, t1, t2, s1, s2, s3, ht, c1]
        repeat refine And.intro (by first | omega | (simp; done) | (simp; omega)) ?_
        exact ⟨i + 1, id, ⟨by omega, hst⟩, by simp only []; omega, by simp [SLe, SLe0, convTm, convHp, conv, conv0, lkT, lkH, clean]⟩
    · have hie : i = l.length := by simp at h; omega
      subst hie
      rw [lefts_iff.2 hj] at hv
      simp only [V_seq, V_ret, V_exit, V_region, W_nil, W_cons, effOp2, KN_seq, KXr_nil, KXe_nil, KXe_seq, KXe_block, KXe_back, QE, effOp, effPure, pureV, ofC, strip, lkT, lkH, ISt.app, opI, gO, gB, allB, gval, wrapG, dstOK, setD, clean, Gives, Ideal.Fin, conv, conv0, Op.operands, reduceIte, reduceCtorEq, Nat.reduceLT, Nat.reduceEqDiff, and_self, implies_true, List.nil_append, List.cons_append, List.append_nil, hN, hv]
def sp_spec_isConvex : PSpec := ⟨fun xs => match xs with | [.sl 2 les] => isPs les | _ => False, fun xs => match xs with | [.sl _ les] => (fun (l : List Pt) => .bool (cvxB l)) (toPs les) | _ => .junk, false⟩
theorem gk_spec_isConvex : ∀ args, sp_spec_isConvex.pre args → ICall Try.prog 80 args (sp_spec_isConvex.val args) := by
  intro args h
  unfold sp_spec_isConvex at h ⊢; simp only at h ⊢; split at h
  · have h0 := h
    obtain ⟨l0, rfl⟩ := isP_ex h0
    simp only [toPs_enc] at *
    exact c_spec_isConvex _ 
  · exact h.elim
theorem en_spec_isConvex : Enters Try.prog 80 := enters_of Try.func80 (by kernel_rfl) rfl

def g_impl_IsConvex : List (Nat × PSpec) := [(81, sp_impl_convex)]
theorem gok_impl_IsConvex : GOK Try.prog g_impl_IsConvex := gok_cons gk_impl_convex en_impl_convex (gok0)
theorem lk_impl_IsConvex_impl_convex : lkG g_impl_IsConvex 81 = sp_impl_convex := rfl
def h_impl_IsConvex : List (Nat × HSpec) := []
theorem hok_impl_IsConvex : HOK Try.prog h_impl_IsConvex := hok0
theorem c_impl_IsConvex (l : List Pt)  : ICall Try.prog 38 [.sl 2 (encPs l)] (.bool (cvxB l)) := by
  refine icall_V (G := g_impl_IsConvex) (H := []) [] tabOK mixed gok_impl_IsConvex hok_impl_IsConvex Try.func38 rfl Try.ntmps38 Try.results38 rfl (by kernel_rfl) fun F hN hlen => ?_
  simp only [V_seq, V_ret, V_region, W_nil, W_cons, effOp2, KN_seq, KXr_nil, QE, effOp, effPure, effCall, giveUp, hasAll, pureV, ofC, strip, lkT, lkH, ISt.app, opI, gO, gB, allB, gval, wrapG, dstOK, setD, lendV, lendP, lent, lentP, idsV, idsL, lkHS, flat, clean, callArgs, callFn, allLent, enumT, Gives, Ideal.Fin, conv, conv0, Op.operands, reduceIte, reduceCtorEq, cond_true, Bool.or_false, Bool.not_true, Nat.reduceLT, Nat.reduceEqDiff, and_self, implies_true, List.map_cons, List.map_nil, List.nil_append, List.cons_append, List.append_nil, ex_clo, or_self, hN, isPs_enc, toPs_enc, lk_impl_IsConvex_impl_convex, sp_impl_convex]
def sp_impl_IsConvex : PSpec := ⟨fun xs => match xs with | [.sl 2 les] => isPs les | _ => False, fun xs => match xs with | [.sl _ les] => (fun (l : List Pt) => .bool (cvxB l)) (toPs les) | _ => .junk, false⟩
theorem gk_impl_IsConvex : ∀ args, sp_impl_IsConvex.pre args → ICall Try.prog 38 args (sp_impl_IsConvex.val args) := by
  intro args h
  unfold sp_impl_IsConvex at h ⊢; simp only at h ⊢; split at h
  · have h0 := h
    obtain ⟨l0, rfl⟩ := isP_ex h0
    simp only [toPs_enc] at *
    exact c_impl_IsConvex _ 
  · exact h.elim
theorem en_impl_IsConvex : Enters Try.prog 38 := enters_of Try.func38 (by kernel_rfl) rfl

def g_spec_IsConvex : List (Nat × PSpec) := [(80, sp_spec_isConvex)]
theorem gok_spec_IsConvex : GOK Try.prog g_spec_IsConvex := gok_cons gk_spec_isConvex en_spec_isConvex (gok0)
theorem lk_spec_IsConvex_spec_isConvex : lkG g_spec_IsConvex 80 = sp_spec_isConvex := rfl
def h_spec_IsConvex : List (Nat × HSpec) := []
theorem hok_spec_IsConvex : HOK Try.prog h_spec_IsConvex := hok0
theorem c_spec_IsConvex (l : List Pt)  : ICall Try.prog 37 [.sl 2 (encPs l)] (.bool (cvxB l)) := by
  refine icall_V (G := g_spec_IsConvex) (H := []) [] tabOK mixed gok_spec_IsConvex hok_spec_IsConvex Try.func37 rfl Try.ntmps37 Try.results37 rfl (by kernel_rfl) fun F hN hlen => ?_
  simp only [V_seq, V_ret, V_region, W_nil, W_cons, effOp2, KN_seq, KXr_nil, QE, effOp, effPure, effCall, giveUp, hasAll, pureV, ofC, strip, lkT, lkH, ISt.app, opI, gO, gB, allB, gval, wrapG, dstOK, setD, lendV, lendP, lent, lentP, idsV, idsL, lkHS, flat, clean, callArgs, callFn, allLent, enumT, Gives, Ideal.Fin, conv, conv0, Op.operands, reduceIte, reduceCtorEq, cond_true, Bool.or_false, Bool.not_true, Nat.reduceLT, Nat.reduceEqDiff, and_self, implies_true, List.map_cons, List.map_nil, List.nil_append, List.cons_append, List.append_nil, ex_clo, or_self, hN, isPs_enc, toPs_enc, lk_spec_IsConvex_spec_isConvex, sp_spec_isConvex]
def sp_spec_IsConvex : PSpec := ⟨fun xs => match xs with | [.sl 2 les] => isPs les | _ => False, fun xs => match xs with | [.sl _ les] => (fun (l : List Pt) => .bool (cvxB l)) (toPs les) | _ => .junk, false⟩
theorem gk_spec_IsConvex : ∀ args, sp_spec_IsConvex.pre args → ICall Try.prog 37 args (sp_spec_IsConvex.val args) := by
  intro args h
  unfold sp_spec_IsConvex at h ⊢; simp only at h ⊢; split at h
  · have h0 := h
    obtain ⟨l0, rfl⟩ := isP_ex h0
    simp only [toPs_enc] at *
    exact c_spec_IsConvex _ 
  · exact h.elim
theorem en_spec_IsConvex : Enters Try.prog 37 := enters_of Try.func37 (by kernel_rfl) rfl


theorem least_bd (l : List Pt) (q : Pt) : ∀ i, -1 ≤ leastN l q i ∧ leastN l q i ≤ 1
  | 0 => by simp [leastN]
  | i + 1 => by
    have h1 := least_bd l q i
    have h2 := sgn_bd (turn (edP l i).1 (edP l i).2 q)
    rw [leastN]; omega
/-- Where a point is of a convex polygon. -/
def lcB (l : List Pt) (q : Pt) : Int := bif cvxB l && okP q then leastN l q l.length else 2
def g_spec_inHull : List (Nat × PSpec) := [(113, sp_spec_cross), (115, sp_spec_sign)]
theorem gok_spec_inHull : GOK Try.prog g_spec_inHull := gok_cons gk_spec_cross en_spec_cross (gok_cons gk_spec_sign en_spec_sign (gok0))
theorem lk_spec_inHull_spec_cross : lkG g_spec_inHull 113 = sp_spec_cross := rfl
theorem lk_spec_inHull_spec_sign : lkG g_spec_inHull 115 = sp_spec_sign := rfl
def h_spec_inHull : List (Nat × HSpec) := []
theorem hok_spec_inHull : HOK Try.prog h_spec_inHull := hok0
theorem c_spec_inHull (l : List Pt) (q : Pt) (hm : SmL l) (hq : Sm q) (hsz : l.length ≤ 1000000) : ICall Try.prog 85 [.sl 2 (encPs l), encP q] (.num .i64 (leastN l q l.length)) := by
  refine icall_V (G := g_spec_inHull) (H := []) [(5, [(0, 14), (1, 14), (2, 14), (3, 14), (5, 14), (6, 14), (7, 14), (8, 14), (9, 14), (10, 14), (11, 14), (0, 15), (1, 15), (2, 15), (3, 15), (4, 15), (5, 15), (6, 15), (7, 15), (8, 15), (9, 15), (10, 15), (11, 15), (12, 15), (13, 15), (14, 16)])] tabOK mixed gok_spec_inHull hok_spec_inHull Try.func85 rfl Try.ntmps85 Try.results85 rfl (by kernel_rfl) fun F hN hlen => ?_
  have el := len_encPs l
  simp only [V_seq, V_block, V_region, W_nil, W_cons, effOp2, KN_seq, effOp, effPure, effNew, effBox, skipE, pureV, solid, IV.cells, ofC, strip, lkT, ISt.app, opI, gO, gB, allB, gval, wrapG, dstOK, setD, mentTm, mentHp, IV.ment, IV.mentL, oneI, enumT, Op.operands, reduceIte, reduceCtorEq, cond_true, Bool.or_false, Bool.and_true, Nat.reduceLT, Nat.zero_add, true_and, and_self, implies_true, List.nil_append, List.cons_append, List.append_nil, List.all_cons, List.all_nil, hN, encP]
  refine V_loop (α := Nat) ⟨tabOK, mixed, gok_spec_inHull, hok_spec_inHull⟩ (by kernel_rfl) (fun i => i ≤ l.length) (fun i => ⟨[(6, .num .i64 i), (5, .num .i64 (leastN l q i)), (3, .ptr 3 0), (0, .sl 2 (encPs l))], [(3, some (.box 30 [.num .i64 q.1, .num .i64 q.2]))]⟩) (fun i => l.length - i) 0 id (Nat.zero_le _) (by simp [SLe, SLe0, convTm, convHp, convB, conv, conv0, convL, lkT, lkH, clean, leastN]) ?_
  intro i hi
  simp only [V_seq, V_region, V_cond, W_nil, W_cons, effOp2, KN_seq, asB, effOp, effPure, pureV, binV, lenV, strip, lkT, ISt.app, opI, gO, gB, allB, gval, wrapG, dstOK, setD, Op.operands, Call.operands, List.append_toArray, reduceIte, reduceCtorEq, Nat.reduceLT, Nat.reduceEqDiff, ne_eq, not_false_eq_true, true_and, and_self, implies_true, List.nil_append, List.cons_append, tab23, hN, el]
  refine brW_some (fun h => ?_) (fun h => ?_)
  · have hi' : i < l.length := by simpa using h
    have hn : (i + 1) % l.length < l.length := Nat.mod_lt _ (by omega)
    have g0 := getD_encPs hi'
    have g1 := getD_encPs hn
    have hw := wr_succ hi' (by rw [maxLen_eq]; omega)
    have t1 : ((i + 1 : Nat) : Int).tmod (l.length : Int) = (((i + 1) % l.length : Nat) : Int) := by rw [Int.tmod_eq_emod_of_nonneg (by omega)]; simp
    have s1 := hm.at i
    have s2 := hm.at ((i + 1) % l.length)
    have hst : min (leastN l q i) (sgnI (turn (pAt l i) (pAt l ((i + 1) % l.length)) q)) = leastN l q (i + 1) := rfl
    simp only [V_seq, V_skip, V_block, V_region, V_draw, drawW, WS_nil, pairsOf, W_nil, W_cons, effOp2, WI_nil, WI_cons, KN_seq, KN_block, KN_back, dynOK, indB, farB, freshB, heapy, effOp, effPure, effCall, giveUp, hasAll, pureV, binV, partV, eltV, loadV, iaddrV, lenV, ofC, strip, lkT, lkH, ISt.app, opI, gO, gB, allB, gval, wrapG, dstOK, setD, mentTm, mentHp, IV.ment, IV.mentL, lendV, lendP, lent, lentP, idsV, idsL, lkHS, flat, clean, callArgs, callFn, allLent, Op.operands, Call.operands, List.append_toArray, reduceIte, reduceCtorEq, cond_true, cond_false, Bool.or_false, Bool.and_true, Bool.and_eq_true, Bool.not_true, Bool.not_false, Nat.reduceAdd, Nat.reduceLT, Nat.reduceLeDiff, Nat.reduceEqDiff, Nat.reduceBEq, Nat.zero_add, ne_eq, not_false_eq_true, true_and, and_true, and_false, and_self, implies_true, forall_const, List.map_cons, List.map_nil, List.nil_append, List.cons_append, List.append_nil, List.getD_cons_zero, List.getD_cons_succ, List.length_cons, List.length_nil, List.take_succ_cons, List.take_zero, List.take_nil, List.drop_zero, ex_clo, or_self, tab23, tab30, hN, pe, Int.toNat_natCast, lk_spec_inHull_spec_cross, lk_spec_inHull_spec_sign, sp_spec_cross, sp_spec_sign, el, g0, g1, hw, t1, s1, s2, hq, hst]
    repeat refine And.intro (by first | omega | (simp; done) | (simp; omega)) ?_
    exact ⟨i + 1, id, by simp only []; omega, by simp only []; omega, by simp [SLe, SLe0, convTm, convHp, convB, conv, conv0, convL, lkT, lkH, clean]⟩
  · have hie : i = l.length := by simp at h; omega
    subst hie
    simp only [V_seq, V_ret, V_exit, V_region, W_nil, W_cons, effOp2, KN_seq, KXr_nil, KXe_nil, KXe_seq, KXe_block, KXe_back, QE, effOp, effPure, pureV, strip, lkT, lkH, ISt.app, opI, gO, gB, allB, gval, wrapG, dstOK, setD, clean, Gives, Ideal.Fin, conv, conv0, Op.operands, reduceIte, reduceCtorEq, Nat.reduceLT, Nat.reduceEqDiff, and_self, implies_true, List.nil_append, List.cons_append, hN]
def sp_spec_inHull : PSpec := ⟨fun xs => match xs with | [.sl 2 les, .agg [.num .i64 q1, .num .i64 q2]] => isPs les ∧ ((fun (l : List Pt) (q : Pt) => SmL l) (toPs les) (q1, q2)) ∧ ((fun (l : List Pt) (q : Pt) => Sm q) (toPs les) (q1, q2)) ∧ ((fun (l : List Pt) (q : Pt) => l.length ≤ 1000000) (toPs les) (q1, q2)) | _ => False, fun xs => match xs with | [.sl _ les, .agg [.num _ q1, .num _ q2]] => (fun (l : List Pt) (q : Pt) => .num .i64 (leastN l q l.length)) (toPs les) (q1, q2) | _ => .junk, false⟩
theorem gk_spec_inHull : ∀ args, sp_spec_inHull.pre args → ICall Try.prog 85 args (sp_spec_inHull.val args) := by
  intro args h
  unfold sp_spec_inHull at h ⊢; simp only at h ⊢; split at h
  · obtain ⟨h0, h1, h2, h3⟩ := h
    obtain ⟨l0, rfl⟩ := isP_ex h0
    simp only [toPs_enc] at *
    exact c_spec_inHull _ (_, _) h1 h2 h3
  · exact h.elim
theorem en_spec_inHull : Enters Try.prog 85 := enters_of Try.func85 (by kernel_rfl) rfl

def g_spec_LocateConvex : List (Nat × PSpec) := [(80, sp_spec_isConvex), (84, sp_spec_validPoint), (85, sp_spec_inHull)]
theorem gok_spec_LocateConvex : GOK Try.prog g_spec_LocateConvex := gok_cons gk_spec_isConvex en_spec_isConvex (gok_cons gk_spec_validPoint en_spec_validPoint (gok_cons gk_spec_inHull en_spec_inHull (gok0)))
theorem lk_spec_LocateConvex_spec_isConvex : lkG g_spec_LocateConvex 80 = sp_spec_isConvex := rfl
theorem lk_spec_LocateConvex_spec_validPoint : lkG g_spec_LocateConvex 84 = sp_spec_validPoint := rfl
theorem lk_spec_LocateConvex_spec_inHull : lkG g_spec_LocateConvex 85 = sp_spec_inHull := rfl
def h_spec_LocateConvex : List (Nat × HSpec) := []
theorem hok_spec_LocateConvex : HOK Try.prog h_spec_LocateConvex := hok0
theorem c_spec_LocateConvex (l : List Pt) (q : Pt)  : ICall Try.prog 41 [.sl 2 (encPs l), encP q] (.num .i64 (lcB l q)) := by
  refine icall_V (G := g_spec_LocateConvex) (H := []) [] tabOK mixed gok_spec_LocateConvex hok_spec_LocateConvex Try.func41 rfl Try.ntmps41 Try.results41 rfl (by kernel_rfl) fun F hN hlen => ?_
  have hv : lcB l q = bif cvxB l && okP q then leastN l q l.length else 2 := rfl
  cases h1 : cvxB l with
  | false =>
    rw [h1] at hv
    simp only [V_seq, V_ret, V_region, V_cond, brW_true, W_nil, W_cons, effOp2, KN_seq, KXr_nil, KXr_seq, QE, asB, effOp, effPure, effPick, effNew, effBox, effCall, giveUp, hasAll, skipE, pureV, pickV, partV, loadV, solid, IV.cells, ofC, strip, lkT, lkH, ISt.app, opI, gO, gB, allB, gval, wrapG, dstOK, setD, mentTm, mentHp, IV.ment, IV.mentL, oneI, lendV, lendP, lent, lentP, idsV, idsL, lkHS, flat, clean, callArgs, callFn, allLent, enumT, Gives, Ideal.Fin, conv, conv0, Op.operands, reduceIte, reduceCtorEq, cond_true, cond_false, Bool.or_false, Bool.or_true, Bool.and_true, Bool.false_and, Bool.not_true, Bool.not_false, Nat.reduceAdd, Nat.reduceLT, Nat.reduceLeDiff, Nat.reduceEqDiff, Nat.zero_add, and_true, and_false, and_self, false_implies, implies_true, List.map_cons, List.map_nil, List.nil_append, List.cons_append, List.append_nil, List.all_cons, List.all_nil, Option.bind_some, List.getElem?_cons_zero, List.getElem?_cons_succ, List.getD_cons_zero, List.length_cons, List.length_nil, List.take_succ_cons, List.take_nil, List.drop_zero, ex_clo, btf, or_self, Bool.true_eq_false, Bool.false_eq_true, tab30, hN, pe, encP, isPs_enc, toPs_enc, lk_spec_LocateConvex_spec_isConvex, lk_spec_LocateConvex_spec_validPoint, sp_spec_isConvex, sp_spec_validPoint, h1, hv]
  | true =>
    obtain ⟨hk, h3, h20, hnd⟩ := ring_facts (simp_ring (by simp only [cvxB, Bool.and_eq_true] at h1; exact h1.1))
    have hm := okPs_sm hk
    have hz : l.length ≤ 1000000 := by omega
    rw [h1] at hv
    cases h2 : okP q with
    | false =>
      rw [h2] at hv
      simp only [V_seq, V_ret, V_region, V_cond, brW_true, W_nil, W_cons, effOp2, KN_seq, KXr_nil, KXr_seq, QE, asB, effOp, effPure, effPick, effNew, effBox, effCall, giveUp, hasAll, skipE, pureV, pickV, partV, loadV, solid, IV.cells, ofC, strip, lkT, lkH, ISt.app, opI, gO, gB, allB, gval, wrapG, dstOK, setD, mentTm, mentHp, IV.ment, IV.mentL, oneI, lendV, lendP, lent, lentP, idsV, idsL, lkHS, flat, clean, callArgs, callFn, allLent, enumT, Gives, Ideal.Fin, conv, conv0, Op.operands, reduceIte, reduceCtorEq, cond_true, cond_false, Bool.or_false, Bool.and_true, Bool.and_false, Bool.not_true, Bool.not_false, Nat.reduceAdd, Nat.reduceLT, Nat.reduceLeDiff, Nat.reduceEqDiff, Nat.zero_add, beq_self_eq_true, and_false, and_self, implies_true, List.map_cons, List.map_nil, List.nil_append, List.cons_append, List.append_nil, List.all_cons, List.all_nil, Option.bind_some, List.getElem?_cons_zero, List.getElem?_cons_succ, List.getD_cons_zero, List.length_cons, List.length_nil, List.take_succ_cons, List.take_nil, List.drop_zero, ex_clo, or_self, Bool.false_eq_true, tab30, hN, pe, encP, isPs_enc, toPs_enc, lk_spec_LocateConvex_spec_isConvex, lk_spec_LocateConvex_spec_validPoint, sp_spec_isConvex, sp_spec_validPoint, h1, h2, hv]
    | true =>
      have hq := okP_sm h2
      rw [h2] at hv
      simp only [V_seq, V_skip, V_ret, V_region, V_cond, brW_false, W_nil, W_cons, effOp2, KN_seq, KXr_nil, QE, asB, effOp, effPure, effPick, effNew, effBox, effCall, giveUp, hasAll, skipE, pureV, pickV, partV, loadV, solid, IV.cells, ofC, strip, lkT, lkH, ISt.app, opI, gO, gB, allB, gval, wrapG, dstOK, setD, mentTm, mentHp, IV.ment, IV.mentL, oneI, lendV, lendP, lent, lentP, idsV, idsL, lkHS, flat, clean, callArgs, callFn, allLent, enumT, Gives, Ideal.Fin, conv, conv0, Op.operands, reduceIte, reduceCtorEq, cond_true, cond_false, Bool.or_false, Bool.and_true, Bool.not_true, Nat.reduceAdd, Nat.reduceLT, Nat.reduceLeDiff, Nat.reduceEqDiff, Nat.zero_add, beq_self_eq_true, and_false, and_self, implies_true, List.map_cons, List.map_nil, List.nil_append, List.cons_append, List.append_nil, List.all_cons, List.all_nil, Option.bind_some, List.getElem?_cons_zero, List.getElem?_cons_succ, List.getD_cons_zero, List.length_cons, List.length_nil, List.take_succ_cons, List.take_nil, List.drop_zero, ex_clo, or_self, Bool.false_eq_true, tab30, hN, pe, encP, isPs_enc, toPs_enc, lk_spec_LocateConvex_spec_isConvex, lk_spec_LocateConvex_spec_validPoint, lk_spec_LocateConvex_spec_inHull, sp_spec_isConvex, sp_spec_validPoint, sp_spec_inHull, h1, h2, hm, hz, hq, hv]
def sp_spec_LocateConvex : PSpec := ⟨fun xs => match xs with | [.sl 2 les, .agg [.num .i64 q1, .num .i64 q2]] => isPs les | _ => False, fun xs => match xs with | [.sl _ les, .agg [.num _ q1, .num _ q2]] => (fun (l : List Pt) (q : Pt) => .num .i64 (lcB l q)) (toPs les) (q1, q2) | _ => .junk, false⟩
theorem gk_spec_LocateConvex : ∀ args, sp_spec_LocateConvex.pre args → ICall Try.prog 41 args (sp_spec_LocateConvex.val args) := by
  intro args h
  unfold sp_spec_LocateConvex at h ⊢; simp only at h ⊢; split at h
  · have h0 := h
    obtain ⟨l0, rfl⟩ := isP_ex h0
    simp only [toPs_enc] at *
    exact c_spec_LocateConvex _ (_, _) 
  · exact h.elim
theorem en_spec_LocateConvex : Enters Try.prog 41 := enters_of Try.func41 (by kernel_rfl) rfl

def g_impl_LocateConvex : List (Nat × PSpec) := [(81, sp_impl_convex), (86, sp_impl_Point_valid), (87, sp_impl_edges_v), (89, sp_impl_turn), (88, sp_impl_sign)]
theorem gok_impl_LocateConvex : GOK Try.prog g_impl_LocateConvex := gok_cons gk_impl_convex en_impl_convex (gok_cons gk_impl_Point_valid en_impl_Point_valid (gok_consO gk_impl_edges_v en_impl_edges_v (gok_cons gk_impl_turn en_impl_turn (gok_cons gk_impl_sign en_impl_sign (gok0)))))
theorem lk_impl_LocateConvex_impl_convex : lkG g_impl_LocateConvex 81 = sp_impl_convex := rfl
theorem lk_impl_LocateConvex_impl_Point_valid : lkG g_impl_LocateConvex 86 = sp_impl_Point_valid := rfl
theorem lk_impl_LocateConvex_impl_edges_v : lkG g_impl_LocateConvex 87 = sp_impl_edges_v := rfl
theorem lk_impl_LocateConvex_impl_turn : lkG g_impl_LocateConvex 89 = sp_impl_turn := rfl
theorem lk_impl_LocateConvex_impl_sign : lkG g_impl_LocateConvex 88 = sp_impl_sign := rfl
def h_impl_LocateConvex : List (Nat × HSpec) := []
theorem hok_impl_LocateConvex : HOK Try.prog h_impl_LocateConvex := hok0
theorem c_impl_LocateConvex (l : List Pt) (q : Pt)  : ICall Try.prog 43 [.sl 2 (encPs l), encP q] (.num .i64 (lcB l q)) := by
  refine icall_V (G := g_impl_LocateConvex) (H := []) [] tabOK mixed gok_impl_LocateConvex hok_impl_LocateConvex Try.func43 rfl Try.ntmps43 Try.results43 rfl (by kernel_rfl) fun F hN hlen => ?_
  have hv : lcB l q = bif cvxB l && okP q then leastN l q l.length else 2 := rfl
  cases h1 : cvxB l with
  | false =>
    rw [h1] at hv
    simp only [V_seq, V_ret, V_region, V_cond, brW_true, W_nil, W_cons, effOp2, KN_seq, KXr_nil, KXr_seq, QE, asB, effOp, effPure, effPick, effNew, effBox, effCall, giveUp, hasAll, skipE, pureV, pickV, partV, loadV, solid, IV.cells, ofC, strip, lkT, lkH, ISt.app, opI, gO, gB, allB, gval, wrapG, dstOK, setD, mentTm, mentHp, IV.ment, IV.mentL, oneI, lendV, lendP, lent, lentP, idsV, idsL, lkHS, flat, clean, callArgs, callFn, allLent, enumT, Gives, Ideal.Fin, conv, conv0, Op.operands, reduceIte, reduceCtorEq, cond_true, cond_false, Bool.or_false, Bool.or_true, Bool.and_true, Bool.false_and, Bool.not_true, Bool.not_false, Nat.reduceAdd, Nat.reduceLT, Nat.reduceLeDiff, Nat.reduceEqDiff, Nat.zero_add, and_true, and_false, and_self, false_implies, implies_true, List.map_cons, List.map_nil, List.nil_append, List.cons_append, List.append_nil, List.all_cons, List.all_nil, Option.bind_some, List.getElem?_cons_zero, List.getElem?_cons_succ, List.getD_cons_zero, List.length_cons, List.length_nil, List.take_succ_cons, List.take_nil, List.drop_zero, ex_clo, btf, or_self, Bool.true_eq_false, Bool.false_eq_true, tab30, hN, pe, encP, isPs_enc, toPs_enc, lk_impl_LocateConvex_impl_convex, lk_impl_LocateConvex_impl_Point_valid, sp_impl_convex, sp_impl_Point_valid, h1, hv]
  | true =>
    obtain ⟨hk, h3, h20, hnd⟩ := ring_facts (simp_ring (by simp only [cvxB, Bool.and_eq_true] at h1; exact h1.1))
    have hm := okPs_sm hk
    have hz : l.length ≤ 1000000 := by omega
    rw [h1] at hv
    cases h2 : okP q with
    | false =>
      rw [h2] at hv
      simp only [V_seq, V_ret, V_region, V_cond, brW_true, W_nil, W_cons, effOp2, KN_seq, KXr_nil, KXr_seq, QE, asB, effOp, effPure, effPick, effNew, effBox, effCall, giveUp, hasAll, skipE, pureV, pickV, partV, loadV, solid, IV.cells, ofC, strip, lkT, lkH, ISt.app, opI, gO, gB, allB, gval, wrapG, dstOK, setD, mentTm, mentHp, IV.ment, IV.mentL, oneI, lendV, lendP, lent, lentP, idsV, idsL, lkHS, flat, clean, callArgs, callFn, allLent, enumT, Gives, Ideal.Fin, conv, conv0, Op.operands, reduceIte, reduceCtorEq, cond_true, cond_false, Bool.or_false, Bool.and_true, Bool.and_false, Bool.not_true, Bool.not_false, Nat.reduceAdd, Nat.reduceLT, Nat.reduceLeDiff, Nat.reduceEqDiff, Nat.zero_add, beq_self_eq_true, and_false, and_self, implies_true, List.map_cons, List.map_nil, List.nil_append, List.cons_append, List.append_nil, List.all_cons, List.all_nil, Option.bind_some, List.getElem?_cons_zero, List.getElem?_cons_succ, List.getD_cons_zero, List.length_cons, List.length_nil, List.take_succ_cons, List.take_nil, List.drop_zero, ex_clo, or_self, Bool.false_eq_true, tab30, hN, pe, encP, isPs_enc, toPs_enc, lk_impl_LocateConvex_impl_convex, lk_impl_LocateConvex_impl_Point_valid, sp_impl_convex, sp_impl_Point_valid, h1, h2, hv]
    | true =>
      have hq := okP_sm h2
      rw [h2, Bool.and_self, cond_true] at hv
      have ee : (edgesP l).length = l.length := by rw [edgesP, edgesN_len]
      have eq : (encQs (edgesP l)).length = l.length := by rw [len_encQs, ee]
      simp only [V_seq, V_skip, V_block, V_region, V_cond, brW_false, W_nil, W_cons, effOp2, KN_seq, asB, effOp, effPure, effPick, effNew, effBox, effCall, giveUp, hasAll, skipE, pureV, pickV, partV, loadV, lenV, solid, IV.cells, ofC, strip, lkT, lkH, ISt.app, opI, gO, gB, allB, gval, wrapG, dstOK, setD, mentTm, mentHp, IV.ment, IV.mentL, oneI, lendV, lendP, lent, lentP, idsV, idsL, lkHS, flat, clean, callArgs, callFn, allLent, enumT, Op.operands, Call.operands, List.append_toArray, reduceIte, reduceCtorEq, cond_true, cond_false, Bool.or_false, Bool.or_true, Bool.and_true, Bool.not_true, Nat.reduceAdd, Nat.reduceLT, Nat.reduceLeDiff, Nat.reduceEqDiff, Nat.zero_add, ne_eq, not_false_eq_true, beq_self_eq_true, true_and, and_false, and_self, implies_true, List.map_cons, List.map_nil, List.nil_append, List.cons_append, List.append_nil, List.all_cons, List.all_nil, Option.bind_some, List.getElem?_cons_zero, List.getElem?_cons_succ, List.getD_cons_zero, List.length_cons, List.length_nil, List.take_succ_cons, List.take_nil, List.drop_zero, ex_clo, or_self, Bool.false_eq_true, tab30, tab73, hN, pe, encP, isPs_enc, toPs_enc, lk_impl_LocateConvex_impl_convex, lk_impl_LocateConvex_impl_Point_valid, lk_impl_LocateConvex_impl_edges_v, sp_impl_convex, sp_impl_Point_valid, sp_impl_edges_v, h1, h2, hz, eq]
      refine V_loop (α := Nat) ⟨tabOK, mixed, gok_impl_LocateConvex, hok_impl_LocateConvex⟩ (by kernel_rfl) (fun i => i ≤ l.length) (fun i => ⟨[(19, .num .i64 i), (18, .num .i64 l.length), (17, .sl 4 (encQs (edgesP l))), (5, .num .i64 (leastN l q i)), (3, .ptr 3 0)], [(3, some (.box 30 [.num .i64 q.1, .num .i64 q.2]))]⟩) (fun i => l.length - i) 0 id (Nat.zero_le _) (by simp [SLe, SLe0, convTm, convHp, convB, conv, conv0, convL, lkT, lkH, clean, leastN]) ?_
      intro i hi
      simp only [V_seq, V_region, V_cond, W_nil, W_cons, effOp2, KN_seq, asB, effOp, effPure, pureV, binV, strip, lkT, ISt.app, opI, gO, gB, allB, gval, wrapG, dstOK, setD, Op.operands, reduceIte, Nat.reduceLT, Nat.reduceEqDiff, true_and, and_self, implies_true, List.nil_append, List.cons_append, hN]
      refine brW_some (fun h => ?_) (fun h => ?_)
      · have hi' : i < l.length := by simpa using h
        have g0 := getD_encQs (l := edgesP l) (i := i) (by omega)
        rw [edgesP_at hi'] at g0
        have hw := wr_succ hi' (by rw [maxLen_eq]; omega)
        have s0 := hm.edge i
        have s1 := s0.1
        have s2 := s0.2
        have hst : min (leastN l q i) (sgnI (turn (edgeP l i).1 (edgeP l i).2 q)) = leastN l q (i + 1) := rfl
        simp only [V_seq, V_skip, V_block, V_region, W_nil, W_cons, effOp2, KN_seq, KN_block, KN_back, effOp, effPure, effNew, effAlloc, effStore, effCall, giveUp, hasAll, skipE, pureV, storeV, binV, partV, eltV, loadV, faddrV, iaddrV, over, solid, IV.cells, ofC, strip, lkT, lkH, ISt.app, opI, gO, gB, allB, gval, wrapG, dstOK, setD, mentTm, mentHp, IV.ment, IV.mentL, oneI, lendV, lendP, lent, lentP, idsV, idsL, lkHS, flat, clean, callArgs, callFn, allLent, IBlk.shape, Op.operands, Call.operands, List.append_toArray, reduceIte, reduceCtorEq, cond_true, Bool.or_false, Bool.and_true, Bool.not_true, Nat.reduceAdd, Nat.reduceLT, Nat.reduceLeDiff, Nat.reduceEqDiff, Nat.reduceBEq, Nat.add_zero, Nat.zero_add, ne_eq, not_false_eq_true, true_and, and_true, and_false, and_self, implies_true, forall_const, List.map_cons, List.map_nil, List.nil_append, List.cons_append, List.append_nil, List.all_cons, List.all_nil, Option.map_some, List.getD_cons_zero, List.getD_cons_succ, List.length_cons, List.length_nil, List.take_succ_cons, List.take_zero, List.take_nil, List.drop_succ_cons, List.drop_zero, List.drop_nil, ex_clo, or_self, tab30, tab73, tab76, hN, pe, Int.toNat_natCast, lk_impl_LocateConvex_impl_turn, lk_impl_LocateConvex_impl_sign, sp_impl_turn, sp_impl_sign, eq, g0, hw, s1, s2, hq, hst]
        repeat refine And.intro (by first | omega | (simp; done) | (simp; omega)) ?_
        exact ⟨i + 1, id, by simp only []; omega, by simp only []; omega, by simp [SLe, SLe0, convTm, convHp, convB, conv, conv0, convL, lkT, lkH, clean]⟩
      · have hie : i = l.length := by simp at h; omega
        subst hie
        simp only [V_seq, V_ret, V_exit, V_region, W_nil, W_cons, effOp2, KN_seq, KXr_nil, KXe_nil, KXe_seq, KXe_block, KXe_back, QE, effOp, effPure, pureV, strip, lkT, lkH, ISt.app, opI, gO, gB, allB, gval, wrapG, dstOK, setD, clean, Gives, Ideal.Fin, conv, conv0, Op.operands, reduceIte, Nat.reduceLT, Nat.reduceEqDiff, and_self, implies_true, List.nil_append, List.cons_append, hN, hv]
def sp_impl_LocateConvex : PSpec := ⟨fun xs => match xs with | [.sl 2 les, .agg [.num .i64 q1, .num .i64 q2]] => isPs les | _ => False, fun xs => match xs with | [.sl _ les, .agg [.num _ q1, .num _ q2]] => (fun (l : List Pt) (q : Pt) => .num .i64 (lcB l q)) (toPs les) (q1, q2) | _ => .junk, false⟩
theorem gk_impl_LocateConvex : ∀ args, sp_impl_LocateConvex.pre args → ICall Try.prog 43 args (sp_impl_LocateConvex.val args) := by
  intro args h
  unfold sp_impl_LocateConvex at h ⊢; simp only at h ⊢; split at h
  · have h0 := h
    obtain ⟨l0, rfl⟩ := isP_ex h0
    simp only [toPs_enc] at *
    exact c_impl_LocateConvex _ (_, _) 
  · exact h.elim
theorem en_impl_LocateConvex : Enters Try.prog 43 := enters_of Try.func43 (by kernel_rfl) rfl


/-- The absolute value. -/
def absI (n : Int) : Int := if n < 0 then -n else n
theorem max_abs (n : Int) : max n (-n) = absI n := by unfold absI; split <;> omega
def g_impl_abs : List (Nat × PSpec) := []
theorem gok_impl_abs : GOK Try.prog g_impl_abs := gok0
def h_impl_abs : List (Nat × HSpec) := []
theorem hok_impl_abs : HOK Try.prog h_impl_abs := hok0
theorem c_impl_abs (n : Int) (hn : -9223372036854775807 ≤ n ∧ n ≤ 9223372036854775807) : ICall Try.prog 95 [.num .i64 n] (.num .i64 (absI n)) := by
  refine icall_V (G := g_impl_abs) (H := []) [] tabOK mixed gok_impl_abs hok_impl_abs Try.func95 rfl Try.ntmps95 Try.results95 rfl (by kernel_rfl) fun F hN hlen => ?_
  have w1 : IntKind.i64.wrap (-n) = -n := wr (by omega) (by omega)
  simp only [V_seq, V_ret, V_region, W_nil, W_cons, effOp2, KN_seq, KXr_nil, QE, effOp, effPure, pureV, ofC, strip, lkT, lkH, ISt.app, opI, gO, gB, allB, gval, wrapG, dstOK, setD, clean, enumT, Gives, Ideal.Fin, conv, conv0, Op.operands, Call.operands, List.append_toArray, reduceIte, reduceCtorEq, Nat.reduceLT, Nat.reduceEqDiff, and_self, implies_true, List.nil_append, List.cons_append, List.append_nil, hN, w1, max_abs]
def sp_impl_abs : PSpec := ⟨fun xs => match xs with | [.num .i64 n] => ((fun (n : Int) => -9223372036854775807 ≤ n ∧ n ≤ 9223372036854775807) n) | _ => False, fun xs => match xs with | [.num _ n] => (fun (n : Int) => .num .i64 (absI n)) n | _ => .junk, false⟩
theorem gk_impl_abs : ∀ args, sp_impl_abs.pre args → ICall Try.prog 95 args (sp_impl_abs.val args) := by
  intro args h
  unfold sp_impl_abs at h ⊢; simp only at h ⊢; split at h
  · have h0 := h
    simp only [toPs_enc] at *
    exact c_impl_abs _ h0
  · exact h.elim
theorem en_impl_abs : Enters Try.prog 95 := enters_of Try.func95 (by kernel_rfl) rfl

def g_spec_abs : List (Nat × PSpec) := []
theorem gok_spec_abs : GOK Try.prog g_spec_abs := gok0
def h_spec_abs : List (Nat × HSpec) := []
theorem hok_spec_abs : HOK Try.prog h_spec_abs := hok0
theorem c_spec_abs (n : Int) (hn : -9223372036854775807 ≤ n ∧ n ≤ 9223372036854775807) : ICall Try.prog 94 [.num .i64 n] (.num .i64 (absI n)) := by
  refine icall_V (G := g_spec_abs) (H := []) [] tabOK mixed gok_spec_abs hok_spec_abs Try.func94 rfl Try.ntmps94 Try.results94 rfl (by kernel_rfl) fun F hN hlen => ?_
  have w1 : IntKind.i64.wrap (-n) = -n := wr (by omega) (by omega)
  simp only [V_seq, V_region, V_cond, W_nil, W_cons, effOp2, KN_seq, asB, effOp, effPure, pureV, binV, ofC, strip, lkT, ISt.app, opI, gO, gB, allB, gval, wrapG, dstOK, setD, enumT, Op.operands, reduceIte, reduceCtorEq, Nat.reduceLT, Nat.reduceEqDiff, true_and, and_self, implies_true, List.nil_append, List.cons_append, List.append_nil, hN]
  refine brW_some (fun h => ?_) (fun h => ?_)
  · have h1 : absI n = -n := if_pos (by simpa using h)
    simp only [V_seq, V_ret, V_region, W_nil, W_cons, effOp2, KN_seq, KXr_nil, KXr_seq, QE, effOp, effPure, pureV, strip, lkT, lkH, ISt.app, opI, gO, gB, allB, gval, wrapG, dstOK, setD, clean, Gives, Ideal.Fin, conv, conv0, Op.operands, reduceIte, reduceCtorEq, Nat.reduceLT, Nat.reduceEqDiff, and_self, implies_true, List.nil_append, List.cons_append, List.append_nil, hN, w1, h1]
  · have h1 : absI n = n := if_neg (by simpa using h)
    simp only [V_seq, V_skip, V_ret, V_region, W_nil, W_cons, effOp2, KN_seq, KXr_nil, QE, effOp, effPure, pureV, strip, lkT, lkH, ISt.app, opI, gO, gB, allB, gval, wrapG, dstOK, setD, clean, Gives, Ideal.Fin, conv, conv0, Op.operands, reduceIte, reduceCtorEq, Nat.reduceLT, Nat.reduceEqDiff, and_self, implies_true, List.nil_append, List.cons_append, List.append_nil, hN, h1]
def sp_spec_abs : PSpec := ⟨fun xs => match xs with | [.num .i64 n] => ((fun (n : Int) => -9223372036854775807 ≤ n ∧ n ≤ 9223372036854775807) n) | _ => False, fun xs => match xs with | [.num _ n] => (fun (n : Int) => .num .i64 (absI n)) n | _ => .junk, false⟩
theorem gk_spec_abs : ∀ args, sp_spec_abs.pre args → ICall Try.prog 94 args (sp_spec_abs.val args) := by
  intro args h
  unfold sp_spec_abs at h ⊢; simp only at h ⊢; split at h
  · have h0 := h
    simp only [toPs_enc] at *
    exact c_spec_abs _ h0
  · exact h.elim
theorem en_spec_abs : Enters Try.prog 94 := enters_of Try.func94 (by kernel_rfl) rfl

theorem abs_gcd (a b : Int) : Int.gcd (absI a) (absI b) = Int.gcd a b := gcd_abs a b
def g_impl_divisor : List (Nat × PSpec) := [(95, sp_impl_abs)]
theorem gok_impl_divisor : GOK Try.prog g_impl_divisor := gok_cons gk_impl_abs en_impl_abs (gok0)
theorem lk_impl_divisor_impl_abs : lkG g_impl_divisor 95 = sp_impl_abs := rfl
def h_impl_divisor : List (Nat × HSpec) := []
theorem hok_impl_divisor : HOK Try.prog h_impl_divisor := hok0
theorem c_impl_divisor (a : Int) (b : Int) (ha : -9223372036854775807 ≤ a ∧ a ≤ 9223372036854775807) (hb : -9223372036854775807 ≤ b ∧ b ≤ 9223372036854775807) : ICall Try.prog 137 [.num .i64 a, .num .i64 b] (.num .i64 (Int.gcd a b)) := by
  refine icall_V (G := g_impl_divisor) (H := []) [] tabOK mixed gok_impl_divisor hok_impl_divisor Try.func137 rfl Try.ntmps137 Try.results137 rfl (by kernel_rfl) fun F hN hlen => ?_
  simp only [V_seq, V_block, V_region, W_nil, W_cons, effOp2, KN_seq, effOp, effPure, pureV, ofC, strip, ISt.app, opI, gO, gB, allB, gval, wrapG, dstOK, setD, enumT, Op.operands, Nat.reduceLT, Nat.zero_add, true_and, and_self, implies_true, List.nil_append, List.cons_append, List.append_nil, hN]
  refine V_loop (α := Int × Int) ⟨tabOK, mixed, gok_impl_divisor, hok_impl_divisor⟩ (by kernel_rfl) (fun x => Int.gcd x.1 x.2 = Int.gcd a b ∧ (-9223372036854775807 ≤ x.1 ∧ x.1 ≤ 9223372036854775807) ∧ (-9223372036854775807 ≤ x.2 ∧ x.2 ≤ 9223372036854775807)) (fun x => ⟨[(0, .num .i64 x.1), (1, .num .i64 x.2)], []⟩) (fun x => x.2.natAbs) (a, b) id ⟨rfl, ha, hb⟩ (by simp [SLe, SLe0, convTm, convHp, conv, conv0, lkT, lkH, clean]) ?_
  rintro ⟨x, y⟩ ⟨h1, h2, h3⟩
  simp only [] at h1 h2 h3
  simp only [V_seq, V_region, V_cond, W_nil, W_cons, effOp2, KN_seq, asB, effOp, effPure, pureV, binV, ofC, strip, lkT, ISt.app, opI, gO, gB, allB, gval, wrapG, dstOK, setD, Op.operands, reduceIte, reduceCtorEq, Nat.reduceLT, Nat.reduceEqDiff, true_and, and_self, implies_true, List.nil_append, List.cons_append, List.append_nil, hN]
  refine brW_some (fun h => ?_) (fun h => ?_)
  · have hy : y ≠ 0 := by simpa using h
    have hlt := tmod_lt (a := x) hy
    have d1 : (y == 0) = false := by simpa using hy
    simp only [V_skip, V_block, V_draw, drawW, pairsOf, WD_nil, WD_cons, KN_seq, KN_block, KN_back, effOp, effPure, pureV, binV, strip, lkT, ISt.app, opI, gO, gB, allB, gval, wrapG, dstOK, setD, Op.operands, reduceIte, reduceCtorEq, Nat.reduceLT, Nat.reduceEqDiff, ne_eq, true_and, and_self, implies_true, forall_const, List.nil_append, List.cons_append, List.append_nil, hN]
    exact ⟨hy, (y, x.tmod y), id, ⟨(gcd_tmod x y).trans h1, h3, by simp only []; omega⟩, hlt, by simp [SLe, SLe0, convTm, convHp, conv, conv0, lkT, lkH, clean]⟩
  · have hy : y = 0 := by simpa using h
    subst hy
    have hg : absI x = (Int.gcd a b : Int) := by rw [← h1, gcd_zero]; rfl
    simp only [V_seq, V_ret, V_exit, V_region, W_nil, W_cons, effOp2, KN_seq, KXr_nil, KXe_nil, KXe_seq, KXe_block, KXe_back, QE, effOp, effPure, effCall, giveUp, hasAll, pureV, strip, lkT, lkH, ISt.app, opI, gO, gB, allB, gval, wrapG, dstOK, setD, lendV, lendP, lent, lentP, idsV, idsL, lkHS, flat, clean, callArgs, callFn, allLent, Gives, Ideal.Fin, conv, conv0, Op.operands, reduceIte, reduceCtorEq, cond_true, Bool.or_false, Bool.not_true, Nat.reduceLT, Nat.reduceEqDiff, and_self, implies_true, List.map_cons, List.map_nil, List.nil_append, List.cons_append, List.append_nil, ex_clo, or_self, hN, lk_impl_divisor_impl_abs, sp_impl_abs, h2, hg]
def sp_impl_divisor : PSpec := ⟨fun xs => match xs with | [.num .i64 a, .num .i64 b] => ((fun (a : Int) (b : Int) => -9223372036854775807 ≤ a ∧ a ≤ 9223372036854775807) a b) ∧ ((fun (a : Int) (b : Int) => -9223372036854775807 ≤ b ∧ b ≤ 9223372036854775807) a b) | _ => False, fun xs => match xs with | [.num _ a, .num _ b] => (fun (a : Int) (b : Int) => .num .i64 (Int.gcd a b)) a b | _ => .junk, false⟩
theorem gk_impl_divisor : ∀ args, sp_impl_divisor.pre args → ICall Try.prog 137 args (sp_impl_divisor.val args) := by
  intro args h
  unfold sp_impl_divisor at h ⊢; simp only at h ⊢; split at h
  · obtain ⟨h0, h1⟩ := h
    simp only [toPs_enc] at *
    exact c_impl_divisor _ _ h0 h1
  · exact h.elim
theorem en_impl_divisor : Enters Try.prog 137 := enters_of Try.func137 (by kernel_rfl) rfl

def g_spec_gcd : List (Nat × PSpec) := []
theorem gok_spec_gcd : GOK Try.prog g_spec_gcd := gok0
def h_spec_gcd : List (Nat × HSpec) := []
theorem hok_spec_gcd : HOK Try.prog h_spec_gcd := hok0
theorem c_spec_gcd (a : Int) (b : Int) (ha : 0 ≤ a ∧ a ≤ 9223372036854775807) (hb : 0 ≤ b ∧ b ≤ 9223372036854775807) : ICall Try.prog 136 [.num .i64 a, .num .i64 b] (.num .i64 (Int.gcd a b)) := by
  refine icall_V (G := g_spec_gcd) (H := []) [] tabOK mixed gok_spec_gcd hok_spec_gcd Try.func136 rfl Try.ntmps136 Try.results136 rfl (by kernel_rfl) fun F hN hlen => ?_
  simp only [V_seq, V_block, V_region, W_nil, W_cons, effOp2, KN_seq, effOp, effPure, pureV, ofC, strip, ISt.app, opI, gO, gB, allB, gval, wrapG, dstOK, setD, enumT, Op.operands, Nat.reduceLT, Nat.zero_add, true_and, and_self, implies_true, List.nil_append, List.cons_append, List.append_nil, hN]
  refine V_loop (α := Int × Int) ⟨tabOK, mixed, gok_spec_gcd, hok_spec_gcd⟩ (by kernel_rfl) (fun x => Int.gcd x.1 x.2 = Int.gcd a b ∧ (0 ≤ x.1 ∧ x.1 ≤ 9223372036854775807) ∧ (0 ≤ x.2 ∧ x.2 ≤ 9223372036854775807)) (fun x => ⟨[(0, .num .i64 x.1), (1, .num .i64 x.2)], []⟩) (fun x => x.2.natAbs) (a, b) id ⟨rfl, ha, hb⟩ (by simp [SLe, SLe0, convTm, convHp, conv, conv0, lkT, lkH, clean]) ?_
  rintro ⟨x, y⟩ ⟨h1, h2, h3⟩
  simp only [] at h1 h2 h3
  simp only [V_seq, V_region, V_cond, W_nil, W_cons, effOp2, KN_seq, asB, effOp, effPure, pureV, binV, ofC, strip, lkT, ISt.app, opI, gO, gB, allB, gval, wrapG, dstOK, setD, Op.operands, reduceIte, reduceCtorEq, Nat.reduceLT, Nat.reduceEqDiff, true_and, and_self, implies_true, List.nil_append, List.cons_append, List.append_nil, hN]
  refine brW_some (fun h => ?_) (fun h => ?_)
  · have hy : 0 < y := by simpa using h
    have hlt := tmod_lt (a := x) (b := y) (by omega)
    have hnn := Int.tmod_nonneg y h2.1
    have d1 : (y == 0) = false := by simp; omega
    simp only [V_seq, V_skip, V_block, V_region, W_nil, W_cons, effOp2, KN_seq, KN_block, KN_back, effOp, effPure, pureV, binV, strip, lkT, ISt.app, opI, gO, gB, allB, gval, wrapG, dstOK, setD, Op.operands, reduceIte, reduceCtorEq, Nat.reduceLT, Nat.reduceEqDiff, ne_eq, true_and, and_self, implies_true, forall_const, List.nil_append, List.cons_append, List.append_nil, hN]
    exact ⟨by omega, (y, x.tmod y), id, ⟨(gcd_tmod x y).trans h1, h3, hnn, by simp only []; omega⟩, hlt, by simp [SLe, SLe0, convTm, convHp, conv, conv0, lkT, lkH, clean]⟩
  · have hy : y = 0 := by simp at h; omega
    subst hy
    have hg : x = (Int.gcd a b : Int) := by rw [← h1, gcd_zero, if_neg (by omega)]
    simp only [V_seq, V_ret, V_exit, V_region, W_nil, W_cons, effOp2, KN_seq, KXr_nil, KXe_nil, KXe_seq, KXe_block, KXe_back, QE, effOp, effPure, pureV, strip, lkT, lkH, ISt.app, opI, gO, gB, allB, gval, wrapG, dstOK, setD, clean, Gives, Ideal.Fin, conv, conv0, Op.operands, reduceIte, reduceCtorEq, Nat.reduceLT, Nat.reduceEqDiff, and_self, implies_true, List.nil_append, List.cons_append, List.append_nil, hN, ← hg]
def sp_spec_gcd : PSpec := ⟨fun xs => match xs with | [.num .i64 a, .num .i64 b] => ((fun (a : Int) (b : Int) => 0 ≤ a ∧ a ≤ 9223372036854775807) a b) ∧ ((fun (a : Int) (b : Int) => 0 ≤ b ∧ b ≤ 9223372036854775807) a b) | _ => False, fun xs => match xs with | [.num _ a, .num _ b] => (fun (a : Int) (b : Int) => .num .i64 (Int.gcd a b)) a b | _ => .junk, false⟩
theorem gk_spec_gcd : ∀ args, sp_spec_gcd.pre args → ICall Try.prog 136 args (sp_spec_gcd.val args) := by
  intro args h
  unfold sp_spec_gcd at h ⊢; simp only at h ⊢; split at h
  · obtain ⟨h0, h1⟩ := h
    simp only [toPs_enc] at *
    exact c_spec_gcd _ _ h0 h1
  · exact h.elim
theorem en_spec_gcd : Enters Try.prog 136 := enters_of Try.func136 (by kernel_rfl) rfl


theorem gcd_bd {a b A : Int} (ha : -A ≤ a ∧ a ≤ A) (hb : -A ≤ b ∧ b ≤ A) : 0 ≤ (Int.gcd a b : Int) ∧ (Int.gcd a b : Int) ≤ A := by
  refine ⟨by omega, ?_⟩
  rcases Int.lt_trichotomy a 0 with h | h | h
  · have := Nat.gcd_le_left b.natAbs (show 0 < a.natAbs by omega)
    rw [Int.gcd]; omega
  · subst h
    rw [Int.gcd_zero_left]; omega
  · have := Nat.gcd_le_left b.natAbs (show 0 < a.natAbs by omega)
    rw [Int.gcd]; omega
theorem latt_bd {l : List Pt} (hm : SmL l) : ∀ i : Nat, 0 ≤ lattN l i ∧ lattN l i ≤ 200000 * (i : Int)
  | 0 => by simp [lattN]
  | i + 1 => by
    have h1 := latt_bd hm i
    have s1 := hm.at i
    have s2 := hm.at ((i + 1) % l.length)
    have h2 := gcd_bd (A := 200000) (sm_sub s2.1 s1.1) (sm_sub s2.2 s1.2)
    have e : lattN l (i + 1) = lattN l i + ((Int.gcd ((pAt l ((i + 1) % l.length)).1 - (pAt l i).1) ((pAt l ((i + 1) % l.length)).2 - (pAt l i).2) : Nat) : Int) := rfl
    rw [e]; omega

def g_impl_onEdges : List (Nat × PSpec) := [(87, sp_impl_edges_v), (119, sp_impl_Point_minus), (137, sp_impl_divisor)]
theorem gok_impl_onEdges : GOK Try.prog g_impl_onEdges := gok_consO gk_impl_edges_v en_impl_edges_v (gok_cons gk_impl_Point_minus en_impl_Point_minus (gok_cons gk_impl_divisor en_impl_divisor (gok0)))
theorem lk_impl_onEdges_impl_edges_v : lkG g_impl_onEdges 87 = sp_impl_edges_v := rfl
theorem lk_impl_onEdges_impl_Point_minus : lkG g_impl_onEdges 119 = sp_impl_Point_minus := rfl
theorem lk_impl_onEdges_impl_divisor : lkG g_impl_onEdges 137 = sp_impl_divisor := rfl
def h_impl_onEdges : List (Nat × HSpec) := []
theorem hok_impl_onEdges : HOK Try.prog h_impl_onEdges := hok0
theorem c_impl_onEdges (l : List Pt) (hm : SmL l) (hsz : l.length ≤ 1000000) : ICall Try.prog 93 [.sl 2 (encPs l)] (.num .i64 (lattP l)) := by
  refine icall_V (G := g_impl_onEdges) (H := []) [] tabOK mixed gok_impl_onEdges hok_impl_onEdges Try.func93 rfl Try.ntmps93 Try.results93 rfl (by kernel_rfl) fun F hN hlen => ?_
  have el := len_encPs l
  have ee : (edgesP l).length = l.length := by rw [edgesP, edgesN_len]
  have eq : (encQs (edgesP l)).length = l.length := by rw [len_encQs, ee]
  simp only [V_seq, V_block, V_region, W_nil, W_cons, effOp2, KN_seq, effOp, effPure, effCall, giveUp, hasAll, pureV, lenV, ofC, strip, lkT, lkH, ISt.app, opI, gO, gB, allB, gval, wrapG, dstOK, setD, lendV, lendP, lent, lentP, idsV, idsL, lkHS, flat, clean, callArgs, callFn, allLent, enumT, Op.operands, Call.operands, List.append_toArray, reduceIte, reduceCtorEq, cond_true, Bool.or_false, Bool.or_true, Bool.not_true, Nat.reduceLT, Nat.reduceEqDiff, ne_eq, not_false_eq_true, true_and, and_self, implies_true, List.map_cons, List.map_nil, List.nil_append, List.cons_append, List.append_nil, ex_clo, or_self, tab73, hN, isPs_enc, toPs_enc, lk_impl_onEdges_impl_edges_v, sp_impl_edges_v, eq, hsz]
  refine V_loop (α := Nat) ⟨tabOK, mixed, gok_impl_onEdges, hok_impl_onEdges⟩ (by kernel_rfl) (fun i => i ≤ l.length) (fun i => ⟨[(10, .num .i64 i), (9, .num .i64 l.length), (8, .sl 4 (encQs (edgesP l))), (3, .num .i64 (lattN l i))], []⟩) (fun i => l.length - i) 0 id (Nat.zero_le _) (by simp [SLe, SLe0, convTm, convHp, conv, conv0, lkT, lkH, clean, lattN]) ?_
  intro i hi
  simp only [V_seq, V_region, V_cond, W_nil, W_cons, effOp2, KN_seq, asB, effOp, effPure, pureV, binV, strip, lkT, ISt.app, opI, gO, gB, allB, gval, wrapG, dstOK, setD, Op.operands, reduceIte, Nat.reduceLT, Nat.reduceEqDiff, true_and, and_self, implies_true, List.nil_append, List.cons_append, List.append_nil, hN]
  refine brW_some (fun h => ?_) (fun h => ?_)
  · have hi' : i < l.length := by simpa using h
    have g0 := getD_encQs (l := edgesP l) (i := i) (by omega)
    rw [edgesP_at hi'] at g0
    have hw := wr_succ hi' (by rw [maxLen_eq]; omega)
    have s0 := hm.edge i
    have hb := latt_bd hm i
    have hst : lattN l (i + 1) = lattN l i + ((Int.gcd ((edgeP l i).2.1 - (edgeP l i).1.1) ((edgeP l i).2.2 - (edgeP l i).1.2) : Nat) : Int) := rfl
    generalize edgeP l i = e at *
    have m1 := sm_sub s0.2.1 s0.1.1
    have m2 := sm_sub s0.2.2 s0.1.2
    have h2 := gcd_bd (A := 200000) m1 m2
    have w3 : IntKind.i64.wrap (lattN l i + ((Int.gcd (e.2.1 - e.1.1) (e.2.2 - e.1.2) : Nat) : Int)) = lattN l (i + 1) := by rw [hst]; exact wr (by omega) (by omega)
    simp only [V_seq, V_skip, V_block, V_region, W_nil, W_cons, effOp2, KN_seq, KN_block, KN_back, effOp, effPure, effNew, effAlloc, effStore, effCall, giveUp, hasAll, skipE, pureV, storeV, binV, partV, eltV, loadV, faddrV, iaddrV, over, solid, IV.cells, ofC, strip, lkT, lkH, ISt.app, opI, gO, gB, allB, gval, wrapG, dstOK, setD, mentTm, mentHp, IV.ment, IV.mentL, oneI, lendV, lendP, lent, lentP, idsV, idsL, lkHS, flat, flatL, clean, cleanL, callArgs, callFn, allLent, IBlk.shape, Op.operands, reduceIte, reduceCtorEq, cond_true, Bool.or_false, Bool.and_true, Bool.not_true, Nat.reduceAdd, Nat.reduceLT, Nat.reduceLeDiff, Nat.reduceEqDiff, Nat.reduceBEq, Nat.add_zero, Nat.zero_add, ne_eq, not_false_eq_true, true_and, and_true, and_false, and_self, implies_true, forall_const, List.map_cons, List.map_nil, List.nil_append, List.cons_append, List.append_nil, List.all_cons, List.all_nil, Option.map_some, List.getD_cons_zero, List.getD_cons_succ, List.length_cons, List.length_nil, List.take_succ_cons, List.take_zero, List.take_nil, List.drop_succ_cons, List.drop_zero, List.drop_nil, ex_clo, or_self, tab3, tab30, tab73, tab76, hN, Int.toNat_natCast, encP, lk_impl_onEdges_impl_Point_minus, lk_impl_onEdges_impl_divisor, sp_impl_Point_minus, sp_impl_divisor, eq, g0, hw, w3, wayP]
    repeat refine And.intro (by first | omega | (simp; done) | (simp; omega)) ?_
    exact ⟨i + 1, id, by simp only []; omega, by simp only []; omega, by simp [SLe, SLe0, convTm, convHp, conv, conv0, lkT, lkH, clean]⟩
  · have hie : i = l.length := by simp at h; omega
    subst hie
    have hv : lattN l l.length = lattP l := rfl
    simp only [V_seq, V_ret, V_exit, V_region, W_nil, W_cons, effOp2, KN_seq, KXr_nil, KXe_nil, KXe_seq, KXe_block, KXe_back, QE, effOp, effPure, pureV, strip, lkT, lkH, ISt.app, opI, gO, gB, allB, gval, wrapG, dstOK, setD, clean, Gives, Ideal.Fin, conv, conv0, Op.operands, reduceIte, Nat.reduceLT, Nat.reduceEqDiff, and_self, implies_true, List.nil_append, List.cons_append, List.append_nil, hN, hv]
def sp_impl_onEdges : PSpec := ⟨fun xs => match xs with | [.sl 2 les] => isPs les ∧ ((fun (l : List Pt) => SmL l) (toPs les)) ∧ ((fun (l : List Pt) => l.length ≤ 1000000) (toPs les)) | _ => False, fun xs => match xs with | [.sl _ les] => (fun (l : List Pt) => .num .i64 (lattP l)) (toPs les) | _ => .junk, false⟩
theorem gk_impl_onEdges : ∀ args, sp_impl_onEdges.pre args → ICall Try.prog 93 args (sp_impl_onEdges.val args) := by
  intro args h
  unfold sp_impl_onEdges at h ⊢; simp only at h ⊢; split at h
  · obtain ⟨h0, h1, h2⟩ := h
    obtain ⟨l0, rfl⟩ := isP_ex h0
    simp only [toPs_enc] at *
    exact c_impl_onEdges _ h1 h2
  · exact h.elim
theorem en_impl_onEdges : Enters Try.prog 93 := enters_of Try.func93 (by kernel_rfl) rfl

def g_spec_boundaryCount : List (Nat × PSpec) := [(94, sp_spec_abs), (136, sp_spec_gcd)]
theorem gok_spec_boundaryCount : GOK Try.prog g_spec_boundaryCount := gok_cons gk_spec_abs en_spec_abs (gok_cons gk_spec_gcd en_spec_gcd (gok0))
theorem lk_spec_boundaryCount_spec_abs : lkG g_spec_boundaryCount 94 = sp_spec_abs := rfl
theorem lk_spec_boundaryCount_spec_gcd : lkG g_spec_boundaryCount 136 = sp_spec_gcd := rfl
def h_spec_boundaryCount : List (Nat × HSpec) := []
theorem hok_spec_boundaryCount : HOK Try.prog h_spec_boundaryCount := hok0
theorem c_spec_boundaryCount (l : List Pt) (hm : SmL l) (hsz : l.length ≤ 1000000) : ICall Try.prog 92 [.sl 2 (encPs l)] (.num .i64 (lattP l)) := by
  refine icall_V (G := g_spec_boundaryCount) (H := []) [(6, [(0, 9), (1, 9), (2, 9), (3, 9), (4, 9), (5, 9), (6, 9), (7, 9), (9, 10), (9, 11), (9, 12), (9, 13), (9, 14), (9, 15), (9, 16), (9, 17), (0, 18), (1, 18), (2, 18), (3, 18), (4, 18), (5, 18), (6, 18), (7, 18), (8, 18), (10, 18), (11, 18), (12, 18), (13, 18), (14, 18), (15, 18), (16, 18), (0, 19), (1, 19), (2, 19), (3, 19), (4, 19), (5, 19), (6, 19), (7, 19), (8, 19), (10, 19), (11, 19), (12, 19), (13, 19), (14, 19), (15, 19), (16, 19), (17, 19), (9, 20), (18, 20)])] tabOK mixed gok_spec_boundaryCount hok_spec_boundaryCount Try.func92 rfl Try.ntmps92 Try.results92 rfl (by kernel_rfl) fun F hN hlen => ?_
  have el := len_encPs l
  simp only [V_seq, V_block, V_region, W_nil, W_cons, effOp2, KN_seq, effOp, effPure, pureV, ofC, strip, ISt.app, opI, gO, gB, allB, gval, wrapG, dstOK, setD, enumT, Op.operands, Nat.reduceLT, true_and, and_self, implies_true, List.nil_append, List.cons_append, List.append_nil, hN]
  refine V_loop (α := Nat) ⟨tabOK, mixed, gok_spec_boundaryCount, hok_spec_boundaryCount⟩ (by kernel_rfl) (fun i => i ≤ l.length) (fun i => ⟨[(4, .num .i64 i), (3, .num .i64 (lattN l i)), (0, .sl 2 (encPs l))], []⟩) (fun i => l.length - i) 0 id (Nat.zero_le _) (by simp [SLe, SLe0, convTm, convHp, conv, conv0, lkT, lkH, clean, lattN]) ?_
  intro i hi
  simp only [V_seq, V_region, V_cond, W_nil, W_cons, effOp2, KN_seq, asB, effOp, effPure, pureV, binV, lenV, strip, lkT, ISt.app, opI, gO, gB, allB, gval, wrapG, dstOK, setD, Op.operands, Call.operands, List.append_toArray, reduceIte, reduceCtorEq, Nat.reduceLT, Nat.reduceEqDiff, ne_eq, not_false_eq_true, true_and, and_self, implies_true, List.nil_append, List.cons_append, List.append_nil, tab23, hN, el]
  refine brW_some (fun h => ?_) (fun h => ?_)
  · have hi' : i < l.length := by simpa using h
    have hn : (i + 1) % l.length < l.length := Nat.mod_lt _ (by omega)
    have g0 := getD_encPs hi'
    have g1 := getD_encPs hn
    have hw := wr_succ hi' (by rw [maxLen_eq]; omega)
    have t1 : ((i + 1 : Nat) : Int).tmod (l.length : Int) = (((i + 1) % l.length : Nat) : Int) := by rw [Int.tmod_eq_emod_of_nonneg (by omega)]; simp
    have s1 := hm.at i
    have s2 := hm.at ((i + 1) % l.length)
    have hb := latt_bd hm i
    have hst : lattN l (i + 1) = lattN l i + ((Int.gcd ((pAt l ((i + 1) % l.length)).1 - (pAt l i).1) ((pAt l ((i + 1) % l.length)).2 - (pAt l i).2) : Nat) : Int) := rfl
    generalize pAt l ((i + 1) % l.length) = q at *
    generalize pAt l i = p at *
    have m1 := sm_sub s2.1 s1.1
    have m2 := sm_sub s2.2 s1.2
    have h2 := gcd_bd (A := 200000) m1 m2
    have w1 : IntKind.i64.wrap (q.1 - p.1) = q.1 - p.1 := wr (by omega) (by omega)
    have w2 : IntKind.i64.wrap (q.2 - p.2) = q.2 - p.2 := wr (by omega) (by omega)
    have w3 : IntKind.i64.wrap (lattN l i + ((Int.gcd (q.1 - p.1) (q.2 - p.2) : Nat) : Int)) = lattN l (i + 1) := by rw [hst]; exact wr (by omega) (by omega)
    have a1 : 0 ≤ absI (q.1 - p.1) ∧ absI (q.1 - p.1) ≤ 9223372036854775807 := by unfold absI; split <;> omega
    have a2 : 0 ≤ absI (q.2 - p.2) ∧ absI (q.2 - p.2) ≤ 9223372036854775807 := by unfold absI; split <;> omega
    simp only [V_seq, V_skip, V_block, V_region, V_draw, drawW, WS_nil, pairsOf, W_nil, W_cons, effOp2, WI_nil, WI_cons, KN_seq, KN_block, KN_back, dynOK, indB, farB, freshB, heapy, effOp, effPure, effNew, effAlloc, effStore, effCall, giveUp, hasAll, skipE, pureV, storeV, binV, partV, eltV, loadV, faddrV, iaddrV, lenV, over, solid, IV.cells, ofC, strip, lkT, lkH, ISt.app, opI, gO, gB, allB, gval, wrapG, dstOK, setD, mentTm, mentHp, IV.ment, IV.mentL, oneI, lendV, lendP, lent, lentP, idsV, idsL, lkHS, flat, clean, callArgs, callFn, allLent, IBlk.shape, Op.operands, Call.operands, List.append_toArray, reduceIte, reduceCtorEq, cond_true, cond_false, Bool.or_false, Bool.and_true, Bool.and_eq_true, Bool.not_true, Bool.not_false, Nat.reduceAdd, Nat.reduceLT, Nat.reduceLeDiff, Nat.reduceEqDiff, Nat.reduceBEq, Nat.add_zero, Nat.zero_add, ne_eq, not_false_eq_true, true_and, and_true, and_false, and_self, implies_true, forall_const, List.map_cons, List.map_nil, List.nil_append, List.cons_append, List.append_nil, List.all_cons, List.all_nil, Option.map_some, List.getD_cons_zero, List.getD_cons_succ, List.length_cons, List.length_nil, List.take_succ_cons, List.take_zero, List.take_nil, List.drop_succ_cons, List.drop_zero, List.drop_nil, ex_clo, or_self, tab3, tab23, tab30, hN, Int.toNat_natCast, lk_spec_boundaryCount_spec_abs, lk_spec_boundaryCount_spec_gcd, sp_spec_abs, sp_spec_gcd, el, g0, g1, hw, t1, w1, w2, w3, a1, a2, abs_gcd]
    repeat refine And.intro (by first | omega | (simp; done) | (simp; omega)) ?_
    exact ⟨i + 1, id, by simp only []; omega, by simp only []; omega, by simp [SLe, SLe0, convTm, convHp, conv, conv0, lkT, lkH, clean]⟩
  · have hie : i = l.length := by simp at h; omega
    subst hie
    have hv : lattN l l.length = lattP l := rfl
    simp only [V_seq, V_ret, V_exit, V_region, W_nil, W_cons, effOp2, KN_seq, KXr_nil, KXe_nil, KXe_seq, KXe_block, KXe_back, QE, effOp, effPure, pureV, strip, lkT, lkH, ISt.app, opI, gO, gB, allB, gval, wrapG, dstOK, setD, clean, Gives, Ideal.Fin, conv, conv0, Op.operands, reduceIte, reduceCtorEq, Nat.reduceLT, Nat.reduceEqDiff, and_self, implies_true, List.nil_append, List.cons_append, List.append_nil, hN, hv]
def sp_spec_boundaryCount : PSpec := ⟨fun xs => match xs with | [.sl 2 les] => isPs les ∧ ((fun (l : List Pt) => SmL l) (toPs les)) ∧ ((fun (l : List Pt) => l.length ≤ 1000000) (toPs les)) | _ => False, fun xs => match xs with | [.sl _ les] => (fun (l : List Pt) => .num .i64 (lattP l)) (toPs les) | _ => .junk, false⟩
theorem gk_spec_boundaryCount : ∀ args, sp_spec_boundaryCount.pre args → ICall Try.prog 92 args (sp_spec_boundaryCount.val args) := by
  intro args h
  unfold sp_spec_boundaryCount at h ⊢; simp only at h ⊢; split at h
  · obtain ⟨h0, h1, h2⟩ := h
    obtain ⟨l0, rfl⟩ := isP_ex h0
    simp only [toPs_enc] at *
    exact c_spec_boundaryCount _ h1 h2
  · exact h.elim
theorem en_spec_boundaryCount : Enters Try.prog 92 := enters_of Try.func92 (by kernel_rfl) rfl


/-- Twice the area of a simple polygon. -/
def dareaP (l : List Pt) : Int := bif simpB l then areaP l else 0
def g_impl_DoubleArea : List (Nat × PSpec) := [(77, sp_impl_simple), (83, sp_impl_area)]
theorem gok_impl_DoubleArea : GOK Try.prog g_impl_DoubleArea := gok_cons gk_impl_simple en_impl_simple (gok_cons gk_impl_area en_impl_area (gok0))
theorem lk_impl_DoubleArea_impl_simple : lkG g_impl_DoubleArea 77 = sp_impl_simple := rfl
theorem lk_impl_DoubleArea_impl_area : lkG g_impl_DoubleArea 83 = sp_impl_area := rfl
def h_impl_DoubleArea : List (Nat × HSpec) := []
theorem hok_impl_DoubleArea : HOK Try.prog h_impl_DoubleArea := hok0
theorem c_impl_DoubleArea (l : List Pt)  : ICall Try.prog 40 [.sl 2 (encPs l)] (.num .i64 (dareaP l)) := by
  refine icall_V (G := g_impl_DoubleArea) (H := []) [] tabOK mixed gok_impl_DoubleArea hok_impl_DoubleArea Try.func40 rfl Try.ntmps40 Try.results40 rfl (by kernel_rfl) fun F hN hlen => ?_
  have hv : dareaP l = bif simpB l then areaP l else 0 := rfl
  cases h1 : simpB l with
  | false =>
    rw [h1, cond_false] at hv
    simp only [V_seq, V_ret, V_region, V_cond, brW_true, W_nil, W_cons, effOp2, KN_seq, KXr_nil, KXr_seq, QE, asB, effOp, effPure, effCall, giveUp, hasAll, pureV, ofC, strip, lkT, lkH, ISt.app, opI, gO, gB, allB, gval, wrapG, dstOK, setD, lendV, lendP, lent, lentP, idsV, idsL, lkHS, flat, clean, callArgs, callFn, allLent, enumT, Gives, Ideal.Fin, conv, conv0, Op.operands, reduceIte, reduceCtorEq, cond_true, Bool.or_false, Bool.not_true, Bool.not_false, Nat.reduceLT, Nat.reduceEqDiff, and_self, implies_true, List.map_cons, List.map_nil, List.nil_append, List.cons_append, List.append_nil, ex_clo, or_self, hN, isPs_enc, toPs_enc, lk_impl_DoubleArea_impl_simple, sp_impl_simple, h1, hv]
  | true =>
    obtain ⟨hk, h3, h20, hnd⟩ := ring_facts (simp_ring h1)
    have hm := okPs_sm hk
    have hz : l.length ≤ 1000000 := by omega
    rw [h1, cond_true] at hv
    simp only [V_seq, V_skip, V_ret, V_region, V_cond, brW_false, W_nil, W_cons, effOp2, KN_seq, KXr_nil, QE, asB, effOp, effPure, effCall, giveUp, hasAll, pureV, ofC, strip, lkT, lkH, ISt.app, opI, gO, gB, allB, gval, wrapG, dstOK, setD, lendV, lendP, lent, lentP, idsV, idsL, lkHS, flat, clean, callArgs, callFn, allLent, enumT, Gives, Ideal.Fin, conv, conv0, Op.operands, reduceIte, reduceCtorEq, cond_true, Bool.or_false, Bool.not_true, Nat.reduceLT, Nat.reduceEqDiff, and_self, implies_true, List.map_cons, List.map_nil, List.nil_append, List.cons_append, List.append_nil, ex_clo, or_self, hN, isPs_enc, toPs_enc, lk_impl_DoubleArea_impl_simple, lk_impl_DoubleArea_impl_area, sp_impl_simple, sp_impl_area, h1, hm, hz, hv]
def sp_impl_DoubleArea : PSpec := ⟨fun xs => match xs with | [.sl 2 les] => isPs les | _ => False, fun xs => match xs with | [.sl _ les] => (fun (l : List Pt) => .num .i64 (dareaP l)) (toPs les) | _ => .junk, false⟩
theorem gk_impl_DoubleArea : ∀ args, sp_impl_DoubleArea.pre args → ICall Try.prog 40 args (sp_impl_DoubleArea.val args) := by
  intro args h
  unfold sp_impl_DoubleArea at h ⊢; simp only at h ⊢; split at h
  · have h0 := h
    obtain ⟨l0, rfl⟩ := isP_ex h0
    simp only [toPs_enc] at *
    exact c_impl_DoubleArea _ 
  · exact h.elim
theorem en_impl_DoubleArea : Enters Try.prog 40 := enters_of Try.func40 (by kernel_rfl) rfl

def g_spec_DoubleArea : List (Nat × PSpec) := [(76, sp_spec_isSimple), (82, sp_spec_doubleArea)]
theorem gok_spec_DoubleArea : GOK Try.prog g_spec_DoubleArea := gok_cons gk_spec_isSimple en_spec_isSimple (gok_cons gk_spec_doubleArea en_spec_doubleArea (gok0))
theorem lk_spec_DoubleArea_spec_isSimple : lkG g_spec_DoubleArea 76 = sp_spec_isSimple := rfl
theorem lk_spec_DoubleArea_spec_doubleArea : lkG g_spec_DoubleArea 82 = sp_spec_doubleArea := rfl
def h_spec_DoubleArea : List (Nat × HSpec) := []
theorem hok_spec_DoubleArea : HOK Try.prog h_spec_DoubleArea := hok0
theorem c_spec_DoubleArea (l : List Pt)  : ICall Try.prog 39 [.sl 2 (encPs l)] (.num .i64 (dareaP l)) := by
  refine icall_V (G := g_spec_DoubleArea) (H := []) [] tabOK mixed gok_spec_DoubleArea hok_spec_DoubleArea Try.func39 rfl Try.ntmps39 Try.results39 rfl (by kernel_rfl) fun F hN hlen => ?_
  have hv : dareaP l = bif simpB l then areaP l else 0 := rfl
  cases h1 : simpB l with
  | false =>
    rw [h1, cond_false] at hv
    simp only [V_seq, V_ret, V_region, V_cond, brW_true, W_nil, W_cons, effOp2, KN_seq, KXr_nil, KXr_seq, QE, asB, effOp, effPure, effCall, giveUp, hasAll, pureV, ofC, strip, lkT, lkH, ISt.app, opI, gO, gB, allB, gval, wrapG, dstOK, setD, lendV, lendP, lent, lentP, idsV, idsL, lkHS, flat, clean, callArgs, callFn, allLent, enumT, Gives, Ideal.Fin, conv, conv0, Op.operands, reduceIte, reduceCtorEq, cond_true, Bool.or_false, Bool.not_true, Bool.not_false, Nat.reduceLT, Nat.reduceEqDiff, and_self, implies_true, List.map_cons, List.map_nil, List.nil_append, List.cons_append, List.append_nil, ex_clo, or_self, hN, isPs_enc, toPs_enc, lk_spec_DoubleArea_spec_isSimple, sp_spec_isSimple, h1, hv]
  | true =>
    obtain ⟨hk, h3, h20, hnd⟩ := ring_facts (simp_ring h1)
    have hm := okPs_sm hk
    have hz : l.length ≤ 1000000 := by omega
    rw [h1, cond_true] at hv
    simp only [V_seq, V_skip, V_ret, V_region, V_cond, brW_false, W_nil, W_cons, effOp2, KN_seq, KXr_nil, QE, asB, effOp, effPure, effCall, giveUp, hasAll, pureV, ofC, strip, lkT, lkH, ISt.app, opI, gO, gB, allB, gval, wrapG, dstOK, setD, lendV, lendP, lent, lentP, idsV, idsL, lkHS, flat, clean, callArgs, callFn, allLent, enumT, Gives, Ideal.Fin, conv, conv0, Op.operands, reduceIte, reduceCtorEq, cond_true, Bool.or_false, Bool.not_true, Nat.reduceLT, Nat.reduceEqDiff, and_self, implies_true, List.map_cons, List.map_nil, List.nil_append, List.cons_append, List.append_nil, ex_clo, or_self, hN, isPs_enc, toPs_enc, lk_spec_DoubleArea_spec_isSimple, lk_spec_DoubleArea_spec_doubleArea, sp_spec_isSimple, sp_spec_doubleArea, h1, hm, hz, hv]
def sp_spec_DoubleArea : PSpec := ⟨fun xs => match xs with | [.sl 2 les] => isPs les | _ => False, fun xs => match xs with | [.sl _ les] => (fun (l : List Pt) => .num .i64 (dareaP l)) (toPs les) | _ => .junk, false⟩
theorem gk_spec_DoubleArea : ∀ args, sp_spec_DoubleArea.pre args → ICall Try.prog 39 args (sp_spec_DoubleArea.val args) := by
  intro args h
  unfold sp_spec_DoubleArea at h ⊢; simp only at h ⊢; split at h
  · have h0 := h
    obtain ⟨l0, rfl⟩ := isP_ex h0
    simp only [toPs_enc] at *
    exact c_spec_DoubleArea _ 
  · exact h.elim
theorem en_spec_DoubleArea : Enters Try.prog 39 := enters_of Try.func39 (by kernel_rfl) rfl

/-- The count of lattice points on the boundary. -/
def bcP (l : List Pt) : Int := bif simpB l then lattP l else -1
def g_impl_BoundaryCount : List (Nat × PSpec) := [(77, sp_impl_simple), (93, sp_impl_onEdges)]
theorem gok_impl_BoundaryCount : GOK Try.prog g_impl_BoundaryCount := gok_cons gk_impl_simple en_impl_simple (gok_cons gk_impl_onEdges en_impl_onEdges (gok0))
theorem lk_impl_BoundaryCount_impl_simple : lkG g_impl_BoundaryCount 77 = sp_impl_simple := rfl
theorem lk_impl_BoundaryCount_impl_onEdges : lkG g_impl_BoundaryCount 93 = sp_impl_onEdges := rfl
def h_impl_BoundaryCount : List (Nat × HSpec) := []
theorem hok_impl_BoundaryCount : HOK Try.prog h_impl_BoundaryCount := hok0
theorem c_impl_BoundaryCount (l : List Pt)  : ICall Try.prog 47 [.sl 2 (encPs l)] (.num .i64 (bcP l)) := by
  refine icall_V (G := g_impl_BoundaryCount) (H := []) [] tabOK mixed gok_impl_BoundaryCount hok_impl_BoundaryCount Try.func47 rfl Try.ntmps47 Try.results47 rfl (by kernel_rfl) fun F hN hlen => ?_
  have hv : bcP l = bif simpB l then lattP l else -1 := rfl
  cases h1 : simpB l with
  | false =>
    rw [h1, cond_false] at hv
    simp only [V_seq, V_ret, V_region, V_cond, brW_true, W_nil, W_cons, effOp2, KN_seq, KXr_nil, KXr_seq, QE, asB, effOp, effPure, effCall, giveUp, hasAll, pureV, ofC, strip, lkT, lkH, ISt.app, opI, gO, gB, allB, gval, wrapG, dstOK, setD, lendV, lendP, lent, lentP, idsV, idsL, lkHS, flat, clean, callArgs, callFn, allLent, enumT, Gives, Ideal.Fin, conv, conv0, Op.operands, reduceIte, reduceCtorEq, cond_true, Bool.or_false, Bool.not_true, Bool.not_false, Nat.reduceLT, Nat.reduceEqDiff, and_self, implies_true, List.map_cons, List.map_nil, List.nil_append, List.cons_append, List.append_nil, ex_clo, or_self, hN, isPs_enc, toPs_enc, lk_impl_BoundaryCount_impl_simple, sp_impl_simple, h1, hv]
  | true =>
    obtain ⟨hk, h3, h20, hnd⟩ := ring_facts (simp_ring h1)
    have hm := okPs_sm hk
    have hz : l.length ≤ 1000000 := by omega
    rw [h1, cond_true] at hv
    simp only [V_seq, V_skip, V_ret, V_region, V_cond, brW_false, W_nil, W_cons, effOp2, KN_seq, KXr_nil, QE, asB, effOp, effPure, effCall, giveUp, hasAll, pureV, ofC, strip, lkT, lkH, ISt.app, opI, gO, gB, allB, gval, wrapG, dstOK, setD, lendV, lendP, lent, lentP, idsV, idsL, lkHS, flat, clean, callArgs, callFn, allLent, enumT, Gives, Ideal.Fin, conv, conv0, Op.operands, reduceIte, reduceCtorEq, cond_true, Bool.or_false, Bool.not_true, Nat.reduceLT, Nat.reduceEqDiff, and_self, implies_true, List.map_cons, List.map_nil, List.nil_append, List.cons_append, List.append_nil, ex_clo, or_self, hN, isPs_enc, toPs_enc, lk_impl_BoundaryCount_impl_simple, lk_impl_BoundaryCount_impl_onEdges, sp_impl_simple, sp_impl_onEdges, h1, hm, hz, hv]
def sp_impl_BoundaryCount : PSpec := ⟨fun xs => match xs with | [.sl 2 les] => isPs les | _ => False, fun xs => match xs with | [.sl _ les] => (fun (l : List Pt) => .num .i64 (bcP l)) (toPs les) | _ => .junk, false⟩
theorem gk_impl_BoundaryCount : ∀ args, sp_impl_BoundaryCount.pre args → ICall Try.prog 47 args (sp_impl_BoundaryCount.val args) := by
  intro args h
  unfold sp_impl_BoundaryCount at h ⊢; simp only at h ⊢; split at h
  · have h0 := h
    obtain ⟨l0, rfl⟩ := isP_ex h0
    simp only [toPs_enc] at *
    exact c_impl_BoundaryCount _ 
  · exact h.elim
theorem en_impl_BoundaryCount : Enters Try.prog 47 := enters_of Try.func47 (by kernel_rfl) rfl

def g_spec_BoundaryCount : List (Nat × PSpec) := [(76, sp_spec_isSimple), (92, sp_spec_boundaryCount)]
theorem gok_spec_BoundaryCount : GOK Try.prog g_spec_BoundaryCount := gok_cons gk_spec_isSimple en_spec_isSimple (gok_cons gk_spec_boundaryCount en_spec_boundaryCount (gok0))
theorem lk_spec_BoundaryCount_spec_isSimple : lkG g_spec_BoundaryCount 76 = sp_spec_isSimple := rfl
theorem lk_spec_BoundaryCount_spec_boundaryCount : lkG g_spec_BoundaryCount 92 = sp_spec_boundaryCount := rfl
def h_spec_BoundaryCount : List (Nat × HSpec) := []
theorem hok_spec_BoundaryCount : HOK Try.prog h_spec_BoundaryCount := hok0
theorem c_spec_BoundaryCount (l : List Pt)  : ICall Try.prog 46 [.sl 2 (encPs l)] (.num .i64 (bcP l)) := by
  refine icall_V (G := g_spec_BoundaryCount) (H := []) [] tabOK mixed gok_spec_BoundaryCount hok_spec_BoundaryCount Try.func46 rfl Try.ntmps46 Try.results46 rfl (by kernel_rfl) fun F hN hlen => ?_
  have hv : bcP l = bif simpB l then lattP l else -1 := rfl
  cases h1 : simpB l with
  | false =>
    rw [h1, cond_false] at hv
    simp only [V_seq, V_ret, V_region, V_cond, brW_true, W_nil, W_cons, effOp2, KN_seq, KXr_nil, KXr_seq, QE, asB, effOp, effPure, effCall, giveUp, hasAll, pureV, ofC, strip, lkT, lkH, ISt.app, opI, gO, gB, allB, gval, wrapG, dstOK, setD, lendV, lendP, lent, lentP, idsV, idsL, lkHS, flat, clean, callArgs, callFn, allLent, enumT, Gives, Ideal.Fin, conv, conv0, Op.operands, reduceIte, reduceCtorEq, cond_true, Bool.or_false, Bool.not_true, Bool.not_false, Nat.reduceLT, Nat.reduceEqDiff, and_self, implies_true, List.map_cons, List.map_nil, List.nil_append, List.cons_append, List.append_nil, ex_clo, or_self, hN, isPs_enc, toPs_enc, lk_spec_BoundaryCount_spec_isSimple, sp_spec_isSimple, h1, hv]
  | true =>
    obtain ⟨hk, h3, h20, hnd⟩ := ring_facts (simp_ring h1)
    have hm := okPs_sm hk
    have hz : l.length ≤ 1000000 := by omega
    rw [h1, cond_true] at hv
    simp only [V_seq, V_skip, V_ret, V_region, V_cond, brW_false, W_nil, W_cons, effOp2, KN_seq, KXr_nil, QE, asB, effOp, effPure, effCall, giveUp, hasAll, pureV, ofC, strip, lkT, lkH, ISt.app, opI, gO, gB, allB, gval, wrapG, dstOK, setD, lendV, lendP, lent, lentP, idsV, idsL, lkHS, flat, clean, callArgs, callFn, allLent, enumT, Gives, Ideal.Fin, conv, conv0, Op.operands, reduceIte, reduceCtorEq, cond_true, Bool.or_false, Bool.not_true, Nat.reduceLT, Nat.reduceEqDiff, and_self, implies_true, List.map_cons, List.map_nil, List.nil_append, List.cons_append, List.append_nil, ex_clo, or_self, hN, isPs_enc, toPs_enc, lk_spec_BoundaryCount_spec_isSimple, lk_spec_BoundaryCount_spec_boundaryCount, sp_spec_isSimple, sp_spec_boundaryCount, h1, hm, hz, hv]
def sp_spec_BoundaryCount : PSpec := ⟨fun xs => match xs with | [.sl 2 les] => isPs les | _ => False, fun xs => match xs with | [.sl _ les] => (fun (l : List Pt) => .num .i64 (bcP l)) (toPs les) | _ => .junk, false⟩
theorem gk_spec_BoundaryCount : ∀ args, sp_spec_BoundaryCount.pre args → ICall Try.prog 46 args (sp_spec_BoundaryCount.val args) := by
  intro args h
  unfold sp_spec_BoundaryCount at h ⊢; simp only at h ⊢; split at h
  · have h0 := h
    obtain ⟨l0, rfl⟩ := isP_ex h0
    simp only [toPs_enc] at *
    exact c_spec_BoundaryCount _ 
  · exact h.elim
theorem en_spec_BoundaryCount : Enters Try.prog 46 := enters_of Try.func46 (by kernel_rfl) rfl

/-- The count of lattice points inside. -/
def insideP (l : List Pt) : Int := (absI (areaP l) - lattP l + 2).tdiv 2
def icP (l : List Pt) : Int := bif simpB l then insideP l else -1
def g_impl_InteriorCount : List (Nat × PSpec) := [(77, sp_impl_simple), (83, sp_impl_area), (95, sp_impl_abs), (93, sp_impl_onEdges)]
theorem gok_impl_InteriorCount : GOK Try.prog g_impl_InteriorCount := gok_cons gk_impl_simple en_impl_simple (gok_cons gk_impl_area en_impl_area (gok_cons gk_impl_abs en_impl_abs (gok_cons gk_impl_onEdges en_impl_onEdges (gok0))))
theorem lk_impl_InteriorCount_impl_simple : lkG g_impl_InteriorCount 77 = sp_impl_simple := rfl
theorem lk_impl_InteriorCount_impl_area : lkG g_impl_InteriorCount 83 = sp_impl_area := rfl
theorem lk_impl_InteriorCount_impl_abs : lkG g_impl_InteriorCount 95 = sp_impl_abs := rfl
theorem lk_impl_InteriorCount_impl_onEdges : lkG g_impl_InteriorCount 93 = sp_impl_onEdges := rfl
def h_impl_InteriorCount : List (Nat × HSpec) := []
theorem hok_impl_InteriorCount : HOK Try.prog h_impl_InteriorCount := hok0
theorem c_impl_InteriorCount (l : List Pt)  : ICall Try.prog 49 [.sl 2 (encPs l)] (.num .i64 (icP l)) := by
  refine icall_V (G := g_impl_InteriorCount) (H := []) [] tabOK mixed gok_impl_InteriorCount hok_impl_InteriorCount Try.func49 rfl Try.ntmps49 Try.results49 rfl (by kernel_rfl) fun F hN hlen => ?_
  have hv : icP l = bif simpB l then insideP l else -1 := rfl
  cases h1 : simpB l with
  | false =>
    rw [h1, cond_false] at hv
    simp only [V_seq, V_ret, V_region, V_cond, brW_true, W_nil, W_cons, effOp2, KN_seq, KXr_nil, KXr_seq, QE, asB, effOp, effPure, effCall, giveUp, hasAll, pureV, ofC, strip, lkT, lkH, ISt.app, opI, gO, gB, allB, gval, wrapG, dstOK, setD, lendV, lendP, lent, lentP, idsV, idsL, lkHS, flat, clean, callArgs, callFn, allLent, enumT, Gives, Ideal.Fin, conv, conv0, Op.operands, reduceIte, reduceCtorEq, cond_true, Bool.or_false, Bool.not_true, Bool.not_false, Nat.reduceLT, Nat.reduceEqDiff, and_self, implies_true, List.map_cons, List.map_nil, List.nil_append, List.cons_append, List.append_nil, ex_clo, or_self, hN, isPs_enc, toPs_enc, lk_impl_InteriorCount_impl_simple, sp_impl_simple, h1, hv]
  | true =>
    obtain ⟨hk, h3, h20, hnd⟩ := ring_facts (simp_ring h1)
    have hm := okPs_sm hk
    have hz : l.length ≤ 1000000 := by omega
    rw [h1, cond_true] at hv
    have b1 := areaN_bd hm l.length
    have b2 := latt_bd hm l.length
    have e1 : areaN l l.length = areaP l := rfl
    have e2 : lattN l l.length = lattP l := rfl
    rw [e1] at b1
    rw [e2] at b2
    have b3 : -9223372036854775807 ≤ areaP l ∧ areaP l ≤ 9223372036854775807 := by omega
    have b4 : 0 ≤ absI (areaP l) ∧ absI (areaP l) ≤ 400000000000 := by unfold absI; split <;> omega
    have w1 : IntKind.i64.wrap (absI (areaP l) - lattP l) = absI (areaP l) - lattP l := wr (by omega) (by omega)
    have w2 : IntKind.i64.wrap (absI (areaP l) - lattP l + 2) = absI (areaP l) - lattP l + 2 := wr (by omega) (by omega)
    have hd : ((absI (areaP l) - lattP l + 2).tdiv 2).natAbs ≤ (absI (areaP l) - lattP l + 2).natAbs := by rw [Int.natAbs_tdiv]; exact Nat.div_le_self _ _
    have w3 : IntKind.i64.wrap (insideP l) = insideP l := by rw [insideP]; exact wr (by omega) (by omega)
    have w4 : (absI (areaP l) - lattP l + 2).tdiv 2 = insideP l := rfl
    simp only [V_seq, V_skip, V_ret, V_region, V_cond, brW_false, W_nil, W_cons, effOp2, KN_seq, KXr_nil, QE, asB, effOp, effPure, effCall, giveUp, hasAll, pureV, binV, ofC, strip, lkT, lkH, ISt.app, opI, gO, gB, allB, gval, wrapG, dstOK, setD, lendV, lendP, lent, lentP, idsV, idsL, lkHS, flat, clean, callArgs, callFn, allLent, enumT, Gives, Ideal.Fin, conv, conv0, Op.operands, reduceIte, reduceCtorEq, cond_true, Bool.or_false, Bool.not_true, Nat.reduceLT, Nat.reduceEqDiff, ne_eq, true_and, and_true, and_self, implies_true, forall_const, List.map_cons, List.map_nil, List.nil_append, List.cons_append, List.append_nil, ex_clo, or_self, hN, isPs_enc, toPs_enc, lk_impl_InteriorCount_impl_simple, lk_impl_InteriorCount_impl_area, lk_impl_InteriorCount_impl_abs, lk_impl_InteriorCount_impl_onEdges, sp_impl_simple, sp_impl_area, sp_impl_abs, sp_impl_onEdges, h1, hm, hz, b3, w1, w2, w3, w4, hv]
    omega
def sp_impl_InteriorCount : PSpec := ⟨fun xs => match xs with | [.sl 2 les] => isPs les | _ => False, fun xs => match xs with | [.sl _ les] => (fun (l : List Pt) => .num .i64 (icP l)) (toPs les) | _ => .junk, false⟩
theorem gk_impl_InteriorCount : ∀ args, sp_impl_InteriorCount.pre args → ICall Try.prog 49 args (sp_impl_InteriorCount.val args) := by
  intro args h
  unfold sp_impl_InteriorCount at h ⊢; simp only at h ⊢; split at h
  · have h0 := h
    obtain ⟨l0, rfl⟩ := isP_ex h0
    simp only [toPs_enc] at *
    exact c_impl_InteriorCount _ 
  · exact h.elim
theorem en_impl_InteriorCount : Enters Try.prog 49 := enters_of Try.func49 (by kernel_rfl) rfl

def g_spec_InteriorCount : List (Nat × PSpec) := [(76, sp_spec_isSimple), (82, sp_spec_doubleArea), (94, sp_spec_abs), (92, sp_spec_boundaryCount)]
theorem gok_spec_InteriorCount : GOK Try.prog g_spec_InteriorCount := gok_cons gk_spec_isSimple en_spec_isSimple (gok_cons gk_spec_doubleArea en_spec_doubleArea (gok_cons gk_spec_abs en_spec_abs (gok_cons gk_spec_boundaryCount en_spec_boundaryCount (gok0))))
theorem lk_spec_InteriorCount_spec_isSimple : lkG g_spec_InteriorCount 76 = sp_spec_isSimple := rfl
theorem lk_spec_InteriorCount_spec_doubleArea : lkG g_spec_InteriorCount 82 = sp_spec_doubleArea := rfl
theorem lk_spec_InteriorCount_spec_abs : lkG g_spec_InteriorCount 94 = sp_spec_abs := rfl
theorem lk_spec_InteriorCount_spec_boundaryCount : lkG g_spec_InteriorCount 92 = sp_spec_boundaryCount := rfl
def h_spec_InteriorCount : List (Nat × HSpec) := []
theorem hok_spec_InteriorCount : HOK Try.prog h_spec_InteriorCount := hok0
theorem c_spec_InteriorCount (l : List Pt)  : ICall Try.prog 48 [.sl 2 (encPs l)] (.num .i64 (icP l)) := by
  refine icall_V (G := g_spec_InteriorCount) (H := []) [] tabOK mixed gok_spec_InteriorCount hok_spec_InteriorCount Try.func48 rfl Try.ntmps48 Try.results48 rfl (by kernel_rfl) fun F hN hlen => ?_
  have hv : icP l = bif simpB l then insideP l else -1 := rfl
  cases h1 : simpB l with
  | false =>
    rw [h1, cond_false] at hv
    simp only [V_seq, V_ret, V_region, V_cond, brW_true, W_nil, W_cons, effOp2, KN_seq, KXr_nil, KXr_seq, QE, asB, effOp, effPure, effCall, giveUp, hasAll, pureV, ofC, strip, lkT, lkH, ISt.app, opI, gO, gB, allB, gval, wrapG, dstOK, setD, lendV, lendP, lent, lentP, idsV, idsL, lkHS, flat, clean, callArgs, callFn, allLent, enumT, Gives, Ideal.Fin, conv, conv0, Op.operands, reduceIte, reduceCtorEq, cond_true, Bool.or_false, Bool.not_true, Bool.not_false, Nat.reduceLT, Nat.reduceEqDiff, and_self, implies_true, List.map_cons, List.map_nil, List.nil_append, List.cons_append, List.append_nil, ex_clo, or_self, hN, isPs_enc, toPs_enc, lk_spec_InteriorCount_spec_isSimple, sp_spec_isSimple, h1, hv]
  | true =>
    obtain ⟨hk, h3, h20, hnd⟩ := ring_facts (simp_ring h1)
    have hm := okPs_sm hk
    have hz : l.length ≤ 1000000 := by omega
    rw [h1, cond_true] at hv
    have b1 := areaN_bd hm l.length
    have b2 := latt_bd hm l.length
    have e1 : areaN l l.length = areaP l := rfl
    have e2 : lattN l l.length = lattP l := rfl
    rw [e1] at b1
    rw [e2] at b2
    have b3 : -9223372036854775807 ≤ areaP l ∧ areaP l ≤ 9223372036854775807 := by omega
    have b4 : 0 ≤ absI (areaP l) ∧ absI (areaP l) ≤ 400000000000 := by unfold absI; split <;> omega
    have w1 : IntKind.i64.wrap (absI (areaP l) - lattP l) = absI (areaP l) - lattP l := wr (by omega) (by omega)
    have w2 : IntKind.i64.wrap (absI (areaP l) - lattP l + 2) = absI (areaP l) - lattP l + 2 := wr (by omega) (by omega)
    have hd : ((absI (areaP l) - lattP l + 2).tdiv 2).natAbs ≤ (absI (areaP l) - lattP l + 2).natAbs := by rw [Int.natAbs_tdiv]; exact Nat.div_le_self _ _
    have w3 : IntKind.i64.wrap (insideP l) = insideP l := by rw [insideP]; exact wr (by omega) (by omega)
    have w4 : (absI (areaP l) - lattP l + 2).tdiv 2 = insideP l := rfl
    simp only [V_seq, V_skip, V_ret, V_region, V_cond, brW_false, W_nil, W_cons, effOp2, KN_seq, KXr_nil, QE, asB, effOp, effPure, effCall, giveUp, hasAll, pureV, binV, ofC, strip, lkT, lkH, ISt.app, opI, gO, gB, allB, gval, wrapG, dstOK, setD, lendV, lendP, lent, lentP, idsV, idsL, lkHS, flat, clean, callArgs, callFn, allLent, enumT, Gives, Ideal.Fin, conv, conv0, Op.operands, reduceIte, reduceCtorEq, cond_true, Bool.or_false, Bool.not_true, Nat.reduceLT, Nat.reduceEqDiff, ne_eq, true_and, and_true, and_self, implies_true, forall_const, List.map_cons, List.map_nil, List.nil_append, List.cons_append, List.append_nil, ex_clo, or_self, hN, isPs_enc, toPs_enc, lk_spec_InteriorCount_spec_isSimple, lk_spec_InteriorCount_spec_doubleArea, lk_spec_InteriorCount_spec_abs, lk_spec_InteriorCount_spec_boundaryCount, sp_spec_isSimple, sp_spec_doubleArea, sp_spec_abs, sp_spec_boundaryCount, h1, hm, hz, b3, w1, w2, w3, w4, hv]
    omega
def sp_spec_InteriorCount : PSpec := ⟨fun xs => match xs with | [.sl 2 les] => isPs les | _ => False, fun xs => match xs with | [.sl _ les] => (fun (l : List Pt) => .num .i64 (icP l)) (toPs les) | _ => .junk, false⟩
theorem gk_spec_InteriorCount : ∀ args, sp_spec_InteriorCount.pre args → ICall Try.prog 48 args (sp_spec_InteriorCount.val args) := by
  intro args h
  unfold sp_spec_InteriorCount at h ⊢; simp only at h ⊢; split at h
  · have h0 := h
    obtain ⟨l0, rfl⟩ := isP_ex h0
    simp only [toPs_enc] at *
    exact c_spec_InteriorCount _ 
  · exact h.elim
theorem en_spec_InteriorCount : Enters Try.prog 48 := enters_of Try.func48 (by kernel_rfl) rfl


end Go.Proofs.Ytmcpjnaedgpenaa
