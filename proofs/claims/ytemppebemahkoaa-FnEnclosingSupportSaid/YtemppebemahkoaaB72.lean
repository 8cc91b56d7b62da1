/- The first points whose circle encloses all: spec.EnclosingSupport. -/
import Derived.Test.YtemppebemahkoaaB71
set_option linter.unusedVariables false
set_option linter.unusedSimpArgs false
set_option maxHeartbeats 16000000
set_option maxRecDepth 100000
namespace Go.Proofs.Ytemppebemahkoaa
open Go Go.Ideal Go.Pl Go.Sort

theorem selI_natI (l : List Pt) (w : List Nat) : selI l (natI w) = selP l w := by
  simp only [selI, selP, natI, List.map_map]
  exact List.map_congr_left fun x _ => by simp [pAt, pA]
theorem suppI_natI (l : List Pt) (w : List Nat) : suppI l (natI w) = suppB l w := by rw [suppI, suppB, selI_natI]
/-- The support that is to be found. -/
def esV (l : List Pt) : Option (List Nat) := if okPs l then srchP (suppB l) l.length else none
def Asc1 (w : List Int) : Prop := ∀ i, i + 1 < w.length → w.getD i 0 < w.getD (i + 1) 0
theorem up_asc {n : Nat} : ∀ {w : List Nat} {a : Nat}, Up a n w → ∀ i, i + 1 < w.length → w.getD i 0 < w.getD (i + 1) 0
  | [], _, _, i, hi => by simp at hi
  | [x], _, _, i, hi => by simp at hi
  | x :: y :: w, a, h, 0, _ => by
    have h2 := (h.2.2 : Up (x + 1) n (y :: w))
    have := h2.1
    simp; omega
  | x :: y :: w, a, h, i + 1, hi => by
    have h2 := (h.2.2 : Up (x + 1) n (y :: w))
    have := up_asc h2 i (by simp at hi ⊢; omega)
    simpa using this
theorem natI_getD {w : List Nat} {i : Nat} (h : i < w.length) : (natI w).getD i 0 = ((w.getD i 0 : Nat) : Int) := by
  simp [natI, List.getD, h]
theorem asc_natI {n : Nat} {w : List Nat} {a : Nat} (h : Up a n w) : Asc1 (natI w) := by
  intro i hi
  rw [natI, List.length_map] at hi
  rw [natI_getD (by omega), natI_getD hi]
  have := up_asc h i hi
  omega
def g_spec_isSupport : List (Nat × PSpec) := [(93, sp_spec_inRange), (171, sp_spec_cross), (172, sp_spec_dot)]
theorem gok_spec_isSupport : GOK Try.prog g_spec_isSupport := gok_cons gk_spec_inRange en_spec_inRange (gok_cons gk_spec_cross en_spec_cross (gok_cons gk_spec_dot en_spec_dot (gok0)))
theorem lk_spec_isSupport_spec_inRange : lkG g_spec_isSupport 93 = sp_spec_inRange := rfl
theorem lk_spec_isSupport_spec_cross : lkG g_spec_isSupport 171 = sp_spec_cross := rfl
theorem lk_spec_isSupport_spec_dot : lkG g_spec_isSupport 172 = sp_spec_dot := rfl
def h_spec_isSupport : List (Nat × HSpec) := []
theorem hok_spec_isSupport : HOK Try.prog h_spec_isSupport := hok0
theorem c_spec_isSupport (l : List Pt) (w : List Int) (hk : okPs l = true) (hw : ∀ x ∈ w, 0 ≤ x ∧ x < (l.length : Int)) (ha : Asc1 w) (h1 : w.length ≤ 3) : ICall Try.prog 101 [.sl 2 (encPs l), .sl 1 (encI w)] (.bool (detB (selI l w))) := by
  refine icall_V (G := g_spec_isSupport) (H := []) [(4, [(0, 7), (1, 7), (2, 7), (4, 7), (5, 7), (7, 10), (7, 11), (7, 12), (7, 13), (7, 14), (7, 15), (7, 16), (7, 17), (7, 18), (7, 19), (7, 20), (7, 21), (7, 22), (7, 23), (7, 24)])] tabOK mixed gok_spec_isSupport hok_spec_isSupport Try.func101 rfl Try.ntmps101 Try.results101 rfl (by kernel_rfl) fun F hN hlen => ?_
  have el := len_encPs l
  have ew := len_encI w
  have hl20 := okPs_len hk
  simp only [V_seq, V_block, V_region, W_nil, W_cons, effOp2, KN_seq, effOp, effPure, pureV, ofC, strip, ISt.app, opI, gO, gB, allB, gval, wrapG, dstOK, setD, enumT, Op.operands, Nat.reduceLT, Nat.zero_add, true_and, and_self, implies_true, List.nil_append, List.cons_append, List.append_nil, hN]
  refine V_loop (α := Nat) ⟨tabOK, mixed, gok_spec_isSupport, hok_spec_isSupport⟩ (by kernel_rfl) (fun i => i ≤ w.length) (fun i => ⟨[(5, .num .i64 i), (0, .sl 2 (encPs l)), (1, .sl 1 (encI w))], []⟩) (fun i => w.length - i) 0 id (Nat.zero_le _) (by simp [SLe, SLe0, convTm, convHp, conv, conv0, lkT, lkH, clean]) ?_
  intro i hi
  simp only [V_seq, V_region, V_cond, W_nil, W_cons, effOp2, KN_seq, asB, effOp, effPure, pureV, binV, lenV, strip, lkT, ISt.app, opI, gO, gB, allB, gval, wrapG, dstOK, setD, Op.operands, Call.operands, List.append_toArray, reduceIte, reduceCtorEq, Nat.reduceLT, Nat.reduceEqDiff, ne_eq, not_false_eq_true, true_and, and_self, implies_true, List.nil_append, List.cons_append, List.append_nil, tab25, hN, ew]
  refine brW_some (fun h => ?_) (fun h => ?_)
  · have hi' : i < w.length := by simpa using h
    have hwi := wr_succ hi' (by rw [maxLen_eq]; omega)
    have g0 := getD_encI hi'
    have hb := hw (w.getD i 0) (by rw [List.getD, List.getElem?_eq_getElem hi']; exact List.getElem_mem hi')
    have hin : inR (w.getD i 0) 0 ((l.length : Int) - 1) = true := by simp only [inR, Bool.and_eq_true, decide_eq_true_eq]; omega
    have w0 : IntKind.i64.wrap ((l.length : Int) - 1) = (l.length : Int) - 1 := wr (by omega) (by omega)
    rcases Nat.eq_zero_or_pos i with h0 | h0
    · subst h0
      have d0 : decide ((0 : Int) < ((0 : Nat) : Int)) = false := rfl
      have tz : Int.toNat ((0 : Nat) : Int) = 0 := rfl
      have w1 : IntKind.i64.wrap (((0 : Nat) : Int) - 1) = -1 := wr (by omega) (by omega)
      have tneg : Int.toNat (-1) = 0 := rfl
      simp only [V_seq, V_skip, V_block, V_region, V_draw, V_cond, brW_false, drawW, WS_nil, pairsOf, W_nil, W_cons, effOp2, effOp3, WI_nil, WI_cons, KN_seq, KN_block, KN_back, dynOK, indB, farB, freshB, freshK, freshK1, heapy, asB, effOp, effPure, effPick, effCall, giveUp, hasAll, pureV, pickV, binV, eltV, loadV, iaddrV, lenV, ofC, strip, lkT, lkH, ISt.app, opI, gO, gB, allB, gval, wrapG, dstOK, setD, mentTm, mentHp, IV.ment, lendV, lendP, lent, lentP, idsV, idsL, lkHS, flat, clean, callArgs, callFn, allLent, Op.operands, Call.operands, List.append_toArray, reduceIte, reduceCtorEq, cond_true, cond_false, Bool.or_false, Bool.and_true, Bool.and_false, Bool.and_eq_true, Bool.not_true, Bool.not_false, Nat.reduceLT, Nat.reduceEqDiff, Nat.reduceBEq, Nat.zero_add, ne_eq, not_false_eq_true, beq_self_eq_true, true_and, and_true, false_and, and_self, false_implies, implies_true, forall_const, List.map_cons, List.map_nil, List.nil_append, List.cons_append, List.append_nil, Option.bind_some, List.getElem?_cons_zero, List.getElem?_cons_succ, List.getD_cons_zero, List.getD_cons_succ, List.take_zero, List.drop_zero, ex_clo, bft, or_self, Bool.false_eq_true, tab3, tab23, tab25, hN, lk_spec_isSupport_spec_inRange, sp_spec_inRange, el, ew, g0, hin, w0, d0, hwi, tz, w1, tneg]
      exact ⟨⟨by omega, by omega⟩, 0 + 1, id, by simp only []; omega, by simp only []; omega, by simp [SLe, SLe0, convTm, convHp, conv, conv0, lkT, lkH, clean]⟩
    · obtain ⟨j, rfl⟩ : ∃ j, i = j + 1 := ⟨i - 1, by omega⟩
      have g1 := getD_encI (l := w) (i := j) (by omega)
      have lt := ha j hi'
      have d0 : decide ((0 : Int) < ((j + 1 : Nat) : Int)) = true := decide_eq_true (by omega)
      have d1 : decide (w.getD (j + 1) 0 ≤ w.getD j 0) = false := decide_eq_false (by omega)
      have w1 : IntKind.i64.wrap (((j + 1 : Nat) : Int) - 1) = (j : Int) := by rw [wr (by omega) (by omega)]; omega
      simp only [V_seq, V_skip, V_block, V_region, V_draw, V_cond, brW_false, drawW, WS_nil, pairsOf, W_nil, W_cons, effOp2, effOp3, WI_nil, WI_cons, KN_seq, KN_block, KN_back, dynOK, indB, farB, freshB, freshK, freshK1, heapy, asB, effOp, effPure, effPick, effCall, giveUp, hasAll, pureV, pickV, binV, eltV, loadV, iaddrV, lenV, ofC, strip, lkT, lkH, ISt.app, opI, gO, gB, allB, gval, wrapG, dstOK, setD, mentTm, mentHp, IV.ment, lendV, lendP, lent, lentP, idsV, idsL, lkHS, flat, clean, callArgs, callFn, allLent, Op.operands, Call.operands, List.append_toArray, reduceIte, reduceCtorEq, cond_true, cond_false, Bool.or_false, Bool.and_true, Bool.and_eq_true, Bool.not_true, Bool.not_false, Nat.reduceLT, Nat.reduceEqDiff, Nat.reduceBEq, ne_eq, not_false_eq_true, beq_self_eq_true, true_and, and_true, and_self, implies_true, forall_const, List.map_cons, List.map_nil, List.nil_append, List.cons_append, List.append_nil, Option.bind_some, List.getElem?_cons_zero, List.getElem?_cons_succ, List.getD_cons_zero, List.getD_cons_succ, List.take_zero, List.drop_zero, ex_clo, or_self, Bool.true_eq_false, Bool.false_eq_true, tab3, tab23, tab25, hN, Int.toNat_natCast, lk_spec_isSupport_spec_inRange, sp_spec_inRange, el, ew, g0, g1, hin, w0, w1, d0, d1, hwi]
      exact ⟨⟨by omega, by omega⟩, ⟨by omega, by omega⟩, ⟨by omega, by omega⟩, j + 1 + 1, id, by simp only []; omega, by simp only []; omega, by simp [SLe, SLe0, convTm, convHp, conv, conv0, lkT, lkH, clean]⟩
  · have hat : ∀ k ∈ w, ∃ i : Nat, k = (i : Int) ∧ i < l.length := fun k hk => ⟨k.toNat, by have := hw k hk; omega, by have := hw k hk; omega⟩
    rcases w with _ | ⟨x, _ | ⟨y, _ | ⟨z, r⟩⟩⟩
    · have e : (encI []).length = 0 := rfl
      have hd : detB (selI l []) = false := rfl
      simp only [V_seq, V_skip, V_ret, V_exit, V_block, V_region, V_cond, brW_false, W_nil, W_cons, effOp2, KN_seq, KN_block, KXr_nil, KXe_nil, KXe_seq, KXe_block, KXe_back, QE, asB, effOp, effPure, pureV, binV, lenV, ofC, strip, lkT, lkH, ISt.app, opI, gO, gB, allB, gval, wrapG, dstOK, setD, clean, Gives, Ideal.Fin, conv, conv0, Op.operands, Call.operands, List.append_toArray, reduceIte, reduceCtorEq, Nat.reduceLT, Nat.reduceEqDiff, ne_eq, not_false_eq_true, and_self, implies_true, List.nil_append, List.cons_append, List.append_nil, List.length_nil, tab25, hN, e, hd, ci0, xe01, xe02, xe03]
    · have e : (encI [x]).length = 1 := rfl
      have hd : detB (selI l [x]) = true := rfl
      simp only [V_seq, V_ret, V_exit, V_block, V_region, V_cond, brW_true, W_nil, W_cons, effOp2, KN_seq, KXr_nil, KXr_seq, KXr_block, KXe_nil, KXe_seq, KXe_block, KXe_back, QE, asB, effOp, effPure, pureV, binV, lenV, ofC, strip, lkT, lkH, ISt.app, opI, gO, gB, allB, gval, wrapG, dstOK, setD, clean, Gives, Ideal.Fin, conv, conv0, Op.operands, Call.operands, List.append_toArray, reduceIte, reduceCtorEq, Nat.reduceLT, Nat.reduceEqDiff, Nat.zero_add, ne_eq, not_false_eq_true, beq_self_eq_true, and_self, implies_true, List.nil_append, List.cons_append, List.append_nil, List.length_cons, List.length_nil, tab25, hN, e, hd, ci1]
    · clear hi h
      obtain ⟨i, rfl, hi⟩ := hat x (by simp)
      obtain ⟨j, rfl, hj⟩ := hat y (by simp)
      have g0 := getD_encPs hi
      have g1 := getD_encPs hj
      have e : encI [(i : Int), (j : Int)] = [.num .i64 (i : Int), .num .i64 (j : Int)] := rfl
      have hd : detB (selI l [(i : Int), (j : Int)]) = !(pAt l i == pAt l j) := rfl
      simp only [V_seq, V_ret, V_exit, V_block, V_region, V_draw, V_cond, brW_true, brW_false, drawW, pairsOf, W_nil, W_cons, WD_nil, WD_cons, effOp2, effOp3, KN_seq, KXr_nil, KXr_seq, KXr_block, KXe_nil, KXe_seq, KXe_block, KXe_back, QE, asB, effOp, effPure, pureV, binV, partV, eltV, loadV, iaddrV, lenV, ofC, strip, lkT, lkH, ISt.app, opI, gO, gB, allB, gval, wrapG, dstOK, setD, clean, Gives, Ideal.Fin, conv, conv0, eqL, numsOnly, Op.operands, Call.operands, List.append_toArray, reduceIte, reduceCtorEq, Bool.and_true, Nat.reduceAdd, Nat.reduceLT, Nat.reduceLeDiff, Nat.reduceEqDiff, Nat.zero_add, ne_eq, not_false_eq_true, beq_self_eq_true, true_and, and_true, and_false, and_self, implies_true, forall_const, List.nil_append, List.cons_append, List.append_nil, List.getD_cons_zero, List.getD_cons_succ, List.length_cons, List.length_nil, List.take_succ_cons, List.take_nil, List.drop_zero, tab3, tab23, tab25, tab30, hN, Int.toNat_natCast, el, e, g0, g1, hd, eqP, tn0, tn1, ci2, xe21, List.getD_cons_zero, List.getD_cons_succ, Int.toNat_natCast]
      exact ⟨⟨by omega, by omega⟩, ⟨by omega, by omega⟩, ⟨by omega, by omega⟩, by omega, by omega⟩
    · rcases r with _ | ⟨u, r⟩
      · clear hi h
        obtain ⟨i, rfl, hi⟩ := hat x (by simp)
        obtain ⟨j, rfl, hj⟩ := hat y (by simp)
        obtain ⟨k, rfl, hkl⟩ := hat z (by simp)
        have g0 := getD_encPs hi
        have g1 := getD_encPs hj
        have g2 := getD_encPs hkl
        have e : encI [(i : Int), (j : Int), (k : Int)] = [.num .i64 (i : Int), .num .i64 (j : Int), .num .i64 (k : Int)] := rfl
        have hd : detB (selI l [(i : Int), (j : Int), (k : Int)]) = (!(turn (pAt l i) (pAt l j) (pAt l k) == 0) && (decide (0 < dotV (pAt l i) (pAt l j) (pAt l k)) && (decide (0 < dotV (pAt l j) (pAt l k) (pAt l i)) && decide (0 < dotV (pAt l k) (pAt l i) (pAt l j))))) := rfl
        have hc := dotV_comm (pAt l j) (pAt l k) (pAt l i)
        rw [hc] at hd
        have v0 := okPs_vp hk hi
        have v1 := okPs_vp hk hj
        have v2 := okPs_vp hk hkl
        have s0 := v0.sm
        have s1 := v1.sm
        have s2 := v2.sm
        have hd2 : detB (selI l [(i : Int), (j : Int), (k : Int)]) = ((turn (pAt l i) (pAt l j) (pAt l k) != 0) && (decide (0 < dotV (pAt l i) (pAt l j) (pAt l k)) && (decide (0 < dotV (pAt l j) (pAt l i) (pAt l k)) && decide (0 < dotV (pAt l k) (pAt l i) (pAt l j))))) := hd
        clear hd
        cases c1 : (turn (pAt l i) (pAt l j) (pAt l k) != 0) with
        | false =>
          rw [c1] at hd2
          simp only [V_seq, V_ret, V_exit, V_block, V_region, V_cond, brW_true, brW_false, W_nil, W_cons, effOp2, KN_seq, KXr_nil, KXr_seq, KXr_block, KXe_nil, KXe_seq, KXe_block, KXe_back, QE, asB, effOp, effPure, effPick, effNew, effAlloc, effStore, effCall, giveUp, hasAll, skipE, pureV, pickV, storeV, binV, partV, eltV, loadV, iaddrV, lenV, over, solid, IV.cells, ofC, strip, lkT, lkH, ISt.app, opI, gO, gB, allB, gval, wrapG, dstOK, setD, mentTm, mentHp, IV.ment, IV.mentL, oneI, lendV, lendP, lent, lentP, idsV, idsL, lkHS, flat, clean, callArgs, callFn, allLent, Gives, Ideal.Fin, conv, conv0, Op.operands, Call.operands, List.append_toArray, reduceIte, reduceCtorEq, cond_true, cond_false, Bool.or_false, Bool.or_true, Bool.and_true, Bool.false_and, Bool.not_true, Bool.not_false, Nat.reduceAdd, Nat.reduceLT, Nat.reduceLeDiff, Nat.reduceEqDiff, Nat.reduceBEq, Nat.zero_add, ne_eq, not_false_eq_true, beq_self_eq_true, true_and, and_true, and_false, and_self, false_implies, implies_true, forall_const, List.map_cons, List.map_nil, List.nil_append, List.cons_append, List.append_nil, List.all_cons, List.all_nil, Option.bind_some, List.getElem?_cons_zero, List.getElem?_cons_succ, List.getD_cons_zero, List.getD_cons_succ, List.length_cons, List.length_nil, List.take_succ_cons, List.take_zero, List.take_nil, List.drop_succ_cons, List.drop_zero, List.drop_nil, ex_clo, bft, or_self, Bool.false_eq_true, tab3, tab23, tab25, tab30, hN, pe, Int.toNat_natCast, lk_spec_isSupport_spec_cross, lk_spec_isSupport_spec_dot, sp_spec_cross, sp_spec_dot, el, e, g0, g1, g2, v0, v1, v2, s0, s1, s2, hd2, c1, tn0, tn1, tn2, ci3, xe31, xe32, List.getD_cons_zero, List.getD_cons_succ, Int.toNat_natCast]
          exact ⟨⟨by omega, by omega⟩, ⟨by omega, by omega⟩, ⟨by omega, by omega⟩, ⟨by omega, by omega⟩, ⟨by omega, by omega⟩, by omega, by omega⟩
        | true =>
          cases c2 : decide (0 < dotV (pAt l i) (pAt l j) (pAt l k)) with
          | false =>
            rw [c1, c2] at hd2
            simp only [V_seq, V_ret, V_exit, V_block, V_region, V_cond, brW_true, brW_false, W_nil, W_cons, effOp2, KN_seq, KXr_nil, KXr_seq, KXr_block, KXe_nil, KXe_seq, KXe_block, KXe_back, QE, asB, effOp, effPure, effPick, effNew, effAlloc, effStore, effCall, giveUp, hasAll, skipE, pureV, pickV, storeV, binV, partV, eltV, loadV, iaddrV, lenV, over, solid, IV.cells, ofC, strip, lkT, lkH, ISt.app, opI, gO, gB, allB, gval, wrapG, dstOK, setD, mentTm, mentHp, IV.ment, IV.mentL, oneI, lendV, lendP, lent, lentP, idsV, idsL, lkHS, flat, clean, callArgs, callFn, allLent, Gives, Ideal.Fin, conv, conv0, Op.operands, Call.operands, List.append_toArray, reduceIte, reduceCtorEq, cond_true, cond_false, Bool.or_false, Bool.or_true, Bool.and_true, Bool.and_false, Bool.false_and, Bool.not_true, Bool.not_false, Nat.reduceAdd, Nat.reduceLT, Nat.reduceLeDiff, Nat.reduceEqDiff, Nat.reduceBEq, Nat.zero_add, ne_eq, not_false_eq_true, beq_self_eq_true, true_and, and_true, and_false, and_self, false_implies, implies_true, forall_const, List.map_cons, List.map_nil, List.nil_append, List.cons_append, List.append_nil, List.all_cons, List.all_nil, Option.bind_some, List.getElem?_cons_zero, List.getElem?_cons_succ, List.getD_cons_zero, List.getD_cons_succ, List.length_cons, List.length_nil, List.take_succ_cons, List.take_zero, List.take_nil, List.drop_succ_cons, List.drop_zero, List.drop_nil, ex_clo, bft, or_self, Bool.true_eq_false, Bool.false_eq_true, tab3, tab23, tab25, tab30, hN, pe, Int.toNat_natCast, lk_spec_isSupport_spec_cross, lk_spec_isSupport_spec_dot, sp_spec_cross, sp_spec_dot, el, e, g0, g1, g2, v0, v1, v2, s0, s1, s2, hd2, c1, c2, tn0, tn1, tn2, ci3, xe31, xe32, List.getD_cons_zero, List.getD_cons_succ, Int.toNat_natCast]
            exact ⟨⟨by omega, by omega⟩, ⟨by omega, by omega⟩, ⟨by omega, by omega⟩, ⟨by omega, by omega⟩, ⟨by omega, by omega⟩, by omega, by omega⟩
          | true =>
            cases c3 : decide (0 < dotV (pAt l j) (pAt l i) (pAt l k)) with
            | false =>
              rw [c1, c2, c3] at hd2
              simp only [V_seq, V_ret, V_exit, V_block, V_region, V_cond, brW_true, brW_false, W_nil, W_cons, effOp2, KN_seq, KXr_nil, KXr_seq, KXr_block, KXe_nil, KXe_seq, KXe_block, KXe_back, QE, asB, effOp, effPure, effPick, effNew, effAlloc, effStore, effCall, giveUp, hasAll, skipE, pureV, pickV, storeV, binV, partV, eltV, loadV, iaddrV, lenV, over, solid, IV.cells, ofC, strip, lkT, lkH, ISt.app, opI, gO, gB, allB, gval, wrapG, dstOK, setD, mentTm, mentHp, IV.ment, IV.mentL, oneI, lendV, lendP, lent, lentP, idsV, idsL, lkHS, flat, clean, callArgs, callFn, allLent, Gives, Ideal.Fin, conv, conv0, Op.operands, Call.operands, List.append_toArray, reduceIte, reduceCtorEq, cond_true, cond_false, Bool.or_false, Bool.or_true, Bool.and_true, Bool.and_false, Bool.false_and, Bool.not_true, Bool.not_false, Nat.reduceAdd, Nat.reduceLT, Nat.reduceLeDiff, Nat.reduceEqDiff, Nat.reduceBEq, Nat.zero_add, ne_eq, not_false_eq_true, beq_self_eq_true, true_and, and_true, and_false, and_self, false_implies, implies_true, forall_const, List.map_cons, List.map_nil, List.nil_append, List.cons_append, List.append_nil, List.all_cons, List.all_nil, Option.bind_some, List.getElem?_cons_zero, List.getElem?_cons_succ, List.getD_cons_zero, List.getD_cons_succ, List.length_cons, List.length_nil, List.take_succ_cons, List.take_zero, List.take_nil, List.drop_succ_cons, List.drop_zero, List.drop_nil, ex_clo, bft, or_self, Bool.true_eq_false, Bool.false_eq_true, tab3, tab23, tab25, tab30, hN, pe, Int.toNat_natCast, lk_spec_isSupport_spec_cross, lk_spec_isSupport_spec_dot, sp_spec_cross, sp_spec_dot, el, e, g0, g1, g2, v0, v1, v2, s0, s1, s2, hd2, c1, c2, c3, tn0, tn1, tn2, ci3, xe31, xe32, List.getD_cons_zero, List.getD_cons_succ, Int.toNat_natCast]
              exact ⟨⟨by omega, by omega⟩, ⟨by omega, by omega⟩, ⟨by omega, by omega⟩, ⟨by omega, by omega⟩, ⟨by omega, by omega⟩, by omega, by omega⟩
            | true =>
              rw [c1, c2, c3] at hd2
              simp only [V_seq, V_ret, V_exit, V_block, V_region, V_cond, brW_true, brW_false, W_nil, W_cons, effOp2, KN_seq, KXr_nil, KXr_seq, KXr_block, KXe_nil, KXe_seq, KXe_block, KXe_back, QE, asB, effOp, effPure, effPick, effNew, effAlloc, effStore, effCall, giveUp, hasAll, skipE, pureV, pickV, storeV, binV, partV, eltV, loadV, iaddrV, lenV, over, solid, IV.cells, ofC, strip, lkT, lkH, ISt.app, opI, gO, gB, allB, gval, wrapG, dstOK, setD, mentTm, mentHp, IV.ment, IV.mentL, oneI, lendV, lendP, lent, lentP, idsV, idsL, lkHS, flat, clean, callArgs, callFn, allLent, Gives, Ideal.Fin, conv, conv0, Op.operands, Call.operands, List.append_toArray, reduceIte, reduceCtorEq, cond_true, Bool.or_false, Bool.and_true, Bool.true_and, Bool.not_true, Nat.reduceAdd, Nat.reduceLT, Nat.reduceLeDiff, Nat.reduceEqDiff, Nat.reduceBEq, Nat.zero_add, ne_eq, not_false_eq_true, beq_self_eq_true, true_and, and_true, and_false, and_self, implies_true, forall_const, List.map_cons, List.map_nil, List.nil_append, List.cons_append, List.append_nil, List.all_cons, List.all_nil, Option.bind_some, List.getElem?_cons_zero, List.getElem?_cons_succ, List.getD_cons_zero, List.getD_cons_succ, List.length_cons, List.length_nil, List.take_succ_cons, List.take_zero, List.take_nil, List.drop_succ_cons, List.drop_zero, List.drop_nil, ex_clo, or_self, Bool.true_eq_false, tab3, tab23, tab25, tab30, hN, pe, Int.toNat_natCast, lk_spec_isSupport_spec_cross, lk_spec_isSupport_spec_dot, sp_spec_cross, sp_spec_dot, el, e, g0, g1, g2, v0, v1, v2, s0, s1, s2, hd2, c1, c2, c3, tn0, tn1, tn2, ci3, xe31, xe32, List.getD_cons_zero, List.getD_cons_succ, Int.toNat_natCast]
              exact ⟨⟨by omega, by omega⟩, ⟨by omega, by omega⟩, ⟨by omega, by omega⟩, ⟨by omega, by omega⟩, ⟨by omega, by omega⟩, by omega, by omega⟩
      · simp at h1
def sp_spec_isSupport : PSpec := ⟨fun xs => match xs with | [.sl 2 les, .sl 1 wes] => isPs les ∧ isIs wes ∧ ((fun (l : List Pt) (w : List Int) => okPs l = true) (toPs les) (toIs wes)) ∧ ((fun (l : List Pt) (w : List Int) => ∀ x ∈ w, 0 ≤ x ∧ x < (l.length : Int)) (toPs les) (toIs wes)) ∧ ((fun (l : List Pt) (w : List Int) => Asc1 w) (toPs les) (toIs wes)) ∧ ((fun (l : List Pt) (w : List Int) => w.length ≤ 3) (toPs les) (toIs wes)) | _ => False, fun xs => match xs with | [.sl _ les, .sl _ wes] => (fun (l : List Pt) (w : List Int) => .bool (detB (selI l w))) (toPs les) (toIs wes) | _ => .junk, false⟩
theorem gk_spec_isSupport : ∀ args, sp_spec_isSupport.pre args → ICall Try.prog 101 args (sp_spec_isSupport.val args) := by
  intro args h
  unfold sp_spec_isSupport at h ⊢; simp only at h ⊢; split at h
  · obtain ⟨h0, h1, h2, h3, h4, h5⟩ := h
    obtain ⟨l0, rfl⟩ := isP_ex h0
    obtain ⟨l1, rfl⟩ := isI_ex h1
    simp only [toPs_enc, toIs_enc] at *
    exact c_spec_isSupport _ _ h2 h3 h4 h5
  · exact h.elim
theorem en_spec_isSupport : Enters Try.prog 101 := enters_of Try.func101 (by kernel_rfl) rfl

def g_spec_encloses : List (Nat × PSpec) := [(173, sp_spec_inSupport)]
theorem gok_spec_encloses : GOK Try.prog g_spec_encloses := gok_cons gk_spec_inSupport en_spec_inSupport (gok0)
theorem lk_spec_encloses_spec_inSupport : lkG g_spec_encloses 173 = sp_spec_inSupport := rfl
def h_spec_encloses : List (Nat × HSpec) := []
theorem hok_spec_encloses : HOK Try.prog h_spec_encloses := hok0
theorem c_spec_encloses (l : List Pt) (w : List Int) (hk : okPs l = true) (hw : ∀ x ∈ w, 0 ≤ x ∧ x < (l.length : Int)) (h1 : 1 ≤ w.length ∧ w.length ≤ 3) : ICall Try.prog 102 [.sl 2 (encPs l), .sl 1 (encI w)] (.bool (l.all (encS (selI l w)))) := by
  refine icall_V (G := g_spec_encloses) (H := []) [] tabOK mixed gok_spec_encloses hok_spec_encloses Try.func102 rfl Try.ntmps102 Try.results102 rfl (by kernel_rfl) fun F hN hlen => ?_
  have el := len_encPs l
  have hl20 := okPs_len hk
  simp only [V_seq, V_block, V_region, W_nil, W_cons, effOp2, KN_seq, effOp, effPure, pureV, ofC, strip, ISt.app, opI, gO, gB, allB, gval, wrapG, dstOK, setD, enumT, Op.operands, Nat.reduceLT, Nat.zero_add, true_and, and_self, implies_true, List.nil_append, List.cons_append, List.append_nil, hN]
  refine V_loop (α := Nat) ⟨tabOK, mixed, gok_spec_encloses, hok_spec_encloses⟩ (by kernel_rfl) (fun i => i ≤ l.length ∧ l.all (encS (selI l w)) = (l.drop i).all (encS (selI l w))) (fun i => ⟨[(5, .num .i64 i), (0, .sl 2 (encPs l)), (1, .sl 1 (encI w))], []⟩) (fun i => l.length - i) 0 id (by simp) (by simp [SLe, SLe0, convTm, convHp, conv, conv0, lkT, lkH, clean]) ?_
  rintro i ⟨hi, hj⟩
  simp only [V_seq, V_region, V_cond, W_nil, W_cons, effOp2, KN_seq, asB, effOp, effPure, pureV, binV, lenV, strip, lkT, ISt.app, opI, gO, gB, allB, gval, wrapG, dstOK, setD, Op.operands, Call.operands, List.append_toArray, reduceIte, reduceCtorEq, Nat.reduceLT, Nat.reduceEqDiff, ne_eq, not_false_eq_true, true_and, and_self, implies_true, List.nil_append, List.cons_append, List.append_nil, tab23, hN, el]
  refine brW_some (fun h => ?_) (fun h => ?_)
  · have hi' : i < l.length := by simpa using h
    have g1 := getD_encPs hi'
    have hwi := wr_succ hi' (by rw [maxLen_eq]; omega)
    have hst := all_step (p := encS (selI l w)) (d := (0, 0)) hi'
    have hv := okPs_vp hk hi'
    change _ = (encS (selI l w) (pAt l i) && _) at hst
    generalize hq : pAt l i = q at *
    simp only [V_seq, V_skip, V_block, V_region, V_cond, W_nil, W_cons, effOp2, KN_seq, asB, effOp, effPure, effCall, giveUp, hasAll, pureV, partV, eltV, loadV, iaddrV, strip, lkT, lkH, ISt.app, opI, gO, gB, allB, gval, wrapG, dstOK, setD, lendV, lendP, lent, lentP, idsV, idsL, lkHS, flat, clean, callArgs, callFn, allLent, Op.operands, reduceIte, reduceCtorEq, cond_true, Bool.or_false, Bool.not_true, Nat.reduceAdd, Nat.reduceLT, Nat.reduceLeDiff, Nat.reduceEqDiff, Nat.zero_add, ne_eq, not_false_eq_true, true_and, and_true, and_false, and_self, implies_true, forall_const, List.map_cons, List.map_nil, List.nil_append, List.cons_append, List.append_nil, List.getD_cons_zero, List.length_cons, List.length_nil, List.take_succ_cons, List.take_nil, List.drop_zero, ex_clo, or_self, tab23, tab30, hN, pe, Int.toNat_natCast, isPs_enc, toPs_enc, isIs_enc, toIs_enc, lk_spec_encloses_spec_inSupport, sp_spec_inSupport, el, g1, hk, h1, hv]
    refine ⟨⟨by omega, by omega⟩, hw, ?_⟩
    refine brW_some (fun h => ?_) (fun h => ?_)
    · have hq : encS (selI l w) q = false := by simpa using h
      have hv : l.all (encS (selI l w)) = false := by rw [hj, hst, hq]; rfl
      simp only [V_seq, V_ret, V_region, W_nil, W_cons, effOp2, KN_seq, KXr_nil, KXr_seq, KXr_block, KXr_back, QE, effOp, effPure, pureV, ofC, strip, lkT, lkH, ISt.app, opI, gO, gB, allB, gval, wrapG, dstOK, setD, clean, Gives, Ideal.Fin, conv, conv0, Op.operands, reduceIte, reduceCtorEq, Nat.reduceLT, Nat.reduceEqDiff, and_self, implies_true, List.nil_append, List.cons_append, List.append_nil, hN, hv]
    · have hq : encS (selI l w) q = true := by simpa using h
      simp only [V_skip, V_region, W_nil, W_cons, effOp2, KN_seq, KN_block, KN_back, effOp, effPure, pureV, binV, ofC, strip, lkT, ISt.app, opI, gO, gB, allB, gval, wrapG, dstOK, setD, Op.operands, reduceIte, reduceCtorEq, Nat.reduceLT, Nat.reduceEqDiff, true_and, and_self, implies_true, List.nil_append, List.cons_append, List.append_nil, hN, hwi]
      exact ⟨i + 1, id, ⟨by omega, by rw [hj, hst, hq]; rfl⟩, by simp only []; omega, by simp [SLe, SLe0, convTm, convHp, conv, conv0, lkT, lkH, clean]⟩
  · have hie : i = l.length := by simp at h; omega
    subst hie
    have hv : l.all (encS (selI l w)) = true := by rw [hj]; simp
    simp only [V_seq, V_ret, V_exit, V_region, W_nil, W_cons, effOp2, KN_seq, KXr_nil, KXe_nil, KXe_seq, KXe_block, KXe_back, QE, effOp, effPure, pureV, ofC, strip, lkT, lkH, ISt.app, opI, gO, gB, allB, gval, wrapG, dstOK, setD, clean, Gives, Ideal.Fin, conv, conv0, Op.operands, reduceIte, reduceCtorEq, Nat.reduceLT, Nat.reduceEqDiff, and_self, implies_true, List.nil_append, List.cons_append, List.append_nil, hN, hv]
def sp_spec_encloses : PSpec := ⟨fun xs => match xs with | [.sl 2 les, .sl 1 wes] => isPs les ∧ isIs wes ∧ ((fun (l : List Pt) (w : List Int) => okPs l = true) (toPs les) (toIs wes)) ∧ ((fun (l : List Pt) (w : List Int) => ∀ x ∈ w, 0 ≤ x ∧ x < (l.length : Int)) (toPs les) (toIs wes)) ∧ ((fun (l : List Pt) (w : List Int) => 1 ≤ w.length ∧ w.length ≤ 3) (toPs les) (toIs wes)) | _ => False, fun xs => match xs with | [.sl _ les, .sl _ wes] => (fun (l : List Pt) (w : List Int) => .bool (l.all (encS (selI l w)))) (toPs les) (toIs wes) | _ => .junk, false⟩
theorem gk_spec_encloses : ∀ args, sp_spec_encloses.pre args → ICall Try.prog 102 args (sp_spec_encloses.val args) := by
  intro args h
  unfold sp_spec_encloses at h ⊢; simp only at h ⊢; split at h
  · obtain ⟨h0, h1, h2, h3, h4⟩ := h
    obtain ⟨l0, rfl⟩ := isP_ex h0
    obtain ⟨l1, rfl⟩ := isI_ex h1
    simp only [toPs_enc, toIs_enc] at *
    exact c_spec_encloses _ _ h2 h3 h4
  · exact h.elim
theorem en_spec_encloses : Enters Try.prog 102 := enters_of Try.func102 (by kernel_rfl) rfl

def g_spec_EnclosingSupport : List (Nat × PSpec) := [(76, sp_spec_validPoints), (82, sp_spec_subsets), (101, sp_spec_isSupport), (102, sp_spec_encloses)]
theorem gok_spec_EnclosingSupport : GOK Try.prog g_spec_EnclosingSupport := gok_cons gk_spec_validPoints en_spec_validPoints (gok_cons gk_spec_subsets en_spec_subsets (gok_cons gk_spec_isSupport en_spec_isSupport (gok_cons gk_spec_encloses en_spec_encloses (gok0))))
theorem lk_spec_EnclosingSupport_spec_validPoints : lkG g_spec_EnclosingSupport 76 = sp_spec_validPoints := rfl
theorem lk_spec_EnclosingSupport_spec_subsets : lkG g_spec_EnclosingSupport 82 = sp_spec_subsets := rfl
theorem lk_spec_EnclosingSupport_spec_isSupport : lkG g_spec_EnclosingSupport 101 = sp_spec_isSupport := rfl
theorem lk_spec_EnclosingSupport_spec_encloses : lkG g_spec_EnclosingSupport 102 = sp_spec_encloses := rfl
def h_spec_EnclosingSupport : List (Nat × HSpec) := []
theorem hok_spec_EnclosingSupport : HOK Try.prog h_spec_EnclosingSupport := hok0
theorem c_spec_EnclosingSupport (l : List Pt)  : ICall Try.prog 41 [.sl 2 (encPs l)] (.sl 1 (encN ((esV l).getD []))) := by
  refine icall_V (G := g_spec_EnclosingSupport) (H := []) [] tabOK mixed gok_spec_EnclosingSupport hok_spec_EnclosingSupport Try.func41 rfl Try.ntmps41 Try.results41 rfl (by kernel_rfl) fun F hN hlen => ?_
  have el := len_encPs l
  cases hk : okPs l with
  | false =>
    have hv : encN ((esV l).getD []) = [] := by rw [esV, hk]; rfl
    simp only [V_seq, V_ret, V_region, V_cond, brW_true, W_nil, W_cons, effOp2, KN_seq, KXr_nil, KXr_seq, QE, asB, effOp, effPure, effPick, effCall, giveUp, hasAll, pureV, pickV, binV, lenV, ofC, strip, lkT, lkH, ISt.app, opI, gO, gB, allB, gval, wrapG, dstOK, setD, lendV, lendP, lent, lentP, idsV, idsL, lkHS, flat, clean, callArgs, callFn, allLent, enumT, Gives, Ideal.Fin, conv, conv0, Op.operands, Call.operands, List.append_toArray, reduceIte, reduceCtorEq, cond_true, Bool.or_false, Bool.not_true, Bool.not_false, Nat.reduceLT, Nat.reduceEqDiff, ne_eq, not_false_eq_true, and_true, and_self, false_implies, implies_true, List.map_cons, List.map_nil, List.nil_append, List.cons_append, List.append_nil, Option.bind_some, List.getElem?_cons_zero, List.getElem?_cons_succ, ex_clo, btf, or_self, Bool.true_eq_false, Bool.false_eq_true, tab23, hN, isPs_enc, toPs_enc, lk_spec_EnclosingSupport_spec_validPoints, sp_spec_validPoints, el, hk, hv]
  | true =>
    have hl20 := okPs_len hk
    have hV : esV l = srchP (suppB l) l.length := by rw [esV, hk]; rfl
    rcases Nat.eq_zero_or_pos l.length with h0 | h0
    · have hnil : l = [] := List.length_eq_zero_iff.1 h0
      subst hnil
      have e0 : encPs [] = [] := rfl
      have hv : encN ((esV []).getD []) = [] := by rw [hV]; rfl
      have c0 : (((0 : Nat) : Int) == 0) = true := rfl
      have c1 : ([] : List IV).length = 0 := rfl
      simp only [V_seq, V_ret, V_region, V_cond, brW_true, W_nil, W_cons, effOp2, KN_seq, KXr_nil, KXr_seq, QE, asB, effOp, effPure, effPick, effCall, giveUp, hasAll, pureV, pickV, binV, lenV, ofC, strip, lkT, lkH, ISt.app, opI, gO, gB, allB, gval, wrapG, dstOK, setD, lendV, lendP, lent, lentP, idsV, idsL, lkHS, flat, clean, callArgs, callFn, allLent, enumT, Gives, Ideal.Fin, conv, conv0, Op.operands, Call.operands, List.append_toArray, reduceIte, reduceCtorEq, cond_true, cond_false, Bool.or_false, Bool.not_true, Nat.reduceLT, Nat.reduceEqDiff, ne_eq, not_false_eq_true, beq_self_eq_true, and_self, implies_true, List.map_cons, List.map_nil, List.nil_append, List.cons_append, List.append_nil, Option.bind_some, List.getElem?_cons_zero, List.getElem?_cons_succ, ex_clo, or_self, Bool.false_eq_true, tab23, hN, isPs_nil, toPs_nil, lk_spec_EnclosingSupport_spec_validPoints, sp_spec_validPoints, e0, hk, hv, c0, c1]
    · have d0 : (((l.length : Nat) : Int) == 0) = false := by rw [beq_eq_false_iff_ne]; omega
      simp only [V_seq, V_skip, V_block, V_region, V_cond, brW_false, W_nil, W_cons, effOp2, KN_seq, asB, effOp, effPure, effPick, effCall, giveUp, hasAll, pureV, pickV, binV, lenV, ofC, strip, lkT, lkH, ISt.app, opI, gO, gB, allB, gval, wrapG, dstOK, setD, lendV, lendP, lent, lentP, idsV, idsL, lkHS, flat, clean, callArgs, callFn, allLent, enumT, Op.operands, Call.operands, List.append_toArray, reduceIte, reduceCtorEq, cond_true, cond_false, Bool.or_false, Bool.not_true, Nat.reduceLT, Nat.reduceEqDiff, ne_eq, not_false_eq_true, beq_self_eq_true, true_and, and_true, and_self, implies_true, forall_const, List.map_cons, List.map_nil, List.nil_append, List.cons_append, List.append_nil, Option.bind_some, List.getElem?_cons_zero, List.getElem?_cons_succ, ex_clo, or_true, or_self, Bool.false_eq_true, tab23, hN, Int.toNat_natCast, isPs_enc, toPs_enc, lk_spec_EnclosingSupport_spec_validPoints, lk_spec_EnclosingSupport_spec_subsets, sp_spec_validPoints, sp_spec_subsets, el, hk, d0]
      refine ⟨⟨by omega, by omega⟩, ?_⟩
      have hS := subs_len (n := l.length) (by omega)
      have hm : ∀ w ∈ subs l.length, 1 ≤ w.length ∧ w.length ≤ 3 ∧ Up 0 l.length w := fun w hw => mem_subs.1 hw
      have hsr : srchP (suppB l) l.length = (subs l.length).find? (suppB l) := rfl
      obtain ⟨S, hSe⟩ : ∃ S, subs l.length = S := ⟨_, rfl⟩
      rw [hSe] at hS hm hsr
      simp only [hSe]
      have eS := len_encLL S
      refine V_loop (α := Nat) ⟨tabOK, mixed, gok_spec_EnclosingSupport, hok_spec_EnclosingSupport⟩ (by kernel_rfl) (fun i => i ≤ S.length ∧ (S.take i).find? (suppB l) = none) (fun i => ⟨[(4, .num .i64 i), (3, .sl 1 (encLL S)), (0, .sl 2 (encPs l))], []⟩) (fun i => S.length - i) 0 id ⟨by omega, rfl⟩ (by simp [SLe, SLe0, convTm, convHp, conv, conv0, lkT, lkH, clean]) ?_
      rintro i ⟨hi, hno⟩
      simp only [V_seq, V_region, V_cond, W_nil, W_cons, effOp2, KN_seq, asB, effOp, effPure, pureV, binV, lenV, strip, lkT, ISt.app, opI, gO, gB, allB, gval, wrapG, dstOK, setD, Op.operands, Call.operands, List.append_toArray, reduceIte, reduceCtorEq, Nat.reduceLT, Nat.reduceEqDiff, ne_eq, not_false_eq_true, true_and, and_self, implies_true, List.nil_append, List.cons_append, List.append_nil, tab94, hN, eS]
      refine brW_some (fun h => ?_) (fun h => ?_)
      · have hi' : i < S.length := by simpa using h
        have hw := wr_succ hi' (by rw [maxLen_eq]; omega)
        have g := getD_encLL hi'
        obtain ⟨w, hwe⟩ : ∃ w, S.getD i [] = w := ⟨_, rfl⟩
        have hiw : S[i]? = some w := by rw [← hwe, List.getD, List.getElem?_eq_getElem hi']; rfl
        rw [hwe] at g
        obtain ⟨m1, m2, m3⟩ := hm w (List.mem_of_getElem? hiw)
        have hst := find_step hiw hno
        have en := encN_natI w
        have hW1 : ∀ x ∈ natI w, 0 ≤ x ∧ x < (l.length : Int) := by
          intro x hx
          obtain ⟨y, hy, rfl⟩ := List.mem_map.1 hx
          have := (up_lt m3 y hy).2
          exact ⟨by omega, by omega⟩
        have hW2 : (natI w).length ≤ 3 := by rw [natI, List.length_map]; exact m2
        have hW3 : 1 ≤ (natI w).length := by rw [natI, List.length_map]; exact m1
        have hA := asc_natI m3
        have hsu := suppI_natI l w
        unfold suppI at hsu
        cases hd : detB (selI l (natI w)) with
        | false =>
          rw [hd, Bool.false_and] at hsu
          rw [← hsu, if_neg (by decide)] at hst
          simp only [V_seq, V_skip, V_block, V_region, V_cond, brW_false, W_nil, W_cons, effOp2, KN_seq, KN_block, KN_back, asB, effOp, effPure, effPick, effCall, giveUp, hasAll, pureV, pickV, binV, eltV, loadV, iaddrV, ofC, strip, lkT, lkH, ISt.app, opI, gO, gB, allB, gval, wrapG, dstOK, setD, lendV, lendP, lent, lentP, idsV, idsL, lkHS, flat, clean, callArgs, callFn, allLent, Op.operands, reduceIte, reduceCtorEq, cond_true, cond_false, Bool.or_false, Bool.or_true, Bool.not_true, Bool.not_false, Nat.reduceLT, Nat.reduceEqDiff, ne_eq, not_false_eq_true, true_and, and_true, false_and, and_false, and_self, false_implies, implies_true, forall_const, List.map_cons, List.map_nil, List.nil_append, List.cons_append, List.append_nil, Option.bind_some, List.getElem?_cons_zero, List.getElem?_cons_succ, ex_clo, bft, or_self, Bool.false_eq_true, tab25, tab94, hN, Int.toNat_natCast, isPs_enc, toPs_enc, isIs_enc, toIs_enc, lk_spec_EnclosingSupport_spec_isSupport, lk_spec_EnclosingSupport_spec_encloses, sp_spec_isSupport, sp_spec_encloses, eS, hk, hw, g, en, hW2, hA, hd]
          exact ⟨⟨by omega, by omega⟩, hW1, i + 1, id, ⟨by omega, hst⟩, by simp only []; omega, by simp [SLe, SLe0, convTm, convHp, conv, conv0, lkT, lkH, clean]⟩
        | true =>
          rw [hd, Bool.true_and] at hsu
          simp only [V_seq, V_skip, V_block, V_region, V_cond, W_nil, W_cons, effOp2, KN_seq, asB, effOp, effPure, effPick, effCall, giveUp, hasAll, pureV, pickV, eltV, loadV, iaddrV, ofC, strip, lkT, lkH, ISt.app, opI, gO, gB, allB, gval, wrapG, dstOK, setD, lendV, lendP, lent, lentP, idsV, idsL, lkHS, flat, clean, callArgs, callFn, allLent, Op.operands, reduceIte, reduceCtorEq, cond_true, Bool.or_false, Bool.not_true, Nat.reduceLT, Nat.reduceEqDiff, ne_eq, not_false_eq_true, beq_self_eq_true, true_and, and_true, and_self, implies_true, forall_const, List.map_cons, List.map_nil, List.nil_append, List.cons_append, List.append_nil, Option.bind_some, List.getElem?_cons_zero, List.getElem?_cons_succ, ex_clo, or_self, Bool.true_eq_false, tab25, tab94, hN, Int.toNat_natCast, isPs_enc, toPs_enc, isIs_enc, toIs_enc, lk_spec_EnclosingSupport_spec_isSupport, lk_spec_EnclosingSupport_spec_encloses, sp_spec_isSupport, sp_spec_encloses, eS, hk, g, en, hW2, hW3, hA, hd, hsu]
          refine ⟨⟨by omega, by omega⟩, hW1, ⟨by omega, by omega⟩, hW1, ?_⟩
          refine brW_some (fun h2 => ?_) (fun h2 => ?_)
          · have hv : encN ((esV l).getD []) = encI (natI w) := by
              rw [h2, if_pos rfl] at hst
              rw [hV, hsr, find_pre hst]; rfl
            simp only [V_seq, V_ret, V_region, W_nil, W_cons, effOp2, KN_seq, KXr_nil, KXr_seq, KXr_block, KXr_back, QE, effOp, effPure, pureV, eltV, loadV, iaddrV, strip, lkT, lkH, ISt.app, opI, gO, gB, allB, gval, wrapG, dstOK, setD, Gives, Ideal.Fin, conv, conv0, Op.operands, reduceIte, reduceCtorEq, Nat.reduceLT, Nat.reduceEqDiff, ne_eq, not_false_eq_true, true_and, and_true, and_self, implies_true, forall_const, List.nil_append, List.cons_append, List.append_nil, tab25, tab94, hN, Int.toNat_natCast, eS, g, en, hv]
            exact ⟨by omega, by omega⟩
          · rw [h2, if_neg (by decide)] at hst
            simp only [V_skip, V_region, W_nil, W_cons, effOp2, KN_seq, KN_block, KN_back, effOp, effPure, pureV, binV, ofC, strip, lkT, ISt.app, opI, gO, gB, allB, gval, wrapG, dstOK, setD, Op.operands, reduceIte, reduceCtorEq, Nat.reduceLT, Nat.reduceEqDiff, true_and, and_self, implies_true, List.nil_append, List.cons_append, List.append_nil, hN, hw]
            exact ⟨i + 1, id, ⟨by omega, hst⟩, by simp only []; omega, by simp [SLe, SLe0, convTm, convHp, conv, conv0, lkT, lkH, clean]⟩
      · have hie : i = S.length := by simp at h; omega
        have hv : encN ((esV l).getD []) = [] := by
          rw [hie, List.take_length] at hno
          rw [hV, hsr, hno]; rfl
        simp only [V_seq, V_ret, V_exit, V_region, W_nil, W_cons, effOp2, KN_seq, KXr_nil, KXe_nil, KXe_seq, KXe_block, KXe_back, QE, effOp, effPure, pureV, ofC, strip, lkT, lkH, ISt.app, opI, gO, gB, allB, gval, wrapG, dstOK, setD, Gives, Ideal.Fin, conv, conv0, Op.operands, reduceIte, reduceCtorEq, Nat.reduceLT, Nat.reduceEqDiff, and_self, implies_true, List.nil_append, List.cons_append, List.append_nil, hN, hv]
def sp_spec_EnclosingSupport : PSpec := ⟨fun xs => match xs with | [.sl 2 les] => isPs les | _ => False, fun xs => match xs with | [.sl _ les] => (fun (l : List Pt) => .sl 1 (encN ((esV l).getD []))) (toPs les) | _ => .junk, false⟩
theorem gk_spec_EnclosingSupport : ∀ args, sp_spec_EnclosingSupport.pre args → ICall Try.prog 41 args (sp_spec_EnclosingSupport.val args) := by
  intro args h
  unfold sp_spec_EnclosingSupport at h ⊢; simp only at h ⊢; split at h
  · have h0 := h
    obtain ⟨l0, rfl⟩ := isP_ex h0
    simp only [toPs_enc] at *
    exact c_spec_EnclosingSupport _ 
  · exact h.elim
theorem en_spec_EnclosingSupport : Enters Try.prog 41 := enters_of Try.func41 (by kernel_rfl) rfl

end Go.Proofs.Ytemppebemahkoaa
