/- Contracts: segments and how they meet. -/
import Derived.Test.YtiadicmnbjaknaaBJ
import Derived.Test.YtiadicmnbjaknaaBG
import Derived.Test.YtiadicmnbjaknaaB15
import Derived.Test.YtiadicmnbjaknaaPl11
set_option linter.unusedVariables false
set_option linter.unusedSimpArgs false
set_option maxHeartbeats 1600000
set_option maxRecDepth 100000
namespace Go.Proofs.Ytiadicmnbjaknaa
open Go Go.Ideal Go.Pl Go.Sort

def SmQ (s : Qd) : Prop := Sm s.1 ∧ Sm s.2
theorem dot_way (s : Qd) (p : Pt) : dotP (wayP s.1 p) (wayP s.2 p) = dotW s p := by unfold dotP wayP dotW; rfl

def g_impl_Segment_has : List (Nat × PSpec) := [(48, sp_impl_turn), (60, sp_impl_Point_minus), (62, sp_impl_Point_dot)]
theorem gok_impl_Segment_has : GOK Try.prog g_impl_Segment_has := gok_cons gk_impl_turn en_impl_turn (gok_cons gk_impl_Point_minus en_impl_Point_minus (gok_cons gk_impl_Point_dot en_impl_Point_dot (gok0)))
theorem lk_impl_Segment_has_impl_turn : lkG g_impl_Segment_has 48 = sp_impl_turn := rfl
theorem lk_impl_Segment_has_impl_Point_minus : lkG g_impl_Segment_has 60 = sp_impl_Point_minus := rfl
theorem lk_impl_Segment_has_impl_Point_dot : lkG g_impl_Segment_has 62 = sp_impl_Point_dot := rfl
def h_impl_Segment_has : List (Nat × HSpec) := []
theorem hok_impl_Segment_has : HOK Try.prog h_impl_Segment_has := hok0
theorem c_impl_Segment_has (s : Qd) (p : Pt) (hs : SmQ s) (hp : Sm p) : ICall Try.prog 51 [encQ s, encP p] (.bool (onS s p)) := by
  refine icall_V (G := g_impl_Segment_has) (H := []) [(1, [(0, 5), (2, 5), (5, 8), (5, 9), (5, 10), (0, 11), (1, 11), (2, 11), (3, 11), (4, 11), (5, 11), (6, 11), (8, 11), (5, 12), (11, 12), (5, 13), (11, 13), (5, 14), (11, 14), (0, 15), (1, 15), (2, 15), (3, 15), (4, 15), (5, 15), (6, 15), (8, 15), (9, 15), (10, 15), (12, 15), (0, 16), (1, 16), (2, 16), (3, 16), (4, 16), (5, 16), (6, 16), (8, 16), (9, 16), (10, 16), (12, 16), (13, 16), (14, 16), (5, 17), (11, 17), (15, 17), (5, 18), (11, 18), (15, 18), (16, 18)])] tabOK mixed gok_impl_Segment_has hok_impl_Segment_has Try.func51 rfl Try.ntmps51 Try.results51 rfl (by kernel_rfl) fun F hN hlen => ?_
  have s1 := hs.1
  have s2 := hs.2
  have w1 := s1.way hp
  have w2 := s2.way hp
  have g1 := sm_sub s1.1 hp.1
  have g2 := sm_sub s1.2 hp.2
  have g3 := sm_sub s2.1 hp.1
  have g4 := sm_sub s2.2 hp.2
  have hv := has_onS s p
  by_cases ht : turn s.1 s.2 p = 0
  · have d1 : (turn s.1 s.2 p == 0) = true := by simpa using ht
    rw [d1, Bool.true_and] at hv
    simp only [V_seq, V_ret, V_region, V_draw, drawW, WS_nil, pairsOf, W_nil, W_cons, effOp2, effOp3, WI_nil, WI_cons, KN_seq, KXr_nil, QE, dynOK, indB, farB, freshB, freshK, freshK1, heapy, effOp, effPure, effPick, effNew, effBox, effCall, giveUp, hasAll, skipE, pureV, pickV, binV, partV, loadV, faddrV, solid, IV.cells, ofC, strip, lkT, lkH, ISt.app, opI, gO, gB, allB, gval, wrapG, dstOK, setD, mentTm, mentHp, IV.ment, IV.mentL, oneI, lendV, lendP, lent, lentP, idsV, idsL, lkHS, flat, flatL, clean, cleanL, callArgs, callFn, allLent, enumT, Gives, Ideal.Fin, conv, conv0, IBlk.shape, Op.operands, Call.operands, List.append_toArray, reduceIte, reduceCtorEq, cond_true, cond_false, Bool.or_false, Bool.and_true, Bool.and_eq_true, Bool.not_true, Bool.not_false, Nat.reduceAdd, Nat.reduceLT, Nat.reduceLeDiff, Nat.reduceEqDiff, Nat.reduceBEq, Nat.add_zero, Nat.zero_add, beq_self_eq_true, true_and, and_true, and_false, and_self, implies_true, forall_const, List.map_cons, List.map_nil, List.nil_append, List.cons_append, List.append_nil, List.all_cons, List.all_nil, Option.map_some, Option.bind_some, List.getElem?_cons_zero, List.getElem?_cons_succ, List.getD_cons_zero, List.getD_cons_succ, List.length_cons, List.length_nil, List.take_succ_cons, List.take_zero, List.take_nil, List.drop_succ_cons, List.drop_zero, ex_clo, or_self, Bool.true_eq_false, tab38, tab55, hN, pe, encP, encQ, lk_impl_Segment_has_impl_turn, lk_impl_Segment_has_impl_Point_minus, lk_impl_Segment_has_impl_Point_dot, sp_impl_turn, sp_impl_Point_minus, sp_impl_Point_dot, s1, s2, hp, w1, w2, d1, dot_way, hv]
    exact ⟨⟨⟨by omega, by omega⟩, by omega, by omega⟩, ⟨by omega, by omega⟩, by omega, by omega⟩
  · have d1 : (turn s.1 s.2 p == 0) = false := by simpa using ht
    rw [d1, Bool.false_and] at hv
    simp only [V_seq, V_ret, V_region, V_draw, drawW, WS_nil, pairsOf, W_nil, W_cons, effOp2, effOp3, WI_nil, WI_cons, KN_seq, KXr_nil, QE, dynOK, indB, farB, freshB, freshK, freshK1, heapy, effOp, effPure, effPick, effNew, effBox, effCall, giveUp, hasAll, skipE, pureV, pickV, binV, partV, loadV, faddrV, solid, IV.cells, ofC, strip, lkT, lkH, ISt.app, opI, gO, gB, allB, gval, wrapG, dstOK, setD, mentTm, mentHp, IV.ment, IV.mentL, oneI, lendV, lendP, lent, lentP, idsV, idsL, lkHS, flat, flatL, clean, cleanL, callArgs, callFn, allLent, enumT, Gives, Ideal.Fin, conv, conv0, IBlk.shape, Op.operands, Call.operands, List.append_toArray, reduceIte, reduceCtorEq, cond_true, cond_false, Bool.or_false, Bool.or_true, Bool.and_true, Bool.and_eq_true, Bool.not_true, Bool.not_false, Nat.reduceAdd, Nat.reduceLT, Nat.reduceLeDiff, Nat.reduceEqDiff, Nat.reduceBEq, Nat.add_zero, Nat.zero_add, true_and, and_true, false_and, and_false, and_self, false_implies, implies_true, List.map_cons, List.map_nil, List.nil_append, List.cons_append, List.append_nil, List.all_cons, List.all_nil, Option.map_some, Option.bind_some, List.getElem?_cons_zero, List.getElem?_cons_succ, List.getD_cons_zero, List.getD_cons_succ, List.length_cons, List.length_nil, List.take_succ_cons, List.take_zero, List.take_nil, List.drop_succ_cons, List.drop_zero, ex_clo, bft, or_self, Bool.false_eq_true, tab38, tab55, hN, pe, encP, encQ, lk_impl_Segment_has_impl_turn, lk_impl_Segment_has_impl_Point_minus, lk_impl_Segment_has_impl_Point_dot, sp_impl_turn, sp_impl_Point_minus, sp_impl_Point_dot, s1, s2, hp, w1, w2, d1, dot_way, ← hv]
def sp_impl_Segment_has : PSpec := ⟨fun xs => match xs with | [.agg [.num .i64 s1, .num .i64 s2, .num .i64 s3, .num .i64 s4], .agg [.num .i64 p1, .num .i64 p2]] => ((fun (s : Qd) (p : Pt) => SmQ s) ((s1, s2), (s3, s4)) (p1, p2)) ∧ ((fun (s : Qd) (p : Pt) => Sm p) ((s1, s2), (s3, s4)) (p1, p2)) | _ => False, fun xs => match xs with | [.agg [.num _ s1, .num _ s2, .num _ s3, .num _ s4], .agg [.num _ p1, .num _ p2]] => (fun (s : Qd) (p : Pt) => .bool (onS s p)) ((s1, s2), (s3, s4)) (p1, p2) | _ => .junk, false⟩
theorem gk_impl_Segment_has : ∀ args, sp_impl_Segment_has.pre args → ICall Try.prog 51 args (sp_impl_Segment_has.val args) := by
  intro args h
  unfold sp_impl_Segment_has at h ⊢; simp only at h ⊢; split at h
  · obtain ⟨h0, h1⟩ := h
    try simp only [toPs_enc] at *
    exact c_impl_Segment_has ((_, _), (_, _)) (_, _) h0 h1
  · exact h.elim
theorem en_impl_Segment_has : Enters Try.prog 51 := enters_of Try.func51 (by kernel_rfl) rfl


def g_spec_between : List (Nat × PSpec) := [(36, sp_spec_inRange)]
theorem gok_spec_between : GOK Try.prog g_spec_between := gok_cons gk_spec_inRange en_spec_inRange (gok0)
theorem lk_spec_between_spec_inRange : lkG g_spec_between 36 = sp_spec_inRange := rfl
def h_spec_between : List (Nat × HSpec) := []
theorem hok_spec_between : HOK Try.prog h_spec_between := hok0
theorem c_spec_between (s : Qd) (p : Pt)  : ICall Try.prog 53 [encQ s, encP p] (.bool (btw s p)) := by
  refine icall_V (G := g_spec_between) (H := []) [] tabOK mixed gok_spec_between hok_spec_between Try.func53 rfl Try.ntmps53 Try.results53 rfl (by kernel_rfl) fun F hN hlen => ?_
  have e : btw s p = (inR p.1 (min s.1.1 s.2.1) (max s.1.1 s.2.1) && inR p.2 (min s.1.2 s.2.2) (max s.1.2 s.2.2)) := rfl
  cases h1 : inR p.1 (min s.1.1 s.2.1) (max s.1.1 s.2.1) with
  | true =>
    rw [h1] at e
    simp only [V_seq, V_ret, V_region, W_nil, W_cons, effOp2, KN_seq, KXr_nil, QE, effOp, effPure, effPick, effNew, effBox, effCall, giveUp, hasAll, skipE, pureV, pickV, partV, loadV, faddrV, solid, IV.cells, ofC, strip, lkT, lkH, ISt.app, opI, gO, gB, allB, gval, wrapG, dstOK, setD, mentTm, mentHp, IV.ment, IV.mentL, oneI, lendV, lendP, lent, lentP, idsV, idsL, lkHS, flat, clean, callArgs, callFn, allLent, enumT, Gives, Ideal.Fin, conv, conv0, IBlk.shape, Op.operands, Call.operands, List.append_toArray, reduceIte, reduceCtorEq, cond_true, Bool.or_false, Bool.and_true, Bool.true_and, Bool.not_true, Nat.reduceAdd, Nat.reduceLT, Nat.reduceLeDiff, Nat.reduceEqDiff, Nat.reduceBEq, Nat.add_zero, Nat.zero_add, beq_self_eq_true, and_self, implies_true, List.map_cons, List.map_nil, List.nil_append, List.cons_append, List.append_nil, List.all_cons, List.all_nil, Option.map_some, Option.bind_some, List.getElem?_cons_zero, List.getElem?_cons_succ, List.getD_cons_zero, List.getD_cons_succ, List.length_cons, List.length_nil, List.take_succ_cons, List.take_zero, List.take_nil, List.drop_succ_cons, List.drop_zero, ex_clo, or_self, Bool.true_eq_false, tab3, tab38, tab55, hN, encP, encQ, lk_spec_between_spec_inRange, sp_spec_inRange, h1, e]
  | false =>
    rw [h1] at e
    simp only [V_seq, V_ret, V_region, W_nil, W_cons, effOp2, KN_seq, KXr_nil, QE, effOp, effPure, effPick, effNew, effBox, effCall, giveUp, hasAll, skipE, pureV, pickV, partV, loadV, faddrV, solid, IV.cells, ofC, strip, lkT, lkH, ISt.app, opI, gO, gB, allB, gval, wrapG, dstOK, setD, mentTm, mentHp, IV.ment, IV.mentL, oneI, lendV, lendP, lent, lentP, idsV, idsL, lkHS, flat, clean, callArgs, callFn, allLent, enumT, Gives, Ideal.Fin, conv, conv0, IBlk.shape, Op.operands, Call.operands, List.append_toArray, reduceIte, reduceCtorEq, cond_true, cond_false, Bool.or_false, Bool.or_true, Bool.and_true, Bool.false_and, Bool.not_true, Bool.not_false, Nat.reduceAdd, Nat.reduceLT, Nat.reduceLeDiff, Nat.reduceEqDiff, Nat.reduceBEq, Nat.add_zero, Nat.zero_add, and_true, and_false, and_self, false_implies, implies_true, List.map_cons, List.map_nil, List.nil_append, List.cons_append, List.append_nil, List.all_cons, List.all_nil, Option.map_some, Option.bind_some, List.getElem?_cons_zero, List.getElem?_cons_succ, List.getD_cons_zero, List.getD_cons_succ, List.length_cons, List.length_nil, List.take_succ_cons, List.take_zero, List.take_nil, List.drop_succ_cons, List.drop_zero, ex_clo, bft, or_self, Bool.false_eq_true, tab3, tab38, tab55, hN, encP, encQ, lk_spec_between_spec_inRange, sp_spec_inRange, h1, e]
def sp_spec_between : PSpec := ⟨fun xs => match xs with | [.agg [.num .i64 s1, .num .i64 s2, .num .i64 s3, .num .i64 s4], .agg [.num .i64 p1, .num .i64 p2]] => True | _ => False, fun xs => match xs with | [.agg [.num _ s1, .num _ s2, .num _ s3, .num _ s4], .agg [.num _ p1, .num _ p2]] => (fun (s : Qd) (p : Pt) => .bool (btw s p)) ((s1, s2), (s3, s4)) (p1, p2) | _ => .junk, false⟩
theorem gk_spec_between : ∀ args, sp_spec_between.pre args → ICall Try.prog 53 args (sp_spec_between.val args) := by
  intro args h
  unfold sp_spec_between at h ⊢; simp only at h ⊢; split at h
  · exact c_spec_between ((_, _), (_, _)) (_, _)
  · exact h.elim
theorem en_spec_between : Enters Try.prog 53 := enters_of Try.func53 (by kernel_rfl) rfl

def g_spec_onSegment : List (Nat × PSpec) := [(38, sp_spec_cross), (53, sp_spec_between)]
theorem gok_spec_onSegment : GOK Try.prog g_spec_onSegment := gok_cons gk_spec_cross en_spec_cross (gok_cons gk_spec_between en_spec_between (gok0))
theorem lk_spec_onSegment_spec_cross : lkG g_spec_onSegment 38 = sp_spec_cross := rfl
theorem lk_spec_onSegment_spec_between : lkG g_spec_onSegment 53 = sp_spec_between := rfl
def h_spec_onSegment : List (Nat × HSpec) := []
theorem hok_spec_onSegment : HOK Try.prog h_spec_onSegment := hok0
theorem c_spec_onSegment (s : Qd) (p : Pt) (hs : SmQ s) (hp : Sm p) : ICall Try.prog 40 [encQ s, encP p] (.bool (onS s p)) := by
  refine icall_V (G := g_spec_onSegment) (H := []) [] tabOK mixed gok_spec_onSegment hok_spec_onSegment Try.func40 rfl Try.ntmps40 Try.results40 rfl (by kernel_rfl) fun F hN hlen => ?_
  have s1 := hs.1
  have s2 := hs.2
  have e : onS s p = ((turn s.1 s.2 p == 0) && btw s p) := rfl
  cases d1 : (turn s.1 s.2 p == 0) with
  | true =>
    rw [d1] at e
    simp only [V_seq, V_ret, V_region, W_nil, W_cons, effOp2, KN_seq, KXr_nil, QE, effOp, effPure, effPick, effNew, effBox, effCall, giveUp, hasAll, skipE, pureV, pickV, binV, partV, loadV, faddrV, solid, IV.cells, ofC, strip, lkT, lkH, ISt.app, opI, gO, gB, allB, gval, wrapG, dstOK, setD, mentTm, mentHp, IV.ment, IV.mentL, oneI, lendV, lendP, lent, lentP, idsV, idsL, lkHS, flat, clean, callArgs, callFn, allLent, enumT, Gives, Ideal.Fin, conv, conv0, IBlk.shape, Op.operands, reduceIte, reduceCtorEq, cond_true, Bool.or_false, Bool.and_true, Bool.true_and, Bool.not_true, Nat.reduceAdd, Nat.reduceLT, Nat.reduceLeDiff, Nat.reduceEqDiff, Nat.reduceBEq, Nat.add_zero, Nat.zero_add, beq_self_eq_true, and_false, and_self, implies_true, List.map_cons, List.map_nil, List.nil_append, List.cons_append, List.append_nil, List.all_cons, List.all_nil, Option.map_some, Option.bind_some, List.getElem?_cons_zero, List.getElem?_cons_succ, List.getD_cons_zero, List.getD_cons_succ, List.length_cons, List.length_nil, List.take_succ_cons, List.take_zero, List.take_nil, List.drop_succ_cons, List.drop_zero, ex_clo, or_self, Bool.true_eq_false, tab38, tab55, hN, pe, encP, encQ, lk_spec_onSegment_spec_cross, lk_spec_onSegment_spec_between, sp_spec_cross, sp_spec_between, s1, s2, hp, d1, e]
  | false =>
    rw [d1] at e
    simp only [V_seq, V_ret, V_region, W_nil, W_cons, effOp2, KN_seq, KXr_nil, QE, effOp, effPure, effPick, effNew, effBox, effCall, giveUp, hasAll, skipE, pureV, pickV, binV, partV, loadV, faddrV, solid, IV.cells, ofC, strip, lkT, lkH, ISt.app, opI, gO, gB, allB, gval, wrapG, dstOK, setD, mentTm, mentHp, IV.ment, IV.mentL, oneI, lendV, lendP, lent, lentP, idsV, idsL, lkHS, flat, clean, callArgs, callFn, allLent, enumT, Gives, Ideal.Fin, conv, conv0, IBlk.shape, Op.operands, reduceIte, reduceCtorEq, cond_true, cond_false, Bool.or_false, Bool.or_true, Bool.and_true, Bool.false_and, Bool.not_true, Bool.not_false, Nat.reduceAdd, Nat.reduceLT, Nat.reduceLeDiff, Nat.reduceEqDiff, Nat.reduceBEq, Nat.add_zero, Nat.zero_add, and_true, and_false, and_self, false_implies, implies_true, List.map_cons, List.map_nil, List.nil_append, List.cons_append, List.append_nil, List.all_cons, List.all_nil, Option.map_some, Option.bind_some, List.getElem?_cons_zero, List.getElem?_cons_succ, List.getD_cons_zero, List.getD_cons_succ, List.length_cons, List.length_nil, List.take_succ_cons, List.take_zero, List.take_nil, List.drop_succ_cons, List.drop_zero, ex_clo, bft, or_self, Bool.false_eq_true, tab38, tab55, hN, pe, encP, encQ, lk_spec_onSegment_spec_cross, lk_spec_onSegment_spec_between, sp_spec_cross, sp_spec_between, s1, s2, hp, d1, e]
def sp_spec_onSegment : PSpec := ⟨fun xs => match xs with | [.agg [.num .i64 s1, .num .i64 s2, .num .i64 s3, .num .i64 s4], .agg [.num .i64 p1, .num .i64 p2]] => ((fun (s : Qd) (p : Pt) => SmQ s) ((s1, s2), (s3, s4)) (p1, p2)) ∧ ((fun (s : Qd) (p : Pt) => Sm p) ((s1, s2), (s3, s4)) (p1, p2)) | _ => False, fun xs => match xs with | [.agg [.num _ s1, .num _ s2, .num _ s3, .num _ s4], .agg [.num _ p1, .num _ p2]] => (fun (s : Qd) (p : Pt) => .bool (onS s p)) ((s1, s2), (s3, s4)) (p1, p2) | _ => .junk, false⟩
theorem gk_spec_onSegment : ∀ args, sp_spec_onSegment.pre args → ICall Try.prog 40 args (sp_spec_onSegment.val args) := by
  intro args h
  unfold sp_spec_onSegment at h ⊢; simp only at h ⊢; split at h
  · obtain ⟨h0, h1⟩ := h
    try simp only [toPs_enc] at *
    exact c_spec_onSegment ((_, _), (_, _)) (_, _) h0 h1
  · exact h.elim
theorem en_spec_onSegment : Enters Try.prog 40 := enters_of Try.func40 (by kernel_rfl) rfl


/-- What common has gathered after so many ends of its first part, and of its second. -/
def com1 (s t : Qd) (i : Nat) : List Pt := ([s.1, s.2].take i).filter fun p => onS t p
def com2 (s t : Qd) (i : Nat) : List Pt := com1 s t 2 ++ ([t.1, t.2].take i).filter fun p => onS s p && !(p == s.1 || p == s.2)
theorem com1_len (s t : Qd) (i : Nat) : (com1 s t i).length ≤ i := by
  have := List.length_filter_le (fun p => onS t p) ([s.1, s.2].take i)
  rw [List.length_take] at this
  unfold com1; omega
theorem com2_len (s t : Qd) (i : Nat) : (com2 s t i).length ≤ 2 + i := by
  have := List.length_filter_le (fun p => onS s p && !(p == s.1 || p == s.2)) ([t.1, t.2].take i)
  rw [List.length_take] at this
  have := com1_len s t 2
  unfold com2; rw [List.length_append]; omega
theorem com1_step {s t : Qd} {i : Nat} (h : i < 2) : com1 s t (i + 1) = com1 s t i ++ if onS t (pAt [s.1, s.2] i) then [pAt [s.1, s.2] i] else [] := by
  have : [s.1, s.2].take (i + 1) = [s.1, s.2].take i ++ [pAt [s.1, s.2] i] := take_succ_getD (by simpa using h)
  unfold com1
  rw [this, List.filter_append]
  congr 1
  simp only [List.filter_cons, List.filter_nil]
theorem com2_step {s t : Qd} {i : Nat} (h : i < 2) : com2 s t (i + 1) = com2 s t i ++ if (onS s (pAt [t.1, t.2] i) && !(pAt [t.1, t.2] i == s.1 || pAt [t.1, t.2] i == s.2)) then [pAt [t.1, t.2] i] else [] := by
  have : [t.1, t.2].take (i + 1) = [t.1, t.2].take i ++ [pAt [t.1, t.2] i] := take_succ_getD (by simpa using h)
  unfold com2
  rw [this, List.filter_append, List.append_assoc]
  congr 2
  simp only [List.filter_cons, List.filter_nil]
theorem app_if {l : List Pt} {b : Bool} {p : Pt} (n : Nat) (hn : (encPs l).length = n) (hb : b = true) : encPs (l ++ if b then [p] else []) = (encPs l).take n ++ [IV.agg [.num .i64 p.1, .num .i64 p.2]] := by
  rw [if_pos hb, ← encPs_app, List.take_of_length_le (Nat.le_of_eq hn)]; rfl

theorem at_two {P : Pt → Prop} {a b : Pt} (ha : P a) (hb : P b) {i : Nat} (h : i < 2) : P (pAt [a, b] i) := by
  rcases i with _ | _ | i
  · exact ha
  · exact hb
  · omega
theorem com1_all (s t : Qd) : com2 s t 0 = com1 s t 2 := by unfold com2; simp
theorem com2_all (s t : Qd) : com2 s t 2 = comP s t := rfl
theorem end_at {a b : Pt} {i : Nat} (h : i < 2) : (pAt [a, b] i == a || pAt [a, b] i == b) = true := by
  rcases i with _ | _ | i
  · simp
  · simp
  · omega

theorem sg_mul (a b : Int) : IntKind.i64.wrap (sgnI a * sgnI b) = sgnI a * sgnI b := by
  have h1 := sgn_bd a
  have h2 := sgn_bd b
  have h3 := mulb (A := 1) (B := 1) h1 h2
  exact wr (by omega) (by omega)
theorem rel_cases (s t : Qd) : relP s t = if 1 < (endsP s t).length then 3 else if (endsP s t).length = 1 then 1 else if crossesP s t then 2 else 0 := rfl

/-- The common ends among the first ones looked at. -/
def both (s t : Qd) (p : Pt) : Bool := onS s p && onS t p
def endsN (s t : Qd) (i : Nat) : List Pt := insP (([s.1, s.2, t.1, t.2].take i).filter (both s t))
theorem endsN_all (s t : Qd) : endsN s t 4 = endsP s t := rfl
theorem endsN_step {s t : Qd} {i : Nat} (h : i < 4) : endsN s t (i + 1) = if both s t (pAt [s.1, s.2, t.1, t.2] i) then addP (endsN s t i) (pAt [s.1, s.2, t.1, t.2] i) else endsN s t i := by
  have : [s.1, s.2, t.1, t.2].take (i + 1) = [s.1, s.2, t.1, t.2].take i ++ [pAt [s.1, s.2, t.1, t.2] i] := take_succ_g (d := (0, 0)) (by simpa using h)
  unfold endsN
  rw [this, List.filter_append]
  simp only [List.filter_cons, List.filter_nil]
  split
  · rw [insP, insP, List.foldl_append]; rfl
  · rw [List.append_nil]
theorem endsN_len (s t : Qd) (i : Nat) : (endsN s t i).length ≤ 4 := by
  have h1 := insP_len (([s.1, s.2, t.1, t.2].take i).filter (both s t))
  have h2 := List.length_filter_le (both s t) ([s.1, s.2, t.1, t.2].take i)
  rw [List.length_take] at h2
  unfold endsN
  simp only [List.length_cons, List.length_nil] at h2
  omega
theorem at_four {P : Pt → Prop} {a b c d : Pt} (ha : P a) (hb : P b) (hc : P c) (hd : P d) {i : Nat} (h : i < 4) : P (pAt [a, b, c, d] i) := by
  rcases i with _ | _ | _ | _ | i
  · exact ha
  · exact hb
  · exact hc
  · exact hd
  · omega

end Go.Proofs.Ytiadicmnbjaknaa
