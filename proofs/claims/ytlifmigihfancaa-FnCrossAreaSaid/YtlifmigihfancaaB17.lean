/- Contracts: segments and how they meet. -/
import Derived.Test.YtlifmigihfancaaB13
import Derived.Test.YtlifmigihfancaaBG
import Derived.Test.YtlifmigihfancaaB15
import Derived.Test.YtlifmigihfancaaPl7
set_option linter.unusedVariables false
set_option linter.unusedSimpArgs false
set_option maxHeartbeats 1600000
set_option maxRecDepth 100000
namespace Go.Proofs.Ytlifmigihfancaa
open Go Go.Ideal Go.Pl Go.Sort

def SmQ (s : Qd) : Prop := Sm s.1 ∧ Sm s.2
theorem dot_way (s : Qd) (p : Pt) : dotP (wayP s.1 p) (wayP s.2 p) = dotW s p := by unfold dotP wayP dotW; rfl

def g_impl_Segment_has : List (Nat × PSpec) := [(89, sp_impl_turn), (84, sp_impl_Point_minus), (109, sp_impl_Point_dot)]
theorem gok_impl_Segment_has : GOK Try.prog g_impl_Segment_has := gok_cons gk_impl_turn en_impl_turn (gok_cons gk_impl_Point_minus en_impl_Point_minus (gok_cons gk_impl_Point_dot en_impl_Point_dot (gok0)))
theorem lk_impl_Segment_has_impl_turn : lkG g_impl_Segment_has 89 = sp_impl_turn := rfl
theorem lk_impl_Segment_has_impl_Point_minus : lkG g_impl_Segment_has 84 = sp_impl_Point_minus := rfl
theorem lk_impl_Segment_has_impl_Point_dot : lkG g_impl_Segment_has 109 = sp_impl_Point_dot := rfl
def h_impl_Segment_has : List (Nat × HSpec) := []
theorem hok_impl_Segment_has : HOK Try.prog h_impl_Segment_has := hok0
theorem c_impl_Segment_has (s : Qd) (p : Pt) (hs : SmQ s) (hp : Sm p) : ICall Try.prog 250 [encQ s, encP p] (.bool (onS s p)) := by
  refine icall_V (G := g_impl_Segment_has) (H := []) [(1, [(0, 5), (2, 5), (5, 8), (5, 9), (5, 10), (0, 11), (1, 11), (2, 11), (3, 11), (4, 11), (5, 11), (6, 11), (8, 11), (5, 12), (11, 12), (5, 13), (11, 13), (5, 14), (11, 14), (0, 15), (1, 15), (2, 15), (3, 15), (4, 15), (5, 15), (6, 15), (8, 15), (9, 15), (10, 15), (12, 15), (0, 16), (1, 16), (2, 16), (3, 16), (4, 16), (5, 16), (6, 16), (8, 16), (9, 16), (10, 16), (12, 16), (13, 16), (14, 16), (5, 17), (11, 17), (15, 17), (5, 18), (11, 18), (15, 18), (16, 18)])] tabOK mixed gok_impl_Segment_has hok_impl_Segment_has Try.func250 rfl Try.ntmps250 Try.results250 rfl (by kernel_rfl) fun F hN hlen => ?_
  have s1 := hs.1
  have s2 := hs.2
  have w1 := s1.way hp
  have w2 := s2.way hp
  have g1 := sm_sub s1.1 hp.1
  have g2 := sm_sub s1.2 hp.2
  have g3 := sm_sub s2.1 hp.1
  have g4 := sm_sub s2.2 hp.2
  have hv := has_onS s p
  by_cases ht : turn s.1 s.2 p = 0
  · have d1 : (turn s.1 s.2 p == 0) = true := by simpa using ht
    rw [d1, Bool.true_and] at hv
    simp only [V_seq, V_ret, V_region, V_draw, drawW, WS_nil, pairsOf, W_nil, W_cons, effOp2, effOp3, WI_nil, WI_cons, KN_seq, KXr_nil, QE, dynOK, indB, farB, freshB, heapy, effOp, effPure, effPick, effNew, effBox, effCall, giveUp, hasAll, skipE, pureV, pickV, binV, partV, loadV, faddrV, solid, IV.cells, ofC, strip, lkT, lkH, ISt.app, opI, gO, gB, allB, gval, wrapG, dstOK, setD, mentTm, mentHp, IV.ment, IV.mentL, oneI, lendV, lendP, lent, lentP, idsV, idsL, lkHS, flat, flatL, clean, cleanL, callArgs, callFn, allLent, enumT, Gives, Ideal.Fin, conv, conv0, IBlk.shape, Op.operands, Call.operands, List.append_toArray, reduceIte, reduceCtorEq, cond_true, cond_false, Bool.or_false, Bool.and_true, Bool.and_eq_true, Bool.not_true, Bool.not_false, Nat.reduceAdd, Nat.reduceLT, Nat.reduceLeDiff, Nat.reduceEqDiff, Nat.reduceBEq, Nat.add_zero, Nat.zero_add, beq_self_eq_true, true_and, and_true, and_false, and_self, implies_true, forall_const, List.map_cons, List.map_nil, List.nil_append, List.cons_append, List.append_nil, List.all_cons, List.all_nil, Option.map_some, Option.bind_some, List.getElem?_cons_zero, List.getElem?_cons_succ, List.getD_cons_zero, List.getD_cons_succ, List.length_cons, List.length_nil, List.take_succ_cons, List.take_zero, List.take_nil, List.drop_succ_cons, List.drop_zero, ex_clo, or_self, Bool.true_eq_false, tab30, tab119, hN, pe, encP, encQ, lk_impl_Segment_has_impl_turn, lk_impl_Segment_has_impl_Point_minus, lk_impl_Segment_has_impl_Point_dot, sp_impl_turn, sp_impl_Point_minus, sp_impl_Point_dot, s1, s2, hp, w1, w2, d1, dot_way, hv]
    exact ⟨⟨⟨by omega, by omega⟩, by omega, by omega⟩, ⟨by omega, by omega⟩, by omega, by omega⟩
  · have d1 : (turn s.1 s.2 p == 0) = false := by simpa using ht
    rw [d1, Bool.false_and] at hv
    simp only [V_seq, V_ret, V_region, V_draw, drawW, WS_nil, pairsOf, W_nil, W_cons, effOp2, effOp3, WI_nil, WI_cons, KN_seq, KXr_nil, QE, dynOK, indB, farB, freshB, heapy, effOp, effPure, effPick, effNew, effBox, effCall, giveUp, hasAll, skipE, pureV, pickV, binV, partV, loadV, faddrV, solid, IV.cells, ofC, strip, lkT, lkH, ISt.app, opI, gO, gB, allB, gval, wrapG, dstOK, setD, mentTm, mentHp, IV.ment, IV.mentL, oneI, lendV, lendP, lent, lentP, idsV, idsL, lkHS, flat, flatL, clean, cleanL, callArgs, callFn, allLent, enumT, Gives, Ideal.Fin, conv, conv0, IBlk.shape, Op.operands, Call.operands, List.append_toArray, reduceIte, reduceCtorEq, cond_true, cond_false, Bool.or_false, Bool.or_true, Bool.and_true, Bool.and_eq_true, Bool.not_true, Bool.not_false, Nat.reduceAdd, Nat.reduceLT, Nat.reduceLeDiff, Nat.reduceEqDiff, Nat.reduceBEq, Nat.add_zero, Nat.zero_add, true_and, and_true, false_and, and_false, and_self, false_implies, implies_true, List.map_cons, List.map_nil, List.nil_append, List.cons_append, List.append_nil, List.all_cons, List.all_nil, Option.map_some, Option.bind_some, List.getElem?_cons_zero, List.getElem?_cons_succ, List.getD_cons_zero, List.getD_cons_succ, List.length_cons, List.length_nil, List.take_succ_cons, List.take_zero, List.take_nil, List.drop_succ_cons, List.drop_zero, ex_clo, bft, or_self, Bool.false_eq_true, tab30, tab119, hN, pe, encP, encQ, lk_impl_Segment_has_impl_turn, lk_impl_Segment_has_impl_Point_minus, lk_impl_Segment_has_impl_Point_dot, sp_impl_turn, sp_impl_Point_minus, sp_impl_Point_dot, s1, s2, hp, w1, w2, d1, dot_way, ← hv]
def sp_impl_Segment_has : PSpec := ⟨fun xs => match xs with | [.agg [.num .i64 s1, .num .i64 s2, .num .i64 s3, .num .i64 s4], .agg [.num .i64 p1, .num .i64 p2]] => ((fun (s : Qd) (p : Pt) => SmQ s) ((s1, s2), (s3, s4)) (p1, p2)) ∧ ((fun (s : Qd) (p : Pt) => Sm p) ((s1, s2), (s3, s4)) (p1, p2)) | _ => False, fun xs => match xs with | [.agg [.num _ s1, .num _ s2, .num _ s3, .num _ s4], .agg [.num _ p1, .num _ p2]] => (fun (s : Qd) (p : Pt) => .bool (onS s p)) ((s1, s2), (s3, s4)) (p1, p2) | _ => .junk, false⟩
theorem gk_impl_Segment_has : ∀ args, sp_impl_Segment_has.pre args → ICall Try.prog 250 args (sp_impl_Segment_has.val args) := by
  intro args h
  unfold sp_impl_Segment_has at h ⊢; simp only at h ⊢; split at h
  · obtain ⟨h0, h1⟩ := h
    simp only [toPs_enc] at *
    exact c_impl_Segment_has ((_, _), (_, _)) (_, _) h0 h1
  · exact h.elim
theorem en_impl_Segment_has : Enters Try.prog 250 := enters_of Try.func250 (by kernel_rfl) rfl

def g_impl_Segment_isEnd : List (Nat × PSpec) := []
theorem gok_impl_Segment_isEnd : GOK Try.prog g_impl_Segment_isEnd := gok0
def h_impl_Segment_isEnd : List (Nat × HSpec) := []
theorem hok_impl_Segment_isEnd : HOK Try.prog h_impl_Segment_isEnd := hok0
theorem c_impl_Segment_isEnd (s : Qd) (p : Pt)  : ICall Try.prog 275 [encQ s, encP p] (.bool (p == s.1 || p == s.2)) := by
  refine icall_V (G := g_impl_Segment_isEnd) (H := []) [] tabOK mixed gok_impl_Segment_isEnd hok_impl_Segment_isEnd Try.func275 rfl Try.ntmps275 Try.results275 rfl (by kernel_rfl) fun F hN hlen => ?_
  cases h1 : (p == s.1) with
  | true =>
    have e : (p.1 == s.1.1 && p.2 == s.1.2) = true := by rw [← h1]; rfl
    simp only [V_seq, V_ret, V_region, W_nil, W_cons, effOp2, KN_seq, KXr_nil, QE, effOp, effPure, effPick, effNew, effBox, skipE, pureV, pickV, binV, partV, loadV, faddrV, solid, IV.cells, ofC, strip, lkT, lkH, ISt.app, opI, gO, gB, allB, gval, wrapG, dstOK, setD, mentTm, mentHp, IV.ment, IV.mentL, oneI, clean, enumT, Gives, Ideal.Fin, conv, conv0, IBlk.shape, eqL, numsOnly, Op.operands, reduceIte, reduceCtorEq, cond_true, Bool.or_false, Bool.true_or, Bool.and_true, Nat.reduceAdd, Nat.reduceLT, Nat.reduceLeDiff, Nat.reduceEqDiff, Nat.reduceBEq, Nat.add_zero, Nat.zero_add, and_true, and_false, and_self, false_implies, implies_true, List.nil_append, List.cons_append, List.append_nil, List.all_cons, List.all_nil, Option.map_some, Option.bind_some, List.getElem?_cons_zero, List.getElem?_cons_succ, List.getD_cons_zero, List.getD_cons_succ, List.length_cons, List.length_nil, List.take_succ_cons, List.take_zero, List.take_nil, List.drop_succ_cons, List.drop_zero, btf, Bool.true_eq_false, Bool.false_eq_true, tab30, tab119, hN, encP, encQ, e]
  | false =>
    have e : (p.1 == s.1.1 && p.2 == s.1.2) = false := by rw [← h1]; rfl
    have e2 : (p.1 == s.2.1 && p.2 == s.2.2) = (p == s.2) := rfl
    simp only [V_seq, V_ret, V_region, W_nil, W_cons, effOp2, KN_seq, KXr_nil, QE, effOp, effPure, effPick, effNew, effBox, skipE, pureV, pickV, binV, partV, loadV, faddrV, solid, IV.cells, ofC, strip, lkT, lkH, ISt.app, opI, gO, gB, allB, gval, wrapG, dstOK, setD, mentTm, mentHp, IV.ment, IV.mentL, oneI, clean, enumT, Gives, Ideal.Fin, conv, conv0, IBlk.shape, eqL, numsOnly, Op.operands, reduceIte, reduceCtorEq, cond_true, cond_false, Bool.or_false, Bool.false_or, Bool.and_true, Nat.reduceAdd, Nat.reduceLT, Nat.reduceLeDiff, Nat.reduceEqDiff, Nat.reduceBEq, Nat.add_zero, Nat.zero_add, beq_self_eq_true, and_false, and_self, implies_true, List.nil_append, List.cons_append, List.append_nil, List.all_cons, List.all_nil, Option.map_some, Option.bind_some, List.getElem?_cons_zero, List.getElem?_cons_succ, List.getD_cons_zero, List.getD_cons_succ, List.length_cons, List.length_nil, List.take_succ_cons, List.take_zero, List.take_nil, List.drop_succ_cons, List.drop_zero, Bool.false_eq_true, tab30, tab119, hN, encP, encQ, e, e2]
def sp_impl_Segment_isEnd : PSpec := ⟨fun xs => match xs with | [.agg [.num .i64 s1, .num .i64 s2, .num .i64 s3, .num .i64 s4], .agg [.num .i64 p1, .num .i64 p2]] => True | _ => False, fun xs => match xs with | [.agg [.num _ s1, .num _ s2, .num _ s3, .num _ s4], .agg [.num _ p1, .num _ p2]] => (fun (s : Qd) (p : Pt) => .bool (p == s.1 || p == s.2)) ((s1, s2), (s3, s4)) (p1, p2) | _ => .junk, false⟩
theorem gk_impl_Segment_isEnd : ∀ args, sp_impl_Segment_isEnd.pre args → ICall Try.prog 275 args (sp_impl_Segment_isEnd.val args) := by
  intro args h
  unfold sp_impl_Segment_isEnd at h ⊢; simp only at h ⊢; split at h
  · exact c_impl_Segment_isEnd ((_, _), (_, _)) (_, _)
  · exact h.elim
theorem en_impl_Segment_isEnd : Enters Try.prog 275 := enters_of Try.func275 (by kernel_rfl) rfl

def g_impl_Segment_atEnds : List (Nat × PSpec) := [(275, sp_impl_Segment_isEnd)]
theorem gok_impl_Segment_atEnds : GOK Try.prog g_impl_Segment_atEnds := gok_cons gk_impl_Segment_isEnd en_impl_Segment_isEnd (gok0)
theorem lk_impl_Segment_atEnds_impl_Segment_isEnd : lkG g_impl_Segment_atEnds 275 = sp_impl_Segment_isEnd := rfl
def h_impl_Segment_atEnds : List (Nat × HSpec) := []
theorem hok_impl_Segment_atEnds : HOK Try.prog h_impl_Segment_atEnds := hok0
theorem c_impl_Segment_atEnds (s : Qd) (t : Qd) (p : Pt)  : ICall Try.prog 251 [encQ s, encQ t, encP p] (.bool ((p == s.1 || p == s.2) && (p == t.1 || p == t.2))) := by
  refine icall_V (G := g_impl_Segment_atEnds) (H := []) [] tabOK mixed gok_impl_Segment_atEnds hok_impl_Segment_atEnds Try.func251 rfl Try.ntmps251 Try.results251 rfl (by kernel_rfl) fun F hN hlen => ?_
  cases h1 : (p == s.1 || p == s.2) with
  | true =>
    simp only [V_seq, V_ret, V_region, W_nil, W_cons, effOp2, KN_seq, KXr_nil, QE, effOp, effPure, effPick, effNew, effBox, effCall, giveUp, hasAll, skipE, pureV, pickV, partV, loadV, solid, IV.cells, ofC, strip, lkT, lkH, ISt.app, opI, gO, gB, allB, gval, wrapG, dstOK, setD, mentTm, mentHp, IV.ment, IV.mentL, oneI, lendV, lendP, lent, lentP, idsV, idsL, lkHS, flat, clean, callArgs, callFn, allLent, enumT, Gives, Ideal.Fin, conv, conv0, Op.operands, reduceIte, reduceCtorEq, cond_true, Bool.or_false, Bool.and_true, Bool.true_and, Bool.not_true, Nat.reduceAdd, Nat.reduceLT, Nat.reduceLeDiff, Nat.reduceEqDiff, Nat.reduceBEq, Nat.zero_add, beq_self_eq_true, and_false, and_self, implies_true, List.map_cons, List.map_nil, List.nil_append, List.cons_append, List.append_nil, List.all_cons, List.all_nil, Option.bind_some, List.getElem?_cons_zero, List.getElem?_cons_succ, List.getD_cons_zero, List.length_cons, List.length_nil, List.take_succ_cons, List.take_nil, List.drop_zero, ex_clo, or_self, Bool.true_eq_false, tab30, tab119, hN, pe, encP, encQ, lk_impl_Segment_atEnds_impl_Segment_isEnd, sp_impl_Segment_isEnd, h1]
  | false =>
    simp only [V_seq, V_ret, V_region, W_nil, W_cons, effOp2, KN_seq, KXr_nil, QE, effOp, effPure, effPick, effNew, effBox, effCall, giveUp, hasAll, skipE, pureV, pickV, partV, loadV, solid, IV.cells, ofC, strip, lkT, lkH, ISt.app, opI, gO, gB, allB, gval, wrapG, dstOK, setD, mentTm, mentHp, IV.ment, IV.mentL, oneI, lendV, lendP, lent, lentP, idsV, idsL, lkHS, flat, clean, callArgs, callFn, allLent, enumT, Gives, Ideal.Fin, conv, conv0, Op.operands, reduceIte, reduceCtorEq, cond_true, cond_false, Bool.or_false, Bool.or_true, Bool.and_true, Bool.false_and, Bool.not_true, Bool.not_false, Nat.reduceAdd, Nat.reduceLT, Nat.reduceLeDiff, Nat.reduceEqDiff, Nat.reduceBEq, Nat.zero_add, and_true, and_false, and_self, false_implies, implies_true, List.map_cons, List.map_nil, List.nil_append, List.cons_append, List.append_nil, List.all_cons, List.all_nil, Option.bind_some, List.getElem?_cons_zero, List.getElem?_cons_succ, List.getD_cons_zero, List.length_cons, List.length_nil, List.take_succ_cons, List.take_nil, List.drop_zero, ex_clo, bft, or_self, Bool.false_eq_true, tab30, tab119, hN, pe, encP, encQ, lk_impl_Segment_atEnds_impl_Segment_isEnd, sp_impl_Segment_isEnd, h1]
def sp_impl_Segment_atEnds : PSpec := ⟨fun xs => match xs with | [.agg [.num .i64 s1, .num .i64 s2, .num .i64 s3, .num .i64 s4], .agg [.num .i64 t1, .num .i64 t2, .num .i64 t3, .num .i64 t4], .agg [.num .i64 p1, .num .i64 p2]] => True | _ => False, fun xs => match xs with | [.agg [.num _ s1, .num _ s2, .num _ s3, .num _ s4], .agg [.num _ t1, .num _ t2, .num _ t3, .num _ t4], .agg [.num _ p1, .num _ p2]] => (fun (s : Qd) (t : Qd) (p : Pt) => .bool ((p == s.1 || p == s.2) && (p == t.1 || p == t.2))) ((s1, s2), (s3, s4)) ((t1, t2), (t3, t4)) (p1, p2) | _ => .junk, false⟩
theorem gk_impl_Segment_atEnds : ∀ args, sp_impl_Segment_atEnds.pre args → ICall Try.prog 251 args (sp_impl_Segment_atEnds.val args) := by
  intro args h
  unfold sp_impl_Segment_atEnds at h ⊢; simp only at h ⊢; split at h
  · exact c_impl_Segment_atEnds ((_, _), (_, _)) ((_, _), (_, _)) (_, _)
  · exact h.elim
theorem en_impl_Segment_atEnds : Enters Try.prog 251 := enters_of Try.func251 (by kernel_rfl) rfl



/-- What common has gathered after so many ends of its first part, and of its second. -/
def com1 (s t : Qd) (i : Nat) : List Pt := ([s.1, s.2].take i).filter fun p => onS t p
def com2 (s t : Qd) (i : Nat) : List Pt := com1 s t 2 ++ ([t.1, t.2].take i).filter fun p => onS s p && !(p == s.1 || p == s.2)
theorem com1_len (s t : Qd) (i : Nat) : (com1 s t i).length ≤ i := by
  have := List.length_filter_le (fun p => onS t p) ([s.1, s.2].take i)
  rw [List.length_take] at this
  unfold com1; omega
theorem com2_len (s t : Qd) (i : Nat) : (com2 s t i).length ≤ 2 + i := by
  have := List.length_filter_le (fun p => onS s p && !(p == s.1 || p == s.2)) ([t.1, t.2].take i)
  rw [List.length_take] at this
  have := com1_len s t 2
  unfold com2; rw [List.length_append]; omega
theorem com1_step {s t : Qd} {i : Nat} (h : i < 2) : com1 s t (i + 1) = com1 s t i ++ if onS t (pAt [s.1, s.2] i) then [pAt [s.1, s.2] i] else [] := by
  have : [s.1, s.2].take (i + 1) = [s.1, s.2].take i ++ [pAt [s.1, s.2] i] := take_succ_getD (by simpa using h)
  unfold com1
  rw [this, List.filter_append]
  congr 1
  simp only [List.filter_cons, List.filter_nil]
theorem com2_step {s t : Qd} {i : Nat} (h : i < 2) : com2 s t (i + 1) = com2 s t i ++ if (onS s (pAt [t.1, t.2] i) && !(pAt [t.1, t.2] i == s.1 || pAt [t.1, t.2] i == s.2)) then [pAt [t.1, t.2] i] else [] := by
  have : [t.1, t.2].take (i + 1) = [t.1, t.2].take i ++ [pAt [t.1, t.2] i] := take_succ_getD (by simpa using h)
  unfold com2
  rw [this, List.filter_append, List.append_assoc]
  congr 2
  simp only [List.filter_cons, List.filter_nil]
theorem app_if {l : List Pt} {b : Bool} {p : Pt} (n : Nat) (hn : (encPs l).length = n) (hb : b = true) : encPs (l ++ if b then [p] else []) = (encPs l).take n ++ [IV.agg [.num .i64 p.1, .num .i64 p.2]] := by
  rw [if_pos hb, ← encPs_app, List.take_of_length_le (Nat.le_of_eq hn)]; rfl

theorem at_two {P : Pt → Prop} {a b : Pt} (ha : P a) (hb : P b) {i : Nat} (h : i < 2) : P (pAt [a, b] i) := by
  rcases i with _ | _ | i
  · exact ha
  · exact hb
  · omega
theorem com1_all (s t : Qd) : com2 s t 0 = com1 s t 2 := by unfold com2; simp
theorem com2_all (s t : Qd) : com2 s t 2 = comP s t := rfl
theorem end_at {a b : Pt} {i : Nat} (h : i < 2) : (pAt [a, b] i == a || pAt [a, b] i == b) = true := by
  rcases i with _ | _ | i
  · simp
  · simp
  · omega
def g_impl_common : List (Nat × PSpec) := [(250, sp_impl_Segment_has), (251, sp_impl_Segment_atEnds)]
theorem gok_impl_common : GOK Try.prog g_impl_common := gok_cons gk_impl_Segment_has en_impl_Segment_has (gok_cons gk_impl_Segment_atEnds en_impl_Segment_atEnds (gok0))
theorem lk_impl_common_impl_Segment_has : lkG g_impl_common 250 = sp_impl_Segment_has := rfl
theorem lk_impl_common_impl_Segment_atEnds : lkG g_impl_common 251 = sp_impl_Segment_atEnds := rfl
def h_impl_common : List (Nat × HSpec) := []
theorem hok_impl_common : HOK Try.prog h_impl_common := hok0
theorem c_impl_common (s : Qd) (t : Qd) (hs : SmQ s) (ht : SmQ t) : ICall Try.prog 220 [encQ s, encQ t] (.sl 2 (encPs (comP s t))) := by
  refine icall_V (G := g_impl_common) (H := []) [] tabOK mixed gok_impl_common hok_impl_common Try.func220 rfl Try.ntmps220 Try.results220 rfl (by kernel_rfl) fun F hN hlen => ?_
  have el := len_encPs [s.1, s.2]
  have el2 := len_encPs [t.1, t.2]
  simp only [V_seq, V_block, V_region, W_nil, W_cons, effOp2, KN_seq, effOp, effPure, effNew, effBox, effBuildSlice, effFrz, frz, tmpsOf, skipE, pureV, partV, loadV, faddrV, lenV, solid, IV.cells, ofC, strip, lkT, lkH, ISt.app, opI, gO, gB, allB, gval, wrapG, dstOK, setD, mentTm, mentHp, IV.ment, IV.mentL, partsL, eltsI, eltI, oneI, noId', enumT, IBlk.shape, Op.operands, Call.operands, List.append_toArray, reduceIte, reduceCtorEq, cond_true, Bool.or_false, Bool.and_true, Nat.reduceAdd, Nat.reduceMul, Nat.reduceLT, Nat.reduceLeDiff, Nat.reduceEqDiff, Nat.reduceBEq, Nat.add_zero, Nat.zero_add, ne_eq, not_false_eq_true, true_and, and_false, and_self, implies_true, List.nil_append, List.cons_append, List.append_nil, List.all_cons, List.all_nil, Option.map_some, List.getD_cons_zero, List.getD_cons_succ, List.length_cons, List.length_nil, List.take_succ_cons, List.take_zero, List.take_nil, List.drop_succ_cons, List.drop_zero, tab23, tab30, tab119, hN, encQ]
  refine V_loop (α := Nat) ⟨tabOK, mixed, gok_impl_common, hok_impl_common⟩ (by kernel_rfl) (fun i => i ≤ 2) (fun i => ⟨[(17, .num .i64 i), (16, .num .i64 2), (15, .sl 2 (encPs [s.1, s.2])), (5, .ref 10 0 (com1 s t i).length true), (3, .ptr 3 0), (2, .ptr 2 0)], [(10, some (.arr 2 30 (encPs (com1 s t i)))), (3, some (.box 119 [.num .i64 t.1.1, .num .i64 t.1.2, .num .i64 t.2.1, .num .i64 t.2.2])), (2, some (.box 119 [.num .i64 s.1.1, .num .i64 s.1.2, .num .i64 s.2.1, .num .i64 s.2.2]))]⟩) (fun i => 2 - i) 0 id (Nat.zero_le _)
    (by simp [SLe, SLe0, convTm, convHp, convB, conv, conv0, convL, lkT, lkH, clean, com1, encPs, encP]; exact ⟨_, _, ⟨rfl, rfl⟩, by simp, by simp, fun id' h e => by subst e; simp at h⟩) ?_
  intro i hi
  have ec := len_encPs (com1 s t i)
  have hx : ∃ k ty es, IBlk.arr 2 30 (encPs (com1 s t i)) = IBlk.arr k ty es := ⟨_, _, _, rfl⟩
  have hcl := com1_len s t i
  simp only [V_seq, V_region, V_cond, W_nil, W_cons, effOp2, KN_seq, asB, effOp, effPure, pureV, binV, strip, lkT, ISt.app, opI, gO, gB, allB, gval, wrapG, dstOK, setD, Op.operands, reduceIte, Nat.reduceLT, Nat.reduceEqDiff, true_and, and_self, implies_true, List.nil_append, List.cons_append, hN]
  refine brW_some (fun h => ?_) (fun h => ?_)
  · have hi' : i < 2 := by simp at h; omega
    have g0 := getD_encPs (l := [s.1, s.2]) (i := i) (by simpa using hi')
    have hw := wr_succ hi' (by rw [maxLen_eq]; omega)
    have sp := at_two (P := Sm) hs.1 hs.2 hi'
    have hst := com1_step (s := s) (t := t) hi'
    generalize pAt [s.1, s.2] i = p at *
    cases c1 : onS t p with
    | true =>
      rw [if_pos c1] at hst
      have hen := app_if (l := com1 s t i) (p := p) _ ec c1
      rw [if_pos c1, ← hst] at hen
      have hln : (com1 s t (i + 1)).length = (com1 s t i).length + 1 := by rw [hst]; simp
      simp only [V_seq, V_skip, V_block, V_region, V_cond, brW_true, W_nil, W_cons, effOp2, KN_seq, KN_block, KN_back, asB, effOp, effPure, effNew, effAlloc, effBuildSlice, effFrz, frz, tmpsOf, effStore, effAppend, effZeros, effCall, giveUp, hasAll, skipE, pureV, storeV, srcV, refId, binV, partV, eltV, loadV, iaddrV, over, solid, IV.cells, ofC, strip, lkT, lkH, ISt.app, opI, gO, gB, allB, gval, wrapG, dstOK, setD, mentTm, mentHp, IV.ment, IV.mentL, partsL, eltsI, eltI, oneI, noId', lendV, lendP, lent, lentP, idsV, idsL, lkHS, flat, clean, callArgs, callFn, allLent, Op.operands, reduceIte, reduceCtorEq, cond_true, Bool.or_false, Bool.and_true, Bool.not_true, Nat.reduceAdd, Nat.reduceMul, Nat.reduceLT, Nat.reduceLeDiff, Nat.reduceEqDiff, Nat.reduceBEq, Nat.zero_add, ne_eq, not_false_eq_true, true_and, and_true, and_false, and_self, implies_true, forall_const, List.map_cons, List.map_nil, List.nil_append, List.cons_append, List.append_nil, List.all_cons, List.all_nil, Option.some.injEq, List.getD_cons_zero, List.length_cons, List.length_nil, List.take_succ_cons, List.take_zero, List.take_nil, List.drop_succ_cons, List.drop_zero, List.drop_nil, ex_clo, or_self, tab23, tab30, tab119, hN, pe, Int.toNat_natCast, lk_impl_common_impl_Segment_has, sp_impl_Segment_has, el, g0, hw, ht, sp, c1, ec]
      repeat refine And.intro (by first | omega | (simp; done) | (simp; omega)) ?_
      refine ⟨i + 1, fun x => if x = 10 then 27 else x, by simp only []; omega, by simp only []; omega, ?_⟩
      simp only [hen, hln]
      simp [SLe, SLe0, convTm, convHp, convB, conv, conv0, convL, lkT, lkH, clean]
      exact ⟨(List.take_of_length_le (by rw [List.length_append, List.length_take]; exact Nat.le_refl _)).symm, fun x a1 a2 a3 => by omega⟩
    | false =>
      rw [if_neg (by rw [c1]; decide), List.append_nil] at hst
      simp only [V_seq, V_skip, V_block, V_region, V_cond, brW_false, W_nil, W_cons, effOp2, KN_seq, KN_block, KN_back, asB, effOp, effPure, effNew, effAlloc, effStore, effCall, giveUp, hasAll, skipE, pureV, storeV, binV, partV, eltV, loadV, iaddrV, over, solid, IV.cells, ofC, strip, lkT, lkH, ISt.app, opI, gO, gB, allB, gval, wrapG, dstOK, setD, mentTm, mentHp, IV.ment, IV.mentL, oneI, lendV, lendP, lent, lentP, idsV, idsL, lkHS, flat, clean, callArgs, callFn, allLent, Op.operands, reduceIte, reduceCtorEq, cond_true, Bool.or_false, Bool.and_true, Bool.not_true, Nat.reduceAdd, Nat.reduceLT, Nat.reduceLeDiff, Nat.reduceEqDiff, Nat.reduceBEq, Nat.zero_add, ne_eq, not_false_eq_true, true_and, and_true, and_false, and_self, implies_true, forall_const, List.map_cons, List.map_nil, List.nil_append, List.cons_append, List.append_nil, List.all_cons, List.all_nil, List.getD_cons_zero, List.length_cons, List.length_nil, List.take_succ_cons, List.take_zero, List.take_nil, List.drop_succ_cons, List.drop_zero, List.drop_nil, ex_clo, or_self, tab23, tab30, tab119, hN, pe, Int.toNat_natCast, lk_impl_common_impl_Segment_has, sp_impl_Segment_has, el, g0, hw, ht, sp, c1]
      repeat refine And.intro (by first | omega | (simp; done) | (simp; omega)) ?_
      exact ⟨i + 1, id, by simp only []; omega, by simp only []; omega, by simp only [hst]; exact by simp [SLe, SLe0, convTm, convHp, convB, conv, conv0, convL, lkT, lkH, clean]⟩
  · have hie : i = 2 := by simp at h; omega
    subst hie
    simp only [V_seq, V_exit, V_block, V_region, W_nil, W_cons, effOp2, KN_seq, KXe_nil, KXe_seq, KXe_block, KXe_back, QE, effOp, effPure, effNew, effBuildSlice, effFrz, frz, tmpsOf, skipE, pureV, partV, loadV, faddrV, lenV, ofC, strip, lkT, lkH, ISt.app, opI, gO, gB, allB, gval, wrapG, dstOK, setD, mentTm, mentHp, IV.ment, IV.mentL, partsL, eltsI, eltI, oneI, noId', Ideal.Fin, IBlk.shape, Op.operands, Call.operands, List.append_toArray, reduceIte, reduceCtorEq, cond_true, Bool.or_false, Bool.and_true, Nat.reduceAdd, Nat.reduceSub, Nat.reduceMul, Nat.reduceLT, Nat.reduceLeDiff, Nat.reduceEqDiff, Nat.reduceBEq, Nat.add_zero, Nat.zero_add, ne_eq, not_false_eq_true, true_and, and_false, and_self, implies_true, List.nil_append, List.cons_append, List.append_nil, List.all_cons, List.all_nil, Option.map_some, List.getD_cons_zero, List.getD_cons_succ, List.length_cons, List.length_nil, List.take_succ_cons, List.take_zero, List.take_nil, List.drop_succ_cons, List.drop_zero, tab23, tab30, tab119, hN]
    refine V_loop (α := Nat) ⟨tabOK, mixed, gok_impl_common, hok_impl_common⟩ (by kernel_rfl) (fun i => i ≤ 2) (fun i => ⟨[(35, .num .i64 i), (34, .num .i64 2), (33, .sl 2 (encPs [t.1, t.2])), (5, .ref 10 0 (com2 s t i).length true), (3, .ptr 3 0), (2, .ptr 2 0)], [(10, some (.arr 2 30 (encPs (com2 s t i)))), (3, some (.box 119 [.num .i64 t.1.1, .num .i64 t.1.2, .num .i64 t.2.1, .num .i64 t.2.2])), (2, some (.box 119 [.num .i64 s.1.1, .num .i64 s.1.2, .num .i64 s.2.1, .num .i64 s.2.2]))]⟩) (fun i => 2 - i) 0 id (Nat.zero_le _)
      (by simp [SLe, SLe0, convTm, convHp, convB, conv, conv0, convL, lkT, lkH, clean, com1_all, encPs, encP]; exact ⟨⟨_, _, ⟨rfl, rfl⟩, by simp, by simp, fun id' h e => by subst e; simp at h⟩, (List.take_of_length_le (by simp)).symm⟩) ?_
    intro i hi
    have ec := len_encPs (com2 s t i)
    have hx : ∃ k ty es, IBlk.arr 2 30 (encPs (com2 s t i)) = IBlk.arr k ty es := ⟨_, _, _, rfl⟩
    have hcl := com2_len s t i
    simp only [V_seq, V_region, V_cond, W_nil, W_cons, effOp2, KN_seq, asB, effOp, effPure, pureV, binV, strip, lkT, ISt.app, opI, gO, gB, allB, gval, wrapG, dstOK, setD, Op.operands, reduceIte, Nat.reduceLT, Nat.reduceEqDiff, true_and, and_self, implies_true, List.nil_append, List.cons_append, hN]
    refine brW_some (fun h => ?_) (fun h => ?_)
    · have hi' : i < 2 := by simp at h; omega
      have g0 := getD_encPs (l := [t.1, t.2]) (i := i) (by simpa using hi')
      have hw := wr_succ hi' (by rw [maxLen_eq]; omega)
      have sp := at_two (P := Sm) ht.1 ht.2 hi'
      have hst := com2_step (s := s) (t := t) hi'
      have hend := end_at (a := t.1) (b := t.2) hi'
      generalize pAt [t.1, t.2] i = p at *
      cases c1 : onS s p with
      | true =>
        rw [c1, Bool.true_and] at hst
        cases c2 : (p == s.1 || p == s.2) with
        | false =>
          rw [if_pos (by rw [c2]; rfl)] at hst
          have hen := app_if (l := com2 s t i) (p := p) _ ec rfl
          rw [if_pos rfl, ← hst] at hen
          have hln : (com2 s t (i + 1)).length = (com2 s t i).length + 1 := by rw [hst]; simp
          simp only [V_seq, V_skip, V_block, V_region, V_cond, brW_true, W_nil, W_cons, effOp2, KN_seq, KN_block, KN_back, asB, effOp, effPure, effPick, effNew, effAlloc, effBuildSlice, effFrz, frz, tmpsOf, effStore, effAppend, effZeros, effCall, giveUp, hasAll, skipE, pureV, pickV, storeV, srcV, refId, binV, partV, eltV, loadV, iaddrV, over, solid, IV.cells, ofC, strip, lkT, lkH, ISt.app, opI, gO, gB, allB, gval, wrapG, dstOK, setD, mentTm, mentHp, IV.ment, IV.mentL, partsL, eltsI, eltI, oneI, noId', lendV, lendP, lent, lentP, idsV, idsL, lkHS, flat, clean, callArgs, callFn, allLent, Op.operands, reduceIte, reduceCtorEq, cond_true, Bool.or_false, Bool.and_true, Bool.and_false, Bool.not_true, Bool.not_false, Nat.reduceAdd, Nat.reduceMul, Nat.reduceLT, Nat.reduceLeDiff, Nat.reduceEqDiff, Nat.reduceBEq, Nat.zero_add, ne_eq, not_false_eq_true, beq_self_eq_true, true_and, and_true, and_false, and_self, implies_true, forall_const, List.map_cons, List.map_nil, List.nil_append, List.cons_append, List.append_nil, List.all_cons, List.all_nil, Option.some.injEq, Option.bind_some, List.getElem?_cons_zero, List.getElem?_cons_succ, List.getD_cons_zero, List.length_cons, List.length_nil, List.take_succ_cons, List.take_zero, List.take_nil, List.drop_succ_cons, List.drop_zero, List.drop_nil, ex_clo, or_self, Bool.true_eq_false, tab23, tab30, tab119, hN, pe, Int.toNat_natCast, lk_impl_common_impl_Segment_has, lk_impl_common_impl_Segment_atEnds, sp_impl_Segment_has, sp_impl_Segment_atEnds, el2, g0, hw, hs, sp, c1, ec, hend, c2]
          repeat refine And.intro (by first | omega | (simp; done) | (simp; omega)) ?_
          refine ⟨i + 1, fun x => if x = 10 then 52 else x, by simp only []; omega, by simp only []; omega, ?_⟩
          simp only [hen, hln]
          simp [SLe, SLe0, convTm, convHp, convB, conv, conv0, convL, lkT, lkH, clean]
          exact ⟨(List.take_of_length_le (by rw [List.length_append, List.length_take]; exact Nat.le_refl _)).symm, fun x a1 a2 a3 => by omega⟩
        | true =>
          rw [if_neg (by rw [c2]; decide), List.append_nil] at hst
          simp only [V_seq, V_skip, V_block, V_region, V_cond, brW_false, W_nil, W_cons, effOp2, KN_seq, KN_block, KN_back, asB, effOp, effPure, effPick, effNew, effAlloc, effStore, effCall, giveUp, hasAll, skipE, pureV, pickV, storeV, binV, partV, eltV, loadV, iaddrV, over, solid, IV.cells, ofC, strip, lkT, lkH, ISt.app, opI, gO, gB, allB, gval, wrapG, dstOK, setD, mentTm, mentHp, IV.ment, IV.mentL, oneI, lendV, lendP, lent, lentP, idsV, idsL, lkHS, flat, clean, callArgs, callFn, allLent, Op.operands, reduceIte, reduceCtorEq, cond_true, Bool.or_false, Bool.and_true, Bool.not_true, Nat.reduceAdd, Nat.reduceLT, Nat.reduceLeDiff, Nat.reduceEqDiff, Nat.reduceBEq, Nat.zero_add, ne_eq, not_false_eq_true, beq_self_eq_true, true_and, and_true, and_false, and_self, implies_true, forall_const, List.map_cons, List.map_nil, List.nil_append, List.cons_append, List.append_nil, List.all_cons, List.all_nil, Option.bind_some, List.getElem?_cons_zero, List.getElem?_cons_succ, List.getD_cons_zero, List.length_cons, List.length_nil, List.take_succ_cons, List.take_zero, List.take_nil, List.drop_succ_cons, List.drop_zero, List.drop_nil, ex_clo, or_self, Bool.true_eq_false, tab23, tab30, tab119, hN, pe, Int.toNat_natCast, lk_impl_common_impl_Segment_has, lk_impl_common_impl_Segment_atEnds, sp_impl_Segment_has, sp_impl_Segment_atEnds, el2, g0, hw, hs, sp, c1, hend, c2]
          repeat refine And.intro (by first | omega | (simp; done) | (simp; omega)) ?_
          exact ⟨i + 1, id, by simp only []; omega, by simp only []; omega, by simp only [hst]; exact by simp [SLe, SLe0, convTm, convHp, convB, conv, conv0, convL, lkT, lkH, clean]⟩
      | false =>
        rw [c1, Bool.false_and, if_neg (by decide), List.append_nil] at hst
        simp only [V_seq, V_skip, V_block, V_region, V_cond, brW_false, W_nil, W_cons, effOp2, KN_seq, KN_block, KN_back, asB, effOp, effPure, effPick, effNew, effAlloc, effStore, effCall, giveUp, hasAll, skipE, pureV, pickV, storeV, binV, partV, eltV, loadV, iaddrV, over, solid, IV.cells, ofC, strip, lkT, lkH, ISt.app, opI, gO, gB, allB, gval, wrapG, dstOK, setD, mentTm, mentHp, IV.ment, IV.mentL, oneI, lendV, lendP, lent, lentP, idsV, idsL, lkHS, flat, clean, callArgs, callFn, allLent, Op.operands, reduceIte, reduceCtorEq, cond_true, cond_false, Bool.or_false, Bool.or_true, Bool.and_true, Bool.not_true, Bool.not_false, Nat.reduceAdd, Nat.reduceLT, Nat.reduceLeDiff, Nat.reduceEqDiff, Nat.reduceBEq, Nat.zero_add, ne_eq, not_false_eq_true, true_and, and_true, and_false, and_self, false_implies, implies_true, forall_const, List.map_cons, List.map_nil, List.nil_append, List.cons_append, List.append_nil, List.all_cons, List.all_nil, Option.bind_some, List.getElem?_cons_zero, List.getElem?_cons_succ, List.getD_cons_zero, List.length_cons, List.length_nil, List.take_succ_cons, List.take_zero, List.take_nil, List.drop_succ_cons, List.drop_zero, List.drop_nil, ex_clo, bft, or_self, Bool.false_eq_true, tab23, tab30, tab119, hN, pe, Int.toNat_natCast, lk_impl_common_impl_Segment_has, lk_impl_common_impl_Segment_atEnds, sp_impl_Segment_has, sp_impl_Segment_atEnds, el2, g0, hw, hs, sp, c1]
        repeat refine And.intro (by first | omega | (simp; done) | (simp; omega)) ?_
        exact ⟨i + 1, id, by simp only []; omega, by simp only []; omega, by simp only [hst]; exact by simp [SLe, SLe0, convTm, convHp, convB, conv, conv0, convL, lkT, lkH, clean]⟩
    · have hie : i = 2 := by simp at h; omega
      subst hie
      simp only [V_seq, V_ret, V_exit, V_region, W_nil, W_cons, effOp2, KN_seq, KXr_nil, KXe_nil, KXe_seq, KXe_block, KXe_back, QE, effOp, effPure, pureV, strip, lkT, lkH, ISt.app, opI, gO, gB, allB, gval, wrapG, dstOK, setD, Gives, Ideal.Fin, conv, conv0, Op.operands, reduceIte, Nat.reduceSub, Nat.reduceLT, Nat.reduceEqDiff, Nat.zero_add, ne_eq, true_and, and_self, implies_true, List.nil_append, List.cons_append, Option.some.injEq, List.drop_zero, hN, com2_all]
      exact ⟨_, _, rfl, by rw [len_encPs]; exact Nat.le_refl _, (take_encPs _).symm, by simp⟩
def sp_impl_common : PSpec := ⟨fun xs => match xs with | [.agg [.num .i64 s1, .num .i64 s2, .num .i64 s3, .num .i64 s4], .agg [.num .i64 t1, .num .i64 t2, .num .i64 t3, .num .i64 t4]] => ((fun (s : Qd) (t : Qd) => SmQ s) ((s1, s2), (s3, s4)) ((t1, t2), (t3, t4))) ∧ ((fun (s : Qd) (t : Qd) => SmQ t) ((s1, s2), (s3, s4)) ((t1, t2), (t3, t4))) | _ => False, fun xs => match xs with | [.agg [.num _ s1, .num _ s2, .num _ s3, .num _ s4], .agg [.num _ t1, .num _ t2, .num _ t3, .num _ t4]] => (fun (s : Qd) (t : Qd) => .sl 2 (encPs (comP s t))) ((s1, s2), (s3, s4)) ((t1, t2), (t3, t4)) | _ => .junk, false⟩
theorem gk_impl_common : ∀ args, sp_impl_common.pre args → ICall Try.prog 220 args (sp_impl_common.val args) := by
  intro args h
  unfold sp_impl_common at h ⊢; simp only at h ⊢; split at h
  · obtain ⟨h0, h1⟩ := h
    simp only [toPs_enc] at *
    exact c_impl_common ((_, _), (_, _)) ((_, _), (_, _)) h0 h1
  · exact h.elim
theorem en_impl_common : Enters Try.prog 220 := enters_of Try.func220 (by kernel_rfl) rfl


theorem sg_mul (a b : Int) : IntKind.i64.wrap (sgnI a * sgnI b) = sgnI a * sgnI b := by
  have h1 := sgn_bd a
  have h2 := sgn_bd b
  have h3 := mulb (A := 1) (B := 1) h1 h2
  exact wr (by omega) (by omega)
theorem rel_cases (s t : Qd) : relP s t = if 1 < (endsP s t).length then 3 else if (endsP s t).length = 1 then 1 else if crossesP s t then 2 else 0 := rfl
def g_impl_relation : List (Nat × PSpec) := [(220, sp_impl_common), (89, sp_impl_turn), (221, sp_impl_sign)]
theorem gok_impl_relation : GOK Try.prog g_impl_relation := gok_cons gk_impl_common en_impl_common (gok_cons gk_impl_turn en_impl_turn (gok_cons gk_impl_sign en_impl_sign (gok0)))
theorem lk_impl_relation_impl_common : lkG g_impl_relation 220 = sp_impl_common := rfl
theorem lk_impl_relation_impl_turn : lkG g_impl_relation 89 = sp_impl_turn := rfl
theorem lk_impl_relation_impl_sign : lkG g_impl_relation 221 = sp_impl_sign := rfl
def h_impl_relation : List (Nat × HSpec) := []
theorem hok_impl_relation : HOK Try.prog h_impl_relation := hok0
theorem c_impl_relation (s : Qd) (t : Qd) (hs : SmQ s) (ht : SmQ t) (ns : s.1 ≠ s.2) (nt : t.1 ≠ t.2) : ICall Try.prog 160 [encQ s, encQ t] (.num .i64 (relP s t)) := by
  refine icall_V (G := g_impl_relation) (H := []) [(3, [(0, 6), (2, 6), (4, 6), (0, 7), (1, 7), (2, 7), (3, 7), (4, 7), (5, 7), (6, 8), (7, 8), (6, 9), (7, 9), (6, 10), (7, 10), (6, 11), (7, 11), (6, 12), (7, 12), (6, 13), (7, 13), (0, 14), (1, 14), (2, 14), (3, 14), (4, 14), (5, 14), (6, 14), (8, 14), (10, 14), (12, 14), (0, 15), (1, 15), (2, 15), (3, 15), (4, 15), (5, 15), (6, 15), (7, 15), (8, 15), (9, 15), (10, 15), (11, 15), (12, 15), (13, 15), (6, 16), (14, 16)]), (4, [(0, 6), (2, 6), (4, 6), (0, 7), (1, 7), (2, 7), (3, 7), (4, 7), (5, 7), (6, 8), (7, 8), (6, 9), (7, 9), (6, 10), (7, 10), (6, 11), (7, 11), (6, 12), (7, 12), (6, 13), (7, 13), (0, 14), (1, 14), (2, 14), (3, 14), (4, 14), (5, 14), (6, 14), (8, 14), (10, 14), (12, 14), (0, 15), (1, 15), (2, 15), (3, 15), (4, 15), (5, 15), (6, 15), (7, 15), (8, 15), (9, 15), (10, 15), (11, 15), (12, 15), (13, 15), (6, 16), (14, 16)])] tabOK mixed gok_impl_relation hok_impl_relation Try.func160 rfl Try.ntmps160 Try.results160 rfl (by kernel_rfl) fun F hN hlen => ?_
  have el := len_encPs (comP s t)
  rw [com_ends ns nt] at el
  have s1 := hs.1
  have s2 := hs.2
  have t1 := ht.1
  have t2 := ht.2
  have hr := rel_cases s t
  obtain ⟨n, hn⟩ : ∃ n, (endsP s t).length = n := ⟨_, rfl⟩
  rw [hn] at el hr
  rcases n with _ | _ | n
  · have d1 : (((0 : Nat) : Int) == 0) = true := rfl
    have hc : crossesP s t = (decide (sgnI (turn s.1 s.2 t.1) * sgnI (turn s.1 s.2 t.2) < 0) && decide (sgnI (turn t.1 t.2 s.1) * sgnI (turn t.1 t.2 s.2) < 0)) := rfl
    cases c1 : decide (sgnI (turn s.1 s.2 t.1) * sgnI (turn s.1 s.2 t.2) < 0) with
    | true =>
      cases c2 : decide (sgnI (turn t.1 t.2 s.1) * sgnI (turn t.1 t.2 s.2) < 0) with
      | true =>
        have hx : relP s t = 2 := by rw [hr, hc, c1, c2]; rfl
        simp only [V_seq, V_ret, V_block, V_region, V_draw, V_cond, brW_true, drawW, WS_nil, pairsOf, W_nil, W_cons, effOp2, effOp3, WI_nil, WI_cons, KN_seq, KXr_nil, KXr_seq, KXr_block, QE, dynOK, indB, farB, freshB, heapy, asB, effOp, effPure, effPick, effNew, effBox, effCall, giveUp, hasAll, skipE, pureV, pickV, binV, partV, loadV, faddrV, lenV, solid, IV.cells, ofC, strip, lkT, lkH, ISt.app, opI, gO, gB, allB, gval, wrapG, dstOK, setD, mentTm, mentHp, IV.ment, IV.mentL, oneI, lendV, lendP, lent, lentP, idsV, idsL, lkHS, flat, clean, callArgs, callFn, allLent, enumT, Gives, Ideal.Fin, conv, conv0, IBlk.shape, Op.operands, Call.operands, List.append_toArray, reduceIte, reduceCtorEq, cond_true, cond_false, Bool.or_false, Bool.and_true, Bool.and_eq_true, Bool.not_true, Bool.not_false, Nat.reduceAdd, Nat.reduceLT, Nat.reduceLeDiff, Nat.reduceEqDiff, Nat.reduceBEq, Nat.add_zero, Nat.zero_add, ne_eq, not_false_eq_true, beq_self_eq_true, and_true, and_false, and_self, implies_true, List.map_cons, List.map_nil, List.nil_append, List.cons_append, List.append_nil, List.all_cons, List.all_nil, Option.map_some, Option.bind_some, List.getElem?_cons_zero, List.getElem?_cons_succ, List.getD_cons_zero, List.getD_cons_succ, List.length_cons, List.length_nil, List.take_succ_cons, List.take_zero, List.take_nil, List.drop_succ_cons, List.drop_zero, ex_clo, or_true, or_self, Bool.true_eq_false, Bool.false_eq_true, tab23, tab30, tab119, hN, pe, encQ, lk_impl_relation_impl_common, lk_impl_relation_impl_turn, lk_impl_relation_impl_sign, sp_impl_common, sp_impl_turn, sp_impl_sign, hs, ht, el, s1, s2, t1, t2, d1, sg_mul, c1, c2, hx]
      | false =>
        have hx : relP s t = 0 := by rw [hr, hc, c1, c2]; rfl
        simp only [V_seq, V_skip, V_ret, V_block, V_region, V_draw, V_cond, brW_true, brW_false, drawW, WS_nil, pairsOf, W_nil, W_cons, effOp2, effOp3, WI_nil, WI_cons, KN_seq, KXr_nil, KXr_seq, KXr_block, QE, dynOK, indB, farB, freshB, heapy, asB, effOp, effPure, effPick, effNew, effBox, effCall, giveUp, hasAll, skipE, pureV, pickV, binV, partV, loadV, faddrV, lenV, solid, IV.cells, ofC, strip, lkT, lkH, ISt.app, opI, gO, gB, allB, gval, wrapG, dstOK, setD, mentTm, mentHp, IV.ment, IV.mentL, oneI, lendV, lendP, lent, lentP, idsV, idsL, lkHS, flat, clean, callArgs, callFn, allLent, enumT, Gives, Ideal.Fin, conv, conv0, IBlk.shape, Op.operands, Call.operands, List.append_toArray, reduceIte, reduceCtorEq, cond_true, cond_false, Bool.or_false, Bool.and_true, Bool.and_eq_true, Bool.not_true, Bool.not_false, Nat.reduceAdd, Nat.reduceLT, Nat.reduceLeDiff, Nat.reduceEqDiff, Nat.reduceBEq, Nat.add_zero, Nat.zero_add, ne_eq, not_false_eq_true, beq_self_eq_true, and_true, and_false, and_self, implies_true, List.map_cons, List.map_nil, List.nil_append, List.cons_append, List.append_nil, List.all_cons, List.all_nil, Option.map_some, Option.bind_some, List.getElem?_cons_zero, List.getElem?_cons_succ, List.getD_cons_zero, List.getD_cons_succ, List.length_cons, List.length_nil, List.take_succ_cons, List.take_zero, List.take_nil, List.drop_succ_cons, List.drop_zero, ex_clo, or_true, or_self, Bool.true_eq_false, Bool.false_eq_true, tab23, tab30, tab119, hN, pe, encQ, lk_impl_relation_impl_common, lk_impl_relation_impl_turn, lk_impl_relation_impl_sign, sp_impl_common, sp_impl_turn, sp_impl_sign, hs, ht, el, s1, s2, t1, t2, d1, sg_mul, c1, c2, hx]
    | false =>
      have hx : relP s t = 0 := by rw [hr, hc, c1]; rfl
      simp only [V_seq, V_skip, V_ret, V_block, V_region, V_draw, V_cond, brW_true, brW_false, drawW, WS_nil, pairsOf, W_nil, W_cons, effOp2, effOp3, WI_nil, WI_cons, KN_seq, KXr_nil, KXr_seq, KXr_block, QE, dynOK, indB, farB, freshB, heapy, asB, effOp, effPure, effPick, effNew, effBox, effCall, giveUp, hasAll, skipE, pureV, pickV, binV, partV, loadV, faddrV, lenV, solid, IV.cells, ofC, strip, lkT, lkH, ISt.app, opI, gO, gB, allB, gval, wrapG, dstOK, setD, mentTm, mentHp, IV.ment, IV.mentL, oneI, lendV, lendP, lent, lentP, idsV, idsL, lkHS, flat, clean, callArgs, callFn, allLent, enumT, Gives, Ideal.Fin, conv, conv0, IBlk.shape, Op.operands, Call.operands, List.append_toArray, reduceIte, reduceCtorEq, cond_true, cond_false, Bool.or_false, Bool.and_true, Bool.and_eq_true, Bool.not_true, Bool.not_false, Nat.reduceAdd, Nat.reduceLT, Nat.reduceLeDiff, Nat.reduceEqDiff, Nat.reduceBEq, Nat.add_zero, Nat.zero_add, ne_eq, not_false_eq_true, and_true, and_false, and_self, false_implies, implies_true, List.map_cons, List.map_nil, List.nil_append, List.cons_append, List.append_nil, List.all_cons, List.all_nil, Option.map_some, Option.bind_some, List.getElem?_cons_zero, List.getElem?_cons_succ, List.getD_cons_zero, List.getD_cons_succ, List.length_cons, List.length_nil, List.take_succ_cons, List.take_zero, List.take_nil, List.drop_succ_cons, List.drop_zero, ex_clo, bft, or_true, or_self, Bool.false_eq_true, tab23, tab30, tab119, hN, pe, encQ, lk_impl_relation_impl_common, lk_impl_relation_impl_turn, lk_impl_relation_impl_sign, sp_impl_common, sp_impl_turn, sp_impl_sign, hs, ht, el, s1, s2, t1, t2, d1, sg_mul, c1, hx]
  · have d1 : (((0 + 1 : Nat) : Int) == 0) = false := rfl
    have d2 : (((0 + 1 : Nat) : Int) == 1) = true := rfl
    have hx : relP s t = 1 := by rw [hr]; rfl
    simp only [V_seq, V_ret, V_block, V_region, V_cond, brW_true, brW_false, W_nil, W_cons, effOp2, KN_seq, KXr_nil, KXr_seq, KXr_block, QE, asB, effOp, effPure, effNew, effBox, effCall, giveUp, hasAll, skipE, pureV, binV, partV, loadV, lenV, solid, IV.cells, ofC, strip, lkT, lkH, ISt.app, opI, gO, gB, allB, gval, wrapG, dstOK, setD, mentTm, mentHp, IV.ment, IV.mentL, oneI, lendV, lendP, lent, lentP, idsV, idsL, lkHS, flat, clean, callArgs, callFn, allLent, enumT, Gives, Ideal.Fin, conv, conv0, Op.operands, Call.operands, List.append_toArray, reduceIte, reduceCtorEq, cond_true, cond_false, Bool.or_false, Bool.and_true, Bool.not_true, Nat.reduceAdd, Nat.reduceLT, Nat.reduceLeDiff, Nat.reduceEqDiff, Nat.reduceBEq, Nat.zero_add, ne_eq, not_false_eq_true, and_false, and_self, implies_true, List.map_cons, List.map_nil, List.nil_append, List.cons_append, List.append_nil, List.all_cons, List.all_nil, List.getD_cons_zero, List.length_cons, List.length_nil, List.take_succ_cons, List.take_nil, List.drop_zero, ex_clo, or_true, Bool.false_eq_true, tab23, tab119, hN, pe, encQ, lk_impl_relation_impl_common, sp_impl_common, hs, ht, el, d1, d2, hx]
  · have d1 : (((n + 1 + 1 : Nat) : Int) == 0) = false := by simp; omega
    have d2 : (((n + 1 + 1 : Nat) : Int) == 1) = false := by simp; omega
    have hx : relP s t = 3 := by rw [hr, if_pos (by omega)]
    simp only [V_seq, V_skip, V_ret, V_block, V_region, V_cond, brW_false, W_nil, W_cons, effOp2, KN_seq, KN_block, KXr_nil, QE, asB, effOp, effPure, effNew, effBox, effCall, giveUp, hasAll, skipE, pureV, binV, partV, loadV, lenV, solid, IV.cells, ofC, strip, lkT, lkH, ISt.app, opI, gO, gB, allB, gval, wrapG, dstOK, setD, mentTm, mentHp, IV.ment, IV.mentL, oneI, lendV, lendP, lent, lentP, idsV, idsL, lkHS, flat, clean, callArgs, callFn, allLent, enumT, Gives, Ideal.Fin, conv, conv0, Op.operands, Call.operands, List.append_toArray, reduceIte, reduceCtorEq, cond_true, cond_false, Bool.or_false, Bool.and_true, Bool.not_true, Nat.reduceAdd, Nat.reduceLT, Nat.reduceLeDiff, Nat.reduceEqDiff, Nat.reduceBEq, Nat.zero_add, ne_eq, not_false_eq_true, and_false, and_self, implies_true, List.map_cons, List.map_nil, List.nil_append, List.cons_append, List.append_nil, List.all_cons, List.all_nil, List.getD_cons_zero, List.length_cons, List.length_nil, List.take_succ_cons, List.take_nil, List.drop_zero, ex_clo, or_true, Bool.false_eq_true, tab23, tab119, hN, pe, encQ, lk_impl_relation_impl_common, sp_impl_common, hs, ht, el, d1, d2, hx]
def sp_impl_relation : PSpec := ⟨fun xs => match xs with | [.agg [.num .i64 s1, .num .i64 s2, .num .i64 s3, .num .i64 s4], .agg [.num .i64 t1, .num .i64 t2, .num .i64 t3, .num .i64 t4]] => ((fun (s : Qd) (t : Qd) => SmQ s) ((s1, s2), (s3, s4)) ((t1, t2), (t3, t4))) ∧ ((fun (s : Qd) (t : Qd) => SmQ t) ((s1, s2), (s3, s4)) ((t1, t2), (t3, t4))) ∧ ((fun (s : Qd) (t : Qd) => s.1 ≠ s.2) ((s1, s2), (s3, s4)) ((t1, t2), (t3, t4))) ∧ ((fun (s : Qd) (t : Qd) => t.1 ≠ t.2) ((s1, s2), (s3, s4)) ((t1, t2), (t3, t4))) | _ => False, fun xs => match xs with | [.agg [.num _ s1, .num _ s2, .num _ s3, .num _ s4], .agg [.num _ t1, .num _ t2, .num _ t3, .num _ t4]] => (fun (s : Qd) (t : Qd) => .num .i64 (relP s t)) ((s1, s2), (s3, s4)) ((t1, t2), (t3, t4)) | _ => .junk, false⟩
theorem gk_impl_relation : ∀ args, sp_impl_relation.pre args → ICall Try.prog 160 args (sp_impl_relation.val args) := by
  intro args h
  unfold sp_impl_relation at h ⊢; simp only at h ⊢; split at h
  · obtain ⟨h0, h1, h2, h3⟩ := h
    simp only [toPs_enc] at *
    exact c_impl_relation ((_, _), (_, _)) ((_, _), (_, _)) h0 h1 h2 h3
  · exact h.elim
theorem en_impl_relation : Enters Try.prog 160 := enters_of Try.func160 (by kernel_rfl) rfl


/-- The common ends among the first ones looked at. -/
def both (s t : Qd) (p : Pt) : Bool := onS s p && onS t p
def endsN (s t : Qd) (i : Nat) : List Pt := insP (([s.1, s.2, t.1, t.2].take i).filter (both s t))
theorem endsN_all (s t : Qd) : endsN s t 4 = endsP s t := rfl
theorem endsN_step {s t : Qd} {i : Nat} (h : i < 4) : endsN s t (i + 1) = if both s t (pAt [s.1, s.2, t.1, t.2] i) then addP (endsN s t i) (pAt [s.1, s.2, t.1, t.2] i) else endsN s t i := by
  have : [s.1, s.2, t.1, t.2].take (i + 1) = [s.1, s.2, t.1, t.2].take i ++ [pAt [s.1, s.2, t.1, t.2] i] := take_succ_g (d := (0, 0)) (by simpa using h)
  unfold endsN
  rw [this, List.filter_append]
  simp only [List.filter_cons, List.filter_nil]
  split
  · rw [insP, insP, List.foldl_append]; rfl
  · rw [List.append_nil]
theorem endsN_len (s t : Qd) (i : Nat) : (endsN s t i).length ≤ 4 := by
  have h1 := insP_len (([s.1, s.2, t.1, t.2].take i).filter (both s t))
  have h2 := List.length_filter_le (both s t) ([s.1, s.2, t.1, t.2].take i)
  rw [List.length_take] at h2
  unfold endsN
  simp only [List.length_cons, List.length_nil] at h2
  omega
theorem at_four {P : Pt → Prop} {a b c d : Pt} (ha : P a) (hb : P b) (hc : P c) (hd : P d) {i : Nat} (h : i < 4) : P (pAt [a, b, c, d] i) := by
  rcases i with _ | _ | _ | _ | i
  · exact ha
  · exact hb
  · exact hc
  · exact hd
  · omega

end Go.Proofs.Ytlifmigihfancaa
