/- Contracts: cross products, convex chains. -/
import Derived.Test.YtiadicmnbjaknaaB4
set_option linter.unusedVariables false
set_option linter.unusedSimpArgs false
namespace Go.Proofs.Ytiadicmnbjaknaa
open Go Go.Ideal Go.Pl Go.Sort

/-- A number that is small; a point of small numbers. -/
def sm1 (x : Int) : Prop := -100000 ≤ x ∧ x ≤ 100000
def Sm (p : Pt) : Prop := sm1 p.1 ∧ sm1 p.2
def SmL (l : List Pt) : Prop := ∀ p ∈ l, Sm p
theorem mulb {x y A B : Int} (hx : -A ≤ x ∧ x ≤ A) (hy : -B ≤ y ∧ y ≤ B) : -(A * B) ≤ x * y ∧ x * y ≤ A * B := by
  have hA : 0 ≤ A := by omega
  have hB : 0 ≤ B := by omega
  have h1 := Int.mul_nonneg (a := A - x) (b := B - y) (by omega) (by omega)
  have h2 := Int.mul_nonneg (a := A + x) (b := B + y) (by omega) (by omega)
  have h3 := Int.mul_nonneg (a := A - x) (b := B + y) (by omega) (by omega)
  have h4 := Int.mul_nonneg (a := A + x) (b := B - y) (by omega) (by omega)
  constructor <;> grind
theorem sm_sub {x y : Int} (hx : sm1 x) (hy : sm1 y) : -200000 ≤ x - y ∧ x - y ≤ 200000 := by unfold sm1 at *; omega
theorem turn_bd {a b c : Pt} (ha : Sm a) (hb : Sm b) (hc : Sm c) : -80000000000 ≤ turn a b c ∧ turn a b c ≤ 80000000000 := by
  have h1 := mulb (sm_sub hb.1 ha.1) (sm_sub hc.2 ha.2)
  have h2 := mulb (sm_sub hb.2 ha.2) (sm_sub hc.1 ha.1)
  unfold turn
  omega
theorem okP_sm {p : Pt} (h : okP p = true) : Sm p := by
  simp only [okP, inR, Bool.and_eq_true, decide_eq_true_eq] at h
  unfold Sm sm1
  omega
theorem okPs_sm {l : List Pt} (h : okPs l = true) : SmL l := by
  simp only [okPs, Bool.and_eq_true, List.all_eq_true] at h
  exact fun p hp => okP_sm (h.1 p hp)
theorem SmL.at {l : List Pt} (h : SmL l) (i : Nat) : Sm (pAt l i) := by
  rw [pAt, List.getD]
  rcases Nat.lt_or_ge i l.length with hi | hi
  · rw [List.getElem?_eq_getElem hi]; exact h _ (List.getElem_mem hi)
  · rw [List.getElem?_eq_none hi]; exact ⟨by unfold sm1; simp, by unfold sm1; simp⟩

def wayP (p q : Pt) : Pt := (p.1 - q.1, p.2 - q.2)
def crossP (p q : Pt) : Int := p.1 * q.2 - p.2 * q.1
theorem turn_way (a b c : Pt) : turn a b c = crossP (wayP b a) (wayP c a) := rfl

def g_impl_Point_minus : List (Nat × PSpec) := []
theorem gok_impl_Point_minus : GOK Try.prog g_impl_Point_minus := gok0
def h_impl_Point_minus : List (Nat × HSpec) := []
theorem hok_impl_Point_minus : HOK Try.prog h_impl_Point_minus := hok0
theorem c_impl_Point_minus (p : Pt) (q : Pt) (hp : -4611686018427387904 < p.1 - q.1 ∧ p.1 - q.1 < 4611686018427387904) (hq : -4611686018427387904 < p.2 - q.2 ∧ p.2 - q.2 < 4611686018427387904) : ICall Try.prog 60 [encP p, encP q] (encP (wayP p q)) := by
  refine icall_of_hcall (v := encP (wayP p q)) (hp' := []) id ?_ (by simp [SLe0, convTm, convHp, conv, convL, conv0, lkT, clean, encP]) (by simp [idsV, idsL, encP])
  refine hcall_V (G := g_impl_Point_minus) (H := []) [] tabOK mixed gok_impl_Point_minus hok_impl_Point_minus Try.func60 rfl Try.ntmps60 Try.results60 rfl (by kernel_rfl) fun F hN hlen => ?_
  have w1 : IntKind.i64.wrap (p.1 - q.1) = p.1 - q.1 := wr (by omega) (by omega)
  have w2 : IntKind.i64.wrap (p.2 - q.2) = p.2 - q.2 := wr (by omega) (by omega)
  simp only [V_seq, V_ret, V_region, W_nil, W_cons, effOp2, KN_seq, KXr_nil, QE, effOp, effPure, effNew, effAlloc, effBox, effStore, skipE, pureV, storeV, binV, partV, loadV, faddrV, over, solid, buildL, IV.cells, ofC, strip, lkT, lkH, ISt.app, opI, gO, gB, allB, gval, wrapG, dstOK, setD, mentTm, mentHp, IV.ment, IV.mentL, oneI, clean, enumT, conv, conv0, convL, IBlk.shape, Op.operands, reduceIte, reduceCtorEq, cond_true, Bool.or_false, Bool.and_true, Nat.reduceAdd, Nat.reduceLT, Nat.reduceLeDiff, Nat.reduceEqDiff, Nat.reduceBEq, Nat.add_zero, Nat.zero_add, ne_eq, not_false_eq_true, true_and, and_true, false_and, and_false, and_self, implies_true, List.map_cons, List.map_nil, List.nil_append, List.cons_append, List.append_nil, List.all_cons, List.all_nil, Option.map_some, List.getD_cons_zero, List.getD_cons_succ, List.length_cons, List.length_nil, List.take_succ_cons, List.take_zero, List.take_nil, List.drop_succ_cons, List.drop_zero, List.drop_nil, tab3, tab38, hN, encP, FinH, resA, resV, SLe, SLe0, convTm, convHp, w1, w2, wayP]
  exact ⟨id, by simp⟩
def sp_impl_Point_minus : PSpec := ⟨fun xs => match xs with | [.agg [.num .i64 p1, .num .i64 p2], .agg [.num .i64 q1, .num .i64 q2]] => ((fun (p : Pt) (q : Pt) => -4611686018427387904 < p.1 - q.1 ∧ p.1 - q.1 < 4611686018427387904) (p1, p2) (q1, q2)) ∧ ((fun (p : Pt) (q : Pt) => -4611686018427387904 < p.2 - q.2 ∧ p.2 - q.2 < 4611686018427387904) (p1, p2) (q1, q2)) | _ => False, fun xs => match xs with | [.agg [.num _ p1, .num _ p2], .agg [.num _ q1, .num _ q2]] => (fun (p : Pt) (q : Pt) => encP (wayP p q)) (p1, p2) (q1, q2) | _ => .junk, false⟩
theorem gk_impl_Point_minus : ∀ args, sp_impl_Point_minus.pre args → ICall Try.prog 60 args (sp_impl_Point_minus.val args) := by
  intro args h
  unfold sp_impl_Point_minus at h ⊢; simp only at h ⊢; split at h
  · obtain ⟨h0, h1⟩ := h
    try simp only [toPs_enc] at *
    exact c_impl_Point_minus (_, _) (_, _) h0 h1
  · exact h.elim
theorem en_impl_Point_minus : Enters Try.prog 60 := enters_of Try.func60 (by kernel_rfl) rfl

def g_impl_Point_cross : List (Nat × PSpec) := []
theorem gok_impl_Point_cross : GOK Try.prog g_impl_Point_cross := gok0
def h_impl_Point_cross : List (Nat × HSpec) := []
theorem hok_impl_Point_cross : HOK Try.prog h_impl_Point_cross := hok0
theorem c_impl_Point_cross (p : Pt) (q : Pt) (h1 : -4611686018427387904 < p.1 * q.2 ∧ p.1 * q.2 < 4611686018427387904) (h2 : -4611686018427387904 < p.2 * q.1 ∧ p.2 * q.1 < 4611686018427387904) : ICall Try.prog 61 [encP p, encP q] (.num .i64 (crossP p q)) := by
  refine icall_V (G := g_impl_Point_cross) (H := []) [] tabOK mixed gok_impl_Point_cross hok_impl_Point_cross Try.func61 rfl Try.ntmps61 Try.results61 rfl (by kernel_rfl) fun F hN hlen => ?_
  have w1 : IntKind.i64.wrap (p.1 * q.2) = p.1 * q.2 := wr (by omega) (by omega)
  have w2 : IntKind.i64.wrap (p.2 * q.1) = p.2 * q.1 := wr (by omega) (by omega)
  have w3 : IntKind.i64.wrap (p.1 * q.2 - p.2 * q.1) = p.1 * q.2 - p.2 * q.1 := wr (by omega) (by omega)
  simp only [V_seq, V_ret, V_region, W_nil, W_cons, effOp2, KN_seq, KXr_nil, QE, effOp, effPure, effNew, effBox, skipE, pureV, binV, partV, loadV, faddrV, solid, IV.cells, ofC, strip, lkT, lkH, ISt.app, opI, gO, gB, allB, gval, wrapG, dstOK, setD, mentTm, mentHp, IV.ment, IV.mentL, oneI, clean, enumT, Gives, Ideal.Fin, conv, conv0, IBlk.shape, Op.operands, reduceIte, reduceCtorEq, cond_true, Bool.or_false, Bool.and_true, Nat.reduceAdd, Nat.reduceLT, Nat.reduceLeDiff, Nat.reduceEqDiff, Nat.reduceBEq, Nat.add_zero, Nat.zero_add, and_self, implies_true, List.nil_append, List.cons_append, List.append_nil, List.all_cons, List.all_nil, Option.map_some, List.getD_cons_zero, List.getD_cons_succ, List.length_cons, List.length_nil, List.take_succ_cons, List.take_zero, List.take_nil, List.drop_succ_cons, List.drop_zero, tab3, tab38, hN, encP, w1, w2, w3, crossP]
def sp_impl_Point_cross : PSpec := ⟨fun xs => match xs with | [.agg [.num .i64 p1, .num .i64 p2], .agg [.num .i64 q1, .num .i64 q2]] => ((fun (p : Pt) (q : Pt) => -4611686018427387904 < p.1 * q.2 ∧ p.1 * q.2 < 4611686018427387904) (p1, p2) (q1, q2)) ∧ ((fun (p : Pt) (q : Pt) => -4611686018427387904 < p.2 * q.1 ∧ p.2 * q.1 < 4611686018427387904) (p1, p2) (q1, q2)) | _ => False, fun xs => match xs with | [.agg [.num _ p1, .num _ p2], .agg [.num _ q1, .num _ q2]] => (fun (p : Pt) (q : Pt) => .num .i64 (crossP p q)) (p1, p2) (q1, q2) | _ => .junk, false⟩
theorem gk_impl_Point_cross : ∀ args, sp_impl_Point_cross.pre args → ICall Try.prog 61 args (sp_impl_Point_cross.val args) := by
  intro args h
  unfold sp_impl_Point_cross at h ⊢; simp only at h ⊢; split at h
  · obtain ⟨h0, h1⟩ := h
    try simp only [toPs_enc] at *
    exact c_impl_Point_cross (_, _) (_, _) h0 h1
  · exact h.elim
theorem en_impl_Point_cross : Enters Try.prog 61 := enters_of Try.func61 (by kernel_rfl) rfl

def g_impl_turn : List (Nat × PSpec) := [(60, sp_impl_Point_minus), (61, sp_impl_Point_cross)]
theorem gok_impl_turn : GOK Try.prog g_impl_turn := gok_cons gk_impl_Point_minus en_impl_Point_minus (gok_cons gk_impl_Point_cross en_impl_Point_cross (gok0))
theorem lk_impl_turn_impl_Point_minus : lkG g_impl_turn 60 = sp_impl_Point_minus := rfl
theorem lk_impl_turn_impl_Point_cross : lkG g_impl_turn 61 = sp_impl_Point_cross := rfl
def h_impl_turn : List (Nat × HSpec) := []
theorem hok_impl_turn : HOK Try.prog h_impl_turn := hok0
theorem c_impl_turn (a : Pt) (b : Pt) (c : Pt) (ha : Sm a) (hb : Sm b) (hc : Sm c) : ICall Try.prog 48 [encP a, encP b, encP c] (.num .i64 (turn a b c)) := by
  refine icall_V (G := g_impl_turn) (H := []) [(1, [(2, 3), (2, 4), (0, 5), (1, 5), (0, 6), (1, 6), (3, 6), (4, 6)])] tabOK mixed gok_impl_turn hok_impl_turn Try.func48 rfl Try.ntmps48 Try.results48 rfl (by kernel_rfl) fun F hN hlen => ?_
  have h1 := mulb (sm_sub hb.1 ha.1) (sm_sub hc.2 ha.2)
  have h2 := mulb (sm_sub hb.2 ha.2) (sm_sub hc.1 ha.1)
  have g1 := sm_sub hb.1 ha.1
  have g2 := sm_sub hc.2 ha.2
  have g3 := sm_sub hb.2 ha.2
  have g4 := sm_sub hc.1 ha.1
  simp only [V_seq, V_ret, V_region, V_draw, drawW, WS_nil, WS_cons, pairsOf, W_nil, W_cons, effOp2, effOp3, WI_nil, WI_cons, KN_seq, KXr_nil, QE, dynOK, indB, farB, freshB, freshK, freshK1, heapy, effOp, effPure, effNew, effBox, effCall, giveUp, hasAll, skipE, pureV, partV, loadV, solid, IV.cells, ofC, strip, lkT, lkH, ISt.app, opI, gO, gB, allB, gval, wrapG, dstOK, setD, mentTm, mentHp, IV.ment, IV.mentL, oneI, lendV, lendP, lent, lentP, idsV, idsL, lkHS, flat, flatL, clean, cleanL, callArgs, callFn, allLent, enumT, Gives, Ideal.Fin, conv, conv0, Op.operands, Call.operands, List.append_toArray, reduceIte, reduceCtorEq, cond_true, cond_false, Bool.or_false, Bool.and_true, Bool.true_and, Bool.and_eq_true, Bool.not_true, Bool.not_false, Nat.reduceAdd, Nat.reduceLT, Nat.reduceLeDiff, Nat.reduceEqDiff, Nat.reduceBEq, Nat.zero_add, true_and, and_true, and_false, and_self, implies_true, forall_const, List.map_cons, List.map_nil, List.nil_append, List.cons_append, List.append_nil, List.all_cons, List.all_nil, List.getD_cons_zero, List.getD_cons_succ, List.length_cons, List.length_nil, List.take_succ_cons, List.take_zero, List.take_nil, List.drop_succ_cons, List.drop_zero, ex_clo, or_self, tab38, hN, pe, encP, lk_impl_turn_impl_Point_minus, lk_impl_turn_impl_Point_cross, sp_impl_Point_minus, sp_impl_Point_cross]
  repeat refine And.intro (by first | omega | (unfold wayP; omega) | (unfold wayP; simp only []; omega)) ?_
  rw [turn_way]
def sp_impl_turn : PSpec := ⟨fun xs => match xs with | [.agg [.num .i64 a1, .num .i64 a2], .agg [.num .i64 b1, .num .i64 b2], .agg [.num .i64 c1, .num .i64 c2]] => ((fun (a : Pt) (b : Pt) (c : Pt) => Sm a) (a1, a2) (b1, b2) (c1, c2)) ∧ ((fun (a : Pt) (b : Pt) (c : Pt) => Sm b) (a1, a2) (b1, b2) (c1, c2)) ∧ ((fun (a : Pt) (b : Pt) (c : Pt) => Sm c) (a1, a2) (b1, b2) (c1, c2)) | _ => False, fun xs => match xs with | [.agg [.num _ a1, .num _ a2], .agg [.num _ b1, .num _ b2], .agg [.num _ c1, .num _ c2]] => (fun (a : Pt) (b : Pt) (c : Pt) => .num .i64 (turn a b c)) (a1, a2) (b1, b2) (c1, c2) | _ => .junk, false⟩
theorem gk_impl_turn : ∀ args, sp_impl_turn.pre args → ICall Try.prog 48 args (sp_impl_turn.val args) := by
  intro args h
  unfold sp_impl_turn at h ⊢; simp only at h ⊢; split at h
  · obtain ⟨h0, h1, h2⟩ := h
    try simp only [toPs_enc] at *
    exact c_impl_turn (_, _) (_, _) (_, _) h0 h1 h2
  · exact h.elim
theorem en_impl_turn : Enters Try.prog 48 := enters_of Try.func48 (by kernel_rfl) rfl

def g_spec_cross : List (Nat × PSpec) := []
theorem gok_spec_cross : GOK Try.prog g_spec_cross := gok0
def h_spec_cross : List (Nat × HSpec) := []
theorem hok_spec_cross : HOK Try.prog h_spec_cross := hok0
theorem c_spec_cross (a : Pt) (b : Pt) (c : Pt) (ha : Sm a) (hb : Sm b) (hc : Sm c) : ICall Try.prog 38 [encP a, encP b, encP c] (.num .i64 (turn a b c)) := by
  refine icall_V (G := g_spec_cross) (H := []) [] tabOK mixed gok_spec_cross hok_spec_cross Try.func38 rfl Try.ntmps38 Try.results38 rfl (by kernel_rfl) fun F hN hlen => ?_
  have h1 := mulb (sm_sub hb.1 ha.1) (sm_sub hc.2 ha.2)
  have h2 := mulb (sm_sub hb.2 ha.2) (sm_sub hc.1 ha.1)
  have g1 := sm_sub hb.1 ha.1
  have g2 := sm_sub hc.2 ha.2
  have g3 := sm_sub hb.2 ha.2
  have g4 := sm_sub hc.1 ha.1
  have w1 : IntKind.i64.wrap (b.1 - a.1) = b.1 - a.1 := wr (by omega) (by omega)
  have w2 : IntKind.i64.wrap (c.2 - a.2) = c.2 - a.2 := wr (by omega) (by omega)
  have w3 : IntKind.i64.wrap (b.2 - a.2) = b.2 - a.2 := wr (by omega) (by omega)
  have w4 : IntKind.i64.wrap (c.1 - a.1) = c.1 - a.1 := wr (by omega) (by omega)
  have w5 : IntKind.i64.wrap ((b.1 - a.1) * (c.2 - a.2)) = (b.1 - a.1) * (c.2 - a.2) := wr (by omega) (by omega)
  have w6 : IntKind.i64.wrap ((b.2 - a.2) * (c.1 - a.1)) = (b.2 - a.2) * (c.1 - a.1) := wr (by omega) (by omega)
  have w7 : IntKind.i64.wrap ((b.1 - a.1) * (c.2 - a.2) - (b.2 - a.2) * (c.1 - a.1)) = turn a b c := by unfold turn; exact wr (by omega) (by omega)
  simp only [V_seq, V_ret, V_region, W_nil, W_cons, effOp2, KN_seq, KXr_nil, QE, effOp, effPure, effNew, effBox, skipE, pureV, binV, partV, loadV, faddrV, solid, IV.cells, ofC, strip, lkT, lkH, ISt.app, opI, gO, gB, allB, gval, wrapG, dstOK, setD, mentTm, mentHp, IV.ment, IV.mentL, oneI, clean, enumT, Gives, Ideal.Fin, conv, conv0, IBlk.shape, Op.operands, reduceIte, reduceCtorEq, cond_true, Bool.or_false, Bool.and_true, Nat.reduceAdd, Nat.reduceLT, Nat.reduceLeDiff, Nat.reduceEqDiff, Nat.reduceBEq, Nat.add_zero, Nat.zero_add, and_self, implies_true, List.nil_append, List.cons_append, List.append_nil, List.all_cons, List.all_nil, Option.map_some, List.getD_cons_zero, List.getD_cons_succ, List.length_cons, List.length_nil, List.take_succ_cons, List.take_zero, List.take_nil, List.drop_succ_cons, List.drop_zero, tab3, tab38, hN, encP, w1, w2, w3, w4, w5, w6, w7]
def sp_spec_cross : PSpec := ⟨fun xs => match xs with | [.agg [.num .i64 a1, .num .i64 a2], .agg [.num .i64 b1, .num .i64 b2], .agg [.num .i64 c1, .num .i64 c2]] => ((fun (a : Pt) (b : Pt) (c : Pt) => Sm a) (a1, a2) (b1, b2) (c1, c2)) ∧ ((fun (a : Pt) (b : Pt) (c : Pt) => Sm b) (a1, a2) (b1, b2) (c1, c2)) ∧ ((fun (a : Pt) (b : Pt) (c : Pt) => Sm c) (a1, a2) (b1, b2) (c1, c2)) | _ => False, fun xs => match xs with | [.agg [.num _ a1, .num _ a2], .agg [.num _ b1, .num _ b2], .agg [.num _ c1, .num _ c2]] => (fun (a : Pt) (b : Pt) (c : Pt) => .num .i64 (turn a b c)) (a1, a2) (b1, b2) (c1, c2) | _ => .junk, false⟩
theorem gk_spec_cross : ∀ args, sp_spec_cross.pre args → ICall Try.prog 38 args (sp_spec_cross.val args) := by
  intro args h
  unfold sp_spec_cross at h ⊢; simp only at h ⊢; split at h
  · obtain ⟨h0, h1, h2⟩ := h
    try simp only [toPs_enc] at *
    exact c_spec_cross (_, _) (_, _) (_, _) h0 h1 h2
  · exact h.elim
theorem en_spec_cross : Enters Try.prog 38 := enters_of Try.func38 (by kernel_rfl) rfl

end Go.Proofs.Ytiadicmnbjaknaa
