/- The law on the diameter: the walk. -/
import Derived.Test.YtlifmigihfancaaB13
import Derived.Test.YtlifmigihfancaaPl5
set_option linter.unusedVariables false
set_option linter.unusedSimpArgs false
namespace Go.Proofs.Ytlifmigihfancaa
open Go Go.Ideal Go.Pl Go.Sort

theorem sq_way (a b : Pt) : dotP (wayP b a) (wayP b a) = sqd a b := by unfold dotP wayP sqd; grind
def g_impl_far : List (Nat × PSpec) := [(84, sp_impl_Point_minus), (109, sp_impl_Point_dot)]
theorem gok_impl_far : GOK Try.prog g_impl_far := gok_cons gk_impl_Point_minus en_impl_Point_minus (gok_cons gk_impl_Point_dot en_impl_Point_dot (gok0))
theorem lk_impl_far_impl_Point_minus : lkG g_impl_far 84 = sp_impl_Point_minus := rfl
theorem lk_impl_far_impl_Point_dot : lkG g_impl_far 109 = sp_impl_Point_dot := rfl
def h_impl_far : List (Nat × HSpec) := []
theorem hok_impl_far : HOK Try.prog h_impl_far := hok0
theorem c_impl_far (a : Pt) (b : Pt) (ha : Sm a) (hb : Sm b) : ICall Try.prog 115 [encP a, encP b] (.num .i64 (sqd a b)) := by
  refine icall_V (G := g_impl_far) (H := []) [(1, [(2, 3), (2, 4), (0, 5), (1, 5), (0, 6), (1, 6), (3, 6), (4, 6)])] tabOK mixed gok_impl_far hok_impl_far Try.func115 rfl Try.ntmps115 Try.results115 rfl (by kernel_rfl) fun F hN hlen => ?_
  have hw := hb.way ha
  have g1 := sm_sub hb.1 ha.1
  have g2 := sm_sub hb.2 ha.2
  simp only [V_seq, V_ret, V_region, V_draw, drawW, WS_nil, WS_cons, pairsOf, W_nil, W_cons, effOp2, effOp3, WI_nil, WI_cons, KN_seq, KXr_nil, QE, dynOK, indB, farB, freshB, freshK, freshK1, heapy, effOp, effPure, effNew, effBox, effCall, giveUp, hasAll, skipE, pureV, partV, loadV, solid, IV.cells, ofC, strip, lkT, lkH, ISt.app, opI, gO, gB, allB, gval, wrapG, dstOK, setD, mentTm, mentHp, IV.ment, IV.mentL, oneI, lendV, lendP, lent, lentP, idsV, idsL, lkHS, flat, flatL, clean, cleanL, callArgs, callFn, allLent, enumT, Gives, Ideal.Fin, conv, conv0, Op.operands, Call.operands, List.append_toArray, reduceIte, reduceCtorEq, cond_true, cond_false, Bool.or_false, Bool.and_true, Bool.true_and, Bool.and_eq_true, Bool.not_true, Bool.not_false, Nat.reduceAdd, Nat.reduceLT, Nat.reduceLeDiff, Nat.reduceEqDiff, Nat.reduceBEq, Nat.zero_add, true_and, and_true, and_false, and_self, implies_true, forall_const, List.map_cons, List.map_nil, List.nil_append, List.cons_append, List.append_nil, List.all_cons, List.all_nil, List.getD_cons_zero, List.getD_cons_succ, List.length_cons, List.length_nil, List.take_succ_cons, List.take_zero, List.take_nil, List.drop_succ_cons, List.drop_zero, ex_clo, or_self, tab30, hN, pe, encP, lk_impl_far_impl_Point_minus, lk_impl_far_impl_Point_dot, sp_impl_Point_minus, sp_impl_Point_dot, hw, sq_way]
  omega
def sp_impl_far : PSpec := ⟨fun xs => match xs with | [.agg [.num .i64 a1, .num .i64 a2], .agg [.num .i64 b1, .num .i64 b2]] => ((fun (a : Pt) (b : Pt) => Sm a) (a1, a2) (b1, b2)) ∧ ((fun (a : Pt) (b : Pt) => Sm b) (a1, a2) (b1, b2)) | _ => False, fun xs => match xs with | [.agg [.num _ a1, .num _ a2], .agg [.num _ b1, .num _ b2]] => (fun (a : Pt) (b : Pt) => .num .i64 (sqd a b)) (a1, a2) (b1, b2) | _ => .junk, false⟩
theorem gk_impl_far : ∀ args, sp_impl_far.pre args → ICall Try.prog 115 args (sp_impl_far.val args) := by
  intro args h
  unfold sp_impl_far at h ⊢; simp only at h ⊢; split at h
  · obtain ⟨h0, h1⟩ := h
    simp only [toPs_enc] at *
    exact c_impl_far (_, _) (_, _) h0 h1
  · exact h.elim
theorem en_impl_far : Enters Try.prog 115 := enters_of Try.func115 (by kernel_rfl) rfl

def g_spec_square : List (Nat × PSpec) := []
theorem gok_spec_square : GOK Try.prog g_spec_square := gok0
def h_spec_square : List (Nat × HSpec) := []
theorem hok_spec_square : HOK Try.prog h_spec_square := hok0
theorem c_spec_square (a : Pt) (b : Pt) (ha : Sm a) (hb : Sm b) : ICall Try.prog 177 [encP a, encP b] (.num .i64 (sqd a b)) := by
  refine icall_V (G := g_spec_square) (H := []) [] tabOK mixed gok_spec_square hok_spec_square Try.func177 rfl Try.ntmps177 Try.results177 rfl (by kernel_rfl) fun F hN hlen => ?_
  have g1 := sm_sub ha.1 hb.1
  have g2 := sm_sub ha.2 hb.2
  have h1 := mulb g1 g1
  have h2 := mulb g2 g2
  have w1 : IntKind.i64.wrap (a.1 - b.1) = a.1 - b.1 := wr (by omega) (by omega)
  have w2 : IntKind.i64.wrap (a.2 - b.2) = a.2 - b.2 := wr (by omega) (by omega)
  have w3 : IntKind.i64.wrap ((a.1 - b.1) * (a.1 - b.1)) = (a.1 - b.1) * (a.1 - b.1) := wr (by omega) (by omega)
  have w4 : IntKind.i64.wrap ((a.2 - b.2) * (a.2 - b.2)) = (a.2 - b.2) * (a.2 - b.2) := wr (by omega) (by omega)
  have w5 : IntKind.i64.wrap ((a.1 - b.1) * (a.1 - b.1) + (a.2 - b.2) * (a.2 - b.2)) = sqd a b := wr (by omega) (by omega)
  simp only [V_seq, V_ret, V_region, W_nil, W_cons, effOp2, KN_seq, KXr_nil, QE, effOp, effPure, effNew, effBox, skipE, pureV, binV, partV, loadV, faddrV, solid, IV.cells, ofC, strip, lkT, lkH, ISt.app, opI, gO, gB, allB, gval, wrapG, dstOK, setD, mentTm, mentHp, IV.ment, IV.mentL, oneI, clean, enumT, Gives, Ideal.Fin, conv, conv0, IBlk.shape, Op.operands, reduceIte, reduceCtorEq, cond_true, Bool.or_false, Bool.and_true, Nat.reduceAdd, Nat.reduceLT, Nat.reduceLeDiff, Nat.reduceEqDiff, Nat.reduceBEq, Nat.add_zero, Nat.zero_add, and_self, implies_true, List.nil_append, List.cons_append, List.append_nil, List.all_cons, List.all_nil, Option.map_some, List.getD_cons_zero, List.getD_cons_succ, List.length_cons, List.length_nil, List.take_succ_cons, List.take_zero, List.take_nil, List.drop_succ_cons, List.drop_zero, tab3, tab30, hN, encP, w1, w2, w3, w4, w5]
def sp_spec_square : PSpec := ⟨fun xs => match xs with | [.agg [.num .i64 a1, .num .i64 a2], .agg [.num .i64 b1, .num .i64 b2]] => ((fun (a : Pt) (b : Pt) => Sm a) (a1, a2) (b1, b2)) ∧ ((fun (a : Pt) (b : Pt) => Sm b) (a1, a2) (b1, b2)) | _ => False, fun xs => match xs with | [.agg [.num _ a1, .num _ a2], .agg [.num _ b1, .num _ b2]] => (fun (a : Pt) (b : Pt) => .num .i64 (sqd a b)) (a1, a2) (b1, b2) | _ => .junk, false⟩
theorem gk_spec_square : ∀ args, sp_spec_square.pre args → ICall Try.prog 177 args (sp_spec_square.val args) := by
  intro args h
  unfold sp_spec_square at h ⊢; simp only at h ⊢; split at h
  · obtain ⟨h0, h1⟩ := h
    simp only [toPs_enc] at *
    exact c_spec_square (_, _) (_, _) h0 h1
  · exact h.elim
theorem en_spec_square : Enters Try.prog 177 := enters_of Try.func177 (by kernel_rfl) rfl


theorem bAll_end (l : List Pt) (i : Nat) : bAll l (i + 1) = bRow l i (bAll l i) (l.length - (i + 1)) := rfl
theorem fAll_end (l : List Pt) (i : Nat) : fAll l (i + 1) = fRow l i (fAll l i) (l.length - (i + 1)) := rfl



/-- The farthest pair and its squared distance, when all is in order. -/
def diaOk (l : List Pt) : Bool := okPs l && decide (0 < l.length)
def diaA (l : List Pt) : Int := if diaOk l then (farPair l).1 else 0
def diaB (l : List Pt) : Int := if diaOk l then (farPair l).2 else 0
def diaN (l : List Pt) : Int := if diaOk l then dis l (farPair l) else -1
theorem dia_no {l : List Pt} (h : diaOk l = false) : diaA l = 0 ∧ diaB l = 0 ∧ diaN l = -1 := by simp [diaA, diaB, diaN, h]
theorem dia_yes {l : List Pt} (h : diaOk l = true) : diaA l = (farPair l).1 ∧ diaB l = (farPair l).2 ∧ diaN l = dis l (farPair l) := by simp [diaA, diaB, diaN, h]


/-- The squared distance of valid points. -/
def sqI (p q : Pt) : Int := if okP p = true ∧ okP q = true then sqd p q else -1


theorem okPs_at {l : List Pt} (h : okPs l = true) {i : Nat} (hi : i < l.length) : okP (pAt l i) = true := by
  simp only [okPs, Bool.and_eq_true, List.all_eq_true] at h
  refine h.1 _ ?_
  rw [pAt, List.getD, List.getElem?_eq_getElem hi]
  exact List.getElem_mem hi
theorem sqI_at {l : List Pt} (h : okPs l = true) {i k : Nat} (hi : i < l.length) (hk : k < l.length) : sqI (pAt l i) (pAt l k) = dis l (i, k) := by
  rw [sqI, if_pos ⟨okPs_at h hi, okPs_at h hk⟩]; rfl
theorem hull_pos {l : List Pt} (h0 : 0 < l.length) : 0 < (hullP l).length := by
  rcases Nat.eq_zero_or_pos (hullP l).length with h | h
  · have := hullP_nil.1 (List.length_eq_zero_iff.1 h)
    subst this; simp at h0
  · exact h


end Go.Proofs.Ytlifmigihfancaa
