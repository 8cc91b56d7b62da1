/- Contracts: where points lie of polygons; convex polygons; lattice points. -/
import Derived.Test.YtlifmigihfancaaB20
import Derived.Test.YtlifmigihfancaaBG
set_option linter.unusedVariables false
set_option linter.unusedSimpArgs false
set_option maxRecDepth 100000
namespace Go.Proofs.Ytlifmigihfancaa
open Go Go.Ideal Go.Pl Go.Sort

/-- Inside or outside, as a number. -/
def sgB (b : Bool) : Int := if b then 1 else -1
theorem sgB_neg (b : Bool) : IntKind.i64.wrap (-(sgB b)) = sgB (!b) := by cases b <;> decide
theorem loc_step {q : Pt} {E : List Qd} {i : Nat} (hi : i < E.length) (b : Bool) : locR q (E.drop i) b = if onS (qAt E i) q then 0 else locR q (E.drop (i + 1)) (b ^^ rayP (qAt E i) q) := by
  have : E.drop i = qAt E i :: E.drop (i + 1) := by
    rw [List.drop_eq_getElem_cons hi]; simp [qAt, List.getD, hi]
  rw [this]; rfl
theorem ray_of {e f : Qd} (q : Pt) (hf : f = if e.2.2 < e.1.2 then (e.2, e.1) else e) : rayP e q = (decide (f.1.2 ≤ q.2) && decide (q.2 < f.2.2) && decide (0 < turn f.1 f.2 q)) := by
  subst hf; rfl
theorem sq_swap {e : Qd} (h : SmQ e) : SmQ (e.2, e.1) := ⟨h.2, h.1⟩
theorem loc_end {q : Pt} {E : List Qd} (b : Bool) : locR q (E.drop E.length) b = sgB b := by rw [List.drop_length]; rfl



/-- Where a point is of a simple polygon. -/
def locB (l : List Pt) (q : Pt) : Int := bif simpB l && okP q then locR q (edgesP l) false else 2

/-- Is it a convex polygon, counterclockwise? -/
def cvxB (l : List Pt) : Bool := simpB l && leftsP l
def g_impl_convex : List (Nat × PSpec) := [(92, sp_impl_simple), (89, sp_impl_turn)]
theorem gok_impl_convex : GOK Try.prog g_impl_convex := gok_cons gk_impl_simple en_impl_simple (gok_cons gk_impl_turn en_impl_turn (gok0))
theorem lk_impl_convex_impl_simple : lkG g_impl_convex 92 = sp_impl_simple := rfl
theorem lk_impl_convex_impl_turn : lkG g_impl_convex 89 = sp_impl_turn := rfl
def h_impl_convex : List (Nat × HSpec) := []
theorem hok_impl_convex : HOK Try.prog h_impl_convex := hok0
theorem c_impl_convex (l : List Pt)  : ICall Try.prog 95 [.sl 2 (encPs l)] (.bool (cvxB l)) := by
  refine icall_V (G := g_impl_convex) (H := []) [(6, [(0, 20), (1, 20), (2, 20), (4, 20), (5, 20), (6, 20), (7, 20), (8, 20), (9, 20), (10, 20), (12, 20), (13, 20), (14, 20), (15, 20), (16, 20), (17, 20), (18, 20)])] tabOK mixed gok_impl_convex hok_impl_convex Try.func95 rfl Try.ntmps95 Try.results95 rfl (by kernel_rfl) fun F hN hlen => ?_
  have el := len_encPs l
  have hv : cvxB l = (simpB l && leftsP l) := rfl
  cases h1 : simpB l with
  | false =>
    rw [h1] at hv
    simp only [V_seq, V_ret, V_region, V_cond, brW_true, W_nil, W_cons, effOp2, KN_seq, KXr_nil, KXr_seq, QE, asB, effOp, effPure, effCall, giveUp, hasAll, pureV, ofC, strip, lkT, lkH, ISt.app, opI, gO, gB, allB, gval, wrapG, dstOK, setD, lendV, lendP, lent, lentP, idsV, idsL, lkHS, flat, clean, callArgs, callFn, allLent, enumT, Gives, Ideal.Fin, conv, conv0, Op.operands, reduceIte, reduceCtorEq, cond_true, Bool.or_false, Bool.false_and, Bool.not_true, Bool.not_false, Nat.reduceLT, Nat.reduceEqDiff, and_self, implies_true, List.map_cons, List.map_nil, List.nil_append, List.cons_append, List.append_nil, ex_clo, or_self, hN, isPs_enc, toPs_enc, lk_impl_convex_impl_simple, sp_impl_simple, h1, hv]
  | true =>
    obtain ⟨hk, h3, h20, hnd⟩ := ring_facts (simp_ring h1)
    have hm := okPs_sm hk
    rw [h1, Bool.true_and] at hv
    simp only [V_seq, V_skip, V_block, V_region, V_cond, brW_false, W_nil, W_cons, effOp2, KN_seq, asB, effOp, effPure, effCall, giveUp, hasAll, pureV, lenV, ofC, strip, lkT, lkH, ISt.app, opI, gO, gB, allB, gval, wrapG, dstOK, setD, lendV, lendP, lent, lentP, idsV, idsL, lkHS, flat, clean, callArgs, callFn, allLent, enumT, Op.operands, Call.operands, List.append_toArray, reduceIte, reduceCtorEq, cond_true, Bool.or_false, Bool.not_true, Nat.reduceLT, Nat.reduceEqDiff, ne_eq, not_false_eq_true, true_and, and_self, implies_true, List.map_cons, List.map_nil, List.nil_append, List.cons_append, List.append_nil, ex_clo, or_self, tab23, hN, isPs_enc, toPs_enc, lk_impl_convex_impl_simple, sp_impl_simple, el, h1]
    refine V_loop (α := Nat) ⟨tabOK, mixed, gok_impl_convex, hok_impl_convex⟩ (by kernel_rfl) (fun i => i ≤ l.length ∧ ∀ j, j < i → 0 < turnAt l j) (fun i => ⟨[(9, .num .i64 i), (8, .num .i64 l.length), (0, .sl 2 (encPs l))], []⟩) (fun i => l.length - i) 0 id ⟨Nat.zero_le _, fun j h => absurd h (Nat.not_lt_zero j)⟩ (by simp [SLe, SLe0, convTm, convHp, conv, conv0, lkT, lkH, clean]) ?_
    rintro i ⟨hi, hj⟩
    simp only [V_seq, V_region, V_cond, W_nil, W_cons, effOp2, KN_seq, asB, effOp, effPure, pureV, binV, strip, lkT, ISt.app, opI, gO, gB, allB, gval, wrapG, dstOK, setD, Op.operands, reduceIte, reduceCtorEq, Nat.reduceLT, Nat.reduceEqDiff, true_and, and_self, implies_true, List.nil_append, List.cons_append, List.append_nil, hN]
    refine brW_some (fun h => ?_) (fun h => ?_)
    · have hi' : i < l.length := by simpa using h
      have n1 : (i + 1) % l.length < l.length := Nat.mod_lt _ (by omega)
      have n2 : (i + 2) % l.length < l.length := Nat.mod_lt _ (by omega)
      have g0 := getD_encPs hi'
      have g1 := getD_encPs n1
      have g2 := getD_encPs n2
      have hw := wr_succ hi' (by rw [maxLen_eq]; omega)
      have hw2 : IntKind.i64.wrap ((i : Int) + 2) = ((i + 2 : Nat) : Int) := by rw [wr (by omega) (by omega)]; omega
      have t1 : ((i + 1 : Nat) : Int).tmod (l.length : Int) = (((i + 1) % l.length : Nat) : Int) := by rw [Int.tmod_eq_emod_of_nonneg (by omega)]; simp
      have t2 : ((i + 2 : Nat) : Int).tmod (l.length : Int) = (((i + 2) % l.length : Nat) : Int) := by rw [Int.tmod_eq_emod_of_nonneg (by omega)]; simp
      have s1 := hm.at i
      have s2 := hm.at ((i + 1) % l.length)
      have s3 := hm.at ((i + 2) % l.length)
      have ht : turn (pAt l i) (pAt l ((i + 1) % l.length)) (pAt l ((i + 2) % l.length)) = turnAt l i := rfl
      cases c1 : decide (turnAt l i ≤ 0) with
      | true =>
        have hno := lefts_no hi' (of_decide_eq_true c1)
        rw [hno] at hv
        simp only [V_seq, V_skip, V_ret, V_block, V_region, V_draw, V_cond, brW_true, drawW, WS_nil, pairsOf, W_nil, W_cons, effOp2, effOp3, WI_nil, WI_cons, KN_seq, KXr_nil, KXr_seq, KXr_block, KXr_back, QE, dynOK, indB, farB, freshB, heapy, asB, effOp, effPure, effCall, giveUp, hasAll, pureV, binV, partV, eltV, loadV, iaddrV, lenV, ofC, strip, lkT, lkH, ISt.app, opI, gO, gB, allB, gval, wrapG, dstOK, setD, mentTm, mentHp, IV.ment, lendV, lendP, lent, lentP, idsV, idsL, lkHS, flat, clean, callArgs, callFn, allLent, Gives, Ideal.Fin, conv, conv0, Op.operands, Call.operands, List.append_toArray, reduceIte, reduceCtorEq, cond_true, cond_false, Bool.or_false, Bool.and_true, Bool.and_eq_true, Bool.not_true, Bool.not_false, Nat.reduceAdd, Nat.reduceLT, Nat.reduceLeDiff, Nat.reduceEqDiff, Nat.reduceBEq, Nat.zero_add, ne_eq, not_false_eq_true, true_and, and_true, and_false, and_self, implies_true, forall_const, List.map_cons, List.map_nil, List.nil_append, List.cons_append, List.append_nil, List.getD_cons_zero, List.getD_cons_succ, List.length_cons, List.length_nil, List.take_succ_cons, List.take_zero, List.take_nil, List.drop_zero, ex_clo, or_self, tab23, tab30, hN, pe, Int.toNat_natCast, lk_impl_convex_impl_turn, sp_impl_turn, el, g0, g1, g2, hw, hw2, t1, t2, s1, s2, s3, ht, c1, hv]
        repeat refine And.intro (by first | omega | (simp; done) | (simp; omega)) ?_
        try omega
      | false =>
        have hst := lt_step (P := fun j => 0 < turnAt l j) hj (show 0 < turnAt l i by have := of_decide_eq_false c1; omega)
        simp only [V_seq, V_skip, V_block, V_region, V_draw, V_cond, brW_false, drawW, WS_nil, pairsOf, W_nil, W_cons, effOp2, effOp3, WI_nil, WI_cons, KN_seq, KN_block, KN_back, dynOK, indB, farB, freshB, heapy, asB, effOp, effPure, effCall, giveUp, hasAll, pureV, binV, partV, eltV, loadV, iaddrV, lenV, ofC, strip, lkT, lkH, ISt.app, opI, gO, gB, allB, gval, wrapG, dstOK, setD, mentTm, mentHp, IV.ment, lendV, lendP, lent, lentP, idsV, idsL, lkHS, flat, clean, callArgs, callFn, allLent, Op.operands, Call.operands, List.append_toArray, reduceIte, reduceCtorEq, cond_true, cond_false, Bool.or_false, Bool.and_true, Bool.and_eq_true, Bool.not_true, Bool.not_false, Nat.reduceAdd, Nat.reduceLT, Nat.reduceLeDiff, Nat.reduceEqDiff, Nat.reduceBEq, Nat.zero_add, ne_eq, not_false_eq_true, true_and, and_true, and_false, and_self, implies_true, forall_const, List.map_cons, List.map_nil, List.nil_append, List.cons_append, List.append_nil, List.getD_cons_zero, List.getD_cons_succ, List.length_cons, List.length_nil, List.take_succ_cons, List.take_zero, List.take_nil, List.drop_zero, ex_clo, or_self, tab23, tab30, hN, pe, Int.toNat_natCast, lk_impl_convex_impl_turn, sp_impl_turn, el, g0, g1, g2, hw, hw2, t1, t2, s1, s2, s3, ht, c1]
        repeat refine And.intro (by first | omega | (simp; done) | (simp; omega)) ?_
        exact ⟨i + 1, id, ⟨by omega, hst⟩, by simp only []; omega, by simp [SLe, SLe0, convTm, convHp, conv, conv0, lkT, lkH, clean]⟩
    · have hie : i = l.length := by simp at h; omega
      subst hie
      rw [lefts_iff.2 hj] at hv
      simp only [V_seq, V_ret, V_exit, V_region, W_nil, W_cons, effOp2, KN_seq, KXr_nil, KXe_nil, KXe_seq, KXe_block, KXe_back, QE, effOp, effPure, pureV, ofC, strip, lkT, lkH, ISt.app, opI, gO, gB, allB, gval, wrapG, dstOK, setD, clean, Gives, Ideal.Fin, conv, conv0, Op.operands, reduceIte, reduceCtorEq, Nat.reduceLT, Nat.reduceEqDiff, and_self, implies_true, List.nil_append, List.cons_append, List.append_nil, hN, hv]
def sp_impl_convex : PSpec := ⟨fun xs => match xs with | [.sl 2 les] => isPs les | _ => False, fun xs => match xs with | [.sl _ les] => (fun (l : List Pt) => .bool (cvxB l)) (toPs les) | _ => .junk, false⟩
theorem gk_impl_convex : ∀ args, sp_impl_convex.pre args → ICall Try.prog 95 args (sp_impl_convex.val args) := by
  intro args h
  unfold sp_impl_convex at h ⊢; simp only at h ⊢; split at h
  · have h0 := h
    obtain ⟨l0, rfl⟩ := isP_ex h0
    simp only [toPs_enc] at *
    exact c_impl_convex _ 
  · exact h.elim
theorem en_impl_convex : Enters Try.prog 95 := enters_of Try.func95 (by kernel_rfl) rfl

def g_impl_IsConvex : List (Nat × PSpec) := [(95, sp_impl_convex)]
theorem gok_impl_IsConvex : GOK Try.prog g_impl_IsConvex := gok_cons gk_impl_convex en_impl_convex (gok0)
theorem lk_impl_IsConvex_impl_convex : lkG g_impl_IsConvex 95 = sp_impl_convex := rfl
def h_impl_IsConvex : List (Nat × HSpec) := []
theorem hok_impl_IsConvex : HOK Try.prog h_impl_IsConvex := hok0
theorem c_impl_IsConvex (l : List Pt)  : ICall Try.prog 37 [.sl 2 (encPs l)] (.bool (cvxB l)) := by
  refine icall_V (G := g_impl_IsConvex) (H := []) [] tabOK mixed gok_impl_IsConvex hok_impl_IsConvex Try.func37 rfl Try.ntmps37 Try.results37 rfl (by kernel_rfl) fun F hN hlen => ?_
  simp only [V_seq, V_ret, V_region, W_nil, W_cons, effOp2, KN_seq, KXr_nil, QE, effOp, effPure, effCall, giveUp, hasAll, pureV, ofC, strip, lkT, lkH, ISt.app, opI, gO, gB, allB, gval, wrapG, dstOK, setD, lendV, lendP, lent, lentP, idsV, idsL, lkHS, flat, clean, callArgs, callFn, allLent, enumT, Gives, Ideal.Fin, conv, conv0, Op.operands, reduceIte, reduceCtorEq, cond_true, Bool.or_false, Bool.not_true, Nat.reduceLT, Nat.reduceEqDiff, and_self, implies_true, List.map_cons, List.map_nil, List.nil_append, List.cons_append, List.append_nil, ex_clo, or_self, hN, isPs_enc, toPs_enc, lk_impl_IsConvex_impl_convex, sp_impl_convex]
def sp_impl_IsConvex : PSpec := ⟨fun xs => match xs with | [.sl 2 les] => isPs les | _ => False, fun xs => match xs with | [.sl _ les] => (fun (l : List Pt) => .bool (cvxB l)) (toPs les) | _ => .junk, false⟩
theorem gk_impl_IsConvex : ∀ args, sp_impl_IsConvex.pre args → ICall Try.prog 37 args (sp_impl_IsConvex.val args) := by
  intro args h
  unfold sp_impl_IsConvex at h ⊢; simp only at h ⊢; split at h
  · have h0 := h
    obtain ⟨l0, rfl⟩ := isP_ex h0
    simp only [toPs_enc] at *
    exact c_impl_IsConvex _ 
  · exact h.elim
theorem en_impl_IsConvex : Enters Try.prog 37 := enters_of Try.func37 (by kernel_rfl) rfl


theorem least_bd (l : List Pt) (q : Pt) : ∀ i, -1 ≤ leastN l q i ∧ leastN l q i ≤ 1
  | 0 => by simp [leastN]
  | i + 1 => by
    have h1 := least_bd l q i
    have h2 := sgn_bd (turn (edP l i).1 (edP l i).2 q)
    rw [leastN]; omega
/-- Where a point is of a convex polygon. -/
def lcB (l : List Pt) (q : Pt) : Int := bif cvxB l && okP q then leastN l q l.length else 2

theorem latt_bd {l : List Pt} (hm : SmL l) : ∀ i : Nat, 0 ≤ lattN l i ∧ lattN l i ≤ 200000 * (i : Int)
  | 0 => by simp [lattN]
  | i + 1 => by
    have h1 := latt_bd hm i
    have s1 := hm.at i
    have s2 := hm.at ((i + 1) % l.length)
    have h2 := gcd_bd (A := 200000) (sm_sub s2.1 s1.1) (sm_sub s2.2 s1.2)
    have e : lattN l (i + 1) = lattN l i + ((Int.gcd ((pAt l ((i + 1) % l.length)).1 - (pAt l i).1) ((pAt l ((i + 1) % l.length)).2 - (pAt l i).2) : Nat) : Int) := rfl
    rw [e]; omega


/-- Twice the area of a simple polygon. -/
def dareaP (l : List Pt) : Int := bif simpB l then areaP l else 0
def g_impl_DoubleArea : List (Nat × PSpec) := [(92, sp_impl_simple), (93, sp_impl_area)]
theorem gok_impl_DoubleArea : GOK Try.prog g_impl_DoubleArea := gok_cons gk_impl_simple en_impl_simple (gok_cons gk_impl_area en_impl_area (gok0))
theorem lk_impl_DoubleArea_impl_simple : lkG g_impl_DoubleArea 92 = sp_impl_simple := rfl
theorem lk_impl_DoubleArea_impl_area : lkG g_impl_DoubleArea 93 = sp_impl_area := rfl
def h_impl_DoubleArea : List (Nat × HSpec) := []
theorem hok_impl_DoubleArea : HOK Try.prog h_impl_DoubleArea := hok0
theorem c_impl_DoubleArea (l : List Pt)  : ICall Try.prog 35 [.sl 2 (encPs l)] (.num .i64 (dareaP l)) := by
  refine icall_V (G := g_impl_DoubleArea) (H := []) [] tabOK mixed gok_impl_DoubleArea hok_impl_DoubleArea Try.func35 rfl Try.ntmps35 Try.results35 rfl (by kernel_rfl) fun F hN hlen => ?_
  have hv : dareaP l = bif simpB l then areaP l else 0 := rfl
  cases h1 : simpB l with
  | false =>
    rw [h1, cond_false] at hv
    simp only [V_seq, V_ret, V_region, V_cond, brW_true, W_nil, W_cons, effOp2, KN_seq, KXr_nil, KXr_seq, QE, asB, effOp, effPure, effCall, giveUp, hasAll, pureV, ofC, strip, lkT, lkH, ISt.app, opI, gO, gB, allB, gval, wrapG, dstOK, setD, lendV, lendP, lent, lentP, idsV, idsL, lkHS, flat, clean, callArgs, callFn, allLent, enumT, Gives, Ideal.Fin, conv, conv0, Op.operands, reduceIte, reduceCtorEq, cond_true, Bool.or_false, Bool.not_true, Bool.not_false, Nat.reduceLT, Nat.reduceEqDiff, and_self, implies_true, List.map_cons, List.map_nil, List.nil_append, List.cons_append, List.append_nil, ex_clo, or_self, hN, isPs_enc, toPs_enc, lk_impl_DoubleArea_impl_simple, sp_impl_simple, h1, hv]
  | true =>
    obtain ⟨hk, h3, h20, hnd⟩ := ring_facts (simp_ring h1)
    have hm := okPs_sm hk
    have hz : l.length ≤ 1000000 := by omega
    rw [h1, cond_true] at hv
    simp only [V_seq, V_skip, V_ret, V_region, V_cond, brW_false, W_nil, W_cons, effOp2, KN_seq, KXr_nil, QE, asB, effOp, effPure, effCall, giveUp, hasAll, pureV, ofC, strip, lkT, lkH, ISt.app, opI, gO, gB, allB, gval, wrapG, dstOK, setD, lendV, lendP, lent, lentP, idsV, idsL, lkHS, flat, clean, callArgs, callFn, allLent, enumT, Gives, Ideal.Fin, conv, conv0, Op.operands, reduceIte, reduceCtorEq, cond_true, Bool.or_false, Bool.not_true, Nat.reduceLT, Nat.reduceEqDiff, and_self, implies_true, List.map_cons, List.map_nil, List.nil_append, List.cons_append, List.append_nil, ex_clo, or_self, hN, isPs_enc, toPs_enc, lk_impl_DoubleArea_impl_simple, lk_impl_DoubleArea_impl_area, sp_impl_simple, sp_impl_area, h1, hm, hz, hv]
def sp_impl_DoubleArea : PSpec := ⟨fun xs => match xs with | [.sl 2 les] => isPs les | _ => False, fun xs => match xs with | [.sl _ les] => (fun (l : List Pt) => .num .i64 (dareaP l)) (toPs les) | _ => .junk, false⟩
theorem gk_impl_DoubleArea : ∀ args, sp_impl_DoubleArea.pre args → ICall Try.prog 35 args (sp_impl_DoubleArea.val args) := by
  intro args h
  unfold sp_impl_DoubleArea at h ⊢; simp only at h ⊢; split at h
  · have h0 := h
    obtain ⟨l0, rfl⟩ := isP_ex h0
    simp only [toPs_enc] at *
    exact c_impl_DoubleArea _ 
  · exact h.elim
theorem en_impl_DoubleArea : Enters Try.prog 35 := enters_of Try.func35 (by kernel_rfl) rfl

/-- The count of lattice points on the boundary. -/
def bcP (l : List Pt) : Int := bif simpB l then lattP l else -1
/-- The count of lattice points inside. -/
def insideP (l : List Pt) : Int := (absI (areaP l) - lattP l + 2).tdiv 2
def icP (l : List Pt) : Int := bif simpB l then insideP l else -1

end Go.Proofs.Ytlifmigihfancaa
