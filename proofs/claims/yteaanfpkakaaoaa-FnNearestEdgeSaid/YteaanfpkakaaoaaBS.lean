/- Contracts: points in order, each once. -/
import Derived.Test.YteaanfpkakaaoaaB4
import Derived.Test.YteaanfpkakaaoaaB8
import Derived.Test.YteaanfpkakaaoaaPl10
set_option linter.unusedVariables false
set_option linter.unusedSimpArgs false
set_option maxHeartbeats 1600000
set_option maxRecDepth 100000
namespace Go.Proofs.Yteaanfpkakaaoaa
open Go Go.Ideal Go.Pl Go.Sort

theorem lt_stepS {P : Nat → Prop} {k : Nat} (h : ∀ c, c < k → P c) (h2 : P k) : ∀ c, c < k + 1 → P c := fun c hc => by
  rcases Nat.lt_or_ge c k with q | q
  · exact h c q
  · rw [show c = k by omega]; exact h2
/-- Are the points in order, each once, all valid? -/
def siteB (l : List Pt) : Bool := okPs l && (l == insP l)
def g_slices_Equal_impl_Point_impl_Point : List (Nat × PSpec) := []
theorem gok_slices_Equal_impl_Point_impl_Point : GOK Try.prog g_slices_Equal_impl_Point_impl_Point := gok0
def h_slices_Equal_impl_Point_impl_Point : List (Nat × HSpec) := []
theorem hok_slices_Equal_impl_Point_impl_Point : HOK Try.prog h_slices_Equal_impl_Point_impl_Point := hok0
theorem c_slices_Equal_impl_Point_impl_Point (a : List Pt) (b : List Pt)  : ICall Try.prog 46 [.sl 2 (encPs a), .sl 2 (encPs b)] (.bool (a == b)) := by
  refine icall_V (G := g_slices_Equal_impl_Point_impl_Point) (H := []) [] tabOK mixed gok_slices_Equal_impl_Point_impl_Point hok_slices_Equal_impl_Point_impl_Point Try.func46 rfl Try.ntmps46 Try.results46 rfl (by kernel_rfl) fun F hN hlen => ?_
  have la := hlen 0 2 _ rfl
  have ea := len_encPs a
  have eb := len_encPs b
  rw [ea] at la
  simp only [V_seq, V_region, V_cond, W_nil, W_cons, effOp2, KN_seq, asB, effOp, effPure, pureV, binV, lenV, ofC, strip, lkT, ISt.app, opI, gO, gB, allB, gval, wrapG, dstOK, setD, enumT, Op.operands, Call.operands, List.append_toArray, reduceIte, reduceCtorEq, Nat.reduceLT, Nat.reduceEqDiff, Nat.zero_add, ne_eq, not_false_eq_true, true_and, and_self, implies_true, List.nil_append, List.cons_append, List.append_nil, tab23, hN, ea, eb]
  refine brW_some (fun h => ?_) (fun h => ?_)
  · simp only [V_seq, V_ret, V_region, W_nil, W_cons, effOp2, KN_seq, KXr_nil, KXr_seq, QE, effOp, effPure, pureV, ofC, strip, lkT, lkH, ISt.app, opI, gO, gB, allB, gval, wrapG, dstOK, setD, clean, Gives, Ideal.Fin, conv, conv0, Op.operands, reduceIte, reduceCtorEq, Nat.reduceLT, Nat.reduceEqDiff, true_and, and_true, and_self, implies_true, List.nil_append, List.cons_append, List.append_nil, hN]
    have : a ≠ b := by rintro rfl; simp at h
    simp [this]
  · simp only [V_seq, V_skip, V_block, V_region, W_nil, W_cons, effOp2, KN_seq, effOp, effPure, pureV, lenV, ofC, strip, lkT, ISt.app, opI, gO, gB, allB, gval, wrapG, dstOK, setD, Op.operands, Call.operands, List.append_toArray, reduceIte, reduceCtorEq, Nat.reduceLT, Nat.reduceEqDiff, ne_eq, not_false_eq_true, true_and, and_self, implies_true, List.nil_append, List.cons_append, List.append_nil, tab23, hN, ea]
    have hab : a.length = b.length := by simp at h; omega
    refine V_loop (α := Nat) ⟨tabOK, mixed, gok_slices_Equal_impl_Point_impl_Point, hok_slices_Equal_impl_Point_impl_Point⟩ (by kernel_rfl) (fun i => i ≤ a.length ∧ ∀ j, j < i → pAt a j = pAt b j) (fun i => ⟨[(13, .num .i64 i), (12, .num .i64 a.length), (0, .sl 2 (encPs a)), (1, .sl 2 (encPs b))], []⟩) (fun i => a.length - i) 0 id (by simp) (by simp [SLe, SLe0, convTm, convHp, conv, conv0, lkT, lkH, clean]) ?_
    rintro i ⟨hi, hj⟩
    simp only [V_seq, V_region, V_cond, W_nil, W_cons, effOp2, KN_seq, asB, effOp, effPure, pureV, binV, strip, lkT, ISt.app, opI, gO, gB, allB, gval, wrapG, dstOK, setD, Op.operands, reduceIte, reduceCtorEq, Nat.reduceLT, Nat.reduceEqDiff, true_and, and_self, implies_true, List.nil_append, List.cons_append, List.append_nil, hN]
    refine brW_some (fun h => ?_) (fun h => ?_)
    · have hi' : i < a.length := by simpa using h
      have g1 := getD_encPs hi'
      have g2 := getD_encPs (hab ▸ hi' : i < b.length)
      have hw := wr_succ hi' la
      cases c1 : ((pAt a i).1 == (pAt b i).1 && (pAt a i).2 == (pAt b i).2) with
      | true =>
        have hp : pAt a i = pAt b i := by
          simp only [Bool.and_eq_true, beq_iff_eq] at c1
          exact Prod.ext c1.1 c1.2
        simp only [V_seq, V_skip, V_block, V_region, V_draw, V_cond, brW_false, drawW, pairsOf, W_nil, W_cons, WD_nil, WD_cons, effOp2, effOp3, KN_seq, KN_block, KN_back, asB, effOp, effPure, pureV, binV, partV, eltV, loadV, iaddrV, ofC, strip, lkT, ISt.app, opI, gO, gB, allB, gval, wrapG, dstOK, setD, eqL, numsOnly, Op.operands, reduceIte, reduceCtorEq, Bool.and_true, Bool.not_true, Nat.reduceAdd, Nat.reduceLT, Nat.reduceLeDiff, Nat.reduceEqDiff, Nat.zero_add, ne_eq, not_false_eq_true, true_and, and_true, and_false, and_self, implies_true, forall_const, List.nil_append, List.cons_append, List.append_nil, List.getD_cons_zero, List.length_cons, List.length_nil, List.take_succ_cons, List.take_nil, List.drop_zero, tab23, tab34, hN, Int.toNat_natCast, ea, eb, g1, g2, hw, c1]
        repeat refine And.intro (by first | omega | (simp; done) | (simp; omega)) ?_
        exact ⟨i + 1, id, ⟨by omega, lt_stepS hj hp⟩, by simp only []; omega, by simp [SLe, SLe0, convTm, convHp, conv, conv0, lkT, lkH, clean]⟩
      | false =>
        have hne : (a == b) = false := by
          cases hq : (a == b) with
          | false => rfl
          | true => rw [beq_iff_eq] at hq; subst hq; simp at c1
        simp only [V_seq, V_skip, V_ret, V_block, V_region, V_draw, V_cond, brW_true, drawW, pairsOf, W_nil, W_cons, WD_nil, WD_cons, effOp2, effOp3, KN_seq, KXr_nil, KXr_seq, KXr_block, KXr_back, QE, asB, effOp, effPure, pureV, binV, partV, eltV, loadV, iaddrV, ofC, strip, lkT, lkH, ISt.app, opI, gO, gB, allB, gval, wrapG, dstOK, setD, clean, Gives, Ideal.Fin, conv, conv0, eqL, numsOnly, Op.operands, reduceIte, reduceCtorEq, Bool.and_true, Bool.not_false, Nat.reduceAdd, Nat.reduceLT, Nat.reduceLeDiff, Nat.reduceEqDiff, Nat.zero_add, ne_eq, not_false_eq_true, true_and, and_true, and_false, and_self, implies_true, forall_const, List.nil_append, List.cons_append, List.append_nil, List.getD_cons_zero, List.length_cons, List.length_nil, List.take_succ_cons, List.take_nil, List.drop_zero, tab23, tab34, hN, Int.toNat_natCast, ea, eb, g1, g2, c1, hne]
        omega
    · simp only [V_seq, V_ret, V_exit, V_region, W_nil, W_cons, effOp2, KN_seq, KXr_nil, KXe_nil, KXe_seq, KXe_block, KXe_back, QE, effOp, effPure, pureV, ofC, strip, lkT, lkH, ISt.app, opI, gO, gB, allB, gval, wrapG, dstOK, setD, clean, Gives, Ideal.Fin, conv, conv0, Op.operands, reduceIte, reduceCtorEq, Nat.reduceLT, Nat.reduceEqDiff, true_and, and_true, and_self, implies_true, List.nil_append, List.cons_append, List.append_nil, hN]
      have hie : i = a.length := by simp at h; omega
      have : a = b := eq_of_getD hab (fun j h' => hj j (by omega))
      simp [this]
def sp_slices_Equal_impl_Point_impl_Point : PSpec := ⟨fun xs => match xs with | [.sl 2 aes, .sl 2 bes] => isPs aes ∧ isPs bes | _ => False, fun xs => match xs with | [.sl _ aes, .sl _ bes] => (fun (a : List Pt) (b : List Pt) => .bool (a == b)) (toPs aes) (toPs bes) | _ => .junk, false⟩
theorem gk_slices_Equal_impl_Point_impl_Point : ∀ args, sp_slices_Equal_impl_Point_impl_Point.pre args → ICall Try.prog 46 args (sp_slices_Equal_impl_Point_impl_Point.val args) := by
  intro args h
  unfold sp_slices_Equal_impl_Point_impl_Point at h ⊢; simp only at h ⊢; split at h
  · obtain ⟨h0, h1⟩ := h
    obtain ⟨l0, rfl⟩ := isP_ex h0
    obtain ⟨l1, rfl⟩ := isP_ex h1
    simp only [toPs_enc] at *
    exact c_slices_Equal_impl_Point_impl_Point _ _ 
  · exact h.elim
theorem en_slices_Equal_impl_Point_impl_Point : Enters Try.prog 46 := enters_of Try.func46 (by kernel_rfl) rfl

def g_impl_ordered : List (Nat × PSpec) := [(28, sp_impl_listOk), (47, sp_impl_sorted_v), (46, sp_slices_Equal_impl_Point_impl_Point)]
theorem gok_impl_ordered : GOK Try.prog g_impl_ordered := gok_cons gk_impl_listOk en_impl_listOk (gok_cons gk_impl_sorted_v en_impl_sorted_v (gok_cons gk_slices_Equal_impl_Point_impl_Point en_slices_Equal_impl_Point_impl_Point (gok0)))
theorem lk_impl_ordered_impl_listOk : lkG g_impl_ordered 28 = sp_impl_listOk := rfl
theorem lk_impl_ordered_impl_sorted_v : lkG g_impl_ordered 47 = sp_impl_sorted_v := rfl
theorem lk_impl_ordered_slices_Equal_impl_Point_impl_Point : lkG g_impl_ordered 46 = sp_slices_Equal_impl_Point_impl_Point := rfl
def h_impl_ordered : List (Nat × HSpec) := []
theorem hok_impl_ordered : HOK Try.prog h_impl_ordered := hok0
theorem c_impl_ordered (l : List Pt)  : ICall Try.prog 22 [.sl 2 (encPs l)] (.bool (siteB l)) := by
  refine icall_V (G := g_impl_ordered) (H := []) [] tabOK mixed gok_impl_ordered hok_impl_ordered Try.func22 rfl Try.ntmps22 Try.results22 rfl (by kernel_rfl) fun F hN hlen => ?_
  have hv : siteB l = (okPs l && (l == insP l)) := rfl
  cases h1 : okPs l with
  | false =>
    rw [h1] at hv
    simp only [V_seq, V_ret, V_region, W_nil, W_cons, effOp2, KN_seq, KXr_nil, QE, effOp, effPure, effPick, effCall, giveUp, hasAll, pureV, pickV, ofC, strip, lkT, lkH, ISt.app, opI, gO, gB, allB, gval, wrapG, dstOK, setD, lendV, lendP, lent, lentP, idsV, idsL, lkHS, flat, clean, callArgs, callFn, allLent, enumT, Gives, Ideal.Fin, conv, conv0, Op.operands, reduceIte, reduceCtorEq, cond_true, cond_false, Bool.or_false, Bool.or_true, Bool.false_and, Bool.not_true, Bool.not_false, Nat.reduceLT, Nat.reduceEqDiff, true_and, and_true, false_and, and_false, and_self, false_implies, implies_true, List.map_cons, List.map_nil, List.nil_append, List.cons_append, List.append_nil, Option.bind_some, List.getElem?_cons_zero, List.getElem?_cons_succ, ex_clo, bft, or_true, or_self, Bool.false_eq_true, hN, isPs_enc, toPs_enc, lk_impl_ordered_impl_listOk, lk_impl_ordered_impl_sorted_v, lk_impl_ordered_slices_Equal_impl_Point_impl_Point, sp_impl_listOk, sp_impl_sorted_v, sp_slices_Equal_impl_Point_impl_Point, h1, hv]
  | true =>
    have hn := okPs_len h1
    have hz : l.length ≤ 1000000 := by omega
    rw [h1] at hv
    simp only [V_seq, V_ret, V_region, W_nil, W_cons, effOp2, KN_seq, KXr_nil, QE, effOp, effPure, effPick, effCall, giveUp, hasAll, pureV, pickV, ofC, strip, lkT, lkH, ISt.app, opI, gO, gB, allB, gval, wrapG, dstOK, setD, lendV, lendP, lent, lentP, idsV, idsL, lkHS, flat, clean, callArgs, callFn, allLent, enumT, Gives, Ideal.Fin, conv, conv0, Op.operands, reduceIte, reduceCtorEq, cond_true, cond_false, Bool.or_false, Bool.true_and, Bool.not_true, Nat.reduceLT, Nat.reduceEqDiff, beq_self_eq_true, and_self, implies_true, List.map_cons, List.map_nil, List.nil_append, List.cons_append, List.append_nil, Option.bind_some, List.getElem?_cons_zero, List.getElem?_cons_succ, ex_clo, or_true, or_self, Bool.true_eq_false, Bool.false_eq_true, hN, isPs_enc, toPs_enc, lk_impl_ordered_impl_listOk, lk_impl_ordered_impl_sorted_v, lk_impl_ordered_slices_Equal_impl_Point_impl_Point, sp_impl_listOk, sp_impl_sorted_v, sp_slices_Equal_impl_Point_impl_Point, h1, hz, hv]
def sp_impl_ordered : PSpec := ⟨fun xs => match xs with | [.sl 2 les] => isPs les | _ => False, fun xs => match xs with | [.sl _ les] => (fun (l : List Pt) => .bool (siteB l)) (toPs les) | _ => .junk, false⟩
theorem gk_impl_ordered : ∀ args, sp_impl_ordered.pre args → ICall Try.prog 22 args (sp_impl_ordered.val args) := by
  intro args h
  unfold sp_impl_ordered at h ⊢; simp only at h ⊢; split at h
  · have h0 := h
    obtain ⟨l0, rfl⟩ := isP_ex h0
    simp only [toPs_enc] at *
    exact c_impl_ordered _ 
  · exact h.elim
theorem en_impl_ordered : Enters Try.prog 22 := enters_of Try.func22 (by kernel_rfl) rfl


/-- The turn at three points, with overflow. -/
def crossW (a b c : Pt) : Int := IntKind.i64.wrap (IntKind.i64.wrap (IntKind.i64.wrap (b.1 - a.1) * IntKind.i64.wrap (c.2 - a.2)) - IntKind.i64.wrap (IntKind.i64.wrap (b.2 - a.2) * IntKind.i64.wrap (c.1 - a.1)))
theorem crossW_turn {a b c : Pt} (ha : Sm a) (hb : Sm b) (hc : Sm c) : crossW a b c = turn a b c := by
  have h1 := mulb (sm_sub hb.1 ha.1) (sm_sub hc.2 ha.2)
  have h2 := mulb (sm_sub hb.2 ha.2) (sm_sub hc.1 ha.1)
  have g1 := sm_sub hb.1 ha.1
  have g2 := sm_sub hc.2 ha.2
  have g3 := sm_sub hb.2 ha.2
  have g4 := sm_sub hc.1 ha.1
  unfold crossW turn
  rw [wr (x := b.1 - a.1) (by omega) (by omega), wr (x := c.2 - a.2) (by omega) (by omega), wr (x := b.2 - a.2) (by omega) (by omega), wr (x := c.1 - a.1) (by omega) (by omega), wr (x := (b.1 - a.1) * (c.2 - a.2)) (by omega) (by omega), wr (x := (b.2 - a.2) * (c.1 - a.1)) (by omega) (by omega), wr (by omega) (by omega)]
def g_spec_cross_w : List (Nat × PSpec) := []
theorem gok_spec_cross_w : GOK Try.prog g_spec_cross_w := gok0
def h_spec_cross_w : List (Nat × HSpec) := []
theorem hok_spec_cross_w : HOK Try.prog h_spec_cross_w := hok0
theorem c_spec_cross_w (a : Pt) (b : Pt) (c : Pt)  : ICall Try.prog 55 [encP a, encP b, encP c] (.num .i64 (crossW a b c)) := by
  refine icall_V (G := g_spec_cross_w) (H := []) [] tabOK mixed gok_spec_cross_w hok_spec_cross_w Try.func55 rfl Try.ntmps55 Try.results55 rfl (by kernel_rfl) fun F hN hlen => ?_
  have e : crossW a b c = IntKind.i64.wrap (IntKind.i64.wrap (IntKind.i64.wrap (b.1 - a.1) * IntKind.i64.wrap (c.2 - a.2)) - IntKind.i64.wrap (IntKind.i64.wrap (b.2 - a.2) * IntKind.i64.wrap (c.1 - a.1))) := rfl
  simp only [V_seq, V_ret, V_region, W_nil, W_cons, effOp2, KN_seq, KXr_nil, QE, effOp, effPure, effNew, effBox, skipE, pureV, binV, partV, loadV, faddrV, solid, IV.cells, ofC, strip, lkT, lkH, ISt.app, opI, gO, gB, allB, gval, wrapG, dstOK, setD, mentTm, mentHp, IV.ment, IV.mentL, oneI, clean, enumT, Gives, Ideal.Fin, conv, conv0, IBlk.shape, Op.operands, reduceIte, reduceCtorEq, cond_true, Bool.or_false, Bool.and_true, Nat.reduceAdd, Nat.reduceLT, Nat.reduceLeDiff, Nat.reduceEqDiff, Nat.reduceBEq, Nat.add_zero, Nat.zero_add, and_self, implies_true, List.nil_append, List.cons_append, List.append_nil, List.all_cons, List.all_nil, Option.map_some, List.getD_cons_zero, List.getD_cons_succ, List.length_cons, List.length_nil, List.take_succ_cons, List.take_zero, List.take_nil, List.drop_succ_cons, List.drop_zero, tab3, tab34, hN, encP, e]
def sp_spec_cross_w : PSpec := ⟨fun xs => match xs with | [.agg [.num .i64 a1, .num .i64 a2], .agg [.num .i64 b1, .num .i64 b2], .agg [.num .i64 c1, .num .i64 c2]] => True | _ => False, fun xs => match xs with | [.agg [.num _ a1, .num _ a2], .agg [.num _ b1, .num _ b2], .agg [.num _ c1, .num _ c2]] => (fun (a : Pt) (b : Pt) (c : Pt) => .num .i64 (crossW a b c)) (a1, a2) (b1, b2) (c1, c2) | _ => .junk, false⟩
theorem gk_spec_cross_w : ∀ args, sp_spec_cross_w.pre args → ICall Try.prog 55 args (sp_spec_cross_w.val args) := by
  intro args h
  unfold sp_spec_cross_w at h ⊢; simp only at h ⊢; split at h
  · exact c_spec_cross_w (_, _) (_, _) (_, _)
  · exact h.elim
theorem en_spec_cross_w : Enters Try.prog 55 := enters_of Try.func55 (by kernel_rfl) rfl

def g_spec_validSites : List (Nat × PSpec) := [(53, sp_spec_pointLess), (33, sp_spec_validPoints)]
theorem gok_spec_validSites : GOK Try.prog g_spec_validSites := gok_cons gk_spec_pointLess en_spec_pointLess (gok_cons gk_spec_validPoints en_spec_validPoints (gok0))
theorem lk_spec_validSites_spec_pointLess : lkG g_spec_validSites 53 = sp_spec_pointLess := rfl
theorem lk_spec_validSites_spec_validPoints : lkG g_spec_validSites 33 = sp_spec_validPoints := rfl
def h_spec_validSites : List (Nat × HSpec) := []
theorem hok_spec_validSites : HOK Try.prog h_spec_validSites := hok0
theorem c_spec_validSites (l : List Pt)  : ICall Try.prog 25 [.sl 2 (encPs l)] (.bool (siteB l)) := by
  refine icall_V (G := g_spec_validSites) (H := []) [(4, [(0, 9), (1, 9), (2, 9), (3, 9), (5, 9), (6, 9), (7, 9)])] tabOK mixed gok_spec_validSites hok_spec_validSites Try.func25 rfl Try.ntmps25 Try.results25 rfl (by kernel_rfl) fun F hN hlen => ?_
  have hl := hlen 0 2 _ rfl
  have el := len_encPs l
  rw [el] at hl
  have hv : siteB l = (okPs l && (l == insP l)) := rfl
  simp only [V_seq, V_block, V_region, W_nil, W_cons, effOp2, KN_seq, effOp, effPure, pureV, ofC, strip, ISt.app, opI, gO, gB, allB, gval, wrapG, dstOK, setD, enumT, Op.operands, Nat.reduceLT, true_and, and_self, implies_true, List.nil_append, List.cons_append, List.append_nil, hN]
  refine V_loop (α := Nat) ⟨tabOK, mixed, gok_spec_validSites, hok_spec_validSites⟩ (by kernel_rfl) (fun i => ∀ j, j < i → j + 1 < l.length → ltP (pAt l j) (pAt l (j + 1)) = true) (fun i => ⟨[(3, .num .i64 ((i + 1 : Nat) : Int)), (0, .sl 2 (encPs l))], []⟩) (fun i => l.length - i) 0 id (fun j h => absurd h (Nat.not_lt_zero j)) (by simp [SLe, SLe0, convTm, convHp, conv, conv0, lkT, lkH, clean]) ?_
  intro i hj
  simp only [V_seq, V_region, V_cond, W_nil, W_cons, effOp2, KN_seq, asB, effOp, effPure, pureV, binV, lenV, strip, lkT, ISt.app, opI, gO, gB, allB, gval, wrapG, dstOK, setD, Op.operands, Call.operands, List.append_toArray, reduceIte, reduceCtorEq, Nat.reduceLT, Nat.reduceEqDiff, ne_eq, not_false_eq_true, true_and, and_self, implies_true, List.nil_append, List.cons_append, List.append_nil, tab23, hN, el]
  refine brW_some (fun h => ?_) (fun h => ?_)
  · have hi' : i + 1 < l.length := by simp at h; omega
    have g0 := getD_encPs (show i < l.length by omega)
    have g1 := getD_encPs hi'
    have w1 : IntKind.i64.wrap (((i + 1 : Nat) : Int) - 1) = (i : Int) := by rw [maxLen_eq] at hl; rw [wr (by omega) (by omega)]; omega
    have w2 : IntKind.i64.wrap (((i + 1 : Nat) : Int) + 1) = ((i + 1 + 1 : Nat) : Int) := by rw [maxLen_eq] at hl; rw [wr (by omega) (by omega)]; omega
    cases c1 : ltP (pAt l i) (pAt l (i + 1)) with
    | true =>
      simp only [V_seq, V_skip, V_block, V_region, V_draw, V_cond, brW_false, drawW, WS_nil, pairsOf, W_nil, W_cons, effOp2, effOp3, WI_nil, WI_cons, KN_seq, KN_block, KN_back, dynOK, indB, farB, freshB, freshK, freshK1, heapy, asB, effOp, effPure, effCall, giveUp, hasAll, pureV, binV, partV, eltV, loadV, iaddrV, ofC, strip, lkT, lkH, ISt.app, opI, gO, gB, allB, gval, wrapG, dstOK, setD, mentTm, mentHp, IV.ment, lendV, lendP, lent, lentP, idsV, idsL, lkHS, flat, clean, callArgs, callFn, allLent, Op.operands, Call.operands, List.append_toArray, reduceIte, reduceCtorEq, cond_true, cond_false, Bool.or_false, Bool.and_true, Bool.and_eq_true, Bool.not_true, Bool.not_false, Nat.reduceAdd, Nat.reduceLT, Nat.reduceLeDiff, Nat.reduceEqDiff, Nat.reduceBEq, Nat.zero_add, ne_eq, not_false_eq_true, true_and, and_true, and_false, and_self, implies_true, forall_const, List.map_cons, List.map_nil, List.nil_append, List.cons_append, List.append_nil, List.getD_cons_zero, List.getD_cons_succ, List.length_cons, List.length_nil, List.take_succ_cons, List.take_zero, List.take_nil, List.drop_zero, ex_clo, or_self, tab23, tab34, hN, pe, Int.toNat_natCast, lk_spec_validSites_spec_pointLess, sp_spec_pointLess, el, g0, g1, w1, w2, c1]
      repeat refine And.intro (by first | omega | (simp; done) | (simp; omega)) ?_
      exact ⟨i + 1, id, lt_stepS hj (fun _ => c1), by simp only []; omega, by simp [SLe, SLe0, convTm, convHp, conv, conv0, lkT, lkH, clean]⟩
    | false =>
      have hne : (l == insP l) = false := by
        cases hq : (l == insP l) with
        | false => rfl
        | true =>
          have := adj_of_asc (asc_ins.1 (by simpa using hq)) hi'
          rw [c1] at this; cases this
      rw [hne, Bool.and_false] at hv
      simp only [V_seq, V_skip, V_ret, V_block, V_region, V_draw, V_cond, brW_true, drawW, WS_nil, pairsOf, W_nil, W_cons, effOp2, effOp3, WI_nil, WI_cons, KN_seq, KXr_nil, KXr_seq, KXr_block, KXr_back, QE, dynOK, indB, farB, freshB, freshK, freshK1, heapy, asB, effOp, effPure, effCall, giveUp, hasAll, pureV, binV, partV, eltV, loadV, iaddrV, ofC, strip, lkT, lkH, ISt.app, opI, gO, gB, allB, gval, wrapG, dstOK, setD, mentTm, mentHp, IV.ment, lendV, lendP, lent, lentP, idsV, idsL, lkHS, flat, clean, callArgs, callFn, allLent, Gives, Ideal.Fin, conv, conv0, Op.operands, Call.operands, List.append_toArray, reduceIte, reduceCtorEq, cond_true, cond_false, Bool.or_false, Bool.and_true, Bool.and_eq_true, Bool.not_true, Bool.not_false, Nat.reduceAdd, Nat.reduceLT, Nat.reduceLeDiff, Nat.reduceEqDiff, Nat.reduceBEq, Nat.zero_add, ne_eq, not_false_eq_true, true_and, and_true, and_false, and_self, implies_true, forall_const, List.map_cons, List.map_nil, List.nil_append, List.cons_append, List.append_nil, List.getD_cons_zero, List.getD_cons_succ, List.length_cons, List.length_nil, List.take_succ_cons, List.take_zero, List.take_nil, List.drop_zero, ex_clo, or_self, tab23, tab34, hN, pe, Int.toNat_natCast, lk_spec_validSites_spec_pointLess, sp_spec_pointLess, el, g0, g1, w1, c1, hv]
      omega
  · have hie : l.length ≤ i + 1 := by simp at h; omega
    have hasc : (l == insP l) = true := by
      rw [beq_iff_eq]
      exact asc_ins.2 (asc_of_adj fun j h2 => hj j (by omega) h2)
    rw [hasc, Bool.and_true] at hv
    simp only [V_seq, V_ret, V_exit, V_region, W_nil, W_cons, effOp2, KN_seq, KXr_nil, KXe_nil, KXe_seq, KXe_block, KXe_back, QE, effOp, effPure, effCall, giveUp, hasAll, pureV, strip, lkT, lkH, ISt.app, opI, gO, gB, allB, gval, wrapG, dstOK, setD, lendV, lendP, lent, lentP, idsV, idsL, lkHS, flat, clean, callArgs, callFn, allLent, Gives, Ideal.Fin, conv, conv0, Op.operands, reduceIte, reduceCtorEq, cond_true, Bool.or_false, Bool.not_true, Nat.reduceLT, Nat.reduceEqDiff, and_self, implies_true, List.map_cons, List.map_nil, List.nil_append, List.cons_append, List.append_nil, ex_clo, or_self, hN, isPs_enc, toPs_enc, lk_spec_validSites_spec_validPoints, sp_spec_validPoints, hv]
def sp_spec_validSites : PSpec := ⟨fun xs => match xs with | [.sl 2 les] => isPs les | _ => False, fun xs => match xs with | [.sl _ les] => (fun (l : List Pt) => .bool (siteB l)) (toPs les) | _ => .junk, false⟩
theorem gk_spec_validSites : ∀ args, sp_spec_validSites.pre args → ICall Try.prog 25 args (sp_spec_validSites.val args) := by
  intro args h
  unfold sp_spec_validSites at h ⊢; simp only at h ⊢; split at h
  · have h0 := h
    obtain ⟨l0, rfl⟩ := isP_ex h0
    simp only [toPs_enc] at *
    exact c_spec_validSites _ 
  · exact h.elim
theorem en_spec_validSites : Enters Try.prog 25 := enters_of Try.func25 (by kernel_rfl) rfl


end Go.Proofs.Yteaanfpkakaaoaa
